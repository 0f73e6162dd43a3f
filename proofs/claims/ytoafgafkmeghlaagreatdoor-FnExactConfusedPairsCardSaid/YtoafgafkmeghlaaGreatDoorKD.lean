/- Contracts: the place of an aid; the pairs that are not confused. -/
import Derived.Test.YtoafgafkmeghlaaGreatDoorKB
import Derived.Test.YtoafgafkmeghlaaGreatDoorFC
import Derived.Test.YtoafgafkmeghlaaGreatDoorGtd
import Derived.Test.YtoafgafkmeghlaaGreatDoorGai
import Derived.Test.YtoafgafkmeghlaaGreatDoorGtg
namespace Go.Proofs.YtoafgafkmeghlaaGreatDoor
open Go Go.RowKit Classical
set_option maxRecDepth 100000
set_option maxHeartbeats 2000000
set_option linter.unusedVariables false
set_option linter.unusedSimpArgs false
set_option maxHeartbeats 4000000
def idxB (p : Int × Bool) : AV := .tup [.int .i64 p.1, .bool p.2]
theorem NoB.idxB (p : Int × Bool) : NoB (idxB p) := .tupC (.int _ _) (.tupC (.bool _) .tup0)
theorem callIB {E : Env} {np : Nat} {P : Program} (hE : E = stdE np P) {f : FuncId} {args : List AV} {j : Nat} {K : AV → Prop} (h : AC P f args idxB ((j : Int), true)) (hk : ∀ a : Int, a = j → K (.tup [.int .i64 a, .bool true])) : E.call f args K :=
  callI hE h fun y hy => by subst hy; exact hk _ rfl
theorem num_lt2 {s : List Aid} (h : s.Pairwise fun a b => a.number < b.number) {i k : Nat} {a b : Aid} (ha : s[i]? = some a) (hb : s[k]? = some b) (hik : i < k) : a.number < b.number := by
  have hi := (List.getElem?_eq_some_iff.1 ha).1
  have hk := (List.getElem?_eq_some_iff.1 hb).1
  have := List.pairwise_iff_getElem.1 h i k hi hk hik
  rwa [(List.getElem?_eq_some_iff.1 ha).2, (List.getElem?_eq_some_iff.1 hb).2] at this
theorem place {l : List Aid} {i : Int} {j : Nat} {v w : Aid} (hpw : l.Pairwise fun a b => a.number < b.number) (hv : l[j]? = some v) (hw : l[i.toNat]? = some w) (h0 : 0 ≤ i) (h1 : i ≤ j) : (i < j ∧ w.number < v.number) ∨ (i = j ∧ w.number = v.number) := by
  by_cases e : i = j
  · right
    refine ⟨e, ?_⟩
    rw [e, Int.toNat_natCast, hv] at hw
    cases hw; rfl
  · exact .inl ⟨by omega, num_lt2 hpw hw hv (by omega)⟩
theorem aidOf_ {rs : List (List AV)} {t b : Bool} {l : List Aid} {n : Int} {j : Nat} {v : Aid} (hl : rs = l.map (Aid.cs b)) (hpw : l.Pairwise fun a b => a.number < b.number) (hv : l[j]? = some v) (hn : n = v.number) (h24 : l.length ≤ 1000) : AC Tryz.prog 29 [.sl t 16 rs, .int .i64 n] idxB ((j : Int), true) := by
  refine ac Tryz.func29 (by kernel_rfl) (.idxB _) fun E K hE hK => ?_
  conv => cbv
  have hj := (List.getElem?_eq_some_iff.1 hv).1
  refine loopC hE (ι := Int) [0, 1] [6] (fun q => (fun (i : Int) => [(6, .int .i64 i)]) q) (fun q => (fun (i : Int) => []) q) (fun q => (fun (i : Int) => (l.length - i).toNat) q) (fun q => (fun (i : Int) => 0 ≤ i ∧ i ≤ j) q) [] (by decide) (0) (by conv => lhs; cbv) (by conv => lhs; cbv) rfl rfl (by dsimp only; exact ⟨by omega, by omega⟩) fun i hi Kn hN => ?_
  (try dsimp only at hi)
  conv => cbv
  obtain ⟨h0, h1⟩ := hi
  repeat' first
    | (refine lenL hE hl (fun m hm _ => ?_); (try conv => cbv))
    | (refine idxAidV hE hl (by omega) hw hg hx ?_; (try conv => cbv))
    | (refine idxAid hE hl (by omega) (fun number name atX atY height mKind mColors mShape mTop lKind lGroup lLetter lColors lPeriod sectors intensity rg rx hw hg hx => ?_); have hpl := place hpw hv hw h0 h1; simp only at hpl; (try conv => cbv))
    | (refine hN _ _ [] (by decide) rfl ⟨?_, ?_⟩ ?_ <;> (try dsimp only))
    | ((first
   | refine q0 hE ?_
   | refine B0 hE ?_|refine B1 hE (fun _=>?_) fun _=>?_|refine B3 hE fun _ _ _=>?_|refine B2 hE fun _ _=>?_|refine B4 hE fun _ _ _ _=>?_) <;> (try conv => cbv))
  all_goals (try clear hN)
  all_goals first
    | omega
    | (refine hK _ ?_; rw [show i = (j : Int) by omega]; rfl)
    | trace_state
theorem pairF_ {rs rp : List (List AV)} {t t' b : Bool} {l : List Aid} {x : List Int} {i k : Nat} {va vb : Aid} {z : Int} (hl : rs = l.map (Aid.cs b)) (hpw : l.Pairwise fun a b => a.number < b.number) (h24 : l.length ≤ 1000) (hx : x = [va.number, vb.number]) (hrp : rp = x.map intR) (hi : l[i]? = some va) (hk : l[k]? = some vb) (oa : ChrOk va.lKind va.lGroup va.lLetter va.lColors va.lPeriod) (ob : ChrOk vb.lKind vb.lGroup vb.lLetter vb.lColors vb.lPeriod) : AC Tryz.prog 28 [.sl t' 1 rp, .pp [.sl t 16 rs], .pp [.int .i64 z]] AV.bool (bP (¬ confR (chrOf va) (chrOf vb) z)) := by
  refine ac Tryz.func28 (by kernel_rfl) (.bool _) fun E K hE hK => ?_
  conv => cbv
  have hil := (List.getElem?_eq_some_iff.1 hi).1
  have hkl := (List.getElem?_eq_some_iff.1 hk).1
  obtain ⟨n1, nm1, ax1, ay1, h1, mk1, mc1, ms1, mt1, lk1, lg1, ll1, lc1, lp1, sc1, in1⟩ := va
  obtain ⟨n2, nm2, ax2, ay2, h2, mk2, mc2, ms2, mt2, lk2, lg2, ll2, lc2, lp2, sc2, in2⟩ := vb
  simp only at hx oa ob
  obtain ⟨ga, hga⟩ : ∃ r, r = lg1.map intR := ⟨_, rfl⟩
  obtain ⟨gb, hgb⟩ : ∃ r, r = lg2.map intR := ⟨_, rfl⟩
  obtain ⟨xa, hxa⟩ : ∃ r, r = sc1.map Scr.cs := ⟨_, rfl⟩
  obtain ⟨xb, hxb⟩ : ∃ r, r = sc2.map Scr.cs := ⟨_, rfl⟩
  repeat' first
    | (refine idxV (R := intR) (i := 0) (v := n1) hE hrp (by decide) (by rw [hx]; rfl) ?_; (try conv => cbv))
    | (refine idxV (R := intR) (i := 1) (v := n2) hE hrp (by decide) (by rw [hx]; rfl) ?_; (try conv => cbv))
    | (refine callIB hE (aidOf_ (n := n1) (j := i) hl hpw hi rfl h24) (fun a ha => ?_); have hia : l[a.toNat]? = _ := (congrArg (fun t : Int => l[t.toNat]?) ha).trans hi; (try conv => cbv))
    | (refine callIB hE (aidOf_ (n := n2) (j := k) hl hpw hk rfl h24) (fun a2 ha2 => ?_); have hka : l[a2.toNat]? = _ := (congrArg (fun t : Int => l[t.toNat]?) ha2).trans hk; (try conv => cbv))
    | (refine idxAidV (i := a) hE hl (by omega) hia hga hxa ?_; (try conv => cbv))
    | (refine idxAidV (i := a2) hE hl (by omega) hka hgb hxb ?_; (try conv => cbv))
    | (refine callP hE (confused_ _ _ _ _ z _ _ _ _ hga hgb oa ob) (fun hc => ?_) (fun hc => ?_) <;> (try conv => cbv))
    | ((first
   | refine q0 hE ?_
   | refine B0 hE ?_|refine B1 hE (fun _=>?_) fun _=>?_|refine B3 hE fun _ _ _=>?_|refine B2 hE fun _ _=>?_|refine B4 hE fun _ _ _ _=>?_) <;> (try conv => cbv))
  all_goals first
    | exact finB hK (bP_false.2 fun h => h hc)
    | exact finB hK (bP_true.2 hc)
    | trace_state
end Go.Proofs.YtoafgafkmeghlaaGreatDoor
/- Contracts: slices.DeleteFunc at lists of lists of numbers. -/
namespace Go.Proofs.YtoafgafkmeghlaaGreatDoor
open Go Go.RowKit Go.Sort Go.Shelf Classical
set_option maxRecDepth 100000
set_option maxHeartbeats 2000000
set_option linter.unusedVariables false
set_option linter.unusedSimpArgs false
noncomputable section
def keepD {β : Type} (p : β → Prop) (ls : List β) (i : Nat) : Prop := ∀ x, ls[i]? = some x → ¬ p x
def delI {β : Type} (p : β → Prop) (ls : List β) (n : Nat) : List Nat := (List.range n).filter fun i => decide (keepD p ls i)
def delN {β : Type} (p : β → Prop) (ls : List β) (n : Nat) : List β := (delI p ls n).filterMap fun i => ls[i]?
def deleteL {β : Type} (p : β → Prop) (ls : List β) : List β := delN p ls ls.length
theorem delN_succ {β : Type} {p : β → Prop} {ls : List β} {n : Nat} {x : β} (hx : ls[n]? = some x) : delN p ls (n + 1) = delN p ls n ++ if p x then [] else [x] := by
  have hk : keepD p ls n ↔ ¬ p x := ⟨fun h => h x hx, fun h y hy => by rw [hx] at hy; cases hy; exact h⟩
  unfold delN delI
  rw [List.range_succ, List.filter_append, List.filterMap_append]
  congr 1
  by_cases h : p x
  · rw [if_pos h, List.filter_cons, if_neg (by simp [hk, h])]; rfl
  · rw [if_neg h, List.filter_cons, if_pos (by simp [hk, h])]
    simp [hx]
theorem delN_filter {β : Type} (p : β → Prop) (ls : List β) : ∀ n, n ≤ ls.length → delN p ls n = (ls.take n).filter fun x => decide (¬ p x)
  | 0, _ => rfl
  | n + 1, h => by
    have hx : ls[n]? = some ls[n] := List.getElem?_eq_getElem (by omega)
    rw [delN_succ hx, delN_filter p ls n (by omega), List.take_add_one, hx, List.filter_append]
    congr 1
    by_cases h : p ls[n] <;> simp [h]
theorem deleteL_eq {β : Type} (p : β → Prop) (ls : List β) : deleteL p ls = ls.filter fun x => decide (¬ p x) := by
  unfold deleteL
  rw [delN_filter p ls _ (Nat.le_refl _), List.take_length]
theorem sel_del {β : Type} (p : β → Prop) (ls : List β) : Sel (deleteL p ls) ls := by
  refine ⟨delI p ls ls.length, List.Pairwise.filter _ List.nodup_range, ?_⟩
  unfold deleteL delN
  have hm : ∀ i ∈ delI p ls ls.length, i < ls.length := fun i hi => by
    unfold delI at hi
    rw [List.mem_filter, List.mem_range] at hi
    exact hi.1
  generalize delI p ls ls.length = idx at hm ⊢
  induction idx with
  | nil => rfl
  | cons i idx ih =>
    have hi := hm i (by simp)
    rw [List.filterMap_cons, List.getElem?_eq_getElem hi]
    simp only [List.map_cons]
    rw [ih fun j hj => hm j (by simp [hj]), List.getElem?_eq_getElem hi]
def DInv {β : Type} (p : β → Prop) (ls cs : List β) (i j : Int) : Prop := cs.length = ls.length ∧ (0 ≤ i ∧ i < j ∧ j ≤ ls.length) ∧ cs.take i.toNat = delN p ls j.toNat ∧ ∀ t : Nat, j ≤ (t : Int) → cs[t]? = ls[t]?
theorem all_left {β : Type} {p : β → Prop} {ls : List β} {i : Int} (h : Up (fun t => ∀ x, ls[t]? = some x → ¬ p x) i) (h0 : 0 ≤ i) (hi : i ≤ ls.length) : delN p ls i.toNat = ls.take i.toNat := by
  have key : ∀ n : Nat, (n : Int) ≤ i → delN p ls n = ls.take n := by
    intro n
    induction n with
    | zero => intro _; rfl
    | succ n ih =>
      intro hn
      have hx : ls[n]? = some ls[n] := List.getElem?_eq_getElem (by omega)
      rw [delN_succ hx, if_neg (h n (by omega) _ hx), ih (by omega), List.take_add_one, hx]; rfl
  exact key _ (by omega)
theorem DInv.start {β : Type} {p : β → Prop} {ls : List β} {i j : Int} {x : β} (h : Up (fun t => ∀ x, ls[t]? = some x → ¬ p x) i) (h0 : 0 ≤ i) (hx : ls[i.toNat]? = some x) (hp : p x) (hj : j = i + 1) : DInv p ls ls i j := by
  have hl := (List.getElem?_eq_some_iff.1 hx).1
  refine ⟨rfl, by omega, ?_, fun _ _ => rfl⟩
  rw [show j.toNat = i.toNat + 1 by omega, delN_succ hx, if_pos hp, all_left h h0 (by omega), List.append_nil]
theorem DInv.skip {β : Type} {p : β → Prop} {ls cs : List β} {i j n : Int} {x : β} (h : DInv p ls cs i j) (hx : cs[j.toNat]? = some x) (hp : p x) (hn : n = j + 1) : DInv p ls cs i n := by
  obtain ⟨h1, ⟨h2, h3, h4⟩, h5, h6⟩ := h
  rw [h6 _ (by omega)] at hx
  have hl := (List.getElem?_eq_some_iff.1 hx).1
  refine ⟨h1, by omega, ?_, fun t ht => h6 t (by omega)⟩
  rw [show n.toNat = j.toNat + 1 by omega, delN_succ hx, if_pos hp, List.append_nil, h5]
theorem DInv.put {β : Type} {p : β → Prop} {ls cs : List β} {i j k n : Int} {x : β} (h : DInv p ls cs i j) (hx : cs[j.toNat]? = some x) (hp : ¬ p x) (hk : k = i + 1) (hn : n = j + 1) : DInv p ls (cs.set i.toNat x) k n := by
  obtain ⟨h1, ⟨h2, h3, h4⟩, h5, h6⟩ := h
  rw [h6 _ (by omega)] at hx
  have hl := (List.getElem?_eq_some_iff.1 hx).1
  refine ⟨by rw [List.length_set]; exact h1, by omega, ?_, fun t ht => by rw [List.getElem?_set_ne (by omega)]; exact h6 t (by omega)⟩
  rw [show n.toNat = j.toNat + 1 by omega, show k.toNat = i.toNat + 1 by omega, delN_succ hx, if_neg hp, ← h5, List.take_add_one, List.take_set_of_le (Nat.le_refl _), List.getElem?_set, if_pos rfl, if_pos (by omega)]
  rfl
theorem DInv.mem {β : Type} {p : β → Prop} {ls cs : List β} {i j : Int} {x : β} (h : DInv p ls cs i j) (hx : cs[j.toNat]? = some x) : x ∈ ls := by
  obtain ⟨h1, ⟨h2, h3, h4⟩, h5, h6⟩ := h
  rw [h6 _ (by omega)] at hx
  exact List.mem_of_getElem? hx
theorem DInv.done {β : Type} {p : β → Prop} {ls cs : List β} {i j : Int} (h : DInv p ls cs i j) (hj : (ls.length : Int) ≤ j) : cs.take i.toNat = deleteL p ls := by
  obtain ⟨h1, ⟨h2, h3, h4⟩, h5, h6⟩ := h
  rw [h5, deleteL, show j.toNat = ls.length by omega]
end
set_option maxHeartbeats 4000000
theorem indexO_ {β : Type} {R : β → AV} {g : FuncId} {p : β → Prop} {es cs : List (List AV)} {t : Bool} {z : Int} {ls : List (Value × β)} (hp : ∀ q ∈ ls, AC Tryz.prog g [R q.2, .pp [.sl t 16 cs], .pp [.int .i64 z]] AV.bool (bP (p q.2))) (hl : es = ls.map (opn R)) : AC Tryz.prog 62 [.sl true 1 es, .fn g [.pp [.sl t 16 cs], .pp [.int .i64 z]]] (AV.int .i64) (firstI (fun q : Value × β => p q.2) ls) := by
  refine ac Tryz.func62 (by kernel_rfl) (.int _ _) fun E K hE hK => ?_
  conv => cbv
  refine lenL hE hl fun n hn _ => ?_
  conv => cbv
  refine loopC hE (ι := Int) [0, 1, 7] [8] (fun q => (fun (i : Int) => [(8, .int .i64 i)]) q) (fun q => (fun (i : Int) => []) q) (fun q => (fun (i : Int) => (n - i).toNat) q) (fun q => (fun (i : Int) => 0 ≤ i ∧ Up (fun t => ∀ x, ls[t]? = some x → ¬ p x.2) i) q) [] (by decide) (0) (by conv => lhs; cbv) (by conv => lhs; cbv) rfl rfl (by dsimp only; exact ⟨by omega, .zero (by omega)⟩) fun i hi Kn hN => ?_
  (try dsimp only at hi)
  conv => cbv
  obtain ⟨h0, hinv⟩ := hi
  repeat' first
    | (refine idxL (R := opn R) (i := i) hE hl (by omega) (fun p hx => ?_); obtain ⟨v, x⟩ := p; (try conv => cbv))
    | (refine callP hE (AC.hd1 (hp _ (List.mem_of_getElem? hx))) (fun heq => ?_) (fun hne => ?_) <;> (try conv => cbv))
    | (refine hN _ _ [] (by decide) rfl ⟨?_, ?_⟩ ?_ <;> (try dsimp only))
    | ((first
   | refine q0 hE ?_
   | refine B0 hE ?_|refine B1 hE (fun _=>?_) fun _=>?_|refine B3 hE fun _ _ _=>?_|refine B2 hE fun _ _=>?_|refine B4 hE fun _ _ _ _=>?_) <;> (try conv => cbv))
  all_goals (try clear hN)
  all_goals first
    | omega
    | (refine hK _ ?_; rw [firstI_in h0 hx heq hinv]; rfl)
    | exact hinv.succ (fun y hy => by rw [hx] at hy; cases hy; exact hne) (by assumption)
    | (refine hK _ ?_; rw [firstI_out (by omega) hinv]; rfl)
    | trace_state
theorem deleteO_ {β : Type} {R : β → AV} {g : FuncId} {p : β → Prop} {es cs : List (List AV)} {t : Bool} {z : Int} {ls : List (Value × β)} (hp : ∀ q ∈ ls, AC Tryz.prog g [R q.2, .pp [.sl t 16 cs], .pp [.int .i64 z]] AV.bool (bP (p q.2))) (hl : es = ls.map (opn R)) (hbl : ls.length ≤ 1048576) : ACS Tryz.prog 27 [.sl true 1 es, .fn g [.pp [.sl t 16 cs], .pp [.int .i64 z]]] (fun r ys => ∃ es', es' = (deleteL (fun q : Value × β => p q.2) ls).map (opn R) ∧ r = .sl true 1 es' ∧ ys = [.any, .any]) := by
  refine acs 1 Tryz.func27 (by kernel_rfl) fun E K hE hK => ?_
  conv => cbv
  refine callI hE (indexO_ hp hl) fun y hy => ?_
  conv => cbv
  refine eqI hE (fun h => ?_) (fun h => ?_) <;> conv => cbv
  · have hall : ∀ x ∈ ls, ¬ p x.2 := fun x hx hpx => by
      have := (firstI_ge (p := fun q : Value × β => p q.2) (l := ls)).2 ⟨x, hx, hpx⟩
      omega
    exact hK _ _ ⟨_, by rw [deleteL_eq, List.filter_eq_self.2 fun x hx => by simpa using hall x hx]; exact hl, rfl, rfl⟩
  · obtain ⟨h0, x0, hx0, hp0, hup⟩ : 0 ≤ y ∧ ∃ x0, ls[y.toNat]? = some x0 ∧ p x0.2 ∧ Up (fun t => ∀ x, ls[t]? = some x → ¬ p x.2) y := by
      rcases firstI_spec (fun q : Value × β => p q.2) ls with ⟨a1, _, ⟨v, a3, a4⟩, a5⟩ | ⟨a1, _⟩
      · rw [← hy] at a1 a3 a5
        exact ⟨a1, v, a3, a4, fun t ht x hx => a5 t x ht hx⟩
      · exact absurd (hy.trans a1) h
    have hlt := (List.getElem?_eq_some_iff.1 hx0).1
    refine add64 hE (by omega) fun j0 hj0 => ?_
    conv => cbv
    refine loopC hE (ι := Int × Int × (List (Value × β)) × (List (List AV))) [0, 1] [5, 6] (fun q => (fun (i : Int) (j : Int) (cs2 : List (Value × β)) (es2 : List (List AV)) => [(5, .int .i64 i), (6, .int .i64 j)]) q.1 q.2.1 q.2.2.1 q.2.2.2) (fun q => (fun (i : Int) (j : Int) (cs2 : List (Value × β)) (es2 : List (List AV)) => [.row 1 es2]) q.1 q.2.1 q.2.2.1 q.2.2.2) (fun q => (fun (i : Int) (j : Int) (cs2 : List (Value × β)) (es2 : List (List AV)) => ((ls.length : Int) - j).toNat) q.1 q.2.1 q.2.2.1 q.2.2.2) (fun q => (fun (i : Int) (j : Int) (cs2 : List (Value × β)) (es2 : List (List AV)) => DInv (fun q : Value × β => p q.2) ls cs2 i j ∧ es2 = cs2.map (opn R)) q.1 q.2.1 q.2.2.1 q.2.2.2) [0] (by decide) ((y, j0, ls, es)) (by conv => lhs; cbv) (by conv => lhs; cbv) rfl rfl (by dsimp only; exact ⟨DInv.start hup h0 hx0 hp0 hj0, hl⟩) fun q hi Kn hN => ?_
    obtain ⟨i, j, cs2, es2⟩ := q
    (try dsimp only at hi)
    conv => cbv
    obtain ⟨hD, hes2⟩ := hi
    have hcl := hD.1
    obtain ⟨i0, i1, i2⟩ := hD.2.1
    repeat' first
      | (refine lenL hE hes2 (fun n3 hn3 _ => ?_); (try conv => cbv))
      | (refine idxL (R := opn R) (i := j) hE hes2 (by omega) (fun q hx => ?_); obtain ⟨v, x⟩ := q; (try conv => cbv))
      | (refine callP hE (AC.hd1 (hp _ (hD.mem hx))) (fun heq => ?_) (fun hne => ?_) <;> (try conv => cbv))
      | (refine idxL (R := opn R) (i := i) hE hes2 (by omega) (fun q hz => ?_); obtain ⟨z2, w2⟩ := q; (try conv => cbv))
      | (refine updL hE (R := opn R) (v, x) hes2 (by omega) hz (by exact Nat.le_of_ble_eq_true rfl) (by rfl) (fun es3 hes3 => ?_); (try conv => cbv))
      | (refine subG hE (by simp only [Option.getD_some, Option.getD_none]; rw [hes2, List.length_map]; omega) (fun _ _ => ?_); (try conv => cbv))
      | (refine clrG hE (by rw [hes2, List.length_map]; omega) (fun es3 hl3 ht3 => ?_); (try conv => cbv))
      | (refine subG hE (by simp only [Option.getD_some, Option.getD_none]; rw [hl3, hes2, List.length_map]; omega) (fun rr hrr => ?_); (try conv => cbv))
      | (refine hN (_, _, cs2.set i.toNat (v, x), _) _ [0] (by decide) rfl ⟨?_, hes3⟩ ?_ <;> (try dsimp only))
      | (refine hN (_, _, cs2, _) _ [0] (by decide) rfl ⟨?_, hes2⟩ ?_ <;> (try dsimp only))
      | ((first
     | refine q0 hE ?_
     | refine B0 hE ?_|refine B1 hE (fun _=>?_) fun _=>?_|refine B3 hE fun _ _ _=>?_|refine B2 hE fun _ _=>?_|refine B4 hE fun _ _ _ _=>?_) <;> (try conv => cbv))
    all_goals (try clear hN)
    all_goals first
      | omega
      | exact hD.skip hx heq (by assumption)
      | exact hD.put hx hne (by assumption) (by assumption)
      | (refine hK _ _ ⟨_, ?_, rfl, rfl⟩; rw [hrr]; simp only [Option.getD_some, Int.toNat_zero, List.drop_zero]; rw [ht3, hes2, ← List.map_take, hD.done (by omega)])
      | trace_state
theorem delete_snd {α β : Type} {p : β → Prop} (ls : List (α × β)) : (deleteL (fun q : α × β => p q.2) ls).map Prod.snd = deleteL p (ls.map Prod.snd) := by
  rw [deleteL_eq, deleteL_eq, List.filter_map]; rfl
theorem deleteLL_ {rs cs : List (List AV)} {g : FuncId} {t : Bool} {z : Int} {p : List Int → Prop} {l : List (List Int)} (hp : ∀ x ∈ l, AC Tryz.prog g [slI x, .pp [.sl t 16 cs], .pp [.int .i64 z]] AV.bool (bP (p x))) (hl : rs = l.map (llR true)) (hb : l.length ≤ 1048576) : ACM Tryz.prog 27 [.sl true 1 rs, .fn g [.pp [.sl t 16 cs], .pp [.int .i64 z]]] (fun r ys => ∃ rs', rs' = (l.filter fun x => decide (¬ p x)).map (llR true) ∧ r = .sl true 1 rs' ∧ ys = [.any, .any]) := by
  subst hl
  have hent : Enters Tryz.prog 27 := fun xs w => enters_go Tryz.func27 (by kernel_rfl) rfl xs w
  refine ACM.close (R := slI) slI_noB hent fun ls e1 e2 => ?_
  refine (deleteO_ (R := slI) (p := p) (fun q hq => hp _ (by rw [← e1]; exact List.mem_map_of_mem hq)) rfl (by rw [← e1, List.length_map] at hb; exact hb)).mono ?_
  rintro r ys ⟨es, rfl, rfl, rfl⟩
  refine ⟨0, _, _, _, sel_del _ ls, rfl, fun j a hj ha => ?_, rfl, _, ?_, rfl, rfl⟩
  · match j, ha with
    | 0, _ => exact (hj rfl).elim
    | 1, ha => cases ha; exact .any
    | 2, ha => cases ha; exact .any
    | n + 3, ha => simp at ha
  · rw [delete_snd, e1, deleteL_eq]; rfl
end Go.Proofs.YtoafgafkmeghlaaGreatDoor
/- Contracts: the program's pairs that are confused. -/
namespace Go.Proofs.YtoafgafkmeghlaaGreatDoor
open Go Go.RowKit Classical
set_option maxRecDepth 100000
set_option maxHeartbeats 2000000
set_option linter.unusedVariables false
set_option linter.unusedSimpArgs false
set_option maxHeartbeats 4000000
noncomputable section
def cfR (l : List Aid) (z : Int) (p : Nat × Nat) : Prop := ∃ a b, l[p.1]? = some a ∧ l[p.2]? = some b ∧ confR (chrOf a) (chrOf b) z
def nX (l : List Aid) (z : Int) (x : List Int) : Prop := ∃ (i k : Nat) (a b : Aid), l[i]? = some a ∧ l[k]? = some b ∧ x = [a.number, b.number] ∧ ¬ confR (chrOf a) (chrOf b) z
def conR (l : List Aid) (os : List Obv) (z : Int) : List (List Int) × Int := if AskOk l os then (if 0 ≤ z ∧ z ≤ 20 then (if os.length ≤ 16 then (((allT (both l os) l.length l.length).filter fun p => decide (cfR l z p)).map (numT l), 0) else ([], 5)) else ([], 2)) else ([], 1)
end
theorem num_inj {l : List Aid} (hpw : l.Pairwise fun a b => a.number < b.number) {i k : Nat} {a b : Aid} (ha : l[i]? = some a) (hb : l[k]? = some b) (h : a.number = b.number) : a = b := by
  rcases Nat.lt_trichotomy i k with e | e | e
  · have := num_lt2 hpw ha hb e; omega
  · subst e; rw [ha] at hb; cases hb; rfl
  · have := num_lt2 hpw hb ha e; omega
theorem nX_iff {l : List Aid} {z : Int} (hpw : l.Pairwise fun a b => a.number < b.number) {i k : Nat} {a b : Aid} (ha : l[i]? = some a) (hb : l[k]? = some b) : nX l z [a.number, b.number] ↔ ¬ confR (chrOf a) (chrOf b) z := by
  constructor
  · rintro ⟨i', k', a', b', h1, h2, h3, h4⟩
    have e1 : a.number = a'.number := by simp at h3; exact h3.1
    have e2 : b.number = b'.number := by simp at h3; exact h3.2
    rw [num_inj hpw ha h1 e1, num_inj hpw hb h2 e2]; exact h4
  · intro h; exact ⟨i, k, a, b, ha, hb, rfl, h⟩
theorem con_filter {l : List Aid} {os : List Obv} {z : Int} (hpw : l.Pairwise fun a b => a.number < b.number) : (((allT (both l os) l.length l.length).map (numT l)).filter fun x => decide (¬ nX l z x)) = ((allT (both l os) l.length l.length).filter fun p => decide (cfR l z p)).map (numT l) := by
  rw [List.filter_map]
  congr 1
  refine List.filter_congr fun p hp => ?_
  obtain ⟨_, _, _, o, _, a, b, ha, hb, _, _⟩ := mem_allT.1 hp
  show decide (¬ nX l z (numT l p)) = decide (cfR l z p)
  rw [decide_eq_decide, numT, numAt_of ha, numAt_of hb, nX_iff hpw ha hb, Classical.not_not]
  constructor
  · intro h; exact ⟨a, b, ha, hb, h⟩
  · rintro ⟨a', b', h1, h2, h3⟩
    rw [ha] at h1; rw [hb] at h2; cases h1; cases h2; exact h3
theorem seen_chr {a : Aid} {x y e s : Int} (h : a.seen x y e s) : ChrOk a.lKind a.lGroup a.lLetter a.lColors a.lPeriod := h.1.1
theorem rowT_len2 (P : Nat → Nat → Prop) (i : Nat) : ∀ k, (rowT P i k).length ≤ k
  | 0 => by simp [rowT]
  | k + 1 => by
    rw [rowT, List.length_append]
    have := rowT_len2 P i k
    split <;> simp <;> omega
theorem allT_len2 (P : Nat → Nat → Prop) (n : Nat) : ∀ m, (allT P n m).length ≤ m * n
  | 0 => by simp [allT]
  | m + 1 => by
    rw [allT, List.length_append, Nat.add_mul]
    have := allT_len2 P n m
    have := rowT_len2 P m n
    omega
theorem isTol_ (n : Int) : AC Tryz.prog 25 [.int .i64 n] AV.bool (bP (0 ≤ n ∧ n ≤ 20)) := by
  refine ac Tryz.func25 (by kernel_rfl) (.bool _) fun E K hE hK => ?_
  conv => cbv
  repeat' first
    | ((first
   | refine q0 hE ?_
   | refine callP hE (within_ _ _ _) (fun _ => ?_) (fun _ => ?_)
   | refine B0 hE ?_|refine B1 hE (fun _=>?_) fun _=>?_|refine B3 hE fun _ _ _=>?_|refine B2 hE fun _ _=>?_|refine B4 hE fun _ _ _ _=>?_) <;> (try conv => cbv))
  all_goals (try clear hN)
  all_goals first
    | (omega)
    | (refine finB hK (bP_true.2 ?_); first | omega | grind)
    | (refine finB hK (bP_false.2 ?_); first | omega | (intro h; grind))
    | (refine ⟨by omega, Up.succ (by assumption) ?_ (by assumption)⟩; grind)
    | (refine hK _ ?_; simp_all [atup]; done)
    | (grind)
theorem confusedPairs_ {rs ro : List (List AV)} {t t' b : Bool} {l : List Aid} {os : List Obv} {z : Int} (hl : rs = l.map (Aid.cs b)) (ho : ro = os.map Obv.cs) : AC Tryz.prog 9 [.sl t 16 rs, .sl t' 4 ro, .int .i64 z] llLI (conR l os z) := by
  refine ac Tryz.func9 (by kernel_rfl) (.llLI _) fun E K hE hK => ?_
  conv => cbv
  refine callP hE (areObservers_ hl ho) (fun hok => ?_) (fun hok => ?_) <;> conv => cbv
  · have h24 := hok.1.2
    have hpw := hok.1.pw
    refine callP hE (isTol_ z) (fun hz => ?_) (fun hz => ?_) <;> conv => cbv
    · refine callLI hE (seenTogether_ hl ho) (fun r cd hr hcd => ?_)
      conv => cbv
      by_cases h16 : os.length ≤ 16
      · rw [tog_val hok h16] at hr hcd
        have hlen : (allT (both l os) l.length l.length).length ≤ 576 := by
          have h1 := allT_len2 (both l os) l.length l.length
          have h2 : l.length * l.length ≤ 24 * 24 := Nat.mul_le_mul h24 h24
          omega
        refine eqT hE hcd ?_
        conv => cbv
        refine callMQ hE (deleteLL_ (p := nX l z) (fun x hx => ?_) hr (by rw [List.length_map]; omega)) ?_
        · obtain ⟨p, hp, rfl⟩ := List.mem_map.1 hx
          obtain ⟨_, _, _, o, _, va, vb, ha, hb, sa, sb⟩ := mem_allT.1 hp
          have e : numT l p = [va.number, vb.number] := by rw [numT, numAt_of ha, numAt_of hb]
          have h3 := pairF_ (t' := true) (t := t) (z := z) hl hpw (by omega) e rfl ha hb (seen_chr sa) (seen_chr sb)
          have e2 : nX l z (numT l p) = ¬ confR (chrOf va) (chrOf vb) z := by rw [e]; exact propext (nX_iff hpw ha hb)
          rw [e2]
          exact h3
        · rintro r' ys ⟨rs', hrs', rfl, rfl⟩
          conv => cbv
          refine hK _ ?_
          rw [conR, if_pos hok, if_pos hz, if_pos h16, ← con_filter hpw, hrs']
          rfl
      · rw [togR, if_pos hok, if_neg h16] at hcd
        refine eqF hE (by rw [hcd]; decide) ?_
        conv => cbv
        refine nilOwnI hE 1 ?_
        conv => cbv
        exact hK _ (by rw [conR, if_pos hok, if_pos hz, if_neg h16, hcd]; rfl)
    · refine nilOwnI hE 1 ?_
      conv => cbv
      exact hK _ (by rw [conR, if_pos hok, if_neg hz]; rfl)
  · refine callLI hE (seenTogether_ hl ho) (fun r cd hr hcd => ?_)
    conv => cbv
    rw [togR, if_neg hok] at hcd
    refine eqF hE (by rw [hcd]; decide) ?_
    conv => cbv
    refine nilOwnI hE 1 ?_
    conv => cbv
    exact hK _ (by rw [conR, if_neg hok, hcd]; rfl)
end Go.Proofs.YtoafgafkmeghlaaGreatDoor
