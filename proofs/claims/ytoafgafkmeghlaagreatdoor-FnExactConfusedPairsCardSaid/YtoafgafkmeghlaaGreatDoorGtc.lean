/- Contracts: slices.Equal, Compare, SortFunc and CompactFunc at lists of numbers. -/
import Derived.Test.YtoafgafkmeghlaaGreatDoorGtp
import Derived.Test.YtoafgafkmeghlaaGreatDoorAxSn
import Derived.Test.YtoafgafkmeghlaaGreatDoorFA
import Derived.Test.YtoafgafkmeghlaaGreatDoorShelf
namespace Go.Proofs.YtoafgafkmeghlaaGreatDoor
open Go Go.RowKit Go.Sort Go.Shelf Classical
set_option maxRecDepth 100000
set_option maxHeartbeats 2000000
set_option linter.unusedVariables false
set_option linter.unusedSimpArgs false
theorem upEq {a b : List Int} {i : Int} (h : Up (fun j => a[j]? = b[j]?) i) (hl : a.length = b.length) (hi : (a.length : Int) ≤ i) : a = b := by
  refine List.ext_getElem? fun j => ?_
  by_cases hj : j < a.length
  · exact h j (by omega)
  · rw [List.getElem?_eq_none (by omega), List.getElem?_eq_none (by omega)]
theorem equalII_ {rs rs' : List (List AV)} {t t' : Bool} {a b : List Int} (ha : rs = a.map intR) (hb : rs' = b.map intR) : AC Tryz.prog 61 [.sl t 1 rs, .sl t' 1 rs'] AV.bool (bP (a = b)) := by
  refine ac Tryz.func61 (by kernel_rfl) (.bool _) fun E K hE hK => ?_
  conv => cbv
  repeat' first
    | (refine lenL hE ha (fun n1 hn1 _ => ?_); (try conv => cbv))
    | (refine lenL hE hb (fun n2 hn2 _ => ?_); (try conv => cbv))
    | ((refine loopC hE (ι := Int) [0, 1, 12] [13] (fun q => (fun (i : Int) => [(13, .int .i64 i)]) q) (fun q => (fun (i : Int) => []) q) (fun q => (fun (i : Int) => (a.length - i).toNat) q) (fun q => (fun (i : Int) => 0 ≤ i ∧ Up (fun j => a[j]? = b[j]?) i) q) [] (by decide) (0) (by conv => lhs; cbv) (by conv => lhs; cbv) rfl rfl (by dsimp only; exact ⟨by omega, .zero (by omega)⟩) fun i hi2 Kn2 hN2 => ?_; (try dsimp only at hi2); conv => cbv); obtain ⟨h0, hinv⟩ := hi2)
    | (refine idxL (R := intR) hE ha (by omega) (fun u hu => ?_); (try conv => cbv))
    | (refine idxL (R := intR) hE hb (by omega) (fun v hv => ?_); (try conv => cbv))
    | (refine hN2 _ _ [] (by decide) rfl ⟨?_, ?_⟩ ?_ <;> (try dsimp only))
    | ((first
   | refine q0 hE ?_
   | refine B0 hE ?_|refine B1 hE (fun _=>?_) fun _=>?_|refine B3 hE fun _ _ _=>?_|refine B2 hE fun _ _=>?_|refine B4 hE fun _ _ _ _=>?_) <;> (try conv => cbv))
  all_goals (try clear hN2)
  all_goals first
    | omega
    | exact hinv.succ (show a[i.toNat]? = b[i.toNat]? from by rw [hu, hv]; exact congrArg some (by omega)) (by assumption)
    | exact finB hK (bP_true.2 (upEq hinv (by omega) (by omega)))
    | (refine finB hK (bP_false.2 fun h => ?_); subst h; first | omega | (rw [hu] at hv; cases hv; omega))
    | trace_state
theorem lexC_drop {a b : List Int} : ∀ i : Nat, (∀ j, j < i → ∃ x, a[j]? = some x ∧ b[j]? = some x) → lexC a b = lexC (a.drop i) (b.drop i)
  | 0, _ => rfl
  | i + 1, h => by
    rw [lexC_drop i fun j hj => h j (by omega)]
    obtain ⟨x, h1, h2⟩ := h i (by omega)
    have e1 := List.drop_eq_getElem_cons (List.getElem?_eq_some_iff.1 h1).1
    have e2 := List.drop_eq_getElem_cons (List.getElem?_eq_some_iff.1 h2).1
    rw [(List.getElem?_eq_some_iff.1 h1).2] at e1
    rw [(List.getElem?_eq_some_iff.1 h2).2] at e2
    rw [e1, e2, lexC, if_neg (Int.lt_irrefl x), if_neg (Int.lt_irrefl x)]
theorem lexC_at {a b : List Int} {i : Nat} {x y : Int} (h : ∀ j, j < i → ∃ x, a[j]? = some x ∧ b[j]? = some x) (hx : a[i]? = some x) (hy : b[i]? = some y) (hne : cmpI x y ≠ 0) : lexC a b = cmpI x y := by
  rw [lexC_drop i h]
  have e1 := List.drop_eq_getElem_cons (List.getElem?_eq_some_iff.1 hx).1
  have e2 := List.drop_eq_getElem_cons (List.getElem?_eq_some_iff.1 hy).1
  rw [(List.getElem?_eq_some_iff.1 hx).2] at e1
  rw [(List.getElem?_eq_some_iff.1 hy).2] at e2
  rw [e1, e2, lexC]
  unfold cmpI at *
  split
  · rfl
  · split
    · rfl
    · rename_i g1 g2; rw [if_neg g1, if_neg g2] at hne; exact (hne rfl).elim
theorem lexC_long {a b : List Int} {i : Nat} (h : ∀ j, j < i → ∃ x, a[j]? = some x ∧ b[j]? = some x) (ha : i < a.length) (hb : b.length ≤ i) : lexC a b = 1 := by
  rw [lexC_drop i h, List.drop_eq_nil_of_le hb, List.drop_eq_getElem_cons ha]; rfl
theorem lexC_short {a b : List Int} {i : Nat} (h : ∀ j, j < i → ∃ x, a[j]? = some x ∧ b[j]? = some x) (ha : a.length ≤ i) (hb : i < b.length) : lexC a b = -1 := by
  rw [lexC_drop i h, List.drop_eq_nil_of_le ha, List.drop_eq_getElem_cons hb]; rfl
theorem lexC_same {a b : List Int} {i : Nat} (h : ∀ j, j < i → ∃ x, a[j]? = some x ∧ b[j]? = some x) (ha : a.length ≤ i) (hb : b.length ≤ i) : lexC a b = 0 := by
  rw [lexC_drop i h, List.drop_eq_nil_of_le ha, List.drop_eq_nil_of_le hb]; rfl
def Pre (a b : List Int) (i : Int) : Prop := ∀ j : Nat, (j : Int) < i → ∃ x, a[j]? = some x ∧ b[j]? = some x
theorem Pre.nat {a b : List Int} {i : Int} (h : Pre a b i) (h0 : 0 ≤ i) : ∀ j, j < i.toNat → ∃ x, a[j]? = some x ∧ b[j]? = some x := fun j hj => h j (by omega)
theorem Pre.len {a b : List Int} {i : Int} (h : Pre a b i) (h0 : 0 ≤ i) : i.toNat ≤ a.length ∧ i.toNat ≤ b.length := by
  rcases Nat.eq_zero_or_pos i.toNat with e | e
  · omega
  · obtain ⟨x, h1, h2⟩ := h (i.toNat - 1) (by omega)
    have := (List.getElem?_eq_some_iff.1 h1).1
    have := (List.getElem?_eq_some_iff.1 h2).1
    omega
theorem cmpI_zero {x y : Int} (h : cmpI x y = 0) : x = y := by
  unfold cmpI at h
  split at h
  · omega
  · split at h <;> omega
theorem compareII_ {rs rs' : List (List AV)} {t t' : Bool} {a b : List Int} (ha : rs = a.map intR) (hb : rs' = b.map intR) : AC Tryz.prog 59 [.sl t 1 rs, .sl t' 1 rs'] (AV.int .i64) (lexC a b) := by
  refine ac Tryz.func59 (by kernel_rfl) (.int _ _) fun E K hE hK => ?_
  conv => cbv
  refine lenL hE ha (fun n1 hn1 _ => ?_)
  conv => cbv
  refine loopC hE (ι := Int) [0, 1, 9, 10] [11] (fun q => (fun (i : Int) => [(11, .int .i64 i)]) q) (fun q => (fun (i : Int) => []) q) (fun q => (fun (i : Int) => (a.length - i).toNat) q) (fun q => (fun (i : Int) => (0 ≤ i ∧ i ≤ a.length) ∧ Pre a b i) q) [] (by decide) (0) (by conv => lhs; cbv) (by conv => lhs; cbv) rfl rfl (by dsimp only; exact ⟨by omega, fun j hj => by omega⟩) fun i hi Kn hN => ?_
  (try dsimp only at hi)
  conv => cbv
  obtain ⟨⟨h0, h1⟩, hinv⟩ := hi
  have hpl := hinv.len h0
  repeat' first
    | (refine idxL (R := intR) hE ha (by omega) (fun u hu => ?_); (try conv => cbv))
    | (refine lenL hE hb (fun n2 hn2 _ => ?_); (try conv => cbv))
    | (refine idxL (R := intR) hE hb (by omega) (fun v hv => ?_); (try conv => cbv))
    | (refine lenL hE ha (fun n3 hn3 _ => ?_); (try conv => cbv))
    | (refine callI hE (compare_ u v) (fun c hc => ?_); (try conv => cbv))
    | (refine hN _ _ [] (by decide) rfl ⟨?_, ?_⟩ ?_ <;> (try dsimp only))
    | ((first
   | refine q0 hE ?_
   | refine B0 hE ?_|refine B1 hE (fun _=>?_) fun _=>?_|refine B3 hE fun _ _ _=>?_|refine B2 hE fun _ _=>?_|refine B4 hE fun _ _ _ _=>?_) <;> (try conv => cbv))
  all_goals (try clear hN)
  all_goals first
    | omega
    | (intro j hj; by_cases hji : (j : Int) = i <;> first | (have e : i.toNat = j := by omega); rw [← e]; exact ⟨u, hu, by rw [hv, cmpI_zero (hc.symm.trans (by assumption))]⟩ | exact hinv j (by omega))
    | (refine hK _ ?_; rw [lexC_at (hinv.nat h0) hu hv (by omega), ← hc]; rfl)
    | (refine hK _ ?_; rw [lexC_long (hinv.nat h0) (by omega) (by omega)]; rfl)
    | (refine hK _ ?_; rw [lexC_short (hinv.nat h0) (by omega) (by omega)]; rfl)
    | (refine hK _ ?_; rw [lexC_same (hinv.nat h0) (by omega) (by omega)]; rfl)
    | trace_state
theorem all_kept {β : Type} {eq : β → β → Prop} {ls : List β} {k : Int} (h : Up (fun j => keepI eq ls j) k) (h0 : 0 ≤ k) (hk : k ≤ ls.length) : compN eq ls k.toNat = ls.take k.toNat := by
  have key : ∀ n : Nat, (n : Int) ≤ k → compN eq ls n = ls.take n := by
    intro n
    induction n with
    | zero => intro _; unfold compN compI; simp
    | succ n ih =>
      intro hn
      have hx : ls[n]? = some ls[n] := List.getElem?_eq_getElem (by omega)
      rw [compN_succ hx, if_pos (h n (by omega)), ih (by omega), List.take_add_one, hx]; rfl
  exact key _ (by omega)
theorem sel_comp {β : Type} (eq : β → β → Prop) (ls : List β) : Sel (compactL eq ls) ls := by
  refine ⟨compI eq ls ls.length, ?_, ?_⟩
  · unfold compI; exact List.Pairwise.filter _ List.nodup_range
  · unfold compactL compN
    have hm : ∀ i ∈ compI eq ls ls.length, i < ls.length := fun i hi => by
      unfold compI at hi
      rw [List.mem_filter, List.mem_range] at hi
      exact hi.1
    generalize compI eq ls ls.length = idx at hm ⊢
    induction idx with
    | nil => rfl
    | cons i idx ih =>
      have hi := hm i (by simp)
      rw [List.filterMap_cons, List.getElem?_eq_getElem hi]
      simp only [List.map_cons]
      rw [ih fun j hj => hm j (by simp [hj]), List.getElem?_eq_getElem hi]
theorem comp_small {β : Type} {eq : β → β → Prop} {ls : List β} (h : ls.length < 2) : compactL eq ls = ls := by
  unfold compactL
  match ls, h with
  | [], _ => rfl
  | [x], _ => rw [show [x].length = 0 + 1 from rfl, compN_succ (x := x) rfl, if_pos (show keepI eq [x] 0 from fun _ _ _ h => by omega)]; rfl
theorem keep_no {β : Type} {eq : β → β → Prop} {ls : List β} {i : Nat} {x y : β} (hx : ls[i]? = some x) (hy : ls[i - 1]? = some y) (h0 : 0 < i) (h : eq x y) : ¬ keepI eq ls i := fun hk => hk x y hx h0 hy h
theorem keep_yes {β : Type} {eq : β → β → Prop} {ls : List β} {i : Nat} {x y : β} (hx : ls[i]? = some x) (hy : ls[i - 1]? = some y) (h : ¬ eq x y) : keepI eq ls i := fun a b ha _ hb => by
  rw [hx] at ha; rw [hy] at hb; cases ha; cases hb; exact h
def CInv {β : Type} (eq : β → β → Prop) (ls cs : List β) (k i : Int) : Prop := cs.length = ls.length ∧ (0 ≤ k ∧ k < i ∧ i ≤ ls.length) ∧ cs.take k.toNat = compN eq ls i.toNat ∧ ∀ j : Nat, i ≤ (j : Int) + 1 → cs[j]? = ls[j]?
theorem CInv.start {β : Type} {eq : β → β → Prop} {ls : List β} {k m : Int} {x y : β} (h : Up (fun j => keepI eq ls j) k) (h1 : 1 ≤ k) (hx : ls[k.toNat]? = some x) (hm : m = k - 1) (hy : ls[m.toNat]? = some y) (he : eq x y) : CInv eq ls ls k (k + 1) := by
  have hl := (List.getElem?_eq_some_iff.1 hx).1
  refine ⟨rfl, by omega, ?_, fun _ _ => rfl⟩
  rw [show (k + 1).toNat = k.toNat + 1 by omega, compN_succ hx, if_neg (keep_no hx (by rw [show k.toNat - 1 = m.toNat by omega]; exact hy) (by omega) he), all_kept h (by omega) (by omega)]
theorem CInv.skip {β : Type} {eq : β → β → Prop} {ls cs : List β} {k i a b n : Int} {x y : β} (h : CInv eq ls cs k i) (ha : a = i) (hx : cs[a.toNat]? = some x) (hb : b = i - 1) (hy : cs[b.toNat]? = some y) (he : eq x y) (hn : n = i + 1) : CInv eq ls cs k n := by
  obtain ⟨h1, ⟨h2, h3, h4⟩, h5, h6⟩ := h
  subst ha
  rw [h6 _ (by omega)] at hx
  rw [h6 _ (by omega)] at hy
  have hl := (List.getElem?_eq_some_iff.1 hx).1
  refine ⟨h1, by omega, ?_, fun j hj => h6 j (by omega)⟩
  rw [hn, show (a + 1).toNat = a.toNat + 1 by omega, compN_succ hx, if_neg (keep_no hx (by rw [show a.toNat - 1 = b.toNat by omega]; exact hy) (by omega) he), h5]
theorem CInv.put {β : Type} {eq : β → β → Prop} {ls cs : List β} {k i a b k2 n : Int} {x y : β} (h : CInv eq ls cs k i) (ha : a = i) (hx : cs[a.toNat]? = some x) (hb : b = i - 1) (hy : cs[b.toNat]? = some y) (he : ¬ eq x y) (hk2 : k2 = k + 1) (hn : n = i + 1) : CInv eq ls (cs.set k.toNat x) k2 n := by
  obtain ⟨h1, ⟨h2, h3, h4⟩, h5, h6⟩ := h
  subst ha
  rw [h6 _ (by omega)] at hx
  rw [h6 _ (by omega)] at hy
  have hl := (List.getElem?_eq_some_iff.1 hx).1
  refine ⟨by rw [List.length_set]; exact h1, by omega, ?_, fun j hj => by rw [List.getElem?_set_ne (by omega)]; exact h6 j (by omega)⟩
  rw [hn, hk2, show (a + 1).toNat = a.toNat + 1 by omega, show (k + 1).toNat = k.toNat + 1 by omega, compN_succ hx, if_pos (keep_yes hx (by rw [show a.toNat - 1 = b.toNat by omega]; exact hy) he), ← h5, List.take_add_one, List.take_set_of_le (Nat.le_refl _), List.getElem?_set_self (by omega)]
  rfl
theorem CInv.done {β : Type} {eq : β → β → Prop} {ls cs : List β} {k i : Int} (h : CInv eq ls cs k i) (hi : (ls.length : Int) ≤ i) : cs.take k.toNat = compactL eq ls := by
  obtain ⟨h1, ⟨h2, h3, h4⟩, h5, h6⟩ := h
  rw [h5, compactL, show i.toNat = ls.length by omega]
theorem all_done {β : Type} {eq : β → β → Prop} {ls : List β} {k : Int} (h : Up (fun j => keepI eq ls j) k) (h0 : 0 ≤ k) (hk : k ≤ ls.length) (hk2 : (ls.length : Int) ≤ k) : compactL eq ls = ls := by
  have := all_kept h h0 hk
  rw [show k.toNat = ls.length by omega, List.take_length] at this
  exact this
set_option maxHeartbeats 4000000
theorem compactO_ {β : Type} {R : β → AV} {g : FuncId} {eq : β → β → Prop} {es : List (List AV)} {ls : List (Value × β)} (hp : ∀ x y, AC Tryz.prog g [R x, R y] AV.bool (bP (eq x y))) (hl : es = ls.map (opn R)) (hbl : ls.length ≤ 1048576) : ACS Tryz.prog 60 [.sl true 1 es, .fn g []] (fun r ys => ∃ es', es' = (compactL (fun p q : Value × β => eq p.2 q.2) ls).map (opn R) ∧ r = .sl true 1 es' ∧ ys = [.any, .any]) := by
  refine acs 1 Tryz.func60 (by kernel_rfl) fun E K hE hK => ?_
  conv => cbv
  refine lenL hE hl fun n hn _ => ?_
  conv => cbv
  refine ltI hE (fun h2 => ?_) (fun h2 => ?_) <;> conv => cbv
  · exact hK _ _ ⟨_, by rw [comp_small (by omega)]; exact hl, rfl, rfl⟩
  refine loopC hE (ι := Int) [0, 1] [5] (fun q => (fun (k : Int) => [(5, .int .i64 k)]) q) (fun q => (fun (k : Int) => [.row 1 es]) q) (fun q => (fun (k : Int) => (n - k).toNat) q) (fun q => (fun (k : Int) => (1 ≤ k ∧ k ≤ n) ∧ Up (fun j => keepI (fun p q : Value × β => eq p.2 q.2) ls j) k) q) [0] (by decide) (1) (by conv => lhs; cbv) (by conv => lhs; cbv) rfl rfl (by dsimp only; exact ⟨by omega, fun j hj => fun _ _ _ h0 => by omega⟩) fun k hi Kn hN => ?_
  (try dsimp only at hi)
  conv => cbv
  obtain ⟨⟨k0, k1⟩, hinv⟩ := hi
  repeat' first
    | (refine lenL hE hl (fun n3 hn3 _ => ?_); (try conv => cbv))
    | (refine lenL hE hes2 (fun n5 hn5 _ => ?_); (try conv => cbv))
    | (refine idxL (R := opn R) (i := k) hE hl (by omega) (fun p hx => ?_); obtain ⟨v, x⟩ := p; (try conv => cbv))
    | (refine sub64 hE (a := k) (b := 1) (by omega) (fun m hm => ?_); (try conv => cbv))
    | (refine idxL (R := opn R) (i := m) hE hl (by omega) (fun p hy => ?_); obtain ⟨u, y⟩ := p; (try conv => cbv))
    | (refine callP hE (AC.hd2 (hp x y)) (fun heq => ?_) (fun hne => ?_) <;> (try conv => cbv))
    | (refine subG hE (by simp only [Option.getD_some, Option.getD_none]; first | omega | (rw [hl, List.length_map]; omega)) (fun _ _ => ?_); (try conv => cbv))
    | ((refine loopC hE (ι := Int × Int × (List (Value × β)) × (List (List AV))) [0, 1] [5, 6, 7] (fun q => (fun (k' : Int) (j : Int) (cs : List (Value × β)) (es2 : List (List AV)) => [(5, .int .i64 k'), (6, .vs 0 k n3), (7, .int .i64 j)]) q.1 q.2.1 q.2.2.1 q.2.2.2) (fun q => (fun (k' : Int) (j : Int) (cs : List (Value × β)) (es2 : List (List AV)) => [.row 1 es2]) q.1 q.2.1 q.2.2.1 q.2.2.2) (fun q => (fun (k' : Int) (j : Int) (cs : List (Value × β)) (es2 : List (List AV)) => (n - k - j).toNat) q.1 q.2.1 q.2.2.1 q.2.2.2) (fun q => (fun (k' : Int) (j : Int) (cs : List (Value × β)) (es2 : List (List AV)) => (CInv (fun p q : Value × β => eq p.2 q.2) ls cs k' (k + j) ∧ 1 ≤ j) ∧ es2 = cs.map (opn R)) q.1 q.2.1 q.2.2.1 q.2.2.2) [0] (by decide) ((k, 1, ls, es)) (by conv => lhs; cbv) (by conv => lhs; cbv) rfl rfl (by dsimp only; exact ⟨⟨CInv.start hinv k0 hx hm hy heq, by omega⟩, hl⟩) fun q hi2 Kn2 hN2 => ?_; obtain ⟨k', j, cs, es2⟩ := q; (try dsimp only at hi2); conv => cbv); obtain ⟨⟨hC, hj1⟩, hes2⟩ := hi2; (have hcl := hC.1); obtain ⟨hk0, hk1, hk2⟩ := hC.2.1)
    | (refine sub64 hE (a := n3) (b := k) (by omega) (fun d hd => ?_); (try conv => cbv))
    | (refine needI hE (show 0 ≤ j1 ∧ j1 < n3 - k from ⟨by omega, by omega⟩) ?_; (try conv => cbv))
    | (refine needI hE (show 0 ≤ j ∧ j < n3 - k from ⟨by omega, by omega⟩) ?_; (try conv => cbv))
    | (refine add64 hE (a := k) (b := j) (by omega) (fun a1 ha1 => ?_); (try conv => cbv))
    | (refine idxV (R := opn R) (i := a1) (v := (v2, x2)) hE hes2 (by omega) (by rw [ha1]; exact hx2) ?_; (try conv => cbv))
    | (refine idxL (R := opn R) (i := a1) hE hes2 (by omega) (fun p hx2 => ?_); obtain ⟨v2, x2⟩ := p; rw [ha1] at hx2; (try conv => cbv))
    | (refine sub64 hE (a := j) (b := 1) (by omega) (fun j1 hj1 => ?_); (try conv => cbv))
    | (refine add64 hE (a := k) (b := j1) (by omega) (fun b1 hb1 => ?_); (try conv => cbv))
    | (refine idxL (R := opn R) (i := b1) hE hes2 (by omega) (fun p hy2 => ?_); obtain ⟨u2, y2⟩ := p; (try conv => cbv))
    | (refine callP hE (AC.hd2 (hp x2 y2)) (fun heq2 => ?_) (fun hne2 => ?_) <;> (try conv => cbv))
    | (refine idxL (R := opn R) (i := k') hE hes2 (by omega) (fun p hz2 => ?_); obtain ⟨z2, w2⟩ := p; (try conv => cbv))
    | (refine updL hE (R := opn R) (v2, x2) hes2 (by omega) hz2 (by exact Nat.le_of_ble_eq_true rfl) (by rfl) (fun es3 hes3 => ?_); (try conv => cbv))
    | (refine add64 hE (a := k') (b := 1) (by omega) (fun k2 hk2' => ?_); (try conv => cbv))
    | (refine clrG hE (by rw [hes2, List.length_map]; omega) (fun es3 hl3 ht3 => ?_); (try conv => cbv))
    | (refine subG hE (by simp only [Option.getD_some, Option.getD_none]; rw [hes2, List.length_map]; omega) (fun _ _ => ?_); (try conv => cbv))
    | (refine subG hE (by simp only [Option.getD_some, Option.getD_none]; rw [hl3, hes2, List.length_map]; omega) (fun rr hrr => ?_); (try conv => cbv))
    | (refine hN2 (_, _, cs.set k'.toNat (v2, x2), _) _ [0] (by decide) rfl ⟨⟨?_, ?_⟩, hes3⟩ ?_ <;> (try dsimp only))
    | (refine hN2 (_, _, cs, _) _ [0] (by decide) rfl ⟨⟨?_, ?_⟩, hes2⟩ ?_ <;> (try dsimp only))
    | (refine hN _ _ [0] (by decide) rfl ⟨?_, ?_⟩ ?_ <;> (try dsimp only))
    | ((first
   | refine q0 hE ?_
   | refine B0 hE ?_|refine B1 hE (fun _=>?_) fun _=>?_|refine B3 hE fun _ _ _=>?_|refine B2 hE fun _ _=>?_|refine B4 hE fun _ _ _ _=>?_) <;> (try conv => cbv))
  all_goals (try clear hN)
  all_goals (try clear hN2)
  all_goals first
    | omega
    | (refine hinv.succ (keep_yes hx (by rw [show k.toNat - 1 = m.toNat by omega]; exact hy) hne) (by assumption))
    | (refine hK _ _ ⟨_, ?_, rfl, rfl⟩; rw [hrr]; simp only [Option.getD_some, Int.toNat_zero, List.drop_zero]; rw [ht3, hes2, ← List.map_take, hC.done (by omega)])
    | exact hC.skip rfl hx2 (by omega) hy2 heq2 (by omega)
    | exact hC.put rfl hx2 (by omega) hy2 hne2 (by assumption) (by omega)
    | exact hes3
    | exact hes2
    | exact hK _ _ ⟨_, by rw [all_done hinv (by omega) (by omega) (by omega)]; exact hl, rfl, rfl⟩
    | trace_state
end Go.Proofs.YtoafgafkmeghlaaGreatDoor
