/- Contracts: the order in which visits are due (the reference's). -/
import Derived.Test.YtcmgdilpljiljaaFdl
namespace Go.Proofs.Ytcmgdilpljiljaa
open Go Go.RowKit Classical
set_option maxRecDepth 100000
set_option maxHeartbeats 2000000
set_option linter.unusedVariables false
set_option linter.unusedSimpArgs false
def vAt (l : List Vis) (k : Int) : Vis := l.getD k.toNat ⟨0, 0, 0⟩
theorem vAt_eq {l : List Vis} {k : Int} {v : Vis} (h : l[k.toNat]? = some v) : vAt l k = v := by
  unfold vAt; rw [List.getD_eq_getElem?_getD, h]; rfl
def scanP (l : List Vis) (o : List Int) (d : Int) : Nat → Nat
  | 0 => 0
  | n + 1 => if d < (vAt l (o.getD n 0)).due then scanP l o d n else n + 1
theorem scanP_le (l : List Vis) (o : List Int) (d : Int) : ∀ n, scanP l o d n ≤ n
  | 0 => Nat.le_refl _
  | n + 1 => by
    unfold scanP
    split
    · exact Nat.le_succ_of_le (scanP_le l o d n)
    · exact Nat.le_refl _
def ordStep (l : List Vis) (day : Int) (o : List Int) (i : Int) : List Int := if day < (vAt l i).due then o else o.take (scanP l o (vAt l i).due o.length) ++ i :: o.drop (scanP l o (vAt l i).due o.length)
def ordTo (l : List Vis) (day : Int) : Nat → List Int
  | 0 => []
  | n + 1 => ordStep l day (ordTo l day n) n
theorem ordTo_mem (l : List Vis) (day : Int) : ∀ n, (∀ k ∈ ordTo l day n, 0 ≤ k ∧ k < n) ∧ (ordTo l day n).length ≤ n
  | 0 => ⟨fun k h => by simp [ordTo] at h, Nat.le_refl _⟩
  | n + 1 => by
    obtain ⟨h1, h2⟩ := ordTo_mem l day n
    unfold ordTo ordStep
    split
    · exact ⟨fun k hk => by have := h1 k hk; omega, by omega⟩
    · refine ⟨fun k hk => ?_, ?_⟩
      · rcases List.mem_append.1 hk with h | h
        · have := h1 k (List.mem_of_mem_take h); omega
        · rcases List.mem_cons.1 h with rfl | h
          · omega
          · have := h1 k (List.mem_of_mem_drop h); omega
      · have := congrArg List.length (List.take_append_drop (scanP l (ordTo l day n) (vAt l n).due (ordTo l day n).length) (ordTo l day n))
        rw [List.length_append] at this
        rw [List.length_append, List.length_cons]; omega
theorem scanP_down {l : List Vis} {o : List Int} {d : Int} {a n m q : Int} (hq : o[n.toNat]? = some q) (h0 : 0 < a) (hn : n = a - 1) (hm : m = a - 1) (h : d < (vAt l q).due) : scanP l o d a.toNat = scanP l o d m.toNat := by
  rw [show a.toNat = n.toNat + 1 by omega, scanP, List.getD_eq_getElem?_getD, hq]
  rw [show m.toNat = n.toNat by omega]
  exact if_pos h
theorem scanP_stop {l : List Vis} {o : List Int} {d : Int} {a n q : Int} (hq : o[n.toNat]? = some q) (h0 : 0 < a) (hn : n = a - 1) (h : ¬ d < (vAt l q).due) : scanP l o d a.toNat = a.toNat := by
  rw [show a.toNat = n.toNat + 1 by omega, scanP, List.getD_eq_getElem?_getD, hq]
  exact if_neg h
theorem scanP_end {l : List Vis} {o : List Int} {d : Int} {a : Int} (h0 : a ≤ 0) : scanP l o d a.toNat = a.toNat := by
  rw [show a.toNat = 0 by omega]; rfl
theorem ordTo_skip {l : List Vis} {day i n : Int} (h0 : 0 ≤ i) (hn : n = i + 1) (h : day < (vAt l i).due) : ordTo l day n.toNat = ordTo l day i.toNat := by
  rw [show n.toNat = i.toNat + 1 by omega, ordTo, ordStep, Int.toNat_of_nonneg h0, if_pos h]
theorem ordTo_put {l : List Vis} {day i n : Int} {o : List Int} {a : Int} (h0 : 0 ≤ i) (hn : n = i + 1) (h : ¬ day < (vAt l i).due) (ho : o = ordTo l day i.toNat) (ha : scanP l o (vAt l i).due o.length = a.toNat) : ordTo l day n.toNat = o.take a.toNat ++ i :: o.drop a.toNat := by
  rw [show n.toNat = i.toNat + 1 by omega, ordTo, ordStep, Int.toNat_of_nonneg h0, if_neg h, ← ho, ha]
theorem l30Order_ {rs : List (List AV)} {t : Bool} {l : List Vis} (day : Int) (hl : rs = l.map Vis.cs) (hb0 : l.length ≤ 1048576) : AC Try.prog 86 [.sl t 3 rs, .int .i64 day] (fun l : List Int => .sl true 1 (l.map intR)) (ordTo l day l.length) := by
  refine ac Try.func86 (by kernel_rfl) (.ints _) fun E K hE hK => ?_
  conv => cbv
  refine loopC hE (ι := Int × (List (List AV))) [0, 1] [6, 5] (fun q => (fun (i : Int) (es : List (List AV)) => [(6, .int .i64 i), (5, .ob 0)]) q.1 q.2) (fun q => (fun (i : Int) (es : List (List AV)) => [.row 1 es]) q.1 q.2) (fun q => (fun (i : Int) (es : List (List AV)) => (l.length - i).toNat) q.1 q.2) (fun q => (fun (i : Int) (es : List (List AV)) => (0 ≤ i ∧ i ≤ l.length) ∧ es = (ordTo l day i.toNat).map intR) q.1 q.2) [0] (by decide) ((0, [])) (by conv => lhs; cbv) (by conv => lhs; cbv) rfl rfl (by dsimp only; exact ⟨by omega, rfl⟩) fun q hi Kn hN => ?_
  obtain ⟨i, es⟩ := q
  (try dsimp only at hi)
  conv => cbv
  obtain ⟨⟨h0, h1⟩, h2⟩ := hi
  obtain ⟨o, ho⟩ : ∃ o, o = ordTo l day i.toNat := ⟨_, rfl⟩
  rw [← ho] at h2
  have hom := ordTo_mem l day i.toNat
  rw [← ho] at hom
  repeat' first
    | (refine idxV hE hl (by omega) (by assumption) ?_; (try conv => cbv))
    | (refine idxV hE h2 (by omega) (by assumption) ?_; (try conv => cbv))
    | ((refine loopC hE (ι := Int) [0, 1, 5, 6] [7] (fun q => (fun (a : Int) => [(7, .int .i64 a)]) q) (fun q => (fun (a : Int) => [.row 1 es]) q) (fun q => (fun (a : Int) => (a).toNat) q) (fun q => (fun (a : Int) => (0 ≤ a ∧ a ≤ o.length) ∧ scanP l o (vAt l i).due o.length = scanP l o (vAt l i).due a.toNat) q) [0] (by decide) (_) (by conv => lhs; cbv) (by conv => lhs; cbv) rfl rfl (by dsimp only; exact ⟨by omega, by subst_vars; rfl⟩) fun a hi2 Kn2 hN2 => ?_; (try dsimp only at hi2); conv => cbv); obtain ⟨⟨a0, a1⟩, ainv⟩ := hi2)
    | (refine idxL hE h2 (by omega) (fun q hq => ?_); have hq2 := hom.1 q (List.mem_of_getElem? hq); (try conv => cbv))
    | (refine idxL hE hl (by omega) (fun v hv => ?_); have hva := congrArg Vis.due (vAt_eq hv); obtain ⟨aid, every, last⟩ := v; simp only [Vis.due] at hva; (try conv => cbv))
    | (refine hN2 _ _ [0] (by decide) rfl ⟨?_, ?_⟩ ?_ <;> (try dsimp only))
    | (refine hN (_, _) _ [5] (by decide) rfl ⟨?_, ?_⟩ ?_ <;> (try dsimp only))
    | (refine hN (_, _) _ [0] (by decide) rfl ⟨?_, ?_⟩ ?_ <;> (try dsimp only))
    | ((first
     | refine idxV hE (by assumption) (by omega) (by assumption) ?_
     | refine callI hE (l30Due_ _ _ _) (fun _ _ => ?_)
     | refine subL hE h2 (by simp only [Option.getD_some, Option.getD_none]; omega) (fun _ _ => ?_)
     | refine flatInts hE (by assumption) ?_
     | refine cat0L hE (R := intR) (by assumption) (by simp only [List.length_take, List.length_drop]; omega) (fun _ _ => ?_)
     | refine catP hE (R := intR) (by assumption) rfl (by simp only [List.length_append, List.length_take, List.length_drop, List.length_cons, List.length_nil]; omega) (fun _ _ => ?_)
     | refine catL hE (R := intR) (by assumption) (by assumption) (by simp only [List.length_append, List.length_take, List.length_drop, List.length_cons, List.length_nil]; omega) (fun _ _ => ?_)
     | refine ltT hE (by omega) ?_
     | refine ltF hE (by omega) ?_
     | refine ltI hE (fun _ => ?_) (fun _ => ?_)
     | refine leT hE (by omega) ?_
     | refine leF hE (by omega) ?_
     | refine leI hE (fun _ => ?_) (fun _ => ?_)
     | refine eqT hE (by omega) ?_
     | refine eqF hE (by omega) ?_
     | refine eqI hE (fun _ => ?_) (fun _ => ?_)
     | refine add64 hE (by omega) (fun _ _ => ?_)
     | refine sub64 hE (by omega) (fun _ _ => ?_)
     | refine addI hE (fun _ _ => ?_)
     | refine subI hE (fun _ _ => ?_)
     | refine lenL hE (by assumption) (fun _ _ _ => ?_)
     | refine len0 hE (fun _ _ => ?_)
     | refine idxL hE (by assumption) (by first | omega | (simp only [List.length_set, mix_len]; omega)) (fun _ _ => ?_)
     | refine idxFill hE (by assumption) (by omega) ?_
     | refine idxI hE (by decide) (by rfl) ?_
     | refine iteB (fun _ => ?_) (fun _ => ?_)
     | refine maxI hE (fun _ _ => ?_)
     | refine minI hE (fun _ _ => ?_)
     | refine seqI hE (fun _ => ?_) (fun _ => ?_)
     | refine scatI hE (by first | omega | (simp only [ByteArray.size, Array.size, List.length_cons, List.length_nil] at *; omega)) (fun _ _ _ => ?_)
     | refine slenI hE (fun _ _ _ => ?_)
     | refine sidxI hE (by omega) (fun _ _ _ _ => ?_)
     | refine needI hE (by first | decide | omega) ?_
     | refine rem64 hE (by omega) (fun _ _ => ?_)
     | refine quo64 hE (by omega) (fun _ _ => ?_)
     | refine wrapU8 hE (by omega) (fun _ _ => ?_)
     | refine wrap64 hE (by omega) (fun _ _ => ?_)
     | refine noownI hE (by simp [AV.isOwn]) ?_) <;> (try conv => cbv))
  all_goals (try clear hN)
  all_goals (try clear hN2)
  all_goals first
    | omega
    | (refine ainv.trans (scanP_down (by assumption) (by assumption) (by assumption) (by assumption) ?_); unfold Vis.due; omega)
    | (rw [ordTo_skip h0 (by assumption) (by unfold Vis.due; omega), ← ho]; exact h2)
    | (have hst : scanP l o (vAt l i).due o.length = a.toNat := (by first | exact ainv.trans (scanP_end (by omega)) | exact ainv.trans (scanP_stop (by assumption) (by assumption) (by assumption) (by unfold Vis.due; omega))); rw [ordTo_put h0 (by assumption) (by unfold Vis.due; omega) ho hst]; subst_vars; simp; done)
    | (refine hK _ ?_; rw [h2, ho, show i.toNat = l.length by omega]; rfl)
    | trace_state
end Go.Proofs.Ytcmgdilpljiljaa
