/- Contracts: nearest quotients, places between points. -/
import Derived.Test.YtffkcjcaeppboacGreatDoorHcp
namespace Go.Proofs.YtffkcjcaeppboacGreatDoor
open Go Go.RowKit Classical
set_option maxRecDepth 100000
set_option maxHeartbeats 2000000
set_option linter.unusedVariables false
set_option linter.unusedSimpArgs false
theorem quo_bd {q a b : Int} (h : q = a / b) (h0 : 0 ≤ a ∧ 0 < b) : 0 ≤ q ∧ q ≤ a := by
  rw [h]; exact ⟨Int.ediv_nonneg h0.1 (by omega), Int.ediv_le_self b h0.1⟩
theorem divRound_ (a b : Int) (ha : -1000000000000000 ≤ a ∧ a ≤ 1000000000000000) (hb : 1 ≤ b ∧ b ≤ 1000000000) : AC Tryz.prog 214 [.int .i64 a, .int .i64 b] (AV.int .i64) (divR a b) := by
  refine ac Tryz.func214 (by kernel_rfl) (.int _ _) fun E K hE hK => ?_
  conv => cbv
  repeat' first
    | (refine maxI (a := b) hE (fun mb hmb => ?_); (have hm2 : b = mb := by omega); subst hm2; (try conv => cbv))
    | (refine maxI (a := a) hE (fun m hm => ?_); (have hh := halfR_eq (a := m) (b := b) (by omega)); (have hr0 := Int.emod_nonneg m (show b ≠ 0 by omega)); (have hr1 := Int.emod_lt_of_pos m (show 0 < b by omega)); (try conv => cbv))
    | (refine quo64 hE (by omega) (fun q hq => ?_); (have hq2 := quo_bd hq (by omega)); (try conv => cbv))
    | ((first
   | refine q0 hE ?_
   | refine B0 hE ?_|refine B1 hE (fun _=>?_) fun _=>?_|refine B3 hE fun _ _ _=>?_|refine B2 hE fun _ _=>?_|refine B4 hE fun _ _ _ _=>?_) <;> (try conv => cbv))
  all_goals first
    | omega
    | (refine hK _ ?_; show AV.int _ _ = AV.int _ _; congr 1; unfold divR; rw [if_pos (by omega), show -a = m by omega, hh]; split <;> omega)
    | (refine hK _ ?_; show AV.int _ _ = AV.int _ _; congr 1; unfold divR; rw [if_neg (by omega), show a = m by omega, hh]; split <;> omega)
    | trace_state
theorem l01Div_ (a b : Int) (ha : -1000000000000000 ≤ a ∧ a ≤ 1000000000000000) (hb : 1 ≤ b ∧ b ≤ 1000000000) : AC Tryz.prog 287 [.int .i64 a, .int .i64 b] (AV.int .i64) (divR a b) := by
  refine ac Tryz.func287 (by kernel_rfl) (.int _ _) fun E K hE hK => ?_
  conv => cbv
  repeat' first
    | (refine mul64 hE (by omega) (fun m hm => ?_); (try conv => cbv))
    | (refine quo64 hE (by omega) (fun q hq => ?_); (have hq2 := quo_bd hq (by omega)); (try conv => cbv))
    | ((first
   | refine q0 hE ?_
   | refine B0 hE ?_|refine B1 hE (fun _=>?_) fun _=>?_|refine B3 hE fun _ _ _=>?_|refine B2 hE fun _ _=>?_|refine B4 hE fun _ _ _ _=>?_) <;> (try conv => cbv))
  all_goals first
    | omega
    | (refine hK _ ?_; show AV.int _ _ = AV.int _ _; congr 1; unfold divR halfR; rw [if_pos (by omega)]; subst_vars; rw [show 2 * -a + b = b - 2 * a by omega]; omega)
    | (refine hK _ ?_; show AV.int _ _ = AV.int _ _; congr 1; unfold divR halfR; rw [if_neg (by omega)]; subst_vars; omega)
    | trace_state
theorem divB {a b y B : Int} (hy : y = divR a b) (hb : 1 ≤ b) (h : -B ≤ a ∧ a ≤ B) : -B ≤ y ∧ y ≤ B := by
  rw [hy]; exact divR_bd (by omega) h
theorem btw_bd {u v : Int} (hu : -300000 ≤ u ∧ u ≤ 300000) (hv : -300000 ≤ v ∧ v ≤ 300000) : -90000000000 ≤ u * v ∧ u * v ≤ 90000000000 := by
  have := mul_bd (a := u) (b := v) (B := 300000) (by omega); omega
theorem mulB {E : Env} {np : Nat} {P : Program} (hE : E = stdE np P) {a b : Int} {K : Int → Prop} (h : (-300000 ≤ a ∧ a ≤ 300000) ∧ -300000 ≤ b ∧ b ≤ 300000) (hk : ∀ m, m = a * b → -90000000000 ≤ m ∧ m ≤ 90000000000 → K m) : E.mul .i64 a b K := by
  have h1 := btw_bd h.1 h.2
  exact mul64 hE (by omega) fun m hm => hk m hm (by omega)
theorem between_ (ax ay bx by' i n : Int) (ha : PtOk ax ay) (hb : PtOk bx by') (hn : 1 ≤ n ∧ n ≤ 300000) (hi : 0 ≤ i ∧ i ≤ n) : AC Tryz.prog 239 [.agg [.int .i64 ax, .int .i64 ay], .agg [.int .i64 bx, .int .i64 by'], .int .i64 i, .int .i64 n] (fun p : Pnt => .agg p.cs) (btwR ⟨ax, ay⟩ ⟨bx, by'⟩ i n) := by
  refine ac Tryz.func239 (by kernel_rfl) (.oPnt _) fun E K hE hK => ?_
  conv => cbv
  have ha' := ha
  have hb' := hb
  unfold PtOk at ha' hb'
  repeat' first
    | (refine mulB hE (by omega) (fun m hm hmb => ?_); (try conv => cbv))
    | (refine callI hE (divRound_ _ _ (by omega) (by omega)) (fun y hy => ?_); (have hyb := divB (B := 90000000000) hy (by omega) (by omega)); (try conv => cbv))
    | ((first
   | refine q0 hE ?_
   | refine B0 hE ?_|refine B1 hE (fun _=>?_) fun _=>?_|refine B3 hE fun _ _ _=>?_|refine B2 hE fun _ _=>?_|refine B4 hE fun _ _ _ _=>?_) <;> (try conv => cbv))
  all_goals first
    | (refine hK _ ?_; unfold btwR; rw [if_pos (by simp only; omega)]; subst_vars; rfl)
    | (refine hK _ ?_; unfold btwR; rw [if_neg (by simp only; omega)]; subst_vars; rfl)
    | trace_state
theorem l02Between_ (ax ay bx by' i n : Int) (ha : PtOk ax ay) (hb : PtOk bx by') (hn : 1 ≤ n ∧ n ≤ 300000) (hi : 0 ≤ i ∧ i ≤ n) : AC Tryz.prog 304 [.agg [.int .i64 ax, .int .i64 ay], .agg [.int .i64 bx, .int .i64 by'], .int .i64 i, .int .i64 n] (fun p : Pnt => .agg p.cs) (btwR ⟨ax, ay⟩ ⟨bx, by'⟩ i n) := by
  refine ac Tryz.func304 (by kernel_rfl) (.oPnt _) fun E K hE hK => ?_
  conv => cbv
  have ha' := ha
  have hb' := hb
  unfold PtOk at ha' hb'
  repeat' first
    | (refine mulB hE (by omega) (fun m hm hmb => ?_); (try conv => cbv))
    | (refine callI hE (l01Div_ _ _ (by omega) (by omega)) (fun y hy => ?_); (have hyb := divB (B := 90000000000) hy (by omega) (by omega)); (try conv => cbv))
    | ((first
   | refine q0 hE ?_
   | refine B0 hE ?_|refine B1 hE (fun _=>?_) fun _=>?_|refine B3 hE fun _ _ _=>?_|refine B2 hE fun _ _=>?_|refine B4 hE fun _ _ _ _=>?_) <;> (try conv => cbv))
  all_goals first
    | (refine hK _ ?_; unfold btwR; rw [if_pos (by simp only; omega)]; subst_vars; rfl)
    | (refine hK _ ?_; unfold btwR; rw [if_neg (by simp only; omega)]; subst_vars; rfl)
    | trace_state
end Go.Proofs.YtffkcjcaeppboacGreatDoor
