/- Contracts: logarithms, ranges. -/
import Derived.Test.YtoafgafkmeghlaaGreatDoorFC
namespace Go.Proofs.YtoafgafkmeghlaaGreatDoor
open Go Go.RowKit Classical
set_option maxRecDepth 100000
set_option maxHeartbeats 2000000
set_option linter.unusedVariables false
set_option linter.unusedSimpArgs false
def levN (n : Int) : Nat → Int × Int
  | 0 => (ilog n, sc n)
  | k + 1 => lev (levN n k)
theorem levN_bd {n : Int} (h : 1 ≤ n ∧ n ≤ 100000000) {k : Nat} (hk : k ≤ 3) : Man (levN n k).2 ∧ 0 ≤ (levN n k).1 ∧ (levN n k).1 ≤ 9000 := by
  have h0 : Man (ilog n, sc n).2 := sc_bd h
  have h1 := lev_bd h0
  have h2 := lev_bd h1.1
  have h3 := lev_bd h2.1
  have h4 := ilog_bd n
  simp only at *
  match k, hk with
  | 0, _ => exact ⟨h0, by show 0 ≤ ilog n; omega, by show ilog n ≤ 9000; omega⟩
  | 1, _ => exact ⟨h1.1, by show 0 ≤ (lev (ilog n, sc n)).1; omega, by show (lev (ilog n, sc n)).1 ≤ 9000; omega⟩
  | 2, _ => exact ⟨h2.1, by show 0 ≤ (lev (lev (ilog n, sc n))).1; omega, by show (lev (lev (ilog n, sc n))).1 ≤ 9000; omega⟩
  | 3, _ => exact ⟨h3.1, by show 0 ≤ (lev (lev (lev (ilog n, sc n)))).1; omega, by show (lev (lev (lev (ilog n, sc n)))).1 ≤ 9000; omega⟩
theorem itr_yes {x d y j j' : Int} (h0 : 0 ≤ j) (e : (d, y) = itr x j.toNat) (h : 1000000000 ≤ yd y x) (hj : j' = j + 1) : (d + 1, yd y x / 10) = itr x j'.toNat := by
  rw [hj, show (j + 1).toNat = j.toNat + 1 by omega]
  show _ = stp x (itr x j.toNat)
  rw [← e]
  unfold stp
  rw [if_pos h]
theorem itr_no {x d y j j' : Int} (h0 : 0 ≤ j) (e : (d, y) = itr x j.toNat) (h : ¬ 1000000000 ≤ yd y x) (hj : j' = j + 1) : (d, yd y x) = itr x j'.toNat := by
  rw [hj, show (j + 1).toNat = j.toNat + 1 by omega]
  show _ = stp x (itr x j.toNat)
  rw [← e]
  unfold stp
  rw [if_neg h]
theorem levN_step {n c c' r x d y j : Int} (h0 : 0 ≤ c) (e1 : r = (levN n c.toNat).1) (e2 : x = (levN n c.toNat).2) (hc : c' = c + 1) (hj : j = 10) (e : (d, y) = itr x j.toNat) : 10 * r + d = (levN n c'.toNat).1 ∧ y = (levN n c'.toNat).2 := by
  rw [hc, show (c + 1).toNat = c.toNat + 1 by omega]
  show _ = (lev (levN n c.toNat)).1 ∧ _ = (lev (levN n c.toNat)).2
  unfold lev
  rw [← e1, ← e2]
  rw [hj] at e
  have e' : itr x 10 = (d, y) := e.symm
  rw [e']
  exact ⟨rfl, rfl⟩
theorem tenLog_ (n : Int) (hn : 1 ≤ n ∧ n ≤ 100000000) : AC Tryz.prog 249 [.int .i64 n] (AV.int .i64) (tlog n) := by
  refine ac Tryz.func249 (by kernel_rfl) (.int _ _) fun E K hE hK => ?_
  conv => cbv
  have hib := ilog_bd n
  refine loopC hE (ι := Int × Int) [4] [3, 5] (fun q => (fun (r : Int) (m : Int) => [(3, .int .i64 r), (5, .int .i64 m)]) q.1 q.2) (fun q => (fun (r : Int) (m : Int) => []) q.1 q.2) (fun q => (fun (r : Int) (m : Int) => (m).toNat) q.1 q.2) (fun q => (fun (r : Int) (m : Int) => (0 ≤ r ∧ 1 ≤ m ∧ m ≤ 100000000) ∧ r + ilog m = ilog n) q.1 q.2) [] (by decide) ((0, n)) (by conv => lhs; cbv) (by conv => lhs; cbv) rfl rfl (by dsimp only; exact ⟨by omega, by omega⟩) fun q hi Kn hN => ?_
  obtain ⟨r, m⟩ := q
  (try dsimp only at hi)
  conv => cbv
  obtain ⟨⟨h0, h1, h2⟩, h3⟩ := hi
  have hm0 := ilog_bd m
  repeat' first
    | (refine hN (_, _) _ [] (by decide) rfl ⟨?_, ?_⟩ ?_ <;> (try dsimp only))
    | ((first
   | refine q0 hE ?_
   | refine B0 hE ?_|refine B1 hE (fun _=>?_) fun _=>?_|refine B3 hE fun _ _ _=>?_|refine B2 hE fun _ _=>?_|refine B4 hE fun _ _ _ _=>?_) <;> (try conv => cbv))
  all_goals first
    | omega
    | (have hs := ilog_step (n := m) (by omega); subst_vars; omega)
    | skip
  clear hN
  have hr : r = ilog n := by have := ilog_small (n := m) (by omega); omega
  refine loopC hE (ι := Int × Int) [3] [4, 6] (fun q => (fun (x : Int) (k : Int) => [(4, .int .i64 x), (6, .int .i64 k)]) q.1 q.2) (fun q => (fun (x : Int) (k : Int) => []) q.1 q.2) (fun q => (fun (x : Int) (k : Int) => (8 - k).toNat) q.1 q.2) (fun q => (fun (x : Int) (k : Int) => (r ≤ k ∧ k ≤ 8) ∧ x = n * p10 (k - r)) q.1 q.2) [] (by decide) ((n, r)) (by conv => lhs; cbv) (by conv => lhs; cbv) rfl rfl (by dsimp only; exact ⟨by omega, by rw [show r - r = 0 by omega]; show n = n * 1; omega⟩) fun q hi Kn hN => ?_
  obtain ⟨x, k⟩ := q
  (try dsimp only at hi)
  conv => cbv
  obtain ⟨h4, h5⟩ := hi
  have hb := scx_bd hn (k := k - r) (by omega)
  repeat' first
    | (refine mul64 hE (by omega) (fun _ _ => ?_); (try conv => cbv))
    | (refine hN (_, _) _ [] (by decide) rfl ⟨?_, ?_⟩ ?_ <;> (try dsimp only))
    | ((first
   | refine q0 hE ?_
   | refine B0 hE ?_|refine B1 hE (fun _=>?_) fun _=>?_|refine B3 hE fun _ _ _=>?_|refine B2 hE fun _ _=>?_|refine B4 hE fun _ _ _ _=>?_) <;> (try conv => cbv))
  all_goals first
    | omega
    | (have hs := scx_succ (n := n) (r := r) (k := k) (x := x) (by omega) h5; clear hN hK; subst_vars; exact hs)
    | skip
  clear hN
  have hxs : x = sc n := by rw [h5, show k = 8 by omega, hr]; rfl
  refine loopC hE (ι := Int × Int) [3] [4, 7] (fun q => (fun (x2 : Int) (k2 : Int) => [(4, .int .i64 x2), (7, .int .i64 k2)]) q.1 q.2) (fun q => (fun (x2 : Int) (k2 : Int) => []) q.1 q.2) (fun q => (fun (x2 : Int) (k2 : Int) => ((0 : Int)).toNat) q.1 q.2) (fun q => (fun (x2 : Int) (k2 : Int) => k2 = 8 ∧ x2 = sc n) q.1 q.2) [] (by decide) ((x, 8)) (by conv => lhs; cbv) (by conv => lhs; cbv) rfl rfl (by dsimp only; exact ⟨rfl, hxs⟩) fun q hi Kn hN => ?_
  obtain ⟨x2, k2⟩ := q
  (try dsimp only at hi)
  conv => cbv
  obtain ⟨h6, h7⟩ := hi
  repeat' first
    | ((first
   | refine q0 hE ?_
   | refine B0 hE ?_|refine B1 hE (fun _=>?_) fun _=>?_|refine B3 hE fun _ _ _=>?_|refine B2 hE fun _ _=>?_|refine B4 hE fun _ _ _ _=>?_) <;> (try conv => cbv))
  clear hN
  refine loopC hE (ι := Int × Int × Int) [] [32, 3, 4] (fun q => (fun (c : Int) (r3 : Int) (x3 : Int) => [(32, .int .i64 c), (3, .int .i64 r3), (4, .int .i64 x3)]) q.1 q.2.1 q.2.2) (fun q => (fun (c : Int) (r3 : Int) (x3 : Int) => []) q.1 q.2.1 q.2.2) (fun q => (fun (c : Int) (r3 : Int) (x3 : Int) => (3 - c).toNat) q.1 q.2.1 q.2.2) (fun q => (fun (c : Int) (r3 : Int) (x3 : Int) => (0 ≤ c ∧ c ≤ 3) ∧ r3 = (levN n c.toNat).1 ∧ x3 = (levN n c.toNat).2) q.1 q.2.1 q.2.2) [] (by decide) ((0, r, x2)) (by conv => lhs; cbv) (by conv => lhs; cbv) rfl rfl (by dsimp only; exact ⟨by omega, hr, h7⟩) fun q hi Kn hN => ?_
  obtain ⟨c, r3, x3⟩ := q
  (try dsimp only at hi)
  conv => cbv
  obtain ⟨hc, e1, e2⟩ := hi
  have hl := levN_bd hn (k := c.toNat) (by omega)
  rw [← e1, ← e2] at hl
  repeat' first
    | ((refine loopC hE (ι := Int × Int × Int) [3, 4, 32] [34, 8, 9] (fun q => (fun (j : Int) (y : Int) (d : Int) => [(34, .int .i64 j), (8, .int .i64 y), (9, .int .i64 d)]) q.1 q.2.1 q.2.2) (fun q => (fun (j : Int) (y : Int) (d : Int) => []) q.1 q.2.1 q.2.2) (fun q => (fun (j : Int) (y : Int) (d : Int) => (10 - j).toNat) q.1 q.2.1 q.2.2) (fun q => (fun (j : Int) (y : Int) (d : Int) => (0 ≤ j ∧ j ≤ 10) ∧ (d, y) = itr x3 j.toNat) q.1 q.2.1 q.2.2) [] (by decide) ((0, 100000000, 0)) (by conv => lhs; cbv) (by conv => lhs; cbv) rfl rfl (by dsimp only; exact ⟨by omega, rfl⟩) fun q hi2 Kn2 hN2 => ?_; obtain ⟨j, y, d⟩ := q; (try dsimp only at hi2); conv => cbv); obtain ⟨h8, e3⟩ := hi2; have hb2 := itr_bd hl.1 j.toNat; rw [← e3] at hb2; have hy := yd_bd hb2.1 hl.1; simp only [Man] at hb2 hy)
    | (refine mul64 hE (by omega) (fun _ _ => ?_); (try conv => cbv))
    | (refine hN (_, _, _) _ [] (by decide) rfl ⟨?_, ?_, ?_⟩ ?_ <;> (try dsimp only))
    | (refine hN2 (_, _, _) _ [] (by decide) rfl ⟨?_, ?_⟩ ?_ <;> (try dsimp only))
    | ((first
   | refine q0 hE ?_
   | refine B0 hE ?_|refine B1 hE (fun _=>?_) fun _=>?_|refine B3 hE fun _ _ _=>?_|refine B2 hE fun _ _=>?_|refine B4 hE fun _ _ _ _=>?_) <;> (try conv => cbv))
  all_goals (try clear hN)
  all_goals (try clear hN2)
  all_goals first
    | omega
    | (clear hK; subst_vars; exact itr_yes (by omega) e3 (by assumption) rfl)
    | (clear hK; subst_vars; exact itr_no (by omega) e3 (by unfold yd; omega) rfl)
    | (have hst := levN_step hc.1 e1 e2 (by assumption) (show j = 10 by omega) e3; clear hK; subst_vars; first | exact hst.1 | exact hst.2)
    | (refine hK _ ?_; rw [e1, show c = 3 by omega]; rfl)
    | trace_state
theorem l09Log_ (n : Int) (hn : 1 ≤ n ∧ n ≤ 100000000) : AC Tryz.prog 247 [.int .i64 n] (AV.int .i64) (tlog n) := by
  refine ac Tryz.func247 (by kernel_rfl) (.int _ _) fun E K hE hK => ?_
  conv => cbv
  have hib := ilog_bd n
  refine loopC hE (ι := Int × Int) [0] [3, 4] (fun q => (fun (r : Int) (m : Int) => [(3, .int .i64 r), (4, .int .i64 m)]) q.1 q.2) (fun q => (fun (r : Int) (m : Int) => []) q.1 q.2) (fun q => (fun (r : Int) (m : Int) => (m).toNat) q.1 q.2) (fun q => (fun (r : Int) (m : Int) => (0 ≤ r ∧ 1 ≤ m ∧ m ≤ 100000000) ∧ r + ilog m = ilog n) q.1 q.2) [] (by decide) ((0, n)) (by conv => lhs; cbv) (by conv => lhs; cbv) rfl rfl (by dsimp only; exact ⟨by omega, by omega⟩) fun q hi Kn hN => ?_
  obtain ⟨r, m⟩ := q
  (try dsimp only at hi)
  conv => cbv
  obtain ⟨⟨h0, h1, h2⟩, h3⟩ := hi
  have hm0 := ilog_bd m
  repeat' first
    | (refine hN (_, _) _ [] (by decide) rfl ⟨?_, ?_⟩ ?_ <;> (try dsimp only))
    | ((first
   | refine q0 hE ?_
   | refine B0 hE ?_|refine B1 hE (fun _=>?_) fun _=>?_|refine B3 hE fun _ _ _=>?_|refine B2 hE fun _ _=>?_|refine B4 hE fun _ _ _ _=>?_) <;> (try conv => cbv))
  all_goals first
    | omega
    | (have hs := ilog_step (n := m) (by omega); subst_vars; omega)
    | skip
  clear hN
  have hr : r = ilog n := by have := ilog_small (n := m) (by omega); omega
  refine loopC hE (ι := Int × Int) [3] [5, 6] (fun q => (fun (x : Int) (k : Int) => [(5, .int .i64 x), (6, .int .i64 k)]) q.1 q.2) (fun q => (fun (x : Int) (k : Int) => []) q.1 q.2) (fun q => (fun (x : Int) (k : Int) => (8 - k).toNat) q.1 q.2) (fun q => (fun (x : Int) (k : Int) => (r ≤ k ∧ k ≤ 8) ∧ x = n * p10 (k - r)) q.1 q.2) [] (by decide) ((n, r)) (by conv => lhs; cbv) (by conv => lhs; cbv) rfl rfl (by dsimp only; exact ⟨by omega, by rw [show r - r = 0 by omega]; show n = n * 1; omega⟩) fun q hi Kn hN => ?_
  obtain ⟨x, k⟩ := q
  (try dsimp only at hi)
  conv => cbv
  obtain ⟨h4, h5⟩ := hi
  have hb := scx_bd hn (k := k - r) (by omega)
  repeat' first
    | (refine mul64 hE (by omega) (fun _ _ => ?_); (try conv => cbv))
    | (refine hN (_, _) _ [] (by decide) rfl ⟨?_, ?_⟩ ?_ <;> (try dsimp only))
    | ((first
   | refine q0 hE ?_
   | refine B0 hE ?_|refine B1 hE (fun _=>?_) fun _=>?_|refine B3 hE fun _ _ _=>?_|refine B2 hE fun _ _=>?_|refine B4 hE fun _ _ _ _=>?_) <;> (try conv => cbv))
  all_goals first
    | omega
    | (have hs := scx_succ (n := n) (r := r) (k := k) (x := x) (by omega) h5; clear hN hK; subst_vars; exact hs)
    | skip
  clear hN
  have hxs : x = sc n := by rw [h5, show k = 8 by omega, hr]; rfl
  refine loopC hE (ι := Int × Int) [3] [5, 7] (fun q => (fun (x2 : Int) (k2 : Int) => [(5, .int .i64 x2), (7, .int .i64 k2)]) q.1 q.2) (fun q => (fun (x2 : Int) (k2 : Int) => []) q.1 q.2) (fun q => (fun (x2 : Int) (k2 : Int) => ((0 : Int)).toNat) q.1 q.2) (fun q => (fun (x2 : Int) (k2 : Int) => k2 = r ∧ x2 = sc n) q.1 q.2) [] (by decide) ((x, r)) (by conv => lhs; cbv) (by conv => lhs; cbv) rfl rfl (by dsimp only; exact ⟨rfl, hxs⟩) fun q hi Kn hN => ?_
  obtain ⟨x2, k2⟩ := q
  (try dsimp only at hi)
  conv => cbv
  obtain ⟨h6, h7⟩ := hi
  repeat' first
    | ((first
   | refine q0 hE ?_
   | refine B0 hE ?_|refine B1 hE (fun _=>?_) fun _=>?_|refine B3 hE fun _ _ _=>?_|refine B2 hE fun _ _=>?_|refine B4 hE fun _ _ _ _=>?_) <;> (try conv => cbv))
  clear hN
  refine loopC hE (ι := Int × Int × Int) [] [8, 3, 5] (fun q => (fun (c : Int) (r3 : Int) (x3 : Int) => [(8, .int .i64 c), (3, .int .i64 r3), (5, .int .i64 x3)]) q.1 q.2.1 q.2.2) (fun q => (fun (c : Int) (r3 : Int) (x3 : Int) => []) q.1 q.2.1 q.2.2) (fun q => (fun (c : Int) (r3 : Int) (x3 : Int) => (3 - c).toNat) q.1 q.2.1 q.2.2) (fun q => (fun (c : Int) (r3 : Int) (x3 : Int) => (0 ≤ c ∧ c ≤ 3) ∧ r3 = (levN n c.toNat).1 ∧ x3 = (levN n c.toNat).2) q.1 q.2.1 q.2.2) [] (by decide) ((0, r, x2)) (by conv => lhs; cbv) (by conv => lhs; cbv) rfl rfl (by dsimp only; exact ⟨by omega, hr, h7⟩) fun q hi Kn hN => ?_
  obtain ⟨c, r3, x3⟩ := q
  (try dsimp only at hi)
  conv => cbv
  obtain ⟨hc, e1, e2⟩ := hi
  have hl := levN_bd hn (k := c.toNat) (by omega)
  rw [← e1, ← e2] at hl
  repeat' first
    | ((refine loopC hE (ι := Int × Int × Int) [3, 5, 8] [11, 9, 10] (fun q => (fun (j : Int) (y : Int) (d : Int) => [(11, .int .i64 j), (9, .int .i64 y), (10, .int .i64 d)]) q.1 q.2.1 q.2.2) (fun q => (fun (j : Int) (y : Int) (d : Int) => []) q.1 q.2.1 q.2.2) (fun q => (fun (j : Int) (y : Int) (d : Int) => (10 - j).toNat) q.1 q.2.1 q.2.2) (fun q => (fun (j : Int) (y : Int) (d : Int) => (0 ≤ j ∧ j ≤ 10) ∧ (d, y) = itr x3 j.toNat) q.1 q.2.1 q.2.2) [] (by decide) ((0, 100000000, 0)) (by conv => lhs; cbv) (by conv => lhs; cbv) rfl rfl (by dsimp only; exact ⟨by omega, rfl⟩) fun q hi2 Kn2 hN2 => ?_; obtain ⟨j, y, d⟩ := q; (try dsimp only at hi2); conv => cbv); obtain ⟨h8, e3⟩ := hi2; have hb2 := itr_bd hl.1 j.toNat; rw [← e3] at hb2; have hy := yd_bd hb2.1 hl.1; simp only [Man] at hb2 hy)
    | (refine mul64 hE (by omega) (fun _ _ => ?_); (try conv => cbv))
    | (refine hN (_, _, _) _ [] (by decide) rfl ⟨?_, ?_, ?_⟩ ?_ <;> (try dsimp only))
    | (refine hN2 (_, _, _) _ [] (by decide) rfl ⟨?_, ?_⟩ ?_ <;> (try dsimp only))
    | ((first
   | refine q0 hE ?_
   | refine B0 hE ?_|refine B1 hE (fun _=>?_) fun _=>?_|refine B3 hE fun _ _ _=>?_|refine B2 hE fun _ _=>?_|refine B4 hE fun _ _ _ _=>?_) <;> (try conv => cbv))
  all_goals (try clear hN)
  all_goals (try clear hN2)
  all_goals first
    | omega
    | (clear hK; subst_vars; exact itr_yes (by omega) e3 (by assumption) rfl)
    | (clear hK; subst_vars; exact itr_no (by omega) e3 (by unfold yd; omega) rfl)
    | (have hst := levN_step hc.1 e1 e2 (by assumption) (show j = 10 by omega) e3; clear hK; subst_vars; first | exact hst.1 | exact hst.2)
    | (refine hK _ ?_; rw [e1, show c = 3 by omega]; rfl)
    | trace_state
theorem enough_ (I v d : Int) (hI : 1 ≤ I ∧ I ≤ 100000000) (hv : 1 ≤ v ∧ v ≤ 100000) (hd : 1 ≤ d ∧ d ≤ 100000) : AC Tryz.prog 245 [.int .i64 I, .int .i64 d, .int .i64 v] AV.bool (bP (EnO I v d)) := by
  refine ac Tryz.func245 (by kernel_rfl) (.bool _) fun E K hE hK => ?_
  conv => cbv
  have hb1 := tlog_bd hI
  have hb2 := tlog_bd (n := d) (by omega)
  repeat' first
    | (refine mul64 hE (by omega) (fun _ _ => ?_); (try conv => cbv))
    | (refine quo64 hE (by omega) (fun q hq => ?_); have hq4 : q = 1301 * d / v := (by subst_vars; rfl); have hq2 := Int.ediv_nonneg (a := 1301 * d) (b := v) (by omega) (by omega); have hq3 := Int.ediv_le_self v (a := 1301 * d) (by omega); (try conv => cbv))
    | ((first
   | refine q0 hE ?_
   | refine callI hE (tenLog_ _ (by omega)) (fun _ _ => ?_)
   | refine B0 hE ?_|refine B1 hE (fun _=>?_) fun _=>?_|refine B3 hE fun _ _ _=>?_|refine B2 hE fun _ _=>?_|refine B4 hE fun _ _ _ _=>?_) <;> (try conv => cbv))
  all_goals first
    | (refine finB hK (bP_true.2 ?_); unfold EnO; omega)
    | (refine finB hK (bP_false.2 ?_); unfold EnO; omega)
    | trace_state
theorem l09Seen_ (I v d : Int) (hI : 1 ≤ I ∧ I ≤ 100000000) (hv : 1 ≤ v ∧ v ≤ 100000) (hd : 1 ≤ d ∧ d ≤ 100000) : AC Tryz.prog 233 [.int .i64 I, .int .i64 v, .int .i64 d] AV.bool (bP (EnO I v d)) := by
  refine ac Tryz.func233 (by kernel_rfl) (.bool _) fun E K hE hK => ?_
  conv => cbv
  have hb1 := tlog_bd hI
  have hb2 := tlog_bd (n := d) (by omega)
  repeat' first
    | (refine mul64 hE (by omega) (fun _ _ => ?_); (try conv => cbv))
    | (refine quo64 hE (by omega) (fun q hq => ?_); have hq4 : q = 1301 * d / v := (by subst_vars; rfl); have hq2 := Int.ediv_nonneg (a := 1301 * d) (b := v) (by omega) (by omega); have hq3 := Int.ediv_le_self v (a := 1301 * d) (by omega); (try conv => cbv))
    | ((first
   | refine q0 hE ?_
   | refine callI hE (l09Log_ _ (by omega)) (fun _ _ => ?_)
   | refine B0 hE ?_|refine B1 hE (fun _=>?_) fun _=>?_|refine B3 hE fun _ _ _=>?_|refine B2 hE fun _ _=>?_|refine B4 hE fun _ _ _ _=>?_) <;> (try conv => cbv))
  all_goals first
    | (refine finB hK (bP_true.2 ?_); unfold EnO; omega)
    | (refine finB hK (bP_false.2 ?_); unfold EnO; omega)
    | trace_state
theorem leastOf2_ (lo hi0 : Int) {g : FuncId} {c1 c2 : List AV} {p : Int → Prop} (m : Int) (h0 : 0 ≤ lo ∧ lo ≤ hi0 ∧ hi0 ≤ 1000000000) (hm : lo ≤ m ∧ m ≤ hi0 + 1) (hp : ∀ n, lo ≤ n → n ≤ hi0 → AC Tryz.prog g (.int .i64 n :: [.pp c1, .pp c2]) AV.bool (bP (p n))) (hpm : ∀ n, lo ≤ n → n ≤ hi0 → (p n ↔ m ≤ n)) : AC Tryz.prog 243 [.int .i64 lo, .int .i64 hi0, .fn g [.pp c1, .pp c2]] two (if m ≤ hi0 then (m, 0) else (0, 3)) := by
  refine ac Tryz.func243 (by kernel_rfl) (.two _) fun E K hE hK => ?_
  conv => cbv
  refine callP hE (hp _ (by omega) (by omega)) (fun hh => ?_) (fun hh => ?_) <;> conv => cbv
  · have hmh := (hpm hi0 (by omega) (by omega)).1 hh
    refine loopC hE (ι := Int × Int) [2] [0, 1] (fun q => (fun (l : Int) (h : Int) => [(0, .int .i64 l), (1, .int .i64 h)]) q.1 q.2) (fun q => (fun (l : Int) (h : Int) => []) q.1 q.2) (fun q => (fun (l : Int) (h : Int) => (h - l).toNat) q.1 q.2) (fun q => (fun (l : Int) (h : Int) => (lo ≤ l ∧ l ≤ h ∧ h ≤ hi0) ∧ l ≤ m ∧ m ≤ h) q.1 q.2) [] (by decide) ((lo, hi0)) (by conv => lhs; cbv) (by conv => lhs; cbv) rfl rfl (by dsimp only; exact ⟨by omega, by omega⟩) fun q hi Kn hN => ?_
    obtain ⟨l, h⟩ := q
    (try dsimp only at hi)
    conv => cbv
    obtain ⟨h1, h2⟩ := hi
    repeat' first
      | (refine callP hE (hp _ (by omega) (by omega)) (fun hq => ?_) (fun hq => ?_) <;> (rw [hpm _ (by omega) (by omega)] at hq) <;> (try conv => cbv))
      | (refine hN (_, _) _ [] (by decide) rfl ⟨?_, ?_⟩ ?_ <;> (try dsimp only))
      | ((first
     | refine q0 hE ?_
     | refine B0 hE ?_|refine B1 hE (fun _=>?_) fun _=>?_|refine B3 hE fun _ _ _=>?_|refine B2 hE fun _ _=>?_|refine B4 hE fun _ _ _ _=>?_) <;> (try conv => cbv))
    all_goals (try clear hN)
    all_goals first
      | omega
      | (refine hK _ ?_; rw [if_pos (by omega), show m = l by omega]; rfl)
      | trace_state
  · have hmh := mt (hpm hi0 (by omega) (by omega)).2 hh
    exact hK _ (by rw [if_neg (by omega)]; rfl)
theorem luminous1_ (I v d : Int) (hI : 1 ≤ I ∧ I ≤ 100000000) (hv : 1 ≤ v ∧ v ≤ 100000) (hd : 1 ≤ d ∧ d ≤ 100000) : AC Tryz.prog 244 [.int .i64 d, .pp [.int .i64 I], .pp [.int .i64 v]] AV.bool (bP (¬ EnO I v d)) := by
  refine ac Tryz.func244 (by kernel_rfl) (.bool _) fun E K hE hK => ?_
  conv => cbv
  repeat' first
    | ((first
   | refine q0 hE ?_
   | refine callP hE (enough_ _ _ _ hI hv hd) (fun _ => ?_) (fun _ => ?_)
   | refine B0 hE ?_|refine B1 hE (fun _=>?_) fun _=>?_|refine B3 hE fun _ _ _=>?_|refine B2 hE fun _ _=>?_|refine B4 hE fun _ _ _ _=>?_) <;> (try conv => cbv))
  all_goals first
    | (refine finB hK (bP_true.2 ?_); assumption)
    | (refine finB hK (bP_false.2 ?_); exact not_not_intro (by assumption))
    | trace_state
theorem luminous_ (I v : Int) (hI : 1 ≤ I ∧ I ≤ 100000000) (hv : 1 ≤ v ∧ v ≤ 100000) : AC Tryz.prog 220 [.int .i64 I, .int .i64 v] (AV.int .i64) (lumR I v) := by
  refine ac Tryz.func220 (by kernel_rfl) (.int _ _) fun E K hE hK => ?_
  conv => cbv
  have hl := lumR_spec (I := I) hv.1
  refine callII hE (leastOf2_ 1 100000 (p := fun d => ¬ EnO I v d) (lumR I v + 1) (by omega) (by have := hl.1; omega) (fun n h1 h2 => luminous1_ I v n hI hv ⟨h1, h2⟩) (fun n h1 h2 => by rw [hl.2 n h1 h2]; omega)) fun m9 n9 hm hn => ?_
  have hb := hl.1
  have hmn : (m9 = lumR I v + 1 ∧ n9 = 0 ∧ lumR I v + 1 ≤ 100000) ∨ (n9 = 3 ∧ 100000 < lumR I v + 1) := by
    by_cases h : lumR I v + 1 ≤ 100000
    · rw [if_pos h] at hm hn; exact .inl ⟨hm, hn, h⟩
    · rw [if_neg h] at hm hn; exact .inr ⟨hn, by omega⟩
  conv => cbv
  repeat' first
    | ((first
   | refine q0 hE ?_
   | refine B0 hE ?_|refine B1 hE (fun _=>?_) fun _=>?_|refine B3 hE fun _ _ _=>?_|refine B2 hE fun _ _=>?_|refine B4 hE fun _ _ _ _=>?_) <;> (try conv => cbv))
  all_goals first
    | omega
    | (refine hK _ ?_; show AV.int _ _ = AV.int _ _; congr 1; omega)
    | trace_state
theorem l09Luminous_ (I v : Int) (hI : 1 ≤ I ∧ I ≤ 100000000) (hv : 1 ≤ v ∧ v ≤ 100000) : AC Tryz.prog 203 [.int .i64 I, .int .i64 v] (AV.int .i64) (lumR I v) := by
  refine ac Tryz.func203 (by kernel_rfl) (.int _ _) fun E K hE hK => ?_
  conv => cbv
  have hl := lumR_spec (I := I) hv.1
  have hb := hl.1
  refine loopC hE (ι := Int × Int) [0, 1] [5, 6] (fun q => (fun (l : Int) (h : Int) => [(5, .int .i64 l), (6, .int .i64 h)]) q.1 q.2) (fun q => (fun (l : Int) (h : Int) => []) q.1 q.2) (fun q => (fun (l : Int) (h : Int) => (h - l).toNat) q.1 q.2) (fun q => (fun (l : Int) (h : Int) => (0 ≤ l ∧ l < h ∧ h ≤ 100001) ∧ l ≤ lumR I v ∧ lumR I v < h) q.1 q.2) [] (by decide) ((0, 100001)) (by conv => lhs; cbv) (by conv => lhs; cbv) rfl rfl (by dsimp only; exact ⟨by omega, by omega⟩) fun q hi Kn hN => ?_
  obtain ⟨l, h⟩ := q
  (try dsimp only at hi)
  conv => cbv
  obtain ⟨h1, h2⟩ := hi
  repeat' first
    | (refine callP hE (l09Seen_ I v _ hI hv (by omega)) (fun hq => ?_) (fun hq => ?_) <;> (rw [hl.2 _ (by omega) (by omega)] at hq) <;> (try conv => cbv))
    | (refine hN (_, _) _ [] (by decide) rfl ⟨?_, ?_⟩ ?_ <;> (try dsimp only))
    | ((first
   | refine q0 hE ?_
   | refine B0 hE ?_|refine B1 hE (fun _=>?_) fun _=>?_|refine B3 hE fun _ _ _=>?_|refine B2 hE fun _ _=>?_|refine B4 hE fun _ _ _ _=>?_) <;> (try conv => cbv))
  all_goals (try clear hN)
  all_goals first
    | omega
    | (refine hK _ ?_; show AV.int _ _ = AV.int _ _; congr 1; omega)
    | trace_state
theorem horizon_ (h : Int) (hh : 0 ≤ h ∧ h ≤ 3000) : AC Tryz.prog 221 [.int .i64 h] (AV.int .i64) (horR h) := by
  refine ac Tryz.func221 (by kernel_rfl) (.int _ _) fun E K hE hK => ?_
  conv => cbv
  repeat' first
    | (refine mul64 hE (by omega) (fun _ _ => ?_); (try conv => cbv))
    | ((first
   | refine q0 hE ?_
   | refine callI hE (rootOf_ _ (by omega)) (fun _ _ => ?_)
   | refine B0 hE ?_|refine B1 hE (fun _=>?_) fun _=>?_|refine B3 hE fun _ _ _=>?_|refine B2 hE fun _ _=>?_|refine B4 hE fun _ _ _ _=>?_) <;> (try conv => cbv))
  all_goals exact hK _ (by subst_vars; rfl)
theorem l09Horizon_ (h : Int) (hh : 0 ≤ h ∧ h ≤ 3000) : AC Tryz.prog 204 [.int .i64 h] (AV.int .i64) (horR h) := by
  refine ac Tryz.func204 (by kernel_rfl) (.int _ _) fun E K hE hK => ?_
  conv => cbv
  repeat' first
    | (refine mul64 hE (by omega) (fun _ _ => ?_); (try conv => cbv))
    | ((first
   | refine q0 hE ?_
   | refine callI hE (l01Root_ _ (by omega)) (fun _ _ => ?_)
   | refine B0 hE ?_|refine B1 hE (fun _=>?_) fun _=>?_|refine B3 hE fun _ _ _=>?_|refine B2 hE fun _ _=>?_|refine B4 hE fun _ _ _ _=>?_) <;> (try conv => cbv))
  all_goals exact hK _ (by subst_vars; rfl)
theorem isIntensity_ (n : Int) : AC Tryz.prog 166 [.int .i64 n] AV.bool (bP (1 ≤ n ∧ n ≤ 100000000)) := by
  refine ac Tryz.func166 (by kernel_rfl) (.bool _) fun E K hE hK => ?_
  conv => cbv
  repeat' first
    | ((first
   | refine q0 hE ?_
   | refine callP hE (within_ _ _ _) (fun _ => ?_) (fun _ => ?_)
   | refine B0 hE ?_|refine B1 hE (fun _=>?_) fun _=>?_|refine B3 hE fun _ _ _=>?_|refine B2 hE fun _ _=>?_|refine B4 hE fun _ _ _ _=>?_) <;> (try conv => cbv))
  all_goals (try clear hN)
  all_goals first
    | (omega)
    | (refine finB hK (bP_true.2 ?_); first | omega | grind)
    | (refine finB hK (bP_false.2 ?_); first | omega | (intro h; grind))
    | (refine ⟨by omega, Up.succ (by assumption) ?_ (by assumption)⟩; grind)
    | (refine hK _ ?_; simp_all [atup]; done)
    | (grind)
theorem l09Intensity_ (n : Int) : AC Tryz.prog 199 [.int .i64 n] AV.bool (bP (1 ≤ n ∧ n ≤ 100000000)) := by
  refine ac Tryz.func199 (by kernel_rfl) (.bool _) fun E K hE hK => ?_
  conv => cbv
  repeat' first
    | ((first
   | refine q0 hE ?_
   | refine callP hE (in_ _ _ _) (fun _ => ?_) (fun _ => ?_)
   | refine B0 hE ?_|refine B1 hE (fun _=>?_) fun _=>?_|refine B3 hE fun _ _ _=>?_|refine B2 hE fun _ _=>?_|refine B4 hE fun _ _ _ _=>?_) <;> (try conv => cbv))
  all_goals (try clear hN)
  all_goals first
    | (omega)
    | (refine finB hK (bP_true.2 ?_); first | omega | grind)
    | (refine finB hK (bP_false.2 ?_); first | omega | (intro h; grind))
    | (refine ⟨by omega, Up.succ (by assumption) ?_ (by assumption)⟩; grind)
    | (refine hK _ ?_; simp_all [atup]; done)
    | (grind)
theorem l09Height_ (n : Int) : AC Tryz.prog 200 [.int .i64 n] AV.bool (bP (0 ≤ n ∧ n ≤ 3000)) := by
  refine ac Tryz.func200 (by kernel_rfl) (.bool _) fun E K hE hK => ?_
  conv => cbv
  repeat' first
    | ((first
   | refine q0 hE ?_
   | refine callP hE (in_ _ _ _) (fun _ => ?_) (fun _ => ?_)
   | refine B0 hE ?_|refine B1 hE (fun _=>?_) fun _=>?_|refine B3 hE fun _ _ _=>?_|refine B2 hE fun _ _=>?_|refine B4 hE fun _ _ _ _=>?_) <;> (try conv => cbv))
  all_goals (try clear hN)
  all_goals first
    | (omega)
    | (refine finB hK (bP_true.2 ?_); first | omega | grind)
    | (refine finB hK (bP_false.2 ?_); first | omega | (intro h; grind))
    | (refine ⟨by omega, Up.succ (by assumption) ?_ (by assumption)⟩; grind)
    | (refine hK _ ?_; simp_all [atup]; done)
    | (grind)
theorem l09Air_ (n : Int) : AC Tryz.prog 201 [.int .i64 n] AV.bool (bP (1 ≤ n ∧ n ≤ 100000)) := by
  refine ac Tryz.func201 (by kernel_rfl) (.bool _) fun E K hE hK => ?_
  conv => cbv
  repeat' first
    | ((first
   | refine q0 hE ?_
   | refine callP hE (in_ _ _ _) (fun _ => ?_) (fun _ => ?_)
   | refine B0 hE ?_|refine B1 hE (fun _=>?_) fun _=>?_|refine B3 hE fun _ _ _=>?_|refine B2 hE fun _ _=>?_|refine B4 hE fun _ _ _ _=>?_) <;> (try conv => cbv))
  all_goals (try clear hN)
  all_goals first
    | (omega)
    | (refine finB hK (bP_true.2 ?_); first | omega | grind)
    | (refine finB hK (bP_false.2 ?_); first | omega | (intro h; grind))
    | (refine ⟨by omega, Up.succ (by assumption) ?_ (by assumption)⟩; grind)
    | (refine hK _ ?_; simp_all [atup]; done)
    | (grind)
theorem l00Min_ (a b : Int) : AC Tryz.prog 202 [.int .i64 a, .int .i64 b] (AV.int .i64) (min a b) := by
  refine ac Tryz.func202 (by kernel_rfl) (.int _ _) fun E K hE hK => ?_
  conv => cbv
  repeat' first
    | ((first
   | refine q0 hE ?_
   | refine B0 hE ?_|refine B1 hE (fun _=>?_) fun _=>?_|refine B3 hE fun _ _ _=>?_|refine B2 hE fun _ _=>?_|refine B4 hE fun _ _ _ _=>?_) <;> (try conv => cbv))
  all_goals (refine hK _ ?_; show AV.int _ _ = AV.int _ _; congr 1; omega)
theorem rangeOf_ (I h e v : Int) (hI : 1 ≤ I ∧ I ≤ 100000000) (hh : 0 ≤ h ∧ h ≤ 3000) (he : 0 ≤ e ∧ e ≤ 3000) (hv : 1 ≤ v ∧ v ≤ 100000) : AC Tryz.prog 173 [.int .i64 I, .int .i64 h, .int .i64 e, .int .i64 v] (AV.int .i64) (rngR I h e v) := by
  refine ac Tryz.func173 (by kernel_rfl) (.int _ _) fun E K hE hK => ?_
  conv => cbv
  have h1 := horR_bd hh
  have h2 := horR_bd he
  repeat' first
    | ((first
   | refine q0 hE ?_
   | refine callI hE (luminous_ _ _ hI hv) (fun _ _ => ?_)
   | refine callI hE (horizon_ _ (by omega)) (fun _ _ => ?_)
   | refine B0 hE ?_|refine B1 hE (fun _=>?_) fun _=>?_|refine B3 hE fun _ _ _=>?_|refine B2 hE fun _ _=>?_|refine B4 hE fun _ _ _ _=>?_) <;> (try conv => cbv))
  all_goals exact hK _ (by subst_vars; rfl)
theorem sRangeOf_ (I h e v : Int) (hI : 1 ≤ I ∧ I ≤ 100000000) (hh : 0 ≤ h ∧ h ≤ 3000) (he : 0 ≤ e ∧ e ≤ 3000) (hv : 1 ≤ v ∧ v ≤ 100000) : AC Tryz.prog 151 [.int .i64 I, .int .i64 h, .int .i64 e, .int .i64 v] two (rngR I h e v, 0) := by
  refine ac Tryz.func151 (by kernel_rfl) (.two _) fun E K hE hK => ?_
  conv => cbv
  have h1 := horR_bd hh
  have h2 := horR_bd he
  repeat' first
    | ((first
   | refine q0 hE ?_
   | refine callP hE (l09Intensity_ _) (fun _ => ?_) (fun _ => ?_)
   | refine callP hE (l09Height_ _) (fun _ => ?_) (fun _ => ?_)
   | refine callP hE (l09Air_ _) (fun _ => ?_) (fun _ => ?_)
   | refine callI hE (l09Luminous_ _ _ hI hv) (fun _ _ => ?_)
   | refine callI hE (l09Horizon_ _ (by omega)) (fun _ _ => ?_)
   | refine callI hE (l00Min_ _ _) (fun _ _ => ?_)
   | refine B0 hE ?_|refine B1 hE (fun _=>?_) fun _=>?_|refine B3 hE fun _ _ _=>?_|refine B2 hE fun _ _=>?_|refine B4 hE fun _ _ _ _=>?_) <;> (try conv => cbv))
  all_goals first
    | contradiction
    | exact hK _ (by subst_vars; rfl)
    | trace_state
end Go.Proofs.YtoafgafkmeghlaaGreatDoor
