/- Contracts: slices.Compact at numbers. -/
import Derived.Test.YtnfjhadaclcgeaaGreatDoorQd
import Derived.Test.YtnfjhadaclcgeaaGreatDoorQa
namespace Go.Proofs.YtnfjhadaclcgeaaGreatDoor
open Go Go.RowKit Classical
set_option maxRecDepth 100000
set_option maxHeartbeats 2000000
set_option linter.unusedVariables false
set_option linter.unusedSimpArgs false
set_option maxHeartbeats 4000000
theorem compactI_ {es : List (List AV)} {ls : List Int} (hl : es = ls.map intR) (hbl : ls.length ≤ 1048576) : ACM Tryz.prog 32 [.sl true 1 es] (fun r ys => ∃ es', es' = (compactL (· = ·) ls).map intR ∧ r = .sl true 1 es' ∧ ys = [.any]) := by
  refine acm 1 Tryz.func32 (fun r ys ⟨es', h3, h1, h2⟩ => ⟨by rw [h1, h3]; exact .ints _, by rw [h2]; simp; exact .any⟩) fun E K hE hK => ?_
  refine lenL hl fun n hn _ => ?_
  conv => cbv
  refine ltI (fun h2 => ?_) (fun h2 => ?_) <;> conv => cbv
  · exact hK _ _ ⟨_, by rw [comp_small (by omega)]; exact hl, rfl, rfl⟩
  refine loop1 [0] [3] (fun (k : Int) => ([(3, .int .i64 k)], [.row 1 es], n - k, (1 ≤ k ∧ k ≤ n) ∧ Up (fun j => keepI (· = ·) ls j) k)) [0] (1) (by dsimp only; exact ⟨by omega, fun j hj => fun _ _ _ h0 => by omega⟩) fun k hi Kn hN => ?_
  obtain ⟨⟨k0, k1⟩, hinv⟩ := hi
  repeat' first
    | ((refine loop4 [0] [3, 4, 5] (fun (k' j : Int) (cs : List Int) (es2 : List (List AV)) => ([(3, .int .i64 k'), (4, .vs 0 k n3), (5, .int .i64 j)], [.row 1 es2], n - k - j, (CInv (· = ·) ls cs k' (k + j) ∧ 1 ≤ j) ∧ es2 = cs.map intR)) [0] ((k, 1, ls, es)) (by dsimp only; exact ⟨⟨CInv.start hinv k0 hx hm hy heq, by omega⟩, hl⟩) fun k' j cs es2 hi2 Kn2 hN2 => ?_); obtain ⟨⟨hC, hj1⟩, hes2⟩ := hi2; (have hcl := hC.1); obtain ⟨hk0, hk1, hk2⟩ := hC.2.1)
    | (refine hN2 _ _ (cs.set k'.toNat x2) _ [0] rfl ⟨⟨?_, ?_⟩, hes3⟩)
    | (refine hN2 _ _ cs _ [0] rfl ⟨⟨?_, ?_⟩, hes2⟩)
    | (refine hN _ [0] rfl ⟨?_, ?_⟩)
    | ((first
   | refine lenL hl (fun n3 hn3 _ => ?_)
   | refine lenL hes2 (fun n5 hn5 _ => ?_)
   | refine idxL (R := intR) (i := k) hl (by omega) (fun x hx => ?_)
   | refine sub64 (a := k) (b := 1) (by omega) (fun m hm => ?_)
   | refine idxL (R := intR) (i := m) hl (by omega) (fun y hy => ?_)
   | refine eqI (a := x) (b := y) (fun heq => ?_) (fun hne => ?_)
   | (refine subG (by simp only [Option.getD_some, Option.getD_none]; first | omega | (rw [hl, List.length_map]; omega)) (fun _ _ => ?_))
   | refine sub64 (a := n3) (b := k) (by omega) (fun d hd => ?_)
   | refine needI (show 0 ≤ j1 ∧ j1 < n3 - k from ⟨by omega, by omega⟩) ?_
   | refine needI (show 0 ≤ j ∧ j < n3 - k from ⟨by omega, by omega⟩) ?_
   | refine add64 (a := k) (b := j) (by omega) (fun a1 ha1 => ?_)
   | (refine idxV (R := intR) (i := a1) (v := x2) hes2 (by omega) (by rw [ha1]; exact hx2) ?_)
   | (refine idxL (R := intR) (i := a1) hes2 (by omega) (fun x2 hx2 => ?_); rw [ha1] at hx2)
   | refine sub64 (a := j) (b := 1) (by omega) (fun j1 hj1 => ?_)
   | refine add64 (a := k) (b := j1) (by omega) (fun b1 hb1 => ?_)
   | refine idxL (R := intR) (i := b1) hes2 (by omega) (fun y2 hy2 => ?_)
   | refine eqI (a := x2) (b := y2) (fun heq2 => ?_) (fun hne2 => ?_)
   | refine idxL (R := intR) (i := k') hes2 (by omega) (fun w2 hz2 => ?_)
   | refine updL (R := intR) x2 hes2 (by omega) hz2 (by exact Nat.le_of_ble_eq_true rfl) (by rfl) (fun es3 hes3 => ?_)
   | refine add64 (a := k') (b := 1) (by omega) (fun k2 hk2' => ?_)
   | (refine clrG (by rw [hes2, List.length_map]; omega) (fun es3 hl3 ht3 => ?_))
   | (refine subG (by simp only [Option.getD_some, Option.getD_none]; rw [hes2, List.length_map]; omega) (fun _ _ => ?_))
   | (refine subG (by simp only [Option.getD_some, Option.getD_none]; rw [hl3, hes2, List.length_map]; omega) (fun rr hrr => ?_))
   | refine B0 ?_|refine B1 ?_ ?_) <;> intros <;> (try conv => cbv))
  all_goals (try clear hN)
  all_goals (try clear hN2)
  all_goals first
    | omega
    | (refine hinv.succ (keep_yes hx (by rw [show k.toNat - 1 = m.toNat by omega]; exact hy) hne) (by assumption))
    | (refine hK _ _ ⟨_, ?_, rfl, rfl⟩; rw [hrr]; simp only [Option.getD_some, Int.toNat_zero, List.drop_zero]; rw [ht3, hes2, ← List.map_take, hC.done (by omega)])
    | exact hC.skip rfl hx2 (by omega) hy2 heq2 (by omega)
    | exact hC.put rfl hx2 (by omega) hy2 hne2 (by assumption) (by omega)
    | exact hes3
    | exact hes2
    | exact hK _ _ ⟨_, by rw [all_done hinv (by omega) (by omega) (by omega)]; exact hl, rfl, rfl⟩
    | trace_state
end Go.Proofs.YtnfjhadaclcgeaaGreatDoor
