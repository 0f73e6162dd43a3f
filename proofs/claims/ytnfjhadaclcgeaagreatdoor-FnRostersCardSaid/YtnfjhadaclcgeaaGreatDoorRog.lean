/- Contracts: the draws of keepers. -/
import Derived.Test.YtnfjhadaclcgeaaGreatDoorRoe
namespace Go.Proofs.YtnfjhadaclcgeaaGreatDoor
open Go Go.RowKit Go.Sort Classical
set_option maxRecDepth 100000
set_option maxHeartbeats 2000000
set_option linter.unusedVariables false
set_option linter.unusedSimpArgs false
set_option maxHeartbeats 4000000
theorem strs_take {es0 rows : List (List AV)} {lo hi : Nat} (he : es0 = (rows.take hi).drop lo) {L : List ByteArray} (hr : rows = L.map strR) : ∃ m : List ByteArray, es0 = m.map strR ∧ m.length ≤ L.length :=
  ⟨(L.take hi).drop lo, by rw [he, hr, List.map_drop, List.map_take], by simp; omega⟩
theorem l28DrawKeepers_ {rs : List (List AV)} {code : List Int} (a z : Int) (hc : rs = code.map u8R) (hb : Bytes code) (ha : 0 ≤ a ∧ a ≤ 600000000) : ACS Tryz.prog 20 [.bx [.sl false 1 rs, .int .i64 a, .int .u64 z]] (fun r ys => ∃ (l : List ByteArray) (rs1 : List (List AV)) (a' z' : Int), r = .sl true 1 rs1 ∧ rs1 = l.map strR ∧ l.length ≤ 20 ∧ (a ≤ a' ∧ a' ≤ a + 8) ∧ ys = [.bx [.sl false 1 rs, .int .i64 a', .int .u64 z']]) := by
  refine acs 1 Tryz.func20 fun E K hE hK => ?_
  refine callSI (pick_ _ _ 4 hc hb (by omega)) ?_
  rintro r ys ⟨x, a1, z1, rfl, hx, ha1, rfl⟩
  conv => cbv
  obtain rfl | rfl | rfl | rfl : x = 0 ∨ x = 1 ∨ x = 2 ∨ x = 3 := by omega
  all_goals (try conv => cbv)
  all_goals
    repeat' first
      | ((refine loop2 [4] [5, 3] (fun (k : Int) (fs : List (List AV)) => ([(5, .int .i64 k), (3, .ob 1)], [.box [.sl false 1 rs, .int .i64 a', .int .u64 z'], .row 1 fs], x - k, (0 ≤ k ∧ k ≤ x) ∧ ∃ m : List ByteArray, fs = m.map strR ∧ (m.length : Int) = k)) [0, 2] ((0, [])) (by dsimp only; exact ⟨by omega, [], rfl, by simp⟩) fun k fs hi1 Kn1 hN1 => ?_); obtain ⟨⟨i0, i1⟩, m, hm, hml⟩ := hi1)
      | ((refine loop2 [4] [5, 3] (fun (k : Int) (fs : List (List AV)) => ([(5, .int .i64 k), (3, .ob 1)], [.box [.sl false 1 rs, .int .i64 a', .int .u64 z'], .row 1 fs], x - k, (0 ≤ k ∧ k ≤ x) ∧ ∃ m : List ByteArray, fs = m.map strR ∧ (m.length : Int) = k)) [0, 3] ((0, [])) (by dsimp only; exact ⟨by omega, [], rfl, by simp⟩) fun k fs hi1 Kn1 hN1 => ?_); obtain ⟨⟨i0, i1⟩, m, hm, hml⟩ := hi1)
      | ((refine loop2 [4] [5, 3] (fun (k : Int) (fs : List (List AV)) => ([(5, .int .i64 k), (3, .ob 1)], [.box [.sl false 1 rs, .int .i64 a', .int .u64 z'], .row 1 fs], x - k, (0 ≤ k ∧ k ≤ x) ∧ ∃ m : List ByteArray, fs = m.map strR ∧ (m.length : Int) = k)) [0, 4] ((0, [])) (by dsimp only; exact ⟨by omega, [], rfl, by simp⟩) fun k fs hi1 Kn1 hN1 => ?_); obtain ⟨⟨i0, i1⟩, m, hm, hml⟩ := hi1)
      | (refine hN1 _ _ [0, 2] rfl ⟨?_, _, (by assumption), ?_⟩)
      | (refine hN1 _ _ [0, 3] rfl ⟨?_, _, (by assumption), ?_⟩)
      | (refine hN1 _ _ [0, 4] rfl ⟨?_, _, (by assumption), ?_⟩)
      | (refine hN1 _ _ [0, 5] rfl ⟨?_, _, (by assumption), ?_⟩)
      | ((first
     | (refine callSI (pick_ _ _ _ hc hb (by omega)) ?_; rintro r ys ⟨x, a', z', rfl, hx, ha', rfl⟩)
     | (refine callSI (among_ (l := [10, 11]) _ _ hc hb (by omega) rfl (by first | decide | exact Nat.le_of_ble_eq_true rfl)) ?_; rintro r ys ⟨x, a', z', rfl, hx, ha', rfl⟩; (try simp only [List.mem_cons, List.not_mem_nil, or_false] at hx))
     | (refine toStrI [_] (by rfl) (fun b hb2 hb3 => ?_); simp only [List.length_cons, List.length_nil] at hb3)
     | (refine scatI (by show (1 : Nat) + _ ≤ _; omega) (fun sb hsb hsb2 => ?_))
     | (refine add64 (a := 0) (b := 1) (by omega) (fun n hn => ?_); subst hn)
     | (refine add64 (a := 1) (b := 1) (by omega) (fun n hn => ?_); subst hn)
     | (refine add64 (a := 2) (b := 1) (by omega) (fun n hn => ?_); subst hn)
     | (refine add64 (a := 3) (b := 1) (by omega) (fun n hn => ?_); subst hn)
     | (refine subG (by decide) ?_; intro es0 hes0; obtain ⟨m0, hm0, hml0⟩ := strs_take hes0 (L := [_, _, _, _]) rfl; simp only [List.length_cons, List.length_nil] at hml0)
     | (refine add64 (a := 0) (b := 0) (by omega) (fun n hn => ?_); subst hn)
     | refine idxV (R := strR) (l := [_, _, _, _]) (i := 0) rfl (by decide) (by rfl) ?_
     | refine sameI rfl ?_
     | refine needI rfl ?_
     | refine catP (R := strR) (v := _) hm0 (by rfl) (by omega) (fun es2 hes2 => ?_)
     | refine catP (R := strR) (v := _) hm (by rfl) (by omega) (fun es3 hes3 => ?_)
     | refine B0 ?_|refine B1 ?_ ?_) <;> intros <;> (try conv => cbv))
  all_goals (try clear hN1)
  all_goals first
    | omega
    | (simp only [List.length_append, List.length_singleton]; omega)
    | exact hK _ _ ⟨[], _, _, _, rfl, rfl, by simp, by omega, rfl⟩
    | exact hK _ _ ⟨_, _, _, _, rfl, hes2, by rw [List.length_append, List.length_singleton]; omega, by omega, rfl⟩
    | exact hK _ _ ⟨_, _, _, _, rfl, hm, by omega, by omega, rfl⟩
    | exact hK _ _ ⟨_, _, _, _, rfl, hm0, by omega, by omega, rfl⟩
    | trace_state
theorem drawPlanDuties_ {rs : List (List AV)} {code : List Int} (hc : rs = code.map u8R) (hb : Bytes code) : ACS Tryz.prog 5 [.sl false 1 rs] (fun r ys => ∃ (ks : List ByteArray) (ts : List (List AV)) (f count long : Int), r = .tup [.sl true 1 ts, .int .i64 f, .int .i64 count, .int .i64 long] ∧ ts = ks.map strR ∧ ks.length ≤ 20 ∧ ys = [.any]) := by
  refine acs 0 Tryz.func5 fun E K hE hK => ?_
  refine callSI from_ ?_
  rintro r ys ⟨rfl, rfl⟩
  conv => cbv
  refine callSI (l28DrawKeepers_ _ _ hc hb (by omega)) ?_
  rintro r ys ⟨l, rs1, a', z', rfl, hl, hlen, ha', rfl⟩
  conv => cbv
  refine callSI (l28DrawTime_ _ _ hc hb (by omega)) ?_
  rintro r ys ⟨tm, a', z', rfl, htm, ha', rfl⟩
  conv => cbv
  repeat' first
    | ((first
   | (refine callSI (one_ _ _ _ hc hb (by omega)) ?_; rintro r ys ⟨c, a', z', rfl, ha', rfl⟩)
   | (refine callSI (pick_ _ _ _ hc hb (by omega)) ?_; rintro r ys ⟨x, a', z', rfl, hx, ha', rfl⟩)
   | (refine callSI (among_ (l := [-1, 0, 60, 61]) _ _ hc hb (by omega) rfl (by first | decide | exact Nat.le_of_ble_eq_true rfl)) ?_; rintro r ys ⟨x, a', z', rfl, hx, ha', rfl⟩; (try simp only [List.mem_cons, List.not_mem_nil, or_false] at hx))
   | (refine callSI (among_ (l := [60, 240, 480, 720, 721, 0, 1, 160]) _ _ hc hb (by omega) rfl (by first | decide | exact Nat.le_of_ble_eq_true rfl)) ?_; rintro r ys ⟨x, a', z', rfl, hx, ha', rfl⟩; (try simp only [List.mem_cons, List.not_mem_nil, or_false] at hx))
   | (refine callSI (amongD_ (l := [60, 240, 480, 720, 721, 0, 1, 160]) _ _ hc hb (by omega) rfl (by first | decide | exact Nat.le_of_ble_eq_true rfl)) ?_; rintro r ys ⟨x, a', z', rfl, hx, ha', rfl⟩; (try simp only [List.mem_cons, List.not_mem_nil, or_false] at hx))
   | refine sameI rfl ?_
   | refine needI rfl ?_
   | refine B0 ?_|refine B1 ?_ ?_) <;> intros <;> (try conv => cbv))
  all_goals exact hK _ _ ⟨l, rs1, _, _, _, rfl, hl, hlen, rfl⟩
end Go.Proofs.YtnfjhadaclcgeaaGreatDoor
