/- Contracts: the draws of lists of faults, of spans. -/
import Derived.Test.YtifjebnieieolaaGreatDoorFaz
namespace Go.Proofs.YtifjebnieieolaaGreatDoor
open Go Go.RowKit Go.Sort Classical
set_option maxRecDepth 100000
set_option maxHeartbeats 2000000
set_option linter.unusedVariables false
set_option linter.unusedSimpArgs false
theorem l20Draw_ {rs : List (List AV)} {code : List Int} (a z : Int) (hc : rs = code.map u8R) (hb : Bytes code) (ha : 0 ≤ a ∧ a ≤ 600000000) : ACS Tryz.prog 16 [.bx [.sl false 1 rs, .int .i64 a, .int .u64 z]] (fun r ys => ∃ (l : List Fau) (rs1 : List (List AV)) (a' z' : Int), r = .sl true 4 rs1 ∧ rs1 = l.map Fau.cs ∧ l.length ≤ 49 ∧ (a ≤ a' ∧ a' ≤ a + 80) ∧ ys = [.bx [.sl false 1 rs, .int .i64 a', .int .u64 z']]) := by
  refine acs 1 Tryz.func16 (by kernel_rfl) fun E K hE hK => ?_
  conv => cbv
  refine callSI hE (l20DrawOk_ _ _ hc hb (by omega)) ?_
  rintro r ys ⟨l, rs1, a', z', rfl, hl, hlen, ha', rfl⟩
  conv => cbv
  repeat' first
    | (refine callSI hE (one_ _ _ _ hc hb (by omega)) ?_; rintro r ys ⟨c, a', z', rfl, ha', rfl⟩; (try conv => cbv))
    | (refine callSI hE (pick_ _ _ _ hc hb (by omega)) ?_; rintro r ys ⟨x, a', z', rfl, hx, ha', rfl⟩; (try conv => cbv))
    | (refine callSI hE (among_ (l := [48, 49]) _ _ hc hb (by omega) rfl (by decide)) ?_; rintro r ys ⟨x, a', z', rfl, hx, ha', rfl⟩; simp only [List.mem_cons, List.not_mem_nil, or_false] at hx; (try conv => cbv))
    | (refine callSI hE (among_ (l := [0, 9999, 10000]) _ _ hc hb (by omega) rfl (by decide)) ?_; rintro r ys ⟨x, a', z', rfl, hx, ha', rfl⟩; simp only [List.mem_cons, List.not_mem_nil, or_false] at hx; (try conv => cbv))
    | (refine callSI hE (among_ (l := [0, 5]) _ _ hc hb (by omega) rfl (by decide)) ?_; rintro r ys ⟨x, a', z', rfl, hx, ha', rfl⟩; simp only [List.mem_cons, List.not_mem_nil, or_false] at hx; (try conv => cbv))
    | (refine callSI hE (among_ (l := [-1, 0, 144000000]) _ _ hc hb (by omega) rfl (by decide)) ?_; rintro r ys ⟨x, a', z', rfl, hx, ha', rfl⟩; simp only [List.mem_cons, List.not_mem_nil, or_false] at hx; (try conv => cbv))
    | (refine callSI hE (amongF_ (l := [-2, _, _, 143999999, 144000000]) _ _ hc hb (by omega) rfl (by exact Nat.le_of_ble_eq_true rfl)) ?_; rintro r ys ⟨x, a', z', rfl, hx, ha', rfl⟩; (try conv => cbv))
    | ((refine idxL (R := Fau.cs) hE hl (by omega) ?_; rintro ⟨w1, w2, w3, w4⟩ hw; (try conv => cbv)))
    | (refine updL hE (R := Fau.cs) ⟨x, w2, w3, w4⟩ hl (by omega) hw (by exact Nat.le_of_ble_eq_true rfl) (by rfl) (fun es' hes' => ?_); (try conv => cbv))
    | (refine updL hE (R := Fau.cs) ⟨w1, x, w3, w4⟩ hl (by omega) hw (by exact Nat.le_of_ble_eq_true rfl) (by rfl) (fun es' hes' => ?_); (try conv => cbv))
    | (refine updL hE (R := Fau.cs) ⟨w1, w2, x, w4⟩ hl (by omega) hw (by exact Nat.le_of_ble_eq_true rfl) (by rfl) (fun es' hes' => ?_); (try conv => cbv))
    | (refine updL hE (R := Fau.cs) ⟨w1, w2, w3, x⟩ hl (by omega) hw (by exact Nat.le_of_ble_eq_true rfl) (by rfl) (fun es' hes' => ?_); (try conv => cbv))
    | (refine sameI hE rfl ?_; (try conv => cbv))
    | ((refine loopC hE (ι := Int × (List (List AV))) [5] [6, 3] (fun q => (fun (k : Int) (fs : List (List AV)) => [(6, .int .i64 k), (3, .ob 1)]) q.1 q.2) (fun q => (fun (k : Int) (fs : List (List AV)) => [.box [.sl false 1 rs, .int .i64 a', .int .u64 z'], .row 4 fs]) q.1 q.2) (fun q => (fun (k : Int) (fs : List (List AV)) => (x - k).toNat) q.1 q.2) (fun q => (fun (k : Int) (fs : List (List AV)) => (0 ≤ k ∧ k ≤ x) ∧ ∃ m : List Fau, fs = m.map Fau.cs ∧ (m.length : Int) = k) q.1 q.2) [0, 3] (by decide) ((0, [])) (by conv => lhs; cbv) (by conv => lhs; cbv) rfl rfl (by dsimp only; exact ⟨by omega, [], rfl, by simp⟩) fun q hi2 Kn2 hN2 => ?_; obtain ⟨k, fs⟩ := q; (try dsimp only at hi2); conv => cbv); obtain ⟨⟨i0, i1⟩, m, hm, hml⟩ := hi2)
    | ((refine loopC hE (ι := Int × (List (List AV))) [5] [6, 3] (fun q => (fun (k : Int) (fs : List (List AV)) => [(6, .int .i64 k), (3, .ob 1)]) q.1 q.2) (fun q => (fun (k : Int) (fs : List (List AV)) => [.box [.sl false 1 rs, .int .i64 a', .int .u64 z'], .row 4 fs]) q.1 q.2) (fun q => (fun (k : Int) (fs : List (List AV)) => (x - k).toNat) q.1 q.2) (fun q => (fun (k : Int) (fs : List (List AV)) => (0 ≤ k ∧ k ≤ x) ∧ ∃ m : List Fau, fs = m.map Fau.cs ∧ (m.length : Int) = k) q.1 q.2) [0, 4] (by decide) ((0, [])) (by conv => lhs; cbv) (by conv => lhs; cbv) rfl rfl (by dsimp only; exact ⟨by omega, [], rfl, by simp⟩) fun q hi2 Kn2 hN2 => ?_; obtain ⟨k, fs⟩ := q; (try dsimp only at hi2); conv => cbv); obtain ⟨⟨i0, i1⟩, m, hm, hml⟩ := hi2)
    | ((refine loopC hE (ι := Int × (List (List AV))) [5] [6, 3] (fun q => (fun (k : Int) (fs : List (List AV)) => [(6, .int .i64 k), (3, .ob 1)]) q.1 q.2) (fun q => (fun (k : Int) (fs : List (List AV)) => [.box [.sl false 1 rs, .int .i64 a', .int .u64 z'], .row 4 fs]) q.1 q.2) (fun q => (fun (k : Int) (fs : List (List AV)) => (x - k).toNat) q.1 q.2) (fun q => (fun (k : Int) (fs : List (List AV)) => (0 ≤ k ∧ k ≤ x) ∧ ∃ m : List Fau, fs = m.map Fau.cs ∧ (m.length : Int) = k) q.1 q.2) [0, 5] (by decide) ((0, [])) (by conv => lhs; cbv) (by conv => lhs; cbv) rfl rfl (by dsimp only; exact ⟨by omega, [], rfl, by simp⟩) fun q hi2 Kn2 hN2 => ?_; obtain ⟨k, fs⟩ := q; (try dsimp only at hi2); conv => cbv); obtain ⟨⟨i0, i1⟩, m, hm, hml⟩ := hi2)
    | (refine hN2 (_, _) _ [0, 3] (by decide) rfl ⟨?_, _, (by assumption), ?_⟩ ?_ <;> (try dsimp only))
    | ((first
   | refine q0 hE ?_
   | refine catP hE (R := Fau.cs) (v := ⟨_, _, _, _⟩) (by assumption) rfl (by first | omega | (simp only [List.length_append, List.length_singleton]; omega)) (fun _ _ => ?_)
   | refine B0 hE ?_|refine B1 hE (fun _=>?_) fun _=>?_|refine B3 hE fun _ _ _=>?_|refine B2 hE fun _ _=>?_|refine B4 hE fun _ _ _ _=>?_) <;> (try conv => cbv))
  all_goals (try clear hN2)
  all_goals first
    | omega
    | (simp only [List.length_append, List.length_singleton]; omega)
    | exact hK _ _ ⟨_, _, _, _, rfl, by assumption, by first | omega | (rw [List.length_set]; omega) | (simp only [List.length_append, List.length_singleton]; omega), by omega, rfl⟩
    | trace_state
end Go.Proofs.YtifjebnieieolaaGreatDoor
