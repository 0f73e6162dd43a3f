/- Contracts: the draws of lists of warnings. -/
import Derived.Test.YthiecdiiindegaaGreatDoorFbd
namespace Go.Proofs.YthiecdiiindegaaGreatDoor
open Go Go.RowKit Classical
set_option maxRecDepth 100000
set_option maxHeartbeats 2000000
set_option linter.unusedVariables false
set_option linter.unusedSimpArgs false
theorem l22DrawOne_ {rs : List (List AV)} {code : List Int} (a z : Int) (hc : rs = code.map u8R) (hb : Bytes code) (ha : 0 ≤ a ∧ a ≤ 700000000) : ACS Tryz.prog 19 [.bx [.sl false 1 rs, .int .i64 a, .int .u64 z]] (fun r ys => ∃ (u1 u2 u3 u4 u5 u6 u7 : Int) (u8 : ByteArray) (a' z' : Int), r = .agg [.int .i64 u1, .int .i64 u2, .int .i64 u3, .int .i64 u4, .int .i64 u5, .int .i64 u6, .int .i64 u7, .str u8] ∧ (a ≤ a' ∧ a' ≤ a + 40) ∧ ys = [.bx [.sl false 1 rs, .int .i64 a', .int .u64 z']]) := by
  refine acs 1 Tryz.func19 (by kernel_rfl) fun E K hE hK => ?_
  conv => cbv
  repeat' first
    | (refine callSI hE (pick_ _ _ _ hc hb (by omega)) ?_; rintro r ys ⟨x, a', z', rfl, hx, ha', rfl⟩; (try conv => cbv))
    | (refine callSI hE (among_ (l := [0, 500, 3000, 20000]) _ _ hc hb (by omega) rfl (by first | decide | exact Nat.le_of_ble_eq_true rfl)) ?_; rintro r ys ⟨x, a', z', rfl, hx, ha', rfl⟩; (try simp only [List.mem_cons, List.not_mem_nil, or_false] at hx); (try conv => cbv))
    | (refine callSI hE (text_ (l := [_, _, _, _, _]) _ _ hc hb (by omega) rfl (by exact Nat.le_of_ble_eq_true rfl)) ?_; rintro r ys ⟨sx, a', z', rfl, ha', rfl⟩; (try conv => cbv))
    | (refine callSI hE (l02Draw_ _ _ hc hb (by omega)) ?_; rintro r ys ⟨p, q, a', z', rfl, ha', rfl⟩; (try conv => cbv))
    | (refine sameI hE rfl ?_; (try conv => cbv))
    | (refine needI hE rfl ?_; (try conv => cbv))
    | ((first
   | refine q0 hE ?_
   | refine B0 hE ?_|refine B1 hE (fun _=>?_) fun _=>?_|refine B3 hE fun _ _ _=>?_|refine B2 hE fun _ _=>?_|refine B4 hE fun _ _ _ _=>?_) <;> (try conv => cbv))
  all_goals exact hK _ _ ⟨_, _, _, _, _, _, _, _, _, _, rfl, by omega, rfl⟩
theorem l22Draw_ {rs : List (List AV)} {code : List Int} (a z : Int) (hc : rs = code.map u8R) (hb : Bytes code) (ha : 0 ≤ a ∧ a ≤ 600000000) : ACS Tryz.prog 17 [.bx [.sl false 1 rs, .int .i64 a, .int .u64 z]] (fun r ys => ∃ (l : List War) (rs1 : List (List AV)) (a' z' : Int), r = .sl true 8 rs1 ∧ rs1 = l.map War.cs ∧ l.length ≤ 33 ∧ (a ≤ a' ∧ a' ≤ a + 300) ∧ ys = [.bx [.sl false 1 rs, .int .i64 a', .int .u64 z']]) := by
  refine acs 1 Tryz.func17 (by kernel_rfl) fun E K hE hK => ?_
  conv => cbv
  refine callSI hE (pick_ _ _ 7 hc hb (by omega)) ?_
  rintro r ys ⟨x, a1, z1, rfl, hx, ha1, rfl⟩
  conv => cbv
  refine loopC hE (ι := Int × Int × Int × (List (List AV))) [0] [4, 3] (fun q => (fun (k : Int) (a2 : Int) (z2 : Int) (es : List (List AV)) => [(4, .int .i64 k), (3, .ob 1)]) q.1 q.2.1 q.2.2.1 q.2.2.2) (fun q => (fun (k : Int) (a2 : Int) (z2 : Int) (es : List (List AV)) => [.box [.sl false 1 rs, .int .i64 a2, .int .u64 z2], .row 8 es]) q.1 q.2.1 q.2.2.1 q.2.2.2) (fun q => (fun (k : Int) (a2 : Int) (z2 : Int) (es : List (List AV)) => (k).toNat) q.1 q.2.1 q.2.2.1 q.2.2.2) (fun q => (fun (k : Int) (a2 : Int) (z2 : Int) (es : List (List AV)) => (0 ≤ k ∧ k ≤ 6) ∧ (a ≤ a2 ∧ a2 ≤ a + 2 + 40 * (6 - k)) ∧ ∃ l : List War, es = l.map War.cs ∧ (l.length : Int) ≤ 6 - k) q.1 q.2.1 q.2.2.1 q.2.2.2) [0, 1] (by decide) ((x, a1, z1, [])) (by conv => lhs; cbv) (by conv => lhs; cbv) rfl rfl (by dsimp only; exact ⟨by omega, by omega, [], rfl, by simp; omega⟩) fun q hi Kn hN => ?_
  obtain ⟨k, a2, z2, es⟩ := q
  (try dsimp only at hi)
  conv => cbv
  obtain ⟨⟨k0, k1⟩, ⟨a3, a4⟩, l, hl, hlen⟩ := hi
  repeat' first
    | (refine callSI hE (l22DrawOne_ _ _ hc hb (by omega)) ?_; rintro r ys ⟨u1, u2, u3, u4, u5, u6, u7, u8, a', z', rfl, ha', rfl⟩; (try conv => cbv))
    | (refine callLI hE (sAddWarning_ _ _ _ _ _ _ _ _ hl) (fun ns cd hns hcd => ?_); obtain ⟨m, hm, hml⟩ := add_rows hns; clear hns; (try conv => cbv))
    | (refine callSI hE (one_ _ _ _ hc hb (by omega)) ?_; rintro r ys ⟨c, a', z', rfl, ha', rfl⟩; (try conv => cbv))
    | (refine callSI hE (pick_ _ _ _ hc hb (by omega)) ?_; rintro r ys ⟨x, a', z', rfl, hx, ha', rfl⟩; (try conv => cbv))
    | (refine callSI hE (among_ (l := [32, 33]) _ _ hc hb (by omega) rfl (by first | decide | exact Nat.le_of_ble_eq_true rfl)) ?_; rintro r ys ⟨x, a', z', rfl, hx, ha', rfl⟩; (try simp only [List.mem_cons, List.not_mem_nil, or_false] at hx); (try conv => cbv))
    | ((refine idxL (R := War.cs) hE hl (by omega) ?_; rintro ⟨w1, w2, w3, w4, w5, w6, w7, w8⟩ hw; (try conv => cbv)))
    | (refine callSI hE (l22Bend_ _ _ _ _ _ _ _ _ _ _ hc hb (by omega)) ?_; rintro r ys ⟨u1, u2, u3, u4, u5, u6, u7, u8, a', z', rfl, ha', rfl⟩; (try conv => cbv))
    | (refine updL hE (R := War.cs) ⟨u1, u2, u3, u4, u5, u6, u7, u8⟩ hl (by omega) hw (by exact Nat.le_of_ble_eq_true rfl) (by rfl) (fun es' hes' => ?_); (try conv => cbv))
    | (refine sameI hE rfl ?_; (try conv => cbv))
    | ((refine loopC hE (ι := Int × (List (List AV))) [8] [9, 3] (fun q => (fun (k : Int) (fs : List (List AV)) => [(9, .int .i64 k), (3, .ob 1)]) q.1 q.2) (fun q => (fun (k : Int) (fs : List (List AV)) => [.box [.sl false 1 rs, .int .i64 a', .int .u64 z'], .row 8 fs]) q.1 q.2) (fun q => (fun (k : Int) (fs : List (List AV)) => (x - k).toNat) q.1 q.2) (fun q => (fun (k : Int) (fs : List (List AV)) => (0 ≤ k ∧ k ≤ x) ∧ ∃ m : List War, fs = m.map War.cs ∧ (m.length : Int) = k) q.1 q.2) [0, 3] (by decide) ((0, [])) (by conv => lhs; cbv) (by conv => lhs; cbv) rfl rfl (by dsimp only; exact ⟨by omega, [], rfl, by simp⟩) fun q hi2 Kn2 hN2 => ?_; obtain ⟨k, fs⟩ := q; (try dsimp only at hi2); conv => cbv); obtain ⟨⟨i0, i1⟩, m, hm, hml⟩ := hi2)
    | ((refine loopC hE (ι := Int × (List (List AV))) [8] [9, 3] (fun q => (fun (k : Int) (fs : List (List AV)) => [(9, .int .i64 k), (3, .ob 1)]) q.1 q.2) (fun q => (fun (k : Int) (fs : List (List AV)) => [.box [.sl false 1 rs, .int .i64 a', .int .u64 z'], .row 8 fs]) q.1 q.2) (fun q => (fun (k : Int) (fs : List (List AV)) => (x - k).toNat) q.1 q.2) (fun q => (fun (k : Int) (fs : List (List AV)) => (0 ≤ k ∧ k ≤ x) ∧ ∃ m : List War, fs = m.map War.cs ∧ (m.length : Int) = k) q.1 q.2) [0, 2] (by decide) ((0, [])) (by conv => lhs; cbv) (by conv => lhs; cbv) rfl rfl (by dsimp only; exact ⟨by omega, [], rfl, by simp⟩) fun q hi2 Kn2 hN2 => ?_; obtain ⟨k, fs⟩ := q; (try dsimp only at hi2); conv => cbv); obtain ⟨⟨i0, i1⟩, m, hm, hml⟩ := hi2)
    | ((refine loopC hE (ι := Int × (List (List AV))) [8] [9, 3] (fun q => (fun (k : Int) (fs : List (List AV)) => [(9, .int .i64 k), (3, .ob 1)]) q.1 q.2) (fun q => (fun (k : Int) (fs : List (List AV)) => [.box [.sl false 1 rs, .int .i64 a', .int .u64 z'], .row 8 fs]) q.1 q.2) (fun q => (fun (k : Int) (fs : List (List AV)) => (x - k).toNat) q.1 q.2) (fun q => (fun (k : Int) (fs : List (List AV)) => (0 ≤ k ∧ k ≤ x) ∧ ∃ m : List War, fs = m.map War.cs ∧ (m.length : Int) = k) q.1 q.2) [0, 4] (by decide) ((0, [])) (by conv => lhs; cbv) (by conv => lhs; cbv) rfl rfl (by dsimp only; exact ⟨by omega, [], rfl, by simp⟩) fun q hi2 Kn2 hN2 => ?_; obtain ⟨k, fs⟩ := q; (try dsimp only at hi2); conv => cbv); obtain ⟨⟨i0, i1⟩, m, hm, hml⟩ := hi2)
    | (refine hN2 (_, _) _ [0, 3] (by decide) rfl ⟨?_, _, (by assumption), ?_⟩ ?_ <;> (try dsimp only))
    | (refine hN (_, _, _, _) _ [0, 1] (by decide) rfl ⟨?_, ?_, _, (by assumption), ?_⟩ ?_ <;> (try dsimp only))
    | (refine hN (_, _, _, _) _ [0, 2] (by decide) rfl ⟨?_, ?_, _, (by assumption), ?_⟩ ?_ <;> (try dsimp only))
    | ((first
   | refine q0 hE ?_
   | refine catP hE (R := War.cs) (v := ⟨_, _, _, _, _, _, _, _⟩) (by assumption) rfl (by first | omega | (simp only [List.length_append, List.length_singleton]; omega)) (fun _ _ => ?_)
   | refine B0 hE ?_|refine B1 hE (fun _=>?_) fun _=>?_|refine B3 hE fun _ _ _=>?_|refine B2 hE fun _ _=>?_|refine B4 hE fun _ _ _ _=>?_) <;> (try conv => cbv))
  all_goals (try clear hN)
  all_goals (try clear hN2)
  all_goals first
    | omega
    | (simp only [List.length_append, List.length_singleton]; omega)
    | exact hK _ _ ⟨_, _, _, _, rfl, by assumption, by first | omega | (rw [List.length_set]; omega), by omega, rfl⟩
    | trace_state
end Go.Proofs.YthiecdiiindegaaGreatDoor
