/- Contracts: the draws of lists of faults, of spans. -/
import Derived.Test.YtjenekakcoggpaaFaz
namespace Go.Proofs.Ytjenekakcoggpaa
open Go Go.RowKit Go.Sort Classical
set_option maxRecDepth 100000
set_option maxHeartbeats 2000000
set_option linter.unusedVariables false
set_option linter.unusedSimpArgs false
theorem l20Draw_ {rs : List (List AV)} {code : List Int} (a z : Int) (hc : rs = code.map u8R) (hb : Bytes code) (ha : 0 ≤ a ∧ a ≤ 600000000) : ACS Try.prog 108 [.bx [.sl false 1 rs, .int .i64 a, .int .u64 z]] (fun r ys => ∃ (l : List Fau) (rs1 : List (List AV)) (a' z' : Int), r = .sl true 4 rs1 ∧ rs1 = l.map Fau.cs ∧ l.length ≤ 49 ∧ (a ≤ a' ∧ a' ≤ a + 80) ∧ ys = [.bx [.sl false 1 rs, .int .i64 a', .int .u64 z']]) := by
  refine acs 1 Try.func108 (by kernel_rfl) fun E K hE hK => ?_
  conv => cbv
  refine callSI hE (l20DrawOk_ _ _ hc hb (by omega)) ?_
  rintro r ys ⟨l, rs1, a', z', rfl, hl, hlen, ha', rfl⟩
  conv => cbv
  repeat' first
    | (refine callSI hE (one_ _ _ _ hc hb (by omega)) ?_; rintro r ys ⟨c, a', z', rfl, ha', rfl⟩; (try conv => cbv))
    | (refine callSI hE (pick_ _ _ _ hc hb (by omega)) ?_; rintro r ys ⟨x, a', z', rfl, hx, ha', rfl⟩; (try conv => cbv))
    | (refine callSI hE (among_ (l := [48, 49]) _ _ hc hb (by omega) rfl (by decide)) ?_; rintro r ys ⟨x, a', z', rfl, hx, ha', rfl⟩; simp only [List.mem_cons, List.not_mem_nil, or_false] at hx; (try conv => cbv))
    | (refine callSI hE (among_ (l := [0, 9999, 10000]) _ _ hc hb (by omega) rfl (by decide)) ?_; rintro r ys ⟨x, a', z', rfl, hx, ha', rfl⟩; simp only [List.mem_cons, List.not_mem_nil, or_false] at hx; (try conv => cbv))
    | (refine callSI hE (among_ (l := [0, 5]) _ _ hc hb (by omega) rfl (by decide)) ?_; rintro r ys ⟨x, a', z', rfl, hx, ha', rfl⟩; simp only [List.mem_cons, List.not_mem_nil, or_false] at hx; (try conv => cbv))
    | (refine callSI hE (among_ (l := [-1, 0, 144000000]) _ _ hc hb (by omega) rfl (by decide)) ?_; rintro r ys ⟨x, a', z', rfl, hx, ha', rfl⟩; simp only [List.mem_cons, List.not_mem_nil, or_false] at hx; (try conv => cbv))
    | (refine callSI hE (amongF_ (l := [-2, _, _, 143999999, 144000000]) _ _ hc hb (by omega) rfl (by exact Nat.le_of_ble_eq_true rfl)) ?_; rintro r ys ⟨x, a', z', rfl, hx, ha', rfl⟩; (try conv => cbv))
    | ((refine idxL (R := Fau.cs) hE hl (by omega) ?_; rintro ⟨w1, w2, w3, w4⟩ hw; (try conv => cbv)))
    | (refine updL hE (R := Fau.cs) ⟨x, w2, w3, w4⟩ hl (by omega) hw (by exact Nat.le_of_ble_eq_true rfl) (by rfl) (fun es' hes' => ?_); (try conv => cbv))
    | (refine updL hE (R := Fau.cs) ⟨w1, x, w3, w4⟩ hl (by omega) hw (by exact Nat.le_of_ble_eq_true rfl) (by rfl) (fun es' hes' => ?_); (try conv => cbv))
    | (refine updL hE (R := Fau.cs) ⟨w1, w2, x, w4⟩ hl (by omega) hw (by exact Nat.le_of_ble_eq_true rfl) (by rfl) (fun es' hes' => ?_); (try conv => cbv))
    | (refine updL hE (R := Fau.cs) ⟨w1, w2, w3, x⟩ hl (by omega) hw (by exact Nat.le_of_ble_eq_true rfl) (by rfl) (fun es' hes' => ?_); (try conv => cbv))
    | (refine sameI hE rfl ?_; (try conv => cbv))
    | ((refine loopC hE (ι := Int × (List (List AV))) [5] [6, 3] (fun q => (fun (k : Int) (fs : List (List AV)) => [(6, .int .i64 k), (3, .ob 1)]) q.1 q.2) (fun q => (fun (k : Int) (fs : List (List AV)) => [.box [.sl false 1 rs, .int .i64 a', .int .u64 z'], .row 4 fs]) q.1 q.2) (fun q => (fun (k : Int) (fs : List (List AV)) => (x - k).toNat) q.1 q.2) (fun q => (fun (k : Int) (fs : List (List AV)) => (0 ≤ k ∧ k ≤ x) ∧ ∃ m : List Fau, fs = m.map Fau.cs ∧ (m.length : Int) = k) q.1 q.2) [0, 3] (by decide) ((0, [])) (by conv => lhs; cbv) (by conv => lhs; cbv) rfl rfl (by dsimp only; exact ⟨by omega, [], rfl, by simp⟩) fun q hi2 Kn2 hN2 => ?_; obtain ⟨k, fs⟩ := q; (try dsimp only at hi2); conv => cbv); obtain ⟨⟨i0, i1⟩, m, hm, hml⟩ := hi2)
    | ((refine loopC hE (ι := Int × (List (List AV))) [5] [6, 3] (fun q => (fun (k : Int) (fs : List (List AV)) => [(6, .int .i64 k), (3, .ob 1)]) q.1 q.2) (fun q => (fun (k : Int) (fs : List (List AV)) => [.box [.sl false 1 rs, .int .i64 a', .int .u64 z'], .row 4 fs]) q.1 q.2) (fun q => (fun (k : Int) (fs : List (List AV)) => (x - k).toNat) q.1 q.2) (fun q => (fun (k : Int) (fs : List (List AV)) => (0 ≤ k ∧ k ≤ x) ∧ ∃ m : List Fau, fs = m.map Fau.cs ∧ (m.length : Int) = k) q.1 q.2) [0, 4] (by decide) ((0, [])) (by conv => lhs; cbv) (by conv => lhs; cbv) rfl rfl (by dsimp only; exact ⟨by omega, [], rfl, by simp⟩) fun q hi2 Kn2 hN2 => ?_; obtain ⟨k, fs⟩ := q; (try dsimp only at hi2); conv => cbv); obtain ⟨⟨i0, i1⟩, m, hm, hml⟩ := hi2)
    | ((refine loopC hE (ι := Int × (List (List AV))) [5] [6, 3] (fun q => (fun (k : Int) (fs : List (List AV)) => [(6, .int .i64 k), (3, .ob 1)]) q.1 q.2) (fun q => (fun (k : Int) (fs : List (List AV)) => [.box [.sl false 1 rs, .int .i64 a', .int .u64 z'], .row 4 fs]) q.1 q.2) (fun q => (fun (k : Int) (fs : List (List AV)) => (x - k).toNat) q.1 q.2) (fun q => (fun (k : Int) (fs : List (List AV)) => (0 ≤ k ∧ k ≤ x) ∧ ∃ m : List Fau, fs = m.map Fau.cs ∧ (m.length : Int) = k) q.1 q.2) [0, 5] (by decide) ((0, [])) (by conv => lhs; cbv) (by conv => lhs; cbv) rfl rfl (by dsimp only; exact ⟨by omega, [], rfl, by simp⟩) fun q hi2 Kn2 hN2 => ?_; obtain ⟨k, fs⟩ := q; (try dsimp only at hi2); conv => cbv); obtain ⟨⟨i0, i1⟩, m, hm, hml⟩ := hi2)
    | (refine hN2 (_, _) _ [0, 3] (by decide) rfl ⟨?_, _, (by assumption), ?_⟩ ?_ <;> (try dsimp only))
    | ((first
     | refine idxV hE (by assumption) (by omega) (by assumption) ?_
     | refine catP hE (R := Fau.cs) (v := ⟨_, _, _, _⟩) (by assumption) rfl (by first | omega | (simp only [List.length_append, List.length_singleton]; omega)) (fun _ _ => ?_)
     | refine ltT hE (by omega) ?_
     | refine ltF hE (by omega) ?_
     | refine ltI hE (fun _ => ?_) (fun _ => ?_)
     | refine leT hE (by omega) ?_
     | refine leF hE (by omega) ?_
     | refine leI hE (fun _ => ?_) (fun _ => ?_)
     | refine eqT hE (by omega) ?_
     | refine eqF hE (by omega) ?_
     | refine eqI hE (fun _ => ?_) (fun _ => ?_)
     | refine add64 hE (by omega) (fun _ _ => ?_)
     | refine sub64 hE (by omega) (fun _ _ => ?_)
     | refine addI hE (fun _ _ => ?_)
     | refine subI hE (fun _ _ => ?_)
     | refine lenL hE (by assumption) (fun _ _ _ => ?_)
     | refine len0 hE (fun _ _ => ?_)
     | refine idxL hE (by assumption) (by first | omega | (simp only [List.length_set, mix_len]; omega)) (fun _ _ => ?_)
     | refine idxFill hE (by assumption) (by omega) ?_
     | refine idxI hE (by decide) (by rfl) ?_
     | refine iteB (fun _ => ?_) (fun _ => ?_)
     | refine maxI hE (fun _ _ => ?_)
     | refine minI hE (fun _ _ => ?_)
     | refine seqI hE (fun _ => ?_) (fun _ => ?_)
     | refine scatI hE (by first | omega | (simp only [ByteArray.size, Array.size, List.length_cons, List.length_nil] at *; omega)) (fun _ _ _ => ?_)
     | refine slenI hE (fun _ _ _ => ?_)
     | refine sidxI hE (by omega) (fun _ _ _ _ => ?_)
     | refine needI hE (by first | decide | omega) ?_
     | refine rem64 hE (by omega) (fun _ _ => ?_)
     | refine quo64 hE (by omega) (fun _ _ => ?_)
     | refine wrapU8 hE (by omega) (fun _ _ => ?_)
     | refine wrap64 hE (by omega) (fun _ _ => ?_)
     | refine noownI hE (by simp [AV.isOwn]) ?_) <;> (try conv => cbv))
  all_goals (try clear hN2)
  all_goals first
    | omega
    | (simp only [List.length_append, List.length_singleton]; omega)
    | exact hK _ _ ⟨_, _, _, _, rfl, by assumption, by first | omega | (rw [List.length_set]; omega) | (simp only [List.length_append, List.length_singleton]; omega), by omega, rfl⟩
    | trace_state
theorem l20DrawSpan_ {rs : List (List AV)} {code : List Int} (a z : Int) (hc : rs = code.map u8R) (hb : Bytes code) (ha : 0 ≤ a ∧ a ≤ 500000000) : ACS Try.prog 47 [.bx [.sl false 1 rs, .int .i64 a, .int .u64 z]] (fun r ys => ∃ (l : List Fau) (rs1 : List (List AV)) (aid f u a' z' : Int), r = .tup [.sl true 4 rs1, .int .i64 aid, .int .i64 f, .int .i64 u] ∧ rs1 = l.map Fau.cs ∧ l.length ≤ 49 ∧ (a ≤ a' ∧ a' ≤ a + 100) ∧ ys = [.bx [.sl false 1 rs, .int .i64 a', .int .u64 z']]) := by
  refine acs 1 Try.func47 (by kernel_rfl) fun E K hE hK => ?_
  conv => cbv
  refine callSI hE (l20Draw_ _ _ hc hb (by omega)) ?_
  rintro r ys ⟨l, rs1, a', z', rfl, hl, hlen, ha', rfl⟩
  conv => cbv
  repeat' first
    | (refine callSI hE (one_ _ _ _ hc hb (by omega)) ?_; rintro r ys ⟨c, a', z', rfl, ha', rfl⟩; (try conv => cbv))
    | (refine callSI hE (among_ (l := [1, 100, 1000, 5000, 0, -5]) _ _ hc hb (by omega) rfl (by decide)) ?_; rintro r ys ⟨x, a', z', rfl, hx, ha', rfl⟩; simp only [List.mem_cons, List.not_mem_nil, or_false] at hx; (try conv => cbv))
    | (refine callSI hE (among_ (l := [143999999, 144000000]) _ _ hc hb (by omega) rfl (by decide)) ?_; rintro r ys ⟨x, a', z', rfl, hx, ha', rfl⟩; simp only [List.mem_cons, List.not_mem_nil, or_false] at hx; (try conv => cbv))
    | (refine callSI hE (l20DrawAid_ _ _ hc hb (by omega)) ?_; rintro r ys ⟨x, a', z', rfl, ha', rfl⟩; (try conv => cbv))
    | (refine callSI hE (l20DrawTime_ _ _ hc hb (by omega)) ?_; rintro r ys ⟨x, a', z', rfl, hx, ha', rfl⟩; (try conv => cbv))
    | (refine sameI hE rfl ?_; (try conv => cbv))
    | ((first
     | refine idxV hE (by assumption) (by omega) (by assumption) ?_
     | refine ltT hE (by omega) ?_
     | refine ltF hE (by omega) ?_
     | refine ltI hE (fun _ => ?_) (fun _ => ?_)
     | refine leT hE (by omega) ?_
     | refine leF hE (by omega) ?_
     | refine leI hE (fun _ => ?_) (fun _ => ?_)
     | refine eqT hE (by omega) ?_
     | refine eqF hE (by omega) ?_
     | refine eqI hE (fun _ => ?_) (fun _ => ?_)
     | refine add64 hE (by omega) (fun _ _ => ?_)
     | refine sub64 hE (by omega) (fun _ _ => ?_)
     | refine addI hE (fun _ _ => ?_)
     | refine subI hE (fun _ _ => ?_)
     | refine lenL hE (by assumption) (fun _ _ _ => ?_)
     | refine len0 hE (fun _ _ => ?_)
     | refine idxL hE (by assumption) (by first | omega | (simp only [List.length_set, mix_len]; omega)) (fun _ _ => ?_)
     | refine idxFill hE (by assumption) (by omega) ?_
     | refine idxI hE (by decide) (by rfl) ?_
     | refine iteB (fun _ => ?_) (fun _ => ?_)
     | refine maxI hE (fun _ _ => ?_)
     | refine minI hE (fun _ _ => ?_)
     | refine seqI hE (fun _ => ?_) (fun _ => ?_)
     | refine scatI hE (by first | omega | (simp only [ByteArray.size, Array.size, List.length_cons, List.length_nil] at *; omega)) (fun _ _ _ => ?_)
     | refine slenI hE (fun _ _ _ => ?_)
     | refine sidxI hE (by omega) (fun _ _ _ _ => ?_)
     | refine needI hE (by first | decide | omega) ?_
     | refine rem64 hE (by omega) (fun _ _ => ?_)
     | refine quo64 hE (by omega) (fun _ _ => ?_)
     | refine wrapU8 hE (by omega) (fun _ _ => ?_)
     | refine wrap64 hE (by omega) (fun _ _ => ?_)
     | refine noownI hE (by simp [AV.isOwn]) ?_) <;> (try conv => cbv))
  all_goals exact hK _ _ ⟨l, rs1, _, _, _, _, _, rfl, hl, hlen, by omega, rfl⟩
theorem drawDownTime_ {rs : List (List AV)} {code : List Int} (hc : rs = code.map u8R) (hb : Bytes code) : ACS Try.prog 9 [.sl false 1 rs] (fun r ys => ∃ (l : List Fau) (rs1 : List (List AV)) (aid f u : Int), r = .tup [.sl true 4 rs1, .int .i64 aid, .int .i64 f, .int .i64 u] ∧ rs1 = l.map Fau.cs ∧ l.length ≤ 49 ∧ ys = [.any]) := by
  refine acs 0 Try.func9 (by kernel_rfl) fun E K hE hK => ?_
  conv => cbv
  refine callSI hE from_ ?_
  rintro r ys ⟨rfl, rfl⟩
  conv => cbv
  refine callSI hE (l20DrawSpan_ _ _ hc hb (by omega)) ?_
  rintro r ys ⟨l, rs1, aid, f, u, a', z', rfl, hl, hlen, ha', rfl⟩
  conv => cbv
  exact hK _ _ ⟨l, rs1, _, _, _, rfl, hl, hlen, rfl⟩
end Go.Proofs.Ytjenekakcoggpaa
