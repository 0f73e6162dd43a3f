/- Contracts: the draws of lists of inspections. -/
import Derived.Test.YtjenekakcoggpaaFsd
namespace Go.Proofs.Ytjenekakcoggpaa
open Go Go.RowKit
set_option maxRecDepth 100000
set_option maxHeartbeats 2000000
set_option linter.unusedVariables false
set_option linter.unusedSimpArgs false
theorem l30DrawOk_ {rs : List (List AV)} {code : List Int} (a z : Int) (hc : rs = code.map u8R) (hb : Bytes code) (ha : 0 ≤ a ∧ a ≤ 700000000) : ACS Try.prog 130 [.bx [.sl false 1 rs, .int .i64 a, .int .u64 z]] (fun r ys => ∃ (l : List Vis) (rs1 : List (List AV)) (a' z' : Int), r = .sl true 3 rs1 ∧ rs1 = l.map Vis.cs ∧ l.length ≤ 6 ∧ (a ≤ a' ∧ a' ≤ a + 38) ∧ ys = [.bx [.sl false 1 rs, .int .i64 a', .int .u64 z']]) := by
  refine acs 1 Try.func130 (by kernel_rfl) fun E K hE hK => ?_
  conv => cbv
  refine callSI hE (pick_ _ _ 7 hc hb (by omega)) ?_
  rintro r ys ⟨x, a1, z1, rfl, hx, ha1, rfl⟩
  conv => cbv
  refine loopC hE (ι := Int × Int × Int × (List (List AV))) [0] [4, 3] (fun q => (fun (k : Int) (a2 : Int) (z2 : Int) (es : List (List AV)) => [(4, .int .i64 k), (3, .ob 1)]) q.1 q.2.1 q.2.2.1 q.2.2.2) (fun q => (fun (k : Int) (a2 : Int) (z2 : Int) (es : List (List AV)) => [.box [.sl false 1 rs, .int .i64 a2, .int .u64 z2], .row 3 es]) q.1 q.2.1 q.2.2.1 q.2.2.2) (fun q => (fun (k : Int) (a2 : Int) (z2 : Int) (es : List (List AV)) => (k).toNat) q.1 q.2.1 q.2.2.1 q.2.2.2) (fun q => (fun (k : Int) (a2 : Int) (z2 : Int) (es : List (List AV)) => (0 ≤ k ∧ k ≤ 6) ∧ (a ≤ a2 ∧ a2 ≤ a + 2 + 6 * (6 - k)) ∧ ∃ l : List Vis, es = l.map Vis.cs ∧ (l.length : Int) ≤ 6 - k) q.1 q.2.1 q.2.2.1 q.2.2.2) [0, 1] (by decide) ((x, a1, z1, [])) (by conv => lhs; cbv) (by conv => lhs; cbv) rfl rfl (by dsimp only; exact ⟨by omega, by omega, [], rfl, by simp; omega⟩) fun q hi Kn hN => ?_
  obtain ⟨k, a2, z2, es⟩ := q
  (try dsimp only at hi)
  conv => cbv
  obtain ⟨⟨k0, k1⟩, ⟨a0, a3⟩, l, hl, hlen⟩ := hi
  repeat' first
    | (refine callSI hE (l30DrawOne_ _ _ hc hb (by omega)) ?_; rintro r ys ⟨v1, v2, v3, a', z', rfl, ha', rfl⟩; (try conv => cbv))
    | ((refine loopC hE (ι := Int × Bool × (List (List AV))) [0, 3, 4, 5] [8, 7, 6] (fun q => (fun (i : Int) (d : Bool) (fs : List (List AV)) => [(8, .int .i64 i), (7, .bool d), (6, .ob 3)]) q.1 q.2.1 q.2.2) (fun q => (fun (i : Int) (d : Bool) (fs : List (List AV)) => [.box [.sl false 1 rs, .int .i64 a', .int .u64 z'], .row 3 es, .box [.int .i64 v1, .int .i64 v2, .int .i64 v3], .row 3 fs]) q.1 q.2.1 q.2.2) (fun q => (fun (i : Int) (d : Bool) (fs : List (List AV)) => (l.length - i).toNat) q.1 q.2.1 q.2.2) (fun q => (fun (i : Int) (d : Bool) (fs : List (List AV)) => (0 ≤ i ∧ i ≤ l.length) ∧ ∃ m : List Vis, fs = m.map Vis.cs ∧ (m.length : Int) ≤ i + (if d = true then 1 else 0)) q.1 q.2.1 q.2.2) [0, 1, 2, 3] (by decide) ((0, false, [])) (by conv => lhs; cbv) (by conv => lhs; cbv) rfl rfl (by dsimp only; exact ⟨by omega, [], rfl, by simp⟩) fun q hi2 Kn2 hN2 => ?_; obtain ⟨i, d, fs⟩ := q; (try dsimp only at hi2); conv => cbv); obtain ⟨⟨i0, i1⟩, m, hm, hml⟩ := hi2; cases d <;> simp only [if_true, Bool.false_eq_true, if_false] at hml <;> (try conv => cbv))
    | (refine hN2 (_, _, _) _ [0, 1, 2, 3] (by decide) rfl ⟨?_, _, (by assumption), ?_⟩ ?_ <;> (try dsimp only))
    | (refine hN2 (_, _, _) _ [0, 1, 2, 5] (by decide) rfl ⟨?_, _, (by assumption), ?_⟩ ?_ <;> (try dsimp only))
    | (refine hN2 (_, _, _) _ [0, 1, 2, 7] (by decide) rfl ⟨?_, _, (by assumption), ?_⟩ ?_ <;> (try dsimp only))
    | (refine hN (_, _, _, _) _ [0, 3] (by decide) rfl ⟨?_, ?_, _, (by assumption), ?_⟩ ?_ <;> (try dsimp only))
    | (refine hN (_, _, _, _) _ [0, 5] (by decide) rfl ⟨?_, ?_, _, (by assumption), ?_⟩ ?_ <;> (try dsimp only))
    | ((first
     | refine idxV hE (by assumption) (by omega) (by assumption) ?_
     | (refine idxL (R := Vis.cs) hE (by assumption) (by first | omega | (simp only [List.length_set, mix_len]; omega)) ?_; rintro ⟨⟩ _)
     | refine catP hE (R := Vis.cs) (v := ⟨_, _, _⟩) (by assumption) rfl (by first | omega | (simp only [List.length_append, List.length_singleton]; omega)) (fun _ _ => ?_)
     | refine ltT hE (by omega) ?_
     | refine ltF hE (by omega) ?_
     | refine ltI hE (fun _ => ?_) (fun _ => ?_)
     | refine leT hE (by omega) ?_
     | refine leF hE (by omega) ?_
     | refine leI hE (fun _ => ?_) (fun _ => ?_)
     | refine eqT hE (by omega) ?_
     | refine eqF hE (by omega) ?_
     | refine eqI hE (fun _ => ?_) (fun _ => ?_)
     | refine add64 hE (by omega) (fun _ _ => ?_)
     | refine sub64 hE (by omega) (fun _ _ => ?_)
     | refine addI hE (fun _ _ => ?_)
     | refine subI hE (fun _ _ => ?_)
     | refine lenL hE (by assumption) (fun _ _ _ => ?_)
     | refine len0 hE (fun _ _ => ?_)
     | refine idxL hE (by assumption) (by first | omega | (simp only [List.length_set, mix_len]; omega)) (fun _ _ => ?_)
     | refine idxFill hE (by assumption) (by omega) ?_
     | refine idxI hE (by decide) (by rfl) ?_
     | refine iteB (fun _ => ?_) (fun _ => ?_)
     | refine maxI hE (fun _ _ => ?_)
     | refine minI hE (fun _ _ => ?_)
     | refine seqI hE (fun _ => ?_) (fun _ => ?_)
     | refine scatI hE (by first | omega | (simp only [ByteArray.size, Array.size, List.length_cons, List.length_nil] at *; omega)) (fun _ _ _ => ?_)
     | refine slenI hE (fun _ _ _ => ?_)
     | refine sidxI hE (by omega) (fun _ _ _ _ => ?_)
     | refine needI hE (by first | decide | omega) ?_
     | refine rem64 hE (by omega) (fun _ _ => ?_)
     | refine quo64 hE (by omega) (fun _ _ => ?_)
     | refine wrapU8 hE (by omega) (fun _ _ => ?_)
     | refine wrap64 hE (by omega) (fun _ _ => ?_)
     | refine noownI hE (by simp [AV.isOwn]) ?_) <;> (try conv => cbv))
  all_goals (try clear hN)
  all_goals (try clear hN2)
  all_goals first
    | omega
    | (simp only [List.length_append, List.length_singleton, if_true, Bool.false_eq_true, if_false]; omega)
    | exact hK _ _ ⟨_, _, _, _, rfl, by assumption, by omega, by omega, rfl⟩
    | trace_state
theorem l30Draw_ {rs : List (List AV)} {code : List Int} (a z : Int) (hc : rs = code.map u8R) (hb : Bytes code) (ha : 0 ≤ a ∧ a ≤ 600000000) : ACS Try.prog 80 [.bx [.sl false 1 rs, .int .i64 a, .int .u64 z]] (fun r ys => ∃ (l : List Vis) (rs1 : List (List AV)) (a' z' : Int), r = .sl true 3 rs1 ∧ rs1 = l.map Vis.cs ∧ l.length ≤ 25 ∧ (a ≤ a' ∧ a' ≤ a + 60) ∧ ys = [.bx [.sl false 1 rs, .int .i64 a', .int .u64 z']]) := by
  refine acs 1 Try.func80 (by kernel_rfl) fun E K hE hK => ?_
  conv => cbv
  refine callSI hE (l30DrawOk_ _ _ hc hb (by omega)) ?_
  rintro r ys ⟨l, rs1, a', z', rfl, hl, hlen, ha', rfl⟩
  conv => cbv
  repeat' first
    | (refine callSI hE (one_ _ _ _ hc hb (by omega)) ?_; rintro r ys ⟨c, a', z', rfl, ha', rfl⟩; (try conv => cbv))
    | (refine callSI hE (pick_ _ _ _ hc hb (by omega)) ?_; rintro r ys ⟨x, a', z', rfl, hx, ha', rfl⟩; (try conv => cbv))
    | (refine callSI hE (among_ (l := [24, 25]) _ _ hc hb (by omega) rfl (by decide)) ?_; rintro r ys ⟨x, a', z', rfl, hx, ha', rfl⟩; simp only [List.mem_cons, List.not_mem_nil, or_false] at hx; (try conv => cbv))
    | ((refine idxL (R := Vis.cs) hE hl (by omega) ?_; rintro ⟨w1, w2, w3⟩ hw; (try conv => cbv)))
    | (refine callSI hE (l30Bend_ _ _ _ _ _ hc hb (by omega)) ?_; rintro r ys ⟨v1, v2, v3, a', z', rfl, ha', rfl⟩; (try conv => cbv))
    | (refine updL hE (R := Vis.cs) ⟨v1, v2, v3⟩ hl (by omega) hw (by exact Nat.le_of_ble_eq_true rfl) (by rfl) (fun es' hes' => ?_); (try conv => cbv))
    | (refine sameI hE rfl ?_; (try conv => cbv))
    | ((refine loopC hE (ι := Int × (List (List AV))) [5] [6, 3] (fun q => (fun (k : Int) (fs : List (List AV)) => [(6, .int .i64 k), (3, .ob 1)]) q.1 q.2) (fun q => (fun (k : Int) (fs : List (List AV)) => [.box [.sl false 1 rs, .int .i64 a', .int .u64 z'], .row 3 fs]) q.1 q.2) (fun q => (fun (k : Int) (fs : List (List AV)) => (x - k).toNat) q.1 q.2) (fun q => (fun (k : Int) (fs : List (List AV)) => (0 ≤ k ∧ k ≤ x) ∧ ∃ m : List Vis, fs = m.map Vis.cs ∧ (m.length : Int) = k) q.1 q.2) [0, 3] (by decide) ((0, [])) (by conv => lhs; cbv) (by conv => lhs; cbv) rfl rfl (by dsimp only; exact ⟨by omega, [], rfl, by simp⟩) fun q hi2 Kn2 hN2 => ?_; obtain ⟨k, fs⟩ := q; (try dsimp only at hi2); conv => cbv); obtain ⟨⟨i0, i1⟩, m, hm, hml⟩ := hi2)
    | (refine hN2 (_, _) _ [0, 3] (by decide) rfl ⟨?_, _, (by assumption), ?_⟩ ?_ <;> (try dsimp only))
    | ((first
     | refine idxV hE (by assumption) (by omega) (by assumption) ?_
     | refine catP hE (R := Vis.cs) (v := ⟨_, _, _⟩) (by assumption) rfl (by first | omega | (simp only [List.length_append, List.length_singleton]; omega)) (fun _ _ => ?_)
     | refine ltT hE (by omega) ?_
     | refine ltF hE (by omega) ?_
     | refine ltI hE (fun _ => ?_) (fun _ => ?_)
     | refine leT hE (by omega) ?_
     | refine leF hE (by omega) ?_
     | refine leI hE (fun _ => ?_) (fun _ => ?_)
     | refine eqT hE (by omega) ?_
     | refine eqF hE (by omega) ?_
     | refine eqI hE (fun _ => ?_) (fun _ => ?_)
     | refine add64 hE (by omega) (fun _ _ => ?_)
     | refine sub64 hE (by omega) (fun _ _ => ?_)
     | refine addI hE (fun _ _ => ?_)
     | refine subI hE (fun _ _ => ?_)
     | refine lenL hE (by assumption) (fun _ _ _ => ?_)
     | refine len0 hE (fun _ _ => ?_)
     | refine idxL hE (by assumption) (by first | omega | (simp only [List.length_set, mix_len]; omega)) (fun _ _ => ?_)
     | refine idxFill hE (by assumption) (by omega) ?_
     | refine idxI hE (by decide) (by rfl) ?_
     | refine iteB (fun _ => ?_) (fun _ => ?_)
     | refine maxI hE (fun _ _ => ?_)
     | refine minI hE (fun _ _ => ?_)
     | refine seqI hE (fun _ => ?_) (fun _ => ?_)
     | refine scatI hE (by first | omega | (simp only [ByteArray.size, Array.size, List.length_cons, List.length_nil] at *; omega)) (fun _ _ _ => ?_)
     | refine slenI hE (fun _ _ _ => ?_)
     | refine sidxI hE (by omega) (fun _ _ _ _ => ?_)
     | refine needI hE (by first | decide | omega) ?_
     | refine rem64 hE (by omega) (fun _ _ => ?_)
     | refine quo64 hE (by omega) (fun _ _ => ?_)
     | refine wrapU8 hE (by omega) (fun _ _ => ?_)
     | refine wrap64 hE (by omega) (fun _ _ => ?_)
     | refine noownI hE (by simp [AV.isOwn]) ?_) <;> (try conv => cbv))
  all_goals (try clear hN2)
  all_goals first
    | omega
    | (simp only [List.length_append, List.length_singleton]; omega)
    | exact hK _ _ ⟨_, _, _, _, rfl, by assumption, by first | omega | (rw [List.length_set]; omega), by omega, rfl⟩
    | trace_state
theorem l30DrawAid_ {rs : List (List AV)} {rs1 : List (List AV)} {l : List Vis} {code : List Int} (a z : Int) (hc : rs = code.map u8R) (hb : Bytes code) (ha : 0 ≤ a ∧ a ≤ 600000000) (hl : rs1 = l.map Vis.cs) : ACS Try.prog 96 [.bx [.sl false 1 rs, .int .i64 a, .int .u64 z], .sl true 3 rs1] (fun r ys => ∃ (x a' z' : Int), r = .int .i64 x ∧ (a ≤ a' ∧ a' ≤ a + 4) ∧ ys = [.bx [.sl false 1 rs, .int .i64 a', .int .u64 z'], .sl true 3 rs1]) := by
  refine acs 2 Try.func96 (by kernel_rfl) fun E K hE hK => ?_
  conv => cbv
  repeat' first
    | (refine callSI hE (one_ _ _ _ hc hb (by omega)) ?_; rintro r ys ⟨c, a', z', rfl, ha', rfl⟩; (try conv => cbv))
    | (refine callSI hE (pick_ _ _ _ hc hb (by omega)) ?_; rintro r ys ⟨x, a', z', rfl, hx, ha', rfl⟩; (try conv => cbv))
    | ((refine idxL (R := Vis.cs) hE hl (by omega) ?_; rintro ⟨w1, w2, w3⟩ hw; (try conv => cbv)))
    | (refine sameI hE rfl ?_; (try conv => cbv))
    | ((first
     | refine idxV hE (by assumption) (by omega) (by assumption) ?_
     | refine ltT hE (by omega) ?_
     | refine ltF hE (by omega) ?_
     | refine ltI hE (fun _ => ?_) (fun _ => ?_)
     | refine leT hE (by omega) ?_
     | refine leF hE (by omega) ?_
     | refine leI hE (fun _ => ?_) (fun _ => ?_)
     | refine eqT hE (by omega) ?_
     | refine eqF hE (by omega) ?_
     | refine eqI hE (fun _ => ?_) (fun _ => ?_)
     | refine add64 hE (by omega) (fun _ _ => ?_)
     | refine sub64 hE (by omega) (fun _ _ => ?_)
     | refine addI hE (fun _ _ => ?_)
     | refine subI hE (fun _ _ => ?_)
     | refine lenL hE (by assumption) (fun _ _ _ => ?_)
     | refine len0 hE (fun _ _ => ?_)
     | refine idxL hE (by assumption) (by first | omega | (simp only [List.length_set, mix_len]; omega)) (fun _ _ => ?_)
     | refine idxFill hE (by assumption) (by omega) ?_
     | refine idxI hE (by decide) (by rfl) ?_
     | refine iteB (fun _ => ?_) (fun _ => ?_)
     | refine maxI hE (fun _ _ => ?_)
     | refine minI hE (fun _ _ => ?_)
     | refine seqI hE (fun _ => ?_) (fun _ => ?_)
     | refine scatI hE (by first | omega | (simp only [ByteArray.size, Array.size, List.length_cons, List.length_nil] at *; omega)) (fun _ _ _ => ?_)
     | refine slenI hE (fun _ _ _ => ?_)
     | refine sidxI hE (by omega) (fun _ _ _ _ => ?_)
     | refine needI hE (by first | decide | omega) ?_
     | refine rem64 hE (by omega) (fun _ _ => ?_)
     | refine quo64 hE (by omega) (fun _ _ => ?_)
     | refine wrapU8 hE (by omega) (fun _ _ => ?_)
     | refine wrap64 hE (by omega) (fun _ _ => ?_)
     | refine noownI hE (by simp [AV.isOwn]) ?_) <;> (try conv => cbv))
  all_goals exact hK _ _ ⟨_, _, _, rfl, by omega, rfl⟩
theorem drawPlanVisits_ {rs : List (List AV)} {code : List Int} (hc : rs = code.map u8R) (hb : Bytes code) : ACS Try.prog 31 [.sl false 1 rs] (fun r ys => ∃ (l : List Vis) (rs1 : List (List AV)) (f u room ahead : Int), r = .tup [.sl true 3 rs1, .int .i64 f, .int .i64 u, .int .i64 room, .int .i64 ahead] ∧ rs1 = l.map Vis.cs ∧ l.length ≤ 25 ∧ ys = [.any]) := by
  refine acs 0 Try.func31 (by kernel_rfl) fun E K hE hK => ?_
  conv => cbv
  refine callSI hE from_ ?_
  rintro r ys ⟨rfl, rfl⟩
  conv => cbv
  refine callSI hE (l30Draw_ _ _ hc hb (by omega)) ?_
  rintro r ys ⟨l, rs1, a', z', rfl, hl, hlen, ha', rfl⟩
  conv => cbv
  repeat' first
    | (refine callSI hE (pick_ _ _ _ hc hb (by omega)) ?_; rintro r ys ⟨x, a', z', rfl, hx, ha', rfl⟩; (try conv => cbv))
    | (refine callSI hE (among_ (l := [-1, 400, 401]) _ _ hc hb (by omega) rfl (by decide)) ?_; rintro r ys ⟨x, a', z', rfl, hx, ha', rfl⟩; simp only [List.mem_cons, List.not_mem_nil, or_false] at hx; (try conv => cbv))
    | (refine callSI hE (l30DrawDay_ _ _ hc hb (by omega)) ?_; rintro r ys ⟨x, a', z', rfl, hx, ha', rfl⟩; (try conv => cbv))
    | (refine callSI hE (l30DrawRoom_ _ _ hc hb (by omega)) ?_; rintro r ys ⟨x, y, a', z', rfl, ha', rfl⟩; (try conv => cbv))
    | (refine sameI hE rfl ?_; (try conv => cbv))
    | ((first
     | refine idxV hE (by assumption) (by omega) (by assumption) ?_
     | refine ltT hE (by omega) ?_
     | refine ltF hE (by omega) ?_
     | refine ltI hE (fun _ => ?_) (fun _ => ?_)
     | refine leT hE (by omega) ?_
     | refine leF hE (by omega) ?_
     | refine leI hE (fun _ => ?_) (fun _ => ?_)
     | refine eqT hE (by omega) ?_
     | refine eqF hE (by omega) ?_
     | refine eqI hE (fun _ => ?_) (fun _ => ?_)
     | refine add64 hE (by omega) (fun _ _ => ?_)
     | refine sub64 hE (by omega) (fun _ _ => ?_)
     | refine addI hE (fun _ _ => ?_)
     | refine subI hE (fun _ _ => ?_)
     | refine lenL hE (by assumption) (fun _ _ _ => ?_)
     | refine len0 hE (fun _ _ => ?_)
     | refine idxL hE (by assumption) (by first | omega | (simp only [List.length_set, mix_len]; omega)) (fun _ _ => ?_)
     | refine idxFill hE (by assumption) (by omega) ?_
     | refine idxI hE (by decide) (by rfl) ?_
     | refine iteB (fun _ => ?_) (fun _ => ?_)
     | refine maxI hE (fun _ _ => ?_)
     | refine minI hE (fun _ _ => ?_)
     | refine seqI hE (fun _ => ?_) (fun _ => ?_)
     | refine scatI hE (by first | omega | (simp only [ByteArray.size, Array.size, List.length_cons, List.length_nil] at *; omega)) (fun _ _ _ => ?_)
     | refine slenI hE (fun _ _ _ => ?_)
     | refine sidxI hE (by omega) (fun _ _ _ _ => ?_)
     | refine needI hE (by first | decide | omega) ?_
     | refine rem64 hE (by omega) (fun _ _ => ?_)
     | refine quo64 hE (by omega) (fun _ _ => ?_)
     | refine wrapU8 hE (by omega) (fun _ _ => ?_)
     | refine wrap64 hE (by omega) (fun _ _ => ?_)
     | refine noownI hE (by simp [AV.isOwn]) ?_) <;> (try conv => cbv))
  all_goals exact hK _ _ ⟨l, rs1, _, _, _, _, rfl, hl, hlen, rfl⟩
theorem drawMarkVisited_ {rs : List (List AV)} {code : List Int} (hc : rs = code.map u8R) (hb : Bytes code) : ACS Try.prog 35 [.sl false 1 rs] (fun r ys => ∃ (l : List Vis) (rs1 : List (List AV)) (aid day : Int), r = .tup [.sl true 3 rs1, .int .i64 aid, .int .i64 day] ∧ rs1 = l.map Vis.cs ∧ l.length ≤ 25 ∧ ys = [.any]) := by
  refine acs 0 Try.func35 (by kernel_rfl) fun E K hE hK => ?_
  conv => cbv
  refine callSI hE from_ ?_
  rintro r ys ⟨rfl, rfl⟩
  conv => cbv
  refine callSI hE (l30Draw_ _ _ hc hb (by omega)) ?_
  rintro r ys ⟨l, rs1, a', z', rfl, hl, hlen, ha', rfl⟩
  conv => cbv
  repeat' first
    | (refine callSI hE (l30DrawAid_ _ _ hc hb (by omega) hl) ?_; rintro r ys ⟨x, a', z', rfl, ha', rfl⟩; (try conv => cbv))
    | (refine callSI hE (l30DrawDay_ _ _ hc hb (by omega)) ?_; rintro r ys ⟨x, a', z', rfl, hx, ha', rfl⟩; (try conv => cbv))
    | (refine sameI hE rfl ?_; (try conv => cbv))
    | ((first
     | refine idxV hE (by assumption) (by omega) (by assumption) ?_
     | refine ltT hE (by omega) ?_
     | refine ltF hE (by omega) ?_
     | refine ltI hE (fun _ => ?_) (fun _ => ?_)
     | refine leT hE (by omega) ?_
     | refine leF hE (by omega) ?_
     | refine leI hE (fun _ => ?_) (fun _ => ?_)
     | refine eqT hE (by omega) ?_
     | refine eqF hE (by omega) ?_
     | refine eqI hE (fun _ => ?_) (fun _ => ?_)
     | refine add64 hE (by omega) (fun _ _ => ?_)
     | refine sub64 hE (by omega) (fun _ _ => ?_)
     | refine addI hE (fun _ _ => ?_)
     | refine subI hE (fun _ _ => ?_)
     | refine lenL hE (by assumption) (fun _ _ _ => ?_)
     | refine len0 hE (fun _ _ => ?_)
     | refine idxL hE (by assumption) (by first | omega | (simp only [List.length_set, mix_len]; omega)) (fun _ _ => ?_)
     | refine idxFill hE (by assumption) (by omega) ?_
     | refine idxI hE (by decide) (by rfl) ?_
     | refine iteB (fun _ => ?_) (fun _ => ?_)
     | refine maxI hE (fun _ _ => ?_)
     | refine minI hE (fun _ _ => ?_)
     | refine seqI hE (fun _ => ?_) (fun _ => ?_)
     | refine scatI hE (by first | omega | (simp only [ByteArray.size, Array.size, List.length_cons, List.length_nil] at *; omega)) (fun _ _ _ => ?_)
     | refine slenI hE (fun _ _ _ => ?_)
     | refine sidxI hE (by omega) (fun _ _ _ _ => ?_)
     | refine needI hE (by first | decide | omega) ?_
     | refine rem64 hE (by omega) (fun _ _ => ?_)
     | refine quo64 hE (by omega) (fun _ _ => ?_)
     | refine wrapU8 hE (by omega) (fun _ _ => ?_)
     | refine wrap64 hE (by omega) (fun _ _ => ?_)
     | refine noownI hE (by simp [AV.isOwn]) ?_) <;> (try conv => cbv))
  all_goals exact hK _ _ ⟨l, rs1, _, _, rfl, hl, hlen, rfl⟩
end Go.Proofs.Ytjenekakcoggpaa
