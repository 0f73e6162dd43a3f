/- Contracts: the draws of duties. -/
import Derived.Test.YtnfjhadaclcgeaaGreatDoorFad
import Derived.Test.YtnfjhadaclcgeaaGreatDoorFsr
namespace Go.Proofs.YtnfjhadaclcgeaaGreatDoor
open Go Go.RowKit Go.Sort Classical
set_option maxRecDepth 100000
set_option maxHeartbeats 2000000
set_option linter.unusedVariables false
set_option linter.unusedSimpArgs false
theorem addD {E : Env} {np : Nat} {P : Program} [hE : SE E np P] {a b : Int} {K : Int → Prop} (hk : ∀ n, K n) : E.add .i64 a b K := by cases hE.h; exact hk _
theorem textD_ {rs rs1 : List (List AV)} {code : List Int} {l : List ByteArray} (a z : Int) (hc : rs = code.map u8R) (hb : Bytes code) (ha : 0 ≤ a ∧ a ≤ 900000000) (hl : rs1 = l.map strR) (hn : 0 < l.length) : ACS Tryz.prog 65 [.bx [.sl false 1 rs, .int .i64 a, .int .u64 z], .sl true 1 rs1] (fun r ys => ∃ s a' z', r = .str s ∧ (a ≤ a' ∧ a' ≤ a + 2) ∧ ys = [.bx [.sl false 1 rs, .int .i64 a', .int .u64 z'], .sl true 1 rs1]) := by
  refine acs 2 Tryz.func65 fun E K hE hK => ?_
  repeat' first
    | ((first
   | (refine callSI (pick_ _ _ _ hc hb ha) ?_; rintro r ys ⟨x, a', z', rfl, hx, ha', rfl⟩)
   | refine B0 ?_|refine B1 ?_ ?_) <;> intros <;> (try conv => cbv))
  all_goals exact hK _ _ ⟨_, _, _, rfl, ha', rfl⟩
theorem amongD_ {rs rs1 : List (List AV)} {code l : List Int} (a z : Int) (hc : rs = code.map u8R) (hb : Bytes code) (ha : 0 ≤ a ∧ a ≤ 900000000) (hl : rs1 = l.map intR) (hn : 0 < l.length) : ACS Tryz.prog 24 [.bx [.sl false 1 rs, .int .i64 a, .int .u64 z], .sl false 1 rs1] (fun r ys => ∃ x a' z', r = .int .i64 x ∧ x ∈ l ∧ (a ≤ a' ∧ a' ≤ a + 2) ∧ ys = [.bx [.sl false 1 rs, .int .i64 a', .int .u64 z'], .any]) := by
  refine acs 1 Tryz.func24 fun E K hE hK => ?_
  repeat' first
    | ((first
   | (refine callSI (pick_ _ _ _ hc hb ha) ?_; rintro r ys ⟨x, a', z', rfl, hx, ha', rfl⟩)
   | refine B0 ?_|refine B1 ?_ ?_) <;> intros <;> (try conv => cbv))
  all_goals exact hK _ _ ⟨_, _, _, rfl, List.mem_of_getElem? (by assumption), ha', rfl⟩
theorem l28DrawOne_ {rs : List (List AV)} {code : List Int} (a z : Int) (hc : rs = code.map u8R) (hb : Bytes code) (ha : 0 ≤ a ∧ a ≤ 700000000) : ACS Tryz.prog 38 [.bx [.sl false 1 rs, .int .i64 a, .int .u64 z]] (fun r ys => ∃ (k : ByteArray) (f u a' z' : Int), r = .agg [.str k, .int .i64 f, .int .i64 u] ∧ (a ≤ a' ∧ a' ≤ a + 6) ∧ ys = [.bx [.sl false 1 rs, .int .i64 a', .int .u64 z']]) := by
  refine acs 1 Tryz.func38 fun E K hE hK => ?_
  repeat' first
    | ((first
   | (refine callSI (pick_ _ _ _ hc hb (by omega)) ?_; rintro r ys ⟨x, a', z', rfl, hx, ha', rfl⟩)
   | (refine callSI (textD_ (l := [_, _, _]) _ _ hc hb (by omega) rfl (by exact Nat.le_of_ble_eq_true rfl)) ?_; rintro r ys ⟨sx, a', z', rfl, ha', rfl⟩)
   | (refine callSI (amongD_ (l := [60, 240, 480, 720, 1, 7]) _ _ hc hb (by omega) rfl (by first | decide | exact Nat.le_of_ble_eq_true rfl)) ?_; rintro r ys ⟨x, a', z', rfl, hx, ha', rfl⟩; (try simp only [List.mem_cons, List.not_mem_nil, or_false] at hx))
   | refine mul64 (by omega) (fun _ _ => ?_)
   | refine addD (fun _ => ?_)
   | refine sameI rfl ?_
   | refine needI rfl ?_
   | refine B0 ?_|refine B1 ?_ ?_) <;> intros <;> (try conv => cbv))
  all_goals exact hK _ _ ⟨_, _, _, _, _, rfl, by omega, rfl⟩
theorem l28Bend_ {rs : List (List AV)} {code : List Int} (a z : Int) (hc : rs = code.map u8R) (hb : Bytes code) (ha : 0 ≤ a ∧ a ≤ 800000000) (k : ByteArray) (f u : Int) : ACS Tryz.prog 37 [.bx [.sl false 1 rs, .int .i64 a, .int .u64 z], .agg [.str k, .int .i64 f, .int .i64 u]] (fun r ys => ∃ (k' : ByteArray) (f' u' a' z' : Int), r = .agg [.str k', .int .i64 f', .int .i64 u'] ∧ (a ≤ a' ∧ a' ≤ a + 4) ∧ ys = [.bx [.sl false 1 rs, .int .i64 a', .int .u64 z'], .any]) := by
  refine acs 1 Tryz.func37 fun E K hE hK => ?_
  repeat' first
    | ((first
   | (refine callSI (pick_ _ _ _ hc hb (by omega)) ?_; rintro r ys ⟨x, a', z', rfl, hx, ha', rfl⟩)
   | (refine callSI (textD_ (l := [_, _]) _ _ hc hb (by omega) rfl (by exact Nat.le_of_ble_eq_true rfl)) ?_; rintro r ys ⟨sx, a', z', rfl, ha', rfl⟩)
   | (refine callSI (among_ (l := [-1, 0, 143999999]) _ _ hc hb (by omega) rfl (by first | decide | exact Nat.le_of_ble_eq_true rfl)) ?_; rintro r ys ⟨x, a', z', rfl, hx, ha', rfl⟩; (try simp only [List.mem_cons, List.not_mem_nil, or_false] at hx))
   | (refine callSI (among_ (l := [_, _, _]) _ _ hc hb (by omega) rfl (by first | decide | exact Nat.le_of_ble_eq_true rfl)) ?_; rintro r ys ⟨x, a', z', rfl, hx, ha', rfl⟩; (try simp only [List.mem_cons, List.not_mem_nil, or_false] at hx))
   | (refine callSI (amongD_ (l := [_, _, _]) _ _ hc hb (by omega) rfl (by first | decide | exact Nat.le_of_ble_eq_true rfl)) ?_; rintro r ys ⟨x, a', z', rfl, hx, ha', rfl⟩; (try simp only [List.mem_cons, List.not_mem_nil, or_false] at hx))
   | (refine callSI (amongD_ (l := [-1, 0, 143999999]) _ _ hc hb (by omega) rfl (by first | decide | exact Nat.le_of_ble_eq_true rfl)) ?_; rintro r ys ⟨x, a', z', rfl, hx, ha', rfl⟩; (try simp only [List.mem_cons, List.not_mem_nil, or_false] at hx))
   | refine addD (fun _ => ?_)
   | refine sameI rfl ?_
   | refine needI rfl ?_
   | refine B0 ?_|refine B1 ?_ ?_) <;> intros <;> (try conv => cbv))
  all_goals exact hK _ _ ⟨_, _, _, _, _, rfl, by omega, rfl⟩
theorem add_rowsD {ns : List (List AV)} {l : List Dut} {d : Dut} (h : ns = (addDutyR l d).1.map Dut.cs) : ∃ m : List Dut, ns = m.map Dut.cs ∧ m.length ≤ l.length + 1 := ⟨_, h, addDutyR_len ..⟩
theorem l28DrawOk_ {rs : List (List AV)} {code : List Int} (a z : Int) (hc : rs = code.map u8R) (hb : Bytes code) (ha : 0 ≤ a ∧ a ≤ 650000000) : ACS Tryz.prog 64 [.bx [.sl false 1 rs, .int .i64 a, .int .u64 z]] (fun r ys => ∃ (l : List Dut) (rs1 : List (List AV)) (a' z' : Int), r = .sl true 3 rs1 ∧ rs1 = l.map Dut.cs ∧ l.length ≤ 7 ∧ (a ≤ a' ∧ a' ≤ a + 60) ∧ ys = [.bx [.sl false 1 rs, .int .i64 a', .int .u64 z']]) := by
  refine acs 1 Tryz.func64 fun E K hE hK => ?_
  refine callSI (pick_ _ _ 8 hc hb (by omega)) ?_
  rintro r ys ⟨x, a1, z1, rfl, hx, ha1, rfl⟩
  conv => cbv
  refine loop4 [0] [4, 3] (fun (k a2 z2 : Int) (es : List (List AV)) => ([(4, .int .i64 k), (3, .ob 1)], [.box [.sl false 1 rs, .int .i64 a2, .int .u64 z2], .row 3 es], k, (0 ≤ k ∧ k ≤ 7) ∧ (a ≤ a2 ∧ a2 ≤ a + 2 + 6 * (7 - k)) ∧ ∃ l : List Dut, es = l.map Dut.cs ∧ (l.length : Int) ≤ 7 - k)) [0, 1] ((x, a1, z1, [])) (by dsimp only; exact ⟨by omega, by omega, [], rfl, by simp; omega⟩) fun k a2 z2 es hi Kn hN => ?_
  obtain ⟨⟨k0, k1⟩, ⟨a3, a4⟩, l, hl, hlen⟩ := hi
  repeat' first
    | (refine hN _ _ _ _ [0, 1] rfl ⟨?_, ?_, _, (by assumption), ?_⟩)
    | (refine hN _ _ _ _ [0, 2] rfl ⟨?_, ?_, _, (by assumption), ?_⟩)
    | (refine hN _ _ _ _ [0, 3] rfl ⟨?_, ?_, _, (by assumption), ?_⟩)
    | ((first
   | (refine callSI (l28DrawOne_ _ _ hc hb (by omega)) ?_; rintro r ys ⟨dk, df, du, a', z', rfl, ha', rfl⟩)
   | (refine callLI (R := Dut.cs) (k := 3) (sAddDuty_ _ _ _ hl) (fun ns cd hns hcd => ?_); obtain ⟨m, hm, hml⟩ := add_rowsD hns; clear hns)
   | refine sameI rfl ?_
   | refine needI rfl ?_
   | refine B0 ?_|refine B1 ?_ ?_) <;> intros <;> (try conv => cbv))
  all_goals (try clear hN)
  all_goals first
    | omega
    | exact hK _ _ ⟨_, _, _, _, rfl, by assumption, by omega, by omega, rfl⟩
    | trace_state
theorem l28Draw_ {rs : List (List AV)} {code : List Int} (a z : Int) (hc : rs = code.map u8R) (hb : Bytes code) (ha : 0 ≤ a ∧ a ≤ 600000000) : ACS Tryz.prog 36 [.bx [.sl false 1 rs, .int .i64 a, .int .u64 z]] (fun r ys => ∃ (l : List Dut) (rs1 : List (List AV)) (a' z' : Int), r = .sl true 3 rs1 ∧ rs1 = l.map Dut.cs ∧ l.length ≤ 61 ∧ (a ≤ a' ∧ a' ≤ a + 80) ∧ ys = [.bx [.sl false 1 rs, .int .i64 a', .int .u64 z']]) := by
  refine acs 1 Tryz.func36 fun E K hE hK => ?_
  refine callSI (l28DrawOk_ _ _ hc hb (by omega)) ?_
  rintro r ys ⟨l, rs1, a', z', rfl, hl, hlen, ha', rfl⟩
  conv => cbv
  repeat' first
    | ((refine idxL (R := Dut.cs) hl (by omega) ?_; rintro ⟨w1, w2, w3⟩ hw; (try conv => cbv)))
    | ((refine loop2 [5] [6, 3] (fun (k : Int) (fs : List (List AV)) => ([(6, .int .i64 k), (3, .ob 1)], [.box [.sl false 1 rs, .int .i64 a', .int .u64 z'], .row 3 fs], x - k, (0 ≤ k ∧ k ≤ x) ∧ ∃ m : List Dut, fs = m.map Dut.cs ∧ (m.length : Int) = k)) [0, 3] ((0, [])) (by dsimp only; exact ⟨by omega, [], rfl, by simp⟩) fun k fs hi2 Kn2 hN2 => ?_); obtain ⟨⟨i0, i1⟩, m, hm, hml⟩ := hi2)
    | ((refine loop2 [5] [6, 3] (fun (k : Int) (fs : List (List AV)) => ([(6, .int .i64 k), (3, .ob 1)], [.box [.sl false 1 rs, .int .i64 a', .int .u64 z'], .row 3 fs], x - k, (0 ≤ k ∧ k ≤ x) ∧ ∃ m : List Dut, fs = m.map Dut.cs ∧ (m.length : Int) = k)) [0, 2] ((0, [])) (by dsimp only; exact ⟨by omega, [], rfl, by simp⟩) fun k fs hi2 Kn2 hN2 => ?_); obtain ⟨⟨i0, i1⟩, m, hm, hml⟩ := hi2)
    | ((refine loop2 [5] [6, 3] (fun (k : Int) (fs : List (List AV)) => ([(6, .int .i64 k), (3, .ob 1)], [.box [.sl false 1 rs, .int .i64 a', .int .u64 z'], .row 3 fs], x - k, (0 ≤ k ∧ k ≤ x) ∧ ∃ m : List Dut, fs = m.map Dut.cs ∧ (m.length : Int) = k)) [0, 4] ((0, [])) (by dsimp only; exact ⟨by omega, [], rfl, by simp⟩) fun k fs hi2 Kn2 hN2 => ?_); obtain ⟨⟨i0, i1⟩, m, hm, hml⟩ := hi2)
    | (refine hN2 _ _ [0, 3] rfl ⟨?_, _, (by assumption), ?_⟩)
    | (refine hN2 _ _ [0, 2] rfl ⟨?_, _, (by assumption), ?_⟩)
    | (refine hN2 _ _ [0, 4] rfl ⟨?_, _, (by assumption), ?_⟩)
    | ((first
   | (refine callSI (one_ _ _ _ hc hb (by omega)) ?_; rintro r ys ⟨c, a', z', rfl, ha', rfl⟩)
   | (refine callSI (pick_ _ _ _ hc hb (by omega)) ?_; rintro r ys ⟨x, a', z', rfl, hx, ha', rfl⟩)
   | (refine callSI (among_ (l := [60, 61]) _ _ hc hb (by omega) rfl (by first | decide | exact Nat.le_of_ble_eq_true rfl)) ?_; rintro r ys ⟨x, a', z', rfl, hx, ha', rfl⟩; (try simp only [List.mem_cons, List.not_mem_nil, or_false] at hx))
   | (refine callSI (l28Bend_ _ _ hc hb (by omega) _ _ _) ?_; rintro r ys ⟨dk, df, du, a', z', rfl, ha', rfl⟩)
   | refine updL (R := Dut.cs) ⟨dk, df, du⟩ hl (by omega) hw (by exact Nat.le_of_ble_eq_true rfl) (by rfl) (fun es' hes' => ?_)
   | refine sameI rfl ?_
   | refine needI rfl ?_
   | refine mul64 (a := 490) (by omega) (fun _ _ => ?_)
   | refine mul64 (by omega) (fun _ _ => ?_)
   | refine catP (R := Dut.cs) (v := ⟨_, _, _⟩) (by assumption) rfl (by first | omega | (simp only [List.length_append, List.length_singleton]; omega)) (fun _ _ => ?_)
   | refine B0 ?_|refine B1 ?_ ?_) <;> intros <;> (try conv => cbv))
  all_goals (try clear hN2)
  all_goals first
    | omega
    | (simp only [List.length_append, List.length_singleton]; omega)
    | exact hK _ _ ⟨_, _, _, _, rfl, by assumption, by first | omega | (rw [List.length_set]; omega), by omega, rfl⟩
    | trace_state
theorem drawAddDuty_ {rs : List (List AV)} {code : List Int} (hc : rs = code.map u8R) (hb : Bytes code) : ACS Tryz.prog 11 [.sl false 1 rs] (fun r ys => ∃ (l : List Dut) (rs1 : List (List AV)) (k : ByteArray) (f u : Int), r = .tup [.sl true 3 rs1, .agg [.str k, .int .i64 f, .int .i64 u]] ∧ rs1 = l.map Dut.cs ∧ l.length ≤ 61 ∧ ys = [.any]) := by
  refine acs 0 Tryz.func11 fun E K hE hK => ?_
  refine callSI from_ ?_
  rintro r ys ⟨rfl, rfl⟩
  conv => cbv
  refine callSI (l28Draw_ _ _ hc hb (by omega)) ?_
  rintro r ys ⟨l, rs1, a', z', rfl, hl, hlen, ha', rfl⟩
  conv => cbv
  repeat' first
    | ((first
   | (refine callSI (l28DrawOne_ _ _ hc hb (by omega)) ?_; rintro r ys ⟨dk, df, du, a', z', rfl, ha', rfl⟩)
   | (refine callSI (l28Bend_ _ _ hc hb (by omega) _ _ _) ?_; rintro r ys ⟨dk, df, du, a', z', rfl, ha', rfl⟩)
   | refine sameI rfl ?_
   | refine needI rfl ?_
   | refine B0 ?_|refine B1 ?_ ?_) <;> intros <;> (try conv => cbv))
  all_goals exact hK _ _ ⟨l, rs1, _, _, _, rfl, hl, hlen, rfl⟩
theorem l28DrawTime_ {rs : List (List AV)} {code : List Int} (a z : Int) (hc : rs = code.map u8R) (hb : Bytes code) (ha : 0 ≤ a ∧ a ≤ 500000000) : ACS Tryz.prog 21 [.bx [.sl false 1 rs, .int .i64 a, .int .u64 z]] (fun r ys => ∃ x a' z', r = .int .i64 x ∧ (-1 ≤ x ∧ x ≤ 144000000) ∧ (a ≤ a' ∧ a' ≤ a + 4) ∧ ys = [.bx [.sl false 1 rs, .int .i64 a', .int .u64 z']]) := by
  refine acs 1 Tryz.func21 fun E K hE hK => ?_
  repeat' first
    | ((first
   | (refine callSI (one_ _ _ _ hc hb (by omega)) ?_; rintro r ys ⟨c, a', z', rfl, ha', rfl⟩)
   | (refine callSI (pick_ _ _ _ hc hb (by omega)) ?_; rintro r ys ⟨x, a', z', rfl, hx, ha', rfl⟩)
   | (refine callSI (among_ (l := [-1, 0, 143999999, 144000000]) _ _ hc hb (by omega) rfl (by first | decide | exact Nat.le_of_ble_eq_true rfl)) ?_; rintro r ys ⟨x, a', z', rfl, hx, ha', rfl⟩; (try simp only [List.mem_cons, List.not_mem_nil, or_false] at hx))
   | refine sameI rfl ?_
   | refine B0 ?_|refine B1 ?_ ?_) <;> intros <;> (try conv => cbv))
  all_goals exact hK _ _ ⟨_, _, _, rfl, by omega, by omega, rfl⟩
end Go.Proofs.YtnfjhadaclcgeaaGreatDoor
