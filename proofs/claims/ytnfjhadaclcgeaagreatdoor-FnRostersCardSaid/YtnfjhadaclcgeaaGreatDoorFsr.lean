/- Contracts: the source of draws. -/
import Derived.Test.YtnfjhadaclcgeaaGreatDoorQa
namespace Go.Proofs.YtnfjhadaclcgeaaGreatDoor
open Go Go.RowKit
set_option maxRecDepth 100000
set_option maxHeartbeats 2000000
set_option linter.unusedVariables false
set_option linter.unusedSimpArgs false
def u8R (n : Int) : List AV := [.int .u8 n]
def Bytes (code : List Int) : Prop := ∀ v ∈ code, 0 ≤ v ∧ v ≤ 255
section
variable {E : Env} {np : Nat} {P : Program}
theorem mulA [hE : SE E np P] {a b : Int} {K : Int → Prop} (hk : ∀ n, K n) : E.mul .u64 a b K := by cases hE.h; exact hk _
theorem addA [hE : SE E np P] {a b : Int} {K : Int → Prop} (hk : ∀ n, K n) : E.add .u64 a b K := by cases hE.h; exact hk _
theorem wrapA [hE : SE E np P] {a : Int} {K : Int → Prop} (hk : ∀ n, K n) : E.wrap .u64 a K := by cases hE.h; exact hk _
theorem shrA [hE : SE E np P] {a b : Int} {K : Int → Prop} (hk : ∀ n, K n) : E.shr .u64 a b K := by cases hE.h; exact hk _
theorem and255 [hE : SE E np P] {a : Int} {K : Int → Prop} (hk : ∀ n, 0 ≤ n ∧ n ≤ 255 → K n) : E.bits .and .u64 a 255 K := by
  cases hE.h
  refine hk _ ?_
  show 0 ≤ IntKind.u64.wrap _ ∧ IntKind.u64.wrap _ ≤ 255
  have h : (BitVec.ofInt IntKind.u64.bits a &&& BitVec.ofInt IntKind.u64.bits 255).toNat ≤ 255 := by
    rw [BitVec.toNat_and]
    exact Nat.le_trans Nat.and_le_right (by decide)
  have e : IntKind.u64.wrap ((BitVec.ofInt IntKind.u64.bits a &&& BitVec.ofInt IntKind.u64.bits 255).toNat : Int) = ((BitVec.ofInt IntKind.u64.bits a &&& BitVec.ofInt IntKind.u64.bits 255).toNat : Int) := by
    generalize (BitVec.ofInt IntKind.u64.bits a &&& BitVec.ofInt IntKind.u64.bits 255).toNat = m at *
    show (m : Int) % 18446744073709551616 = m
    omega
  rw [e]
  omega
end
theorem modB {x n r : Int} (h : 0 ≤ x) (hn : 1 < n) (hr : r = x % n) : 0 ≤ r ∧ r < n ∧ r ≤ x := by
  subst hr
  have h1 := Int.mul_ediv_add_emod x n
  have h2 := Int.mul_nonneg (show 0 ≤ n by omega) (Int.ediv_nonneg h (show 0 ≤ n by omega))
  exact ⟨Int.emod_nonneg _ (by omega), Int.emod_lt_of_pos _ (by omega), by omega⟩
theorem from_ {rs : List (List AV)} : ACS Tryz.prog 19 [.sl false 1 rs] (fun r ys => r = .bx [.sl false 1 rs, .int .i64 0, .int .u64 0] ∧ ys = [.any]) := by
  refine acs 0 Tryz.func19 fun E K hE hK => ?_
  exact hK _ _ ⟨rfl, rfl⟩
theorem next_ {rs : List (List AV)} {code : List Int} (a z : Int) (hc : rs = code.map u8R) (hb : Bytes code) (ha : 0 ≤ a ∧ a ≤ 1000000000) : ACS Tryz.prog 50 [.bx [.sl false 1 rs, .int .i64 a, .int .u64 z]] (fun r ys => ∃ x a' z', r = .int .i64 x ∧ (0 ≤ x ∧ x ≤ 255) ∧ a' = a + 1 ∧ ys = [.bx [.sl false 1 rs, .int .i64 a', .int .u64 z']]) := by
  refine acs 1 Tryz.func50 fun E K hE hK => ?_
  repeat' first
    | ((first
   | refine mulA (fun _ => ?_)
   | refine addA (fun _ => ?_)
   | refine wrapA (fun _ => ?_)
   | refine shrA (fun _ => ?_)
   | refine and255 (fun _ hr => ?_)
   | (refine idxL hc (by omega) (fun v hv => ?_); have hvb := hb v (List.mem_of_getElem? hv))
   | refine B0 ?_|refine B1 ?_ ?_) <;> intros <;> (try conv => cbv))
  all_goals exact hK _ _ ⟨_, _, _, rfl, by omega, by omega, rfl⟩
theorem pick_ {rs : List (List AV)} {code : List Int} (a z n : Int) (hc : rs = code.map u8R) (hb : Bytes code) (ha : 0 ≤ a ∧ a ≤ 900000000) : ACS Tryz.prog 22 [.bx [.sl false 1 rs, .int .i64 a, .int .u64 z], .int .i64 n] (fun r ys => ∃ x a' z', r = .int .i64 x ∧ (0 ≤ x ∧ x ≤ 65535 ∧ (x < n ∨ x = 0)) ∧ (a ≤ a' ∧ a' ≤ a + 2) ∧ ys = [.bx [.sl false 1 rs, .int .i64 a', .int .u64 z'], .any]) := by
  refine acs 1 Tryz.func22 fun E K hE hK => ?_
  repeat' first
    | ((first
   | (refine callSI (next_ _ _ hc hb (by omega)) ?_; rintro r ys ⟨x, a', z', rfl, hx, ha', rfl⟩)
   | refine mul64 (by omega) (fun _ _ => ?_)
   | (refine rem64 (by omega) (fun r hr => ?_); have hr2 := modB (by omega) (by omega) hr; clear hr)
   | refine B0 ?_|refine B1 ?_ ?_) <;> intros <;> (try conv => cbv))
  all_goals exact hK _ _ ⟨_, _, _, rfl, by omega, by omega, rfl⟩
theorem one_ {rs : List (List AV)} {code : List Int} (a z n : Int) (hc : rs = code.map u8R) (hb : Bytes code) (ha : 0 ≤ a ∧ a ≤ 900000000) : ACS Tryz.prog 23 [.bx [.sl false 1 rs, .int .i64 a, .int .u64 z], .int .i64 n] (fun r ys => ∃ c a' z', r = .bool c ∧ (a ≤ a' ∧ a' ≤ a + 2) ∧ ys = [.bx [.sl false 1 rs, .int .i64 a', .int .u64 z'], .any]) := by
  refine acs 1 Tryz.func23 fun E K hE hK => ?_
  refine callSI (pick_ _ _ _ hc hb ha) ?_
  rintro r ys ⟨x, a', z', rfl, hx, ha', rfl⟩
  conv => cbv
  refine eqI (fun _ => ?_) (fun _ => ?_) <;> conv => cbv
  all_goals exact hK _ _ ⟨_, _, _, rfl, ha', rfl⟩
theorem among_ {rs rs1 : List (List AV)} {code l : List Int} (a z : Int) (hc : rs = code.map u8R) (hb : Bytes code) (ha : 0 ≤ a ∧ a ≤ 900000000) (hl : rs1 = l.map intR) (hn : 0 < l.length) : ACS Tryz.prog 24 [.bx [.sl false 1 rs, .int .i64 a, .int .u64 z], .sl true 1 rs1] (fun r ys => ∃ x a' z', r = .int .i64 x ∧ x ∈ l ∧ (a ≤ a' ∧ a' ≤ a + 2) ∧ ys = [.bx [.sl false 1 rs, .int .i64 a', .int .u64 z'], .sl true 1 rs1]) := by
  refine acs 2 Tryz.func24 fun E K hE hK => ?_
  repeat' first
    | ((first
   | (refine callSI (pick_ _ _ _ hc hb ha) ?_; rintro r ys ⟨x, a', z', rfl, hx, ha', rfl⟩)
   | refine B0 ?_|refine B1 ?_ ?_) <;> intros <;> (try conv => cbv))
  all_goals exact hK _ _ ⟨_, _, _, rfl, List.mem_of_getElem? (by assumption), ha', rfl⟩
end Go.Proofs.YtnfjhadaclcgeaaGreatDoor
