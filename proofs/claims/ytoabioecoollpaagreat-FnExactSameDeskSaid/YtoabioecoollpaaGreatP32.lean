/- 'laws.FnExactSameDesk' returns true whatever the input, and the input reads as it did. Conditions: none. -/
import Derived.Test.YtoabioecoollpaaGreatPrd2
import Derived.Test.YtoabioecoollpaaGreatFsg2
namespace Go.Proofs.YtoabioecoollpaaGreat
open Go.ChangeShapes Go.WideShapes Go.ChangeAt Go.RowKit
set_option maxRecDepth 100000
set_option maxHeartbeats 2000000
set_option linter.unusedVariables false
set_option linter.unusedSimpArgs false
namespace fnExactSameDesk
theorem lifted (os : Os) (started : os.Started) (H : Type) (enc : TypeId × Value → H) :
    ReturnsInHanded {} Tryz.checked os 3 .any (Rows.fnExactSameDeskSpec.pre6 enc Tryz.prog Tryz.f3 Rows.fnExactSameDeskRow.domain false) (Rows.fnExactSameDeskSpec.post enc Tryz.prog Tryz.f3 false true false false) := by
  refine returnsInHanded_of_change (C := Tryz.checked) own started (by kernel_rfl) Tryz.func3
    (ChangeSpec.witness6 (enc := enc) (C := Tryz.checked) false ⟨#[], #[.agg #[.slice none 0 0, .slice none 0 0, .int .i64 0, .slice none 0 0, .slice none 0 0, .int .i64 0, .slice none 0 0, .int .i64 0, .slice none 0 0, .string ByteArray.empty, .int .i64 0, .int .i64 0, .int .i64 0, .int .i64 0, .int .i64 0, .slice none 0 0, .slice none 0 0, .int .i64 0, .slice none 0 0, .slice none 0 0, .slice none 0 0, .slice none 0 0], .agg #[.slice none 0 0, .slice none 0 0, .int .i64 0, .slice none 0 0, .slice none 0 0, .int .i64 0, .slice none 0 0, .int .i64 0, .slice none 0 0, .string ByteArray.empty, .int .i64 0, .int .i64 0, .int .i64 0, .int .i64 0, .int .i64 0, .slice none 0 0, .slice none 0 0, .int .i64 0, .slice none 0 0, .slice none 0 0, .slice none 0 0, .slice none 0 0]], []⟩ 8 (by kernel_rfl) (by kernel_rfl) (by kernel_rfl) (by kernel_rfl)) ?_
  intro W base args ds gs before hval hW hcnd _
  have hW' := hW
  obtain ⟨p, q, hA, _⟩ := hW
  obtain ⟨v0, v1, d0, d1, p0, p1, rfl, h0, h1⟩ := args2 (t0 := 40) (t1 := 40) hA
  obtain ⟨a0, k0, r0⟩ := dskR H enc W v0 d0 p0 base h0 (hval 0 40 v0 rfl rfl)
  obtain ⟨a1, k1, r1⟩ := dskR H enc W v1 d1 p1 base h1 (hval 1 40 v1 rfl rfl)
  exact (lawSameDesk2 a0 a1).law ⟨Nat.zero_le _, trivial⟩ (RelL.cons r0 (RelL.cons r1 RelL.nil)) laid (by kernel_rfl) rfl rfl rfl (fun ds h => by
    match ds, h with
    | [_d0, _d1], _ => rfl) hW'
set_option maxHeartbeats 4000000
theorem closed : joinedFacts Tryz.prog 3 Tryz.f3 Rows.fnExactSameDeskSpec Rows.fnExactSameDeskRow = true :=
  joined_of laid closed3 closed79 (by as_aux_lemma => kernel_rfl) (by as_aux_lemma => kernel_rfl) (by as_aux_lemma => kernel_rfl) (by as_aux_lemma => kernel_rfl) (by as_aux_lemma => kernel_rfl) (by as_aux_lemma => kernel_rfl) (by as_aux_lemma => kernel_rfl)
theorem over : Rows.fnExactSameDeskRow.holds Tryz.pinned (OpenSpec.ofChange Rows.fnExactSameDeskSpec) :=
  OpenClaim.holds_of_wide 3 Tryz.f3 rfl rfl rfl rfl rfl rfl rfl ⟨rfl, rfl, rfl, rfl, rfl⟩ rfl rfl rfl rfl rfl (by kernel_rfl) Tryz.func3 closed
    (of_decide_eq_true (by kernel_rfl)) (by unfold Func.isWrapper; first | (rw [if_pos (by decide +kernel)]; kernel_rfl) | (rw [if_neg (by decide +kernel)]; exact ⟨rfl, rfl⟩))
    (fun os started H enc _ => lifted os started H enc)
theorem proved : Rows.FnExactSameDeskSaid := over
end fnExactSameDesk
end Go.Proofs.YtoabioecoollpaaGreat
