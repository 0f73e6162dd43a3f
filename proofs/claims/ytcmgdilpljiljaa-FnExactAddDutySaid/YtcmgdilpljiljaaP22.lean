/- 'laws.FnExactAddDuty' returns true whatever the input, and the input reads as it did. Conditions: none. -/
import Derived.Test.YtcmgdilpljiljaaPrt
import Derived.Test.YtcmgdilpljiljaaFad
namespace Go.Proofs.Ytcmgdilpljiljaa
open Go.ChangeShapes Go.WideShapes Go.ChangeAt Go.RowKit
set_option maxRecDepth 100000
set_option maxHeartbeats 2000000
set_option linter.unusedVariables false
set_option linter.unusedSimpArgs false
namespace fnExactAddDuty
theorem lifted (os : Os) (started : os.Started) (H : Type) (enc : TypeId × Value → H) :
    ReturnsInHanded {} Try.checked os 9 .any (Rows.fnExactAddDutySpec.pre6 enc Try.prog Try.f9 Rows.fnExactAddDutyRow.domain false) (Rows.fnExactAddDutySpec.post enc Try.prog Try.f9 false true false false) := by
  refine returnsInHanded_of_change (C := Try.checked) own started (by kernel_rfl) Try.func9
    (ChangeSpec.witness6 (enc := enc) (C := Try.checked) false ⟨#[], #[.slice none 0 0, .agg #[.string ⟨#[]⟩, .int .i64 0, .int .i64 0]], []⟩ 8 (by kernel_rfl) (by kernel_rfl) (by kernel_rfl) (by kernel_rfl)) ?_
  intro W base args ds gs before hval hW hcnd _
  have hW' := hW
  obtain ⟨p, q, hA, _⟩ := hW
  obtain ⟨v0, v1, d0, d1, p0, p1, rfl, h0, h1⟩ := args2 (t0 := 22) (t1 := 71) hA
  obtain ⟨a0, k0, r0⟩ := dutSR H enc W v0 d0 p0 base h0 (hval 0 22 v0 rfl rfl)
  obtain ⟨a1, k1, r1⟩ := dutR H enc W v1 d1 p1 base h1 (hval 1 71 v1 rfl rfl)
  exact (lawAddDuty a1.keeper a1.frm a1.til rfl).law (RelL.cons r0 (RelL.cons r1 RelL.nil)) laid (by kernel_rfl) rfl rfl rfl (fun ds h => by
    match ds, h with
    | [_d0, _d1], _ => rfl) hW'
set_option maxHeartbeats 4000000
theorem closed : joinedFacts Try.prog 9 Try.f9 Rows.fnExactAddDutySpec Rows.fnExactAddDutyRow = true :=
  joined_of laid closed3 closed79 (by as_aux_lemma => kernel_rfl) (by as_aux_lemma => kernel_rfl) (by as_aux_lemma => kernel_rfl) (by as_aux_lemma => kernel_rfl) (by as_aux_lemma => kernel_rfl) (by as_aux_lemma => kernel_rfl) (by as_aux_lemma => kernel_rfl)
theorem over : Rows.fnExactAddDutyRow.holds Try.pinned (OpenSpec.ofChange Rows.fnExactAddDutySpec) :=
  OpenClaim.holds_of_wide 9 Try.f9 rfl rfl rfl rfl rfl rfl rfl ⟨rfl, rfl, rfl, rfl, rfl⟩ rfl rfl rfl rfl rfl (by kernel_rfl) Try.func9 closed
    (of_decide_eq_true (by kernel_rfl)) (by unfold Func.isWrapper; first | (rw [if_pos (by decide +kernel)]; kernel_rfl) | (rw [if_neg (by decide +kernel)]; exact ⟨rfl, rfl⟩))
    (fun os started H enc _ => lifted os started H enc)
theorem proved : Rows.FnExactAddDutySaid := over
end fnExactAddDuty
end Go.Proofs.Ytcmgdilpljiljaa
