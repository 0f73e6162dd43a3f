/- 'laws.FnExactGreatestDelay' returns true whatever the input, and the input reads as it did. Conditions: none. -/
import Derived.Test.YtdmckfdecbhalaaPrd
namespace Go.Proofs.Ytdmckfdecbhalaa
open Go.ChangeShapes Go.WideShapes Go.ChangeAt Go.RowKit
set_option maxRecDepth 100000
set_option maxHeartbeats 2000000
set_option linter.unusedVariables false
set_option linter.unusedSimpArgs false
namespace fnExactGreatestDelay
theorem lifted (os : Os) (started : os.Started) (H : Type) (enc : TypeId × Value → H) :
    ReturnsInHanded {} Try.checked os 9 .any (Rows.fnExactGreatestDelaySpec.pre6 enc Try.prog Try.f9 Rows.fnExactGreatestDelayRow.domain false) (Rows.fnExactGreatestDelaySpec.post enc Try.prog Try.f9 false true false false) := by
  refine returnsInHanded_of_change (C := Try.checked) own started (by kernel_rfl) Try.func9
    (ChangeSpec.witness6 (enc := enc) (C := Try.checked) false ⟨#[], #[.slice none 0 0, .slice none 0 0], []⟩ 8 (by kernel_rfl) (by kernel_rfl) (by kernel_rfl) (by kernel_rfl)) ?_
  intro W base args ds gs before hval hW hcnd _
  have hW' := hW
  obtain ⟨p, q, hA, _⟩ := hW
  obtain ⟨v0, v1, d0, d1, p0, p1, rfl, h0, h1⟩ := args2 (t0 := 37) (t1 := 59) hA
  obtain ⟨a0, k0, r0⟩ := visSR H enc W v0 d0 p0 base h0 (hval 0 37 v0 rfl rfl)
  obtain ⟨a1, k1, r1⟩ := intSSR H enc W v1 d1 p1 base h1 (hval 1 59 v1 rfl rfl)
  exact (lawGreatestDelay rfl rfl).law (RelL.cons r0 (RelL.cons r1 RelL.nil)) laid (by kernel_rfl) rfl rfl rfl (fun ds h => by
    match ds, h with
    | [_d0, _d1], _ => rfl) hW'
theorem over : Rows.fnExactGreatestDelayRow.holds Try.pinned (OpenSpec.ofChange Rows.fnExactGreatestDelaySpec) :=
  OpenClaim.holds_of_wide 9 Try.f9 rfl rfl rfl rfl rfl rfl rfl ⟨rfl, rfl, rfl, rfl, rfl⟩ rfl rfl rfl rfl rfl (by kernel_rfl) Try.func9 (by kernel_rfl)
    (of_decide_eq_true (by kernel_rfl)) (by unfold Func.isWrapper; first | (rw [if_pos (by decide +kernel)]; kernel_rfl) | (rw [if_neg (by decide +kernel)]; exact ⟨rfl, rfl⟩))
    (fun os started H enc _ => lifted os started H enc)
theorem proved : Rows.FnExactGreatestDelaySaid := over
end fnExactGreatestDelay
end Go.Proofs.Ytdmckfdecbhalaa
