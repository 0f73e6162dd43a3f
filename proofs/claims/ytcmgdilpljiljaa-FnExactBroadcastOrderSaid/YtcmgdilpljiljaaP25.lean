/- 'laws.FnExactBroadcastOrder' returns true whatever the input, and the input reads as it did. Conditions: none. -/
import Derived.Test.YtcmgdilpljiljaaPrw
import Derived.Test.YtcmgdilpljiljaaFbo
namespace Go.Proofs.Ytcmgdilpljiljaa
open Go.ChangeShapes Go.WideShapes Go.ChangeAt Go.RowKit
set_option maxRecDepth 100000
set_option maxHeartbeats 2000000
set_option linter.unusedVariables false
set_option linter.unusedSimpArgs false
namespace fnExactBroadcastOrder
theorem lifted (os : Os) (started : os.Started) (H : Type) (enc : TypeId × Value → H) :
    ReturnsInHanded {} Try.checked os 12 .any (Rows.fnExactBroadcastOrderSpec.pre6 enc Try.prog Try.f12 Rows.fnExactBroadcastOrderRow.domain false) (Rows.fnExactBroadcastOrderSpec.post enc Try.prog Try.f12 false true false false) := by
  refine returnsInHanded_of_change (C := Try.checked) own started (by kernel_rfl) Try.func12
    (ChangeSpec.witness6 (enc := enc) (C := Try.checked) false ⟨#[], #[.slice none 0 0, .int .i64 0], []⟩ 8 (by kernel_rfl) (by kernel_rfl) (by kernel_rfl) (by kernel_rfl)) ?_
  intro W base args ds gs before hval hW hcnd _
  have hW' := hW
  obtain ⟨p, q, hA, _⟩ := hW
  obtain ⟨v0, v1, d0, d1, p0, p1, rfl, h0, h1⟩ := args2 (t0 := 85) (t1 := 2) hA
  obtain ⟨a0, k0, r0⟩ := warSR H enc W v0 d0 p0 base h0 (hval 0 85 v0 rfl rfl)
  obtain ⟨a1, k1, r1⟩ := intArg H enc W v1 d1 p1 base h1 (hval 1 2 v1 rfl rfl)
  exact (lawBroadcastOrder a1 rfl).law (RelL.cons r0 (RelL.cons r1 RelL.nil)) laid (by kernel_rfl) rfl rfl rfl (fun ds h => by
    match ds, h with
    | [_d0, _d1], _ => rfl) hW'
set_option maxHeartbeats 4000000
theorem closed : joinedFacts Try.prog 12 Try.f12 Rows.fnExactBroadcastOrderSpec Rows.fnExactBroadcastOrderRow = true :=
  joined_of laid closed3 closed79 (by as_aux_lemma => kernel_rfl) (by as_aux_lemma => kernel_rfl) (by as_aux_lemma => kernel_rfl) (by as_aux_lemma => kernel_rfl) (by as_aux_lemma => kernel_rfl) (by as_aux_lemma => kernel_rfl) (by as_aux_lemma => kernel_rfl)
theorem over : Rows.fnExactBroadcastOrderRow.holds Try.pinned (OpenSpec.ofChange Rows.fnExactBroadcastOrderSpec) :=
  OpenClaim.holds_of_wide 12 Try.f12 rfl rfl rfl rfl rfl rfl rfl ⟨rfl, rfl, rfl, rfl, rfl⟩ rfl rfl rfl rfl rfl (by kernel_rfl) Try.func12 closed
    (of_decide_eq_true (by kernel_rfl)) (by unfold Func.isWrapper; first | (rw [if_pos (by decide +kernel)]; kernel_rfl) | (rw [if_neg (by decide +kernel)]; exact ⟨rfl, rfl⟩))
    (fun os started H enc _ => lifted os started H enc)
theorem proved : Rows.FnExactBroadcastOrderSaid := over
end fnExactBroadcastOrder
end Go.Proofs.Ytcmgdilpljiljaa
