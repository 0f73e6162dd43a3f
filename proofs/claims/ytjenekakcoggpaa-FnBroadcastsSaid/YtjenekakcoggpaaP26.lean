/- 'laws.FnBroadcasts' returns true whatever the input, and the input reads as it did. Conditions: none. -/
import Derived.Test.YtjenekakcoggpaaPrb
import Derived.Test.YtjenekakcoggpaaFbl
namespace Go.Proofs.Ytjenekakcoggpaa
open Go.ChangeShapes Go.WideShapes Go.ChangeAt Go.RowKit
set_option maxRecDepth 100000
set_option maxHeartbeats 2000000
set_option linter.unusedVariables false
set_option linter.unusedSimpArgs false
namespace fnBroadcasts
theorem lifted (os : Os) (started : os.Started) (H : Type) (enc : TypeId × Value → H) :
    ReturnsInHanded {} Try.checked os 4 .any (Rows.fnBroadcastsSpec.pre6 enc Try.prog Try.f4 Rows.fnBroadcastsRow.domain false) (Rows.fnBroadcastsSpec.post enc Try.prog Try.f4 false true false false) := by
  refine returnsInHanded_of_change (C := Try.checked) own started (by kernel_rfl) Try.func4
    (ChangeSpec.witness6 (enc := enc) (C := Try.checked) false ⟨#[], #[.slice none 0 0], []⟩ 8 (by kernel_rfl) (by kernel_rfl) (by kernel_rfl) (by kernel_rfl)) ?_
  intro W base args ds gs before hval hW hcnd _
  have hW' := hW
  obtain ⟨p, q, hA, _⟩ := hW
  obtain ⟨v0, d0, p0, rfl, h0⟩ := args1 (t0 := 22) hA
  obtain ⟨a0, k0, r0⟩ := bytesR H enc W v0 d0 p0 base h0 (hval 0 22 v0 rfl rfl)
  exact (lawBroadcastsB rfl (Bytes.of k0.1)).law (RelL.cons r0 RelL.nil) laid (by kernel_rfl) rfl rfl rfl (fun ds h => by
    match ds, h with
    | [_d0], _ => rfl) hW'
set_option maxHeartbeats 4000000
theorem closed : joinedFacts Try.prog 4 Try.f4 Rows.fnBroadcastsSpec Rows.fnBroadcastsRow = true :=
  joined_of laid closed3 closed79 (by as_aux_lemma => kernel_rfl) (by as_aux_lemma => kernel_rfl) (by as_aux_lemma => kernel_rfl) (by as_aux_lemma => kernel_rfl) (by as_aux_lemma => kernel_rfl) (by as_aux_lemma => kernel_rfl) (by as_aux_lemma => kernel_rfl)
theorem over : Rows.fnBroadcastsRow.holds Try.pinned (OpenSpec.ofChange Rows.fnBroadcastsSpec) :=
  OpenClaim.holds_of_wide 4 Try.f4 rfl rfl rfl rfl rfl rfl rfl ⟨rfl, rfl, rfl, rfl, rfl⟩ rfl rfl rfl rfl rfl (by kernel_rfl) Try.func4 closed
    (of_decide_eq_true (by kernel_rfl)) (by unfold Func.isWrapper; first | (rw [if_pos (by decide +kernel)]; kernel_rfl) | (rw [if_neg (by decide +kernel)]; exact ⟨rfl, rfl⟩))
    (fun os started H enc _ => lifted os started H enc)
theorem proved : Rows.FnBroadcastsSaid := over
end fnBroadcasts
end Go.Proofs.Ytjenekakcoggpaa
