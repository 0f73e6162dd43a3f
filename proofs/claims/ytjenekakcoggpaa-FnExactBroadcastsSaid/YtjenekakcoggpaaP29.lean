/- 'laws.FnExactBroadcasts' returns true whatever the input, and the input reads as it did. Conditions: none. -/
import Derived.Test.YtjenekakcoggpaaPrw
import Derived.Test.YtjenekakcoggpaaFbs
namespace Go.Proofs.Ytjenekakcoggpaa
open Go.ChangeShapes Go.WideShapes Go.ChangeAt Go.RowKit
set_option maxRecDepth 100000
set_option maxHeartbeats 2000000
set_option linter.unusedVariables false
set_option linter.unusedSimpArgs false
namespace fnExactBroadcasts
theorem lifted (os : Os) (started : os.Started) (H : Type) (enc : TypeId × Value → H) :
    ReturnsInHanded {} Try.checked os 7 .any (Rows.fnExactBroadcastsSpec.pre6 enc Try.prog Try.f7 Rows.fnExactBroadcastsRow.domain false) (Rows.fnExactBroadcastsSpec.post enc Try.prog Try.f7 false true false false) := by
  refine returnsInHanded_of_change (C := Try.checked) own started (by kernel_rfl) Try.func7
    (ChangeSpec.witness6 (enc := enc) (C := Try.checked) false ⟨#[], #[.slice none 0 0, .int .i64 0, .int .i64 0, .int .i64 0, .int .i64 0], []⟩ 8 (by kernel_rfl) (by kernel_rfl) (by kernel_rfl) (by kernel_rfl)) ?_
  intro W base args ds gs before hval hW hcnd _
  have hW' := hW
  obtain ⟨p, q, hA, _⟩ := hW
  obtain ⟨v0, v1, v2, v3, v4, d0, d1, d2, d3, d4, p0, p1, p2, p3, p4, rfl, h0, h1, h2, h3, h4⟩ := args5 (t0 := 74) (t1 := 2) (t2 := 2) (t3 := 2) (t4 := 2) hA
  obtain ⟨a0, k0, r0⟩ := warSR H enc W v0 d0 p0 base h0 (hval 0 74 v0 rfl rfl)
  obtain ⟨a1, k1, r1⟩ := intArg H enc W v1 d1 p1 base h1 (hval 1 2 v1 rfl rfl)
  obtain ⟨a2, k2, r2⟩ := intArg H enc W v2 d2 p2 base h2 (hval 2 2 v2 rfl rfl)
  obtain ⟨a3, k3, r3⟩ := intArg H enc W v3 d3 p3 base h3 (hval 3 2 v3 rfl rfl)
  obtain ⟨a4, k4, r4⟩ := intArg H enc W v4 d4 p4 base h4 (hval 4 2 v4 rfl rfl)
  exact (lawBroadcasts a1 a2 a3 a4 rfl).law (RelL.cons r0 (RelL.cons r1 (RelL.cons r2 (RelL.cons r3 (RelL.cons r4 RelL.nil))))) laid (by kernel_rfl) rfl rfl rfl (fun ds h => by
    match ds, h with
    | [_d0, _d1, _d2, _d3, _d4], _ => rfl) hW'
set_option maxHeartbeats 4000000
theorem closed : joinedFacts Try.prog 7 Try.f7 Rows.fnExactBroadcastsSpec Rows.fnExactBroadcastsRow = true :=
  joined_of laid closed3 closed79 (by as_aux_lemma => kernel_rfl) (by as_aux_lemma => kernel_rfl) (by as_aux_lemma => kernel_rfl) (by as_aux_lemma => kernel_rfl) (by as_aux_lemma => kernel_rfl) (by as_aux_lemma => kernel_rfl) (by as_aux_lemma => kernel_rfl)
theorem over : Rows.fnExactBroadcastsRow.holds Try.pinned (OpenSpec.ofChange Rows.fnExactBroadcastsSpec) :=
  OpenClaim.holds_of_wide 7 Try.f7 rfl rfl rfl rfl rfl rfl rfl ⟨rfl, rfl, rfl, rfl, rfl⟩ rfl rfl rfl rfl rfl (by kernel_rfl) Try.func7 closed
    (of_decide_eq_true (by kernel_rfl)) (by unfold Func.isWrapper; first | (rw [if_pos (by decide +kernel)]; kernel_rfl) | (rw [if_neg (by decide +kernel)]; exact ⟨rfl, rfl⟩))
    (fun os started H enc _ => lifted os started H enc)
theorem proved : Rows.FnExactBroadcastsSaid := over
end fnExactBroadcasts
end Go.Proofs.Ytjenekakcoggpaa
