/- 'laws.FnExactWatchGaps' returns true whatever the input, and the input reads as it did. Conditions: none. -/
import Derived.Test.YtehobmjmhjgnoaaRows
import Derived.ProofKit
import Derived.OpenShut
import Derived.Test.YtehobmjmhjgnoaaPrt
import Derived.Test.YtehobmjmhjgnoaaWge
namespace Go.Proofs.Ytehobmjmhjgnoaa
open Go.ChangeShapes Go.WideShapes Go.ChangeAt Go.RowKit
set_option maxRecDepth 100000
set_option maxHeartbeats 2000000
set_option linter.unusedVariables false
set_option linter.unusedSimpArgs false
namespace fnExactWatchGaps
theorem lifted (os : Os) (started : os.Started) (H : Type) (enc : TypeId × Value → H) :
    ReturnsInHanded {} Try.checked os 3 .any (Rows.fnExactWatchGapsSpec.pre6 enc Try.prog Try.f3 Rows.fnExactWatchGapsRow.domain false) (Rows.fnExactWatchGapsSpec.post enc Try.prog Try.f3 false true false false) := by
  refine returnsInHanded_of_change (C := Try.checked) own started (by kernel_rfl) Try.func3
    (ChangeSpec.witness6 (enc := enc) (C := Try.checked) false ⟨#[], #[.slice none 0 0, .int .i64 0, .int .i64 0, .int .i64 0], []⟩ 8 (by kernel_rfl) (by kernel_rfl) (by kernel_rfl) (by kernel_rfl)) ?_
  intro W base args ds gs before hval hW hcnd _
  have hW' := hW
  obtain ⟨p, q, hA, _⟩ := hW
  obtain ⟨v0, v1, v2, v3, d0, d1, d2, d3, p0, p1, p2, p3, rfl, h0, h1, h2, h3⟩ := args4 (t0 := 22) (t1 := 2) (t2 := 2) (t3 := 2) hA
  obtain ⟨a0, k0, r0⟩ := dutSR H enc W v0 d0 p0 base h0 (hval 0 22 v0 rfl rfl)
  obtain ⟨a1, k1, r1⟩ := intArg H enc W v1 d1 p1 base h1 (hval 1 2 v1 rfl rfl)
  obtain ⟨a2, k2, r2⟩ := intArg H enc W v2 d2 p2 base h2 (hval 2 2 v2 rfl rfl)
  obtain ⟨a3, k3, r3⟩ := intArg H enc W v3 d3 p3 base h3 (hval 3 2 v3 rfl rfl)
  exact (lawWatchGaps a1 a2 a3 rfl).law ⟨Nat.zero_le _, trivial⟩ (RelL.cons r0 (RelL.cons r1 (RelL.cons r2 (RelL.cons r3 RelL.nil)))) laid (by kernel_rfl) rfl rfl rfl (fun ds h => by
    match ds, h with
    | [_d0, _d1, _d2, _d3], _ => rfl) hW'
set_option maxHeartbeats 4000000
theorem closed : joinedFacts Try.prog 3 Try.f3 Rows.fnExactWatchGapsSpec Rows.fnExactWatchGapsRow = true :=
  joined_of laid closed3 closed79 (by as_aux_lemma => kernel_rfl) (by as_aux_lemma => kernel_rfl) (by as_aux_lemma => kernel_rfl) (by as_aux_lemma => kernel_rfl) (by as_aux_lemma => kernel_rfl) (by as_aux_lemma => kernel_rfl) (by as_aux_lemma => kernel_rfl)
theorem over : Rows.fnExactWatchGapsRow.holds Try.pinned (OpenSpec.ofChange Rows.fnExactWatchGapsSpec) :=
  OpenClaim.holds_of_wide 3 Try.f3 rfl rfl rfl rfl rfl rfl rfl ⟨rfl, rfl, rfl, rfl, rfl⟩ rfl rfl rfl rfl rfl (by kernel_rfl) Try.func3 closed
    (of_decide_eq_true (by kernel_rfl)) (by unfold Func.isWrapper; first | (rw [if_pos (by decide +kernel)]; kernel_rfl) | (rw [if_neg (by decide +kernel)]; exact ⟨rfl, rfl⟩))
    (fun os started H enc _ => lifted os started H enc)
theorem proved : Rows.FnExactWatchGapsSaid := over
end fnExactWatchGaps
end Go.Proofs.Ytehobmjmhjgnoaa
