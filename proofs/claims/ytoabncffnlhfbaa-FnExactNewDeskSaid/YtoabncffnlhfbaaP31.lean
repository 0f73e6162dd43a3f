/- 'laws.FnExactNewDesk' returns true. Conditions: none. -/
import Derived.Test.YtoabncffnlhfbaaPcl
import Derived.Test.YtoabncffnlhfbaaFnd
namespace Go.Proofs.Ytoabncffnlhfbaa
open Go.ChangeShapes Go.WideShapes Go.ChangeAt Go.RowKit
set_option maxRecDepth 100000
set_option maxHeartbeats 2000000
set_option linter.unusedVariables false
set_option linter.unusedSimpArgs false
namespace fnExactNewDesk
theorem args0 {P : Program} {H : Type} {enc : TypeId × Value → H} {W : World} {sp : Nat → Bool} {hd : Bool} {args : Array Value} {ds : List (DataW H)} {p : List MemPlace} (h : DataW.TrodAll enc P W 0 sp hd [] args.toList ds p) : args = #[] := by
  obtain ⟨l⟩ := args
  have hlen := trodAll_len h
  match l, hlen with
  | [], _ => rfl
theorem lifted (os : Os) (started : os.Started) (H : Type) (enc : TypeId × Value → H) :
    ReturnsInHanded {} Try.checked os 3 .any (Rows.fnExactNewDeskSpec.pre6 enc Try.prog Try.f3 Rows.fnExactNewDeskRow.domain false) (Rows.fnExactNewDeskSpec.post enc Try.prog Try.f3 false true false false) := by
  refine returnsInHanded_of_change (C := Try.checked) own started (by kernel_rfl) Try.func3
    (ChangeSpec.witness6 (enc := enc) (C := Try.checked) false ⟨#[], #[], []⟩ 8 (by kernel_rfl) (by kernel_rfl) (by kernel_rfl) (by kernel_rfl)) ?_
  intro W base args ds gs before hval hW hcnd _
  have hW' := hW
  obtain ⟨p, q, hA, _⟩ := hW
  have e0 := args0 hA
  subst e0
  exact lawNewDesk.law RelL.nil laid (by kernel_rfl) rfl rfl rfl (fun ds h => by
    match ds, h with
    | [], _ => rfl) hW'
set_option maxHeartbeats 4000000
theorem closed : joinedFacts Try.prog 3 Try.f3 Rows.fnExactNewDeskSpec Rows.fnExactNewDeskRow = true :=
  joined_of laid closed3 closed79 (by as_aux_lemma => kernel_rfl) (by as_aux_lemma => kernel_rfl) (by as_aux_lemma => kernel_rfl) (by as_aux_lemma => kernel_rfl) (by as_aux_lemma => kernel_rfl) (by as_aux_lemma => kernel_rfl) (by as_aux_lemma => kernel_rfl)
theorem over : Rows.fnExactNewDeskRow.holds Try.pinned (OpenSpec.ofChange Rows.fnExactNewDeskSpec) :=
  OpenClaim.holds_of_wide 3 Try.f3 rfl rfl rfl rfl rfl rfl rfl ⟨rfl, rfl, rfl, rfl, rfl⟩ rfl rfl rfl rfl rfl (by kernel_rfl) Try.func3 closed
    (of_decide_eq_true (by kernel_rfl)) (by unfold Func.isWrapper; first | (rw [if_pos (by decide +kernel)]; kernel_rfl) | (rw [if_neg (by decide +kernel)]; exact ⟨rfl, rfl⟩))
    (fun os started H enc _ => lifted os started H enc)
theorem proved : Rows.FnExactNewDeskSaid := over
end fnExactNewDesk
end Go.Proofs.Ytoabncffnlhfbaa
