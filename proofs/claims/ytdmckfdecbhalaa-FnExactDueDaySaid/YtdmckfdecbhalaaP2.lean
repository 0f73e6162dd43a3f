/- 'laws.FnExactDueDay' returns true whatever the input, and the input reads as it did. Conditions: none. -/
import Derived.Test.YtdmckfdecbhalaaFn2
import Derived.Test.YtdmckfdecbhalaaAxLaw
namespace Go.Proofs.Ytdmckfdecbhalaa.fnExactDueDay
open Go.ChangeShapes Go.WideShapes Go.ChangeAt Go.RowKit
set_option maxRecDepth 100000

theorem visR : ArgR Try.prog 25 Vis.av (fun _ => True) :=
  (Reads.map (Reads.struct (fs := _) rfl (by kernel_rfl) (.cons (.int rfl) rfl (by kernel_rfl) (.cons (.int rfl) rfl (by kernel_rfl) (.cons (.int rfl) rfl (by kernel_rfl) .nil)))) (R' := fun v : Vis => [.int .i64 v.aid, .int .i64 v.every, .int .i64 v.last]) (ok' := fun _ => True) (fun p => ⟨p.1, p.2.1, p.2.2.1⟩) (fun _ => rfl) (fun _ _ => trivial)).agg rfl

theorem lifted (os : Os) (started : os.Started) (H : Type) (enc : TypeId × Value → H) :
    ReturnsInHanded {} Try.checked os 4 .any (Rows.fnExactDueDaySpec.pre6 enc Try.prog Try.f4 Rows.fnExactDueDayRow.domain false) (Rows.fnExactDueDaySpec.post enc Try.prog Try.f4 false true false false) := by
  refine returnsInHanded_of_change (C := Try.checked) own started (by kernel_rfl) Try.func4
    (ChangeSpec.witness6 (enc := enc) (C := Try.checked) false ⟨#[], #[.agg #[.int .i64 0, .int .i64 0, .int .i64 0]], []⟩ 8 (by kernel_rfl) (by kernel_rfl) (by kernel_rfl) (by kernel_rfl)) ?_
  intro W base args ds gs before hval hW hcnd _
  have hW' := hW
  obtain ⟨p, q, hA, _⟩ := hW
  obtain ⟨v, d, p1, rfl, h1⟩ := args1 (t := 25) hA
  obtain ⟨a, _, ha⟩ := visR H enc W v d p1 base h1 (hval 0 25 v rfl rfl)
  exact (lawDueDay a.aid a.every a.last).law (RelL.nil.cons ha) laid (by kernel_rfl) rfl rfl rfl (fun ds h => by
    match ds, h with
    | [d], _ => rfl) hW'

theorem over : Rows.fnExactDueDayRow.holds Try.pinned (OpenSpec.ofChange Rows.fnExactDueDaySpec) :=
  OpenClaim.holds_of_wide 4 Try.f4 rfl rfl rfl rfl rfl rfl rfl ⟨rfl, rfl, rfl, rfl, rfl⟩ rfl rfl rfl rfl rfl (by kernel_rfl) Try.func4 (by kernel_rfl)
    (of_decide_eq_true (by kernel_rfl)) (by unfold Func.isWrapper; first | (rw [if_pos (by decide +kernel)]; kernel_rfl) | (rw [if_neg (by decide +kernel)]; exact ⟨rfl, rfl⟩))
    (fun os started H enc _ => lifted os started H enc)

theorem proved : Rows.FnExactDueDaySaid := over
end Go.Proofs.Ytdmckfdecbhalaa.fnExactDueDay
