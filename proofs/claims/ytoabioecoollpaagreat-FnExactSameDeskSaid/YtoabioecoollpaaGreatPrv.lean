/- How the laws' arguments read: lists of integers, visits. -/
import Derived.Test.YtoabioecoollpaaGreatPri
namespace Go.Proofs.YtoabioecoollpaaGreat
open Go.ChangeShapes Go.WideShapes Go.ChangeAt Go.RowKit
set_option maxRecDepth 100000
set_option maxHeartbeats 2000000
set_option linter.unusedVariables false
set_option linter.unusedSimpArgs false
theorem visRd : Reads Tryz.prog 123 Vis.cs (fun _ => True) 3 :=
  Reads.map (Reads.struct (fs := _) rfl (by kernel_rfl) (.cons (.int rfl) rfl (by kernel_rfl) (.cons (.int rfl) rfl (by kernel_rfl) (.cons (.int rfl) rfl (by kernel_rfl) .nil)))) (R' := Vis.cs) (ok' := fun _ => True) (fun p => ⟨p.1, p.2.1, p.2.2.1⟩) (fun _ => rfl) (fun _ _ => trivial)
theorem visR : ArgR Tryz.prog 123 (fun v : Vis => .agg v.cs) (fun _ => True) := visRd.agg rfl
theorem visSR : ArgR Tryz.prog 38 (fun l : List Vis => .sl false 3 (l.map Vis.cs)) (fun l => (∀ a ∈ l, True) ∧ l.length ≤ maxLen) := (Reads.slice (e := 123) rfl (by kernel_rfl) (by decide) visRd).cell (by kernel_rfl)
theorem intRd : Reads Tryz.prog 2 intR (fun n => (Lit.int .i64 n).wf = true) 1 := Reads.int rfl
theorem intSRd : Reads Tryz.prog 27 (llR false) (fun l => (∀ a ∈ l, (Lit.int .i64 a).wf = true) ∧ l.length ≤ maxLen) 1 := Reads.slice (e := 2) rfl (by kernel_rfl) (by decide) intRd
end Go.Proofs.YtoabioecoollpaaGreat
