/- How the laws' arguments read: integers, visits. -/
import Derived.Test.YtcmgdilpljiljaaFk
import Derived.Test.YtcmgdilpljiljaaPcl
namespace Go.Proofs.Ytcmgdilpljiljaa
open Go.ChangeShapes Go.WideShapes Go.ChangeAt Go.RowKit
set_option maxRecDepth 100000
set_option maxHeartbeats 2000000
set_option linter.unusedVariables false
set_option linter.unusedSimpArgs false
theorem intArg : ArgR Try.prog 2 (AV.int .i64) (fun n => (Lit.int .i64 n).wf = true) := (Reads.int rfl).cell (by kernel_rfl)
theorem visRd : Reads Try.prog 113 Vis.cs (fun _ => True) 3 :=
  Reads.map (Reads.struct (fs := _) rfl (by kernel_rfl) (.cons (.int rfl) rfl (by kernel_rfl) (.cons (.int rfl) rfl (by kernel_rfl) (.cons (.int rfl) rfl (by kernel_rfl) .nil)))) (R' := Vis.cs) (ok' := fun _ => True) (fun p => ⟨p.1, p.2.1, p.2.2.1⟩) (fun _ => rfl) (fun _ _ => trivial)
theorem visR : ArgR Try.prog 113 (fun v : Vis => .agg v.cs) (fun _ => True) := visRd.agg rfl
theorem visSR : ArgR Try.prog 31 (fun l : List Vis => .sl false 3 (l.map Vis.cs)) (fun l => (∀ a ∈ l, True) ∧ l.length ≤ maxLen) := (Reads.slice (e := 113) rfl (by kernel_rfl) (by decide) visRd).cell (by kernel_rfl)
theorem intRd : Reads Try.prog 2 intR (fun n => (Lit.int .i64 n).wf = true) 1 := Reads.int rfl
theorem intSRd : Reads Try.prog 54 (llR false) (fun l => (∀ a ∈ l, (Lit.int .i64 a).wf = true) ∧ l.length ≤ maxLen) 1 := Reads.slice (e := 2) rfl (by kernel_rfl) (by decide) intRd
theorem intSSR : ArgR Try.prog 33 (fun l : List (List Int) => .sl false 1 (l.map (llR false))) (fun l => (∀ x ∈ l, (∀ a ∈ x, (Lit.int .i64 a).wf = true) ∧ x.length ≤ maxLen) ∧ l.length ≤ maxLen) := (Reads.slice (e := 54) rfl (by kernel_rfl) (by decide) intSRd).cell (by kernel_rfl)
end Go.Proofs.Ytcmgdilpljiljaa
