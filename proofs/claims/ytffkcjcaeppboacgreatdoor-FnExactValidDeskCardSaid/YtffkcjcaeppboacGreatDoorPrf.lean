/- How the laws' arguments read: faults. -/
import Derived.Test.YtffkcjcaeppboacGreatDoorFP
import Derived.Test.YtffkcjcaeppboacGreatDoorFfa
namespace Go.Proofs.YtffkcjcaeppboacGreatDoor
open Go.ChangeShapes Go.WideShapes Go.ChangeAt Go.RowKit
set_option maxRecDepth 100000
set_option maxHeartbeats 2000000
set_option linter.unusedVariables false
set_option linter.unusedSimpArgs false
theorem fauRd : Reads Tryz.prog 112 Fau.cs (fun v => True) 4 :=
  Reads.map (Reads.struct (fs := _) rfl (by kernel_rfl) (.cons (.int rfl) rfl (by kernel_rfl) (.cons (.int rfl) rfl (by kernel_rfl) (.cons (.int rfl) rfl (by kernel_rfl) (.cons (.int rfl) rfl (by kernel_rfl) .nil))))) (R' := Fau.cs) (ok' := fun v => True) (fun p => ⟨p.1, p.2.1, p.2.2.1, p.2.2.2.1⟩) (fun _ => rfl) (fun p h => trivial)
end Go.Proofs.YtffkcjcaeppboacGreatDoor
