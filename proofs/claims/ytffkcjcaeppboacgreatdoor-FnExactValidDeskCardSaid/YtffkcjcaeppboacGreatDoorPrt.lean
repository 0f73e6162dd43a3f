/- How the laws' arguments read: texts, duties. -/
import Derived.Test.YtffkcjcaeppboacGreatDoorFP
import Derived.Test.YtffkcjcaeppboacGreatDoorFt
namespace Go.Proofs.YtffkcjcaeppboacGreatDoor
open Go.ChangeShapes Go.WideShapes Go.ChangeAt Go.RowKit
set_option maxRecDepth 100000
set_option maxHeartbeats 2000000
set_option linter.unusedVariables false
set_option linter.unusedSimpArgs false
theorem dutRd : Reads Tryz.prog 97 Dut.cs (fun v => v.keeper.size ≤ maxLen) 3 :=
  Reads.map (Reads.struct (fs := _) rfl (by kernel_rfl) (.cons (.str rfl) rfl (by kernel_rfl) (.cons (.int rfl) rfl (by kernel_rfl) (.cons (.int rfl) rfl (by kernel_rfl) .nil)))) (R' := Dut.cs) (ok' := fun v => v.keeper.size ≤ maxLen) (fun p => ⟨p.1, p.2.1, p.2.2.1⟩) (fun _ => rfl) (fun p h => h.1)
end Go.Proofs.YtffkcjcaeppboacGreatDoor
