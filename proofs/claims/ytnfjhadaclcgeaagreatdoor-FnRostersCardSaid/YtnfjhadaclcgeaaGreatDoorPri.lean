/- How the laws' arguments read: integers. -/
import Derived.Test.YtnfjhadaclcgeaaGreatDoorQa
import Derived.Test.YtnfjhadaclcgeaaGreatDoorPcl
namespace Go.Proofs.YtnfjhadaclcgeaaGreatDoor
open Go.ChangeShapes Go.WideShapes Go.ChangeAt Go.RowKit
set_option maxRecDepth 100000
set_option maxHeartbeats 2000000
set_option linter.unusedVariables false
set_option linter.unusedSimpArgs false
theorem intArg : ArgR Tryz.prog 2 (AV.int .i64) (fun n => (Lit.int .i64 n).wf = true) := (Reads.int rfl).cell (by kernel_rfl)
end Go.Proofs.YtnfjhadaclcgeaaGreatDoor
