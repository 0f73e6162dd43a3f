/- How the laws' arguments read: lists of integers, visits. -/
import Derived.Test.YtffkcjcaeppboaaDoorPri
namespace Go.Proofs.YtffkcjcaeppboaaDoor
open Go.ChangeShapes Go.WideShapes Go.ChangeAt Go.RowKit
set_option maxRecDepth 100000
set_option maxHeartbeats 2000000
set_option linter.unusedVariables false
set_option linter.unusedSimpArgs false
theorem intRd : Reads Tryd.prog 2 intR (fun n => (Lit.int .i64 n).wf = true) 1 := Reads.int rfl
end Go.Proofs.YtffkcjcaeppboaaDoor
