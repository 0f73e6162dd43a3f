/- How the laws' arguments read: texts, duties. -/
import Derived.Test.YtffkcjcaeppboaaDoorPrv
import Derived.Test.YtffkcjcaeppboaaDoorFt
namespace Go.Proofs.YtffkcjcaeppboaaDoor
open Go.ChangeShapes Go.WideShapes Go.ChangeAt Go.RowKit
set_option maxRecDepth 100000
set_option maxHeartbeats 2000000
set_option linter.unusedVariables false
set_option linter.unusedSimpArgs false
theorem strArg : ArgR Tryd.prog 9 AV.str (fun s => s.size ≤ maxLen) := (Reads.str rfl).cell (by kernel_rfl)
end Go.Proofs.YtffkcjcaeppboaaDoor
