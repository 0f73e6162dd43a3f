/- Contracts: sines, bearings. -/
import Derived.Test.YtffkcjcaeppboacGreatDoorFC
namespace Go.Proofs.YtffkcjcaeppboacGreatDoor
open Go Go.RowKit Classical
set_option maxRecDepth 100000
set_option maxHeartbeats 2000000
set_option linter.unusedVariables false
set_option linter.unusedSimpArgs false
set_option maxHeartbeats 4000000
end Go.Proofs.YtffkcjcaeppboacGreatDoor
