/- Contracts: aids that are seen. -/
import Derived.Test.YtffkcjcaeppboacGreatDoorGai
import Derived.Test.YtffkcjcaeppboacGreatDoorGlc
namespace Go.Proofs.YtffkcjcaeppboacGreatDoor
open Go Go.RowKit Classical
set_option maxRecDepth 100000
set_option maxHeartbeats 2000000
set_option linter.unusedVariables false
set_option linter.unusedSimpArgs false
set_option maxHeartbeats 4000000
end Go.Proofs.YtffkcjcaeppboacGreatDoor
