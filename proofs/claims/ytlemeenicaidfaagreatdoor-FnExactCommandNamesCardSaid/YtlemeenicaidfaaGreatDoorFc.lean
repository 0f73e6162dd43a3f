/- Contracts: the laws' helpers over visits; the laws of late visits. -/
import Derived.Test.YtlemeenicaidfaaGreatDoorFb
namespace Go.Proofs.YtlemeenicaidfaaGreatDoor
open Go Go.RowKit Classical
set_option maxRecDepth 100000
set_option maxHeartbeats 2000000
set_option linter.unusedVariables false
set_option linter.unusedSimpArgs false
def szN (n : Int) (k : Nat) : Int := if n - k < 0 then -1 else n - k
theorem szN_le {k : Nat} (h : ¬ szN 1048576 k < 0) : k ≤ 1048576 ∧ szN 1048576 k = 1048576 - k := by
  unfold szN at *; split at h <;> omega
end Go.Proofs.YtlemeenicaidfaaGreatDoor
