/- Contracts: what an observer sees; the law. -/
import Derived.Test.YtoafgafkmeghlaaGreatDoorGsl
import Derived.Test.YtoafgafkmeghlaaGreatDoorGma
namespace Go.Proofs.YtoafgafkmeghlaaGreatDoor
open Go Go.RowKit Classical
set_option maxRecDepth 100000
set_option maxHeartbeats 2000000
set_option linter.unusedVariables false
set_option linter.unusedSimpArgs false
set_option maxHeartbeats 4000000
theorem Aid.mk1_bd2 {l : List Aid} (h : l.length + (l.map Aid.sz).sum ≤ 1048576) : ∀ v ∈ l, Aid.mk1 v ≤ 10000000 := fun v hv => by
  have h1 := sum_ge Aid.sz hv
  unfold Aid.mk1
  simp only [Aid.sz, Chr.sz] at h1
  omega
end Go.Proofs.YtoafgafkmeghlaaGreatDoor
