/- Contracts: what an observer sees; the law. -/
import Derived.Test.YtffkcjcaeppboacGreatDoorGsl
import Derived.Test.YtffkcjcaeppboacGreatDoorGma
namespace Go.Proofs.YtffkcjcaeppboacGreatDoor
open Go Go.RowKit Classical
set_option maxRecDepth 100000
set_option maxHeartbeats 2000000
set_option linter.unusedVariables false
set_option linter.unusedSimpArgs false
theorem take_map {α β : Type} {f : α → β} {l : List α} {i n : Int} {v : α} (h0 : 0 ≤ i) (hv : l[i.toNat]? = some v) (hn : n = i + 1) : (l.take n.toNat).map f = (l.take i.toNat).map f ++ [f v] := by
  rw [show n.toNat = i.toNat + 1 by omega, List.take_add_one, hv]; simp
set_option maxHeartbeats 4000000
end Go.Proofs.YtffkcjcaeppboacGreatDoor
