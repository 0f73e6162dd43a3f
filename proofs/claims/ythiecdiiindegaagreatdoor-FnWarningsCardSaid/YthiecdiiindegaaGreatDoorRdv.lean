/- Contracts: texts divided, visits read: the law of ReadVisit. -/
import Derived.Test.YthiecdiiindegaaGreatDoorRdc
import Derived.Test.YthiecdiiindegaaGreatDoorDcp
namespace Go.Proofs.YthiecdiiindegaaGreatDoor
open Go Go.RowKit Classical
set_option maxRecDepth 100000
set_option maxHeartbeats 2000000
set_option linter.unusedVariables false
set_option linter.unusedSimpArgs false
/-! The functions. -/
theorem viaNum {K : AV → Prop} {l : List UInt8} {p : Int × Bool} (hK : ∀ r, r = numR (numOf l) → K r) (h : numOf l = p) : K (numR p) := hK _ (by rw [h])
theorem vtext_eq {v : Vis} (h : v.ok) : vtext v = decS v.aid ++ ⟨#[32]⟩ ++ decS v.every ++ ⟨#[32]⟩ ++ decS v.last := by
  unfold vtext
  rw [if_pos h]
  apply ByteArray.ext
  apply Array.ext'
  simp [visTxt, bL, decS]
def visB (p : Vis × Bool) : AV := .tup [.agg p.1.cs, .bool p.2]
theorem viaVis {K : AV → Prop} {l : List UInt8} {p : Vis × Bool} (hK : ∀ r, r = visB (visOf l) → K r) (h : visOf l = p) : K (visB p) := hK _ (by rw [h])
theorem NoB.visB (p : Vis × Bool) : NoB (visB p) := .tupC (.vis _) (.tupC (.bool _) .tup0)
end Go.Proofs.YthiecdiiindegaaGreatDoor
