/- The package variables that contracts lean on, and what they hold. -/
import Derived.Test.YtlemeenicaidfaaGreatDoorProg
import Derived.WalkKit
import Derived.Lib.LaidTab
import Derived.Lib.ItoaNum
import Derived.Lib.Space
namespace Go.Proofs.YtlemeenicaidfaaGreatDoor
/-- The blocks of the package variables that are leant on; what they hold. -/
def NG : Nat := 5
def GF (h : Nat → Option Go.Obj) : Prop := ∀ w : World, (∀ g, g < NG → w.heap[g]? = h g) → Lib.TabIs Tryz.prog w "strings.asciiSpace" .u8 Lib.asciiSpaceTab ∧ Lib.TabIs Tryz.prog w "internal/strconv.uint64pow10" .u64 Lib.pow10Tab ∧ (∃ te pe, w.cell? ⟨1, 0, none⟩ = some (.iface te pe)) ∧ (∃ m, w.cell? ⟨0, 0, none⟩ = some (.int .i64 m))
end Go.Proofs.YtlemeenicaidfaaGreatDoor
