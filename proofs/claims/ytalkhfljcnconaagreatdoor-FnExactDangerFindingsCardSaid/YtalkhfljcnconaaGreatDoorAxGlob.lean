/- The package variables that contracts lean on, and what they hold. -/
import Derived.Test.YtalkhfljcnconaaGreatDoorProg
import Derived.WalkKit
import Derived.Lib.LaidTab
import Derived.Lib.Space
namespace Go.Proofs.YtalkhfljcnconaaGreatDoor
def NG:Nat:=1
def GF (h:Nat->Option Go.Obj):Prop:=∀w:World,(∀g,g<NG->w.heap[g]?=h g)->Lib.TabIs Tryz.prog w "strings.asciiSpace" .u8 Lib.asciiSpaceTab
end Go.Proofs.YtalkhfljcnconaaGreatDoor
