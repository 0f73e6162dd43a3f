/- The package variables that contracts lean on, and what they hold. -/
import Derived.Test.YtpfddoikhmbebaaGreatDoorProg
import Derived.WalkKit
import Derived.Lib.LaidTab
import Derived.Lib.ItoaNum
import Derived.Lib.Space
namespace Go.Proofs.YtpfddoikhmbebaaGreatDoor
def NG:Nat:=2
def GF (h:Nat->Option Go.Obj):Prop:=∀w:World,(∀g,g<NG->w.heap[g]? =h g)->Lib.TabIs Tryz.prog w "internal/strconv.uint64pow10" .u64 Lib.pow10Tab/\Lib.TabIs Tryz.prog w "strings.asciiSpace" .u8 Lib.asciiSpaceTab
end Go.Proofs.YtpfddoikhmbebaaGreatDoor
