/- The tie: what the run of the variables leaves. -/
import Derived.Test.YtlemeenicaidfaaGreatDoorTia
namespace Go.Proofs.YtlemeenicaidfaaGreatDoor
open Go
set_option maxRecDepth 100000
theorem tie_w7 : ∀ os tape, doorLeaves Tryz.prog 400 8 300 laidL os tape = some (laidL.filter fun x => x.2.handleName?.isNone, (funcsListed laidL).map (·.2.funcsOut)) := fun _ _ => by kernel_rfl
end Go.Proofs.YtlemeenicaidfaaGreatDoor
