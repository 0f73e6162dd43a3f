/- How the laws' arguments read: bytes. -/
import Derived.Test.YtnfjhadaclcgeaaGreatDoorPri
import Derived.Test.YtnfjhadaclcgeaaGreatDoorFsr
namespace Go.Proofs.YtnfjhadaclcgeaaGreatDoor
open Go.ChangeShapes Go.WideShapes Go.ChangeAt Go.RowKit
set_option maxRecDepth 100000
set_option maxHeartbeats 2000000
set_option linter.unusedVariables false
set_option linter.unusedSimpArgs false
theorem u8Rd : Reads Tryz.prog 5 u8R (fun n => (Lit.int .u8 n).wf = true) 1 := Reads.int rfl
theorem bytesR : ArgR Tryz.prog 22 (fun l : List Int => .sl false 1 (l.map u8R)) (fun l => (∀ a ∈ l, (Lit.int .u8 a).wf = true) ∧ l.length ≤ maxLen) := (Reads.slice (e := 5) rfl (by kernel_rfl) (by decide) u8Rd).cell (by kernel_rfl)
theorem Bytes.of {l : List Int} (h : ∀ a ∈ l, (Lit.int .u8 a).wf = true) : Bytes l := fun v hv => by
  have := h v hv
  simp [Lit.wf, IntKind.min, IntKind.max, IntKind.signed, IntKind.bits] at this
  omega
end Go.Proofs.YtnfjhadaclcgeaaGreatDoor
