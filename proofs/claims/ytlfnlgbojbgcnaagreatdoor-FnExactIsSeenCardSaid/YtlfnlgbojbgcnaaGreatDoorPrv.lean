/- How the laws' arguments read: lists of integers, visits. -/
import Derived.Test.YtlfnlgbojbgcnaaGreatDoorPri
namespace Go.Proofs.YtlfnlgbojbgcnaaGreatDoor
open Go.ChangeShapes Go.WideShapes Go.ChangeAt Go.RowKit
set_option maxRecDepth 100000
set_option maxHeartbeats 2000000
set_option linter.unusedVariables false
set_option linter.unusedSimpArgs false
theorem intRd : Reads Tryz.prog 2 intR (fun n => (Lit.int .i64 n).wf = true) 1 := Reads.int rfl
theorem intSRd : Reads Tryz.prog 38 (llR false) (fun l => (∀ a ∈ l, (Lit.int .i64 a).wf = true) ∧ l.length ≤ maxLen) 1 := Reads.slice (e := 2) rfl (by kernel_rfl) (by decide) intRd
theorem intSSR : ArgR Tryz.prog 67 (fun l : List (List Int) => .sl false 1 (l.map (llR false))) (fun l => (∀ x ∈ l, (∀ a ∈ x, (Lit.int .i64 a).wf = true) ∧ x.length ≤ maxLen) ∧ l.length ≤ maxLen) := (Reads.slice (e := 38) rfl (by kernel_rfl) (by decide) intSRd).cell (by kernel_rfl)
end Go.Proofs.YtlfnlgbojbgcnaaGreatDoor
