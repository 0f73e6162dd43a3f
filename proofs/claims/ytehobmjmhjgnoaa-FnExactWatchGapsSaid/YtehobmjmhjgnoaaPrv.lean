/- How the laws' arguments read: lists of integers, visits. -/
import Derived.Test.YtehobmjmhjgnoaaPri
namespace Go.Proofs.Ytehobmjmhjgnoaa
open Go.ChangeShapes Go.WideShapes Go.ChangeAt Go.RowKit
set_option maxRecDepth 100000
set_option maxHeartbeats 2000000
set_option linter.unusedVariables false
set_option linter.unusedSimpArgs false
theorem intRd : Reads Try.prog 2 intR (fun n => (Lit.int .i64 n).wf = true) 1 := Reads.int rfl
theorem intSRd : Reads Try.prog 39 (llR false) (fun l => (∀ a ∈ l, (Lit.int .i64 a).wf = true) ∧ l.length ≤ maxLen) 1 := Reads.slice (e := 2) rfl (by kernel_rfl) (by decide) intRd
theorem intSSR : ArgR Try.prog 24 (fun l : List (List Int) => .sl false 1 (l.map (llR false))) (fun l => (∀ x ∈ l, (∀ a ∈ x, (Lit.int .i64 a).wf = true) ∧ x.length ≤ maxLen) ∧ l.length ≤ maxLen) := (Reads.slice (e := 39) rfl (by kernel_rfl) (by decide) intSRd).cell (by kernel_rfl)
end Go.Proofs.Ytehobmjmhjgnoaa
