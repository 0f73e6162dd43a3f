/- How the laws' arguments read: texts, duties. -/
import Derived.Test.YtehobmjmhjgnoaaPrv
import Derived.Test.YtehobmjmhjgnoaaFt
namespace Go.Proofs.Ytehobmjmhjgnoaa
open Go.ChangeShapes Go.WideShapes Go.ChangeAt Go.RowKit
set_option maxRecDepth 100000
set_option maxHeartbeats 2000000
set_option linter.unusedVariables false
set_option linter.unusedSimpArgs false
theorem strArg : ArgR Try.prog 9 AV.str (fun s => s.size ≤ maxLen) := (Reads.str rfl).cell (by kernel_rfl)
theorem dutRd : Reads Try.prog 36 Dut.cs (fun v => v.keeper.size ≤ maxLen) 3 :=
  Reads.map (Reads.struct (fs := _) rfl (by kernel_rfl) (.cons (.str rfl) rfl (by kernel_rfl) (.cons (.int rfl) rfl (by kernel_rfl) (.cons (.int rfl) rfl (by kernel_rfl) .nil)))) (R' := Dut.cs) (ok' := fun v => v.keeper.size ≤ maxLen) (fun p => ⟨p.1, p.2.1, p.2.2.1⟩) (fun _ => rfl) (fun p h => h.1)
theorem dutR : ArgR Try.prog 36 (fun v : Dut => .agg v.cs) (fun v => v.keeper.size ≤ maxLen) := dutRd.agg rfl
theorem dutSR : ArgR Try.prog 22 (fun l : List Dut => .sl false 3 (l.map Dut.cs)) (fun l => (∀ v ∈ l, (fun v => v.keeper.size ≤ maxLen) v) ∧ l.length ≤ maxLen) := (Reads.slice (e := 36) rfl (by kernel_rfl) (by decide) dutRd).cell (by kernel_rfl)
end Go.Proofs.Ytehobmjmhjgnoaa
