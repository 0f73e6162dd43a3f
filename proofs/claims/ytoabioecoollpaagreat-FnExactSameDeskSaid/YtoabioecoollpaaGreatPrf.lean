/- How the laws' arguments read: faults. -/
import Derived.Test.YtoabioecoollpaaGreatPrv
import Derived.Test.YtoabioecoollpaaGreatFfa
namespace Go.Proofs.YtoabioecoollpaaGreat
open Go.ChangeShapes Go.WideShapes Go.ChangeAt Go.RowKit
set_option maxRecDepth 100000
set_option maxHeartbeats 2000000
set_option linter.unusedVariables false
set_option linter.unusedSimpArgs false
theorem fauRd : Reads Tryz.prog 119 Fau.cs (fun v => True) 4 :=
  Reads.map (Reads.struct (fs := _) rfl (by kernel_rfl) (.cons (.int rfl) rfl (by kernel_rfl) (.cons (.int rfl) rfl (by kernel_rfl) (.cons (.int rfl) rfl (by kernel_rfl) (.cons (.int rfl) rfl (by kernel_rfl) .nil))))) (R' := Fau.cs) (ok' := fun v => True) (fun p => ⟨p.1, p.2.1, p.2.2.1, p.2.2.2.1⟩) (fun _ => rfl) (fun p h => trivial)
theorem fauR : ArgR Tryz.prog 119 (fun v : Fau => .agg v.cs) (fun v => True) := fauRd.agg rfl
theorem fauSR : ArgR Tryz.prog 35 (fun l : List Fau => .sl false 4 (l.map Fau.cs)) (fun l => (∀ v ∈ l, (fun v => True) v) ∧ l.length ≤ maxLen) := (Reads.slice (e := 119) rfl (by kernel_rfl) (by decide) fauRd).cell (by kernel_rfl)
end Go.Proofs.YtoabioecoollpaaGreat
