/- How the laws' arguments read: points, warnings. -/
import Derived.Test.YtoabioecoollpaaGreatPri
import Derived.Test.YtoabioecoollpaaGreatFwa
namespace Go.Proofs.YtoabioecoollpaaGreat
open Go.ChangeShapes Go.WideShapes Go.ChangeAt Go.RowKit
set_option maxRecDepth 100000
set_option maxHeartbeats 2000000
set_option linter.unusedVariables false
set_option linter.unusedSimpArgs false
theorem pntRd : Reads Tryz.prog 31 Pnt.cs (fun _ => True) 2 :=
  Reads.map (Reads.struct (fs := _) rfl (by kernel_rfl) (.cons (.int rfl) rfl (by kernel_rfl) (.cons (.int rfl) rfl (by kernel_rfl) .nil))) (R' := Pnt.cs) (ok' := fun _ => True) (fun p => ⟨p.1, p.2.1⟩) (fun _ => rfl) (fun _ _ => trivial)
theorem pntR : ArgR Tryz.prog 31 (fun v : Pnt => .agg v.cs) (fun _ => True) := pntRd.agg rfl
theorem warRd : Reads Tryz.prog 96 War.cs (fun v => v.words.size ≤ maxLen) 8 :=
  Reads.map (Reads.struct (fs := _) rfl (by kernel_rfl) (.cons (.int rfl) rfl (by kernel_rfl) (.cons (.int rfl) rfl (by kernel_rfl) (.cons (.int rfl) rfl (by kernel_rfl) (.cons (.int rfl) rfl (by kernel_rfl) (.cons (α := Pnt) (k1 := 2) (R1 := Pnt.cs) (ok1 := fun _ => True) pntRd rfl (by kernel_rfl) (.cons (.int rfl) rfl (by kernel_rfl) (.cons (.str rfl) rfl (by kernel_rfl) .nil)))))))) (R' := War.cs) (ok' := fun v => v.words.size ≤ maxLen) (fun p => ⟨p.1, p.2.1, p.2.2.1, p.2.2.2.1, Pnt.x (p.2.2.2.2.1), Pnt.y (p.2.2.2.2.1), p.2.2.2.2.2.1, p.2.2.2.2.2.2.1⟩) (fun _ => rfl) (fun p h => h.2.2.2.2.2.2.1)
theorem warR : ArgR Tryz.prog 96 (fun v : War => .agg v.cs) (fun v => v.words.size ≤ maxLen) := warRd.agg rfl
theorem warSR : ArgR Tryz.prog 36 (fun l : List War => .sl false 8 (l.map War.cs)) (fun l => (∀ v ∈ l, (fun v => v.words.size ≤ maxLen) v) ∧ l.length ≤ maxLen) := (Reads.slice (e := 96) rfl (by kernel_rfl) (by decide) warRd).cell (by kernel_rfl)
end Go.Proofs.YtoabioecoollpaaGreat
