/- How the laws' arguments read: points, warnings. -/
import Derived.Test.YtffkcjcaeppboacGreatDoorFP
import Derived.Test.YtffkcjcaeppboacGreatDoorFwa
namespace Go.Proofs.YtffkcjcaeppboacGreatDoor
open Go.ChangeShapes Go.WideShapes Go.ChangeAt Go.RowKit
set_option maxRecDepth 100000
set_option maxHeartbeats 2000000
set_option linter.unusedVariables false
set_option linter.unusedSimpArgs false
theorem pntRd : Reads Tryz.prog 31 Pnt.cs (fun _ => True) 2 :=
  Reads.map (Reads.struct (fs := _) rfl (by kernel_rfl) (.cons (.int rfl) rfl (by kernel_rfl) (.cons (.int rfl) rfl (by kernel_rfl) .nil))) (R' := Pnt.cs) (ok' := fun _ => True) (fun p => ⟨p.1, p.2.1⟩) (fun _ => rfl) (fun _ _ => trivial)
theorem warRd : Reads Tryz.prog 94 War.cs (fun v => v.words.size ≤ maxLen) 8 :=
  Reads.map (Reads.struct (fs := _) rfl (by kernel_rfl) (.cons (.int rfl) rfl (by kernel_rfl) (.cons (.int rfl) rfl (by kernel_rfl) (.cons (.int rfl) rfl (by kernel_rfl) (.cons (.int rfl) rfl (by kernel_rfl) (.cons (α := Pnt) (k1 := 2) (R1 := Pnt.cs) (ok1 := fun _ => True) pntRd rfl (by kernel_rfl) (.cons (.int rfl) rfl (by kernel_rfl) (.cons (.str rfl) rfl (by kernel_rfl) .nil)))))))) (R' := War.cs) (ok' := fun v => v.words.size ≤ maxLen) (fun p => ⟨p.1, p.2.1, p.2.2.1, p.2.2.2.1, Pnt.x (p.2.2.2.2.1), Pnt.y (p.2.2.2.2.1), p.2.2.2.2.2.1, p.2.2.2.2.2.2.1⟩) (fun _ => rfl) (fun p h => h.2.2.2.2.2.2.1)
end Go.Proofs.YtffkcjcaeppboacGreatDoor
