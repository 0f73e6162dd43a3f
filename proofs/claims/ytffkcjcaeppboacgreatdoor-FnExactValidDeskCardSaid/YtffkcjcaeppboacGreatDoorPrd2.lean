/- How the laws' arguments read: desks. -/
import Derived.Test.YtffkcjcaeppboacGreatDoorFP
import Derived.Test.YtffkcjcaeppboacGreatDoorPrw
import Derived.Test.YtffkcjcaeppboacGreatDoorPrf
import Derived.Test.YtffkcjcaeppboacGreatDoorPrt
import Derived.Test.YtffkcjcaeppboacGreatDoorFyf
namespace Go.Proofs.YtffkcjcaeppboacGreatDoor
open Go.ChangeShapes Go.WideShapes Go.ChangeAt Go.RowKit
set_option maxRecDepth 100000
set_option maxHeartbeats 2000000
set_option linter.unusedVariables false
set_option linter.unusedSimpArgs false
theorem dskRd : Reads Tryz.prog 40 (Dsk.cs false) (fun _ => True) 22 :=
  Reads.map (Reads.struct (fs := _) rfl (by kernel_rfl) (.cons (α := Aut) (k1 := 18) (R1 := (Aut.cs false)) (ok1 := fun _ => True) autRd rfl (by kernel_rfl) (.cons (Reads.slice (e := 112) rfl (by kernel_rfl) (by decide) fauRd) rfl (by kernel_rfl) (.cons (Reads.slice (e := 94) rfl (by kernel_rfl) (by decide) warRd) rfl (by kernel_rfl) (.cons (Reads.slice (e := 97) rfl (by kernel_rfl) (by decide) dutRd) rfl (by kernel_rfl) (.cons (Reads.slice (e := 121) rfl (by kernel_rfl) (by decide) visRd) rfl (by kernel_rfl) .nil)))))) (R' := (Dsk.cs false)) (ok' := fun _ => True) (fun p => ⟨Aut.edition (p.1), Aut.notices (p.1), Aut.day (p.1), Aut.fairways (p.1), Aut.dangers (p.1), Aut.away (p.1), Aut.observers (p.1), Aut.tolerance (p.1), Aut.full (p.1), Aut.sName (p.1), Aut.sSpeed (p.1), Aut.sLoad (p.1), Aut.sDraught (p.1), Aut.bX (p.1), Aut.bY (p.1), Aut.works (p.1), Aut.order (p.1), Aut.start (p.1), p.2.1, p.2.2.1, p.2.2.2.1, p.2.2.2.2.1⟩) (fun _ => rfl) (fun _ _ => trivial)
theorem dskR : ArgR Tryz.prog 40 (fun v : Dsk => .agg (v.cs false)) (fun _ => True) := dskRd.agg rfl
end Go.Proofs.YtffkcjcaeppboacGreatDoor
