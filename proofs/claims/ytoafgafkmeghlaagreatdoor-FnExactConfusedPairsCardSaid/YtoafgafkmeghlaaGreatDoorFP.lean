/- How the laws' arguments read: integers. -/
import Derived.Test.YtoafgafkmeghlaaGreatDoorFA
import Derived.Test.YtoafgafkmeghlaaGreatDoorPcl
import Derived.Test.YtoafgafkmeghlaaGreatDoorFB
namespace Go.Proofs.YtoafgafkmeghlaaGreatDoor
open Go.ChangeShapes Go.WideShapes Go.ChangeAt Go.RowKit
set_option maxRecDepth 100000
set_option maxHeartbeats 2000000
set_option linter.unusedVariables false
set_option linter.unusedSimpArgs false
theorem intArg : ArgR Tryz.prog 2 (AV.int .i64) (fun n => (Lit.int .i64 n).wf = true) := (Reads.int rfl).cell (by kernel_rfl)
end Go.Proofs.YtoafgafkmeghlaaGreatDoor
/- How the laws' arguments read: lists of integers, visits. -/
namespace Go.Proofs.YtoafgafkmeghlaaGreatDoor
open Go.ChangeShapes Go.WideShapes Go.ChangeAt Go.RowKit
set_option maxRecDepth 100000
set_option maxHeartbeats 2000000
set_option linter.unusedVariables false
set_option linter.unusedSimpArgs false
theorem intRd : Reads Tryz.prog 2 intR (fun n => (Lit.int .i64 n).wf = true) 1 := Reads.int rfl
theorem intSRd : Reads Tryz.prog 45 (llR false) (fun l => (∀ a ∈ l, (Lit.int .i64 a).wf = true) ∧ l.length ≤ maxLen) 1 := Reads.slice (e := 2) rfl (by kernel_rfl) (by decide) intRd
end Go.Proofs.YtoafgafkmeghlaaGreatDoor
/- How the laws' arguments read: the types of an authority. -/
namespace Go.Proofs.YtoafgafkmeghlaaGreatDoor
open Go.ChangeShapes Go.WideShapes Go.ChangeAt Go.RowKit
set_option maxRecDepth 100000
set_option maxHeartbeats 2000000
set_option linter.unusedVariables false
set_option linter.unusedSimpArgs false
theorem pntRd2 : Reads Tryz.prog 42 Pnt.cs (fun _ => True) 2 :=
  Reads.map (Reads.struct (fs := _) rfl (by kernel_rfl) (.cons (.int rfl) rfl (by kernel_rfl) (.cons (.int rfl) rfl (by kernel_rfl) .nil))) (R' := Pnt.cs) (ok' := fun _ => True) (fun p => ⟨p.1, p.2.1⟩) (fun _ => rfl) (fun _ _ => trivial)
theorem mrkRd : Reads Tryz.prog 44 Mrk.cs (fun _ => True) 4 :=
  Reads.map (Reads.struct (fs := _) rfl (by kernel_rfl) (.cons (.int rfl) rfl (by kernel_rfl) (.cons (.str rfl) rfl (by kernel_rfl) (.cons (.str rfl) rfl (by kernel_rfl) (.cons (.str rfl) rfl (by kernel_rfl) .nil))))) (R' := Mrk.cs) (ok' := fun _ => True) (fun p => ⟨p.1, p.2.1, p.2.2.1, p.2.2.2.1⟩) (fun _ => rfl) (fun _ _ => trivial)
theorem scrRd : Reads Tryz.prog 119 Scr.cs (fun _ => True) 3 :=
  Reads.map (Reads.struct (fs := _) rfl (by kernel_rfl) (.cons (.int rfl) rfl (by kernel_rfl) (.cons (.int rfl) rfl (by kernel_rfl) (.cons (.str rfl) rfl (by kernel_rfl) .nil)))) (R' := Scr.cs) (ok' := fun _ => True) (fun p => ⟨p.1, p.2.1, p.2.2.1⟩) (fun _ => rfl) (fun _ _ => trivial)
theorem obvRd : Reads Tryz.prog 69 Obv.cs (fun _ => True) 4 :=
  Reads.map (Reads.struct (fs := _) rfl (by kernel_rfl) (.cons (α := Pnt) (k1 := 2) (R1 := Pnt.cs) (ok1 := fun _ => True) pntRd2 rfl (by kernel_rfl) (.cons (.int rfl) rfl (by kernel_rfl) (.cons (.int rfl) rfl (by kernel_rfl) .nil)))) (R' := Obv.cs) (ok' := fun _ => True) (fun p => ⟨Pnt.x (p.1), Pnt.y (p.1), p.2.1, p.2.2.1⟩) (fun _ => rfl) (fun _ _ => trivial)
theorem chrRd : Reads Tryz.prog 47 (Chr.cs false) (fun _ => True) 5 :=
  Reads.map (Reads.struct (fs := _) rfl (by kernel_rfl) (.cons (.int rfl) rfl (by kernel_rfl) (.cons (α := List Int) (k1 := 1) (R1 := llR false) (ok1 := fun l => (∀ a ∈ l, (Lit.int .i64 a).wf = true) ∧ l.length ≤ maxLen) intSRd rfl (by kernel_rfl) (.cons (.str rfl) rfl (by kernel_rfl) (.cons (.str rfl) rfl (by kernel_rfl) (.cons (.int rfl) rfl (by kernel_rfl) .nil)))))) (R' := (Chr.cs false)) (ok' := fun _ => True) (fun p => ⟨p.1, p.2.1, p.2.2.1, p.2.2.2.1, p.2.2.2.2.1⟩) (fun _ => rfl) (fun _ _ => trivial)
theorem aidRd : Reads Tryz.prog 50 (Aid.cs false) (fun _ => True) 16 :=
  Reads.map (Reads.struct (fs := _) rfl (by kernel_rfl) (.cons (.int rfl) rfl (by kernel_rfl) (.cons (.str rfl) rfl (by kernel_rfl) (.cons (α := Pnt) (k1 := 2) (R1 := Pnt.cs) (ok1 := fun _ => True) pntRd2 rfl (by kernel_rfl) (.cons (.int rfl) rfl (by kernel_rfl) (.cons (α := Mrk) (k1 := 4) (R1 := Mrk.cs) (ok1 := fun _ => True) mrkRd rfl (by kernel_rfl) (.cons (α := Chr) (k1 := 5) (R1 := (Chr.cs false)) (ok1 := fun _ => True) chrRd rfl (by kernel_rfl) (.cons (Reads.slice (e := 119) rfl (by kernel_rfl) (by decide) scrRd) rfl (by kernel_rfl) (.cons (.int rfl) rfl (by kernel_rfl) .nil))))))))) (R' := (Aid.cs false)) (ok' := fun _ => True) (fun p => ⟨p.1, p.2.1, Pnt.x (p.2.2.1), Pnt.y (p.2.2.1), p.2.2.2.1, Mrk.kind (p.2.2.2.2.1), Mrk.colors (p.2.2.2.2.1), Mrk.shape (p.2.2.2.2.1), Mrk.top (p.2.2.2.2.1), Chr.kind (p.2.2.2.2.2.1), Chr.group (p.2.2.2.2.2.1), Chr.letter (p.2.2.2.2.2.1), Chr.colors (p.2.2.2.2.2.1), Chr.period (p.2.2.2.2.2.1), p.2.2.2.2.2.2.1, p.2.2.2.2.2.2.2.1⟩) (fun _ => rfl) (fun _ _ => trivial)
end Go.Proofs.YtoafgafkmeghlaaGreatDoor
/- How the laws' arguments read: lists of aids, of observers. -/
namespace Go.Proofs.YtoafgafkmeghlaaGreatDoor
open Go.ChangeShapes Go.WideShapes Go.ChangeAt Go.RowKit
set_option maxRecDepth 100000
set_option maxHeartbeats 2000000
set_option linter.unusedVariables false
set_option linter.unusedSimpArgs false
theorem aidSR : ArgR Tryz.prog 22 (fun l : List Aid => .sl false 16 (l.map (Aid.cs false))) (fun l => (∀ v ∈ l, True) ∧ l.length ≤ maxLen) := (Reads.slice (e := 50) rfl (by kernel_rfl) (by decide) aidRd).cell (by kernel_rfl)
theorem obvSR : ArgR Tryz.prog 23 (fun l : List Obv => .sl false 4 (l.map Obv.cs)) (fun l => (∀ v ∈ l, True) ∧ l.length ≤ maxLen) := (Reads.slice (e := 69) rfl (by kernel_rfl) (by decide) obvRd).cell (by kernel_rfl)
end Go.Proofs.YtoafgafkmeghlaaGreatDoor
