/- How the laws' arguments read: integers. -/
import Derived.Test.YtffkcjcaeppboacGreatDoorFA
import Derived.Test.YtffkcjcaeppboacGreatDoorPcl
import Derived.Test.YtffkcjcaeppboacGreatDoorFB
namespace Go.Proofs.YtffkcjcaeppboacGreatDoor
open Go.ChangeShapes Go.WideShapes Go.ChangeAt Go.RowKit
set_option maxRecDepth 100000
set_option maxHeartbeats 2000000
set_option linter.unusedVariables false
set_option linter.unusedSimpArgs false
end Go.Proofs.YtffkcjcaeppboacGreatDoor
/- How the laws' arguments read: lists of integers, visits. -/
namespace Go.Proofs.YtffkcjcaeppboacGreatDoor
open Go.ChangeShapes Go.WideShapes Go.ChangeAt Go.RowKit
set_option maxRecDepth 100000
set_option maxHeartbeats 2000000
set_option linter.unusedVariables false
set_option linter.unusedSimpArgs false
theorem visRd : Reads Tryz.prog 121 Vis.cs (fun _ => True) 3 :=
  Reads.map (Reads.struct (fs := _) rfl (by kernel_rfl) (.cons (.int rfl) rfl (by kernel_rfl) (.cons (.int rfl) rfl (by kernel_rfl) (.cons (.int rfl) rfl (by kernel_rfl) .nil)))) (R' := Vis.cs) (ok' := fun _ => True) (fun p => ⟨p.1, p.2.1, p.2.2.1⟩) (fun _ => rfl) (fun _ _ => trivial)
theorem intRd : Reads Tryz.prog 2 intR (fun n => (Lit.int .i64 n).wf = true) 1 := Reads.int rfl
theorem intSRd : Reads Tryz.prog 27 (llR false) (fun l => (∀ a ∈ l, (Lit.int .i64 a).wf = true) ∧ l.length ≤ maxLen) 1 := Reads.slice (e := 2) rfl (by kernel_rfl) (by decide) intRd
end Go.Proofs.YtffkcjcaeppboacGreatDoor
/- How the laws' arguments read: the types of an authority. -/
namespace Go.Proofs.YtffkcjcaeppboacGreatDoor
open Go.ChangeShapes Go.WideShapes Go.ChangeAt Go.RowKit
set_option maxRecDepth 100000
set_option maxHeartbeats 2000000
set_option linter.unusedVariables false
set_option linter.unusedSimpArgs false
theorem pntRd2 : Reads Tryz.prog 31 Pnt.cs (fun _ => True) 2 :=
  Reads.map (Reads.struct (fs := _) rfl (by kernel_rfl) (.cons (.int rfl) rfl (by kernel_rfl) (.cons (.int rfl) rfl (by kernel_rfl) .nil))) (R' := Pnt.cs) (ok' := fun _ => True) (fun p => ⟨p.1, p.2.1⟩) (fun _ => rfl) (fun _ _ => trivial)
theorem mrkRd : Reads Tryz.prog 158 Mrk.cs (fun _ => True) 4 :=
  Reads.map (Reads.struct (fs := _) rfl (by kernel_rfl) (.cons (.int rfl) rfl (by kernel_rfl) (.cons (.str rfl) rfl (by kernel_rfl) (.cons (.str rfl) rfl (by kernel_rfl) (.cons (.str rfl) rfl (by kernel_rfl) .nil))))) (R' := Mrk.cs) (ok' := fun _ => True) (fun p => ⟨p.1, p.2.1, p.2.2.1, p.2.2.2.1⟩) (fun _ => rfl) (fun _ _ => trivial)
theorem scrRd : Reads Tryz.prog 281 Scr.cs (fun _ => True) 3 :=
  Reads.map (Reads.struct (fs := _) rfl (by kernel_rfl) (.cons (.int rfl) rfl (by kernel_rfl) (.cons (.int rfl) rfl (by kernel_rfl) (.cons (.str rfl) rfl (by kernel_rfl) .nil)))) (R' := Scr.cs) (ok' := fun _ => True) (fun p => ⟨p.1, p.2.1, p.2.2.1⟩) (fun _ => rfl) (fun _ _ => trivial)
theorem dgrRd : Reads Tryz.prog 175 Dgr.cs (fun _ => True) 4 :=
  Reads.map (Reads.struct (fs := _) rfl (by kernel_rfl) (.cons (.str rfl) rfl (by kernel_rfl) (.cons (α := Pnt) (k1 := 2) (R1 := Pnt.cs) (ok1 := fun _ => True) pntRd2 rfl (by kernel_rfl) (.cons (.int rfl) rfl (by kernel_rfl) .nil)))) (R' := Dgr.cs) (ok' := fun _ => True) (fun p => ⟨p.1, Pnt.x (p.2.1), Pnt.y (p.2.1), p.2.2.1⟩) (fun _ => rfl) (fun _ _ => trivial)
theorem obvRd : Reads Tryz.prog 216 Obv.cs (fun _ => True) 4 :=
  Reads.map (Reads.struct (fs := _) rfl (by kernel_rfl) (.cons (α := Pnt) (k1 := 2) (R1 := Pnt.cs) (ok1 := fun _ => True) pntRd2 rfl (by kernel_rfl) (.cons (.int rfl) rfl (by kernel_rfl) (.cons (.int rfl) rfl (by kernel_rfl) .nil)))) (R' := Obv.cs) (ok' := fun _ => True) (fun p => ⟨Pnt.x (p.1), Pnt.y (p.1), p.2.1, p.2.2.1⟩) (fun _ => rfl) (fun _ _ => trivial)
theorem shpRd : Reads Tryz.prog 29 Shp.cs (fun _ => True) 4 :=
  Reads.map (Reads.struct (fs := _) rfl (by kernel_rfl) (.cons (.str rfl) rfl (by kernel_rfl) (.cons (.int rfl) rfl (by kernel_rfl) (.cons (.int rfl) rfl (by kernel_rfl) (.cons (.int rfl) rfl (by kernel_rfl) .nil))))) (R' := Shp.cs) (ok' := fun _ => True) (fun p => ⟨p.1, p.2.1, p.2.2.1, p.2.2.2.1⟩) (fun _ => rfl) (fun _ _ => trivial)
theorem wrkRd : Reads Tryz.prog 178 Wrk.cs (fun _ => True) 7 :=
  Reads.map (Reads.struct (fs := _) rfl (by kernel_rfl) (.cons (.str rfl) rfl (by kernel_rfl) (.cons (α := Pnt) (k1 := 2) (R1 := Pnt.cs) (ok1 := fun _ => True) pntRd2 rfl (by kernel_rfl) (.cons (.int rfl) rfl (by kernel_rfl) (.cons (.int rfl) rfl (by kernel_rfl) (.cons (.int rfl) rfl (by kernel_rfl) (.cons (.int rfl) rfl (by kernel_rfl) .nil))))))) (R' := Wrk.cs) (ok' := fun _ => True) (fun p => ⟨p.1, Pnt.x (p.2.1), Pnt.y (p.2.1), p.2.2.1, p.2.2.2.1, p.2.2.2.2.1, p.2.2.2.2.2.1⟩) (fun _ => rfl) (fun _ _ => trivial)
theorem chrRd : Reads Tryz.prog 160 (Chr.cs false) (fun _ => True) 5 :=
  Reads.map (Reads.struct (fs := _) rfl (by kernel_rfl) (.cons (.int rfl) rfl (by kernel_rfl) (.cons (α := List Int) (k1 := 1) (R1 := llR false) (ok1 := fun l => (∀ a ∈ l, (Lit.int .i64 a).wf = true) ∧ l.length ≤ maxLen) intSRd rfl (by kernel_rfl) (.cons (.str rfl) rfl (by kernel_rfl) (.cons (.str rfl) rfl (by kernel_rfl) (.cons (.int rfl) rfl (by kernel_rfl) .nil)))))) (R' := (Chr.cs false)) (ok' := fun _ => True) (fun p => ⟨p.1, p.2.1, p.2.2.1, p.2.2.2.1, p.2.2.2.2.1⟩) (fun _ => rfl) (fun _ _ => trivial)
theorem chnRd : Reads Tryz.prog 170 (Chn.cs false) (fun _ => True) 3 :=
  Reads.map (Reads.struct (fs := _) rfl (by kernel_rfl) (.cons (.str rfl) rfl (by kernel_rfl) (.cons (Reads.slice (e := 31) rfl (by kernel_rfl) (by decide) pntRd2) rfl (by kernel_rfl) (.cons (.int rfl) rfl (by kernel_rfl) .nil)))) (R' := (Chn.cs false)) (ok' := fun _ => True) (fun p => ⟨p.1, p.2.1, p.2.2.1⟩) (fun _ => rfl) (fun _ _ => trivial)
theorem aidRd : Reads Tryz.prog 163 (Aid.cs false) (fun _ => True) 16 :=
  Reads.map (Reads.struct (fs := _) rfl (by kernel_rfl) (.cons (.int rfl) rfl (by kernel_rfl) (.cons (.str rfl) rfl (by kernel_rfl) (.cons (α := Pnt) (k1 := 2) (R1 := Pnt.cs) (ok1 := fun _ => True) pntRd2 rfl (by kernel_rfl) (.cons (.int rfl) rfl (by kernel_rfl) (.cons (α := Mrk) (k1 := 4) (R1 := Mrk.cs) (ok1 := fun _ => True) mrkRd rfl (by kernel_rfl) (.cons (α := Chr) (k1 := 5) (R1 := (Chr.cs false)) (ok1 := fun _ => True) chrRd rfl (by kernel_rfl) (.cons (Reads.slice (e := 281) rfl (by kernel_rfl) (by decide) scrRd) rfl (by kernel_rfl) (.cons (.int rfl) rfl (by kernel_rfl) .nil))))))))) (R' := (Aid.cs false)) (ok' := fun _ => True) (fun p => ⟨p.1, p.2.1, Pnt.x (p.2.2.1), Pnt.y (p.2.2.1), p.2.2.2.1, Mrk.kind (p.2.2.2.2.1), Mrk.colors (p.2.2.2.2.1), Mrk.shape (p.2.2.2.2.1), Mrk.top (p.2.2.2.2.1), Chr.kind (p.2.2.2.2.2.1), Chr.group (p.2.2.2.2.2.1), Chr.letter (p.2.2.2.2.2.1), Chr.colors (p.2.2.2.2.2.1), Chr.period (p.2.2.2.2.2.1), p.2.2.2.2.2.2.1, p.2.2.2.2.2.2.2.1⟩) (fun _ => rfl) (fun _ _ => trivial)
theorem ntcRd : Reads Tryz.prog 166 (Ntc.cs false) (fun _ => True) 20 :=
  Reads.map (Reads.struct (fs := _) rfl (by kernel_rfl) (.cons (.int rfl) rfl (by kernel_rfl) (.cons (.int rfl) rfl (by kernel_rfl) (.cons (.int rfl) rfl (by kernel_rfl) (.cons (.int rfl) rfl (by kernel_rfl) (.cons (α := Aid) (k1 := 16) (R1 := (Aid.cs false)) (ok1 := fun _ => True) aidRd rfl (by kernel_rfl) .nil)))))) (R' := (Ntc.cs false)) (ok' := fun _ => True) (fun p => ⟨p.1, p.2.1, p.2.2.1, p.2.2.2.1, Aid.number (p.2.2.2.2.1), Aid.name (p.2.2.2.2.1), Aid.atX (p.2.2.2.2.1), Aid.atY (p.2.2.2.2.1), Aid.height (p.2.2.2.2.1), Aid.mKind (p.2.2.2.2.1), Aid.mColors (p.2.2.2.2.1), Aid.mShape (p.2.2.2.2.1), Aid.mTop (p.2.2.2.2.1), Aid.lKind (p.2.2.2.2.1), Aid.lGroup (p.2.2.2.2.1), Aid.lLetter (p.2.2.2.2.1), Aid.lColors (p.2.2.2.2.1), Aid.lPeriod (p.2.2.2.2.1), Aid.sectors (p.2.2.2.2.1), Aid.intensity (p.2.2.2.2.1)⟩) (fun _ => rfl) (fun _ _ => trivial)
theorem fwyRd : Reads Tryz.prog 172 (Fwy.cs false) (fun _ => True) 5 :=
  Reads.map (Reads.struct (fs := _) rfl (by kernel_rfl) (.cons (α := Chn) (k1 := 3) (R1 := (Chn.cs false)) (ok1 := fun _ => True) chnRd rfl (by kernel_rfl) (.cons (.int rfl) rfl (by kernel_rfl) (.cons (.int rfl) rfl (by kernel_rfl) .nil)))) (R' := (Fwy.cs false)) (ok' := fun _ => True) (fun p => ⟨Chn.name (p.1), Chn.line (p.1), Chn.width (p.1), p.2.1, p.2.2.1⟩) (fun _ => rfl) (fun _ _ => trivial)
theorem autRd : Reads Tryz.prog 34 (Aut.cs false) (fun _ => True) 18 :=
  Reads.map (Reads.struct (fs := _) rfl (by kernel_rfl) (.cons (Reads.slice (e := 163) rfl (by kernel_rfl) (by decide) aidRd) rfl (by kernel_rfl) (.cons (Reads.slice (e := 166) rfl (by kernel_rfl) (by decide) ntcRd) rfl (by kernel_rfl) (.cons (.int rfl) rfl (by kernel_rfl) (.cons (Reads.slice (e := 172) rfl (by kernel_rfl) (by decide) fwyRd) rfl (by kernel_rfl) (.cons (Reads.slice (e := 175) rfl (by kernel_rfl) (by decide) dgrRd) rfl (by kernel_rfl) (.cons (.int rfl) rfl (by kernel_rfl) (.cons (Reads.slice (e := 216) rfl (by kernel_rfl) (by decide) obvRd) rfl (by kernel_rfl) (.cons (.int rfl) rfl (by kernel_rfl) (.cons (α := List Int) (k1 := 1) (R1 := llR false) (ok1 := fun l => (∀ a ∈ l, (Lit.int .i64 a).wf = true) ∧ l.length ≤ maxLen) intSRd rfl (by kernel_rfl) (.cons (α := Shp) (k1 := 4) (R1 := Shp.cs) (ok1 := fun _ => True) shpRd rfl (by kernel_rfl) (.cons (α := Pnt) (k1 := 2) (R1 := Pnt.cs) (ok1 := fun _ => True) pntRd2 rfl (by kernel_rfl) (.cons (Reads.slice (e := 178) rfl (by kernel_rfl) (by decide) wrkRd) rfl (by kernel_rfl) (.cons (α := List Int) (k1 := 1) (R1 := llR false) (ok1 := fun l => (∀ a ∈ l, (Lit.int .i64 a).wf = true) ∧ l.length ≤ maxLen) intSRd rfl (by kernel_rfl) (.cons (.int rfl) rfl (by kernel_rfl) .nil))))))))))))))) (R' := (Aut.cs false)) (ok' := fun _ => True) (fun p => ⟨p.1, p.2.1, p.2.2.1, p.2.2.2.1, p.2.2.2.2.1, p.2.2.2.2.2.1, p.2.2.2.2.2.2.1, p.2.2.2.2.2.2.2.1, p.2.2.2.2.2.2.2.2.1, Shp.name (p.2.2.2.2.2.2.2.2.2.1), Shp.speed (p.2.2.2.2.2.2.2.2.2.1), Shp.load (p.2.2.2.2.2.2.2.2.2.1), Shp.draught (p.2.2.2.2.2.2.2.2.2.1), Pnt.x (p.2.2.2.2.2.2.2.2.2.2.1), Pnt.y (p.2.2.2.2.2.2.2.2.2.2.1), p.2.2.2.2.2.2.2.2.2.2.2.1, p.2.2.2.2.2.2.2.2.2.2.2.2.1, p.2.2.2.2.2.2.2.2.2.2.2.2.2.1⟩) (fun _ => rfl) (fun _ _ => trivial)
end Go.Proofs.YtffkcjcaeppboacGreatDoor
/- How the laws' arguments read: lists of aids, of observers. -/
namespace Go.Proofs.YtffkcjcaeppboacGreatDoor
open Go.ChangeShapes Go.WideShapes Go.ChangeAt Go.RowKit
set_option maxRecDepth 100000
set_option maxHeartbeats 2000000
set_option linter.unusedVariables false
set_option linter.unusedSimpArgs false
end Go.Proofs.YtffkcjcaeppboacGreatDoor
