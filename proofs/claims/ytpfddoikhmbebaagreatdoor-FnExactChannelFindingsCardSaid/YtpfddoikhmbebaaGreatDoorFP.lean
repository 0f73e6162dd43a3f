/- How the laws' arguments read: integers. -/
import Derived.Test.YtpfddoikhmbebaaGreatDoorFA
import Derived.Test.YtpfddoikhmbebaaGreatDoorQm
import Derived.Test.YtpfddoikhmbebaaGreatDoorFB
namespace Go.Proofs.YtpfddoikhmbebaaGreatDoor
open Go.ChangeShapes Go.WideShapes Go.ChangeAt Go.RowKit
set_option maxRecDepth 100000
set_option maxHeartbeats 2000000
set_option linter.unusedVariables false
set_option linter.unusedSimpArgs false
end Go.Proofs.YtpfddoikhmbebaaGreatDoor
/- How the laws' arguments read: lists of integers, visits. -/
namespace Go.Proofs.YtpfddoikhmbebaaGreatDoor
open Go.ChangeShapes Go.WideShapes Go.ChangeAt Go.RowKit
set_option maxRecDepth 100000
set_option maxHeartbeats 2000000
set_option linter.unusedVariables false
set_option linter.unusedSimpArgs false
theorem intRd:Reads Tryz.prog 2 intR (λn=>(Lit.int .i64 n).wf=true) 1:=Reads.int rfl
theorem intSRd:Reads Tryz.prog 27 (llR false) (λl=>(∀a∈l,(Lit.int .i64 a).wf=true)/\l.length<=maxLen) 1:=Reads.slice (e:=2) rfl (by kernel_rfl) (by decide) intRd
end Go.Proofs.YtpfddoikhmbebaaGreatDoor
/- How the laws' arguments read: the types of an authority. -/
namespace Go.Proofs.YtpfddoikhmbebaaGreatDoor
open Go.ChangeShapes Go.WideShapes Go.ChangeAt Go.RowKit
set_option maxRecDepth 100000
set_option maxHeartbeats 2000000
set_option linter.unusedVariables false
set_option linter.unusedSimpArgs false
theorem pntRd2:Reads Tryz.prog 31 Pnt.cs (λ_=>True) 2:=
  Reads.map (Reads.struct (fs:=_) rfl (by kernel_rfl) (.cons (.int rfl) rfl (by kernel_rfl) (.cons (.int rfl) rfl (by kernel_rfl) .nil))) (R':=Pnt.cs) (ok':=λ_=>True) (λp=>⟨p.1,p.2.1⟩) (λ_=>rfl) (λ_ _=>trivial)
theorem mrkRd:Reads Tryz.prog 103 Mrk.cs (λ_=>True) 4:=
  Reads.map (Reads.struct (fs:=_) rfl (by kernel_rfl) (.cons (.int rfl) rfl (by kernel_rfl) (.cons (.str rfl) rfl (by kernel_rfl) (.cons (.str rfl) rfl (by kernel_rfl) (.cons (.str rfl) rfl (by kernel_rfl) .nil))))) (R':=Mrk.cs) (ok':=λ_=>True) (λp=>⟨p.1,p.2.1,p.2.2.1,p.2.2.2.1⟩) (λ_=>rfl) (λ_ _=>trivial)
theorem scrRd:Reads Tryz.prog 237 Scr.cs (λ_=>True) 3:=
  Reads.map (Reads.struct (fs:=_) rfl (by kernel_rfl) (.cons (.int rfl) rfl (by kernel_rfl) (.cons (.int rfl) rfl (by kernel_rfl) (.cons (.str rfl) rfl (by kernel_rfl) .nil)))) (R':=Scr.cs) (ok':=λ_=>True) (λp=>⟨p.1,p.2.1,p.2.2.1⟩) (λ_=>rfl) (λ_ _=>trivial)
theorem dgrRd:Reads Tryz.prog 120 Dgr.cs (λ_=>True) 4:=
  Reads.map (Reads.struct (fs:=_) rfl (by kernel_rfl) (.cons (.str rfl) rfl (by kernel_rfl) (.cons (α:=Pnt) (k1:=2) (R1:=Pnt.cs) (ok1:=λ_=>True) pntRd2 rfl (by kernel_rfl) (.cons (.int rfl) rfl (by kernel_rfl) .nil)))) (R':=Dgr.cs) (ok':=λ_=>True) (λp=>⟨p.1,Pnt.x (p.2.1),Pnt.y (p.2.1),p.2.2.1⟩) (λ_=>rfl) (λ_ _=>trivial)
theorem obvRd:Reads Tryz.prog 145 Obv.cs (λ_=>True) 4:=
  Reads.map (Reads.struct (fs:=_) rfl (by kernel_rfl) (.cons (α:=Pnt) (k1:=2) (R1:=Pnt.cs) (ok1:=λ_=>True) pntRd2 rfl (by kernel_rfl) (.cons (.int rfl) rfl (by kernel_rfl) (.cons (.int rfl) rfl (by kernel_rfl) .nil)))) (R':=Obv.cs) (ok':=λ_=>True) (λp=>⟨Pnt.x (p.1),Pnt.y (p.1),p.2.1,p.2.2.1⟩) (λ_=>rfl) (λ_ _=>trivial)
theorem shpRd:Reads Tryz.prog 29 Shp.cs (λ_=>True) 4:=
  Reads.map (Reads.struct (fs:=_) rfl (by kernel_rfl) (.cons (.str rfl) rfl (by kernel_rfl) (.cons (.int rfl) rfl (by kernel_rfl) (.cons (.int rfl) rfl (by kernel_rfl) (.cons (.int rfl) rfl (by kernel_rfl) .nil))))) (R':=Shp.cs) (ok':=λ_=>True) (λp=>⟨p.1,p.2.1,p.2.2.1,p.2.2.2.1⟩) (λ_=>rfl) (λ_ _=>trivial)
theorem wrkRd:Reads Tryz.prog 123 Wrk.cs (λ_=>True) 7:=
  Reads.map (Reads.struct (fs:=_) rfl (by kernel_rfl) (.cons (.str rfl) rfl (by kernel_rfl) (.cons (α:=Pnt) (k1:=2) (R1:=Pnt.cs) (ok1:=λ_=>True) pntRd2 rfl (by kernel_rfl) (.cons (.int rfl) rfl (by kernel_rfl) (.cons (.int rfl) rfl (by kernel_rfl) (.cons (.int rfl) rfl (by kernel_rfl) (.cons (.int rfl) rfl (by kernel_rfl) .nil))))))) (R':=Wrk.cs) (ok':=λ_=>True) (λp=>⟨p.1,Pnt.x (p.2.1),Pnt.y (p.2.1),p.2.2.1,p.2.2.2.1,p.2.2.2.2.1,p.2.2.2.2.2.1⟩) (λ_=>rfl) (λ_ _=>trivial)
theorem chrRd:Reads Tryz.prog 105 (Chr.cs false) (λ_=>True) 5:=
  Reads.map (Reads.struct (fs:=_) rfl (by kernel_rfl) (.cons (.int rfl) rfl (by kernel_rfl) (.cons (α:=List Int) (k1:=1) (R1:=llR false) (ok1:=λl=>(∀a∈l,(Lit.int .i64 a).wf=true)/\l.length<=maxLen) intSRd rfl (by kernel_rfl) (.cons (.str rfl) rfl (by kernel_rfl) (.cons (.str rfl) rfl (by kernel_rfl) (.cons (.int rfl) rfl (by kernel_rfl) .nil)))))) (R':=(Chr.cs false)) (ok':=λ_=>True) (λp=>⟨p.1,p.2.1,p.2.2.1,p.2.2.2.1,p.2.2.2.2.1⟩) (λ_=>rfl) (λ_ _=>trivial)
theorem chnRd:Reads Tryz.prog 115 (Chn.cs false) (λ_=>True) 3:=
  Reads.map (Reads.struct (fs:=_) rfl (by kernel_rfl) (.cons (.str rfl) rfl (by kernel_rfl) (.cons (Reads.slice (e:=31) rfl (by kernel_rfl) (by decide) pntRd2) rfl (by kernel_rfl) (.cons (.int rfl) rfl (by kernel_rfl) .nil)))) (R':=(Chn.cs false)) (ok':=λ_=>True) (λp=>⟨p.1,p.2.1,p.2.2.1⟩) (λ_=>rfl) (λ_ _=>trivial)
theorem aidRd:Reads Tryz.prog 108 (Aid.cs false) (λ_=>True) 16:=
  Reads.map (Reads.struct (fs:=_) rfl (by kernel_rfl) (.cons (.int rfl) rfl (by kernel_rfl) (.cons (.str rfl) rfl (by kernel_rfl) (.cons (α:=Pnt) (k1:=2) (R1:=Pnt.cs) (ok1:=λ_=>True) pntRd2 rfl (by kernel_rfl) (.cons (.int rfl) rfl (by kernel_rfl) (.cons (α:=Mrk) (k1:=4) (R1:=Mrk.cs) (ok1:=λ_=>True) mrkRd rfl (by kernel_rfl) (.cons (α:=Chr) (k1:=5) (R1:=(Chr.cs false)) (ok1:=λ_=>True) chrRd rfl (by kernel_rfl) (.cons (Reads.slice (e:=237) rfl (by kernel_rfl) (by decide) scrRd) rfl (by kernel_rfl) (.cons (.int rfl) rfl (by kernel_rfl) .nil))))))))) (R':=(Aid.cs false)) (ok':=λ_=>True) (λp=>⟨p.1,p.2.1,Pnt.x (p.2.2.1),Pnt.y (p.2.2.1),p.2.2.2.1,Mrk.kind (p.2.2.2.2.1),Mrk.colors (p.2.2.2.2.1),Mrk.shape (p.2.2.2.2.1),Mrk.top (p.2.2.2.2.1),Chr.kind (p.2.2.2.2.2.1),Chr.group (p.2.2.2.2.2.1),Chr.letter (p.2.2.2.2.2.1),Chr.colors (p.2.2.2.2.2.1),Chr.period (p.2.2.2.2.2.1),p.2.2.2.2.2.2.1,p.2.2.2.2.2.2.2.1⟩) (λ_=>rfl) (λ_ _=>trivial)
theorem ntcRd:Reads Tryz.prog 111 (Ntc.cs false) (λ_=>True) 20:=
  Reads.map (Reads.struct (fs:=_) rfl (by kernel_rfl) (.cons (.int rfl) rfl (by kernel_rfl) (.cons (.int rfl) rfl (by kernel_rfl) (.cons (.int rfl) rfl (by kernel_rfl) (.cons (.int rfl) rfl (by kernel_rfl) (.cons (α:=Aid) (k1:=16) (R1:=(Aid.cs false)) (ok1:=λ_=>True) aidRd rfl (by kernel_rfl) .nil)))))) (R':=(Ntc.cs false)) (ok':=λ_=>True) (λp=>⟨p.1,p.2.1,p.2.2.1,p.2.2.2.1,Aid.number (p.2.2.2.2.1),Aid.name (p.2.2.2.2.1),Aid.atX (p.2.2.2.2.1),Aid.atY (p.2.2.2.2.1),Aid.height (p.2.2.2.2.1),Aid.mKind (p.2.2.2.2.1),Aid.mColors (p.2.2.2.2.1),Aid.mShape (p.2.2.2.2.1),Aid.mTop (p.2.2.2.2.1),Aid.lKind (p.2.2.2.2.1),Aid.lGroup (p.2.2.2.2.1),Aid.lLetter (p.2.2.2.2.1),Aid.lColors (p.2.2.2.2.1),Aid.lPeriod (p.2.2.2.2.1),Aid.sectors (p.2.2.2.2.1),Aid.intensity (p.2.2.2.2.1)⟩) (λ_=>rfl) (λ_ _=>trivial)
theorem fwyRd:Reads Tryz.prog 117 (Fwy.cs false) (λ_=>True) 5:=
  Reads.map (Reads.struct (fs:=_) rfl (by kernel_rfl) (.cons (α:=Chn) (k1:=3) (R1:=(Chn.cs false)) (ok1:=λ_=>True) chnRd rfl (by kernel_rfl) (.cons (.int rfl) rfl (by kernel_rfl) (.cons (.int rfl) rfl (by kernel_rfl) .nil)))) (R':=(Fwy.cs false)) (ok':=λ_=>True) (λp=>⟨Chn.name (p.1),Chn.line (p.1),Chn.width (p.1),p.2.1,p.2.2.1⟩) (λ_=>rfl) (λ_ _=>trivial)
theorem autRd:Reads Tryz.prog 34 (Aut.cs false) (λ_=>True) 18:=
  Reads.map (Reads.struct (fs:=_) rfl (by kernel_rfl) (.cons (Reads.slice (e:=108) rfl (by kernel_rfl) (by decide) aidRd) rfl (by kernel_rfl) (.cons (Reads.slice (e:=111) rfl (by kernel_rfl) (by decide) ntcRd) rfl (by kernel_rfl) (.cons (.int rfl) rfl (by kernel_rfl) (.cons (Reads.slice (e:=117) rfl (by kernel_rfl) (by decide) fwyRd) rfl (by kernel_rfl) (.cons (Reads.slice (e:=120) rfl (by kernel_rfl) (by decide) dgrRd) rfl (by kernel_rfl) (.cons (.int rfl) rfl (by kernel_rfl) (.cons (Reads.slice (e:=145) rfl (by kernel_rfl) (by decide) obvRd) rfl (by kernel_rfl) (.cons (.int rfl) rfl (by kernel_rfl) (.cons (α:=List Int) (k1:=1) (R1:=llR false) (ok1:=λl=>(∀a∈l,(Lit.int .i64 a).wf=true)/\l.length<=maxLen) intSRd rfl (by kernel_rfl) (.cons (α:=Shp) (k1:=4) (R1:=Shp.cs) (ok1:=λ_=>True) shpRd rfl (by kernel_rfl) (.cons (α:=Pnt) (k1:=2) (R1:=Pnt.cs) (ok1:=λ_=>True) pntRd2 rfl (by kernel_rfl) (.cons (Reads.slice (e:=123) rfl (by kernel_rfl) (by decide) wrkRd) rfl (by kernel_rfl) (.cons (α:=List Int) (k1:=1) (R1:=llR false) (ok1:=λl=>(∀a∈l,(Lit.int .i64 a).wf=true)/\l.length<=maxLen) intSRd rfl (by kernel_rfl) (.cons (.int rfl) rfl (by kernel_rfl) .nil))))))))))))))) (R':=(Aut.cs false)) (ok':=λ_=>True) (λp=>⟨p.1,p.2.1,p.2.2.1,p.2.2.2.1,p.2.2.2.2.1,p.2.2.2.2.2.1,p.2.2.2.2.2.2.1,p.2.2.2.2.2.2.2.1,p.2.2.2.2.2.2.2.2.1,Shp.name (p.2.2.2.2.2.2.2.2.2.1),Shp.speed (p.2.2.2.2.2.2.2.2.2.1),Shp.load (p.2.2.2.2.2.2.2.2.2.1),Shp.draught (p.2.2.2.2.2.2.2.2.2.1),Pnt.x (p.2.2.2.2.2.2.2.2.2.2.1),Pnt.y (p.2.2.2.2.2.2.2.2.2.2.1),p.2.2.2.2.2.2.2.2.2.2.2.1,p.2.2.2.2.2.2.2.2.2.2.2.2.1,p.2.2.2.2.2.2.2.2.2.2.2.2.2.1⟩) (λ_=>rfl) (λ_ _=>trivial)
theorem autR:ArgR Tryz.prog 34 (λv:Aut=> .agg (v.cs false)) (λ_=>True):=autRd.agg rfl
end Go.Proofs.YtpfddoikhmbebaaGreatDoor
/- How the laws' arguments read: lists of aids, of observers. -/
namespace Go.Proofs.YtpfddoikhmbebaaGreatDoor
open Go.ChangeShapes Go.WideShapes Go.ChangeAt Go.RowKit
set_option maxRecDepth 100000
set_option maxHeartbeats 2000000
set_option linter.unusedVariables false
set_option linter.unusedSimpArgs false
end Go.Proofs.YtpfddoikhmbebaaGreatDoor
