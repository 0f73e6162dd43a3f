/- The closed facts of a row, in parts: those of the program, once; those of the row; What the texts of door rows import; How the laws' arguments read: integers. -/
import Derived.Test.YtnlhnideeaobpaaGreatDoorAxU
import Derived.Test.YtnlhnideeaobpaaGreatDoorAxGl
import Derived.Test.YtnlhnideeaobpaaGreatDoorTie
import Derived.Test.YtnlhnideeaobpaaGreatDoorCards
import Derived.ProofKit
import Derived.Lay
import Derived.MakeChecks
import Derived.LaidMore
import Derived.OpenShut
import Derived.Stop.Joined
import Derived.SevenTiedAt
import Derived.Test.YtnlhnideeaobpaaGreatDoorFA
import Derived.Test.YtnlhnideeaobpaaGreatDoorFB
namespace Go.Proofs.YtnlhnideeaobpaaGreatDoor
open Go.ChangeShapes Go.WideShapes Go.ChangeAt Go.RowKit
set_option maxRecDepth 100000
set_option maxHeartbeats 2000000
set_option linter.unusedVariables false
set_option linter.unusedSimpArgs false
theorem XO {P:Program} {f:FuncId} {fn:Func} {s:ChangeSpec} {c:OpenClaim} (k2:laidOutB P=true) (k3:mapsRowed P=true) (k79:((P.stops == []) && (P.stopKnobs == []) && P.stopsHeard && P.mayEnter)=true)
  (g1:(c.wf (OpenSpec.ofChange s) && fn.params.all (P.readableRec ·) && namedTie P c.named s.vars && (c.stops == []) && (c.knobs == []))=true)
  (k10:(c.inPlace == P.inPlace f)=true) (k11:(c.unfollowed == P.unfollowed f)=true) (k12:(c.recurses == P.recurses f)=true) (k13:(c.named == P.varsNamed f)=true)
  (g2:((c.maps == (fn.params.toList++s.plain.varTypes P).any (P.mapsRec ·)) && (c.ifaces == (fn.params.toList++s.plain.varTypes P).any (P.ifacesRec ·)) && (c.mapsOut == P.mapsAmong fn.resultTypes.toList) &&
   (c.loops == (fn.params.toList++s.plain.varTypes P).any (P.loopsFrom ·)) && (c.wideKeys == (fn.params.toList++s.plain.varTypes P++fn.resultTypes.toList).any (P.wideKeysFrom ·)) &&
   s.vars.all (P.varReadable ·) && fn.resultTypes.all (λt=>P.readableRec t && decide (t<P.types.size)) && (c.ifacesOut == fn.resultTypes.toList.any (P.ifacesRec ·)) && (c.loopsOut == fn.resultTypes.toList.any (P.loopsFrom ·)) && (c.plainKeys == P.plainKeys) && c.shortTexts.isNone)=true)
  (g3:((c.lifted == P.liftsFinal) && (P.make == some c.make) && (c.kinds == (if c.domain.isEmpty then [] else fn.params.toList.map λt=>match P.underlying t with|some (.int k)=>some k|_=>none)) && (c.pinned == c.pinnedBy) &&
   (c.veiled == (fn.params.toList++s.plain.varTypes P++fn.resultTypes.toList).any (P.veiledRec ·)) && c.veiledFits P fn.params.toList (fn.params.toList++s.plain.varTypes P++fn.resultTypes.toList))=true):joinedFacts P f fn s c=true:=by
 unfold joinedFacts;simp only [gg] at k79 g1 g2 g3 ⊢;obtain ⟨⟨⟨k7,k9⟩,k25⟩,k26⟩:=k79;obtain ⟨⟨⟨⟨a1,a4⟩,a5⟩,a6⟩,a8⟩:=g1;obtain ⟨⟨⟨⟨⟨⟨⟨⟨⟨⟨b14,b15⟩,b16⟩,b17⟩,b18⟩,b19⟩,b20⟩,b21⟩,b22⟩,b23⟩,b24⟩:=g2;obtain ⟨⟨⟨⟨⟨c27,c28⟩,c29⟩,c30⟩,c31⟩,c32⟩:=g3;exact ⟨⟨⟨⟨⟨⟨⟨⟨⟨⟨⟨⟨⟨⟨⟨⟨⟨⟨⟨⟨⟨⟨⟨⟨⟨⟨⟨⟨⟨⟨⟨a1,k2⟩,k3⟩,a4⟩,a5⟩,a6⟩,k7⟩,a8⟩,k9⟩,k10⟩,k11⟩,k12⟩,k13⟩,b14⟩,b15⟩,b16⟩,b17⟩,b18⟩,b19⟩,b20⟩,b21⟩,b22⟩,b23⟩,b24⟩,k25⟩,k26⟩,c27⟩,c28⟩,c29⟩,c30⟩,c31⟩,c32⟩
theorem aeA:mapsRowed Tryz.prog=true:=by kernel_rfl
theorem abz:((Tryz.prog.stops == []) && (Tryz.prog.stopKnobs == []) && Tryz.prog.stopsHeard && Tryz.prog.mayEnter)=true:=by kernel_rfl
open Go
theorem kD {α:Type} {l:List α} {p:α->Bool} (a c b:Nat) (hb:b=c+a) (h1:((l.drop a).take c).all p=true) (h2:(l.drop b).all p=true):(l.drop a).all p=true:=by
 rw [←eJ c (l.drop a),mh,h1,my,Nat.add_comm a c,←hb,h2];rfl
theorem aif:(((Tryz.prog.funcs.toList.drop 0).take 60).all λf=> !f.goes)=true:=by kernel_rfl
theorem aie:(((Tryz.prog.funcs.toList.drop 60).take 60).all λf=> !f.goes)=true:=by kernel_rfl
theorem aic:(((Tryz.prog.funcs.toList.drop 120).take 60).all λf=> !f.goes)=true:=by kernel_rfl
theorem aib:(((Tryz.prog.funcs.toList.drop 180).take 60).all λf=> !f.goes)=true:=by kernel_rfl
theorem aia:(((Tryz.prog.funcs.toList.drop 240).take 60).all λf=> !f.goes)=true:=by kernel_rfl
theorem ah9:(((Tryz.prog.funcs.toList.drop 300).take 60).all λf=> !f.goes)=true:=by kernel_rfl
theorem ah8:(((Tryz.prog.funcs.toList.drop 360).take 60).all λf=> !f.goes)=true:=by kernel_rfl
theorem ah7:(((Tryz.prog.funcs.toList.drop 420).take 60).all λf=> !f.goes)=true:=by kernel_rfl
theorem ah6:(((Tryz.prog.funcs.toList.drop 480).take 60).all λf=> !f.goes)=true:=by kernel_rfl
theorem ah5:(((Tryz.prog.funcs.toList.drop 540).take 60).all λf=> !f.goes)=true:=by kernel_rfl
theorem agD:(((Tryz.prog.funcs.toList.drop 600).take 60).all λf=> !f.goes)=true:=by kernel_rfl
theorem agC:(((Tryz.prog.funcs.toList.drop 660).take 60).all λf=> !f.goes)=true:=by kernel_rfl
theorem aa5:((Tryz.prog.funcs.toList.drop 720).all λf=> !f.goes)=true:=by kernel_rfl
theorem X5:(Tryz.prog.funcs.toList.all λf=> !f.goes)=true:=
 kD 0 60 60 rfl aif (kD 60 60 120 rfl aie (kD 120 60 180 rfl aic (kD 180 60 240 rfl aib (kD 240 60 300 rfl aia (kD 300 60 360 rfl ah9 (kD 360 60 420 rfl ah8 (kD 420 60 480 rfl ah7 (kD 480 60 540 rfl ah6 (kD 540 60 600 rfl ah5 (kD 600 60 660 rfl agD (kD 660 60 720 rfl agC aa5)))))))))))
theorem SK {P:Program} (h:(P.funcs.toList.all λf=> !f.goes)=true) {c:OpenClaim} (hs:c.start= .entering):false=c.goesBy P:=by
 have hall:∀g:FuncId,(P.funcs[g]?).any Func.goes=false:=λg=>by
  cases hg:P.funcs[g]? with
  |none=>rfl
  | some fn=>
    have:=lO.1 h fn (ae (i:=g) (by rw [bd];exact hg));simpa using this
 have hany:P.funcs.any Func.goes=false:=by
  rw [←Array.any_toList];exact List.any_eq_false.2 λfn hf=>by simpa using List.all_eq_true.1 h fn hf
 have hf:∀f:FuncId,P.goes f=false:=λf=>by
  unfold Program.goes;rw [hany,Bool.and_false,Bool.or_false];exact List.any_eq_false.2 λg _=>by rw [hall g];exact lf
 unfold OpenClaim.goesBy Program.goesAt Program.goesFrom;rw [hs]
 cases P.funcNamed c.func with
 |none=>rfl
 |some f=>simp [hf]
theorem ahB:Reads Tryz.prog 2 aN (λn=>(Lit.int .i64 n).wf=true) 1:=Reads.int rfl
theorem Sl:Reads Tryz.prog 27 (llR false) (λl=>(∀a∈l,(Lit.int .i64 a).wf=true)/\l.length<=maxLen) 1:=Reads.slice (e:=2) rfl (by kernel_rfl) (by decide) ahB
theorem Av:Reads Tryz.prog 31 Pnt.cs (λ_=>True) 2:=
 Reads.map (Reads.struct (fs:=_) rfl (by kernel_rfl) (.cons (.int rfl) rfl (by kernel_rfl) (.cons (.int rfl) rfl (by kernel_rfl) .nil))) (R':=Pnt.cs) (ok':=λ_=>True) (λp=>⟨p.1,p.2.1⟩) (λ_=>rfl) (λ_ _=>trivial)
theorem ahq:Reads Tryz.prog 110 Mrk.cs (λ_=>True) 4:=
 Reads.map (Reads.struct (fs:=_) rfl (by kernel_rfl) (.cons (.int rfl) rfl (by kernel_rfl) (.cons (.str rfl) rfl (by kernel_rfl) (.cons (.str rfl) rfl (by kernel_rfl) (.cons (.str rfl) rfl (by kernel_rfl) .nil))))) (R':=Mrk.cs) (ok':=λ_=>True) (λp=>⟨p.1,p.2.1,p.2.2.1,p.2.2.2.1⟩) (λ_=>rfl) (λ_ _=>trivial)
theorem ahg:Reads Tryz.prog 252 Scr.cs (λ_=>True) 3:=
 Reads.map (Reads.struct (fs:=_) rfl (by kernel_rfl) (.cons (.int rfl) rfl (by kernel_rfl) (.cons (.int rfl) rfl (by kernel_rfl) (.cons (.str rfl) rfl (by kernel_rfl) .nil)))) (R':=Scr.cs) (ok':=λ_=>True) (λp=>⟨p.1,p.2.1,p.2.2.1⟩) (λ_=>rfl) (λ_ _=>trivial)
theorem ait:Reads Tryz.prog 126 Dgr.cs (λ_=>True) 4:=
 Reads.map (Reads.struct (fs:=_) rfl (by kernel_rfl) (.cons (.str rfl) rfl (by kernel_rfl) (.cons (α:=Pnt) (k1:=2) (R1:=Pnt.cs) (ok1:=λ_=>True) Av rfl (by kernel_rfl) (.cons (.int rfl) rfl (by kernel_rfl) .nil)))) (R':=Dgr.cs) (ok':=λ_=>True) (λp=>⟨p.1,Pnt.x (p.2.1),Pnt.y (p.2.1),p.2.2.1⟩) (λ_=>rfl) (λ_ _=>trivial)
theorem ahn:Reads Tryz.prog 151 Obv.cs (λ_=>True) 4:=
 Reads.map (Reads.struct (fs:=_) rfl (by kernel_rfl) (.cons (α:=Pnt) (k1:=2) (R1:=Pnt.cs) (ok1:=λ_=>True) Av rfl (by kernel_rfl) (.cons (.int rfl) rfl (by kernel_rfl) (.cons (.int rfl) rfl (by kernel_rfl) .nil)))) (R':=Obv.cs) (ok':=λ_=>True) (λp=>⟨Pnt.x (p.1),Pnt.y (p.1),p.2.1,p.2.2.1⟩) (λ_=>rfl) (λ_ _=>trivial)
theorem ahd:Reads Tryz.prog 29 Shp.cs (λ_=>True) 4:=
 Reads.map (Reads.struct (fs:=_) rfl (by kernel_rfl) (.cons (.str rfl) rfl (by kernel_rfl) (.cons (.int rfl) rfl (by kernel_rfl) (.cons (.int rfl) rfl (by kernel_rfl) (.cons (.int rfl) rfl (by kernel_rfl) .nil))))) (R':=Shp.cs) (ok':=λ_=>True) (λp=>⟨p.1,p.2.1,p.2.2.1,p.2.2.2.1⟩) (λ_=>rfl) (λ_ _=>trivial)
theorem ag2:Reads Tryz.prog 129 Wrk.cs (λ_=>True) 7:=
 Reads.map (Reads.struct (fs:=_) rfl (by kernel_rfl) (.cons (.str rfl) rfl (by kernel_rfl) (.cons (α:=Pnt) (k1:=2) (R1:=Pnt.cs) (ok1:=λ_=>True) Av rfl (by kernel_rfl) (.cons (.int rfl) rfl (by kernel_rfl) (.cons (.int rfl) rfl (by kernel_rfl) (.cons (.int rfl) rfl (by kernel_rfl) (.cons (.int rfl) rfl (by kernel_rfl) .nil))))))) (R':=Wrk.cs) (ok':=λ_=>True) (λp=>⟨p.1,Pnt.x (p.2.1),Pnt.y (p.2.1),p.2.2.1,p.2.2.2.1,p.2.2.2.2.1,p.2.2.2.2.2.1⟩) (λ_=>rfl) (λ_ _=>trivial)
theorem aiw:Reads Tryz.prog 111 (Chr.cs false) (λ_=>True) 5:=
 Reads.map (Reads.struct (fs:=_) rfl (by kernel_rfl) (.cons (.int rfl) rfl (by kernel_rfl) (.cons (α:=List Int) (k1:=1) (R1:=llR false) (ok1:=λl=>(∀a∈l,(Lit.int .i64 a).wf=true)/\l.length<=maxLen) Sl rfl (by kernel_rfl) (.cons (.str rfl) rfl (by kernel_rfl) (.cons (.str rfl) rfl (by kernel_rfl) (.cons (.int rfl) rfl (by kernel_rfl) .nil)))))) (R':=(Chr.cs false)) (ok':=λ_=>True) (λp=>⟨p.1,p.2.1,p.2.2.1,p.2.2.2.1,p.2.2.2.2.1⟩) (λ_=>rfl) (λ_ _=>trivial)
theorem aix:Reads Tryz.prog 121 (Chn.cs false) (λ_=>True) 3:=
 Reads.map (Reads.struct (fs:=_) rfl (by kernel_rfl) (.cons (.str rfl) rfl (by kernel_rfl) (.cons (Reads.slice (e:=31) rfl (by kernel_rfl) (by decide) Av) rfl (by kernel_rfl) (.cons (.int rfl) rfl (by kernel_rfl) .nil)))) (R':=(Chn.cs false)) (ok':=λ_=>True) (λp=>⟨p.1,p.2.1,p.2.2.1⟩) (λ_=>rfl) (λ_ _=>trivial)
theorem afi:Reads Tryz.prog 114 (Aid.cs false) (λ_=>True) 16:=
 Reads.map (Reads.struct (fs:=_) rfl (by kernel_rfl) (.cons (.int rfl) rfl (by kernel_rfl) (.cons (.str rfl) rfl (by kernel_rfl) (.cons (α:=Pnt) (k1:=2) (R1:=Pnt.cs) (ok1:=λ_=>True) Av rfl (by kernel_rfl) (.cons (.int rfl) rfl (by kernel_rfl) (.cons (α:=Mrk) (k1:=4) (R1:=Mrk.cs) (ok1:=λ_=>True) ahq rfl (by kernel_rfl) (.cons (α:=Chr) (k1:=5) (R1:=(Chr.cs false)) (ok1:=λ_=>True) aiw rfl (by kernel_rfl) (.cons (Reads.slice (e:=252) rfl (by kernel_rfl) (by decide) ahg) rfl (by kernel_rfl) (.cons (.int rfl) rfl (by kernel_rfl) .nil))))))))) (R':=(Aid.cs false)) (ok':=λ_=>True) (λp=>⟨p.1,p.2.1,Pnt.x (p.2.2.1),Pnt.y (p.2.2.1),p.2.2.2.1,Mrk.kind (p.2.2.2.2.1),Mrk.colors (p.2.2.2.2.1),Mrk.shape (p.2.2.2.2.1),Mrk.top (p.2.2.2.2.1),Chr.kind (p.2.2.2.2.2.1),Chr.group (p.2.2.2.2.2.1),Chr.letter (p.2.2.2.2.2.1),Chr.colors (p.2.2.2.2.2.1),Chr.period (p.2.2.2.2.2.1),p.2.2.2.2.2.2.1,p.2.2.2.2.2.2.2.1⟩) (λ_=>rfl) (λ_ _=>trivial)
theorem ahp:Reads Tryz.prog 117 (Ntc.cs false) (λ_=>True) 20:=
 Reads.map (Reads.struct (fs:=_) rfl (by kernel_rfl) (.cons (.int rfl) rfl (by kernel_rfl) (.cons (.int rfl) rfl (by kernel_rfl) (.cons (.int rfl) rfl (by kernel_rfl) (.cons (.int rfl) rfl (by kernel_rfl) (.cons (α:=Aid) (k1:=16) (R1:=(Aid.cs false)) (ok1:=λ_=>True) afi rfl (by kernel_rfl) .nil)))))) (R':=(Ntc.cs false)) (ok':=λ_=>True) (λp=>⟨p.1,p.2.1,p.2.2.1,p.2.2.2.1,Aid.number (p.2.2.2.2.1),Aid.name (p.2.2.2.2.1),Aid.atX (p.2.2.2.2.1),Aid.atY (p.2.2.2.2.1),Aid.height (p.2.2.2.2.1),Aid.aP (p.2.2.2.2.1),Aid.aC (p.2.2.2.2.1),Aid.aJ (p.2.2.2.2.1),Aid.bg (p.2.2.2.2.1),Aid.aO (p.2.2.2.2.1),Aid.aM (p.2.2.2.2.1),Aid.aB (p.2.2.2.2.1),Aid.ak (p.2.2.2.2.1),Aid.au (p.2.2.2.2.1),Aid.aD (p.2.2.2.2.1),Aid.aj (p.2.2.2.2.1)⟩) (λ_=>rfl) (λ_ _=>trivial)
theorem aii:Reads Tryz.prog 123 (Fwy.cs false) (λ_=>True) 5:=
 Reads.map (Reads.struct (fs:=_) rfl (by kernel_rfl) (.cons (α:=Chn) (k1:=3) (R1:=(Chn.cs false)) (ok1:=λ_=>True) aix rfl (by kernel_rfl) (.cons (.int rfl) rfl (by kernel_rfl) (.cons (.int rfl) rfl (by kernel_rfl) .nil)))) (R':=(Fwy.cs false)) (ok':=λ_=>True) (λp=>⟨Chn.name (p.1),Chn.line (p.1),Chn.width (p.1),p.2.1,p.2.2.1⟩) (λ_=>rfl) (λ_ _=>trivial)
theorem aiB:Reads Tryz.prog 34 (Aut.cs false) (λ_=>True) 18:=
 Reads.map (Reads.struct (fs:=_) rfl (by kernel_rfl) (.cons (Reads.slice (e:=114) rfl (by kernel_rfl) (by decide) afi) rfl (by kernel_rfl) (.cons (Reads.slice (e:=117) rfl (by kernel_rfl) (by decide) ahp) rfl (by kernel_rfl) (.cons (.int rfl) rfl (by kernel_rfl) (.cons (Reads.slice (e:=123) rfl (by kernel_rfl) (by decide) aii) rfl (by kernel_rfl) (.cons (Reads.slice (e:=126) rfl (by kernel_rfl) (by decide) ait) rfl (by kernel_rfl) (.cons (.int rfl) rfl (by kernel_rfl) (.cons (Reads.slice (e:=151) rfl (by kernel_rfl) (by decide) ahn) rfl (by kernel_rfl) (.cons (.int rfl) rfl (by kernel_rfl) (.cons (α:=List Int) (k1:=1) (R1:=llR false) (ok1:=λl=>(∀a∈l,(Lit.int .i64 a).wf=true)/\l.length<=maxLen) Sl rfl (by kernel_rfl) (.cons (α:=Shp) (k1:=4) (R1:=Shp.cs) (ok1:=λ_=>True) ahd rfl (by kernel_rfl) (.cons (α:=Pnt) (k1:=2) (R1:=Pnt.cs) (ok1:=λ_=>True) Av rfl (by kernel_rfl) (.cons (Reads.slice (e:=129) rfl (by kernel_rfl) (by decide) ag2) rfl (by kernel_rfl) (.cons (α:=List Int) (k1:=1) (R1:=llR false) (ok1:=λl=>(∀a∈l,(Lit.int .i64 a).wf=true)/\l.length<=maxLen) Sl rfl (by kernel_rfl) (.cons (.int rfl) rfl (by kernel_rfl) .nil))))))))))))))) (R':=(Aut.cs false)) (ok':=λ_=>True) (λp=>⟨p.1,p.2.1,p.2.2.1,p.2.2.2.1,p.2.2.2.2.1,p.2.2.2.2.2.1,p.2.2.2.2.2.2.1,p.2.2.2.2.2.2.2.1,p.2.2.2.2.2.2.2.2.1,Shp.name (p.2.2.2.2.2.2.2.2.2.1),Shp.speed (p.2.2.2.2.2.2.2.2.2.1),Shp.load (p.2.2.2.2.2.2.2.2.2.1),Shp.lH (p.2.2.2.2.2.2.2.2.2.1),Pnt.x (p.2.2.2.2.2.2.2.2.2.2.1),Pnt.y (p.2.2.2.2.2.2.2.2.2.2.1),p.2.2.2.2.2.2.2.2.2.2.2.1,p.2.2.2.2.2.2.2.2.2.2.2.2.1,p.2.2.2.2.2.2.2.2.2.2.2.2.2.1⟩) (λ_=>rfl) (λ_ _=>trivial)
theorem ajw:ag1 Tryz.prog 34 (λv:Aut=> .agg (v.cs false)) (λ_=>True):=aiB.agg rfl
end Go.Proofs.YtnlhnideeaobpaaGreatDoor
