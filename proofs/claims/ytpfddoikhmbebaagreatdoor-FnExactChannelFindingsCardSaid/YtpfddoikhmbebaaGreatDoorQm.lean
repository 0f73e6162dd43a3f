/- The closed facts of a row, in parts: those of the program, once; those of the row; What the texts of door rows import. -/
import Derived.Test.YtpfddoikhmbebaaGreatDoorAxU
import Derived.Test.YtpfddoikhmbebaaGreatDoorAxGl
import Derived.Test.YtpfddoikhmbebaaGreatDoorTie
import Derived.Test.YtpfddoikhmbebaaGreatDoorCards
import Derived.ProofKit
import Derived.Lay
import Derived.MakeChecks
import Derived.LaidMore
import Derived.OpenShut
import Derived.Stop.Joined
import Derived.SevenTiedAt
namespace Go.Proofs.YtpfddoikhmbebaaGreatDoor
open Go.ChangeShapes Go.WideShapes Go.ChangeAt Go.RowKit
set_option maxRecDepth 100000
set_option maxHeartbeats 2000000
set_option linter.unusedVariables false
set_option linter.unusedSimpArgs false
theorem joined_of {P:Program} {f:FuncId} {fn:Func} {s:ChangeSpec} {c:OpenClaim} (k2:laidOutB P=true) (k3:mapsRowed P=true) (k79:((P.stops == []) && (P.stopKnobs == []) && P.stopsHeard && P.mayEnter)=true)
    (g1:(c.wf (OpenSpec.ofChange s) && fn.params.all (P.readableRec ·) && namedTie P c.named s.vars && (c.stops == []) && (c.knobs == []))=true)
    (k10:(c.inPlace == P.inPlace f)=true) (k11:(c.unfollowed == P.unfollowed f)=true) (k12:(c.recurses == P.recurses f)=true) (k13:(c.named == P.varsNamed f)=true)
    (g2:((c.maps == (fn.params.toList++s.plain.varTypes P).any (P.mapsRec ·)) && (c.ifaces == (fn.params.toList++s.plain.varTypes P).any (P.ifacesRec ·)) && (c.mapsOut == P.mapsAmong fn.resultTypes.toList) &&
      (c.loops == (fn.params.toList++s.plain.varTypes P).any (P.loopsFrom ·)) && (c.wideKeys == (fn.params.toList++s.plain.varTypes P++fn.resultTypes.toList).any (P.wideKeysFrom ·)) &&
      s.vars.all (P.varReadable ·) && fn.resultTypes.all (λt=>P.readableRec t && decide (t<P.types.size)) && (c.ifacesOut == fn.resultTypes.toList.any (P.ifacesRec ·)) && (c.loopsOut == fn.resultTypes.toList.any (P.loopsFrom ·)) && (c.plainKeys == P.plainKeys) && c.shortTexts.isNone)=true)
    (g3:((c.lifted == P.liftsFinal) && (P.make == some c.make) && (c.kinds == (if c.domain.isEmpty then [] else fn.params.toList.map λt=>match P.underlying t with|some (.int k)=>some k|_=>none)) && (c.pinned == c.pinnedBy) &&
      (c.veiled == (fn.params.toList++s.plain.varTypes P++fn.resultTypes.toList).any (P.veiledRec ·)) && c.veiledFits P fn.params.toList (fn.params.toList++s.plain.varTypes P++fn.resultTypes.toList))=true):joinedFacts P f fn s c=true:=by
  unfold joinedFacts
  simp only [Bool.and_eq_true] at k79 g1 g2 g3 ⊢
  obtain ⟨⟨⟨k7,k9⟩,k25⟩,k26⟩:=k79
  obtain ⟨⟨⟨⟨a1,a4⟩,a5⟩,a6⟩,a8⟩:=g1
  obtain ⟨⟨⟨⟨⟨⟨⟨⟨⟨⟨b14,b15⟩,b16⟩,b17⟩,b18⟩,b19⟩,b20⟩,b21⟩,b22⟩,b23⟩,b24⟩:=g2
  obtain ⟨⟨⟨⟨⟨c27,c28⟩,c29⟩,c30⟩,c31⟩,c32⟩:=g3
  exact ⟨⟨⟨⟨⟨⟨⟨⟨⟨⟨⟨⟨⟨⟨⟨⟨⟨⟨⟨⟨⟨⟨⟨⟨⟨⟨⟨⟨⟨⟨⟨a1,k2⟩,k3⟩,a4⟩,a5⟩,a6⟩,k7⟩,a8⟩,k9⟩,k10⟩,k11⟩,k12⟩,k13⟩,b14⟩,b15⟩,b16⟩,b17⟩,b18⟩,b19⟩,b20⟩,b21⟩,b22⟩,b23⟩,b24⟩,k25⟩,k26⟩,c27⟩,c28⟩,c29⟩,c30⟩,c31⟩,c32⟩
theorem closed3:mapsRowed Tryz.prog=true:=by kernel_rfl
theorem closed79:((Tryz.prog.stops == []) && (Tryz.prog.stopKnobs == []) && Tryz.prog.stopsHeard && Tryz.prog.mayEnter)=true:=by kernel_rfl
open Go
theorem all_cut {α:Type} {l:List α} {p:α->Bool} (a c b:Nat) (hb:b=c+a) (h1:((l.drop a).take c).all p=true) (h2:(l.drop b).all p=true):(l.drop a).all p=true:=by
  rw [←List.take_append_drop c (l.drop a),List.all_append,h1,List.drop_drop,Nat.add_comm a c,←hb,h2];rfl
theorem goes0:(((Tryz.prog.funcs.toList.drop 0).take 60).all λf=> !f.goes)=true:=by kernel_rfl
theorem goes1:(((Tryz.prog.funcs.toList.drop 60).take 60).all λf=> !f.goes)=true:=by kernel_rfl
theorem goes2:(((Tryz.prog.funcs.toList.drop 120).take 60).all λf=> !f.goes)=true:=by kernel_rfl
theorem goes3:(((Tryz.prog.funcs.toList.drop 180).take 60).all λf=> !f.goes)=true:=by kernel_rfl
theorem goes4:(((Tryz.prog.funcs.toList.drop 240).take 60).all λf=> !f.goes)=true:=by kernel_rfl
theorem goes5:(((Tryz.prog.funcs.toList.drop 300).take 60).all λf=> !f.goes)=true:=by kernel_rfl
theorem goes6:(((Tryz.prog.funcs.toList.drop 360).take 60).all λf=> !f.goes)=true:=by kernel_rfl
theorem goes7:(((Tryz.prog.funcs.toList.drop 420).take 60).all λf=> !f.goes)=true:=by kernel_rfl
theorem goes8:(((Tryz.prog.funcs.toList.drop 480).take 60).all λf=> !f.goes)=true:=by kernel_rfl
theorem goes9:(((Tryz.prog.funcs.toList.drop 540).take 60).all λf=> !f.goes)=true:=by kernel_rfl
theorem goes10:(((Tryz.prog.funcs.toList.drop 600).take 60).all λf=> !f.goes)=true:=by kernel_rfl
theorem goes11:(((Tryz.prog.funcs.toList.drop 660).take 60).all λf=> !f.goes)=true:=by kernel_rfl
theorem goes_end:((Tryz.prog.funcs.toList.drop 720).all λf=> !f.goes)=true:=by kernel_rfl
theorem goes_none:(Tryz.prog.funcs.toList.all λf=> !f.goes)=true:=
  all_cut 0 60 60 rfl goes0 (all_cut 60 60 120 rfl goes1 (all_cut 120 60 180 rfl goes2 (all_cut 180 60 240 rfl goes3 (all_cut 240 60 300 rfl goes4 (all_cut 300 60 360 rfl goes5 (all_cut 360 60 420 rfl goes6 (all_cut 420 60 480 rfl goes7 (all_cut 480 60 540 rfl goes8 (all_cut 540 60 600 rfl goes9 (all_cut 600 60 660 rfl goes10 (all_cut 660 60 720 rfl goes11 goes_end)))))))))))
theorem goes_false {P:Program} (h:(P.funcs.toList.all λf=> !f.goes)=true) {c:OpenClaim} (hs:c.start= .entering):false=c.goesBy P:=by
  have hall:∀g:FuncId,(P.funcs[g]?).any Func.goes=false:=λg=>by
    cases hg:P.funcs[g]? with
    |none=>rfl
    | some fn=>
      have:=List.all_eq_true.1 h fn (List.mem_of_getElem? (i:=g) (by rw [Array.getElem?_toList];exact hg))
      simpa using this
  have hany:P.funcs.any Func.goes=false:=by
    rw [←Array.any_toList]
    exact List.any_eq_false.2 λfn hf=>by simpa using List.all_eq_true.1 h fn hf
  have hf:∀f:FuncId,P.goes f=false:=λf=>by
    unfold Program.goes
    rw [hany,Bool.and_false,Bool.or_false]
    exact List.any_eq_false.2 λg _=>by rw [hall g];exact Bool.false_ne_true
  unfold OpenClaim.goesBy Program.goesAt Program.goesFrom
  rw [hs]
  cases P.funcNamed c.func with
  |none=>rfl
  |some f=>simp [hf]
end Go.Proofs.YtpfddoikhmbebaaGreatDoor
