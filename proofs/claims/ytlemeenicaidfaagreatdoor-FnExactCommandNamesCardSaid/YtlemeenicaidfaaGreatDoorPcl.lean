/- The closed facts of a row, in parts: those of the program, once; those of the row. -/
import Derived.Test.YtlemeenicaidfaaGreatDoorAxU
namespace Go.Proofs.YtlemeenicaidfaaGreatDoor
open Go.ChangeShapes Go.WideShapes Go.ChangeAt Go.RowKit
set_option maxRecDepth 100000
set_option maxHeartbeats 2000000
set_option linter.unusedVariables false
set_option linter.unusedSimpArgs false
theorem joined_of {P : Program} {f : FuncId} {fn : Func} {s : ChangeSpec} {c : OpenClaim} (k2 : laidOutB P = true) (k3 : mapsRowed P = true) (k79 : ((P.stops == []) && (P.stopKnobs == []) && P.stopsHeard && P.mayEnter) = true)
    (g1 : (c.wf (OpenSpec.ofChange s) && fn.params.all (P.readableRec ·) && namedTie P c.named s.vars && (c.stops == []) && (c.knobs == [])) = true)
    (k10 : (c.inPlace == P.inPlace f) = true) (k11 : (c.unfollowed == P.unfollowed f) = true) (k12 : (c.recurses == P.recurses f) = true) (k13 : (c.named == P.varsNamed f) = true)
    (g2 : ((c.maps == (fn.params.toList ++ s.plain.varTypes P).any (P.mapsRec ·)) && (c.ifaces == (fn.params.toList ++ s.plain.varTypes P).any (P.ifacesRec ·)) && (c.mapsOut == P.mapsAmong fn.resultTypes.toList) &&
      (c.loops == (fn.params.toList ++ s.plain.varTypes P).any (P.loopsFrom ·)) && (c.wideKeys == (fn.params.toList ++ s.plain.varTypes P ++ fn.resultTypes.toList).any (P.wideKeysFrom ·)) &&
      s.vars.all (P.varReadable ·) && fn.resultTypes.all (fun t => P.readableRec t && decide (t < P.types.size)) && (c.ifacesOut == fn.resultTypes.toList.any (P.ifacesRec ·)) && (c.loopsOut == fn.resultTypes.toList.any (P.loopsFrom ·)) && (c.plainKeys == P.plainKeys) && c.shortTexts.isNone) = true)
    (g3 : ((c.lifted == P.liftsFinal) && (P.make == some c.make) && (c.kinds == (if c.domain.isEmpty then [] else fn.params.toList.map fun t => match P.underlying t with | some (.int k) => some k | _ => none)) && (c.pinned == c.pinnedBy) &&
      (c.veiled == (fn.params.toList ++ s.plain.varTypes P ++ fn.resultTypes.toList).any (P.veiledRec ·)) && c.veiledFits P fn.params.toList (fn.params.toList ++ s.plain.varTypes P ++ fn.resultTypes.toList)) = true) : joinedFacts P f fn s c = true := by
  unfold joinedFacts
  simp only [Bool.and_eq_true] at k79 g1 g2 g3 ⊢
  obtain ⟨⟨⟨k7, k9⟩, k25⟩, k26⟩ := k79
  obtain ⟨⟨⟨⟨a1, a4⟩, a5⟩, a6⟩, a8⟩ := g1
  obtain ⟨⟨⟨⟨⟨⟨⟨⟨⟨⟨b14, b15⟩, b16⟩, b17⟩, b18⟩, b19⟩, b20⟩, b21⟩, b22⟩, b23⟩, b24⟩ := g2
  obtain ⟨⟨⟨⟨⟨c27, c28⟩, c29⟩, c30⟩, c31⟩, c32⟩ := g3
  exact ⟨⟨⟨⟨⟨⟨⟨⟨⟨⟨⟨⟨⟨⟨⟨⟨⟨⟨⟨⟨⟨⟨⟨⟨⟨⟨⟨⟨⟨⟨⟨a1, k2⟩, k3⟩, a4⟩, a5⟩, a6⟩, k7⟩, a8⟩, k9⟩, k10⟩, k11⟩, k12⟩, k13⟩, b14⟩, b15⟩, b16⟩, b17⟩, b18⟩, b19⟩, b20⟩, b21⟩, b22⟩, b23⟩, b24⟩, k25⟩, k26⟩, c27⟩, c28⟩, c29⟩, c30⟩, c31⟩, c32⟩
theorem closed3 : mapsRowed Tryz.prog = true := by kernel_rfl
theorem closed79 : ((Tryz.prog.stops == []) && (Tryz.prog.stopKnobs == []) && Tryz.prog.stopsHeard && Tryz.prog.mayEnter) = true := by kernel_rfl
end Go.Proofs.YtlemeenicaidfaaGreatDoor
