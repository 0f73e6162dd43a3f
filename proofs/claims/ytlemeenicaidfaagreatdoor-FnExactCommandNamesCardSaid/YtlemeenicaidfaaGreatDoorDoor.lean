/- What the texts of door rows import. -/
import Derived.Test.YtlemeenicaidfaaGreatDoorPcl
import Derived.Test.YtlemeenicaidfaaGreatDoorAxGl
import Derived.Test.YtlemeenicaidfaaGreatDoorTic
import Derived.Test.YtlemeenicaidfaaGreatDoorCards
import Derived.ProofKit
import Derived.Lay
import Derived.MakeChecks
import Derived.LaidMore
import Derived.OpenShut
import Derived.Stop.Joined
import Derived.SevenTiedAt
namespace Go.Proofs.YtlemeenicaidfaaGreatDoor
set_option linter.unusedVariables false
set_option linter.unusedSimpArgs false
open Go
theorem all_cut {α : Type} {l : List α} {p : α → Bool} (a c b : Nat) (hb : b = c + a) (h1 : ((l.drop a).take c).all p = true) (h2 : (l.drop b).all p = true) : (l.drop a).all p = true := by
  rw [← List.take_append_drop c (l.drop a), List.all_append, h1, List.drop_drop, Nat.add_comm a c, ← hb, h2]; rfl
theorem goes0 : (((Tryz.prog.funcs.toList.drop 0).take 60).all fun f => !f.goes) = true := by kernel_rfl
theorem goes1 : (((Tryz.prog.funcs.toList.drop 60).take 60).all fun f => !f.goes) = true := by kernel_rfl
theorem goes2 : (((Tryz.prog.funcs.toList.drop 120).take 60).all fun f => !f.goes) = true := by kernel_rfl
theorem goes3 : (((Tryz.prog.funcs.toList.drop 180).take 60).all fun f => !f.goes) = true := by kernel_rfl
theorem goes4 : (((Tryz.prog.funcs.toList.drop 240).take 60).all fun f => !f.goes) = true := by kernel_rfl
theorem goes5 : (((Tryz.prog.funcs.toList.drop 300).take 60).all fun f => !f.goes) = true := by kernel_rfl
theorem goes6 : (((Tryz.prog.funcs.toList.drop 360).take 60).all fun f => !f.goes) = true := by kernel_rfl
theorem goes7 : (((Tryz.prog.funcs.toList.drop 420).take 60).all fun f => !f.goes) = true := by kernel_rfl
theorem goes8 : (((Tryz.prog.funcs.toList.drop 480).take 60).all fun f => !f.goes) = true := by kernel_rfl
theorem goes9 : (((Tryz.prog.funcs.toList.drop 540).take 60).all fun f => !f.goes) = true := by kernel_rfl
theorem goes10 : (((Tryz.prog.funcs.toList.drop 600).take 60).all fun f => !f.goes) = true := by kernel_rfl
theorem goes11 : (((Tryz.prog.funcs.toList.drop 660).take 60).all fun f => !f.goes) = true := by kernel_rfl
theorem goes_end : ((Tryz.prog.funcs.toList.drop 720).all fun f => !f.goes) = true := by kernel_rfl
theorem goes_none : (Tryz.prog.funcs.toList.all fun f => !f.goes) = true :=
  all_cut 0 60 60 rfl goes0 (all_cut 60 60 120 rfl goes1 (all_cut 120 60 180 rfl goes2 (all_cut 180 60 240 rfl goes3 (all_cut 240 60 300 rfl goes4 (all_cut 300 60 360 rfl goes5 (all_cut 360 60 420 rfl goes6 (all_cut 420 60 480 rfl goes7 (all_cut 480 60 540 rfl goes8 (all_cut 540 60 600 rfl goes9 (all_cut 600 60 660 rfl goes10 (all_cut 660 60 720 rfl goes11 goes_end)))))))))))
/-- No body of the whole program starts a goroutine: so none that a call can come to does. -/
theorem goes_false {P : Program} (h : (P.funcs.toList.all fun f => !f.goes) = true) {c : OpenClaim} (hs : c.start = .entering) : false = c.goesBy P := by
  have hall : ∀ g : FuncId, (P.funcs[g]?).any Func.goes = false := fun g => by
    cases hg : P.funcs[g]? with
    | none => rfl
    | some fn =>
      have := List.all_eq_true.1 h fn (List.mem_of_getElem? (i := g) (by rw [Array.getElem?_toList]; exact hg))
      simpa using this
  have hany : P.funcs.any Func.goes = false := by
    rw [← Array.any_toList]
    exact List.any_eq_false.2 fun fn hf => by simpa using List.all_eq_true.1 h fn hf
  have hf : ∀ f : FuncId, P.goes f = false := fun f => by
    unfold Program.goes
    rw [hany, Bool.and_false, Bool.or_false]
    exact List.any_eq_false.2 fun g _ => by rw [hall g]; exact Bool.false_ne_true
  unfold OpenClaim.goesBy Program.goesAt Program.goesFrom
  rw [hs]
  cases P.funcNamed c.func with
  | none => rfl
  | some f => simp [hf]
/-- The frame for rows with laid variables, the world's shape kept. -/
theorem handed_shaped {H : Type} {enc : TypeId × Value → H} {a : Assume} {C : Checked} {os : Os} {f : FuncId} {fn : Func} {s : ChangeSpec} {conds : List PathCond} {apart fresh handsOn again : Bool} {X : World → Array Value → Prop}
    (hX : ∀ (w w' : World) (args : Array Value), w.heap = w'.heap → X w args → X w' args) (own : ownKnob C.prog.godebug = none) (started : os.Started) (noInit : C.prog.inits.idxOf? f = none) (hfn : C.prog.funcs[f]? = some fn)
    (witness : ∃ (w : World) (tape : Tape) (i : Input), w.os = os ∧ (w.forCall tape i).Shaped C.prog ∧ i.vars = [] ∧ Input.okWide C.prog (w.forCall tape i) .any w.heap.size f i ∧
      ((s.pre enc C.prog fn conds apart (w.forCall tape i).memory i.args ∧ X (w.forCall tape i).memory i.args) ∧ sizedMet enc C.prog fn (OpenSpec.ofChange s) apart (w.forCall tape i).memory i.args) ∧ a.holds C.prog (lone (Frame.enter C.prog f i.args .normal) [] (w.forCall tape i)))
    (contract : ∀ (W : World) (base : Nat) (args : Array Value) (ds gs : List (DataW H)) (before : List MemPlace),
      (∀ (j : Nat) t v, fn.params[j]? = some t → args[j]? = some v → Value.okWide C.prog W .any base t v) →
      DataW.Whole enc C.prog fn.params.toList s.vars apart W args.toList ds gs before →
      conds.all (PathCond.test C.prog ⟨fn.params.toList, ds, s.plain.varTypes C.prog, gs⟩) = true →
      (DataW.weightsEach C.prog (fn.params.toList ++ s.plain.varTypes C.prog) (ds ++ gs)).all (· ≤ reachBytes) = true → X W args → W.ShapedOpen C.prog →
      a.holds C.prog (lone (Frame.enter C.prog f args .normal) [] W) →
      Calls C.prog f args W fun e W' => ∃ v, e = .returned v ∧ s.post enc C.prog fn apart fresh handsOn again W args v W') :
    ReturnsInHanded a C os f .any (fun w args => (s.pre enc C.prog fn conds apart w args ∧ X w args) ∧ sizedMet enc C.prog fn (OpenSpec.ofChange s) apart w args) (s.post enc C.prog fn apart fresh handsOn again) := by
  refine returnsInHanded_of_calls own started noInit witness ?_
  intro w tape i _ hsh _ hok hpre hholds
  obtain ⟨_, _, _, fn', hfn', _, _, _, _, hval⟩ := hok
  obtain rfl : fn' = fn := Option.some.inj (hfn'.symm.trans hfn)
  obtain ⟨⟨⟨ds, gs, before, hw, hc⟩, hx⟩, hz⟩ := hpre
  refine (contract (w.forCall tape i) w.heap.size i.args ds gs before hval (DataW.Whole.of_heap (w' := w.forCall tape i) (by rfl) hw) hc (hz.weights hw) (hX _ _ _ (by rfl) hx) hsh hholds).mono fun e W' ⟨v, he, hp⟩ => ?_
  subst he
  exact ChangeSpec.post_blind hp
end Go.Proofs.YtlemeenicaidfaaGreatDoor
