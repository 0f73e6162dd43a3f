/- 'laws.FnExactConfusedPairs' returns true whatever the input, and the input reads as it did. Conditions: none. -/
import Derived.Test.YtoafgafkmeghlaaGreatDoorDoor
import Derived.Test.YtoafgafkmeghlaaGreatDoorFP
import Derived.Test.YtoafgafkmeghlaaGreatDoorKrt
namespace Go.Proofs.YtoafgafkmeghlaaGreatDoor
open Go.ChangeShapes Go.WideShapes Go.ChangeAt Go.RowKit Go.WideMaps Go.WideElems
set_option maxRecDepth 100000
set_option maxHeartbeats 2000000
set_option linter.unusedVariables false
set_option linter.unusedSimpArgs false
namespace fnExactConfusedPairs
theorem door_met (os : Os) (args : Array Value) : laidMetH Tryz.prog Rows.fnExactConfusedPairsRow.laid ((World.doorLaid Tryz.prog 400 os).forCall (fun _ _ => 0) ⟨#[], args, []⟩).memory :=
  laidMetH_of_parts3 (fuel := 8) (laidMet_of_run' 8 (by kernel_rfl) (by kernel_rfl)) (by kernel_rfl) (by kernel_rfl)
theorem lifted (os : Os) (started : os.Started) (H : Type) (enc : TypeId × Value → H) :
    ReturnsInHanded {} Tryz.checked os 3 .any (fun w args => (Rows.fnExactConfusedPairsSpec.pre enc Tryz.prog Tryz.f3 [] false w args ∧ laidMetH Tryz.prog Rows.fnExactConfusedPairsRow.laid w) ∧ sizedMet enc Tryz.prog Tryz.f3 (OpenSpec.ofChange Rows.fnExactConfusedPairsSpec) false w args)
      (Rows.fnExactConfusedPairsSpec.post enc Tryz.prog Tryz.f3 false true false false) := by
  refine returnsInHanded_of_change_and (C := Tryz.checked) (X := fun w _ => laidMetH Tryz.prog Rows.fnExactConfusedPairsRow.laid w) (fun _ _ _ hh h => h.of_heap hh) own started (by kernel_rfl) Tryz.func3
    (ChangeSpec.witness_shaped (enc := enc) (C := Tryz.checked) (os := os) (X := fun w _ => laidMetH Tryz.prog Rows.fnExactConfusedPairsRow.laid w) false (World.doorLaid Tryz.prog 400 os) #[.slice none 0 0, .slice none 0 0, .int .i64 0] 8 rfl (World.shaped_of_RefB (by kernel_rfl) (by kernel_rfl)) (by kernel_rfl) (by kernel_rfl) (by kernel_rfl) (door_met os _)) ?_
  intro W base args ds gs before hval hW _ _ hL _
  have hW' := hW
  obtain ⟨p, q, hA, _⟩ := hW
  obtain ⟨v0, v1, v2, d0, d1, d2, p0, p1, p2, rfl, h0, h1, h2⟩ := args3 (t0 := 22) (t1 := 23) (t2 := 2) hA
  obtain ⟨a0, k0, r0⟩ := aidSR H enc W v0 d0 p0 base h0 (hval 0 22 v0 rfl rfl)
  obtain ⟨a1, k1, r1⟩ := obvSR H enc W v1 d1 p1 base h1 (hval 1 23 v1 rfl rfl)
  obtain ⟨a2, k2, r2⟩ := intArg H enc W v2 d2 p2 base h2 (hval 2 2 v2 rfl rfl)
  exact (lawConfusedPairs rfl rfl).law (gok_of hL) (RelL.cons r0 (RelL.cons r1 (RelL.cons r2 RelL.nil))) laid (by kernel_rfl) rfl rfl rfl (fun ds h => by
    match ds, h with
    | [_d0, _d1, _d2], _ => rfl) hW'
set_option maxHeartbeats 4000000
theorem closed : joinedFacts Tryz.prog 3 Tryz.f3 Rows.fnExactConfusedPairsSpec Rows.fnExactConfusedPairsRow = true :=
  joined_of laid closed3 closed79 (by as_aux_lemma => kernel_rfl) (by as_aux_lemma => kernel_rfl) (by as_aux_lemma => kernel_rfl) (by as_aux_lemma => kernel_rfl) (by as_aux_lemma => kernel_rfl) (by as_aux_lemma => kernel_rfl) (by as_aux_lemma => kernel_rfl)
theorem over : Rows.fnExactConfusedPairsRow.holds Tryz.pinned (OpenSpec.ofChange Rows.fnExactConfusedPairsSpec) :=
  OpenClaim.holds_of_wide 3 Tryz.f3 rfl rfl rfl rfl rfl rfl rfl ⟨rfl, rfl, rfl, rfl, rfl⟩ rfl rfl rfl rfl rfl (by kernel_rfl) Tryz.func3 closed
    (of_decide_eq_true (by kernel_rfl)) (by unfold Func.isWrapper; first | (rw [if_pos (by decide +kernel)]; kernel_rfl) | (rw [if_neg (by decide +kernel)]; exact ⟨rfl, rfl⟩))
    (fun os started H enc _ => lifted os started H enc)
theorem proved : Rows.FnExactConfusedPairsCardSaid :=
  Claim7.holds_tied_plain_at .later [] [.listed, .data] true (true, "9cb092f9e690a604384cd98b7d73c596a86bc211636c183fc505561bc8e02e73") false
    over (fun _ h => by cases h) (by as_aux_lemma => kernel_rfl) (fun _ h => by cases h) fnExactConfusedPairs_row_tie rfl ⟨rfl, rfl⟩ (by as_aux_lemma => kernel_rfl) rfl
    (fun f fn hf hfn => by
      obtain rfl : f = 3 := Option.some.inj ((show Tryz.prog.funcNamed "loop.example/g00953/laws.FnExactConfusedPairs" = some 3 by as_aux_lemma => kernel_rfl).symm.trans hf) |>.symm
      obtain rfl : fn = Tryz.f3 := (Option.some.inj (Tryz.func3.symm.trans hfn)).symm
      exact ⟨by as_aux_lemma => kernel_rfl, fun j t ht => by
        have hall : (Tryz.f3.params.toList.all fun u => !Tryz.prog.wantsStandIn u) = true := by as_aux_lemma => kernel_rfl
        have hm : t ∈ Tryz.f3.params.toList := by simpa using Array.mem_of_getElem? ht
        exact (show Tryz.prog.wantsStandIn t = false by simpa using List.all_eq_true.1 hall t hm)⟩)
    (goes_false goes_none rfl)
end fnExactConfusedPairs
end Go.Proofs.YtoafgafkmeghlaaGreatDoor
