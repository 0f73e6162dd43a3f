/- 'laws.FnRosters' returns true whatever the input, and the input reads as it did. Conditions: none. -/
import Derived.Test.YtnfjhadaclcgeaaGreatDoorDoor
import Derived.Test.YtnfjhadaclcgeaaGreatDoorPrb
import Derived.Test.YtnfjhadaclcgeaaGreatDoorRof
namespace Go.Proofs.YtnfjhadaclcgeaaGreatDoor
open Go.ChangeShapes Go.WideShapes Go.ChangeAt Go.RowKit Go.WideMaps Go.WideElems
set_option maxRecDepth 100000
set_option maxHeartbeats 2000000
set_option linter.unusedVariables false
set_option linter.unusedSimpArgs false
namespace fnRosters
theorem door_met (os : Os) (args : Array Value) : laidMetH Tryz.prog Rows.fnRostersRow.laid ((World.laidAll Tryz.prog os Rows.fnRostersRow.laid).forCall (fun _ _ => 0) ⟨#[], args, []⟩).memory := by
  rw [MakeChecks.laidMetH_plain _ _ _ (by kernel_rfl)]
  exact laidMet_laidAll _ (by kernel_rfl) (by kernel_rfl)
theorem lifted (os : Os) (started : os.Started) (H : Type) (enc : TypeId × Value → H) :
    ReturnsInHanded {} Tryz.checked os 3 .any (fun w args => (Rows.fnRostersSpec.pre enc Tryz.prog Tryz.f3 [] false w args ∧ laidMetH Tryz.prog Rows.fnRostersRow.laid w) ∧ sizedMet enc Tryz.prog Tryz.f3 (OpenSpec.ofChange Rows.fnRostersSpec) false w args)
      (Rows.fnRostersSpec.post enc Tryz.prog Tryz.f3 false true false false) := by
  refine handed_shaped (C := Tryz.checked) (X := fun w _ => laidMetH Tryz.prog Rows.fnRostersRow.laid w) (fun _ _ _ hh h => h.of_heap hh) own started (by kernel_rfl) Tryz.func3
    (ChangeSpec.witness_shaped (enc := enc) (C := Tryz.checked) (os := os) (X := fun w _ => laidMetH Tryz.prog Rows.fnRostersRow.laid w) false (World.laidAll Tryz.prog os Rows.fnRostersRow.laid) #[.slice none 0 0, .slice none 0 0] 8 (World.laidAll_os _ _ _) (World.shaped_of_ZipB (by kernel_rfl) (by kernel_rfl)) (by kernel_rfl) (by kernel_rfl) (by kernel_rfl) (door_met os _)) ?_
  intro W base args ds gs before hval hW _ _ hL hsh _
  have hW' := hW
  obtain ⟨p, q, hA, _⟩ := hW
  obtain ⟨v0, v1, d0, d1, p0, p1, rfl, h0, h1⟩ := args2 (t0 := 22) (t1 := 22) hA
  obtain ⟨a0, k0, r0⟩ := bytesR H enc W v0 d0 p0 base h0 (hval 0 22 v0 rfl rfl)
  obtain ⟨a1, k1, r1⟩ := bytesR H enc W v1 d1 p1 base h1 (hval 1 22 v1 rfl rfl)
  exact (lawRosters rfl (Bytes.of k0.1) rfl (Bytes.of k1.1)).law (gok_of hL (Tryz.split.s1_3 W hsh)) (RelL.cons r0 (RelL.cons r1 RelL.nil)) laid (by kernel_rfl) rfl rfl rfl (fun ds h => by
    match ds, h with
    | [_d0, _d1], _ => rfl) hW'
set_option maxHeartbeats 4000000
theorem closed : joinedFacts Tryz.prog 3 Tryz.f3 Rows.fnRostersSpec Rows.fnRostersRow = true :=
  joined_of laid closed3 closed79 (by as_aux_lemma => kernel_rfl) (by as_aux_lemma => kernel_rfl) (by as_aux_lemma => kernel_rfl) (by as_aux_lemma => kernel_rfl) (by as_aux_lemma => kernel_rfl) (by as_aux_lemma => kernel_rfl) (by as_aux_lemma => kernel_rfl)
theorem over : Rows.fnRostersRow.holds Tryz.pinned (OpenSpec.ofChange Rows.fnRostersSpec) :=
  OpenClaim.holds_of_wide 3 Tryz.f3 rfl rfl rfl rfl rfl rfl rfl ⟨rfl, rfl, rfl, rfl, rfl⟩ rfl rfl rfl rfl rfl (by kernel_rfl) Tryz.func3 closed
    (of_decide_eq_true (by kernel_rfl)) (by unfold Func.isWrapper; first | (rw [if_pos (by decide +kernel)]; kernel_rfl) | (rw [if_neg (by decide +kernel)]; exact ⟨rfl, rfl⟩))
    (fun os started H enc _ => lifted os started H enc)
theorem proved : Rows.FnRostersCardSaid :=
  Claim7.holds_tied_plain_at .later [] [.data, .data, .data, .data, .sentinel, .sentinel, .pinned] true (true, "b73dbd983db085880fdaf256da850cd6e37a64cb3e41ff81d9f7b08c62b63e2e") true
    over (fun _ h => by cases h) (by as_aux_lemma => kernel_rfl) (fun _ h => by cases h) fnRosters_row_tie rfl ⟨rfl, rfl⟩ (by as_aux_lemma => kernel_rfl) rfl
    (fun f fn hf hfn => by
      obtain rfl : f = 3 := Option.some.inj ((show Tryz.prog.funcNamed "loop.example/g00953/laws.FnRosters" = some 3 by as_aux_lemma => kernel_rfl).symm.trans hf) |>.symm
      obtain rfl : fn = Tryz.f3 := (Option.some.inj (Tryz.func3.symm.trans hfn)).symm
      exact ⟨by as_aux_lemma => kernel_rfl, fun j t ht => by
        have hall : (Tryz.f3.params.toList.all fun u => !Tryz.prog.wantsStandIn u) = true := by as_aux_lemma => kernel_rfl
        have hm : t ∈ Tryz.f3.params.toList := by simpa using Array.mem_of_getElem? ht
        exact (show Tryz.prog.wantsStandIn t = false by simpa using List.all_eq_true.1 hall t hm)⟩)
    (goes_false goes_none rfl)
end fnRosters
end Go.Proofs.YtnfjhadaclcgeaaGreatDoor
