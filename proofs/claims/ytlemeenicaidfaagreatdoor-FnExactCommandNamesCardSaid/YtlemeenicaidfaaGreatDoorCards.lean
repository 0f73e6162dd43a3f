/-
  DERIVED. GIVEN WITH THE SEED: THE CARDS: each row of YtlemeenicaidfaaGreatDoorRows.lean that lists a variable, with what it lists TIED to the program's text (the seventh form; the later family's looks); each row that meets fmt, with fmt's text TOLD by the authors' own Lean function (tested against real Go, not proved from fmt's source: count such statements apart). THE CARD IS WHAT COUNTS. Prove the row's statement (the work); the ties are given (YtlemeenicaidfaaGreatDoorTie.lean); close each card by the builder's one call (the guide's Derived/Test/ToyasCard.lean, 'card_holds'). Laid BY PROGRAM, IN A SANDBOX (cutbox-door.mjs). By AI agents, Wed Nov 11 2026. No macro, syntax, notation, axiom, sorry.
-/
import Derived.Test.YtlemeenicaidfaaGreatDoorRows
import GoSem.ClaimSeven
namespace Go.Proofs.YtlemeenicaidfaaGreatDoor
namespace Rows

/-- THE TIED CARD OF 'laws.FnExactCommandNames'. -/
def fnExactCommandNamesCard : Claim7 := { stood := { row := fnExactCommandNamesRow, standIns := [], harness := (true, "de5b95e6868b357b6ec3aed2ba9d7a1d8924807754505596d9b042ec1fa98bec"), looks := true }, kinds := [], alts := [], laidByText := true, laidKinds := [.data, .listed, .data, .data, .data, .pinned, .data, .sentinel, .sentinel], laidTests := true, laidLooks := .later }
def FnExactCommandNamesCardSaid : Prop := Claim7.holds Tryz.pinned (.plain (OpenSpec.ofChange fnExactCommandNamesSpec)) fnExactCommandNamesCard

/-- THE SECOND FORM's CARD OF 'laws.FnExactCommandNames'. -/
def fnExactCommandNamesUptoCard : Claim7 := { stood := { row := fnExactCommandNamesUptoRow, standIns := [], harness := (true, "de5b95e6868b357b6ec3aed2ba9d7a1d8924807754505596d9b042ec1fa98bec"), looks := true }, kinds := [], alts := [], laidByText := true, laidKinds := [.data, .listed, .data, .data, .data, .pinned, .data, .sentinel, .sentinel], laidTests := true, laidLooks := .later }
def FnExactCommandNamesUptoCardSaid : Prop := Claim7.holds Tryz.pinned (.plain (OpenSpec.upto fnExactCommandNamesSpec)) fnExactCommandNamesUptoCard
end Rows
end Go.Proofs.YtlemeenicaidfaaGreatDoor
