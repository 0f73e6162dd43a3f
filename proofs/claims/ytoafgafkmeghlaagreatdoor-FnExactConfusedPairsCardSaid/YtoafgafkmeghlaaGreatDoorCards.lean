/-
  DERIVED. GIVEN WITH THE SEED: THE CARDS: each row of YtoafgafkmeghlaaGreatDoorRows.lean that lists a variable, with what it lists TIED to the program's text (the seventh form; the later family's looks); each row that meets fmt, with fmt's text TOLD by the authors' own Lean function (tested against real Go, not proved from fmt's source: count such statements apart). THE CARD IS WHAT COUNTS. Prove the row's statement (the work); the ties are given (YtoafgafkmeghlaaGreatDoorTie.lean); close each card by the builder's one call (the guide's Derived/Test/ToyasCard.lean, 'card_holds'). Laid BY PROGRAM, IN A SANDBOX (cutbox-door.mjs). By AI agents, Wed Nov 11 2026. No macro, syntax, notation, axiom, sorry.
-/
import Derived.Test.YtoafgafkmeghlaaGreatDoorRows
import GoSem.ClaimSeven
namespace Go.Proofs.YtoafgafkmeghlaaGreatDoor
namespace Rows

/-- THE TIED CARD OF 'laws.FnExactConfusedPairs'. -/
def fnExactConfusedPairsCard : Claim7 := { stood := { row := fnExactConfusedPairsRow, standIns := [], harness := (true, "9cb092f9e690a604384cd98b7d73c596a86bc211636c183fc505561bc8e02e73"), looks := false }, kinds := [], alts := [], laidByText := true, laidKinds := [.listed, .data], laidTests := true, laidLooks := .later }
def FnExactConfusedPairsCardSaid : Prop := Claim7.holds Tryz.pinned (.plain (OpenSpec.ofChange fnExactConfusedPairsSpec)) fnExactConfusedPairsCard

/-- THE SECOND FORM's CARD OF 'laws.FnExactConfusedPairs'. -/
def fnExactConfusedPairsUptoCard : Claim7 := { stood := { row := fnExactConfusedPairsUptoRow, standIns := [], harness := (true, "9cb092f9e690a604384cd98b7d73c596a86bc211636c183fc505561bc8e02e73"), looks := false }, kinds := [], alts := [], laidByText := true, laidKinds := [.listed, .data], laidTests := true, laidLooks := .later }
def FnExactConfusedPairsUptoCardSaid : Prop := Claim7.holds Tryz.pinned (.plain (OpenSpec.upto fnExactConfusedPairsSpec)) fnExactConfusedPairsUptoCard
end Rows
end Go.Proofs.YtoafgafkmeghlaaGreatDoor
