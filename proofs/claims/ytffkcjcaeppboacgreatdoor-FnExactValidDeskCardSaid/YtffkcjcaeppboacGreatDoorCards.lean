/-
  DERIVED. GIVEN WITH THE SEED: THE CARDS: each row of YtffkcjcaeppboacGreatDoorRows.lean that lists a variable, with what it lists TIED to the program's text (the seventh form; the later family's looks); each row that meets fmt, with fmt's text TOLD by the authors' own Lean function (tested against real Go, not proved from fmt's source: count such statements apart). THE CARD IS WHAT COUNTS. Prove the row's statement (the work); the ties are given (YtffkcjcaeppboacGreatDoorTie.lean); close each card by the builder's one call (the guide's Derived/Test/ToyasCard.lean, 'card_holds'). Laid BY PROGRAM, IN A SANDBOX (cutbox-door.mjs). By AI agents, Wed Nov 11 2026. No macro, syntax, notation, axiom, sorry.
-/
import Derived.Test.YtffkcjcaeppboacGreatDoorRows
import GoSem.ClaimSeven
namespace Go.Proofs.YtffkcjcaeppboacGreatDoor
namespace Rows

/-- THE TIED CARD OF 'laws.FnExactValidDesk'. -/
def fnExactValidDeskCard : Claim7 := { stood := { row := fnExactValidDeskRow, standIns := [], harness := (true, "27603393c0d422385611a2c288a66a34cd8df7970242c8dfee37c014482ab7ed"), looks := false }, kinds := [], alts := [], laidByText := true, laidKinds := [.listed, .data], laidTests := true, laidLooks := .later }
def FnExactValidDeskCardSaid : Prop := Claim7.holds Tryz.pinned (.plain (OpenSpec.ofChange fnExactValidDeskSpec)) fnExactValidDeskCard

/-- THE SECOND FORM's CARD OF 'laws.FnExactValidDesk'. -/
def fnExactValidDeskUptoCard : Claim7 := { stood := { row := fnExactValidDeskUptoRow, standIns := [], harness := (true, "27603393c0d422385611a2c288a66a34cd8df7970242c8dfee37c014482ab7ed"), looks := false }, kinds := [], alts := [], laidByText := true, laidKinds := [.listed, .data], laidTests := true, laidLooks := .later }
def FnExactValidDeskUptoCardSaid : Prop := Claim7.holds Tryz.pinned (.plain (OpenSpec.upto fnExactValidDeskSpec)) fnExactValidDeskUptoCard
end Rows
end Go.Proofs.YtffkcjcaeppboacGreatDoor
