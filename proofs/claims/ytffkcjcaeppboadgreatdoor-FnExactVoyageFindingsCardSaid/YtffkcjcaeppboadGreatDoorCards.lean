/-
  DERIVED. GIVEN WITH THE SEED: THE CARDS: each row of YtffkcjcaeppboadGreatDoorRows.lean that lists a variable, with what it lists TIED to the program's text (the seventh form; the later family's looks); each row that meets fmt, with fmt's text TOLD by the authors' own Lean function (tested against real Go, not proved from fmt's source: count such statements apart). THE CARD IS WHAT COUNTS. Prove the row's statement (the work); the ties are given (YtffkcjcaeppboadGreatDoorTie.lean); close each card by the builder's one call (the guide's Derived/Test/ToyasCard.lean, 'card_holds'). Laid BY PROGRAM, IN A SANDBOX (cutbox-door.mjs). By AI agents, Wed Nov 11 2026. No macro, syntax, notation, axiom, sorry.
-/
import Derived.Test.YtffkcjcaeppboadGreatDoorRows
import GoSem.ClaimSeven
namespace Go.Proofs.YtffkcjcaeppboadGreatDoor
namespace Rows

/-- THE TIED CARD OF 'laws.FnExactVoyageFindings'. -/
def fnExactVoyageFindingsCard : Claim7 := { stood := { row := fnExactVoyageFindingsRow, standIns := [], harness := (true, "715bb5648b5e2f66667dd1015171abfd8d5fe0783e405941268893cd4f09841d"), looks := false }, kinds := [], alts := [], laidByText := true, laidKinds := [.listed, .data], laidTests := true, laidLooks := .later }
def FnExactVoyageFindingsCardSaid : Prop := Claim7.holds Tryz.pinned (.plain (OpenSpec.ofChange fnExactVoyageFindingsSpec)) fnExactVoyageFindingsCard

/-- THE SECOND FORM's CARD OF 'laws.FnExactVoyageFindings'. -/
def fnExactVoyageFindingsUptoCard : Claim7 := { stood := { row := fnExactVoyageFindingsUptoRow, standIns := [], harness := (true, "715bb5648b5e2f66667dd1015171abfd8d5fe0783e405941268893cd4f09841d"), looks := false }, kinds := [], alts := [], laidByText := true, laidKinds := [.listed, .data], laidTests := true, laidLooks := .later }
def FnExactVoyageFindingsUptoCardSaid : Prop := Claim7.holds Tryz.pinned (.plain (OpenSpec.upto fnExactVoyageFindingsSpec)) fnExactVoyageFindingsUptoCard
end Rows
end Go.Proofs.YtffkcjcaeppboadGreatDoor
