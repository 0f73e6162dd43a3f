/-
  DERIVED. GIVEN WITH THE SEED: THE CARDS: each row of YtffkcjcaeppboabGreatDoorRows.lean that lists a variable, with what it lists TIED to the program's text (the seventh form; the later family's looks); each row that meets fmt, with fmt's text TOLD by the authors' own Lean function (tested against real Go, not proved from fmt's source: count such statements apart). THE CARD IS WHAT COUNTS. Prove the row's statement (the work); the ties are given (YtffkcjcaeppboabGreatDoorTie.lean); close each card by the builder's one call (the guide's Derived/Test/ToyasCard.lean, 'card_holds'). Laid BY PROGRAM, IN A SANDBOX (cutbox-door.mjs). By AI agents, Wed Nov 11 2026. No macro, syntax, notation, axiom, sorry.
-/
import Derived.Test.YtffkcjcaeppboabGreatDoorRows
import GoSem.ClaimSeven
namespace Go.Proofs.YtffkcjcaeppboabGreatDoor
namespace Rows

/-- THE TIED CARD OF 'laws.FnExactValidAuthority'. -/
def fnExactValidAuthorityCard : Claim7 := { stood := { row := fnExactValidAuthorityRow, standIns := [], harness := (true, "b55c319f644b5ffdb19f5f395c38994a29585f7afebad5bb97c9b48439af7d09"), looks := false }, kinds := [], alts := [], laidByText := true, laidKinds := [.listed, .data], laidTests := true, laidLooks := .later }
def FnExactValidAuthorityCardSaid : Prop := Claim7.holds Tryz.pinned (.plain (OpenSpec.ofChange fnExactValidAuthoritySpec)) fnExactValidAuthorityCard

/-- THE SECOND FORM's CARD OF 'laws.FnExactValidAuthority'. -/
def fnExactValidAuthorityUptoCard : Claim7 := { stood := { row := fnExactValidAuthorityUptoRow, standIns := [], harness := (true, "b55c319f644b5ffdb19f5f395c38994a29585f7afebad5bb97c9b48439af7d09"), looks := false }, kinds := [], alts := [], laidByText := true, laidKinds := [.listed, .data], laidTests := true, laidLooks := .later }
def FnExactValidAuthorityUptoCardSaid : Prop := Claim7.holds Tryz.pinned (.plain (OpenSpec.upto fnExactValidAuthoritySpec)) fnExactValidAuthorityUptoCard
end Rows
end Go.Proofs.YtffkcjcaeppboabGreatDoor
