/-
  DERIVED. GIVEN WITH THE SEED: THE CARDS: each row of YtffkcjcaeppboaaDoorRows.lean that lists a variable, with what it lists TIED to the program's text (the seventh form; the later family's looks); each row that meets fmt, with fmt's text TOLD by the authors' own Lean function (tested against real Go, not proved from fmt's source: count such statements apart). THE CARD IS WHAT COUNTS. Prove the row's statement (the work); the ties are given (YtffkcjcaeppboaaDoorTie.lean); close each card by the builder's one call (the guide's Derived/Test/ToyasCard.lean, 'card_holds'). Laid BY PROGRAM, IN A SANDBOX (cutbox-door.mjs). By AI agents, Wed Nov 11 2026. No macro, syntax, notation, axiom, sorry.
-/
import Derived.Test.YtffkcjcaeppboaaDoorRows
import GoSem.ClaimSeven
namespace Go.Proofs.YtffkcjcaeppboaaDoor
namespace Rows

/-- THE TIED CARD OF 'laws.FnExactReadVisit'. -/
def fnExactReadVisitCard : Claim7 := { stood := { row := fnExactReadVisitRow, standIns := [], harness := (true, "c32b1b8ee6e55224c4810a86afe82aa95268e353c22d10d80864544aaa8a4a18"), looks := true }, kinds := [], alts := [], laidByText := true, laidKinds := [.data, .data, .data, .data, .sentinel, .sentinel, .pinned], laidTests := true, laidLooks := .later }
def FnExactReadVisitCardSaid : Prop := Claim7.holds Tryd.pinned (.plain (OpenSpec.ofChange fnExactReadVisitSpec)) fnExactReadVisitCard

/-- THE SECOND FORM's CARD OF 'laws.FnExactReadVisit'. -/
def fnExactReadVisitUptoCard : Claim7 := { stood := { row := fnExactReadVisitUptoRow, standIns := [], harness := (true, "c32b1b8ee6e55224c4810a86afe82aa95268e353c22d10d80864544aaa8a4a18"), looks := true }, kinds := [], alts := [], laidByText := true, laidKinds := [.data, .data, .data, .data, .sentinel, .sentinel, .pinned], laidTests := true, laidLooks := .later }
def FnExactReadVisitUptoCardSaid : Prop := Claim7.holds Tryd.pinned (.plain (OpenSpec.upto fnExactReadVisitSpec)) fnExactReadVisitUptoCard
end Rows
end Go.Proofs.YtffkcjcaeppboaaDoor
