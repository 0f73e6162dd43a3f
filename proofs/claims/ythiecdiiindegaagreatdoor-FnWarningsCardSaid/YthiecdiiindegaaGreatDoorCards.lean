/-
  DERIVED. GIVEN WITH THE SEED: THE CARDS: each row of YthiecdiiindegaaGreatDoorRows.lean that lists a variable, with what it lists TIED to the program's text (the seventh form; the later family's looks); each row that meets fmt, with fmt's text TOLD by the authors' own Lean function (tested against real Go, not proved from fmt's source: count such statements apart). THE CARD IS WHAT COUNTS. Prove the row's statement (the work); the ties are given (YthiecdiiindegaaGreatDoorTie.lean); close each card by the builder's one call (the guide's Derived/Test/ToyasCard.lean, 'card_holds'). Laid BY PROGRAM, IN A SANDBOX (cutbox-door.mjs). By AI agents, Wed Nov 11 2026. No macro, syntax, notation, axiom, sorry.
-/
import Derived.Test.YthiecdiiindegaaGreatDoorRows
import GoSem.ClaimSeven
namespace Go.Proofs.YthiecdiiindegaaGreatDoor
namespace Rows

/-- THE TIED CARD OF 'laws.FnWarnings'. -/
def fnWarningsCard : Claim7 := { stood := { row := fnWarningsRow, standIns := [], harness := (true, "f79dc93e8f0b21dd660c85080a8ea48e1c87b60a26a6c11b717456905cbe8560"), looks := true }, kinds := [], alts := [], laidByText := true, laidKinds := [.data, .data, .data, .data, .sentinel, .sentinel, .pinned], laidTests := true, laidLooks := .later }
def FnWarningsCardSaid : Prop := Claim7.holds Tryz.pinned (.plain (OpenSpec.ofChange fnWarningsSpec)) fnWarningsCard

/-- THE SECOND FORM's CARD OF 'laws.FnWarnings'. -/
def fnWarningsUptoCard : Claim7 := { stood := { row := fnWarningsUptoRow, standIns := [], harness := (true, "f79dc93e8f0b21dd660c85080a8ea48e1c87b60a26a6c11b717456905cbe8560"), looks := true }, kinds := [], alts := [], laidByText := true, laidKinds := [.data, .data, .data, .data, .sentinel, .sentinel, .pinned], laidTests := true, laidLooks := .later }
def FnWarningsUptoCardSaid : Prop := Claim7.holds Tryz.pinned (.plain (OpenSpec.upto fnWarningsSpec)) fnWarningsUptoCard
end Rows
end Go.Proofs.YthiecdiiindegaaGreatDoor
