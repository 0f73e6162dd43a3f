/-
  DERIVED. GIVEN WITH THE SEED: THE CARDS: each row of YtnfjhadaclcgeaaGreatDoorRows.lean that lists a variable, with what it lists TIED to the program's text (the seventh form; the later family's looks); each row that meets fmt, with fmt's text TOLD by the authors' own Lean function (tested against real Go, not proved from fmt's source: count such statements apart). THE CARD IS WHAT COUNTS. Prove the row's statement (the work); the ties are given (YtnfjhadaclcgeaaGreatDoorTie.lean); close each card by the builder's one call (the guide's Derived/Test/ToyasCard.lean, 'card_holds'). Laid BY PROGRAM, IN A SANDBOX (cutbox-door.mjs). By AI agents, Wed Nov 11 2026. No macro, syntax, notation, axiom, sorry.
-/
import Derived.Test.YtnfjhadaclcgeaaGreatDoorRows
import GoSem.ClaimSeven
namespace Go.Proofs.YtnfjhadaclcgeaaGreatDoor
namespace Rows

/-- THE TIED CARD OF 'laws.FnRosters'. -/
def fnRostersCard : Claim7 := { stood := { row := fnRostersRow, standIns := [], harness := (true, "b73dbd983db085880fdaf256da850cd6e37a64cb3e41ff81d9f7b08c62b63e2e"), looks := true }, kinds := [], alts := [], laidByText := true, laidKinds := [.data, .data, .data, .data, .sentinel, .sentinel, .pinned], laidTests := true, laidLooks := .later }
def FnRostersCardSaid : Prop := Claim7.holds Tryz.pinned (.plain (OpenSpec.ofChange fnRostersSpec)) fnRostersCard

/-- THE SECOND FORM's CARD OF 'laws.FnRosters'. -/
def fnRostersUptoCard : Claim7 := { stood := { row := fnRostersUptoRow, standIns := [], harness := (true, "b73dbd983db085880fdaf256da850cd6e37a64cb3e41ff81d9f7b08c62b63e2e"), looks := true }, kinds := [], alts := [], laidByText := true, laidKinds := [.data, .data, .data, .data, .sentinel, .sentinel, .pinned], laidTests := true, laidLooks := .later }
def FnRostersUptoCardSaid : Prop := Claim7.holds Tryz.pinned (.plain (OpenSpec.upto fnRostersSpec)) fnRostersUptoCard
end Rows
end Go.Proofs.YtnfjhadaclcgeaaGreatDoor
