/-
  DERIVED. GIVEN WITH THE SEED: THE CARDS: each row of YtnlhnideeaobpaaGreatDoorRows.lean that lists a variable, with what it lists TIED to the program's text (the seventh form; the later family's looks); each row that meets fmt, with fmt's text TOLD by the authors' own Lean function (tested against real Go, not proved from fmt's source: count such statements apart). THE CARD IS WHAT COUNTS. Prove the row's statement (the work); the ties are given (YtnlhnideeaobpaaGreatDoorTie.lean); close each card by the builder's one call (the guide's Derived/Test/ToyasCard.lean, 'card_holds'). Laid BY PROGRAM, IN A SANDBOX (cutbox-door.mjs). By AI agents, Wed Nov 11 2026. No macro, syntax, notation, axiom, sorry.
-/
import Derived.Test.YtnlhnideeaobpaaGreatDoorRows
import GoSem.ClaimSeven
namespace Go.Proofs.YtnlhnideeaobpaaGreatDoor
namespace Rows

/-- THE TIED CARD OF 'laws.FnExactLightFindings'. -/
def fnExactLightFindingsCard : Claim7 := { stood := { row := fnExactLightFindingsRow, standIns := [], harness := (true, "31e05f303a3a920953632e5763847006fe7431c14876d9506372c91d990b01ff"), looks := false }, kinds := [], alts := [], laidByText := true, laidKinds := [.data, .data, .data, .listed, .data], laidTests := true, laidLooks := .later }
def FnExactLightFindingsCardSaid : Prop := Claim7.holds Tryz.pinned (.plain (OpenSpec.ofChange fnExactLightFindingsSpec)) fnExactLightFindingsCard

/-- THE SECOND FORM's CARD OF 'laws.FnExactLightFindings'. -/
def fnExactLightFindingsUptoCard : Claim7 := { stood := { row := fnExactLightFindingsUptoRow, standIns := [], harness := (true, "31e05f303a3a920953632e5763847006fe7431c14876d9506372c91d990b01ff"), looks := false }, kinds := [], alts := [], laidByText := true, laidKinds := [.data, .data, .data, .listed, .data], laidTests := true, laidLooks := .later }
def FnExactLightFindingsUptoCardSaid : Prop := Claim7.holds Tryz.pinned (.plain (OpenSpec.upto fnExactLightFindingsSpec)) fnExactLightFindingsUptoCard
end Rows
end Go.Proofs.YtnlhnideeaobpaaGreatDoor
