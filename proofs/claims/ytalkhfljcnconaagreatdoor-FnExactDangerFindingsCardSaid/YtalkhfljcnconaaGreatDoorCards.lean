/-
  DERIVED. GIVEN WITH THE SEED: THE CARDS: each row of YtalkhfljcnconaaGreatDoorRows.lean that lists a variable, with what it lists TIED to the program's text (the seventh form; the later family's looks); each row that meets fmt, with fmt's text TOLD by the authors' own Lean function (tested against real Go, not proved from fmt's source: count such statements apart). THE CARD IS WHAT COUNTS. Prove the row's statement (the work); the ties are given (YtalkhfljcnconaaGreatDoorTie.lean); close each card by the builder's one call (the guide's Derived/Test/ToyasCard.lean, 'card_holds'). Laid BY PROGRAM, IN A SANDBOX (cutbox-door.mjs). By AI agents, Wed Nov 11 2026. No macro, syntax, notation, axiom, sorry.
-/
import Derived.Test.YtalkhfljcnconaaGreatDoorRows
import GoSem.ClaimSeven
namespace Go.Proofs.YtalkhfljcnconaaGreatDoor
namespace Rows

/-- THE TIED CARD OF 'laws.FnExactListOf'. -/
def fnExactListOfCard : Claim7 := { stood := { row := fnExactListOfRow, standIns := [], harness := (true, "6efe14764790689ca4077d3e1f67dce958fc2f96587491d6a215c1a8d4394c52"), looks := false }, kinds := [], alts := [], laidByText := true, laidKinds := [.listed, .data], laidTests := true, laidLooks := .later }
def FnExactListOfCardSaid : Prop := Claim7.holds Tryz.pinned (.plain (OpenSpec.ofChange fnExactListOfSpec)) fnExactListOfCard

/-- THE TIED CARD OF 'laws.FnExactDangerFindings'. -/
def fnExactDangerFindingsCard : Claim7 := { stood := { row := fnExactDangerFindingsRow, standIns := [], harness := (true, "6efe14764790689ca4077d3e1f67dce958fc2f96587491d6a215c1a8d4394c52"), looks := false }, kinds := [], alts := [], laidByText := true, laidKinds := [.listed, .data], laidTests := true, laidLooks := .later }
def FnExactDangerFindingsCardSaid : Prop := Claim7.holds Tryz.pinned (.plain (OpenSpec.ofChange fnExactDangerFindingsSpec)) fnExactDangerFindingsCard

/-- THE SECOND FORM's CARD OF 'laws.FnExactListOf'. -/
def fnExactListOfUptoCard : Claim7 := { stood := { row := fnExactListOfUptoRow, standIns := [], harness := (true, "6efe14764790689ca4077d3e1f67dce958fc2f96587491d6a215c1a8d4394c52"), looks := false }, kinds := [], alts := [], laidByText := true, laidKinds := [.listed, .data], laidTests := true, laidLooks := .later }
def FnExactListOfUptoCardSaid : Prop := Claim7.holds Tryz.pinned (.plain (OpenSpec.upto fnExactListOfSpec)) fnExactListOfUptoCard

/-- THE SECOND FORM's CARD OF 'laws.FnExactDangerFindings'. -/
def fnExactDangerFindingsUptoCard : Claim7 := { stood := { row := fnExactDangerFindingsUptoRow, standIns := [], harness := (true, "6efe14764790689ca4077d3e1f67dce958fc2f96587491d6a215c1a8d4394c52"), looks := false }, kinds := [], alts := [], laidByText := true, laidKinds := [.listed, .data], laidTests := true, laidLooks := .later }
def FnExactDangerFindingsUptoCardSaid : Prop := Claim7.holds Tryz.pinned (.plain (OpenSpec.upto fnExactDangerFindingsSpec)) fnExactDangerFindingsUptoCard
end Rows
end Go.Proofs.YtalkhfljcnconaaGreatDoor
