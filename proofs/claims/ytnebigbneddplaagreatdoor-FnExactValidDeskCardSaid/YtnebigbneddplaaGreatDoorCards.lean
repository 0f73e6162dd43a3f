/-
  DERIVED. GIVEN WITH THE SEED: THE CARDS: each row of YtnebigbneddplaaGreatDoorRows.lean that lists a variable, with what it lists TIED to the program's text (the seventh form; the later family's looks); each row that meets fmt, with fmt's text TOLD by the authors' own Lean function (tested against real Go, not proved from fmt's source: count such statements apart). THE CARD IS WHAT COUNTS. Prove the row's statement (the work); the ties are given (YtnebigbneddplaaGreatDoorTie.lean); close each card by the builder's one call (the guide's Derived/Test/ToyasCard.lean, 'card_holds'). Laid BY PROGRAM, IN A SANDBOX (cutbox-door.mjs). By AI agents, Wed Nov 11 2026. No macro, syntax, notation, axiom, sorry.
-/
import Derived.Test.YtnebigbneddplaaGreatDoorRows
import GoSem.ClaimSeven
namespace Go.Proofs.YtnebigbneddplaaGreatDoor
namespace Rows

/-- THE TIED CARD OF 'laws.FnExactValidAuthority'. -/
def fnExactValidAuthorityCard : Claim7 := { stood := { row := fnExactValidAuthorityRow, standIns := [], harness := (true, "46cc55f52d68504982d18d1461c4c3382be27db93ad397f0af9e4cf23774c8bc"), looks := false }, kinds := [], alts := [], laidByText := true, laidKinds := [.listed, .data], laidTests := true, laidLooks := .later }
def FnExactValidAuthorityCardSaid : Prop := Claim7.holds Tryz.pinned (.plain (OpenSpec.ofChange fnExactValidAuthoritySpec)) fnExactValidAuthorityCard

/-- THE TIED CARD OF 'laws.FnExactValidDesk'. -/
def fnExactValidDeskCard : Claim7 := { stood := { row := fnExactValidDeskRow, standIns := [], harness := (true, "46cc55f52d68504982d18d1461c4c3382be27db93ad397f0af9e4cf23774c8bc"), looks := false }, kinds := [], alts := [], laidByText := true, laidKinds := [.listed, .data], laidTests := true, laidLooks := .later }
def FnExactValidDeskCardSaid : Prop := Claim7.holds Tryz.pinned (.plain (OpenSpec.ofChange fnExactValidDeskSpec)) fnExactValidDeskCard

/-- THE TIED CARD OF 'laws.FnExactListOf'. -/
def fnExactListOfCard : Claim7 := { stood := { row := fnExactListOfRow, standIns := [], harness := (true, "46cc55f52d68504982d18d1461c4c3382be27db93ad397f0af9e4cf23774c8bc"), looks := false }, kinds := [], alts := [], laidByText := true, laidKinds := [.listed, .data], laidTests := true, laidLooks := .later }
def FnExactListOfCardSaid : Prop := Claim7.holds Tryz.pinned (.plain (OpenSpec.ofChange fnExactListOfSpec)) fnExactListOfCard

/-- THE TIED CARD OF 'laws.FnExactVoyageFindings'. -/
def fnExactVoyageFindingsCard : Claim7 := { stood := { row := fnExactVoyageFindingsRow, standIns := [], harness := (true, "46cc55f52d68504982d18d1461c4c3382be27db93ad397f0af9e4cf23774c8bc"), looks := false }, kinds := [], alts := [], laidByText := true, laidKinds := [.listed, .data], laidTests := true, laidLooks := .later }
def FnExactVoyageFindingsCardSaid : Prop := Claim7.holds Tryz.pinned (.plain (OpenSpec.ofChange fnExactVoyageFindingsSpec)) fnExactVoyageFindingsCard

/-- THE TIED CARD OF 'laws.FnExactDangerFindings'. -/
def fnExactDangerFindingsCard : Claim7 := { stood := { row := fnExactDangerFindingsRow, standIns := [], harness := (true, "46cc55f52d68504982d18d1461c4c3382be27db93ad397f0af9e4cf23774c8bc"), looks := false }, kinds := [], alts := [], laidByText := true, laidKinds := [.listed, .data], laidTests := true, laidLooks := .later }
def FnExactDangerFindingsCardSaid : Prop := Claim7.holds Tryz.pinned (.plain (OpenSpec.ofChange fnExactDangerFindingsSpec)) fnExactDangerFindingsCard

/-- THE SECOND FORM's CARD OF 'laws.FnExactValidAuthority'. -/
def fnExactValidAuthorityUptoCard : Claim7 := { stood := { row := fnExactValidAuthorityUptoRow, standIns := [], harness := (true, "46cc55f52d68504982d18d1461c4c3382be27db93ad397f0af9e4cf23774c8bc"), looks := false }, kinds := [], alts := [], laidByText := true, laidKinds := [.listed, .data], laidTests := true, laidLooks := .later }
def FnExactValidAuthorityUptoCardSaid : Prop := Claim7.holds Tryz.pinned (.plain (OpenSpec.upto fnExactValidAuthoritySpec)) fnExactValidAuthorityUptoCard

/-- THE SECOND FORM's CARD OF 'laws.FnExactValidDesk'. -/
def fnExactValidDeskUptoCard : Claim7 := { stood := { row := fnExactValidDeskUptoRow, standIns := [], harness := (true, "46cc55f52d68504982d18d1461c4c3382be27db93ad397f0af9e4cf23774c8bc"), looks := false }, kinds := [], alts := [], laidByText := true, laidKinds := [.listed, .data], laidTests := true, laidLooks := .later }
def FnExactValidDeskUptoCardSaid : Prop := Claim7.holds Tryz.pinned (.plain (OpenSpec.upto fnExactValidDeskSpec)) fnExactValidDeskUptoCard

/-- THE SECOND FORM's CARD OF 'laws.FnExactListOf'. -/
def fnExactListOfUptoCard : Claim7 := { stood := { row := fnExactListOfUptoRow, standIns := [], harness := (true, "46cc55f52d68504982d18d1461c4c3382be27db93ad397f0af9e4cf23774c8bc"), looks := false }, kinds := [], alts := [], laidByText := true, laidKinds := [.listed, .data], laidTests := true, laidLooks := .later }
def FnExactListOfUptoCardSaid : Prop := Claim7.holds Tryz.pinned (.plain (OpenSpec.upto fnExactListOfSpec)) fnExactListOfUptoCard

/-- THE SECOND FORM's CARD OF 'laws.FnExactVoyageFindings'. -/
def fnExactVoyageFindingsUptoCard : Claim7 := { stood := { row := fnExactVoyageFindingsUptoRow, standIns := [], harness := (true, "46cc55f52d68504982d18d1461c4c3382be27db93ad397f0af9e4cf23774c8bc"), looks := false }, kinds := [], alts := [], laidByText := true, laidKinds := [.listed, .data], laidTests := true, laidLooks := .later }
def FnExactVoyageFindingsUptoCardSaid : Prop := Claim7.holds Tryz.pinned (.plain (OpenSpec.upto fnExactVoyageFindingsSpec)) fnExactVoyageFindingsUptoCard

/-- THE SECOND FORM's CARD OF 'laws.FnExactDangerFindings'. -/
def fnExactDangerFindingsUptoCard : Claim7 := { stood := { row := fnExactDangerFindingsUptoRow, standIns := [], harness := (true, "46cc55f52d68504982d18d1461c4c3382be27db93ad397f0af9e4cf23774c8bc"), looks := false }, kinds := [], alts := [], laidByText := true, laidKinds := [.listed, .data], laidTests := true, laidLooks := .later }
def FnExactDangerFindingsUptoCardSaid : Prop := Claim7.holds Tryz.pinned (.plain (OpenSpec.upto fnExactDangerFindingsSpec)) fnExactDangerFindingsUptoCard
end Rows
end Go.Proofs.YtnebigbneddplaaGreatDoor
