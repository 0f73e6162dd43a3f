/-
  DERIVED. GIVEN WITH THE SEED: THE CARDS: each row of YtpfddoikhmbebaaGreatDoorRows.lean that lists a variable, with what it lists TIED to the program's text (the seventh form; the later family's looks); each row that meets fmt, with fmt's text TOLD by the authors' own Lean function (tested against real Go, not proved from fmt's source: count such statements apart). THE CARD IS WHAT COUNTS. Prove the row's statement (the work); the ties are given (YtpfddoikhmbebaaGreatDoorTie.lean); close each card by the builder's one call (the guide's Derived/Test/ToyasCard.lean, 'card_holds'). Laid BY PROGRAM, IN A SANDBOX (cutbox-door.mjs). By AI agents, Wed Nov 11 2026. No macro, syntax, notation, axiom, sorry.
-/
import Derived.Test.YtpfddoikhmbebaaGreatDoorRows
import GoSem.ClaimSeven
namespace Go.Proofs.YtpfddoikhmbebaaGreatDoor
namespace Rows

/-- THE TIED CARD OF 'laws.FnExactChannelFindings'. -/
def fnExactChannelFindingsCard : Claim7 := { stood := { row := fnExactChannelFindingsRow, standIns := [], harness := (true, "e0942da0b7d2e2491c5f3e65fb829adc550621bc8a9c934b912bd1e803856495"), looks := false }, kinds := [], alts := [], laidByText := true, laidKinds := [.data, .data, .data, .listed, .data], laidTests := true, laidLooks := .later }
def FnExactChannelFindingsCardSaid : Prop := Claim7.holds Tryz.pinned (.plain (OpenSpec.ofChange fnExactChannelFindingsSpec)) fnExactChannelFindingsCard

/-- THE SECOND FORM's CARD OF 'laws.FnExactChannelFindings'. -/
def fnExactChannelFindingsUptoCard : Claim7 := { stood := { row := fnExactChannelFindingsUptoRow, standIns := [], harness := (true, "e0942da0b7d2e2491c5f3e65fb829adc550621bc8a9c934b912bd1e803856495"), looks := false }, kinds := [], alts := [], laidByText := true, laidKinds := [.data, .data, .data, .listed, .data], laidTests := true, laidLooks := .later }
def FnExactChannelFindingsUptoCardSaid : Prop := Claim7.holds Tryz.pinned (.plain (OpenSpec.upto fnExactChannelFindingsSpec)) fnExactChannelFindingsUptoCard
end Rows
end Go.Proofs.YtpfddoikhmbebaaGreatDoor
