/-
  DERIVED. GIVEN WITH THE SEED: THE CARDS: each row of YtlfnlgbojbgcnaaGreatDoorRows.lean that lists a variable, with what it lists TIED to the program's text (the seventh form; the later family's looks); each row that meets fmt, with fmt's text TOLD by the authors' own Lean function (tested against real Go, not proved from fmt's source: count such statements apart). THE CARD IS WHAT COUNTS. Prove the row's statement (the work); the ties are given (YtlfnlgbojbgcnaaGreatDoorTie.lean); close each card by the builder's one call (the guide's Derived/Test/ToyasCard.lean, 'card_holds'). Laid BY PROGRAM, IN A SANDBOX (cutbox-door.mjs). By AI agents, Wed Nov 11 2026. No macro, syntax, notation, axiom, sorry.
-/
import Derived.Test.YtlfnlgbojbgcnaaGreatDoorRows
import GoSem.ClaimSeven
namespace Go.Proofs.YtlfnlgbojbgcnaaGreatDoor
namespace Rows

/-- THE TIED CARD OF 'laws.FnExactLateralBuoys'. -/
def fnExactLateralBuoysCard : Claim7 := { stood := { row := fnExactLateralBuoysRow, standIns := [], harness := (true, "78f87d610d07abe1abdf1f34cd80438008deb7106c113fc67cd99e6999b04224"), looks := false }, kinds := [], alts := [], laidByText := true, laidKinds := [.listed, .data], laidTests := true, laidLooks := .later }
def FnExactLateralBuoysCardSaid : Prop := Claim7.holds Tryz.pinned (.plain (OpenSpec.ofChange fnExactLateralBuoysSpec)) fnExactLateralBuoysCard

/-- THE TIED CARD OF 'laws.FnExactIsSeen'. -/
def fnExactIsSeenCard : Claim7 := { stood := { row := fnExactIsSeenRow, standIns := [], harness := (true, "78f87d610d07abe1abdf1f34cd80438008deb7106c113fc67cd99e6999b04224"), looks := false }, kinds := [], alts := [], laidByText := true, laidKinds := [.listed, .data], laidTests := true, laidLooks := .later }
def FnExactIsSeenCardSaid : Prop := Claim7.holds Tryz.pinned (.plain (OpenSpec.ofChange fnExactIsSeenSpec)) fnExactIsSeenCard

/-- THE TIED CARD OF 'laws.FnExactBestPair'. -/
def fnExactBestPairCard : Claim7 := { stood := { row := fnExactBestPairRow, standIns := [], harness := (true, "78f87d610d07abe1abdf1f34cd80438008deb7106c113fc67cd99e6999b04224"), looks := false }, kinds := [], alts := [], laidByText := true, laidKinds := [.listed, .data], laidTests := true, laidLooks := .later }
def FnExactBestPairCardSaid : Prop := Claim7.holds Tryz.pinned (.plain (OpenSpec.ofChange fnExactBestPairSpec)) fnExactBestPairCard

/-- THE TIED CARD OF 'laws.FnExactSeenFrom'. -/
def fnExactSeenFromCard : Claim7 := { stood := { row := fnExactSeenFromRow, standIns := [], harness := (true, "78f87d610d07abe1abdf1f34cd80438008deb7106c113fc67cd99e6999b04224"), looks := false }, kinds := [], alts := [], laidByText := true, laidKinds := [.listed, .data], laidTests := true, laidLooks := .later }
def FnExactSeenFromCardSaid : Prop := Claim7.holds Tryz.pinned (.plain (OpenSpec.ofChange fnExactSeenFromSpec)) fnExactSeenFromCard

/-- THE TIED CARD OF 'laws.FnExactBearingsFrom'. -/
def fnExactBearingsFromCard : Claim7 := { stood := { row := fnExactBearingsFromRow, standIns := [], harness := (true, "78f87d610d07abe1abdf1f34cd80438008deb7106c113fc67cd99e6999b04224"), looks := false }, kinds := [], alts := [], laidByText := true, laidKinds := [.listed, .data], laidTests := true, laidLooks := .later }
def FnExactBearingsFromCardSaid : Prop := Claim7.holds Tryz.pinned (.plain (OpenSpec.ofChange fnExactBearingsFromSpec)) fnExactBearingsFromCard

/-- THE TIED CARD OF 'laws.FnExactSeenCounts'. -/
def fnExactSeenCountsCard : Claim7 := { stood := { row := fnExactSeenCountsRow, standIns := [], harness := (true, "78f87d610d07abe1abdf1f34cd80438008deb7106c113fc67cd99e6999b04224"), looks := false }, kinds := [], alts := [], laidByText := true, laidKinds := [.listed, .data], laidTests := true, laidLooks := .later }
def FnExactSeenCountsCardSaid : Prop := Claim7.holds Tryz.pinned (.plain (OpenSpec.ofChange fnExactSeenCountsSpec)) fnExactSeenCountsCard

/-- THE SECOND FORM's CARD OF 'laws.FnExactLateralBuoys'. -/
def fnExactLateralBuoysUptoCard : Claim7 := { stood := { row := fnExactLateralBuoysUptoRow, standIns := [], harness := (true, "78f87d610d07abe1abdf1f34cd80438008deb7106c113fc67cd99e6999b04224"), looks := false }, kinds := [], alts := [], laidByText := true, laidKinds := [.listed, .data], laidTests := true, laidLooks := .later }
def FnExactLateralBuoysUptoCardSaid : Prop := Claim7.holds Tryz.pinned (.plain (OpenSpec.upto fnExactLateralBuoysSpec)) fnExactLateralBuoysUptoCard

/-- THE SECOND FORM's CARD OF 'laws.FnExactIsSeen'. -/
def fnExactIsSeenUptoCard : Claim7 := { stood := { row := fnExactIsSeenUptoRow, standIns := [], harness := (true, "78f87d610d07abe1abdf1f34cd80438008deb7106c113fc67cd99e6999b04224"), looks := false }, kinds := [], alts := [], laidByText := true, laidKinds := [.listed, .data], laidTests := true, laidLooks := .later }
def FnExactIsSeenUptoCardSaid : Prop := Claim7.holds Tryz.pinned (.plain (OpenSpec.upto fnExactIsSeenSpec)) fnExactIsSeenUptoCard

/-- THE SECOND FORM's CARD OF 'laws.FnExactBestPair'. -/
def fnExactBestPairUptoCard : Claim7 := { stood := { row := fnExactBestPairUptoRow, standIns := [], harness := (true, "78f87d610d07abe1abdf1f34cd80438008deb7106c113fc67cd99e6999b04224"), looks := false }, kinds := [], alts := [], laidByText := true, laidKinds := [.listed, .data], laidTests := true, laidLooks := .later }
def FnExactBestPairUptoCardSaid : Prop := Claim7.holds Tryz.pinned (.plain (OpenSpec.upto fnExactBestPairSpec)) fnExactBestPairUptoCard

/-- THE SECOND FORM's CARD OF 'laws.FnExactSeenFrom'. -/
def fnExactSeenFromUptoCard : Claim7 := { stood := { row := fnExactSeenFromUptoRow, standIns := [], harness := (true, "78f87d610d07abe1abdf1f34cd80438008deb7106c113fc67cd99e6999b04224"), looks := false }, kinds := [], alts := [], laidByText := true, laidKinds := [.listed, .data], laidTests := true, laidLooks := .later }
def FnExactSeenFromUptoCardSaid : Prop := Claim7.holds Tryz.pinned (.plain (OpenSpec.upto fnExactSeenFromSpec)) fnExactSeenFromUptoCard

/-- THE SECOND FORM's CARD OF 'laws.FnExactBearingsFrom'. -/
def fnExactBearingsFromUptoCard : Claim7 := { stood := { row := fnExactBearingsFromUptoRow, standIns := [], harness := (true, "78f87d610d07abe1abdf1f34cd80438008deb7106c113fc67cd99e6999b04224"), looks := false }, kinds := [], alts := [], laidByText := true, laidKinds := [.listed, .data], laidTests := true, laidLooks := .later }
def FnExactBearingsFromUptoCardSaid : Prop := Claim7.holds Tryz.pinned (.plain (OpenSpec.upto fnExactBearingsFromSpec)) fnExactBearingsFromUptoCard

/-- THE SECOND FORM's CARD OF 'laws.FnExactSeenCounts'. -/
def fnExactSeenCountsUptoCard : Claim7 := { stood := { row := fnExactSeenCountsUptoRow, standIns := [], harness := (true, "78f87d610d07abe1abdf1f34cd80438008deb7106c113fc67cd99e6999b04224"), looks := false }, kinds := [], alts := [], laidByText := true, laidKinds := [.listed, .data], laidTests := true, laidLooks := .later }
def FnExactSeenCountsUptoCardSaid : Prop := Claim7.holds Tryz.pinned (.plain (OpenSpec.upto fnExactSeenCountsSpec)) fnExactSeenCountsUptoCard
end Rows
end Go.Proofs.YtlfnlgbojbgcnaaGreatDoor
