/-
  DERIVED. GIVEN WITH THE SEED: THE CARDS: each row of YtddcngekejlfbaaGreatDoorRows.lean that lists a variable, with what it lists TIED to the program's text (the seventh form; the later family's looks); each row that meets fmt, with fmt's text TOLD by the authors' own Lean function (tested against real Go, not proved from fmt's source: count such statements apart). THE CARD IS WHAT COUNTS. Prove the row's statement (the work); the ties are given (YtddcngekejlfbaaGreatDoorTie.lean); close each card by the builder's one call (the guide's Derived/Test/ToyasCard.lean, 'card_holds'). Laid BY PROGRAM, IN A SANDBOX (cutbox-door.mjs). By AI agents, Wed Nov 11 2026. No macro, syntax, notation, axiom, sorry.
-/
import Derived.Test.YtddcngekejlfbaaGreatDoorRows
import GoSem.ClaimSeven
namespace Go.Proofs.YtddcngekejlfbaaGreatDoor
namespace Rows

/-- THE TIED CARD OF 'laws.FnExactSeenTogether'. -/
def fnExactSeenTogetherCard : Claim7 := { stood := { row := fnExactSeenTogetherRow, standIns := [], harness := (true, "80b3237493f652e336fadc4d027abb990fa6c9e77a156087018f0f66ef8fef38"), looks := false }, kinds := [], alts := [], laidByText := true, laidKinds := [.listed, .data], laidTests := true, laidLooks := .later }
def FnExactSeenTogetherCardSaid : Prop := Claim7.holds Tryz.pinned (.plain (OpenSpec.ofChange fnExactSeenTogetherSpec)) fnExactSeenTogetherCard

/-- THE SECOND FORM's CARD OF 'laws.FnExactSeenTogether'. -/
def fnExactSeenTogetherUptoCard : Claim7 := { stood := { row := fnExactSeenTogetherUptoRow, standIns := [], harness := (true, "80b3237493f652e336fadc4d027abb990fa6c9e77a156087018f0f66ef8fef38"), looks := false }, kinds := [], alts := [], laidByText := true, laidKinds := [.listed, .data], laidTests := true, laidLooks := .later }
def FnExactSeenTogetherUptoCardSaid : Prop := Claim7.holds Tryz.pinned (.plain (OpenSpec.upto fnExactSeenTogetherSpec)) fnExactSeenTogetherUptoCard
end Rows
end Go.Proofs.YtddcngekejlfbaaGreatDoor
