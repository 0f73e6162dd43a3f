/-
  No cell of these rows narrows 'for every input' (looked for: loops, veiled, ifaces, maps, wideKeys, modest, calm, conditions, laid).
  DERIVED. THE GIVEN ROWS OF THIS SEAT. 5 by the template 'for every input the law returns true; each argument reads behind the call as it read before'; 0 by the template 'total and deterministic' (their statements: YtjenekakcoggpaaTotals.lean).
  GIVEN WITH THE SEED: the statements are not yours to turn. If you find one false, say at which input.
  Laid BY PROGRAM, IN A SANDBOX (cutbox-rows.mjs): the forced cells as the released guide's own fill.sh prints them over the translation bfa07140e2bb81bc… (all of the seat's roots in one cut). By AI agents, Wed Nov 11 2026. No macro, syntax, notation, axiom, sorry.
-/
import Derived.Test.YtjenekakcoggpaaChecked
import GoSem.Claim
import GoSem.ClaimJoined
import GoSem.ClaimMapViews
import Derived.JoinedTies
import Derived.KernelRfl
namespace Go.Proofs.Ytjenekakcoggpaa
/- THE CELL 'sum', in the pinned program and in every row, IS THE sha256 OF THE DUMP (.gsa) THAT YtjenekakcoggpaaProg.lean LOADS. Nothing in Lean hashes anything: it is a label: what it is worth is what the hold of that sum in a sandbox is worth. -/
noncomputable def Try.pinned : Pinned := { name := "ytjenekakcoggpaa", sum := "bfa07140e2bb81bc888c583325e2041023b1b6744970e3f0fe223b4b55bac7e7", checked := Try.checked }
namespace Rows
def none {H : Type} : Left H := { results := [], args := [] }

/-- 'laws.FnAvailability': WHATEVER THE INPUT: true; the input reads as it did. -/
def fnAvailabilitySpec : ChangeSpec := { name := "fnAvailability", fn := fun _ => fun
  | [d1, d2] => { results := [.lit (.bool true)], args := [d1, d2] }
  | _ => none }
def fnAvailabilityRow : OpenClaim := { program := "ytjenekakcoggpaa", sum := "bfa07140e2bb81bc888c583325e2041023b1b6744970e3f0fe223b4b55bac7e7", func := "loop.example/g00953/laws.FnAvailability", spec := "fnAvailability", unfollowed := true, recurses := true, apart := false }
def FnAvailabilitySaid : Prop := fnAvailabilityRow.holds Try.pinned (OpenSpec.ofChange fnAvailabilitySpec)

/-- ITS FALSE NEIGHBOUR: 'it returns false'. Refute it at one input. -/
def fnAvailabilityWrong : ChangeSpec := { name := "fnAvailability", fn := fun _ => fun
  | [d1, d2] => { results := [.lit (.bool false)], args := [d1, d2] }
  | _ => none }
def FnAvailabilityWrongFalsely : Prop := fnAvailabilityRow.holds Try.pinned (OpenSpec.ofChange fnAvailabilityWrong)

/-- 'laws.FnBroadcasts': WHATEVER THE INPUT: true; the input reads as it did. -/
def fnBroadcastsSpec : ChangeSpec := { name := "fnBroadcasts", fn := fun _ => fun
  | [d] => { results := [.lit (.bool true)], args := [d] }
  | _ => none }
def fnBroadcastsRow : OpenClaim := { program := "ytjenekakcoggpaa", sum := "bfa07140e2bb81bc888c583325e2041023b1b6744970e3f0fe223b4b55bac7e7", func := "loop.example/g00953/laws.FnBroadcasts", spec := "fnBroadcasts", unfollowed := true, recurses := true, apart := false }
def FnBroadcastsSaid : Prop := fnBroadcastsRow.holds Try.pinned (OpenSpec.ofChange fnBroadcastsSpec)

/-- ITS FALSE NEIGHBOUR: 'it returns false'. Refute it at one input. -/
def fnBroadcastsWrong : ChangeSpec := { name := "fnBroadcasts", fn := fun _ => fun
  | [d] => { results := [.lit (.bool false)], args := [d] }
  | _ => none }
def FnBroadcastsWrongFalsely : Prop := fnBroadcastsRow.holds Try.pinned (OpenSpec.ofChange fnBroadcastsWrong)

/-- 'laws.FnExactWatchGaps': WHATEVER THE INPUT: true; the input reads as it did. -/
def fnExactWatchGapsSpec : ChangeSpec := { name := "fnExactWatchGaps", fn := fun _ => fun
  | [d1, d2, d3, d4] => { results := [.lit (.bool true)], args := [d1, d2, d3, d4] }
  | _ => none }
def fnExactWatchGapsRow : OpenClaim := { program := "ytjenekakcoggpaa", sum := "bfa07140e2bb81bc888c583325e2041023b1b6744970e3f0fe223b4b55bac7e7", func := "loop.example/g00953/laws.FnExactWatchGaps", spec := "fnExactWatchGaps", unfollowed := true, recurses := true, apart := false }
def FnExactWatchGapsSaid : Prop := fnExactWatchGapsRow.holds Try.pinned (OpenSpec.ofChange fnExactWatchGapsSpec)

/-- ITS FALSE NEIGHBOUR: 'it returns false'. Refute it at one input. -/
def fnExactWatchGapsWrong : ChangeSpec := { name := "fnExactWatchGaps", fn := fun _ => fun
  | [d1, d2, d3, d4] => { results := [.lit (.bool false)], args := [d1, d2, d3, d4] }
  | _ => none }
def FnExactWatchGapsWrongFalsely : Prop := fnExactWatchGapsRow.holds Try.pinned (OpenSpec.ofChange fnExactWatchGapsWrong)

/-- 'laws.FnInspections': WHATEVER THE INPUT: true; the input reads as it did. -/
def fnInspectionsSpec : ChangeSpec := { name := "fnInspections", fn := fun _ => fun
  | [d1, d2] => { results := [.lit (.bool true)], args := [d1, d2] }
  | _ => none }
def fnInspectionsRow : OpenClaim := { program := "ytjenekakcoggpaa", sum := "bfa07140e2bb81bc888c583325e2041023b1b6744970e3f0fe223b4b55bac7e7", func := "loop.example/g00953/laws.FnInspections", spec := "fnInspections", unfollowed := true, recurses := true, apart := false }
def FnInspectionsSaid : Prop := fnInspectionsRow.holds Try.pinned (OpenSpec.ofChange fnInspectionsSpec)

/-- ITS FALSE NEIGHBOUR: 'it returns false'. Refute it at one input. -/
def fnInspectionsWrong : ChangeSpec := { name := "fnInspections", fn := fun _ => fun
  | [d1, d2] => { results := [.lit (.bool false)], args := [d1, d2] }
  | _ => none }
def FnInspectionsWrongFalsely : Prop := fnInspectionsRow.holds Try.pinned (OpenSpec.ofChange fnInspectionsWrong)

/-- 'laws.FnExactBroadcasts': WHATEVER THE INPUT: true; the input reads as it did. -/
def fnExactBroadcastsSpec : ChangeSpec := { name := "fnExactBroadcasts", fn := fun _ => fun
  | [d1, d2, d3, d4, d5] => { results := [.lit (.bool true)], args := [d1, d2, d3, d4, d5] }
  | _ => none }
def fnExactBroadcastsRow : OpenClaim := { program := "ytjenekakcoggpaa", sum := "bfa07140e2bb81bc888c583325e2041023b1b6744970e3f0fe223b4b55bac7e7", func := "loop.example/g00953/laws.FnExactBroadcasts", spec := "fnExactBroadcasts", unfollowed := true, recurses := true, apart := false }
def FnExactBroadcastsSaid : Prop := fnExactBroadcastsRow.holds Try.pinned (OpenSpec.ofChange fnExactBroadcastsSpec)

/-- ITS FALSE NEIGHBOUR: 'it returns false'. Refute it at one input. -/
def fnExactBroadcastsWrong : ChangeSpec := { name := "fnExactBroadcasts", fn := fun _ => fun
  | [d1, d2, d3, d4, d5] => { results := [.lit (.bool false)], args := [d1, d2, d3, d4, d5] }
  | _ => none }
def FnExactBroadcastsWrongFalsely : Prop := fnExactBroadcastsRow.holds Try.pinned (OpenSpec.ofChange fnExactBroadcastsWrong)

/- THE SECOND FORM. 'bulk': how many values and letters a reading holds, each counted each time it is reached (what is shared counts as often as it is met; a slice's spare places count too). A statement '..UptoSaid' is the law's where the arguments, and the package variables that the reading takes, are together of bulk at most 1048576: NARROWER than '..Said'. Prove '..Said' where nothing that the law and all that it calls make is longer than what came in: it says more and counts as full. Else prove '..UptoSaid'. A law counts once. -/
mutual
def uptoBulk {H : Type} : DataW H → Nat
  | .lit (.string bytes) => bytes.length + 1
  | .lit _ => 1
  | .nil => 1
  | .ptr d => uptoBulk d + 1
  | .slice elems spare => uptoBulkAll elems + uptoBulkAll spare + 1
  | .agg parts => uptoBulkAll parts + 1
  | .iface _ d => uptoBulk d + 1
  | .map entries => uptoBulkEntries entries + 1
  | .held _ => 1
def uptoBulkAll {H : Type} : List (DataW H) → Nat
  | [] => 0
  | d :: r => uptoBulk d + uptoBulkAll r
def uptoBulkEntries {H : Type} : List (Lit × DataW H) → Nat
  | [] => 0
  | x :: r => uptoBulkEntry x + uptoBulkEntries r
def uptoBulkEntry {H : Type} : Lit × DataW H → Nat
  | (.string bytes, d) => bytes.length + uptoBulk d + 1
  | (_, d) => uptoBulk d + 1
 end
def uptoSmall : (H : Type) → List (DataW H) → Bool := fun _ ds => decide (uptoBulkAll ds ≤ 1048576)
def OpenSpec.upto (s : _root_.Go.ChangeSpec) : _root_.Go.OpenSpec := { _root_.Go.OpenSpec.ofChange s with cond := some uptoSmall }

/-- 'laws.FnAvailability', WHERE WHAT IT READS IS OF BULK AT MOST 1048576: true; the input reads as it did. -/
def fnAvailabilityUptoRow : OpenClaim := { program := "ytjenekakcoggpaa", sum := "bfa07140e2bb81bc888c583325e2041023b1b6744970e3f0fe223b4b55bac7e7", func := "loop.example/g00953/laws.FnAvailability", spec := "fnAvailability", unfollowed := true, recurses := true, apart := false, narrowed := true }
def FnAvailabilityUptoSaid : Prop := fnAvailabilityUptoRow.holds Try.pinned (OpenSpec.upto fnAvailabilitySpec)

/-- 'laws.FnBroadcasts', WHERE WHAT IT READS IS OF BULK AT MOST 1048576: true; the input reads as it did. -/
def fnBroadcastsUptoRow : OpenClaim := { program := "ytjenekakcoggpaa", sum := "bfa07140e2bb81bc888c583325e2041023b1b6744970e3f0fe223b4b55bac7e7", func := "loop.example/g00953/laws.FnBroadcasts", spec := "fnBroadcasts", unfollowed := true, recurses := true, apart := false, narrowed := true }
def FnBroadcastsUptoSaid : Prop := fnBroadcastsUptoRow.holds Try.pinned (OpenSpec.upto fnBroadcastsSpec)

/-- 'laws.FnExactWatchGaps', WHERE WHAT IT READS IS OF BULK AT MOST 1048576: true; the input reads as it did. -/
def fnExactWatchGapsUptoRow : OpenClaim := { program := "ytjenekakcoggpaa", sum := "bfa07140e2bb81bc888c583325e2041023b1b6744970e3f0fe223b4b55bac7e7", func := "loop.example/g00953/laws.FnExactWatchGaps", spec := "fnExactWatchGaps", unfollowed := true, recurses := true, apart := false, narrowed := true }
def FnExactWatchGapsUptoSaid : Prop := fnExactWatchGapsUptoRow.holds Try.pinned (OpenSpec.upto fnExactWatchGapsSpec)

/-- 'laws.FnInspections', WHERE WHAT IT READS IS OF BULK AT MOST 1048576: true; the input reads as it did. -/
def fnInspectionsUptoRow : OpenClaim := { program := "ytjenekakcoggpaa", sum := "bfa07140e2bb81bc888c583325e2041023b1b6744970e3f0fe223b4b55bac7e7", func := "loop.example/g00953/laws.FnInspections", spec := "fnInspections", unfollowed := true, recurses := true, apart := false, narrowed := true }
def FnInspectionsUptoSaid : Prop := fnInspectionsUptoRow.holds Try.pinned (OpenSpec.upto fnInspectionsSpec)

/-- 'laws.FnExactBroadcasts', WHERE WHAT IT READS IS OF BULK AT MOST 1048576: true; the input reads as it did. -/
def fnExactBroadcastsUptoRow : OpenClaim := { program := "ytjenekakcoggpaa", sum := "bfa07140e2bb81bc888c583325e2041023b1b6744970e3f0fe223b4b55bac7e7", func := "loop.example/g00953/laws.FnExactBroadcasts", spec := "fnExactBroadcasts", unfollowed := true, recurses := true, apart := false, narrowed := true }
def FnExactBroadcastsUptoSaid : Prop := fnExactBroadcastsUptoRow.holds Try.pinned (OpenSpec.upto fnExactBroadcastsSpec)

end Rows
end Go.Proofs.Ytjenekakcoggpaa
