/-
  No cell of these rows narrows 'for every input' (looked for: loops, veiled, ifaces, maps, wideKeys, modest, calm, conditions, laid).
  DERIVED. THE GIVEN ROWS OF THIS SEAT. 12 by the template 'for every input the law returns true; each argument reads behind the call as it read before'; 0 by the template 'total and deterministic' (their statements: YtcmgdilpljiljaaTotals.lean).
  GIVEN WITH THE SEED: the statements are not yours to turn. If you find one false, say at which input.
  Laid BY PROGRAM, IN A SANDBOX (cutbox-rows.mjs): the forced cells as the released guide's own fill.sh prints them over the translation 31087466c2e2b39d… (all of the seat's roots in one cut). By AI agents, Wed Nov 11 2026. No macro, syntax, notation, axiom, sorry.
-/
import Derived.Test.YtcmgdilpljiljaaChecked
import GoSem.Claim
import GoSem.ClaimJoined
import GoSem.ClaimMapViews
import Derived.JoinedTies
import Derived.KernelRfl
namespace Go.Proofs.Ytcmgdilpljiljaa
/- THE CELL 'sum', in the pinned program and in every row, IS THE sha256 OF THE DUMP (.gsa) THAT YtcmgdilpljiljaaProg.lean LOADS. Nothing in Lean hashes anything: it is a label: what it is worth is what the hold of that sum in a sandbox is worth. -/
noncomputable def Try.pinned : Pinned := { name := "ytcmgdilpljiljaa", sum := "31087466c2e2b39d958bdc243fb3bfafbe4c5611bc29730d70c0aa2896a75cf2", checked := Try.checked }
namespace Rows
def none {H : Type} : Left H := { results := [], args := [] }

/-- 'laws.FnExactDropDuty': WHATEVER THE INPUT: true; the input reads as it did. -/
def fnExactDropDutySpec : ChangeSpec := { name := "fnExactDropDuty", fn := fun _ => fun
  | [d1, d2, d3] => { results := [.lit (.bool true)], args := [d1, d2, d3] }
  | _ => none }
def fnExactDropDutyRow : OpenClaim := { program := "ytcmgdilpljiljaa", sum := "31087466c2e2b39d958bdc243fb3bfafbe4c5611bc29730d70c0aa2896a75cf2", func := "loop.example/g00953/laws.FnExactDropDuty", spec := "fnExactDropDuty", unfollowed := true, recurses := true, apart := false }
def FnExactDropDutySaid : Prop := fnExactDropDutyRow.holds Try.pinned (OpenSpec.ofChange fnExactDropDutySpec)

/-- ITS FALSE NEIGHBOUR: 'it returns false'. Refute it at one input. -/
def fnExactDropDutyWrong : ChangeSpec := { name := "fnExactDropDuty", fn := fun _ => fun
  | [d1, d2, d3] => { results := [.lit (.bool false)], args := [d1, d2, d3] }
  | _ => none }
def FnExactDropDutyWrongFalsely : Prop := fnExactDropDutyRow.holds Try.pinned (OpenSpec.ofChange fnExactDropDutyWrong)

/-- 'laws.FnExactPlanVisits': WHATEVER THE INPUT: true; the input reads as it did. -/
def fnExactPlanVisitsSpec : ChangeSpec := { name := "fnExactPlanVisits", fn := fun _ => fun
  | [d1, d2, d3, d4, d5] => { results := [.lit (.bool true)], args := [d1, d2, d3, d4, d5] }
  | _ => none }
def fnExactPlanVisitsRow : OpenClaim := { program := "ytcmgdilpljiljaa", sum := "31087466c2e2b39d958bdc243fb3bfafbe4c5611bc29730d70c0aa2896a75cf2", func := "loop.example/g00953/laws.FnExactPlanVisits", spec := "fnExactPlanVisits", unfollowed := true, recurses := true, apart := false }
def FnExactPlanVisitsSaid : Prop := fnExactPlanVisitsRow.holds Try.pinned (OpenSpec.ofChange fnExactPlanVisitsSpec)

/-- ITS FALSE NEIGHBOUR: 'it returns false'. Refute it at one input. -/
def fnExactPlanVisitsWrong : ChangeSpec := { name := "fnExactPlanVisits", fn := fun _ => fun
  | [d1, d2, d3, d4, d5] => { results := [.lit (.bool false)], args := [d1, d2, d3, d4, d5] }
  | _ => none }
def FnExactPlanVisitsWrongFalsely : Prop := fnExactPlanVisitsRow.holds Try.pinned (OpenSpec.ofChange fnExactPlanVisitsWrong)

/-- 'laws.FnAvailability': WHATEVER THE INPUT: true; the input reads as it did. -/
def fnAvailabilitySpec : ChangeSpec := { name := "fnAvailability", fn := fun _ => fun
  | [d1, d2] => { results := [.lit (.bool true)], args := [d1, d2] }
  | _ => none }
def fnAvailabilityRow : OpenClaim := { program := "ytcmgdilpljiljaa", sum := "31087466c2e2b39d958bdc243fb3bfafbe4c5611bc29730d70c0aa2896a75cf2", func := "loop.example/g00953/laws.FnAvailability", spec := "fnAvailability", unfollowed := true, recurses := true, apart := false }
def FnAvailabilitySaid : Prop := fnAvailabilityRow.holds Try.pinned (OpenSpec.ofChange fnAvailabilitySpec)

/-- ITS FALSE NEIGHBOUR: 'it returns false'. Refute it at one input. -/
def fnAvailabilityWrong : ChangeSpec := { name := "fnAvailability", fn := fun _ => fun
  | [d1, d2] => { results := [.lit (.bool false)], args := [d1, d2] }
  | _ => none }
def FnAvailabilityWrongFalsely : Prop := fnAvailabilityRow.holds Try.pinned (OpenSpec.ofChange fnAvailabilityWrong)

/-- 'laws.FnExactDueList': WHATEVER THE INPUT: true; the input reads as it did. -/
def fnExactDueListSpec : ChangeSpec := { name := "fnExactDueList", fn := fun _ => fun
  | [d1, d2] => { results := [.lit (.bool true)], args := [d1, d2] }
  | _ => none }
def fnExactDueListRow : OpenClaim := { program := "ytcmgdilpljiljaa", sum := "31087466c2e2b39d958bdc243fb3bfafbe4c5611bc29730d70c0aa2896a75cf2", func := "loop.example/g00953/laws.FnExactDueList", spec := "fnExactDueList", unfollowed := true, recurses := true, apart := false }
def FnExactDueListSaid : Prop := fnExactDueListRow.holds Try.pinned (OpenSpec.ofChange fnExactDueListSpec)

/-- ITS FALSE NEIGHBOUR: 'it returns false'. Refute it at one input. -/
def fnExactDueListWrong : ChangeSpec := { name := "fnExactDueList", fn := fun _ => fun
  | [d1, d2] => { results := [.lit (.bool false)], args := [d1, d2] }
  | _ => none }
def FnExactDueListWrongFalsely : Prop := fnExactDueListRow.holds Try.pinned (OpenSpec.ofChange fnExactDueListWrong)

/-- 'laws.FnExactReportFault': WHATEVER THE INPUT: true; the input reads as it did. -/
def fnExactReportFaultSpec : ChangeSpec := { name := "fnExactReportFault", fn := fun _ => fun
  | [d1, d2, d3, d4] => { results := [.lit (.bool true)], args := [d1, d2, d3, d4] }
  | _ => none }
def fnExactReportFaultRow : OpenClaim := { program := "ytcmgdilpljiljaa", sum := "31087466c2e2b39d958bdc243fb3bfafbe4c5611bc29730d70c0aa2896a75cf2", func := "loop.example/g00953/laws.FnExactReportFault", spec := "fnExactReportFault", unfollowed := true, recurses := true, apart := false }
def FnExactReportFaultSaid : Prop := fnExactReportFaultRow.holds Try.pinned (OpenSpec.ofChange fnExactReportFaultSpec)

/-- ITS FALSE NEIGHBOUR: 'it returns false'. Refute it at one input. -/
def fnExactReportFaultWrong : ChangeSpec := { name := "fnExactReportFault", fn := fun _ => fun
  | [d1, d2, d3, d4] => { results := [.lit (.bool false)], args := [d1, d2, d3, d4] }
  | _ => none }
def FnExactReportFaultWrongFalsely : Prop := fnExactReportFaultRow.holds Try.pinned (OpenSpec.ofChange fnExactReportFaultWrong)

/-- 'laws.FnExactFaultsAt': WHATEVER THE INPUT: true; the input reads as it did. -/
def fnExactFaultsAtSpec : ChangeSpec := { name := "fnExactFaultsAt", fn := fun _ => fun
  | [d1, d2, d3] => { results := [.lit (.bool true)], args := [d1, d2, d3] }
  | _ => none }
def fnExactFaultsAtRow : OpenClaim := { program := "ytcmgdilpljiljaa", sum := "31087466c2e2b39d958bdc243fb3bfafbe4c5611bc29730d70c0aa2896a75cf2", func := "loop.example/g00953/laws.FnExactFaultsAt", spec := "fnExactFaultsAt", unfollowed := true, recurses := true, apart := false }
def FnExactFaultsAtSaid : Prop := fnExactFaultsAtRow.holds Try.pinned (OpenSpec.ofChange fnExactFaultsAtSpec)

/-- ITS FALSE NEIGHBOUR: 'it returns false'. Refute it at one input. -/
def fnExactFaultsAtWrong : ChangeSpec := { name := "fnExactFaultsAt", fn := fun _ => fun
  | [d1, d2, d3] => { results := [.lit (.bool false)], args := [d1, d2, d3] }
  | _ => none }
def FnExactFaultsAtWrongFalsely : Prop := fnExactFaultsAtRow.holds Try.pinned (OpenSpec.ofChange fnExactFaultsAtWrong)

/-- 'laws.FnExactAddDuty': WHATEVER THE INPUT: true; the input reads as it did. -/
def fnExactAddDutySpec : ChangeSpec := { name := "fnExactAddDuty", fn := fun _ => fun
  | [d1, d2] => { results := [.lit (.bool true)], args := [d1, d2] }
  | _ => none }
def fnExactAddDutyRow : OpenClaim := { program := "ytcmgdilpljiljaa", sum := "31087466c2e2b39d958bdc243fb3bfafbe4c5611bc29730d70c0aa2896a75cf2", func := "loop.example/g00953/laws.FnExactAddDuty", spec := "fnExactAddDuty", unfollowed := true, recurses := true, apart := false }
def FnExactAddDutySaid : Prop := fnExactAddDutyRow.holds Try.pinned (OpenSpec.ofChange fnExactAddDutySpec)

/-- ITS FALSE NEIGHBOUR: 'it returns false'. Refute it at one input. -/
def fnExactAddDutyWrong : ChangeSpec := { name := "fnExactAddDuty", fn := fun _ => fun
  | [d1, d2] => { results := [.lit (.bool false)], args := [d1, d2] }
  | _ => none }
def FnExactAddDutyWrongFalsely : Prop := fnExactAddDutyRow.holds Try.pinned (OpenSpec.ofChange fnExactAddDutyWrong)

/-- 'laws.FnExactOnDuty': WHATEVER THE INPUT: true; the input reads as it did. -/
def fnExactOnDutySpec : ChangeSpec := { name := "fnExactOnDuty", fn := fun _ => fun
  | [d1, d2] => { results := [.lit (.bool true)], args := [d1, d2] }
  | _ => none }
def fnExactOnDutyRow : OpenClaim := { program := "ytcmgdilpljiljaa", sum := "31087466c2e2b39d958bdc243fb3bfafbe4c5611bc29730d70c0aa2896a75cf2", func := "loop.example/g00953/laws.FnExactOnDuty", spec := "fnExactOnDuty", unfollowed := true, recurses := true, apart := false }
def FnExactOnDutySaid : Prop := fnExactOnDutyRow.holds Try.pinned (OpenSpec.ofChange fnExactOnDutySpec)

/-- ITS FALSE NEIGHBOUR: 'it returns false'. Refute it at one input. -/
def fnExactOnDutyWrong : ChangeSpec := { name := "fnExactOnDuty", fn := fun _ => fun
  | [d1, d2] => { results := [.lit (.bool false)], args := [d1, d2] }
  | _ => none }
def FnExactOnDutyWrongFalsely : Prop := fnExactOnDutyRow.holds Try.pinned (OpenSpec.ofChange fnExactOnDutyWrong)

/-- 'laws.FnExactReplaceKeeper': WHATEVER THE INPUT: true; the input reads as it did. -/
def fnExactReplaceKeeperSpec : ChangeSpec := { name := "fnExactReplaceKeeper", fn := fun _ => fun
  | [d1, d2, d3, d4] => { results := [.lit (.bool true)], args := [d1, d2, d3, d4] }
  | _ => none }
def fnExactReplaceKeeperRow : OpenClaim := { program := "ytcmgdilpljiljaa", sum := "31087466c2e2b39d958bdc243fb3bfafbe4c5611bc29730d70c0aa2896a75cf2", func := "loop.example/g00953/laws.FnExactReplaceKeeper", spec := "fnExactReplaceKeeper", unfollowed := true, recurses := true, apart := false }
def FnExactReplaceKeeperSaid : Prop := fnExactReplaceKeeperRow.holds Try.pinned (OpenSpec.ofChange fnExactReplaceKeeperSpec)

/-- ITS FALSE NEIGHBOUR: 'it returns false'. Refute it at one input. -/
def fnExactReplaceKeeperWrong : ChangeSpec := { name := "fnExactReplaceKeeper", fn := fun _ => fun
  | [d1, d2, d3, d4] => { results := [.lit (.bool false)], args := [d1, d2, d3, d4] }
  | _ => none }
def FnExactReplaceKeeperWrongFalsely : Prop := fnExactReplaceKeeperRow.holds Try.pinned (OpenSpec.ofChange fnExactReplaceKeeperWrong)

/-- 'laws.FnExactBroadcastOrder': WHATEVER THE INPUT: true; the input reads as it did. -/
def fnExactBroadcastOrderSpec : ChangeSpec := { name := "fnExactBroadcastOrder", fn := fun _ => fun
  | [d1, d2] => { results := [.lit (.bool true)], args := [d1, d2] }
  | _ => none }
def fnExactBroadcastOrderRow : OpenClaim := { program := "ytcmgdilpljiljaa", sum := "31087466c2e2b39d958bdc243fb3bfafbe4c5611bc29730d70c0aa2896a75cf2", func := "loop.example/g00953/laws.FnExactBroadcastOrder", spec := "fnExactBroadcastOrder", unfollowed := true, recurses := true, apart := false }
def FnExactBroadcastOrderSaid : Prop := fnExactBroadcastOrderRow.holds Try.pinned (OpenSpec.ofChange fnExactBroadcastOrderSpec)

/-- ITS FALSE NEIGHBOUR: 'it returns false'. Refute it at one input. -/
def fnExactBroadcastOrderWrong : ChangeSpec := { name := "fnExactBroadcastOrder", fn := fun _ => fun
  | [d1, d2] => { results := [.lit (.bool false)], args := [d1, d2] }
  | _ => none }
def FnExactBroadcastOrderWrongFalsely : Prop := fnExactBroadcastOrderRow.holds Try.pinned (OpenSpec.ofChange fnExactBroadcastOrderWrong)

/-- 'laws.FnExactWatchGaps': WHATEVER THE INPUT: true; the input reads as it did. -/
def fnExactWatchGapsSpec : ChangeSpec := { name := "fnExactWatchGaps", fn := fun _ => fun
  | [d1, d2, d3, d4] => { results := [.lit (.bool true)], args := [d1, d2, d3, d4] }
  | _ => none }
def fnExactWatchGapsRow : OpenClaim := { program := "ytcmgdilpljiljaa", sum := "31087466c2e2b39d958bdc243fb3bfafbe4c5611bc29730d70c0aa2896a75cf2", func := "loop.example/g00953/laws.FnExactWatchGaps", spec := "fnExactWatchGaps", unfollowed := true, recurses := true, apart := false }
def FnExactWatchGapsSaid : Prop := fnExactWatchGapsRow.holds Try.pinned (OpenSpec.ofChange fnExactWatchGapsSpec)

/-- ITS FALSE NEIGHBOUR: 'it returns false'. Refute it at one input. -/
def fnExactWatchGapsWrong : ChangeSpec := { name := "fnExactWatchGaps", fn := fun _ => fun
  | [d1, d2, d3, d4] => { results := [.lit (.bool false)], args := [d1, d2, d3, d4] }
  | _ => none }
def FnExactWatchGapsWrongFalsely : Prop := fnExactWatchGapsRow.holds Try.pinned (OpenSpec.ofChange fnExactWatchGapsWrong)

/-- 'laws.FnExactBroadcasts': WHATEVER THE INPUT: true; the input reads as it did. -/
def fnExactBroadcastsSpec : ChangeSpec := { name := "fnExactBroadcasts", fn := fun _ => fun
  | [d1, d2, d3, d4, d5] => { results := [.lit (.bool true)], args := [d1, d2, d3, d4, d5] }
  | _ => none }
def fnExactBroadcastsRow : OpenClaim := { program := "ytcmgdilpljiljaa", sum := "31087466c2e2b39d958bdc243fb3bfafbe4c5611bc29730d70c0aa2896a75cf2", func := "loop.example/g00953/laws.FnExactBroadcasts", spec := "fnExactBroadcasts", unfollowed := true, recurses := true, apart := false }
def FnExactBroadcastsSaid : Prop := fnExactBroadcastsRow.holds Try.pinned (OpenSpec.ofChange fnExactBroadcastsSpec)

/-- ITS FALSE NEIGHBOUR: 'it returns false'. Refute it at one input. -/
def fnExactBroadcastsWrong : ChangeSpec := { name := "fnExactBroadcasts", fn := fun _ => fun
  | [d1, d2, d3, d4, d5] => { results := [.lit (.bool false)], args := [d1, d2, d3, d4, d5] }
  | _ => none }
def FnExactBroadcastsWrongFalsely : Prop := fnExactBroadcastsRow.holds Try.pinned (OpenSpec.ofChange fnExactBroadcastsWrong)

/- THE SECOND FORM. 'bulk': how many values and letters a reading holds, each counted each time it is reached (what is shared counts as often as it is met; a slice's spare places count too). A statement '..UptoSaid' is the law's where the arguments, and the package variables that the reading takes, are together of bulk at most 1048576: NARROWER than '..Said'. Prove '..Said' where nothing that the law and all that it calls make is longer than what came in: it says more and counts as full. Else prove '..UptoSaid'. A law counts once. -/
mutual
def uptoBulk {H : Type} : DataW H → Nat
  | .lit (.string bytes) => bytes.length + 1
  | .lit _ => 1
  | .nil => 1
  | .ptr d => uptoBulk d + 1
  | .slice elems spare => uptoBulkAll elems + uptoBulkAll spare + 1
  | .agg parts => uptoBulkAll parts + 1
  | .iface _ d => uptoBulk d + 1
  | .map entries => uptoBulkEntries entries + 1
  | .held _ => 1
def uptoBulkAll {H : Type} : List (DataW H) → Nat
  | [] => 0
  | d :: r => uptoBulk d + uptoBulkAll r
def uptoBulkEntries {H : Type} : List (Lit × DataW H) → Nat
  | [] => 0
  | x :: r => uptoBulkEntry x + uptoBulkEntries r
def uptoBulkEntry {H : Type} : Lit × DataW H → Nat
  | (.string bytes, d) => bytes.length + uptoBulk d + 1
  | (_, d) => uptoBulk d + 1
 end
def uptoSmall : (H : Type) → List (DataW H) → Bool := fun _ ds => decide (uptoBulkAll ds ≤ 1048576)
def OpenSpec.upto (s : _root_.Go.ChangeSpec) : _root_.Go.OpenSpec := { _root_.Go.OpenSpec.ofChange s with cond := some uptoSmall }

/-- 'laws.FnExactDropDuty', WHERE WHAT IT READS IS OF BULK AT MOST 1048576: true; the input reads as it did. -/
def fnExactDropDutyUptoRow : OpenClaim := { program := "ytcmgdilpljiljaa", sum := "31087466c2e2b39d958bdc243fb3bfafbe4c5611bc29730d70c0aa2896a75cf2", func := "loop.example/g00953/laws.FnExactDropDuty", spec := "fnExactDropDuty", unfollowed := true, recurses := true, apart := false, narrowed := true }
def FnExactDropDutyUptoSaid : Prop := fnExactDropDutyUptoRow.holds Try.pinned (OpenSpec.upto fnExactDropDutySpec)

/-- 'laws.FnExactPlanVisits', WHERE WHAT IT READS IS OF BULK AT MOST 1048576: true; the input reads as it did. -/
def fnExactPlanVisitsUptoRow : OpenClaim := { program := "ytcmgdilpljiljaa", sum := "31087466c2e2b39d958bdc243fb3bfafbe4c5611bc29730d70c0aa2896a75cf2", func := "loop.example/g00953/laws.FnExactPlanVisits", spec := "fnExactPlanVisits", unfollowed := true, recurses := true, apart := false, narrowed := true }
def FnExactPlanVisitsUptoSaid : Prop := fnExactPlanVisitsUptoRow.holds Try.pinned (OpenSpec.upto fnExactPlanVisitsSpec)

/-- 'laws.FnAvailability', WHERE WHAT IT READS IS OF BULK AT MOST 1048576: true; the input reads as it did. -/
def fnAvailabilityUptoRow : OpenClaim := { program := "ytcmgdilpljiljaa", sum := "31087466c2e2b39d958bdc243fb3bfafbe4c5611bc29730d70c0aa2896a75cf2", func := "loop.example/g00953/laws.FnAvailability", spec := "fnAvailability", unfollowed := true, recurses := true, apart := false, narrowed := true }
def FnAvailabilityUptoSaid : Prop := fnAvailabilityUptoRow.holds Try.pinned (OpenSpec.upto fnAvailabilitySpec)

/-- 'laws.FnExactDueList', WHERE WHAT IT READS IS OF BULK AT MOST 1048576: true; the input reads as it did. -/
def fnExactDueListUptoRow : OpenClaim := { program := "ytcmgdilpljiljaa", sum := "31087466c2e2b39d958bdc243fb3bfafbe4c5611bc29730d70c0aa2896a75cf2", func := "loop.example/g00953/laws.FnExactDueList", spec := "fnExactDueList", unfollowed := true, recurses := true, apart := false, narrowed := true }
def FnExactDueListUptoSaid : Prop := fnExactDueListUptoRow.holds Try.pinned (OpenSpec.upto fnExactDueListSpec)

/-- 'laws.FnExactReportFault', WHERE WHAT IT READS IS OF BULK AT MOST 1048576: true; the input reads as it did. -/
def fnExactReportFaultUptoRow : OpenClaim := { program := "ytcmgdilpljiljaa", sum := "31087466c2e2b39d958bdc243fb3bfafbe4c5611bc29730d70c0aa2896a75cf2", func := "loop.example/g00953/laws.FnExactReportFault", spec := "fnExactReportFault", unfollowed := true, recurses := true, apart := false, narrowed := true }
def FnExactReportFaultUptoSaid : Prop := fnExactReportFaultUptoRow.holds Try.pinned (OpenSpec.upto fnExactReportFaultSpec)

/-- 'laws.FnExactFaultsAt', WHERE WHAT IT READS IS OF BULK AT MOST 1048576: true; the input reads as it did. -/
def fnExactFaultsAtUptoRow : OpenClaim := { program := "ytcmgdilpljiljaa", sum := "31087466c2e2b39d958bdc243fb3bfafbe4c5611bc29730d70c0aa2896a75cf2", func := "loop.example/g00953/laws.FnExactFaultsAt", spec := "fnExactFaultsAt", unfollowed := true, recurses := true, apart := false, narrowed := true }
def FnExactFaultsAtUptoSaid : Prop := fnExactFaultsAtUptoRow.holds Try.pinned (OpenSpec.upto fnExactFaultsAtSpec)

/-- 'laws.FnExactAddDuty', WHERE WHAT IT READS IS OF BULK AT MOST 1048576: true; the input reads as it did. -/
def fnExactAddDutyUptoRow : OpenClaim := { program := "ytcmgdilpljiljaa", sum := "31087466c2e2b39d958bdc243fb3bfafbe4c5611bc29730d70c0aa2896a75cf2", func := "loop.example/g00953/laws.FnExactAddDuty", spec := "fnExactAddDuty", unfollowed := true, recurses := true, apart := false, narrowed := true }
def FnExactAddDutyUptoSaid : Prop := fnExactAddDutyUptoRow.holds Try.pinned (OpenSpec.upto fnExactAddDutySpec)

/-- 'laws.FnExactOnDuty', WHERE WHAT IT READS IS OF BULK AT MOST 1048576: true; the input reads as it did. -/
def fnExactOnDutyUptoRow : OpenClaim := { program := "ytcmgdilpljiljaa", sum := "31087466c2e2b39d958bdc243fb3bfafbe4c5611bc29730d70c0aa2896a75cf2", func := "loop.example/g00953/laws.FnExactOnDuty", spec := "fnExactOnDuty", unfollowed := true, recurses := true, apart := false, narrowed := true }
def FnExactOnDutyUptoSaid : Prop := fnExactOnDutyUptoRow.holds Try.pinned (OpenSpec.upto fnExactOnDutySpec)

/-- 'laws.FnExactReplaceKeeper', WHERE WHAT IT READS IS OF BULK AT MOST 1048576: true; the input reads as it did. -/
def fnExactReplaceKeeperUptoRow : OpenClaim := { program := "ytcmgdilpljiljaa", sum := "31087466c2e2b39d958bdc243fb3bfafbe4c5611bc29730d70c0aa2896a75cf2", func := "loop.example/g00953/laws.FnExactReplaceKeeper", spec := "fnExactReplaceKeeper", unfollowed := true, recurses := true, apart := false, narrowed := true }
def FnExactReplaceKeeperUptoSaid : Prop := fnExactReplaceKeeperUptoRow.holds Try.pinned (OpenSpec.upto fnExactReplaceKeeperSpec)

/-- 'laws.FnExactBroadcastOrder', WHERE WHAT IT READS IS OF BULK AT MOST 1048576: true; the input reads as it did. -/
def fnExactBroadcastOrderUptoRow : OpenClaim := { program := "ytcmgdilpljiljaa", sum := "31087466c2e2b39d958bdc243fb3bfafbe4c5611bc29730d70c0aa2896a75cf2", func := "loop.example/g00953/laws.FnExactBroadcastOrder", spec := "fnExactBroadcastOrder", unfollowed := true, recurses := true, apart := false, narrowed := true }
def FnExactBroadcastOrderUptoSaid : Prop := fnExactBroadcastOrderUptoRow.holds Try.pinned (OpenSpec.upto fnExactBroadcastOrderSpec)

/-- 'laws.FnExactWatchGaps', WHERE WHAT IT READS IS OF BULK AT MOST 1048576: true; the input reads as it did. -/
def fnExactWatchGapsUptoRow : OpenClaim := { program := "ytcmgdilpljiljaa", sum := "31087466c2e2b39d958bdc243fb3bfafbe4c5611bc29730d70c0aa2896a75cf2", func := "loop.example/g00953/laws.FnExactWatchGaps", spec := "fnExactWatchGaps", unfollowed := true, recurses := true, apart := false, narrowed := true }
def FnExactWatchGapsUptoSaid : Prop := fnExactWatchGapsUptoRow.holds Try.pinned (OpenSpec.upto fnExactWatchGapsSpec)

/-- 'laws.FnExactBroadcasts', WHERE WHAT IT READS IS OF BULK AT MOST 1048576: true; the input reads as it did. -/
def fnExactBroadcastsUptoRow : OpenClaim := { program := "ytcmgdilpljiljaa", sum := "31087466c2e2b39d958bdc243fb3bfafbe4c5611bc29730d70c0aa2896a75cf2", func := "loop.example/g00953/laws.FnExactBroadcasts", spec := "fnExactBroadcasts", unfollowed := true, recurses := true, apart := false, narrowed := true }
def FnExactBroadcastsUptoSaid : Prop := fnExactBroadcastsUptoRow.holds Try.pinned (OpenSpec.upto fnExactBroadcastsSpec)

end Rows
end Go.Proofs.Ytcmgdilpljiljaa
