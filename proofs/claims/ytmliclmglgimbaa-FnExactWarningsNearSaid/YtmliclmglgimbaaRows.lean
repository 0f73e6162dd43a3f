/-
  No cell of these rows narrows 'for every input' (looked for: loops, veiled, ifaces, maps, wideKeys, modest, calm, conditions, laid).
  DERIVED. THE GIVEN ROWS OF THIS SEAT. 12 by the template 'for every input the law returns true; each argument reads behind the call as it read before'; 0 by the template 'total and deterministic' (their statements: YtmliclmglgimbaaTotals.lean).
  GIVEN WITH THE SEED: the statements are not yours to turn. If you find one false, say at which input.
  Laid BY PROGRAM, IN A SANDBOX (cutbox-rows.mjs): the forced cells as the released guide's own fill.sh prints them over the translation 13597937832149e2… (all of the seat's roots in one cut). By AI agents, Wed Nov 11 2026. No macro, syntax, notation, axiom, sorry.
-/
import Derived.Test.YtmliclmglgimbaaChecked
import GoSem.Claim
import GoSem.ClaimJoined
import GoSem.ClaimMapViews
import Derived.JoinedTies
import Derived.KernelRfl
namespace Go.Proofs.Ytmliclmglgimbaa
/- THE CELL 'sum', in the pinned program and in every row, IS THE sha256 OF THE DUMP (.gsa) THAT YtmliclmglgimbaaProg.lean LOADS. Nothing in Lean hashes anything: it is a label: what it is worth is what the hold of that sum in a sandbox is worth. -/
noncomputable def Try.pinned : Pinned := { name := "ytmliclmglgimbaa", sum := "13597937832149e2fc9915fc08b6572115a38e65257303501503c14644161679", checked := Try.checked }
namespace Rows
def none {H : Type} : Left H := { results := [], args := [] }

/-- 'laws.FnExactCheckPlan': WHATEVER THE INPUT: true; the input reads as it did. -/
def fnExactCheckPlanSpec : ChangeSpec := { name := "fnExactCheckPlan", fn := fun _ => fun
  | [d1, d2, d3, d4] => { results := [.lit (.bool true)], args := [d1, d2, d3, d4] }
  | _ => none }
def fnExactCheckPlanRow : OpenClaim := { program := "ytmliclmglgimbaa", sum := "13597937832149e2fc9915fc08b6572115a38e65257303501503c14644161679", func := "loop.example/g00953/laws.FnExactCheckPlan", spec := "fnExactCheckPlan", unfollowed := true, recurses := true, apart := false }
def FnExactCheckPlanSaid : Prop := fnExactCheckPlanRow.holds Try.pinned (OpenSpec.ofChange fnExactCheckPlanSpec)

/-- ITS FALSE NEIGHBOUR: 'it returns false'. Refute it at one input. -/
def fnExactCheckPlanWrong : ChangeSpec := { name := "fnExactCheckPlan", fn := fun _ => fun
  | [d1, d2, d3, d4] => { results := [.lit (.bool false)], args := [d1, d2, d3, d4] }
  | _ => none }
def FnExactCheckPlanWrongFalsely : Prop := fnExactCheckPlanRow.holds Try.pinned (OpenSpec.ofChange fnExactCheckPlanWrong)

/-- 'laws.FnExactDutiesOf': WHATEVER THE INPUT: true; the input reads as it did. -/
def fnExactDutiesOfSpec : ChangeSpec := { name := "fnExactDutiesOf", fn := fun _ => fun
  | [d1, d2] => { results := [.lit (.bool true)], args := [d1, d2] }
  | _ => none }
def fnExactDutiesOfRow : OpenClaim := { program := "ytmliclmglgimbaa", sum := "13597937832149e2fc9915fc08b6572115a38e65257303501503c14644161679", func := "loop.example/g00953/laws.FnExactDutiesOf", spec := "fnExactDutiesOf", unfollowed := true, recurses := true, apart := false }
def FnExactDutiesOfSaid : Prop := fnExactDutiesOfRow.holds Try.pinned (OpenSpec.ofChange fnExactDutiesOfSpec)

/-- ITS FALSE NEIGHBOUR: 'it returns false'. Refute it at one input. -/
def fnExactDutiesOfWrong : ChangeSpec := { name := "fnExactDutiesOf", fn := fun _ => fun
  | [d1, d2] => { results := [.lit (.bool false)], args := [d1, d2] }
  | _ => none }
def FnExactDutiesOfWrongFalsely : Prop := fnExactDutiesOfRow.holds Try.pinned (OpenSpec.ofChange fnExactDutiesOfWrong)

/-- 'laws.FnExactMinutesOf': WHATEVER THE INPUT: true; the input reads as it did. -/
def fnExactMinutesOfSpec : ChangeSpec := { name := "fnExactMinutesOf", fn := fun _ => fun
  | [d1, d2, d3, d4] => { results := [.lit (.bool true)], args := [d1, d2, d3, d4] }
  | _ => none }
def fnExactMinutesOfRow : OpenClaim := { program := "ytmliclmglgimbaa", sum := "13597937832149e2fc9915fc08b6572115a38e65257303501503c14644161679", func := "loop.example/g00953/laws.FnExactMinutesOf", spec := "fnExactMinutesOf", unfollowed := true, recurses := true, apart := false }
def FnExactMinutesOfSaid : Prop := fnExactMinutesOfRow.holds Try.pinned (OpenSpec.ofChange fnExactMinutesOfSpec)

/-- ITS FALSE NEIGHBOUR: 'it returns false'. Refute it at one input. -/
def fnExactMinutesOfWrong : ChangeSpec := { name := "fnExactMinutesOf", fn := fun _ => fun
  | [d1, d2, d3, d4] => { results := [.lit (.bool false)], args := [d1, d2, d3, d4] }
  | _ => none }
def FnExactMinutesOfWrongFalsely : Prop := fnExactMinutesOfRow.holds Try.pinned (OpenSpec.ofChange fnExactMinutesOfWrong)

/-- 'laws.FnExactDropDuty': WHATEVER THE INPUT: true; the input reads as it did. -/
def fnExactDropDutySpec : ChangeSpec := { name := "fnExactDropDuty", fn := fun _ => fun
  | [d1, d2, d3] => { results := [.lit (.bool true)], args := [d1, d2, d3] }
  | _ => none }
def fnExactDropDutyRow : OpenClaim := { program := "ytmliclmglgimbaa", sum := "13597937832149e2fc9915fc08b6572115a38e65257303501503c14644161679", func := "loop.example/g00953/laws.FnExactDropDuty", spec := "fnExactDropDuty", unfollowed := true, recurses := true, apart := false }
def FnExactDropDutySaid : Prop := fnExactDropDutyRow.holds Try.pinned (OpenSpec.ofChange fnExactDropDutySpec)

/-- ITS FALSE NEIGHBOUR: 'it returns false'. Refute it at one input. -/
def fnExactDropDutyWrong : ChangeSpec := { name := "fnExactDropDuty", fn := fun _ => fun
  | [d1, d2, d3] => { results := [.lit (.bool false)], args := [d1, d2, d3] }
  | _ => none }
def FnExactDropDutyWrongFalsely : Prop := fnExactDropDutyRow.holds Try.pinned (OpenSpec.ofChange fnExactDropDutyWrong)

/-- 'laws.FnExactActiveWarnings': WHATEVER THE INPUT: true; the input reads as it did. -/
def fnExactActiveWarningsSpec : ChangeSpec := { name := "fnExactActiveWarnings", fn := fun _ => fun
  | [d1, d2] => { results := [.lit (.bool true)], args := [d1, d2] }
  | _ => none }
def fnExactActiveWarningsRow : OpenClaim := { program := "ytmliclmglgimbaa", sum := "13597937832149e2fc9915fc08b6572115a38e65257303501503c14644161679", func := "loop.example/g00953/laws.FnExactActiveWarnings", spec := "fnExactActiveWarnings", unfollowed := true, recurses := true, apart := false }
def FnExactActiveWarningsSaid : Prop := fnExactActiveWarningsRow.holds Try.pinned (OpenSpec.ofChange fnExactActiveWarningsSpec)

/-- ITS FALSE NEIGHBOUR: 'it returns false'. Refute it at one input. -/
def fnExactActiveWarningsWrong : ChangeSpec := { name := "fnExactActiveWarnings", fn := fun _ => fun
  | [d1, d2] => { results := [.lit (.bool false)], args := [d1, d2] }
  | _ => none }
def FnExactActiveWarningsWrongFalsely : Prop := fnExactActiveWarningsRow.holds Try.pinned (OpenSpec.ofChange fnExactActiveWarningsWrong)

/-- 'laws.FnExactPlanVisits': WHATEVER THE INPUT: true; the input reads as it did. -/
def fnExactPlanVisitsSpec : ChangeSpec := { name := "fnExactPlanVisits", fn := fun _ => fun
  | [d1, d2, d3, d4, d5] => { results := [.lit (.bool true)], args := [d1, d2, d3, d4, d5] }
  | _ => none }
def fnExactPlanVisitsRow : OpenClaim := { program := "ytmliclmglgimbaa", sum := "13597937832149e2fc9915fc08b6572115a38e65257303501503c14644161679", func := "loop.example/g00953/laws.FnExactPlanVisits", spec := "fnExactPlanVisits", unfollowed := true, recurses := true, apart := false }
def FnExactPlanVisitsSaid : Prop := fnExactPlanVisitsRow.holds Try.pinned (OpenSpec.ofChange fnExactPlanVisitsSpec)

/-- ITS FALSE NEIGHBOUR: 'it returns false'. Refute it at one input. -/
def fnExactPlanVisitsWrong : ChangeSpec := { name := "fnExactPlanVisits", fn := fun _ => fun
  | [d1, d2, d3, d4, d5] => { results := [.lit (.bool false)], args := [d1, d2, d3, d4, d5] }
  | _ => none }
def FnExactPlanVisitsWrongFalsely : Prop := fnExactPlanVisitsRow.holds Try.pinned (OpenSpec.ofChange fnExactPlanVisitsWrong)

/-- 'laws.FnExactUnevenBy': WHATEVER THE INPUT: true; the input reads as it did. -/
def fnExactUnevenBySpec : ChangeSpec := { name := "fnExactUnevenBy", fn := fun _ => fun
  | [d1, d2] => { results := [.lit (.bool true)], args := [d1, d2] }
  | _ => none }
def fnExactUnevenByRow : OpenClaim := { program := "ytmliclmglgimbaa", sum := "13597937832149e2fc9915fc08b6572115a38e65257303501503c14644161679", func := "loop.example/g00953/laws.FnExactUnevenBy", spec := "fnExactUnevenBy", unfollowed := true, recurses := true, apart := false }
def FnExactUnevenBySaid : Prop := fnExactUnevenByRow.holds Try.pinned (OpenSpec.ofChange fnExactUnevenBySpec)

/-- ITS FALSE NEIGHBOUR: 'it returns false'. Refute it at one input. -/
def fnExactUnevenByWrong : ChangeSpec := { name := "fnExactUnevenBy", fn := fun _ => fun
  | [d1, d2] => { results := [.lit (.bool false)], args := [d1, d2] }
  | _ => none }
def FnExactUnevenByWrongFalsely : Prop := fnExactUnevenByRow.holds Try.pinned (OpenSpec.ofChange fnExactUnevenByWrong)

/-- 'laws.FnAvailability': WHATEVER THE INPUT: true; the input reads as it did. -/
def fnAvailabilitySpec : ChangeSpec := { name := "fnAvailability", fn := fun _ => fun
  | [d1, d2] => { results := [.lit (.bool true)], args := [d1, d2] }
  | _ => none }
def fnAvailabilityRow : OpenClaim := { program := "ytmliclmglgimbaa", sum := "13597937832149e2fc9915fc08b6572115a38e65257303501503c14644161679", func := "loop.example/g00953/laws.FnAvailability", spec := "fnAvailability", unfollowed := true, recurses := true, apart := false }
def FnAvailabilitySaid : Prop := fnAvailabilityRow.holds Try.pinned (OpenSpec.ofChange fnAvailabilitySpec)

/-- ITS FALSE NEIGHBOUR: 'it returns false'. Refute it at one input. -/
def fnAvailabilityWrong : ChangeSpec := { name := "fnAvailability", fn := fun _ => fun
  | [d1, d2] => { results := [.lit (.bool false)], args := [d1, d2] }
  | _ => none }
def FnAvailabilityWrongFalsely : Prop := fnAvailabilityRow.holds Try.pinned (OpenSpec.ofChange fnAvailabilityWrong)

/-- 'laws.FnExactWarningsNear': WHATEVER THE INPUT: true; the input reads as it did. -/
def fnExactWarningsNearSpec : ChangeSpec := { name := "fnExactWarningsNear", fn := fun _ => fun
  | [d1, d2, d3, d4] => { results := [.lit (.bool true)], args := [d1, d2, d3, d4] }
  | _ => none }
def fnExactWarningsNearRow : OpenClaim := { program := "ytmliclmglgimbaa", sum := "13597937832149e2fc9915fc08b6572115a38e65257303501503c14644161679", func := "loop.example/g00953/laws.FnExactWarningsNear", spec := "fnExactWarningsNear", unfollowed := true, recurses := true, apart := false }
def FnExactWarningsNearSaid : Prop := fnExactWarningsNearRow.holds Try.pinned (OpenSpec.ofChange fnExactWarningsNearSpec)

/-- ITS FALSE NEIGHBOUR: 'it returns false'. Refute it at one input. -/
def fnExactWarningsNearWrong : ChangeSpec := { name := "fnExactWarningsNear", fn := fun _ => fun
  | [d1, d2, d3, d4] => { results := [.lit (.bool false)], args := [d1, d2, d3, d4] }
  | _ => none }
def FnExactWarningsNearWrongFalsely : Prop := fnExactWarningsNearRow.holds Try.pinned (OpenSpec.ofChange fnExactWarningsNearWrong)

/-- 'laws.FnExactDueList': WHATEVER THE INPUT: true; the input reads as it did. -/
def fnExactDueListSpec : ChangeSpec := { name := "fnExactDueList", fn := fun _ => fun
  | [d1, d2] => { results := [.lit (.bool true)], args := [d1, d2] }
  | _ => none }
def fnExactDueListRow : OpenClaim := { program := "ytmliclmglgimbaa", sum := "13597937832149e2fc9915fc08b6572115a38e65257303501503c14644161679", func := "loop.example/g00953/laws.FnExactDueList", spec := "fnExactDueList", unfollowed := true, recurses := true, apart := false }
def FnExactDueListSaid : Prop := fnExactDueListRow.holds Try.pinned (OpenSpec.ofChange fnExactDueListSpec)

/-- ITS FALSE NEIGHBOUR: 'it returns false'. Refute it at one input. -/
def fnExactDueListWrong : ChangeSpec := { name := "fnExactDueList", fn := fun _ => fun
  | [d1, d2] => { results := [.lit (.bool false)], args := [d1, d2] }
  | _ => none }
def FnExactDueListWrongFalsely : Prop := fnExactDueListRow.holds Try.pinned (OpenSpec.ofChange fnExactDueListWrong)

/-- 'laws.FnExactReportFault': WHATEVER THE INPUT: true; the input reads as it did. -/
def fnExactReportFaultSpec : ChangeSpec := { name := "fnExactReportFault", fn := fun _ => fun
  | [d1, d2, d3, d4] => { results := [.lit (.bool true)], args := [d1, d2, d3, d4] }
  | _ => none }
def fnExactReportFaultRow : OpenClaim := { program := "ytmliclmglgimbaa", sum := "13597937832149e2fc9915fc08b6572115a38e65257303501503c14644161679", func := "loop.example/g00953/laws.FnExactReportFault", spec := "fnExactReportFault", unfollowed := true, recurses := true, apart := false }
def FnExactReportFaultSaid : Prop := fnExactReportFaultRow.holds Try.pinned (OpenSpec.ofChange fnExactReportFaultSpec)

/-- ITS FALSE NEIGHBOUR: 'it returns false'. Refute it at one input. -/
def fnExactReportFaultWrong : ChangeSpec := { name := "fnExactReportFault", fn := fun _ => fun
  | [d1, d2, d3, d4] => { results := [.lit (.bool false)], args := [d1, d2, d3, d4] }
  | _ => none }
def FnExactReportFaultWrongFalsely : Prop := fnExactReportFaultRow.holds Try.pinned (OpenSpec.ofChange fnExactReportFaultWrong)

/-- 'laws.FnExactFaultsAt': WHATEVER THE INPUT: true; the input reads as it did. -/
def fnExactFaultsAtSpec : ChangeSpec := { name := "fnExactFaultsAt", fn := fun _ => fun
  | [d1, d2, d3] => { results := [.lit (.bool true)], args := [d1, d2, d3] }
  | _ => none }
def fnExactFaultsAtRow : OpenClaim := { program := "ytmliclmglgimbaa", sum := "13597937832149e2fc9915fc08b6572115a38e65257303501503c14644161679", func := "loop.example/g00953/laws.FnExactFaultsAt", spec := "fnExactFaultsAt", unfollowed := true, recurses := true, apart := false }
def FnExactFaultsAtSaid : Prop := fnExactFaultsAtRow.holds Try.pinned (OpenSpec.ofChange fnExactFaultsAtSpec)

/-- ITS FALSE NEIGHBOUR: 'it returns false'. Refute it at one input. -/
def fnExactFaultsAtWrong : ChangeSpec := { name := "fnExactFaultsAt", fn := fun _ => fun
  | [d1, d2, d3] => { results := [.lit (.bool false)], args := [d1, d2, d3] }
  | _ => none }
def FnExactFaultsAtWrongFalsely : Prop := fnExactFaultsAtRow.holds Try.pinned (OpenSpec.ofChange fnExactFaultsAtWrong)

/- THE SECOND FORM. 'bulk': how many values and letters a reading holds, each counted each time it is reached (what is shared counts as often as it is met; a slice's spare places count too). A statement '..UptoSaid' is the law's where the arguments, and the package variables that the reading takes, are together of bulk at most 1048576: NARROWER than '..Said'. Prove '..Said' where nothing that the law and all that it calls make is longer than what came in: it says more and counts as full. Else prove '..UptoSaid'. A law counts once. -/
mutual
def uptoBulk {H : Type} : DataW H → Nat
  | .lit (.string bytes) => bytes.length + 1
  | .lit _ => 1
  | .nil => 1
  | .ptr d => uptoBulk d + 1
  | .slice elems spare => uptoBulkAll elems + uptoBulkAll spare + 1
  | .agg parts => uptoBulkAll parts + 1
  | .iface _ d => uptoBulk d + 1
  | .map entries => uptoBulkEntries entries + 1
  | .held _ => 1
def uptoBulkAll {H : Type} : List (DataW H) → Nat
  | [] => 0
  | d :: r => uptoBulk d + uptoBulkAll r
def uptoBulkEntries {H : Type} : List (Lit × DataW H) → Nat
  | [] => 0
  | x :: r => uptoBulkEntry x + uptoBulkEntries r
def uptoBulkEntry {H : Type} : Lit × DataW H → Nat
  | (.string bytes, d) => bytes.length + uptoBulk d + 1
  | (_, d) => uptoBulk d + 1
 end
def uptoSmall : (H : Type) → List (DataW H) → Bool := fun _ ds => decide (uptoBulkAll ds ≤ 1048576)
def OpenSpec.upto (s : _root_.Go.ChangeSpec) : _root_.Go.OpenSpec := { _root_.Go.OpenSpec.ofChange s with cond := some uptoSmall }

/-- 'laws.FnExactCheckPlan', WHERE WHAT IT READS IS OF BULK AT MOST 1048576: true; the input reads as it did. -/
def fnExactCheckPlanUptoRow : OpenClaim := { program := "ytmliclmglgimbaa", sum := "13597937832149e2fc9915fc08b6572115a38e65257303501503c14644161679", func := "loop.example/g00953/laws.FnExactCheckPlan", spec := "fnExactCheckPlan", unfollowed := true, recurses := true, apart := false, narrowed := true }
def FnExactCheckPlanUptoSaid : Prop := fnExactCheckPlanUptoRow.holds Try.pinned (OpenSpec.upto fnExactCheckPlanSpec)

/-- 'laws.FnExactDutiesOf', WHERE WHAT IT READS IS OF BULK AT MOST 1048576: true; the input reads as it did. -/
def fnExactDutiesOfUptoRow : OpenClaim := { program := "ytmliclmglgimbaa", sum := "13597937832149e2fc9915fc08b6572115a38e65257303501503c14644161679", func := "loop.example/g00953/laws.FnExactDutiesOf", spec := "fnExactDutiesOf", unfollowed := true, recurses := true, apart := false, narrowed := true }
def FnExactDutiesOfUptoSaid : Prop := fnExactDutiesOfUptoRow.holds Try.pinned (OpenSpec.upto fnExactDutiesOfSpec)

/-- 'laws.FnExactMinutesOf', WHERE WHAT IT READS IS OF BULK AT MOST 1048576: true; the input reads as it did. -/
def fnExactMinutesOfUptoRow : OpenClaim := { program := "ytmliclmglgimbaa", sum := "13597937832149e2fc9915fc08b6572115a38e65257303501503c14644161679", func := "loop.example/g00953/laws.FnExactMinutesOf", spec := "fnExactMinutesOf", unfollowed := true, recurses := true, apart := false, narrowed := true }
def FnExactMinutesOfUptoSaid : Prop := fnExactMinutesOfUptoRow.holds Try.pinned (OpenSpec.upto fnExactMinutesOfSpec)

/-- 'laws.FnExactDropDuty', WHERE WHAT IT READS IS OF BULK AT MOST 1048576: true; the input reads as it did. -/
def fnExactDropDutyUptoRow : OpenClaim := { program := "ytmliclmglgimbaa", sum := "13597937832149e2fc9915fc08b6572115a38e65257303501503c14644161679", func := "loop.example/g00953/laws.FnExactDropDuty", spec := "fnExactDropDuty", unfollowed := true, recurses := true, apart := false, narrowed := true }
def FnExactDropDutyUptoSaid : Prop := fnExactDropDutyUptoRow.holds Try.pinned (OpenSpec.upto fnExactDropDutySpec)

/-- 'laws.FnExactActiveWarnings', WHERE WHAT IT READS IS OF BULK AT MOST 1048576: true; the input reads as it did. -/
def fnExactActiveWarningsUptoRow : OpenClaim := { program := "ytmliclmglgimbaa", sum := "13597937832149e2fc9915fc08b6572115a38e65257303501503c14644161679", func := "loop.example/g00953/laws.FnExactActiveWarnings", spec := "fnExactActiveWarnings", unfollowed := true, recurses := true, apart := false, narrowed := true }
def FnExactActiveWarningsUptoSaid : Prop := fnExactActiveWarningsUptoRow.holds Try.pinned (OpenSpec.upto fnExactActiveWarningsSpec)

/-- 'laws.FnExactPlanVisits', WHERE WHAT IT READS IS OF BULK AT MOST 1048576: true; the input reads as it did. -/
def fnExactPlanVisitsUptoRow : OpenClaim := { program := "ytmliclmglgimbaa", sum := "13597937832149e2fc9915fc08b6572115a38e65257303501503c14644161679", func := "loop.example/g00953/laws.FnExactPlanVisits", spec := "fnExactPlanVisits", unfollowed := true, recurses := true, apart := false, narrowed := true }
def FnExactPlanVisitsUptoSaid : Prop := fnExactPlanVisitsUptoRow.holds Try.pinned (OpenSpec.upto fnExactPlanVisitsSpec)

/-- 'laws.FnExactUnevenBy', WHERE WHAT IT READS IS OF BULK AT MOST 1048576: true; the input reads as it did. -/
def fnExactUnevenByUptoRow : OpenClaim := { program := "ytmliclmglgimbaa", sum := "13597937832149e2fc9915fc08b6572115a38e65257303501503c14644161679", func := "loop.example/g00953/laws.FnExactUnevenBy", spec := "fnExactUnevenBy", unfollowed := true, recurses := true, apart := false, narrowed := true }
def FnExactUnevenByUptoSaid : Prop := fnExactUnevenByUptoRow.holds Try.pinned (OpenSpec.upto fnExactUnevenBySpec)

/-- 'laws.FnAvailability', WHERE WHAT IT READS IS OF BULK AT MOST 1048576: true; the input reads as it did. -/
def fnAvailabilityUptoRow : OpenClaim := { program := "ytmliclmglgimbaa", sum := "13597937832149e2fc9915fc08b6572115a38e65257303501503c14644161679", func := "loop.example/g00953/laws.FnAvailability", spec := "fnAvailability", unfollowed := true, recurses := true, apart := false, narrowed := true }
def FnAvailabilityUptoSaid : Prop := fnAvailabilityUptoRow.holds Try.pinned (OpenSpec.upto fnAvailabilitySpec)

/-- 'laws.FnExactWarningsNear', WHERE WHAT IT READS IS OF BULK AT MOST 1048576: true; the input reads as it did. -/
def fnExactWarningsNearUptoRow : OpenClaim := { program := "ytmliclmglgimbaa", sum := "13597937832149e2fc9915fc08b6572115a38e65257303501503c14644161679", func := "loop.example/g00953/laws.FnExactWarningsNear", spec := "fnExactWarningsNear", unfollowed := true, recurses := true, apart := false, narrowed := true }
def FnExactWarningsNearUptoSaid : Prop := fnExactWarningsNearUptoRow.holds Try.pinned (OpenSpec.upto fnExactWarningsNearSpec)

/-- 'laws.FnExactDueList', WHERE WHAT IT READS IS OF BULK AT MOST 1048576: true; the input reads as it did. -/
def fnExactDueListUptoRow : OpenClaim := { program := "ytmliclmglgimbaa", sum := "13597937832149e2fc9915fc08b6572115a38e65257303501503c14644161679", func := "loop.example/g00953/laws.FnExactDueList", spec := "fnExactDueList", unfollowed := true, recurses := true, apart := false, narrowed := true }
def FnExactDueListUptoSaid : Prop := fnExactDueListUptoRow.holds Try.pinned (OpenSpec.upto fnExactDueListSpec)

/-- 'laws.FnExactReportFault', WHERE WHAT IT READS IS OF BULK AT MOST 1048576: true; the input reads as it did. -/
def fnExactReportFaultUptoRow : OpenClaim := { program := "ytmliclmglgimbaa", sum := "13597937832149e2fc9915fc08b6572115a38e65257303501503c14644161679", func := "loop.example/g00953/laws.FnExactReportFault", spec := "fnExactReportFault", unfollowed := true, recurses := true, apart := false, narrowed := true }
def FnExactReportFaultUptoSaid : Prop := fnExactReportFaultUptoRow.holds Try.pinned (OpenSpec.upto fnExactReportFaultSpec)

/-- 'laws.FnExactFaultsAt', WHERE WHAT IT READS IS OF BULK AT MOST 1048576: true; the input reads as it did. -/
def fnExactFaultsAtUptoRow : OpenClaim := { program := "ytmliclmglgimbaa", sum := "13597937832149e2fc9915fc08b6572115a38e65257303501503c14644161679", func := "loop.example/g00953/laws.FnExactFaultsAt", spec := "fnExactFaultsAt", unfollowed := true, recurses := true, apart := false, narrowed := true }
def FnExactFaultsAtUptoSaid : Prop := fnExactFaultsAtUptoRow.holds Try.pinned (OpenSpec.upto fnExactFaultsAtSpec)

end Rows
end Go.Proofs.Ytmliclmglgimbaa
