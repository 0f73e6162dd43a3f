/-
  No cell of these rows narrows 'for every input' (looked for: loops, veiled, ifaces, maps, wideKeys, modest, calm, conditions, laid).
  DERIVED. THE GIVEN ROWS OF THIS SEAT. 7 by the template 'for every input the law returns true; each argument reads behind the call as it read before'; 0 by the template 'total and deterministic' (their statements: YtdmckfdecbhalaaTotals.lean).
  GIVEN WITH THE SEED: the statements are not yours to turn. If you find one false, say at which input.
  Laid BY PROGRAM, IN A SANDBOX (cutbox-rows.mjs): the forced cells as the released guide's own fill.sh prints them over the translation 7400eed9a04db8e7… (all of the seat's roots in one cut). By AI agents, Wed Nov 11 2026. No macro, syntax, notation, axiom, sorry.
-/
import Derived.Test.YtdmckfdecbhalaaChecked
import GoSem.Claim
import GoSem.ClaimJoined
import GoSem.ClaimMapViews
import Derived.JoinedTies
import Derived.KernelRfl
namespace Go.Proofs.Ytdmckfdecbhalaa
/- THE CELL 'sum', in the pinned program and in every row, IS THE sha256 OF THE DUMP (.gsa) THAT YtdmckfdecbhalaaProg.lean LOADS. Nothing in Lean hashes anything: it is a label: what it is worth is what the hold of that sum in a sandbox is worth. -/
noncomputable def Try.pinned : Pinned := { name := "ytdmckfdecbhalaa", sum := "7400eed9a04db8e7c57dfe036ac95cd8ab385dcf6a75ccb6df35d9a60ea91fb7", checked := Try.checked }
namespace Rows
def none {H : Type} : Left H := { results := [], args := [] }

/-- 'laws.FnExactFindingName': WHATEVER THE INPUT: true; the input reads as it did. -/
def fnExactFindingNameSpec : ChangeSpec := { name := "fnExactFindingName", fn := fun _ => fun
  | [d] => { results := [.lit (.bool true)], args := [d] }
  | _ => none }
def fnExactFindingNameRow : OpenClaim := { program := "ytdmckfdecbhalaa", sum := "7400eed9a04db8e7c57dfe036ac95cd8ab385dcf6a75ccb6df35d9a60ea91fb7", func := "loop.example/g00953/laws.FnExactFindingName", spec := "fnExactFindingName", apart := false }
def FnExactFindingNameSaid : Prop := fnExactFindingNameRow.holds Try.pinned (OpenSpec.ofChange fnExactFindingNameSpec)

/-- ITS FALSE NEIGHBOUR: 'it returns false'. Refute it at one input. -/
def fnExactFindingNameWrong : ChangeSpec := { name := "fnExactFindingName", fn := fun _ => fun
  | [d] => { results := [.lit (.bool false)], args := [d] }
  | _ => none }
def FnExactFindingNameWrongFalsely : Prop := fnExactFindingNameRow.holds Try.pinned (OpenSpec.ofChange fnExactFindingNameWrong)

/-- 'laws.FnExactDueDay': WHATEVER THE INPUT: true; the input reads as it did. -/
def fnExactDueDaySpec : ChangeSpec := { name := "fnExactDueDay", fn := fun _ => fun
  | [d] => { results := [.lit (.bool true)], args := [d] }
  | _ => none }
def fnExactDueDayRow : OpenClaim := { program := "ytdmckfdecbhalaa", sum := "7400eed9a04db8e7c57dfe036ac95cd8ab385dcf6a75ccb6df35d9a60ea91fb7", func := "loop.example/g00953/laws.FnExactDueDay", spec := "fnExactDueDay", apart := false }
def FnExactDueDaySaid : Prop := fnExactDueDayRow.holds Try.pinned (OpenSpec.ofChange fnExactDueDaySpec)

/-- ITS FALSE NEIGHBOUR: 'it returns false'. Refute it at one input. -/
def fnExactDueDayWrong : ChangeSpec := { name := "fnExactDueDay", fn := fun _ => fun
  | [d] => { results := [.lit (.bool false)], args := [d] }
  | _ => none }
def FnExactDueDayWrongFalsely : Prop := fnExactDueDayRow.holds Try.pinned (OpenSpec.ofChange fnExactDueDayWrong)

/-- 'laws.FnExactFindingText': WHATEVER THE INPUT: true; the input reads as it did. -/
def fnExactFindingTextSpec : ChangeSpec := { name := "fnExactFindingText", fn := fun _ => fun
  | [d] => { results := [.lit (.bool true)], args := [d] }
  | _ => none }
def fnExactFindingTextRow : OpenClaim := { program := "ytdmckfdecbhalaa", sum := "7400eed9a04db8e7c57dfe036ac95cd8ab385dcf6a75ccb6df35d9a60ea91fb7", func := "loop.example/g00953/laws.FnExactFindingText", spec := "fnExactFindingText", apart := false }
def FnExactFindingTextSaid : Prop := fnExactFindingTextRow.holds Try.pinned (OpenSpec.ofChange fnExactFindingTextSpec)

/-- ITS FALSE NEIGHBOUR: 'it returns false'. Refute it at one input. -/
def fnExactFindingTextWrong : ChangeSpec := { name := "fnExactFindingText", fn := fun _ => fun
  | [d] => { results := [.lit (.bool false)], args := [d] }
  | _ => none }
def FnExactFindingTextWrongFalsely : Prop := fnExactFindingTextRow.holds Try.pinned (OpenSpec.ofChange fnExactFindingTextWrong)

/-- 'laws.FnExactLateBy': WHATEVER THE INPUT: true; the input reads as it did. -/
def fnExactLateBySpec : ChangeSpec := { name := "fnExactLateBy", fn := fun _ => fun
  | [d1, d2, d3] => { results := [.lit (.bool true)], args := [d1, d2, d3] }
  | _ => none }
def fnExactLateByRow : OpenClaim := { program := "ytdmckfdecbhalaa", sum := "7400eed9a04db8e7c57dfe036ac95cd8ab385dcf6a75ccb6df35d9a60ea91fb7", func := "loop.example/g00953/laws.FnExactLateBy", spec := "fnExactLateBy", unfollowed := true, recurses := true, apart := false }
def FnExactLateBySaid : Prop := fnExactLateByRow.holds Try.pinned (OpenSpec.ofChange fnExactLateBySpec)

/-- ITS FALSE NEIGHBOUR: 'it returns false'. Refute it at one input. -/
def fnExactLateByWrong : ChangeSpec := { name := "fnExactLateBy", fn := fun _ => fun
  | [d1, d2, d3] => { results := [.lit (.bool false)], args := [d1, d2, d3] }
  | _ => none }
def FnExactLateByWrongFalsely : Prop := fnExactLateByRow.holds Try.pinned (OpenSpec.ofChange fnExactLateByWrong)

/-- 'laws.FnExactCountFindings': WHATEVER THE INPUT: true; the input reads as it did. -/
def fnExactCountFindingsSpec : ChangeSpec := { name := "fnExactCountFindings", fn := fun _ => fun
  | [d] => { results := [.lit (.bool true)], args := [d] }
  | _ => none }
def fnExactCountFindingsRow : OpenClaim := { program := "ytdmckfdecbhalaa", sum := "7400eed9a04db8e7c57dfe036ac95cd8ab385dcf6a75ccb6df35d9a60ea91fb7", func := "loop.example/g00953/laws.FnExactCountFindings", spec := "fnExactCountFindings", apart := false }
def FnExactCountFindingsSaid : Prop := fnExactCountFindingsRow.holds Try.pinned (OpenSpec.ofChange fnExactCountFindingsSpec)

/-- ITS FALSE NEIGHBOUR: 'it returns false'. Refute it at one input. -/
def fnExactCountFindingsWrong : ChangeSpec := { name := "fnExactCountFindings", fn := fun _ => fun
  | [d] => { results := [.lit (.bool false)], args := [d] }
  | _ => none }
def FnExactCountFindingsWrongFalsely : Prop := fnExactCountFindingsRow.holds Try.pinned (OpenSpec.ofChange fnExactCountFindingsWrong)

/-- 'laws.FnExactNextDue': WHATEVER THE INPUT: true; the input reads as it did. -/
def fnExactNextDueSpec : ChangeSpec := { name := "fnExactNextDue", fn := fun _ => fun
  | [d] => { results := [.lit (.bool true)], args := [d] }
  | _ => none }
def fnExactNextDueRow : OpenClaim := { program := "ytdmckfdecbhalaa", sum := "7400eed9a04db8e7c57dfe036ac95cd8ab385dcf6a75ccb6df35d9a60ea91fb7", func := "loop.example/g00953/laws.FnExactNextDue", spec := "fnExactNextDue", unfollowed := true, recurses := true, apart := false }
def FnExactNextDueSaid : Prop := fnExactNextDueRow.holds Try.pinned (OpenSpec.ofChange fnExactNextDueSpec)

/-- ITS FALSE NEIGHBOUR: 'it returns false'. Refute it at one input. -/
def fnExactNextDueWrong : ChangeSpec := { name := "fnExactNextDue", fn := fun _ => fun
  | [d] => { results := [.lit (.bool false)], args := [d] }
  | _ => none }
def FnExactNextDueWrongFalsely : Prop := fnExactNextDueRow.holds Try.pinned (OpenSpec.ofChange fnExactNextDueWrong)

/-- 'laws.FnExactGreatestDelay': WHATEVER THE INPUT: true; the input reads as it did. -/
def fnExactGreatestDelaySpec : ChangeSpec := { name := "fnExactGreatestDelay", fn := fun _ => fun
  | [d1, d2] => { results := [.lit (.bool true)], args := [d1, d2] }
  | _ => none }
def fnExactGreatestDelayRow : OpenClaim := { program := "ytdmckfdecbhalaa", sum := "7400eed9a04db8e7c57dfe036ac95cd8ab385dcf6a75ccb6df35d9a60ea91fb7", func := "loop.example/g00953/laws.FnExactGreatestDelay", spec := "fnExactGreatestDelay", unfollowed := true, recurses := true, apart := false }
def FnExactGreatestDelaySaid : Prop := fnExactGreatestDelayRow.holds Try.pinned (OpenSpec.ofChange fnExactGreatestDelaySpec)

/-- ITS FALSE NEIGHBOUR: 'it returns false'. Refute it at one input. -/
def fnExactGreatestDelayWrong : ChangeSpec := { name := "fnExactGreatestDelay", fn := fun _ => fun
  | [d1, d2] => { results := [.lit (.bool false)], args := [d1, d2] }
  | _ => none }
def FnExactGreatestDelayWrongFalsely : Prop := fnExactGreatestDelayRow.holds Try.pinned (OpenSpec.ofChange fnExactGreatestDelayWrong)

/- THE SECOND FORM. 'bulk': how many values and letters a reading holds, each counted each time it is reached (what is shared counts as often as it is met; a slice's spare places count too). A statement '..UptoSaid' is the law's where the arguments, and the package variables that the reading takes, are together of bulk at most 1048576: NARROWER than '..Said'. Prove '..Said' where nothing that the law and all that it calls make is longer than what came in: it says more and counts as full. Else prove '..UptoSaid'. A law counts once. -/
mutual
def uptoBulk {H : Type} : DataW H → Nat
  | .lit (.string bytes) => bytes.length + 1
  | .lit _ => 1
  | .nil => 1
  | .ptr d => uptoBulk d + 1
  | .slice elems spare => uptoBulkAll elems + uptoBulkAll spare + 1
  | .agg parts => uptoBulkAll parts + 1
  | .iface _ d => uptoBulk d + 1
  | .map entries => uptoBulkEntries entries + 1
  | .held _ => 1
def uptoBulkAll {H : Type} : List (DataW H) → Nat
  | [] => 0
  | d :: r => uptoBulk d + uptoBulkAll r
def uptoBulkEntries {H : Type} : List (Lit × DataW H) → Nat
  | [] => 0
  | x :: r => uptoBulkEntry x + uptoBulkEntries r
def uptoBulkEntry {H : Type} : Lit × DataW H → Nat
  | (.string bytes, d) => bytes.length + uptoBulk d + 1
  | (_, d) => uptoBulk d + 1
 end
def uptoSmall : (H : Type) → List (DataW H) → Bool := fun _ ds => decide (uptoBulkAll ds ≤ 1048576)
def OpenSpec.upto (s : _root_.Go.ChangeSpec) : _root_.Go.OpenSpec := { _root_.Go.OpenSpec.ofChange s with cond := some uptoSmall }

/-- 'laws.FnExactFindingName', WHERE WHAT IT READS IS OF BULK AT MOST 1048576: true; the input reads as it did. -/
def fnExactFindingNameUptoRow : OpenClaim := { program := "ytdmckfdecbhalaa", sum := "7400eed9a04db8e7c57dfe036ac95cd8ab385dcf6a75ccb6df35d9a60ea91fb7", func := "loop.example/g00953/laws.FnExactFindingName", spec := "fnExactFindingName", apart := false, narrowed := true }
def FnExactFindingNameUptoSaid : Prop := fnExactFindingNameUptoRow.holds Try.pinned (OpenSpec.upto fnExactFindingNameSpec)

/-- 'laws.FnExactDueDay', WHERE WHAT IT READS IS OF BULK AT MOST 1048576: true; the input reads as it did. -/
def fnExactDueDayUptoRow : OpenClaim := { program := "ytdmckfdecbhalaa", sum := "7400eed9a04db8e7c57dfe036ac95cd8ab385dcf6a75ccb6df35d9a60ea91fb7", func := "loop.example/g00953/laws.FnExactDueDay", spec := "fnExactDueDay", apart := false, narrowed := true }
def FnExactDueDayUptoSaid : Prop := fnExactDueDayUptoRow.holds Try.pinned (OpenSpec.upto fnExactDueDaySpec)

/-- 'laws.FnExactFindingText', WHERE WHAT IT READS IS OF BULK AT MOST 1048576: true; the input reads as it did. -/
def fnExactFindingTextUptoRow : OpenClaim := { program := "ytdmckfdecbhalaa", sum := "7400eed9a04db8e7c57dfe036ac95cd8ab385dcf6a75ccb6df35d9a60ea91fb7", func := "loop.example/g00953/laws.FnExactFindingText", spec := "fnExactFindingText", apart := false, narrowed := true }
def FnExactFindingTextUptoSaid : Prop := fnExactFindingTextUptoRow.holds Try.pinned (OpenSpec.upto fnExactFindingTextSpec)

/-- 'laws.FnExactLateBy', WHERE WHAT IT READS IS OF BULK AT MOST 1048576: true; the input reads as it did. -/
def fnExactLateByUptoRow : OpenClaim := { program := "ytdmckfdecbhalaa", sum := "7400eed9a04db8e7c57dfe036ac95cd8ab385dcf6a75ccb6df35d9a60ea91fb7", func := "loop.example/g00953/laws.FnExactLateBy", spec := "fnExactLateBy", unfollowed := true, recurses := true, apart := false, narrowed := true }
def FnExactLateByUptoSaid : Prop := fnExactLateByUptoRow.holds Try.pinned (OpenSpec.upto fnExactLateBySpec)

/-- 'laws.FnExactCountFindings', WHERE WHAT IT READS IS OF BULK AT MOST 1048576: true; the input reads as it did. -/
def fnExactCountFindingsUptoRow : OpenClaim := { program := "ytdmckfdecbhalaa", sum := "7400eed9a04db8e7c57dfe036ac95cd8ab385dcf6a75ccb6df35d9a60ea91fb7", func := "loop.example/g00953/laws.FnExactCountFindings", spec := "fnExactCountFindings", apart := false, narrowed := true }
def FnExactCountFindingsUptoSaid : Prop := fnExactCountFindingsUptoRow.holds Try.pinned (OpenSpec.upto fnExactCountFindingsSpec)

/-- 'laws.FnExactNextDue', WHERE WHAT IT READS IS OF BULK AT MOST 1048576: true; the input reads as it did. -/
def fnExactNextDueUptoRow : OpenClaim := { program := "ytdmckfdecbhalaa", sum := "7400eed9a04db8e7c57dfe036ac95cd8ab385dcf6a75ccb6df35d9a60ea91fb7", func := "loop.example/g00953/laws.FnExactNextDue", spec := "fnExactNextDue", unfollowed := true, recurses := true, apart := false, narrowed := true }
def FnExactNextDueUptoSaid : Prop := fnExactNextDueUptoRow.holds Try.pinned (OpenSpec.upto fnExactNextDueSpec)

/-- 'laws.FnExactGreatestDelay', WHERE WHAT IT READS IS OF BULK AT MOST 1048576: true; the input reads as it did. -/
def fnExactGreatestDelayUptoRow : OpenClaim := { program := "ytdmckfdecbhalaa", sum := "7400eed9a04db8e7c57dfe036ac95cd8ab385dcf6a75ccb6df35d9a60ea91fb7", func := "loop.example/g00953/laws.FnExactGreatestDelay", spec := "fnExactGreatestDelay", unfollowed := true, recurses := true, apart := false, narrowed := true }
def FnExactGreatestDelayUptoSaid : Prop := fnExactGreatestDelayUptoRow.holds Try.pinned (OpenSpec.upto fnExactGreatestDelaySpec)

end Rows
end Go.Proofs.Ytdmckfdecbhalaa
