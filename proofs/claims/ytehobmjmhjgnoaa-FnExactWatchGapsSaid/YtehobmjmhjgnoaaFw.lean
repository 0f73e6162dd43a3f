/- Contracts: the duties of a keeper: the law. -/
import Derived.Test.YtehobmjmhjgnoaaFv
namespace Go.Proofs.Ytehobmjmhjgnoaa
open Go Go.RowKit Classical
set_option maxRecDepth 100000
set_option maxHeartbeats 2000000
set_option linter.unusedVariables false
set_option linter.unusedSimpArgs false
def dutLI (p : List Dut × Int) : AV := .tup [.sl true 3 (p.1.map Dut.cs), .int .i64 p.2]
theorem NoB.dutLI (p : List Dut × Int) : NoB (dutLI p) := .tupC (.rows .oDut) (.tupC (.int _ _) .tup0)
noncomputable def dutiesR (l : List Dut) (k : ByteArray) : List Dut × Int := if DutiesOk l then (ofKeeper l k, 0) else ([], 1)
theorem dutiesR_len (l : List Dut) (k : ByteArray) : (dutiesR l k).1.length ≤ l.length := by unfold dutiesR; split <;> simp [ofKeeper_len]
end Go.Proofs.Ytehobmjmhjgnoaa
