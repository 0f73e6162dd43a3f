/- Contracts: the duties of a keeper. -/
import Derived.Test.YtehobmjmhjgnoaaFu
namespace Go.Proofs.Ytehobmjmhjgnoaa
open Go Go.RowKit Classical
set_option maxRecDepth 100000
set_option maxHeartbeats 2000000
set_option linter.unusedVariables false
set_option linter.unusedSimpArgs false
theorem DutiesOk.all {l : List Dut} (h : DutiesOk l) : ∀ v ∈ l, v.ok := fun v hv => by
  obtain ⟨j, hj⟩ := List.getElem?_of_mem hv
  obtain ⟨w, h1, h2, _⟩ := h.1 j (List.getElem?_eq_some_iff.1 hj).1
  rw [hj] at h1; cases h1; exact h2
noncomputable def ofKeeper (l : List Dut) (k : ByteArray) : List Dut := rej (fun v => v.keeper ≠ k) l
theorem ofKeeper_len (l : List Dut) (k : ByteArray) : (ofKeeper l k).length ≤ l.length := rej_len _ _
end Go.Proofs.Ytehobmjmhjgnoaa
