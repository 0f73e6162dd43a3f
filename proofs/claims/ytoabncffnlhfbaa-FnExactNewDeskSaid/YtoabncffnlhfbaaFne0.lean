/- Contracts: the cells of a new desk. -/
import Derived.Test.YtoabncffnlhfbaaAxLaw
namespace Go.Proofs.Ytoabncffnlhfbaa
open Go Go.RowKit Classical
set_option maxRecDepth 100000
set_option maxHeartbeats 2000000
set_option linter.unusedVariables false
set_option linter.unusedSimpArgs false
theorem NoB.cells (l : List AV) (h : ∀ c ∈ l, NoB c) : NoB (.agg l) := .agg _ fun i c hc => h c (List.mem_of_getElem? hc)
def autCs : List AV := [.nils, .nils, .int .i64 0, .nils, .nils, .int .i64 0, .nils, .int .i64 0, .nils, .str ⟨#[116, 101, 110, 100, 101, 114]⟩, .int .i64 300, .int .i64 100, .int .i64 30, .int .i64 0, .int .i64 0, .nils, .nils, .int .i64 0]
def deskCs : List AV := autCs ++ [.nils, .nils, .nils, .nils]
theorem desk_nob : NoB (.agg deskCs) := .cells _ fun c hc => by
  simp only [deskCs, autCs, List.cons_append, List.nil_append, List.mem_cons, List.not_mem_nil, or_false] at hc
  rcases hc with rfl | rfl | rfl | rfl | rfl | rfl | rfl | rfl | rfl | rfl | rfl | rfl | rfl | rfl | rfl | rfl | rfl | rfl | rfl | rfl | rfl | rfl <;> constructor
end Go.Proofs.Ytoabncffnlhfbaa
