/- Contracts: a new desk. -/
import Derived.Test.YtoabncffnlhfbaaFne0
namespace Go.Proofs.Ytoabncffnlhfbaa
open Go Go.RowKit Classical
set_option maxRecDepth 100000
set_option maxHeartbeats 2000000
set_option linter.unusedVariables false
set_option linter.unusedSimpArgs false
theorem newDesk_ : AC Try.prog 5 [] id (.agg deskCs) := by
  refine ac Try.func5 (by kernel_rfl) (desk_nob) fun E K hE hK => ?_
  conv => cbv
  repeat' (first | (refine nilI hE ?_) | (conv => cbv))
  exact hK _ rfl
end Go.Proofs.Ytoabncffnlhfbaa
