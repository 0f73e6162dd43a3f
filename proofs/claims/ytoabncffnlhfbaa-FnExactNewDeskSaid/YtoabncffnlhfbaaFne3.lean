/- Contracts: a new desk of the reference. -/
import Derived.Test.YtoabncffnlhfbaaFne2
namespace Go.Proofs.Ytoabncffnlhfbaa
open Go Go.RowKit Classical
set_option maxRecDepth 100000
set_option maxHeartbeats 2000000
set_option linter.unusedVariables false
set_option linter.unusedSimpArgs false
theorem sNewDesk_ : AC Try.prog 4 [] id (.agg deskCs) := by
  refine ac Try.func4 (by kernel_rfl) (desk_nob) fun E K hE hK => ?_
  conv => cbv
  refine callI hE l32New_ (fun y hy => ?_)
  subst hy
  repeat' (first | (refine nilI hE ?_) | (conv => cbv))
  exact hK _ rfl
end Go.Proofs.Ytoabncffnlhfbaa
