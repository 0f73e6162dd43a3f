/- Contracts: the laws' helpers over visits; the laws of late visits. -/
import Derived.Test.YtffkcjcaeppboaaDoorFb
namespace Go.Proofs.YtffkcjcaeppboaaDoor
open Go Go.RowKit Classical
set_option maxRecDepth 100000
set_option maxHeartbeats 2000000
set_option linter.unusedVariables false
set_option linter.unusedSimpArgs false
def szN (n : Int) (k : Nat) : Int := if n - k < 0 then -1 else n - k
theorem eqVisit_ (a e l a' e' l' : Int) : AC Tryd.prog 6 [.agg [.int .i64 a, .int .i64 e, .int .i64 l], .agg [.int .i64 a', .int .i64 e', .int .i64 l']] AV.bool (bP (a = a' ∧ e = e' ∧ l = l')) := by
  refine ac Tryd.func6 (by kernel_rfl) (.bool _) fun E K hE hK => ?_
  conv => cbv
  repeat' first
    | ((first
   | refine q0 hE ?_
   | refine B0 hE ?_|refine B1 hE (fun _=>?_) fun _=>?_|refine B3 hE fun _ _ _=>?_|refine B2 hE fun _ _=>?_|refine B4 hE fun _ _ _ _=>?_) <;> (try conv => cbv))
  all_goals (try clear hN)
  all_goals first
    | (omega)
    | (refine finB hK (bP_true.2 ?_); first | omega | grind)
    | (refine finB hK (bP_false.2 ?_); first | omega | (intro h; grind))
    | (refine ⟨by omega, Up.succ (by assumption) ?_ (by assumption)⟩; grind)
    | (refine hK _ ?_; simp_all [atup]; done)
    | (grind)
theorem szN_le {k : Nat} (h : ¬ szN 1048576 k < 0) : k ≤ 1048576 ∧ szN 1048576 k = 1048576 - k := by
  unfold szN at *; split at h <;> omega
end Go.Proofs.YtffkcjcaeppboaaDoor
