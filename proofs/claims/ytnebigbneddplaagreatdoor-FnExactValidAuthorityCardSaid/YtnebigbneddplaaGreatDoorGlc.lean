/- Contracts: logarithms, ranges. -/
import Derived.Test.YtnebigbneddplaaGreatDoorFC
namespace Go.Proofs.YtnebigbneddplaaGreatDoor
open Go Go.RowKit Classical
set_option maxRecDepth 100000
set_option maxHeartbeats 2000000
set_option linter.unusedVariables false
set_option linter.unusedSimpArgs false
theorem isIntensity_ (n : Int) : AC Tryz.prog 340 [.int .i64 n] AV.bool (bP (1 ≤ n ∧ n ≤ 100000000)) := by
  refine ac Tryz.func340 (by kernel_rfl) (.bool _) fun E K hE hK => ?_
  conv => cbv
  repeat' first
    | ((first
   | refine q0 hE ?_
   | refine callP hE (within_ _ _ _) (fun _ => ?_) (fun _ => ?_)
   | refine q1 hE ?_|refine q2 hE ?_|refine ltI hE (fun _=>?_) fun _=>?_|refine q4 hE ?_|refine q5 hE ?_|refine leI hE (fun _=>?_) fun _=>?_|refine q6 hE ?_|refine q7 hE ?_|refine eqI hE (fun _=>?_) fun _=>?_|refine q8 hE fun _ _=>?_|refine q9 hE fun _ _=>?_|refine addI hE fun _ _=>?_|refine subI hE fun _ _=>?_|refine qa hE fun _ _ _=>?_|refine len0 hE fun _ _=>?_|refine qb hE fun _ _=>?_|refine qc hE ?_|refine qd hE ?_|refine iteB (fun _=>?_) fun _=>?_|refine maxI hE fun _ _=>?_|refine minI hE fun _ _=>?_|refine seqI hE (fun _=>?_) fun _=>?_|refine qe hE fun _ _ _=>?_|refine slenI hE fun _ _ _=>?_|refine qf hE fun _ _ _ _=>?_|refine qg hE ?_|refine qh hE fun _ _=>?_|refine qi hE fun _ _=>?_|refine qj hE fun _ _=>?_|refine qk hE fun _ _=>?_|refine ql hE ?_) <;> (try conv => cbv))
  all_goals (try clear hN)
  all_goals first
    | (omega)
    | (refine finB hK (bP_true.2 ?_); first | omega | grind)
    | (refine finB hK (bP_false.2 ?_); first | omega | (intro h; grind))
    | (refine ⟨by omega, Up.succ (by assumption) ?_ (by assumption)⟩; grind)
    | (refine hK _ ?_; simp_all [atup]; done)
    | (grind)
end Go.Proofs.YtnebigbneddplaaGreatDoor
