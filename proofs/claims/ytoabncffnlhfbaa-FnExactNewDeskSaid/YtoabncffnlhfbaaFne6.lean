/- Contracts: marks of a new desk. -/
import Derived.Test.YtoabncffnlhfbaaFne0
import Derived.Test.YtoabncffnlhfbaaFndA
import Derived.Test.YtoabncffnlhfbaaFndB
import Derived.Test.YtoabncffnlhfbaaFndC
namespace Go.Proofs.Ytoabncffnlhfbaa
open Go Go.RowKit Classical
set_option maxRecDepth 100000
set_option maxHeartbeats 2000000
set_option linter.unusedVariables false
set_option linter.unusedSimpArgs false
theorem markAuthority_ (k : Int) : AC Try.prog 15 [.agg autCs, .int .i64 k] (AV.int .i64) k := by
  refine ac Try.func15 (by kernel_rfl) (.int _ _) fun E K hE hK => ?_
  conv => cbv
  repeat' first
    | ((first
     | refine idxV hE (by assumption) (by omega) (by assumption) ?_
     | refine callI hE (markNilAidS_ _) (fun y hy => ?_); subst hy
     | refine callI hE (markNilNoticeS_ _) (fun y hy => ?_); subst hy
     | refine callI hE (markNilFairwayS_ _) (fun y hy => ?_); subst hy
     | refine callI hE (markNilDangerS_ _) (fun y hy => ?_); subst hy
     | refine callI hE (markNilObserverS_ _) (fun y hy => ?_); subst hy
     | refine callI hE (markNilInt64S_ _) (fun y hy => ?_); subst hy
     | refine callI hE (markNilWorkS_ _) (fun y hy => ?_); subst hy
     | refine callI hE (markNilFaultS_ _) (fun y hy => ?_); subst hy
     | refine callI hE (markNilWarningS_ _) (fun y hy => ?_); subst hy
     | refine callI hE (markNilDutyS_ _) (fun y hy => ?_); subst hy
     | refine callI hE (markNilVisitS_ _) (fun y hy => ?_); subst hy
     | refine ltT hE (by omega) ?_
     | refine ltF hE (by omega) ?_
     | refine ltI hE (fun _ => ?_) (fun _ => ?_)
     | refine leT hE (by omega) ?_
     | refine leF hE (by omega) ?_
     | refine leI hE (fun _ => ?_) (fun _ => ?_)
     | refine eqT hE (by omega) ?_
     | refine eqF hE (by omega) ?_
     | refine eqI hE (fun _ => ?_) (fun _ => ?_)
     | refine add64 hE (by omega) (fun _ _ => ?_)
     | refine sub64 hE (by omega) (fun _ _ => ?_)
     | refine addI hE (fun _ _ => ?_)
     | refine subI hE (fun _ _ => ?_)
     | refine lenL hE (by assumption) (fun _ _ _ => ?_)
     | refine len0 hE (fun _ _ => ?_)
     | refine idxL hE (by assumption) (by first | omega | (simp only [List.length_set, mix_len]; omega)) (fun _ _ => ?_)
     | refine idxFill hE (by assumption) (by omega) ?_
     | refine idxI hE (by decide) (by rfl) ?_
     | refine iteB (fun _ => ?_) (fun _ => ?_)
     | refine maxI hE (fun _ _ => ?_)
     | refine minI hE (fun _ _ => ?_)
     | refine seqI hE (fun _ => ?_) (fun _ => ?_)
     | refine scatI hE (by first | omega | (simp only [ByteArray.size, Array.size, List.length_cons, List.length_nil] at *; omega)) (fun _ _ _ => ?_)
     | refine slenI hE (fun _ _ _ => ?_)
     | refine sidxI hE (by omega) (fun _ _ _ _ => ?_)
     | refine needI hE (by first | decide | omega) ?_
     | refine rem64 hE (by omega) (fun _ _ => ?_)
     | refine quo64 hE (by omega) (fun _ _ => ?_)
     | refine wrapU8 hE (by omega) (fun _ _ => ?_)
     | refine wrap64 hE (by omega) (fun _ _ => ?_)
     | refine noownI hE (by simp [AV.isOwn]) ?_) <;> (try conv => cbv))
  all_goals first | exact hK _ rfl | omega
theorem markDesk_ (k : Int) : AC Try.prog 7 [.agg deskCs, .int .i64 k] (AV.int .i64) k := by
  refine ac Try.func7 (by kernel_rfl) (.int _ _) fun E K hE hK => ?_
  conv => cbv
  repeat' first
    | ((first
     | refine idxV hE (by assumption) (by omega) (by assumption) ?_
     | refine callI hE (markNilAidS_ _) (fun y hy => ?_); subst hy
     | refine callI hE (markNilNoticeS_ _) (fun y hy => ?_); subst hy
     | refine callI hE (markNilFairwayS_ _) (fun y hy => ?_); subst hy
     | refine callI hE (markNilDangerS_ _) (fun y hy => ?_); subst hy
     | refine callI hE (markNilObserverS_ _) (fun y hy => ?_); subst hy
     | refine callI hE (markNilInt64S_ _) (fun y hy => ?_); subst hy
     | refine callI hE (markNilWorkS_ _) (fun y hy => ?_); subst hy
     | refine callI hE (markNilFaultS_ _) (fun y hy => ?_); subst hy
     | refine callI hE (markNilWarningS_ _) (fun y hy => ?_); subst hy
     | refine callI hE (markNilDutyS_ _) (fun y hy => ?_); subst hy
     | refine callI hE (markNilVisitS_ _) (fun y hy => ?_); subst hy
     | refine callI hE (markAuthority_ _) (fun y hy => ?_); subst hy
     | refine ltT hE (by omega) ?_
     | refine ltF hE (by omega) ?_
     | refine ltI hE (fun _ => ?_) (fun _ => ?_)
     | refine leT hE (by omega) ?_
     | refine leF hE (by omega) ?_
     | refine leI hE (fun _ => ?_) (fun _ => ?_)
     | refine eqT hE (by omega) ?_
     | refine eqF hE (by omega) ?_
     | refine eqI hE (fun _ => ?_) (fun _ => ?_)
     | refine add64 hE (by omega) (fun _ _ => ?_)
     | refine sub64 hE (by omega) (fun _ _ => ?_)
     | refine addI hE (fun _ _ => ?_)
     | refine subI hE (fun _ _ => ?_)
     | refine lenL hE (by assumption) (fun _ _ _ => ?_)
     | refine len0 hE (fun _ _ => ?_)
     | refine idxL hE (by assumption) (by first | omega | (simp only [List.length_set, mix_len]; omega)) (fun _ _ => ?_)
     | refine idxFill hE (by assumption) (by omega) ?_
     | refine idxI hE (by decide) (by rfl) ?_
     | refine iteB (fun _ => ?_) (fun _ => ?_)
     | refine maxI hE (fun _ _ => ?_)
     | refine minI hE (fun _ _ => ?_)
     | refine seqI hE (fun _ => ?_) (fun _ => ?_)
     | refine scatI hE (by first | omega | (simp only [ByteArray.size, Array.size, List.length_cons, List.length_nil] at *; omega)) (fun _ _ _ => ?_)
     | refine slenI hE (fun _ _ _ => ?_)
     | refine sidxI hE (by omega) (fun _ _ _ _ => ?_)
     | refine needI hE (by first | decide | omega) ?_
     | refine rem64 hE (by omega) (fun _ _ => ?_)
     | refine quo64 hE (by omega) (fun _ _ => ?_)
     | refine wrapU8 hE (by omega) (fun _ _ => ?_)
     | refine wrap64 hE (by omega) (fun _ _ => ?_)
     | refine noownI hE (by simp [AV.isOwn]) ?_) <;> (try conv => cbv))
  all_goals first | exact hK _ rfl | omega
end Go.Proofs.Ytoabncffnlhfbaa
