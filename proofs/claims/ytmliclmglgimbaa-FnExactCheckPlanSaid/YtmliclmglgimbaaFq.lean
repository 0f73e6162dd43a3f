/- Contracts: checking a plan of inspections: the law. -/
import Derived.Test.YtmliclmglgimbaaFp
namespace Go.Proofs.Ytmliclmglgimbaa
open Go Go.RowKit Classical
set_option maxRecDepth 100000
set_option maxHeartbeats 2000000
set_option linter.unusedVariables false
set_option linter.unusedSimpArgs false
theorem lawCheckPlan {rs ps : List (List AV)} {t t' : Bool} {l : List Vis} {p : List (List Int)} (room ahead : Int) (hl : rs = l.map Vis.cs) (hp : ps = p.map (llR false)) : AC Try.prog 3 [.sl t 3 rs, .sl t' 1 ps, .int .i64 room, .int .i64 ahead] id (.bool true) := by
  refine ac Try.func3 (by kernel_rfl) (.bool _) fun E K hE hK => ?_
  conv => cbv
  repeat' first
    | ((first
     | refine idxV hE (by assumption) (by omega) (by assumption) ?_
     | refine callI hE (szVisitS_ _ (by assumption) (by decide)) (fun _ _ => ?_)
     | refine ltT hE (by omega) ?_
     | refine ltF hE (by omega) ?_
     | refine ltI hE (fun _ => ?_) (fun _ => ?_)
     | refine leT hE (by omega) ?_
     | refine leF hE (by omega) ?_
     | refine leI hE (fun _ => ?_) (fun _ => ?_)
     | refine eqT hE (by omega) ?_
     | refine eqF hE (by omega) ?_
     | refine eqI hE (fun _ => ?_) (fun _ => ?_)
     | refine add64 hE (by omega) (fun _ _ => ?_)
     | refine sub64 hE (by omega) (fun _ _ => ?_)
     | refine addI hE (fun _ _ => ?_)
     | refine subI hE (fun _ _ => ?_)
     | refine lenL hE (by assumption) (fun _ _ _ => ?_)
     | refine len0 hE (fun _ _ => ?_)
     | refine idxL hE (by assumption) (by first | omega | (simp only [List.length_set, mix_len]; omega)) (fun _ _ => ?_)
     | refine idxFill hE (by assumption) (by omega) ?_
     | refine idxI hE (by decide) (by rfl) ?_
     | refine iteB (fun _ => ?_) (fun _ => ?_)
     | refine maxI hE (fun _ _ => ?_)
     | refine minI hE (fun _ _ => ?_)
     | refine seqI hE (fun _ => ?_) (fun _ => ?_)
     | refine scatI hE (by first | omega | (simp only [ByteArray.size, Array.size, List.length_cons, List.length_nil] at *; omega)) (fun _ _ _ => ?_)
     | refine slenI hE (fun _ _ _ => ?_)
     | refine sidxI hE (by omega) (fun _ _ _ _ => ?_)
     | refine needI hE (by first | decide | omega) ?_
     | refine rem64 hE (by omega) (fun _ _ => ?_)
     | refine quo64 hE (by omega) (fun _ _ => ?_)
     | refine wrapU8 hE (by omega) (fun _ _ => ?_)
     | refine wrap64 hE (by omega) (fun _ _ => ?_)
     | refine noownI hE (by simp [AV.isOwn]) ?_) <;> (try conv => cbv))
  · exact hK _ rfl
  · rename_i y hy h0
    have hb := szN_le (k := l.length) (by omega)
    refine callI hE (szInt64SS_ y hp (by omega)) fun z hz => ?_
    conv => cbv
    refine ltI hE (fun hlt => ?_) (fun hge => ?_) <;> conv => cbv
    · exact hK _ rfl
    · have hpb := szLs_ok (l := p) (n := y) (by omega)
      have hb1 : ∀ x ∈ p, x.length ≤ 1048576 := fun x hx => by have := hpb.2 x hx; omega
      repeat' first
        | ((first
         | refine idxV hE (by assumption) (by omega) (by assumption) ?_
         | refine callR hE (toVisitS_ (by assumption) (by omega)) (fun _ _ => ?_)
         | refine callR hE (toInt64SS_ (by assumption) (by omega) (by assumption)) (fun _ _ => ?_)
         | refine callPT hE (sCheckPlan_ _ _ (by assumption) (by assumption)) (by assumption) ?_
         | refine callPF hE (sCheckPlan_ _ _ (by assumption) (by assumption)) (by assumption) ?_
         | refine callP hE (sCheckPlan_ _ _ (by assumption) (by assumption)) (fun _ => ?_) (fun _ => ?_)
         | refine callPT hE (checkPlan_ _ _ (by assumption) (by assumption)) (by assumption) ?_
         | refine callPF hE (checkPlan_ _ _ (by assumption) (by assumption)) (by assumption) ?_
         | refine callP hE (checkPlan_ _ _ (by assumption) (by assumption)) (fun _ => ?_) (fun _ => ?_)
         | refine callP hE (eqVisitS_ (by assumption) (by assumption)) (fun _ => ?_) (fun _ => ?_)
         | refine callP hE (eqInt64SS_ (by assumption) (by assumption)) (fun _ => ?_) (fun _ => ?_)
         | refine ltT hE (by omega) ?_
         | refine ltF hE (by omega) ?_
         | refine ltI hE (fun _ => ?_) (fun _ => ?_)
         | refine leT hE (by omega) ?_
         | refine leF hE (by omega) ?_
         | refine leI hE (fun _ => ?_) (fun _ => ?_)
         | refine eqT hE (by omega) ?_
         | refine eqF hE (by omega) ?_
         | refine eqI hE (fun _ => ?_) (fun _ => ?_)
         | refine add64 hE (by omega) (fun _ _ => ?_)
         | refine sub64 hE (by omega) (fun _ _ => ?_)
         | refine addI hE (fun _ _ => ?_)
         | refine subI hE (fun _ _ => ?_)
         | refine lenL hE (by assumption) (fun _ _ _ => ?_)
         | refine len0 hE (fun _ _ => ?_)
         | refine idxL hE (by assumption) (by first | omega | (simp only [List.length_set, mix_len]; omega)) (fun _ _ => ?_)
         | refine idxFill hE (by assumption) (by omega) ?_
         | refine idxI hE (by decide) (by rfl) ?_
         | refine iteB (fun _ => ?_) (fun _ => ?_)
         | refine maxI hE (fun _ _ => ?_)
         | refine minI hE (fun _ _ => ?_)
         | refine seqI hE (fun _ => ?_) (fun _ => ?_)
         | refine scatI hE (by first | omega | (simp only [ByteArray.size, Array.size, List.length_cons, List.length_nil] at *; omega)) (fun _ _ _ => ?_)
         | refine slenI hE (fun _ _ _ => ?_)
         | refine sidxI hE (by omega) (fun _ _ _ _ => ?_)
         | refine needI hE (by first | decide | omega) ?_
         | refine rem64 hE (by omega) (fun _ _ => ?_)
         | refine quo64 hE (by omega) (fun _ _ => ?_)
         | refine wrapU8 hE (by omega) (fun _ _ => ?_)
         | refine wrap64 hE (by omega) (fun _ _ => ?_)
         | refine noownI hE (by simp [AV.isOwn]) ?_) <;> (try conv => cbv))
      all_goals first | exact hK _ rfl | simp_all
end Go.Proofs.Ytmliclmglgimbaa
