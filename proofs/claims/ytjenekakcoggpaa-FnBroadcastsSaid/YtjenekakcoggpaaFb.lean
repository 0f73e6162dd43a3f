/- Contracts: inspections. -/
import Derived.Test.YtjenekakcoggpaaFa
namespace Go.Proofs.Ytjenekakcoggpaa
open Go Go.RowKit Classical
set_option maxRecDepth 100000
set_option maxHeartbeats 2000000
set_option linter.unusedVariables false
set_option linter.unusedSimpArgs false
noncomputable def visCode (l : List Vis) (aid day : Int) : Int × Int := if VisitsOk l then (if 0 ≤ day ∧ day ≤ 99999 then (if visAt l aid < 0 then (0, 3) else (visAt l aid, 0)) else (0, 2)) else (0, 1)
theorem visitCode_ {rs : List (List AV)} {t : Bool} {l : List Vis} (aid day : Int) (hl : rs = l.map Vis.cs) : AC Try.prog 97 [.sl t 3 rs, .int .i64 aid, .int .i64 day] (fun p : Int × Int => .tup [.int .i64 p.1, .int .i64 p.2]) (visCode l aid day) := by
  refine ac Try.func97 (by kernel_rfl) (.tupC (.int _ _) (.tupC (.int _ _) .tup0)) fun E K hE hK => ?_
  conv => cbv
  repeat' first
    | ((first
     | refine idxV hE (by assumption) (by omega) (by assumption) ?_
     | refine callP hE (validVisits_ (by assumption)) (fun _ => ?_) (fun _ => ?_)
     | refine callP hE (isDay_ _) (fun _ => ?_) (fun _ => ?_)
     | refine callI hE (visitOf_ _ (by assumption)) (fun _ _ => ?_)
     | refine ltT hE (by omega) ?_
     | refine ltF hE (by omega) ?_
     | refine ltI hE (fun _ => ?_) (fun _ => ?_)
     | refine leT hE (by omega) ?_
     | refine leF hE (by omega) ?_
     | refine leI hE (fun _ => ?_) (fun _ => ?_)
     | refine eqT hE (by omega) ?_
     | refine eqF hE (by omega) ?_
     | refine eqI hE (fun _ => ?_) (fun _ => ?_)
     | refine add64 hE (by omega) (fun _ _ => ?_)
     | refine sub64 hE (by omega) (fun _ _ => ?_)
     | refine addI hE (fun _ _ => ?_)
     | refine subI hE (fun _ _ => ?_)
     | refine lenL hE (by assumption) (fun _ _ _ => ?_)
     | refine len0 hE (fun _ _ => ?_)
     | refine idxL hE (by assumption) (by first | omega | (simp only [List.length_set, mix_len]; omega)) (fun _ _ => ?_)
     | refine idxFill hE (by assumption) (by omega) ?_
     | refine idxI hE (by decide) (by rfl) ?_
     | refine iteB (fun _ => ?_) (fun _ => ?_)
     | refine maxI hE (fun _ _ => ?_)
     | refine minI hE (fun _ _ => ?_)
     | refine seqI hE (fun _ => ?_) (fun _ => ?_)
     | refine scatI hE (by first | omega | (simp only [ByteArray.size, Array.size, List.length_cons, List.length_nil] at *; omega)) (fun _ _ _ => ?_)
     | refine slenI hE (fun _ _ _ => ?_)
     | refine sidxI hE (by omega) (fun _ _ _ _ => ?_)
     | refine needI hE (by first | decide | omega) ?_
     | refine rem64 hE (by omega) (fun _ _ => ?_)
     | refine quo64 hE (by omega) (fun _ _ => ?_)
     | refine wrapU8 hE (by omega) (fun _ _ => ?_)
     | refine wrap64 hE (by omega) (fun _ _ => ?_)
     | refine noownI hE (by simp [AV.isOwn]) ?_) <;> (try conv => cbv))
  all_goals (try clear hN)
  all_goals (refine hK _ ?_; first | (simp only [atup]; grind [visCode]) | (simp_all [atup, visCode]; done))
noncomputable def lateBy (l : List Vis) (aid day : Int) : Int × Int := if (visCode l aid day).2 = 0 then (match l[(visCode l aid day).1.toNat]? with
  | some v => (max 0 (IntKind.i64.wrap (day - IntKind.i64.wrap (v.last + v.every))), 0)
  | none => (0, 0)) else (0, (visCode l aid day).2)
theorem visAt_spec (l : List Vis) (aid : Int) : visAt l aid = -1 ∨ 0 ≤ visAt l aid ∧ visAt l aid < l.length := by
  rcases firstI_spec (fun v : Vis => v.aid = aid) l with ⟨h1, h2, _⟩ | ⟨h1, _⟩
  · exact .inr ⟨h1, h2⟩
  · exact .inl h1
theorem visCode_ok {l : List Vis} {aid day : Int} (h : (visCode l aid day).2 = 0) : 0 ≤ (visCode l aid day).1 ∧ (visCode l aid day).1 < l.length := by
  have := visAt_spec l aid
  unfold visCode at *
  grind
theorem lateBy_ {rs : List (List AV)} {t : Bool} {l : List Vis} (aid day : Int) (hl : rs = l.map Vis.cs) : AC Try.prog 38 [.sl t 3 rs, .int .i64 aid, .int .i64 day] (fun p : Int × Int => .tup [.int .i64 p.1, .int .i64 p.2]) (lateBy l aid day) := by
  refine ac Try.func38 (by kernel_rfl) (.tupC (.int _ _) (.tupC (.int _ _) .tup0)) fun E K hE hK => ?_
  conv => cbv
  refine callI hE (visitCode_ aid day hl) fun y hy => ?_
  have hok := @visCode_ok l aid day
  obtain ⟨i, c⟩ := y
  rw [← hy] at hok
  conv => cbv
  repeat' first
    | ((first
     | refine idxV hE (by assumption) (by omega) (by assumption) ?_
     | (refine idxL (R := Vis.cs) hE (by assumption) (by first | omega | (simp only [List.length_set, mix_len]; omega)) ?_; rintro ⟨⟩ _)
     | refine callI hE (due_ _ _ _) (fun _ _ => ?_)
     | refine ltT hE (by omega) ?_
     | refine ltF hE (by omega) ?_
     | refine ltI hE (fun _ => ?_) (fun _ => ?_)
     | refine leT hE (by omega) ?_
     | refine leF hE (by omega) ?_
     | refine leI hE (fun _ => ?_) (fun _ => ?_)
     | refine eqT hE (by omega) ?_
     | refine eqF hE (by omega) ?_
     | refine eqI hE (fun _ => ?_) (fun _ => ?_)
     | refine add64 hE (by omega) (fun _ _ => ?_)
     | refine sub64 hE (by omega) (fun _ _ => ?_)
     | refine addI hE (fun _ _ => ?_)
     | refine subI hE (fun _ _ => ?_)
     | refine lenL hE (by assumption) (fun _ _ _ => ?_)
     | refine len0 hE (fun _ _ => ?_)
     | refine idxL hE (by assumption) (by first | omega | (simp only [List.length_set, mix_len]; omega)) (fun _ _ => ?_)
     | refine idxFill hE (by assumption) (by omega) ?_
     | refine idxI hE (by decide) (by rfl) ?_
     | refine iteB (fun _ => ?_) (fun _ => ?_)
     | refine maxI hE (fun _ _ => ?_)
     | refine minI hE (fun _ _ => ?_)
     | refine seqI hE (fun _ => ?_) (fun _ => ?_)
     | refine scatI hE (by first | omega | (simp only [ByteArray.size, Array.size, List.length_cons, List.length_nil] at *; omega)) (fun _ _ _ => ?_)
     | refine slenI hE (fun _ _ _ => ?_)
     | refine sidxI hE (by omega) (fun _ _ _ _ => ?_)
     | refine needI hE (by first | decide | omega) ?_
     | refine rem64 hE (by omega) (fun _ _ => ?_)
     | refine quo64 hE (by omega) (fun _ _ => ?_)
     | refine wrapU8 hE (by omega) (fun _ _ => ?_)
     | refine wrap64 hE (by omega) (fun _ _ => ?_)
     | refine noownI hE (by simp [AV.isOwn]) ?_) <;> (try conv => cbv))
  all_goals (try clear hN)
  all_goals (refine hK _ ?_; first | (simp only [atup]; grind [lateBy]) | (simp_all [atup, lateBy]; done))
end Go.Proofs.Ytjenekakcoggpaa
