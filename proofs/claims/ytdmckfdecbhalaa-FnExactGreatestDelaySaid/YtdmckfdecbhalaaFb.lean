/- Contracts: inspections. -/
import Derived.Test.YtdmckfdecbhalaaFa
namespace Go.Proofs.Ytdmckfdecbhalaa
open Go Go.RowKit Classical
set_option maxRecDepth 100000
set_option maxHeartbeats 2000000
set_option linter.unusedVariables false
set_option linter.unusedSimpArgs false
noncomputable def visCode (l : List Vis) (aid day : Int) : Int × Int := if VisitsOk l then (if 0 ≤ day ∧ day ≤ 99999 then (if visAt l aid < 0 then (0, 3) else (visAt l aid, 0)) else (0, 2)) else (0, 1)
theorem visitCode_ {rs : List (List AV)} {t : Bool} {l : List Vis} (aid day : Int) (hl : rs = l.map Vis.cs) : AC Try.prog 51 [.sl t 3 rs, .int .i64 aid, .int .i64 day] (fun p : Int × Int => .tup [.int .i64 p.1, .int .i64 p.2]) (visCode l aid day) := by
  refine ac Try.func51 (by kernel_rfl) (.tupC (.int _ _) (.tupC (.int _ _) .tup0)) fun E K hE hK => ?_
  conv => cbv
  repeat' first
    | (refine idxV hE (by assumption) (by omega) (by assumption) ?_; (try conv => cbv))
    | (refine callP hE (validVisits_ (by assumption)) (fun _ => ?_) (fun _ => ?_) <;> (try conv => cbv))
    | (refine callP hE (isDay_ _) (fun _ => ?_) (fun _ => ?_) <;> (try conv => cbv))
    | (refine callI hE (visitOf_ _ (by assumption)) (fun _ _ => ?_); (try conv => cbv))
    | (refine ltT hE (by omega) ?_; (try conv => cbv))
    | (refine ltF hE (by omega) ?_; (try conv => cbv))
    | (refine ltI hE (fun _ => ?_) (fun _ => ?_) <;> (try conv => cbv))
    | (refine leT hE (by omega) ?_; (try conv => cbv))
    | (refine leF hE (by omega) ?_; (try conv => cbv))
    | (refine leI hE (fun _ => ?_) (fun _ => ?_) <;> (try conv => cbv))
    | (refine eqT hE (by omega) ?_; (try conv => cbv))
    | (refine eqF hE (by omega) ?_; (try conv => cbv))
    | (refine eqI hE (fun _ => ?_) (fun _ => ?_) <;> (try conv => cbv))
    | (refine add64 hE (by omega) (fun _ _ => ?_); (try conv => cbv))
    | (refine sub64 hE (by omega) (fun _ _ => ?_); (try conv => cbv))
    | (refine addI hE (fun _ _ => ?_); (try conv => cbv))
    | (refine subI hE (fun _ _ => ?_); (try conv => cbv))
    | (refine lenL hE (by assumption) (fun _ _ _ => ?_); (try conv => cbv))
    | (refine idxL hE (by assumption) (by first | omega | (simp only [List.length_set, mix_len]; omega)) (fun _ _ => ?_); (try conv => cbv))
    | (refine idxFill hE (by assumption) (by omega) ?_; (try conv => cbv))
    | (refine idxI hE (by decide) (by rfl) ?_; (try conv => cbv))
    | (refine iteB (fun _ => ?_) (fun _ => ?_) <;> (try conv => cbv))
    | (refine maxI hE (fun _ _ => ?_); (try conv => cbv))
    | (refine minI hE (fun _ _ => ?_); (try conv => cbv))
    | (refine seqI hE (fun _ => ?_) (fun _ => ?_) <;> (try conv => cbv))
    | (refine scatI hE (by first | omega | (simp only [ByteArray.size, Array.size, List.length_cons, List.length_nil] at *; omega)) (fun _ _ _ => ?_); (try conv => cbv))
    | (refine slenI hE (fun _ _ _ => ?_); (try conv => cbv))
    | (refine sidxI hE (by omega) (fun _ _ _ _ => ?_); (try conv => cbv))
    | (refine needI hE (by first | decide | omega) ?_; (try conv => cbv))
    | (refine rem64 hE (by omega) (fun _ _ => ?_); (try conv => cbv))
    | (refine quo64 hE (by omega) (fun _ _ => ?_); (try conv => cbv))
    | (refine wrapU8 hE (by omega) (fun _ _ => ?_); (try conv => cbv))
    | (refine wrap64 hE (by omega) (fun _ _ => ?_); (try conv => cbv))
  all_goals (try clear hN)
  all_goals (refine hK _ ?_; first | (simp only [atup]; grind [visCode]) | (simp_all [atup, visCode]; done))
noncomputable def lateBy (l : List Vis) (aid day : Int) : Int × Int := if (visCode l aid day).2 = 0 then (match l[(visCode l aid day).1.toNat]? with
  | some v => (max 0 (IntKind.i64.wrap (day - IntKind.i64.wrap (v.last + v.every))), 0)
  | none => (0, 0)) else (0, (visCode l aid day).2)
theorem visAt_spec (l : List Vis) (aid : Int) : visAt l aid = -1 ∨ 0 ≤ visAt l aid ∧ visAt l aid < l.length := by
  rcases firstI_spec (fun v : Vis => v.aid = aid) l with ⟨h1, h2, _⟩ | ⟨h1, _⟩
  · exact .inr ⟨h1, h2⟩
  · exact .inl h1
theorem visCode_ok {l : List Vis} {aid day : Int} (h : (visCode l aid day).2 = 0) : 0 ≤ (visCode l aid day).1 ∧ (visCode l aid day).1 < l.length := by
  have := visAt_spec l aid
  unfold visCode at *
  grind
theorem lateBy_ {rs : List (List AV)} {t : Bool} {l : List Vis} (aid day : Int) (hl : rs = l.map Vis.cs) : AC Try.prog 22 [.sl t 3 rs, .int .i64 aid, .int .i64 day] (fun p : Int × Int => .tup [.int .i64 p.1, .int .i64 p.2]) (lateBy l aid day) := by
  refine ac Try.func22 (by kernel_rfl) (.tupC (.int _ _) (.tupC (.int _ _) .tup0)) fun E K hE hK => ?_
  conv => cbv
  refine callI hE (visitCode_ aid day hl) fun y hy => ?_
  have hok := @visCode_ok l aid day
  obtain ⟨i, c⟩ := y
  rw [← hy] at hok
  conv => cbv
  repeat' first
    | (refine idxV hE (by assumption) (by omega) (by assumption) ?_; (try conv => cbv))
    | (refine idxL (R := Vis.cs) hE (by assumption) (by first | omega | (simp only [List.length_set, mix_len]; omega)) ?_; rintro ⟨⟩ _; (try conv => cbv))
    | (refine callI hE (due_ _ _ _) (fun _ _ => ?_); (try conv => cbv))
    | (refine ltT hE (by omega) ?_; (try conv => cbv))
    | (refine ltF hE (by omega) ?_; (try conv => cbv))
    | (refine ltI hE (fun _ => ?_) (fun _ => ?_) <;> (try conv => cbv))
    | (refine leT hE (by omega) ?_; (try conv => cbv))
    | (refine leF hE (by omega) ?_; (try conv => cbv))
    | (refine leI hE (fun _ => ?_) (fun _ => ?_) <;> (try conv => cbv))
    | (refine eqT hE (by omega) ?_; (try conv => cbv))
    | (refine eqF hE (by omega) ?_; (try conv => cbv))
    | (refine eqI hE (fun _ => ?_) (fun _ => ?_) <;> (try conv => cbv))
    | (refine add64 hE (by omega) (fun _ _ => ?_); (try conv => cbv))
    | (refine sub64 hE (by omega) (fun _ _ => ?_); (try conv => cbv))
    | (refine addI hE (fun _ _ => ?_); (try conv => cbv))
    | (refine subI hE (fun _ _ => ?_); (try conv => cbv))
    | (refine lenL hE (by assumption) (fun _ _ _ => ?_); (try conv => cbv))
    | (refine idxL hE (by assumption) (by first | omega | (simp only [List.length_set, mix_len]; omega)) (fun _ _ => ?_); (try conv => cbv))
    | (refine idxFill hE (by assumption) (by omega) ?_; (try conv => cbv))
    | (refine idxI hE (by decide) (by rfl) ?_; (try conv => cbv))
    | (refine iteB (fun _ => ?_) (fun _ => ?_) <;> (try conv => cbv))
    | (refine maxI hE (fun _ _ => ?_); (try conv => cbv))
    | (refine minI hE (fun _ _ => ?_); (try conv => cbv))
    | (refine seqI hE (fun _ => ?_) (fun _ => ?_) <;> (try conv => cbv))
    | (refine scatI hE (by first | omega | (simp only [ByteArray.size, Array.size, List.length_cons, List.length_nil] at *; omega)) (fun _ _ _ => ?_); (try conv => cbv))
    | (refine slenI hE (fun _ _ _ => ?_); (try conv => cbv))
    | (refine sidxI hE (by omega) (fun _ _ _ _ => ?_); (try conv => cbv))
    | (refine needI hE (by first | decide | omega) ?_; (try conv => cbv))
    | (refine rem64 hE (by omega) (fun _ _ => ?_); (try conv => cbv))
    | (refine quo64 hE (by omega) (fun _ _ => ?_); (try conv => cbv))
    | (refine wrapU8 hE (by omega) (fun _ _ => ?_); (try conv => cbv))
    | (refine wrap64 hE (by omega) (fun _ _ => ?_); (try conv => cbv))
  all_goals (try clear hN)
  all_goals (refine hK _ ?_; first | (simp only [atup]; grind [lateBy]) | (simp_all [atup, lateBy]; done))
theorem l00Max_ (a b : Int) : AC Try.prog 50 [.int .i64 a, .int .i64 b] (AV.int .i64) (max a b) := by
  refine ac Try.func50 (by kernel_rfl) (.int _ _) fun E K hE hK => ?_
  conv => cbv
  repeat' first
    | (refine idxV hE (by assumption) (by omega) (by assumption) ?_; (try conv => cbv))
    | (refine ltT hE (by omega) ?_; (try conv => cbv))
    | (refine ltF hE (by omega) ?_; (try conv => cbv))
    | (refine ltI hE (fun _ => ?_) (fun _ => ?_) <;> (try conv => cbv))
    | (refine leT hE (by omega) ?_; (try conv => cbv))
    | (refine leF hE (by omega) ?_; (try conv => cbv))
    | (refine leI hE (fun _ => ?_) (fun _ => ?_) <;> (try conv => cbv))
    | (refine eqT hE (by omega) ?_; (try conv => cbv))
    | (refine eqF hE (by omega) ?_; (try conv => cbv))
    | (refine eqI hE (fun _ => ?_) (fun _ => ?_) <;> (try conv => cbv))
    | (refine add64 hE (by omega) (fun _ _ => ?_); (try conv => cbv))
    | (refine sub64 hE (by omega) (fun _ _ => ?_); (try conv => cbv))
    | (refine addI hE (fun _ _ => ?_); (try conv => cbv))
    | (refine subI hE (fun _ _ => ?_); (try conv => cbv))
    | (refine lenL hE (by assumption) (fun _ _ _ => ?_); (try conv => cbv))
    | (refine idxL hE (by assumption) (by first | omega | (simp only [List.length_set, mix_len]; omega)) (fun _ _ => ?_); (try conv => cbv))
    | (refine idxFill hE (by assumption) (by omega) ?_; (try conv => cbv))
    | (refine idxI hE (by decide) (by rfl) ?_; (try conv => cbv))
    | (refine iteB (fun _ => ?_) (fun _ => ?_) <;> (try conv => cbv))
    | (refine maxI hE (fun _ _ => ?_); (try conv => cbv))
    | (refine minI hE (fun _ _ => ?_); (try conv => cbv))
    | (refine seqI hE (fun _ => ?_) (fun _ => ?_) <;> (try conv => cbv))
    | (refine scatI hE (by first | omega | (simp only [ByteArray.size, Array.size, List.length_cons, List.length_nil] at *; omega)) (fun _ _ _ => ?_); (try conv => cbv))
    | (refine slenI hE (fun _ _ _ => ?_); (try conv => cbv))
    | (refine sidxI hE (by omega) (fun _ _ _ _ => ?_); (try conv => cbv))
    | (refine needI hE (by first | decide | omega) ?_; (try conv => cbv))
    | (refine rem64 hE (by omega) (fun _ _ => ?_); (try conv => cbv))
    | (refine quo64 hE (by omega) (fun _ _ => ?_); (try conv => cbv))
    | (refine wrapU8 hE (by omega) (fun _ _ => ?_); (try conv => cbv))
    | (refine wrap64 hE (by omega) (fun _ _ => ?_); (try conv => cbv))
  all_goals exact hK _ (by simp [atup]; omega)
theorem sLateBy_ {rs : List (List AV)} {t : Bool} {l : List Vis} (aid day : Int) (hl : rs = l.map Vis.cs) : AC Try.prog 20 [.sl t 3 rs, .int .i64 aid, .int .i64 day] (fun p : Int × Int => .tup [.int .i64 p.1, .int .i64 p.2]) (lateBy l aid day) := by
  refine ac Try.func20 (by kernel_rfl) (.tupC (.int _ _) (.tupC (.int _ _) .tup0)) fun E K hE hK => ?_
  conv => cbv
  have hsp := visAt_spec l aid
  repeat' first
    | (refine idxV hE (by assumption) (by omega) (by assumption) ?_; (try conv => cbv))
    | (refine callP hE (l30Ok_ (by assumption)) (fun _ => ?_) (fun _ => ?_) <;> (try conv => cbv))
    | (refine callP hE (l04Day_ _) (fun _ => ?_) (fun _ => ?_) <;> (try conv => cbv))
    | (refine callI hE (l30Find_ _ (by assumption)) (fun _ _ => ?_); (try conv => cbv))
    | (refine idxL (R := Vis.cs) hE (by assumption) (by first | omega | (simp only [List.length_set, mix_len]; omega)) ?_; rintro ⟨⟩ _; (try conv => cbv))
    | (refine callI hE (l30Due_ _ _ _) (fun _ _ => ?_); (try conv => cbv))
    | (refine callI hE (l00Max_ _ _) (fun _ _ => ?_); (try conv => cbv))
    | (refine ltT hE (by omega) ?_; (try conv => cbv))
    | (refine ltF hE (by omega) ?_; (try conv => cbv))
    | (refine ltI hE (fun _ => ?_) (fun _ => ?_) <;> (try conv => cbv))
    | (refine leT hE (by omega) ?_; (try conv => cbv))
    | (refine leF hE (by omega) ?_; (try conv => cbv))
    | (refine leI hE (fun _ => ?_) (fun _ => ?_) <;> (try conv => cbv))
    | (refine eqT hE (by omega) ?_; (try conv => cbv))
    | (refine eqF hE (by omega) ?_; (try conv => cbv))
    | (refine eqI hE (fun _ => ?_) (fun _ => ?_) <;> (try conv => cbv))
    | (refine add64 hE (by omega) (fun _ _ => ?_); (try conv => cbv))
    | (refine sub64 hE (by omega) (fun _ _ => ?_); (try conv => cbv))
    | (refine addI hE (fun _ _ => ?_); (try conv => cbv))
    | (refine subI hE (fun _ _ => ?_); (try conv => cbv))
    | (refine lenL hE (by assumption) (fun _ _ _ => ?_); (try conv => cbv))
    | (refine idxL hE (by assumption) (by first | omega | (simp only [List.length_set, mix_len]; omega)) (fun _ _ => ?_); (try conv => cbv))
    | (refine idxFill hE (by assumption) (by omega) ?_; (try conv => cbv))
    | (refine idxI hE (by decide) (by rfl) ?_; (try conv => cbv))
    | (refine iteB (fun _ => ?_) (fun _ => ?_) <;> (try conv => cbv))
    | (refine maxI hE (fun _ _ => ?_); (try conv => cbv))
    | (refine minI hE (fun _ _ => ?_); (try conv => cbv))
    | (refine seqI hE (fun _ => ?_) (fun _ => ?_) <;> (try conv => cbv))
    | (refine scatI hE (by first | omega | (simp only [ByteArray.size, Array.size, List.length_cons, List.length_nil] at *; omega)) (fun _ _ _ => ?_); (try conv => cbv))
    | (refine slenI hE (fun _ _ _ => ?_); (try conv => cbv))
    | (refine sidxI hE (by omega) (fun _ _ _ _ => ?_); (try conv => cbv))
    | (refine needI hE (by first | decide | omega) ?_; (try conv => cbv))
    | (refine rem64 hE (by omega) (fun _ _ => ?_); (try conv => cbv))
    | (refine quo64 hE (by omega) (fun _ _ => ?_); (try conv => cbv))
    | (refine wrapU8 hE (by omega) (fun _ _ => ?_); (try conv => cbv))
    | (refine wrap64 hE (by omega) (fun _ _ => ?_); (try conv => cbv))
  all_goals (try clear hN)
  all_goals (refine hK _ ?_; first | (simp only [atup]; grind [lateBy, visCode]) | (simp_all [atup, lateBy, visCode]; done))
end Go.Proofs.Ytdmckfdecbhalaa
