/- Contracts: inspections. -/
import Derived.Test.YtlemeenicaidfaaGreatDoorFa
namespace Go.Proofs.YtlemeenicaidfaaGreatDoor
open Go Go.RowKit Classical
set_option maxRecDepth 100000
set_option maxHeartbeats 2000000
set_option linter.unusedVariables false
set_option linter.unusedSimpArgs false
noncomputable def visCode (l : List Vis) (aid day : Int) : Int × Int := if VisitsOk l then (if 0 ≤ day ∧ day ≤ 99999 then (if visAt l aid < 0 then (0, 3) else (visAt l aid, 0)) else (0, 2)) else (0, 1)
theorem visitCode_ [St] {rs : List (List AV)} {t : Bool} {l : List Vis} (aid day : Int) (hl : rs = l.map Vis.cs) : AP 182 [.sl t 3 rs, .int .i64 aid, .int .i64 day] (fun p : Int × Int => .tup [.int .i64 p.1, .int .i64 p.2]) (visCode l aid day) := by
  refine ac Tryz.func182 (.tupC (.int _ _) (.tupC (.int _ _) .tup0)) fun E K hE hK => ?_
  repeat' first
    | ((first
   | refine callP (validVisits_ (by assumption)) (fun _ => ?_) (fun _ => ?_)
   | refine callP (isDay_ _) (fun _ => ?_) (fun _ => ?_)
   | refine callI (visitOf_ _ (by assumption)) (fun _ _ => ?_)
   | refine B0 ?_|refine B1 ?_ ?_) <;> intros <;> (try conv => cbv))
  all_goals (try clear hN)
  all_goals (refine hK _ ?_; first | (simp only [atup]; grind [visCode]) | (simp_all [atup, visCode]; done))
noncomputable def lateBy (l : List Vis) (aid day : Int) : Int × Int := if (visCode l aid day).2 = 0 then (match l[(visCode l aid day).1.toNat]? with
  | some v => (max 0 (IntKind.i64.wrap (day - IntKind.i64.wrap (v.last + v.every))), 0)
  | none => (0, 0)) else (0, (visCode l aid day).2)
theorem visAt_spec (l : List Vis) (aid : Int) : visAt l aid = -1 ∨ 0 ≤ visAt l aid ∧ visAt l aid < l.length := by
  rcases firstI_spec (fun v : Vis => v.aid = aid) l with ⟨h1, h2, _⟩ | ⟨h1, _⟩
  · exact .inr ⟨h1, h2⟩
  · exact .inl h1
theorem visCode_ok {l : List Vis} {aid day : Int} (h : (visCode l aid day).2 = 0) : 0 ≤ (visCode l aid day).1 ∧ (visCode l aid day).1 < l.length := by
  have := visAt_spec l aid
  unfold visCode at *
  grind
end Go.Proofs.YtlemeenicaidfaaGreatDoor
