/- Contracts: marks, observers. -/
import Derived.Test.YtoafgafkmeghlaaGreatDoorShl
import Derived.Test.YtoafgafkmeghlaaGreatDoorFB
namespace Go.Proofs.YtoafgafkmeghlaaGreatDoor
open Go Go.RowKit Classical
set_option maxRecDepth 100000
set_option maxHeartbeats 2000000
set_option linter.unusedVariables false
set_option linter.unusedSimpArgs false
theorem isHeight_ (n : Int) : AC Tryz.prog 83 [.int .i64 n] AV.bool (bP (0 ≤ n ∧ n ≤ 3000)) := by
  refine ac Tryz.func83 (by kernel_rfl) (.bool _) fun E K hE hK => ?_
  conv => cbv
  repeat' first
    | ((first
   | refine q0 hE ?_
   | refine callP hE (within_ _ _ _) (fun _ => ?_) (fun _ => ?_)
   | refine B0 hE ?_|refine B1 hE (fun _=>?_) fun _=>?_|refine B3 hE fun _ _ _=>?_|refine B2 hE fun _ _=>?_|refine B4 hE fun _ _ _ _=>?_) <;> (try conv => cbv))
  all_goals (try clear hN)
  all_goals first
    | (omega)
    | (refine finB hK (bP_true.2 ?_); first | omega | grind)
    | (refine finB hK (bP_false.2 ?_); first | omega | (intro h; grind))
    | (refine ⟨by omega, Up.succ (by assumption) ?_ (by assumption)⟩; grind)
    | (refine hK _ ?_; simp_all [atup]; done)
    | (grind)
theorem isVisibility_ (n : Int) : AC Tryz.prog 84 [.int .i64 n] AV.bool (bP (1 ≤ n ∧ n ≤ 100000)) := by
  refine ac Tryz.func84 (by kernel_rfl) (.bool _) fun E K hE hK => ?_
  conv => cbv
  repeat' first
    | ((first
   | refine q0 hE ?_
   | refine callP hE (within_ _ _ _) (fun _ => ?_) (fun _ => ?_)
   | refine B0 hE ?_|refine B1 hE (fun _=>?_) fun _=>?_|refine B3 hE fun _ _ _=>?_|refine B2 hE fun _ _=>?_|refine B4 hE fun _ _ _ _=>?_) <;> (try conv => cbv))
  all_goals (try clear hN)
  all_goals first
    | (omega)
    | (refine finB hK (bP_true.2 ?_); first | omega | grind)
    | (refine finB hK (bP_false.2 ?_); first | omega | (intro h; grind))
    | (refine ⟨by omega, Up.succ (by assumption) ?_ (by assumption)⟩; grind)
    | (refine hK _ ?_; simp_all [atup]; done)
    | (grind)
def ObvOk (x y e v : Int) : Prop := PtOk x y ∧ (0 ≤ e ∧ e ≤ 3000) ∧ 1 ≤ v ∧ v ≤ 100000
theorem validObserver_ (x y e v : Int) : AC Tryz.prog 54 [.agg [.int .i64 x, .int .i64 y, .int .i64 e, .int .i64 v]] AV.bool (bP (ObvOk x y e v)) := by
  refine ac Tryz.func54 (by kernel_rfl) (.bool _) fun E K hE hK => ?_
  conv => cbv
  repeat' first
    | ((first
   | refine q0 hE ?_
   | refine callP hE (validPoint_ _ _) (fun _ => ?_) (fun _ => ?_)
   | refine callP hE (isHeight_ _) (fun _ => ?_) (fun _ => ?_)
   | refine callP hE (isVisibility_ _) (fun _ => ?_) (fun _ => ?_)
   | refine B0 hE ?_|refine B1 hE (fun _=>?_) fun _=>?_|refine B3 hE fun _ _ _=>?_|refine B2 hE fun _ _=>?_|refine B4 hE fun _ _ _ _=>?_) <;> (try conv => cbv))
  all_goals (try clear hN)
  all_goals first
    | (omega)
    | (refine finB hK (bP_true.2 ?_); first | omega | grind [ObvOk])
    | (refine finB hK (bP_false.2 ?_); first | omega | (intro h; grind [ObvOk]))
    | (refine ⟨by omega, Up.succ (by assumption) ?_ (by assumption)⟩; grind [ObvOk])
    | (refine hK _ ?_; simp_all [atup, ObvOk]; done)
    | (grind [ObvOk])
theorem l16One_ (x y e v : Int) : AC Tryz.prog 42 [.pp [.int .i64 x, .int .i64 y, .int .i64 e, .int .i64 v]] AV.bool (bP (ObvOk x y e v)) := by
  refine ac Tryz.func42 (by kernel_rfl) (.bool _) fun E K hE hK => ?_
  conv => cbv
  repeat' first
    | ((first
   | refine q0 hE ?_
   | refine callP hE (l02Ok_ _ _) (fun _ => ?_) (fun _ => ?_)
   | refine callP hE (in_ _ _ _) (fun _ => ?_) (fun _ => ?_)
   | refine B0 hE ?_|refine B1 hE (fun _=>?_) fun _=>?_|refine B3 hE fun _ _ _=>?_|refine B2 hE fun _ _=>?_|refine B4 hE fun _ _ _ _=>?_) <;> (try conv => cbv))
  all_goals (try clear hN)
  all_goals first
    | (omega)
    | (refine finB hK (bP_true.2 ?_); first | omega | grind [ObvOk])
    | (refine finB hK (bP_false.2 ?_); first | omega | (intro h; grind [ObvOk]))
    | (refine ⟨by omega, Up.succ (by assumption) ?_ (by assumption)⟩; grind [ObvOk])
    | (refine hK _ ?_; simp_all [atup, ObvOk]; done)
    | (grind [ObvOk])
end Go.Proofs.YtoafgafkmeghlaaGreatDoor
