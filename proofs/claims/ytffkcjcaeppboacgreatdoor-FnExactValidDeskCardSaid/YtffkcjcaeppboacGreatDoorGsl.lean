/- Contracts: lists of aids; those that an observer sees. -/
import Derived.Test.YtffkcjcaeppboacGreatDoorGse
namespace Go.Proofs.YtffkcjcaeppboacGreatDoor
open Go Go.RowKit Classical
set_option maxRecDepth 100000
set_option maxHeartbeats 2000000
set_option linter.unusedVariables false
set_option linter.unusedSimpArgs false
theorem AidsOk.all {l : List Aid} (h : AidsOk l) : ∀ v ∈ l, v.ok := fun v hv => h.mem hv
set_option maxHeartbeats 4000000
theorem validAids_ {rs : List (List AV)} {t b : Bool} {l : List Aid} (hl : rs = l.map (Aid.cs b)) : AC Tryz.prog 120 [.sl t 16 rs] AV.bool (bP (AidsOk l)) := by
  refine ac Tryz.func120 (by kernel_rfl) (.bool _) fun E K hE hK => ?_
  conv => cbv
  refine lenL hE hl fun n hn hb => ?_
  conv => cbv
  refine loopC hE (ι := Int) [0, 5, 6] [7] (fun q => (fun (i : Int) => [(7, .int .i64 i)]) q) (fun q => (fun (i : Int) => []) q) (fun q => (fun (i : Int) => (l.length - i).toNat) q) (fun q => (fun (i : Int) => 0 ≤ i ∧ Up (Aid.C l) i) q) [] (by decide) (0) (by conv => lhs; cbv) (by conv => lhs; cbv) rfl rfl (by dsimp only; exact ⟨by omega, .zero (by omega)⟩) fun i hi Kn hN => ?_
  (try dsimp only at hi)
  conv => cbv
  obtain ⟨h0, hinv⟩ := hi
  refine ltI hE (fun hlt => ?_) (fun hge => ?_) <;> conv => cbv
  · refine idxAid hE hl (by omega) (fun number name atX atY height mKind mColors mShape mTop lKind lGroup lLetter lColors lPeriod sectors intensity rg rx hv hg hx => ?_)
    conv => cbv
    refine callP hE (validAid_ _ _ _ _ _ _ _ _ _ _ _ _ _ _ hg hx) (fun h1 => ?_) (fun h1 => ?_) <;> conv => cbv
    · refine ltI hE (fun h2 => ?_) (fun h2 => ?_) <;> conv => cbv
      · refine sub64 hE (by omega) fun k hk => ?_
        conv => cbv
        refine idxAid hE hl (by omega) (fun number' name' atX' atY' height' mKind' mColors' mShape' mTop' lKind' lGroup' lLetter' lColors' lPeriod' sectors' intensity' rg' rx' hw hg' hx' => ?_)
        conv => cbv
        have hk2 : i.toNat - 1 = k.toNat := by omega
        repeat' first
          | (refine hN _ _ [] (by decide) rfl ⟨?_, ?_⟩ ?_ <;> (try dsimp only))
          | ((first
         | refine q0 hE ?_
         | refine B0 hE ?_|refine B1 hE (fun _=>?_) fun _=>?_|refine B3 hE fun _ _ _=>?_|refine B2 hE fun _ _=>?_|refine B4 hE fun _ _ _ _=>?_) <;> (try conv => cbv))
        all_goals (try clear hN)
        all_goals first
          | omega
          | (refine finB hK (bP_false.2 fun h => ?_)
             obtain ⟨v', e1, e2, e3⟩ := h.1 i.toNat (by omega)
             rw [hv] at e1; cases e1
             obtain ⟨w', g1, g2⟩ := e3 (by omega)
             rw [hk2, hw] at g1; cases g1
             simp only at g2; omega)
          | exact hinv.succ ⟨_, hv, h1, fun _ => ⟨_, by rw [hk2]; exact hw, by simp only; omega⟩⟩ (by assumption)
          | trace_state
      · skip
        repeat' first
          | (refine hN _ _ [] (by decide) rfl ⟨?_, ?_⟩ ?_ <;> (try dsimp only))
          | ((first
         | refine q0 hE ?_
         | refine B0 hE ?_|refine B1 hE (fun _=>?_) fun _=>?_|refine B3 hE fun _ _ _=>?_|refine B2 hE fun _ _=>?_|refine B4 hE fun _ _ _ _=>?_) <;> (try conv => cbv))
        all_goals (try clear hN)
        all_goals first
          | omega
          | exact hinv.succ ⟨_, hv, h1, fun _ => by omega⟩ (by assumption)
          | trace_state
    · refine finB hK (bP_false.2 fun h => ?_)
      obtain ⟨v', e1, e2, e3⟩ := h.1 i.toNat (by omega)
      rw [hv] at e1; cases e1
      exact h1 e2
  · skip
    repeat' first
      | ((first
     | refine q0 hE ?_
     | refine callP hE (few_ _ _) (fun _ => ?_) (fun _ => ?_)
     | refine B0 hE ?_|refine B1 hE (fun _=>?_) fun _=>?_|refine B3 hE fun _ _ _=>?_|refine B2 hE fun _ _=>?_|refine B4 hE fun _ _ _ _=>?_) <;> (try conv => cbv))
    all_goals first
      | exact finB hK (bP_true.2 ⟨hinv.all (by omega), by omega⟩)
      | (refine finB hK (bP_false.2 fun h => ?_); have := h.2; omega)
      | trace_state
theorem l12Ok_ {rs : List (List AV)} {t b : Bool} {l : List Aid} (hl : rs = l.map (Aid.cs b)) : AC Tryz.prog 94 [.sl t 16 rs] AV.bool (bP (AidsOk l)) := by
  refine ac Tryz.func94 (by kernel_rfl) (.bool _) fun E K hE hK => ?_
  conv => cbv
  refine loopC hE (ι := Int) [0] [3] (fun q => (fun (i : Int) => [(3, .int .i64 i)]) q) (fun q => (fun (i : Int) => []) q) (fun q => (fun (i : Int) => (l.length - i).toNat) q) (fun q => (fun (i : Int) => 0 ≤ i ∧ Up (Aid.C l) i) q) [] (by decide) (0) (by conv => lhs; cbv) (by conv => lhs; cbv) rfl rfl (by dsimp only; exact ⟨by omega, .zero (by omega)⟩) fun i hi Kn hN => ?_
  (try dsimp only at hi)
  conv => cbv
  obtain ⟨h0, hinv⟩ := hi
  refine lenL hE hl fun n hn hb => ?_
  conv => cbv
  refine ltI hE (fun hlt => ?_) (fun hge => ?_) <;> conv => cbv
  · refine idxAid hE hl (by omega) (fun number name atX atY height mKind mColors mShape mTop lKind lGroup lLetter lColors lPeriod sectors intensity rg rx hv hg hx => ?_)
    conv => cbv
    refine callP hE (l12One_ _ _ _ _ _ _ _ _ _ _ _ _ _ _ hg hx) (fun h1 => ?_) (fun h1 => ?_) <;> conv => cbv
    · refine ltI hE (fun h2 => ?_) (fun h2 => ?_) <;> conv => cbv
      · refine sub64 hE (by omega) fun k hk => ?_
        conv => cbv
        refine idxAid hE hl (by omega) (fun number' name' atX' atY' height' mKind' mColors' mShape' mTop' lKind' lGroup' lLetter' lColors' lPeriod' sectors' intensity' rg' rx' hw hg' hx' => ?_)
        conv => cbv
        have hk2 : i.toNat - 1 = k.toNat := by omega
        repeat' first
          | (refine idxAidV hE hl (by omega) hv hg hx ?_; (try conv => cbv))
          | (refine hN _ _ [] (by decide) rfl ⟨?_, ?_⟩ ?_ <;> (try dsimp only))
          | ((first
         | refine q0 hE ?_
         | refine B0 hE ?_|refine B1 hE (fun _=>?_) fun _=>?_|refine B3 hE fun _ _ _=>?_|refine B2 hE fun _ _=>?_|refine B4 hE fun _ _ _ _=>?_) <;> (try conv => cbv))
        all_goals (try clear hN)
        all_goals first
          | omega
          | (refine finB hK (bP_false.2 fun h => ?_)
             obtain ⟨v', e1, e2, e3⟩ := h.1 i.toNat (by omega)
             rw [hv] at e1; cases e1
             obtain ⟨w', g1, g2⟩ := e3 (by omega)
             rw [hk2, hw] at g1; cases g1
             simp only at g2; omega)
          | exact hinv.succ ⟨_, hv, h1, fun _ => ⟨_, by rw [hk2]; exact hw, by simp only; omega⟩⟩ (by assumption)
          | trace_state
      · skip
        repeat' first
          | (refine hN _ _ [] (by decide) rfl ⟨?_, ?_⟩ ?_ <;> (try dsimp only))
          | ((first
         | refine q0 hE ?_
         | refine B0 hE ?_|refine B1 hE (fun _=>?_) fun _=>?_|refine B3 hE fun _ _ _=>?_|refine B2 hE fun _ _=>?_|refine B4 hE fun _ _ _ _=>?_) <;> (try conv => cbv))
        all_goals (try clear hN)
        all_goals first
          | omega
          | exact hinv.succ ⟨_, hv, h1, fun _ => by omega⟩ (by assumption)
          | trace_state
    · refine finB hK (bP_false.2 fun h => ?_)
      obtain ⟨v', e1, e2, e3⟩ := h.1 i.toNat (by omega)
      rw [hv] at e1; cases e1
      exact h1 e2
  · skip
    repeat' first
      | ((first
     | refine q0 hE ?_
     | refine B0 hE ?_|refine B1 hE (fun _=>?_) fun _=>?_|refine B3 hE fun _ _ _=>?_|refine B2 hE fun _ _=>?_|refine B4 hE fun _ _ _ _=>?_) <;> (try conv => cbv))
    all_goals first
      | exact finB hK (bP_true.2 ⟨hinv.all (by omega), by omega⟩)
      | (refine finB hK (bP_false.2 fun h => ?_); have := h.2; omega)
      | trace_state
end Go.Proofs.YtffkcjcaeppboacGreatDoor
