/- Contracts: sines, bearings. -/
import Derived.Test.YtoafgafkmeghlaaGreatDoorFC
namespace Go.Proofs.YtoafgafkmeghlaaGreatDoor
open Go Go.RowKit Classical
set_option maxRecDepth 100000
set_option maxHeartbeats 2000000
set_option linter.unusedVariables false
set_option linter.unusedSimpArgs false
theorem turned_ (d : Int) : AC Tryz.prog 222 [.int .i64 d] (AV.int .i64) (d % 360) := by
  refine ac Tryz.func222 (by kernel_rfl) (.int _ _) fun E K hE hK => ?_
  conv => cbv
  have hb := tmod_bd d
  repeat' first
    | (refine remI hE (fun m hm => ?_); (try conv => cbv))
    | ((first
   | refine q0 hE ?_
   | refine B0 hE ?_|refine B1 hE (fun _=>?_) fun _=>?_|refine B3 hE fun _ _ _=>?_|refine B2 hE fun _ _=>?_|refine B4 hE fun _ _ _ _=>?_) <;> (try conv => cbv))
  all_goals first
    | (exact hK _ (by subst_vars; rw [angR]; rfl))
    | trace_state
theorem l02Angle_ (d : Int) : AC Tryz.prog 234 [.int .i64 d] (AV.int .i64) (d % 360) := by
  refine ac Tryz.func234 (by kernel_rfl) (.int _ _) fun E K hE hK => ?_
  conv => cbv
  have hb := tmod_bd d
  repeat' first
    | (refine remI hE (fun m hm => ?_); (try conv => cbv))
    | ((first
   | refine q0 hE ?_
   | refine B0 hE ?_|refine B1 hE (fun _=>?_) fun _=>?_|refine B3 hE fun _ _ _=>?_|refine B2 hE fun _ _=>?_|refine B4 hE fun _ _ _ _=>?_) <;> (try conv => cbv))
  all_goals first
    | (exact hK _ (by subst_vars; rw [angR]; rfl))
    | trace_state
theorem quarter_ (d : Int) (h : 0 ≤ d ∧ d ≤ 90) : AC Tryz.prog 246 [.int .i64 d] (AV.int .i64) (sinQ d) := by
  refine ac Tryz.func246 (by kernel_rfl) (.int _ _) fun E K hE hK => ?_
  conv => cbv
  have h91 := sinT_len
  refine idxL (R := intR) (l := sinT) hE (by rfl) (by omega) fun v hv => ?_
  conv => cbv
  exact hK _ (by rw [sinQ_get hv]; rfl)
theorem sineH_ (d : Int) (h : 0 ≤ d ∧ d < 180) : AC Tryz.prog 224 [.int .i64 d] (AV.int .i64) (sinR d) := by
  refine ac Tryz.func224 (by kernel_rfl) (.int _ _) fun E K hE hK => ?_
  conv => cbv
  have h360 : d % 360 = d := by omega
  repeat' first
    | (refine callI hE (turned_ _) (fun e he => ?_); (have he2 : d = e := by omega); subst he2; (try conv => cbv))
    | ((first
   | refine q0 hE ?_
   | refine callI hE (quarter_ _ (by omega)) (fun _ _ => ?_)
   | refine B0 hE ?_|refine B1 hE (fun _=>?_) fun _=>?_|refine B3 hE fun _ _ _=>?_|refine B2 hE fun _ _=>?_|refine B4 hE fun _ _ _ _=>?_) <;> (try conv => cbv))
  all_goals first
    | omega
    | (refine hK _ ?_; unfold sinR sinH; rw [h360, if_neg (by omega)]; (first | rw [if_pos (by omega)] | rw [if_neg (by omega)]); subst_vars; rfl)
    | trace_state
theorem sinR_half {d : Int} (h : 180 ≤ d % 360) : sinR d = -(sinR (d % 360 - 180)) := by
  have h2 : (d % 360 - 180) % 360 = d % 360 - 180 := by omega
  unfold sinR
  rw [if_pos h, h2, if_neg (by omega)]
theorem sine_ (d : Int) : AC Tryz.prog 224 [.int .i64 d] (AV.int .i64) (sinR d) := by
  refine ac Tryz.func224 (by kernel_rfl) (.int _ _) fun E K hE hK => ?_
  conv => cbv
  refine callI hE (turned_ _) fun e he => ?_
  conv => cbv
  have hb := sinR_bd (e - 180)
  repeat' first
    | (refine callI hE (sineH_ _ (by omega)) (fun s hs => ?_); (have hb2 : -1000000 ≤ s ∧ s ≤ 1000000 := by rw [hs]; exact sinR_bd _); (try conv => cbv))
    | ((first
   | refine q0 hE ?_
   | refine callI hE (quarter_ _ (by omega)) (fun _ _ => ?_)
   | refine B0 hE ?_|refine B1 hE (fun _=>?_) fun _=>?_|refine B3 hE fun _ _ _=>?_|refine B2 hE fun _ _=>?_|refine B4 hE fun _ _ _ _=>?_) <;> (try conv => cbv))
  all_goals first
    | omega
    | (refine hK _ ?_; rw [sinR_half (by omega)]; show AV.int _ _ = AV.int _ _; congr 1; subst_vars; omega)
    | (refine hK _ ?_; unfold sinR sinH; rw [← he, if_neg (by omega)]; (first | rw [if_pos (by omega)] | rw [if_neg (by omega)]); subst_vars; rfl)
    | trace_state
theorem cosine_ (d : Int) : AC Tryz.prog 225 [.int .i64 d] (AV.int .i64) (cosR d) := by
  refine ac Tryz.func225 (by kernel_rfl) (.int _ _) fun E K hE hK => ?_
  conv => cbv
  repeat' first
    | ((first
   | refine q0 hE ?_
   | refine callI hE (turned_ _) (fun _ _ => ?_)
   | refine callI hE (sine_ _) (fun _ _ => ?_)
   | refine B0 hE ?_|refine B1 hE (fun _=>?_) fun _=>?_|refine B3 hE fun _ _ _=>?_|refine B2 hE fun _ _=>?_|refine B4 hE fun _ _ _ _=>?_) <;> (try conv => cbv))
  all_goals first
    | omega
    | exact hK _ (by subst_vars; rfl)
    | trace_state
theorem l02Table_ : AC Tryz.prog 205 [] (fun l : List Int => .sl true 1 (l.map intR)) sinT := by
  refine ac Tryz.func205 (by kernel_rfl) (.ints _) fun E K hE hK => ?_
  conv => cbv
  exact hK _ rfl
theorem l02SineIn_ {rs : List (List AV)} {t : Bool} (d : Int) (hl : rs = sinT.map intR) : AC Tryz.prog 206 [.sl t 1 rs, .int .i64 d] (AV.int .i64) (sinR d) := by
  refine ac Tryz.func206 (by kernel_rfl) (.int _ _) fun E K hE hK => ?_
  conv => cbv
  have h91 := sinT_len
  refine callI hE (l02Angle_ _) fun e he => ?_
  conv => cbv
  repeat' first
    | (refine idxL (R := intR) (l := sinT) hE hl (by omega) (fun v hv => ?_); have hv2 := sinQ_get hv; have hv3 := sinQ_bd 0; have hv4 := sinT_bd v (List.mem_of_getElem? hv); (try conv => cbv))
    | (refine mul64 hE (by omega) (fun _ _ => ?_); (try conv => cbv))
    | ((first
   | refine q0 hE ?_
   | refine B0 hE ?_|refine B1 hE (fun _=>?_) fun _=>?_|refine B3 hE fun _ _ _=>?_|refine B2 hE fun _ _=>?_|refine B4 hE fun _ _ _ _=>?_) <;> (try conv => cbv))
  all_goals (try clear hv3 hv4)
  all_goals first
    | omega
    | (refine hK _ ?_; unfold sinR sinH; rw [← he]; (first | rw [if_pos (by omega)] | rw [if_neg (by omega)]); (first | rw [if_pos (by omega)] | rw [if_neg (by omega)]); show AV.int _ _ = AV.int _ _; congr 1; rename_i hm; rw [hm, hv2]; subst_vars; omega)
    | trace_state
theorem bearing1_ (x y x' y' d : Int) (h : PtOk x y) (k : PtOk x' y') : AC Tryz.prog 223 [.int .i64 d, .pp [.int .i64 x', .int .i64 y'], .pp [.int .i64 x, .int .i64 y]] (AV.int .i64) (vecR x y x' y' d) := by
  refine ac Tryz.func223 (by kernel_rfl) (.int _ _) fun E K hE hK => ?_
  conv => cbv
  unfold PtOk at h k
  have hs := sinR_bd d
  have hc := cosR_bd d
  have hS := sine_ d
  have hC := cosine_ d
  have hv : vecR x y x' y' d = (x' - x) * sinR d + (y' - y) * cosR d := rfl
  obtain ⟨sn, hsn⟩ : ∃ s, s = sinR d := ⟨_, rfl⟩
  obtain ⟨cn, hcn⟩ : ∃ s, s = cosR d := ⟨_, rfl⟩
  obtain ⟨dx, hdx⟩ : ∃ s, s = x' - x := ⟨_, rfl⟩
  obtain ⟨dy, hdy⟩ : ∃ s, s = y' - y := ⟨_, rfl⟩
  rw [← hsn, ← hcn, ← hdx, ← hdy] at hv
  rw [← hsn] at hs hS
  rw [← hcn] at hc hC
  have h1 := vec_bd (a := dx) (by omega) hs
  have h2 := vec_bd (a := dy) (by omega) hc
  repeat' first
    | ((refine callI hE hS (fun z hz => ?_); subst hz); (try conv => cbv))
    | ((refine callI hE hC (fun z hz => ?_); subst hz); (try conv => cbv))
    | (refine sub64 hE (by omega) (fun q hq => ?_); (first | ((have hq2 : dx = q := by omega); subst hq2; clear hq) | ((have hq2 : dy = q := by omega); subst hq2; clear hq)); (try conv => cbv))
    | (refine mul64 hE (by omega) (fun _ _ => ?_); (try conv => cbv))
    | ((first
   | refine q0 hE ?_
   | refine B0 hE ?_|refine B1 hE (fun _=>?_) fun _=>?_|refine B3 hE fun _ _ _=>?_|refine B2 hE fun _ _=>?_|refine B4 hE fun _ _ _ _=>?_) <;> (try conv => cbv))
  all_goals first
    | exact hK _ (by rw [hv]; subst_vars; rfl)
    | trace_state
set_option maxHeartbeats 4000000
theorem bearing_ (x y x' y' : Int) (h : PtOk x y) (k : PtOk x' y') : AC Tryz.prog 175 [.agg [.int .i64 x, .int .i64 y], .agg [.int .i64 x', .int .i64 y']] (AV.int .i64) (beaR x y x' y') := by
  refine ac Tryz.func175 (by kernel_rfl) (.int _ _) fun E K hE hK => ?_
  conv => cbv
  refine callPT hE (arePoints_ (l := [(⟨x, y⟩ : Pnt), ⟨x', y'⟩]) (by rfl)) (by
    intro p hp
    simp only [List.mem_cons, List.not_mem_nil, or_false] at hp
    rcases hp with rfl | rfl
    · exact h
    · exact k) ?_
  conv => cbv
  refine aeqI hE (fun he => ?_) (fun he => ?_) <;> conv => cbv
  · obtain ⟨e1, e2, _⟩ := he
    subst e1 e2
    exact hK _ (by rw [beaR_self]; rfl)
  · refine callI hE (bearing1_ x y x' y' 0 h k) fun m0 hm0 => ?_
    conv => cbv
    refine loopC hE (ι := Int × Int × Int) [5] [23, 6, 7] (fun q => (fun (d : Int) (best : Int) (most : Int) => [(23, .int .i64 d), (6, .int .i64 best), (7, .int .i64 most)]) q.1 q.2.1 q.2.2) (fun q => (fun (d : Int) (best : Int) (most : Int) => [.box [.int .i64 x, .int .i64 y], .box [.int .i64 x', .int .i64 y']]) q.1 q.2.1 q.2.2) (fun q => (fun (d : Int) (best : Int) (most : Int) => (360 - d).toNat) q.1 q.2.1 q.2.2) (fun q => (fun (d : Int) (best : Int) (most : Int) => (0 ≤ d ∧ d ≤ 360) ∧ best = argS (vecR x y x' y') d ∧ most = vecR x y x' y' best) q.1 q.2.1 q.2.2) [0, 1] (by decide) ((0, 0, m0)) (by conv => lhs; cbv) (by conv => lhs; cbv) rfl rfl (by dsimp only; exact ⟨by omega, (argS_zero _ (by omega)).symm, hm0⟩) fun q hi Kn hN => ?_
    obtain ⟨d, best, most⟩ := q
    (try dsimp only at hi)
    conv => cbv
    obtain ⟨h0, e1, e2⟩ := hi
    repeat' first
      | (refine callI hE (bearing1_ x y x' y' _ h k) (fun n hn => ?_); (try conv => cbv))
      | (refine hN (_, _, _) _ [0, 1] (by decide) rfl ⟨?_, ?_, ?_⟩ ?_ <;> (try dsimp only))
      | ((first
     | refine q0 hE ?_
     | refine B0 hE ?_|refine B1 hE (fun _=>?_) fun _=>?_|refine B3 hE fun _ _ _=>?_|refine B2 hE fun _ _=>?_|refine B4 hE fun _ _ _ _=>?_) <;> (try conv => cbv))
    all_goals (try clear hN)
    all_goals first
      | omega
      | (rw [argS_yes h0.1 (by assumption) (by rw [← e1, ← e2, ← hn]; assumption)])
      | (rw [argS_no h0.1 (by assumption) (by rw [← e1, ← e2, ← hn]; omega)]; exact e1)
      | exact hn
      | exact e2
      | (refine hK _ ?_; rw [e1, argS_all (by omega)]; rfl)
      | trace_state
theorem l02Bearing_ (x y x' y' : Int) (h : PtOk x y) (k : PtOk x' y') : AC Tryz.prog 153 [.agg [.int .i64 x, .int .i64 y], .agg [.int .i64 x', .int .i64 y']] (AV.int .i64) (beaR x y x' y') := by
  refine ac Tryz.func153 (by kernel_rfl) (.int _ _) fun E K hE hK => ?_
  conv => cbv
  have hp : PtOk x y ∧ PtOk x' y' := ⟨h, k⟩
  unfold PtOk at h k
  refine callR hE l02Table_ fun rs hrs => ?_
  conv => cbv
  refine loopC hE (ι := Int × Int × Int) [2, 3, 7] [8, 5, 6] (fun q => (fun (d : Int) (best : Int) (most : Int) => [(8, .int .i64 d), (5, .int .i64 best), (6, .int .i64 most)]) q.1 q.2.1 q.2.2) (fun q => (fun (d : Int) (best : Int) (most : Int) => [.box [.int .i64 x, .int .i64 y], .box [.int .i64 x', .int .i64 y'], .row 1 rs]) q.1 q.2.1 q.2.2) (fun q => (fun (d : Int) (best : Int) (most : Int) => (360 - d).toNat) q.1 q.2.1 q.2.2) (fun q => (fun (d : Int) (best : Int) (most : Int) => (0 ≤ d ∧ d ≤ 360) ∧ best = argS (vecR x y x' y') d ∧ (1 ≤ d → most = vecR x y x' y' best)) q.1 q.2.1 q.2.2) [0, 1, 2] (by decide) ((0, 0, 0)) (by conv => lhs; cbv) (by conv => lhs; cbv) rfl rfl (by dsimp only; exact ⟨by omega, (argS_zero _ (by omega)).symm, by omega⟩) fun q hi Kn hN => ?_
  obtain ⟨d, best, most⟩ := q
  (try dsimp only at hi)
  conv => cbv
  obtain ⟨h0, e1, e2⟩ := hi
  have hs := sinR_bd d
  have hc := sinR_bd (d + 90)
  have hS := l02SineIn_ (t := true) d hrs
  have hC := l02SineIn_ (t := true) (d + 90) hrs
  have hv : d < 360 → vecR x y x' y' d = (x' - x) * sinR d + (y' - y) * sinR (d + 90) := fun h3 => by unfold vecR; rw [cos_in ⟨h0.1, h3⟩]
  obtain ⟨sn, hsn⟩ : ∃ s, s = sinR d := ⟨_, rfl⟩
  obtain ⟨d9, hd9⟩ : ∃ s, s = d + 90 := ⟨_, rfl⟩
  rw [← hd9] at hv hc hC
  obtain ⟨cn, hcn⟩ : ∃ s, s = sinR d9 := ⟨_, rfl⟩
  obtain ⟨dx, hdx⟩ : ∃ s, s = x' - x := ⟨_, rfl⟩
  obtain ⟨dy, hdy⟩ : ∃ s, s = y' - y := ⟨_, rfl⟩
  rw [← hsn, ← hcn, ← hdx, ← hdy] at hv
  rw [← hsn] at hs hS
  rw [← hcn] at hc hC
  have h1 := vec_bd (a := dx) (by omega) hs
  have h2 := vec_bd (a := dy) (by omega) hc
  repeat' first
    | ((refine callI hE hS (fun z hz => ?_); subst hz); (try conv => cbv))
    | ((refine callI hE hC (fun z hz => ?_); subst hz); (try conv => cbv))
    | (refine sub64 hE (by omega) (fun q hq => ?_); (first | ((have hq2 : dx = q := by omega); subst hq2; clear hq) | ((have hq2 : dy = q := by omega); subst hq2; clear hq)); (try conv => cbv))
    | (refine mul64 hE (by omega) (fun _ _ => ?_); (try conv => cbv))
    | (refine add64 hE (by omega) (fun q hq => ?_); (first | ((have hq2 : d9 = q := by omega); subst hq2; clear hq) | skip); (try conv => cbv))
    | (refine hN (_, _, _) _ [0, 1, 2] (by decide) rfl ⟨?_, ?_, ?_⟩ ?_ <;> (try dsimp only))
    | ((first
   | refine q0 hE ?_
   | refine B0 hE ?_|refine B1 hE (fun _=>?_) fun _=>?_|refine B3 hE fun _ _ _=>?_|refine B2 hE fun _ _=>?_|refine B4 hE fun _ _ _ _=>?_) <;> (try conv => cbv))
  all_goals (try clear hN)
  all_goals (first | (have hv2 := hv (by omega)) | skip)
  all_goals first
    | omega
    | (rw [argS_zero _ (by omega)]; omega)
    | (rw [argS_yes h0.1 hq (by rw [← e1, ← e2 (by omega)]; omega)])
    | (rw [argS_no h0.1 hq (by rw [← e1, ← e2 (by omega)]; omega)]; exact e1)
    | (intro _; omega)
    | (intro _; exact e2 (by omega))
    | (refine hK _ ?_; rw [e1, argS_all (by omega)]; rfl)
    | trace_state
end Go.Proofs.YtoafgafkmeghlaaGreatDoor
