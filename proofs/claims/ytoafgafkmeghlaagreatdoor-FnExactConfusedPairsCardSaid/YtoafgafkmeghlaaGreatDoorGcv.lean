/- Contracts: valid characters. -/
import Derived.Test.YtoafgafkmeghlaaGreatDoorGct
namespace Go.Proofs.YtoafgafkmeghlaaGreatDoor
open Go Go.RowKit Classical
set_option maxRecDepth 100000
set_option maxHeartbeats 2000000
set_option linter.unusedVariables false
set_option linter.unusedSimpArgs false
theorem rest_gap (k : Int) : ((k = 2 ∨ k = 4 ∨ k = 5) → gapR k + 5 = restR k) ∧ (k = 6 → restR k = 20) ∧ (k = 7 → restR k = 10) ∧ (k = 8 → restR k = 30) := by
  refine ⟨?_, ?_, ?_, ?_⟩
  · rintro (rfl | rfl | rfl) <;> rfl
  · rintro rfl; rfl
  · rintro rfl; rfl
  · rintro rfl; rfl
theorem leastPeriod_ (k p : Int) (le co : ByteArray) {rs : List (List AV)} {t : Bool} {l : List Int} (hl : rs = l.map intR) (hs : ShapeOk k l le) : AC Tryz.prog 215 [.agg [.int .i64 k, .sl t 1 rs, .str le, .str co, .int .i64 p]] (AV.int .i64) (leastR k l le) := by
  refine ac Tryz.func215 (by kernel_rfl) (.int _ _) fun E K hE hK => ?_
  conv => cbv
  have htb := timesR_bd hs
  have hsb := sum_bd htb.2
  have hrb := restR_bd k
  have hkk := hs.kind
  refine callP hE (isSteady_ k p le co hl) (fun hst => ?_) (fun hst => ?_) <;> conv => cbv
  · exact hK _ (by unfold leastR; rw [if_pos hst]; rfl)
  · refine eqI hE (fun h3 => ?_) (fun h3 => ?_) <;> conv => cbv
    · exact hK _ (by unfold leastR; rw [if_neg hst, if_pos h3]; rfl)
    · have hk1 : k ≠ 1 := fun h => hst (.inl h)
      refine callIII hE (rhythm_ k (by omega)) fun f g r hf hg hr => ?_
      simp only at hr
      rw [← hr] at hrb
      conv => cbv
      repeat' first
        | (refine callR hE (times_ k p le co hl hs ⟨hk1, h3⟩) (fun ts hts => ?_); (try conv => cbv))
        | (refine callI hE (sumOf_ (by assumption) htb.2 (by omega)) (fun s hs2 => ?_); (try conv => cbv))
        | ((first
       | refine q0 hE ?_
       | refine B0 hE ?_|refine B1 hE (fun _=>?_) fun _=>?_|refine B3 hE fun _ _ _=>?_|refine B2 hE fun _ _=>?_|refine B4 hE fun _ _ _ _=>?_) <;> (try conv => cbv))
      all_goals (refine hK _ ?_; unfold leastR; rw [if_neg hst, if_neg h3, ← hr]; show AV.int _ _ = AV.int _ _; congr 1; (first | rw [if_pos (by omega)] | rw [if_neg (by omega)]); omega)
theorem l05Rest_ (k p : Int) (le co : ByteArray) {rs : List (List AV)} {t : Bool} {l : List Int} (hl : rs = l.map intR) (hs : ShapeOk k l le) (hk : k ≠ 1 ∧ k ≠ 3) : AC Tryz.prog 196 [.pp [.int .i64 k, .sl t 1 rs, .str le, .str co, .int .i64 p]] (AV.int .i64) (restR k + (if 1 < l.length then 20 else 0)) := by
  refine ac Tryz.func196 (by kernel_rfl) (.int _ _) fun E K hE hK => ?_
  conv => cbv
  have hkk := hs.kind
  have hgp := gapR_bd k
  have hlen : (k = 6 ∨ k = 7 ∨ k = 8) → l.length ≤ 1 := fun h => by
    rcases hs with h1 | h1 | ⟨_, ⟨_, rfl | ⟨x, rfl, _⟩⟩ | ⟨_, rfl⟩⟩ | ⟨_, _, rfl⟩
    · omega
    · omega
    · simp
    · simp
    · simp
    · simp
  repeat' first
    | ((first
   | refine q0 hE ?_
   | refine callI hE (l05Gap_ _) (fun _ _ => ?_)
   | refine B0 hE ?_|refine B1 hE (fun _=>?_) fun _=>?_|refine B3 hE fun _ _ _=>?_|refine B2 hE fun _ _=>?_|refine B4 hE fun _ _ _ _=>?_) <;> (try conv => cbv))
  all_goals (have hgr := rest_gap k; refine hK _ ?_; show AV.int _ _ = AV.int _ _; congr 1; (first | rw [if_pos (by omega)] | rw [if_neg (by omega)]); omega)
theorem l05Least_ (k p : Int) (le co : ByteArray) {rs : List (List AV)} {t : Bool} {l : List Int} (hl : rs = l.map intR) (hs : ShapeOk k l le) : AC Tryz.prog 146 [.pp [.int .i64 k, .sl t 1 rs, .str le, .str co, .int .i64 p]] (AV.int .i64) (leastR k l le) := by
  refine ac Tryz.func146 (by kernel_rfl) (.int _ _) fun E K hE hK => ?_
  conv => cbv
  have htb := timesR_bd hs
  have hsb := sum_bd htb.2
  have hrb := restR_bd k
  refine callP hE (l05Steady_ k p le co hl) (fun hst => ?_) (fun hst => ?_) <;> conv => cbv
  · exact hK _ (by unfold leastR; rw [if_pos hst]; rfl)
  · refine eqI hE (fun h3 => ?_) (fun h3 => ?_) <;> conv => cbv
    · exact hK _ (by unfold leastR; rw [if_neg hst, if_pos h3]; rfl)
    · have hk1 : k ≠ 1 := fun h => hst (.inl h)
      repeat' first
        | (refine callR hE (sTimes_ k p le co hl hs ⟨hk1, h3⟩) (fun ts hts => ?_); (try conv => cbv))
        | (refine callI hE (l05Total_ (by assumption) htb.2 (by omega)) (fun s hs2 => ?_); (try conv => cbv))
        | (refine callI hE (l05Rest_ k p le co hl hs ⟨hk1, h3⟩) (fun r hr => ?_); (have hr2 : r = restR k ∨ r = restR k + 20 := by (split at hr <;> omega)); (try conv => cbv))
        | ((first
       | refine q0 hE ?_
       | refine B0 hE ?_|refine B1 hE (fun _=>?_) fun _=>?_|refine B3 hE fun _ _ _=>?_|refine B2 hE fun _ _=>?_|refine B4 hE fun _ _ _ _=>?_) <;> (try conv => cbv))
      all_goals (refine hK _ ?_; unfold leastR; rw [if_neg hst, if_neg h3]; show AV.int _ _ = AV.int _ _; congr 1; omega)
theorem validCharacter_ (k p : Int) (le co : ByteArray) {rs : List (List AV)} {t : Bool} {l : List Int} (hl : rs = l.map intR) : AC Tryz.prog 165 [.agg [.int .i64 k, .sl t 1 rs, .str le, .str co, .int .i64 p]] AV.bool (bP (ChrOk k l le co p)) := by
  refine ac Tryz.func165 (by kernel_rfl) (.bool _) fun E K hE hK => ?_
  conv => cbv
  refine callP hE (areCharacterColors_ co) (fun hc => ?_) (fun hc => ?_) <;> conv => cbv
  · refine callP hE (fits_ k p le co hl) (fun hs => ?_) (fun hs => ?_) <;> conv => cbv
    · have hlb := leastR_bd hs
      refine callP hE (isSteady_ k p le co hl) (fun hst => ?_) (fun hst => ?_) <;> conv => cbv
      · refine eqI hE (fun h => ?_) (fun h => ?_) <;> conv => cbv
        · exact finB hK (bP_true.2 ⟨hc, hs, fun _ => h, fun h' => absurd hst h'⟩)
        · exact finB hK (bP_false.2 fun h' => h (h'.2.2.1 hst))
      · skip
        repeat' first
          | (refine callI hE (leastPeriod_ k p le co hl hs) (fun y hy => ?_); (try conv => cbv))
          | ((first
         | refine q0 hE ?_
         | refine callP hE (within_ _ _ _) (fun _ => ?_) (fun _ => ?_)
         | refine B0 hE ?_|refine B1 hE (fun _=>?_) fun _=>?_|refine B3 hE fun _ _ _=>?_|refine B2 hE fun _ _=>?_|refine B4 hE fun _ _ _ _=>?_) <;> (try conv => cbv))
        all_goals first
          | (refine finB hK (bP_true.2 ⟨hc, hs, fun h' => absurd h' hst, fun _ => ⟨by omega, by omega, fun _ => by omega⟩⟩))
          | (refine finB hK (bP_false.2 fun h' => ?_); have h2 := h'.2.2.2 hst; omega)
          | trace_state
    · exact finB hK (bP_false.2 fun h' => hs h'.2.1)
  · exact finB hK (bP_false.2 fun h' => hc h'.1)
theorem l05Ok_ (k p : Int) (le co : ByteArray) {rs : List (List AV)} {t : Bool} {l : List Int} (hl : rs = l.map intR) : AC Tryz.prog 104 [.pp [.int .i64 k, .sl t 1 rs, .str le, .str co, .int .i64 p]] AV.bool (bP (ChrOk k l le co p)) := by
  refine ac Tryz.func104 (by kernel_rfl) (.bool _) fun E K hE hK => ?_
  conv => cbv
  refine callP hE (l05Shape_ k p le co hl) (fun hcs => ?_) (fun hcs => ?_) <;> conv => cbv
  · obtain ⟨hc, hs⟩ := hcs
    have hlb := leastR_bd hs
    refine callP hE (l05Steady_ k p le co hl) (fun hst => ?_) (fun hst => ?_) <;> conv => cbv
    · refine eqI hE (fun h => ?_) (fun h => ?_) <;> conv => cbv
      · exact finB hK (bP_true.2 ⟨hc, hs, fun _ => h, fun h' => absurd hst h'⟩)
      · exact finB hK (bP_false.2 fun h' => h (h'.2.2.1 hst))
    · skip
      repeat' first
        | (refine callI hE (l05Least_ k p le co hl hs) (fun y hy => ?_); (try conv => cbv))
        | (refine remI hE (fun m hm => ?_); (have hm2 := tmod2 p); rw [← hm] at hm2; (try conv => cbv))
        | ((first
       | refine q0 hE ?_
       | refine callP hE (in_ _ _ _) (fun _ => ?_) (fun _ => ?_)
       | refine B0 hE ?_|refine B1 hE (fun _=>?_) fun _=>?_|refine B3 hE fun _ _ _=>?_|refine B2 hE fun _ _=>?_|refine B4 hE fun _ _ _ _=>?_) <;> (try conv => cbv))
      all_goals first
        | (refine finB hK (bP_true.2 ⟨hc, hs, fun h' => absurd h' hst, fun _ => ⟨by omega, by omega, fun _ => by omega⟩⟩))
        | (refine finB hK (bP_false.2 fun h' => ?_); have h2 := h'.2.2.2 hst; omega)
        | trace_state
  · exact finB hK (bP_false.2 fun h' => hcs ⟨h'.1, h'.2.1⟩)
end Go.Proofs.YtoafgafkmeghlaaGreatDoor
