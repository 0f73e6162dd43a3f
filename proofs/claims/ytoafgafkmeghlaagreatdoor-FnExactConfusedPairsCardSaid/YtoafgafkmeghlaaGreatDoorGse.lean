/- Contracts: aids that are seen. -/
import Derived.Test.YtoafgafkmeghlaaGreatDoorGai
import Derived.Test.YtoafgafkmeghlaaGreatDoorGlc
namespace Go.Proofs.YtoafgafkmeghlaaGreatDoor
open Go Go.RowKit Classical
set_option maxRecDepth 100000
set_option maxHeartbeats 2000000
set_option linter.unusedVariables false
set_option linter.unusedSimpArgs false
theorem reach_ (number atX atY height mKind lKind lPeriod intensity : Int) (name mColors mShape mTop lLetter lColors : ByteArray) {rg rx : List (List AV)} {t t' : Bool} {g : List Int} {l : List Scr} (hg : rg = g.map intR) (hl : rx = l.map Scr.cs) (x y e s : Int) (hI : 1 ≤ intensity ∧ intensity ≤ 100000000) (hh : 0 ≤ height ∧ height ≤ 3000) (he : 0 ≤ e ∧ e ≤ 3000) (hv : 1 ≤ s ∧ s ≤ 100000) : AC Tryz.prog 121 [.agg [.int .i64 number, .str name, .int .i64 atX, .int .i64 atY, .int .i64 height, .int .i64 mKind, .str mColors, .str mShape, .str mTop, .int .i64 lKind, .sl t 1 rg, .str lLetter, .str lColors, .int .i64 lPeriod, .sl t' 3 rx, .int .i64 intensity], .agg [.int .i64 x, .int .i64 y, .int .i64 e, .int .i64 s]] (AV.int .i64) (rngR intensity height e s) := by
  refine ac Tryz.func121 (by kernel_rfl) (.int _ _) fun E K hE hK => ?_
  conv => cbv
  repeat' first
    | ((first
   | refine q0 hE ?_
   | refine callI hE (rangeOf_ _ _ _ _ hI hh he hv) (fun _ _ => ?_)
   | refine B0 hE ?_|refine B1 hE (fun _=>?_) fun _=>?_|refine B3 hE fun _ _ _=>?_|refine B2 hE fun _ _=>?_|refine B4 hE fun _ _ _ _=>?_) <;> (try conv => cbv))
  all_goals exact hK _ (by subst_vars; rfl)
theorem l16Reach_ (number atX atY height mKind lKind lPeriod intensity : Int) (name mColors mShape mTop lLetter lColors : ByteArray) {rg rx : List (List AV)} {t t' : Bool} {g : List Int} {l : List Scr} (hg : rg = g.map intR) (hl : rx = l.map Scr.cs) (x y e s : Int) (hI : 1 ≤ intensity ∧ intensity ≤ 100000000) (hh : 0 ≤ height ∧ height ≤ 3000) (he : 0 ≤ e ∧ e ≤ 3000) (hv : 1 ≤ s ∧ s ≤ 100000) : AC Tryz.prog 108 [.pp [.int .i64 number, .str name, .int .i64 atX, .int .i64 atY, .int .i64 height, .int .i64 mKind, .str mColors, .str mShape, .str mTop, .int .i64 lKind, .sl t 1 rg, .str lLetter, .str lColors, .int .i64 lPeriod, .sl t' 3 rx, .int .i64 intensity], .pp [.int .i64 x, .int .i64 y, .int .i64 e, .int .i64 s]] (AV.int .i64) (rngR intensity height e s) := by
  refine ac Tryz.func108 (by kernel_rfl) (.int _ _) fun E K hE hK => ?_
  conv => cbv
  repeat' first
    | ((first
   | refine q0 hE ?_
   | refine callII hE (sRangeOf_ _ _ _ _ hI hh he hv) (fun _ _ _ _ => ?_)
   | refine B0 hE ?_|refine B1 hE (fun _=>?_) fun _=>?_|refine B3 hE fun _ _ _=>?_|refine B2 hE fun _ _=>?_|refine B4 hE fun _ _ _ _=>?_) <;> (try conv => cbv))
  all_goals exact hK _ (by subst_vars; rfl)
theorem colorToward_ (number atX atY height mKind lKind lPeriod intensity : Int) (name mColors mShape mTop lLetter lColors : ByteArray) {rg rx : List (List AV)} {t t' : Bool} {g : List Int} {l : List Scr} (hg : rg = g.map intR) (hl : rx = l.map Scr.cs) (x y : Int) (hok : ScsOk l) (h : PtOk atX atY) (k : PtOk x y) : AC Tryz.prog 122 [.agg [.int .i64 number, .str name, .int .i64 atX, .int .i64 atY, .int .i64 height, .int .i64 mKind, .str mColors, .str mShape, .str mTop, .int .i64 lKind, .sl t 1 rg, .str lLetter, .str lColors, .int .i64 lPeriod, .sl t' 3 rx, .int .i64 intensity], .agg [.int .i64 x, .int .i64 y]] AV.str (Aid.col ⟨number, name, atX, atY, height, mKind, mColors, mShape, mTop, lKind, g, lLetter, lColors, lPeriod, l, intensity⟩ x y) := by
  refine ac Tryz.func122 (by kernel_rfl) (.str _) fun E K hE hK => ?_
  conv => cbv
  have hbb := beaR_bd atX atY x y
  repeat' first
    | (refine callI hE (bearing_ _ _ _ _ h k) (fun b hb2 => ?_); rw [← hb2] at hbb; (try conv => cbv))
    | (refine callI hE (colorAt_ _ hl hok hbb) (fun c hc => ?_); (try conv => cbv))
    | (refine lenL hE hl (fun n hn hb => ?_); (try conv => cbv))
    | ((first
   | refine q0 hE ?_
   | refine B0 hE ?_|refine B1 hE (fun _=>?_) fun _=>?_|refine B3 hE fun _ _ _=>?_|refine B2 hE fun _ _=>?_|refine B4 hE fun _ _ _ _=>?_) <;> (try conv => cbv))
  all_goals first
    | (refine hK _ ?_; unfold Aid.col; rw [if_pos (List.eq_nil_of_length_eq_zero (by simp only; omega))]; rfl)
    | (refine hK _ ?_; unfold Aid.col; rw [if_neg (by simp only; rintro rfl; simp at hn; omega)]; simp only; rw [← hb2, ← hc]; rfl)
    | trace_state
theorem l12Color_ (number atX atY height mKind lKind lPeriod intensity : Int) (name mColors mShape mTop lLetter lColors : ByteArray) {rg rx : List (List AV)} {t t' : Bool} {g : List Int} {l : List Scr} (hg : rg = g.map intR) (hl : rx = l.map Scr.cs) (x y : Int) (hok : ScsOk l) (h : PtOk atX atY) (k : PtOk x y) : AC Tryz.prog 109 [.pp [.int .i64 number, .str name, .int .i64 atX, .int .i64 atY, .int .i64 height, .int .i64 mKind, .str mColors, .str mShape, .str mTop, .int .i64 lKind, .sl t 1 rg, .str lLetter, .str lColors, .int .i64 lPeriod, .sl t' 3 rx, .int .i64 intensity], .agg [.int .i64 x, .int .i64 y]] AV.str (Aid.col ⟨number, name, atX, atY, height, mKind, mColors, mShape, mTop, lKind, g, lLetter, lColors, lPeriod, l, intensity⟩ x y) := by
  refine ac Tryz.func109 (by kernel_rfl) (.str _) fun E K hE hK => ?_
  conv => cbv
  have hbb := beaR_bd atX atY x y
  repeat' first
    | (refine callI hE (l02Bearing_ _ _ _ _ h k) (fun b hb2 => ?_); rw [← hb2] at hbb; (try conv => cbv))
    | (refine callR hE (l08Circle_ hl hok) (fun rs hrs => ?_); (try conv => cbv))
    | (refine lenL hE hl (fun n hn hb => ?_); (try conv => cbv))
    | (refine idxV (R := strR) hE hrs (by omega) (range_get (fun d : Nat => colAt l (d : Int)) (show b.toNat < 360 by omega)) ?_; rw [show ((b.toNat : Nat) : Int) = b by omega]; (obtain ⟨c, hc⟩ : ∃ c, c = colAt l b := ⟨_, rfl⟩); rw [← hc]; (try conv => cbv))
    | ((first
   | refine q0 hE ?_
   | refine B0 hE ?_|refine B1 hE (fun _=>?_) fun _=>?_|refine B3 hE fun _ _ _=>?_|refine B2 hE fun _ _=>?_|refine B4 hE fun _ _ _ _=>?_) <;> (try conv => cbv))
  all_goals first
    | (refine hK _ ?_; unfold Aid.col; rw [if_pos (List.eq_nil_of_length_eq_zero (by simp only; omega))]; rfl)
    | (refine hK _ ?_; unfold Aid.col; rw [if_neg (by simp only; rintro rfl; simp at hn; omega)]; simp only; rw [← hb2, ← hc]; rfl)
    | trace_state
theorem l12Lit_ (number atX atY height mKind lKind lPeriod intensity : Int) (name mColors mShape mTop lLetter lColors : ByteArray) {rg rx : List (List AV)} {t t' : Bool} {g : List Int} {l : List Scr} (hg : rg = g.map intR) (hl : rx = l.map Scr.cs) : AC Tryz.prog 45 [.pp [.int .i64 number, .str name, .int .i64 atX, .int .i64 atY, .int .i64 height, .int .i64 mKind, .str mColors, .str mShape, .str mTop, .int .i64 lKind, .sl t 1 rg, .str lLetter, .str lColors, .int .i64 lPeriod, .sl t' 3 rx, .int .i64 intensity]] AV.bool (bP (lKind ≠ 0)) := by
  refine ac Tryz.func45 (by kernel_rfl) (.bool _) fun E K hE hK => ?_
  conv => cbv
  repeat' first
    | ((first
   | refine q0 hE ?_
   | refine B0 hE ?_|refine B1 hE (fun _=>?_) fun _=>?_|refine B3 hE fun _ _ _=>?_|refine B2 hE fun _ _=>?_|refine B4 hE fun _ _ _ _=>?_) <;> (try conv => cbv))
  all_goals (try clear hN)
  all_goals first
    | (omega)
    | (refine finB hK (bP_true.2 ?_); first | omega | grind)
    | (refine finB hK (bP_false.2 ?_); first | omega | (intro h; grind))
    | (refine ⟨by omega, Up.succ (by assumption) ?_ (by assumption)⟩; grind)
    | (refine hK _ ?_; simp_all [atup]; done)
    | (grind)
set_option maxHeartbeats 4000000
theorem seen_ (number atX atY height mKind lKind lPeriod intensity : Int) (name mColors mShape mTop lLetter lColors : ByteArray) {rg rx : List (List AV)} {t t' : Bool} {g : List Int} {l : List Scr} (hg : rg = g.map intR) (hl : rx = l.map Scr.cs) (x y e s : Int) (hok : Aid.ok ⟨number, name, atX, atY, height, mKind, mColors, mShape, mTop, lKind, g, lLetter, lColors, lPeriod, l, intensity⟩) (hob : ObvOk x y e s) : AC Tryz.prog 85 [.agg [.int .i64 number, .str name, .int .i64 atX, .int .i64 atY, .int .i64 height, .int .i64 mKind, .str mColors, .str mShape, .str mTop, .int .i64 lKind, .sl t 1 rg, .str lLetter, .str lColors, .int .i64 lPeriod, .sl t' 3 rx, .int .i64 intensity], .agg [.int .i64 x, .int .i64 y, .int .i64 e, .int .i64 s]] AV.bool (bP (Aid.seen ⟨number, name, atX, atY, height, mKind, mColors, mShape, mTop, lKind, g, lLetter, lColors, lPeriod, l, intensity⟩ x y e s)) := by
  refine ac Tryz.func85 (by kernel_rfl) (.bool _) fun E K hE hK => ?_
  conv => cbv
  have hp : PtOk atX atY := hok.2.2.1
  have hh : 0 ≤ height ∧ height ≤ 3000 := hok.2.2.2.1
  refine callP hE (lit_ _ _ _ _ _ _ _ _ _ _ _ _ _ _ hg hl) (fun h1 => ?_) (fun h1 => ?_) <;> conv => cbv
  · skip
    repeat' first
      | (refine aeqI hE (fun h2 => ?_) (fun h2 => ?_) <;> (try conv => cbv))
      | (refine callI hE (reach_ _ _ _ _ _ _ _ _ _ _ _ _ _ _ hg hl x y e s h1.2.1 hh hob.2.1 hob.2.2) (fun r hr => ?_); (try conv => cbv))
      | (refine callI hE (colorToward_ _ _ _ _ _ _ _ _ _ _ _ _ _ _ hg hl x y h1.2.2.1 hp hob.1) (fun c hc => ?_); (try conv => cbv))
      | ((first
     | refine q0 hE ?_
     | refine callI hE (distance_ _ _ _ _) (fun _ _ => ?_)
     | refine B0 hE ?_|refine B1 hE (fun _=>?_) fun _=>?_|refine B3 hE fun _ _ _=>?_|refine B2 hE fun _ _=>?_|refine B4 hE fun _ _ _ _=>?_) <;> (try conv => cbv))
    all_goals first
      | (refine finB hK (bP_false.2 fun h => ?_); exact h.2.1 ⟨h2.1, h2.2.1⟩)
      | (refine finB hK (bP_true.2 ⟨h1, fun h => h2 ⟨h.1, h.2, trivial⟩, by simp only; omega, by rw [← hc]; assumption⟩))
      | (refine finB hK (bP_false.2 fun h => ?_); have h3 := h.2.2.1; simp only at h3; omega)
      | (refine finB hK (bP_false.2 fun h => ?_); have h3 := h.2.2.2; rw [← hc] at h3; contradiction)
      | trace_state
  · exact finB hK (bP_false.2 fun h => h1 h.1)
theorem l16Seen_ (number atX atY height mKind lKind lPeriod intensity : Int) (name mColors mShape mTop lLetter lColors : ByteArray) {rg rx : List (List AV)} {t t' : Bool} {g : List Int} {l : List Scr} (hg : rg = g.map intR) (hl : rx = l.map Scr.cs) (x y e s : Int) (hok : Aid.ok ⟨number, name, atX, atY, height, mKind, mColors, mShape, mTop, lKind, g, lLetter, lColors, lPeriod, l, intensity⟩) (hob : ObvOk x y e s) : AC Tryz.prog 74 [.pp [.int .i64 number, .str name, .int .i64 atX, .int .i64 atY, .int .i64 height, .int .i64 mKind, .str mColors, .str mShape, .str mTop, .int .i64 lKind, .sl t 1 rg, .str lLetter, .str lColors, .int .i64 lPeriod, .sl t' 3 rx, .int .i64 intensity], .pp [.int .i64 x, .int .i64 y, .int .i64 e, .int .i64 s]] AV.bool (bP (Aid.seen ⟨number, name, atX, atY, height, mKind, mColors, mShape, mTop, lKind, g, lLetter, lColors, lPeriod, l, intensity⟩ x y e s)) := by
  refine ac Tryz.func74 (by kernel_rfl) (.bool _) fun E K hE hK => ?_
  conv => cbv
  have hp : PtOk atX atY := hok.2.2.1
  have hh : 0 ≤ height ∧ height ≤ 3000 := hok.2.2.2.1
  have hli := Aid.lit_iff hok
  refine callP hE (l12Lit_ _ _ _ _ _ _ _ _ _ _ _ _ _ _ hg hl) (fun h0 => ?_) (fun h0 => ?_) <;> conv => cbv
  · have h1 := hli.2 h0
    repeat' first
      | (refine aeqI hE (fun h2 => ?_) (fun h2 => ?_) <;> (try conv => cbv))
      | (refine callI hE (l16Reach_ _ _ _ _ _ _ _ _ _ _ _ _ _ _ hg hl x y e s h1.2.1 hh hob.2.1 hob.2.2) (fun r hr => ?_); (try conv => cbv))
      | (refine callI hE (l12Color_ _ _ _ _ _ _ _ _ _ _ _ _ _ _ hg hl x y h1.2.2.1 hp hob.1) (fun c hc => ?_); (try conv => cbv))
      | ((first
     | refine q0 hE ?_
     | refine callI hE (l02Apart_ _ _ _ _ hp hob.1) (fun _ _ => ?_)
     | refine B0 hE ?_|refine B1 hE (fun _=>?_) fun _=>?_|refine B3 hE fun _ _ _=>?_|refine B2 hE fun _ _=>?_|refine B4 hE fun _ _ _ _=>?_) <;> (try conv => cbv))
    all_goals first
      | (refine finB hK (bP_false.2 fun h => ?_); exact h.2.1 ⟨h2.1, h2.2.1⟩)
      | (refine finB hK (bP_true.2 ⟨h1, fun h => h2 ⟨h.1, h.2, trivial⟩, by simp only; omega, by rw [← hc]; assumption⟩))
      | (refine finB hK (bP_false.2 fun h => ?_); have h3 := h.2.2.1; simp only at h3; omega)
      | (refine finB hK (bP_false.2 fun h => ?_); have h3 := h.2.2.2; rw [← hc] at h3; contradiction)
      | trace_state
  · exact finB hK (bP_false.2 fun h => h0 (hli.1 h.1))
end Go.Proofs.YtoafgafkmeghlaaGreatDoor
