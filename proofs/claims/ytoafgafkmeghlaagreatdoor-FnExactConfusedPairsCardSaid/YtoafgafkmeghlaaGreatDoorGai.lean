/- Contracts: valid aids. -/
import Derived.Test.YtoafgafkmeghlaaGreatDoorGmk
import Derived.Test.YtoafgafkmeghlaaGreatDoorGcv
import Derived.Test.YtoafgafkmeghlaaGreatDoorGlc
import Derived.Test.YtoafgafkmeghlaaGreatDoorFA
namespace Go.Proofs.YtoafgafkmeghlaaGreatDoor
open Go Go.RowKit Classical
set_option maxRecDepth 100000
set_option maxHeartbeats 2000000
set_option linter.unusedVariables false
set_option linter.unusedSimpArgs false
theorem same0I_ {rs rs' : List (List AV)} {t t' : Bool} {l m : List Int} (hl : rs = l.map intR) (hm : rs' = m.map intR) : AC Tryz.prog 219 [.sl t 1 rs, .sl t' 1 rs'] AV.bool (bP (l = m)) := by
  refine ac Tryz.func219 (by kernel_rfl) (.bool _) fun E K hE hK => ?_
  conv => cbv
  refine lenL hE hl fun n hn hb => ?_
  conv => cbv
  refine lenL hE hm fun n' hn' hb' => ?_
  conv => cbv
  refine eqI hE (fun he => ?_) (fun he => ?_) <;> conv => cbv
  · skip
    repeat' first
      | ((refine loopC hE (ι := Int) [0, 1, 12] [13] (fun q => (fun (i : Int) => [(13, .int .i64 i)]) q) (fun q => (fun (i : Int) => []) q) (fun q => (fun (i : Int) => (l.length - i).toNat) q) (fun q => (fun (i : Int) => 0 ≤ i ∧ Up (fun j => l[j]? = m[j]?) i) q) [] (by decide) (0) (by conv => lhs; cbv) (by conv => lhs; cbv) rfl rfl (by dsimp only; exact ⟨by omega, .zero (by omega)⟩) fun i hi2 Kn2 hN2 => ?_; (try dsimp only at hi2); conv => cbv); obtain ⟨h0, hinv⟩ := hi2)
      | (refine hN2 _ _ [] (by decide) rfl ⟨?_, ?_⟩ ?_ <;> (try dsimp only))
      | ((first
     | refine q0 hE ?_
     | refine idxL (R := intR) hE (by assumption) (by omega) (fun _ _ => ?_)
     | refine B0 hE ?_|refine B1 hE (fun _=>?_) fun _=>?_|refine B3 hE fun _ _ _=>?_|refine B2 hE fun _ _=>?_|refine B4 hE fun _ _ _ _=>?_) <;> (try conv => cbv))
    all_goals first
      | omega
      | (refine hinv.succ ?_ (by assumption); clear hN2; simp_all [pairsP]; done)
      | (refine finB hK (bP_false.2 fun h => ?_); clear hN2; simp_all [pairsP]; done)
      | exact finB hK (bP_true.2 (list_eq_of (by omega) hinv (by omega)))
      | trace_state
  · refine finB hK (bP_false.2 fun h => ?_); subst h; omega
theorem sameZero_ (k p : Int) (le co : ByteArray) {rs : List (List AV)} {t : Bool} {l : List Int} (hl : rs = l.map intR) : AC Tryz.prog 169 [.agg [.int .i64 k, .sl t 1 rs, .str le, .str co, .int .i64 p], .agg [.int .i64 0, .nils, .str ⟨#[]⟩, .str ⟨#[]⟩, .int .i64 0]] AV.bool (bP (k = 0 ∧ l = [] ∧ le = noS ∧ co = noS ∧ p = 0)) := by
  refine ac Tryz.func169 (by kernel_rfl) (.bool _) fun E K hE hK => ?_
  conv => cbv
  repeat' first
    | ((first
   | refine q0 hE ?_
   | refine callP hE (AC.nil1 (same0I_ (m := []) (t' := true) hl rfl)) (fun _ => ?_) (fun _ => ?_)
   | refine B0 hE ?_|refine B1 hE (fun _=>?_) fun _=>?_|refine B3 hE fun _ _ _=>?_|refine B2 hE fun _ _=>?_|refine B4 hE fun _ _ _ _=>?_) <;> (try conv => cbv))
  all_goals first
    | (refine finB hK (bP_true.2 ⟨by assumption, by assumption, by assumption, by assumption, by assumption⟩))
    | (refine finB hK (bP_false.2 fun ⟨h1, h2, h3, h4, h5⟩ => ?_); contradiction)
    | trace_state
theorem lit_ (number atX atY height mKind lKind lPeriod intensity : Int) (name mColors mShape mTop lLetter lColors : ByteArray) {rg rx : List (List AV)} {t t' : Bool} {g : List Int} {l : List Scr} (hg : rg = g.map intR) (hl : rx = l.map Scr.cs) : AC Tryz.prog 118 [.agg [.int .i64 number, .str name, .int .i64 atX, .int .i64 atY, .int .i64 height, .int .i64 mKind, .str mColors, .str mShape, .str mTop, .int .i64 lKind, .sl t 1 rg, .str lLetter, .str lColors, .int .i64 lPeriod, .sl t' 3 rx, .int .i64 intensity]] AV.bool (bP (LitOk lKind g lLetter lColors lPeriod l intensity)) := by
  refine ac Tryz.func118 (by kernel_rfl) (.bool _) fun E K hE hK => ?_
  conv => cbv
  repeat' first
    | (refine callP hE (validCharacter_ _ _ _ _ hg) (fun h1 => ?_) (fun h1 => ?_) <;> (try conv => cbv))
    | (refine callP hE (isIntensity_ _) (fun h2 => ?_) (fun h2 => ?_) <;> (try conv => cbv))
    | (refine callP hE (validSectors_ hl) (fun h3 => ?_) (fun h3 => ?_) <;> (try conv => cbv))
    | (refine callI hE (colorsOf_ hl) (fun cc hcc => ?_); (try conv => cbv))
    | (refine lenL hE hl (fun n hn hb => ?_); (try conv => cbv))
    | ((first
   | refine q0 hE ?_
   | refine B0 hE ?_|refine B1 hE (fun _=>?_) fun _=>?_|refine B3 hE fun _ _ _=>?_|refine B2 hE fun _ _=>?_|refine B4 hE fun _ _ _ _=>?_) <;> (try conv => cbv))
  all_goals first
    | (refine finB hK (bP_false.2 fun h => ?_); first | exact h1 h.1 | exact h2 h.2.1 | exact h3 h.2.2.1)
    | (have hz : l = [] := List.eq_nil_of_length_eq_zero (by omega); first
        | (refine finB hK (bP_true.2 ⟨h1, h2, h3, fun _ => by omega, fun h => absurd hz h⟩))
        | (refine finB hK (bP_false.2 fun h => ?_); have := h.2.2.2.1 hz; omega))
    | (have hz : l ≠ [] := by (rintro rfl; simp at hn; omega)
       first
        | (refine finB hK (bP_true.2 ⟨h1, h2, h3, fun h => absurd h hz, fun _ => ?_⟩); rw [← hcc]; assumption)
        | (refine finB hK (bP_false.2 fun h => ?_); have h5 := h.2.2.2.2 hz; rw [← hcc] at h5; contradiction))
    | trace_state
theorem unlit_ (number atX atY height mKind lKind lPeriod intensity : Int) (name mColors mShape mTop lLetter lColors : ByteArray) {rg rx : List (List AV)} {t t' : Bool} {g : List Int} {l : List Scr} (hg : rg = g.map intR) (hl : rx = l.map Scr.cs) : AC Tryz.prog 119 [.agg [.int .i64 number, .str name, .int .i64 atX, .int .i64 atY, .int .i64 height, .int .i64 mKind, .str mColors, .str mShape, .str mTop, .int .i64 lKind, .sl t 1 rg, .str lLetter, .str lColors, .int .i64 lPeriod, .sl t' 3 rx, .int .i64 intensity]] AV.bool (bP (UnlitOk lKind g lLetter lColors lPeriod l intensity)) := by
  refine ac Tryz.func119 (by kernel_rfl) (.bool _) fun E K hE hK => ?_
  conv => cbv
  repeat' first
    | (refine callP hE (sameZero_ _ _ _ _ hg) (fun h1 => ?_) (fun h1 => ?_) <;> (try conv => cbv))
    | (refine lenL hE hl (fun n hn hb => ?_); (try conv => cbv))
    | ((first
   | refine q0 hE ?_
   | refine B0 hE ?_|refine B1 hE (fun _=>?_) fun _=>?_|refine B3 hE fun _ _ _=>?_|refine B2 hE fun _ _=>?_|refine B4 hE fun _ _ _ _=>?_) <;> (try conv => cbv))
  all_goals first
    | (refine finB hK (bP_true.2 ⟨h1, List.eq_nil_of_length_eq_zero (by omega), by assumption⟩))
    | (refine finB hK (bP_false.2 fun h => ?_); first | exact h1 h.1 | (have := h.2.1; subst this; simp at hn; omega) | (have := h.2.2; contradiction))
    | trace_state
set_option maxHeartbeats 4000000
theorem validAid_ (number atX atY height mKind lKind lPeriod intensity : Int) (name mColors mShape mTop lLetter lColors : ByteArray) {rg rx : List (List AV)} {t t' : Bool} {g : List Int} {l : List Scr} (hg : rg = g.map intR) (hl : rx = l.map Scr.cs) : AC Tryz.prog 80 [.agg [.int .i64 number, .str name, .int .i64 atX, .int .i64 atY, .int .i64 height, .int .i64 mKind, .str mColors, .str mShape, .str mTop, .int .i64 lKind, .sl t 1 rg, .str lLetter, .str lColors, .int .i64 lPeriod, .sl t' 3 rx, .int .i64 intensity]] AV.bool (bP (Aid.ok ⟨number, name, atX, atY, height, mKind, mColors, mShape, mTop, lKind, g, lLetter, lColors, lPeriod, l, intensity⟩)) := by
  refine ac Tryz.func80 (by kernel_rfl) (.bool _) fun E K hE hK => ?_
  conv => cbv
  repeat' first
    | (refine callP hE (isNumber_ _) (fun h1 => ?_) (fun h1 => ?_) <;> (try conv => cbv))
    | (refine callP hE (isName_ _) (fun h2 => ?_) (fun h2 => ?_) <;> (try conv => cbv))
    | (refine callP hE (validPoint_ _ _) (fun h3 => ?_) (fun h3 => ?_) <;> (try conv => cbv))
    | (refine callP hE (isHeight_ _) (fun h4 => ?_) (fun h4 => ?_) <;> (try conv => cbv))
    | (refine callP hE (validMark_ _ _ _ _) (fun h5 => ?_) (fun h5 => ?_) <;> (try conv => cbv))
    | (refine callP hE (lit_ _ _ _ _ _ _ _ _ _ _ _ _ _ _ hg hl) (fun h6 => ?_) (fun h6 => ?_) <;> (try conv => cbv))
    | (refine callP hE (unlit_ _ _ _ _ _ _ _ _ _ _ _ _ _ _ hg hl) (fun h7 => ?_) (fun h7 => ?_) <;> (try conv => cbv))
    | ((first
   | refine q0 hE ?_
   | refine B0 hE ?_|refine B1 hE (fun _=>?_) fun _=>?_|refine B3 hE fun _ _ _=>?_|refine B2 hE fun _ _=>?_|refine B4 hE fun _ _ _ _=>?_) <;> (try conv => cbv))
  all_goals first
    | exact finB hK (bP_true.2 ⟨h1, h2, h3, h4, h5, .inl h6⟩)
    | exact finB hK (bP_true.2 ⟨h1, h2, h3, h4, h5, .inr h7⟩)
    | exact finB hK (bP_false.2 fun h => h1 h.1)
    | exact finB hK (bP_false.2 fun h => h2 h.2.1)
    | exact finB hK (bP_false.2 fun h => h3 h.2.2.1)
    | exact finB hK (bP_false.2 fun h => h4 h.2.2.2.1)
    | exact finB hK (bP_false.2 fun h => h5 h.2.2.2.2.1)
    | exact finB hK (bP_false.2 fun h => h.2.2.2.2.2.elim h6 h7)
    | trace_state
theorem l12Plain_ (k p : Int) (le co : ByteArray) {rs : List (List AV)} {t : Bool} {l : List Int} (hl : rs = l.map intR) : AC Tryz.prog 103 [.pp [.int .i64 k, .sl t 1 rs, .str le, .str co, .int .i64 p]] AV.bool (bP (k = 0 ∧ l = [] ∧ le = noS ∧ co = noS ∧ p = 0)) := by
  refine ac Tryz.func103 (by kernel_rfl) (.bool _) fun E K hE hK => ?_
  conv => cbv
  repeat' first
    | (refine lenL hE hl (fun n hn hb => ?_); (have hnl := nil_len hn); (try conv => cbv))
    | ((first
   | refine q0 hE ?_
   | refine B0 hE ?_|refine B1 hE (fun _=>?_) fun _=>?_|refine B3 hE fun _ _ _=>?_|refine B2 hE fun _ _=>?_|refine B4 hE fun _ _ _ _=>?_) <;> (try conv => cbv))
  all_goals first
    | (refine finB hK (bP_true.2 ⟨by assumption, hnl.1 (by assumption), by assumption, by assumption, by assumption⟩))
    | (refine finB hK (bP_false.2 fun ⟨h1, h2, h3, h4, h5⟩ => ?_); first | contradiction | (have := hnl.2 h2; contradiction))
    | trace_state
set_option maxHeartbeats 8000000
theorem l12One_ (number atX atY height mKind lKind lPeriod intensity : Int) (name mColors mShape mTop lLetter lColors : ByteArray) {rg rx : List (List AV)} {t t' : Bool} {g : List Int} {l : List Scr} (hg : rg = g.map intR) (hl : rx = l.map Scr.cs) : AC Tryz.prog 72 [.pp [.int .i64 number, .str name, .int .i64 atX, .int .i64 atY, .int .i64 height, .int .i64 mKind, .str mColors, .str mShape, .str mTop, .int .i64 lKind, .sl t 1 rg, .str lLetter, .str lColors, .int .i64 lPeriod, .sl t' 3 rx, .int .i64 intensity]] AV.bool (bP (Aid.ok ⟨number, name, atX, atY, height, mKind, mColors, mShape, mTop, lKind, g, lLetter, lColors, lPeriod, l, intensity⟩)) := by
  refine ac Tryz.func72 (by kernel_rfl) (.bool _) fun E K hE hK => ?_
  conv => cbv
  refine callP hE (in_ _ _ _) (fun h1 => ?_) (fun h1 => ?_) <;> conv => cbv
  · skip
    repeat' first
      | (refine callP hE (l01Name_ _) (fun h2 => ?_) (fun h2 => ?_) <;> (try conv => cbv))
      | (refine callP hE (l02Ok_ _ _) (fun h3 => ?_) (fun h3 => ?_) <;> (try conv => cbv))
      | (refine callP hE (in_ height _ _) (fun h4 => ?_) (fun h4 => ?_) <;> (try conv => cbv))
      | (refine callP hE (sValidMark_ _ _ _ _) (fun h5 => ?_) (fun h5 => ?_) <;> (try conv => cbv))
      | (refine callP hE (AC.tl1 (l12Plain_ _ _ _ _ hg)) (fun h6 => ?_) (fun h6 => ?_) <;> (try conv => cbv))
      | (refine callP hE (AC.tl1 (l05Ok_ _ _ _ _ hg)) (fun h7 => ?_) (fun h7 => ?_) <;> (try conv => cbv))
      | (refine callP hE (in_ intensity _ _) (fun h8 => ?_) (fun h8 => ?_) <;> (try conv => cbv))
      | (refine callP hE (l08Ok_ hl) (fun h9 => ?_) (fun h9 => ?_) <;> (try conv => cbv))
      | (refine callI hE (l08Colors_ hl) (fun cc hcc => ?_); (try conv => cbv))
      | (refine lenL hE hl (fun n hn hb => ?_); (try conv => cbv))
      | ((first
     | refine q0 hE ?_
     | refine B0 hE ?_|refine B1 hE (fun _=>?_) fun _=>?_|refine B3 hE fun _ _ _=>?_|refine B2 hE fun _ _=>?_|refine B4 hE fun _ _ _ _=>?_) <;> (try conv => cbv))
    all_goals first
      | exact finB hK (bP_false.2 fun h => h2 h.2.1)
      | exact finB hK (bP_false.2 fun h => h3 h.2.2.1)
      | exact finB hK (bP_false.2 fun h => h4 h.2.2.2.1)
      | exact finB hK (bP_false.2 fun h => h5 h.2.2.2.2.1)
      | (have hnl : ¬ LitOk lKind g lLetter lColors lPeriod l intensity := (fun h => by have := h.kind; omega); first
          | (have hu : UnlitOk lKind g lLetter lColors lPeriod l intensity := ⟨h6, List.eq_nil_of_length_eq_zero (by omega), by assumption⟩; exact finB hK (bP_true.2 ⟨h1, h2, h3, h4, h5, .inr hu⟩))
          | (refine finB hK (bP_false.2 fun h => ?_); rcases h.2.2.2.2.2 with h' | h'; exact hnl h'; first | (have := h'.2.1; simp only at this; subst this; simp at hn; omega) | (have := h'.2.2; contradiction)))
      | (have hnu : ¬ UnlitOk lKind g lLetter lColors lPeriod l intensity := fun h => h6 h.1
         first
          | (refine finB hK (bP_false.2 fun h => ?_); rcases h.2.2.2.2.2 with h' | h'; (first | exact h7 h'.1 | exact h8 h'.2.1 | exact h9 h'.2.2.1); exact hnu h')
          | (have hz : l = [] := List.eq_nil_of_length_eq_zero (by omega); first
              | (have hu : LitOk lKind g lLetter lColors lPeriod l intensity := ⟨h7, h8, h9, fun _ => (by omega), fun h => absurd hz h⟩; exact finB hK (bP_true.2 ⟨h1, h2, h3, h4, h5, .inl hu⟩))
              | (refine finB hK (bP_false.2 fun h => ?_); rcases h.2.2.2.2.2 with h' | h'; (have := h'.2.2.2.1 hz; simp only at this; omega); exact hnu h'))
          | (have hz : l ≠ [] := by (rintro rfl; simp at hn; omega)
             first
              | (have hu : LitOk lKind g lLetter lColors lPeriod l intensity := ⟨h7, h8, h9, fun h => absurd h hz, fun _ => (by rw [← hcc]; assumption)⟩; exact finB hK (bP_true.2 ⟨h1, h2, h3, h4, h5, .inl hu⟩))
              | (refine finB hK (bP_false.2 fun h => ?_); rcases h.2.2.2.2.2 with h' | h'; (have h5 := h'.2.2.2.2 hz; simp only at h5; rw [← hcc] at h5; contradiction); exact hnu h')))
      | trace_state
  · exact finB hK (bP_false.2 fun h => h1 h.1)
end Go.Proofs.YtoafgafkmeghlaaGreatDoor
