/- Contracts: names, times, comparisons of texts. -/
import Derived.Test.YtlemeenicaidfaaGreatDoorFl
namespace Go.Proofs.YtlemeenicaidfaaGreatDoor
open Go Go.RowKit Classical
set_option maxRecDepth 100000
set_option maxHeartbeats 2000000
set_option linter.unusedVariables false
set_option linter.unusedSimpArgs false
def chr (s : ByteArray) (j : Nat) : Int := ((s.data.getD j 0).toNat : Int)
def isSm (n : Int) : Prop := 97 ≤ n ∧ n ≤ 122
def isDg (n : Int) : Prop := 48 ≤ n ∧ n ≤ 57
def NameC (s : ByteArray) (j : Nat) : Prop := isSm (chr s j) ∨ (j ≠ 0 ∧ isDg (chr s j))
def NameOk (s : ByteArray) : Prop := (0 < s.size ∧ s.size ≤ 10) ∧ ∀ j, j < s.size → NameC s j
theorem empty_iff (s : ByteArray) : s = ⟨#[]⟩ ↔ s.size = 0 := by
  constructor
  · rintro rfl; rfl
  · intro h; cases s with | mk d => exact congrArg _ (Array.eq_empty_of_size_eq_zero h)
theorem isDigit_ [St] (n : Int) : AP 312 [.int .u8 n] AV.bool (bP (isDg n)) := by
  refine a0 Tryz.func312 fun E K hE hK => ?_
  repeat' first
    | ((first

   | refine B0 ?_|refine B1 ?_ ?_) <;> intros <;> (try conv => cbv))
  all_goals (try clear hN)
  all_goals first
    | (omega)
    | (refine finB hK (bP_true.2 ?_); first | omega | grind [isDg])
    | (refine finB hK (bP_false.2 ?_); first | omega | (intro h; grind [isDg]))
    | (refine ⟨by omega, Up.succ (by assumption) ?_ (by assumption)⟩; grind [isDg])
    | (refine hK _ ?_; simp_all [atup, isDg]; done)
    | (grind [isDg])
theorem isName_ [St] (s : ByteArray) : AP 213 [.str s] AV.bool (bP (NameOk s)) := by
  refine a0 Tryz.func213 fun E K hE hK => ?_
  refine loop1 [0] [3] (fun (i : Int) => ([(3, .int .i64 i)], [], s.size - i, 0 ≤ i ∧ Up (NameC s) i)) [] (0) (by dsimp only; exact ⟨by omega, .zero (by omega)⟩) fun i hi Kn hN => ?_
  obtain ⟨h0, hinv⟩ := hi
  repeat' first
    | (refine hN _ [] rfl ⟨?_, ?_⟩)
    | ((first
   | refine callP (isDigit_ _) (fun _ => ?_) (fun _ => ?_)
   | refine callP (few_ _ _) (fun _ => ?_) (fun _ => ?_)
   | refine B0 ?_|refine B1 ?_ ?_) <;> intros <;> (try conv => cbv))
  all_goals (try clear hN)
  all_goals first
    | omega
    | (refine hinv.succ ?_ (by assumption); subst_vars; first | exact .inl ⟨by assumption, by assumption⟩ | exact .inr ⟨by omega, by assumption⟩)
    | (refine finB hK (bP_true.2 ⟨⟨?_, by omega⟩, hinv.all (by omega)⟩); have := mt (empty_iff s).2 (by assumption); omega)
    | (refine finB hK (bP_false.2 fun h => ?_); have := h.2 i.toNat (by omega); subst_vars; rcases this with ⟨k1, k2⟩ | ⟨k1, k2⟩ <;> first | omega | (exact absurd k2 (by assumption)) | (unfold chr at *; omega) | (unfold isDg chr at *; omega))
    | (refine finB hK (bP_false.2 fun h => ?_); have := h.1; omega)
    | (refine finB hK (bP_false.2 fun h => ?_); have := h.1; have := (empty_iff s).1 (by assumption); omega)
    | trace_state
def TimeOk (t : Int) : Prop := 0 ≤ t ∧ t ≤ 143999999
theorem isTime_ [St] (t : Int) : AP 176 [.int .i64 t] AV.bool (bP (TimeOk t)) := by
  refine a0 Tryz.func176 fun E K hE hK => ?_
  repeat' first
    | ((first
   | refine callP (within_ _ _ _) (fun _ => ?_) (fun _ => ?_)
   | refine B0 ?_|refine B1 ?_ ?_) <;> intros <;> (try conv => cbv))
  all_goals (try clear hN)
  all_goals first
    | (omega)
    | (refine finB hK (bP_true.2 ?_); first | omega | grind [TimeOk])
    | (refine finB hK (bP_false.2 ?_); first | omega | (intro h; grind [TimeOk]))
    | (refine ⟨by omega, Up.succ (by assumption) ?_ (by assumption)⟩; grind [TimeOk])
    | (refine hK _ ?_; simp_all [atup, TimeOk]; done)
    | (grind [TimeOk])
def strLt (a b : ByteArray) : Prop := Op.bytesLess a.toList b.toList = true
noncomputable def cmpS (a b : ByteArray) : Int := if strLt a b then -1 else if strLt b a then 1 else 0
theorem sltP [St] {E : Env} {np : Nat} {P : Program} [hE : SE E np P] {a b : ByteArray} {K : Bool → Prop} (h1 : strLt a b → K true) (h2 : ¬ strLt a b → K false) : E.slt a b K :=
  sltI fun c hc => by
    cases c with
    | true => exact h1 hc.symm
    | false => exact h2 (by unfold strLt; rw [← hc]; simp)
theorem strLt_tri (a b : ByteArray) : ¬ strLt b a ↔ (strLt a b ∨ a = b) := by
  have h := str_tot a.toList b.toList
  unfold strLt
  constructor
  · intro h1
    have h1 : Op.bytesLess b.toList a.toList = false := by simpa using h1
    rw [h1] at h
    have h2 := h.symm
    simp only [Bool.not_false, Bool.or_eq_true, beq_iff_eq] at h2
    rcases h2 with h2 | h2
    · exact .inl h2
    · exact .inr (bytes_ext h2)
  · intro h1 h2
    rw [h2] at h
    have h3 := h.symm
    simp only [Bool.not_true, Bool.or_eq_false_iff, beq_eq_false_iff_ne] at h3
    rcases h1 with h1 | h1
    · rw [h1] at h3; exact absurd h3.1 (by simp)
    · exact h3.2 (by rw [h1])
theorem isNaNS_ [St] (x : ByteArray) : AP 262 [.str x] AV.bool false := by
  refine a0 Tryz.func262 fun E K hE hK => ?_
  refine seqT rfl ?_
  conv => cbv
  exact hK _ rfl
theorem compareS_ [St] (a b : ByteArray) : AP 325 [.str a, .str b] (AV.int .i64) (cmpS a b) := by
  refine a0 Tryz.func325 fun E K hE hK => ?_
  repeat' first
    | ((first
   | refine callB (isNaNS_ _) (fun _ => ?_) (fun _ => ?_)
   | refine sltP (fun _ => ?_) (fun _ => ?_)
   | refine B0 ?_|refine B1 ?_ ?_) <;> intros <;> (try conv => cbv))
  all_goals first
    | contradiction
    | (refine hK _ ?_; unfold cmpS; rw [if_pos (by assumption)]; rfl)
    | (refine hK _ ?_; unfold cmpS; rw [if_neg (by assumption), if_pos (by assumption)]; rfl)
    | (refine hK _ ?_; unfold cmpS; rw [if_neg (by assumption), if_neg (by assumption)]; rfl)
    | trace_state
theorem cmpS_neg {a b : ByteArray} : cmpS a b < 0 ↔ strLt a b := by
  unfold cmpS
  split
  · simp_all
  · split <;> simp_all
theorem cmpS_zero {a b : ByteArray} : cmpS a b = 0 ↔ a = b := by
  have h1 := strLt_tri a b
  have h2 := strLt_tri b a
  unfold cmpS
  split
  · rename_i h
    constructor
    · intro h'; omega
    · rintro rfl; exact absurd (h1.2 (.inr rfl)) (by simpa using h)
  · split
    · rename_i h
      constructor
      · intro h'; omega
      · rintro rfl; contradiction
    · rename_i h3 h4
      simp only [true_iff]
      rcases h1.1 h4 with h | h
      · contradiction
      · exact h
end Go.Proofs.YtlemeenicaidfaaGreatDoor
