/- Contracts: names, times, comparisons of texts. -/
import Derived.Test.YthiecdiiindegaaGreatDoorFl
namespace Go.Proofs.YthiecdiiindegaaGreatDoor
open Go Go.RowKit Classical
set_option maxRecDepth 100000
set_option maxHeartbeats 2000000
set_option linter.unusedVariables false
set_option linter.unusedSimpArgs false
def chr (s : ByteArray) (j : Nat) : Int := ((s.data.getD j 0).toNat : Int)
def isSm (n : Int) : Prop := 97 ≤ n ∧ n ≤ 122
def isDg (n : Int) : Prop := 48 ≤ n ∧ n ≤ 57
def NameC (s : ByteArray) (j : Nat) : Prop := isSm (chr s j) ∨ (j ≠ 0 ∧ isDg (chr s j))
def NameOk (s : ByteArray) : Prop := (0 < s.size ∧ s.size ≤ 10) ∧ ∀ j, j < s.size → NameC s j
theorem empty_iff (s : ByteArray) : s = ⟨#[]⟩ ↔ s.size = 0 := by
  constructor
  · rintro rfl; rfl
  · intro h; cases s with | mk d => exact congrArg _ (Array.eq_empty_of_size_eq_zero h)
def TimeOk (t : Int) : Prop := 0 ≤ t ∧ t ≤ 143999999
theorem isTime_ (t : Int) : AC Tryz.prog 26 [.int .i64 t] AV.bool (bP (TimeOk t)) := by
  refine ac Tryz.func26 (by kernel_rfl) (.bool _) fun E K hE hK => ?_
  conv => cbv
  repeat' first
    | ((first
   | refine q0 hE ?_
   | refine callP hE (within_ _ _ _) (fun _ => ?_) (fun _ => ?_)
   | refine B0 hE ?_|refine B1 hE (fun _=>?_) fun _=>?_|refine B3 hE fun _ _ _=>?_|refine B2 hE fun _ _=>?_|refine B4 hE fun _ _ _ _=>?_) <;> (try conv => cbv))
  all_goals (try clear hN)
  all_goals first
    | (omega)
    | (refine finB hK (bP_true.2 ?_); first | omega | grind [TimeOk])
    | (refine finB hK (bP_false.2 ?_); first | omega | (intro h; grind [TimeOk]))
    | (refine ⟨by omega, Up.succ (by assumption) ?_ (by assumption)⟩; grind [TimeOk])
    | (refine hK _ ?_; simp_all [atup, TimeOk]; done)
    | (grind [TimeOk])
theorem l20Time_ (t : Int) : AC Tryz.prog 86 [.int .i64 t] AV.bool (bP (TimeOk t)) := by
  refine ac Tryz.func86 (by kernel_rfl) (.bool _) fun E K hE hK => ?_
  conv => cbv
  repeat' first
    | ((first
   | refine q0 hE ?_
   | refine callP hE (in_ _ _ _) (fun _ => ?_) (fun _ => ?_)
   | refine B0 hE ?_|refine B1 hE (fun _=>?_) fun _=>?_|refine B3 hE fun _ _ _=>?_|refine B2 hE fun _ _=>?_|refine B4 hE fun _ _ _ _=>?_) <;> (try conv => cbv))
  all_goals (try clear hN)
  all_goals first
    | (omega)
    | (refine finB hK (bP_true.2 ?_); first | omega | grind [TimeOk])
    | (refine finB hK (bP_false.2 ?_); first | omega | (intro h; grind [TimeOk]))
    | (refine ⟨by omega, Up.succ (by assumption) ?_ (by assumption)⟩; grind [TimeOk])
    | (refine hK _ ?_; simp_all [atup, TimeOk]; done)
    | (grind [TimeOk])
def strLt (a b : ByteArray) : Prop := Op.bytesLess a.toList b.toList = true
noncomputable def cmpS (a b : ByteArray) : Int := if strLt a b then -1 else if strLt b a then 1 else 0
theorem sltP {E : Env} {np : Nat} {P : Program} (hE : E = stdE np P) {a b : ByteArray} {K : Bool → Prop} (h1 : strLt a b → K true) (h2 : ¬ strLt a b → K false) : E.slt a b K :=
  sltI hE fun c hc => by
    cases c with
    | true => exact h1 hc.symm
    | false => exact h2 (by unfold strLt; rw [← hc]; simp)
theorem strLt_tri (a b : ByteArray) : ¬ strLt b a ↔ (strLt a b ∨ a = b) := by
  have h := str_tot a.toList b.toList
  unfold strLt
  constructor
  · intro h1
    have h1 : Op.bytesLess b.toList a.toList = false := by simpa using h1
    rw [h1] at h
    have h2 := h.symm
    simp only [Bool.not_false, Bool.or_eq_true, beq_iff_eq] at h2
    rcases h2 with h2 | h2
    · exact .inl h2
    · exact .inr (bytes_ext h2)
  · intro h1 h2
    rw [h2] at h
    have h3 := h.symm
    simp only [Bool.not_true, Bool.or_eq_false_iff, beq_eq_false_iff_ne] at h3
    rcases h1 with h1 | h1
    · rw [h1] at h3; exact absurd h3.1 (by simp)
    · exact h3.2 (by rw [h1])
theorem cmpS_neg {a b : ByteArray} : cmpS a b < 0 ↔ strLt a b := by
  unfold cmpS
  split
  · simp_all
  · split <;> simp_all
theorem cmpS_zero {a b : ByteArray} : cmpS a b = 0 ↔ a = b := by
  have h1 := strLt_tri a b
  have h2 := strLt_tri b a
  unfold cmpS
  split
  · rename_i h
    constructor
    · intro h'; omega
    · rintro rfl; exact absurd (h1.2 (.inr rfl)) (by simpa using h)
  · split
    · rename_i h
      constructor
      · intro h'; omega
      · rintro rfl; contradiction
    · rename_i h3 h4
      simp only [true_iff]
      rcases h1.1 h4 with h | h
      · contradiction
      · exact h
end Go.Proofs.YthiecdiiindegaaGreatDoor
