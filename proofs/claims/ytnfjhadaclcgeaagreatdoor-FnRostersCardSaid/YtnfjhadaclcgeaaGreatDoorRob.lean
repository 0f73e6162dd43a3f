/- Plain laws: a duty that is added. -/
import Derived.Test.YtnfjhadaclcgeaaGreatDoorFdr
import Derived.Test.YtnfjhadaclcgeaaGreatDoorFx
namespace Go.Proofs.YtnfjhadaclcgeaaGreatDoor
open Go Go.RowKit Go.Sort Classical
set_option maxRecDepth 100000
set_option maxHeartbeats 2000000
set_option linter.unusedVariables false
set_option linter.unusedSimpArgs false
theorem duts_rest {l : List Dut} (h : DutiesOk l) : l.Pairwise fun v w => v.rests w := by
  rw [List.pairwise_iff_getElem]
  intro i j hi hj hij
  obtain ⟨v, h1, _, _, h4⟩ := h.1 j hj
  rw [List.getElem?_eq_getElem hj] at h1
  cases h1
  exact rests_symm (h4 _ (List.mem_of_getElem? (i := i) (by rw [List.getElem?_take, if_pos hij, List.getElem?_eq_getElem hi])))
theorem duts_mk {l : List Dut} (h1 : ∀ v ∈ l, v.ok) (h2 : l.Pairwise Dut.less) (h3 : l.Pairwise fun v w => v.rests w) (h4 : l.length ≤ 60) : DutiesOk l := by
  refine ⟨fun j hj => ⟨l[j], List.getElem?_eq_getElem hj, h1 _ (List.getElem_mem hj), fun h0 => ?_, fun w hw => ?_⟩, h4⟩
  · exact ⟨l[j - 1], List.getElem?_eq_getElem (by omega), List.pairwise_iff_getElem.1 h2 (j - 1) j (by omega) hj (by omega)⟩
  · obtain ⟨i, hi⟩ := List.getElem?_of_mem hw
    have hil := (List.getElem?_eq_some_iff.1 hi).1
    rw [List.length_take] at hil
    rw [List.getElem?_take, if_pos (by omega), List.getElem?_eq_getElem (by omega)] at hi
    cases hi
    exact rests_symm (List.pairwise_iff_getElem.1 h3 i j (by omega) hj (by omega))
/-- A duty that is taken. -/
def PutOk (l : List Dut) (d : Dut) (m : List Dut) : Prop := DutiesOk l ∧ d.ok ∧ (∀ w ∈ l, d.rests w) ∧ l.length < 60 ∧ m = insF (fun w => w.less d) l d
theorem add_casesD (l : List Dut) (d : Dut) : (PutOk l d (addDutyR l d).1 ∧ (addDutyR l d).2 = 0) ∨ ((addDutyR l d).1 = [] ∧ (addDutyR l d).2 ≠ 0) := by
  unfold addDutyR
  by_cases h1 : DutiesOk l
  · rw [if_pos h1]
    by_cases h2 : d.ok
    · rw [if_pos h2]
      unfold putR
      by_cases h3 : ∃ w ∈ l, w.keeper = d.keeper ∧ ¬ w.rested d
      · rw [if_pos h3]; exact .inr ⟨rfl, by simp⟩
      · rw [if_neg h3]
        by_cases h4 : l.length = 60
        · rw [if_pos h4]; exact .inr ⟨rfl, by simp⟩
        · rw [if_neg h4]
          exact .inl ⟨⟨h1, h2, fits_iff.2 h3, by have := h1.2; omega, rfl⟩, rfl⟩
    · rw [if_neg h2]; exact .inr ⟨rfl, by simp⟩
  · rw [if_neg h1]; exact .inr ⟨rfl, by simp⟩
theorem PutOk.perm {l m : List Dut} {d : Dut} (h : PutOk l d m) : m.Perm (d :: l) := by
  rw [h.2.2.2.2]
  exact (ins_perm l d _).symm.trans (List.perm_append_singleton d l)
theorem PutOk.less {l m : List Dut} {d : Dut} (h : PutOk l d m) : m.Pairwise Dut.less := by
  rw [h.2.2.2.2]
  exact insF_pw Dut.less_tr (duts_pw h.1) fun w hw => dut_apart h.2.1 (h.1.all w hw) (h.2.2.1 w hw)
theorem PutOk.valid {l m : List Dut} {d : Dut} (h : PutOk l d m) : DutiesOk m := by
  have hp := h.perm
  refine duts_mk (fun v hv => ?_) h.less ?_ (by rw [hp.length_eq, List.length_cons]; have := h.2.2.2.1; omega)
  · rcases List.mem_cons.1 (hp.subset hv) with rfl | hv
    · exact h.2.1
    · exact h.1.all v hv
  · exact hp.symm.pairwise (List.pairwise_cons.2 ⟨h.2.2.1, duts_rest h.1⟩) fun h => rests_symm h
theorem PutOk.at_ {l m : List Dut} {d : Dut} (h : PutOk l d m) : atK m d.keeper d.frm = (fro (fun w : Dut => w.less d) l : Nat) := by
  obtain ⟨k, hk⟩ : ∃ k, k = fro (fun w : Dut => w.less d) l := ⟨_, rfl⟩
  have hkl : k ≤ l.length := by rw [hk]; exact fro_le _ _
  have hd : m[k]? = some d := by
    rw [h.2.2.2.2]; unfold insF
    rw [← hk, List.getElem?_append_right (by rw [List.length_take]; omega), List.length_take, Nat.min_eq_left hkl, Nat.sub_self]; rfl
  unfold atK
  rw [← hk]
  refine firstI_in (i := (k : Int)) (by omega) (v := d) hd ⟨rfl, rfl⟩ fun j hj w hw => ?_
  rintro ⟨e1, e2⟩
  have hjl := (List.getElem?_eq_some_iff.1 hw).1
  have hkm := (List.getElem?_eq_some_iff.1 hd).1
  have hl := List.pairwise_iff_getElem.1 h.less j k hjl hkm (by omega)
  rw [List.getElem?_eq_getElem hjl] at hw
  rw [List.getElem?_eq_getElem hkm] at hd
  cases hw; cases hd
  unfold Dut.less at hl
  rw [e1, e2] at hl
  rcases hl with hl | ⟨_, hl⟩
  · omega
  · exact strLt_irr _ hl
theorem PutOk.drop {l m : List Dut} {d : Dut} (h : PutOk l d m) : dropR m d.keeper d.frm = (l, 0) := by
  unfold dropR
  rw [if_pos h.valid, h.at_, if_neg (by omega)]
  obtain ⟨k, hk⟩ : ∃ k, k = fro (fun w : Dut => w.less d) l := ⟨_, rfl⟩
  have hkl : k ≤ l.length := by rw [hk]; exact fro_le _ _
  congr 1
  rw [h.2.2.2.2]
  unfold cutAt insF
  rw [← hk, show ((k : Int) + 1).toNat = k + 1 by omega, show ((k : Nat) : Int).toNat = k by omega]
  have e1 : (l.take k).length = k := by rw [List.length_take]; omega
  rw [List.take_append_of_le_length (by omega), List.take_of_length_le (by omega), List.drop_append, e1, show k + 1 - k = 1 by omega, List.drop_of_length_le (by omega)]
  simp
theorem PutOk.on {l m : List Dut} {d : Dut} (h : PutOk l d m) : (onDutyR m d.frm).2 = 0 ∧ d.keeper ∈ (onDutyR m d.frm).1 := by
  unfold onDutyR
  rw [if_pos h.valid, if_pos h.2.1.2.1]
  refine ⟨rfl, (insAll_spec _).1.mem_iff.2 ?_⟩
  unfold onM rej
  refine List.mem_map_of_mem (List.mem_filter.2 ⟨h.perm.symm.subset (List.mem_cons_self ..), ?_⟩)
  have := h.2.1.2.2.2.1
  simp only [decide_eq_true_eq]
  omega
theorem sum_perm {a b : List Int} (h : a.Perm b) : a.sum = b.sum := by
  induction h with
  | nil => rfl
  | cons _ _ ih => rw [List.sum_cons, List.sum_cons, ih]
  | swap _ _ _ => simp only [List.sum_cons]; omega
  | trans _ _ i1 i2 => exact i1.trans i2
theorem PutOk.mins {l m : List Dut} {d : Dut} (h : PutOk l d m) : minutesOfR m d.keeper d.frm d.til = (d.til - d.frm, 0) := by
  have hd := h.2.1
  unfold minutesOfR
  rw [if_pos h.valid, if_pos ⟨⟨hd.2.1, hd.2.2.1⟩, by have := hd.2.2.2.1; omega⟩]
  congr 1
  unfold minutesR
  have hp : (ofKeeper m d.keeper).Perm (ofKeeper (d :: l) d.keeper) := List.Perm.filter _ h.perm
  rw [sum_perm (hp.map (dutMin d.frm d.til))]
  have e : ofKeeper (d :: l) d.keeper = d :: ofKeeper l d.keeper := by
    unfold ofKeeper rej
    rw [List.filter_cons, if_pos (by simp)]
  rw [e, List.map_cons, List.sum_cons]
  have h0 : ∀ x ∈ (ofKeeper l d.keeper).map (dutMin d.frm d.til), x = 0 := fun x hx => by
    obtain ⟨v, hv, rfl⟩ := List.mem_map.1 hx
    have hvm := List.mem_filter.1 hv
    have hk : v.keeper = d.keeper := by simpa using hvm.2
    obtain ⟨_, t1, t2, t3, t4⟩ := h.1.all v hvm.1
    obtain ⟨_, g1, g2, g3, g4⟩ := hd
    unfold TimeOk at *
    unfold dutMin
    rcases h.2.2.1 v hvm.1 with g | g | g
    · exact absurd hk.symm g
    · rw [IntWalk.i64_in (d.til + 480) (by omega)] at g
      omega
    · rw [IntWalk.i64_in (v.til + 480) (by omega)] at g
      omega
  have hz : ∀ q : List Int, (∀ x ∈ q, x = 0) → q.sum = 0 := fun q => by
    induction q with
    | nil => intro _; rfl
    | cons x q ih => intro hq; rw [List.sum_cons, hq x (List.mem_cons_self ..), ih fun y hy => hq y (List.mem_cons_of_mem _ hy)]; rfl
  rw [hz _ h0]
  have := hd.2.2.2.1
  unfold dutMin
  omega
end Go.Proofs.YtnfjhadaclcgeaaGreatDoor
