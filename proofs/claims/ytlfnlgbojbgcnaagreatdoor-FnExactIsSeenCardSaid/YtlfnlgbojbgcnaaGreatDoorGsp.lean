/- Sectors: plain laws. -/
import Derived.Test.YtlfnlgbojbgcnaaGreatDoorShl
import Derived.Test.YtlfnlgbojbgcnaaGreatDoorFyc
import Derived.Test.YtlfnlgbojbgcnaaGreatDoorFpt
namespace Go.Proofs.YtlfnlgbojbgcnaaGreatDoor
open Go Go.RowKit Classical
set_option maxRecDepth 100000
set_option maxHeartbeats 2000000
set_option linter.unusedVariables false
set_option linter.unusedSimpArgs false
def cW : ByteArray := ⟨#[87]⟩
def cR : ByteArray := ⟨#[82]⟩
def cG : ByteArray := ⟨#[71]⟩
def cY : ByteArray := ⟨#[89]⟩
def isCol (c : ByteArray) : Prop := c = cW ∨ c = cR ∨ c = cG ∨ c = cY
def ScrOk (f t : Int) (c : ByteArray) : Prop := (0 ≤ f ∧ f ≤ 359) ∧ (0 ≤ t ∧ t ≤ 359) ∧ isCol c
def arcR (f t : Int) : Int := (t - f - 1) % 360 + 1
theorem arcR_bd (f t : Int) : 1 ≤ arcR f t ∧ arcR f t ≤ 360 := by unfold arcR; omega
def hasR (f t b : Int) : Prop := (b - f) % 360 < arcR f t
def ScrC (l : List Scr) (j : Nat) : Prop := ∃ s, l[j]? = some s ∧ ScrOk s.frm s.til s.color ∧ (0 < j → ∃ p, l[j - 1]? = some p ∧ p.frm < s.frm)
def ScsAp (l : List Scr) : Prop := ∀ (i k : Nat) s u, i ≠ k → l[i]? = some s → l[k]? = some u → ¬ hasR s.frm s.til u.frm
def ScsOk (l : List Scr) : Prop := (∀ j, j < l.length → ScrC l j) ∧ l.length ≤ 12 ∧ ScsAp l
theorem scr_at {l : List Scr} (h : ∀ j, j < l.length → ScrC l j) {i : Nat} {s : Scr} (hs : l[i]? = some s) : ScrOk s.frm s.til s.color := by
  obtain ⟨s', h1, h2, _⟩ := h i (List.getElem?_eq_some_iff.1 hs).1
  rw [hs] at h1; cases h1; exact h2
theorem scr_inc {l : List Scr} (h : ∀ j, j < l.length → ScrC l j) {i : Nat} {s : Scr} (hs : l[i]? = some s) : ∀ (k : Nat) u, i < k → l[k]? = some u → s.frm < u.frm
  | 0, _, hik, _ => absurd hik (by omega)
  | k + 1, u, hik, hu => by
    obtain ⟨u', h1, _, h3⟩ := h (k + 1) (List.getElem?_eq_some_iff.1 hu).1
    rw [hu] at h1; cases h1
    obtain ⟨p, h4, h5⟩ := h3 (by omega)
    rw [Nat.add_sub_cancel] at h4
    by_cases e : i = k
    · subst e; rw [hs] at h4; cases h4; exact h5
    · have := scr_inc h hs k p (by omega) h4; omega
/-- The neighbour on the circle says enough. -/
def ScsNx (l : List Scr) (i : Nat) : Prop := ∀ s u, 1 < l.length → l[i]? = some s → l[(i + 1) % l.length]? = some u → arcR s.frm s.til ≤ (u.frm - s.frm + 360) % 360
theorem scs_nx {l : List Scr} (h : ∀ j, j < l.length → ScrC l j) : ScsAp l ↔ ∀ i, i < l.length → ScsNx l i := by
  constructor
  · intro ha i hi s u hn hs hu
    have hne : i ≠ (i + 1) % l.length := by
      by_cases e : i + 1 = l.length
      · rw [e, Nat.mod_self]; omega
      · rw [Nat.mod_eq_of_lt (by omega)]; omega
    have := ha i _ s u hne hs hu
    unfold hasR at this
    have h1 := scr_at h hs
    have h2 := scr_at h hu
    unfold ScrOk at h1 h2
    omega
  · intro hn i k s u hik hs hu hh
    have hi := (List.getElem?_eq_some_iff.1 hs).1
    have hk := (List.getElem?_eq_some_iff.1 hu).1
    have hlt : (i + 1) % l.length < l.length := Nat.mod_lt _ (by omega)
    have hv : l[(i + 1) % l.length]? = some l[(i + 1) % l.length] := by simp [hlt]
    generalize l[(i + 1) % l.length] = v at hv
    have h0 := hn i hi s v (by omega) hs hv
    have h1 := scr_at h hs
    have h2 := scr_at h hu
    have h3 := scr_at h hv
    unfold ScrOk at h1 h2 h3
    unfold hasR at hh
    have hvu : (i + 1) % l.length = k ∨ (i + 1) % l.length < k ∨ k < (i + 1) % l.length := by omega
    have key : v.frm = u.frm ∨ ((i + 1) % l.length < k ∧ v.frm < u.frm) ∨ (k < (i + 1) % l.length ∧ u.frm < v.frm) := by
      rcases hvu with e | e | e
      · rw [e, hu] at hv; cases hv; exact .inl rfl
      · exact .inr (.inl ⟨e, scr_inc h hv k u e hu⟩)
      · exact .inr (.inr ⟨e, scr_inc h hu _ v e hv⟩)
    have hsu : (i < k ∧ s.frm < u.frm) ∨ (k < i ∧ u.frm < s.frm) := by
      rcases Nat.lt_or_ge i k with e | e
      · exact .inl ⟨e, scr_inc h hs k u e hu⟩
      · exact .inr ⟨by omega, scr_inc h hu i s (by omega) hs⟩
    by_cases e : i + 1 = l.length
    · have e0 : (i + 1) % l.length = 0 := by rw [e, Nat.mod_self]
      rw [e0] at key hv
      have hv0 : v.frm < s.frm := scr_inc h hv i s (by omega) hs
      omega
    · have e0 : (i + 1) % l.length = i + 1 := Nat.mod_eq_of_lt (by omega)
      rw [e0] at key hv
      have hv0 : s.frm < v.frm := scr_inc h hs (i + 1) v (by omega) hv
      omega
def arcN (s : Scr) : Nat := (arcR s.frm s.til).toNat
theorem arcN_bd (s : Scr) : 1 ≤ arcN s ∧ arcN s ≤ 360 ∧ (arcN s : Int) = arcR s.frm s.til := by
  have := arcR_bd s.frm s.til
  unfold arcN; omega
theorem scs_total {l : List Scr} (h : ∀ j, j < l.length → ScrC l j) (ha : ScsAp l) : sumTo arcN l l.length ≤ 360 := by
  cases hl : l with
  | nil => simp [sumTo]
  | cons s0 l0 =>
    rw [← hl]
    have hs0 : l[0]? = some s0 := by rw [hl]; rfl
    have hpos : 0 < l.length := by rw [hl]; simp
    have main : ∀ (i : Nat) u, l[i]? = some u → (sumTo arcN l i : Int) ≤ u.frm - s0.frm := by
      intro i
      induction i with
      | zero => intro u hu; rw [hs0] at hu; cases hu; rw [sumTo_zero (by omega)]; omega
      | succ i ih =>
        intro u hu
        have hi := (List.getElem?_eq_some_iff.1 hu).1
        have hv : l[i]? = some l[i] := by simp
        generalize l[i] = v at hv
        have h1 := ih v hv
        have h2 := ha i (i + 1) v u (by omega) hv hu
        have h3 := scr_inc h hv (i + 1) u (by omega) hu
        have h4 := sumTo_succ arcN (l := l) (i := i) (by omega) (by simpa using hv)
        have h5 := arcN_bd v
        have h6 := scr_at h hv
        have h7 := scr_at h hu
        unfold ScrOk at h6 h7
        unfold hasR at h2
        rw [show ((i + 1 : Nat) : Int) = (i : Int) + 1 by omega, h4]
        omega
    have hi : l.length - 1 < l.length := by omega
    have hu : l[l.length - 1]? = some l[l.length - 1] := by simp
    generalize l[l.length - 1] = u at hu
    have h1 := main _ u hu
    have h4 := sumTo_succ arcN (l := l) (i := (l.length - 1 : Nat)) (by omega) (by simpa using hu)
    rw [show ((l.length - 1 : Nat) : Int) + 1 = l.length by omega] at h4
    rw [h4]
    have h5 := arcN_bd u
    by_cases e : l.length = 1
    · have : sumTo arcN l ((l.length - 1 : Nat) : Int) = 0 := sumTo_zero (by omega)
      omega
    · have h2 := ha _ 0 u s0 (by omega) hu hs0
      have h3 := scr_inc h hs0 (l.length - 1) u (by omega) hu
      have h6 := scr_at h hs0
      have h7 := scr_at h hu
      unfold ScrOk at h6 h7
      unfold hasR at h2
      omega
/-! The color at a bearing. -/
def noS : ByteArray := ⟨#[]⟩
noncomputable def colAt : List Scr → Int → ByteArray
  | [], _ => noS
  | s :: l, b => if hasR s.frm s.til b then s.color else colAt l b
theorem colAt_none {l : List Scr} {b : Int} (h : ∀ s ∈ l, ¬ hasR s.frm s.til b) : colAt l b = noS := by
  induction l with
  | nil => rfl
  | cons s l ih => unfold colAt; rw [if_neg (h s (by simp)), ih fun u hu => h u (by simp [hu])]
theorem colAt_hit {l : List Scr} {b : Int} : ∀ {j : Nat} {s : Scr}, l[j]? = some s → hasR s.frm s.til b → (∀ (i : Nat) u, i < j → l[i]? = some u → ¬ hasR u.frm u.til b) → colAt l b = s.color := by
  induction l with
  | nil => intro j s h; simp at h
  | cons x l ih =>
    intro j s hj hh hn
    cases j with
    | zero => cases hj; unfold colAt; rw [if_pos hh]
    | succ j =>
      unfold colAt
      rw [if_neg (hn 0 x (by omega) rfl)]
      exact ih (by simpa using hj) hh fun i u hi hu => hn (i + 1) u (by omega) (by simpa using hu)
theorem scs_one {l : List Scr} (h : ScsOk l) {i k : Nat} {s u : Scr} {b : Int} (hs : l[i]? = some s) (hu : l[k]? = some u) (h1 : hasR s.frm s.til b) (h2 : hasR u.frm u.til b) : i = k := by
  apply Classical.byContradiction
  intro hik
  have h3 := h.2.2 i k s u hik hs hu
  have h4 := h.2.2 k i u s (Ne.symm hik) hu hs
  unfold hasR at *
  have h5 := arcR_bd s.frm s.til
  have h6 := arcR_bd u.frm u.til
  generalize arcR s.frm s.til = a at *
  generalize arcR u.frm u.til = c at *
  omega
/-- The last of the first i sectors that has a bearing. -/
noncomputable def lastTo (l : List Scr) : Nat → Int → ByteArray
  | 0, _ => noS
  | i + 1, d => match l[i]? with
    | some s => if hasR s.frm s.til d then s.color else lastTo l i d
    | none => lastTo l i d
theorem lastTo_none {l : List Scr} {d : Int} : ∀ {i : Nat}, (∀ (j : Nat) s, j < i → l[j]? = some s → ¬ hasR s.frm s.til d) → lastTo l i d = noS
  | 0, _ => rfl
  | i + 1, h => by
    unfold lastTo
    split
    · rename_i s hs
      rw [if_neg (h i s (by omega) hs)]
      exact lastTo_none fun j u hj hu => h j u (by omega) hu
    · exact lastTo_none fun j u hj hu => h j u (by omega) hu
theorem lastTo_hit {l : List Scr} (hok : ScsOk l) {d : Int} {j : Nat} {s : Scr} (hs : l[j]? = some s) (hh : hasR s.frm s.til d) : ∀ {i : Nat}, j < i → lastTo l i d = s.color
  | 0, h => by omega
  | i + 1, h => by
    by_cases e : j = i
    · subst e
      unfold lastTo; rw [hs]; simp only; rw [if_pos hh]
    · unfold lastTo
      split
      · rename_i u hu
        rw [if_neg (fun h2 => e (scs_one hok hs hu hh h2))]
        exact lastTo_hit hok hs hh (by omega)
      · exact lastTo_hit hok hs hh (by omega)
theorem lastTo_all {l : List Scr} (hok : ScsOk l) (d : Int) : lastTo l l.length d = colAt l d := by
  by_cases h : ∃ (j : Nat) (s : Scr), l[j]? = some s ∧ hasR s.frm s.til d
  · obtain ⟨j, s, hs, hh⟩ := h
    rw [lastTo_hit hok hs hh (List.getElem?_eq_some_iff.1 hs).1, colAt_hit hs hh fun i u hi hu h2 => ?_]
    have := scs_one hok hs hu hh h2; omega
  · rw [lastTo_none fun j s _ hs hh => h ⟨j, s, hs, hh⟩, colAt_none fun s hs hh => ?_]
    obtain ⟨j, hj⟩ := List.getElem?_of_mem hs
    exact h ⟨j, s, hj, hh⟩
/-- The colors while sector i is being painted: k degrees are done. -/
noncomputable def pntC (l : List Scr) (i : Nat) (s : Scr) (k : Int) (d : Nat) : ByteArray := if ((d : Int) - s.frm) % 360 < k then s.color else lastTo l i d
theorem pntC_zero (l : List Scr) (i : Nat) (s : Scr) (d : Nat) : pntC l i s 0 d = lastTo l i d := by unfold pntC; rw [if_neg (by omega)]
theorem pntC_all {l : List Scr} {i : Nat} {s : Scr} (hs : l[i]? = some s) (d : Nat) : pntC l i s (arcR s.frm s.til) d = lastTo l (i + 1) d := by
  unfold pntC
  conv => rhs; unfold lastTo
  rw [hs]
  simp only
  by_cases h : ((d : Int) - s.frm) % 360 < arcR s.frm s.til
  · rw [if_pos h, if_pos (show hasR s.frm s.til d from h)]
  · rw [if_neg h, if_neg (show ¬ hasR s.frm s.til d from h)]
theorem pntC_succ {l : List Scr} {i : Nat} {s : Scr} {k : Int} (hf : 0 ≤ s.frm ∧ s.frm ≤ 359) (hk : 0 ≤ k ∧ k < 360) (d : Nat) (hd : d < 360) : (if d = ((s.frm + k) % 360).toNat then s.color else pntC l i s k d) = pntC l i s (k + 1) d := by
  unfold pntC
  by_cases e : d = ((s.frm + k) % 360).toNat
  · rw [if_pos e, if_pos (by omega)]
  · rw [if_neg e]
    by_cases e2 : ((d : Int) - s.frm) % 360 < k
    · rw [if_pos e2, if_pos (by omega)]
    · rw [if_neg e2, if_neg (by omega)]
theorem map_set {α : Type} (f : Nat → α) (n i : Nat) (v : α) : ((List.range n).map f).set i v = (List.range n).map fun d => if d = i then v else f d := by
  apply List.ext_getElem?
  intro j
  rw [List.getElem?_set]
  by_cases hj : j < n
  · simp only [List.length_map, List.length_range, List.getElem?_map, List.getElem?_range hj, Option.map_some]
    by_cases e : i = j
    · subst e; simp [hj]
    · rw [if_neg e, if_neg (Ne.symm e)]
  · have h1 : ((List.range n).map f)[j]? = none := by rw [List.getElem?_eq_none (by simp; omega)]
    have h2 : ((List.range n).map fun d => if d = i then v else f d)[j]? = none := by rw [List.getElem?_eq_none (by simp; omega)]
    rw [h1, h2]
    split
    · rename_i e; subst e; rw [if_neg (by simp; omega)]
    · rfl
theorem range_map_congr {α : Type} {f g : Nat → α} {n : Nat} (h : ∀ d, d < n → f d = g d) : (List.range n).map f = (List.range n).map g :=
  List.map_congr_left fun d hd => h d (List.mem_range.1 hd)
/-! The colors that occur. -/
def allC : List ByteArray := [cW, cR, cG, cY]
noncomputable def occ (l : List Scr) (c : ByteArray) : Bool := bP (∃ s ∈ l, s.color = c)
def fl (c : ByteArray) (b : Bool) : ByteArray := if b then c else noS
noncomputable def colsTo (l : List Scr) : Nat → ByteArray
  | 0 => noS
  | i + 1 => colsTo l i ++ fl (allC.getD i noS) (occ l (allC.getD i noS))
noncomputable def colsR (l : List Scr) : ByteArray := colsTo l 4
theorem occ_nil (c : ByteArray) : occ [] c = false := bP_false.2 (by simp)
theorem occ_take {l : List Scr} {i : Int} {s : Scr} (c : ByteArray) (h0 : 0 ≤ i) (hs : l[i.toNat]? = some s) : occ (l.take (i + 1).toNat) c = (occ (l.take i.toNat) c || bP (s.color = c)) := by
  apply bP_eq
  rw [Bool.or_eq_true, bP_true, occ, bP_true, show (i + 1).toNat = i.toNat + 1 by omega, List.take_add_one, hs]
  simp only [Option.toList_some, List.mem_append, List.mem_singleton]
  constructor
  · rintro (⟨u, h1, h2⟩ | h)
    · exact ⟨u, .inl h1, h2⟩
    · exact ⟨s, .inr rfl, h⟩
  · rintro ⟨u, h1 | h1, h2⟩
    · exact .inl ⟨u, h1, h2⟩
    · subst h1; exact .inr h2
theorem fl_size (c : ByteArray) (b : Bool) : (fl c b).size ≤ c.size := by
  cases b
  · exact Nat.zero_le _
  · exact Nat.le_refl _
theorem allC_size (i : Nat) : (allC.getD i noS).size ≤ 1 := by
  match i with
  | 0 => decide
  | 1 => decide
  | 2 => decide
  | 3 => decide
  | n + 4 => exact (show noS.size ≤ 1 from by decide)
theorem colsTo_size (l : List Scr) : ∀ i : Nat, (colsTo l i).size ≤ i
  | 0 => by simp [colsTo, noS, ByteArray.size]
  | i + 1 => by
    unfold colsTo
    rw [ByteArray.size_append]
    have h1 := colsTo_size l i
    have h2 := fl_size (allC.getD i noS) (occ l (allC.getD i noS))
    have h3 := allC_size i
    omega
theorem cat_noS (s : ByteArray) : s ++ noS = s := ByteArray.append_empty
def colB : Nat → Bool → Bool → Bool → ByteArray
  | 0, _, _, _ => noS
  | 1, a, _, _ => noS ++ fl cW a
  | 2, a, b, _ => noS ++ fl cW a ++ fl cR b
  | _, a, b, c => noS ++ fl cW a ++ fl cR b ++ fl cG c
theorem colsTo_B (l : List Scr) {i : Nat} (h : i < 4) : ∃ a b c, colsTo l i = colB i a b c := by
  match i, h with
  | 0, _ => exact ⟨true, true, true, rfl⟩
  | 1, _ => exact ⟨_, true, true, rfl⟩
  | 2, _ => exact ⟨_, _, true, rfl⟩
  | 3, _ => exact ⟨_, _, _, rfl⟩
theorem colB_idx : ∀ (i : Fin 4) (a b c d : Bool), decide (0 ≤ Lib.indexByte (colB i.1 a b c ++ fl (allC.getD i.1 noS) d).data.toList ((allC.getD i.1 noS).data.getD 0 0)) = d := by decide +kernel
theorem cols_has (l : List Scr) {i : Nat} (h : i < 4) (d : Bool) : decide (0 ≤ Lib.indexByte (colsTo l i ++ fl (allC.getD i noS) d).data.toList ((allC.getD i noS).data.getD 0 0)) = d := by
  obtain ⟨a, b, c, e⟩ := colsTo_B l h
  rw [e]
  exact colB_idx ⟨i, h⟩ a b c d
end Go.Proofs.YtlfnlgbojbgcnaaGreatDoor
