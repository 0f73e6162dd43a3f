/- Characters: plain laws. -/
import Derived.Test.YtlfnlgbojbgcnaaGreatDoorGsp
namespace Go.Proofs.YtlfnlgbojbgcnaaGreatDoor
open Go Go.RowKit Classical
set_option maxRecDepth 100000
set_option maxHeartbeats 2000000
set_option linter.unusedVariables false
set_option linter.unusedSimpArgs false
def cAll : ByteArray := ⟨#[87, 82, 71, 89]⟩
def rk (c : Int) : Int := if c = 87 then 1 else if c = 82 then 2 else if c = 71 then 3 else if c = 89 then 4 else 0
def ColC (s : ByteArray) (j : Nat) : Prop := rk (chr s j) ≠ 0 ∧ (0 < j → rk (chr s (j - 1)) < rk (chr s j))
def ColOk (s : ByteArray) : Prop := (∀ j, j < s.size → ColC s j) ∧ 1 ≤ s.size ∧ s.size ≤ 3
theorem idx_rk0 : ∀ n : Fin 256, Lib.indexByte cAll.data.toList n.1.toUInt8 = rk (n.1 : Int) - 1 := by decide +kernel
theorem idx_rk {n : Int} (h : 0 ≤ n ∧ n ≤ 255) : Lib.indexByte cAll.data.toList n.toNat.toUInt8 = rk n - 1 := by
  have := idx_rk0 ⟨n.toNat, by omega⟩
  simp only at this
  rw [this, Int.toNat_of_nonneg h.1]
def GrpOk (l : List Int) : Prop := (∀ x ∈ l, 1 ≤ x ∧ x ≤ 9) ∧ l.length ≤ 4 ∧ l.sum ≤ 12 ∧ l ≠ [1]
def sumI (l : List Int) (i : Int) : Int := (l.take i.toNat).sum
theorem sumI_zero {l : List Int} {i : Int} (h : i ≤ 0) : sumI l i = 0 := by unfold sumI; rw [show i.toNat = 0 by omega]; simp
theorem sumI_succ {l : List Int} {i v : Int} (h0 : 0 ≤ i) (hv : l[i.toNat]? = some v) : sumI l (i + 1) = sumI l i + v := by
  unfold sumI
  rw [show (i + 1).toNat = i.toNat + 1 by omega, List.take_add_one, hv]
  simp
theorem sumI_all {l : List Int} {i : Int} (h : l.length ≤ i) : sumI l i = l.sum := by unfold sumI; rw [List.take_of_length_le (by omega)]
def tL : ByteArray := ⟨#[76]⟩
def LetOk (t : ByteArray) : Prop := t.size = 1 ∧ 65 ≤ chr t 0 ∧ chr t 0 ≤ 90
def ShapeOk (k : Int) (g : List Int) (t : ByteArray) : Prop :=
  ((k = 1 ∨ k = 3) ∧ g = [] ∧ t = noS) ∨ ((k = 2 ∨ k = 4 ∨ k = 5) ∧ t = noS ∧ GrpOk g) ∨ ((k = 6 ∨ k = 7) ∧ (t = noS ∧ (g = [] ∨ ∃ x, g = [x] ∧ 2 ≤ x ∧ x ≤ 9) ∨ t = tL ∧ g = [6])) ∨ (k = 8 ∧ LetOk t ∧ g = [])
theorem ShapeOk.kind {k : Int} {g : List Int} {t : ByteArray} (h : ShapeOk k g t) : 1 ≤ k ∧ k ≤ 8 := by
  rcases h with h | h | h | h <;> omega
theorem ShapeOk.grp {k : Int} {g : List Int} {t : ByteArray} (h : ShapeOk k g t) : (∀ x ∈ g, 1 ≤ x ∧ x ≤ 9) ∧ g.length ≤ 4 := by
  rcases h with ⟨_, rfl, _⟩ | ⟨_, _, h⟩ | ⟨_, ⟨_, rfl | ⟨x, rfl, h⟩⟩ | ⟨_, rfl⟩⟩ | ⟨_, _, rfl⟩
  · simp
  · exact ⟨h.1, h.2.1⟩
  · simp
  · simp; omega
  · simp
  · simp
theorem ShapeOk.letter {k : Int} {g : List Int} {t : ByteArray} (h : ShapeOk k g t) : (k = 8 ∧ LetOk t) ∨ (k ≠ 8 ∧ (t = noS ∨ t = tL)) := by
  rcases h with ⟨_, _, h⟩ | ⟨_, h, _⟩ | ⟨_, ⟨h, _⟩ | ⟨h, _⟩⟩ | ⟨_, h, _⟩
  · exact .inr ⟨by omega, .inl h⟩
  · exact .inr ⟨by omega, .inl h⟩
  · exact .inr ⟨by omega, .inl h⟩
  · exact .inr ⟨by omega, .inr h⟩
  · exact .inl ⟨by omega, h⟩
def flashR (k : Int) : Int := if k = 2 then 10 else if k = 5 then 20 else if k = 7 then 2 else 5
def gapR (k : Int) : Int := if k = 2 then 10 else if k = 4 then 15 else if k = 5 then 20 else if k = 7 then 3 else 5
def restR (k : Int) : Int := if k = 2 then 15 else if k = 4 then 20 else if k = 5 then 25 else if k = 6 then 20 else if k = 7 then 10 else 30
theorem flashR_bd (k : Int) : 2 ≤ flashR k ∧ flashR k ≤ 20 := by unfold flashR; repeat' split <;> omega
theorem gapR_bd (k : Int) : 3 ≤ gapR k ∧ gapR k ≤ 20 := by unfold gapR; repeat' split <;> omega
theorem restR_bd (k : Int) : 10 ≤ restR k ∧ restR k ≤ 30 := by unfold restR; repeat' split <;> omega
def innerL (f g : Int) (first : Bool) : Nat → List Int
  | 0 => []
  | k + 1 => innerL f g first k ++ ((if k = 0 then (if first then [] else [g + 20]) else [g]) ++ [f])
def outerL (f g : Int) (l : List Int) : Nat → List Int
  | 0 => []
  | i + 1 => outerL f g l i ++ innerL f g (i == 0) (l.getD i 0).toNat
def grpOr (g : List Int) : List Int := if g = [] then [1] else g
theorem grpOr_bd {g : List Int} (h : (∀ x ∈ g, 1 ≤ x ∧ x ≤ 9) ∧ g.length ≤ 4) : (∀ x ∈ grpOr g, 1 ≤ x ∧ x ≤ 9) ∧ (grpOr g).length ≤ 4 ∧ 1 ≤ (grpOr g).length := by
  unfold grpOr
  split
  · simp
  · rename_i h0
    exact ⟨h.1, h.2, List.length_pos_iff.2 h0⟩
def codes : List ByteArray := [".-", "-...", "-.-.", "-..", ".", "..-.", "--.", "....", "..", ".---", "-.-", ".-..", "--", "-.", "---", ".--.", "--.-", ".-.", "...", "-", "..-", "...-", ".--", "-..-", "-.--", "--.."].map String.toUTF8
theorem codes_len : codes.length = 26 := rfl
theorem codes_ok : ∀ s ∈ codes, s ≠ noS ∧ s.size ≤ 4 ∧ ∀ j, j < s.size → chr s j = 45 ∨ chr s j = 46 := by
  have h : ∀ s ∈ codes, s.data.toList ≠ [] ∧ s.data.toList.length ≤ 4 ∧ ∀ b ∈ s.data.toList, b = 45 ∨ b = 46 := by decide +kernel
  intro s hs
  obtain ⟨h1, h2, h3⟩ := h s hs
  rw [Array.length_toList] at h2
  refine ⟨fun e => h1 (by rw [e]; rfl), h2, fun j hj => ?_⟩
  have hj' : j < s.data.size := hj
  have h4 := h3 s.data[j] (Array.mem_toList_iff.2 (Array.getElem_mem _))
  have e : (s.data.getD j 0) = s.data[j] := by
    rw [Array.getD_eq_getD_getElem?, Array.getElem?_eq_getElem hj']
    rfl
  unfold chr
  rw [e]
  rcases h4 with h4 | h4 <;> rw [h4] <;> simp
def sgnT (t : ByteArray) : ByteArray := codes.getD (chr t 0 - 65).toNat noS
theorem sgnT_mem {t : ByteArray} (h : LetOk t) : sgnT t ∈ codes := by
  have hl := codes_len
  obtain ⟨_, h1, h2⟩ := h
  unfold sgnT
  rw [List.getD_eq_getElem?_getD, List.getElem?_eq_getElem (by omega)]
  simp
theorem sgnT_get {t v : ByteArray} {i : Int} (hi : i = chr t 0 - 65) (h : codes[i.toNat]? = some v) : v = sgnT t := by
  unfold sgnT
  rw [List.getD_eq_getElem?_getD, ← hi, h]; rfl
def morL (s : ByteArray) : Nat → List Int
  | 0 => []
  | j + 1 => morL s j ++ ((if j = 0 then [] else [5]) ++ [if chr s j = 45 then 15 else 5])
theorem morL_len (s : ByteArray) : ∀ j : Nat, (morL s j).length ≤ 2 * j
  | 0 => by simp [morL]
  | j + 1 => by
    have := morL_len s j
    unfold morL
    split <;> simp <;> omega
theorem morL_bd (s : ByteArray) : ∀ j : Nat, ∀ x ∈ morL s j, 0 ≤ x ∧ x ≤ 100
  | 0, x, h => by simp [morL] at h
  | j + 1, x, h => by
    unfold morL at h
    rw [List.mem_append, List.mem_append, List.mem_singleton] at h
    rcases h with h | h | h
    · exact morL_bd s j x h
    · split at h
      · simp at h
      · simp at h; omega
    · rw [h]; split <;> omega
theorem innerL_len (f g : Int) (b : Bool) : ∀ k : Nat, (innerL f g b k).length ≤ 2 * k
  | 0 => by simp [innerL]
  | k + 1 => by
    have := innerL_len f g b k
    unfold innerL
    split
    · split <;> simp <;> omega
    · simp; omega
theorem innerL_bd {f g : Int} (b : Bool) (hf : 0 ≤ f ∧ f ≤ 100) (hg : 0 ≤ g ∧ g ≤ 80) : ∀ k : Nat, ∀ x ∈ innerL f g b k, 0 ≤ x ∧ x ≤ 100
  | 0, x, h => by simp [innerL] at h
  | k + 1, x, h => by
    unfold innerL at h
    rw [List.mem_append, List.mem_append, List.mem_singleton] at h
    rcases h with h | h | h
    · exact innerL_bd b hf hg k x h
    · split at h
      · split at h
        · simp at h
        · simp at h; omega
      · simp at h; omega
    · omega
theorem getD_bd {l : List Int} (h : ∀ x ∈ l, 1 ≤ x ∧ x ≤ 9) (i : Nat) : 0 ≤ l.getD i 0 ∧ l.getD i 0 ≤ 9 := by
  rw [List.getD_eq_getElem?_getD]
  cases hv : l[i]? with
  | none => simp
  | some v => have := h v (List.mem_of_getElem? hv); simp; omega
theorem outerL_len {f g : Int} {l : List Int} (h : ∀ x ∈ l, 1 ≤ x ∧ x ≤ 9) : ∀ i : Nat, (outerL f g l i).length ≤ 18 * i
  | 0 => by simp [outerL]
  | i + 1 => by
    have h1 := outerL_len (f := f) (g := g) h i
    have h2 := innerL_len f g (i == 0) (l.getD i 0).toNat
    have h3 := getD_bd h i
    unfold outerL
    rw [List.length_append]
    omega
theorem outerL_bd {f g : Int} {l : List Int} (hf : 0 ≤ f ∧ f ≤ 100) (hg : 0 ≤ g ∧ g ≤ 80) : ∀ i : Nat, ∀ x ∈ outerL f g l i, 0 ≤ x ∧ x ≤ 100
  | 0, x, h => by simp [outerL] at h
  | i + 1, x, h => by
    unfold outerL at h
    rw [List.mem_append] at h
    rcases h with h | h
    · exact outerL_bd hf hg i x h
    · exact innerL_bd _ hf hg _ x h
noncomputable def timesR (k : Int) (g : List Int) (t : ByteArray) : List Int :=
  if k = 8 then morL (sgnT t) (sgnT t).size else outerL (flashR k) (gapR k) (grpOr g) (grpOr g).length ++ (if t = noS then [] else [gapR k, 20])
theorem timesR_bd {k : Int} {g : List Int} {t : ByteArray} (h : ShapeOk k g t) : (timesR k g t).length ≤ 80 ∧ ∀ x ∈ timesR k g t, 0 ≤ x ∧ x ≤ 100 := by
  have hf := flashR_bd k
  have hg := gapR_bd k
  unfold timesR
  split
  · rename_i h8
    rcases h.letter with ⟨_, h1⟩ | ⟨h1, _⟩
    · have h2 := codes_ok _ (sgnT_mem h1)
      have h3 := morL_len (sgnT t) (sgnT t).size
      exact ⟨by omega, morL_bd _ _⟩
    · exact absurd h8 h1
  · have h1 := grpOr_bd h.grp
    have h2 := outerL_len (f := flashR k) (g := gapR k) h1.1 (grpOr g).length
    constructor
    · rw [List.length_append]
      split <;> simp <;> omega
    · intro x hx
      rw [List.mem_append] at hx
      rcases hx with hx | hx
      · exact outerL_bd (by omega) (by omega) _ x hx
      · split at hx
        · simp at hx
        · simp at hx; omega
theorem sum_bd {l : List Int} (h : ∀ x ∈ l, 0 ≤ x ∧ x ≤ 100) : 0 ≤ l.sum ∧ l.sum ≤ 100 * l.length := by
  induction l with
  | nil => simp
  | cons a l ih =>
    have h1 := ih fun x hx => h x (by simp [hx])
    have h2 := h a (by simp)
    simp only [List.sum_cons, List.length_cons]
    omega
theorem sumI_bd {l : List Int} (h : ∀ x ∈ l, 0 ≤ x ∧ x ≤ 100) (i : Int) : 0 ≤ sumI l i ∧ sumI l i ≤ 100 * l.length := by
  have h1 := sum_bd (l := l.take i.toNat) fun x hx => h x (List.mem_of_mem_take hx)
  have h2 := List.length_take_le i.toNat l
  rw [List.length_take] at h1
  unfold sumI
  omega
def Steady (k : Int) (g : List Int) : Prop := k = 1 ∨ (k = 6 ∨ k = 7) ∧ g = []
noncomputable def leastR (k : Int) (g : List Int) (t : ByteArray) : Int := if Steady k g then 0 else if k = 3 then 20 else (timesR k g t).sum + restR k + (if 1 < g.length then 20 else 0)
theorem leastR_bd {k : Int} {g : List Int} {t : ByteArray} (h : ShapeOk k g t) : 0 ≤ leastR k g t ∧ leastR k g t ≤ 10000 := by
  have h1 := timesR_bd h
  have h2 := sum_bd h1.2
  have h3 := restR_bd k
  unfold leastR
  repeat' split <;> omega
def ChrOk (k : Int) (g : List Int) (t c : ByteArray) (p : Int) : Prop := ColOk c ∧ ShapeOk k g t ∧ (Steady k g → p = 0) ∧ (¬ Steady k g → leastR k g t ≤ p ∧ p ≤ 600 ∧ (k = 3 → p % 2 = 0))
theorem tmod2 (p : Int) : p.tmod 2 = 0 ↔ p % 2 = 0 := by
  rw [← Int.dvd_iff_tmod_eq_zero, Int.dvd_iff_emod_eq_zero]
theorem len0_iff (s : ByteArray) : s = noS ↔ s.size = 0 := empty_iff s
theorem size1 {s : ByteArray} (h : s.size = 1) : s = ⟨#[s.data.getD 0 0]⟩ := by
  cases s with | mk d =>
    have : d.size = 1 := h
    congr 1
    apply Array.ext
    · simpa using this
    · intro i h1 h2
      have : i = 0 := by simp at h2; omega
      subst this
      simp [Array.getD, h1]
theorem isCol_iff {s : ByteArray} (h : s.size = 1) : isCol s ↔ 0 ≤ Lib.indexByte cAll.data.toList (s.data.getD 0 0) := by
  rw [size1 h]
  generalize s.data.getD 0 0 = b
  have : ∀ n : Fin 256, (decide ((⟨#[n.1.toUInt8]⟩ : ByteArray).data.toList = [87]) || decide ((⟨#[n.1.toUInt8]⟩ : ByteArray).data.toList = [82]) || decide ((⟨#[n.1.toUInt8]⟩ : ByteArray).data.toList = [71]) || decide ((⟨#[n.1.toUInt8]⟩ : ByteArray).data.toList = [89])) = decide (0 ≤ Lib.indexByte cAll.data.toList n.1.toUInt8) := by decide +kernel
  have h2 := this ⟨b.toNat, b.toNat_lt⟩
  have hb : b.toNat.toUInt8 = b := by simp
  simp only [hb] at h2
  have e : ∀ (x y : UInt8), ((⟨#[x]⟩ : ByteArray) = ⟨#[y]⟩) ↔ ((⟨#[x]⟩ : ByteArray).data.toList = [y]) := fun x y => by simp
  unfold isCol cW cR cG cY
  rw [e, e, e, e]
  show _ ↔ 0 ≤ Lib.indexByte cAll.data.toList b
  rw [← decide_eq_true_iff (p := 0 ≤ Lib.indexByte cAll.data.toList b), ← h2]
  simp only [Bool.or_eq_true, decide_eq_true_iff]
  constructor
  · rintro (h | h | h | h) <;> simp [h]
  · rintro (((h | h) | h) | h) <;> simp [h]
theorem isCol_size {s : ByteArray} (h : isCol s) : s.size = 1 := by
  rcases h with rfl | rfl | rfl | rfl <;> rfl
end Go.Proofs.YtlfnlgbojbgcnaaGreatDoor
