/- Plain laws: the turns of duties between two times, the gaps of watches. -/
import Derived.Test.YtehobmjmhjgnoaaPut
import Derived.Test.YtehobmjmhjgnoaaGtq
import Derived.Test.YtehobmjmhjgnoaaFv
namespace Go.Proofs.Ytehobmjmhjgnoaa
open Go Go.RowKit Classical
set_option maxRecDepth 100000
set_option maxHeartbeats 2000000
set_option linter.unusedVariables false
set_option linter.unusedSimpArgs false
theorem inc_uniq : ∀ {a b : List Int}, a.Pairwise (· < ·) → b.Pairwise (· < ·) → (∀ x, x ∈ a ↔ x ∈ b) → a = b
  | [], [], _, _, _ => rfl
  | [], y :: b, _, _, h => by have := (h y).2 (List.mem_cons_self ..); cases this
  | x :: a, [], _, _, h => by have := (h x).1 (List.mem_cons_self ..); cases this
  | x :: a, y :: b, ha, hb, h => by
    obtain ⟨a1, a2⟩ := List.pairwise_cons.1 ha
    obtain ⟨b1, b2⟩ := List.pairwise_cons.1 hb
    have e : x = y := by
      rcases List.mem_cons.1 ((h x).1 (List.mem_cons_self ..)) with h1 | h1
      · exact h1
      · rcases List.mem_cons.1 ((h y).2 (List.mem_cons_self ..)) with h2 | h2
        · exact h2.symm
        · have := b1 x h1; have := a1 y h2; omega
    subst e
    rw [inc_uniq a2 b2 fun z => ⟨fun hz => ?_, fun hz => ?_⟩]
    · rcases List.mem_cons.1 ((h z).1 (List.mem_cons_of_mem _ hz)) with e | e
      · have := a1 z hz; omega
      · exact e
    · rcases List.mem_cons.1 ((h z).2 (List.mem_cons_of_mem _ hz)) with e | e
      · have := b1 z hz; omega
      · exact e
theorem putI_inc {l : List Int} {n : Int} (hs : l.Pairwise (· < ·)) : (putI l n).Pairwise (· < ·) ∧ ∀ x, x ∈ putI l n ↔ x ∈ l ∨ x = n := by
  by_cases hn : n ∈ l
  · have e : putI l n = l := by
      unfold putI
      refine if_pos ?_
      obtain ⟨g1, g2⟩ := fro_spec (· < n) l
      obtain ⟨j, hj⟩ := List.getElem?_of_mem hn
      have hjl := (List.getElem?_eq_some_iff.1 hj).1
      have h1 : fro (· < n) l ≤ j := by
        rcases Nat.lt_or_ge j (fro (· < n) l) with h | h
        · have := g1 n (List.mem_of_getElem? (i := j) (by rw [List.getElem?_take, if_pos h]; exact hj)); omega
        · exact h
      obtain ⟨y, hy⟩ : ∃ y, l[fro (· < n) l]? = some y := ⟨_, List.getElem?_eq_getElem (by omega)⟩
      have h2 := g2 y hy
      rcases Nat.lt_or_ge (fro (· < n) l) j with h | h
      · have := pair_le hs h hy hj; omega
      · rw [show fro (· < n) l = j by omega]; exact hj
    rw [e]
    exact ⟨hs, fun x => ⟨.inl, fun h => h.elim id fun h => h ▸ hn⟩⟩
  · have e : putI l n = insF (· < n) l n := by
      unfold putI
      exact if_neg fun h => hn (List.mem_of_getElem? h)
    rw [e]
    refine ⟨insF_pw (R := (· < ·)) (fun x y z h1 h2 => Int.lt_trans h1 h2) hs (fun y hy => ?_), fun x => ?_⟩
    · have : y ≠ n := fun e => hn (e ▸ hy)
      omega
    · have h := (ins_perm l n (fro (· < n) l)).mem_iff (a := x)
      show x ∈ l.take _ ++ n :: l.drop _ ↔ _
      rw [← h]; simp [or_comm]
/-- The times at which a duty begins or ends, between two times. -/
noncomputable def turnS (f u : Int) (o : List Int) (d : Dut) : List Int :=
  if f ≤ d.til ∧ d.til ≤ u then putI (if f ≤ d.frm ∧ d.frm ≤ u then putI o d.frm else o) d.til else if f ≤ d.frm ∧ d.frm ≤ u then putI o d.frm else o
noncomputable def turnsR (l : List Dut) (f u : Int) : List Int := l.foldl (turnS f u) (putI [f] u)
def isTurn (l : List Dut) (f u x : Int) : Prop := ∃ d ∈ l, (x = d.frm ∨ x = d.til) ∧ f ≤ x ∧ x ≤ u
theorem turnS_spec {f u : Int} {o : List Int} {d : Dut} (h : o.Pairwise (· < ·)) : (turnS f u o d).Pairwise (· < ·) ∧ ∀ x, x ∈ turnS f u o d ↔ x ∈ o ∨ ((x = d.frm ∨ x = d.til) ∧ f ≤ x ∧ x ≤ u) := by
  unfold turnS
  by_cases h1 : f ≤ d.frm ∧ d.frm ≤ u
  · obtain ⟨a1, a2⟩ := putI_inc (n := d.frm) h
    by_cases h2 : f ≤ d.til ∧ d.til ≤ u
    · rw [if_pos h1, if_pos h2]
      obtain ⟨b1, b2⟩ := putI_inc (n := d.til) a1
      refine ⟨b1, fun x => ?_⟩
      rw [b2, a2]
      constructor
      · rintro ((h | h) | h)
        · exact .inl h
        · exact .inr ⟨.inl h, by omega, by omega⟩
        · exact .inr ⟨.inr h, by omega, by omega⟩
      · rintro (h | ⟨h | h, _⟩)
        · exact .inl (.inl h)
        · exact .inl (.inr h)
        · exact .inr h
    · rw [if_pos h1, if_neg h2]
      refine ⟨a1, fun x => ?_⟩
      rw [a2]
      constructor
      · rintro (h | h)
        · exact .inl h
        · exact .inr ⟨.inl h, by omega, by omega⟩
      · rintro (h | ⟨h | h, h3⟩)
        · exact .inl h
        · exact .inr h
        · subst h; exact absurd h3 h2
  · by_cases h2 : f ≤ d.til ∧ d.til ≤ u
    · rw [if_neg h1, if_pos h2]
      obtain ⟨b1, b2⟩ := putI_inc (n := d.til) h
      refine ⟨b1, fun x => ?_⟩
      rw [b2]
      constructor
      · rintro (h | h)
        · exact .inl h
        · exact .inr ⟨.inr h, by omega, by omega⟩
      · rintro (h | ⟨h | h, h3⟩)
        · exact .inl h
        · subst h; exact absurd h3 h1
        · exact .inr h
    · rw [if_neg h1, if_neg h2]
      refine ⟨h, fun x => ⟨.inl, ?_⟩⟩
      rintro (h | ⟨h | h, h3⟩)
      · exact h
      · subst h; exact absurd h3 h1
      · subst h; exact absurd h3 h2
theorem turns_spec {f u : Int} : ∀ (l : List Dut) (o : List Int), o.Pairwise (· < ·) → (l.foldl (turnS f u) o).Pairwise (· < ·) ∧ ∀ x, x ∈ l.foldl (turnS f u) o ↔ x ∈ o ∨ isTurn l f u x
  | [], o, h => ⟨h, fun x => ⟨.inl, fun h => h.elim id fun ⟨_, h, _⟩ => by cases h⟩⟩
  | d :: l, o, h => by
    obtain ⟨a1, a2⟩ := turnS_spec (f := f) (u := u) (d := d) h
    obtain ⟨b1, b2⟩ := turns_spec l _ a1
    refine ⟨b1, fun x => ?_⟩
    rw [List.foldl_cons, b2, a2]
    constructor
    · rintro ((h | h) | ⟨e, he, h⟩)
      · exact .inl h
      · exact .inr ⟨d, List.mem_cons_self .., h⟩
      · exact .inr ⟨e, List.mem_cons_of_mem _ he, h⟩
    · rintro (h | ⟨e, he, h⟩)
      · exact .inl (.inl h)
      · rcases List.mem_cons.1 he with rfl | he
        · exact .inl (.inr h)
        · exact .inr ⟨e, he, h⟩
theorem turnsR_spec (l : List Dut) (f u : Int) : (turnsR l f u).Pairwise (· < ·) ∧ ∀ x, x ∈ turnsR l f u ↔ (x = f ∨ x = u) ∨ isTurn l f u x := by
  obtain ⟨a1, a2⟩ := putI_inc (l := [f]) (n := u) (by simp)
  obtain ⟨b1, b2⟩ := turns_spec (f := f) (u := u) l _ a1
  refine ⟨b1, fun x => ?_⟩
  unfold turnsR
  rw [b2, a2]; simp
/-- What the program lists: the ends of all duties, moved between the two times. -/
def clampI (f u x : Int) : Int := min (max x f) u
def clampL (l : List Dut) (f u : Int) : List Int := [f, u] ++ l.flatMap fun d => [clampI f u d.frm, clampI f u d.til]
theorem clampI_spec {f u : Int} (h : f ≤ u) (x : Int) : (clampI f u x = f ∨ clampI f u x = u ∨ (clampI f u x = x ∧ f ≤ x ∧ x ≤ u)) ∧ (f ≤ x → x ≤ u → clampI f u x = x) := by unfold clampI; omega
theorem mem_clampL {l : List Dut} {f u : Int} (h : f ≤ u) (x : Int) : x ∈ clampL l f u ↔ (x = f ∨ x = u) ∨ isTurn l f u x := by
  unfold clampL
  rw [List.mem_append, List.mem_flatMap]
  constructor
  · rintro (hx | ⟨d, hd, hx⟩)
    · exact .inl (by simpa using hx)
    · have h1 := (clampI_spec h d.frm).1
      have h2 := (clampI_spec h d.til).1
      simp only [List.mem_cons, List.not_mem_nil, or_false] at hx
      rcases hx with hx | hx
      · rcases h1 with h1 | h1 | h1
        · exact .inl (.inl (hx.trans h1))
        · exact .inl (.inr (hx.trans h1))
        · exact .inr ⟨d, hd, .inl (hx.trans h1.1), by omega, by omega⟩
      · rcases h2 with h1 | h1 | h1
        · exact .inl (.inl (hx.trans h1))
        · exact .inl (.inr (hx.trans h1))
        · exact .inr ⟨d, hd, .inr (hx.trans h1.1), by omega, by omega⟩
  · rintro (hx | ⟨d, hd, hx | hx, h1, h2⟩)
    · exact .inl (by simpa using hx)
    · refine .inr ⟨d, hd, ?_⟩
      have := (clampI_spec h d.frm).2 (by omega) (by omega)
      simp [this, hx]
    · refine .inr ⟨d, hd, ?_⟩
      have := (clampI_spec h d.til).2 (by omega) (by omega)
      simp [this, hx]
/-- A sorted list of numbers, its doubles left out, rises. -/
theorem compactI_sorted {m : List Int} (hs : m.Pairwise (· ≤ ·)) : (compactL (· = ·) m).Pairwise (· < ·) ∧ ∀ x, x ∈ compactL (· = ·) m ↔ x ∈ m := by
  have hle : ∀ (i j : Nat) x y, i < j → m[i]? = some x → m[j]? = some y → x ≤ y := fun i j x y hij hx hy => pair_le hs hij hx hy
  constructor
  · unfold compactL compN
    rw [List.pairwise_filterMap]
    have h1 : (compI (· = ·) m m.length).Pairwise (· < ·) := List.Pairwise.filter _ List.pairwise_lt_range
    refine h1.imp_of_mem fun {i j} hi hj hij x hx y hy => ?_
    unfold compI at hj
    rw [List.mem_filter] at hj
    have hk : keepI (· = ·) m j := by simpa using hj.2
    have hjl := (List.getElem?_eq_some_iff.1 hy).1
    obtain ⟨z, hz⟩ : ∃ z, m[j - 1]? = some z := ⟨_, List.getElem?_eq_getElem (by omega)⟩
    have hyz := hk y z hy (by omega) hz
    have h2 := hle (j - 1) j z y (by omega) hz hy
    rcases Nat.lt_or_ge i (j - 1) with g | g
    · have h4 := hle i (j - 1) x z g hx hz
      omega
    · have e : i = j - 1 := by omega
      subst e
      rw [hx] at hz
      cases hz
      omega
  · intro x
    unfold compactL
    rw [mem_compN]
    constructor
    · rintro ⟨i, _, _, h⟩; exact List.mem_of_getElem? h
    · intro h
      obtain ⟨i, hi⟩ := List.getElem?_of_mem h
      -- the first place of x
      have key : ∀ n : Nat, ∀ i, i ≤ n → m[i]? = some x → ∃ i, i < m.length ∧ keepI (· = ·) m i ∧ m[i]? = some x := by
        intro n
        induction n with
        | zero => intro i hin hi; exact ⟨i, (List.getElem?_eq_some_iff.1 hi).1, fun _ _ _ h => by omega, hi⟩
        | succ n ih =>
          intro i hin hi
          by_cases hk : keepI (· = ·) m i
          · exact ⟨i, (List.getElem?_eq_some_iff.1 hi).1, hk, hi⟩
          · unfold keepI at hk
            obtain ⟨a, hk⟩ := Classical.not_forall.1 hk
            obtain ⟨b, hk⟩ := Classical.not_forall.1 hk
            simp only [Classical.not_imp, Classical.not_not] at hk
            obtain ⟨h1, h2, h3, h4⟩ := hk
            rw [hi] at h1
            cases h1
            exact ih (i - 1) (by omega) (by rw [h3, h4])
      exact key i i (Nat.le_refl _) hi
theorem turns_same {l : List Dut} {f u : Int} (h : f ≤ u) : compactL (· = ·) ((clampL l f u).mergeSort fun x y => decide (x ≤ y)) = turnsR l f u := by
  have hs : ((clampL l f u).mergeSort fun x y => decide (x ≤ y)).Pairwise (· ≤ ·) := by
    have := List.pairwise_mergeSort (le := fun x y : Int => decide (x ≤ y)) (fun a b c h1 h2 => by simp only [decide_eq_true_eq] at *; omega) (fun a b => by simp only [Bool.or_eq_true, decide_eq_true_eq]; omega) (clampL l f u)
    exact this.imp fun h => by simpa using h
  obtain ⟨a1, a2⟩ := compactI_sorted hs
  obtain ⟨b1, b2⟩ := turnsR_spec l f u
  refine inc_uniq a1 b1 fun x => ?_
  rw [a2, b2, (List.mergeSort_perm _ _).mem_iff, mem_clampL h]
/-- The gaps, turn by turn. -/
noncomputable def gapS (cnt : Int → Int) (need : Int) (o : List (Int × Int)) (a b : Int) : List (Int × Int) :=
  if need ≤ cnt a then o else match o[o.length - 1]? with
  | some (x, y) => if y = a then o.set (o.length - 1) (x, b) else o ++ [(a, b)]
  | none => o ++ [(a, b)]
noncomputable def gapN (cnt : Int → Int) (need : Int) (ts : List Int) : Nat → List (Int × Int)
  | 0 => []
  | i + 1 => match ts[i]?, ts[i + 1]? with
    | some a, some b => gapS cnt need (gapN cnt need ts i) a b
    | _, _ => gapN cnt need ts i
theorem gapN_succ {cnt : Int → Int} {need : Int} {ts : List Int} {i : Nat} {a b : Int} (ha : ts[i]? = some a) (hb : ts[i + 1]? = some b) : gapN cnt need ts (i + 1) = gapS cnt need (gapN cnt need ts i) a b := by
  rw [gapN, ha, hb]
theorem gapS_len (cnt : Int → Int) (need : Int) (o : List (Int × Int)) (a b : Int) : (gapS cnt need o a b).length ≤ o.length + 1 := by
  unfold gapS
  split
  · omega
  · split
    · split
      · simp
      · simp
    · simp
theorem gapN_len (cnt : Int → Int) (need : Int) (ts : List Int) : ∀ i, (gapN cnt need ts i).length ≤ i
  | 0 => by simp [gapN]
  | i + 1 => by
    have := gapN_len cnt need ts i
    rw [gapN]
    split
    · rename_i a b _ _
      have := gapS_len cnt need (gapN cnt need ts i) a b
      omega
    · omega
noncomputable def onN (l : List Dut) (t : Int) : Int := ((rej (fun v : Dut => t < v.frm ∨ v.til ≤ t) l).length : Int)
noncomputable def gapsR (l : List Dut) (f u need : Int) : List (Int × Int) := gapN (onN l) need (turnsR l f u) ((turnsR l f u).length - 1)
noncomputable def watchR (l : List Dut) (f u need : Int) : List (Int × Int) × Int :=
  if DutiesOk l then (if (TimeOk f ∧ TimeOk u) ∧ f ≤ u then (if 1 ≤ need ∧ need ≤ 10 then (gapsR l f u need, 0) else ([], 2)) else ([], 2)) else ([], 1)
def pairL (p : Int × Int) : List Int := [p.1, p.2]
noncomputable def watchLL (l : List Dut) (f u need : Int) : List (List Int) × Int := ((watchR l f u need).1.map pairL, (watchR l f u need).2)
noncomputable def btwR (l : List Dut) (f u : Int) : Int := if DutiesOk l then (if (TimeOk f ∧ TimeOk u) ∧ f ≤ u then 0 else 2) else 1
theorem btw_ok {l : List Dut} {f u : Int} : btwR l f u = 0 ↔ DutiesOk l ∧ (TimeOk f ∧ TimeOk u) ∧ f ≤ u := by
  unfold btwR
  by_cases h1 : DutiesOk l
  · by_cases h2 : (TimeOk f ∧ TimeOk u) ∧ f ≤ u
    · rw [if_pos h1, if_pos h2]; exact ⟨fun _ => ⟨h1, h2⟩, fun _ => rfl⟩
    · rw [if_pos h1, if_neg h2]; exact ⟨fun h => by omega, fun h => absurd h.2 h2⟩
  · rw [if_neg h1]; exact ⟨fun h => by omega, fun h => absurd h.1 h1⟩
theorem watch_bad {l : List Dut} {f u need : Int} (h : btwR l f u ≠ 0) : watchLL l f u need = ([], btwR l f u) := by
  unfold watchLL watchR btwR at *
  by_cases h1 : DutiesOk l
  · by_cases h2 : (TimeOk f ∧ TimeOk u) ∧ f ≤ u
    · rw [if_pos h1, if_pos h2] at h; exact absurd rfl h
    · rw [if_pos h1, if_neg h2, if_pos h1, if_neg h2]; rfl
  · rw [if_neg h1, if_neg h1]; rfl
theorem watch_need {l : List Dut} {f u need : Int} (h : btwR l f u = 0) : watchLL l f u need = if 1 ≤ need ∧ need ≤ 10 then ((gapsR l f u need).map pairL, 0) else ([], 2) := by
  obtain ⟨h1, h2⟩ := btw_ok.1 h
  unfold watchLL watchR
  rw [if_pos h1, if_pos h2]
  split <;> rfl
theorem turnsR_len (l : List Dut) (f u : Int) : 1 ≤ (turnsR l f u).length ∧ (turnsR l f u).length ≤ 2 + 2 * l.length := by
  refine ⟨?_, ?_⟩
  · have := (turnsR_spec l f u).2 f
    have hm := this.2 (.inl (.inl rfl))
    exact List.length_pos_of_mem hm
  · have key : ∀ (l : List Dut) (o : List Int), (l.foldl (turnS f u) o).length ≤ o.length + 2 * l.length := by
      intro l
      induction l with
      | nil => intro o; simp
      | cons d l ih =>
        intro o
        have h1 := ih (turnS f u o d)
        have h2 : (turnS f u o d).length ≤ o.length + 2 := by
          unfold turnS
          have a1 := putI_len o d.frm
          have a2 := putI_len o d.til
          have a3 := putI_len (putI o d.frm) d.til
          split <;> split <;> omega
        rw [List.foldl_cons, List.length_cons]; omega
    have h1 := key l (putI [f] u)
    have h2 := putI_len [f] u
    unfold turnsR
    simp at h2
    omega
theorem turn_mem {l : List Dut} {f u x : Int} (hfu : f ≤ u) (h : x ∈ turnsR l f u) : f ≤ x ∧ x ≤ u := by
  rcases ((turnsR_spec l f u).2 x).1 h with (h | h) | ⟨_, _, _, h1, h2⟩
  · omega
  · omega
  · exact ⟨h1, h2⟩
end Go.Proofs.Ytehobmjmhjgnoaa
