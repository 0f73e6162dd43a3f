/- Plain laws: lists of numbers in the order of their letters, lists without doubles. -/
import Derived.Test.YtehobmjmhjgnoaaFh
namespace Go.Proofs.Ytehobmjmhjgnoaa
open Go Go.RowKit Classical
set_option maxRecDepth 100000
set_option maxHeartbeats 2000000
set_option linter.unusedVariables false
set_option linter.unusedSimpArgs false
def lexC : List Int → List Int → Int
  | [], [] => 0
  | [], _ :: _ => -1
  | _ :: _, [] => 1
  | x :: a, y :: b => if x < y then -1 else if y < x then 1 else lexC a b
theorem lexC_self : ∀ a : List Int, lexC a a = 0
  | [] => rfl
  | x :: a => by rw [lexC, if_neg (Int.lt_irrefl x), if_neg (Int.lt_irrefl x), lexC_self a]
theorem lexC_swap : ∀ a b : List Int, lexC b a = - lexC a b
  | [], [] => rfl
  | [], _ :: _ => rfl
  | _ :: _, [] => rfl
  | x :: a, y :: b => by
    rw [lexC, lexC]
    rcases Int.lt_trichotomy x y with h | h | h
    · rw [if_neg (by omega), if_pos h, if_pos h]; rfl
    · subst h; simp only [Int.lt_irrefl, if_false]; exact lexC_swap a b
    · rw [if_pos h, if_neg (by omega), if_pos h]
theorem lexC_eq : ∀ {a b : List Int}, lexC a b = 0 → a = b
  | [], [], _ => rfl
  | [], _ :: _, h => by simp [lexC] at h
  | _ :: _, [], h => by simp [lexC] at h
  | x :: a, y :: b, h => by
    rw [lexC] at h
    split at h
    · omega
    · split at h
      · omega
      · rw [show x = y by omega, lexC_eq h]
theorem lexC_bd : ∀ a b : List Int, -1 ≤ lexC a b ∧ lexC a b ≤ 1
  | [], [] => by simp [lexC]
  | [], _ :: _ => by simp [lexC]
  | _ :: _, [] => by simp [lexC]
  | x :: a, y :: b => by
    rw [lexC]
    split
    · omega
    · split
      · omega
      · exact lexC_bd a b
theorem lexC_trans : ∀ {a b c : List Int}, lexC a b < 0 → lexC b c < 0 → lexC a c < 0
  | a, [], c, h, _ => by
    cases a with
    | nil => simp [lexC] at h
    | cons => simp [lexC] at h
  | a, y :: b, [], _, h => by simp [lexC] at h
  | [], y :: b, z :: c, _, _ => by simp [lexC]
  | x :: a, y :: b, z :: c, h, k => by
    rw [lexC] at h k ⊢
    split at h
    · split at k
      · rw [if_pos (by omega)]; omega
      · split at k
        · omega
        · rw [if_pos (by omega)]; omega
    · split at h
      · omega
      · split at k
        · rw [if_pos (by omega)]; omega
        · split at k
          · omega
          · rw [if_neg (by omega), if_neg (by omega)]; exact lexC_trans h k
def lexLt (a b : List Int) : Prop := lexC a b < 0
theorem lexLt_asymm {a b : List Int} (h : lexLt a b) : ¬ lexLt b a := by
  unfold lexLt at *; rw [lexC_swap a b]; omega
theorem lex_uniq : ∀ {a b : List (List Int)}, a.Pairwise lexLt → b.Pairwise lexLt → (∀ x, x ∈ a ↔ x ∈ b) → a = b
  | [], [], _, _, _ => rfl
  | [], y :: b, _, _, h => by have := (h y).2 (by simp); simp at this
  | x :: a, [], _, _, h => by have := (h x).1 (by simp); simp at this
  | x :: a, y :: b, ha, hb, h => by
    rw [List.pairwise_cons] at ha hb
    have hxy : x = y := by
      rcases List.mem_cons.1 ((h x).1 (by simp)) with e | e
      · exact e
      · rcases List.mem_cons.1 ((h y).2 (by simp)) with e' | e'
        · exact e'.symm
        · exact (lexLt_asymm (hb.1 x e) (ha.1 y e')).elim
    subst hxy
    rw [lex_uniq ha.2 hb.2 fun z => ?_]
    constructor
    · intro hz
      rcases List.mem_cons.1 ((h z).1 (by simp [hz])) with e | e
      · have := ha.1 z hz
        subst e; unfold lexLt at this; rw [lexC_self] at this; omega
      · exact e
    · intro hz
      rcases List.mem_cons.1 ((h z).2 (by simp [hz])) with e | e
      · have := hb.1 z hz
        subst e; unfold lexLt at this; rw [lexC_self] at this; omega
      · exact e
/-! Lists without an element that is the same as the one before it. -/
def keepI {β : Type} (eq : β → β → Prop) (l : List β) (i : Nat) : Prop := ∀ x y, l[i]? = some x → 0 < i → l[i - 1]? = some y → ¬ eq x y
noncomputable def compI {β : Type} (eq : β → β → Prop) (l : List β) (n : Nat) : List Nat := (List.range n).filter fun i => decide (keepI eq l i)
noncomputable def compN {β : Type} (eq : β → β → Prop) (l : List β) (n : Nat) : List β := (compI eq l n).filterMap fun i => l[i]?
noncomputable def compactL {β : Type} (eq : β → β → Prop) (l : List β) : List β := compN eq l l.length
theorem compI_succ {β : Type} (eq : β → β → Prop) (l : List β) (n : Nat) : compI eq l (n + 1) = if keepI eq l n then compI eq l n ++ [n] else compI eq l n := by
  unfold compI
  rw [List.range_succ, List.filter_append]
  by_cases h : keepI eq l n <;> simp [h]
theorem compN_succ {β : Type} {eq : β → β → Prop} {l : List β} {n : Nat} {x : β} (hx : l[n]? = some x) : compN eq l (n + 1) = if keepI eq l n then compN eq l n ++ [x] else compN eq l n := by
  unfold compN
  rw [compI_succ]
  split
  · rw [List.filterMap_append]; simp [hx]
  · rfl
theorem compN_len {β : Type} (eq : β → β → Prop) (l : List β) (n : Nat) : (compN eq l n).length ≤ n := by
  unfold compN
  exact Nat.le_trans (List.length_filterMap_le _ _) (by unfold compI; exact Nat.le_trans (List.length_filter_le _ _) (by simp))
theorem mem_compN {β : Type} {eq : β → β → Prop} {l : List β} {n : Nat} {x : β} : x ∈ compN eq l n ↔ ∃ i, i < n ∧ keepI eq l i ∧ l[i]? = some x := by
  unfold compN compI
  rw [List.mem_filterMap]
  constructor
  · rintro ⟨i, h1, h2⟩
    rw [List.mem_filter, List.mem_range] at h1
    exact ⟨i, h1.1, by simpa using h1.2, h2⟩
  · rintro ⟨i, h1, h2, h3⟩
    exact ⟨i, by rw [List.mem_filter, List.mem_range]; exact ⟨h1, by simpa using h2⟩, h3⟩
/-- A sorted list, its doubles left out, rises; it has the same elements. -/
theorem compact_sorted {m : List (List Int)} (hs : ∀ (i j : Nat) x y, i < j → m[i]? = some x → m[j]? = some y → ¬ lexC y x < 0) : (compactL (· = ·) m).Pairwise lexLt ∧ ∀ x, x ∈ compactL (· = ·) m ↔ x ∈ m := by
  constructor
  · unfold compactL compN
    rw [List.pairwise_filterMap]
    have h1 : (compI (· = ·) m m.length).Pairwise (· < ·) := List.Pairwise.filter _ List.pairwise_lt_range
    refine h1.imp_of_mem fun {i j} hi hj hij x hx y hy => ?_
    unfold compI at hj
    rw [List.mem_filter] at hj
    have hk : keepI (· = ·) m j := by simpa using hj.2
    have hjl := (List.getElem?_eq_some_iff.1 hy).1
    obtain ⟨z, hz⟩ : ∃ z, m[j - 1]? = some z := ⟨_, List.getElem?_eq_getElem (by omega)⟩
    have hyz := hk y z hy (by omega) hz
    have h2 := hs (j - 1) j z y (by omega) hz hy
    have h3 : lexC z y < 0 := by
      have h4 := lexC_swap z y
      rcases Int.lt_trichotomy (lexC z y) 0 with g | g | g
      · exact g
      · exact (hyz (lexC_eq g).symm).elim
      · omega
    rcases Nat.lt_or_ge i (j - 1) with g | g
    · have h4 := hs i (j - 1) x z g hx hz
      have h5 := lexC_swap x z
      rcases Int.lt_trichotomy (lexC x z) 0 with g | g | g
      · exact lexC_trans (a := x) (b := z) (c := y) g h3
      · rw [lexC_eq g]; exact h3
      · omega
    · have e : i = j - 1 := by omega
      subst e
      rw [hx] at hz; cases hz
      exact h3
  · intro x
    unfold compactL
    rw [mem_compN]
    constructor
    · rintro ⟨i, _, _, h⟩; exact List.mem_of_getElem? h
    · intro hx
      obtain ⟨j, hj⟩ := List.getElem?_of_mem hx
      have key : ∀ j : Nat, m[j]? = some x → ∃ i, i < m.length ∧ keepI (· = ·) m i ∧ m[i]? = some x := by
        intro j
        induction j with
        | zero => exact fun h => ⟨0, (List.getElem?_eq_some_iff.1 h).1, fun _ _ _ h0 => by omega, h⟩
        | succ j ih =>
          intro h
          by_cases hk : keepI (· = ·) m (j + 1)
          · exact ⟨j + 1, (List.getElem?_eq_some_iff.1 h).1, hk, h⟩
          · unfold keepI at hk
            simp only [Classical.not_forall, Classical.not_not] at hk
            obtain ⟨a, b, h1, _, h3, h4⟩ := hk
            rw [h] at h1; cases h1
            rw [Nat.add_sub_cancel] at h3
            exact ih (by rw [h3, h4])
      exact key j hj
end Go.Proofs.Ytehobmjmhjgnoaa
