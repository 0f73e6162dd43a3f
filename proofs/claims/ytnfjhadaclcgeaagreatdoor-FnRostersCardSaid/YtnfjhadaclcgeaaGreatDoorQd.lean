/- Contracts: a number put into a rising list; Plain laws: lists of numbers in the order of their letters, lists without doubles; Plain laws: how the doubles of a list are left out; Plain laws: the turns of duties between two times, the gaps of watches. -/
import Derived.Test.YtnfjhadaclcgeaaGreatDoorQb
import Derived.Test.YtnfjhadaclcgeaaGreatDoorQa
import Derived.Test.YtnfjhadaclcgeaaGreatDoorQc
namespace Go.Proofs.YtnfjhadaclcgeaaGreatDoor
open Go Go.RowKit Classical
set_option maxRecDepth 100000
set_option maxHeartbeats 2000000
set_option linter.unusedVariables false
set_option linter.unusedSimpArgs false
/-- A number put into a rising list, once. -/
noncomputable def putI (l : List Int) (n : Int) : List Int := if l[fro (· < n) l]? = some n then l else insF (· < n) l n
theorem putI_len (l : List Int) (n : Int) : (putI l n).length ≤ l.length + 1 := by
  unfold putI
  split
  · omega
  · exact Nat.le_of_eq (insF_len _ _ _)
/-- What has been written when i numbers have been read. -/
noncomputable def putAt (l : List Int) (n i : Int) : List Int := if (fro (· < n) l : Int) < i then (if l[fro (· < n) l]? = some n then l.take i.toNat else l.take (fro (· < n) l) ++ n :: (l.take i.toNat).drop (fro (· < n) l)) else l.take i.toNat
theorem putAt_len (l : List Int) (n i : Int) : (putAt l n i).length ≤ l.length + 1 := by
  unfold putAt
  split
  · split
    · rw [List.length_take]; omega
    · rw [List.length_append, List.length_cons, List.length_take, List.length_drop, List.length_take]; omega
  · rw [List.length_take]; omega
theorem fro_at {p : Int → Prop} {l : List Int} {i : Int} {x : Int} (h0 : 0 ≤ i) (hx : l[i.toNat]? = some x) (hf : i ≤ fro p l) : (p x → i < fro p l) ∧ (¬ p x → (fro p l : Int) = i) := by
  obtain ⟨g1, g2⟩ := fro_spec p l
  refine ⟨fun hp => ?_, fun hp => ?_⟩
  · rcases Int.lt_or_le i (fro p l) with h | h
    · exact h
    · have e : fro p l = i.toNat := by omega
      exact absurd hp (g2 x (by rw [e]; exact hx))
  · rcases Int.lt_or_le i (fro p l) with h | h
    · refine absurd (g1 x ?_) hp
      exact List.mem_of_getElem? (i := i.toNat) (by rw [List.getElem?_take, if_pos (by omega)]; exact hx)
    · omega
theorem putAt_zero (l : List Int) (n : Int) : putAt l n 0 = [] := by
  unfold putAt; rw [if_neg (by omega)]; rfl
theorem take_snoc {l : List Int} {i n : Int} {x : Int} (h0 : 0 ≤ i) (hn : n = i + 1) (hx : l[i.toNat]? = some x) : l.take n.toNat = l.take i.toNat ++ [x] := by
  rw [show n.toNat = i.toNat + 1 by omega, List.take_add_one, hx]; rfl
theorem putAt_done {l : List Int} {m i n x : Int} (h0 : 0 ≤ i) (hn : n = i + 1) (hx : l[i.toNat]? = some x) (hd : (fro (· < m) l : Int) < i) : putAt l m n = putAt l m i ++ [x] := by
  unfold putAt
  rw [if_pos (by omega), if_pos hd, take_snoc h0 hn hx]
  split
  · rfl
  · have hl : fro (· < m) l ≤ (l.take i.toNat).length := by
      have := (List.getElem?_eq_some_iff.1 hx).1
      rw [List.length_take]; omega
    rw [List.drop_append_of_le_length hl, ← List.cons_append, List.append_assoc]
theorem putAt_less {l : List Int} {m i n x : Int} (h0 : 0 ≤ i) (hn : n = i + 1) (hx : l[i.toNat]? = some x) (hd : i ≤ fro (· < m) l) (hlt : x < m) : putAt l m n = putAt l m i ++ [x] ∧ n ≤ fro (· < m) l := by
  have h1 := (fro_at h0 hx hd).1 hlt
  unfold putAt
  rw [if_neg (by omega), if_neg (by omega), take_snoc h0 hn hx]
  exact ⟨rfl, by omega⟩
theorem putAt_eq {l : List Int} {m i n x : Int} (h0 : 0 ≤ i) (hn : n = i + 1) (hx : l[i.toNat]? = some x) (hd : i ≤ fro (· < m) l) (he : x = m) : putAt l m n = putAt l m i ++ [x] ∧ (fro (· < m) l : Int) < n := by
  have h1 := (fro_at h0 hx hd).2 (by omega)
  have e : fro (· < m) l = i.toNat := by omega
  have hlen := (List.getElem?_eq_some_iff.1 hx).1
  have e1 : putAt l m i = l.take i.toNat := by unfold putAt; exact if_neg (by omega)
  have e2 : putAt l m n = l.take n.toNat := by
    unfold putAt
    rw [if_pos (show (fro (· < m) l : Int) < n by omega), if_pos (by rw [e, hx, he])]
  rw [e1, e2, take_snoc h0 hn hx]
  exact ⟨rfl, by omega⟩
theorem putAt_more {l : List Int} {m i n x : Int} (h0 : 0 ≤ i) (hn : n = i + 1) (hx : l[i.toNat]? = some x) (hd : i ≤ fro (· < m) l) (he : m < x) : putAt l m n = putAt l m i ++ [m] ++ [x] ∧ (fro (· < m) l : Int) < n := by
  have h1 := (fro_at h0 hx hd).2 (by omega)
  have e : fro (· < m) l = i.toNat := by omega
  have hlen := (List.getElem?_eq_some_iff.1 hx).1
  have e1 : putAt l m i = l.take i.toNat := by unfold putAt; exact if_neg (by omega)
  have e2 : putAt l m n = l.take i.toNat ++ m :: (l.take n.toNat).drop i.toNat := by
    unfold putAt
    rw [if_pos (show (fro (· < m) l : Int) < n by omega), if_neg (by rw [e, hx]; intro h; injection h with h; omega), e]
  rw [e1, e2, take_snoc h0 hn hx]
  refine ⟨?_, by omega⟩
  rw [List.drop_append_of_le_length (by rw [List.length_take]; omega), List.drop_eq_nil_of_le (by rw [List.length_take]; omega), List.nil_append, List.append_assoc]
  rfl
theorem putAt_end {l : List Int} {m i : Int} (hi : l.length ≤ i) : ((fro (· < m) l : Int) < i → i ≤ l.length → putAt l m i = putI l m) ∧ (i ≤ fro (· < m) l → putAt l m i ++ [m] = putI l m) := by
  have hle := fro_le (· < m) l
  have ht : l.take i.toNat = l := List.take_of_length_le (by omega)
  constructor
  · intro h _
    unfold putAt putI insF
    rw [if_pos h, ht]
  · intro h
    have e : fro (· < m) l = l.length := by omega
    unfold putAt putI insF
    rw [if_neg (by omega), ht, e, if_neg (by simp), List.take_length, List.drop_length]
end Go.Proofs.YtnfjhadaclcgeaaGreatDoor
namespace Go.Proofs.YtnfjhadaclcgeaaGreatDoor
open Go Go.RowKit Classical
set_option maxRecDepth 100000
set_option maxHeartbeats 2000000
set_option linter.unusedVariables false
set_option linter.unusedSimpArgs false
def lexC : List Int → List Int → Int
  | [], [] => 0
  | [], _ :: _ => -1
  | _ :: _, [] => 1
  | x :: a, y :: b => if x < y then -1 else if y < x then 1 else lexC a b
theorem lexC_self : ∀ a : List Int, lexC a a = 0
  | [] => rfl
  | x :: a => by rw [lexC, if_neg (Int.lt_irrefl x), if_neg (Int.lt_irrefl x), lexC_self a]
theorem lexC_swap : ∀ a b : List Int, lexC b a = - lexC a b
  | [], [] => rfl
  | [], _ :: _ => rfl
  | _ :: _, [] => rfl
  | x :: a, y :: b => by
    rw [lexC, lexC]
    rcases Int.lt_trichotomy x y with h | h | h
    · rw [if_neg (by omega), if_pos h, if_pos h]; rfl
    · subst h; simp only [Int.lt_irrefl, if_false]; exact lexC_swap a b
    · rw [if_pos h, if_neg (by omega), if_pos h]
theorem lexC_eq : ∀ {a b : List Int}, lexC a b = 0 → a = b
  | [], [], _ => rfl
  | [], _ :: _, h => by simp [lexC] at h
  | _ :: _, [], h => by simp [lexC] at h
  | x :: a, y :: b, h => by
    rw [lexC] at h
    split at h
    · omega
    · split at h
      · omega
      · rw [show x = y by omega, lexC_eq h]
theorem lexC_bd : ∀ a b : List Int, -1 ≤ lexC a b ∧ lexC a b ≤ 1
  | [], [] => by simp [lexC]
  | [], _ :: _ => by simp [lexC]
  | _ :: _, [] => by simp [lexC]
  | x :: a, y :: b => by
    rw [lexC]
    split
    · omega
    · split
      · omega
      · exact lexC_bd a b
theorem lexC_trans : ∀ {a b c : List Int}, lexC a b < 0 → lexC b c < 0 → lexC a c < 0
  | a, [], c, h, _ => by
    cases a with
    | nil => simp [lexC] at h
    | cons => simp [lexC] at h
  | a, y :: b, [], _, h => by simp [lexC] at h
  | [], y :: b, z :: c, _, _ => by simp [lexC]
  | x :: a, y :: b, z :: c, h, k => by
    rw [lexC] at h k ⊢
    split at h
    · split at k
      · rw [if_pos (by omega)]; omega
      · split at k
        · omega
        · rw [if_pos (by omega)]; omega
    · split at h
      · omega
      · split at k
        · rw [if_pos (by omega)]; omega
        · split at k
          · omega
          · rw [if_neg (by omega), if_neg (by omega)]; exact lexC_trans h k
def lexLt (a b : List Int) : Prop := lexC a b < 0
theorem lexLt_asymm {a b : List Int} (h : lexLt a b) : ¬ lexLt b a := by
  unfold lexLt at *; rw [lexC_swap a b]; omega
theorem lex_uniq : ∀ {a b : List (List Int)}, a.Pairwise lexLt → b.Pairwise lexLt → (∀ x, x ∈ a ↔ x ∈ b) → a = b
  | [], [], _, _, _ => rfl
  | [], y :: b, _, _, h => by have := (h y).2 (by simp); simp at this
  | x :: a, [], _, _, h => by have := (h x).1 (by simp); simp at this
  | x :: a, y :: b, ha, hb, h => by
    rw [List.pairwise_cons] at ha hb
    have hxy : x = y := by
      rcases List.mem_cons.1 ((h x).1 (by simp)) with e | e
      · exact e
      · rcases List.mem_cons.1 ((h y).2 (by simp)) with e' | e'
        · exact e'.symm
        · exact (lexLt_asymm (hb.1 x e) (ha.1 y e')).elim
    subst hxy
    rw [lex_uniq ha.2 hb.2 fun z => ?_]
    constructor
    · intro hz
      rcases List.mem_cons.1 ((h z).1 (by simp [hz])) with e | e
      · have := ha.1 z hz
        subst e; unfold lexLt at this; rw [lexC_self] at this; omega
      · exact e
    · intro hz
      rcases List.mem_cons.1 ((h z).2 (by simp [hz])) with e | e
      · have := hb.1 z hz
        subst e; unfold lexLt at this; rw [lexC_self] at this; omega
      · exact e
/-! Lists without an element that is the same as the one before it. -/
def keepI {β : Type} (eq : β → β → Prop) (l : List β) (i : Nat) : Prop := ∀ x y, l[i]? = some x → 0 < i → l[i - 1]? = some y → ¬ eq x y
noncomputable def compI {β : Type} (eq : β → β → Prop) (l : List β) (n : Nat) : List Nat := (List.range n).filter fun i => decide (keepI eq l i)
noncomputable def compN {β : Type} (eq : β → β → Prop) (l : List β) (n : Nat) : List β := (compI eq l n).filterMap fun i => l[i]?
noncomputable def compactL {β : Type} (eq : β → β → Prop) (l : List β) : List β := compN eq l l.length
theorem compI_succ {β : Type} (eq : β → β → Prop) (l : List β) (n : Nat) : compI eq l (n + 1) = if keepI eq l n then compI eq l n ++ [n] else compI eq l n := by
  unfold compI
  rw [List.range_succ, List.filter_append]
  by_cases h : keepI eq l n <;> simp [h]
theorem compN_succ {β : Type} {eq : β → β → Prop} {l : List β} {n : Nat} {x : β} (hx : l[n]? = some x) : compN eq l (n + 1) = if keepI eq l n then compN eq l n ++ [x] else compN eq l n := by
  unfold compN
  rw [compI_succ]
  split
  · rw [List.filterMap_append]; simp [hx]
  · rfl
theorem compN_len {β : Type} (eq : β → β → Prop) (l : List β) (n : Nat) : (compN eq l n).length ≤ n := by
  unfold compN
  exact Nat.le_trans (List.length_filterMap_le _ _) (by unfold compI; exact Nat.le_trans (List.length_filter_le _ _) (by simp))
theorem mem_compN {β : Type} {eq : β → β → Prop} {l : List β} {n : Nat} {x : β} : x ∈ compN eq l n ↔ ∃ i, i < n ∧ keepI eq l i ∧ l[i]? = some x := by
  unfold compN compI
  rw [List.mem_filterMap]
  constructor
  · rintro ⟨i, h1, h2⟩
    rw [List.mem_filter, List.mem_range] at h1
    exact ⟨i, h1.1, by simpa using h1.2, h2⟩
  · rintro ⟨i, h1, h2, h3⟩
    exact ⟨i, by rw [List.mem_filter, List.mem_range]; exact ⟨h1, by simpa using h2⟩, h3⟩
/-- A sorted list, its doubles left out, rises; it has the same elements. -/
theorem compact_sorted {m : List (List Int)} (hs : ∀ (i j : Nat) x y, i < j → m[i]? = some x → m[j]? = some y → ¬ lexC y x < 0) : (compactL (· = ·) m).Pairwise lexLt ∧ ∀ x, x ∈ compactL (· = ·) m ↔ x ∈ m := by
  constructor
  · unfold compactL compN
    rw [List.pairwise_filterMap]
    have h1 : (compI (· = ·) m m.length).Pairwise (· < ·) := List.Pairwise.filter _ List.pairwise_lt_range
    refine h1.imp_of_mem fun {i j} hi hj hij x hx y hy => ?_
    unfold compI at hj
    rw [List.mem_filter] at hj
    have hk : keepI (· = ·) m j := by simpa using hj.2
    have hjl := (List.getElem?_eq_some_iff.1 hy).1
    obtain ⟨z, hz⟩ : ∃ z, m[j - 1]? = some z := ⟨_, List.getElem?_eq_getElem (by omega)⟩
    have hyz := hk y z hy (by omega) hz
    have h2 := hs (j - 1) j z y (by omega) hz hy
    have h3 : lexC z y < 0 := by
      have h4 := lexC_swap z y
      rcases Int.lt_trichotomy (lexC z y) 0 with g | g | g
      · exact g
      · exact (hyz (lexC_eq g).symm).elim
      · omega
    rcases Nat.lt_or_ge i (j - 1) with g | g
    · have h4 := hs i (j - 1) x z g hx hz
      have h5 := lexC_swap x z
      rcases Int.lt_trichotomy (lexC x z) 0 with g | g | g
      · exact lexC_trans (a := x) (b := z) (c := y) g h3
      · rw [lexC_eq g]; exact h3
      · omega
    · have e : i = j - 1 := by omega
      subst e
      rw [hx] at hz; cases hz
      exact h3
  · intro x
    unfold compactL
    rw [mem_compN]
    constructor
    · rintro ⟨i, _, _, h⟩; exact List.mem_of_getElem? h
    · intro hx
      obtain ⟨j, hj⟩ := List.getElem?_of_mem hx
      have key : ∀ j : Nat, m[j]? = some x → ∃ i, i < m.length ∧ keepI (· = ·) m i ∧ m[i]? = some x := by
        intro j
        induction j with
        | zero => exact fun h => ⟨0, (List.getElem?_eq_some_iff.1 h).1, fun _ _ _ h0 => by omega, h⟩
        | succ j ih =>
          intro h
          by_cases hk : keepI (· = ·) m (j + 1)
          · exact ⟨j + 1, (List.getElem?_eq_some_iff.1 h).1, hk, h⟩
          · unfold keepI at hk
            simp only [Classical.not_forall, Classical.not_not] at hk
            obtain ⟨a, b, h1, _, h3, h4⟩ := hk
            rw [h] at h1; cases h1
            rw [Nat.add_sub_cancel] at h3
            exact ih (by rw [h3, h4])
      exact key j hj
end Go.Proofs.YtnfjhadaclcgeaaGreatDoor
namespace Go.Proofs.YtnfjhadaclcgeaaGreatDoor
open Go Go.RowKit Classical
set_option maxRecDepth 100000
set_option maxHeartbeats 2000000
set_option linter.unusedVariables false
set_option linter.unusedSimpArgs false
theorem all_kept {β : Type} {eq : β → β → Prop} {ls : List β} {k : Int} (h : Up (fun j => keepI eq ls j) k) (h0 : 0 ≤ k) (hk : k ≤ ls.length) : compN eq ls k.toNat = ls.take k.toNat := by
  have key : ∀ n : Nat, (n : Int) ≤ k → compN eq ls n = ls.take n := by
    intro n
    induction n with
    | zero => intro _; unfold compN compI; simp
    | succ n ih =>
      intro hn
      have hx : ls[n]? = some ls[n] := List.getElem?_eq_getElem (by omega)
      rw [compN_succ hx, if_pos (h n (by omega)), ih (by omega), List.take_add_one, hx]; rfl
  exact key _ (by omega)
theorem comp_small {β : Type} {eq : β → β → Prop} {ls : List β} (h : ls.length < 2) : compactL eq ls = ls := by
  unfold compactL
  match ls, h with
  | [], _ => rfl
  | [x], _ => rw [show [x].length = 0 + 1 from rfl, compN_succ (x := x) rfl, if_pos (show keepI eq [x] 0 from fun _ _ _ h => by omega)]; rfl
theorem keep_no {β : Type} {eq : β → β → Prop} {ls : List β} {i : Nat} {x y : β} (hx : ls[i]? = some x) (hy : ls[i - 1]? = some y) (h0 : 0 < i) (h : eq x y) : ¬ keepI eq ls i := fun hk => hk x y hx h0 hy h
theorem keep_yes {β : Type} {eq : β → β → Prop} {ls : List β} {i : Nat} {x y : β} (hx : ls[i]? = some x) (hy : ls[i - 1]? = some y) (h : ¬ eq x y) : keepI eq ls i := fun a b ha _ hb => by
  rw [hx] at ha; rw [hy] at hb; cases ha; cases hb; exact h
def CInv {β : Type} (eq : β → β → Prop) (ls cs : List β) (k i : Int) : Prop := cs.length = ls.length ∧ (0 ≤ k ∧ k < i ∧ i ≤ ls.length) ∧ cs.take k.toNat = compN eq ls i.toNat ∧ ∀ j : Nat, i ≤ (j : Int) + 1 → cs[j]? = ls[j]?
theorem CInv.start {β : Type} {eq : β → β → Prop} {ls : List β} {k m : Int} {x y : β} (h : Up (fun j => keepI eq ls j) k) (h1 : 1 ≤ k) (hx : ls[k.toNat]? = some x) (hm : m = k - 1) (hy : ls[m.toNat]? = some y) (he : eq x y) : CInv eq ls ls k (k + 1) := by
  have hl := (List.getElem?_eq_some_iff.1 hx).1
  refine ⟨rfl, by omega, ?_, fun _ _ => rfl⟩
  rw [show (k + 1).toNat = k.toNat + 1 by omega, compN_succ hx, if_neg (keep_no hx (by rw [show k.toNat - 1 = m.toNat by omega]; exact hy) (by omega) he), all_kept h (by omega) (by omega)]
theorem CInv.skip {β : Type} {eq : β → β → Prop} {ls cs : List β} {k i a b n : Int} {x y : β} (h : CInv eq ls cs k i) (ha : a = i) (hx : cs[a.toNat]? = some x) (hb : b = i - 1) (hy : cs[b.toNat]? = some y) (he : eq x y) (hn : n = i + 1) : CInv eq ls cs k n := by
  obtain ⟨h1, ⟨h2, h3, h4⟩, h5, h6⟩ := h
  subst ha
  rw [h6 _ (by omega)] at hx
  rw [h6 _ (by omega)] at hy
  have hl := (List.getElem?_eq_some_iff.1 hx).1
  refine ⟨h1, by omega, ?_, fun j hj => h6 j (by omega)⟩
  rw [hn, show (a + 1).toNat = a.toNat + 1 by omega, compN_succ hx, if_neg (keep_no hx (by rw [show a.toNat - 1 = b.toNat by omega]; exact hy) (by omega) he), h5]
theorem CInv.put {β : Type} {eq : β → β → Prop} {ls cs : List β} {k i a b k2 n : Int} {x y : β} (h : CInv eq ls cs k i) (ha : a = i) (hx : cs[a.toNat]? = some x) (hb : b = i - 1) (hy : cs[b.toNat]? = some y) (he : ¬ eq x y) (hk2 : k2 = k + 1) (hn : n = i + 1) : CInv eq ls (cs.set k.toNat x) k2 n := by
  obtain ⟨h1, ⟨h2, h3, h4⟩, h5, h6⟩ := h
  subst ha
  rw [h6 _ (by omega)] at hx
  rw [h6 _ (by omega)] at hy
  have hl := (List.getElem?_eq_some_iff.1 hx).1
  refine ⟨by rw [List.length_set]; exact h1, by omega, ?_, fun j hj => by rw [List.getElem?_set_ne (by omega)]; exact h6 j (by omega)⟩
  rw [hn, hk2, show (a + 1).toNat = a.toNat + 1 by omega, show (k + 1).toNat = k.toNat + 1 by omega, compN_succ hx, if_pos (keep_yes hx (by rw [show a.toNat - 1 = b.toNat by omega]; exact hy) he), ← h5, List.take_add_one, List.take_set_of_le (Nat.le_refl _), List.getElem?_set_self (by omega)]
  rfl
theorem CInv.done {β : Type} {eq : β → β → Prop} {ls cs : List β} {k i : Int} (h : CInv eq ls cs k i) (hi : (ls.length : Int) ≤ i) : cs.take k.toNat = compactL eq ls := by
  obtain ⟨h1, ⟨h2, h3, h4⟩, h5, h6⟩ := h
  rw [h5, compactL, show i.toNat = ls.length by omega]
theorem all_done {β : Type} {eq : β → β → Prop} {ls : List β} {k : Int} (h : Up (fun j => keepI eq ls j) k) (h0 : 0 ≤ k) (hk : k ≤ ls.length) (hk2 : (ls.length : Int) ≤ k) : compactL eq ls = ls := by
  have := all_kept h h0 hk
  rw [show k.toNat = ls.length by omega, List.take_length] at this
  exact this
end Go.Proofs.YtnfjhadaclcgeaaGreatDoor
namespace Go.Proofs.YtnfjhadaclcgeaaGreatDoor
open Go Go.RowKit Classical
set_option maxRecDepth 100000
set_option maxHeartbeats 2000000
set_option linter.unusedVariables false
set_option linter.unusedSimpArgs false
theorem inc_uniq : ∀ {a b : List Int}, a.Pairwise (· < ·) → b.Pairwise (· < ·) → (∀ x, x ∈ a ↔ x ∈ b) → a = b
  | [], [], _, _, _ => rfl
  | [], y :: b, _, _, h => by have := (h y).2 (List.mem_cons_self ..); cases this
  | x :: a, [], _, _, h => by have := (h x).1 (List.mem_cons_self ..); cases this
  | x :: a, y :: b, ha, hb, h => by
    obtain ⟨a1, a2⟩ := List.pairwise_cons.1 ha
    obtain ⟨b1, b2⟩ := List.pairwise_cons.1 hb
    have e : x = y := by
      rcases List.mem_cons.1 ((h x).1 (List.mem_cons_self ..)) with h1 | h1
      · exact h1
      · rcases List.mem_cons.1 ((h y).2 (List.mem_cons_self ..)) with h2 | h2
        · exact h2.symm
        · have := b1 x h1; have := a1 y h2; omega
    subst e
    rw [inc_uniq a2 b2 fun z => ⟨fun hz => ?_, fun hz => ?_⟩]
    · rcases List.mem_cons.1 ((h z).1 (List.mem_cons_of_mem _ hz)) with e | e
      · have := a1 z hz; omega
      · exact e
    · rcases List.mem_cons.1 ((h z).2 (List.mem_cons_of_mem _ hz)) with e | e
      · have := b1 z hz; omega
      · exact e
theorem putI_inc {l : List Int} {n : Int} (hs : l.Pairwise (· < ·)) : (putI l n).Pairwise (· < ·) ∧ ∀ x, x ∈ putI l n ↔ x ∈ l ∨ x = n := by
  by_cases hn : n ∈ l
  · have e : putI l n = l := by
      unfold putI
      refine if_pos ?_
      obtain ⟨g1, g2⟩ := fro_spec (· < n) l
      obtain ⟨j, hj⟩ := List.getElem?_of_mem hn
      have hjl := (List.getElem?_eq_some_iff.1 hj).1
      have h1 : fro (· < n) l ≤ j := by
        rcases Nat.lt_or_ge j (fro (· < n) l) with h | h
        · have := g1 n (List.mem_of_getElem? (i := j) (by rw [List.getElem?_take, if_pos h]; exact hj)); omega
        · exact h
      obtain ⟨y, hy⟩ : ∃ y, l[fro (· < n) l]? = some y := ⟨_, List.getElem?_eq_getElem (by omega)⟩
      have h2 := g2 y hy
      rcases Nat.lt_or_ge (fro (· < n) l) j with h | h
      · have := pair_le hs h hy hj; omega
      · rw [show fro (· < n) l = j by omega]; exact hj
    rw [e]
    exact ⟨hs, fun x => ⟨.inl, fun h => h.elim id fun h => h ▸ hn⟩⟩
  · have e : putI l n = insF (· < n) l n := by
      unfold putI
      exact if_neg fun h => hn (List.mem_of_getElem? h)
    rw [e]
    refine ⟨insF_pw (R := (· < ·)) (fun x y z h1 h2 => Int.lt_trans h1 h2) hs (fun y hy => ?_), fun x => ?_⟩
    · have : y ≠ n := fun e => hn (e ▸ hy)
      omega
    · have h := (ins_perm l n (fro (· < n) l)).mem_iff (a := x)
      show x ∈ l.take _ ++ n :: l.drop _ ↔ _
      rw [← h]; simp [or_comm]
/-- The times at which a duty begins or ends, between two times. -/
noncomputable def turnS (f u : Int) (o : List Int) (d : Dut) : List Int :=
  if f ≤ d.til ∧ d.til ≤ u then putI (if f ≤ d.frm ∧ d.frm ≤ u then putI o d.frm else o) d.til else if f ≤ d.frm ∧ d.frm ≤ u then putI o d.frm else o
noncomputable def turnsR (l : List Dut) (f u : Int) : List Int := l.foldl (turnS f u) (putI [f] u)
def isTurn (l : List Dut) (f u x : Int) : Prop := ∃ d ∈ l, (x = d.frm ∨ x = d.til) ∧ f ≤ x ∧ x ≤ u
theorem turnS_spec {f u : Int} {o : List Int} {d : Dut} (h : o.Pairwise (· < ·)) : (turnS f u o d).Pairwise (· < ·) ∧ ∀ x, x ∈ turnS f u o d ↔ x ∈ o ∨ ((x = d.frm ∨ x = d.til) ∧ f ≤ x ∧ x ≤ u) := by
  unfold turnS
  by_cases h1 : f ≤ d.frm ∧ d.frm ≤ u
  · obtain ⟨a1, a2⟩ := putI_inc (n := d.frm) h
    by_cases h2 : f ≤ d.til ∧ d.til ≤ u
    · rw [if_pos h1, if_pos h2]
      obtain ⟨b1, b2⟩ := putI_inc (n := d.til) a1
      refine ⟨b1, fun x => ?_⟩
      rw [b2, a2]
      constructor
      · rintro ((h | h) | h)
        · exact .inl h
        · exact .inr ⟨.inl h, by omega, by omega⟩
        · exact .inr ⟨.inr h, by omega, by omega⟩
      · rintro (h | ⟨h | h, _⟩)
        · exact .inl (.inl h)
        · exact .inl (.inr h)
        · exact .inr h
    · rw [if_pos h1, if_neg h2]
      refine ⟨a1, fun x => ?_⟩
      rw [a2]
      constructor
      · rintro (h | h)
        · exact .inl h
        · exact .inr ⟨.inl h, by omega, by omega⟩
      · rintro (h | ⟨h | h, h3⟩)
        · exact .inl h
        · exact .inr h
        · subst h; exact absurd h3 h2
  · by_cases h2 : f ≤ d.til ∧ d.til ≤ u
    · rw [if_neg h1, if_pos h2]
      obtain ⟨b1, b2⟩ := putI_inc (n := d.til) h
      refine ⟨b1, fun x => ?_⟩
      rw [b2]
      constructor
      · rintro (h | h)
        · exact .inl h
        · exact .inr ⟨.inr h, by omega, by omega⟩
      · rintro (h | ⟨h | h, h3⟩)
        · exact .inl h
        · subst h; exact absurd h3 h1
        · exact .inr h
    · rw [if_neg h1, if_neg h2]
      refine ⟨h, fun x => ⟨.inl, ?_⟩⟩
      rintro (h | ⟨h | h, h3⟩)
      · exact h
      · subst h; exact absurd h3 h1
      · subst h; exact absurd h3 h2
theorem turns_spec {f u : Int} : ∀ (l : List Dut) (o : List Int), o.Pairwise (· < ·) → (l.foldl (turnS f u) o).Pairwise (· < ·) ∧ ∀ x, x ∈ l.foldl (turnS f u) o ↔ x ∈ o ∨ isTurn l f u x
  | [], o, h => ⟨h, fun x => ⟨.inl, fun h => h.elim id fun ⟨_, h, _⟩ => by cases h⟩⟩
  | d :: l, o, h => by
    obtain ⟨a1, a2⟩ := turnS_spec (f := f) (u := u) (d := d) h
    obtain ⟨b1, b2⟩ := turns_spec l _ a1
    refine ⟨b1, fun x => ?_⟩
    rw [List.foldl_cons, b2, a2]
    constructor
    · rintro ((h | h) | ⟨e, he, h⟩)
      · exact .inl h
      · exact .inr ⟨d, List.mem_cons_self .., h⟩
      · exact .inr ⟨e, List.mem_cons_of_mem _ he, h⟩
    · rintro (h | ⟨e, he, h⟩)
      · exact .inl (.inl h)
      · rcases List.mem_cons.1 he with rfl | he
        · exact .inl (.inr h)
        · exact .inr ⟨e, he, h⟩
theorem turnsR_spec (l : List Dut) (f u : Int) : (turnsR l f u).Pairwise (· < ·) ∧ ∀ x, x ∈ turnsR l f u ↔ (x = f ∨ x = u) ∨ isTurn l f u x := by
  obtain ⟨a1, a2⟩ := putI_inc (l := [f]) (n := u) (by simp)
  obtain ⟨b1, b2⟩ := turns_spec (f := f) (u := u) l _ a1
  refine ⟨b1, fun x => ?_⟩
  unfold turnsR
  rw [b2, a2]; simp
/-- What the program lists: the ends of all duties, moved between the two times. -/
def clampI (f u x : Int) : Int := min (max x f) u
def clampL (l : List Dut) (f u : Int) : List Int := [f, u] ++ l.flatMap fun d => [clampI f u d.frm, clampI f u d.til]
theorem clampI_spec {f u : Int} (h : f ≤ u) (x : Int) : (clampI f u x = f ∨ clampI f u x = u ∨ (clampI f u x = x ∧ f ≤ x ∧ x ≤ u)) ∧ (f ≤ x → x ≤ u → clampI f u x = x) := by unfold clampI; omega
theorem mem_clampL {l : List Dut} {f u : Int} (h : f ≤ u) (x : Int) : x ∈ clampL l f u ↔ (x = f ∨ x = u) ∨ isTurn l f u x := by
  unfold clampL
  rw [List.mem_append, List.mem_flatMap]
  constructor
  · rintro (hx | ⟨d, hd, hx⟩)
    · exact .inl (by simpa using hx)
    · have h1 := (clampI_spec h d.frm).1
      have h2 := (clampI_spec h d.til).1
      simp only [List.mem_cons, List.not_mem_nil, or_false] at hx
      rcases hx with hx | hx
      · rcases h1 with h1 | h1 | h1
        · exact .inl (.inl (hx.trans h1))
        · exact .inl (.inr (hx.trans h1))
        · exact .inr ⟨d, hd, .inl (hx.trans h1.1), by omega, by omega⟩
      · rcases h2 with h1 | h1 | h1
        · exact .inl (.inl (hx.trans h1))
        · exact .inl (.inr (hx.trans h1))
        · exact .inr ⟨d, hd, .inr (hx.trans h1.1), by omega, by omega⟩
  · rintro (hx | ⟨d, hd, hx | hx, h1, h2⟩)
    · exact .inl (by simpa using hx)
    · refine .inr ⟨d, hd, ?_⟩
      have := (clampI_spec h d.frm).2 (by omega) (by omega)
      simp [this, hx]
    · refine .inr ⟨d, hd, ?_⟩
      have := (clampI_spec h d.til).2 (by omega) (by omega)
      simp [this, hx]
/-- A sorted list of numbers, its doubles left out, rises. -/
theorem compactI_sorted {m : List Int} (hs : m.Pairwise (· ≤ ·)) : (compactL (· = ·) m).Pairwise (· < ·) ∧ ∀ x, x ∈ compactL (· = ·) m ↔ x ∈ m := by
  have hle : ∀ (i j : Nat) x y, i < j → m[i]? = some x → m[j]? = some y → x ≤ y := fun i j x y hij hx hy => pair_le hs hij hx hy
  constructor
  · unfold compactL compN
    rw [List.pairwise_filterMap]
    have h1 : (compI (· = ·) m m.length).Pairwise (· < ·) := List.Pairwise.filter _ List.pairwise_lt_range
    refine h1.imp_of_mem fun {i j} hi hj hij x hx y hy => ?_
    unfold compI at hj
    rw [List.mem_filter] at hj
    have hk : keepI (· = ·) m j := by simpa using hj.2
    have hjl := (List.getElem?_eq_some_iff.1 hy).1
    obtain ⟨z, hz⟩ : ∃ z, m[j - 1]? = some z := ⟨_, List.getElem?_eq_getElem (by omega)⟩
    have hyz := hk y z hy (by omega) hz
    have h2 := hle (j - 1) j z y (by omega) hz hy
    rcases Nat.lt_or_ge i (j - 1) with g | g
    · have h4 := hle i (j - 1) x z g hx hz
      omega
    · have e : i = j - 1 := by omega
      subst e
      rw [hx] at hz
      cases hz
      omega
  · intro x
    unfold compactL
    rw [mem_compN]
    constructor
    · rintro ⟨i, _, _, h⟩; exact List.mem_of_getElem? h
    · intro h
      obtain ⟨i, hi⟩ := List.getElem?_of_mem h
      -- the first place of x
      have key : ∀ n : Nat, ∀ i, i ≤ n → m[i]? = some x → ∃ i, i < m.length ∧ keepI (· = ·) m i ∧ m[i]? = some x := by
        intro n
        induction n with
        | zero => intro i hin hi; exact ⟨i, (List.getElem?_eq_some_iff.1 hi).1, fun _ _ _ h => by omega, hi⟩
        | succ n ih =>
          intro i hin hi
          by_cases hk : keepI (· = ·) m i
          · exact ⟨i, (List.getElem?_eq_some_iff.1 hi).1, hk, hi⟩
          · unfold keepI at hk
            obtain ⟨a, hk⟩ := Classical.not_forall.1 hk
            obtain ⟨b, hk⟩ := Classical.not_forall.1 hk
            simp only [Classical.not_imp, Classical.not_not] at hk
            obtain ⟨h1, h2, h3, h4⟩ := hk
            rw [hi] at h1
            cases h1
            exact ih (i - 1) (by omega) (by rw [h3, h4])
      exact key i i (Nat.le_refl _) hi
theorem turns_same {l : List Dut} {f u : Int} (h : f ≤ u) : compactL (· = ·) ((clampL l f u).mergeSort fun x y => decide (x ≤ y)) = turnsR l f u := by
  have hs : ((clampL l f u).mergeSort fun x y => decide (x ≤ y)).Pairwise (· ≤ ·) := by
    have := List.pairwise_mergeSort (le := fun x y : Int => decide (x ≤ y)) (fun a b c h1 h2 => by simp only [decide_eq_true_eq] at *; omega) (fun a b => by simp only [Bool.or_eq_true, decide_eq_true_eq]; omega) (clampL l f u)
    exact this.imp fun h => by simpa using h
  obtain ⟨a1, a2⟩ := compactI_sorted hs
  obtain ⟨b1, b2⟩ := turnsR_spec l f u
  refine inc_uniq a1 b1 fun x => ?_
  rw [a2, b2, (List.mergeSort_perm _ _).mem_iff, mem_clampL h]
/-- The gaps, turn by turn. -/
noncomputable def gapS (cnt : Int → Int) (need : Int) (o : List (Int × Int)) (a b : Int) : List (Int × Int) :=
  if need ≤ cnt a then o else match o[o.length - 1]? with
  | some (x, y) => if y = a then o.set (o.length - 1) (x, b) else o ++ [(a, b)]
  | none => o ++ [(a, b)]
noncomputable def gapN (cnt : Int → Int) (need : Int) (ts : List Int) : Nat → List (Int × Int)
  | 0 => []
  | i + 1 => match ts[i]?, ts[i + 1]? with
    | some a, some b => gapS cnt need (gapN cnt need ts i) a b
    | _, _ => gapN cnt need ts i
theorem gapN_succ {cnt : Int → Int} {need : Int} {ts : List Int} {i : Nat} {a b : Int} (ha : ts[i]? = some a) (hb : ts[i + 1]? = some b) : gapN cnt need ts (i + 1) = gapS cnt need (gapN cnt need ts i) a b := by
  rw [gapN, ha, hb]
theorem gapS_len (cnt : Int → Int) (need : Int) (o : List (Int × Int)) (a b : Int) : (gapS cnt need o a b).length ≤ o.length + 1 := by
  unfold gapS
  split
  · omega
  · split
    · split
      · simp
      · simp
    · simp
theorem gapN_len (cnt : Int → Int) (need : Int) (ts : List Int) : ∀ i, (gapN cnt need ts i).length ≤ i
  | 0 => by simp [gapN]
  | i + 1 => by
    have := gapN_len cnt need ts i
    rw [gapN]
    split
    · rename_i a b _ _
      have := gapS_len cnt need (gapN cnt need ts i) a b
      omega
    · omega
noncomputable def onN (l : List Dut) (t : Int) : Int := ((rej (fun v : Dut => t < v.frm ∨ v.til ≤ t) l).length : Int)
noncomputable def gapsR (l : List Dut) (f u need : Int) : List (Int × Int) := gapN (onN l) need (turnsR l f u) ((turnsR l f u).length - 1)
noncomputable def watchR (l : List Dut) (f u need : Int) : List (Int × Int) × Int :=
  if DutiesOk l then (if (TimeOk f ∧ TimeOk u) ∧ f ≤ u then (if 1 ≤ need ∧ need ≤ 10 then (gapsR l f u need, 0) else ([], 2)) else ([], 2)) else ([], 1)
def pairL (p : Int × Int) : List Int := [p.1, p.2]
noncomputable def watchLL (l : List Dut) (f u need : Int) : List (List Int) × Int := ((watchR l f u need).1.map pairL, (watchR l f u need).2)
noncomputable def btwR (l : List Dut) (f u : Int) : Int := if DutiesOk l then (if (TimeOk f ∧ TimeOk u) ∧ f ≤ u then 0 else 2) else 1
theorem btw_ok {l : List Dut} {f u : Int} : btwR l f u = 0 ↔ DutiesOk l ∧ (TimeOk f ∧ TimeOk u) ∧ f ≤ u := by
  unfold btwR
  by_cases h1 : DutiesOk l
  · by_cases h2 : (TimeOk f ∧ TimeOk u) ∧ f ≤ u
    · rw [if_pos h1, if_pos h2]; exact ⟨fun _ => ⟨h1, h2⟩, fun _ => rfl⟩
    · rw [if_pos h1, if_neg h2]; exact ⟨fun h => by omega, fun h => absurd h.2 h2⟩
  · rw [if_neg h1]; exact ⟨fun h => by omega, fun h => absurd h.1 h1⟩
theorem watch_bad {l : List Dut} {f u need : Int} (h : btwR l f u ≠ 0) : watchLL l f u need = ([], btwR l f u) := by
  unfold watchLL watchR btwR at *
  by_cases h1 : DutiesOk l
  · by_cases h2 : (TimeOk f ∧ TimeOk u) ∧ f ≤ u
    · rw [if_pos h1, if_pos h2] at h; exact absurd rfl h
    · rw [if_pos h1, if_neg h2, if_pos h1, if_neg h2]; rfl
  · rw [if_neg h1, if_neg h1]; rfl
theorem watch_need {l : List Dut} {f u need : Int} (h : btwR l f u = 0) : watchLL l f u need = if 1 ≤ need ∧ need ≤ 10 then ((gapsR l f u need).map pairL, 0) else ([], 2) := by
  obtain ⟨h1, h2⟩ := btw_ok.1 h
  unfold watchLL watchR
  rw [if_pos h1, if_pos h2]
  split <;> rfl
theorem turnsR_len (l : List Dut) (f u : Int) : 1 ≤ (turnsR l f u).length ∧ (turnsR l f u).length ≤ 2 + 2 * l.length := by
  refine ⟨?_, ?_⟩
  · have := (turnsR_spec l f u).2 f
    have hm := this.2 (.inl (.inl rfl))
    exact List.length_pos_of_mem hm
  · have key : ∀ (l : List Dut) (o : List Int), (l.foldl (turnS f u) o).length ≤ o.length + 2 * l.length := by
      intro l
      induction l with
      | nil => intro o; simp
      | cons d l ih =>
        intro o
        have h1 := ih (turnS f u o d)
        have h2 : (turnS f u o d).length ≤ o.length + 2 := by
          unfold turnS
          have a1 := putI_len o d.frm
          have a2 := putI_len o d.til
          have a3 := putI_len (putI o d.frm) d.til
          split <;> split <;> omega
        rw [List.foldl_cons, List.length_cons]; omega
    have h1 := key l (putI [f] u)
    have h2 := putI_len [f] u
    unfold turnsR
    simp at h2
    omega
theorem turn_mem {l : List Dut} {f u x : Int} (hfu : f ≤ u) (h : x ∈ turnsR l f u) : f ≤ x ∧ x ≤ u := by
  rcases ((turnsR_spec l f u).2 x).1 h with (h | h) | ⟨_, _, _, h1, h2⟩
  · omega
  · omega
  · exact ⟨h1, h2⟩
end Go.Proofs.YtnfjhadaclcgeaaGreatDoor
