/- Plain laws: lists that are made by insertions. -/
import Derived.Test.YtnfjhadaclcgeaaGreatDoorQb
namespace Go.Proofs.YtnfjhadaclcgeaaGreatDoor
open Go Go.RowKit Go.Sort Classical
set_option maxRecDepth 100000
set_option maxHeartbeats 2000000
set_option linter.unusedVariables false
set_option linter.unusedSimpArgs false
section
variable {β : Type}
/-- From the back: behind the first that is not moved on. -/
noncomputable def scanG (p : β → Prop) (o : List β) : Nat → Nat
  | 0 => 0
  | n + 1 => if ∃ q, o[n]? = some q ∧ p q then scanG p o n else n + 1
theorem scanG_le (p : β → Prop) (o : List β) : ∀ n, scanG p o n ≤ n
  | 0 => Nat.le_refl _
  | n + 1 => by
    unfold scanG
    split
    · exact Nat.le_succ_of_le (scanG_le p o n)
    · exact Nat.le_refl _
theorem scanG_down {p : β → Prop} {o : List β} {a n m : Int} {q : β} (hq : o[n.toNat]? = some q) (h0 : 0 < a) (hn : n = a - 1) (hm : m = a - 1) (h : p q) : scanG p o a.toNat = scanG p o m.toNat := by
  rw [show a.toNat = n.toNat + 1 by omega, scanG, show m.toNat = n.toNat by omega]
  exact if_pos ⟨q, hq, h⟩
theorem scanG_stop {p : β → Prop} {o : List β} {a n : Int} {q : β} (hq : o[n.toNat]? = some q) (h0 : 0 < a) (hn : n = a - 1) (h : ¬ p q) : scanG p o a.toNat = a.toNat := by
  rw [show a.toNat = n.toNat + 1 by omega, scanG]
  refine if_neg fun ⟨q', h1, h2⟩ => h ?_
  rw [hq] at h1; cases h1; exact h2
theorem scanG_end {p : β → Prop} {o : List β} {a : Int} (h0 : a ≤ 0) : scanG p o a.toNat = a.toNat := by
  rw [show a.toNat = 0 by omega]; rfl
theorem scanG_spec (p : β → Prop) (o : List β) : ∀ n, n ≤ o.length → (∀ j q, scanG p o n ≤ j → j < n → o[j]? = some q → p q) ∧ (0 < scanG p o n → ∃ q, o[scanG p o n - 1]? = some q ∧ ¬ p q)
  | 0, _ => ⟨fun j k h1 h2 => by omega, fun h => by simp [scanG] at h⟩
  | n + 1, hn => by
    obtain ⟨h1, h2⟩ := scanG_spec p o n (by omega)
    have hk : o[n]? = some o[n] := List.getElem?_eq_getElem (by omega)
    unfold scanG
    split
    · rename_i h
      refine ⟨fun j k hj hjn hk' => ?_, h2⟩
      rcases Nat.lt_or_ge j n with h3 | h3
      · exact h1 j k hj h3 hk'
      · have : j = n := by omega
        subst this
        obtain ⟨q, g1, g2⟩ := h
        rw [g1] at hk'; cases hk'; exact g2
    · rename_i h
      exact ⟨fun j k hj hjn => by omega, fun _ => ⟨_, by rw [Nat.add_sub_cancel]; exact hk, fun hp => h ⟨_, hk, hp⟩⟩⟩
/-- One insertion. -/
noncomputable def insG (bef : β → β → Prop) (o : List β) (x : β) : List β := o.take (scanG (bef x) o o.length) ++ x :: o.drop (scanG (bef x) o o.length)
theorem insG_len (bef : β → β → Prop) (o : List β) (x : β) : (insG bef o x).length = o.length + 1 := by
  have := congrArg List.length (List.take_append_drop (scanG (bef x) o o.length) o)
  rw [List.length_append] at this
  rw [insG, List.length_append, List.length_cons]; omega
theorem insG_perm (bef : β → β → Prop) (o : List β) (x : β) : (insG bef o x).Perm (o ++ [x]) := (ins_perm o x _).symm
theorem insG_put {bef : β → β → Prop} {o : List β} {x : β} {a : Int} (h : scanG (bef x) o o.length = a.toNat) : insG bef o x = o.take a.toNat ++ x :: o.drop a.toNat := by
  rw [insG, h]
theorem pair_at {R : β → β → Prop} {m : List β} (h : m.Pairwise R) {i j : Nat} {x y : β} (hij : i < j) (hx : m[i]? = some x) (hy : m[j]? = some y) : R x y := pair_le h hij hx hy
/-- Insertion keeps a strict order. -/
theorem insG_pw {bef S : β → β → Prop} (tr : ∀ x y z, S x y → S y z → S x z) (ir : ∀ x, ¬ S x x) {o : List β} {x : β} (hs : o.Pairwise S) (hb : ∀ y ∈ o, (bef x y ↔ S x y) ∧ (S x y ∨ S y x)) : (insG bef o x).Pairwise S := by
  obtain ⟨h1, h2⟩ := scanG_spec (bef x) o o.length (Nat.le_refl _)
  unfold insG
  generalize scanG (bef x) o o.length = p at *
  refine ins_pw tr hs (fun y hy => (hb y hy).2.symm) (fun y hy => ?_) (fun y hy hyx => ?_)
  · obtain ⟨j, hj⟩ := List.getElem?_of_mem hy
    have hlt := (List.getElem?_eq_some_iff.1 hj).1
    rw [List.length_take] at hlt
    rw [List.getElem?_take, if_pos (by omega)] at hj
    obtain ⟨q, hq, hnb⟩ := h2 (by omega)
    have hqm := List.mem_of_getElem? hq
    have hqx : S q x := by
      rcases (hb q hqm).2 with h | h
      · exact absurd ((hb q hqm).1.2 h) hnb
      · exact h
    rcases Nat.lt_or_ge j (p - 1) with h3 | h3
    · exact tr _ _ _ (pair_at hs h3 hj hq) hqx
    · have : j = p - 1 := by omega
      subst this
      rw [hq] at hj; cases hj; exact hqx
  · have hb2 := h1 p y (Nat.le_refl _) (List.getElem?_eq_some_iff.1 hy).1 hy
    exact ir _ (tr _ _ _ hyx ((hb y (List.mem_of_getElem? hy)).1.1 hb2))
/-- Insertion keeps an order that is not strict. -/
theorem insG_pwN {bef : β → β → Prop} (tr : ∀ x y z, bef x y → bef y z → bef x z) (asy : ∀ x y, bef x y → ¬ bef y x) (ntr : ∀ x y z, ¬ bef x y → ¬ bef y z → ¬ bef x z) {o : List β} {x : β} (hs : o.Pairwise fun y z => ¬ bef z y) : (insG bef o x).Pairwise fun y z => ¬ bef z y := by
  obtain ⟨h1, h2⟩ := scanG_spec (bef x) o o.length (Nat.le_refl _)
  unfold insG
  generalize scanG (bef x) o o.length = p at *
  have hs' := hs
  rw [← List.take_append_drop p o, List.pairwise_append] at hs'
  rw [List.pairwise_append, List.pairwise_cons]
  refine ⟨hs'.1, ⟨fun w hw => ?_, hs'.2.1⟩, fun v hv w hw => ?_⟩
  · obtain ⟨j, hj⟩ := List.getElem?_of_mem hw
    rw [List.getElem?_drop] at hj
    exact asy _ _ (h1 (p + j) w (by omega) (List.getElem?_eq_some_iff.1 hj).1 hj)
  · rcases List.mem_cons.1 hw with rfl | hw
    · obtain ⟨j, hj⟩ := List.getElem?_of_mem hv
      have hlt := (List.getElem?_eq_some_iff.1 hj).1
      rw [List.length_take] at hlt
      rw [List.getElem?_take, if_pos (by omega)] at hj
      obtain ⟨q, hq, hnb⟩ := h2 (by omega)
      rcases Nat.lt_or_ge j (p - 1) with h3 | h3
      · exact ntr _ _ _ hnb (pair_at hs h3 hj hq)
      · have : j = p - 1 := by omega
        subst this
        rw [hq] at hj; cases hj; exact hnb
    · exact hs'.2.2 v hv w hw
end
/-- Indices of a list, put in an order. -/
noncomputable def ordG (skip : Int → Prop) (bef : Int → Int → Prop) : Nat → List Int
  | 0 => []
  | n + 1 => if skip n then ordG skip bef n else insG bef (ordG skip bef n) n
theorem ordG_mem (skip : Int → Prop) (bef : Int → Int → Prop) : ∀ n, (∀ k ∈ ordG skip bef n, 0 ≤ k ∧ k < n) ∧ (ordG skip bef n).length ≤ n
  | 0 => ⟨fun k h => by simp [ordG] at h, Nat.le_refl _⟩
  | n + 1 => by
    obtain ⟨h1, h2⟩ := ordG_mem skip bef n
    unfold ordG
    split
    · exact ⟨fun k hk => by have := h1 k hk; omega, by omega⟩
    · refine ⟨fun k hk => ?_, by rw [insG_len]; omega⟩
      rcases List.mem_append.1 ((insG_perm bef _ _).subset hk) with h | h
      · have := h1 k h; omega
      · have : k = n := by simpa using h
        omega
theorem ordG_skip {skip : Int → Prop} {bef : Int → Int → Prop} {i n : Int} (h0 : 0 ≤ i) (hn : n = i + 1) (h : skip i) : ordG skip bef n.toNat = ordG skip bef i.toNat := by
  rw [show n.toNat = i.toNat + 1 by omega, ordG, Int.toNat_of_nonneg h0, if_pos h]
theorem ordG_put {skip : Int → Prop} {bef : Int → Int → Prop} {i n : Int} {o : List Int} {a : Int} (h0 : 0 ≤ i) (hn : n = i + 1) (h : ¬ skip i) (ho : o = ordG skip bef i.toNat) (ha : scanG (bef i) o o.length = a.toNat) : ordG skip bef n.toNat = o.take a.toNat ++ i :: o.drop a.toNat := by
  rw [show n.toNat = i.toNat + 1 by omega, ordG, Int.toNat_of_nonneg h0, if_neg h, ← ho, insG_put ha]
theorem map_insG {α : Type} {bef : Int → Int → Prop} {bef' : α → α → Prop} (f : Int → α) {o : List Int} {x : Int} (h : ∀ y ∈ o, bef x y ↔ bef' (f x) (f y)) : (insG bef o x).map f = insG bef' (o.map f) (f x) := by
  have e : ∀ n, n ≤ o.length → scanG (bef x) o n = scanG (bef' (f x)) (o.map f) n := by
    intro n
    induction n with
    | zero => intro _; rfl
    | succ n ih =>
      intro hn
      unfold scanG
      rw [ih (by omega)]
      have hk : o[n]? = some o[n] := List.getElem?_eq_getElem (by omega)
      have h2 := h o[n] (List.getElem_mem _)
      simp only [List.getElem?_map, hk, Option.map_some, Option.some.injEq, exists_eq_left', h2]
  unfold insG
  rw [List.map_append, List.map_cons, List.map_take, List.map_drop, List.length_map, e _ (Nat.le_refl _)]
/-- The list's members in that order. -/
theorem ordG_is {α : Type} {l : List α} {at_ : Int → α} (hat : ∀ (n : Nat) v, l[n]? = some v → at_ n = v) {p : α → Prop} {S : α → α → Prop} (tr : ∀ x y z, S x y → S y z → S x z) (ir : ∀ x, ¬ S x x)
    {skip : Int → Prop} {bef : Int → Int → Prop} (hskip : ∀ (n : Nat) v, l[n]? = some v → (skip n ↔ p v))
    (hbef : ∀ (i j : Nat) x y, j < i → l[i]? = some x → l[j]? = some y → ¬ p x → ¬ p y → (bef i j ↔ S x y) ∧ (S x y ∨ S y x)) :
    ∀ n, n ≤ l.length → ((ordG skip bef n).map at_).Perm (rej p (l.take n)) ∧ ((ordG skip bef n).map at_).Pairwise S ∧ ∀ k ∈ ordG skip bef n, ¬ p (at_ k)
  | 0, _ => ⟨by simp [rej, ordG], by simp [ordG], by simp [ordG]⟩
  | n + 1, hn => by
    obtain ⟨ih1, ih2, ih3⟩ := ordG_is hat tr ir hskip hbef n (by omega)
    obtain ⟨x, hx⟩ : ∃ x, l[n]? = some x := ⟨_, List.getElem?_eq_getElem (by omega)⟩
    have hv := hat n x hx
    have hm := ordG_mem skip bef n
    rw [List.take_add_one, hx]
    unfold ordG
    split
    · rename_i h
      have e : rej p (l.take n ++ [x]) = rej p (l.take n) := (rej_app' _ _ _).1 ((hskip n x hx).1 h)
      exact ⟨by rw [show (some x).toList = [x] from rfl, e]; exact ih1, ih2, ih3⟩
    · rename_i h
      have hpx : ¬ p x := fun hp => h ((hskip n x hx).2 hp)
      have e : rej p (l.take n ++ [x]) = rej p (l.take n) ++ [x] := (rej_app' _ _ _).2 hpx
      refine ⟨?_, ?_, fun k hk => ?_⟩
      · rw [show (some x).toList = [x] from rfl, e]
        refine ((insG_perm bef _ _).map at_).trans ?_
        rw [List.map_append]
        show (_ ++ [at_ n]).Perm _
        rw [hv]
        exact ih1.append_right _
      · have hb : ∀ y ∈ ordG skip bef n, (bef n y ↔ S (at_ n) (at_ y)) ∧ (S (at_ n) (at_ y) ∨ S (at_ y) (at_ n)) := fun y hy => by
          obtain ⟨g1, g2⟩ := hm.1 y hy
          obtain ⟨z, hz⟩ : ∃ z, l[y.toNat]? = some z := ⟨_, List.getElem?_eq_getElem (by omega)⟩
          have hvz := hat y.toNat z hz
          have ey : ((y.toNat : Nat) : Int) = y := by omega
          rw [ey] at hvz
          have h5 := hbef n y.toNat x z (by omega) hx hz hpx (by rw [← hvz]; exact ih3 y hy)
          rw [ey] at h5
          rw [hv, hvz]; exact h5
        rw [map_insG at_ (bef' := S) (fun y hy => (hb y hy).1)]
        refine insG_pw tr ir ih2 (fun y hy => ?_)
        obtain ⟨k, hk, rfl⟩ := List.mem_map.1 hy
        exact ⟨Iff.rfl, (hb k hk).2⟩
      · rcases List.mem_append.1 ((insG_perm bef _ _).subset hk) with h | h
        · exact ih3 k h
        · have : k = n := by simpa using h
          rw [this, hv]; exact hpx
end Go.Proofs.YtnfjhadaclcgeaaGreatDoor
