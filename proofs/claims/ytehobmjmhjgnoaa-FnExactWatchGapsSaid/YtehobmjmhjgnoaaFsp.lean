/- Plain laws: insertion into a sorted list. -/
import Derived.Test.YtehobmjmhjgnoaaFk
namespace Go.Proofs.Ytehobmjmhjgnoaa
open Go Go.RowKit Classical
set_option maxRecDepth 100000
set_option maxHeartbeats 2000000
set_option linter.unusedVariables false
set_option linter.unusedSimpArgs false
theorem pw_of {α : Type} {R : α → α → Prop} {m : List α} (h : ∀ (i j : Nat) x y, i < j → m[i]? = some x → m[j]? = some y → R x y) : m.Pairwise R :=
  List.pairwise_iff_getElem.2 fun i j hi hj hij => h i j _ _ hij (List.getElem?_eq_getElem hi) (List.getElem?_eq_getElem hj)
theorem pair_le {α : Type} {R : α → α → Prop} {m : List α} (h : m.Pairwise R) {i j : Nat} {x y : α} (hij : i < j) (hx : m[i]? = some x) (hy : m[j]? = some y) : R x y := by
  have hi := (List.getElem?_eq_some_iff.1 hx)
  have hj := (List.getElem?_eq_some_iff.1 hy)
  obtain ⟨hi1, hi2⟩ := hi
  obtain ⟨hj1, hj2⟩ := hj
  rw [← hi2, ← hj2]
  exact List.pairwise_iff_getElem.1 h i j hi1 hj1 hij
theorem chain_pw {α : Type} {R : α → α → Prop} (tr : ∀ x y z, R x y → R y z → R x z) : ∀ {l : List α}, (∀ i a b, l[i]? = some a → l[i + 1]? = some b → R a b) → l.Pairwise R
  | [], _ => .nil
  | a :: l, h => by
    have ih : l.Pairwise R := chain_pw tr fun i x y h1 h2 => h (i + 1) x y (by simpa using h1) (by simpa using h2)
    refine List.pairwise_cons.2 ⟨fun x hx => ?_, ih⟩
    cases l with
    | nil => simp at hx
    | cons b l =>
      have hab := h 0 a b rfl rfl
      rcases List.mem_cons.1 hx with rfl | hx
      · exact hab
      · exact tr _ _ _ hab ((List.pairwise_cons.1 ih).1 x hx)
theorem pw_tri {α : Type} {R : α → α → Prop} : ∀ {t : List α}, t.Pairwise R → ∀ {x y : α}, x ∈ t → y ∈ t → x = y ∨ R x y ∨ R y x
  | [], _, _, _, hx, _ => by cases hx
  | a :: t, h, x, y, hx, hy => by
    obtain ⟨h1, h2⟩ := List.pairwise_cons.1 h
    rcases List.mem_cons.1 hx with e1 | g1
    · rcases List.mem_cons.1 hy with e2 | g2
      · exact .inl (e1.trans e2.symm)
      · exact .inr (.inl (e1 ▸ h1 y g2))
    · rcases List.mem_cons.1 hy with e2 | g2
      · exact .inr (.inr (e2 ▸ h1 x g1))
      · exact pw_tri h2 g1 g2
/-- An insertion into a sorted list. -/
theorem ins_pw {α : Type} {R : α → α → Prop} (tr : ∀ x y z, R x y → R y z → R x z) {l : List α} {f : α} {k : Nat} (hs : l.Pairwise R) (hd : ∀ y ∈ l, R y f ∨ R f y) (h1 : ∀ y ∈ l.take k, R y f) (h2 : ∀ y, l[k]? = some y → ¬ R y f) : (l.take k ++ f :: l.drop k).Pairwise R := by
  have hs' := hs
  rw [← List.take_append_drop k l, List.pairwise_append] at hs
  rw [List.pairwise_append, List.pairwise_cons]
  have h3 : ∀ w ∈ l.drop k, R f w := fun w hw => by
    cases hdk : l.drop k with
    | nil => rw [hdk] at hw; cases hw
    | cons y t =>
      have hy : l[k]? = some y := by
        have := congrArg (fun x => x[0]?) hdk
        simpa using this
      have hfy : R f y := by
        rcases hd y (List.mem_of_getElem? hy) with h | h
        · exact absurd h (h2 y hy)
        · exact h
      rw [hdk] at hw
      rcases List.mem_cons.1 hw with rfl | hw
      · exact hfy
      · have := hs.2.1
        rw [hdk] at this
        exact tr _ _ _ hfy ((List.pairwise_cons.1 this).1 w hw)
  refine ⟨hs.1, ⟨h3, hs.2.1⟩, fun v hv w hw => ?_⟩
  rcases List.mem_cons.1 hw with rfl | hw
  · exact h1 v hv
  · exact hs.2.2 v hv w hw
theorem ins_perm {α : Type} (l : List α) (f : α) (k : Nat) : (l ++ [f]).Perm (l.take k ++ f :: l.drop k) := by
  refine List.Perm.trans ?_ List.perm_middle.symm
  rw [List.take_append_drop]
  exact List.perm_append_singleton f l
/-- How many at the front have p. -/
noncomputable def fro {α : Type} (p : α → Prop) : List α → Nat
  | [] => 0
  | x :: l => if p x then fro p l + 1 else 0
theorem fro_le {α : Type} (p : α → Prop) : ∀ l : List α, fro p l ≤ l.length
  | [] => Nat.le_refl _
  | x :: l => by
    unfold fro
    have := fro_le p l
    split <;> simp <;> omega
theorem fro_spec {α : Type} (p : α → Prop) : ∀ l : List α, (∀ y ∈ l.take (fro p l), p y) ∧ ∀ y, l[fro p l]? = some y → ¬ p y
  | [] => ⟨fun y h => by simp at h, fun y h => by simp at h⟩
  | x :: l => by
    obtain ⟨h1, h2⟩ := fro_spec p l
    unfold fro
    split
    · rename_i h
      refine ⟨fun y hy => ?_, fun y hy => h2 y (by simpa using hy)⟩
      rw [List.take_succ_cons] at hy
      rcases List.mem_cons.1 hy with rfl | hy
      · exact h
      · exact h1 y hy
    · rename_i h
      refine ⟨fun y hy => by simp at hy, fun y hy => ?_⟩
      simp at hy; subst hy; exact h
theorem fro_eq {α : Type} {p : α → Prop} {l : List α} {k : Nat} (h1 : ∀ j w, j < k → l[j]? = some w → p w) (h2 : ∀ w, l[k]? = some w → ¬ p w) (hk : k ≤ l.length) : fro p l = k := by
  obtain ⟨g1, g2⟩ := fro_spec p l
  have g3 := fro_le p l
  rcases Nat.lt_trichotomy (fro p l) k with h | h | h
  · exact absurd (h1 _ _ h (List.getElem?_eq_getElem (by omega))) (g2 _ (List.getElem?_eq_getElem (by omega)))
  · exact h
  · have hx : l[k]? = some l[k] := List.getElem?_eq_getElem (by omega)
    refine absurd (g1 l[k] ?_) (h2 _ hx)
    exact List.mem_of_getElem? (i := k) (by rw [List.getElem?_take, if_pos h]; exact hx)
/-- Behind those at the front that have p. -/
noncomputable def insF {α : Type} (p : α → Prop) (l : List α) (f : α) : List α := l.take (fro p l) ++ f :: l.drop (fro p l)
theorem insF_len {α : Type} (p : α → Prop) (l : List α) (f : α) : (insF p l f).length = l.length + 1 := (ins_perm l f _).symm.length_eq.trans (by simp)
theorem insF_eq {α : Type} {p : α → Prop} {l : List α} {f : α} {k : Int} (h0 : 0 ≤ k ∧ k ≤ l.length) (h1 : Up (fun j => ∀ w, l[j]? = some w → p w) k) (h2 : ∀ w, l[k.toNat]? = some w → ¬ p w) : insF p l f = l.take k.toNat ++ f :: l.drop k.toNat := by
  rw [insF, fro_eq (k := k.toNat) (fun j w hj hw => h1 j (by omega) w hw) h2 (by omega)]
theorem insF_pw {α : Type} {R : α → α → Prop} (tr : ∀ x y z, R x y → R y z → R x z) {l : List α} {f : α} (hs : l.Pairwise R) (hd : ∀ y ∈ l, R y f ∨ R f y) : (insF (fun w => R w f) l f).Pairwise R :=
  ins_pw tr hs hd (fro_spec _ l).1 (fro_spec _ l).2
end Go.Proofs.Ytehobmjmhjgnoaa
