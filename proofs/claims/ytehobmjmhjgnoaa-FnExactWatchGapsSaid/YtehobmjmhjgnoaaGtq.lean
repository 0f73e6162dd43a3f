/- Plain laws: how the doubles of a list are left out. -/
import Derived.Test.YtehobmjmhjgnoaaGtp
namespace Go.Proofs.Ytehobmjmhjgnoaa
open Go Go.RowKit Classical
set_option maxRecDepth 100000
set_option maxHeartbeats 2000000
set_option linter.unusedVariables false
set_option linter.unusedSimpArgs false
theorem all_kept {β : Type} {eq : β → β → Prop} {ls : List β} {k : Int} (h : Up (fun j => keepI eq ls j) k) (h0 : 0 ≤ k) (hk : k ≤ ls.length) : compN eq ls k.toNat = ls.take k.toNat := by
  have key : ∀ n : Nat, (n : Int) ≤ k → compN eq ls n = ls.take n := by
    intro n
    induction n with
    | zero => intro _; unfold compN compI; simp
    | succ n ih =>
      intro hn
      have hx : ls[n]? = some ls[n] := List.getElem?_eq_getElem (by omega)
      rw [compN_succ hx, if_pos (h n (by omega)), ih (by omega), List.take_add_one, hx]; rfl
  exact key _ (by omega)
theorem comp_small {β : Type} {eq : β → β → Prop} {ls : List β} (h : ls.length < 2) : compactL eq ls = ls := by
  unfold compactL
  match ls, h with
  | [], _ => rfl
  | [x], _ => rw [show [x].length = 0 + 1 from rfl, compN_succ (x := x) rfl, if_pos (show keepI eq [x] 0 from fun _ _ _ h => by omega)]; rfl
theorem keep_no {β : Type} {eq : β → β → Prop} {ls : List β} {i : Nat} {x y : β} (hx : ls[i]? = some x) (hy : ls[i - 1]? = some y) (h0 : 0 < i) (h : eq x y) : ¬ keepI eq ls i := fun hk => hk x y hx h0 hy h
theorem keep_yes {β : Type} {eq : β → β → Prop} {ls : List β} {i : Nat} {x y : β} (hx : ls[i]? = some x) (hy : ls[i - 1]? = some y) (h : ¬ eq x y) : keepI eq ls i := fun a b ha _ hb => by
  rw [hx] at ha; rw [hy] at hb; cases ha; cases hb; exact h
def CInv {β : Type} (eq : β → β → Prop) (ls cs : List β) (k i : Int) : Prop := cs.length = ls.length ∧ (0 ≤ k ∧ k < i ∧ i ≤ ls.length) ∧ cs.take k.toNat = compN eq ls i.toNat ∧ ∀ j : Nat, i ≤ (j : Int) + 1 → cs[j]? = ls[j]?
theorem CInv.start {β : Type} {eq : β → β → Prop} {ls : List β} {k m : Int} {x y : β} (h : Up (fun j => keepI eq ls j) k) (h1 : 1 ≤ k) (hx : ls[k.toNat]? = some x) (hm : m = k - 1) (hy : ls[m.toNat]? = some y) (he : eq x y) : CInv eq ls ls k (k + 1) := by
  have hl := (List.getElem?_eq_some_iff.1 hx).1
  refine ⟨rfl, by omega, ?_, fun _ _ => rfl⟩
  rw [show (k + 1).toNat = k.toNat + 1 by omega, compN_succ hx, if_neg (keep_no hx (by rw [show k.toNat - 1 = m.toNat by omega]; exact hy) (by omega) he), all_kept h (by omega) (by omega)]
theorem CInv.skip {β : Type} {eq : β → β → Prop} {ls cs : List β} {k i a b n : Int} {x y : β} (h : CInv eq ls cs k i) (ha : a = i) (hx : cs[a.toNat]? = some x) (hb : b = i - 1) (hy : cs[b.toNat]? = some y) (he : eq x y) (hn : n = i + 1) : CInv eq ls cs k n := by
  obtain ⟨h1, ⟨h2, h3, h4⟩, h5, h6⟩ := h
  subst ha
  rw [h6 _ (by omega)] at hx
  rw [h6 _ (by omega)] at hy
  have hl := (List.getElem?_eq_some_iff.1 hx).1
  refine ⟨h1, by omega, ?_, fun j hj => h6 j (by omega)⟩
  rw [hn, show (a + 1).toNat = a.toNat + 1 by omega, compN_succ hx, if_neg (keep_no hx (by rw [show a.toNat - 1 = b.toNat by omega]; exact hy) (by omega) he), h5]
theorem CInv.put {β : Type} {eq : β → β → Prop} {ls cs : List β} {k i a b k2 n : Int} {x y : β} (h : CInv eq ls cs k i) (ha : a = i) (hx : cs[a.toNat]? = some x) (hb : b = i - 1) (hy : cs[b.toNat]? = some y) (he : ¬ eq x y) (hk2 : k2 = k + 1) (hn : n = i + 1) : CInv eq ls (cs.set k.toNat x) k2 n := by
  obtain ⟨h1, ⟨h2, h3, h4⟩, h5, h6⟩ := h
  subst ha
  rw [h6 _ (by omega)] at hx
  rw [h6 _ (by omega)] at hy
  have hl := (List.getElem?_eq_some_iff.1 hx).1
  refine ⟨by rw [List.length_set]; exact h1, by omega, ?_, fun j hj => by rw [List.getElem?_set_ne (by omega)]; exact h6 j (by omega)⟩
  rw [hn, hk2, show (a + 1).toNat = a.toNat + 1 by omega, show (k + 1).toNat = k.toNat + 1 by omega, compN_succ hx, if_pos (keep_yes hx (by rw [show a.toNat - 1 = b.toNat by omega]; exact hy) he), ← h5, List.take_add_one, List.take_set_of_le (Nat.le_refl _), List.getElem?_set_self (by omega)]
  rfl
theorem CInv.done {β : Type} {eq : β → β → Prop} {ls cs : List β} {k i : Int} (h : CInv eq ls cs k i) (hi : (ls.length : Int) ≤ i) : cs.take k.toNat = compactL eq ls := by
  obtain ⟨h1, ⟨h2, h3, h4⟩, h5, h6⟩ := h
  rw [h5, compactL, show i.toNat = ls.length by omega]
theorem all_done {β : Type} {eq : β → β → Prop} {ls : List β} {k : Int} (h : Up (fun j => keepI eq ls j) k) (h0 : 0 ≤ k) (hk : k ≤ ls.length) (hk2 : (ls.length : Int) ≤ k) : compactL eq ls = ls := by
  have := all_kept h h0 hk
  rw [show k.toNat = ls.length by omega, List.take_length] at this
  exact this
end Go.Proofs.Ytehobmjmhjgnoaa
