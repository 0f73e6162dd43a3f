/- Contracts: small functions, visits. -/
import Derived.Test.YtehobmjmhjgnoaaAxU
namespace Go.Proofs.Ytehobmjmhjgnoaa
open Go Go.RowKit Classical
set_option maxRecDepth 100000
set_option maxHeartbeats 2000000
set_option linter.unusedVariables false
set_option linter.unusedSimpArgs false

theorem within_ (x a b : Int) : AP 20 [.int .i64 x, .int .i64 a, .int .i64 b] AV.bool (bP (a ≤ x ∧ x ≤ b)) := by
  refine a0 Try.func20 fun E K hE hK => ?_
  repeat' first
    | ((first

   | refine B0 ?_|refine B1 ?_ ?_) <;> intros <;> (try conv => cbv))
  all_goals exact fz
theorem in_ (x a b : Int) : AP 15 [.int .i64 x, .int .i64 a, .int .i64 b] AV.bool (bP (a ≤ x ∧ x ≤ b)) := by
  refine a0 Try.func15 fun E K hE hK => ?_
  repeat' first
    | ((first

   | refine B0 ?_|refine B1 ?_ ?_) <;> intros <;> (try conv => cbv))
  all_goals exact fz
theorem few_ (n m : Int) : AP 42 [.int .i64 n, .int .i64 m] AV.bool (bP (n ≤ m)) := by
  refine a0 Try.func42 fun E K hE hK => ?_
  repeat' first
    | ((first

   | refine B0 ?_|refine B1 ?_ ?_) <;> intros <;> (try conv => cbv))
  all_goals exact fz
structure Vis where
  aid : Int
  every : Int
  last : Int
def Vis.cs (v : Vis) : List AV := [.int .i64 v.aid, .int .i64 v.every, .int .i64 v.last]
def Vis.ok (v : Vis) : Prop := (1 ≤ v.aid ∧ v.aid ≤ 9999) ∧ (1 ≤ v.every ∧ v.every ≤ 3650) ∧ 0 ≤ v.last ∧ v.last ≤ 99999
theorem NoB.vis (v : Vis) : NoB (.agg v.cs) := .aggC (.int _ _) (.aggC (.int _ _) (.aggC (.int _ _) .agg0))
theorem NoB.oVis (v : Vis) : NoB (.agg v.cs) := NoB.vis v
def Vis.C (l : List Vis) (j : Nat) : Prop := ∃ v, l[j]? = some v ∧ v.ok ∧ (0 < j → ∃ w, l[j - 1]? = some w ∧ w.aid < v.aid)
def VisitsOk (l : List Vis) : Prop := (∀ j, j < l.length → Vis.C l j) ∧ l.length ≤ 24
theorem list_eq_of {α : Type} {l m : List α} {i : Int} (hl : l.length = m.length) (h : Up (fun j => l[j]? = m[j]?) i) (hi : (l.length : Int) ≤ i) : l = m := by
  apply List.ext_getElem?
  intro j
  by_cases hj : j < l.length
  · exact h j (by omega)
  · rw [List.getElem?_eq_none (by omega), List.getElem?_eq_none (by omega)]
/-- The first element that p holds of. -/
def FirstIs {α : Type} (p : α → Prop) (l : List α) (r : Int) : Prop := (0 ≤ r ∧ r < l.length ∧ (∃ v, l[r.toNat]? = some v ∧ p v) ∧ ∀ (j : Nat) v, (j : Int) < r → l[j]? = some v → ¬ p v) ∨ (r = -1 ∧ ∀ (j : Nat) v, l[j]? = some v → ¬ p v)
theorem FirstIs.uniq {α : Type} {p : α → Prop} {l : List α} {r s : Int} (h : FirstIs p l r) (k : FirstIs p l s) : r = s := by
  rcases h with ⟨h1, h2, ⟨v, h3, h4⟩, h5⟩ | ⟨h1, h2⟩ <;> rcases k with ⟨k1, k2, ⟨u, k3, k4⟩, k5⟩ | ⟨k1, k2⟩
  · rcases Int.lt_trichotomy r s with h6 | h6 | h6
    · exact (k5 _ _ (by omega) h3 h4).elim
    · exact h6
    · exact (h5 _ _ (by omega) k3 k4).elim
  · exact (k2 _ _ h3 h4).elim
  · exact (h2 _ _ k3 k4).elim
  · omega
theorem FirstIs.ex {α : Type} (p : α → Prop) : ∀ l : List α, ∃ r, FirstIs p l r
  | [] => ⟨-1, .inr ⟨rfl, fun j v h => by simp at h⟩⟩
  | a :: l => by
    by_cases h : p a
    · exact ⟨0, .inl ⟨by omega, by simp, ⟨a, by simp, h⟩, fun j v hj => by omega⟩⟩
    · obtain ⟨r, hr⟩ := FirstIs.ex p l
      rcases hr with ⟨h1, h2, ⟨v, h3, h4⟩, h5⟩ | ⟨h1, h2⟩
      · refine ⟨r + 1, .inl ⟨by omega, by simp; omega, ⟨v, ?_, h4⟩, fun j v hj hv => ?_⟩⟩
        · rw [show (r + 1).toNat = r.toNat + 1 by omega]; simpa using h3
        · cases j with
          | zero => simp at hv; subst hv; exact h
          | succ j => exact h5 j v (by omega) (by simpa using hv)
      · refine ⟨-1, .inr ⟨rfl, fun j v hv => ?_⟩⟩
        cases j with
        | zero => simp at hv; subst hv; exact h
        | succ j => exact h2 j v (by simpa using hv)
noncomputable def firstI {α : Type} (p : α → Prop) (l : List α) : Int := (FirstIs.ex p l).choose
theorem firstI_spec {α : Type} (p : α → Prop) (l : List α) : FirstIs p l (firstI p l) := (FirstIs.ex p l).choose_spec
theorem firstI_eq {α : Type} {p : α → Prop} {l : List α} {r : Int} (h : FirstIs p l r) : firstI p l = r := (firstI_spec p l).uniq h
theorem firstI_in {α : Type} {p : α → Prop} {l : List α} {i : Int} {v : α} (h0 : 0 ≤ i) (hv : l[i.toNat]? = some v) (hp : p v) (h : Up (fun j => ∀ v, l[j]? = some v → ¬ p v) i) : firstI p l = i :=
  firstI_eq (.inl ⟨h0, by have := (List.getElem?_eq_some_iff.1 hv).1; omega, ⟨v, hv, hp⟩, fun j v hj => h j hj v⟩)
theorem firstI_out {α : Type} {p : α → Prop} {l : List α} {i : Int} (hi : (l.length : Int) ≤ i) (h : Up (fun j => ∀ v, l[j]? = some v → ¬ p v) i) : firstI p l = -1 :=
  firstI_eq (.inr ⟨rfl, fun j v hv => h j (by have := (List.getElem?_eq_some_iff.1 hv).1; omega) v hv⟩)
theorem firstI_congr {α : Type} {p q : α → Prop} (l : List α) (h : ∀ v, p v ↔ q v) : firstI p l = firstI q l := by
  have : p = q := funext fun v => propext (h v)
  rw [this]
noncomputable def visAt (l : List Vis) (aid : Int) : Int := firstI (fun v : Vis => v.aid = aid) l
end Go.Proofs.Ytehobmjmhjgnoaa
