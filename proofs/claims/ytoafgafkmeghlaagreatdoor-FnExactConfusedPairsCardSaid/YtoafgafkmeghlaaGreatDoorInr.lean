/- A row into which an element is put: what it owns. -/
import Derived.Test.YtoafgafkmeghlaaGreatDoorAxU
import Derived.Shelf.Spec.SlicesInsertGrow
namespace Go.Proofs.YtoafgafkmeghlaaGreatDoor
set_option linter.unusedVariables false
set_option linter.unusedSimpArgs false
open Go Go.RowKit Go.Shelf Go.Lib
theorem own_row {w : World} {A : Nat → Prop} {k : Nat} {es : List (List AV)} {v : Value} {F : Nat → Prop} (h : XRel w A (.sl true k es) v F) : (es = [] ∧ v = .slice none 0 0 ∧ ∀ x, ¬ F x) ∨ ∃ (cap b : Nat) (T : TypeId) (c : Array Value) (G : Nat → Nat → Nat → Prop), v = .slice (some ⟨b, 0, none⟩) es.length cap ∧ w.heap[b]? = some (.cells c T (0, 0)) ∧ es.length ≤ maxLen ∧ es.length ≤ cap ∧ cap * k ≤ c.size ∧ (∀ e ∈ es, e.length = k) ∧
    (∀ i j, i < es.length → j < k → (c.getD (i * k + j) undef).oneCell' = true) ∧ (∀ (i j : Nat) e a, es[i]? = some e → e[j]? = some a → XRel w A a (c.getD (i * k + j) undef) (G i j)) ∧ (∀ x, F x ↔ x = b ∨ ∃ i j, i < es.length ∧ j < k ∧ G i j x) ∧ (∀ i j, i < es.length → j < k → ¬ G i j b) ∧
    (∀ i j i' j' x, i < es.length → j < k → i' < es.length → j' < k → G i j x → G i' j' x → i = i' ∧ j = j') := by
  cases h with
  | pure _ _ _ _ ho _ => simp [AV.isOwn] at ho
  | nil _ _ hF => exact .inl ⟨rfl, rfl, hF⟩
  | sl _ _ cap b T c _ G hb hl hcap hsz hk h1 hr hF h0 hd => exact .inr ⟨cap, b, T, c, G, rfl, hb, hl, hcap, hsz, hk, h1, hr, hF, h0, hd⟩
end Go.Proofs.YtoafgafkmeghlaaGreatDoor
