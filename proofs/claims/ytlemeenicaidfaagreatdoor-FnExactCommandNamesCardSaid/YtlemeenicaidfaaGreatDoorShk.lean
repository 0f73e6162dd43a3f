/- Contracts of the shelf as contracts of the layer. -/
import Derived.Test.YtlemeenicaidfaaGreatDoorFn1
import Derived.Test.YtlemeenicaidfaaGreatDoorShelf
import Derived.Test.YtlemeenicaidfaaGreatDoorAxGl
namespace Go.Proofs.YtlemeenicaidfaaGreatDoor
open Go Go.RowKit Classical
set_option maxRecDepth 100000
set_option maxHeartbeats 2000000
set_option linter.unusedVariables false
set_option linter.unusedSimpArgs false
/-- From a contract of the shelf that leaves the world as it was. -/
theorem AC.same [St] {P : Program} {f : FuncId} {us : List AV} {α : Type} {R : α → AV} {x : α} (hent : Enters P f) (h : ∀ w vs, GOK w → RelL w (fun b => b < w.heap.size) us vs → ∃ v, Rel w (fun _ => False) (R x) v ∧ (R x).isOwn = false ∧ Calls P f vs w fun e w' => e = .returned v ∧ w' = w) : AC P f us R x :=
  ⟨hent, fun w vs hg hr => by
    obtain ⟨v, h1, h2, h3⟩ := h w vs hg hr
    refine h3.mono ?_
    rintro e w' ⟨rfl, rfl⟩
    exact ⟨v, fun _ => False, rfl, Keeps.refl _ _, .pure _ _ _ h1 h2 (fun _ h => h), fun _ h => h.elim⟩⟩
theorem rel1 {w : World} {A : Nat → Prop} {a : AV} {vs : Array Value} (h : RelL w A [a] vs) : ∃ v, vs = #[v] ∧ Rel w A a v := by
  match vs, h with
  | ⟨[v]⟩, h => exact ⟨v, rfl, h.2 0 a rfl⟩
theorem rel2 {w : World} {A : Nat → Prop} {a b : AV} {vs : Array Value} (h : RelL w A [a, b] vs) : ∃ u v, vs = #[u, v] ∧ Rel w A a u ∧ Rel w A b v := by
  match vs, h with
  | ⟨[u, v]⟩, h => exact ⟨u, v, rfl, h.2 0 a rfl, h.2 1 b rfl⟩
end Go.Proofs.YtlemeenicaidfaaGreatDoor
