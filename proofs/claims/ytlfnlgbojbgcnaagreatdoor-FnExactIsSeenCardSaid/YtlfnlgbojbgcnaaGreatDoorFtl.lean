/- A pointer to more cells than a contract speaks of. -/
import Derived.Test.YtlfnlgbojbgcnaaGreatDoorAxU
namespace Go.Proofs.YtlfnlgbojbgcnaaGreatDoor
open Go Go.RowKit Classical
set_option maxRecDepth 100000
set_option maxHeartbeats 2000000
set_option linter.unusedVariables false
set_option linter.unusedSimpArgs false
/-- A pointer to more cells than a contract speaks of. -/
theorem Rel.ppTail {w : World} {A : Nat → Prop} {cs tl : List AV} {v : Value} (h : Rel w A (.pp (cs ++ tl)) v) : Rel w A (.pp cs) v := by
  cases h with
  | pp _ b off val hb hc hr => exact .pp cs b off val hb (fun j hj => hc j (by rw [List.length_append]; omega)) (fun j a ha => hr j a (by rw [List.getElem?_append_left (List.getElem?_eq_some_iff.1 ha).1]; exact ha))
theorem AC.tl {P : Program} {α : Type} {f : FuncId} {us us' : List AV} {R : α → AV} {x : α} (h : AC P f us R x) (hl : us'.length = us.length) (hp : ∀ i : Nat, us'[i]? = us[i]? ∨ ∃ cs tl : List AV, us[i]? = some (AV.pp cs) ∧ us'[i]? = some (AV.pp (cs ++ tl))) : AC P f us' R x :=
  ⟨h.1, fun w vs hg hr => h.2 w vs hg ⟨hr.1.trans hl, fun i a ha => by
    rcases hp i with h1 | ⟨cs, tl, h1, h2⟩
    · exact hr.2 i a (h1.trans ha)
    · rw [ha] at h1; cases h1
      exact (hr.2 i _ h2).ppTail⟩⟩
theorem AC.tl11 {P : Program} {α : Type} {f : FuncId} {cs ds tl tm : List AV} {R : α → AV} {x : α} (h : AC P f [.pp cs, .pp ds] R x) : AC P f [.pp (cs ++ tl), .pp (ds ++ tm)] R x :=
  AC.tl h rfl fun i => match i with
    | 0 => .inr ⟨_, _, rfl, rfl⟩
    | 1 => .inr ⟨_, _, rfl, rfl⟩
    | _ + 2 => .inl rfl
theorem AC.tl1 {P : Program} {α : Type} {f : FuncId} {cs tl : List AV} {R : α → AV} {x : α} (h : AC P f [.pp cs] R x) : AC P f [.pp (cs ++ tl)] R x :=
  AC.tl h rfl fun i => match i with
    | 0 => .inr ⟨_, _, rfl, rfl⟩
    | _ + 1 => .inl rfl
theorem AC.tl1v {P : Program} {α : Type} {f : FuncId} {cs tl : List AV} {a : AV} {R : α → AV} {x : α} (h : AC P f [.pp cs, a] R x) : AC P f [.pp (cs ++ tl), a] R x :=
  AC.tl h rfl fun i => match i with
    | 0 => .inr ⟨_, _, rfl, rfl⟩
    | _ + 1 => .inl rfl
end Go.Proofs.YtlfnlgbojbgcnaaGreatDoor
