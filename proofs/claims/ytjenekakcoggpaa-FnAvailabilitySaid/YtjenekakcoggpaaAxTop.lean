/- From a contract to a walk; the tables of this program. -/
import Derived.Test.YtjenekakcoggpaaAxFun
import Derived.KernelRfl
namespace Go.Proofs.Ytjenekakcoggpaa
set_option linter.unusedVariables false
set_option linter.unusedSimpArgs false
open Go Go.RowKit

theorem Keeps.kept {w w' : World} (h : Keeps (fun _ => False) w w') : w.keptBut w' (fun _ => False) :=
  ⟨h.os, h.output, fun i hi => by rw [h.block i hi (fun h => h)]; exact (World.keptBut_refl w (fun _ => False)).2.2 i hi⟩

theorem RelL.nil {w : World} {A : Nat → Prop} : RelL w A [] #[] := ⟨rfl, fun i a h => by simp at h⟩
theorem RelL.cons {w : World} {A : Nat → Prop} {a : AV} {v : Value} {us : List AV} {vs : Array Value} (h : Rel w A a v) (hr : RelL w A us vs) : RelL w A (a :: us) (#[v] ++ vs) := by
  refine ⟨by simp [hr.1]; omega, fun i x hx => ?_⟩
  cases i with
  | zero => simp at hx; subst hx; rw [← toList_getD]; simpa using h
  | succ i =>
    simp at hx
    have := hr.2 i x hx
    rw [← toList_getD, List.getD_eq_getElem?_getD] at this ⊢
    simpa using this

theorem wide : Try.prog.follows .mixedOrders = true := by kernel_rfl
end Go.Proofs.Ytjenekakcoggpaa
