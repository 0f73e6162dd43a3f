/- The shelf's contract of slices.SortFunc over structs, as a contract of the interpreter. -/
import Derived.Test.YtoafgafkmeghlaaGreatDoorAxU
import Derived.Shelf.SlSortCmp.NoneTotal
namespace Go.Proofs.YtoafgafkmeghlaaGreatDoor
set_option linter.unusedVariables false
set_option linter.unusedSimpArgs false
open Go Go.RowKit Go.Sort Go.Shelf
def AV.val : AV → Value
 | .int k n => .int k n
 | .bool b => .bool b
 | .str s => .string s
 | _ => undef
theorem grow_of_keeps {w w' : World} (h : Keeps (fun _ => False) w w') : ∃ q os, w' = grow (w.drewN q) os := by
 refine ⟨w'.drawn - w.drawn, w'.heap.extract w.heap.size w'.heap.size, ?_⟩
 have hd : w.drawn ≤ w'.drawn := h.drawn
 have hs := h.size
 have hh : w'.heap = w.heap ++ w'.heap.extract w.heap.size w'.heap.size := by
  apply Array.ext_getElem?
  intro i
  rw [Array.getElem?_append]
  split
  ·rename_i hi; exact h.block i hi (fun x => x)
  ·rename_i hi
   rw [Array.getElem?_extract]
   split
   ·congr 1; omega
   ·rw [Array.getElem?_eq_none (by omega)]
 have e1 := h.os
 have e2 := h.tape
 have e3 := h.output
 obtain ⟨h1, t1, d1, o1, u1⟩ := w'
 obtain ⟨h0, t0, d0, o0, u0⟩ := w
 simp only at e1 e2 e3 hh hd
 subst e1 e2 e3
 simp only [grow, World.drewN, World.mk.injEq, and_true, true_and]
 exact ⟨hh, by omega⟩
section
variable {β : Type} (R : β → List AV)
end
end Go.Proofs.YtoafgafkmeghlaaGreatDoor
