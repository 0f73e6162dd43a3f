/- Contracts: the reference's SeenTogether; the law. -/
import Derived.Test.YtoafgafkmeghlaaGreatDoorGth
namespace Go.Proofs.YtoafgafkmeghlaaGreatDoor
open Go Go.RowKit Classical
set_option maxRecDepth 100000
set_option maxHeartbeats 2000000
set_option linter.unusedVariables false
set_option linter.unusedSimpArgs false
theorem pI_at {L : List (Nat × Nat)} {i : Nat} {p : Nat × Nat} {A C : Int} (h : L[i]? = some p) (hA : A = p.1) (hC : C = p.2) : (L.map pI)[i]? = some [A, C] := by
  rw [List.getElem?_map, h, hA, hC]; rfl
theorem numT_at {l : List Aid} {p : Nat × Nat} {A C : Int} {a b : Aid} (hA : A = p.1) (hC : C = p.2) (ha : l[A.toNat]? = some a) (hb : l[C.toNat]? = some b) : numT l p = [a.number, b.number] := by
  unfold numT
  rw [numAt_of (v := a) (by rw [← ha, hA]; rfl), numAt_of (v := b) (by rw [← hb, hC]; rfl)]
set_option maxHeartbeats 4000000
end Go.Proofs.YtoafgafkmeghlaaGreatDoor
