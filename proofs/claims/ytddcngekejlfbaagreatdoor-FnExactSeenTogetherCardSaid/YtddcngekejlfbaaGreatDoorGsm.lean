/- Contracts: what an observer sees; the law. -/
import Derived.Test.YtddcngekejlfbaaGreatDoorGsl
import Derived.Test.YtddcngekejlfbaaGreatDoorGma
namespace Go.Proofs.YtddcngekejlfbaaGreatDoor
open Go Go.RowKit Classical
set_option maxRecDepth 100000
set_option maxHeartbeats 2000000
set_option linter.unusedVariables false
set_option linter.unusedSimpArgs false
noncomputable def seenFromR (l : List Aid) (x y e s : Int) : List Int × Int := if AidsOk l ∧ ObvOk x y e s then ((seenL l x y e s).map Aid.number, 0) else ([], 1)
theorem seenFromR_len (l : List Aid) (x y e s : Int) : (seenFromR l x y e s).1.length ≤ l.length := by
  unfold seenFromR
  split
  · rw [List.length_map]; exact seenL_len _ _ _ _ _
  · simp
theorem take_map {α β : Type} {f : α → β} {l : List α} {i n : Int} {v : α} (h0 : 0 ≤ i) (hv : l[i.toNat]? = some v) (hn : n = i + 1) : (l.take n.toNat).map f = (l.take i.toNat).map f ++ [f v] := by
  rw [show n.toNat = i.toNat + 1 by omega, List.take_add_one, hv]; simp
set_option maxHeartbeats 4000000
theorem Aid.mk1_bd2 {l : List Aid} (h : l.length + (l.map Aid.sz).sum ≤ 1048576) : ∀ v ∈ l, Aid.mk1 v ≤ 10000000 := fun v hv => by
  have h1 := sum_ge Aid.sz hv
  unfold Aid.mk1
  simp only [Aid.sz, Chr.sz] at h1
  omega
end Go.Proofs.YtddcngekejlfbaaGreatDoor
