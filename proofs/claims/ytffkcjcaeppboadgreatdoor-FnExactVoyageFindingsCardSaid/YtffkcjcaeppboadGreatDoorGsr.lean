/- Contracts: the buoys that mark the sides of channels; the law. -/
import Derived.Test.YtffkcjcaeppboadGreatDoorGsm
namespace Go.Proofs.YtffkcjcaeppboadGreatDoor
open Go Go.RowKit Classical
set_option maxRecDepth 100000
set_option maxHeartbeats 2000000
set_option linter.unusedVariables false
set_option linter.unusedSimpArgs false
structure Buo where
  atX : Int
  atY : Int
  kind : Int
def Buo.cs (v : Buo) : List AV := [.int .i64 v.atX, .int .i64 v.atY, .int .i64 v.kind]
theorem NoB.oBuo (v : Buo) : NoB (.agg v.cs) := (.aggC (.int _ _) (.aggC (.int _ _) (.aggC (.int _ _) .agg0)))
def Buo.mk' (k : Int) : Buo := ⟨k + 0, k + 1, k + 2⟩
def Buo.mks (n : Nat) (k : Int) : List Buo := (List.range n).map fun i : Nat => Buo.mk' (k + 3 * (i : Int))
theorem Buo.mks_len (n : Nat) (k : Int) : (Buo.mks n k).length = n := by simp [Buo.mks]
theorem Buo.mks_get {n : Nat} {k i : Int} {v : Buo} (h0 : 0 ≤ i) (h : (Buo.mks n k)[i.toNat]? = some v) : v = Buo.mk' (k + 3 * i) := by
  unfold Buo.mks at h
  rw [List.getElem?_map] at h
  by_cases hi : i.toNat < n
  · rw [List.getElem?_range hi] at h
    simp only [Option.map_some, Option.some.injEq] at h
    rw [← h, Int.toNat_of_nonneg h0]
  · rw [List.getElem?_eq_none (by simpa using Nat.le_of_not_lt hi)] at h; cases h
def buoLI (p : List Buo × Int) : AV := .tup [.sl true 3 (p.1.map Buo.cs), .int .i64 p.2]
theorem NoB.buoLI (p : List Buo × Int) : NoB (buoLI p) := .tupC (.rows .oBuo) (.tupC (.int _ _) .tup0)
set_option maxHeartbeats 4000000
end Go.Proofs.YtffkcjcaeppboadGreatDoor
