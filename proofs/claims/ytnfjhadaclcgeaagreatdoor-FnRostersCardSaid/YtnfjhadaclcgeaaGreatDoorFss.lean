/- Contracts: marks in lists of lists of integers. -/
import Derived.Test.YtnfjhadaclcgeaaGreatDoorQa
namespace Go.Proofs.YtnfjhadaclcgeaaGreatDoor
open Go Go.RowKit Classical
set_option maxRecDepth 100000
set_option maxHeartbeats 2000000
set_option linter.unusedVariables false
set_option linter.unusedSimpArgs false
theorem mix_at {α : Type} {f : Nat → α} {l : List α} {i : Int} (h0 : 0 ≤ i) (h1 : i ≤ l.length) : (mix f l i)[i.toNat]? = l[i.toNat]? := by
  unfold mix
  rw [List.getElem?_append_right (by simp; omega), List.getElem?_drop]
  congr 1
  simp; omega
theorem sumTo_bd {α : Type} (f : α → Nat) {l : List α} {B : Nat} (hb : ∀ v ∈ l, f v ≤ B) : ∀ n : Nat, n ≤ l.length → sumTo f l n ≤ B * n
  | 0, _ => by rw [sumTo_zero (by omega)]; omega
  | n + 1, h => by
    have ih := sumTo_bd f hb n (by omega)
    have hv : l[(n : Int).toNat]? = some l[n] := by simp
    rw [show ((n + 1 : Nat) : Int) = (n : Int) + 1 by omega, sumTo_succ f (by omega) hv, Nat.mul_add]
    have := hb l[n] (List.getElem_mem _)
    omega
def mkL (l : List (List Int)) (k : Int) (j : Nat) : List Int := markL (l.getD j []).length (k + (sumTo List.length l j : Nat))
def mkLL (l : List (List Int)) (k : Int) : List (List Int) := (List.range l.length).map (mkL l k)
theorem mkLL_len (l : List (List Int)) (k : Int) : (mkLL l k).length = l.length := by simp [mkLL]
theorem mkLL_get {l : List (List Int)} {k i : Int} {x : List Int} (h0 : 0 ≤ i) (h : (mkLL l k)[i.toNat]? = some x) : ∃ y, l[i.toNat]? = some y ∧ x = markL y.length (k + (sumTo List.length l i : Nat)) := by
  have hlt := (List.getElem?_eq_some_iff.1 h).1
  rw [mkLL_len] at hlt
  have hy : l[i.toNat]? = some l[i.toNat] := List.getElem?_eq_getElem hlt
  refine ⟨_, hy, ?_⟩
  unfold mkLL at h
  rw [List.getElem?_map, List.getElem?_range hlt] at h
  simp only [Option.map_some, Option.some.injEq] at h
  rw [← h]
  unfold mkL
  rw [List.getD_eq_getElem?_getD, hy, show ((i.toNat : Nat) : Int) = i by omega]
  rfl
theorem mkL_at {l : List (List Int)} {k k' i : Int} {x : List Int} (h0 : 0 ≤ i) (hx : l[i.toNat]? = some x) (hk : k' = k + (sumTo List.length l i : Nat)) : markL x.length k' = mkL l k i.toNat := by
  unfold mkL
  rw [List.getD_eq_getElem?_getD, hx, show ((i.toNat : Nat) : Int) = i by omega, ← hk]
  rfl
def llLI (p : List (List Int) × Int) : AV := .tup [.sl true 1 (p.1.map (llR true)), .int .i64 p.2]
theorem NoB.llLI (p : List (List Int) × Int) : NoB (llLI p) := .tupC (.lls _) (.tupC (.int _ _) .tup0)
end Go.Proofs.YtnfjhadaclcgeaaGreatDoor
