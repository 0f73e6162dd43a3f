/- Contracts: duties. -/
import Derived.Test.YtffkcjcaeppboaaDoorFnm
namespace Go.Proofs.YtffkcjcaeppboaaDoor
open Go Go.RowKit Classical
set_option maxRecDepth 100000
set_option maxHeartbeats 2000000
set_option linter.unusedVariables false
set_option linter.unusedSimpArgs false
structure Dut where
  keeper : ByteArray
  frm : Int
  til : Int
def Dut.cs (v : Dut) : List AV := [.str v.keeper, .int .i64 v.frm, .int .i64 v.til]
theorem NoB.oDut (v : Dut) : NoB (.agg v.cs) := (.aggC (.str _) (.aggC (.int _ _) (.aggC (.int _ _) .agg0)))
theorem Dut.nown (l : List Dut) : ∀ e ∈ l.map Dut.cs, ∀ c ∈ e, c.isOwn = false := fun e he c hc => by
  obtain ⟨v, _, rfl⟩ := List.mem_map.1 he
  simp only [Dut.cs, List.mem_cons, List.not_mem_nil, or_false] at hc
  rcases hc with rfl | rfl | rfl <;> rfl
def Dut.sz (v : Dut) : Nat := v.keeper.size
def Dut.mk' (k : Int) : Dut := ⟨mText (k + 0), k + 1, k + 2⟩
def Dut.mks (n : Nat) (k : Int) : List Dut := (List.range n).map fun i : Nat => Dut.mk' (k + 3 * (i : Int))
theorem Dut.mks_len (n : Nat) (k : Int) : (Dut.mks n k).length = n := by simp [Dut.mks]
theorem Dut.mks_get {n : Nat} {k i : Int} {v : Dut} (h0 : 0 ≤ i) (h : (Dut.mks n k)[i.toNat]? = some v) : v = Dut.mk' (k + 3 * i) := by
  unfold Dut.mks at h
  rw [List.getElem?_map] at h
  by_cases hi : i.toNat < n
  · rw [List.getElem?_range hi] at h
    simp only [Option.map_some, Option.some.injEq] at h
    rw [← h, Int.toNat_of_nonneg h0]
  · rw [List.getElem?_eq_none (by simpa using Nat.le_of_not_lt hi)] at h; cases h
theorem Dut.cflat (v : Dut) : ∀ c ∈ v.cs, c.flat = true := fun c hc => by
  simp only [Dut.cs, List.mem_cons, List.not_mem_nil, or_false] at hc
  rcases hc with rfl | rfl | rfl <;> rfl
end Go.Proofs.YtffkcjcaeppboaaDoor
