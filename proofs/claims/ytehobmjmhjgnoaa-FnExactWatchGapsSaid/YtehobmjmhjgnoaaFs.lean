/- Contracts: lists of texts. -/
import Derived.Test.YtehobmjmhjgnoaaFnm
namespace Go.Proofs.Ytehobmjmhjgnoaa
open Go Go.RowKit Classical
set_option maxRecDepth 100000
set_option maxHeartbeats 2000000
set_option linter.unusedVariables false
set_option linter.unusedSimpArgs false
theorem str_nown (l : List ByteArray) : ∀ e ∈ l.map strR, ∀ c ∈ e, c.isOwn = false := fun e he c hc => by
  obtain ⟨v, _, rfl⟩ := List.mem_map.1 he
  simp only [strR, List.mem_cons, List.not_mem_nil, or_false] at hc
  rw [hc]; rfl
def strMks (n : Nat) (k : Int) : List ByteArray := (List.range n).map fun i : Nat => mText (k + (i : Int))
theorem strMks_len (n : Nat) (k : Int) : (strMks n k).length = n := by simp [strMks]
theorem strMks_get {n : Nat} {k i : Int} {v : ByteArray} (h0 : 0 ≤ i) (h : (strMks n k)[i.toNat]? = some v) : v = mText (k + i) := by
  unfold strMks at h
  rw [List.getElem?_map] at h
  by_cases hi : i.toNat < n
  · rw [List.getElem?_range hi] at h
    simp only [Option.map_some, Option.some.injEq] at h
    rw [← h, Int.toNat_of_nonneg h0]
  · rw [List.getElem?_eq_none (by simpa using Nat.le_of_not_lt hi)] at h; cases h
end Go.Proofs.Ytehobmjmhjgnoaa
