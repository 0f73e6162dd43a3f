/- Contracts: the laws' marks. -/
import Derived.Test.YthiecdiiindegaaGreatDoorFc
import Derived.Test.YthiecdiiindegaaGreatDoorFn1
namespace Go.Proofs.YthiecdiiindegaaGreatDoor
open Go Go.RowKit Classical
set_option maxRecDepth 100000
set_option maxHeartbeats 2000000
set_option linter.unusedVariables false
set_option linter.unusedSimpArgs false
def mtF : Nat → Int → ByteArray → ByteArray
  | 0, _, out => out
  | n + 1, k, out => if 0 < k then mtF n (k / 10) (bytesOf [48 + k % 10] ++ out) else out
def mText (k : Int) : ByteArray := if k ≤ 0 then ⟨#[109, 48]⟩ else ⟨#[109]⟩ ++ mtF 64 k ⟨#[]⟩
theorem mtF_zero (n : Nat) (out : ByteArray) : mtF n 0 out = out := by cases n <;> simp [mtF]
theorem mtF_size : ∀ (n : Nat) (k : Int) (out : ByteArray), (mtF n k out).size ≤ out.size + n
  | 0, k, out => by simp [mtF]
  | n + 1, k, out => by
    unfold mtF
    split
    · have := mtF_size n (k / 10) (bytesOf [48 + k % 10] ++ out)
      rw [ByteArray.size_append, bytesOf_size] at this
      simp only [List.length_singleton] at this; omega
    · omega
def intR (n : Int) : List AV := [.int .i64 n]
theorem NoB.ints (l : List Int) : NoB (.sl true 1 (l.map intR)) := .rows fun v => .aggC (.int _ _) .agg0
def markL (n : Nat) (k : Int) : List Int := (List.range n).map fun i : Nat => k + (i : Int)
theorem markL_len (n : Nat) (k : Int) : (markL n k).length = n := by simp [markL]
theorem markL_get {n : Nat} {k i : Int} {v : Int} (h0 : 0 ≤ i) (h : (markL n k)[i.toNat]? = some v) : v = k + i := by
  unfold markL at h
  rw [List.getElem?_map] at h
  by_cases hi : i.toNat < n
  · rw [List.getElem?_range hi] at h; simp at h; omega
  · rw [List.getElem?_eq_none (by simpa using Nat.le_of_not_lt hi)] at h; cases h
end Go.Proofs.YthiecdiiindegaaGreatDoor
