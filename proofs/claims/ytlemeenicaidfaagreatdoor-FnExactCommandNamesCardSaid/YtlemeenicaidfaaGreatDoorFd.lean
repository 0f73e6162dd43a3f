/- Contracts: the laws' marks. -/
import Derived.Test.YtlemeenicaidfaaGreatDoorFc
import Derived.Test.YtlemeenicaidfaaGreatDoorFn1
namespace Go.Proofs.YtlemeenicaidfaaGreatDoor
open Go Go.RowKit Classical
set_option maxRecDepth 100000
set_option maxHeartbeats 2000000
set_option linter.unusedVariables false
set_option linter.unusedSimpArgs false
def mtF : Nat → Int → ByteArray → ByteArray
  | 0, _, out => out
  | n + 1, k, out => if 0 < k then mtF n (k / 10) (bytesOf [48 + k % 10] ++ out) else out
def mText (k : Int) : ByteArray := if k ≤ 0 then ⟨#[109, 48]⟩ else ⟨#[109]⟩ ++ mtF 64 k ⟨#[]⟩
theorem mtF_zero (n : Nat) (out : ByteArray) : mtF n 0 out = out := by cases n <;> simp [mtF]
theorem markText_ [St] (k : Int) (hk0 : k ≤ 4611686018427387904) : AP 12 [.int .i64 k] AV.str (mText k) := by
  refine a0 Tryz.func12 fun E K hE hK => ?_
  repeat' first
    | ((first

   | refine B0 ?_|refine B1 ?_ ?_) <;> intros <;> (try conv => cbv))
  · refine hK _ ?_
    rw [mText, if_pos (by assumption)]; rfl
  · rename_i hpos
    refine loopK (ι := Int × ByteArray × Nat) [0, 3] (fun p => ⟨reF _ [(0, .int .i64 p.1), (3, .str p.2.1)], []⟩) (fun p => p.1.toNat) (fun p => (0 ≤ p.1 ∧ p.1 ≤ 4611686018427387904) ∧ p.1 < 2 ^ p.2.2 ∧ p.2.2 ≤ 64 ∧ p.2.1.size + p.2.2 ≤ 64 ∧ mtF 64 k ⟨#[]⟩ = mtF p.2.2 p.1 p.2.1) [] (by decide) (k, ⟨#[]⟩, 64) rfl ⟨⟨by simp; omega, by simp; omega⟩, by simp; omega, by simp, by simp [ByteArray.size], rfl⟩ fun p hi Kn hN => ?_
    obtain ⟨k', out, n⟩ := p
    obtain ⟨h0, h1, h2, h3, h4⟩ := hi
    simp only at h0 h1 h2 h3 h4
    conv => cbv
    repeat' first
      | ((first
     | refine toStrI [_] (by rfl) (fun _ _ _ => ?_)
     | refine B0 ?_|refine B1 ?_ ?_) <;> intros <;> (try conv => cbv))
    · cases n with
      | zero => simp at h1; omega
      | succ n =>
        have e2 : (2 : Int) ^ (n + 1) = 2 ^ n * 2 := Int.pow_succ ..
        refine hN (_, _, n) _ [] (by decide) rfl ⟨?_, ?_, ?_, ?_, ?_⟩ ?_
        · simp only; omega
        · simp only; omega
        · simp only; omega
        · simp only [List.length_singleton] at *; omega
        · clear hN hK; rw [h4, mtF, if_pos (by assumption)]; subst_vars; rfl
        · simp only; omega
    · refine hK _ ?_
      have : k' = 0 := by omega
      subst this
      rw [mText, if_neg (by omega), h4, mtF_zero]
      clear hN hK; subst_vars; rfl
theorem mtF_size : ∀ (n : Nat) (k : Int) (out : ByteArray), (mtF n k out).size ≤ out.size + n
  | 0, k, out => by simp [mtF]
  | n + 1, k, out => by
    unfold mtF
    split
    · have := mtF_size n (k / 10) (bytesOf [48 + k % 10] ++ out)
      rw [ByteArray.size_append, bytesOf_size] at this
      simp only [List.length_singleton] at this; omega
    · omega
def intR (n : Int) : List AV := [.int .i64 n]
theorem NoB.ints (l : List Int) : NoB (.sl true 1 (l.map intR)) := .rows fun v => .aggC (.int _ _) .agg0
def markL (n : Nat) (k : Int) : List Int := (List.range n).map fun i : Nat => k + (i : Int)
theorem markL_len (n : Nat) (k : Int) : (markL n k).length = n := by simp [markL]
theorem markL_get {n : Nat} {k i : Int} {v : Int} (h0 : 0 ≤ i) (h : (markL n k)[i.toNat]? = some v) : v = k + i := by
  unfold markL at h
  rw [List.getElem?_map] at h
  by_cases hi : i.toNat < n
  · rw [List.getElem?_range hi] at h; simp at h; omega
  · rw [List.getElem?_eq_none (by simpa using Nat.le_of_not_lt hi)] at h; cases h
end Go.Proofs.YtlemeenicaidfaaGreatDoor
