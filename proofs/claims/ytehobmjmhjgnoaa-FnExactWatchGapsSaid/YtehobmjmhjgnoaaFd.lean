/- Contracts: the laws' marks. -/
import Derived.Test.YtehobmjmhjgnoaaFc
import Derived.Test.YtehobmjmhjgnoaaFn1
namespace Go.Proofs.Ytehobmjmhjgnoaa
open Go Go.RowKit Classical
set_option maxRecDepth 100000
set_option maxHeartbeats 2000000
set_option linter.unusedVariables false
set_option linter.unusedSimpArgs false
def mtF : Nat → Int → ByteArray → ByteArray
  | 0, _, out => out
  | n + 1, k, out => if 0 < k then mtF n (k / 10) (bytesOf [48 + k % 10] ++ out) else out
def mText (k : Int) : ByteArray := if k ≤ 0 then ⟨#[109, 48]⟩ else ⟨#[109]⟩ ++ mtF 64 k ⟨#[]⟩
theorem mtF_zero (n : Nat) (out : ByteArray) : mtF n 0 out = out := by cases n <;> simp [mtF]
theorem markText_ (k : Int) (hk0 : k ≤ 4611686018427387904) : AP 26 [.int .i64 k] AV.str (mText k) := by
  refine a0 Try.func26 fun E K hE hK => ?_
  repeat' first
    | ((first

   | refine B0 ?_|refine B1 ?_ ?_) <;> intros <;> (try conv => cbv))
  · refine hK _ ?_
    rw [mText, if_pos (by assumption)]; rfl
  · rename_i hpos
    refine loopK (ι := Int × ByteArray × Nat) [0, 3] (fun p => ⟨reF _ [(0, .int .i64 p.1), (3, .str p.2.1)], []⟩) (fun p => p.1.toNat) (fun p => (0 ≤ p.1 ∧ p.1 ≤ 4611686018427387904) ∧ p.1 < 2 ^ p.2.2 ∧ p.2.2 ≤ 64 ∧ p.2.1.size + p.2.2 ≤ 64 ∧ mtF 64 k ⟨#[]⟩ = mtF p.2.2 p.1 p.2.1) [] (by decide) (k, ⟨#[]⟩, 64) rfl ⟨⟨by simp; omega, by simp; omega⟩, by simp; omega, by simp, by simp [ByteArray.size], rfl⟩ fun p hi Kn hN => ?_
    obtain ⟨k', out, n⟩ := p
    obtain ⟨h0, h1, h2, h3, h4⟩ := hi
    simp only at h0 h1 h2 h3 h4
    conv => cbv
    repeat' first
      | ((first
     | refine toStrI [_] (by rfl) (fun _ _ _ => ?_)
     | refine B0 ?_|refine B1 ?_ ?_) <;> intros <;> (try conv => cbv))
    · cases n with
      | zero => simp at h1; omega
      | succ n =>
        have e2 : (2 : Int) ^ (n + 1) = 2 ^ n * 2 := Int.pow_succ ..
        refine hN (_, _, n) _ [] (by decide) rfl ⟨?_, ?_, ?_, ?_, ?_⟩ ?_
        · simp only; omega
        · simp only; omega
        · simp only; omega
        · simp only [List.length_singleton] at *; omega
        · clear hN hK; rw [h4, mtF, if_pos (by assumption)]; subst_vars; rfl
        · simp only; omega
    · refine hK _ ?_
      have : k' = 0 := by omega
      subst this
      rw [mText, if_neg (by omega), h4, mtF_zero]
      clear hN hK; subst_vars; rfl
theorem mtF_size : ∀ (n : Nat) (k : Int) (out : ByteArray), (mtF n k out).size ≤ out.size + n
  | 0, k, out => by simp [mtF]
  | n + 1, k, out => by
    unfold mtF
    split
    · have := mtF_size n (k / 10) (bytesOf [48 + k % 10] ++ out)
      rw [ByteArray.size_append, bytesOf_size] at this
      simp only [List.length_singleton] at this; omega
    · omega
def intR (n : Int) : List AV := [.int .i64 n]
theorem NoB.ints (l : List Int) : NoB (.sl true 1 (l.map intR)) := .rows fun v => .aggC (.int _ _) .agg0
def markL (n : Nat) (k : Int) : List Int := (List.range n).map fun i : Nat => k + (i : Int)
theorem markL_len (n : Nat) (k : Int) : (markL n k).length = n := by simp [markL]
theorem markL_get {n : Nat} {k i : Int} {v : Int} (h0 : 0 ≤ i) (h : (markL n k)[i.toNat]? = some v) : v = k + i := by
  unfold markL at h
  rw [List.getElem?_map] at h
  by_cases hi : i.toNat < n
  · rw [List.getElem?_range hi] at h; simp at h; omega
  · rw [List.getElem?_eq_none (by simpa using Nat.le_of_not_lt hi)] at h; cases h
theorem markInt64S_ {rs : List (List AV)} {l : List Int} (k : Int) (hl : rs = l.map intR) (hk0 : 0 ≤ k ∧ k ≤ 1000000000000000) (hb : l.length ≤ 100000000000) : ACM Try.prog 27 [.sl true 1 rs, .int .i64 k] (fun r ys => r = .int .i64 (k + l.length) ∧ ∃ rs', rs' = (markL l.length k).map intR ∧ ys = [.sl true 1 rs', .any]) := by
  refine acm 1 Try.func27 (fun r ys ⟨h1, rs', h3, h2⟩ => ⟨by rw [h1]; exact .int _ _, by rw [h2, h3]; simp; exact ⟨.ints _, .any⟩⟩) fun E K hE hK => ?_
  refine loopK (ι := Int × Int × List (List AV)) [0, 1, 5] (fun p => ⟨reF _ [(0, .ob 0), (1, .int .i64 p.2.1), (5, .int .i64 p.1)], [.row 1 p.2.2]⟩) (fun p => (l.length - p.1).toNat) (fun p => (0 ≤ p.1 ∧ p.1 ≤ l.length) ∧ p.2.1 = k + p.1 ∧ p.2.2 = (mix (fun i : Nat => k + (i : Int)) l p.1).map intR) [0] (by decide) (0, k, rs) rfl ⟨by simp, by simp, by simp only; rw [mix_zero (by omega)]; exact hl⟩ fun p hi Kn hN => ?_
  obtain ⟨i, k', es⟩ := p
  obtain ⟨⟨h0, h1⟩, h2, h3⟩ := hi
  simp only at h0 h1 h2 h3
  have hlen := mix_len (fun i : Nat => k + (i : Int)) l i
  conv => cbv
  repeat' first
    | (refine hN (_, _, _) _ [0] (by decide) rfl ⟨?_, ?_, ?_⟩ ?_)
    | ((first
   | refine updL _ (by assumption) (by omega) (by assumption) (by exact Nat.le_of_ble_eq_true rfl) (by first | rfl | ((conv => lhs; cbv); rfl)) (fun _ _ => ?_)
   | refine B0 ?_|refine B1 ?_ ?_) <;> intros <;> (try conv => cbv))
  · simp only; omega
  · simp only; omega
  · simp only
    rename_i e' he' a ha b hb'
    rw [he', mix_set h0 (by omega) (by omega) hb']
  · simp only; omega
  · have hi : i = l.length := by omega
    refine hK _ _ ⟨?_, es, ?_, rfl⟩
    · rw [h2, hi]; rfl
    · rw [h3, mix_all (by omega)]; rfl
theorem heldInt64S_ {rs : List (List AV)} {t : Bool} {n : Nat} (k : Int) (hl : rs = (markL n k).map intR) (hk0 : 0 ≤ k ∧ k ≤ 1000000000000000) (hb : n ≤ 100000000000) : AP 28 [.sl t 1 rs, .int .i64 k] (AV.int .i64) (k + n) := by
  refine a0 Try.func28 fun E K hE hK => ?_
  have hlen := markL_len n k
  refine loopK (ι := Int × Int) [0, 1, 5] (fun p => ⟨reF _ [(0, .sl t 1 rs), (1, .int .i64 p.2), (5, .int .i64 p.1)], []⟩) (fun p => (n - p.1).toNat) (fun p => (0 ≤ p.1 ∧ p.1 ≤ n) ∧ p.2 = k + p.1) [] (by decide) (0, k) rfl ⟨by simp, by simp⟩ fun p hi Kn hN => ?_
  obtain ⟨i, k'⟩ := p
  obtain ⟨⟨h0, h1⟩, h2⟩ := hi
  simp only at h0 h1 h2
  conv => cbv
  repeat' first
    | (refine hN (_, _) _ [] (by decide) rfl ⟨?_, ?_⟩ ?_)
    | ((first
   | (refine idxL hl (by omega) (fun v hv => ?_); have hv' := markL_get h0 hv)
   | refine B0 ?_|refine B1 ?_ ?_) <;> intros <;> (try conv => cbv))
  all_goals (try simp only)
  · omega
  · omega
  · omega
  · exact hK _ (by rw [h2, show i = (n : Int) by omega]; rfl)
theorem eqInt64S_ {rs rs' : List (List AV)} {t t' : Bool} {l m : List Int} (hl : rs = l.map intR) (hm : rs' = m.map intR) : AP 24 [.sl t 1 rs, .sl t' 1 rs'] AV.bool (bP (l = m)) := by
  refine a0 Try.func24 fun E K hE hK => ?_
  refine lenL hl fun n hn hb => ?_
  conv => cbv
  refine lenL hm fun n' hn' hb' => ?_
  conv => cbv
  refine eqI (fun he => ?_) (fun he => ?_) <;> conv => cbv
  · refine loopK (ι := Int) [0, 1, 5] (fun i => ⟨reF _ [(0, .sl t 1 rs), (1, .sl t' 1 rs'), (5, .int .i64 i)], []⟩) (fun i => (l.length - i).toNat) (fun i => 0 ≤ i ∧ Up (fun j => l[j]? = m[j]?) i) [] (by decide) 0 rfl ⟨by omega, .zero (by omega)⟩ fun i hi Kn hN => ?_
    obtain ⟨h0, hinv⟩ := hi
    conv => cbv
    repeat' first
      | ( refine hN _ _ [] (by decide) rfl ⟨by omega, ?_⟩ ?_)
      | ((first

     | refine B0 ?_|refine B1 ?_ ?_) <;> intros <;> (try conv => cbv))
    · refine hinv.succ ?_ (by assumption); grind
    · omega
    · refine finB hK (bP_false.2 fun h => ?_); grind
    · exact finB hK (bP_true.2 (list_eq_of (by omega) hinv (by omega)))
  · refine finB hK (bP_false.2 fun h => ?_); subst h; omega

end Go.Proofs.Ytehobmjmhjgnoaa
