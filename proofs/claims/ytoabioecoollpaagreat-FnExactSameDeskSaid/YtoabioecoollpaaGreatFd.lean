/- Contracts: the laws' marks. -/
import Derived.Test.YtoabioecoollpaaGreatFc
import Derived.Test.YtoabioecoollpaaGreatFn1
namespace Go.Proofs.YtoabioecoollpaaGreat
open Go Go.RowKit Classical
set_option maxRecDepth 100000
set_option maxHeartbeats 2000000
set_option linter.unusedVariables false
set_option linter.unusedSimpArgs false
def mtF : Nat → Int → ByteArray → ByteArray
  | 0, _, out => out
  | n + 1, k, out => if 0 < k then mtF n (k / 10) (bytesOf [48 + k % 10] ++ out) else out
def mText (k : Int) : ByteArray := if k ≤ 0 then ⟨#[109, 48]⟩ else ⟨#[109]⟩ ++ mtF 64 k ⟨#[]⟩
theorem mtF_zero (n : Nat) (out : ByteArray) : mtF n 0 out = out := by cases n <;> simp [mtF]
theorem mtF_size : ∀ (n : Nat) (k : Int) (out : ByteArray), (mtF n k out).size ≤ out.size + n
  | 0, k, out => by simp [mtF]
  | n + 1, k, out => by
    unfold mtF
    split
    · have := mtF_size n (k / 10) (bytesOf [48 + k % 10] ++ out)
      rw [ByteArray.size_append, bytesOf_size] at this
      simp only [List.length_singleton] at this; omega
    · omega
def intR (n : Int) : List AV := [.int .i64 n]
theorem NoB.ints (l : List Int) : NoB (.sl true 1 (l.map intR)) := .rows fun v => .aggC (.int _ _) .agg0
def markL (n : Nat) (k : Int) : List Int := (List.range n).map fun i : Nat => k + (i : Int)
theorem markL_len (n : Nat) (k : Int) : (markL n k).length = n := by simp [markL]
theorem markL_get {n : Nat} {k i : Int} {v : Int} (h0 : 0 ≤ i) (h : (markL n k)[i.toNat]? = some v) : v = k + i := by
  unfold markL at h
  rw [List.getElem?_map] at h
  by_cases hi : i.toNat < n
  · rw [List.getElem?_range hi] at h; simp at h; omega
  · rw [List.getElem?_eq_none (by simpa using Nat.le_of_not_lt hi)] at h; cases h
theorem eqInt64S_ {rs rs' : List (List AV)} {t t' : Bool} {l m : List Int} (hl : rs = l.map intR) (hm : rs' = m.map intR) : AC Tryz.prog 75 [.sl t 1 rs, .sl t' 1 rs'] AV.bool (bP (l = m)) := by
  refine ac Tryz.func75 (by kernel_rfl) (.bool _) fun E K hE hK => ?_
  conv => cbv
  refine lenL hE hl fun n hn hb => ?_
  conv => cbv
  refine lenL hE hm fun n' hn' hb' => ?_
  conv => cbv
  refine eqI hE (fun he => ?_) (fun he => ?_) <;> conv => cbv
  · refine loopK hE (ι := Int) [0, 1, 5] (fun i => ⟨reF _ [(0, .sl t 1 rs), (1, .sl t' 1 rs'), (5, .int .i64 i)], []⟩) (fun i => (l.length - i).toNat) (fun i => 0 ≤ i ∧ Up (fun j => l[j]? = m[j]?) i) [] (by decide) 0 rfl ⟨by omega, .zero (by omega)⟩ fun i hi Kn hN => ?_
    obtain ⟨h0, hinv⟩ := hi
    conv => cbv
    repeat' first
      | ( refine hN _ _ [] (by decide) rfl ⟨by omega, ?_⟩ ?_)
      | ((first
       | refine idxV hE (by assumption) (by omega) (by assumption) ?_
       | refine ltT hE (by omega) ?_
       | refine ltF hE (by omega) ?_
       | refine ltI hE (fun _ => ?_) (fun _ => ?_)
       | refine leT hE (by omega) ?_
       | refine leF hE (by omega) ?_
       | refine leI hE (fun _ => ?_) (fun _ => ?_)
       | refine eqT hE (by omega) ?_
       | refine eqF hE (by omega) ?_
       | refine eqI hE (fun _ => ?_) (fun _ => ?_)
       | refine add64 hE (by omega) (fun _ _ => ?_)
       | refine sub64 hE (by omega) (fun _ _ => ?_)
       | refine addI hE (fun _ _ => ?_)
       | refine subI hE (fun _ _ => ?_)
       | refine lenL hE (by assumption) (fun _ _ _ => ?_)
       | refine len0 hE (fun _ _ => ?_)
       | refine idxL hE (by assumption) (by first | omega | (simp only [List.length_set, mix_len]; omega)) (fun _ _ => ?_)
       | refine idxFill hE (by assumption) (by omega) ?_
       | refine idxI hE (by decide) (by rfl) ?_
       | refine iteB (fun _ => ?_) (fun _ => ?_)
       | refine maxI hE (fun _ _ => ?_)
       | refine minI hE (fun _ _ => ?_)
       | refine seqI hE (fun _ => ?_) (fun _ => ?_)
       | refine scatI hE (by first | omega | (simp only [ByteArray.size, Array.size, List.length_cons, List.length_nil] at *; omega)) (fun _ _ _ => ?_)
       | refine slenI hE (fun _ _ _ => ?_)
       | refine sidxI hE (by omega) (fun _ _ _ _ => ?_)
       | refine needI hE (by first | decide | omega) ?_
       | refine rem64 hE (by omega) (fun _ _ => ?_)
       | refine quo64 hE (by omega) (fun _ _ => ?_)
       | refine wrapU8 hE (by omega) (fun _ _ => ?_)
       | refine wrap64 hE (by omega) (fun _ _ => ?_)
       | refine noownI hE (by simp [AV.isOwn]) ?_) <;> (try conv => cbv))
    · refine hinv.succ ?_ (by assumption); grind
    · omega
    · refine finB hK (bP_false.2 fun h => ?_); grind
    · exact finB hK (bP_true.2 (list_eq_of (by omega) hinv (by omega)))
  · refine finB hK (bP_false.2 fun h => ?_); subst h; omega

end Go.Proofs.YtoabioecoollpaaGreat
