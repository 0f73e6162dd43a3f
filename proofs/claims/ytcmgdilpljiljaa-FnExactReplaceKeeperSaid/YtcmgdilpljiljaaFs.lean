/- Contracts: lists of texts. -/
import Derived.Test.YtcmgdilpljiljaaFnm
namespace Go.Proofs.Ytcmgdilpljiljaa
open Go Go.RowKit Classical
set_option maxRecDepth 100000
set_option maxHeartbeats 2000000
set_option linter.unusedVariables false
set_option linter.unusedSimpArgs false
theorem str_nown (l : List ByteArray) : ∀ e ∈ l.map strR, ∀ c ∈ e, c.isOwn = false := fun e he c hc => by
  obtain ⟨v, _, rfl⟩ := List.mem_map.1 he
  simp only [strR, List.mem_cons, List.not_mem_nil, or_false] at hc
  rw [hc]; rfl
theorem eqStringS_ {rs rs' : List (List AV)} {t t' : Bool} {l m : List ByteArray} (hl : rs = l.map strR) (hm : rs' = m.map strR) : AC Try.prog 58 [.sl t 1 rs, .sl t' 1 rs'] AV.bool (bP (l = m)) := by
  refine ac Try.func58 (by kernel_rfl) (.bool _) fun E K hE hK => ?_
  conv => cbv
  refine lenL hE hl fun n hn hb => ?_
  conv => cbv
  refine lenL hE hm fun n' hn' hb' => ?_
  conv => cbv
  refine eqI hE (fun he => ?_) (fun he => ?_) <;> conv => cbv
  · refine loopC hE (ι := Int) [0, 1] [5] (fun q => (fun (i : Int) => [(5, .int .i64 i)]) q) (fun q => (fun (i : Int) => []) q) (fun q => (fun (i : Int) => (l.length - i).toNat) q) (fun q => (fun (i : Int) => 0 ≤ i ∧ Up (fun j => l[j]? = m[j]?) i) q) [] (by decide) (0) (by conv => lhs; cbv) (by conv => lhs; cbv) rfl rfl (by dsimp only; exact ⟨by omega, .zero (by omega)⟩) fun i hi Kn hN => ?_
    (try dsimp only at hi)
    conv => cbv
    obtain ⟨h0, hinv⟩ := hi
    repeat' first
      | (refine hN _ _ [] (by decide) rfl ⟨?_, ?_⟩ ?_ <;> (try dsimp only))
      | ((first
       | refine idxV hE (by assumption) (by omega) (by assumption) ?_
       | refine ltT hE (by omega) ?_
       | refine ltF hE (by omega) ?_
       | refine ltI hE (fun _ => ?_) (fun _ => ?_)
       | refine leT hE (by omega) ?_
       | refine leF hE (by omega) ?_
       | refine leI hE (fun _ => ?_) (fun _ => ?_)
       | refine eqT hE (by omega) ?_
       | refine eqF hE (by omega) ?_
       | refine eqI hE (fun _ => ?_) (fun _ => ?_)
       | refine add64 hE (by omega) (fun _ _ => ?_)
       | refine sub64 hE (by omega) (fun _ _ => ?_)
       | refine addI hE (fun _ _ => ?_)
       | refine subI hE (fun _ _ => ?_)
       | refine lenL hE (by assumption) (fun _ _ _ => ?_)
       | refine len0 hE (fun _ _ => ?_)
       | refine idxL hE (by assumption) (by first | omega | (simp only [List.length_set, mix_len]; omega)) (fun _ _ => ?_)
       | refine idxFill hE (by assumption) (by omega) ?_
       | refine idxI hE (by decide) (by rfl) ?_
       | refine iteB (fun _ => ?_) (fun _ => ?_)
       | refine maxI hE (fun _ _ => ?_)
       | refine minI hE (fun _ _ => ?_)
       | refine seqI hE (fun _ => ?_) (fun _ => ?_)
       | refine scatI hE (by first | omega | (simp only [ByteArray.size, Array.size, List.length_cons, List.length_nil] at *; omega)) (fun _ _ _ => ?_)
       | refine slenI hE (fun _ _ _ => ?_)
       | refine sidxI hE (by omega) (fun _ _ _ _ => ?_)
       | refine needI hE (by first | decide | omega) ?_
       | refine rem64 hE (by omega) (fun _ _ => ?_)
       | refine quo64 hE (by omega) (fun _ _ => ?_)
       | refine wrapU8 hE (by omega) (fun _ _ => ?_)
       | refine wrap64 hE (by omega) (fun _ _ => ?_)
       | refine noownI hE (by simp [AV.isOwn]) ?_) <;> (try conv => cbv))
    · omega
    · refine hinv.succ ?_ (by assumption); clear hN; simp_all
    · omega
    · refine finB hK (bP_false.2 fun h => ?_); clear hN; simp_all
    · exact finB hK (bP_true.2 (list_eq_of (by omega) hinv (by omega)))
  · refine finB hK (bP_false.2 fun h => ?_); subst h; omega
def strMks (n : Nat) (k : Int) : List ByteArray := (List.range n).map fun i : Nat => mText (k + (i : Int))
theorem strMks_len (n : Nat) (k : Int) : (strMks n k).length = n := by simp [strMks]
theorem strMks_get {n : Nat} {k i : Int} {v : ByteArray} (h0 : 0 ≤ i) (h : (strMks n k)[i.toNat]? = some v) : v = mText (k + i) := by
  unfold strMks at h
  rw [List.getElem?_map] at h
  by_cases hi : i.toNat < n
  · rw [List.getElem?_range hi] at h
    simp only [Option.map_some, Option.some.injEq] at h
    rw [← h, Int.toNat_of_nonneg h0]
  · rw [List.getElem?_eq_none (by simpa using Nat.le_of_not_lt hi)] at h; cases h
theorem markStringS_ {rs : List (List AV)} {l : List ByteArray} (k : Int) (hl : rs = l.map strR) (hk0 : 0 ≤ k ∧ k ≤ 1000000000000000) (hb : l.length ≤ 100000000000) : ACM Try.prog 59 [.sl true 1 rs, .int .i64 k] (fun r ys => ∃ (n : Int) (rs' : List (List AV)), n = k + l.length ∧ rs' = (strMks l.length k).map strR ∧ r = .int .i64 n ∧ ys = [.sl true 1 rs', .any]) := by
  refine acm 1 Try.func59 (by kernel_rfl) (fun r ys ⟨n, rs', _, h3, h1, h2⟩ => ⟨by rw [h1]; exact .int _ _, by rw [h2, h3]; simp; exact ⟨.strs _, .any⟩⟩) fun E K hE hK => ?_
  conv => cbv
  refine loopC hE (ι := Int × Int × (List (List AV))) [] [5, 1, 0] (fun q => (fun (i : Int) (k' : Int) (es : List (List AV)) => [(5, .int .i64 i), (1, .int .i64 k'), (0, .ob 0)]) q.1 q.2.1 q.2.2) (fun q => (fun (i : Int) (k' : Int) (es : List (List AV)) => [.row 1 es]) q.1 q.2.1 q.2.2) (fun q => (fun (i : Int) (k' : Int) (es : List (List AV)) => (l.length - i).toNat) q.1 q.2.1 q.2.2) (fun q => (fun (i : Int) (k' : Int) (es : List (List AV)) => (0 ≤ i ∧ i ≤ l.length) ∧ k' = k + i ∧ es = (mix (fun i : Nat => mText (k + (i : Int))) l i).map strR) q.1 q.2.1 q.2.2) [0] (by decide) ((0, k, rs)) (by conv => lhs; cbv) (by conv => lhs; cbv) rfl rfl (by dsimp only; exact ⟨by omega, by omega, by rw [mix_zero (by omega)]; exact hl⟩) fun q hi Kn hN => ?_
  obtain ⟨i, k', es⟩ := q
  (try dsimp only at hi)
  conv => cbv
  obtain ⟨⟨h0, h1⟩, h2, h3⟩ := hi
  have hlen := mix_len (fun i : Nat => mText (k + (i : Int))) l i
  repeat' first
    | (refine hN (_, _, _) _ [0] (by decide) rfl ⟨?_, ?_, ?_⟩ ?_ <;> (try dsimp only))
    | ((first
     | refine idxV hE (by assumption) (by omega) (by assumption) ?_
     | refine callI hE (markText_ _ (by omega)) (fun _ _ => ?_)
     | refine updL hE _ (by assumption) (by omega) (by assumption) (by exact Nat.le_of_ble_eq_true rfl) (by first | rfl | ((conv => lhs; cbv); rfl)) (fun _ _ => ?_)
     | refine ltT hE (by omega) ?_
     | refine ltF hE (by omega) ?_
     | refine ltI hE (fun _ => ?_) (fun _ => ?_)
     | refine leT hE (by omega) ?_
     | refine leF hE (by omega) ?_
     | refine leI hE (fun _ => ?_) (fun _ => ?_)
     | refine eqT hE (by omega) ?_
     | refine eqF hE (by omega) ?_
     | refine eqI hE (fun _ => ?_) (fun _ => ?_)
     | refine add64 hE (by omega) (fun _ _ => ?_)
     | refine sub64 hE (by omega) (fun _ _ => ?_)
     | refine addI hE (fun _ _ => ?_)
     | refine subI hE (fun _ _ => ?_)
     | refine lenL hE (by assumption) (fun _ _ _ => ?_)
     | refine len0 hE (fun _ _ => ?_)
     | refine idxL hE (by assumption) (by first | omega | (simp only [List.length_set, mix_len]; omega)) (fun _ _ => ?_)
     | refine idxFill hE (by assumption) (by omega) ?_
     | refine idxI hE (by decide) (by rfl) ?_
     | refine iteB (fun _ => ?_) (fun _ => ?_)
     | refine maxI hE (fun _ _ => ?_)
     | refine minI hE (fun _ _ => ?_)
     | refine seqI hE (fun _ => ?_) (fun _ => ?_)
     | refine scatI hE (by first | omega | (simp only [ByteArray.size, Array.size, List.length_cons, List.length_nil] at *; omega)) (fun _ _ _ => ?_)
     | refine slenI hE (fun _ _ _ => ?_)
     | refine sidxI hE (by omega) (fun _ _ _ _ => ?_)
     | refine needI hE (by first | decide | omega) ?_
     | refine rem64 hE (by omega) (fun _ _ => ?_)
     | refine quo64 hE (by omega) (fun _ _ => ?_)
     | refine wrapU8 hE (by omega) (fun _ _ => ?_)
     | refine wrap64 hE (by omega) (fun _ _ => ?_)
     | refine noownI hE (by simp [AV.isOwn]) ?_) <;> (try conv => cbv))
  · omega
  · omega
  · clear hN hK
    rename_i hes _ hfin _ hi1
    rw [hes]
    rw [mix_set h0 (by omega) (v := _) ?_ hi1]
    subst_vars
    rw [Int.toNat_of_nonneg h0]
  · omega
  · have hi : i = l.length := by omega
    refine hK _ _ ⟨k', es, ?_, ?_, rfl, rfl⟩
    · rw [h2, hi]
    · rw [h3, mix_all (by omega)]; rfl
theorem heldStringS_ {rs : List (List AV)} {t : Bool} {n : Nat} (k : Int) (hl : rs = (strMks n k).map strR) (hk0 : 0 ≤ k ∧ k ≤ 1000000000000000) (hb : n ≤ 100000000000) : AC Try.prog 60 [.sl t 1 rs, .int .i64 k] (AV.int .i64) (k + n) := by
  refine ac Try.func60 (by kernel_rfl) (.int _ _) fun E K hE hK => ?_
  conv => cbv
  have hlen := strMks_len n k
  refine loopC hE (ι := Int × Int) [0] [5, 1] (fun q => (fun (i : Int) (k' : Int) => [(5, .int .i64 i), (1, .int .i64 k')]) q.1 q.2) (fun q => (fun (i : Int) (k' : Int) => []) q.1 q.2) (fun q => (fun (i : Int) (k' : Int) => (n - i).toNat) q.1 q.2) (fun q => (fun (i : Int) (k' : Int) => (0 ≤ i ∧ i ≤ n) ∧ k' = k + i) q.1 q.2) [] (by decide) ((0, k)) (by conv => lhs; cbv) (by conv => lhs; cbv) rfl rfl (by dsimp only; exact ⟨by omega, by omega⟩) fun q hi Kn hN => ?_
  obtain ⟨i, k'⟩ := q
  (try dsimp only at hi)
  conv => cbv
  obtain ⟨⟨h0, h1⟩, h2⟩ := hi
  repeat' first
    | (refine idxL hE hl (by omega) (fun v hv => ?_); have hv' := strMks_get h0 hv; (try conv => cbv))
    | (refine hN (_, _) _ [] (by decide) rfl ⟨?_, ?_⟩ ?_ <;> (try dsimp only))
    | ((first
     | refine idxV hE (by assumption) (by omega) (by assumption) ?_
     | refine callI hE (markText_ _ (by omega)) (fun _ _ => ?_)
     | refine seqT hE (by subst_vars; first | rfl | (congr 1; omega)) ?_
     | refine ltT hE (by omega) ?_
     | refine ltF hE (by omega) ?_
     | refine ltI hE (fun _ => ?_) (fun _ => ?_)
     | refine leT hE (by omega) ?_
     | refine leF hE (by omega) ?_
     | refine leI hE (fun _ => ?_) (fun _ => ?_)
     | refine eqT hE (by omega) ?_
     | refine eqF hE (by omega) ?_
     | refine eqI hE (fun _ => ?_) (fun _ => ?_)
     | refine add64 hE (by omega) (fun _ _ => ?_)
     | refine sub64 hE (by omega) (fun _ _ => ?_)
     | refine addI hE (fun _ _ => ?_)
     | refine subI hE (fun _ _ => ?_)
     | refine lenL hE (by assumption) (fun _ _ _ => ?_)
     | refine len0 hE (fun _ _ => ?_)
     | refine idxL hE (by assumption) (by first | omega | (simp only [List.length_set, mix_len]; omega)) (fun _ _ => ?_)
     | refine idxFill hE (by assumption) (by omega) ?_
     | refine idxI hE (by decide) (by rfl) ?_
     | refine iteB (fun _ => ?_) (fun _ => ?_)
     | refine maxI hE (fun _ _ => ?_)
     | refine minI hE (fun _ _ => ?_)
     | refine seqI hE (fun _ => ?_) (fun _ => ?_)
     | refine scatI hE (by first | omega | (simp only [ByteArray.size, Array.size, List.length_cons, List.length_nil] at *; omega)) (fun _ _ _ => ?_)
     | refine slenI hE (fun _ _ _ => ?_)
     | refine sidxI hE (by omega) (fun _ _ _ _ => ?_)
     | refine needI hE (by first | decide | omega) ?_
     | refine rem64 hE (by omega) (fun _ _ => ?_)
     | refine quo64 hE (by omega) (fun _ _ => ?_)
     | refine wrapU8 hE (by omega) (fun _ _ => ?_)
     | refine wrap64 hE (by omega) (fun _ _ => ?_)
     | refine noownI hE (by simp [AV.isOwn]) ?_) <;> (try conv => cbv))
  all_goals first
    | omega
    | exact hK _ (by rw [h2, show i = (n : Int) by omega]; rfl)
end Go.Proofs.Ytcmgdilpljiljaa
