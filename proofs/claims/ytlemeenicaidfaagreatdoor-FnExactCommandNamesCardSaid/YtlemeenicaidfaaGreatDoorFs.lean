/- Contracts: lists of texts. -/
import Derived.Test.YtlemeenicaidfaaGreatDoorFnm
namespace Go.Proofs.YtlemeenicaidfaaGreatDoor
open Go Go.RowKit Classical
set_option maxRecDepth 100000
set_option maxHeartbeats 2000000
set_option linter.unusedVariables false
set_option linter.unusedSimpArgs false
theorem str_nown (l : List ByteArray) : ∀ e ∈ l.map strR, ∀ c ∈ e, c.isOwn = false := fun e he c hc => by
  obtain ⟨v, _, rfl⟩ := List.mem_map.1 he
  simp only [strR, List.mem_cons, List.not_mem_nil, or_false] at hc
  rw [hc]; rfl
theorem eqStringS_ [St] {rs rs' : List (List AV)} {t t' : Bool} {l m : List ByteArray} (hl : rs = l.map strR) (hm : rs' = m.map strR) : AP 6 [.sl t 1 rs, .sl t' 1 rs'] AV.bool (bP (l = m)) := by
  refine a0 Tryz.func6 fun E K hE hK => ?_
  refine lenL hl fun n hn hb => ?_
  conv => cbv
  refine lenL hm fun n' hn' hb' => ?_
  conv => cbv
  refine eqI (fun he => ?_) (fun he => ?_) <;> conv => cbv
  · refine loop1 [0, 1] [5] (fun (i : Int) => ([(5, .int .i64 i)], [], l.length - i, 0 ≤ i ∧ Up (fun j => l[j]? = m[j]?) i)) [] (0) (by dsimp only; exact ⟨by omega, .zero (by omega)⟩) fun i hi Kn hN => ?_
    obtain ⟨h0, hinv⟩ := hi
    repeat' first
      | (refine hN _ [] rfl ⟨?_, ?_⟩)
      | ((first

     | refine B0 ?_|refine B1 ?_ ?_) <;> intros <;> (try conv => cbv))
    · omega
    · refine hinv.succ ?_ (by assumption); clear hN; simp_all
    · refine finB hK (bP_false.2 fun h => ?_); clear hN; simp_all
    · exact finB hK (bP_true.2 (list_eq_of (by omega) hinv (by omega)))
  · refine finB hK (bP_false.2 fun h => ?_); subst h; omega
def strMks (n : Nat) (k : Int) : List ByteArray := (List.range n).map fun i : Nat => mText (k + (i : Int))
theorem strMks_len (n : Nat) (k : Int) : (strMks n k).length = n := by simp [strMks]
theorem strMks_get {n : Nat} {k i : Int} {v : ByteArray} (h0 : 0 ≤ i) (h : (strMks n k)[i.toNat]? = some v) : v = mText (k + i) := by
  unfold strMks at h
  rw [List.getElem?_map] at h
  by_cases hi : i.toNat < n
  · rw [List.getElem?_range hi] at h
    simp only [Option.map_some, Option.some.injEq] at h
    rw [← h, Int.toNat_of_nonneg h0]
  · rw [List.getElem?_eq_none (by simpa using Nat.le_of_not_lt hi)] at h; cases h
theorem markStringS_ [St] {rs : List (List AV)} {l : List ByteArray} (k : Int) (hl : rs = l.map strR) (hk0 : 0 ≤ k ∧ k ≤ 1000000000000000) (hb : l.length ≤ 100000000000) : ACM Tryz.prog 7 [.sl true 1 rs, .int .i64 k] (fun r ys => ∃ (n : Int) (rs' : List (List AV)), n = k + l.length ∧ rs' = (strMks l.length k).map strR ∧ r = .int .i64 n ∧ ys = [.sl true 1 rs', .any]) := by
  refine acm 1 Tryz.func7 (fun r ys ⟨n, rs', _, h3, h1, h2⟩ => ⟨by rw [h1]; exact .int _ _, by rw [h2, h3]; simp; exact ⟨.strs _, .any⟩⟩) fun E K hE hK => ?_
  refine loop3 [] [5, 1, 0] (fun (i k' : Int) (es : List (List AV)) => ([(5, .int .i64 i), (1, .int .i64 k'), (0, .ob 0)], [.row 1 es], l.length - i, (0 ≤ i ∧ i ≤ l.length) ∧ k' = k + i ∧ es = (mix (fun i : Nat => mText (k + (i : Int))) l i).map strR)) [0] ((0, k, rs)) (by dsimp only; exact ⟨by omega, by omega, by rw [mix_zero (by omega)]; exact hl⟩) fun i k' es hi Kn hN => ?_
  obtain ⟨⟨h0, h1⟩, h2, h3⟩ := hi
  have hlen := mix_len (fun i : Nat => mText (k + (i : Int))) l i
  repeat' first
    | (refine hN _ _ _ [0] rfl ⟨?_, ?_, ?_⟩)
    | ((first
   | refine callI (markText_ _ (by omega)) (fun _ _ => ?_)
   | refine updL _ (by assumption) (by omega) (by assumption) (by exact Nat.le_of_ble_eq_true rfl) (by first | rfl | ((conv => lhs; cbv); rfl)) (fun _ _ => ?_)
   | refine B0 ?_|refine B1 ?_ ?_) <;> intros <;> (try conv => cbv))
  · omega
  · omega
  · clear hN hK
    rename_i hes _ hfin _ hi1
    rw [hes]
    rw [mix_set h0 (by omega) (v := _) ?_ hi1]
    subst_vars
    rw [Int.toNat_of_nonneg h0]
  · have hi : i = l.length := by omega
    refine hK _ _ ⟨k', es, ?_, ?_, rfl, rfl⟩
    · rw [h2, hi]
    · rw [h3, mix_all (by omega)]; rfl
theorem heldStringS_ [St] {rs : List (List AV)} {t : Bool} {n : Nat} (k : Int) (hl : rs = (strMks n k).map strR) (hk0 : 0 ≤ k ∧ k ≤ 1000000000000000) (hb : n ≤ 100000000000) : AP 8 [.sl t 1 rs, .int .i64 k] (AV.int .i64) (k + n) := by
  refine a0 Tryz.func8 fun E K hE hK => ?_
  have hlen := strMks_len n k
  refine loop2 [0] [5, 1] (fun (i k' : Int) => ([(5, .int .i64 i), (1, .int .i64 k')], [], n - i, (0 ≤ i ∧ i ≤ n) ∧ k' = k + i)) [] ((0, k)) (by dsimp only; exact ⟨by omega, by omega⟩) fun i k' hi Kn hN => ?_
  obtain ⟨⟨h0, h1⟩, h2⟩ := hi
  repeat' first
    | (refine hN _ _ [] rfl ⟨?_, ?_⟩)
    | ((first
   | (refine idxL hl (by omega) (fun v hv => ?_); have hv' := strMks_get h0 hv)
   | refine callI (markText_ _ (by omega)) (fun _ _ => ?_)
   | refine seqT (by subst_vars; first | rfl | (congr 1; omega)) ?_
   | refine B0 ?_|refine B1 ?_ ?_) <;> intros <;> (try conv => cbv))
  all_goals first
    | omega
    | exact hK _ (by rw [h2, show i = (n : Int) by omega]; rfl)
theorem indexS_ [St] {rs : List (List AV)} {t : Bool} {l : List ByteArray} (x : ByteArray) (hl : rs = l.map strR) : AP 397 [.sl t 1 rs, .str x] (AV.int .i64) (firstI (fun y => x = y) l) := by
  refine a0 Tryz.func397 fun E K hE hK => ?_
  refine lenL hl fun n hn hb => ?_
  conv => cbv
  refine loop1 [0, 1, 7] [8] (fun (i : Int) => ([(8, .int .i64 i)], [], l.length - i, 0 ≤ i ∧ Up (fun j => ∀ v, l[j]? = some v → ¬ x = v) i)) [] (0) (by dsimp only; exact ⟨by omega, .zero (by omega)⟩) fun i hi Kn hN => ?_
  obtain ⟨h0, hinv⟩ := hi
  repeat' first
    | (refine hN _ [] rfl ⟨?_, ?_⟩)
    | ((first

   | refine B0 ?_|refine B1 ?_ ?_) <;> intros <;> (try conv => cbv))
  · refine hK _ ?_
    rw [firstI_in h0 (by assumption) (by assumption) hinv]; rfl
  · omega
  · refine hinv.succ ?_ (by assumption)
    clear hN; simp_all
  · refine hK _ ?_
    rw [firstI_out (by omega) hinv]; rfl
theorem containsS_ [St] {rs : List (List AV)} {t : Bool} {l : List ByteArray} (x : ByteArray) (hl : rs = l.map strR) : AP 304 [.sl t 1 rs, .str x] AV.bool (bP (x ∈ l)) := by
  refine a0 Tryz.func304 fun E K hE hK => ?_
  refine callI (indexS_ x hl) fun y hy => ?_
  conv => cbv
  refine leI (fun h => ?_) (fun h => ?_) <;> conv => cbv
  · refine finB hK (bP_true.2 ?_)
    obtain ⟨v, hv, e⟩ := firstI_ge.1 (hy ▸ h)
    rw [e]; exact hv
  · exact finB hK (bP_false.2 fun h' => by have : 0 ≤ y := hy ▸ firstI_ge.2 ⟨x, h', rfl⟩; omega)
end Go.Proofs.YtlemeenicaidfaaGreatDoor
