/- Contracts: lists of texts. -/
import Derived.Test.YtnfjhadaclcgeaaGreatDoorFnm
namespace Go.Proofs.YtnfjhadaclcgeaaGreatDoor
open Go Go.RowKit Classical
set_option maxRecDepth 100000
set_option maxHeartbeats 2000000
set_option linter.unusedVariables false
set_option linter.unusedSimpArgs false
theorem str_nown (l : List ByteArray) : ∀ e ∈ l.map strR, ∀ c ∈ e, c.isOwn = false := fun e he c hc => by
  obtain ⟨v, _, rfl⟩ := List.mem_map.1 he
  simp only [strR, List.mem_cons, List.not_mem_nil, or_false] at hc
  rw [hc]; rfl
def strMks (n : Nat) (k : Int) : List ByteArray := (List.range n).map fun i : Nat => mText (k + (i : Int))
theorem strMks_len (n : Nat) (k : Int) : (strMks n k).length = n := by simp [strMks]
theorem strMks_get {n : Nat} {k i : Int} {v : ByteArray} (h0 : 0 ≤ i) (h : (strMks n k)[i.toNat]? = some v) : v = mText (k + i) := by
  unfold strMks at h
  rw [List.getElem?_map] at h
  by_cases hi : i.toNat < n
  · rw [List.getElem?_range hi] at h
    simp only [Option.map_some, Option.some.injEq] at h
    rw [← h, Int.toNat_of_nonneg h0]
  · rw [List.getElem?_eq_none (by simpa using Nat.le_of_not_lt hi)] at h; cases h
theorem indexS_ {rs : List (List AV)} {t : Bool} {l : List ByteArray} (x : ByteArray) (hl : rs = l.map strR) : AP 77 [.sl t 1 rs, .str x] (AV.int .i64) (firstI (fun y => x = y) l) := by
  refine a0 Tryz.func77 fun E K hE hK => ?_
  refine lenL hl fun n hn hb => ?_
  conv => cbv
  refine loop1 [0, 1, 7] [8] (fun (i : Int) => ([(8, .int .i64 i)], [], l.length - i, 0 ≤ i ∧ Up (fun j => ∀ v, l[j]? = some v → ¬ x = v) i)) [] (0) (by dsimp only; exact ⟨by omega, .zero (by omega)⟩) fun i hi Kn hN => ?_
  obtain ⟨h0, hinv⟩ := hi
  repeat' first
    | (refine hN _ [] rfl ⟨?_, ?_⟩)
    | ((first

   | refine B0 ?_|refine B1 ?_ ?_) <;> intros <;> (try conv => cbv))
  · refine hK _ ?_
    rw [firstI_in h0 (by assumption) (by assumption) hinv]; rfl
  · omega
  · refine hinv.succ ?_ (by assumption)
    clear hN; simp_all
  · refine hK _ ?_
    rw [firstI_out (by omega) hinv]; rfl
theorem containsS_ {rs : List (List AV)} {t : Bool} {l : List ByteArray} (x : ByteArray) (hl : rs = l.map strR) : AP 52 [.sl t 1 rs, .str x] AV.bool (bP (x ∈ l)) := by
  refine a0 Tryz.func52 fun E K hE hK => ?_
  refine callI (indexS_ x hl) fun y hy => ?_
  conv => cbv
  refine leI (fun h => ?_) (fun h => ?_) <;> conv => cbv
  · refine finB hK (bP_true.2 ?_)
    obtain ⟨v, hv, e⟩ := firstI_ge.1 (hy ▸ h)
    rw [e]; exact hv
  · exact finB hK (bP_false.2 fun h' => by have : 0 ≤ y := hy ▸ firstI_ge.2 ⟨x, h', rfl⟩; omega)
end Go.Proofs.YtnfjhadaclcgeaaGreatDoor
