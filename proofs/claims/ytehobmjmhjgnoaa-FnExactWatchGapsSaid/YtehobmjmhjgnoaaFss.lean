/- Contracts: marks in lists of lists of integers. -/
import Derived.Test.YtehobmjmhjgnoaaFl
namespace Go.Proofs.Ytehobmjmhjgnoaa
open Go Go.RowKit Classical
set_option maxRecDepth 100000
set_option maxHeartbeats 2000000
set_option linter.unusedVariables false
set_option linter.unusedSimpArgs false
theorem mix_at {α : Type} {f : Nat → α} {l : List α} {i : Int} (h0 : 0 ≤ i) (h1 : i ≤ l.length) : (mix f l i)[i.toNat]? = l[i.toNat]? := by
  unfold mix
  rw [List.getElem?_append_right (by simp; omega), List.getElem?_drop]
  congr 1
  simp; omega
theorem sumTo_bd {α : Type} (f : α → Nat) {l : List α} {B : Nat} (hb : ∀ v ∈ l, f v ≤ B) : ∀ n : Nat, n ≤ l.length → sumTo f l n ≤ B * n
  | 0, _ => by rw [sumTo_zero (by omega)]; omega
  | n + 1, h => by
    have ih := sumTo_bd f hb n (by omega)
    have hv : l[(n : Int).toNat]? = some l[n] := by simp
    rw [show ((n + 1 : Nat) : Int) = (n : Int) + 1 by omega, sumTo_succ f (by omega) hv, Nat.mul_add]
    have := hb l[n] (List.getElem_mem _)
    omega
def mkL (l : List (List Int)) (k : Int) (j : Nat) : List Int := markL (l.getD j []).length (k + (sumTo List.length l j : Nat))
def mkLL (l : List (List Int)) (k : Int) : List (List Int) := (List.range l.length).map (mkL l k)
theorem mkLL_len (l : List (List Int)) (k : Int) : (mkLL l k).length = l.length := by simp [mkLL]
theorem mkLL_get {l : List (List Int)} {k i : Int} {x : List Int} (h0 : 0 ≤ i) (h : (mkLL l k)[i.toNat]? = some x) : ∃ y, l[i.toNat]? = some y ∧ x = markL y.length (k + (sumTo List.length l i : Nat)) := by
  have hlt := (List.getElem?_eq_some_iff.1 h).1
  rw [mkLL_len] at hlt
  have hy : l[i.toNat]? = some l[i.toNat] := List.getElem?_eq_getElem hlt
  refine ⟨_, hy, ?_⟩
  unfold mkLL at h
  rw [List.getElem?_map, List.getElem?_range hlt] at h
  simp only [Option.map_some, Option.some.injEq] at h
  rw [← h]
  unfold mkL
  rw [List.getD_eq_getElem?_getD, hy, show ((i.toNat : Nat) : Int) = i by omega]
  rfl
theorem mkL_at {l : List (List Int)} {k k' i : Int} {x : List Int} (h0 : 0 ≤ i) (hx : l[i.toNat]? = some x) (hk : k' = k + (sumTo List.length l i : Nat)) : markL x.length k' = mkL l k i.toNat := by
  unfold mkL
  rw [List.getD_eq_getElem?_getD, hx, show ((i.toNat : Nat) : Int) = i by omega, ← hk]
  rfl
theorem markInt64SS_ {rs : List (List AV)} {l : List (List Int)} (k : Int) (hl : rs = l.map (llR true)) (hk0 : 0 ≤ k ∧ k ≤ 1000000) (hb : l.length ≤ 100000) (hb1 : ∀ x ∈ l, x.length ≤ 100000) : ACM Try.prog 11 [.sl true 1 rs, .int .i64 k] (fun r ys => ∃ (n : Int) (rs' : List (List AV)), n = k + (sumTo List.length l l.length : Nat) ∧ rs' = (mkLL l k).map (llR true) ∧ r = .int .i64 n ∧ ys = [.sl true 1 rs', .any]) := by
  refine acm 1 Try.func11 (fun r ys ⟨n, rs', _, h3, h1, h2⟩ => ⟨by rw [h1]; exact .int _ _, by rw [h2, h3]; simp; exact ⟨.lls _, .any⟩⟩) fun E K hE hK => ?_
  refine loop3 [] [5, 1, 0] (fun (i k' : Int) (es : List (List AV)) => ([(5, .int .i64 i), (1, .int .i64 k'), (0, .ob 0)], [.row 1 es], l.length - i, (0 ≤ i ∧ i ≤ l.length) ∧ k' = k + (sumTo List.length l i : Nat) ∧ es = (mix (mkL l k) l i).map (llR true))) [0] ((0, k, rs)) (by dsimp only; exact ⟨by omega, by rw [sumTo_zero (by omega)]; omega, by rw [mix_zero (by omega)]; exact hl⟩) fun i k' es hi Kn hN => ?_
  obtain ⟨⟨h0, h1⟩, h2, h3⟩ := hi
  have hlen := mix_len (mkL l k) l i
  have hbd := sumTo_bd List.length hb1 i.toNat (by omega)
  rw [show ((i.toNat : Nat) : Int) = i by omega] at hbd
  have hbd2 : 100000 * i.toNat ≤ 10000000000 := by omega
  obtain ⟨m, hm⟩ : ∃ m, m = mix (mkL l k) l i := ⟨_, rfl⟩
  have hma := mix_at (f := mkL l k) h0 h1
  rw [← hm] at h3 hlen hma
  repeat' first
    | (refine hN _ _ _ [0] rfl ⟨?_, ?_, ?_⟩)
    | ((first
   | (refine idxLL h3 (by omega) (fun x rx hx hrx => ?_); have hx2 := hx; rw [hma] at hx2; have hx3 := hb1 x (List.mem_of_getElem? hx2); have hss := sumTo_succ List.length h0 hx2)
   | (refine callMI (markI_ _ (by assumption) (by omega) (by omega)) ?_; rintro _ _ ⟨n, rs', hn, hrs', rfl, rfl⟩)
   | (refine updL (R := llR true) (markL _ _) h3 (by omega) hx (by exact Nat.le_of_ble_eq_true rfl) (by simp only [splice, llR, hrs']; rfl) (fun _ _ => ?_))
   | refine B0 ?_|refine B1 ?_ ?_) <;> intros <;> (try conv => cbv))
  all_goals (try clear hN)
  all_goals first
    | omega
    | (rename_i hn1; rw [hn1, hss]; omega)
    | (rename_i e1 _ hn1; rw [e1, hm, mix_set h0 (by omega) (v := _) (mkL_at h0 hx2 h2) hn1])
    | (have hi : i = l.length := by omega
       refine hK _ _ ⟨k', es, ?_, ?_, rfl, rfl⟩
       · rw [h2, hi]
       · rw [h3, hm, mix_all (by omega)]; rfl)
    | trace_state
theorem heldInt64SS_ {rs : List (List AV)} {t b : Bool} {l : List (List Int)} (k : Int) (hl : rs = (mkLL l k).map (llR b)) (hk0 : 0 ≤ k ∧ k ≤ 1000000) (hb : l.length ≤ 100000) (hb1 : ∀ x ∈ l, x.length ≤ 100000) : AP 12 [.sl t 1 rs, .int .i64 k] (AV.int .i64) (k + (sumTo List.length l l.length : Nat)) := by
  refine a0 Try.func12 fun E K hE hK => ?_
  have hlen := mkLL_len l k
  refine loop2 [0] [5, 1] (fun (i k' : Int) => ([(5, .int .i64 i), (1, .int .i64 k')], [], l.length - i, (0 ≤ i ∧ i ≤ l.length) ∧ k' = k + (sumTo List.length l i : Nat))) [] ((0, k)) (by dsimp only; exact ⟨by omega, by rw [sumTo_zero (by omega)]; omega⟩) fun i k' hi Kn hN => ?_
  obtain ⟨⟨h0, h1⟩, h2⟩ := hi
  have hbd := sumTo_bd List.length hb1 i.toNat (by omega)
  rw [show ((i.toNat : Nat) : Int) = i by omega] at hbd
  have hbd2 : 100000 * i.toNat ≤ 10000000000 := by omega
  repeat' first
    | (refine hN _ _ [] rfl ⟨?_, ?_⟩)
    | ((first
   | (refine idxLL hl (by omega) (fun x rx hx hrx => ?_); obtain ⟨y, hy1, hy2⟩ := mkLL_get h0 hx; have hy3 := hb1 y (List.mem_of_getElem? hy1); have hss := sumTo_succ List.length h0 hy1; rw [hy2, ← h2] at hrx)
   | refine callI (heldInt64S_ _ (by assumption) (by omega) (by omega)) (fun _ _ => ?_)
   | refine B0 ?_|refine B1 ?_ ?_) <;> intros <;> (try conv => cbv))
  all_goals (try clear hN)
  all_goals first
    | omega
    | (rename_i hn1; rw [hn1, hss]; omega)
    | (have hi : i = l.length := by omega
       exact hK _ (by rw [h2, hi]; rfl))
    | trace_state
def llLI (p : List (List Int) × Int) : AV := .tup [.sl true 1 (p.1.map (llR true)), .int .i64 p.2]
theorem NoB.llLI (p : List (List Int) × Int) : NoB (llLI p) := .tupC (.lls _) (.tupC (.int _ _) .tup0)
end Go.Proofs.Ytehobmjmhjgnoaa
