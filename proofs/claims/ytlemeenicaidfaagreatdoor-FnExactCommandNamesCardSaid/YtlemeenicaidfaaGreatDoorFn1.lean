/- Contracts: names and texts of findings. -/
import Derived.Test.YtlemeenicaidfaaGreatDoorFa
namespace Go.Proofs.YtlemeenicaidfaaGreatDoor
open Go Go.RowKit Classical
set_option maxRecDepth 100000
set_option maxHeartbeats 2000000
set_option linter.unusedVariables false
set_option linter.unusedSimpArgs false

def strR (s : ByteArray) : List AV := [.str s]
theorem NoB.strs (es : List ByteArray) : NoB (.sl true 1 (es.map strR)) := .rows fun v => .aggC (.str _) .agg0
def pickS (i : Int) (es : List ByteArray) : ByteArray := if 0 ≤ i ∧ i < es.length then es.getD i.toNat ⟨#[]⟩ else ⟨#[]⟩
theorem npick_ [St] {rs : List (List AV)} {t : Bool} {es : List ByteArray} (i : Int) (hl : rs = es.map strR) : AP 222 [.int .i64 i, .sl t 1 rs] AV.str (pickS i es) := by
  refine a0 Tryz.func222 fun E K hE hK => ?_
  repeat' first
    | ((first
   | refine q0 ?_
   | refine callP (at_ _ _) (fun _ => ?_) (fun _ => ?_)
   | (refine idxL (R := strR) (by assumption) (by first | omega | (simp only [List.length_set, mix_len]; omega)) ?_; rintro ⟨⟩ _)
   | refine B0 ?_|refine B1 ?_ ?_) <;> intros <;> (try conv => cbv))
  · rename_i s hs
    refine hK _ ?_
    unfold pickS
    rw [if_pos (by omega), List.getD_eq_getElem?_getD, hs]; rfl
  · refine hK _ ?_
    unfold pickS
    rw [if_neg (by omega)]; rfl
def fnames : List ByteArray := ["", "list", "missing", "side", "confused", "sector", "danger", "rhythm", "voyage"].map String.toUTF8
def fname (k : Int) : ByteArray := pickS k fnames

theorem findingName_ [St] (k : Int) : AP 200 [.int .i64 k] AV.str (fname k) := by
  refine a0 Tryz.func200 fun E K hE hK => ?_
  repeat' first
    | ((first
   | refine callI (npick_ (es := fnames) k (by rfl)) (fun _ _ => ?_)
   | refine B0 ?_|refine B1 ?_ ?_) <;> intros <;> (try conv => cbv))
  exact hK _ (by simp_all [atup, fname])
theorem fname_out {k : Int} (h : ¬ (1 ≤ k ∧ k ≤ 8)) : fname k = ⟨#[]⟩ := by
  unfold fname pickS
  split
  · have : k = 0 := by have : (fnames.length : Int) = 9 := rfl; omega
    subst this; rfl
  · rfl
theorem fname_in {k : Int} {s : ByteArray} (h : 1 ≤ k ∧ k ≤ 8) (hs : fnames[k.toNat]? = some s) : s = fname k := by
  unfold fname pickS
  rw [if_pos (by have : (fnames.length : Int) = 9 := rfl; omega), List.getD_eq_getElem?_getD, hs]; rfl
theorem fname_ne {k : Int} (h : 1 ≤ k ∧ k ≤ 8) : fname k ≠ ⟨#[]⟩ := by
  have h2 : k = 1 ∨ k = 2 ∨ k = 3 ∨ k = 4 ∨ k = 5 ∨ k = 6 ∨ k = 7 ∨ k = 8 := by omega
  rcases h2 with rfl | rfl | rfl | rfl | rfl | rfl | rfl | rfl <;> decide
theorem fname_size (k : Int) : (fname k).size ≤ 100 := by
  unfold fname pickS
  split
  · have h2 : k = 0 ∨ k = 1 ∨ k = 2 ∨ k = 3 ∨ k = 4 ∨ k = 5 ∨ k = 6 ∨ k = 7 ∨ k = 8 := by have : (fnames.length : Int) = 9 := rfl; omega
    rcases h2 with rfl | rfl | rfl | rfl | rfl | rfl | rfl | rfl | rfl <;> decide
  · decide
theorem fnames_len : fnames.length = 9 := rfl
structure Fnd where
  kind : Int
  who : ByteArray
  what : ByteArray
def Fnd.cs (f : Fnd) : List AV := [.int .i64 f.kind, .str f.who, .str f.what]
theorem NoB.fnd (f : Fnd) : NoB (.agg f.cs) := .aggC (.int _ _) (.aggC (.str _) (.aggC (.str _) .agg0))
def szF (a b : ByteArray) (n : Int) : Int := if n - a.size < 0 then -1 else if n - a.size - b.size < 0 then -1 else n - a.size - b.size
def spc : ByteArray := ⟨#[32]⟩
def fText (k : Int) (a b : ByteArray) : ByteArray := if 1 ≤ k ∧ k ≤ 8 then (if b = ⟨#[]⟩ then fname k ++ spc ++ a else fname k ++ spc ++ a ++ spc ++ b) else ⟨#[]⟩
theorem app_assoc (a b c : ByteArray) : a ++ b ++ c = a ++ (b ++ c) := ByteArray.append_assoc
theorem findingText_ [St] (k : Int) (a b : ByteArray) (ha : a.size ≤ 1048576) (hb : b.size ≤ 1048576) : AP 89 [.agg [.int .i64 k, .str a, .str b]] AV.str (fText k a b) := by
  refine a0 Tryz.func89 fun E K hE hK => ?_
  repeat' first
    | ((first
   | (refine callI (findingName_ _) (fun y hy => ?_); have h0 := fname_size k; rw [← hy] at h0)
   | refine B0 ?_|refine B1 ?_ ?_) <;> intros <;> (try conv => cbv))
  · refine hK _ ?_
    by_cases hk : 1 ≤ k ∧ k ≤ 8
    · have := fname_ne hk; simp_all
    · rw [fText, if_neg hk]; rfl
  · have hk : 1 ≤ k ∧ k ≤ 8 := by
      apply Classical.byContradiction; intro h
      have := fname_out h; simp_all
    refine hK _ ?_
    rw [fText, if_pos hk, if_pos (by assumption)]
    simp only [*, app_assoc]; rfl
  · have hk : 1 ≤ k ∧ k ≤ 8 := by
      apply Classical.byContradiction; intro h
      have := fname_out h; simp_all
    refine hK _ ?_
    rw [fText, if_pos hk, if_neg (by assumption)]
    simp only [*, app_assoc]; rfl
end Go.Proofs.YtlemeenicaidfaaGreatDoor
