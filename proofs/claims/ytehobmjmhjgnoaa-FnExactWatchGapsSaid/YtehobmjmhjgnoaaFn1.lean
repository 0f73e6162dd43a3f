/- Contracts: names and texts of findings. -/
import Derived.Test.YtehobmjmhjgnoaaFa
namespace Go.Proofs.Ytehobmjmhjgnoaa
open Go Go.RowKit Classical
set_option maxRecDepth 100000
set_option maxHeartbeats 2000000
set_option linter.unusedVariables false
set_option linter.unusedSimpArgs false

def strR (s : ByteArray) : List AV := [.str s]
theorem NoB.strs (es : List ByteArray) : NoB (.sl true 1 (es.map strR)) := .rows fun v => .aggC (.str _) .agg0
def pickS (i : Int) (es : List ByteArray) : ByteArray := if 0 ≤ i ∧ i < es.length then es.getD i.toNat ⟨#[]⟩ else ⟨#[]⟩
def fnames : List ByteArray := ["", "list", "missing", "side", "confused", "sector", "danger", "rhythm", "voyage"].map String.toUTF8
def fname (k : Int) : ByteArray := pickS k fnames

theorem fname_out {k : Int} (h : ¬ (1 ≤ k ∧ k ≤ 8)) : fname k = ⟨#[]⟩ := by
  unfold fname pickS
  split
  · have : k = 0 := by have : (fnames.length : Int) = 9 := rfl; omega
    subst this; rfl
  · rfl
theorem fname_in {k : Int} {s : ByteArray} (h : 1 ≤ k ∧ k ≤ 8) (hs : fnames[k.toNat]? = some s) : s = fname k := by
  unfold fname pickS
  rw [if_pos (by have : (fnames.length : Int) = 9 := rfl; omega), List.getD_eq_getElem?_getD, hs]; rfl
theorem fname_ne {k : Int} (h : 1 ≤ k ∧ k ≤ 8) : fname k ≠ ⟨#[]⟩ := by
  have h2 : k = 1 ∨ k = 2 ∨ k = 3 ∨ k = 4 ∨ k = 5 ∨ k = 6 ∨ k = 7 ∨ k = 8 := by omega
  rcases h2 with rfl | rfl | rfl | rfl | rfl | rfl | rfl | rfl <;> decide
theorem fname_size (k : Int) : (fname k).size ≤ 100 := by
  unfold fname pickS
  split
  · have h2 : k = 0 ∨ k = 1 ∨ k = 2 ∨ k = 3 ∨ k = 4 ∨ k = 5 ∨ k = 6 ∨ k = 7 ∨ k = 8 := by have : (fnames.length : Int) = 9 := rfl; omega
    rcases h2 with rfl | rfl | rfl | rfl | rfl | rfl | rfl | rfl | rfl <;> decide
  · decide
theorem fnames_len : fnames.length = 9 := rfl
structure Fnd where
  kind : Int
  who : ByteArray
  what : ByteArray
def Fnd.cs (f : Fnd) : List AV := [.int .i64 f.kind, .str f.who, .str f.what]
theorem NoB.fnd (f : Fnd) : NoB (.agg f.cs) := .aggC (.int _ _) (.aggC (.str _) (.aggC (.str _) .agg0))
def szF (a b : ByteArray) (n : Int) : Int := if n - a.size < 0 then -1 else if n - a.size - b.size < 0 then -1 else n - a.size - b.size
def spc : ByteArray := ⟨#[32]⟩
def fText (k : Int) (a b : ByteArray) : ByteArray := if 1 ≤ k ∧ k ≤ 8 then (if b = ⟨#[]⟩ then fname k ++ spc ++ a else fname k ++ spc ++ a ++ spc ++ b) else ⟨#[]⟩
theorem app_assoc (a b c : ByteArray) : a ++ b ++ c = a ++ (b ++ c) := ByteArray.append_assoc
end Go.Proofs.Ytehobmjmhjgnoaa
