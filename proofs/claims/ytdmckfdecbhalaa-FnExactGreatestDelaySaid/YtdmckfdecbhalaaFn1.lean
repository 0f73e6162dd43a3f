/- Contracts: names and texts of findings. -/
import Derived.Test.YtdmckfdecbhalaaFa
namespace Go.Proofs.Ytdmckfdecbhalaa
open Go Go.RowKit Classical
set_option maxRecDepth 100000
set_option maxHeartbeats 2000000
set_option linter.unusedVariables false
set_option linter.unusedSimpArgs false

def strR (s : ByteArray) : List AV := [.str s]
theorem NoB.strs (es : List ByteArray) : NoB (.sl true 1 (es.map strR)) := .rows fun v => .aggC (.str _) .agg0
def pickS (i : Int) (es : List ByteArray) : ByteArray := if 0 ≤ i ∧ i < es.length then es.getD i.toNat ⟨#[]⟩ else ⟨#[]⟩
theorem pick_ {rs : List (List AV)} {t : Bool} {es : List ByteArray} (i : Int) (hl : rs = es.map strR) : AC Try.prog 42 [.int .i64 i, .sl t 1 rs] AV.str (pickS i es) := by
  refine ac Try.func42 (by kernel_rfl) (.str _) fun E K hE hK => ?_
  conv => cbv
  repeat' first
    | (refine idxV hE (by assumption) (by omega) (by assumption) ?_; (try conv => cbv))
    | (refine callP hE (at_ _ _) (fun _ => ?_) (fun _ => ?_) <;> (try conv => cbv))
    | (refine idxL (R := strR) hE (by assumption) (by first | omega | (simp only [List.length_set, mix_len]; omega)) ?_; rintro ⟨⟩ _; (try conv => cbv))
    | (refine ltT hE (by omega) ?_; (try conv => cbv))
    | (refine ltF hE (by omega) ?_; (try conv => cbv))
    | (refine ltI hE (fun _ => ?_) (fun _ => ?_) <;> (try conv => cbv))
    | (refine leT hE (by omega) ?_; (try conv => cbv))
    | (refine leF hE (by omega) ?_; (try conv => cbv))
    | (refine leI hE (fun _ => ?_) (fun _ => ?_) <;> (try conv => cbv))
    | (refine eqT hE (by omega) ?_; (try conv => cbv))
    | (refine eqF hE (by omega) ?_; (try conv => cbv))
    | (refine eqI hE (fun _ => ?_) (fun _ => ?_) <;> (try conv => cbv))
    | (refine add64 hE (by omega) (fun _ _ => ?_); (try conv => cbv))
    | (refine sub64 hE (by omega) (fun _ _ => ?_); (try conv => cbv))
    | (refine addI hE (fun _ _ => ?_); (try conv => cbv))
    | (refine subI hE (fun _ _ => ?_); (try conv => cbv))
    | (refine lenL hE (by assumption) (fun _ _ _ => ?_); (try conv => cbv))
    | (refine idxL hE (by assumption) (by first | omega | (simp only [List.length_set, mix_len]; omega)) (fun _ _ => ?_); (try conv => cbv))
    | (refine idxFill hE (by assumption) (by omega) ?_; (try conv => cbv))
    | (refine idxI hE (by decide) (by rfl) ?_; (try conv => cbv))
    | (refine iteB (fun _ => ?_) (fun _ => ?_) <;> (try conv => cbv))
    | (refine maxI hE (fun _ _ => ?_); (try conv => cbv))
    | (refine minI hE (fun _ _ => ?_); (try conv => cbv))
    | (refine seqI hE (fun _ => ?_) (fun _ => ?_) <;> (try conv => cbv))
    | (refine scatI hE (by first | omega | (simp only [ByteArray.size, Array.size, List.length_cons, List.length_nil] at *; omega)) (fun _ _ _ => ?_); (try conv => cbv))
    | (refine slenI hE (fun _ _ _ => ?_); (try conv => cbv))
    | (refine sidxI hE (by omega) (fun _ _ _ _ => ?_); (try conv => cbv))
    | (refine needI hE (by first | decide | omega) ?_; (try conv => cbv))
    | (refine rem64 hE (by omega) (fun _ _ => ?_); (try conv => cbv))
    | (refine quo64 hE (by omega) (fun _ _ => ?_); (try conv => cbv))
    | (refine wrapU8 hE (by omega) (fun _ _ => ?_); (try conv => cbv))
    | (refine wrap64 hE (by omega) (fun _ _ => ?_); (try conv => cbv))
  · rename_i s hs
    refine hK _ ?_
    unfold pickS
    rw [if_pos (by omega), List.getD_eq_getElem?_getD, hs]; rfl
  · refine hK _ ?_
    unfold pickS
    rw [if_neg (by omega)]; rfl
def fnames : List ByteArray := ["", "list", "missing", "side", "confused", "sector", "danger", "rhythm", "voyage"].map String.toUTF8
def fname (k : Int) : ByteArray := pickS k fnames

theorem findingName_ (k : Int) : AC Try.prog 11 [.int .i64 k] AV.str (fname k) := by
  refine ac Try.func11 (by kernel_rfl) (.str _) fun E K hE hK => ?_
  conv => cbv
  repeat' first
    | (refine idxV hE (by assumption) (by omega) (by assumption) ?_; (try conv => cbv))
    | (refine callI hE (pick_ (es := fnames) k (by rfl)) (fun _ _ => ?_); (try conv => cbv))
    | (refine ltT hE (by omega) ?_; (try conv => cbv))
    | (refine ltF hE (by omega) ?_; (try conv => cbv))
    | (refine ltI hE (fun _ => ?_) (fun _ => ?_) <;> (try conv => cbv))
    | (refine leT hE (by omega) ?_; (try conv => cbv))
    | (refine leF hE (by omega) ?_; (try conv => cbv))
    | (refine leI hE (fun _ => ?_) (fun _ => ?_) <;> (try conv => cbv))
    | (refine eqT hE (by omega) ?_; (try conv => cbv))
    | (refine eqF hE (by omega) ?_; (try conv => cbv))
    | (refine eqI hE (fun _ => ?_) (fun _ => ?_) <;> (try conv => cbv))
    | (refine add64 hE (by omega) (fun _ _ => ?_); (try conv => cbv))
    | (refine sub64 hE (by omega) (fun _ _ => ?_); (try conv => cbv))
    | (refine addI hE (fun _ _ => ?_); (try conv => cbv))
    | (refine subI hE (fun _ _ => ?_); (try conv => cbv))
    | (refine lenL hE (by assumption) (fun _ _ _ => ?_); (try conv => cbv))
    | (refine idxL hE (by assumption) (by first | omega | (simp only [List.length_set, mix_len]; omega)) (fun _ _ => ?_); (try conv => cbv))
    | (refine idxFill hE (by assumption) (by omega) ?_; (try conv => cbv))
    | (refine idxI hE (by decide) (by rfl) ?_; (try conv => cbv))
    | (refine iteB (fun _ => ?_) (fun _ => ?_) <;> (try conv => cbv))
    | (refine maxI hE (fun _ _ => ?_); (try conv => cbv))
    | (refine minI hE (fun _ _ => ?_); (try conv => cbv))
    | (refine seqI hE (fun _ => ?_) (fun _ => ?_) <;> (try conv => cbv))
    | (refine scatI hE (by first | omega | (simp only [ByteArray.size, Array.size, List.length_cons, List.length_nil] at *; omega)) (fun _ _ _ => ?_); (try conv => cbv))
    | (refine slenI hE (fun _ _ _ => ?_); (try conv => cbv))
    | (refine sidxI hE (by omega) (fun _ _ _ _ => ?_); (try conv => cbv))
    | (refine needI hE (by first | decide | omega) ?_; (try conv => cbv))
    | (refine rem64 hE (by omega) (fun _ _ => ?_); (try conv => cbv))
    | (refine quo64 hE (by omega) (fun _ _ => ?_); (try conv => cbv))
    | (refine wrapU8 hE (by omega) (fun _ _ => ?_); (try conv => cbv))
    | (refine wrap64 hE (by omega) (fun _ _ => ?_); (try conv => cbv))
  exact hK _ (by simp_all [atup, fname])
theorem kind_ (k : Int) : AC Try.prog 40 [.int .i64 k] AV.bool (bP (1 ≤ k ∧ k ≤ 8)) := by
  refine ac Try.func40 (by kernel_rfl) (.bool _) fun E K hE hK => ?_
  conv => cbv
  repeat' first
    | (refine idxV hE (by assumption) (by omega) (by assumption) ?_; (try conv => cbv))
    | (refine callP hE (in_ _ _ _) (fun _ => ?_) (fun _ => ?_) <;> (try conv => cbv))
    | (refine ltT hE (by omega) ?_; (try conv => cbv))
    | (refine ltF hE (by omega) ?_; (try conv => cbv))
    | (refine ltI hE (fun _ => ?_) (fun _ => ?_) <;> (try conv => cbv))
    | (refine leT hE (by omega) ?_; (try conv => cbv))
    | (refine leF hE (by omega) ?_; (try conv => cbv))
    | (refine leI hE (fun _ => ?_) (fun _ => ?_) <;> (try conv => cbv))
    | (refine eqT hE (by omega) ?_; (try conv => cbv))
    | (refine eqF hE (by omega) ?_; (try conv => cbv))
    | (refine eqI hE (fun _ => ?_) (fun _ => ?_) <;> (try conv => cbv))
    | (refine add64 hE (by omega) (fun _ _ => ?_); (try conv => cbv))
    | (refine sub64 hE (by omega) (fun _ _ => ?_); (try conv => cbv))
    | (refine addI hE (fun _ _ => ?_); (try conv => cbv))
    | (refine subI hE (fun _ _ => ?_); (try conv => cbv))
    | (refine lenL hE (by assumption) (fun _ _ _ => ?_); (try conv => cbv))
    | (refine idxL hE (by assumption) (by first | omega | (simp only [List.length_set, mix_len]; omega)) (fun _ _ => ?_); (try conv => cbv))
    | (refine idxFill hE (by assumption) (by omega) ?_; (try conv => cbv))
    | (refine idxI hE (by decide) (by rfl) ?_; (try conv => cbv))
    | (refine iteB (fun _ => ?_) (fun _ => ?_) <;> (try conv => cbv))
    | (refine maxI hE (fun _ _ => ?_); (try conv => cbv))
    | (refine minI hE (fun _ _ => ?_); (try conv => cbv))
    | (refine seqI hE (fun _ => ?_) (fun _ => ?_) <;> (try conv => cbv))
    | (refine scatI hE (by first | omega | (simp only [ByteArray.size, Array.size, List.length_cons, List.length_nil] at *; omega)) (fun _ _ _ => ?_); (try conv => cbv))
    | (refine slenI hE (fun _ _ _ => ?_); (try conv => cbv))
    | (refine sidxI hE (by omega) (fun _ _ _ _ => ?_); (try conv => cbv))
    | (refine needI hE (by first | decide | omega) ?_; (try conv => cbv))
    | (refine rem64 hE (by omega) (fun _ _ => ?_); (try conv => cbv))
    | (refine quo64 hE (by omega) (fun _ _ => ?_); (try conv => cbv))
    | (refine wrapU8 hE (by omega) (fun _ _ => ?_); (try conv => cbv))
    | (refine wrap64 hE (by omega) (fun _ _ => ?_); (try conv => cbv))
  all_goals (try clear hN)
  all_goals first
    | (omega)
    | (refine finB hK (bP_true.2 ?_); first | omega | grind)
    | (refine finB hK (bP_false.2 ?_); first | omega | (intro h; grind))
    | (refine ⟨by omega, Up.succ (by assumption) ?_ (by assumption)⟩; grind)
    | (refine hK _ ?_; simp_all [atup]; done)
    | (grind)
theorem names_ : AC Try.prog 41 [] (fun es : List ByteArray => AV.sl true 1 (es.map strR)) fnames := by
  refine ac Try.func41 (by kernel_rfl) (.strs _) fun E K hE hK => ?_
  conv => cbv
  exact hK _ rfl
theorem fname_out {k : Int} (h : ¬ (1 ≤ k ∧ k ≤ 8)) : fname k = ⟨#[]⟩ := by
  unfold fname pickS
  split
  · have : k = 0 := by have : (fnames.length : Int) = 9 := rfl; omega
    subst this; rfl
  · rfl
theorem fname_in {k : Int} {s : ByteArray} (h : 1 ≤ k ∧ k ≤ 8) (hs : fnames[k.toNat]? = some s) : s = fname k := by
  unfold fname pickS
  rw [if_pos (by have : (fnames.length : Int) = 9 := rfl; omega), List.getD_eq_getElem?_getD, hs]; rfl
theorem fname_ne {k : Int} (h : 1 ≤ k ∧ k ≤ 8) : fname k ≠ ⟨#[]⟩ := by
  have h2 : k = 1 ∨ k = 2 ∨ k = 3 ∨ k = 4 ∨ k = 5 ∨ k = 6 ∨ k = 7 ∨ k = 8 := by omega
  rcases h2 with rfl | rfl | rfl | rfl | rfl | rfl | rfl | rfl <;> decide
theorem fname_size (k : Int) : (fname k).size ≤ 100 := by
  unfold fname pickS
  split
  · have h2 : k = 0 ∨ k = 1 ∨ k = 2 ∨ k = 3 ∨ k = 4 ∨ k = 5 ∨ k = 6 ∨ k = 7 ∨ k = 8 := by have : (fnames.length : Int) = 9 := rfl; omega
    rcases h2 with rfl | rfl | rfl | rfl | rfl | rfl | rfl | rfl | rfl <;> decide
  · decide
theorem fnames_len : fnames.length = 9 := rfl
theorem sFindingName_ (k : Int) : AC Try.prog 10 [.int .i64 k] AV.str (fname k) := by
  refine ac Try.func10 (by kernel_rfl) (.str _) fun E K hE hK => ?_
  conv => cbv
  have h9 := fnames_len
  repeat' first
    | (refine idxV hE (by assumption) (by omega) (by assumption) ?_; (try conv => cbv))
    | (refine callP hE (kind_ _) (fun _ => ?_) (fun _ => ?_) <;> (try conv => cbv))
    | (refine callR hE (names_) (fun _ _ => ?_); (try conv => cbv))
    | (refine idxL (R := strR) hE (by assumption) (by first | omega | (simp only [List.length_set, mix_len]; omega)) ?_; rintro ⟨⟩ _; (try conv => cbv))
    | (refine ltT hE (by omega) ?_; (try conv => cbv))
    | (refine ltF hE (by omega) ?_; (try conv => cbv))
    | (refine ltI hE (fun _ => ?_) (fun _ => ?_) <;> (try conv => cbv))
    | (refine leT hE (by omega) ?_; (try conv => cbv))
    | (refine leF hE (by omega) ?_; (try conv => cbv))
    | (refine leI hE (fun _ => ?_) (fun _ => ?_) <;> (try conv => cbv))
    | (refine eqT hE (by omega) ?_; (try conv => cbv))
    | (refine eqF hE (by omega) ?_; (try conv => cbv))
    | (refine eqI hE (fun _ => ?_) (fun _ => ?_) <;> (try conv => cbv))
    | (refine add64 hE (by omega) (fun _ _ => ?_); (try conv => cbv))
    | (refine sub64 hE (by omega) (fun _ _ => ?_); (try conv => cbv))
    | (refine addI hE (fun _ _ => ?_); (try conv => cbv))
    | (refine subI hE (fun _ _ => ?_); (try conv => cbv))
    | (refine lenL hE (by assumption) (fun _ _ _ => ?_); (try conv => cbv))
    | (refine idxL hE (by assumption) (by first | omega | (simp only [List.length_set, mix_len]; omega)) (fun _ _ => ?_); (try conv => cbv))
    | (refine idxFill hE (by assumption) (by omega) ?_; (try conv => cbv))
    | (refine idxI hE (by decide) (by rfl) ?_; (try conv => cbv))
    | (refine iteB (fun _ => ?_) (fun _ => ?_) <;> (try conv => cbv))
    | (refine maxI hE (fun _ _ => ?_); (try conv => cbv))
    | (refine minI hE (fun _ _ => ?_); (try conv => cbv))
    | (refine seqI hE (fun _ => ?_) (fun _ => ?_) <;> (try conv => cbv))
    | (refine scatI hE (by first | omega | (simp only [ByteArray.size, Array.size, List.length_cons, List.length_nil] at *; omega)) (fun _ _ _ => ?_); (try conv => cbv))
    | (refine slenI hE (fun _ _ _ => ?_); (try conv => cbv))
    | (refine sidxI hE (by omega) (fun _ _ _ _ => ?_); (try conv => cbv))
    | (refine needI hE (by first | decide | omega) ?_; (try conv => cbv))
    | (refine rem64 hE (by omega) (fun _ _ => ?_); (try conv => cbv))
    | (refine quo64 hE (by omega) (fun _ _ => ?_); (try conv => cbv))
    | (refine wrapU8 hE (by omega) (fun _ _ => ?_); (try conv => cbv))
    | (refine wrap64 hE (by omega) (fun _ _ => ?_); (try conv => cbv))
  · exact hK _ (by rw [← fname_in (by assumption) (by assumption)]; rfl)
  · exact hK _ (by rw [fname_out (by assumption)]; rfl)
theorem lawFindingName (k : Int) : AC Try.prog 3 [.int .i64 k] id (.bool true) := by
  refine ac Try.func3 (by kernel_rfl) (.bool _) fun E K hE hK => ?_
  conv => cbv
  repeat' first
    | (refine idxV hE (by assumption) (by omega) (by assumption) ?_; (try conv => cbv))
    | (refine callI hE (sFindingName_ _) (fun _ _ => ?_); (try conv => cbv))
    | (refine callI hE (findingName_ _) (fun _ _ => ?_); (try conv => cbv))
    | (refine ltT hE (by omega) ?_; (try conv => cbv))
    | (refine ltF hE (by omega) ?_; (try conv => cbv))
    | (refine ltI hE (fun _ => ?_) (fun _ => ?_) <;> (try conv => cbv))
    | (refine leT hE (by omega) ?_; (try conv => cbv))
    | (refine leF hE (by omega) ?_; (try conv => cbv))
    | (refine leI hE (fun _ => ?_) (fun _ => ?_) <;> (try conv => cbv))
    | (refine eqT hE (by omega) ?_; (try conv => cbv))
    | (refine eqF hE (by omega) ?_; (try conv => cbv))
    | (refine eqI hE (fun _ => ?_) (fun _ => ?_) <;> (try conv => cbv))
    | (refine add64 hE (by omega) (fun _ _ => ?_); (try conv => cbv))
    | (refine sub64 hE (by omega) (fun _ _ => ?_); (try conv => cbv))
    | (refine addI hE (fun _ _ => ?_); (try conv => cbv))
    | (refine subI hE (fun _ _ => ?_); (try conv => cbv))
    | (refine lenL hE (by assumption) (fun _ _ _ => ?_); (try conv => cbv))
    | (refine idxL hE (by assumption) (by first | omega | (simp only [List.length_set, mix_len]; omega)) (fun _ _ => ?_); (try conv => cbv))
    | (refine idxFill hE (by assumption) (by omega) ?_; (try conv => cbv))
    | (refine idxI hE (by decide) (by rfl) ?_; (try conv => cbv))
    | (refine iteB (fun _ => ?_) (fun _ => ?_) <;> (try conv => cbv))
    | (refine maxI hE (fun _ _ => ?_); (try conv => cbv))
    | (refine minI hE (fun _ _ => ?_); (try conv => cbv))
    | (refine seqI hE (fun _ => ?_) (fun _ => ?_) <;> (try conv => cbv))
    | (refine scatI hE (by first | omega | (simp only [ByteArray.size, Array.size, List.length_cons, List.length_nil] at *; omega)) (fun _ _ _ => ?_); (try conv => cbv))
    | (refine slenI hE (fun _ _ _ => ?_); (try conv => cbv))
    | (refine sidxI hE (by omega) (fun _ _ _ _ => ?_); (try conv => cbv))
    | (refine needI hE (by first | decide | omega) ?_; (try conv => cbv))
    | (refine rem64 hE (by omega) (fun _ _ => ?_); (try conv => cbv))
    | (refine quo64 hE (by omega) (fun _ _ => ?_); (try conv => cbv))
    | (refine wrapU8 hE (by omega) (fun _ _ => ?_); (try conv => cbv))
    | (refine wrap64 hE (by omega) (fun _ _ => ?_); (try conv => cbv))
  · exact hK _ rfl
  · simp_all

structure Fnd where
  kind : Int
  who : ByteArray
  what : ByteArray
def Fnd.cs (f : Fnd) : List AV := [.int .i64 f.kind, .str f.who, .str f.what]
theorem NoB.fnd (f : Fnd) : NoB (.agg f.cs) := .aggC (.int _ _) (.aggC (.str _) (.aggC (.str _) .agg0))
theorem toFinding_ (k : Int) (a b : ByteArray) : AC Try.prog 17 [.agg [.int .i64 k, .str a, .str b]] (fun f : Fnd => AV.agg f.cs) ⟨k, a, b⟩ := by
  refine ac Try.func17 (by kernel_rfl) (.fnd _) fun E K hE hK => ?_
  conv => cbv
  exact hK _ rfl
def szF (a b : ByteArray) (n : Int) : Int := if n - a.size < 0 then -1 else if n - a.size - b.size < 0 then -1 else n - a.size - b.size
theorem szFinding_ (k : Int) (a b : ByteArray) (n : Int) (h : 0 ≤ n ∧ n ≤ 1048576) : AC Try.prog 15 [.agg [.int .i64 k, .str a, .str b], .int .i64 n] (AV.int .i64) (szF a b n) := by
  refine ac Try.func15 (by kernel_rfl) (.int _ _) fun E K hE hK => ?_
  conv => cbv
  repeat' first
    | (refine idxV hE (by assumption) (by omega) (by assumption) ?_; (try conv => cbv))
    | (refine ltT hE (by omega) ?_; (try conv => cbv))
    | (refine ltF hE (by omega) ?_; (try conv => cbv))
    | (refine ltI hE (fun _ => ?_) (fun _ => ?_) <;> (try conv => cbv))
    | (refine leT hE (by omega) ?_; (try conv => cbv))
    | (refine leF hE (by omega) ?_; (try conv => cbv))
    | (refine leI hE (fun _ => ?_) (fun _ => ?_) <;> (try conv => cbv))
    | (refine eqT hE (by omega) ?_; (try conv => cbv))
    | (refine eqF hE (by omega) ?_; (try conv => cbv))
    | (refine eqI hE (fun _ => ?_) (fun _ => ?_) <;> (try conv => cbv))
    | (refine add64 hE (by omega) (fun _ _ => ?_); (try conv => cbv))
    | (refine sub64 hE (by omega) (fun _ _ => ?_); (try conv => cbv))
    | (refine addI hE (fun _ _ => ?_); (try conv => cbv))
    | (refine subI hE (fun _ _ => ?_); (try conv => cbv))
    | (refine lenL hE (by assumption) (fun _ _ _ => ?_); (try conv => cbv))
    | (refine idxL hE (by assumption) (by first | omega | (simp only [List.length_set, mix_len]; omega)) (fun _ _ => ?_); (try conv => cbv))
    | (refine idxFill hE (by assumption) (by omega) ?_; (try conv => cbv))
    | (refine idxI hE (by decide) (by rfl) ?_; (try conv => cbv))
    | (refine iteB (fun _ => ?_) (fun _ => ?_) <;> (try conv => cbv))
    | (refine maxI hE (fun _ _ => ?_); (try conv => cbv))
    | (refine minI hE (fun _ _ => ?_); (try conv => cbv))
    | (refine seqI hE (fun _ => ?_) (fun _ => ?_) <;> (try conv => cbv))
    | (refine scatI hE (by first | omega | (simp only [ByteArray.size, Array.size, List.length_cons, List.length_nil] at *; omega)) (fun _ _ _ => ?_); (try conv => cbv))
    | (refine slenI hE (fun _ _ _ => ?_); (try conv => cbv))
    | (refine sidxI hE (by omega) (fun _ _ _ _ => ?_); (try conv => cbv))
    | (refine needI hE (by first | decide | omega) ?_; (try conv => cbv))
    | (refine rem64 hE (by omega) (fun _ _ => ?_); (try conv => cbv))
    | (refine quo64 hE (by omega) (fun _ _ => ?_); (try conv => cbv))
    | (refine wrapU8 hE (by omega) (fun _ _ => ?_); (try conv => cbv))
    | (refine wrap64 hE (by omega) (fun _ _ => ?_); (try conv => cbv))
  all_goals exact hK _ (by unfold szF; simp only [atup]; congr 1; repeat' split <;> omega)
def spc : ByteArray := ⟨#[32]⟩
def fText (k : Int) (a b : ByteArray) : ByteArray := if 1 ≤ k ∧ k ≤ 8 then (if b = ⟨#[]⟩ then fname k ++ spc ++ a else fname k ++ spc ++ a ++ spc ++ b) else ⟨#[]⟩
theorem app_assoc (a b c : ByteArray) : a ++ b ++ c = a ++ (b ++ c) := ByteArray.append_assoc
theorem findingText_ (k : Int) (a b : ByteArray) (ha : a.size ≤ 1048576) (hb : b.size ≤ 1048576) : AC Try.prog 18 [.agg [.int .i64 k, .str a, .str b]] AV.str (fText k a b) := by
  refine ac Try.func18 (by kernel_rfl) (.str _) fun E K hE hK => ?_
  conv => cbv
  repeat' first
    | (refine idxV hE (by assumption) (by omega) (by assumption) ?_; (try conv => cbv))
    | (refine callI hE (findingName_ _) (fun y hy => ?_); have h0 := fname_size k; rw [← hy] at h0; (try conv => cbv))
    | (refine ltT hE (by omega) ?_; (try conv => cbv))
    | (refine ltF hE (by omega) ?_; (try conv => cbv))
    | (refine ltI hE (fun _ => ?_) (fun _ => ?_) <;> (try conv => cbv))
    | (refine leT hE (by omega) ?_; (try conv => cbv))
    | (refine leF hE (by omega) ?_; (try conv => cbv))
    | (refine leI hE (fun _ => ?_) (fun _ => ?_) <;> (try conv => cbv))
    | (refine eqT hE (by omega) ?_; (try conv => cbv))
    | (refine eqF hE (by omega) ?_; (try conv => cbv))
    | (refine eqI hE (fun _ => ?_) (fun _ => ?_) <;> (try conv => cbv))
    | (refine add64 hE (by omega) (fun _ _ => ?_); (try conv => cbv))
    | (refine sub64 hE (by omega) (fun _ _ => ?_); (try conv => cbv))
    | (refine addI hE (fun _ _ => ?_); (try conv => cbv))
    | (refine subI hE (fun _ _ => ?_); (try conv => cbv))
    | (refine lenL hE (by assumption) (fun _ _ _ => ?_); (try conv => cbv))
    | (refine idxL hE (by assumption) (by first | omega | (simp only [List.length_set, mix_len]; omega)) (fun _ _ => ?_); (try conv => cbv))
    | (refine idxFill hE (by assumption) (by omega) ?_; (try conv => cbv))
    | (refine idxI hE (by decide) (by rfl) ?_; (try conv => cbv))
    | (refine iteB (fun _ => ?_) (fun _ => ?_) <;> (try conv => cbv))
    | (refine maxI hE (fun _ _ => ?_); (try conv => cbv))
    | (refine minI hE (fun _ _ => ?_); (try conv => cbv))
    | (refine seqI hE (fun _ => ?_) (fun _ => ?_) <;> (try conv => cbv))
    | (refine scatI hE (by first | omega | (simp only [ByteArray.size, Array.size, List.length_cons, List.length_nil] at *; omega)) (fun _ _ _ => ?_); (try conv => cbv))
    | (refine slenI hE (fun _ _ _ => ?_); (try conv => cbv))
    | (refine sidxI hE (by omega) (fun _ _ _ _ => ?_); (try conv => cbv))
    | (refine needI hE (by first | decide | omega) ?_; (try conv => cbv))
    | (refine rem64 hE (by omega) (fun _ _ => ?_); (try conv => cbv))
    | (refine quo64 hE (by omega) (fun _ _ => ?_); (try conv => cbv))
    | (refine wrapU8 hE (by omega) (fun _ _ => ?_); (try conv => cbv))
    | (refine wrap64 hE (by omega) (fun _ _ => ?_); (try conv => cbv))
  · refine hK _ ?_
    by_cases hk : 1 ≤ k ∧ k ≤ 8
    · have := fname_ne hk; simp_all
    · rw [fText, if_neg hk]; rfl
  · have hk : 1 ≤ k ∧ k ≤ 8 := by
      apply Classical.byContradiction; intro h
      have := fname_out h; simp_all
    refine hK _ ?_
    rw [fText, if_pos hk, if_pos (by assumption)]
    simp only [*, app_assoc]; rfl
  · have hk : 1 ≤ k ∧ k ≤ 8 := by
      apply Classical.byContradiction; intro h
      have := fname_out h; simp_all
    refine hK _ ?_
    rw [fText, if_pos hk, if_neg (by assumption)]
    simp only [*, app_assoc]; rfl
theorem sFindingText_ (k : Int) (a b : ByteArray) (ha : a.size ≤ 1048576) (hb : b.size ≤ 1048576) : AC Try.prog 16 [.agg [.int .i64 k, .str a, .str b]] AV.str (fText k a b) := by
  refine ac Try.func16 (by kernel_rfl) (.str _) fun E K hE hK => ?_
  conv => cbv
  have h9 := fnames_len
  repeat' first
    | (refine idxV hE (by assumption) (by omega) (by assumption) ?_; (try conv => cbv))
    | (refine callP hE (kind_ _) (fun _ => ?_) (fun _ => ?_) <;> (try conv => cbv))
    | (refine callR hE (names_) (fun _ _ => ?_); (try conv => cbv))
    | (refine idxL (R := strR) hE (by assumption) (by omega) (fun s hs => ?_); have h0 := fname_size k; have hs' := fname_in (by assumption) hs; rw [← hs'] at h0; (try conv => cbv))
    | (refine ltT hE (by omega) ?_; (try conv => cbv))
    | (refine ltF hE (by omega) ?_; (try conv => cbv))
    | (refine ltI hE (fun _ => ?_) (fun _ => ?_) <;> (try conv => cbv))
    | (refine leT hE (by omega) ?_; (try conv => cbv))
    | (refine leF hE (by omega) ?_; (try conv => cbv))
    | (refine leI hE (fun _ => ?_) (fun _ => ?_) <;> (try conv => cbv))
    | (refine eqT hE (by omega) ?_; (try conv => cbv))
    | (refine eqF hE (by omega) ?_; (try conv => cbv))
    | (refine eqI hE (fun _ => ?_) (fun _ => ?_) <;> (try conv => cbv))
    | (refine add64 hE (by omega) (fun _ _ => ?_); (try conv => cbv))
    | (refine sub64 hE (by omega) (fun _ _ => ?_); (try conv => cbv))
    | (refine addI hE (fun _ _ => ?_); (try conv => cbv))
    | (refine subI hE (fun _ _ => ?_); (try conv => cbv))
    | (refine lenL hE (by assumption) (fun _ _ _ => ?_); (try conv => cbv))
    | (refine idxL hE (by assumption) (by first | omega | (simp only [List.length_set, mix_len]; omega)) (fun _ _ => ?_); (try conv => cbv))
    | (refine idxFill hE (by assumption) (by omega) ?_; (try conv => cbv))
    | (refine idxI hE (by decide) (by rfl) ?_; (try conv => cbv))
    | (refine iteB (fun _ => ?_) (fun _ => ?_) <;> (try conv => cbv))
    | (refine maxI hE (fun _ _ => ?_); (try conv => cbv))
    | (refine minI hE (fun _ _ => ?_); (try conv => cbv))
    | (refine seqI hE (fun _ => ?_) (fun _ => ?_) <;> (try conv => cbv))
    | (refine scatI hE (by first | omega | (simp only [ByteArray.size, Array.size, List.length_cons, List.length_nil] at *; omega)) (fun _ _ _ => ?_); (try conv => cbv))
    | (refine slenI hE (fun _ _ _ => ?_); (try conv => cbv))
    | (refine sidxI hE (by omega) (fun _ _ _ _ => ?_); (try conv => cbv))
    | (refine needI hE (by first | decide | omega) ?_; (try conv => cbv))
    | (refine rem64 hE (by omega) (fun _ _ => ?_); (try conv => cbv))
    | (refine quo64 hE (by omega) (fun _ _ => ?_); (try conv => cbv))
    | (refine wrapU8 hE (by omega) (fun _ _ => ?_); (try conv => cbv))
    | (refine wrap64 hE (by omega) (fun _ _ => ?_); (try conv => cbv))
  · refine hK _ ?_
    rw [fText, if_pos (by assumption), if_pos (by assumption)]
    simp only [*, app_assoc]; rfl
  · refine hK _ ?_
    rw [fText, if_pos (by assumption), if_neg (by assumption)]
    simp only [*, app_assoc]; rfl
  · refine hK _ ?_
    rw [fText, if_neg (by assumption)]; rfl
theorem lawFindingText (k : Int) (a b : ByteArray) : AC Try.prog 5 [.agg [.int .i64 k, .str a, .str b]] id (.bool true) := by
  refine ac Try.func5 (by kernel_rfl) (.bool _) fun E K hE hK => ?_
  conv => cbv
  repeat' first
    | (refine idxV hE (by assumption) (by omega) (by assumption) ?_; (try conv => cbv))
    | (refine callI hE (szFinding_ _ _ _ _ (by decide)) (fun _ _ => ?_); (try conv => cbv))
    | (refine ltT hE (by omega) ?_; (try conv => cbv))
    | (refine ltF hE (by omega) ?_; (try conv => cbv))
    | (refine ltI hE (fun _ => ?_) (fun _ => ?_) <;> (try conv => cbv))
    | (refine leT hE (by omega) ?_; (try conv => cbv))
    | (refine leF hE (by omega) ?_; (try conv => cbv))
    | (refine leI hE (fun _ => ?_) (fun _ => ?_) <;> (try conv => cbv))
    | (refine eqT hE (by omega) ?_; (try conv => cbv))
    | (refine eqF hE (by omega) ?_; (try conv => cbv))
    | (refine eqI hE (fun _ => ?_) (fun _ => ?_) <;> (try conv => cbv))
    | (refine add64 hE (by omega) (fun _ _ => ?_); (try conv => cbv))
    | (refine sub64 hE (by omega) (fun _ _ => ?_); (try conv => cbv))
    | (refine addI hE (fun _ _ => ?_); (try conv => cbv))
    | (refine subI hE (fun _ _ => ?_); (try conv => cbv))
    | (refine lenL hE (by assumption) (fun _ _ _ => ?_); (try conv => cbv))
    | (refine idxL hE (by assumption) (by first | omega | (simp only [List.length_set, mix_len]; omega)) (fun _ _ => ?_); (try conv => cbv))
    | (refine idxFill hE (by assumption) (by omega) ?_; (try conv => cbv))
    | (refine idxI hE (by decide) (by rfl) ?_; (try conv => cbv))
    | (refine iteB (fun _ => ?_) (fun _ => ?_) <;> (try conv => cbv))
    | (refine maxI hE (fun _ _ => ?_); (try conv => cbv))
    | (refine minI hE (fun _ _ => ?_); (try conv => cbv))
    | (refine seqI hE (fun _ => ?_) (fun _ => ?_) <;> (try conv => cbv))
    | (refine scatI hE (by first | omega | (simp only [ByteArray.size, Array.size, List.length_cons, List.length_nil] at *; omega)) (fun _ _ _ => ?_); (try conv => cbv))
    | (refine slenI hE (fun _ _ _ => ?_); (try conv => cbv))
    | (refine sidxI hE (by omega) (fun _ _ _ _ => ?_); (try conv => cbv))
    | (refine needI hE (by first | decide | omega) ?_; (try conv => cbv))
    | (refine rem64 hE (by omega) (fun _ _ => ?_); (try conv => cbv))
    | (refine quo64 hE (by omega) (fun _ _ => ?_); (try conv => cbv))
    | (refine wrapU8 hE (by omega) (fun _ _ => ?_); (try conv => cbv))
    | (refine wrap64 hE (by omega) (fun _ _ => ?_); (try conv => cbv))
  · exact hK _ rfl
  · have hs : szF a b 1048576 = 1048576 - a.size - b.size ∧ ¬ szF a b 1048576 < 0 := by
      unfold szF at *
      split at * <;> (try split at *) <;> omega
    repeat' first
      | (refine idxV hE (by assumption) (by omega) (by assumption) ?_; (try conv => cbv))
      | (refine callI hE (toFinding_ _ _ _) (fun _ hy => ?_); subst hy; (try conv => cbv))
      | (refine callI hE (sFindingText_ _ _ _ (by omega) (by omega)) (fun _ _ => ?_); (try conv => cbv))
      | (refine callI hE (findingText_ _ _ _ (by omega) (by omega)) (fun _ _ => ?_); (try conv => cbv))
      | (refine ltT hE (by omega) ?_; (try conv => cbv))
      | (refine ltF hE (by omega) ?_; (try conv => cbv))
      | (refine ltI hE (fun _ => ?_) (fun _ => ?_) <;> (try conv => cbv))
      | (refine leT hE (by omega) ?_; (try conv => cbv))
      | (refine leF hE (by omega) ?_; (try conv => cbv))
      | (refine leI hE (fun _ => ?_) (fun _ => ?_) <;> (try conv => cbv))
      | (refine eqT hE (by omega) ?_; (try conv => cbv))
      | (refine eqF hE (by omega) ?_; (try conv => cbv))
      | (refine eqI hE (fun _ => ?_) (fun _ => ?_) <;> (try conv => cbv))
      | (refine add64 hE (by omega) (fun _ _ => ?_); (try conv => cbv))
      | (refine sub64 hE (by omega) (fun _ _ => ?_); (try conv => cbv))
      | (refine addI hE (fun _ _ => ?_); (try conv => cbv))
      | (refine subI hE (fun _ _ => ?_); (try conv => cbv))
      | (refine lenL hE (by assumption) (fun _ _ _ => ?_); (try conv => cbv))
      | (refine idxL hE (by assumption) (by first | omega | (simp only [List.length_set, mix_len]; omega)) (fun _ _ => ?_); (try conv => cbv))
      | (refine idxFill hE (by assumption) (by omega) ?_; (try conv => cbv))
      | (refine idxI hE (by decide) (by rfl) ?_; (try conv => cbv))
      | (refine iteB (fun _ => ?_) (fun _ => ?_) <;> (try conv => cbv))
      | (refine maxI hE (fun _ _ => ?_); (try conv => cbv))
      | (refine minI hE (fun _ _ => ?_); (try conv => cbv))
      | (refine seqI hE (fun _ => ?_) (fun _ => ?_) <;> (try conv => cbv))
      | (refine scatI hE (by first | omega | (simp only [ByteArray.size, Array.size, List.length_cons, List.length_nil] at *; omega)) (fun _ _ _ => ?_); (try conv => cbv))
      | (refine slenI hE (fun _ _ _ => ?_); (try conv => cbv))
      | (refine sidxI hE (by omega) (fun _ _ _ _ => ?_); (try conv => cbv))
      | (refine needI hE (by first | decide | omega) ?_; (try conv => cbv))
      | (refine rem64 hE (by omega) (fun _ _ => ?_); (try conv => cbv))
      | (refine quo64 hE (by omega) (fun _ _ => ?_); (try conv => cbv))
      | (refine wrapU8 hE (by omega) (fun _ _ => ?_); (try conv => cbv))
      | (refine wrap64 hE (by omega) (fun _ _ => ?_); (try conv => cbv))
    · exact hK _ rfl
    · simp_all
end Go.Proofs.Ytdmckfdecbhalaa
