/- Contracts of small functions. -/
import Derived.Test.YtdmckfdecbhalaaAxUse
namespace Go.Proofs.Ytdmckfdecbhalaa
open Go Go.RowKit

set_option maxRecDepth 100000 in
theorem at_ (i n : Int) : AC Try.prog 67 [.int .i64 i, .int .i64 n] AV.bool (decide (0 ≤ i) && decide (i < n)) := by
  refine ac Try.func67 (by kernel_rfl) (.bool _) fun E K hE hK => ?_
  cbv
  refine br (fun h => ?_) (fun h => ?_)
  · rewrite [h]
    cbv
    refine hK _ ?_
    subst hE
    simp only [stdE] at h ⊢
    simp_all [atup] <;> omega
  · rewrite [h]
    cbv
    refine hK _ ?_
    subst hE
    simp only [stdE] at h ⊢
    simp_all [atup] <;> omega

theorem pick_ (i : Int) (t : Bool) (es : List ByteArray) : AC Try.prog 42 [.int .i64 i, .sl t 1 (es.map fun s => [.str s])] AV.str (if 0 ≤ i ∧ i < es.length then es.getD i.toNat ⟨#[]⟩ else ⟨#[]⟩) := by
  refine ac Try.func42 (by kernel_rfl) (.str _) fun E K hE hK => ?_
  generalize hes : (es.map fun s => [AV.str s]) = rs
  cbv
  refine lenI hE fun n hn hb => ?_
  cbv
  refine callI hE (at_ i n) fun b hb2 => ?_
  have hl : rs.length = es.length := by rw [← hes, List.length_map]
  rw [hn, hl] at hb2
  cbv
  refine br (fun h => ?_) (fun h => ?_)
  · rewrite [h]
    cbv
    refine hK _ ?_
    have h2 : b = false := notT hE h
    rw [h2] at hb2
    rw [if_neg (by intro h3; simp [h3] at hb2)]
    rfl
  · rewrite [h]
    cbv
    have h2 : b = true := notF hE h
    rw [h2] at hb2
    have h3 : 0 ≤ i ∧ i < es.length := by simpa using hb2.symm
    have h4 : i.toNat < es.length := by omega
    obtain ⟨s, hs⟩ : ∃ s, es[i.toNat]? = some s := ⟨_, List.getElem?_eq_getElem h4⟩
    refine idxI hE h3.1 (e := [.str s]) (by rw [← hes]; simp [hs]) ?_
    cbv
    refine hK _ ?_
    rw [if_pos h3, List.getD_eq_getElem?_getD, hs]
    rfl

def fnames : List ByteArray := ["", "list", "missing", "side", "confused", "sector", "danger", "rhythm", "voyage"].map String.toUTF8

def fname (k : Int) : ByteArray := if 0 ≤ k ∧ k < 9 then fnames.getD k.toNat ⟨#[]⟩ else ⟨#[]⟩

theorem findingName_ (k : Int) : AC Try.prog 11 [.int .i64 k] AV.str (fname k) := by
  refine ac Try.func11 (by kernel_rfl) (.str _) fun E K hE hK => ?_
  cbv
  refine callI hE (pick_ k true fnames) fun s hs => ?_
  cbv
  refine hK _ ?_
  rw [hs]
  rfl
theorem in_ (x a b : Int) : AC Try.prog 66 [.int .i64 x, .int .i64 a, .int .i64 b] AV.bool (decide (a ≤ x) && decide (x ≤ b)) := by
  refine ac Try.func66 (by kernel_rfl) (.bool _) fun E K hE hK => ?_
  cbv
  refine br (fun h => ?_) (fun h => ?_)
  · rewrite [h]
    cbv
    refine hK _ ?_
    subst hE
    simp only [stdE] at h ⊢
    simp_all [atup] <;> omega
  · rewrite [h]
    cbv
    refine hK _ ?_
    subst hE
    simp only [stdE] at h ⊢
    simp_all [atup] <;> omega
theorem kind_ (k : Int) : AC Try.prog 40 [.int .i64 k] AV.bool (decide (1 ≤ k) && decide (k ≤ 8)) := by
  refine ac Try.func40 (by kernel_rfl) (.bool _) fun E K hE hK => ?_
  cbv
  refine callI hE (in_ k 1 8) fun s hs => ?_
  cbv
  exact hK _ (by rw [hs]; rfl)
theorem NoB.strs (es : List ByteArray) : NoB (.sl true 1 (es.map fun s => [.str s])) := .sl _ _ fun i j e c h1 h2 => by
  rw [List.getElem?_map] at h1
  cases h : es[i]? with
  | none => rw [h] at h1; cases h1
  | some x =>
    rw [h] at h1; cases h1
    cases j with
    | zero => cases h2; exact .str _
    | succ j => simp at h2
theorem names_ : AC Try.prog 41 [] (fun es : List ByteArray => AV.sl true 1 (es.map fun s => [.str s])) fnames := by
  refine ac Try.func41 (by kernel_rfl) (.strs _) fun E K hE hK => ?_
  cbv
  exact hK _ rfl
theorem sFindingName_ (k : Int) : AC Try.prog 10 [.int .i64 k] AV.str (fname k) := by
  refine ac Try.func10 (by kernel_rfl) (.str _) fun E K hE hK => ?_
  cbv
  refine callI hE (kind_ k) fun b hb => ?_
  cbv
  refine br (fun h => ?_) (fun h => ?_)
  · rewrite [h]
    cbv
    refine hK _ ?_
    have h2 : b = false := notT hE h
    rw [h2] at hb
    have h3 : ¬ (1 ≤ k ∧ k ≤ 8) := fun h => by simp [h] at hb
    unfold fname
    split
    · have : k = 0 := by omega
      subst this; rfl
    · rfl
  · rewrite [h]
    cbv
    have h2 : b = true := notF hE h
    rw [h2] at hb
    have h3 : 1 ≤ k ∧ k ≤ 8 := by simpa using hb.symm
    refine callI hE names_ fun es hes => ?_
    obtain ⟨s, hs⟩ : ∃ s, es[k.toNat]? = some s := ⟨_, List.getElem?_eq_getElem (by rw [hes]; show k.toNat < 9; omega)⟩
    generalize hrs : (es.map fun s => [AV.str s]) = rs
    have hr : rs[k.toNat]? = some [.str s] := by rw [← hrs]; simp [hs]
    cbv
    refine idxI hE (by omega) hr ?_
    cbv
    refine idxI hE (by omega) hr ?_
    cbv
    refine hK _ ?_
    unfold fname
    rw [if_pos (by omega), List.getD_eq_getElem?_getD, ← hes, hs]
    rfl
theorem seqT {E : Env} {P : Program} (hE : E = stdE P) (a : ByteArray) : E.seq a a = true := by subst hE; simp [stdE]
theorem lawFindingName (k : Int) : AC Try.prog 3 [.int .i64 k] id (.bool true) := by
  refine ac Try.func3 (by kernel_rfl) (.bool _) fun E K hE hK => ?_
  cbv
  refine callI hE (sFindingName_ k) fun a ha => ?_
  cbv
  refine callI hE (findingName_ k) fun b hb => ?_
  rw [← ha] at hb
  subst hb
  cbv
  refine br (fun h => ?_) (fun h => ?_)
  · have h1 := notT hE h
    have h2 := seqT hE b
    exact absurd (h2.symm.trans h1) (by simp)
  · rewrite [h]
    cbv
    exact hK _ rfl
end Go.Proofs.Ytdmckfdecbhalaa
