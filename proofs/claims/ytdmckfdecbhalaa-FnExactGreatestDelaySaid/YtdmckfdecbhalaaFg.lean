/- Contracts: counting findings, the functions and the law. -/
import Derived.Test.YtdmckfdecbhalaaFf
namespace Go.Proofs.Ytdmckfdecbhalaa
open Go Go.RowKit Classical
set_option maxRecDepth 100000
set_option maxHeartbeats 2000000
set_option linter.unusedVariables false
set_option linter.unusedSimpArgs false
theorem sCountFindings_ {rs : List (List AV)} {t : Bool} {l : List Fnd} (hl : rs = l.map Fnd.cs) (hb0 : l.length ≤ 1048576) : AC Try.prog 25 [.sl t 3 rs] (fun l : List Int => .sl true 1 (l.map intR)) (counts l) := by
  refine ac Try.func25 (by kernel_rfl) (.ints _) fun E K hE hK => ?_
  conv => cbv
  refine makeI hE (by decide) fun es hes => ?_
  conv => cbv
  refine loopK hE (ι := Int × List (List AV)) [0, 3, 4] (fun p => ⟨reF _ [(0, .sl t 3 rs), (3, .ob 0), (4, .int .i64 p.1)], [.row 1 p.2]⟩) (fun p => (l.length - p.1).toNat) (fun p => (0 ≤ p.1 ∧ p.1 ≤ l.length) ∧ p.2 = (counts (l.take p.1.toNat)).map intR) [0] (by decide) (0, es) rfl ⟨by simp, hes⟩ fun p hi Kn hN => ?_
  obtain ⟨i, es'⟩ := p
  obtain ⟨⟨h0, h1⟩, hinv⟩ := hi
  simp only at h0 h1 hinv
  have hc := counts_ok (l.take i.toNat)
  have hc0 : ((l.take i.toNat).length : Int) = i := by simp; omega
  rw [hc0] at hc
  have hc9 := hc.1
  generalize hcc : counts (l.take i.toNat) = c at *
  conv => cbv
  repeat' first
    | (refine idxV hE (by assumption) (by omega) (by assumption) ?_; (try conv => cbv))
    | (refine idxL (R := Fnd.cs) hE (by assumption) (by first | omega | (simp only [List.length_set, mix_len]; omega)) ?_; rintro ⟨⟩ _; (try conv => cbv))
    | (refine callP hE (kind_ _) (fun _ => ?_) (fun _ => ?_) <;> (try conv => cbv))
    | (refine updL hE _ (by assumption) (by omega) (by assumption) (by exact Nat.le_of_ble_eq_true rfl) (by first | rfl | ((conv => lhs; cbv); rfl)) (fun _ _ => ?_); (try conv => cbv))
    | ( refine hN (_, _) _ [0] (by decide) rfl ⟨?_, ?_⟩ ?_)
    | (refine ltT hE (by omega) ?_; (try conv => cbv))
    | (refine ltF hE (by omega) ?_; (try conv => cbv))
    | (refine ltI hE (fun _ => ?_) (fun _ => ?_) <;> (try conv => cbv))
    | (refine leT hE (by omega) ?_; (try conv => cbv))
    | (refine leF hE (by omega) ?_; (try conv => cbv))
    | (refine leI hE (fun _ => ?_) (fun _ => ?_) <;> (try conv => cbv))
    | (refine eqT hE (by omega) ?_; (try conv => cbv))
    | (refine eqF hE (by omega) ?_; (try conv => cbv))
    | (refine eqI hE (fun _ => ?_) (fun _ => ?_) <;> (try conv => cbv))
    | (refine add64 hE (by omega) (fun _ _ => ?_); (try conv => cbv))
    | (refine sub64 hE (by omega) (fun _ _ => ?_); (try conv => cbv))
    | (refine addI hE (fun _ _ => ?_); (try conv => cbv))
    | (refine subI hE (fun _ _ => ?_); (try conv => cbv))
    | (refine lenL hE (by assumption) (fun _ _ _ => ?_); (try conv => cbv))
    | (refine idxL hE (by assumption) (by first | omega | (simp only [List.length_set, mix_len]; omega)) (fun _ _ => ?_); (try conv => cbv))
    | (refine idxFill hE (by assumption) (by omega) ?_; (try conv => cbv))
    | (refine idxI hE (by decide) (by rfl) ?_; (try conv => cbv))
    | (refine iteB (fun _ => ?_) (fun _ => ?_) <;> (try conv => cbv))
    | (refine maxI hE (fun _ _ => ?_); (try conv => cbv))
    | (refine minI hE (fun _ _ => ?_); (try conv => cbv))
    | (refine seqI hE (fun _ => ?_) (fun _ => ?_) <;> (try conv => cbv))
    | (refine scatI hE (by first | omega | (simp only [ByteArray.size, Array.size, List.length_cons, List.length_nil] at *; omega)) (fun _ _ _ => ?_); (try conv => cbv))
    | (refine slenI hE (fun _ _ _ => ?_); (try conv => cbv))
    | (refine sidxI hE (by omega) (fun _ _ _ _ => ?_); (try conv => cbv))
    | (refine needI hE (by first | decide | omega) ?_; (try conv => cbv))
    | (refine rem64 hE (by omega) (fun _ _ => ?_); (try conv => cbv))
    | (refine quo64 hE (by omega) (fun _ _ => ?_); (try conv => cbv))
    | (refine wrapU8 hE (by omega) (fun _ _ => ?_); (try conv => cbv))
    | (refine wrap64 hE (by omega) (fun _ _ => ?_); (try conv => cbv))
  · simp only; omega
  · simp only
    rename_i f1 f2 f3 hx hf v hv n1 hn1 e1 he1 v0 hv0 n2 hn2 e2 he2 b hb
    rw [he2, hb, counts_take h0 hx, hcc]
    exact congrArg (List.map intR) (stepF_s (f := ⟨f1, f2, f3⟩) hc (by omega) hf hv hv0 hn1 hn2)
  · simp only; omega
  · simp only; omega
  · simp only
    rename_i f1 f2 f3 hx hf b hb
    rw [hinv, hb, counts_take h0 hx, hcc, stepF, if_neg hf]
  · simp only; omega
  · refine hK _ ?_
    rw [hinv, ← hcc, List.take_of_length_le (by omega)]; rfl
theorem countFindings_ {rs : List (List AV)} {t : Bool} {l : List Fnd} (hl : rs = l.map Fnd.cs) (hb0 : l.length ≤ 1048576) : AC Try.prog 27 [.sl t 3 rs] (fun l : List Int => .sl true 1 (l.map intR)) (counts l) := by
  refine ac Try.func27 (by kernel_rfl) (.ints _) fun E K hE hK => ?_
  conv => cbv
  refine makeI hE (by decide) fun es hes => ?_
  conv => cbv
  refine lenL hE hl fun n hn hb => ?_
  conv => cbv
  refine loopK hE (ι := Int × List (List AV)) [0, 3, 7, 8, 9] (fun p => ⟨reF _ [(0, .sl t 3 rs), (3, .ob 0), (7, .sl t 3 rs), (8, .int .i64 n), (9, .int .i64 p.1)], [.row 1 p.2]⟩) (fun p => (l.length - p.1).toNat) (fun p => (0 ≤ p.1 ∧ p.1 ≤ l.length) ∧ p.2 = (counts (l.take p.1.toNat)).map intR) [0] (by decide) (0, es) rfl ⟨by simp, hes⟩ fun p hi Kn hN => ?_
  obtain ⟨i, es'⟩ := p
  obtain ⟨⟨h0, h1⟩, hinv⟩ := hi
  simp only at h0 h1 hinv
  have hc := counts_ok (l.take i.toNat)
  have hc0 : ((l.take i.toNat).length : Int) = i := by simp; omega
  rw [hc0] at hc
  have hc9 := hc.1
  generalize hcc : counts (l.take i.toNat) = c at *
  conv => cbv
  repeat' first
    | (refine idxV hE (by assumption) (by omega) (by assumption) ?_; (try conv => cbv))
    | (refine idxL (R := Fnd.cs) hE (by assumption) (by first | omega | (simp only [List.length_set, mix_len]; omega)) ?_; rintro ⟨⟩ _; (try conv => cbv))
    | (refine callP hE (within_ _ _ _) (fun _ => ?_) (fun _ => ?_) <;> (try conv => cbv))
    | (refine updL hE _ (by assumption) (by omega) (by assumption) (by exact Nat.le_of_ble_eq_true rfl) (by first | rfl | ((conv => lhs; cbv); rfl)) (fun _ _ => ?_); (try conv => cbv))
    | ( refine hN (_, _) _ [0] (by decide) rfl ⟨?_, ?_⟩ ?_)
    | (refine ltT hE (by omega) ?_; (try conv => cbv))
    | (refine ltF hE (by omega) ?_; (try conv => cbv))
    | (refine ltI hE (fun _ => ?_) (fun _ => ?_) <;> (try conv => cbv))
    | (refine leT hE (by omega) ?_; (try conv => cbv))
    | (refine leF hE (by omega) ?_; (try conv => cbv))
    | (refine leI hE (fun _ => ?_) (fun _ => ?_) <;> (try conv => cbv))
    | (refine eqT hE (by omega) ?_; (try conv => cbv))
    | (refine eqF hE (by omega) ?_; (try conv => cbv))
    | (refine eqI hE (fun _ => ?_) (fun _ => ?_) <;> (try conv => cbv))
    | (refine add64 hE (by omega) (fun _ _ => ?_); (try conv => cbv))
    | (refine sub64 hE (by omega) (fun _ _ => ?_); (try conv => cbv))
    | (refine addI hE (fun _ _ => ?_); (try conv => cbv))
    | (refine subI hE (fun _ _ => ?_); (try conv => cbv))
    | (refine lenL hE (by assumption) (fun _ _ _ => ?_); (try conv => cbv))
    | (refine idxL hE (by assumption) (by first | omega | (simp only [List.length_set, mix_len]; omega)) (fun _ _ => ?_); (try conv => cbv))
    | (refine idxFill hE (by assumption) (by omega) ?_; (try conv => cbv))
    | (refine idxI hE (by decide) (by rfl) ?_; (try conv => cbv))
    | (refine iteB (fun _ => ?_) (fun _ => ?_) <;> (try conv => cbv))
    | (refine maxI hE (fun _ _ => ?_); (try conv => cbv))
    | (refine minI hE (fun _ _ => ?_); (try conv => cbv))
    | (refine seqI hE (fun _ => ?_) (fun _ => ?_) <;> (try conv => cbv))
    | (refine scatI hE (by first | omega | (simp only [ByteArray.size, Array.size, List.length_cons, List.length_nil] at *; omega)) (fun _ _ _ => ?_); (try conv => cbv))
    | (refine slenI hE (fun _ _ _ => ?_); (try conv => cbv))
    | (refine sidxI hE (by omega) (fun _ _ _ _ => ?_); (try conv => cbv))
    | (refine needI hE (by first | decide | omega) ?_; (try conv => cbv))
    | (refine rem64 hE (by omega) (fun _ _ => ?_); (try conv => cbv))
    | (refine quo64 hE (by omega) (fun _ _ => ?_); (try conv => cbv))
    | (refine wrapU8 hE (by omega) (fun _ _ => ?_); (try conv => cbv))
    | (refine wrap64 hE (by omega) (fun _ _ => ?_); (try conv => cbv))
  · simp only; omega
  · simp only
    rename_i f1 f2 f3 hx hf v hv n1 hn1 e1 he1 v0 hv0 n2 hn2 e2 he2 b hb
    rw [he2, hb, counts_take h0 hx, hcc]
    exact congrArg (List.map intR) (stepF_i (f := ⟨f1, f2, f3⟩) hc (by omega) hf hv hv0 hn1 hn2)
  · simp only; omega
  · simp only; omega
  · simp only
    rename_i f1 f2 f3 hx hf b hb
    rw [hinv, hb, counts_take h0 hx, hcc, stepF, if_neg hf]
  · simp only; omega
  · refine hK _ ?_
    rw [hinv, ← hcc, List.take_of_length_le (by omega)]; rfl
theorem szFs_ok {l : List Fnd} {n : Int} (h : ¬ (if n - (l.length : Int) < 0 then (-1 : Int) else szFs l (n - l.length)) < 0) : l.length ≤ n := by
  split at h <;> omega
theorem lawCountFindings {rs : List (List AV)} {l : List Fnd} (hl : rs = l.map Fnd.cs) : AC Try.prog 7 [.sl false 3 rs] id (.bool true) := by
  refine ac Try.func7 (by kernel_rfl) (.bool _) fun E K hE hK => ?_
  conv => cbv
  repeat' first
    | (refine idxV hE (by assumption) (by omega) (by assumption) ?_; (try conv => cbv))
    | (refine callI hE (szFindingS_ _ (by assumption) (by decide)) (fun _ _ => ?_); (try conv => cbv))
    | (refine ltT hE (by omega) ?_; (try conv => cbv))
    | (refine ltF hE (by omega) ?_; (try conv => cbv))
    | (refine ltI hE (fun _ => ?_) (fun _ => ?_) <;> (try conv => cbv))
    | (refine leT hE (by omega) ?_; (try conv => cbv))
    | (refine leF hE (by omega) ?_; (try conv => cbv))
    | (refine leI hE (fun _ => ?_) (fun _ => ?_) <;> (try conv => cbv))
    | (refine eqT hE (by omega) ?_; (try conv => cbv))
    | (refine eqF hE (by omega) ?_; (try conv => cbv))
    | (refine eqI hE (fun _ => ?_) (fun _ => ?_) <;> (try conv => cbv))
    | (refine add64 hE (by omega) (fun _ _ => ?_); (try conv => cbv))
    | (refine sub64 hE (by omega) (fun _ _ => ?_); (try conv => cbv))
    | (refine addI hE (fun _ _ => ?_); (try conv => cbv))
    | (refine subI hE (fun _ _ => ?_); (try conv => cbv))
    | (refine lenL hE (by assumption) (fun _ _ _ => ?_); (try conv => cbv))
    | (refine idxL hE (by assumption) (by first | omega | (simp only [List.length_set, mix_len]; omega)) (fun _ _ => ?_); (try conv => cbv))
    | (refine idxFill hE (by assumption) (by omega) ?_; (try conv => cbv))
    | (refine idxI hE (by decide) (by rfl) ?_; (try conv => cbv))
    | (refine iteB (fun _ => ?_) (fun _ => ?_) <;> (try conv => cbv))
    | (refine maxI hE (fun _ _ => ?_); (try conv => cbv))
    | (refine minI hE (fun _ _ => ?_); (try conv => cbv))
    | (refine seqI hE (fun _ => ?_) (fun _ => ?_) <;> (try conv => cbv))
    | (refine scatI hE (by first | omega | (simp only [ByteArray.size, Array.size, List.length_cons, List.length_nil] at *; omega)) (fun _ _ _ => ?_); (try conv => cbv))
    | (refine slenI hE (fun _ _ _ => ?_); (try conv => cbv))
    | (refine sidxI hE (by omega) (fun _ _ _ _ => ?_); (try conv => cbv))
    | (refine needI hE (by first | decide | omega) ?_; (try conv => cbv))
    | (refine rem64 hE (by omega) (fun _ _ => ?_); (try conv => cbv))
    | (refine quo64 hE (by omega) (fun _ _ => ?_); (try conv => cbv))
    | (refine wrapU8 hE (by omega) (fun _ _ => ?_); (try conv => cbv))
    | (refine wrap64 hE (by omega) (fun _ _ => ?_); (try conv => cbv))
  · exact hK _ rfl
  · rename_i y hy h0
    have hb : l.length ≤ 1048576 := by
      have := szFs_ok (l := l) (n := 1048576) (by omega); omega
    have h9 := (counts_ok l).1
    refine callR hE (toFindingS_ hl hb) fun rs1 h1 => ?_
    conv => cbv
    refine callR hE (sCountFindings_ h1 hb) fun w hw => ?_
    conv => cbv
    refine callR hE (toFindingS_ hl hb) fun rs2 h2 => ?_
    conv => cbv
    refine callR hE (countFindings_ h2 hb) fun g hg => ?_
    conv => cbv
    refine callP hE (eqInt64S_ hg hw) (fun _ => ?_) (fun h => (h rfl).elim)
    conv => cbv
    refine callR hE (toFindingS_ hl hb) fun rs3 h3 => ?_
    conv => cbv
    refine callP hE (eqFindingS_ h2 h3) (fun _ => ?_) (fun h => (h rfl).elim)
    conv => cbv
    refine callMI hE (markFindingS_ 1 h2 (by decide) (by omega)) fun r ys ⟨hr, m, rsm, hm, hrm, hys⟩ => ?_
    generalize hgk : (1 + 3 * (l.length : Int)) = k1 at hr
    subst hr hys
    conv => cbv
    refine sameI hE (by rw [hrm, h2, List.length_map, List.length_map, hm]) ?_
    conv => cbv
    refine ltF hE (by omega) ?_
    conv => cbv
    refine callP hE (eqInt64S_ hg hw) (fun _ => ?_) (fun h => (h rfl).elim)
    conv => cbv
    refine callMI hE (markInt64S_ 1 hg (by decide) (by omega)) fun r ys ⟨hr, rsg, hrg, hys⟩ => ?_
    generalize hgk2 : (1 + ((counts l).length : Int)) = k2 at hr
    subst hr hys
    conv => cbv
    refine sameI hE (by rw [hrg, hg, List.length_map, List.length_map, markL_len]) ?_
    conv => cbv
    refine callI hE (heldInt64S_ 1 hrg (by decide) (by omega)) fun q hq => ?_
    conv => cbv
    refine ltF hE (by omega) ?_
    conv => cbv
    refine eqT hE (by omega) ?_
    conv => cbv
    refine callR hE (toFindingS_ hl hb) fun rs4 h4 => ?_
    conv => cbv
    refine callR hE (countFindings_ h4 hb) fun g2 hg2 => ?_
    conv => cbv
    refine callP hE (eqInt64S_ hg2 hw) (fun _ => ?_) (fun h => (h rfl).elim)
    conv => cbv
    refine callI hE (heldInt64S_ 1 hrg (by decide) (by omega)) fun q' hq' => ?_
    conv => cbv
    refine ltF hE (by omega) ?_
    conv => cbv
    refine eqT hE (by omega) ?_
    conv => cbv
    exact hK _ rfl
end Go.Proofs.Ytdmckfdecbhalaa
