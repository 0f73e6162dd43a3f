/- Contracts: the laws' helpers over visits; the laws of late visits. -/
import Derived.Test.YtoabioecoollpaaGreatFb
namespace Go.Proofs.YtoabioecoollpaaGreat
open Go Go.RowKit Classical
set_option maxRecDepth 100000
set_option maxHeartbeats 2000000
set_option linter.unusedVariables false
set_option linter.unusedSimpArgs false
def szN (n : Int) (k : Nat) : Int := if n - k < 0 then -1 else n - k
theorem szVisitS_ {rs : List (List AV)} {t : Bool} {l : List Vis} (n : Int) (hl : rs = l.map Vis.cs) (hn : 0 ≤ n ∧ n ≤ 1048576) : AC Tryz.prog 13 [.sl t 3 rs, .int .i64 n] (AV.int .i64) (szN n l.length) := by
  refine ac Tryz.func13 (by kernel_rfl) (.int _ _) fun E K hE hK => ?_
  conv => cbv
  repeat' first
    | ((first
     | refine idxV hE (by assumption) (by omega) (by assumption) ?_
     | refine ltT hE (by omega) ?_
     | refine ltF hE (by omega) ?_
     | refine ltI hE (fun _ => ?_) (fun _ => ?_)
     | refine leT hE (by omega) ?_
     | refine leF hE (by omega) ?_
     | refine leI hE (fun _ => ?_) (fun _ => ?_)
     | refine eqT hE (by omega) ?_
     | refine eqF hE (by omega) ?_
     | refine eqI hE (fun _ => ?_) (fun _ => ?_)
     | refine add64 hE (by omega) (fun _ _ => ?_)
     | refine sub64 hE (by omega) (fun _ _ => ?_)
     | refine addI hE (fun _ _ => ?_)
     | refine subI hE (fun _ _ => ?_)
     | refine lenL hE (by assumption) (fun _ _ _ => ?_)
     | refine len0 hE (fun _ _ => ?_)
     | refine idxL hE (by assumption) (by first | omega | (simp only [List.length_set, mix_len]; omega)) (fun _ _ => ?_)
     | refine idxFill hE (by assumption) (by omega) ?_
     | refine idxI hE (by decide) (by rfl) ?_
     | refine iteB (fun _ => ?_) (fun _ => ?_)
     | refine maxI hE (fun _ _ => ?_)
     | refine minI hE (fun _ _ => ?_)
     | refine seqI hE (fun _ => ?_) (fun _ => ?_)
     | refine scatI hE (by first | omega | (simp only [ByteArray.size, Array.size, List.length_cons, List.length_nil] at *; omega)) (fun _ _ _ => ?_)
     | refine slenI hE (fun _ _ _ => ?_)
     | refine sidxI hE (by omega) (fun _ _ _ _ => ?_)
     | refine needI hE (by first | decide | omega) ?_
     | refine rem64 hE (by omega) (fun _ _ => ?_)
     | refine quo64 hE (by omega) (fun _ _ => ?_)
     | refine wrapU8 hE (by omega) (fun _ _ => ?_)
     | refine wrap64 hE (by omega) (fun _ _ => ?_)
     | refine noownI hE (by simp [AV.isOwn]) ?_) <;> (try conv => cbv))
  all_goals (try clear hN)
  all_goals (refine hK _ ?_; first | (simp only [atup]; grind [szN]) | (simp_all [atup, szN]; done))
theorem toVisitS_ {rs : List (List AV)} {t : Bool} {l : List Vis} (hl : rs = l.map Vis.cs) (hb0 : l.length ≤ 1048576) : AC Tryz.prog 23 [.sl t 3 rs] (fun l : List Vis => .sl true 3 (l.map Vis.cs)) l := by
  refine ac Tryz.func23 (by kernel_rfl) (.rows .vis) fun E K hE hK => ?_
  conv => cbv
  refine lenL hE hl fun n hn hb => ?_
  conv => cbv
  refine makeL hE (l := l) Vis.cs hn rfl (by omega) fun es hes => ?_
  conv => cbv
  refine loopK hE (ι := Int × List (List AV)) [0, 3, 4] (fun p => ⟨reF _ [(0, .sl t 3 rs), (3, .ob 0), (4, .int .i64 p.1)], [.row 3 p.2]⟩) (fun p => (l.length - p.1).toNat) (fun p => 0 ≤ p.1 ∧ p.2 = fillRow Vis.cs [.int .i64 0, .int .i64 0, .int .i64 0] l p.1) [0] (by decide) (0, es) rfl ⟨by simp, hes⟩ fun p hi Kn hN => ?_
  obtain ⟨i, es'⟩ := p
  obtain ⟨h0, hinv⟩ := hi
  simp only at h0 hinv
  conv => cbv
  repeat' first
    | (refine updFill (R := Vis.cs) hE (by assumption) (by omega) (by assumption) (by exact Nat.le_refl _) (by rfl) (fun _ _ => ?_); (try conv => cbv))
    | ( refine hN (_, _) _ [0] (by decide) rfl ⟨?_, ?_⟩ ?_)
    | ((first
     | refine idxV hE (by assumption) (by omega) (by assumption) ?_
     | (refine idxL (R := Vis.cs) hE (by assumption) (by first | omega | (simp only [List.length_set, mix_len]; omega)) ?_; rintro ⟨⟩ _)
     | (refine callI hE (toVisit_ _ _ _) (fun _ hy => ?_); subst hy)
     | refine ltT hE (by omega) ?_
     | refine ltF hE (by omega) ?_
     | refine ltI hE (fun _ => ?_) (fun _ => ?_)
     | refine leT hE (by omega) ?_
     | refine leF hE (by omega) ?_
     | refine leI hE (fun _ => ?_) (fun _ => ?_)
     | refine eqT hE (by omega) ?_
     | refine eqF hE (by omega) ?_
     | refine eqI hE (fun _ => ?_) (fun _ => ?_)
     | refine add64 hE (by omega) (fun _ _ => ?_)
     | refine sub64 hE (by omega) (fun _ _ => ?_)
     | refine addI hE (fun _ _ => ?_)
     | refine subI hE (fun _ _ => ?_)
     | refine lenL hE (by assumption) (fun _ _ _ => ?_)
     | refine len0 hE (fun _ _ => ?_)
     | refine idxL hE (by assumption) (by first | omega | (simp only [List.length_set, mix_len]; omega)) (fun _ _ => ?_)
     | refine idxFill hE (by assumption) (by omega) ?_
     | refine idxI hE (by decide) (by rfl) ?_
     | refine iteB (fun _ => ?_) (fun _ => ?_)
     | refine maxI hE (fun _ _ => ?_)
     | refine minI hE (fun _ _ => ?_)
     | refine seqI hE (fun _ => ?_) (fun _ => ?_)
     | refine scatI hE (by first | omega | (simp only [ByteArray.size, Array.size, List.length_cons, List.length_nil] at *; omega)) (fun _ _ _ => ?_)
     | refine slenI hE (fun _ _ _ => ?_)
     | refine sidxI hE (by omega) (fun _ _ _ _ => ?_)
     | refine needI hE (by first | decide | omega) ?_
     | refine rem64 hE (by omega) (fun _ _ => ?_)
     | refine quo64 hE (by omega) (fun _ _ => ?_)
     | refine wrapU8 hE (by omega) (fun _ _ => ?_)
     | refine wrap64 hE (by omega) (fun _ _ => ?_)
     | refine noownI hE (by simp [AV.isOwn]) ?_) <;> (try conv => cbv))
  · omega
  · grind
  · omega
  · refine hK _ ?_
    rw [hinv, fillRow_all (by omega)]; rfl
theorem eqVisit_ (a e l a' e' l' : Int) : AC Tryz.prog 82 [.agg [.int .i64 a, .int .i64 e, .int .i64 l], .agg [.int .i64 a', .int .i64 e', .int .i64 l']] AV.bool (bP (a = a' ∧ e = e' ∧ l = l')) := by
  refine ac Tryz.func82 (by kernel_rfl) (.bool _) fun E K hE hK => ?_
  conv => cbv
  repeat' first
    | ((first
     | refine idxV hE (by assumption) (by omega) (by assumption) ?_
     | refine ltT hE (by omega) ?_
     | refine ltF hE (by omega) ?_
     | refine ltI hE (fun _ => ?_) (fun _ => ?_)
     | refine leT hE (by omega) ?_
     | refine leF hE (by omega) ?_
     | refine leI hE (fun _ => ?_) (fun _ => ?_)
     | refine eqT hE (by omega) ?_
     | refine eqF hE (by omega) ?_
     | refine eqI hE (fun _ => ?_) (fun _ => ?_)
     | refine add64 hE (by omega) (fun _ _ => ?_)
     | refine sub64 hE (by omega) (fun _ _ => ?_)
     | refine addI hE (fun _ _ => ?_)
     | refine subI hE (fun _ _ => ?_)
     | refine lenL hE (by assumption) (fun _ _ _ => ?_)
     | refine len0 hE (fun _ _ => ?_)
     | refine idxL hE (by assumption) (by first | omega | (simp only [List.length_set, mix_len]; omega)) (fun _ _ => ?_)
     | refine idxFill hE (by assumption) (by omega) ?_
     | refine idxI hE (by decide) (by rfl) ?_
     | refine iteB (fun _ => ?_) (fun _ => ?_)
     | refine maxI hE (fun _ _ => ?_)
     | refine minI hE (fun _ _ => ?_)
     | refine seqI hE (fun _ => ?_) (fun _ => ?_)
     | refine scatI hE (by first | omega | (simp only [ByteArray.size, Array.size, List.length_cons, List.length_nil] at *; omega)) (fun _ _ _ => ?_)
     | refine slenI hE (fun _ _ _ => ?_)
     | refine sidxI hE (by omega) (fun _ _ _ _ => ?_)
     | refine needI hE (by first | decide | omega) ?_
     | refine rem64 hE (by omega) (fun _ _ => ?_)
     | refine quo64 hE (by omega) (fun _ _ => ?_)
     | refine wrapU8 hE (by omega) (fun _ _ => ?_)
     | refine wrap64 hE (by omega) (fun _ _ => ?_)
     | refine noownI hE (by simp [AV.isOwn]) ?_) <;> (try conv => cbv))
  all_goals (try clear hN)
  all_goals first
    | (omega)
    | (refine finB hK (bP_true.2 ?_); first | omega | grind)
    | (refine finB hK (bP_false.2 ?_); first | omega | (intro h; grind))
    | (refine ⟨by omega, Up.succ (by assumption) ?_ (by assumption)⟩; grind)
    | (refine hK _ ?_; simp_all [atup]; done)
    | (grind)
theorem eqVisitS_ {rs rs' : List (List AV)} {t t' : Bool} {l m : List Vis} (hl : rs = l.map Vis.cs) (hm : rs' = m.map Vis.cs) : AC Tryz.prog 33 [.sl t 3 rs, .sl t' 3 rs'] AV.bool (bP (l = m)) := by
  refine ac Tryz.func33 (by kernel_rfl) (.bool _) fun E K hE hK => ?_
  conv => cbv
  refine lenL hE hl fun n hn hb => ?_
  conv => cbv
  refine lenL hE hm fun n' hn' hb' => ?_
  conv => cbv
  refine eqI hE (fun he => ?_) (fun he => ?_) <;> conv => cbv
  · refine loopK hE (ι := Int) [0, 1, 5] (fun i => ⟨reF _ [(0, .sl t 3 rs), (1, .sl t' 3 rs'), (5, .int .i64 i)], []⟩) (fun i => (l.length - i).toNat) (fun i => 0 ≤ i ∧ Up (fun j => l[j]? = m[j]?) i) [] (by decide) 0 rfl ⟨by omega, .zero (by omega)⟩ fun i hi Kn hN => ?_
    obtain ⟨h0, hinv⟩ := hi
    conv => cbv
    repeat' first
      | ( refine hN _ _ [] (by decide) rfl ⟨by omega, ?_⟩ ?_)
      | ((first
       | refine idxV hE (by assumption) (by omega) (by assumption) ?_
       | refine callP hE (eqVisit_ _ _ _ _ _ _) (fun _ => ?_) (fun _ => ?_)
       | (refine idxL (R := Vis.cs) hE (by assumption) (by first | omega | (simp only [List.length_set, mix_len]; omega)) ?_; rintro ⟨⟩ _)
       | refine ltT hE (by omega) ?_
       | refine ltF hE (by omega) ?_
       | refine ltI hE (fun _ => ?_) (fun _ => ?_)
       | refine leT hE (by omega) ?_
       | refine leF hE (by omega) ?_
       | refine leI hE (fun _ => ?_) (fun _ => ?_)
       | refine eqT hE (by omega) ?_
       | refine eqF hE (by omega) ?_
       | refine eqI hE (fun _ => ?_) (fun _ => ?_)
       | refine add64 hE (by omega) (fun _ _ => ?_)
       | refine sub64 hE (by omega) (fun _ _ => ?_)
       | refine addI hE (fun _ _ => ?_)
       | refine subI hE (fun _ _ => ?_)
       | refine lenL hE (by assumption) (fun _ _ _ => ?_)
       | refine len0 hE (fun _ _ => ?_)
       | refine idxL hE (by assumption) (by first | omega | (simp only [List.length_set, mix_len]; omega)) (fun _ _ => ?_)
       | refine idxFill hE (by assumption) (by omega) ?_
       | refine idxI hE (by decide) (by rfl) ?_
       | refine iteB (fun _ => ?_) (fun _ => ?_)
       | refine maxI hE (fun _ _ => ?_)
       | refine minI hE (fun _ _ => ?_)
       | refine seqI hE (fun _ => ?_) (fun _ => ?_)
       | refine scatI hE (by first | omega | (simp only [ByteArray.size, Array.size, List.length_cons, List.length_nil] at *; omega)) (fun _ _ _ => ?_)
       | refine slenI hE (fun _ _ _ => ?_)
       | refine sidxI hE (by omega) (fun _ _ _ _ => ?_)
       | refine needI hE (by first | decide | omega) ?_
       | refine rem64 hE (by omega) (fun _ _ => ?_)
       | refine quo64 hE (by omega) (fun _ _ => ?_)
       | refine wrapU8 hE (by omega) (fun _ _ => ?_)
       | refine wrap64 hE (by omega) (fun _ _ => ?_)
       | refine noownI hE (by simp [AV.isOwn]) ?_) <;> (try conv => cbv))
    · refine hinv.succ ?_ (by assumption); grind
    · omega
    · refine finB hK (bP_false.2 fun h => ?_); grind
    · exact finB hK (bP_true.2 (list_eq_of (by omega) hinv (by omega)))
  · refine finB hK (bP_false.2 fun h => ?_); subst h; omega
theorem szN_le {k : Nat} (h : ¬ szN 1048576 k < 0) : k ≤ 1048576 ∧ szN 1048576 k = 1048576 - k := by
  unfold szN at *; split at h <;> omega
end Go.Proofs.YtoabioecoollpaaGreat
