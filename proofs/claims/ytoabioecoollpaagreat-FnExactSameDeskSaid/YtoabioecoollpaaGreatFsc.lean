/- Contracts: fairways, authorities that are alike. -/
import Derived.Test.YtoabioecoollpaaGreatFsb
namespace Go.Proofs.YtoabioecoollpaaGreat
open Go Go.RowKit Classical
set_option maxRecDepth 100000
set_option maxHeartbeats 2000000
set_option linter.unusedVariables false
set_option linter.unusedSimpArgs false
theorem sameAids_ {rs rs' : List (List AV)} {t t' b b' : Bool} {l m : List Aid} (hl : rs = l.map (Aid.cs b)) (hm : rs' = m.map (Aid.cs b')) : AC Tryz.prog 68 [.sl t 16 rs, .sl t' 16 rs'] AV.bool (bP (l = m)) := by
  refine ac Tryz.func68 (by kernel_rfl) (.bool _) fun E K hE hK => ?_
  conv => cbv
  repeat' first
    | ((first
     | refine idxV hE (by assumption) (by omega) (by assumption) ?_
     | refine callP hE (sameAidF_ hl hm) (fun _ => ?_) (fun _ => ?_)
     | refine ltT hE (by omega) ?_
     | refine ltF hE (by omega) ?_
     | refine ltI hE (fun _ => ?_) (fun _ => ?_)
     | refine leT hE (by omega) ?_
     | refine leF hE (by omega) ?_
     | refine leI hE (fun _ => ?_) (fun _ => ?_)
     | refine eqT hE (by omega) ?_
     | refine eqF hE (by omega) ?_
     | refine eqI hE (fun _ => ?_) (fun _ => ?_)
     | refine add64 hE (by omega) (fun _ _ => ?_)
     | refine sub64 hE (by omega) (fun _ _ => ?_)
     | refine addI hE (fun _ _ => ?_)
     | refine subI hE (fun _ _ => ?_)
     | refine lenL hE (by assumption) (fun _ _ _ => ?_)
     | refine len0 hE (fun _ _ => ?_)
     | refine idxL hE (by assumption) (by first | omega | (simp only [List.length_set, mix_len]; omega)) (fun _ _ => ?_)
     | refine idxFill hE (by assumption) (by omega) ?_
     | refine idxI hE (by decide) (by rfl) ?_
     | refine iteB (fun _ => ?_) (fun _ => ?_)
     | refine maxI hE (fun _ _ => ?_)
     | refine minI hE (fun _ _ => ?_)
     | refine seqI hE (fun _ => ?_) (fun _ => ?_)
     | refine scatI hE (by first | omega | (simp only [ByteArray.size, Array.size, List.length_cons, List.length_nil] at *; omega)) (fun _ _ _ => ?_)
     | refine slenI hE (fun _ _ _ => ?_)
     | refine sidxI hE (by omega) (fun _ _ _ _ => ?_)
     | refine needI hE (by first | decide | omega) ?_
     | refine rem64 hE (by omega) (fun _ _ => ?_)
     | refine quo64 hE (by omega) (fun _ _ => ?_)
     | refine wrapU8 hE (by omega) (fun _ _ => ?_)
     | refine wrap64 hE (by omega) (fun _ _ => ?_)
     | refine noownI hE (by simp [AV.isOwn]) ?_) <;> (try conv => cbv))
  all_goals first
    | exact finB hK (bP_true.2 (by assumption))
    | exact finB hK (bP_false.2 (by assumption))
theorem sameNotices_ {rs rs' : List (List AV)} {t t' b b' : Bool} {l m : List Ntc} (hl : rs = l.map (Ntc.cs b)) (hm : rs' = m.map (Ntc.cs b')) : AC Tryz.prog 69 [.sl t 20 rs, .sl t' 20 rs'] AV.bool (bP (l = m)) := by
  refine ac Tryz.func69 (by kernel_rfl) (.bool _) fun E K hE hK => ?_
  conv => cbv
  repeat' first
    | ((first
     | refine idxV hE (by assumption) (by omega) (by assumption) ?_
     | refine callP hE (sameNtcF_ hl hm) (fun _ => ?_) (fun _ => ?_)
     | refine ltT hE (by omega) ?_
     | refine ltF hE (by omega) ?_
     | refine ltI hE (fun _ => ?_) (fun _ => ?_)
     | refine leT hE (by omega) ?_
     | refine leF hE (by omega) ?_
     | refine leI hE (fun _ => ?_) (fun _ => ?_)
     | refine eqT hE (by omega) ?_
     | refine eqF hE (by omega) ?_
     | refine eqI hE (fun _ => ?_) (fun _ => ?_)
     | refine add64 hE (by omega) (fun _ _ => ?_)
     | refine sub64 hE (by omega) (fun _ _ => ?_)
     | refine addI hE (fun _ _ => ?_)
     | refine subI hE (fun _ _ => ?_)
     | refine lenL hE (by assumption) (fun _ _ _ => ?_)
     | refine len0 hE (fun _ _ => ?_)
     | refine idxL hE (by assumption) (by first | omega | (simp only [List.length_set, mix_len]; omega)) (fun _ _ => ?_)
     | refine idxFill hE (by assumption) (by omega) ?_
     | refine idxI hE (by decide) (by rfl) ?_
     | refine iteB (fun _ => ?_) (fun _ => ?_)
     | refine maxI hE (fun _ _ => ?_)
     | refine minI hE (fun _ _ => ?_)
     | refine seqI hE (fun _ => ?_) (fun _ => ?_)
     | refine scatI hE (by first | omega | (simp only [ByteArray.size, Array.size, List.length_cons, List.length_nil] at *; omega)) (fun _ _ _ => ?_)
     | refine slenI hE (fun _ _ _ => ?_)
     | refine sidxI hE (by omega) (fun _ _ _ _ => ?_)
     | refine needI hE (by first | decide | omega) ?_
     | refine rem64 hE (by omega) (fun _ _ => ?_)
     | refine quo64 hE (by omega) (fun _ _ => ?_)
     | refine wrapU8 hE (by omega) (fun _ _ => ?_)
     | refine wrap64 hE (by omega) (fun _ _ => ?_)
     | refine noownI hE (by simp [AV.isOwn]) ?_) <;> (try conv => cbv))
  all_goals first
    | exact finB hK (bP_true.2 (by assumption))
    | exact finB hK (bP_false.2 (by assumption))
theorem sSameNotices_ {rs rs' : List (List AV)} {t t' b b' : Bool} {l m : List Ntc} (hl : rs = l.map (Ntc.cs b)) (hm : rs' = m.map (Ntc.cs b')) : AC Tryz.prog 45 [.sl t 20 rs, .sl t' 20 rs'] AV.bool (bP (l = m)) := by
  refine ac Tryz.func45 (by kernel_rfl) (.bool _) fun E K hE hK => ?_
  conv => cbv
  repeat' first
    | ((first
     | refine idxV hE (by assumption) (by omega) (by assumption) ?_
     | refine callP hE (l21SameAll_ hl hm) (fun _ => ?_) (fun _ => ?_)
     | refine ltT hE (by omega) ?_
     | refine ltF hE (by omega) ?_
     | refine ltI hE (fun _ => ?_) (fun _ => ?_)
     | refine leT hE (by omega) ?_
     | refine leF hE (by omega) ?_
     | refine leI hE (fun _ => ?_) (fun _ => ?_)
     | refine eqT hE (by omega) ?_
     | refine eqF hE (by omega) ?_
     | refine eqI hE (fun _ => ?_) (fun _ => ?_)
     | refine add64 hE (by omega) (fun _ _ => ?_)
     | refine sub64 hE (by omega) (fun _ _ => ?_)
     | refine addI hE (fun _ _ => ?_)
     | refine subI hE (fun _ _ => ?_)
     | refine lenL hE (by assumption) (fun _ _ _ => ?_)
     | refine len0 hE (fun _ _ => ?_)
     | refine idxL hE (by assumption) (by first | omega | (simp only [List.length_set, mix_len]; omega)) (fun _ _ => ?_)
     | refine idxFill hE (by assumption) (by omega) ?_
     | refine idxI hE (by decide) (by rfl) ?_
     | refine iteB (fun _ => ?_) (fun _ => ?_)
     | refine maxI hE (fun _ _ => ?_)
     | refine minI hE (fun _ _ => ?_)
     | refine seqI hE (fun _ => ?_) (fun _ => ?_)
     | refine scatI hE (by first | omega | (simp only [ByteArray.size, Array.size, List.length_cons, List.length_nil] at *; omega)) (fun _ _ _ => ?_)
     | refine slenI hE (fun _ _ _ => ?_)
     | refine sidxI hE (by omega) (fun _ _ _ _ => ?_)
     | refine needI hE (by first | decide | omega) ?_
     | refine rem64 hE (by omega) (fun _ _ => ?_)
     | refine quo64 hE (by omega) (fun _ _ => ?_)
     | refine wrapU8 hE (by omega) (fun _ _ => ?_)
     | refine wrap64 hE (by omega) (fun _ _ => ?_)
     | refine noownI hE (by simp [AV.isOwn]) ?_) <;> (try conv => cbv))
  all_goals first
    | exact finB hK (bP_true.2 (by assumption))
    | exact finB hK (bP_false.2 (by assumption))
set_option maxHeartbeats 8000000
theorem l32Fairways_ {rs rs' : List (List AV)} {t t' b b' : Bool} {l m : List Fwy} (hl : rs = l.map (Fwy.cs b)) (hm : rs' = m.map (Fwy.cs b')) : AC Tryz.prog 46 [.sl t 5 rs, .sl t' 5 rs'] AV.bool (bP (l = m)) := by
  refine ac Tryz.func46 (by kernel_rfl) (.bool _) fun E K hE hK => ?_
  conv => cbv
  refine lenL hE hl fun n hn hb => ?_
  conv => cbv
  refine lenL hE hm fun n' hn' hb' => ?_
  conv => cbv
  refine eqI hE (fun he => ?_) (fun he => ?_) <;> conv => cbv
  · skip
    repeat' first
      | ((refine loopC hE (ι := Int) [0, 1] [5] (fun q => (fun (i : Int) => [(5, .int .i64 i)]) q) (fun q => (fun (i : Int) => []) q) (fun q => (fun (i : Int) => (l.length - i).toNat) q) (fun q => (fun (i : Int) => 0 ≤ i ∧ Up (fun j => l[j]? = m[j]?) i) q) [] (by decide) (0) (by conv => lhs; cbv) (by conv => lhs; cbv) rfl rfl (by dsimp only; exact ⟨by omega, .zero (by omega)⟩) fun i hi2 Kn2 hN2 => ?_; (try dsimp only at hi2); conv => cbv); obtain ⟨h0, hinv⟩ := hi2)
      | (refine idxFwyV hE hl (by omega) hv h_line ?_; (try conv => cbv))
      | (refine idxFwyV hE hm (by omega) hv' h_line' ?_; (try conv => cbv))
      | (refine idxFwy hE hl (by omega) (fun name line width spacing tolerance r_line hv h_line => ?_); (try conv => cbv))
      | (refine idxFwy hE hm (by omega) (fun name' line' width' spacing' tolerance' r_line' hv' h_line' => ?_); (try conv => cbv))
      | (refine lenL hE h_line (fun nl hnl hbl => ?_); (try conv => cbv))
      | (refine lenL hE h_line' (fun nl' hnl' hbl' => ?_); (try conv => cbv))
      | ((refine loopC hE (ι := Int) [0, 1, 5] [6] (fun q => (fun (k : Int) => [(6, .int .i64 k)]) q) (fun q => (fun (k : Int) => []) q) (fun q => (fun (k : Int) => (line.length - k).toNat) q) (fun q => (fun (k : Int) => 0 ≤ k ∧ Up (fun j => line[j]? = line'[j]?) k) q) [] (by decide) (0) (by conv => lhs; cbv) (by conv => lhs; cbv) rfl rfl (by dsimp only; exact ⟨by omega, .zero (by omega)⟩) fun k hi3 Kn3 hN3 => ?_; (try dsimp only at hi3); conv => cbv); obtain ⟨h03, hinv3⟩ := hi3)
      | ((refine idxL (R := Pnt.cs) hE h_line (by omega) ?_; rintro ⟨x, y⟩ hp; (try conv => cbv)))
      | ((refine idxL (R := Pnt.cs) hE h_line' (by omega) ?_; rintro ⟨x', y'⟩ hp'; (try conv => cbv)))
      | (refine hN3 _ _ [] (by decide) rfl ⟨?_, ?_⟩ ?_ <;> (try dsimp only))
      | (refine hN2 _ _ [] (by decide) rfl ⟨?_, ?_⟩ ?_ <;> (try dsimp only))
      | ((first
       | refine idxV hE (by assumption) (by omega) (by assumption) ?_
       | refine aeqI hE (fun hq => ?_) (fun hq => ?_)
       | refine ltT hE (by omega) ?_
       | refine ltF hE (by omega) ?_
       | refine ltI hE (fun _ => ?_) (fun _ => ?_)
       | refine leT hE (by omega) ?_
       | refine leF hE (by omega) ?_
       | refine leI hE (fun _ => ?_) (fun _ => ?_)
       | refine eqT hE (by omega) ?_
       | refine eqF hE (by omega) ?_
       | refine eqI hE (fun _ => ?_) (fun _ => ?_)
       | refine add64 hE (by omega) (fun _ _ => ?_)
       | refine sub64 hE (by omega) (fun _ _ => ?_)
       | refine addI hE (fun _ _ => ?_)
       | refine subI hE (fun _ _ => ?_)
       | refine lenL hE (by assumption) (fun _ _ _ => ?_)
       | refine len0 hE (fun _ _ => ?_)
       | refine idxL hE (by assumption) (by first | omega | (simp only [List.length_set, mix_len]; omega)) (fun _ _ => ?_)
       | refine idxFill hE (by assumption) (by omega) ?_
       | refine idxI hE (by decide) (by rfl) ?_
       | refine iteB (fun _ => ?_) (fun _ => ?_)
       | refine maxI hE (fun _ _ => ?_)
       | refine minI hE (fun _ _ => ?_)
       | refine seqI hE (fun _ => ?_) (fun _ => ?_)
       | refine scatI hE (by first | omega | (simp only [ByteArray.size, Array.size, List.length_cons, List.length_nil] at *; omega)) (fun _ _ _ => ?_)
       | refine slenI hE (fun _ _ _ => ?_)
       | refine sidxI hE (by omega) (fun _ _ _ _ => ?_)
       | refine needI hE (by first | decide | omega) ?_
       | refine rem64 hE (by omega) (fun _ _ => ?_)
       | refine quo64 hE (by omega) (fun _ _ => ?_)
       | refine wrapU8 hE (by omega) (fun _ _ => ?_)
       | refine wrap64 hE (by omega) (fun _ _ => ?_)
       | refine noownI hE (by simp [AV.isOwn]) ?_) <;> (try conv => cbv))
    all_goals (try clear hN2)
    all_goals (try clear hN3)
    all_goals first
      | omega
      | exact finB hK (bP_true.2 (list_eq_of (by omega) hinv (by omega)))
      | (refine hinv3.succ ?_ (by assumption); simp only [pairsP] at *; simp_all; done)
      | (refine hinv.succ ?_ (by assumption); have hle := list_eq_of (by omega) hinv3 (by omega); rw [hv, hv', hle]; simp_all; done)
      | (refine finB hK (bP_false.2 fun h => ?_); clear hK; rw [h, hv'] at hv; simp only [Option.some.injEq, Fwy.mk.injEq] at hv; obtain ⟨e1, e2, e3, e4, e5⟩ := hv; clear hinv hl hm h hv' h_line h_line'; (try clear hinv3); (try simp only [pairsP, and_true, true_and, not_and] at *); simp_all; done)
      | (refine finB hK (bP_false.2 fun h => ?_); clear hK; rw [h, hv'] at hv; simp only [Option.some.injEq, Fwy.mk.injEq] at hv; obtain ⟨e1, e2, e3, e4, e5⟩ := hv; subst e1 e2 e3 e4 e5; first | contradiction | omega | (rw [hp'] at hp; cases hp; exact hq ⟨rfl, rfl, trivial⟩))
      | trace_state
  · refine finB hK (bP_false.2 fun h => ?_); subst h; omega
end Go.Proofs.YtoabioecoollpaaGreat
