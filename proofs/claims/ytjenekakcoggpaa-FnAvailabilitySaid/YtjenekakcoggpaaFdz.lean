/- Contracts: the law of availability. -/
import Derived.Test.YtjenekakcoggpaaFba
import Derived.Test.YtjenekakcoggpaaFda
namespace Go.Proofs.Ytjenekakcoggpaa
open Go Go.RowKit Go.Sort Classical
set_option maxRecDepth 100000
set_option maxHeartbeats 2000000
set_option linter.unusedVariables false
set_option linter.unusedSimpArgs false
theorem b10LongA_ {rs : List (List AV)} {t : Bool} {l : List Int} (hl : rs = l.map u8R) : AC Try.prog 8 [.sl t 1 rs] AV.bool (bP (1048576 < l.length)) := by
  refine ac Try.func8 (by kernel_rfl) (.bool _) fun E K hE hK => ?_
  conv => cbv
  repeat' first
    | ((first
     | refine idxV hE (by assumption) (by omega) (by assumption) ?_
     | refine ltT hE (by omega) ?_
     | refine ltF hE (by omega) ?_
     | refine ltI hE (fun _ => ?_) (fun _ => ?_)
     | refine leT hE (by omega) ?_
     | refine leF hE (by omega) ?_
     | refine leI hE (fun _ => ?_) (fun _ => ?_)
     | refine eqT hE (by omega) ?_
     | refine eqF hE (by omega) ?_
     | refine eqI hE (fun _ => ?_) (fun _ => ?_)
     | refine add64 hE (by omega) (fun _ _ => ?_)
     | refine sub64 hE (by omega) (fun _ _ => ?_)
     | refine addI hE (fun _ _ => ?_)
     | refine subI hE (fun _ _ => ?_)
     | refine lenL hE (by assumption) (fun _ _ _ => ?_)
     | refine len0 hE (fun _ _ => ?_)
     | refine idxL hE (by assumption) (by first | omega | (simp only [List.length_set, mix_len]; omega)) (fun _ _ => ?_)
     | refine idxFill hE (by assumption) (by omega) ?_
     | refine idxI hE (by decide) (by rfl) ?_
     | refine iteB (fun _ => ?_) (fun _ => ?_)
     | refine maxI hE (fun _ _ => ?_)
     | refine minI hE (fun _ _ => ?_)
     | refine seqI hE (fun _ => ?_) (fun _ => ?_)
     | refine scatI hE (by first | omega | (simp only [ByteArray.size, Array.size, List.length_cons, List.length_nil] at *; omega)) (fun _ _ _ => ?_)
     | refine slenI hE (fun _ _ _ => ?_)
     | refine sidxI hE (by omega) (fun _ _ _ _ => ?_)
     | refine needI hE (by first | decide | omega) ?_
     | refine rem64 hE (by omega) (fun _ _ => ?_)
     | refine quo64 hE (by omega) (fun _ _ => ?_)
     | refine wrapU8 hE (by omega) (fun _ _ => ?_)
     | refine wrap64 hE (by omega) (fun _ _ => ?_)
     | refine noownI hE (by simp [AV.isOwn]) ?_) <;> (try conv => cbv))
  all_goals first
    | exact finB hK (bP_true.2 (by omega))
    | exact finB hK (bP_false.2 (by omega))
theorem need_all (c : Int) : (c = 1 → (needR c).1 = 998000 ∧ (needR c).2 = 0) ∧ (c = 2 → (needR c).1 = 990000 ∧ (needR c).2 = 0) ∧ (c = 3 → (needR c).1 = 970000 ∧ (needR c).2 = 0) := by
  refine ⟨fun h => ?_, fun h => ?_, fun h => ?_⟩ <;> subst h <;> decide
theorem downTR_ok {l : List Fau} {aid f u : Int} (h : (downTR l aid f u).2 = 0) : spanC l f u = 0 := by
  unfold downTR at h
  split at h
  · assumption
  · exact h
theorem downTR_val {l : List Fau} {aid f u : Int} (hok : FaultsOk l) (hf : 0 ≤ f ∧ f ≤ 143999999) (hu : 0 ≤ u ∧ u ≤ 143999999) (hlt : f < u) : (downTR l aid f u).1 = downR l aid f u ∧ (downTR l aid f u).2 = 0 := by
  have : spanC l f u = 0 := by unfold spanC TimeOk; rw [if_pos hok, if_pos ⟨hf, hu, hlt⟩]
  unfold downTR
  rw [if_pos this]
  exact ⟨rfl, rfl⟩
theorem avail_val {l : List Fau} {aid f u : Int} (h : spanC l f u = 0) : (downTR l aid f u).1 = downR l aid f u ∧ (downTR l aid f u).2 = 0 ∧ (availR l aid f u).1 = 1000000 * (u - f - downR l aid f u) / (u - f) ∧ (availR l aid f u).2 = 0 := by
  unfold downTR availR
  rw [if_pos h, if_pos h]
  exact ⟨rfl, rfl, rfl, rfl⟩
theorem avail_bad {l : List Fau} {aid f u : Int} (h : ¬ spanC l f u = 0) : (downTR l aid f u).1 = 0 ∧ (downTR l aid f u).2 = spanC l f u ∧ (availR l aid f u).1 = 0 ∧ (availR l aid f u).2 = spanC l f u := by
  unfold downTR availR
  rw [if_neg h, if_neg h]
  exact ⟨rfl, rfl, rfl, rfl⟩
set_option maxHeartbeats 40000000
theorem lawAvailability {rs rs' : List (List AV)} {t t' : Bool} {code more : List Int} (hc : rs = code.map u8R) (hb : Bytes code) (hc' : rs' = more.map u8R) (hb' : Bytes more) : AC Try.prog 3 [.sl t 1 rs, .sl t' 1 rs'] id (.bool true) := by
  refine ac Try.func3 (by kernel_rfl) (.bool _) fun E K hE hK => ?_
  conv => cbv
  refine callP hE (b10LongA_ hc) (fun hq => ?_) (fun hq => ?_) <;> conv => cbv
  · exact hK _ rfl
  refine callP hE (b10LongA_ hc') (fun hq' => ?_) (fun hq' => ?_) <;> conv => cbv
  · exact hK _ rfl
  refine callSI hE (drawDownTime_ hc hb) ?_
  rintro r ys ⟨l, rs1, aid, f, u, rfl, hl, hlen, rfl⟩
  conv => cbv
  refine callII hE (downTime_ aid f u hl) (fun d c1 hd hc1 => ?_)
  conv => cbv
  refine callII hE (availabilityOf_ aid f u hl) (fun sh c2 hsh hc2 => ?_)
  conv => cbv
  by_cases hs : spanC l f u = 0
  · obtain ⟨v1, v2, v3, v4⟩ := avail_val (aid := aid) hs
    rw [v1] at hd
    rw [v2] at hc1
    have hsv := hsh.trans v3
    rw [v4] at hc2
    have hav1 : (availR l aid f u).1 = sh := hsh.symm
    clear v3
    obtain ⟨hok, hf, hu, hlt⟩ := spanC_ok hs
    have hbd := downR_bd aid u l f
    repeat' first
      | (refine quo64 hE (by omega) (fun q hq => ?_); have hqs : sh = q := (by rw [hq, hsv]; congr 1 <;> omega); clear hq; (try conv => cbv))
      | (refine mul64 hE (by omega) (fun _ _ => ?_); (try conv => cbv))
      | (refine sub64 hE (by omega) (fun j hj => ?_); have hnj := need_all j; (try conv => cbv))
      | ((refine loopC hE (ι := Int) [1, 5, 6, 7, 8, 9, 11] [13] (fun q => (fun (c : Int) => [(13, .int .i64 c)]) q) (fun q => (fun (c : Int) => [.row 4 rs1]) q) (fun q => (fun (c : Int) => (4 - c).toNat) q) (fun q => (fun (c : Int) => 1 ≤ c ∧ c ≤ 4) q) [0] (by decide) (1) (by conv => lhs; cbv) (by conv => lhs; cbv) rfl rfl (by dsimp only; exact by omega) fun c hi2 Kn2 hN2 => ?_; (try dsimp only at hi2); conv => cbv); have hnc := need_all c)
      | (refine callII hE (categoryNeed_ c) (fun nd c3 hnd hc3 => ?_); (try conv => cbv))
      | (refine callP hE (meetsCategory_ aid _ f u hl) (fun hm => ?_) (fun hm => ?_) <;> rw [hav1, v4] at hm <;> (try conv => cbv))
      | (refine callI hE (b10Wide_ 0 j hc' hb' (by omega) (by omega)) (fun w hw => ?_); have hwb := wideR_bd (code := more) (i := 0) (n := j) (by omega); rw [← hw] at hwb; (try conv => cbv))
      | (refine callII hE (downTime_ aid f m hl) (fun a1 c4 ha1 hc4 => ?_); obtain ⟨p1, p2⟩ := downTR_val (aid := aid) hok hf (show 0 ≤ m ∧ m ≤ 143999999 by omega) (show f < m by omega); rw [p1] at ha1; rw [p2] at hc4; have hb1 := downR_bd aid m l f; (try conv => cbv))
      | (refine callII hE (downTime_ aid m u hl) (fun a2 c5 ha2 hc5 => ?_); obtain ⟨p3, p4⟩ := downTR_val (aid := aid) hok (show 0 ≤ m ∧ m ≤ 143999999 by omega) hu (show m < u by omega); rw [p3] at ha2; rw [p4] at hc5; have hb2 := downR_bd aid u l m; have hadd := downR_add aid m u (by omega) l f (by omega); (try conv => cbv))
      | (refine add64 hE (by omega) (fun m hm' => ?_); (try conv => cbv))
      | (refine hN2 _ _ [0] (by decide) rfl (by omega) ?_ <;> (try dsimp only))
      | ((first
       | refine idxV hE (by assumption) (by omega) (by assumption) ?_
       | refine ltT hE (by omega) ?_
       | refine ltF hE (by omega) ?_
       | refine ltI hE (fun _ => ?_) (fun _ => ?_)
       | refine leT hE (by omega) ?_
       | refine leF hE (by omega) ?_
       | refine leI hE (fun _ => ?_) (fun _ => ?_)
       | refine eqT hE (by omega) ?_
       | refine eqF hE (by omega) ?_
       | refine eqI hE (fun _ => ?_) (fun _ => ?_)
       | refine add64 hE (by omega) (fun _ _ => ?_)
       | refine sub64 hE (by omega) (fun _ _ => ?_)
       | refine addI hE (fun _ _ => ?_)
       | refine subI hE (fun _ _ => ?_)
       | refine lenL hE (by assumption) (fun _ _ _ => ?_)
       | refine len0 hE (fun _ _ => ?_)
       | refine idxL hE (by assumption) (by first | omega | (simp only [List.length_set, mix_len]; omega)) (fun _ _ => ?_)
       | refine idxFill hE (by assumption) (by omega) ?_
       | refine idxI hE (by decide) (by rfl) ?_
       | refine iteB (fun _ => ?_) (fun _ => ?_)
       | refine maxI hE (fun _ _ => ?_)
       | refine minI hE (fun _ _ => ?_)
       | refine seqI hE (fun _ => ?_) (fun _ => ?_)
       | refine scatI hE (by first | omega | (simp only [ByteArray.size, Array.size, List.length_cons, List.length_nil] at *; omega)) (fun _ _ _ => ?_)
       | refine slenI hE (fun _ _ _ => ?_)
       | refine sidxI hE (by omega) (fun _ _ _ _ => ?_)
       | refine needI hE (by first | decide | omega) ?_
       | refine rem64 hE (by omega) (fun _ _ => ?_)
       | refine quo64 hE (by omega) (fun _ _ => ?_)
       | refine wrapU8 hE (by omega) (fun _ _ => ?_)
       | refine wrap64 hE (by omega) (fun _ _ => ?_)
       | refine noownI hE (by simp [AV.isOwn]) ?_) <;> (try conv => cbv))
    all_goals first
      | exact hK _ rfl
      | omega
      | trace_state
  · obtain ⟨v1, v2, v3, v4⟩ := avail_bad (aid := aid) hs
    rw [v1] at hd
    rw [v2] at hc1
    rw [v3] at hsh
    rw [v4] at hc2
    repeat' first
      | ((first
       | refine idxV hE (by assumption) (by omega) (by assumption) ?_
       | refine ltT hE (by omega) ?_
       | refine ltF hE (by omega) ?_
       | refine ltI hE (fun _ => ?_) (fun _ => ?_)
       | refine leT hE (by omega) ?_
       | refine leF hE (by omega) ?_
       | refine leI hE (fun _ => ?_) (fun _ => ?_)
       | refine eqT hE (by omega) ?_
       | refine eqF hE (by omega) ?_
       | refine eqI hE (fun _ => ?_) (fun _ => ?_)
       | refine add64 hE (by omega) (fun _ _ => ?_)
       | refine sub64 hE (by omega) (fun _ _ => ?_)
       | refine addI hE (fun _ _ => ?_)
       | refine subI hE (fun _ _ => ?_)
       | refine lenL hE (by assumption) (fun _ _ _ => ?_)
       | refine len0 hE (fun _ _ => ?_)
       | refine idxL hE (by assumption) (by first | omega | (simp only [List.length_set, mix_len]; omega)) (fun _ _ => ?_)
       | refine idxFill hE (by assumption) (by omega) ?_
       | refine idxI hE (by decide) (by rfl) ?_
       | refine iteB (fun _ => ?_) (fun _ => ?_)
       | refine maxI hE (fun _ _ => ?_)
       | refine minI hE (fun _ _ => ?_)
       | refine seqI hE (fun _ => ?_) (fun _ => ?_)
       | refine scatI hE (by first | omega | (simp only [ByteArray.size, Array.size, List.length_cons, List.length_nil] at *; omega)) (fun _ _ _ => ?_)
       | refine slenI hE (fun _ _ _ => ?_)
       | refine sidxI hE (by omega) (fun _ _ _ _ => ?_)
       | refine needI hE (by first | decide | omega) ?_
       | refine rem64 hE (by omega) (fun _ _ => ?_)
       | refine quo64 hE (by omega) (fun _ _ => ?_)
       | refine wrapU8 hE (by omega) (fun _ _ => ?_)
       | refine wrap64 hE (by omega) (fun _ _ => ?_)
       | refine noownI hE (by simp [AV.isOwn]) ?_) <;> (try conv => cbv))
    all_goals first
      | exact hK _ rfl
      | omega
      | trace_state
end Go.Proofs.Ytjenekakcoggpaa
