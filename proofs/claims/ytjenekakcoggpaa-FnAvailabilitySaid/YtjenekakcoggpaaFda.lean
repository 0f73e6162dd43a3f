/- Plain laws and contracts: times at which an aid has a fault. -/
import Derived.Test.YtjenekakcoggpaaFfb
import Derived.Test.YtjenekakcoggpaaFsr
namespace Go.Proofs.Ytjenekakcoggpaa
open Go Go.RowKit Go.Sort Classical
set_option maxRecDepth 100000
set_option maxHeartbeats 2000000
set_option linter.unusedVariables false
set_option linter.unusedSimpArgs false
noncomputable def downG (aid til : Int) : List Fau → Int → Int → Int
  | [], _, tot => tot
  | v :: l, f, tot => if v.aid = aid ∧ f < v.end_ then downG aid til l (max f v.end_) (tot + max 0 (min v.end_ til - max v.frm f)) else downG aid til l f tot
noncomputable def downR (l : List Fau) (aid f u : Int) : Int := downG aid u l f 0
theorem downG_tot (aid u : Int) : ∀ (l : List Fau) (f t : Int), downG aid u l f t = t + downG aid u l f 0
  | [], f, t => by unfold downG; omega
  | v :: l, f, t => by
    unfold downG
    split
    · rw [downG_tot aid u l _ (t + _), downG_tot aid u l _ (0 + _)]; omega
    · exact downG_tot aid u l f t
theorem downR_cons (v : Fau) (l : List Fau) (aid f u : Int) : downR (v :: l) aid f u = if v.aid = aid ∧ f < v.end_ then max 0 (min v.end_ u - max v.frm f) + downR l aid (max f v.end_) u else downR l aid f u := by
  unfold downR
  rw [downG]
  split
  · rw [downG_tot]; omega
  · rfl
theorem downR_bd (aid u : Int) : ∀ (l : List Fau) (f : Int), 0 ≤ downR l aid f u ∧ downR l aid f u ≤ max 0 (u - f)
  | [], f => by unfold downR downG; omega
  | v :: l, f => by
    rw [downR_cons]
    have h1 := downR_bd aid u l (max f v.end_)
    have h2 := downR_bd aid u l f
    split <;> omega
theorem downR_add (aid m u : Int) (hm : m ≤ u) : ∀ (l : List Fau) (f : Int), f ≤ m → downR l aid f m + downR l aid m u = downR l aid f u
  | [], f, _ => by unfold downR downG; omega
  | v :: l, f, hf => by
    rw [downR_cons, downR_cons, downR_cons]
    by_cases ha : v.aid = aid
    · by_cases h1 : f < v.end_
      · by_cases h2 : m < v.end_
        · rw [if_pos ⟨ha, h1⟩, if_pos ⟨ha, h2⟩, if_pos ⟨ha, h1⟩]
          have z := downR_bd aid m l (max f v.end_)
          rw [show max f v.end_ = max m v.end_ by omega] at *
          omega
        · rw [if_pos ⟨ha, h1⟩, if_neg (fun h => h2 h.2), if_pos ⟨ha, h1⟩]
          have ih := downR_add aid m u hm l (max f v.end_) (by omega)
          omega
      · rw [if_neg (fun h => h1 h.2), if_neg (fun h => by have := h.2; omega), if_neg (fun h => h1 h.2)]
        exact downR_add aid m u hm l f hf
    · rw [if_neg (fun h => ha h.1), if_neg (fun h => ha h.1), if_neg (fun h => ha h.1)]
      exact downR_add aid m u hm l f hf
theorem down_hit {l : List Fau} {i n aid u g t g' t' : Int} {v : Fau} (h0 : 0 ≤ i) (h : l[i.toNat]? = some v) (hn : n = i + 1) (ha : v.aid = aid) (he : g < v.end_) (hg : g' = max g v.end_) (ht : t' = t + max 0 (min v.end_ u - max v.frm g)) : downG aid u (l.drop n.toNat) g' t' = downG aid u (l.drop i.toNat) g t := by
  have hi := (List.getElem?_eq_some_iff.1 h).1
  rw [List.drop_eq_getElem_cons hi, (List.getElem?_eq_some_iff.1 h).2, hn, show (i + 1).toNat = i.toNat + 1 by omega, downG, if_pos ⟨ha, he⟩, hg, ht]
theorem down_miss {l : List Fau} {i n aid u g t : Int} {v : Fau} (h0 : 0 ≤ i) (h : l[i.toNat]? = some v) (hn : n = i + 1) (ha : ¬ (v.aid = aid ∧ g < v.end_)) : downG aid u (l.drop n.toNat) g t = downG aid u (l.drop i.toNat) g t := by
  have hi := (List.getElem?_eq_some_iff.1 h).1
  rw [List.drop_eq_getElem_cons hi, (List.getElem?_eq_some_iff.1 h).2, hn, show (i + 1).toNat = i.toNat + 1 by omega, downG, if_neg ha]
theorem down_ {rs : List (List AV)} {b : Bool} {l : List Fau} (aid f u : Int) (hl : rs = l.map Fau.cs) (hok : FaultsOk l) (hf : 0 ≤ f ∧ f ≤ 143999999) (hu : 0 ≤ u ∧ u ≤ 143999999) : AC Try.prog 49 [.sl b 4 rs, .int .i64 aid, .int .i64 f, .int .i64 u] (AV.int .i64) (downR l aid f u) := by
  refine ac Try.func49 (by kernel_rfl) (.int _ _) fun E K hE hK => ?_
  conv => cbv
  have h48 := hok.2
  refine lenL hE hl fun n hn hbn => ?_
  conv => cbv
  refine loopC hE (ι := Int × Int × Int) [1, 3, 12, 13] [14, 9, 2] (fun q => (fun (i : Int) (t : Int) (g : Int) => [(14, .int .i64 i), (9, .int .i64 t), (2, .int .i64 g)]) q.1 q.2.1 q.2.2) (fun q => (fun (i : Int) (t : Int) (g : Int) => []) q.1 q.2.1 q.2.2) (fun q => (fun (i : Int) (t : Int) (g : Int) => (l.length - i).toNat) q.1 q.2.1 q.2.2) (fun q => (fun (i : Int) (t : Int) (g : Int) => (0 ≤ i ∧ i ≤ l.length) ∧ (0 ≤ t ∧ t ≤ 144000000 * i) ∧ (0 ≤ g ∧ g ≤ 144000000) ∧ downG aid u (l.drop i.toNat) g t = downG aid u l f 0) q.1 q.2.1 q.2.2) [] (by decide) ((0, 0, f)) (by conv => lhs; cbv) (by conv => lhs; cbv) rfl rfl (by dsimp only; exact ⟨by omega, by omega, by omega, rfl⟩) fun q hi Kn hN => ?_
  obtain ⟨i, t, g⟩ := q
  (try dsimp only at hi)
  conv => cbv
  obtain ⟨⟨h0, h1⟩, ⟨t0, t1⟩, ⟨g0, g1⟩, hinv⟩ := hi
  repeat' first
    | (refine idxL hE hl (by omega) (fun v hv => ?_); have hvo := fau_ok_end (hok.all v (List.mem_of_getElem? hv)); obtain ⟨va, vk, vf, vt⟩ := v; simp only at hvo; obtain ⟨e0, he0⟩ : ∃ e0, e0 = Fau.end_ ⟨va, vk, vf, vt⟩ := ⟨_, rfl⟩; rw [← he0] at hvo; (try conv => cbv))
    | (refine callI hE (fauEnd_ va vk vf vt) (fun e he => ?_); rw [← he0] at he; (try conv => cbv))
    | (refine hN (_, _, _) _ [] (by decide) rfl ⟨?_, ?_, ?_, ?_⟩ ?_ <;> (try dsimp only))
    | ((first
     | refine idxV hE (by assumption) (by omega) (by assumption) ?_
     | refine ltT hE (by omega) ?_
     | refine ltF hE (by omega) ?_
     | refine ltI hE (fun _ => ?_) (fun _ => ?_)
     | refine leT hE (by omega) ?_
     | refine leF hE (by omega) ?_
     | refine leI hE (fun _ => ?_) (fun _ => ?_)
     | refine eqT hE (by omega) ?_
     | refine eqF hE (by omega) ?_
     | refine eqI hE (fun _ => ?_) (fun _ => ?_)
     | refine add64 hE (by omega) (fun _ _ => ?_)
     | refine sub64 hE (by omega) (fun _ _ => ?_)
     | refine addI hE (fun _ _ => ?_)
     | refine subI hE (fun _ _ => ?_)
     | refine lenL hE (by assumption) (fun _ _ _ => ?_)
     | refine len0 hE (fun _ _ => ?_)
     | refine idxL hE (by assumption) (by first | omega | (simp only [List.length_set, mix_len]; omega)) (fun _ _ => ?_)
     | refine idxFill hE (by assumption) (by omega) ?_
     | refine idxI hE (by decide) (by rfl) ?_
     | refine iteB (fun _ => ?_) (fun _ => ?_)
     | refine maxI hE (fun _ _ => ?_)
     | refine minI hE (fun _ _ => ?_)
     | refine seqI hE (fun _ => ?_) (fun _ => ?_)
     | refine scatI hE (by first | omega | (simp only [ByteArray.size, Array.size, List.length_cons, List.length_nil] at *; omega)) (fun _ _ _ => ?_)
     | refine slenI hE (fun _ _ _ => ?_)
     | refine sidxI hE (by omega) (fun _ _ _ _ => ?_)
     | refine needI hE (by first | decide | omega) ?_
     | refine rem64 hE (by omega) (fun _ _ => ?_)
     | refine quo64 hE (by omega) (fun _ _ => ?_)
     | refine wrapU8 hE (by omega) (fun _ _ => ?_)
     | refine wrap64 hE (by omega) (fun _ _ => ?_)
     | refine noownI hE (by simp [AV.isOwn]) ?_) <;> (try conv => cbv))
  all_goals (try clear hN)
  all_goals first
    | omega
    | (refine (down_hit h0 hv (by assumption) (by assumption) ?_ ?_ ?_).trans hinv <;> ((try simp only [← he0]); omega))
    | (refine (down_miss h0 hv (by assumption) (fun h => ?_)).trans hinv; (try simp only [← he0] at h); omega)
    | (refine hK _ ?_; rw [downR, ← hinv, List.drop_eq_nil_of_le (by omega)]; rfl)
    | trace_state
noncomputable def spanC (l : List Fau) (f u : Int) : Int := if FaultsOk l then (if TimeOk f ∧ TimeOk u ∧ f < u then 0 else 2) else 1
theorem spanCode_ {rs : List (List AV)} {b : Bool} {l : List Fau} (f u : Int) (hl : rs = l.map Fau.cs) : AC Try.prog 48 [.sl b 4 rs, .int .i64 f, .int .i64 u] (AV.int .i64) (spanC l f u) := by
  refine ac Try.func48 (by kernel_rfl) (.int _ _) fun E K hE hK => ?_
  conv => cbv
  repeat' first
    | ((first
     | refine idxV hE (by assumption) (by omega) (by assumption) ?_
     | refine callP hE (validFaults_ hl) (fun _ => ?_) (fun _ => ?_)
     | refine callP hE (isTime_ _) (fun _ => ?_) (fun _ => ?_)
     | refine ltT hE (by omega) ?_
     | refine ltF hE (by omega) ?_
     | refine ltI hE (fun _ => ?_) (fun _ => ?_)
     | refine leT hE (by omega) ?_
     | refine leF hE (by omega) ?_
     | refine leI hE (fun _ => ?_) (fun _ => ?_)
     | refine eqT hE (by omega) ?_
     | refine eqF hE (by omega) ?_
     | refine eqI hE (fun _ => ?_) (fun _ => ?_)
     | refine add64 hE (by omega) (fun _ _ => ?_)
     | refine sub64 hE (by omega) (fun _ _ => ?_)
     | refine addI hE (fun _ _ => ?_)
     | refine subI hE (fun _ _ => ?_)
     | refine lenL hE (by assumption) (fun _ _ _ => ?_)
     | refine len0 hE (fun _ _ => ?_)
     | refine idxL hE (by assumption) (by first | omega | (simp only [List.length_set, mix_len]; omega)) (fun _ _ => ?_)
     | refine idxFill hE (by assumption) (by omega) ?_
     | refine idxI hE (by decide) (by rfl) ?_
     | refine iteB (fun _ => ?_) (fun _ => ?_)
     | refine maxI hE (fun _ _ => ?_)
     | refine minI hE (fun _ _ => ?_)
     | refine seqI hE (fun _ => ?_) (fun _ => ?_)
     | refine scatI hE (by first | omega | (simp only [ByteArray.size, Array.size, List.length_cons, List.length_nil] at *; omega)) (fun _ _ _ => ?_)
     | refine slenI hE (fun _ _ _ => ?_)
     | refine sidxI hE (by omega) (fun _ _ _ _ => ?_)
     | refine needI hE (by first | decide | omega) ?_
     | refine rem64 hE (by omega) (fun _ _ => ?_)
     | refine quo64 hE (by omega) (fun _ _ => ?_)
     | refine wrapU8 hE (by omega) (fun _ _ => ?_)
     | refine wrap64 hE (by omega) (fun _ _ => ?_)
     | refine noownI hE (by simp [AV.isOwn]) ?_) <;> (try conv => cbv))
  all_goals (refine hK _ ?_; unfold spanC; simp only [atup]; first | (rw [if_neg (by assumption)]; done) | (rw [if_pos (by assumption), if_pos ⟨by assumption, by assumption, by omega⟩]; done) | (rw [if_pos (by assumption), if_neg (fun h => by first | exact absurd h.1 (by assumption) | exact absurd h.2.1 (by assumption) | (have := h.2.2; omega))]; done) | trace_state)
theorem spanC_ok {l : List Fau} {f u : Int} (h : spanC l f u = 0) : FaultsOk l ∧ (0 ≤ f ∧ f ≤ 143999999) ∧ (0 ≤ u ∧ u ≤ 143999999) ∧ f < u := by
  unfold spanC TimeOk at h
  split at h
  · split at h
    · rename_i h1 h2; exact ⟨h1, h2.1, h2.2.1, h2.2.2⟩
    · omega
  · omega
noncomputable def downTR (l : List Fau) (aid f u : Int) : Int × Int := if spanC l f u = 0 then (downR l aid f u, 0) else (0, spanC l f u)
noncomputable def availR (l : List Fau) (aid f u : Int) : Int × Int := if spanC l f u = 0 then (1000000 * (u - f - downR l aid f u) / (u - f), 0) else (0, spanC l f u)
theorem downTime_ {rs : List (List AV)} {b : Bool} {l : List Fau} (aid f u : Int) (hl : rs = l.map Fau.cs) : AC Try.prog 10 [.sl b 4 rs, .int .i64 aid, .int .i64 f, .int .i64 u] two (downTR l aid f u) := by
  refine ac Try.func10 (by kernel_rfl) (.two _) fun E K hE hK => ?_
  conv => cbv
  repeat' first
    | (refine callI hE (spanCode_ f u hl) (fun y hy => ?_); have hsp := @spanC_ok l f u; (try conv => cbv))
    | (refine callI hE (down_ aid f u hl (hsp (by omega)).1 (hsp (by omega)).2.1 (hsp (by omega)).2.2.1) (fun y2 hy2 => ?_); (try conv => cbv))
    | ((first
     | refine idxV hE (by assumption) (by omega) (by assumption) ?_
     | refine ltT hE (by omega) ?_
     | refine ltF hE (by omega) ?_
     | refine ltI hE (fun _ => ?_) (fun _ => ?_)
     | refine leT hE (by omega) ?_
     | refine leF hE (by omega) ?_
     | refine leI hE (fun _ => ?_) (fun _ => ?_)
     | refine eqT hE (by omega) ?_
     | refine eqF hE (by omega) ?_
     | refine eqI hE (fun _ => ?_) (fun _ => ?_)
     | refine add64 hE (by omega) (fun _ _ => ?_)
     | refine sub64 hE (by omega) (fun _ _ => ?_)
     | refine addI hE (fun _ _ => ?_)
     | refine subI hE (fun _ _ => ?_)
     | refine lenL hE (by assumption) (fun _ _ _ => ?_)
     | refine len0 hE (fun _ _ => ?_)
     | refine idxL hE (by assumption) (by first | omega | (simp only [List.length_set, mix_len]; omega)) (fun _ _ => ?_)
     | refine idxFill hE (by assumption) (by omega) ?_
     | refine idxI hE (by decide) (by rfl) ?_
     | refine iteB (fun _ => ?_) (fun _ => ?_)
     | refine maxI hE (fun _ _ => ?_)
     | refine minI hE (fun _ _ => ?_)
     | refine seqI hE (fun _ => ?_) (fun _ => ?_)
     | refine scatI hE (by first | omega | (simp only [ByteArray.size, Array.size, List.length_cons, List.length_nil] at *; omega)) (fun _ _ _ => ?_)
     | refine slenI hE (fun _ _ _ => ?_)
     | refine sidxI hE (by omega) (fun _ _ _ _ => ?_)
     | refine needI hE (by first | decide | omega) ?_
     | refine rem64 hE (by omega) (fun _ _ => ?_)
     | refine quo64 hE (by omega) (fun _ _ => ?_)
     | refine wrapU8 hE (by omega) (fun _ _ => ?_)
     | refine wrap64 hE (by omega) (fun _ _ => ?_)
     | refine noownI hE (by simp [AV.isOwn]) ?_) <;> (try conv => cbv))
  all_goals (refine hK _ ?_; unfold downTR; first | (rw [if_pos (by omega), ← hy2]; rfl) | (rw [if_neg (by omega), ← hy]; rfl) | trace_state)
theorem availabilityOf_ {rs : List (List AV)} {b : Bool} {l : List Fau} (aid f u : Int) (hl : rs = l.map Fau.cs) : AC Try.prog 11 [.sl b 4 rs, .int .i64 aid, .int .i64 f, .int .i64 u] two (availR l aid f u) := by
  refine ac Try.func11 (by kernel_rfl) (.two _) fun E K hE hK => ?_
  conv => cbv
  have hbd := downR_bd aid u l f
  repeat' first
    | (refine callI hE (spanCode_ f u hl) (fun y hy => ?_); have hsp := @spanC_ok l f u; (try conv => cbv))
    | (refine callI hE (down_ aid f u hl (hsp (by omega)).1 (hsp (by omega)).2.1 (hsp (by omega)).2.2.1) (fun y2 hy2 => ?_); obtain ⟨_, sf, su, slt⟩ := hsp (by omega); (try conv => cbv))
    | (refine mul64 hE (by omega) (fun _ _ => ?_); (try conv => cbv))
    | (refine quo64 hE (by omega) (fun q hq => ?_); (try conv => cbv))
    | ((first
     | refine idxV hE (by assumption) (by omega) (by assumption) ?_
     | refine ltT hE (by omega) ?_
     | refine ltF hE (by omega) ?_
     | refine ltI hE (fun _ => ?_) (fun _ => ?_)
     | refine leT hE (by omega) ?_
     | refine leF hE (by omega) ?_
     | refine leI hE (fun _ => ?_) (fun _ => ?_)
     | refine eqT hE (by omega) ?_
     | refine eqF hE (by omega) ?_
     | refine eqI hE (fun _ => ?_) (fun _ => ?_)
     | refine add64 hE (by omega) (fun _ _ => ?_)
     | refine sub64 hE (by omega) (fun _ _ => ?_)
     | refine addI hE (fun _ _ => ?_)
     | refine subI hE (fun _ _ => ?_)
     | refine lenL hE (by assumption) (fun _ _ _ => ?_)
     | refine len0 hE (fun _ _ => ?_)
     | refine idxL hE (by assumption) (by first | omega | (simp only [List.length_set, mix_len]; omega)) (fun _ _ => ?_)
     | refine idxFill hE (by assumption) (by omega) ?_
     | refine idxI hE (by decide) (by rfl) ?_
     | refine iteB (fun _ => ?_) (fun _ => ?_)
     | refine maxI hE (fun _ _ => ?_)
     | refine minI hE (fun _ _ => ?_)
     | refine seqI hE (fun _ => ?_) (fun _ => ?_)
     | refine scatI hE (by first | omega | (simp only [ByteArray.size, Array.size, List.length_cons, List.length_nil] at *; omega)) (fun _ _ _ => ?_)
     | refine slenI hE (fun _ _ _ => ?_)
     | refine sidxI hE (by omega) (fun _ _ _ _ => ?_)
     | refine needI hE (by first | decide | omega) ?_
     | refine rem64 hE (by omega) (fun _ _ => ?_)
     | refine quo64 hE (by omega) (fun _ _ => ?_)
     | refine wrapU8 hE (by omega) (fun _ _ => ?_)
     | refine wrap64 hE (by omega) (fun _ _ => ?_)
     | refine noownI hE (by simp [AV.isOwn]) ?_) <;> (try conv => cbv))
  all_goals (refine hK _ ?_; unfold availR; first | (rw [if_pos (by omega), hq]; subst_vars; rfl) | (rw [if_neg (by omega), ← hy]; rfl) | trace_state)
def needR (c : Int) : Int × Int := if c = 1 then (998000, 0) else if c = 2 then (990000, 0) else if c = 3 then (970000, 0) else (0, 2)
theorem categoryNeed_ (c : Int) : AC Try.prog 12 [.int .i64 c] two (needR c) := by
  refine ac Try.func12 (by kernel_rfl) (.two _) fun E K hE hK => ?_
  conv => cbv
  repeat' first
    | ((first
     | refine idxV hE (by assumption) (by omega) (by assumption) ?_
     | refine ltT hE (by omega) ?_
     | refine ltF hE (by omega) ?_
     | refine ltI hE (fun _ => ?_) (fun _ => ?_)
     | refine leT hE (by omega) ?_
     | refine leF hE (by omega) ?_
     | refine leI hE (fun _ => ?_) (fun _ => ?_)
     | refine eqT hE (by omega) ?_
     | refine eqF hE (by omega) ?_
     | refine eqI hE (fun _ => ?_) (fun _ => ?_)
     | refine add64 hE (by omega) (fun _ _ => ?_)
     | refine sub64 hE (by omega) (fun _ _ => ?_)
     | refine addI hE (fun _ _ => ?_)
     | refine subI hE (fun _ _ => ?_)
     | refine lenL hE (by assumption) (fun _ _ _ => ?_)
     | refine len0 hE (fun _ _ => ?_)
     | refine idxL hE (by assumption) (by first | omega | (simp only [List.length_set, mix_len]; omega)) (fun _ _ => ?_)
     | refine idxFill hE (by assumption) (by omega) ?_
     | refine idxI hE (by decide) (by rfl) ?_
     | refine iteB (fun _ => ?_) (fun _ => ?_)
     | refine maxI hE (fun _ _ => ?_)
     | refine minI hE (fun _ _ => ?_)
     | refine seqI hE (fun _ => ?_) (fun _ => ?_)
     | refine scatI hE (by first | omega | (simp only [ByteArray.size, Array.size, List.length_cons, List.length_nil] at *; omega)) (fun _ _ _ => ?_)
     | refine slenI hE (fun _ _ _ => ?_)
     | refine sidxI hE (by omega) (fun _ _ _ _ => ?_)
     | refine needI hE (by first | decide | omega) ?_
     | refine rem64 hE (by omega) (fun _ _ => ?_)
     | refine quo64 hE (by omega) (fun _ _ => ?_)
     | refine wrapU8 hE (by omega) (fun _ _ => ?_)
     | refine wrap64 hE (by omega) (fun _ _ => ?_)
     | refine noownI hE (by simp [AV.isOwn]) ?_) <;> (try conv => cbv))
  all_goals (refine hK _ ?_; unfold needR; first | (rw [if_pos (by assumption)]; rfl) | (rw [if_neg (by assumption), if_pos (by assumption)]; rfl) | (rw [if_neg (by assumption), if_neg (by assumption), if_pos (by assumption)]; rfl) | (rw [if_neg (by assumption), if_neg (by assumption), if_neg (by assumption)]; rfl) | trace_state)
theorem meetsCategory_ {rs : List (List AV)} {b : Bool} {l : List Fau} (aid c f u : Int) (hl : rs = l.map Fau.cs) : AC Try.prog 13 [.sl b 4 rs, .int .i64 aid, .int .i64 c, .int .i64 f, .int .i64 u] AV.bool (bP ((availR l aid f u).2 = 0 ∧ (needR c).2 = 0 ∧ (needR c).1 ≤ (availR l aid f u).1)) := by
  refine ac Try.func13 (by kernel_rfl) (.bool _) fun E K hE hK => ?_
  conv => cbv
  repeat' first
    | (refine callII hE (availabilityOf_ aid f u hl) (fun m1 n1 hm1 hn1 => ?_); (try conv => cbv))
    | (refine callII hE (categoryNeed_ c) (fun m2 n2 hm2 hn2 => ?_); (try conv => cbv))
    | ((first
     | refine idxV hE (by assumption) (by omega) (by assumption) ?_
     | refine ltT hE (by omega) ?_
     | refine ltF hE (by omega) ?_
     | refine ltI hE (fun _ => ?_) (fun _ => ?_)
     | refine leT hE (by omega) ?_
     | refine leF hE (by omega) ?_
     | refine leI hE (fun _ => ?_) (fun _ => ?_)
     | refine eqT hE (by omega) ?_
     | refine eqF hE (by omega) ?_
     | refine eqI hE (fun _ => ?_) (fun _ => ?_)
     | refine add64 hE (by omega) (fun _ _ => ?_)
     | refine sub64 hE (by omega) (fun _ _ => ?_)
     | refine addI hE (fun _ _ => ?_)
     | refine subI hE (fun _ _ => ?_)
     | refine lenL hE (by assumption) (fun _ _ _ => ?_)
     | refine len0 hE (fun _ _ => ?_)
     | refine idxL hE (by assumption) (by first | omega | (simp only [List.length_set, mix_len]; omega)) (fun _ _ => ?_)
     | refine idxFill hE (by assumption) (by omega) ?_
     | refine idxI hE (by decide) (by rfl) ?_
     | refine iteB (fun _ => ?_) (fun _ => ?_)
     | refine maxI hE (fun _ _ => ?_)
     | refine minI hE (fun _ _ => ?_)
     | refine seqI hE (fun _ => ?_) (fun _ => ?_)
     | refine scatI hE (by first | omega | (simp only [ByteArray.size, Array.size, List.length_cons, List.length_nil] at *; omega)) (fun _ _ _ => ?_)
     | refine slenI hE (fun _ _ _ => ?_)
     | refine sidxI hE (by omega) (fun _ _ _ _ => ?_)
     | refine needI hE (by first | decide | omega) ?_
     | refine rem64 hE (by omega) (fun _ _ => ?_)
     | refine quo64 hE (by omega) (fun _ _ => ?_)
     | refine wrapU8 hE (by omega) (fun _ _ => ?_)
     | refine wrap64 hE (by omega) (fun _ _ => ?_)
     | refine noownI hE (by simp [AV.isOwn]) ?_) <;> (try conv => cbv))
  all_goals first
    | exact finB hK (bP_true.2 ⟨by omega, by omega, by omega⟩)
    | exact finB hK (bP_false.2 fun h => by omega)
    | trace_state
noncomputable def atR (code : List Int) (i n : Int) : Int := if n ≤ 1 then 0 else if i < code.length then (code.getD i.toNat 0) % n else (i * 37 + 11) % n
theorem atR_bd {code : List Int} {i n : Int} (hn : 1 < n) : 0 ≤ atR code i n ∧ atR code i n < n := by
  unfold atR
  rw [if_neg (by omega)]
  split <;> exact ⟨Int.emod_nonneg _ (by omega), Int.emod_lt_of_pos _ (by omega)⟩
theorem b10At_ {rs : List (List AV)} {t : Bool} {code : List Int} (i n : Int) (hc : rs = code.map u8R) (hb : Bytes code) (hi : 0 ≤ i ∧ i ≤ 1000) : AC Try.prog 50 [.sl t 1 rs, .int .i64 i, .int .i64 n] (AV.int .i64) (atR code i n) := by
  refine ac Try.func50 (by kernel_rfl) (.int _ _) fun E K hE hK => ?_
  conv => cbv
  repeat' first
    | (refine idxV (R := u8R) hE hc (by omega) (by assumption) ?_; (try conv => cbv))
    | (refine idxL hE hc (by omega) (fun v hv => ?_); have hvb := hb v (List.mem_of_getElem? hv); (try conv => cbv))
    | (refine mul64 hE (by omega) (fun _ _ => ?_); (try conv => cbv))
    | ((first
     | refine idxV hE (by assumption) (by omega) (by assumption) ?_
     | refine ltT hE (by omega) ?_
     | refine ltF hE (by omega) ?_
     | refine ltI hE (fun _ => ?_) (fun _ => ?_)
     | refine leT hE (by omega) ?_
     | refine leF hE (by omega) ?_
     | refine leI hE (fun _ => ?_) (fun _ => ?_)
     | refine eqT hE (by omega) ?_
     | refine eqF hE (by omega) ?_
     | refine eqI hE (fun _ => ?_) (fun _ => ?_)
     | refine add64 hE (by omega) (fun _ _ => ?_)
     | refine sub64 hE (by omega) (fun _ _ => ?_)
     | refine addI hE (fun _ _ => ?_)
     | refine subI hE (fun _ _ => ?_)
     | refine lenL hE (by assumption) (fun _ _ _ => ?_)
     | refine len0 hE (fun _ _ => ?_)
     | refine idxL hE (by assumption) (by first | omega | (simp only [List.length_set, mix_len]; omega)) (fun _ _ => ?_)
     | refine idxFill hE (by assumption) (by omega) ?_
     | refine idxI hE (by decide) (by rfl) ?_
     | refine iteB (fun _ => ?_) (fun _ => ?_)
     | refine maxI hE (fun _ _ => ?_)
     | refine minI hE (fun _ _ => ?_)
     | refine seqI hE (fun _ => ?_) (fun _ => ?_)
     | refine scatI hE (by first | omega | (simp only [ByteArray.size, Array.size, List.length_cons, List.length_nil] at *; omega)) (fun _ _ _ => ?_)
     | refine slenI hE (fun _ _ _ => ?_)
     | refine sidxI hE (by omega) (fun _ _ _ _ => ?_)
     | refine needI hE (by first | decide | omega) ?_
     | refine rem64 hE (by omega) (fun _ _ => ?_)
     | refine quo64 hE (by omega) (fun _ _ => ?_)
     | refine wrapU8 hE (by omega) (fun _ _ => ?_)
     | refine wrap64 hE (by omega) (fun _ _ => ?_)
     | refine noownI hE (by simp [AV.isOwn]) ?_) <;> (try conv => cbv))
  all_goals (refine hK _ ?_; unfold atR; simp only [atup]; first | (rw [if_pos (by assumption)]; done) | (rw [if_neg (by omega), if_pos (by omega), List.getD_eq_getElem?_getD, hv]; subst_vars; rfl) | (rw [if_neg (by omega), if_neg (by omega)]; subst_vars; rfl) | trace_state)
noncomputable def wideR (code : List Int) (i n : Int) : Int := (256 * atR code i 256 + atR code (i + 1) 256) % n
theorem b10Wide_ {rs : List (List AV)} {t : Bool} {code : List Int} (i n : Int) (hc : rs = code.map u8R) (hb : Bytes code) (hi : 0 ≤ i ∧ i ≤ 900) (hn : 0 < n) : AC Try.prog 14 [.sl t 1 rs, .int .i64 i, .int .i64 n] (AV.int .i64) (wideR code i n) := by
  refine ac Try.func14 (by kernel_rfl) (.int _ _) fun E K hE hK => ?_
  conv => cbv
  have q1 := atR_bd (code := code) (i := i) (n := 256) (by omega)
  have q2 := atR_bd (code := code) (i := i + 1) (n := 256) (by omega)
  repeat' first
    | (refine callI hE (b10At_ i 256 hc hb (by omega)) (fun y1 h1 => ?_); (try conv => cbv))
    | (refine add64 hE (by omega) (fun j hj => ?_); (try conv => cbv))
    | (refine callI hE (b10At_ j 256 hc hb (by omega)) (fun y2 h2 => ?_); have q3 := atR_bd (code := code) (i := j) (n := 256) (by omega); (try conv => cbv))
    | (refine mul64 hE (by omega) (fun _ _ => ?_); (try conv => cbv))
    | ((first
     | refine idxV hE (by assumption) (by omega) (by assumption) ?_
     | refine ltT hE (by omega) ?_
     | refine ltF hE (by omega) ?_
     | refine ltI hE (fun _ => ?_) (fun _ => ?_)
     | refine leT hE (by omega) ?_
     | refine leF hE (by omega) ?_
     | refine leI hE (fun _ => ?_) (fun _ => ?_)
     | refine eqT hE (by omega) ?_
     | refine eqF hE (by omega) ?_
     | refine eqI hE (fun _ => ?_) (fun _ => ?_)
     | refine add64 hE (by omega) (fun _ _ => ?_)
     | refine sub64 hE (by omega) (fun _ _ => ?_)
     | refine addI hE (fun _ _ => ?_)
     | refine subI hE (fun _ _ => ?_)
     | refine lenL hE (by assumption) (fun _ _ _ => ?_)
     | refine len0 hE (fun _ _ => ?_)
     | refine idxL hE (by assumption) (by first | omega | (simp only [List.length_set, mix_len]; omega)) (fun _ _ => ?_)
     | refine idxFill hE (by assumption) (by omega) ?_
     | refine idxI hE (by decide) (by rfl) ?_
     | refine iteB (fun _ => ?_) (fun _ => ?_)
     | refine maxI hE (fun _ _ => ?_)
     | refine minI hE (fun _ _ => ?_)
     | refine seqI hE (fun _ => ?_) (fun _ => ?_)
     | refine scatI hE (by first | omega | (simp only [ByteArray.size, Array.size, List.length_cons, List.length_nil] at *; omega)) (fun _ _ _ => ?_)
     | refine slenI hE (fun _ _ _ => ?_)
     | refine sidxI hE (by omega) (fun _ _ _ _ => ?_)
     | refine needI hE (by first | decide | omega) ?_
     | refine rem64 hE (by omega) (fun _ _ => ?_)
     | refine quo64 hE (by omega) (fun _ _ => ?_)
     | refine wrapU8 hE (by omega) (fun _ _ => ?_)
     | refine wrap64 hE (by omega) (fun _ _ => ?_)
     | refine noownI hE (by simp [AV.isOwn]) ?_) <;> (try conv => cbv))
  all_goals (refine hK _ ?_; unfold wideR; subst_vars; rfl)
theorem wideR_bd {code : List Int} {i n : Int} (hn : 0 < n) : 0 ≤ wideR code i n ∧ wideR code i n < n := ⟨Int.emod_nonneg _ (by omega), Int.emod_lt_of_pos _ (by omega)⟩
end Go.Proofs.Ytjenekakcoggpaa
