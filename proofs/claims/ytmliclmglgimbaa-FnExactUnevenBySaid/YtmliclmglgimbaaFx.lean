/- Contracts: minutes of duty. -/
import Derived.Test.YtmliclmglgimbaaFw
namespace Go.Proofs.Ytmliclmglgimbaa
open Go Go.RowKit Classical
set_option maxRecDepth 100000
set_option maxHeartbeats 2000000
set_option linter.unusedVariables false
set_option linter.unusedSimpArgs false
def sumI {α : Type} (f : α → Int) (l : List α) (i : Int) : Int := ((l.take i.toNat).map f).sum
theorem sumI_zero {α : Type} {f : α → Int} {l : List α} {i : Int} (h : i ≤ 0) : sumI f l i = 0 := by
  unfold sumI; rw [show i.toNat = 0 by omega]; simp
theorem sumI_succ {α : Type} (f : α → Int) {l : List α} {i : Int} {v : α} (h0 : 0 ≤ i) (hv : l[i.toNat]? = some v) : sumI f l (i + 1) = sumI f l i + f v := by
  unfold sumI
  rw [show (i + 1).toNat = i.toNat + 1 by omega, List.take_add_one, hv]
  simp
theorem sumI_all {α : Type} (f : α → Int) (l : List α) {i : Int} (h : l.length ≤ i) : sumI f l i = (l.map f).sum := by
  unfold sumI; rw [List.take_of_length_le (by omega)]
theorem sumI_bd {α : Type} (f : α → Int) {l : List α} {B : Nat} (hb : ∀ v ∈ l, 0 ≤ f v ∧ f v ≤ B) : ∀ (n : Nat), n ≤ l.length → 0 ≤ sumI f l n ∧ sumI f l n ≤ B * n
  | 0, _ => by rw [sumI_zero (by omega)]; simp
  | n + 1, h => by
    have ih := sumI_bd f hb n (by omega)
    have hv : l[(n : Int).toNat]? = some l[n] := by simp
    rw [show ((n + 1 : Nat) : Int) = (n : Int) + 1 by omega, sumI_succ f (by omega) hv, Int.mul_add]
    have := hb l[n] (List.getElem_mem _)
    omega
def dutMin (f u : Int) (v : Dut) : Int := max 0 (min v.til u - max v.frm f)
noncomputable def minutesR (l : List Dut) (k : ByteArray) (f u : Int) : Int := ((ofKeeper l k).map (dutMin f u)).sum
theorem DutiesOk.all {l : List Dut} (h : DutiesOk l) : ∀ v ∈ l, v.ok := fun v hv => by
  obtain ⟨j, hj⟩ := List.getElem?_of_mem hv
  obtain ⟨w, h1, h2, _⟩ := h.1 j (List.getElem?_eq_some_iff.1 hj).1
  rw [hj] at h1; cases h1; exact h2
theorem min_bd {l : List Dut} (h : DutiesOk l) (k : ByteArray) {f u : Int} (hf : TimeOk f) (hu : TimeOk u) : ∀ v ∈ ofKeeper l k, (0 ≤ v.frm ∧ v.frm ≤ 143999999) ∧ (0 ≤ v.til ∧ v.til ≤ 143999999) ∧ 0 ≤ dutMin f u v ∧ dutMin f u v ≤ (143999999 : Nat) := fun v hv => by
  have h1 := h.all v (List.mem_filter.1 hv).1
  obtain ⟨_, h2, h3, _⟩ := h1
  unfold TimeOk at *
  unfold dutMin
  omega
theorem l00Min_ (a b : Int) : AC Try.prog 101 [.int .i64 a, .int .i64 b] (AV.int .i64) (min a b) := by
  refine ac Try.func101 (by kernel_rfl) (.int _ _) fun E K hE hK => ?_
  conv => cbv
  repeat' first
    | ((first
     | refine idxV hE (by assumption) (by omega) (by assumption) ?_
     | refine ltT hE (by omega) ?_
     | refine ltF hE (by omega) ?_
     | refine ltI hE (fun _ => ?_) (fun _ => ?_)
     | refine leT hE (by omega) ?_
     | refine leF hE (by omega) ?_
     | refine leI hE (fun _ => ?_) (fun _ => ?_)
     | refine eqT hE (by omega) ?_
     | refine eqF hE (by omega) ?_
     | refine eqI hE (fun _ => ?_) (fun _ => ?_)
     | refine add64 hE (by omega) (fun _ _ => ?_)
     | refine sub64 hE (by omega) (fun _ _ => ?_)
     | refine addI hE (fun _ _ => ?_)
     | refine subI hE (fun _ _ => ?_)
     | refine lenL hE (by assumption) (fun _ _ _ => ?_)
     | refine len0 hE (fun _ _ => ?_)
     | refine idxL hE (by assumption) (by first | omega | (simp only [List.length_set, mix_len]; omega)) (fun _ _ => ?_)
     | refine idxFill hE (by assumption) (by omega) ?_
     | refine idxI hE (by decide) (by rfl) ?_
     | refine iteB (fun _ => ?_) (fun _ => ?_)
     | refine maxI hE (fun _ _ => ?_)
     | refine minI hE (fun _ _ => ?_)
     | refine seqI hE (fun _ => ?_) (fun _ => ?_)
     | refine scatI hE (by first | omega | (simp only [ByteArray.size, Array.size, List.length_cons, List.length_nil] at *; omega)) (fun _ _ _ => ?_)
     | refine slenI hE (fun _ _ _ => ?_)
     | refine sidxI hE (by omega) (fun _ _ _ _ => ?_)
     | refine needI hE (by first | decide | omega) ?_
     | refine rem64 hE (by omega) (fun _ _ => ?_)
     | refine quo64 hE (by omega) (fun _ _ => ?_)
     | refine wrapU8 hE (by omega) (fun _ _ => ?_)
     | refine wrap64 hE (by omega) (fun _ _ => ?_)
     | refine noownI hE (by simp [AV.isOwn]) ?_) <;> (try conv => cbv))
  all_goals exact hK _ (by simp [atup]; omega)
theorem minutes_ {rs : List (List AV)} {t : Bool} {l : List Dut} (k : ByteArray) (f u : Int) (hl : rs = l.map Dut.cs) (h : DutiesOk l) (hf : TimeOk f) (hu : TimeOk u) : AC Try.prog 103 [.sl t 3 rs, .str k, .int .i64 f, .int .i64 u] (AV.int .i64) (minutesR l k f u) := by
  refine ac Try.func103 (by kernel_rfl) (.int _ _) fun E K hE hK => ?_
  conv => cbv
  have h60 := h.2
  have hbd := min_bd h k hf hu
  have hfl := ofKeeper_len l k
  refine callR hE (dutiesOfI_ k hl (by omega)) fun rs1 h1 => ?_
  conv => cbv
  refine lenL hE h1 fun n hn hb => ?_
  conv => cbv
  unfold TimeOk at hf hu
  refine loopC hE (ι := Int × Int) [2, 3, 14, 15] [9, 16] (fun q => (fun (i : Int) (m : Int) => [(9, .int .i64 m), (16, .int .i64 i)]) q.1 q.2) (fun q => (fun (i : Int) (m : Int) => [.row 3 rs1]) q.1 q.2) (fun q => (fun (i : Int) (m : Int) => (n - i).toNat) q.1 q.2) (fun q => (fun (i : Int) (m : Int) => (0 ≤ i ∧ i ≤ n) ∧ m = sumI (dutMin f u) (ofKeeper l k) i) q.1 q.2) [0] (by decide) ((0, 0)) (by conv => lhs; cbv) (by conv => lhs; cbv) rfl rfl (by dsimp only; exact ⟨by omega, by rw [sumI_zero (by omega)]⟩) fun q hi Kn hN => ?_
  obtain ⟨i, m⟩ := q
  (try dsimp only at hi)
  conv => cbv
  obtain ⟨⟨h0, h2⟩, h3⟩ := hi
  have hs := sumI_bd (dutMin f u) (fun v hv => (hbd v hv).2.2) i.toNat (by omega)
  rw [show ((i.toNat : Nat) : Int) = i by omega, ← h3] at hs
  repeat' first
    | (refine idxV hE h1 (by omega) (by assumption) ?_; (try conv => cbv))
    | (refine idxL hE h1 (by omega) (fun v hv => ?_); have hv2 := hbd v (List.mem_of_getElem? hv); have hv3 := sumI_succ (dutMin f u) h0 hv; obtain ⟨keeper, frm, til⟩ := v; have hdm : dutMin f u ⟨keeper, frm, til⟩ = max 0 (min til u - max frm f) := rfl; simp only at hv2; (try conv => cbv))
    | (refine hN (_, _) _ [0] (by decide) rfl ⟨?_, ?_⟩ ?_ <;> (try dsimp only))
    | ((first
     | refine idxV hE (by assumption) (by omega) (by assumption) ?_
     | refine ltT hE (by omega) ?_
     | refine ltF hE (by omega) ?_
     | refine ltI hE (fun _ => ?_) (fun _ => ?_)
     | refine leT hE (by omega) ?_
     | refine leF hE (by omega) ?_
     | refine leI hE (fun _ => ?_) (fun _ => ?_)
     | refine eqT hE (by omega) ?_
     | refine eqF hE (by omega) ?_
     | refine eqI hE (fun _ => ?_) (fun _ => ?_)
     | refine add64 hE (by omega) (fun _ _ => ?_)
     | refine sub64 hE (by omega) (fun _ _ => ?_)
     | refine addI hE (fun _ _ => ?_)
     | refine subI hE (fun _ _ => ?_)
     | refine lenL hE (by assumption) (fun _ _ _ => ?_)
     | refine len0 hE (fun _ _ => ?_)
     | refine idxL hE (by assumption) (by first | omega | (simp only [List.length_set, mix_len]; omega)) (fun _ _ => ?_)
     | refine idxFill hE (by assumption) (by omega) ?_
     | refine idxI hE (by decide) (by rfl) ?_
     | refine iteB (fun _ => ?_) (fun _ => ?_)
     | refine maxI hE (fun _ _ => ?_)
     | refine minI hE (fun _ _ => ?_)
     | refine seqI hE (fun _ => ?_) (fun _ => ?_)
     | refine scatI hE (by first | omega | (simp only [ByteArray.size, Array.size, List.length_cons, List.length_nil] at *; omega)) (fun _ _ _ => ?_)
     | refine slenI hE (fun _ _ _ => ?_)
     | refine sidxI hE (by omega) (fun _ _ _ _ => ?_)
     | refine needI hE (by first | decide | omega) ?_
     | refine rem64 hE (by omega) (fun _ _ => ?_)
     | refine quo64 hE (by omega) (fun _ _ => ?_)
     | refine wrapU8 hE (by omega) (fun _ _ => ?_)
     | refine wrap64 hE (by omega) (fun _ _ => ?_)
     | refine noownI hE (by simp [AV.isOwn]) ?_) <;> (try conv => cbv))
  all_goals first
    | omega
    | (rename_i hn1; rw [hn1, hv3]; omega)
    | (refine hK _ ?_; rw [h3, sumI_all _ _ (by omega)]; rfl)
    | trace_state
noncomputable def minutesOfR (l : List Dut) (k : ByteArray) (f u : Int) : Int × Int := if DutiesOk l then (if (TimeOk f ∧ TimeOk u) ∧ f ≤ u then (minutesR l k f u, 0) else (0, 2)) else (0, 1)
noncomputable def spanR (l : List Dut) (f u : Int) : Int := if DutiesOk l then (if (TimeOk f ∧ TimeOk u) ∧ f ≤ u then 0 else 2) else 1
theorem betweenCode_ {rs : List (List AV)} {t : Bool} {l : List Dut} (f u : Int) (hl : rs = l.map Dut.cs) : AC Try.prog 102 [.sl t 3 rs, .int .i64 f, .int .i64 u] (AV.int .i64) (spanR l f u) := by
  refine ac Try.func102 (by kernel_rfl) (.int _ _) fun E K hE hK => ?_
  conv => cbv
  repeat' first
    | ((first
     | refine idxV hE (by assumption) (by omega) (by assumption) ?_
     | refine callP hE (validDuties_ (by assumption)) (fun _ => ?_) (fun _ => ?_)
     | refine callP hE (isTime_ _) (fun _ => ?_) (fun _ => ?_)
     | refine ltT hE (by omega) ?_
     | refine ltF hE (by omega) ?_
     | refine ltI hE (fun _ => ?_) (fun _ => ?_)
     | refine leT hE (by omega) ?_
     | refine leF hE (by omega) ?_
     | refine leI hE (fun _ => ?_) (fun _ => ?_)
     | refine eqT hE (by omega) ?_
     | refine eqF hE (by omega) ?_
     | refine eqI hE (fun _ => ?_) (fun _ => ?_)
     | refine add64 hE (by omega) (fun _ _ => ?_)
     | refine sub64 hE (by omega) (fun _ _ => ?_)
     | refine addI hE (fun _ _ => ?_)
     | refine subI hE (fun _ _ => ?_)
     | refine lenL hE (by assumption) (fun _ _ _ => ?_)
     | refine len0 hE (fun _ _ => ?_)
     | refine idxL hE (by assumption) (by first | omega | (simp only [List.length_set, mix_len]; omega)) (fun _ _ => ?_)
     | refine idxFill hE (by assumption) (by omega) ?_
     | refine idxI hE (by decide) (by rfl) ?_
     | refine iteB (fun _ => ?_) (fun _ => ?_)
     | refine maxI hE (fun _ _ => ?_)
     | refine minI hE (fun _ _ => ?_)
     | refine seqI hE (fun _ => ?_) (fun _ => ?_)
     | refine scatI hE (by first | omega | (simp only [ByteArray.size, Array.size, List.length_cons, List.length_nil] at *; omega)) (fun _ _ _ => ?_)
     | refine slenI hE (fun _ _ _ => ?_)
     | refine sidxI hE (by omega) (fun _ _ _ _ => ?_)
     | refine needI hE (by first | decide | omega) ?_
     | refine rem64 hE (by omega) (fun _ _ => ?_)
     | refine quo64 hE (by omega) (fun _ _ => ?_)
     | refine wrapU8 hE (by omega) (fun _ _ => ?_)
     | refine wrap64 hE (by omega) (fun _ _ => ?_)
     | refine noownI hE (by simp [AV.isOwn]) ?_) <;> (try conv => cbv))
  all_goals (refine hK _ ?_; unfold spanR; simp_all [atup]; done)

theorem span_ {rs : List (List AV)} {t : Bool} {l : List Dut} (f u : Int) (hl : rs = l.map Dut.cs) : AC Try.prog 99 [.sl t 3 rs, .int .i64 f, .int .i64 u] (AV.int .i64) (spanR l f u) := by
  refine ac Try.func99 (by kernel_rfl) (.int _ _) fun E K hE hK => ?_
  conv => cbv
  repeat' first
    | ((first
     | refine idxV hE (by assumption) (by omega) (by assumption) ?_
     | refine callP hE (l28Ok_ (by assumption)) (fun _ => ?_) (fun _ => ?_)
     | refine callP hE (l20Time_ _) (fun _ => ?_) (fun _ => ?_)
     | refine ltT hE (by omega) ?_
     | refine ltF hE (by omega) ?_
     | refine ltI hE (fun _ => ?_) (fun _ => ?_)
     | refine leT hE (by omega) ?_
     | refine leF hE (by omega) ?_
     | refine leI hE (fun _ => ?_) (fun _ => ?_)
     | refine eqT hE (by omega) ?_
     | refine eqF hE (by omega) ?_
     | refine eqI hE (fun _ => ?_) (fun _ => ?_)
     | refine add64 hE (by omega) (fun _ _ => ?_)
     | refine sub64 hE (by omega) (fun _ _ => ?_)
     | refine addI hE (fun _ _ => ?_)
     | refine subI hE (fun _ _ => ?_)
     | refine lenL hE (by assumption) (fun _ _ _ => ?_)
     | refine len0 hE (fun _ _ => ?_)
     | refine idxL hE (by assumption) (by first | omega | (simp only [List.length_set, mix_len]; omega)) (fun _ _ => ?_)
     | refine idxFill hE (by assumption) (by omega) ?_
     | refine idxI hE (by decide) (by rfl) ?_
     | refine iteB (fun _ => ?_) (fun _ => ?_)
     | refine maxI hE (fun _ _ => ?_)
     | refine minI hE (fun _ _ => ?_)
     | refine seqI hE (fun _ => ?_) (fun _ => ?_)
     | refine scatI hE (by first | omega | (simp only [ByteArray.size, Array.size, List.length_cons, List.length_nil] at *; omega)) (fun _ _ _ => ?_)
     | refine slenI hE (fun _ _ _ => ?_)
     | refine sidxI hE (by omega) (fun _ _ _ _ => ?_)
     | refine needI hE (by first | decide | omega) ?_
     | refine rem64 hE (by omega) (fun _ _ => ?_)
     | refine quo64 hE (by omega) (fun _ _ => ?_)
     | refine wrapU8 hE (by omega) (fun _ _ => ?_)
     | refine wrap64 hE (by omega) (fun _ _ => ?_)
     | refine noownI hE (by simp [AV.isOwn]) ?_) <;> (try conv => cbv))
  all_goals (refine hK _ ?_; unfold spanR; simp_all [atup]; done)

theorem minutesOf_ {rs : List (List AV)} {t : Bool} {l : List Dut} (k : ByteArray) (f u : Int) (hl : rs = l.map Dut.cs) : AC Try.prog 31 [.sl t 3 rs, .str k, .int .i64 f, .int .i64 u] two (minutesOfR l k f u) := by
  refine ac Try.func31 (by kernel_rfl) (.two _) fun E K hE hK => ?_
  conv => cbv
  refine callI hE (betweenCode_ f u hl) fun c hc => ?_
  conv => cbv
  refine eqI hE (fun h => ?_) (fun h => ?_) <;> conv => cbv
  · have hd : DutiesOk l := Classical.byContradiction fun hn => by rw [spanR, if_neg hn] at hc; omega
    have hs : (TimeOk f ∧ TimeOk u) ∧ f ≤ u := Classical.byContradiction fun hn => by rw [spanR, if_pos hd, if_neg hn] at hc; omega
    refine callI hE (minutes_ k f u hl hd hs.1.1 hs.1.2) fun m hm => ?_
    conv => cbv
    refine hK _ ?_
    rw [minutesOfR, if_pos hd, if_pos hs, hm]; rfl
  · refine hK _ ?_
    unfold spanR at hc
    unfold minutesOfR
    split
    · rename_i h1
      rw [if_pos h1] at hc
      split
      · rename_i h2; rw [if_pos h2] at hc; omega
      · rename_i h2; rw [if_neg h2] at hc; rw [hc]; rfl
    · rename_i h1; rw [if_neg h1] at hc; rw [hc]; rfl
theorem sMinutesOf_ {rs : List (List AV)} {t : Bool} {l : List Dut} (k : ByteArray) (f u : Int) (hl : rs = l.map Dut.cs) : AC Try.prog 30 [.sl t 3 rs, .str k, .int .i64 f, .int .i64 u] two (minutesOfR l k f u) := by
  refine ac Try.func30 (by kernel_rfl) (.two _) fun E K hE hK => ?_
  conv => cbv
  refine callI hE (span_ f u hl) fun c hc => ?_
  conv => cbv
  refine eqI hE (fun h => ?_) (fun h => ?_) <;> conv => cbv
  · have hd : DutiesOk l := Classical.byContradiction fun hn => by rw [spanR, if_neg hn] at hc; omega
    have hs : (TimeOk f ∧ TimeOk u) ∧ f ≤ u := Classical.byContradiction fun hn => by rw [spanR, if_pos hd, if_neg hn] at hc; omega
    have h60 := hd.2
    have hbd := min_bd hd k hs.1.1 hs.1.2
    have hfl := ofKeeper_len l k
    have hf := hs.1.1
    have hu := hs.1.2
    unfold TimeOk at hf hu
    refine callR hE (l28Of_ k hl (by omega)) fun rs1 h1 => ?_
    conv => cbv
    refine loopC hE (ι := Int × Int) [2, 3, 11] [12, 13] (fun q => (fun (i : Int) (m : Int) => [(12, .int .i64 m), (13, .int .i64 i)]) q.1 q.2) (fun q => (fun (i : Int) (m : Int) => [.row 3 rs1]) q.1 q.2) (fun q => (fun (i : Int) (m : Int) => ((ofKeeper l k).length - i).toNat) q.1 q.2) (fun q => (fun (i : Int) (m : Int) => (0 ≤ i ∧ i ≤ (ofKeeper l k).length) ∧ m = sumI (dutMin f u) (ofKeeper l k) i) q.1 q.2) [0] (by decide) ((0, 0)) (by conv => lhs; cbv) (by conv => lhs; cbv) rfl rfl (by dsimp only; exact ⟨by omega, by rw [sumI_zero (by omega)]⟩) fun q hi Kn hN => ?_
    obtain ⟨i, m⟩ := q
    (try dsimp only at hi)
    conv => cbv
    obtain ⟨⟨h0, h2⟩, h3⟩ := hi
    have hs := sumI_bd (dutMin f u) (fun v hv => (hbd v hv).2.2) i.toNat (by omega)
    rw [show ((i.toNat : Nat) : Int) = i by omega, ← h3] at hs
    repeat' first
      | (refine idxV hE h1 (by omega) (by assumption) ?_; (try conv => cbv))
      | (refine idxL hE h1 (by omega) (fun v hv => ?_); have hv2 := hbd v (List.mem_of_getElem? hv); have hv3 := sumI_succ (dutMin f u) h0 hv; obtain ⟨keeper, frm, til⟩ := v; have hdm : dutMin f u ⟨keeper, frm, til⟩ = max 0 (min til u - max frm f) := rfl; simp only at hv2; (try conv => cbv))
      | (refine hN (_, _) _ [0] (by decide) rfl ⟨?_, ?_⟩ ?_ <;> (try dsimp only))
      | ((first
       | refine idxV hE (by assumption) (by omega) (by assumption) ?_
       | refine callI hE (l00Min_ _ _) (fun _ _ => ?_)
       | refine callI hE (l00Max_ _ _) (fun _ _ => ?_)
       | refine ltT hE (by omega) ?_
       | refine ltF hE (by omega) ?_
       | refine ltI hE (fun _ => ?_) (fun _ => ?_)
       | refine leT hE (by omega) ?_
       | refine leF hE (by omega) ?_
       | refine leI hE (fun _ => ?_) (fun _ => ?_)
       | refine eqT hE (by omega) ?_
       | refine eqF hE (by omega) ?_
       | refine eqI hE (fun _ => ?_) (fun _ => ?_)
       | refine add64 hE (by omega) (fun _ _ => ?_)
       | refine sub64 hE (by omega) (fun _ _ => ?_)
       | refine addI hE (fun _ _ => ?_)
       | refine subI hE (fun _ _ => ?_)
       | refine lenL hE (by assumption) (fun _ _ _ => ?_)
       | refine len0 hE (fun _ _ => ?_)
       | refine idxL hE (by assumption) (by first | omega | (simp only [List.length_set, mix_len]; omega)) (fun _ _ => ?_)
       | refine idxFill hE (by assumption) (by omega) ?_
       | refine idxI hE (by decide) (by rfl) ?_
       | refine iteB (fun _ => ?_) (fun _ => ?_)
       | refine maxI hE (fun _ _ => ?_)
       | refine minI hE (fun _ _ => ?_)
       | refine seqI hE (fun _ => ?_) (fun _ => ?_)
       | refine scatI hE (by first | omega | (simp only [ByteArray.size, Array.size, List.length_cons, List.length_nil] at *; omega)) (fun _ _ _ => ?_)
       | refine slenI hE (fun _ _ _ => ?_)
       | refine sidxI hE (by omega) (fun _ _ _ _ => ?_)
       | refine needI hE (by first | decide | omega) ?_
       | refine rem64 hE (by omega) (fun _ _ => ?_)
       | refine quo64 hE (by omega) (fun _ _ => ?_)
       | refine wrapU8 hE (by omega) (fun _ _ => ?_)
       | refine wrap64 hE (by omega) (fun _ _ => ?_)
       | refine noownI hE (by simp [AV.isOwn]) ?_) <;> (try conv => cbv))
    all_goals first
      | omega
      | (rename_i hn1; rw [hn1, hv3]; omega)
      | (refine hK _ ?_; rw [minutesOfR, if_pos hd, if_pos (by assumption), h3, sumI_all _ _ (by omega)]; rfl)
      | trace_state
  · refine hK _ ?_
    unfold spanR at hc
    unfold minutesOfR
    split
    · rename_i h1
      rw [if_pos h1] at hc
      split
      · rename_i h2; rw [if_pos h2] at hc; omega
      · rename_i h2; rw [if_neg h2] at hc; rw [hc]; rfl
    · rename_i h1; rw [if_neg h1] at hc; rw [hc]; rfl
theorem lawMinutesOf {rs : List (List AV)} {t : Bool} {l : List Dut} (k : ByteArray) (f u : Int) (hl : rs = l.map Dut.cs) : AC Try.prog 5 [.sl t 3 rs, .str k, .int .i64 f, .int .i64 u] id (.bool true) := by
  refine ac Try.func5 (by kernel_rfl) (.bool _) fun E K hE hK => ?_
  conv => cbv
  repeat' first
    | (refine callI hE (szDutyS_ _ hl (by decide)) (fun y hy => ?_); have hz := szN_or 1048576 (l.length + (l.map Dut.sz).sum); rw [← hy] at hz; clear hy; (try conv => cbv))
    | ((first
     | refine idxV hE (by assumption) (by omega) (by assumption) ?_
     | refine callR hE (toDutyS_ hl (by omega)) (fun _ _ => ?_)
     | refine callII hE (sMinutesOf_ k f u (by assumption)) (fun _ _ _ _ => ?_)
     | refine callII hE (minutesOf_ k f u (by assumption)) (fun _ _ _ _ => ?_)
     | refine callPT hE (eqDutyS_ (by assumption) (by assumption)) rfl ?_
     | refine ltT hE (by omega) ?_
     | refine ltF hE (by omega) ?_
     | refine ltI hE (fun _ => ?_) (fun _ => ?_)
     | refine leT hE (by omega) ?_
     | refine leF hE (by omega) ?_
     | refine leI hE (fun _ => ?_) (fun _ => ?_)
     | refine eqT hE (by omega) ?_
     | refine eqF hE (by omega) ?_
     | refine eqI hE (fun _ => ?_) (fun _ => ?_)
     | refine add64 hE (by omega) (fun _ _ => ?_)
     | refine sub64 hE (by omega) (fun _ _ => ?_)
     | refine addI hE (fun _ _ => ?_)
     | refine subI hE (fun _ _ => ?_)
     | refine lenL hE (by assumption) (fun _ _ _ => ?_)
     | refine len0 hE (fun _ _ => ?_)
     | refine idxL hE (by assumption) (by first | omega | (simp only [List.length_set, mix_len]; omega)) (fun _ _ => ?_)
     | refine idxFill hE (by assumption) (by omega) ?_
     | refine idxI hE (by decide) (by rfl) ?_
     | refine iteB (fun _ => ?_) (fun _ => ?_)
     | refine maxI hE (fun _ _ => ?_)
     | refine minI hE (fun _ _ => ?_)
     | refine seqI hE (fun _ => ?_) (fun _ => ?_)
     | refine scatI hE (by first | omega | (simp only [ByteArray.size, Array.size, List.length_cons, List.length_nil] at *; omega)) (fun _ _ _ => ?_)
     | refine slenI hE (fun _ _ _ => ?_)
     | refine sidxI hE (by omega) (fun _ _ _ _ => ?_)
     | refine needI hE (by first | decide | omega) ?_
     | refine rem64 hE (by omega) (fun _ _ => ?_)
     | refine quo64 hE (by omega) (fun _ _ => ?_)
     | refine wrapU8 hE (by omega) (fun _ _ => ?_)
     | refine wrap64 hE (by omega) (fun _ _ => ?_)
     | refine noownI hE (by simp [AV.isOwn]) ?_) <;> (try conv => cbv))
  all_goals first
    | exact hK _ rfl
    | omega
    | trace_state
end Go.Proofs.Ytmliclmglgimbaa
