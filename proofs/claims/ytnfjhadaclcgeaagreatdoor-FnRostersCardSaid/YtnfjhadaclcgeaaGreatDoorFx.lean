/- Contracts: minutes of duty. -/
import Derived.Test.YtnfjhadaclcgeaaGreatDoorQc
namespace Go.Proofs.YtnfjhadaclcgeaaGreatDoor
open Go Go.RowKit Classical
set_option maxRecDepth 100000
set_option maxHeartbeats 2000000
set_option linter.unusedVariables false
set_option linter.unusedSimpArgs false
def sumI {α : Type} (f : α → Int) (l : List α) (i : Int) : Int := ((l.take i.toNat).map f).sum
theorem sumI_zero {α : Type} {f : α → Int} {l : List α} {i : Int} (h : i ≤ 0) : sumI f l i = 0 := by
  unfold sumI; rw [show i.toNat = 0 by omega]; simp
theorem sumI_succ {α : Type} (f : α → Int) {l : List α} {i : Int} {v : α} (h0 : 0 ≤ i) (hv : l[i.toNat]? = some v) : sumI f l (i + 1) = sumI f l i + f v := by
  unfold sumI
  rw [show (i + 1).toNat = i.toNat + 1 by omega, List.take_add_one, hv]
  simp
theorem sumI_all {α : Type} (f : α → Int) (l : List α) {i : Int} (h : l.length ≤ i) : sumI f l i = (l.map f).sum := by
  unfold sumI; rw [List.take_of_length_le (by omega)]
theorem sumI_bd {α : Type} (f : α → Int) {l : List α} {B : Nat} (hb : ∀ v ∈ l, 0 ≤ f v ∧ f v ≤ B) : ∀ (n : Nat), n ≤ l.length → 0 ≤ sumI f l n ∧ sumI f l n ≤ B * n
  | 0, _ => by rw [sumI_zero (by omega)]; simp
  | n + 1, h => by
    have ih := sumI_bd f hb n (by omega)
    have hv : l[(n : Int).toNat]? = some l[n] := by simp
    rw [show ((n + 1 : Nat) : Int) = (n : Int) + 1 by omega, sumI_succ f (by omega) hv, Int.mul_add]
    have := hb l[n] (List.getElem_mem _)
    omega
def dutMin (f u : Int) (v : Dut) : Int := max 0 (min v.til u - max v.frm f)
noncomputable def minutesR (l : List Dut) (k : ByteArray) (f u : Int) : Int := ((ofKeeper l k).map (dutMin f u)).sum
theorem min_bd {l : List Dut} (h : DutiesOk l) (k : ByteArray) {f u : Int} (hf : TimeOk f) (hu : TimeOk u) : ∀ v ∈ ofKeeper l k, (0 ≤ v.frm ∧ v.frm ≤ 143999999) ∧ (0 ≤ v.til ∧ v.til ≤ 143999999) ∧ 0 ≤ dutMin f u v ∧ dutMin f u v ≤ (143999999 : Nat) := fun v hv => by
  have h1 := h.all v (List.mem_filter.1 hv).1
  obtain ⟨_, h2, h3, _⟩ := h1
  unfold TimeOk at *
  unfold dutMin
  omega
theorem minutes_ {rs : List (List AV)} {t : Bool} {l : List Dut} (k : ByteArray) (f u : Int) (hl : rs = l.map Dut.cs) (h : DutiesOk l) (hf : TimeOk f) (hu : TimeOk u) : AP 45 [.sl t 3 rs, .str k, .int .i64 f, .int .i64 u] (AV.int .i64) (minutesR l k f u) := by
  refine a0 Tryz.func45 fun E K hE hK => ?_
  have h60 := h.2
  have hbd := min_bd h k hf hu
  have hfl := ofKeeper_len l k
  refine callR (dutiesOfI_ k hl (by omega)) fun rs1 h1 => ?_
  conv => cbv
  refine lenL h1 fun n hn hb => ?_
  conv => cbv
  unfold TimeOk at hf hu
  refine loop2 [2, 3, 14, 15] [9, 16] (fun (i m : Int) => ([(9, .int .i64 m), (16, .int .i64 i)], [.row 3 rs1], n - i, (0 ≤ i ∧ i ≤ n) ∧ m = sumI (dutMin f u) (ofKeeper l k) i)) [0] ((0, 0)) (by dsimp only; exact ⟨by omega, by rw [sumI_zero (by omega)]⟩) fun i m hi Kn hN => ?_
  obtain ⟨⟨h0, h2⟩, h3⟩ := hi
  have hs := sumI_bd (dutMin f u) (fun v hv => (hbd v hv).2.2) i.toNat (by omega)
  rw [show ((i.toNat : Nat) : Int) = i by omega, ← h3] at hs
  repeat' first
    | (refine hN _ _ [0] rfl ⟨?_, ?_⟩)
    | ((first
   | refine idxV h1 (by omega) (by assumption) ?_
   | (refine idxL h1 (by omega) (fun v hv => ?_); have hv2 := hbd v (List.mem_of_getElem? hv); have hv3 := sumI_succ (dutMin f u) h0 hv; obtain ⟨keeper, frm, til⟩ := v; have hdm : dutMin f u ⟨keeper, frm, til⟩ = max 0 (min til u - max frm f) := rfl; simp only at hv2)
   | refine B0 ?_|refine B1 ?_ ?_) <;> intros <;> (try conv => cbv))
  all_goals first
    | omega
    | (rename_i hn1; rw [hn1, hv3]; omega)
    | (refine hK _ ?_; rw [h3, sumI_all _ _ (by omega)]; rfl)
    | trace_state
noncomputable def minutesOfR (l : List Dut) (k : ByteArray) (f u : Int) : Int × Int := if DutiesOk l then (if (TimeOk f ∧ TimeOk u) ∧ f ≤ u then (minutesR l k f u, 0) else (0, 2)) else (0, 1)
noncomputable def spanR (l : List Dut) (f u : Int) : Int := if DutiesOk l then (if (TimeOk f ∧ TimeOk u) ∧ f ≤ u then 0 else 2) else 1
theorem betweenCode_ {rs : List (List AV)} {t : Bool} {l : List Dut} (f u : Int) (hl : rs = l.map Dut.cs) : AP 30 [.sl t 3 rs, .int .i64 f, .int .i64 u] (AV.int .i64) (spanR l f u) := by
  refine a0 Tryz.func30 fun E K hE hK => ?_
  repeat' first
    | ((first
   | refine callP (validDuties_ (by assumption)) (fun _ => ?_) (fun _ => ?_)
   | refine callP (isTime_ _) (fun _ => ?_) (fun _ => ?_)
   | refine B0 ?_|refine B1 ?_ ?_) <;> intros <;> (try conv => cbv))
  all_goals (refine hK _ ?_; unfold spanR; simp_all [atup]; done)

theorem minutesOf_ {rs : List (List AV)} {t : Bool} {l : List Dut} (k : ByteArray) (f u : Int) (hl : rs = l.map Dut.cs) : AP 15 [.sl t 3 rs, .str k, .int .i64 f, .int .i64 u] two (minutesOfR l k f u) := by
  refine ac Tryz.func15 (.two _) fun E K hE hK => ?_
  refine callI (betweenCode_ f u hl) fun c hc => ?_
  conv => cbv
  refine eqI (fun h => ?_) (fun h => ?_) <;> conv => cbv
  · have hd : DutiesOk l := Classical.byContradiction fun hn => by rw [spanR, if_neg hn] at hc; omega
    have hs : (TimeOk f ∧ TimeOk u) ∧ f ≤ u := Classical.byContradiction fun hn => by rw [spanR, if_pos hd, if_neg hn] at hc; omega
    refine callI (minutes_ k f u hl hd hs.1.1 hs.1.2) fun m hm => ?_
    conv => cbv
    refine hK _ ?_
    rw [minutesOfR, if_pos hd, if_pos hs, hm]; rfl
  · refine hK _ ?_
    unfold spanR at hc
    unfold minutesOfR
    split
    · rename_i h1
      rw [if_pos h1] at hc
      split
      · rename_i h2; rw [if_pos h2] at hc; omega
      · rename_i h2; rw [if_neg h2] at hc; rw [hc]; rfl
    · rename_i h1; rw [if_neg h1] at hc; rw [hc]; rfl
end Go.Proofs.YtnfjhadaclcgeaaGreatDoor
