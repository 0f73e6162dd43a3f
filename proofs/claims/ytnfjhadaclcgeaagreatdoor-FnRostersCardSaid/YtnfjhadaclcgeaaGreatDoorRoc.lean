/- Contracts: duties written and read. -/
import Derived.Test.YtnfjhadaclcgeaaGreatDoorRdv
import Derived.Test.YtnfjhadaclcgeaaGreatDoorQc
namespace Go.Proofs.YtnfjhadaclcgeaaGreatDoor
open Go Go.RowKit Classical
set_option maxRecDepth 100000
set_option maxHeartbeats 2000000
set_option linter.unusedVariables false
set_option linter.unusedSimpArgs false
noncomputable def dtext (d : Dut) : ByteArray := if d.ok then d.keeper ++ ⟨#[32]⟩ ++ decS d.frm ++ ⟨#[32]⟩ ++ decS d.til else ⟨#[]⟩
theorem dtext_size {d : Dut} (h : d.ok) : (dtext d).size ≤ 100 := by
  unfold dtext
  rw [if_pos h]
  obtain ⟨⟨h1, _⟩, h2, h3, _⟩ := h
  unfold TimeOk at h2 h3
  have z1 := decS_size (n := d.frm) (by omega)
  have z2 := decS_size (n := d.til) (by omega)
  have z32 : (⟨#[32]⟩ : ByteArray).size = 1 := rfl
  simp only [ByteArray.size_append, z32]
  omega
theorem name_no32 {s : ByteArray} (h : NameOk s) : ∀ b ∈ s.data.toList, b ≠ 32 := fun b hb e => by
  obtain ⟨j, hj⟩ := List.getElem?_of_mem hb
  have hjl : j < s.size := by rw [← szl]; exact (List.getElem?_eq_some_iff.1 hj).1
  rw [get_at hjl] at hj
  have hc := h.2 j hjl
  have hx : s.data.getD j 0 = 32 := by cases hj; exact e
  unfold NameC isSm isDg chr at hc
  rw [hx] at hc
  have e32 : (((32 : UInt8).toNat : Nat) : Int) = 32 := rfl
  omega
theorem dtext_words {d : Dut} (h : d.ok) : wordsOf (dtext d) = [d.keeper, bL (Lib.itoa d.frm), bL (Lib.itoa d.til)] := by
  have hl : (dtext d).data.toList = d.keeper.data.toList ++ 32 :: (Lib.itoa d.frm ++ 32 :: Lib.itoa d.til) := by
    unfold dtext
    rw [if_pos h]
    simp [decS, ByteArray.data_append]
  have hc : cutS 32 (dtext d) = [d.keeper, bL (Lib.itoa d.frm), bL (Lib.itoa d.til)] := by
    unfold cutS
    rw [hl, cutC_three 32 _ _ _ (name_no32 h.1) (itoa_no32 _) (itoa_no32 _)]
    rfl
  unfold wordsOf
  rw [hc]
  have e1 : ∀ n, ¬ isE (bL (Lib.itoa n)) := fun n hn => itoa_ne n (by
    have := congrArg (fun s : ByteArray => s.data.toList) hn
    exact this)
  have e0 : ¬ isE d.keeper := fun hn => by
    have := h.1.1.1
    rw [show d.keeper = ⟨#[]⟩ from hn] at this
    exact absurd this (by decide)
  unfold rej
  rw [List.filter_cons, if_pos (by simpa using e0), List.filter_cons, if_pos (by simpa using e1 _), List.filter_cons, if_pos (by simpa using e1 _)]
  rfl
theorem dtext_num {d : Dut} (h : d.ok) : numOf (bL (Lib.itoa d.frm)).data.toList = (d.frm, true) ∧ numOf (bL (Lib.itoa d.til)).data.toList = (d.til, true) := by
  obtain ⟨_, h2, h3, _⟩ := h
  unfold TimeOk at h2 h3
  exact ⟨numOf_yes ⟨rfl, by omega, by omega⟩, numOf_yes ⟨rfl, by omega, by omega⟩⟩
theorem dutyText_ (keeper : ByteArray) (frm til : Int) : AP 17 [.agg [.str keeper, .int .i64 frm, .int .i64 til]] AV.str (dtext ⟨keeper, frm, til⟩) := by
  refine a0 Tryz.func17 fun E K hE hK => ?_
  refine callP (isDuty_ keeper frm til) (fun hok => ?_) (fun hok => ?_) <;> conv => cbv
  · have hok' := hok
    obtain ⟨⟨hk, _⟩, h2, h3, h4⟩ := hok'
    unfold TimeOk at h2 h3
    simp only at hk h2 h3
    have z1 := decS_size (n := frm) (by omega)
    have z2 := decS_size (n := til) (by omega)
    have z32 : (⟨⟨[32]⟩⟩ : ByteArray).size = 1 := rfl
    repeat' first
      | ((first
     | (refine scatI (by subst_vars; (try simp only [ByteArray.size_append]); omega) (fun _ _ _ => ?_))
     | refine callI (decimal_ _ (by omega)) (fun _ _ => ?_)
     | refine B0 ?_|refine B1 ?_ ?_) <;> intros <;> (try conv => cbv))
    all_goals first
      | (refine hK _ ?_; rw [show dtext ⟨keeper, frm, til⟩ = _ from if_pos hok]; subst_vars; rfl)
      | trace_state
  · exact hK _ (by rw [show dtext ⟨keeper, frm, til⟩ = ⟨#[]⟩ from if_neg hok]; rfl)
def dutB (p : Dut × Bool) : AV := .tup [.agg p.1.cs, .bool p.2]
theorem NoB.dutB (p : Dut × Bool) : NoB (dutB p) := .tupC (.oDut _) (.tupC (.bool _) .tup0)
theorem readDuty_ (d : Dut) (s : ByteArray) (hok : d.ok) (hs : s = dtext d) (hsz : s.size ≤ 1048576) : AP 16 [.str s] dutB (d, true) := by
  refine ac Tryz.func16 (.dutB _) fun E K hE hK => ?_
  have hw := dtext_words hok
  rw [← hs] at hw
  obtain ⟨n2, n3⟩ := dtext_num hok
  obtain ⟨z, hz⟩ : ∃ z, z = bL (Lib.itoa d.frm) := ⟨_, rfl⟩
  obtain ⟨u, hu⟩ : ∃ u, u = bL (Lib.itoa d.til) := ⟨_, rfl⟩
  rw [← hz, ← hu] at hw
  rw [← hz] at n2
  rw [← hu] at n3
  have hws : ∀ x ∈ wordsOf s, x.size ≤ 1048576 := fun x hx => Nat.le_trans (words_sub hx) hsz
  have w2 := hws z (by rw [hw]; simp)
  have w3 := hws u (by rw [hw]; simp)
  obtain ⟨keeper, frm, til⟩ := d
  refine callR (splitWords_ s hsz) (fun rs hrs => ?_)
  rw [hw] at hrs
  conv => cbv
  repeat' first
    | ((first
   | refine lenL hrs (fun n hn hb => ?_)
   | refine idxV (R := strR) (l := [keeper, z, u]) hrs (by decide) (by rfl) ?_
   | (refine callI (readDecimal_ z (by omega)) (fun p2 hp2 => ?_); rw [n2] at hp2; subst hp2)
   | (refine callI (readDecimal_ u (by omega)) (fun p3 hp3 => ?_); rw [n3] at hp3; subst hp3)
   | refine callI (dutyText_ _ _ _) (fun q hq => ?_)
   | refine B0 ?_|refine B1 ?_ ?_) <;> intros <;> (try conv => cbv))
  all_goals first
    | (exfalso; omega)
    | (exact absurd (hq.trans hs.symm) (by assumption))
    | exact hK _ rfl
    | trace_state
end Go.Proofs.YtnfjhadaclcgeaaGreatDoor
