/- Contracts: one duty less, another keeper; the laws. -/
import Derived.Test.YtnfjhadaclcgeaaGreatDoorFad
namespace Go.Proofs.YtnfjhadaclcgeaaGreatDoor
open Go Go.RowKit Go.Sort Classical
set_option maxRecDepth 100000
set_option maxHeartbeats 2000000
set_option linter.unusedVariables false
set_option linter.unusedSimpArgs false
noncomputable def atK (l : List Dut) (k : ByteArray) (f : Int) : Int := firstI (fun v : Dut => v.keeper = k ∧ v.frm = f) l
theorem atK_bd (l : List Dut) (k : ByteArray) (f : Int) : -1 ≤ atK l k f ∧ atK l k f < l.length ∧ (atK l k f < 0 → atK l k f = -1) := by
  unfold atK
  rcases firstI_spec (fun v : Dut => v.keeper = k ∧ v.frm = f) l with ⟨g1, g2, _⟩ | ⟨g1, g2⟩ <;> omega
theorem dutyOf1_ (keeper : ByteArray) (frm til : Int) (k : ByteArray) (f : Int) : AP 71 [.agg [.str keeper, .int .i64 frm, .int .i64 til], .pp [.str k], .pp [.int .i64 f]] AV.bool (bP ((⟨keeper, frm, til⟩ : Dut).keeper = k ∧ (⟨keeper, frm, til⟩ : Dut).frm = f)) := by
  refine a0 Tryz.func71 fun E K hE hK => ?_
  repeat' first
    | ((first

   | refine B0 ?_|refine B1 ?_ ?_) <;> intros <;> (try conv => cbv))
  all_goals first
    | (refine finB hK (bP_true.2 ⟨?_, ?_⟩) <;> assumption)
    | (refine finB hK (bP_false.2 fun h => ?_); first | exact absurd h.1 (by assumption) | exact absurd h.2 (by assumption))
    | trace_state
theorem dutyOf_ {rs : List (List AV)} {b : Bool} {l : List Dut} (k : ByteArray) (f : Int) (hl : rs = l.map Dut.cs) : AP 42 [.sl b 3 rs, .str k, .int .i64 f] (AV.int .i64) (atK l k f) := by
  refine a0 Tryz.func42 fun E K hE hK => ?_
  refine callI (indexDuty2_ (p := fun v : Dut => v.keeper = k ∧ v.frm = f) hl (fun a b c => dutyOf1_ a b c k f)) fun y hy => ?_
  conv => cbv
  exact hK _ (by rw [hy]; rfl)
/-- A list without one of its members. -/
def cutAt (l : List Dut) (i : Int) : List Dut := l.take i.toNat ++ l.drop (i + 1).toNat
theorem cutAt_sub (l : List Dut) {i : Int} (h : 0 ≤ i) : (cutAt l i).Sublist l := by
  unfold cutAt
  rw [show (i + 1).toNat = i.toNat + 1 by omega, ← List.eraseIdx_eq_take_drop_succ]
  exact List.eraseIdx_sublist ..
theorem cutAt_len (l : List Dut) {i : Int} (h : 0 ≤ i) : (cutAt l i).length ≤ l.length := (cutAt_sub l h).length_le
theorem cutAt_lt (l : List Dut) {i : Int} (h : 0 ≤ i ∧ i < l.length) : (cutAt l i).length < l.length := by
  unfold cutAt
  rw [List.length_append, List.length_take, List.length_drop]; omega
noncomputable def dropR (l : List Dut) (k : ByteArray) (f : Int) : List Dut × Int := if DutiesOk l then (if atK l k f < 0 then ([], 3) else (cutAt l (atK l k f), 0)) else ([], 1)
theorem dropR_len (l : List Dut) (k : ByteArray) (f : Int) : (dropR l k f).1.length ≤ l.length := by
  unfold dropR
  split
  · split
    · simp
    · exact cutAt_len l (by omega)
  · simp
theorem dropDuty_ {rs : List (List AV)} {b : Bool} {l : List Dut} (k : ByteArray) (f : Int) (hl : rs = l.map Dut.cs) : AP 13 [.sl b 3 rs, .str k, .int .i64 f] dutLI (dropR l k f) := by
  refine ac Tryz.func13 (.dutLI _) fun E K hE hK => ?_
  have hbd := atK_bd l k f
  repeat' first
    | ((first
   | (refine callP (validDuties_ (by assumption)) (fun hok => ?_) (fun hok => ?_) <;> (try have h60 := hok.2))
   | (refine callI (dutyOf_ k f (by assumption)) (fun y hy => ?_); rw [← hy] at hbd)
   | (refine callMI (delDuty_ _ _ (by assumption) (by omega) (by omega)) ?_; rintro r ys ⟨rs2, h2, rfl, rfl⟩)
   | refine callR (cloneDuty_ hl (by omega)) (fun _ _ => ?_)
   | refine nilOwnI 3 ?_
   | refine B0 ?_|refine B1 ?_ ?_) <;> intros <;> (try conv => cbv))
  all_goals first
    | omega
    | (refine hK _ ?_; rw [dropR, if_pos hok, if_pos (by omega)]; rfl)
    | (refine hK _ ?_; rw [dropR, if_pos hok, if_neg (by omega), ← hy, h2]; subst_vars; rfl)
    | (refine hK _ ?_; rw [dropR, if_neg hok]; rfl)
    | trace_state
end Go.Proofs.YtnfjhadaclcgeaaGreatDoor
