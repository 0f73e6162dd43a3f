/- Contracts: who is on duty; the law. -/
import Derived.Test.YtnfjhadaclcgeaaGreatDoorFio
import Derived.Test.YtnfjhadaclcgeaaGreatDoorQc
import Derived.Test.YtnfjhadaclcgeaaGreatDoorFs
namespace Go.Proofs.YtnfjhadaclcgeaaGreatDoor
open Go Go.RowKit Go.Sort Classical
set_option maxRecDepth 100000
set_option maxHeartbeats 2000000
set_option linter.unusedVariables false
set_option linter.unusedSimpArgs false
theorem strLt_iff (a b : ByteArray) : strLt a b ↔ a.data.toList < b.data.toList := by
  unfold strLt
  rw [bytesLess_eq, decide_eq_true_eq, bytes_toList, bytes_toList]
theorem strLt_trans (a b c : ByteArray) (h1 : strLt a b) (h2 : strLt b c) : strLt a c := by
  rw [strLt_iff] at *; exact List.lt_trans h1 h2
theorem strLt_irr (a : ByteArray) : ¬ strLt a a := by
  rw [strLt_iff]; exact List.lt_irrefl _
theorem strLt_asymm (a b : ByteArray) (h1 : strLt a b) : ¬ strLt b a := fun h2 => strLt_irr a (strLt_trans _ _ _ h1 h2)
theorem strLt_ntrans (a b c : ByteArray) (h1 : ¬ strLt a b) (h2 : ¬ strLt b c) : ¬ strLt a c := by
  rw [strLt_iff] at *; exact List.le_trans (l₁ := c.data.toList) (l₂ := b.data.toList) (l₃ := a.data.toList) h2 h1
theorem strLt_anti (a b : ByteArray) (h1 : ¬ strLt b a) (h2 : ¬ strLt a b) : a = b := by
  rcases (strLt_tri a b).1 h1 with h | h
  · exact absurd h h2
  · exact h
/-- What the library's sort makes of texts. -/
def sortS (m : List ByteArray) : List ByteArray := ((m.map fun b => b.data.toList).mergeSort fun x y => decide (x ≤ y)).map fun x => ⟨x.toArray⟩
theorem sortS_perm (m : List ByteArray) : (sortS m).Perm m := by
  have h := (List.mergeSort_perm (m.map fun b => b.data.toList) fun x y => decide (x ≤ y)).map fun x : List UInt8 => (⟨x.toArray⟩ : ByteArray)
  rw [List.map_map] at h
  rwa [show (fun x : List UInt8 => (⟨x.toArray⟩ : ByteArray)) ∘ (fun b : ByteArray => b.data.toList) = id from rfl, List.map_id] at h
theorem sortS_pw (m : List ByteArray) : (sortS m).Pairwise fun x y => ¬ strLt y x := by
  unfold sortS
  rw [List.pairwise_map]
  refine (List.pairwise_mergeSort (le := fun x y : List UInt8 => decide (x ≤ y)) (fun a b c h1 h2 => ?_) (fun a b => ?_) _).imp fun {a b} h => ?_
  · simp only [decide_eq_true_eq] at *; exact List.le_trans h1 h2
  · simp only [Bool.or_eq_true, decide_eq_true_eq]; exact List.le_total a b
  · rw [strLt_iff]
    exact of_decide_eq_true h
noncomputable def insAll (m : List ByteArray) : List ByteArray := m.foldl (insG strLt) []
theorem insAll_snoc (m : List ByteArray) (x : ByteArray) : insAll (m ++ [x]) = insG strLt (insAll m) x := by
  unfold insAll; rw [List.foldl_append]; rfl
theorem insAll_spec (m : List ByteArray) : (insAll m).Perm m ∧ (insAll m).Pairwise fun x y => ¬ strLt y x := by
  obtain ⟨n, hn⟩ : ∃ n, n = m.reverse := ⟨_, rfl⟩
  have : ∀ n : List ByteArray, (insAll n.reverse).Perm n.reverse ∧ (insAll n.reverse).Pairwise fun x y => ¬ strLt y x := by
    intro n
    induction n with
    | nil => exact ⟨.refl _, .nil⟩
    | cons x n ih =>
      rw [List.reverse_cons, insAll_snoc]
      exact ⟨(insG_perm _ _ _).trans (ih.1.append_right _), insG_pwN strLt_trans strLt_asymm strLt_ntrans ih.2⟩
  have h := this n
  rwa [hn, List.reverse_reverse] at h
theorem sortS_ins (m : List ByteArray) : sortS m = insAll m :=
  sorted_uniq ((sortS_perm m).trans (insAll_spec m).1.symm) (fun x _ y _ h1 h2 => strLt_anti _ _ h1 h2) (sortS_pw m) (insAll_spec m).2
theorem sortSt_ {rs : List (List AV)} {l : List ByteArray} (hl : rs = l.map strR) (hb : l.length ≤ 1048576) : ACM Tryz.prog 59 [.sl true 1 rs] (fun r ys => ∃ rs', rs' = (sortS l).map strR ∧ r = .tup [] ∧ ys = [.sl true 1 rs']) :=
  ACM.sortS Tryz.sortS (fun _ _ => rfl) hl hb
noncomputable def onM (l : List Dut) (t : Int) : List ByteArray := (rej (fun v : Dut => t < v.frm ∨ v.til ≤ t) l).map Dut.keeper
theorem onM_len (l : List Dut) (t : Int) : (onM l t).length ≤ l.length := by
  unfold onM; rw [List.length_map]; exact rej_len _ _
theorem onDutyI_ {rs : List (List AV)} {b : Bool} {l : List Dut} (t : Int) (hl : rs = l.map Dut.cs) (hok : DutiesOk l) : AP 33 [.sl b 3 rs, .int .i64 t] (fun l : List ByteArray => .sl true 1 (l.map strR)) (insAll (onM l t)) := by
  refine ac Tryz.func33 (.strs _) fun E K hE hK => ?_
  have h60 := hok.2
  refine lenL hl fun n hn hbn => ?_
  conv => cbv
  refine loop2 [1, 9, 10] [11, 5] (fun (i : Int) (es : List (List AV)) => ([(11, .int .i64 i), (5, .ob 0)], [.row 1 es], n - i, (0 ≤ i ∧ i ≤ n) ∧ ∃ q : List ByteArray, es = q.map strR ∧ q = onM (l.take i.toNat) t)) [0] ((0, [])) (by dsimp only; exact ⟨by omega, [], rfl, rfl⟩) fun i es hi Kn hN => ?_
  obtain ⟨⟨h0, h3⟩, q, h4, h5⟩ := hi
  have hq : q.length ≤ 1048576 := by
    have := onM_len (l.take i.toNat) t
    rw [List.length_take] at this
    rw [h5]; omega
  repeat' first
    | (refine hN _ _ [3] rfl ⟨?_, _, by assumption, ?_⟩)
    | (refine hN _ _ [0] rfl ⟨?_, _, by assumption, ?_⟩)
    | ((first
   | refine idxV hl (by omega) (by assumption) ?_
   | (refine idxL hl (by omega) (fun v hv => ?_); have hvo := hok.all v (List.mem_of_getElem? hv); obtain ⟨keeper, frm, til⟩ := v; obtain ⟨_, ht1, ht2, _⟩ := hvo; simp only [TimeOk] at ht1 ht2)
   | (refine callMI (sortSt_ h4 (by omega)) ?_; rintro r ys ⟨rs2, h6, rfl, rfl⟩)
   | refine callP (within_ _ _ _) (fun _ => ?_) (fun _ => ?_)
   | refine catP (R := strR) (by assumption) rfl (by omega) (fun _ _ => ?_)
   | refine sameI (by rw [h4, h6, List.length_map, List.length_map, (sortS_perm _).length_eq]) ?_
   | refine B0 ?_|refine B1 ?_ ?_) <;> intros <;> (try conv => cbv))
  all_goals (try clear hN)
  all_goals first
    | omega
    | (have hs := (rej_step (fun v : Dut => t < v.frm ∨ v.til ≤ t) h0 (by assumption) (by assumption)).2 (by simp only; omega); rw [h5]; unfold onM; rw [hs]; simp; done)
    | (have hs := (rej_step (fun v : Dut => t < v.frm ∨ v.til ≤ t) h0 (by assumption) (by assumption)).1 (by simp only; omega); rw [h5]; unfold onM; rw [hs])
    | (refine hK _ ?_; rw [h6, sortS_ins, h5, List.take_of_length_le (by omega)]; rfl)
    | trace_state
def strLI (p : List ByteArray × Int) : AV := .tup [.sl true 1 (p.1.map strR), .int .i64 p.2]
theorem NoB.strLI (p : List ByteArray × Int) : NoB (strLI p) := .tupC (.strs _) (.tupC (.int _ _) .tup0)
noncomputable def onDutyR (l : List Dut) (t : Int) : List ByteArray × Int := if DutiesOk l then (if TimeOk t then (insAll (onM l t), 0) else ([], 2)) else ([], 1)
theorem onDutyR_len (l : List Dut) (t : Int) : (onDutyR l t).1.length ≤ l.length := by
  unfold onDutyR
  split
  · split
    · exact Nat.le_trans (Nat.le_of_eq (insAll_spec _).1.length_eq) (onM_len l t)
    · simp
  · simp
theorem onDuty_ {rs : List (List AV)} {b : Bool} {l : List Dut} (t : Int) (hl : rs = l.map Dut.cs) : AP 14 [.sl b 3 rs, .int .i64 t] strLI (onDutyR l t) := by
  refine ac Tryz.func14 (.strLI _) fun E K hE hK => ?_
  repeat' first
    | ((first
   | refine callP (validDuties_ (by assumption)) (fun _ => ?_) (fun _ => ?_)
   | refine callP (isTime_ _) (fun _ => ?_) (fun _ => ?_)
   | refine callR (onDutyI_ t hl (by assumption)) (fun _ _ => ?_)
   | refine nilOwnI 1 ?_
   | refine B0 ?_|refine B1 ?_ ?_) <;> intros <;> (try conv => cbv))
  all_goals first
    | (refine hK _ ?_; rw [onDutyR, if_pos (by assumption), if_pos (by assumption)]; subst_vars; rfl)
    | (refine hK _ ?_; rw [onDutyR, if_pos (by assumption), if_neg (by assumption)]; rfl)
    | (refine hK _ ?_; rw [onDutyR, if_neg (by assumption)]; rfl)
    | trace_state
end Go.Proofs.YtnfjhadaclcgeaaGreatDoor
