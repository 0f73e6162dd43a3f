/- Contracts: who is on duty; the law. -/
import Derived.Test.YtcmgdilpljiljaaFio
import Derived.Test.YtcmgdilpljiljaaFw
import Derived.Test.YtcmgdilpljiljaaFs
namespace Go.Proofs.Ytcmgdilpljiljaa
open Go Go.RowKit Go.Sort Classical
set_option maxRecDepth 100000
set_option maxHeartbeats 2000000
set_option linter.unusedVariables false
set_option linter.unusedSimpArgs false
theorem strLt_iff (a b : ByteArray) : strLt a b ↔ a.data.toList < b.data.toList := by
  unfold strLt
  rw [bytesLess_eq, decide_eq_true_eq, bytes_toList, bytes_toList]
theorem strLt_trans (a b c : ByteArray) (h1 : strLt a b) (h2 : strLt b c) : strLt a c := by
  rw [strLt_iff] at *; exact List.lt_trans h1 h2
theorem strLt_irr (a : ByteArray) : ¬ strLt a a := by
  rw [strLt_iff]; exact List.lt_irrefl _
theorem strLt_asymm (a b : ByteArray) (h1 : strLt a b) : ¬ strLt b a := fun h2 => strLt_irr a (strLt_trans _ _ _ h1 h2)
theorem strLt_ntrans (a b c : ByteArray) (h1 : ¬ strLt a b) (h2 : ¬ strLt b c) : ¬ strLt a c := by
  rw [strLt_iff] at *; exact List.le_trans (l₁ := c.data.toList) (l₂ := b.data.toList) (l₃ := a.data.toList) h2 h1
theorem strLt_anti (a b : ByteArray) (h1 : ¬ strLt b a) (h2 : ¬ strLt a b) : a = b := by
  rcases (strLt_tri a b).1 h1 with h | h
  · exact absurd h h2
  · exact h
/-- What the library's sort makes of texts. -/
def sortS (m : List ByteArray) : List ByteArray := ((m.map fun b => b.data.toList).mergeSort fun x y => decide (x ≤ y)).map fun x => ⟨x.toArray⟩
theorem sortS_perm (m : List ByteArray) : (sortS m).Perm m := by
  have h := (List.mergeSort_perm (m.map fun b => b.data.toList) fun x y => decide (x ≤ y)).map fun x : List UInt8 => (⟨x.toArray⟩ : ByteArray)
  rw [List.map_map] at h
  rwa [show (fun x : List UInt8 => (⟨x.toArray⟩ : ByteArray)) ∘ (fun b : ByteArray => b.data.toList) = id from rfl, List.map_id] at h
theorem sortS_pw (m : List ByteArray) : (sortS m).Pairwise fun x y => ¬ strLt y x := by
  unfold sortS
  rw [List.pairwise_map]
  refine (List.pairwise_mergeSort (le := fun x y : List UInt8 => decide (x ≤ y)) (fun a b c h1 h2 => ?_) (fun a b => ?_) _).imp fun {a b} h => ?_
  · simp only [decide_eq_true_eq] at *; exact List.le_trans h1 h2
  · simp only [Bool.or_eq_true, decide_eq_true_eq]; exact List.le_total a b
  · rw [strLt_iff]
    exact of_decide_eq_true h
noncomputable def insAll (m : List ByteArray) : List ByteArray := m.foldl (insG strLt) []
theorem insAll_snoc (m : List ByteArray) (x : ByteArray) : insAll (m ++ [x]) = insG strLt (insAll m) x := by
  unfold insAll; rw [List.foldl_append]; rfl
theorem insAll_spec (m : List ByteArray) : (insAll m).Perm m ∧ (insAll m).Pairwise fun x y => ¬ strLt y x := by
  obtain ⟨n, hn⟩ : ∃ n, n = m.reverse := ⟨_, rfl⟩
  have : ∀ n : List ByteArray, (insAll n.reverse).Perm n.reverse ∧ (insAll n.reverse).Pairwise fun x y => ¬ strLt y x := by
    intro n
    induction n with
    | nil => exact ⟨.refl _, .nil⟩
    | cons x n ih =>
      rw [List.reverse_cons, insAll_snoc]
      exact ⟨(insG_perm _ _ _).trans (ih.1.append_right _), insG_pwN strLt_trans strLt_asymm strLt_ntrans ih.2⟩
  have h := this n
  rwa [hn, List.reverse_reverse] at h
theorem sortS_ins (m : List ByteArray) : sortS m = insAll m :=
  sorted_uniq ((sortS_perm m).trans (insAll_spec m).1.symm) (fun x _ y _ h1 h2 => strLt_anti _ _ h1 h2) (sortS_pw m) (insAll_spec m).2
theorem sortSt_ {rs : List (List AV)} {l : List ByteArray} (hl : rs = l.map strR) (hb : l.length ≤ 1048576) : ACM Try.prog 179 [.sl true 1 rs] (fun r ys => ∃ rs', rs' = (sortS l).map strR ∧ r = .tup [] ∧ ys = [.sl true 1 rs']) :=
  ACM.sortS Try.sortS (fun _ _ => rfl) hl hb
noncomputable def onM (l : List Dut) (t : Int) : List ByteArray := (rej (fun v : Dut => t < v.frm ∨ v.til ≤ t) l).map Dut.keeper
theorem onM_len (l : List Dut) (t : Int) : (onM l t).length ≤ l.length := by
  unfold onM; rw [List.length_map]; exact rej_len _ _
theorem onDutyI_ {rs : List (List AV)} {b : Bool} {l : List Dut} (t : Int) (hl : rs = l.map Dut.cs) (hok : DutiesOk l) : AC Try.prog 130 [.sl b 3 rs, .int .i64 t] (fun l : List ByteArray => .sl true 1 (l.map strR)) (insAll (onM l t)) := by
  refine ac Try.func130 (by kernel_rfl) (.strs _) fun E K hE hK => ?_
  conv => cbv
  have h60 := hok.2
  refine lenL hE hl fun n hn hbn => ?_
  conv => cbv
  refine loopC hE (ι := Int × (List (List AV))) [1, 9, 10] [11, 5] (fun q => (fun (i : Int) (es : List (List AV)) => [(11, .int .i64 i), (5, .ob 0)]) q.1 q.2) (fun q => (fun (i : Int) (es : List (List AV)) => [.row 1 es]) q.1 q.2) (fun q => (fun (i : Int) (es : List (List AV)) => (n - i).toNat) q.1 q.2) (fun q => (fun (i : Int) (es : List (List AV)) => (0 ≤ i ∧ i ≤ n) ∧ ∃ q : List ByteArray, es = q.map strR ∧ q = onM (l.take i.toNat) t) q.1 q.2) [0] (by decide) ((0, [])) (by conv => lhs; cbv) (by conv => lhs; cbv) rfl rfl (by dsimp only; exact ⟨by omega, [], rfl, rfl⟩) fun q hi Kn hN => ?_
  obtain ⟨i, es⟩ := q
  (try dsimp only at hi)
  conv => cbv
  obtain ⟨⟨h0, h3⟩, q, h4, h5⟩ := hi
  have hq : q.length ≤ 1048576 := by
    have := onM_len (l.take i.toNat) t
    rw [List.length_take] at this
    rw [h5]; omega
  repeat' first
    | (refine idxV hE hl (by omega) (by assumption) ?_; (try conv => cbv))
    | (refine idxL hE hl (by omega) (fun v hv => ?_); have hvo := hok.all v (List.mem_of_getElem? hv); obtain ⟨keeper, frm, til⟩ := v; obtain ⟨_, ht1, ht2, _⟩ := hvo; simp only [TimeOk] at ht1 ht2; (try conv => cbv))
    | (refine callMI hE (sortSt_ h4 (by omega)) ?_; rintro r ys ⟨rs2, h6, rfl, rfl⟩; conv => cbv)
    | (refine hN (_, _) _ [3] (by decide) rfl ⟨?_, _, by assumption, ?_⟩ ?_ <;> (try dsimp only))
    | (refine hN (_, _) _ [0] (by decide) rfl ⟨?_, _, by assumption, ?_⟩ ?_ <;> (try dsimp only))
    | ((first
     | refine idxV hE (by assumption) (by omega) (by assumption) ?_
     | refine callP hE (within_ _ _ _) (fun _ => ?_) (fun _ => ?_)
     | refine catP hE (R := strR) (by assumption) rfl (by omega) (fun _ _ => ?_)
     | refine sameI hE (by rw [h4, h6, List.length_map, List.length_map, (sortS_perm _).length_eq]) ?_
     | refine ltT hE (by omega) ?_
     | refine ltF hE (by omega) ?_
     | refine ltI hE (fun _ => ?_) (fun _ => ?_)
     | refine leT hE (by omega) ?_
     | refine leF hE (by omega) ?_
     | refine leI hE (fun _ => ?_) (fun _ => ?_)
     | refine eqT hE (by omega) ?_
     | refine eqF hE (by omega) ?_
     | refine eqI hE (fun _ => ?_) (fun _ => ?_)
     | refine add64 hE (by omega) (fun _ _ => ?_)
     | refine sub64 hE (by omega) (fun _ _ => ?_)
     | refine addI hE (fun _ _ => ?_)
     | refine subI hE (fun _ _ => ?_)
     | refine lenL hE (by assumption) (fun _ _ _ => ?_)
     | refine len0 hE (fun _ _ => ?_)
     | refine idxL hE (by assumption) (by first | omega | (simp only [List.length_set, mix_len]; omega)) (fun _ _ => ?_)
     | refine idxFill hE (by assumption) (by omega) ?_
     | refine idxI hE (by decide) (by rfl) ?_
     | refine iteB (fun _ => ?_) (fun _ => ?_)
     | refine maxI hE (fun _ _ => ?_)
     | refine minI hE (fun _ _ => ?_)
     | refine seqI hE (fun _ => ?_) (fun _ => ?_)
     | refine scatI hE (by first | omega | (simp only [ByteArray.size, Array.size, List.length_cons, List.length_nil] at *; omega)) (fun _ _ _ => ?_)
     | refine slenI hE (fun _ _ _ => ?_)
     | refine sidxI hE (by omega) (fun _ _ _ _ => ?_)
     | refine needI hE (by first | decide | omega) ?_
     | refine rem64 hE (by omega) (fun _ _ => ?_)
     | refine quo64 hE (by omega) (fun _ _ => ?_)
     | refine wrapU8 hE (by omega) (fun _ _ => ?_)
     | refine wrap64 hE (by omega) (fun _ _ => ?_)
     | refine noownI hE (by simp [AV.isOwn]) ?_) <;> (try conv => cbv))
  all_goals (try clear hN)
  all_goals first
    | omega
    | (have hs := (rej_step (fun v : Dut => t < v.frm ∨ v.til ≤ t) h0 (by assumption) (by assumption)).2 (by simp only; omega); rw [h5]; unfold onM; rw [hs]; simp; done)
    | (have hs := (rej_step (fun v : Dut => t < v.frm ∨ v.til ≤ t) h0 (by assumption) (by assumption)).1 (by simp only; omega); rw [h5]; unfold onM; rw [hs])
    | (refine hK _ ?_; rw [h6, sortS_ins, h5, List.take_of_length_le (by omega)]; rfl)
    | trace_state
def strLI (p : List ByteArray × Int) : AV := .tup [.sl true 1 (p.1.map strR), .int .i64 p.2]
theorem NoB.strLI (p : List ByteArray × Int) : NoB (strLI p) := .tupC (.strs _) (.tupC (.int _ _) .tup0)
noncomputable def onDutyR (l : List Dut) (t : Int) : List ByteArray × Int := if DutiesOk l then (if TimeOk t then (insAll (onM l t), 0) else ([], 2)) else ([], 1)
theorem onDutyR_len (l : List Dut) (t : Int) : (onDutyR l t).1.length ≤ l.length := by
  unfold onDutyR
  split
  · split
    · exact Nat.le_trans (Nat.le_of_eq (insAll_spec _).1.length_eq) (onM_len l t)
    · simp
  · simp
theorem onDuty_ {rs : List (List AV)} {b : Bool} {l : List Dut} (t : Int) (hl : rs = l.map Dut.cs) : AC Try.prog 57 [.sl b 3 rs, .int .i64 t] strLI (onDutyR l t) := by
  refine ac Try.func57 (by kernel_rfl) (.strLI _) fun E K hE hK => ?_
  conv => cbv
  repeat' first
    | ((first
     | refine idxV hE (by assumption) (by omega) (by assumption) ?_
     | refine callP hE (validDuties_ (by assumption)) (fun _ => ?_) (fun _ => ?_)
     | refine callP hE (isTime_ _) (fun _ => ?_) (fun _ => ?_)
     | refine callR hE (onDutyI_ t hl (by assumption)) (fun _ _ => ?_)
     | refine nilOwnI hE 1 ?_
     | refine ltT hE (by omega) ?_
     | refine ltF hE (by omega) ?_
     | refine ltI hE (fun _ => ?_) (fun _ => ?_)
     | refine leT hE (by omega) ?_
     | refine leF hE (by omega) ?_
     | refine leI hE (fun _ => ?_) (fun _ => ?_)
     | refine eqT hE (by omega) ?_
     | refine eqF hE (by omega) ?_
     | refine eqI hE (fun _ => ?_) (fun _ => ?_)
     | refine add64 hE (by omega) (fun _ _ => ?_)
     | refine sub64 hE (by omega) (fun _ _ => ?_)
     | refine addI hE (fun _ _ => ?_)
     | refine subI hE (fun _ _ => ?_)
     | refine lenL hE (by assumption) (fun _ _ _ => ?_)
     | refine len0 hE (fun _ _ => ?_)
     | refine idxL hE (by assumption) (by first | omega | (simp only [List.length_set, mix_len]; omega)) (fun _ _ => ?_)
     | refine idxFill hE (by assumption) (by omega) ?_
     | refine idxI hE (by decide) (by rfl) ?_
     | refine iteB (fun _ => ?_) (fun _ => ?_)
     | refine maxI hE (fun _ _ => ?_)
     | refine minI hE (fun _ _ => ?_)
     | refine seqI hE (fun _ => ?_) (fun _ => ?_)
     | refine scatI hE (by first | omega | (simp only [ByteArray.size, Array.size, List.length_cons, List.length_nil] at *; omega)) (fun _ _ _ => ?_)
     | refine slenI hE (fun _ _ _ => ?_)
     | refine sidxI hE (by omega) (fun _ _ _ _ => ?_)
     | refine needI hE (by first | decide | omega) ?_
     | refine rem64 hE (by omega) (fun _ _ => ?_)
     | refine quo64 hE (by omega) (fun _ _ => ?_)
     | refine wrapU8 hE (by omega) (fun _ _ => ?_)
     | refine wrap64 hE (by omega) (fun _ _ => ?_)
     | refine noownI hE (by simp [AV.isOwn]) ?_) <;> (try conv => cbv))
  all_goals first
    | (refine hK _ ?_; rw [onDutyR, if_pos (by assumption), if_pos (by assumption)]; subst_vars; rfl)
    | (refine hK _ ?_; rw [onDutyR, if_pos (by assumption), if_neg (by assumption)]; rfl)
    | (refine hK _ ?_; rw [onDutyR, if_neg (by assumption)]; rfl)
    | trace_state
theorem sOnDuty_ {rs : List (List AV)} {b : Bool} {l : List Dut} (t : Int) (hl : rs = l.map Dut.cs) : AC Try.prog 56 [.sl b 3 rs, .int .i64 t] strLI (onDutyR l t) := by
  refine ac Try.func56 (by kernel_rfl) (.strLI _) fun E K hE hK => ?_
  conv => cbv
  refine callP hE (l28Ok_ hl) (fun hok => ?_) (fun hok => ?_) <;> conv => cbv
  · refine callP hE (l20Time_ _) (fun ht => ?_) (fun ht => ?_) <;> conv => cbv
    · have h60 := hok.2
      refine loopC hE (ι := Int × (List (List AV))) [0, 1] [7, 6] (fun q => (fun (i : Int) (es : List (List AV)) => [(7, .int .i64 i), (6, .ob 0)]) q.1 q.2) (fun q => (fun (i : Int) (es : List (List AV)) => [.row 1 es]) q.1 q.2) (fun q => (fun (i : Int) (es : List (List AV)) => (l.length - i).toNat) q.1 q.2) (fun q => (fun (i : Int) (es : List (List AV)) => (0 ≤ i ∧ i ≤ l.length) ∧ es = (insAll (onM (l.take i.toNat) t)).map strR) q.1 q.2) [0] (by decide) ((0, [])) (by conv => lhs; cbv) (by conv => lhs; cbv) rfl rfl (by dsimp only; exact ⟨by omega, rfl⟩) fun q hi Kn hN => ?_
      obtain ⟨i, es⟩ := q
      (try dsimp only at hi)
      conv => cbv
      obtain ⟨⟨h0, h1⟩, h2⟩ := hi
      obtain ⟨o, ho⟩ : ∃ o, o = insAll (onM (l.take i.toNat) t) := ⟨_, rfl⟩
      rw [← ho] at h2
      have hol : o.length ≤ l.length := by
        rw [ho, (insAll_spec _).1.length_eq]
        exact Nat.le_trans (onM_len _ _) (by rw [List.length_take]; omega)
      repeat' first
        | (refine idxV hE hl (by omega) (by assumption) ?_; (try conv => cbv))
        | (refine idxV hE h2 (by omega) (by assumption) ?_; (try conv => cbv))
        | ((refine loopC hE (ι := Int) [0, 1, 6, 7] [8] (fun q => (fun (a : Int) => [(8, .int .i64 a)]) q) (fun q => (fun (a : Int) => [.row 1 es]) q) (fun q => (fun (a : Int) => (a).toNat) q) (fun q => (fun (a : Int) => (0 ≤ a ∧ a ≤ o.length) ∧ scanG (strLt (by assumption)) o o.length = scanG (strLt (by assumption)) o a.toNat) q) [0] (by decide) (_) (by conv => lhs; cbv) (by conv => lhs; cbv) rfl rfl (by dsimp only; exact ⟨by omega, by subst_vars; rfl⟩) fun a hi2 Kn2 hN2 => ?_; (try dsimp only at hi2); conv => cbv); obtain ⟨⟨a0, a1⟩, ainv⟩ := hi2)
        | (refine idxL hE h2 (by omega) (fun q hq => ?_); (try conv => cbv))
        | (refine idxL hE hl (by omega) (fun v hv => ?_); obtain ⟨keeper, frm, til⟩ := v; (try conv => cbv))
        | (refine hN2 _ _ [0] (by decide) rfl ⟨?_, ?_⟩ ?_ <;> (try dsimp only))
        | (refine hN (_, _) _ [5] (by decide) rfl ⟨?_, ?_⟩ ?_ <;> (try dsimp only))
        | (refine hN (_, _) _ [0] (by decide) rfl ⟨?_, ?_⟩ ?_ <;> (try dsimp only))
        | ((first
         | refine idxV hE (by assumption) (by omega) (by assumption) ?_
         | refine sltP hE (fun _ => ?_) (fun _ => ?_)
         | refine subL hE h2 (by simp only [Option.getD_some, Option.getD_none]; omega) (fun _ _ => ?_)
         | refine flatStrs hE (by assumption) ?_
         | refine cat0L hE (R := strR) (by assumption) (by simp only [List.length_take, List.length_drop]; omega) (fun _ _ => ?_)
         | refine catP hE (R := strR) (by assumption) rfl (by simp only [List.length_append, List.length_take, List.length_drop, List.length_cons, List.length_nil]; omega) (fun _ _ => ?_)
         | refine catL hE (R := strR) (by assumption) (by assumption) (by simp only [List.length_append, List.length_take, List.length_drop, List.length_cons, List.length_nil]; omega) (fun _ _ => ?_)
         | refine ltT hE (by omega) ?_
         | refine ltF hE (by omega) ?_
         | refine ltI hE (fun _ => ?_) (fun _ => ?_)
         | refine leT hE (by omega) ?_
         | refine leF hE (by omega) ?_
         | refine leI hE (fun _ => ?_) (fun _ => ?_)
         | refine eqT hE (by omega) ?_
         | refine eqF hE (by omega) ?_
         | refine eqI hE (fun _ => ?_) (fun _ => ?_)
         | refine add64 hE (by omega) (fun _ _ => ?_)
         | refine sub64 hE (by omega) (fun _ _ => ?_)
         | refine addI hE (fun _ _ => ?_)
         | refine subI hE (fun _ _ => ?_)
         | refine lenL hE (by assumption) (fun _ _ _ => ?_)
         | refine len0 hE (fun _ _ => ?_)
         | refine idxL hE (by assumption) (by first | omega | (simp only [List.length_set, mix_len]; omega)) (fun _ _ => ?_)
         | refine idxFill hE (by assumption) (by omega) ?_
         | refine idxI hE (by decide) (by rfl) ?_
         | refine iteB (fun _ => ?_) (fun _ => ?_)
         | refine maxI hE (fun _ _ => ?_)
         | refine minI hE (fun _ _ => ?_)
         | refine seqI hE (fun _ => ?_) (fun _ => ?_)
         | refine scatI hE (by first | omega | (simp only [ByteArray.size, Array.size, List.length_cons, List.length_nil] at *; omega)) (fun _ _ _ => ?_)
         | refine slenI hE (fun _ _ _ => ?_)
         | refine sidxI hE (by omega) (fun _ _ _ _ => ?_)
         | refine needI hE (by first | decide | omega) ?_
         | refine rem64 hE (by omega) (fun _ _ => ?_)
         | refine quo64 hE (by omega) (fun _ _ => ?_)
         | refine wrapU8 hE (by omega) (fun _ _ => ?_)
         | refine wrap64 hE (by omega) (fun _ _ => ?_)
         | refine noownI hE (by simp [AV.isOwn]) ?_) <;> (try conv => cbv))
      all_goals (try clear hN)
      all_goals (try clear hN2)
      all_goals first
        | omega
        | (refine ainv.trans (scanG_down (by assumption) (by assumption) (by assumption) (by assumption) (by assumption)); done)
        | (have hs := (rej_step (fun v : Dut => t < v.frm ∨ v.til ≤ t) h0 (by assumption) (by assumption)).1 (by simp only; omega); unfold onM at *; rw [hs, ← ho]; exact h2)
        | (have hs := (rej_step (fun v : Dut => t < v.frm ∨ v.til ≤ t) h0 (by assumption) (by assumption)).2 (by show ¬ (t < frm ∨ til ≤ t); omega); have hst : scanG (strLt keeper) o o.length = a.toNat := (by first | exact ainv.trans (scanG_end (by omega)) | exact ainv.trans (scanG_stop (by assumption) (by assumption) (by assumption) (by assumption))); unfold onM at *; rw [hs, List.map_append, List.map_cons, List.map_nil, insAll_snoc, ← ho, insG_put hst]; subst_vars; simp; done)
        | (refine hK _ ?_; rw [onDutyR, if_pos hok, if_pos ht, h2, ho, List.take_of_length_le (by omega)]; rfl)
        | trace_state
    · refine nilOwnI hE 1 ?_
      conv => cbv
      refine hK _ ?_
      rw [onDutyR, if_pos hok, if_neg ht]; rfl
  · refine nilOwnI hE 1 ?_
    conv => cbv
    refine hK _ ?_
    rw [onDutyR, if_neg hok]; rfl
theorem lawOnDuty {rs : List (List AV)} {b : Bool} {l : List Dut} (t : Int) (hl : rs = l.map Dut.cs) : AC Try.prog 10 [.sl b 3 rs, .int .i64 t] id (.bool true) := by
  refine ac Try.func10 (by kernel_rfl) (.bool _) fun E K hE hK => ?_
  conv => cbv
  have hlen := onDutyR_len l t
  repeat' first
    | (refine callI hE (szDutyS_ _ hl (by decide)) (fun y hy => ?_); have hz := szN_or 1048576 (l.length + (l.map Dut.sz).sum); rw [← hy] at hz; clear hy; (try conv => cbv))
    | (refine callMI hE (markDutyS_ _ (by assumption) (by omega) (by omega)) ?_; rintro _ _ ⟨n, rs', hn, hrs', rfl, rfl⟩; conv => cbv)
    | (refine callMI hE (markStringS_ _ (by assumption) (by omega) (by omega)) ?_; rintro _ _ ⟨n, rs', hn, hrs', rfl, rfl⟩; conv => cbv)
    | ((first
     | refine idxV hE (by assumption) (by omega) (by assumption) ?_
     | refine callR hE (toDutyS_ hl (by omega)) (fun _ _ => ?_)
     | refine callLI hE (sOnDuty_ t (by assumption)) (fun _ _ _ _ => ?_)
     | refine callLI hE (onDuty_ t (by assumption)) (fun _ _ _ _ => ?_)
     | refine callPT hE (eqDutyS_ (by assumption) (by assumption)) rfl ?_
     | refine callPT hE (eqStringS_ (by assumption) (by assumption)) rfl ?_
     | refine sameI hE (by subst_vars; simp [Dut.mks_len, strMks_len]) ?_
     | refine callI hE (heldStringS_ _ (by assumption) (by omega) (by omega)) (fun _ _ => ?_)
     | refine ltT hE (by omega) ?_
     | refine ltF hE (by omega) ?_
     | refine ltI hE (fun _ => ?_) (fun _ => ?_)
     | refine leT hE (by omega) ?_
     | refine leF hE (by omega) ?_
     | refine leI hE (fun _ => ?_) (fun _ => ?_)
     | refine eqT hE (by omega) ?_
     | refine eqF hE (by omega) ?_
     | refine eqI hE (fun _ => ?_) (fun _ => ?_)
     | refine add64 hE (by omega) (fun _ _ => ?_)
     | refine sub64 hE (by omega) (fun _ _ => ?_)
     | refine addI hE (fun _ _ => ?_)
     | refine subI hE (fun _ _ => ?_)
     | refine lenL hE (by assumption) (fun _ _ _ => ?_)
     | refine len0 hE (fun _ _ => ?_)
     | refine idxL hE (by assumption) (by first | omega | (simp only [List.length_set, mix_len]; omega)) (fun _ _ => ?_)
     | refine idxFill hE (by assumption) (by omega) ?_
     | refine idxI hE (by decide) (by rfl) ?_
     | refine iteB (fun _ => ?_) (fun _ => ?_)
     | refine maxI hE (fun _ _ => ?_)
     | refine minI hE (fun _ _ => ?_)
     | refine seqI hE (fun _ => ?_) (fun _ => ?_)
     | refine scatI hE (by first | omega | (simp only [ByteArray.size, Array.size, List.length_cons, List.length_nil] at *; omega)) (fun _ _ _ => ?_)
     | refine slenI hE (fun _ _ _ => ?_)
     | refine sidxI hE (by omega) (fun _ _ _ _ => ?_)
     | refine needI hE (by first | decide | omega) ?_
     | refine rem64 hE (by omega) (fun _ _ => ?_)
     | refine quo64 hE (by omega) (fun _ _ => ?_)
     | refine wrapU8 hE (by omega) (fun _ _ => ?_)
     | refine wrap64 hE (by omega) (fun _ _ => ?_)
     | refine noownI hE (by simp [AV.isOwn]) ?_) <;> (try conv => cbv))
  all_goals first
    | exact hK _ rfl
    | omega
    | trace_state
end Go.Proofs.Ytcmgdilpljiljaa
