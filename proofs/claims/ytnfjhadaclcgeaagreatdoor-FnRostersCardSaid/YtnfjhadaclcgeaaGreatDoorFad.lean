/- Contracts: one more duty; the law. -/
import Derived.Test.YtnfjhadaclcgeaaGreatDoorFon
import Derived.Test.YtnfjhadaclcgeaaGreatDoorAxSort
namespace Go.Proofs.YtnfjhadaclcgeaaGreatDoor
open Go Go.RowKit Go.Sort Classical
set_option maxRecDepth 100000
set_option maxHeartbeats 2000000
set_option linter.unusedVariables false
set_option linter.unusedSimpArgs false
theorem upL {α : Type} {l : List α} {p : α → Prop} {i n : Int} {v : α} (h : Up (fun j => ∀ w, l[j]? = some w → p w) i) (hv : l[i.toNat]? = some v) (hp : p v) (hn : n = i + 1) : Up (fun j => ∀ w, l[j]? = some w → p w) n := h.succ (fun w hw => by rw [hv] at hw; cases hw; exact hp) hn
theorem upNone {α : Type} {l : List α} {p : α → Prop} {i : Int} (h : Up (fun j => ∀ w, l[j]? = some w → ¬ p w) i) (hi : l.length ≤ i) : ¬ ∃ w ∈ l, p w := fun ⟨w, hw, hp⟩ => by
  obtain ⟨j, hj⟩ := List.getElem?_of_mem hw
  have := (List.getElem?_eq_some_iff.1 hj).1
  exact h j (by omega) w hj hp
theorem Dut.less_tr (x y z : Dut) (h1 : Dut.less x y) (h2 : Dut.less y z) : Dut.less x z := by
  unfold Dut.less at *
  rcases h1 with h1 | ⟨h1, g1⟩ <;> rcases h2 with h2 | ⟨h2, g2⟩
  · exact .inl (by omega)
  · exact .inl (by omega)
  · exact .inl (by omega)
  · exact .inr ⟨by omega, strLt_trans _ _ _ g1 g2⟩
theorem Dut.less_ir (x : Dut) : ¬ Dut.less x x := by
  unfold Dut.less
  rintro (h | ⟨_, h⟩)
  · omega
  · exact strLt_irr _ h
theorem Dut.less_ntr (x y z : Dut) (h1 : ¬ Dut.less x y) (h2 : ¬ Dut.less y z) : ¬ Dut.less x z := fun h => by
  unfold Dut.less at *
  rcases h with h | ⟨h, g⟩
  · rcases Int.lt_or_le x.frm y.frm with e | e
    · exact h1 (.inl e)
    · exact h2 (.inl (by omega))
  · rcases Int.lt_trichotomy x.frm y.frm with e | e | e
    · exact h1 (.inl e)
    · exact strLt_ntrans x.keeper y.keeper z.keeper (fun q => h1 (.inr ⟨e, q⟩)) (fun q => h2 (.inr ⟨by omega, q⟩)) g
    · exact h2 (.inl (by omega))
theorem Dut.swo : SWO (ltOf Dut.cmp) :=
  swo_of (fun x => by rw [Dut.cmp_neg]; exact Dut.less_ir x) (fun x y z h1 h2 => by rw [Dut.cmp_neg] at *; exact Dut.less_tr _ _ _ h1 h2) (fun x y z h1 h2 => by rw [Dut.cmp_neg] at *; exact Dut.less_ntr _ _ _ h1 h2)
theorem sortDut_ {rs : List (List AV)} {l : List Dut} (hl : rs = l.map Dut.cs) (hb : l.length ≤ 1048576) : ACM Tryz.prog 69 [.sl true 3 rs, .fn 60 []]
    (fun r ys => ∃ (m : List Dut) (rs' : List (List AV)), m.Perm l ∧ (m.Pairwise fun x y => ¬ Dut.less y x) ∧ rs' = m.map Dut.cs ∧ r = .tup [] ∧ ys = [.sl true 3 rs', .any]) :=
  (ACM.sort Dut.cs Tryz.sortDut Tryz.isAgg38 Tryz.sizeOf38 (fun _ _ => rfl) (fun _ => rfl) (fun _ _ h => by simp only [Dut.cs, List.mem_cons, List.not_mem_nil, or_false] at h; rcases h with rfl | rfl | rfl <;> rfl) Dut.swo (fun x y => dutCompare_ x.keeper x.frm x.til y.keeper y.frm y.til) hl hb).mono
    fun r ys ⟨m, rs', h1, h2, h3, h4, h5⟩ => ⟨m, rs', h1, pw_of fun i j x y hij hx hy h => h2 i j x y hij hx hy ((Dut.cmp_neg y x).2 h), h3, h4, h5⟩
theorem duts_pw {l : List Dut} (h : DutiesOk l) : l.Pairwise Dut.less := chain_pw Dut.less_tr fun i a b ha hb => by
  obtain ⟨v, h1, _, h2, _⟩ := h.1 (i + 1) (List.getElem?_eq_some_iff.1 hb).1
  rw [hb] at h1; cases h1
  obtain ⟨w, hw, hl⟩ := h2 (by omega)
  rw [Nat.add_sub_cancel, ha] at hw; cases hw; exact hl
theorem dut_apart {v w : Dut} (hv : v.ok) (hw : w.ok) (h : v.rests w) : w.less v ∨ v.less w := by
  obtain ⟨_, h1, h2, h3, h4⟩ := hv
  obtain ⟨_, g1, g2, g3, g4⟩ := hw
  unfold TimeOk at *
  unfold Dut.less
  rcases Int.lt_trichotomy v.frm w.frm with e | e | e
  · exact .inr (.inl e)
  · rcases h with h | h | h
    · by_cases q : strLt v.keeper w.keeper
      · exact .inr (.inr ⟨e, q⟩)
      · by_cases q2 : strLt w.keeper v.keeper
        · exact .inl (.inr ⟨e.symm, q2⟩)
        · exact absurd (strLt_anti _ _ q2 q) h
    · have := IntWalk.i64_in (v.til + 480) (by omega); omega
    · have := IntWalk.i64_in (w.til + 480) (by omega); omega
  · exact .inl (.inl e)
theorem withDuty_ {rs : List (List AV)} {b : Bool} {l : List Dut} (keeper : ByteArray) (frm til : Int) (hl : rs = l.map Dut.cs) (hb : l.length ≤ 1000000) (hp : l.Pairwise Dut.less) (ha : ∀ w ∈ l, w.less ⟨keeper, frm, til⟩ ∨ Dut.less ⟨keeper, frm, til⟩ w) : AP 41 [.sl b 3 rs, .agg [.str keeper, .int .i64 frm, .int .i64 til]] (fun l : List Dut => .sl true 3 (l.map Dut.cs)) (insF (fun w => w.less ⟨keeper, frm, til⟩) l ⟨keeper, frm, til⟩) := by
  refine ac Tryz.func41 (.rows .oDut) fun E K hE hK => ?_
  refine callR (cloneDuty_ hl (by omega)) fun rs1 h1 => ?_
  conv => cbv
  repeat' first
    | ((first
   | (refine callMI (sortDut_ (by assumption) (by simp; omega)) ?_; rintro r ys ⟨m, rs2, hperm, hsort, h2, rfl, rfl⟩; have hml := hperm.length_eq)
   | refine catP (R := Dut.cs) (v := (⟨_, _, _⟩ : Dut)) (by assumption) rfl (by omega) (fun _ _ => ?_)
   | refine sameI (by subst_vars; rw [List.length_map, List.length_map]; assumption) ?_
   | refine B0 ?_|refine B1 ?_ ?_) <;> intros <;> (try conv => cbv))
  all_goals first
    | (refine hK _ ?_; rw [h2, strict_uniq Dut.less_tr Dut.less_ir (hperm.trans (ins_perm _ _ _)) (insF_pw Dut.less_tr hp ha) hsort]; rfl)
    | trace_state
noncomputable def putR (l : List Dut) (d : Dut) : List Dut × Int := if ∃ w ∈ l, w.keeper = d.keeper ∧ ¬ w.rested d then ([], 6) else if l.length = 60 then ([], 5) else (insF (fun w => w.less d) l d, 0)
theorem putR_len (l : List Dut) (d : Dut) : (putR l d).1.length ≤ l.length + 1 := by
  unfold putR
  split
  · simp
  · split
    · simp
    · exact Nat.le_of_eq (insF_len _ _ _)
theorem l28Put_ {rs : List (List AV)} {b : Bool} {l : List Dut} (keeper : ByteArray) (frm til : Int) (hl : rs = l.map Dut.cs) (hb : l.length ≤ 1000000) : AP 121 [.sl b 3 rs, .pp [.str keeper, .int .i64 frm, .int .i64 til]] dutLI (putR l ⟨keeper, frm, til⟩) := by
  refine ac Tryz.func121 (.dutLI _) fun E K hE hK => ?_
  refine loop1 [0, 1] [6] (fun (i : Int) => ([(6, .int .i64 i)], [], l.length - i, (0 ≤ i ∧ i ≤ l.length) ∧ Up (fun j => ∀ w, l[j]? = some w → ¬ (w.keeper = keeper ∧ ¬ w.rested ⟨keeper, frm, til⟩)) i)) [] (0) (by dsimp only; exact ⟨by omega, .zero (by omega)⟩) fun i hi Kn hN => ?_
  obtain ⟨⟨h0, h1⟩, hinv⟩ := hi
  repeat' first
    | (refine hN _ [] rfl ⟨?_, ?_⟩)
    | ((refine loop1 [0, 1] [7] (fun (k : Int) => ([(7, .int .i64 k)], [], l.length - k, (0 ≤ k ∧ k ≤ l.length) ∧ Up (fun j => ∀ w, l[j]? = some w → w.less ⟨keeper, frm, til⟩) k)) [] (0) (by dsimp only; exact ⟨by omega, .zero (by omega)⟩) fun k hi2 Kn2 hN2 => ?_); obtain ⟨⟨k0, k1⟩, kinv⟩ := hi2)
    | (refine hN2 _ [] rfl ⟨?_, ?_⟩)
    | ((first
   | refine idxV hl (by omega) (by assumption) ?_
   | (refine idxL hl (by omega) (fun v hv => ?_); obtain ⟨kp, fr, ti⟩ := v)
   | refine callP (l28Rested_ _ _ _ _ _ _) (fun _ => ?_) (fun _ => ?_)
   | refine callP (l28Less_ _ _ _ _ _ _) (fun _ => ?_) (fun _ => ?_)
   | refine subL hl (by simp only [Option.getD_some, Option.getD_none]; omega) (fun _ _ => ?_)
   | refine cat0L (R := Dut.cs) (by assumption) (by simp only [List.length_take, List.length_drop]; omega) (fun _ _ => ?_)
   | refine catP (R := Dut.cs) (v := (⟨_, _, _⟩ : Dut)) (by assumption) rfl (by simp only [List.length_append, List.length_take, List.length_drop, List.length_cons, List.length_nil]; omega) (fun _ _ => ?_)
   | refine catL (R := Dut.cs) (by assumption) (by assumption) (by simp only [List.length_append, List.length_take, List.length_drop, List.length_cons, List.length_nil]; omega) (fun _ _ => ?_)
   | refine noownI (by first | (simp [AV.isOwn]; done) | (rename_i h; rw [h]; exact Dut.nown _)) ?_
   | refine nilOwnI 3 ?_
   | refine B0 ?_|refine B1 ?_ ?_) <;> intros <;> (try conv => cbv))
  all_goals (try clear hN)
  all_goals (try clear hN2)
  all_goals first
    | omega
    | exact upL hinv hv (fun h => h.2 (by assumption)) (by assumption)
    | exact upL hinv hv (fun h => absurd h.1 (by assumption)) (by assumption)
    | (refine hK _ ?_; rw [putR, if_pos ⟨_, List.mem_of_getElem? hv, by assumption, by assumption⟩]; rfl)
    | (refine hK _ ?_; rw [putR, if_neg (upNone hinv (by omega)), if_pos (by omega)]; rfl)
    | exact upL kinv (by assumption) (by assumption) (by assumption)
    | (refine hK _ ?_; rw [putR, if_neg (upNone hinv (by omega)), if_neg (by omega), insF_eq ⟨k0, k1⟩ kinv (by intro w hw; first | (have := (List.getElem?_eq_some_iff.1 hw).1; omega) | (rw [hv] at hw; cases hw; assumption))]; subst_vars; simp [dutLI, atup]; done)
    | trace_state
noncomputable def addDutyR (l : List Dut) (d : Dut) : List Dut × Int := if DutiesOk l then (if d.ok then putR l d else ([], 2)) else ([], 1)
theorem addDutyR_len (l : List Dut) (d : Dut) : (addDutyR l d).1.length ≤ l.length + 1 := by
  unfold addDutyR
  split
  · split
    · exact putR_len l d
    · simp
  · simp
theorem fits_iff {l : List Dut} {d : Dut} : (∀ w ∈ l, d.rests w) ↔ ¬ ∃ w ∈ l, w.keeper = d.keeper ∧ ¬ w.rested d := by
  constructor
  · rintro h ⟨w, hw, h1, h2⟩
    rcases h w hw with g | g | g
    · exact g h1.symm
    · exact h2 (.inr g)
    · exact h2 (.inl g)
  · intro h w hw
    by_cases e : w.keeper = d.keeper
    · have : w.rested d := Classical.byContradiction fun g => h ⟨w, hw, e, g⟩
      exact rests_symm (.inr this)
    · exact .inl (Ne.symm e)
theorem addDuty_ {rs : List (List AV)} {b : Bool} {l : List Dut} (keeper : ByteArray) (frm til : Int) (hl : rs = l.map Dut.cs) : AP 12 [.sl b 3 rs, .agg [.str keeper, .int .i64 frm, .int .i64 til]] dutLI (addDutyR l ⟨keeper, frm, til⟩) := by
  refine ac Tryz.func12 (.dutLI _) fun E K hE hK => ?_
  refine callP (validDuties_ hl) (fun hok => ?_) (fun hok => ?_) <;> conv => cbv
  · have h60 := hok.2
    refine callP (isDuty_ _ _ _) (fun hd => ?_) (fun hd => ?_) <;> conv => cbv
    · refine callP (dutFits_ _ _ _ hl) (fun hf => ?_) (fun hf => ?_) <;> conv => cbv
      · have h61 := h60
        repeat' first
          | ((first
         | refine callR (withDuty_ _ _ _ hl (by omega) (duts_pw hok) (fun w hw => dut_apart hd (hok.all w hw) (hf w hw))) (fun _ _ => ?_)
         | refine nilOwnI 3 ?_
         | refine B0 ?_|refine B1 ?_ ?_) <;> intros <;> (try conv => cbv))
        all_goals first
          | (refine hK _ ?_; rw [addDutyR, if_pos hok, if_pos hd, putR, if_neg (fits_iff.1 hf), if_pos (by omega)]; rfl)
          | (refine hK _ ?_; rw [addDutyR, if_pos hok, if_pos hd, putR, if_neg (fits_iff.1 hf), if_neg (by omega)]; subst_vars; rfl)
          | trace_state
      · refine nilOwnI 3 ?_
        conv => cbv
        refine hK _ ?_
        rw [addDutyR, if_pos hok, if_pos hd, putR, if_pos (Classical.not_not.1 fun h => hf (fits_iff.2 h))]; rfl
    · refine nilOwnI 3 ?_
      conv => cbv
      refine hK _ ?_
      rw [addDutyR, if_pos hok, if_neg hd]; rfl
  · refine nilOwnI 3 ?_
    conv => cbv
    refine hK _ ?_
    rw [addDutyR, if_neg hok]; rfl
theorem sAddDuty_ {rs : List (List AV)} {b : Bool} {l : List Dut} (keeper : ByteArray) (frm til : Int) (hl : rs = l.map Dut.cs) : AP 96 [.sl b 3 rs, .agg [.str keeper, .int .i64 frm, .int .i64 til]] dutLI (addDutyR l ⟨keeper, frm, til⟩) := by
  refine ac Tryz.func96 (.dutLI _) fun E K hE hK => ?_
  repeat' first
    | ((first
   | (refine callP (l28Ok_ (by assumption)) (fun hok => ?_) (fun hok => ?_) <;> (try have h60 := hok.2))
   | refine callP (l28One_ _ _ _) (fun _ => ?_) (fun _ => ?_)
   | refine callLI (l28Put_ _ _ _ hl (by omega)) (fun _ _ _ _ => ?_)
   | refine nilOwnI 3 ?_
   | refine B0 ?_|refine B1 ?_ ?_) <;> intros <;> (try conv => cbv))
  all_goals first
    | (refine hK _ ?_; rw [addDutyR, if_pos (by assumption), if_pos (by assumption)]; subst_vars; rfl)
    | (refine hK _ ?_; rw [addDutyR, if_pos (by assumption), if_neg (by assumption)]; rfl)
    | (refine hK _ ?_; rw [addDutyR, if_neg (by assumption)]; rfl)
    | trace_state
end Go.Proofs.YtnfjhadaclcgeaaGreatDoor
