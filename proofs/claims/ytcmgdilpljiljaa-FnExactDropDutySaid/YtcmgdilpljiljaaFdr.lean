/- Contracts: one duty less, another keeper; the laws. -/
import Derived.Test.YtcmgdilpljiljaaFad
namespace Go.Proofs.Ytcmgdilpljiljaa
open Go Go.RowKit Go.Sort Classical
set_option maxRecDepth 100000
set_option maxHeartbeats 2000000
set_option linter.unusedVariables false
set_option linter.unusedSimpArgs false
noncomputable def atK (l : List Dut) (k : ByteArray) (f : Int) : Int := firstI (fun v : Dut => v.keeper = k ∧ v.frm = f) l
theorem atK_bd (l : List Dut) (k : ByteArray) (f : Int) : -1 ≤ atK l k f ∧ atK l k f < l.length ∧ (atK l k f < 0 → atK l k f = -1) := by
  unfold atK
  rcases firstI_spec (fun v : Dut => v.keeper = k ∧ v.frm = f) l with ⟨g1, g2, _⟩ | ⟨g1, g2⟩ <;> omega
theorem dutyOf1_ (keeper : ByteArray) (frm til : Int) (k : ByteArray) (f : Int) : AC Try.prog 152 [.agg [.str keeper, .int .i64 frm, .int .i64 til], .pp [.str k], .pp [.int .i64 f]] AV.bool (bP ((⟨keeper, frm, til⟩ : Dut).keeper = k ∧ (⟨keeper, frm, til⟩ : Dut).frm = f)) := by
  refine ac Try.func152 (by kernel_rfl) (.bool _) fun E K hE hK => ?_
  conv => cbv
  repeat' first
    | ((first
     | refine idxV hE (by assumption) (by omega) (by assumption) ?_
     | refine ltT hE (by omega) ?_
     | refine ltF hE (by omega) ?_
     | refine ltI hE (fun _ => ?_) (fun _ => ?_)
     | refine leT hE (by omega) ?_
     | refine leF hE (by omega) ?_
     | refine leI hE (fun _ => ?_) (fun _ => ?_)
     | refine eqT hE (by omega) ?_
     | refine eqF hE (by omega) ?_
     | refine eqI hE (fun _ => ?_) (fun _ => ?_)
     | refine add64 hE (by omega) (fun _ _ => ?_)
     | refine sub64 hE (by omega) (fun _ _ => ?_)
     | refine addI hE (fun _ _ => ?_)
     | refine subI hE (fun _ _ => ?_)
     | refine lenL hE (by assumption) (fun _ _ _ => ?_)
     | refine len0 hE (fun _ _ => ?_)
     | refine idxL hE (by assumption) (by first | omega | (simp only [List.length_set, mix_len]; omega)) (fun _ _ => ?_)
     | refine idxFill hE (by assumption) (by omega) ?_
     | refine idxI hE (by decide) (by rfl) ?_
     | refine iteB (fun _ => ?_) (fun _ => ?_)
     | refine maxI hE (fun _ _ => ?_)
     | refine minI hE (fun _ _ => ?_)
     | refine seqI hE (fun _ => ?_) (fun _ => ?_)
     | refine scatI hE (by first | omega | (simp only [ByteArray.size, Array.size, List.length_cons, List.length_nil] at *; omega)) (fun _ _ _ => ?_)
     | refine slenI hE (fun _ _ _ => ?_)
     | refine sidxI hE (by omega) (fun _ _ _ _ => ?_)
     | refine needI hE (by first | decide | omega) ?_
     | refine rem64 hE (by omega) (fun _ _ => ?_)
     | refine quo64 hE (by omega) (fun _ _ => ?_)
     | refine wrapU8 hE (by omega) (fun _ _ => ?_)
     | refine wrap64 hE (by omega) (fun _ _ => ?_)
     | refine noownI hE (by simp [AV.isOwn]) ?_) <;> (try conv => cbv))
  all_goals first
    | (refine finB hK (bP_true.2 ⟨?_, ?_⟩) <;> assumption)
    | (refine finB hK (bP_false.2 fun h => ?_); first | exact absurd h.1 (by assumption) | exact absurd h.2 (by assumption))
    | trace_state
theorem dutyOf_ {rs : List (List AV)} {b : Bool} {l : List Dut} (k : ByteArray) (f : Int) (hl : rs = l.map Dut.cs) : AC Try.prog 77 [.sl b 3 rs, .str k, .int .i64 f] (AV.int .i64) (atK l k f) := by
  refine ac Try.func77 (by kernel_rfl) (.int _ _) fun E K hE hK => ?_
  conv => cbv
  refine callI hE (indexDuty2_ (p := fun v : Dut => v.keeper = k ∧ v.frm = f) hl (fun a b c => dutyOf1_ a b c k f)) fun y hy => ?_
  conv => cbv
  exact hK _ (by rw [hy]; rfl)
theorem l28Find_ {rs : List (List AV)} {b : Bool} {l : List Dut} (k : ByteArray) (f : Int) (hl : rs = l.map Dut.cs) : AC Try.prog 74 [.sl b 3 rs, .str k, .int .i64 f] (AV.int .i64) (atK l k f) := by
  refine ac Try.func74 (by kernel_rfl) (.int _ _) fun E K hE hK => ?_
  conv => cbv
  refine loopC hE (ι := Int) [0, 1, 2] [7] (fun q => (fun (i : Int) => [(7, .int .i64 i)]) q) (fun q => (fun (i : Int) => []) q) (fun q => (fun (i : Int) => (l.length - i).toNat) q) (fun q => (fun (i : Int) => 0 ≤ i ∧ Up (fun j => ∀ v, l[j]? = some v → ¬ (v.keeper = k ∧ v.frm = f)) i) q) [] (by decide) (0) (by conv => lhs; cbv) (by conv => lhs; cbv) rfl rfl (by dsimp only; exact ⟨by omega, .zero (by omega)⟩) fun i hi Kn hN => ?_
  (try dsimp only at hi)
  conv => cbv
  obtain ⟨h0, hinv⟩ := hi
  repeat' first
    | (refine idxV hE hl (by omega) (by assumption) ?_; (try conv => cbv))
    | (refine idxL hE hl (by omega) (fun v hv => ?_); obtain ⟨kp, fr, ti⟩ := v; (try conv => cbv))
    | (refine hN _ _ [] (by decide) rfl ⟨?_, ?_⟩ ?_ <;> (try dsimp only))
    | ((first
     | refine idxV hE (by assumption) (by omega) (by assumption) ?_
     | refine ltT hE (by omega) ?_
     | refine ltF hE (by omega) ?_
     | refine ltI hE (fun _ => ?_) (fun _ => ?_)
     | refine leT hE (by omega) ?_
     | refine leF hE (by omega) ?_
     | refine leI hE (fun _ => ?_) (fun _ => ?_)
     | refine eqT hE (by omega) ?_
     | refine eqF hE (by omega) ?_
     | refine eqI hE (fun _ => ?_) (fun _ => ?_)
     | refine add64 hE (by omega) (fun _ _ => ?_)
     | refine sub64 hE (by omega) (fun _ _ => ?_)
     | refine addI hE (fun _ _ => ?_)
     | refine subI hE (fun _ _ => ?_)
     | refine lenL hE (by assumption) (fun _ _ _ => ?_)
     | refine len0 hE (fun _ _ => ?_)
     | refine idxL hE (by assumption) (by first | omega | (simp only [List.length_set, mix_len]; omega)) (fun _ _ => ?_)
     | refine idxFill hE (by assumption) (by omega) ?_
     | refine idxI hE (by decide) (by rfl) ?_
     | refine iteB (fun _ => ?_) (fun _ => ?_)
     | refine maxI hE (fun _ _ => ?_)
     | refine minI hE (fun _ _ => ?_)
     | refine seqI hE (fun _ => ?_) (fun _ => ?_)
     | refine scatI hE (by first | omega | (simp only [ByteArray.size, Array.size, List.length_cons, List.length_nil] at *; omega)) (fun _ _ _ => ?_)
     | refine slenI hE (fun _ _ _ => ?_)
     | refine sidxI hE (by omega) (fun _ _ _ _ => ?_)
     | refine needI hE (by first | decide | omega) ?_
     | refine rem64 hE (by omega) (fun _ _ => ?_)
     | refine quo64 hE (by omega) (fun _ _ => ?_)
     | refine wrapU8 hE (by omega) (fun _ _ => ?_)
     | refine wrap64 hE (by omega) (fun _ _ => ?_)
     | refine noownI hE (by simp [AV.isOwn]) ?_) <;> (try conv => cbv))
  all_goals (try clear hN)
  all_goals first
    | omega
    | exact upL hinv hv (fun h => absurd h.2 (by assumption)) (by assumption)
    | exact upL hinv hv (fun h => absurd h.1 (by assumption)) (by assumption)
    | (refine hK _ ?_; rw [atK, firstI_in (p := fun v : Dut => v.keeper = k ∧ v.frm = f) h0 hv ⟨by assumption, by assumption⟩ hinv]; rfl)
    | (refine hK _ ?_; rw [atK, firstI_out (by omega) hinv]; rfl)
    | trace_state
/-- A list without one of its members. -/
def cutAt (l : List Dut) (i : Int) : List Dut := l.take i.toNat ++ l.drop (i + 1).toNat
theorem cutAt_sub (l : List Dut) {i : Int} (h : 0 ≤ i) : (cutAt l i).Sublist l := by
  unfold cutAt
  rw [show (i + 1).toNat = i.toNat + 1 by omega, ← List.eraseIdx_eq_take_drop_succ]
  exact List.eraseIdx_sublist ..
theorem cutAt_len (l : List Dut) {i : Int} (h : 0 ≤ i) : (cutAt l i).length ≤ l.length := (cutAt_sub l h).length_le
theorem cutAt_lt (l : List Dut) {i : Int} (h : 0 ≤ i ∧ i < l.length) : (cutAt l i).length < l.length := by
  unfold cutAt
  rw [List.length_append, List.length_take, List.length_drop]; omega
theorem l28Without_ {rs : List (List AV)} {b : Bool} {l : List Dut} (i : Int) (hl : rs = l.map Dut.cs) (h : 0 ≤ i ∧ i < l.length) (hb : l.length ≤ 1000000) : AC Try.prog 75 [.sl b 3 rs, .int .i64 i] (fun l : List Dut => .sl true 3 (l.map Dut.cs)) (cutAt l i) := by
  refine ac Try.func75 (by kernel_rfl) (.rows .oDut) fun E K hE hK => ?_
  conv => cbv
  repeat' first
    | ((first
     | refine idxV hE (by assumption) (by omega) (by assumption) ?_
     | refine subL hE hl (by simp only [Option.getD_some, Option.getD_none]; omega) (fun _ _ => ?_)
     | refine cat0L hE (R := Dut.cs) (by assumption) (by simp only [List.length_take, List.length_drop]; omega) (fun _ _ => ?_)
     | refine catL hE (R := Dut.cs) (by assumption) (by assumption) (by simp only [List.length_append, List.length_take, List.length_drop, List.length_cons, List.length_nil]; omega) (fun _ _ => ?_)
     | refine noownI hE (by first | (simp [AV.isOwn]; done) | (subst_vars; exact Dut.nown _)) ?_
     | refine ltT hE (by omega) ?_
     | refine ltF hE (by omega) ?_
     | refine ltI hE (fun _ => ?_) (fun _ => ?_)
     | refine leT hE (by omega) ?_
     | refine leF hE (by omega) ?_
     | refine leI hE (fun _ => ?_) (fun _ => ?_)
     | refine eqT hE (by omega) ?_
     | refine eqF hE (by omega) ?_
     | refine eqI hE (fun _ => ?_) (fun _ => ?_)
     | refine add64 hE (by omega) (fun _ _ => ?_)
     | refine sub64 hE (by omega) (fun _ _ => ?_)
     | refine addI hE (fun _ _ => ?_)
     | refine subI hE (fun _ _ => ?_)
     | refine lenL hE (by assumption) (fun _ _ _ => ?_)
     | refine len0 hE (fun _ _ => ?_)
     | refine idxL hE (by assumption) (by first | omega | (simp only [List.length_set, mix_len]; omega)) (fun _ _ => ?_)
     | refine idxFill hE (by assumption) (by omega) ?_
     | refine idxI hE (by decide) (by rfl) ?_
     | refine iteB (fun _ => ?_) (fun _ => ?_)
     | refine maxI hE (fun _ _ => ?_)
     | refine minI hE (fun _ _ => ?_)
     | refine seqI hE (fun _ => ?_) (fun _ => ?_)
     | refine scatI hE (by first | omega | (simp only [ByteArray.size, Array.size, List.length_cons, List.length_nil] at *; omega)) (fun _ _ _ => ?_)
     | refine slenI hE (fun _ _ _ => ?_)
     | refine sidxI hE (by omega) (fun _ _ _ _ => ?_)
     | refine needI hE (by first | decide | omega) ?_
     | refine rem64 hE (by omega) (fun _ _ => ?_)
     | refine quo64 hE (by omega) (fun _ _ => ?_)
     | refine wrapU8 hE (by omega) (fun _ _ => ?_)
     | refine wrap64 hE (by omega) (fun _ _ => ?_)
     | refine noownI hE (by simp [AV.isOwn]) ?_) <;> (try conv => cbv))
  all_goals first
    | omega
    | (refine hK _ ?_; subst_vars; simp [cutAt, atup]; done)
    | trace_state
noncomputable def dropR (l : List Dut) (k : ByteArray) (f : Int) : List Dut × Int := if DutiesOk l then (if atK l k f < 0 then ([], 3) else (cutAt l (atK l k f), 0)) else ([], 1)
theorem dropR_len (l : List Dut) (k : ByteArray) (f : Int) : (dropR l k f).1.length ≤ l.length := by
  unfold dropR
  split
  · split
    · simp
    · exact cutAt_len l (by omega)
  · simp
theorem dropDuty_ {rs : List (List AV)} {b : Bool} {l : List Dut} (k : ByteArray) (f : Int) (hl : rs = l.map Dut.cs) : AC Try.prog 18 [.sl b 3 rs, .str k, .int .i64 f] dutLI (dropR l k f) := by
  refine ac Try.func18 (by kernel_rfl) (.dutLI _) fun E K hE hK => ?_
  conv => cbv
  have hbd := atK_bd l k f
  repeat' first
    | (refine callP hE (validDuties_ (by assumption)) (fun hok => ?_) (fun hok => ?_) <;> (try have h60 := hok.2) <;> (try conv => cbv))
    | (refine callI hE (dutyOf_ k f (by assumption)) (fun y hy => ?_); rw [← hy] at hbd; (try conv => cbv))
    | (refine callMI hE (delDuty_ _ _ (by assumption) (by omega) (by omega)) ?_; rintro r ys ⟨rs2, h2, rfl, rfl⟩; conv => cbv)
    | ((first
     | refine idxV hE (by assumption) (by omega) (by assumption) ?_
     | refine callR hE (cloneDuty_ hl (by omega)) (fun _ _ => ?_)
     | refine nilOwnI hE 3 ?_
     | refine ltT hE (by omega) ?_
     | refine ltF hE (by omega) ?_
     | refine ltI hE (fun _ => ?_) (fun _ => ?_)
     | refine leT hE (by omega) ?_
     | refine leF hE (by omega) ?_
     | refine leI hE (fun _ => ?_) (fun _ => ?_)
     | refine eqT hE (by omega) ?_
     | refine eqF hE (by omega) ?_
     | refine eqI hE (fun _ => ?_) (fun _ => ?_)
     | refine add64 hE (by omega) (fun _ _ => ?_)
     | refine sub64 hE (by omega) (fun _ _ => ?_)
     | refine addI hE (fun _ _ => ?_)
     | refine subI hE (fun _ _ => ?_)
     | refine lenL hE (by assumption) (fun _ _ _ => ?_)
     | refine len0 hE (fun _ _ => ?_)
     | refine idxL hE (by assumption) (by first | omega | (simp only [List.length_set, mix_len]; omega)) (fun _ _ => ?_)
     | refine idxFill hE (by assumption) (by omega) ?_
     | refine idxI hE (by decide) (by rfl) ?_
     | refine iteB (fun _ => ?_) (fun _ => ?_)
     | refine maxI hE (fun _ _ => ?_)
     | refine minI hE (fun _ _ => ?_)
     | refine seqI hE (fun _ => ?_) (fun _ => ?_)
     | refine scatI hE (by first | omega | (simp only [ByteArray.size, Array.size, List.length_cons, List.length_nil] at *; omega)) (fun _ _ _ => ?_)
     | refine slenI hE (fun _ _ _ => ?_)
     | refine sidxI hE (by omega) (fun _ _ _ _ => ?_)
     | refine needI hE (by first | decide | omega) ?_
     | refine rem64 hE (by omega) (fun _ _ => ?_)
     | refine quo64 hE (by omega) (fun _ _ => ?_)
     | refine wrapU8 hE (by omega) (fun _ _ => ?_)
     | refine wrap64 hE (by omega) (fun _ _ => ?_)
     | refine noownI hE (by simp [AV.isOwn]) ?_) <;> (try conv => cbv))
  all_goals first
    | omega
    | (refine hK _ ?_; rw [dropR, if_pos hok, if_pos (by omega)]; rfl)
    | (refine hK _ ?_; rw [dropR, if_pos hok, if_neg (by omega), ← hy, h2]; subst_vars; rfl)
    | (refine hK _ ?_; rw [dropR, if_neg hok]; rfl)
    | trace_state
theorem sDropDuty_ {rs : List (List AV)} {b : Bool} {l : List Dut} (k : ByteArray) (f : Int) (hl : rs = l.map Dut.cs) : AC Try.prog 16 [.sl b 3 rs, .str k, .int .i64 f] dutLI (dropR l k f) := by
  refine ac Try.func16 (by kernel_rfl) (.dutLI _) fun E K hE hK => ?_
  conv => cbv
  have hbd := atK_bd l k f
  repeat' first
    | (refine callP hE (l28Ok_ (by assumption)) (fun hok => ?_) (fun hok => ?_) <;> (try have h60 := hok.2) <;> (try conv => cbv))
    | (refine callI hE (l28Find_ k f (by assumption)) (fun y hy => ?_); rw [← hy] at hbd; (try conv => cbv))
    | ((first
     | refine idxV hE (by assumption) (by omega) (by assumption) ?_
     | refine callR hE (l28Without_ _ hl (by omega) (by omega)) (fun _ _ => ?_)
     | refine nilOwnI hE 3 ?_
     | refine ltT hE (by omega) ?_
     | refine ltF hE (by omega) ?_
     | refine ltI hE (fun _ => ?_) (fun _ => ?_)
     | refine leT hE (by omega) ?_
     | refine leF hE (by omega) ?_
     | refine leI hE (fun _ => ?_) (fun _ => ?_)
     | refine eqT hE (by omega) ?_
     | refine eqF hE (by omega) ?_
     | refine eqI hE (fun _ => ?_) (fun _ => ?_)
     | refine add64 hE (by omega) (fun _ _ => ?_)
     | refine sub64 hE (by omega) (fun _ _ => ?_)
     | refine addI hE (fun _ _ => ?_)
     | refine subI hE (fun _ _ => ?_)
     | refine lenL hE (by assumption) (fun _ _ _ => ?_)
     | refine len0 hE (fun _ _ => ?_)
     | refine idxL hE (by assumption) (by first | omega | (simp only [List.length_set, mix_len]; omega)) (fun _ _ => ?_)
     | refine idxFill hE (by assumption) (by omega) ?_
     | refine idxI hE (by decide) (by rfl) ?_
     | refine iteB (fun _ => ?_) (fun _ => ?_)
     | refine maxI hE (fun _ _ => ?_)
     | refine minI hE (fun _ _ => ?_)
     | refine seqI hE (fun _ => ?_) (fun _ => ?_)
     | refine scatI hE (by first | omega | (simp only [ByteArray.size, Array.size, List.length_cons, List.length_nil] at *; omega)) (fun _ _ _ => ?_)
     | refine slenI hE (fun _ _ _ => ?_)
     | refine sidxI hE (by omega) (fun _ _ _ _ => ?_)
     | refine needI hE (by first | decide | omega) ?_
     | refine rem64 hE (by omega) (fun _ _ => ?_)
     | refine quo64 hE (by omega) (fun _ _ => ?_)
     | refine wrapU8 hE (by omega) (fun _ _ => ?_)
     | refine wrap64 hE (by omega) (fun _ _ => ?_)
     | refine noownI hE (by simp [AV.isOwn]) ?_) <;> (try conv => cbv))
  all_goals first
    | omega
    | (refine hK _ ?_; rw [dropR, if_pos hok, if_pos (by omega)]; rfl)
    | (refine hK _ ?_; rw [dropR, if_pos hok, if_neg (by omega), ← hy]; subst_vars; rfl)
    | (refine hK _ ?_; rw [dropR, if_neg hok]; rfl)
    | trace_state
theorem lawDropDuty {rs : List (List AV)} {b : Bool} {l : List Dut} (k : ByteArray) (f : Int) (hl : rs = l.map Dut.cs) : AC Try.prog 3 [.sl b 3 rs, .str k, .int .i64 f] id (.bool true) := by
  refine ac Try.func3 (by kernel_rfl) (.bool _) fun E K hE hK => ?_
  conv => cbv
  have hlen := dropR_len l k f
  repeat' first
    | (refine callI hE (szDutyS_ _ hl (by decide)) (fun y hy => ?_); have hz := szN_or 1048576 (l.length + (l.map Dut.sz).sum); rw [← hy] at hz; clear hy; (try conv => cbv))
    | (refine callMI hE (markDutyS_ _ (by assumption) (by omega) (by omega)) ?_; rintro _ _ ⟨n, rs', hn, hrs', rfl, rfl⟩; conv => cbv)
    | ((first
     | refine idxV hE (by assumption) (by omega) (by assumption) ?_
     | refine callR hE (toDutyS_ hl (by omega)) (fun _ _ => ?_)
     | refine callLI hE (sDropDuty_ _ _ (by assumption)) (fun _ _ _ _ => ?_)
     | refine callLI hE (dropDuty_ _ _ (by assumption)) (fun _ _ _ _ => ?_)
     | refine callPT hE (eqDutyS_ (by assumption) (by assumption)) rfl ?_
     | refine sameI hE (by subst_vars; simp [Dut.mks_len]) ?_
     | refine callI hE (heldDutyS_ _ (by assumption) (by omega) (by omega)) (fun _ _ => ?_)
     | refine ltT hE (by omega) ?_
     | refine ltF hE (by omega) ?_
     | refine ltI hE (fun _ => ?_) (fun _ => ?_)
     | refine leT hE (by omega) ?_
     | refine leF hE (by omega) ?_
     | refine leI hE (fun _ => ?_) (fun _ => ?_)
     | refine eqT hE (by omega) ?_
     | refine eqF hE (by omega) ?_
     | refine eqI hE (fun _ => ?_) (fun _ => ?_)
     | refine add64 hE (by omega) (fun _ _ => ?_)
     | refine sub64 hE (by omega) (fun _ _ => ?_)
     | refine addI hE (fun _ _ => ?_)
     | refine subI hE (fun _ _ => ?_)
     | refine lenL hE (by assumption) (fun _ _ _ => ?_)
     | refine len0 hE (fun _ _ => ?_)
     | refine idxL hE (by assumption) (by first | omega | (simp only [List.length_set, mix_len]; omega)) (fun _ _ => ?_)
     | refine idxFill hE (by assumption) (by omega) ?_
     | refine idxI hE (by decide) (by rfl) ?_
     | refine iteB (fun _ => ?_) (fun _ => ?_)
     | refine maxI hE (fun _ _ => ?_)
     | refine minI hE (fun _ _ => ?_)
     | refine seqI hE (fun _ => ?_) (fun _ => ?_)
     | refine scatI hE (by first | omega | (simp only [ByteArray.size, Array.size, List.length_cons, List.length_nil] at *; omega)) (fun _ _ _ => ?_)
     | refine slenI hE (fun _ _ _ => ?_)
     | refine sidxI hE (by omega) (fun _ _ _ _ => ?_)
     | refine needI hE (by first | decide | omega) ?_
     | refine rem64 hE (by omega) (fun _ _ => ?_)
     | refine quo64 hE (by omega) (fun _ _ => ?_)
     | refine wrapU8 hE (by omega) (fun _ _ => ?_)
     | refine wrap64 hE (by omega) (fun _ _ => ?_)
     | refine noownI hE (by simp [AV.isOwn]) ?_) <;> (try conv => cbv))
  all_goals first
    | exact hK _ rfl
    | omega
    | trace_state
end Go.Proofs.Ytcmgdilpljiljaa
