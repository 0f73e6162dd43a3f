/- Contracts: another keeper; the law. -/
import Derived.Test.YtcmgdilpljiljaaFdr
namespace Go.Proofs.Ytcmgdilpljiljaa
open Go Go.RowKit Go.Sort Classical
set_option maxRecDepth 100000
set_option maxHeartbeats 2000000
set_option linter.unusedVariables false
set_option linter.unusedSimpArgs false
def dAt (l : List Dut) (k : Int) : Dut := l.getD k.toNat ⟨⟨#[]⟩, 0, 0⟩
theorem dAt_eq {l : List Dut} {k : Int} {v : Dut} (h : l[k.toNat]? = some v) : dAt l k = v := by
  unfold dAt; rw [List.getD_eq_getElem?_getD, h]; rfl
noncomputable def replR (l : List Dut) (k : ByteArray) (f : Int) (o : ByteArray) : List Dut × Int := if DutiesOk l then (if atK l k f < 0 then ([], 3) else (if NameOk o then putR (cutAt l (atK l k f)) ⟨o, (dAt l (atK l k f)).frm, (dAt l (atK l k f)).til⟩ else ([], 2))) else ([], 1)
theorem replR_len (l : List Dut) (k : ByteArray) (f : Int) (o : ByteArray) : (replR l k f o).1.length ≤ l.length + 1 := by
  unfold replR
  split
  · split
    · simp
    · split
      · have := putR_len (cutAt l (atK l k f)) ⟨o, (dAt l (atK l k f)).frm, (dAt l (atK l k f)).til⟩
        have h2 := cutAt_len l (i := atK l k f) (by omega)
        omega
      · simp
  · simp
theorem renamed_ok {v : Dut} (h : v.ok) {o : ByteArray} (ho : NameOk o) : Dut.ok ⟨o, v.frm, v.til⟩ := ⟨ho, h.2⟩
theorem replaceKeeper_ {rs : List (List AV)} {b : Bool} {l : List Dut} (k : ByteArray) (f : Int) (o : ByteArray) (hl : rs = l.map Dut.cs) : AC Try.prog 62 [.sl b 3 rs, .str k, .int .i64 f, .str o] dutLI (replR l k f o) := by
  refine ac Try.func62 (by kernel_rfl) (.dutLI _) fun E K hE hK => ?_
  conv => cbv
  have hbd := atK_bd l k f
  refine callLI hE (dropDuty_ k f hl) fun rs1 c h1 hc => ?_
  conv => cbv
  refine eqI hE (fun h0 => ?_) (fun h0 => ?_) <;> conv => cbv
  · have hok : DutiesOk l := Classical.byContradiction fun h => by rw [dropR, if_neg h] at hc; exact absurd hc (by rw [h0]; decide)
    have ha : ¬ atK l k f < 0 := fun h => by rw [dropR, if_pos hok, if_pos h] at hc; exact absurd hc (by rw [h0]; decide)
    have h60 := hok.2
    rw [dropR, if_pos hok, if_neg ha] at h1
    have hcl := cutAt_len l (i := atK l k f) (by omega)
    have hct := cutAt_lt l (i := atK l k f) (by omega)
    have hcs := cutAt_sub l (i := atK l k f) (by omega)
    repeat' first
      | (refine callI hE (dutyOf_ k f hl) (fun y hy => ?_); rw [← hy] at hbd; (try conv => cbv))
      | (refine idxL hE hl (by omega) (fun v hv => ?_); have hva := dAt_eq hv; have hvo := hok.all v (List.mem_of_getElem? hv); obtain ⟨keeper, frm, til⟩ := v; (try conv => cbv))
      | (refine callP hE (dutFits_ _ _ _ h1) (fun hf => ?_) (fun hf => ?_) <;> (try conv => cbv))
      | ((first
       | refine idxV hE (by assumption) (by omega) (by assumption) ?_
       | refine callP hE (isName_ _) (fun _ => ?_) (fun _ => ?_)
       | refine callR hE (withDuty_ _ _ _ h1 (by dsimp only; omega) ((duts_pw hok).sublist hcs) (fun w hw => dut_apart (renamed_ok (by assumption) (by assumption)) (hok.all w (hcs.subset hw)) (hf w hw))) (fun _ _ => ?_)
       | refine nilOwnI hE 3 ?_
       | refine ltT hE (by omega) ?_
       | refine ltF hE (by omega) ?_
       | refine ltI hE (fun _ => ?_) (fun _ => ?_)
       | refine leT hE (by omega) ?_
       | refine leF hE (by omega) ?_
       | refine leI hE (fun _ => ?_) (fun _ => ?_)
       | refine eqT hE (by omega) ?_
       | refine eqF hE (by omega) ?_
       | refine eqI hE (fun _ => ?_) (fun _ => ?_)
       | refine add64 hE (by omega) (fun _ _ => ?_)
       | refine sub64 hE (by omega) (fun _ _ => ?_)
       | refine addI hE (fun _ _ => ?_)
       | refine subI hE (fun _ _ => ?_)
       | refine lenL hE (by assumption) (fun _ _ _ => ?_)
       | refine len0 hE (fun _ _ => ?_)
       | refine idxL hE (by assumption) (by first | omega | (simp only [List.length_set, mix_len]; omega)) (fun _ _ => ?_)
       | refine idxFill hE (by assumption) (by omega) ?_
       | refine idxI hE (by decide) (by rfl) ?_
       | refine iteB (fun _ => ?_) (fun _ => ?_)
       | refine maxI hE (fun _ _ => ?_)
       | refine minI hE (fun _ _ => ?_)
       | refine seqI hE (fun _ => ?_) (fun _ => ?_)
       | refine scatI hE (by first | omega | (simp only [ByteArray.size, Array.size, List.length_cons, List.length_nil] at *; omega)) (fun _ _ _ => ?_)
       | refine slenI hE (fun _ _ _ => ?_)
       | refine sidxI hE (by omega) (fun _ _ _ _ => ?_)
       | refine needI hE (by first | decide | omega) ?_
       | refine rem64 hE (by omega) (fun _ _ => ?_)
       | refine quo64 hE (by omega) (fun _ _ => ?_)
       | refine wrapU8 hE (by omega) (fun _ _ => ?_)
       | refine wrap64 hE (by omega) (fun _ _ => ?_)
       | refine noownI hE (by simp [AV.isOwn]) ?_) <;> (try conv => cbv))
    all_goals first
      | omega
      | (refine hK _ ?_; rw [replR, if_pos hok, if_neg ha, if_neg (by assumption)]; rfl)
      | (refine hK _ ?_; rw [replR, if_pos hok, if_neg ha, if_pos (by assumption), ← hy, hva, putR, if_neg (fits_iff.1 (by rw [hy]; exact hf)), if_neg (by rw [hy]; omega)]; subst_vars; rfl)
      | (refine hK _ ?_; rw [replR, if_pos hok, if_neg ha, if_pos (by assumption), ← hy, hva, putR, if_pos (Classical.not_not.1 fun h => hf (fits_iff.2 (by rw [← hy]; exact h)))]; rfl)
      | trace_state
  · refine nilOwnI hE 3 ?_
    conv => cbv
    refine hK _ ?_
    unfold dropR at hc
    unfold replR
    split
    · rename_i h1
      rw [if_pos h1] at hc
      split
      · rename_i h2; rw [if_pos h2] at hc; rw [hc]; rfl
      · rename_i h2; rw [if_neg h2] at hc; exact absurd hc h0
    · rename_i h1; rw [if_neg h1] at hc; rw [hc]; rfl
theorem sReplaceKeeper_ {rs : List (List AV)} {b : Bool} {l : List Dut} (k : ByteArray) (f : Int) (o : ByteArray) (hl : rs = l.map Dut.cs) : AC Try.prog 61 [.sl b 3 rs, .str k, .int .i64 f, .str o] dutLI (replR l k f o) := by
  refine ac Try.func61 (by kernel_rfl) (.dutLI _) fun E K hE hK => ?_
  conv => cbv
  have hbd := atK_bd l k f
  repeat' first
    | (refine callP hE (l28Ok_ (by assumption)) (fun hok => ?_) (fun hok => ?_) <;> (try have h60 := hok.2) <;> (try conv => cbv))
    | (refine callI hE (l28Find_ k f (by assumption)) (fun y hy => ?_); rw [← hy] at hbd; (try conv => cbv))
    | (refine idxL hE hl (by omega) (fun v hv => ?_); have hva := dAt_eq hv; obtain ⟨keeper, frm, til⟩ := v; (try conv => cbv))
    | ((first
     | refine idxV hE (by assumption) (by omega) (by assumption) ?_
     | refine callP hE (l01Name_ _) (fun _ => ?_) (fun _ => ?_)
     | refine callR hE (l28Without_ _ hl (by omega) (by omega)) (fun _ _ => ?_)
     | refine callLI hE (l28Put_ _ _ _ (by assumption) (by have := cutAt_len l (i := y) (by omega); omega)) (fun _ _ _ _ => ?_)
     | refine nilOwnI hE 3 ?_
     | refine ltT hE (by omega) ?_
     | refine ltF hE (by omega) ?_
     | refine ltI hE (fun _ => ?_) (fun _ => ?_)
     | refine leT hE (by omega) ?_
     | refine leF hE (by omega) ?_
     | refine leI hE (fun _ => ?_) (fun _ => ?_)
     | refine eqT hE (by omega) ?_
     | refine eqF hE (by omega) ?_
     | refine eqI hE (fun _ => ?_) (fun _ => ?_)
     | refine add64 hE (by omega) (fun _ _ => ?_)
     | refine sub64 hE (by omega) (fun _ _ => ?_)
     | refine addI hE (fun _ _ => ?_)
     | refine subI hE (fun _ _ => ?_)
     | refine lenL hE (by assumption) (fun _ _ _ => ?_)
     | refine len0 hE (fun _ _ => ?_)
     | refine idxL hE (by assumption) (by first | omega | (simp only [List.length_set, mix_len]; omega)) (fun _ _ => ?_)
     | refine idxFill hE (by assumption) (by omega) ?_
     | refine idxI hE (by decide) (by rfl) ?_
     | refine iteB (fun _ => ?_) (fun _ => ?_)
     | refine maxI hE (fun _ _ => ?_)
     | refine minI hE (fun _ _ => ?_)
     | refine seqI hE (fun _ => ?_) (fun _ => ?_)
     | refine scatI hE (by first | omega | (simp only [ByteArray.size, Array.size, List.length_cons, List.length_nil] at *; omega)) (fun _ _ _ => ?_)
     | refine slenI hE (fun _ _ _ => ?_)
     | refine sidxI hE (by omega) (fun _ _ _ _ => ?_)
     | refine needI hE (by first | decide | omega) ?_
     | refine rem64 hE (by omega) (fun _ _ => ?_)
     | refine quo64 hE (by omega) (fun _ _ => ?_)
     | refine wrapU8 hE (by omega) (fun _ _ => ?_)
     | refine wrap64 hE (by omega) (fun _ _ => ?_)
     | refine noownI hE (by simp [AV.isOwn]) ?_) <;> (try conv => cbv))
  all_goals first
    | omega
    | (refine hK _ ?_; rw [replR, if_pos hok, if_pos (by omega)]; rfl)
    | (refine hK _ ?_; rw [replR, if_pos hok, if_neg (by omega), if_pos (by assumption), ← hy, hva]; subst_vars; rfl)
    | (refine hK _ ?_; rw [replR, if_pos hok, if_neg (by omega), if_neg (by assumption)]; rfl)
    | (refine hK _ ?_; rw [replR, if_neg hok]; rfl)
    | trace_state
theorem lawReplaceKeeper {rs : List (List AV)} {b : Bool} {l : List Dut} (k : ByteArray) (f : Int) (o : ByteArray) (hl : rs = l.map Dut.cs) : AC Try.prog 11 [.sl b 3 rs, .str k, .int .i64 f, .str o] id (.bool true) := by
  refine ac Try.func11 (by kernel_rfl) (.bool _) fun E K hE hK => ?_
  conv => cbv
  have hlen := replR_len l k f o
  repeat' first
    | (refine callI hE (szDutyS_ _ hl (by decide)) (fun y hy => ?_); have hz := szN_or 1048576 (l.length + (l.map Dut.sz).sum); rw [← hy] at hz; clear hy; (try conv => cbv))
    | (refine callMI hE (markDutyS_ _ (by assumption) (by omega) (by omega)) ?_; rintro _ _ ⟨n, rs', hn, hrs', rfl, rfl⟩; conv => cbv)
    | ((first
     | refine idxV hE (by assumption) (by omega) (by assumption) ?_
     | refine callR hE (toDutyS_ hl (by omega)) (fun _ _ => ?_)
     | refine callLI hE (sReplaceKeeper_ _ _ _ (by assumption)) (fun _ _ _ _ => ?_)
     | refine callLI hE (replaceKeeper_ _ _ _ (by assumption)) (fun _ _ _ _ => ?_)
     | refine callPT hE (eqDutyS_ (by assumption) (by assumption)) rfl ?_
     | refine sameI hE (by subst_vars; simp [Dut.mks_len]) ?_
     | refine callI hE (heldDutyS_ _ (by assumption) (by omega) (by omega)) (fun _ _ => ?_)
     | refine ltT hE (by omega) ?_
     | refine ltF hE (by omega) ?_
     | refine ltI hE (fun _ => ?_) (fun _ => ?_)
     | refine leT hE (by omega) ?_
     | refine leF hE (by omega) ?_
     | refine leI hE (fun _ => ?_) (fun _ => ?_)
     | refine eqT hE (by omega) ?_
     | refine eqF hE (by omega) ?_
     | refine eqI hE (fun _ => ?_) (fun _ => ?_)
     | refine add64 hE (by omega) (fun _ _ => ?_)
     | refine sub64 hE (by omega) (fun _ _ => ?_)
     | refine addI hE (fun _ _ => ?_)
     | refine subI hE (fun _ _ => ?_)
     | refine lenL hE (by assumption) (fun _ _ _ => ?_)
     | refine len0 hE (fun _ _ => ?_)
     | refine idxL hE (by assumption) (by first | omega | (simp only [List.length_set, mix_len]; omega)) (fun _ _ => ?_)
     | refine idxFill hE (by assumption) (by omega) ?_
     | refine idxI hE (by decide) (by rfl) ?_
     | refine iteB (fun _ => ?_) (fun _ => ?_)
     | refine maxI hE (fun _ _ => ?_)
     | refine minI hE (fun _ _ => ?_)
     | refine seqI hE (fun _ => ?_) (fun _ => ?_)
     | refine scatI hE (by first | omega | (simp only [ByteArray.size, Array.size, List.length_cons, List.length_nil] at *; omega)) (fun _ _ _ => ?_)
     | refine slenI hE (fun _ _ _ => ?_)
     | refine sidxI hE (by omega) (fun _ _ _ _ => ?_)
     | refine needI hE (by first | decide | omega) ?_
     | refine rem64 hE (by omega) (fun _ _ => ?_)
     | refine quo64 hE (by omega) (fun _ _ => ?_)
     | refine wrapU8 hE (by omega) (fun _ _ => ?_)
     | refine wrap64 hE (by omega) (fun _ _ => ?_)
     | refine noownI hE (by simp [AV.isOwn]) ?_) <;> (try conv => cbv))
  all_goals first
    | exact hK _ rfl
    | omega
    | trace_state
end Go.Proofs.Ytcmgdilpljiljaa
