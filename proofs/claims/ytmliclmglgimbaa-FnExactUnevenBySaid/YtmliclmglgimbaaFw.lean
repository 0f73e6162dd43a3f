/- Contracts: the duties of a keeper: the law. -/
import Derived.Test.YtmliclmglgimbaaFv
namespace Go.Proofs.Ytmliclmglgimbaa
open Go Go.RowKit Classical
set_option maxRecDepth 100000
set_option maxHeartbeats 2000000
set_option linter.unusedVariables false
set_option linter.unusedSimpArgs false
def dutLI (p : List Dut × Int) : AV := .tup [.sl true 3 (p.1.map Dut.cs), .int .i64 p.2]
theorem NoB.dutLI (p : List Dut × Int) : NoB (dutLI p) := .tupC (.rows .oDut) (.tupC (.int _ _) .tup0)
noncomputable def dutiesR (l : List Dut) (k : ByteArray) : List Dut × Int := if DutiesOk l then (ofKeeper l k, 0) else ([], 1)
theorem dutiesR_len (l : List Dut) (k : ByteArray) : (dutiesR l k).1.length ≤ l.length := by unfold dutiesR; split <;> simp [ofKeeper_len]
theorem dutiesOf_ {rs : List (List AV)} {t : Bool} {l : List Dut} (k : ByteArray) (hl : rs = l.map Dut.cs) (hb : l.length ≤ 1048576) : AC Try.prog 26 [.sl t 3 rs, .str k] dutLI (dutiesR l k) := by
  refine ac Try.func26 (by kernel_rfl) (.dutLI _) fun E K hE hK => ?_
  conv => cbv
  repeat' first
    | ((first
     | refine idxV hE (by assumption) (by omega) (by assumption) ?_
     | refine callP hE (validDuties_ (by assumption)) (fun _ => ?_) (fun _ => ?_)
     | refine callR hE (dutiesOfI_ _ hl hb) (fun _ _ => ?_)
     | refine nilOwnI hE 3 ?_
     | refine ltT hE (by omega) ?_
     | refine ltF hE (by omega) ?_
     | refine ltI hE (fun _ => ?_) (fun _ => ?_)
     | refine leT hE (by omega) ?_
     | refine leF hE (by omega) ?_
     | refine leI hE (fun _ => ?_) (fun _ => ?_)
     | refine eqT hE (by omega) ?_
     | refine eqF hE (by omega) ?_
     | refine eqI hE (fun _ => ?_) (fun _ => ?_)
     | refine add64 hE (by omega) (fun _ _ => ?_)
     | refine sub64 hE (by omega) (fun _ _ => ?_)
     | refine addI hE (fun _ _ => ?_)
     | refine subI hE (fun _ _ => ?_)
     | refine lenL hE (by assumption) (fun _ _ _ => ?_)
     | refine len0 hE (fun _ _ => ?_)
     | refine idxL hE (by assumption) (by first | omega | (simp only [List.length_set, mix_len]; omega)) (fun _ _ => ?_)
     | refine idxFill hE (by assumption) (by omega) ?_
     | refine idxI hE (by decide) (by rfl) ?_
     | refine iteB (fun _ => ?_) (fun _ => ?_)
     | refine maxI hE (fun _ _ => ?_)
     | refine minI hE (fun _ _ => ?_)
     | refine seqI hE (fun _ => ?_) (fun _ => ?_)
     | refine scatI hE (by first | omega | (simp only [ByteArray.size, Array.size, List.length_cons, List.length_nil] at *; omega)) (fun _ _ _ => ?_)
     | refine slenI hE (fun _ _ _ => ?_)
     | refine sidxI hE (by omega) (fun _ _ _ _ => ?_)
     | refine needI hE (by first | decide | omega) ?_
     | refine rem64 hE (by omega) (fun _ _ => ?_)
     | refine quo64 hE (by omega) (fun _ _ => ?_)
     | refine wrapU8 hE (by omega) (fun _ _ => ?_)
     | refine wrap64 hE (by omega) (fun _ _ => ?_)
     | refine noownI hE (by simp [AV.isOwn]) ?_) <;> (try conv => cbv))
  · refine hK _ ?_
    subst_vars
    rw [dutiesR, if_pos (by assumption)]; rfl
  · refine hK _ ?_
    rw [dutiesR, if_neg (by assumption)]; rfl
theorem sDutiesOf_ {rs : List (List AV)} {t : Bool} {l : List Dut} (k : ByteArray) (hl : rs = l.map Dut.cs) (hb : l.length ≤ 1048576) : AC Try.prog 24 [.sl t 3 rs, .str k] dutLI (dutiesR l k) := by
  refine ac Try.func24 (by kernel_rfl) (.dutLI _) fun E K hE hK => ?_
  conv => cbv
  repeat' first
    | ((first
     | refine idxV hE (by assumption) (by omega) (by assumption) ?_
     | refine callP hE (l28Ok_ (by assumption)) (fun _ => ?_) (fun _ => ?_)
     | refine callR hE (l28Of_ _ hl hb) (fun _ _ => ?_)
     | refine nilOwnI hE 3 ?_
     | refine ltT hE (by omega) ?_
     | refine ltF hE (by omega) ?_
     | refine ltI hE (fun _ => ?_) (fun _ => ?_)
     | refine leT hE (by omega) ?_
     | refine leF hE (by omega) ?_
     | refine leI hE (fun _ => ?_) (fun _ => ?_)
     | refine eqT hE (by omega) ?_
     | refine eqF hE (by omega) ?_
     | refine eqI hE (fun _ => ?_) (fun _ => ?_)
     | refine add64 hE (by omega) (fun _ _ => ?_)
     | refine sub64 hE (by omega) (fun _ _ => ?_)
     | refine addI hE (fun _ _ => ?_)
     | refine subI hE (fun _ _ => ?_)
     | refine lenL hE (by assumption) (fun _ _ _ => ?_)
     | refine len0 hE (fun _ _ => ?_)
     | refine idxL hE (by assumption) (by first | omega | (simp only [List.length_set, mix_len]; omega)) (fun _ _ => ?_)
     | refine idxFill hE (by assumption) (by omega) ?_
     | refine idxI hE (by decide) (by rfl) ?_
     | refine iteB (fun _ => ?_) (fun _ => ?_)
     | refine maxI hE (fun _ _ => ?_)
     | refine minI hE (fun _ _ => ?_)
     | refine seqI hE (fun _ => ?_) (fun _ => ?_)
     | refine scatI hE (by first | omega | (simp only [ByteArray.size, Array.size, List.length_cons, List.length_nil] at *; omega)) (fun _ _ _ => ?_)
     | refine slenI hE (fun _ _ _ => ?_)
     | refine sidxI hE (by omega) (fun _ _ _ _ => ?_)
     | refine needI hE (by first | decide | omega) ?_
     | refine rem64 hE (by omega) (fun _ _ => ?_)
     | refine quo64 hE (by omega) (fun _ _ => ?_)
     | refine wrapU8 hE (by omega) (fun _ _ => ?_)
     | refine wrap64 hE (by omega) (fun _ _ => ?_)
     | refine noownI hE (by simp [AV.isOwn]) ?_) <;> (try conv => cbv))
  · refine hK _ ?_
    subst_vars
    rw [dutiesR, if_pos (by assumption)]; rfl
  · refine hK _ ?_
    rw [dutiesR, if_neg (by assumption)]; rfl
theorem lawDutiesOf {rs : List (List AV)} {t : Bool} {l : List Dut} (k : ByteArray) (hl : rs = l.map Dut.cs) : AC Try.prog 4 [.sl t 3 rs, .str k] id (.bool true) := by
  refine ac Try.func4 (by kernel_rfl) (.bool _) fun E K hE hK => ?_
  conv => cbv
  have hlen := dutiesR_len l k
  repeat' first
    | (refine callI hE (szDutyS_ _ hl (by decide)) (fun y hy => ?_); have hz := szN_or 1048576 (l.length + (l.map Dut.sz).sum); rw [← hy] at hz; clear hy; (try conv => cbv))
    | (refine callMI hE (markDutyS_ _ (by assumption) (by omega) (by omega)) ?_; rintro _ _ ⟨n, rs', hn, hrs', rfl, rfl⟩; conv => cbv)
    | ((first
     | refine idxV hE (by assumption) (by omega) (by assumption) ?_
     | refine callR hE (toDutyS_ hl (by omega)) (fun _ _ => ?_)
     | refine callLI hE (sDutiesOf_ k (by assumption) (by omega)) (fun _ _ _ _ => ?_)
     | refine callLI hE (dutiesOf_ k (by assumption) (by omega)) (fun _ _ _ _ => ?_)
     | refine callPT hE (eqDutyS_ (by assumption) (by assumption)) rfl ?_
     | refine sameI hE (by subst_vars; simp [Dut.mks_len]) ?_
     | refine callI hE (heldDutyS_ _ (by assumption) (by omega) (by omega)) (fun _ _ => ?_)
     | refine ltT hE (by omega) ?_
     | refine ltF hE (by omega) ?_
     | refine ltI hE (fun _ => ?_) (fun _ => ?_)
     | refine leT hE (by omega) ?_
     | refine leF hE (by omega) ?_
     | refine leI hE (fun _ => ?_) (fun _ => ?_)
     | refine eqT hE (by omega) ?_
     | refine eqF hE (by omega) ?_
     | refine eqI hE (fun _ => ?_) (fun _ => ?_)
     | refine add64 hE (by omega) (fun _ _ => ?_)
     | refine sub64 hE (by omega) (fun _ _ => ?_)
     | refine addI hE (fun _ _ => ?_)
     | refine subI hE (fun _ _ => ?_)
     | refine lenL hE (by assumption) (fun _ _ _ => ?_)
     | refine len0 hE (fun _ _ => ?_)
     | refine idxL hE (by assumption) (by first | omega | (simp only [List.length_set, mix_len]; omega)) (fun _ _ => ?_)
     | refine idxFill hE (by assumption) (by omega) ?_
     | refine idxI hE (by decide) (by rfl) ?_
     | refine iteB (fun _ => ?_) (fun _ => ?_)
     | refine maxI hE (fun _ _ => ?_)
     | refine minI hE (fun _ _ => ?_)
     | refine seqI hE (fun _ => ?_) (fun _ => ?_)
     | refine scatI hE (by first | omega | (simp only [ByteArray.size, Array.size, List.length_cons, List.length_nil] at *; omega)) (fun _ _ _ => ?_)
     | refine slenI hE (fun _ _ _ => ?_)
     | refine sidxI hE (by omega) (fun _ _ _ _ => ?_)
     | refine needI hE (by first | decide | omega) ?_
     | refine rem64 hE (by omega) (fun _ _ => ?_)
     | refine quo64 hE (by omega) (fun _ _ => ?_)
     | refine wrapU8 hE (by omega) (fun _ _ => ?_)
     | refine wrap64 hE (by omega) (fun _ _ => ?_)
     | refine noownI hE (by simp [AV.isOwn]) ?_) <;> (try conv => cbv))
  all_goals first
    | exact hK _ rfl
    | omega
    | trace_state
end Go.Proofs.Ytmliclmglgimbaa
