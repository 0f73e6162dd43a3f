/- Contracts: the duties of a keeper. -/
import Derived.Test.YtmliclmglgimbaaFu
namespace Go.Proofs.Ytmliclmglgimbaa
open Go Go.RowKit Classical
set_option maxRecDepth 100000
set_option maxHeartbeats 2000000
set_option linter.unusedVariables false
set_option linter.unusedSimpArgs false
noncomputable def ofKeeper (l : List Dut) (k : ByteArray) : List Dut := rej (fun v => v.keeper ≠ k) l
theorem dutiesOf1_ (keeper : ByteArray) (frm til : Int) (k : ByteArray) : AC Try.prog 171 [.agg [.str keeper, .int .i64 frm, .int .i64 til], .pp [.str k]] AV.bool (bP ((⟨keeper, frm, til⟩ : Dut).keeper ≠ k)) := by
  refine ac Try.func171 (by kernel_rfl) (.bool _) fun E K hE hK => ?_
  conv => cbv
  repeat' first
    | ((first
     | refine idxV hE (by assumption) (by omega) (by assumption) ?_
     | refine ltT hE (by omega) ?_
     | refine ltF hE (by omega) ?_
     | refine ltI hE (fun _ => ?_) (fun _ => ?_)
     | refine leT hE (by omega) ?_
     | refine leF hE (by omega) ?_
     | refine leI hE (fun _ => ?_) (fun _ => ?_)
     | refine eqT hE (by omega) ?_
     | refine eqF hE (by omega) ?_
     | refine eqI hE (fun _ => ?_) (fun _ => ?_)
     | refine add64 hE (by omega) (fun _ _ => ?_)
     | refine sub64 hE (by omega) (fun _ _ => ?_)
     | refine addI hE (fun _ _ => ?_)
     | refine subI hE (fun _ _ => ?_)
     | refine lenL hE (by assumption) (fun _ _ _ => ?_)
     | refine len0 hE (fun _ _ => ?_)
     | refine idxL hE (by assumption) (by first | omega | (simp only [List.length_set, mix_len]; omega)) (fun _ _ => ?_)
     | refine idxFill hE (by assumption) (by omega) ?_
     | refine idxI hE (by decide) (by rfl) ?_
     | refine iteB (fun _ => ?_) (fun _ => ?_)
     | refine maxI hE (fun _ _ => ?_)
     | refine minI hE (fun _ _ => ?_)
     | refine seqI hE (fun _ => ?_) (fun _ => ?_)
     | refine scatI hE (by first | omega | (simp only [ByteArray.size, Array.size, List.length_cons, List.length_nil] at *; omega)) (fun _ _ _ => ?_)
     | refine slenI hE (fun _ _ _ => ?_)
     | refine sidxI hE (by omega) (fun _ _ _ _ => ?_)
     | refine needI hE (by first | decide | omega) ?_
     | refine rem64 hE (by omega) (fun _ _ => ?_)
     | refine quo64 hE (by omega) (fun _ _ => ?_)
     | refine wrapU8 hE (by omega) (fun _ _ => ?_)
     | refine wrap64 hE (by omega) (fun _ _ => ?_)
     | refine noownI hE (by simp [AV.isOwn]) ?_) <;> (try conv => cbv))
  all_goals first
    | (refine finB hK (bP_true.2 ?_); assumption)
    | (refine finB hK (bP_false.2 fun h => h ?_); assumption)
theorem dutiesOfI_ {rs : List (List AV)} {t : Bool} {l : List Dut} (k : ByteArray) (hl : rs = l.map Dut.cs) (hb : l.length ≤ 1048576) : AC Try.prog 96 [.sl t 3 rs, .str k] (fun l : List Dut => .sl true 3 (l.map Dut.cs)) (ofKeeper l k) := by
  refine ac Try.func96 (by kernel_rfl) (.rows .oDut) fun E K hE hK => ?_
  conv => cbv
  refine callR hE (cloneDuty_ hl hb) fun rs1 h1 => ?_
  conv => cbv
  refine callMI hE (deleteDuty1_ (p := fun v => v.keeper ≠ k) h1 hb (fun a b c => dutiesOf1_ a b c k)) ?_
  rintro r ys ⟨rs2, h2, rfl, rfl⟩
  conv => cbv
  exact hK _ (by rw [h2]; rfl)
theorem ofKeeper_len (l : List Dut) (k : ByteArray) : (ofKeeper l k).length ≤ l.length := rej_len _ _
theorem l28Of_ {rs : List (List AV)} {t : Bool} {l : List Dut} (k : ByteArray) (hl : rs = l.map Dut.cs) (hb : l.length ≤ 1048576) : AC Try.prog 93 [.sl t 3 rs, .str k] (fun l : List Dut => .sl true 3 (l.map Dut.cs)) (ofKeeper l k) := by
  refine ac Try.func93 (by kernel_rfl) (.rows .oDut) fun E K hE hK => ?_
  conv => cbv
  refine loopC hE (ι := Int × (List (List AV))) [0, 1] [6, 5] (fun q => (fun (i : Int) (es : List (List AV)) => [(6, .int .i64 i), (5, .ob 0)]) q.1 q.2) (fun q => (fun (i : Int) (es : List (List AV)) => [.row 3 es]) q.1 q.2) (fun q => (fun (i : Int) (es : List (List AV)) => (l.length - i).toNat) q.1 q.2) (fun q => (fun (i : Int) (es : List (List AV)) => (0 ≤ i ∧ i ≤ l.length) ∧ es = (ofKeeper (l.take i.toNat) k).map Dut.cs) q.1 q.2) [0] (by decide) ((0, [])) (by conv => lhs; cbv) (by conv => lhs; cbv) rfl rfl (by dsimp only; exact ⟨by omega, rfl⟩) fun q hi Kn hN => ?_
  obtain ⟨i, es⟩ := q
  (try dsimp only at hi)
  conv => cbv
  obtain ⟨⟨h0, h1⟩, h2⟩ := hi
  have hlen : (ofKeeper (l.take i.toNat) k).length ≤ 1048576 := Nat.le_trans (ofKeeper_len _ _) (by rw [List.length_take]; omega)
  repeat' first
    | (refine idxV hE hl (by omega) (by assumption) ?_; (try conv => cbv))
    | (refine hN (_, _) _ [0] (by decide) rfl ⟨?_, ?_⟩ ?_ <;> (try dsimp only))
    | (refine hN (_, _) _ [2] (by decide) rfl ⟨?_, ?_⟩ ?_ <;> (try dsimp only))
    | (refine hN (_, _) _ [1] (by decide) rfl ⟨?_, ?_⟩ ?_ <;> (try dsimp only))
    | ((first
     | refine idxV hE (by assumption) (by omega) (by assumption) ?_
     | (refine idxL (R := Dut.cs) hE (by assumption) (by first | omega | (simp only [List.length_set, mix_len]; omega)) ?_; rintro ⟨⟩ _)
     | refine catP hE (R := Dut.cs) (v := (⟨_, _, _⟩ : Dut)) (by assumption) rfl (by omega) (fun _ _ => ?_)
     | refine ltT hE (by omega) ?_
     | refine ltF hE (by omega) ?_
     | refine ltI hE (fun _ => ?_) (fun _ => ?_)
     | refine leT hE (by omega) ?_
     | refine leF hE (by omega) ?_
     | refine leI hE (fun _ => ?_) (fun _ => ?_)
     | refine eqT hE (by omega) ?_
     | refine eqF hE (by omega) ?_
     | refine eqI hE (fun _ => ?_) (fun _ => ?_)
     | refine add64 hE (by omega) (fun _ _ => ?_)
     | refine sub64 hE (by omega) (fun _ _ => ?_)
     | refine addI hE (fun _ _ => ?_)
     | refine subI hE (fun _ _ => ?_)
     | refine lenL hE (by assumption) (fun _ _ _ => ?_)
     | refine len0 hE (fun _ _ => ?_)
     | refine idxL hE (by assumption) (by first | omega | (simp only [List.length_set, mix_len]; omega)) (fun _ _ => ?_)
     | refine idxFill hE (by assumption) (by omega) ?_
     | refine idxI hE (by decide) (by rfl) ?_
     | refine iteB (fun _ => ?_) (fun _ => ?_)
     | refine maxI hE (fun _ _ => ?_)
     | refine minI hE (fun _ _ => ?_)
     | refine seqI hE (fun _ => ?_) (fun _ => ?_)
     | refine scatI hE (by first | omega | (simp only [ByteArray.size, Array.size, List.length_cons, List.length_nil] at *; omega)) (fun _ _ _ => ?_)
     | refine slenI hE (fun _ _ _ => ?_)
     | refine sidxI hE (by omega) (fun _ _ _ _ => ?_)
     | refine needI hE (by first | decide | omega) ?_
     | refine rem64 hE (by omega) (fun _ _ => ?_)
     | refine quo64 hE (by omega) (fun _ _ => ?_)
     | refine wrapU8 hE (by omega) (fun _ _ => ?_)
     | refine wrap64 hE (by omega) (fun _ _ => ?_)
     | refine noownI hE (by simp [AV.isOwn]) ?_) <;> (try conv => cbv))
  all_goals (try clear hN)
  all_goals first
    | omega
    | (have hs := (rej_step (fun v : Dut => v.keeper ≠ k) h0 (by assumption) (by assumption)).2 (fun h => h (by assumption)); unfold ofKeeper at *; rw [hs]; assumption)
    | (have hs := (rej_step (fun v : Dut => v.keeper ≠ k) h0 (by assumption) (by assumption)).1 (by assumption); unfold ofKeeper at *; rw [hs]; assumption)
    | (refine hK _ ?_; rw [h2, List.take_of_length_le (by omega)]; rfl)
    | trace_state
end Go.Proofs.Ytmliclmglgimbaa
