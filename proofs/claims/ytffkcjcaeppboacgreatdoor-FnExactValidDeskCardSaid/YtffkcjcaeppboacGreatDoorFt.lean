/- Contracts: duties. -/
import Derived.Test.YtffkcjcaeppboacGreatDoorFB
namespace Go.Proofs.YtffkcjcaeppboacGreatDoor
open Go Go.RowKit Classical
set_option maxRecDepth 100000
set_option maxHeartbeats 2000000
set_option linter.unusedVariables false
set_option linter.unusedSimpArgs false
structure Dut where
  keeper : ByteArray
  frm : Int
  til : Int
def Dut.cs (v : Dut) : List AV := [.str v.keeper, .int .i64 v.frm, .int .i64 v.til]
theorem NoB.oDut (v : Dut) : NoB (.agg v.cs) := (.aggC (.str _) (.aggC (.int _ _) (.aggC (.int _ _) .agg0)))
def Dut.sz (v : Dut) : Nat := v.keeper.size
theorem szDuty_ (keeper : ByteArray) (frm : Int) (til : Int) (n : Int) (hn : 0 ≤ n ∧ n ≤ 1048576) : AC Tryz.prog 39 [.agg [.str keeper, .int .i64 frm, .int .i64 til], .int .i64 n] (AV.int .i64) (szN n (Dut.sz ⟨keeper, frm, til⟩)) := by
  refine ac Tryz.func39 (by kernel_rfl) (.int _ _) fun E K hE hK => ?_
  conv => cbv
  repeat' first
    | ((first
   | refine q0 hE ?_
   | refine B0 hE ?_|refine B1 hE (fun _=>?_) fun _=>?_|refine B3 hE fun _ _ _=>?_|refine B2 hE fun _ _=>?_|refine B4 hE fun _ _ _ _=>?_) <;> (try conv => cbv))
  all_goals (refine hK _ ?_; show AV.int _ _ = AV.int _ _; congr 1; unfold szN Dut.sz; simp only at *; split <;> omega)
theorem szDutyS_ {rs : List (List AV)} {t : Bool} {l : List Dut} (n : Int) (hl : rs = l.map Dut.cs) (hn : 0 ≤ n ∧ n ≤ 1048576) : AC Tryz.prog 12 [.sl t 3 rs, .int .i64 n] (AV.int .i64) (szN n (l.length + (l.map Dut.sz).sum)) := by
  refine ac Tryz.func12 (by kernel_rfl) (.int _ _) fun E K hE hK => ?_
  conv => cbv
  repeat' first
    | ((first
   | refine q0 hE ?_
   | refine B0 hE ?_|refine B1 hE (fun _=>?_) fun _=>?_|refine B3 hE fun _ _ _=>?_|refine B2 hE fun _ _=>?_|refine B4 hE fun _ _ _ _=>?_) <;> (try conv => cbv))
  · refine hK _ ?_
    rw [szN, if_pos (by omega)]; rfl
  · refine loopC hE (ι := Int × Int) [0] [5, 1] (fun q => (fun (i : Int) (m : Int) => [(5, .int .i64 i), (1, .int .i64 m)]) q.1 q.2) (fun q => (fun (i : Int) (m : Int) => []) q.1 q.2) (fun q => (fun (i : Int) (m : Int) => (l.length - i).toNat) q.1 q.2) (fun q => (fun (i : Int) (m : Int) => (0 ≤ i ∧ i ≤ l.length) ∧ (0 ≤ m ∧ m ≤ 1048576) ∧ m + sumTo Dut.sz l i + l.length = n) q.1 q.2) [] (by decide) ((0, _)) (by conv => lhs; cbv) (by conv => lhs; cbv) rfl rfl (by dsimp only; exact ⟨by omega, by omega, by rw [sumTo_zero (by omega)]; omega⟩) fun q hi Kn hN => ?_
    obtain ⟨i, m⟩ := q
    (try dsimp only at hi)
    conv => cbv
    obtain ⟨⟨h0, h1⟩, h2, h3⟩ := hi
    have hle := sumTo_le Dut.sz l
    repeat' first
      | (refine idxL hE hl (by omega) (fun v hv => ?_); have hs := sumTo_succ Dut.sz h0 hv; have hs2 := hle (i + 1); obtain ⟨keeper, frm, til⟩ := v; (try conv => cbv))
      | (refine callI hE (szDuty_ _ _ _ _ (by omega)) (fun y hy => ?_); have hz := szN_or m (Dut.sz ⟨keeper, frm, til⟩); rw [← hy] at hz; clear hy; (try conv => cbv))
      | (refine hN (_, _) _ [] (by decide) rfl ⟨?_, ?_, ?_⟩ ?_ <;> (try dsimp only))
      | ((first
     | refine q0 hE ?_
     | refine B0 hE ?_|refine B1 hE (fun _=>?_) fun _=>?_|refine B3 hE fun _ _ _=>?_|refine B2 hE fun _ _=>?_|refine B4 hE fun _ _ _ _=>?_) <;> (try conv => cbv))
    all_goals first
      | omega
      | (refine hK _ ?_; rw [szN_lt (by omega)]; rfl)
      | (rename_i hn2; rw [hn2, hs]; omega)
      | (refine hK _ ?_; have := sumTo_all Dut.sz l (i := i) (by omega); rw [szN_ge (by omega)]; show AV.int _ _ = AV.int _ _; congr 1; omega)
      | trace_state
theorem toDuty_ (keeper : ByteArray) (frm : Int) (til : Int) : AC Tryz.prog 56 [.agg [.str keeper, .int .i64 frm, .int .i64 til]] (fun v : Dut => .agg v.cs) ⟨keeper, frm, til⟩ := by
  refine ac Tryz.func56 (by kernel_rfl) (.oDut _) fun E K hE hK => ?_
  conv => cbv
  exact hK _ rfl
theorem toDutyS_ {rs : List (List AV)} {t : Bool} {l : List Dut} (hl : rs = l.map Dut.cs) (hb0 : l.length ≤ 1048576) : AC Tryz.prog 18 [.sl t 3 rs] (fun l : List Dut => .sl true 3 (l.map Dut.cs)) l := by
  refine ac Tryz.func18 (by kernel_rfl) (.rows .oDut) fun E K hE hK => ?_
  conv => cbv
  refine lenL hE hl fun n hn hb => ?_
  conv => cbv
  refine makeL hE (l := l) Dut.cs hn rfl (by omega) fun es hes => ?_
  conv => cbv
  refine loopC hE (ι := Int × (List (List AV))) [0] [4, 3] (fun q => (fun (i : Int) (es' : List (List AV)) => [(4, .int .i64 i), (3, .ob 0)]) q.1 q.2) (fun q => (fun (i : Int) (es' : List (List AV)) => [.row 3 es']) q.1 q.2) (fun q => (fun (i : Int) (es' : List (List AV)) => (l.length - i).toNat) q.1 q.2) (fun q => (fun (i : Int) (es' : List (List AV)) => 0 ≤ i ∧ es' = fillRow Dut.cs [.str ⟨#[]⟩, .int .i64 0, .int .i64 0] l i) q.1 q.2) [0] (by decide) ((0, es)) (by conv => lhs; cbv) (by conv => lhs; cbv) rfl rfl (by dsimp only; exact ⟨by omega, hes⟩) fun q hi Kn hN => ?_
  obtain ⟨i, es'⟩ := q
  (try dsimp only at hi)
  conv => cbv
  obtain ⟨h0, hinv⟩ := hi
  repeat' first
    | (refine hN (_, _) _ [0] (by decide) rfl ⟨?_, ?_⟩ ?_ <;> (try dsimp only))
    | ((first
   | refine q0 hE ?_
   | (refine idxL (R := Dut.cs) hE (by assumption) (by first | omega | (simp only [List.length_set, mix_len]; omega)) ?_; rintro ⟨⟩ _)
   | (refine callI hE (toDuty_ _ _ _) (fun _ hy => ?_); subst hy)
   | refine updFill (R := Dut.cs) hE (by assumption) (by omega) (by assumption) (by exact Nat.le_refl _) (by rfl) (fun _ _ => ?_)
   | refine B0 hE ?_|refine B1 hE (fun _=>?_) fun _=>?_|refine B3 hE fun _ _ _=>?_|refine B2 hE fun _ _=>?_|refine B4 hE fun _ _ _ _=>?_) <;> (try conv => cbv))
  · omega
  · subst_vars; rfl
  · omega
  · refine hK _ ?_
    rw [hinv, fillRow_all (by omega)]; rfl
theorem eqDuty_ (keeper : ByteArray) (frm : Int) (til : Int) (keeper' : ByteArray) (frm' : Int) (til' : Int) : AC Tryz.prog 87 [.agg [.str keeper, .int .i64 frm, .int .i64 til], .agg [.str keeper', .int .i64 frm', .int .i64 til']] AV.bool (bP ((Dut.mk keeper frm til) = (Dut.mk keeper' frm' til'))) := by
  refine ac Tryz.func87 (by kernel_rfl) (.bool _) fun E K hE hK => ?_
  conv => cbv
  repeat' first
    | ((first
   | refine q0 hE ?_
   | refine B0 hE ?_|refine B1 hE (fun _=>?_) fun _=>?_|refine B3 hE fun _ _ _=>?_|refine B2 hE fun _ _=>?_|refine B4 hE fun _ _ _ _=>?_) <;> (try conv => cbv))
  all_goals first | (refine finB hK (bP_true.2 ?_); simp only [Dut.mk.injEq, Pnt.mk.injEq] at *; simp_all; done) | (refine finB hK (bP_false.2 ?_); simp only [Dut.mk.injEq, Pnt.mk.injEq] at *; simp_all; done)
theorem eqDutyS_ {rs rs' : List (List AV)} {t t' : Bool} {l m : List Dut} (hl : rs = l.map Dut.cs) (hm : rs' = m.map Dut.cs) : AC Tryz.prog 28 [.sl t 3 rs, .sl t' 3 rs'] AV.bool (bP (l = m)) := by
  refine ac Tryz.func28 (by kernel_rfl) (.bool _) fun E K hE hK => ?_
  conv => cbv
  refine lenL hE hl fun n hn hb => ?_
  conv => cbv
  refine lenL hE hm fun n' hn' hb' => ?_
  conv => cbv
  refine eqI hE (fun he => ?_) (fun he => ?_) <;> conv => cbv
  · refine loopC hE (ι := Int) [0, 1] [5] (fun q => (fun (i : Int) => [(5, .int .i64 i)]) q) (fun q => (fun (i : Int) => []) q) (fun q => (fun (i : Int) => (l.length - i).toNat) q) (fun q => (fun (i : Int) => 0 ≤ i ∧ Up (fun j => l[j]? = m[j]?) i) q) [] (by decide) (0) (by conv => lhs; cbv) (by conv => lhs; cbv) rfl rfl (by dsimp only; exact ⟨by omega, .zero (by omega)⟩) fun i hi Kn hN => ?_
    (try dsimp only at hi)
    conv => cbv
    obtain ⟨h0, hinv⟩ := hi
    repeat' first
      | (refine hN _ _ [] (by decide) rfl ⟨?_, ?_⟩ ?_ <;> (try dsimp only))
      | ((first
     | refine q0 hE ?_
     | refine callP hE (eqDuty_ _ _ _ _ _ _) (fun _ => ?_) (fun _ => ?_)
     | (refine idxL (R := Dut.cs) hE (by assumption) (by first | omega | (simp only [List.length_set, mix_len]; omega)) ?_; rintro ⟨⟩ _)
     | refine B0 hE ?_|refine B1 hE (fun _=>?_) fun _=>?_|refine B3 hE fun _ _ _=>?_|refine B2 hE fun _ _=>?_|refine B4 hE fun _ _ _ _=>?_) <;> (try conv => cbv))
    · omega
    · refine hinv.succ ?_ (by assumption); clear hN; simp_all
    · omega
    · refine finB hK (bP_false.2 fun h => ?_); clear hN; simp_all
    · exact finB hK (bP_true.2 (list_eq_of (by omega) hinv (by omega)))
  · refine finB hK (bP_false.2 fun h => ?_); subst h; omega
theorem indexDuty1_ {rs : List (List AV)} {t : Bool} {l : List Dut} {g : FuncId} {c0 : List AV} {p : Dut → Prop} (hl : rs = l.map Dut.cs) (hp : ∀ keeper frm til, AC Tryz.prog g (.agg [.str keeper, .int .i64 frm, .int .i64 til] :: [.pp c0]) AV.bool (bP (p ⟨keeper, frm, til⟩))) : AC Tryz.prog 192 [.sl t 3 rs, .fn g [.pp c0]] (AV.int .i64) (firstI p l) := by
  refine ac Tryz.func192 (by kernel_rfl) (.int _ _) fun E K hE hK => ?_
  conv => cbv
  refine lenL hE hl fun n hn hb => ?_
  conv => cbv
  refine loopC hE (ι := Int) [0, 1, 7] [8] (fun q => (fun (i : Int) => [(8, .int .i64 i)]) q) (fun q => (fun (i : Int) => []) q) (fun q => (fun (i : Int) => (l.length - i).toNat) q) (fun q => (fun (i : Int) => 0 ≤ i ∧ Up (fun j => ∀ v, l[j]? = some v → ¬ p v) i) q) [] (by decide) (0) (by conv => lhs; cbv) (by conv => lhs; cbv) rfl rfl (by dsimp only; exact ⟨by omega, .zero (by omega)⟩) fun i hi Kn hN => ?_
  (try dsimp only at hi)
  conv => cbv
  obtain ⟨h0, hinv⟩ := hi
  repeat' first
    | (refine hN _ _ [] (by decide) rfl ⟨?_, ?_⟩ ?_ <;> (try dsimp only))
    | ((first
   | refine q0 hE ?_
   | refine callP hE (hp _ _ _) (fun _ => ?_) (fun _ => ?_)
   | (refine idxL (R := Dut.cs) hE (by assumption) (by first | omega | (simp only [List.length_set, mix_len]; omega)) ?_; rintro ⟨⟩ _)
   | refine B0 hE ?_|refine B1 hE (fun _=>?_) fun _=>?_|refine B3 hE fun _ _ _=>?_|refine B2 hE fun _ _=>?_|refine B4 hE fun _ _ _ _=>?_) <;> (try conv => cbv))
  · refine hK _ ?_
    rw [firstI_in h0 (by assumption) (by assumption) hinv]; rfl
  · omega
  · refine hinv.succ ?_ (by assumption)
    clear hN; simp_all
  · omega
  · refine hK _ ?_
    rw [firstI_out (by omega) hinv]; rfl
theorem containsDuty1_ {rs : List (List AV)} {t : Bool} {l : List Dut} {g : FuncId} {c0 : List AV} {p : Dut → Prop} (hl : rs = l.map Dut.cs) (hp : ∀ keeper frm til, AC Tryz.prog g (.agg [.str keeper, .int .i64 frm, .int .i64 til] :: [.pp c0]) AV.bool (bP (p ⟨keeper, frm, til⟩))) : AC Tryz.prog 142 [.sl t 3 rs, .fn g [.pp c0]] AV.bool (bP (∃ v ∈ l, p v)) := by
  refine ac Tryz.func142 (by kernel_rfl) (.bool _) fun E K hE hK => ?_
  conv => cbv
  refine callI hE (indexDuty1_ hl hp) fun y hy => ?_
  conv => cbv
  refine leI hE (fun h => ?_) (fun h => ?_) <;> conv => cbv
  · exact finB hK (bP_true.2 (firstI_ge.1 (by omega)))
  · exact finB hK (bP_false.2 fun h' => by have := firstI_ge.2 h'; omega)
end Go.Proofs.YtffkcjcaeppboacGreatDoor
