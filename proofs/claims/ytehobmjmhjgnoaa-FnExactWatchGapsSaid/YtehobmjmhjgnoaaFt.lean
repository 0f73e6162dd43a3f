/- Contracts: duties. -/
import Derived.Test.YtehobmjmhjgnoaaFnm
namespace Go.Proofs.Ytehobmjmhjgnoaa
open Go Go.RowKit Classical
set_option maxRecDepth 100000
set_option maxHeartbeats 2000000
set_option linter.unusedVariables false
set_option linter.unusedSimpArgs false
structure Dut where
  keeper : ByteArray
  frm : Int
  til : Int
def Dut.cs (v : Dut) : List AV := [.str v.keeper, .int .i64 v.frm, .int .i64 v.til]
theorem NoB.oDut (v : Dut) : NoB (.agg v.cs) := (.aggC (.str _) (.aggC (.int _ _) (.aggC (.int _ _) .agg0)))
theorem Dut.nown (l : List Dut) : ∀ e ∈ l.map Dut.cs, ∀ c ∈ e, c.isOwn = false := fun e he c hc => by
  obtain ⟨v, _, rfl⟩ := List.mem_map.1 he
  simp only [Dut.cs, List.mem_cons, List.not_mem_nil, or_false] at hc
  rcases hc with rfl | rfl | rfl <;> rfl
def Dut.sz (v : Dut) : Nat := v.keeper.size
theorem szDuty_ (keeper : ByteArray) (frm : Int) (til : Int) (n : Int) (hn : 0 ≤ n ∧ n ≤ 1048576) : AP 13 [.agg [.str keeper, .int .i64 frm, .int .i64 til], .int .i64 n] (AV.int .i64) (szN n (Dut.sz ⟨keeper, frm, til⟩)) := by
  refine a0 Try.func13 fun E K hE hK => ?_
  repeat' first
    | ((first

   | refine B0 ?_|refine B1 ?_ ?_) <;> intros <;> (try conv => cbv))
  all_goals (refine hK _ ?_; show AV.int _ _ = AV.int _ _; congr 1; unfold szN Dut.sz; simp only at *; split <;> omega)
theorem szDutyS_ {rs : List (List AV)} {t : Bool} {l : List Dut} (n : Int) (hl : rs = l.map Dut.cs) (hn : 0 ≤ n ∧ n ≤ 1048576) : AP 4 [.sl t 3 rs, .int .i64 n] (AV.int .i64) (szN n (l.length + (l.map Dut.sz).sum)) := by
  refine a0 Try.func4 fun E K hE hK => ?_
  repeat' first
    | ((first

   | refine B0 ?_|refine B1 ?_ ?_) <;> intros <;> (try conv => cbv))
  · refine hK _ ?_
    rw [szN, if_pos (by omega)]; rfl
  · refine loop2 [0] [5, 1] (fun (i m : Int) => ([(5, .int .i64 i), (1, .int .i64 m)], [], l.length - i, (0 ≤ i ∧ i ≤ l.length) ∧ (0 ≤ m ∧ m ≤ 1048576) ∧ m + sumTo Dut.sz l i + l.length = n)) [] ((0, _)) (hV := rfl) (hO := rfl) (by dsimp only; exact ⟨by omega, by omega, by rw [sumTo_zero (by omega)]; omega⟩) fun i m hi Kn hN => ?_
    obtain ⟨⟨h0, h1⟩, h2, h3⟩ := hi
    have hle := sumTo_le Dut.sz l
    repeat' first
      | (refine hN _ _ [] rfl ⟨?_, ?_, ?_⟩)
      | ((first
     | (refine idxL hl (by omega) (fun v hv => ?_); have hs := sumTo_succ Dut.sz h0 hv; have hs2 := hle (i + 1); obtain ⟨keeper, frm, til⟩ := v)
     | (refine callI (szDuty_ _ _ _ _ (by omega)) (fun y hy => ?_); have hz := szN_or m (Dut.sz ⟨keeper, frm, til⟩); rw [← hy] at hz; clear hy)
     | refine B0 ?_|refine B1 ?_ ?_) <;> intros <;> (try conv => cbv))
    all_goals first
      | omega
      | (refine hK _ ?_; rw [szN_lt (by omega)]; rfl)
      | (rename_i hn2; rw [hn2, hs]; omega)
      | (refine hK _ ?_; have := sumTo_all Dut.sz l (i := i) (by omega); rw [szN_ge (by omega)]; show AV.int _ _ = AV.int _ _; congr 1; omega)
      | trace_state
theorem toDuty_ (keeper : ByteArray) (frm : Int) (til : Int) : AP 18 [.agg [.str keeper, .int .i64 frm, .int .i64 til]] (fun v : Dut => .agg v.cs) ⟨keeper, frm, til⟩ := by
  refine ac Try.func18 (.oDut _) fun E K hE hK => ?_
  exact hK _ rfl
theorem toDutyS_ {rs : List (List AV)} {t : Bool} {l : List Dut} (hl : rs = l.map Dut.cs) (hb0 : l.length ≤ 1048576) : AP 6 [.sl t 3 rs] (fun l : List Dut => .sl true 3 (l.map Dut.cs)) l := by
  refine ac Try.func6 (.rows .oDut) fun E K hE hK => ?_
  refine lenL hl fun n hn hb => ?_
  conv => cbv
  refine makeL (l := l) Dut.cs hn rfl (by omega) fun es hes => ?_
  conv => cbv
  refine loop2 [0] [4, 3] (fun (i : Int) (es' : List (List AV)) => ([(4, .int .i64 i), (3, .ob 0)], [.row 3 es'], l.length - i, 0 ≤ i ∧ es' = fillRow Dut.cs [.str ⟨#[]⟩, .int .i64 0, .int .i64 0] l i)) [0] ((0, es)) (by dsimp only; exact ⟨by omega, hes⟩) fun i es' hi Kn hN => ?_
  obtain ⟨h0, hinv⟩ := hi
  repeat' first
    | (refine hN _ _ [0] rfl ⟨?_, ?_⟩)
    | ((first
   | refine q0 ?_
   | (refine idxL (R := Dut.cs) (by assumption) (by first | omega | (simp only [List.length_set, mix_len]; omega)) ?_; rintro ⟨⟩ _)
   | (refine callI (toDuty_ _ _ _) (fun _ hy => ?_); subst hy)
   | refine updFill (R := Dut.cs) (by assumption) (by omega) (by assumption) (by exact Nat.le_refl _) (by rfl) (fun _ _ => ?_)
   | refine B0 ?_|refine B1 ?_ ?_) <;> intros <;> (try conv => cbv))
  · omega
  · subst_vars; rfl
  · refine hK _ ?_
    rw [hinv, fillRow_all (by omega)]; rfl
theorem eqDuty_ (keeper : ByteArray) (frm : Int) (til : Int) (keeper' : ByteArray) (frm' : Int) (til' : Int) : AP 25 [.agg [.str keeper, .int .i64 frm, .int .i64 til], .agg [.str keeper', .int .i64 frm', .int .i64 til']] AV.bool (bP ((Dut.mk keeper frm til) = (Dut.mk keeper' frm' til'))) := by
  refine a0 Try.func25 fun E K hE hK => ?_
  repeat' first
    | ((first

   | refine B0 ?_|refine B1 ?_ ?_) <;> intros <;> (try conv => cbv))
  all_goals first | (refine finB hK (bP_true.2 ?_); simp only [Dut.mk.injEq, Pnt.mk.injEq] at *; simp_all; done) | (refine finB hK (bP_false.2 ?_); simp only [Dut.mk.injEq, Pnt.mk.injEq] at *; simp_all; done)
theorem eqDutyS_ {rs rs' : List (List AV)} {t t' : Bool} {l m : List Dut} (hl : rs = l.map Dut.cs) (hm : rs' = m.map Dut.cs) : AP 9 [.sl t 3 rs, .sl t' 3 rs'] AV.bool (bP (l = m)) := by
  refine a0 Try.func9 fun E K hE hK => ?_
  refine lenL hl fun n hn hb => ?_
  conv => cbv
  refine lenL hm fun n' hn' hb' => ?_
  conv => cbv
  refine eqI (fun he => ?_) (fun he => ?_) <;> conv => cbv
  · refine loop1 [0, 1] [5] (fun (i : Int) => ([(5, .int .i64 i)], [], l.length - i, 0 ≤ i ∧ Up (fun j => l[j]? = m[j]?) i)) [] (0) (by dsimp only; exact ⟨by omega, .zero (by omega)⟩) fun i hi Kn hN => ?_
    obtain ⟨h0, hinv⟩ := hi
    repeat' first
      | (refine hN _ [] rfl ⟨?_, ?_⟩)
      | ((first
     | refine q0 ?_
     | refine callP (eqDuty_ _ _ _ _ _ _) (fun _ => ?_) (fun _ => ?_)
     | (refine idxL (R := Dut.cs) (by assumption) (by first | omega | (simp only [List.length_set, mix_len]; omega)) ?_; rintro ⟨⟩ _)
     | refine B0 ?_|refine B1 ?_ ?_) <;> intros <;> (try conv => cbv))
    · omega
    · refine hinv.succ ?_ (by assumption); clear hN; simp_all
    · refine finB hK (bP_false.2 fun h => ?_); clear hN; simp_all
    · exact finB hK (bP_true.2 (list_eq_of (by omega) hinv (by omega)))
  · refine finB hK (bP_false.2 fun h => ?_); subst h; omega
def Dut.mk' (k : Int) : Dut := ⟨mText (k + 0), k + 1, k + 2⟩
def Dut.mks (n : Nat) (k : Int) : List Dut := (List.range n).map fun i : Nat => Dut.mk' (k + 3 * (i : Int))
theorem Dut.mks_len (n : Nat) (k : Int) : (Dut.mks n k).length = n := by simp [Dut.mks]
theorem Dut.mks_get {n : Nat} {k i : Int} {v : Dut} (h0 : 0 ≤ i) (h : (Dut.mks n k)[i.toNat]? = some v) : v = Dut.mk' (k + 3 * i) := by
  unfold Dut.mks at h
  rw [List.getElem?_map] at h
  by_cases hi : i.toNat < n
  · rw [List.getElem?_range hi] at h
    simp only [Option.map_some, Option.some.injEq] at h
    rw [← h, Int.toNat_of_nonneg h0]
  · rw [List.getElem?_eq_none (by simpa using Nat.le_of_not_lt hi)] at h; cases h
theorem markDutyS_ {rs : List (List AV)} {l : List Dut} (k : Int) (hl : rs = l.map Dut.cs) (hk0 : 0 ≤ k ∧ k ≤ 1000000000000000) (hb : l.length ≤ 100000000000) : ACM Try.prog 10 [.sl true 3 rs, .int .i64 k] (fun r ys => ∃ (n : Int) (rs' : List (List AV)), n = k + 3 * l.length ∧ rs' = (Dut.mks l.length k).map Dut.cs ∧ r = .int .i64 n ∧ ys = [.sl true 3 rs', .any]) := by
  refine acm 1 Try.func10 (fun r ys ⟨n, rs', _, h3, h1, h2⟩ => ⟨by rw [h1]; exact .int _ _, by rw [h2, h3]; simp; exact ⟨.rows .oDut, .any⟩⟩) fun E K hE hK => ?_
  refine loop3 [] [5, 1, 0] (fun (i k' : Int) (es : List (List AV)) => ([(5, .int .i64 i), (1, .int .i64 k'), (0, .ob 0)], [.row 3 es], l.length - i, (0 ≤ i ∧ i ≤ l.length) ∧ k' = k + 3 * i ∧ es = (mix (fun i : Nat => Dut.mk' (k + 3 * (i : Int))) l i).map Dut.cs)) [0] ((0, k, rs)) (by dsimp only; exact ⟨by omega, by omega, by rw [mix_zero (by omega)]; exact hl⟩) fun i k' es hi Kn hN => ?_
  obtain ⟨⟨h0, h1⟩, h2, h3⟩ := hi
  have hlen := mix_len (fun i : Nat => Dut.mk' (k + 3 * (i : Int))) l i
  obtain ⟨L, hL⟩ : ∃ L, L = mix (fun i : Nat => Dut.mk' (k + 3 * (i : Int))) l i := ⟨_, rfl⟩
  rw [← hL] at h3 hlen
  repeat' first
    | (refine hN _ _ _ [0] rfl ⟨?_, ?_, ?_⟩)
    | ((first
   | refine idxS (by assumption) (by omega) ?_
   | refine q0 ?_
   | (refine idxL (R := Dut.cs) (by assumption) (by first | omega | (simp only [List.length_set, mix_len]; omega)) ?_; rintro ⟨⟩ _)
   | refine callI (markText_ _ (by omega)) (fun _ _ => ?_)
   | refine updS (v' := (⟨_, _, _⟩ : Dut)) (by assumption) (by omega) (by exact Nat.le_of_ble_eq_true rfl) (by first | rfl | ((conv => lhs; cbv); rfl)) (fun _ _ => ?_)
   | refine updL (v' := (⟨_, _, _⟩ : Dut)) (by assumption) (by omega) (by assumption) (by exact Nat.le_of_ble_eq_true rfl) (by first | rfl | ((conv => lhs; cbv); rfl)) (fun _ _ => ?_)
   | refine B0 ?_|refine B1 ?_ ?_) <;> intros <;> (try conv => cbv))
  · omega
  · omega
  · clear hN hK
    rename_i hes _ hfin _ hi1
    rw [hes, hL, mix_set h0 (by omega) (v := _) ?_ hi1]
    clear hL h3 hlen
    subst_vars
    rw [Int.toNat_of_nonneg h0]
    simp only [Dut.mk', Dut.mk.injEq, Int.add_zero]
    all_goals (refine ⟨?_, ?_, ?_⟩ <;> first | trivial | omega | rfl | (congr 1; omega))
  · have hi : i = l.length := by omega
    refine hK _ _ ⟨k', es, ?_, ?_, rfl, rfl⟩
    · rw [h2, hi]
    · rw [h3, hL, mix_all (by omega)]; rfl
theorem indexDuty1_ {rs : List (List AV)} {t : Bool} {l : List Dut} {g : FuncId} {c0 : List AV} {p : Dut → Prop} (hl : rs = l.map Dut.cs) (hp : ∀ keeper frm til, AC Try.prog g (.agg [.str keeper, .int .i64 frm, .int .i64 til] :: [.pp c0]) AV.bool (bP (p ⟨keeper, frm, til⟩))) : AP 82 [.sl t 3 rs, .fn g [.pp c0]] (AV.int .i64) (firstI p l) := by
  refine a0 Try.func82 fun E K hE hK => ?_
  refine lenL hl fun n hn hb => ?_
  conv => cbv
  refine loop1 [0, 1, 7] [8] (fun (i : Int) => ([(8, .int .i64 i)], [], l.length - i, 0 ≤ i ∧ Up (fun j => ∀ v, l[j]? = some v → ¬ p v) i)) [] (0) (by dsimp only; exact ⟨by omega, .zero (by omega)⟩) fun i hi Kn hN => ?_
  obtain ⟨h0, hinv⟩ := hi
  repeat' first
    | (refine hN _ [] rfl ⟨?_, ?_⟩)
    | ((first
   | refine q0 ?_
   | refine callP (hp _ _ _) (fun _ => ?_) (fun _ => ?_)
   | (refine idxL (R := Dut.cs) (by assumption) (by first | omega | (simp only [List.length_set, mix_len]; omega)) ?_; rintro ⟨⟩ _)
   | refine B0 ?_|refine B1 ?_ ?_) <;> intros <;> (try conv => cbv))
  · refine hK _ ?_
    rw [firstI_in h0 (by assumption) (by assumption) hinv]; rfl
  · omega
  · refine hinv.succ ?_ (by assumption)
    clear hN; simp_all
  · refine hK _ ?_
    rw [firstI_out (by omega) hinv]; rfl
theorem containsDuty1_ {rs : List (List AV)} {t : Bool} {l : List Dut} {g : FuncId} {c0 : List AV} {p : Dut → Prop} (hl : rs = l.map Dut.cs) (hp : ∀ keeper frm til, AC Try.prog g (.agg [.str keeper, .int .i64 frm, .int .i64 til] :: [.pp c0]) AV.bool (bP (p ⟨keeper, frm, til⟩))) : AP 60 [.sl t 3 rs, .fn g [.pp c0]] AV.bool (bP (∃ v ∈ l, p v)) := by
  refine a0 Try.func60 fun E K hE hK => ?_
  refine callI (indexDuty1_ hl hp) fun y hy => ?_
  conv => cbv
  refine leI (fun h => ?_) (fun h => ?_) <;> conv => cbv
  · exact finB hK (bP_true.2 (firstI_ge.1 (by omega)))
  · exact finB hK (bP_false.2 fun h' => by have := firstI_ge.2 h'; omega)
theorem indexDuty2_ {rs : List (List AV)} {t : Bool} {l : List Dut} {g : FuncId} {c0 : List AV} {c1 : List AV} {p : Dut → Prop} (hl : rs = l.map Dut.cs) (hp : ∀ keeper frm til, AC Try.prog g (.agg [.str keeper, .int .i64 frm, .int .i64 til] :: [.pp c0, .pp c1]) AV.bool (bP (p ⟨keeper, frm, til⟩))) : AP 82 [.sl t 3 rs, .fn g [.pp c0, .pp c1]] (AV.int .i64) (firstI p l) := by
  refine a0 Try.func82 fun E K hE hK => ?_
  refine lenL hl fun n hn hb => ?_
  conv => cbv
  refine loop1 [0, 1, 7] [8] (fun (i : Int) => ([(8, .int .i64 i)], [], l.length - i, 0 ≤ i ∧ Up (fun j => ∀ v, l[j]? = some v → ¬ p v) i)) [] (0) (by dsimp only; exact ⟨by omega, .zero (by omega)⟩) fun i hi Kn hN => ?_
  obtain ⟨h0, hinv⟩ := hi
  repeat' first
    | (refine hN _ [] rfl ⟨?_, ?_⟩)
    | ((first
   | refine q0 ?_
   | refine callP (hp _ _ _) (fun _ => ?_) (fun _ => ?_)
   | (refine idxL (R := Dut.cs) (by assumption) (by first | omega | (simp only [List.length_set, mix_len]; omega)) ?_; rintro ⟨⟩ _)
   | refine B0 ?_|refine B1 ?_ ?_) <;> intros <;> (try conv => cbv))
  · refine hK _ ?_
    rw [firstI_in h0 (by assumption) (by assumption) hinv]; rfl
  · omega
  · refine hinv.succ ?_ (by assumption)
    clear hN; simp_all
  · refine hK _ ?_
    rw [firstI_out (by omega) hinv]; rfl
theorem containsDuty2_ {rs : List (List AV)} {t : Bool} {l : List Dut} {g : FuncId} {c0 : List AV} {c1 : List AV} {p : Dut → Prop} (hl : rs = l.map Dut.cs) (hp : ∀ keeper frm til, AC Try.prog g (.agg [.str keeper, .int .i64 frm, .int .i64 til] :: [.pp c0, .pp c1]) AV.bool (bP (p ⟨keeper, frm, til⟩))) : AP 60 [.sl t 3 rs, .fn g [.pp c0, .pp c1]] AV.bool (bP (∃ v ∈ l, p v)) := by
  refine a0 Try.func60 fun E K hE hK => ?_
  refine callI (indexDuty2_ hl hp) fun y hy => ?_
  conv => cbv
  refine leI (fun h => ?_) (fun h => ?_) <;> conv => cbv
  · exact finB hK (bP_true.2 (firstI_ge.1 (by omega)))
  · exact finB hK (bP_false.2 fun h' => by have := firstI_ge.2 h'; omega)
theorem Dut.cflat (v : Dut) : ∀ c ∈ v.cs, c.flat = true := fun c hc => by
  simp only [Dut.cs, List.mem_cons, List.not_mem_nil, or_false] at hc
  rcases hc with rfl | rfl | rfl <;> rfl
end Go.Proofs.Ytehobmjmhjgnoaa
