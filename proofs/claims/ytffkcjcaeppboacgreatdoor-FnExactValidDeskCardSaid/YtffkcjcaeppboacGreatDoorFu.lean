/- Contracts: valid duties. -/
import Derived.Test.YtffkcjcaeppboacGreatDoorFt
namespace Go.Proofs.YtffkcjcaeppboacGreatDoor
open Go Go.RowKit Classical
set_option maxRecDepth 100000
set_option maxHeartbeats 2000000
set_option linter.unusedVariables false
set_option linter.unusedSimpArgs false
def Dut.ok (d : Dut) : Prop := NameOk d.keeper ∧ TimeOk d.frm ∧ TimeOk d.til ∧ d.frm + 1 ≤ d.til ∧ d.til ≤ d.frm + 720
theorem isDuty_ (keeper : ByteArray) (frm til : Int) : AC Tryz.prog 72 [.agg [.str keeper, .int .i64 frm, .int .i64 til]] AV.bool (bP (Dut.ok ⟨keeper, frm, til⟩)) := by
  refine ac Tryz.func72 (by kernel_rfl) (.bool _) fun E K hE hK => ?_
  conv => cbv
  repeat' first
    | (refine callP hE (isTime_ _) (fun ht => ?_) (fun _ => ?_) <;> (try unfold TimeOk at ht) <;> (try conv => cbv))
    | ((first
   | refine q0 hE ?_
   | refine callP hE (isName_ _) (fun _ => ?_) (fun _ => ?_)
   | refine callP hE (within_ _ _ _) (fun _ => ?_) (fun _ => ?_)
   | refine B0 hE ?_|refine B1 hE (fun _=>?_) fun _=>?_|refine B3 hE fun _ _ _=>?_|refine B2 hE fun _ _=>?_|refine B4 hE fun _ _ _ _=>?_) <;> (try conv => cbv))
  all_goals first
    | (refine finB hK (bP_true.2 ?_); simp only [Dut.ok, TimeOk]; exact ⟨by assumption, by omega, by omega, by omega, by omega⟩)
    | (refine finB hK (bP_false.2 fun h => ?_); obtain ⟨h1, h2, h3, h4, h5⟩ := h; simp only [TimeOk] at *; first | contradiction | omega)
    | trace_state
theorem l28One_ (keeper : ByteArray) (frm til : Int) : AC Tryz.prog 108 [.pp [.str keeper, .int .i64 frm, .int .i64 til]] AV.bool (bP (Dut.ok ⟨keeper, frm, til⟩)) := by
  refine ac Tryz.func108 (by kernel_rfl) (.bool _) fun E K hE hK => ?_
  conv => cbv
  repeat' first
    | (refine callP hE (l20Time_ _) (fun ht => ?_) (fun _ => ?_) <;> (try unfold TimeOk at ht) <;> (try conv => cbv))
    | ((first
   | refine q0 hE ?_
   | refine callP hE (l01Name_ _) (fun _ => ?_) (fun _ => ?_)
   | refine callP hE (in_ _ _ _) (fun _ => ?_) (fun _ => ?_)
   | refine B0 hE ?_|refine B1 hE (fun _=>?_) fun _=>?_|refine B3 hE fun _ _ _=>?_|refine B2 hE fun _ _=>?_|refine B4 hE fun _ _ _ _=>?_) <;> (try conv => cbv))
  all_goals first
    | (refine finB hK (bP_true.2 ?_); simp only [Dut.ok, TimeOk]; exact ⟨by assumption, by omega, by omega, by omega, by omega⟩)
    | (refine finB hK (bP_false.2 fun h => ?_); obtain ⟨h1, h2, h3, h4, h5⟩ := h; simp only [TimeOk] at *; first | contradiction | omega)
    | trace_state
noncomputable def Dut.cmp (a b : Dut) : Int := if cmpI a.frm b.frm ≠ 0 then cmpI a.frm b.frm else cmpS a.keeper b.keeper
def Dut.less (a b : Dut) : Prop := a.frm < b.frm ∨ a.frm = b.frm ∧ strLt a.keeper b.keeper
theorem Dut.cmp_neg (a b : Dut) : Dut.cmp a b < 0 ↔ Dut.less a b := by
  unfold Dut.cmp Dut.less cmpI
  rcases Int.lt_trichotomy a.frm b.frm with h | h | h
  · simp [h]
  · rw [h]; simp [cmpS_neg]
  · have h1 : ¬ a.frm < b.frm := by omega
    have h2 : ¬ a.frm = b.frm := by omega
    simp [h, h1, h2]
def Dut.rested (a b : Dut) : Prop := IntKind.i64.wrap (a.til + 480) ≤ b.frm ∨ IntKind.i64.wrap (b.til + 480) ≤ a.frm
def Dut.rests (a b : Dut) : Prop := a.keeper ≠ b.keeper ∨ Dut.rested a b
theorem dutCompare_ (keeper : ByteArray) (frm til : Int) (keeper' : ByteArray) (frm' til' : Int) : AC Tryz.prog 73 [.agg [.str keeper, .int .i64 frm, .int .i64 til], .agg [.str keeper', .int .i64 frm', .int .i64 til']] (AV.int .i64) (Dut.cmp ⟨keeper, frm, til⟩ ⟨keeper', frm', til'⟩) := by
  refine ac Tryz.func73 (by kernel_rfl) (.int _ _) fun E K hE hK => ?_
  conv => cbv
  repeat' first
    | ((first
   | refine q0 hE ?_
   | refine callI hE (compare_ _ _) (fun _ _ => ?_)
   | refine callI hE (compareS_ _ _) (fun _ _ => ?_)
   | refine callI hE (cmpOr_ (l := [_, _]) (by rfl)) (fun _ _ => ?_)
   | refine B0 hE ?_|refine B1 hE (fun _=>?_) fun _=>?_|refine B3 hE fun _ _ _=>?_|refine B2 hE fun _ _=>?_|refine B4 hE fun _ _ _ _=>?_) <;> (try conv => cbv))
  refine hK _ ?_
  rename_i c hc c' hc' r hr
  rw [hr]
  subst hc hc'
  simp only [orI, Dut.cmp, atup]
  congr 1
  split
  · rfl
  · split <;> simp_all
theorem l28Less_ (keeper : ByteArray) (frm til : Int) (keeper' : ByteArray) (frm' til' : Int) : AC Tryz.prog 109 [.pp [.str keeper, .int .i64 frm, .int .i64 til], .pp [.str keeper', .int .i64 frm', .int .i64 til']] AV.bool (bP (Dut.less ⟨keeper, frm, til⟩ ⟨keeper', frm', til'⟩)) := by
  refine ac Tryz.func109 (by kernel_rfl) (.bool _) fun E K hE hK => ?_
  conv => cbv
  repeat' first
    | ((first
   | refine q0 hE ?_
   | refine sltP hE (fun _ => ?_) (fun _ => ?_)
   | refine B0 hE ?_|refine B1 hE (fun _=>?_) fun _=>?_|refine B3 hE fun _ _ _=>?_|refine B2 hE fun _ _=>?_|refine B4 hE fun _ _ _ _=>?_) <;> (try conv => cbv))
  all_goals first
    | (refine finB hK (bP_true.2 (.inl ?_)); simp only; omega)
    | (refine finB hK (bP_true.2 (.inr ⟨?_, by assumption⟩)); simp only; omega)
    | (refine finB hK (bP_false.2 fun h => ?_); rcases h with h | ⟨h, h2⟩ <;> simp only at h <;> first | omega | contradiction)
    | trace_state
theorem l28Rested_ (keeper : ByteArray) (frm til : Int) (keeper' : ByteArray) (frm' til' : Int) : AC Tryz.prog 110 [.pp [.str keeper, .int .i64 frm, .int .i64 til], .pp [.str keeper', .int .i64 frm', .int .i64 til']] AV.bool (bP (Dut.rested ⟨keeper, frm, til⟩ ⟨keeper', frm', til'⟩)) := by
  refine ac Tryz.func110 (by kernel_rfl) (.bool _) fun E K hE hK => ?_
  conv => cbv
  refine addI hE (fun a ha => ?_)
  conv => cbv
  repeat' first
    | (refine addI hE (fun a ha => ?_); (try conv => cbv))
    | ((first
   | refine q0 hE ?_
   | refine B0 hE ?_|refine B1 hE (fun _=>?_) fun _=>?_|refine B3 hE fun _ _ _=>?_|refine B2 hE fun _ _=>?_|refine B4 hE fun _ _ _ _=>?_) <;> (try conv => cbv))
  all_goals first
    | (refine finB hK (bP_true.2 (.inl ?_)); simp only; omega)
    | (refine finB hK (bP_true.2 (.inr ?_)); simp only; omega)
    | (refine finB hK (bP_false.2 fun h => ?_); rcases h with h | h <;> simp only at h <;> omega)
    | trace_state
theorem dutRests_ (keeper : ByteArray) (frm til : Int) (keeper' : ByteArray) (frm' til' : Int) : AC Tryz.prog 144 [.agg [.str keeper, .int .i64 frm, .int .i64 til], .agg [.str keeper', .int .i64 frm', .int .i64 til']] AV.bool (bP (Dut.rests ⟨keeper, frm, til⟩ ⟨keeper', frm', til'⟩)) := by
  refine ac Tryz.func144 (by kernel_rfl) (.bool _) fun E K hE hK => ?_
  conv => cbv
  repeat' first
    | (refine addI hE (fun a ha => ?_); (try conv => cbv))
    | ((first
   | refine q0 hE ?_
   | refine B0 hE ?_|refine B1 hE (fun _=>?_) fun _=>?_|refine B3 hE fun _ _ _=>?_|refine B2 hE fun _ _=>?_|refine B4 hE fun _ _ _ _=>?_) <;> (try conv => cbv))
  all_goals first
    | (refine finB hK (bP_true.2 (.inl ?_)); simpa using by assumption)
    | (refine finB hK (bP_true.2 (.inr (.inl ?_))); simp only; omega)
    | (refine finB hK (bP_true.2 (.inr (.inr ?_))); simp only; omega)
    | (refine finB hK (bP_false.2 fun h => ?_); rcases h with h | h | h <;> simp only at h <;> first | omega | contradiction)
    | trace_state
theorem dutFits1_ (keeper : ByteArray) (frm til : Int) (keeper' : ByteArray) (frm' til' : Int) : AC Tryz.prog 143 [.agg [.str keeper, .int .i64 frm, .int .i64 til], .pp [.str keeper', .int .i64 frm', .int .i64 til']] AV.bool (bP (¬ Dut.rests ⟨keeper', frm', til'⟩ ⟨keeper, frm, til⟩)) := by
  refine ac Tryz.func143 (by kernel_rfl) (.bool _) fun E K hE hK => ?_
  conv => cbv
  repeat' first
    | ((first
   | refine q0 hE ?_
   | refine callP hE (dutRests_ _ _ _ _ _ _) (fun _ => ?_) (fun _ => ?_)
   | refine B0 hE ?_|refine B1 hE (fun _=>?_) fun _=>?_|refine B3 hE fun _ _ _=>?_|refine B2 hE fun _ _=>?_|refine B4 hE fun _ _ _ _=>?_) <;> (try conv => cbv))
  all_goals first
    | (exact finB hK (bP_true.2 (by assumption)))
    | (exact finB hK (bP_false.2 (fun h => h (by assumption))))
theorem dutFits_ {rs : List (List AV)} {t : Bool} {l : List Dut} (keeper : ByteArray) (frm til : Int) (hl : rs = l.map Dut.cs) : AC Tryz.prog 74 [.agg [.str keeper, .int .i64 frm, .int .i64 til], .sl t 3 rs] AV.bool (bP (∀ w ∈ l, Dut.rests ⟨keeper, frm, til⟩ w)) := by
  refine ac Tryz.func74 (by kernel_rfl) (.bool _) fun E K hE hK => ?_
  conv => cbv
  repeat' first
    | ((first
   | refine q0 hE ?_
   | refine callP hE (containsDuty1_ (p := fun w => ¬ Dut.rests ⟨keeper, frm, til⟩ w) hl (fun a b c => dutFits1_ a b c keeper frm til)) (fun _ => ?_) (fun _ => ?_)
   | refine B0 hE ?_|refine B1 hE (fun _=>?_) fun _=>?_|refine B3 hE fun _ _ _=>?_|refine B2 hE fun _ _=>?_|refine B4 hE fun _ _ _ _=>?_) <;> (try conv => cbv))
  all_goals first
    | (refine finB hK (bP_false.2 fun h => ?_); obtain ⟨v, hv, hp⟩ : ∃ v ∈ l, ¬ Dut.rests ⟨keeper, frm, til⟩ v := (by assumption); exact hp (h v hv))
    | (refine finB hK (bP_true.2 fun w hw => ?_); rename_i h; exact Classical.byContradiction fun hp => h ⟨w, hw, hp⟩)
    | trace_state
def Dut.C (l : List Dut) (j : Nat) : Prop := ∃ v, l[j]? = some v ∧ v.ok ∧ (0 < j → ∃ w, l[j - 1]? = some w ∧ w.less v) ∧ ∀ w ∈ l.take j, v.rests w
def DutiesOk (l : List Dut) : Prop := (∀ j, j < l.length → Dut.C l j) ∧ l.length ≤ 60
theorem dutC_mk {l : List Dut} {i : Int} {v : Dut} (h0 : 0 ≤ i) (hv : l[i.toNat]? = some v) (hok : v.ok) (hp : i ≤ 0 ∨ ∃ (n : Int) (w : Dut), n = i - 1 ∧ l[n.toNat]? = some w ∧ w.less v)
    (hr : ∀ w ∈ (l.take i.toNat), v.rests w) : Dut.C l i.toNat := by
  refine ⟨v, hv, hok, fun h => ?_, hr⟩
  rcases hp with hp | ⟨n, w, rfl, hw, hl⟩
  · omega
  · exact ⟨w, by rw [show i.toNat - 1 = (i - 1).toNat by omega]; exact hw, hl⟩
theorem dutC_ok {l : List Dut} {i : Int} {v : Dut} (h0 : 0 ≤ i) (h : Dut.C l i.toNat) (hv : l[i.toNat]? = some v) : v.ok ∧ (∀ (n : Int) w, n = i - 1 → 0 < i → l[n.toNat]? = some w → w.less v) ∧ ∀ w ∈ (l.take i.toNat), v.rests w := by
  obtain ⟨v', h1, h2, h3, h4⟩ := h
  rw [hv] at h1; cases h1
  refine ⟨h2, fun n w hn hi hw => ?_, h4⟩
  obtain ⟨w', hw', hl⟩ := h3 (by omega)
  rw [show i.toNat - 1 = n.toNat by omega, hw] at hw'; cases hw'
  exact hl
theorem validDuties_ {rs : List (List AV)} {t : Bool} {l : List Dut} (hl : rs = l.map Dut.cs) : AC Tryz.prog 23 [.sl t 3 rs] AV.bool (bP (DutiesOk l)) := by
  refine ac Tryz.func23 (by kernel_rfl) (.bool _) fun E K hE hK => ?_
  conv => cbv
  refine lenL hE hl fun n hn hb => ?_
  conv => cbv
  refine loopC hE (ι := Int) [0, 5, 6] [7] (fun q => (fun (i : Int) => [(7, .int .i64 i)]) q) (fun q => (fun (i : Int) => []) q) (fun q => (fun (i : Int) => (l.length - i).toNat) q) (fun q => (fun (i : Int) => 0 ≤ i ∧ Up (Dut.C l) i) q) [] (by decide) (0) (by conv => lhs; cbv) (by conv => lhs; cbv) rfl rfl (by dsimp only; exact ⟨by omega, .zero (by omega)⟩) fun i hi Kn hN => ?_
  (try dsimp only at hi)
  conv => cbv
  obtain ⟨h0, hinv⟩ := hi
  repeat' first
    | (refine hN _ _ [] (by decide) rfl ⟨?_, ?_⟩ ?_ <;> (try dsimp only))
    | ((first
   | refine q0 hE ?_
   | refine callP hE (isDuty_ _ _ _) (fun _ => ?_) (fun _ => ?_)
   | refine callP hE (few_ _ _) (fun _ => ?_) (fun _ => ?_)
   | (refine idxL (R := Dut.cs) hE (by assumption) (by first | omega | (simp only [List.length_set, mix_len]; omega)) ?_; rintro ⟨⟩ _)
   | refine callI hE (dutCompare_ _ _ _ _ _ _) (fun _ _ => ?_)
   | refine subL hE hl (by simp only [Option.getD_some, Option.getD_none]; omega) (fun _ _ => ?_)
   | refine callP hE (dutFits_ _ _ _ (by assumption)) (fun _ => ?_) (fun _ => ?_)
   | refine B0 hE ?_|refine B1 hE (fun _=>?_) fun _=>?_|refine B3 hE fun _ _ _=>?_|refine B2 hE fun _ _=>?_|refine B4 hE fun _ _ _ _=>?_) <;> (try conv => cbv))
  all_goals (try clear hN)
  all_goals first
    | omega
    | exact hinv.succ (dutC_mk h0 (by assumption) (by assumption) (.inr ⟨_, _, by assumption, by assumption, (Dut.cmp_neg _ _).1 (by omega)⟩) (by assumption)) (by assumption)
    | exact hinv.succ (dutC_mk h0 (by assumption) (by assumption) (.inl (by omega)) (by assumption)) (by assumption)
    | (refine finB hK (bP_false.2 fun h => ?_); have k := dutC_ok h0 (h.1 i.toNat (by omega)) (by assumption); first | exact absurd k.1 (by assumption) | (have := (Dut.cmp_neg _ _).2 (k.2.1 _ _ (by assumption) (by omega) (by assumption)); omega) | exact absurd k.2.2 (by assumption))
    | exact finB hK (bP_true.2 ⟨hinv.all (by omega), by omega⟩)
    | (refine finB hK (bP_false.2 fun h => ?_); have := h.2; omega)
    | trace_state
theorem rests_symm {v w : Dut} (h : v.rests w) : w.rests v := by
  rcases h with h | h | h
  · exact .inl (Ne.symm h)
  · exact .inr (.inr h)
  · exact .inr (.inl h)
theorem rests_all {l : List Dut} {i k : Int} {v : Dut} (h0 : 0 ≤ i) (hk : i ≤ k) (hv : l[i.toNat]? = some v) (h : Up (fun j => ∀ v w, l[i.toNat]? = some v → l[j]? = some w → Dut.rests v w) k) : ∀ w ∈ l.take i.toNat, v.rests w := fun w hw => by
  obtain ⟨j, hj⟩ := List.getElem?_of_mem hw
  have hlt := (List.getElem?_eq_some_iff.1 hj).1
  rw [List.length_take] at hlt
  rw [List.getElem?_take, if_pos (by omega)] at hj
  exact h j (by omega) v w hv hj
theorem rests_step {l : List Dut} {i k n : Int} {v w : Dut} (h : Up (fun j => ∀ v w, l[i.toNat]? = some v → l[j]? = some w → Dut.rests v w) k) (hv : l[i.toNat]? = some v) (hw : l[k.toNat]? = some w) (hr : v.rests w) (hn : n = k + 1) : Up (fun j => ∀ v w, l[i.toNat]? = some v → l[j]? = some w → Dut.rests v w) n :=
  h.succ (fun v' w' hv' hw' => by rw [hv] at hv'; cases hv'; rw [hw] at hw'; cases hw'; exact hr) hn
theorem rests_bad {l : List Dut} {i k : Int} {v w : Dut} (hw : l[k.toNat]? = some w) (he : w.keeper = v.keeper) (hr : ¬ w.rested v) (hk : 0 ≤ k ∧ k < i) : ¬ ∀ w ∈ l.take i.toNat, v.rests w := fun h => by
  have : w ∈ l.take i.toNat := List.mem_of_getElem? (i := k.toNat) (by rw [List.getElem?_take, if_pos (by omega)]; exact hw)
  rcases h w this with h1 | h1 | h1
  · exact h1 he.symm
  · exact hr (.inr h1)
  · exact hr (.inl h1)
theorem l28Ok_ {rs : List (List AV)} {t : Bool} {l : List Dut} (hl : rs = l.map Dut.cs) : AC Tryz.prog 43 [.sl t 3 rs] AV.bool (bP (DutiesOk l)) := by
  refine ac Tryz.func43 (by kernel_rfl) (.bool _) fun E K hE hK => ?_
  conv => cbv
  refine loopC hE (ι := Int) [0] [3] (fun q => (fun (i : Int) => [(3, .int .i64 i)]) q) (fun q => (fun (i : Int) => []) q) (fun q => (fun (i : Int) => (l.length - i).toNat) q) (fun q => (fun (i : Int) => 0 ≤ i ∧ Up (Dut.C l) i) q) [] (by decide) (0) (by conv => lhs; cbv) (by conv => lhs; cbv) rfl rfl (by dsimp only; exact ⟨by omega, .zero (by omega)⟩) fun i hi Kn hN => ?_
  (try dsimp only at hi)
  conv => cbv
  obtain ⟨h0, hinv⟩ := hi
  repeat' first
    | ((refine loopC hE (ι := Int) [0, 3] [4] (fun q => (fun (k : Int) => [(4, .int .i64 k)]) q) (fun q => (fun (k : Int) => []) q) (fun q => (fun (k : Int) => (i - k).toNat) q) (fun q => (fun (k : Int) => (0 ≤ k ∧ k ≤ i) ∧ Up (fun j => ∀ v w, l[i.toNat]? = some v → l[j]? = some w → Dut.rests v w) k) q) [] (by decide) (0) (by conv => lhs; cbv) (by conv => lhs; cbv) rfl rfl (by dsimp only; exact ⟨by omega, .zero (by omega)⟩) fun k hi2 Kn2 hN2 => ?_; (try dsimp only at hi2); conv => cbv); obtain ⟨⟨k0, k1⟩, kinv⟩ := hi2)
    | (refine hN2 _ _ [] (by decide) rfl ⟨?_, ?_⟩ ?_ <;> (try dsimp only))
    | (refine hN _ _ [] (by decide) rfl ⟨?_, ?_⟩ ?_ <;> (try dsimp only))
    | ((first
   | refine q0 hE ?_
   | refine callP hE (l28One_ _ _ _) (fun _ => ?_) (fun _ => ?_)
   | (refine idxL (R := Dut.cs) hE (by assumption) (by first | omega | (simp only [List.length_set, mix_len]; omega)) ?_; rintro ⟨⟩ _)
   | refine callP hE (l28Less_ _ _ _ _ _ _) (fun _ => ?_) (fun _ => ?_)
   | refine callP hE (l28Rested_ _ _ _ _ _ _) (fun _ => ?_) (fun _ => ?_)
   | refine B0 hE ?_|refine B1 hE (fun _=>?_) fun _=>?_|refine B3 hE fun _ _ _=>?_|refine B2 hE fun _ _=>?_|refine B4 hE fun _ _ _ _=>?_) <;> (try conv => cbv))
  all_goals (try clear hN)
  all_goals (try clear hN2)
  all_goals first
    | omega
    | exact rests_step kinv (by assumption) (by assumption) (rests_symm (.inr (by assumption))) (by assumption)
    | exact rests_step kinv (by assumption) (by assumption) (rests_symm (.inl (by assumption))) (by assumption)
    | exact hinv.succ (dutC_mk h0 (by assumption) (by assumption) (.inr ⟨_, _, by assumption, by assumption, by assumption⟩) (rests_all h0 (by omega) (by assumption) kinv)) (by assumption)
    | exact hinv.succ (dutC_mk h0 (by assumption) (by assumption) (.inl (by omega)) (rests_all h0 (by omega) (by assumption) kinv)) (by assumption)
    | (refine finB hK (bP_false.2 fun h => ?_); have k := dutC_ok h0 (h.1 i.toNat (by omega)) (by assumption); first | exact absurd k.1 (by assumption) | exact absurd (k.2.1 _ _ (by assumption) (by omega) (by assumption)) (by assumption) | exact rests_bad (by assumption) (by dsimp only; assumption) (by assumption) (by omega) k.2.2)
    | exact finB hK (bP_true.2 ⟨hinv.all (by omega), by omega⟩)
    | (refine finB hK (bP_false.2 fun h => ?_); have := h.2; omega)
    | trace_state
end Go.Proofs.YtffkcjcaeppboacGreatDoor
