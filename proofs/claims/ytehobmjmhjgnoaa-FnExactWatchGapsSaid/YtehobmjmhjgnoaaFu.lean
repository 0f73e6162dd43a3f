/- Contracts: valid duties. -/
import Derived.Test.YtehobmjmhjgnoaaFt
namespace Go.Proofs.Ytehobmjmhjgnoaa
open Go Go.RowKit Classical
set_option maxRecDepth 100000
set_option maxHeartbeats 2000000
set_option linter.unusedVariables false
set_option linter.unusedSimpArgs false
def Dut.ok (d : Dut) : Prop := NameOk d.keeper ∧ TimeOk d.frm ∧ TimeOk d.til ∧ d.frm + 1 ≤ d.til ∧ d.til ≤ d.frm + 720
theorem isDuty_ (keeper : ByteArray) (frm til : Int) : AP 39 [.agg [.str keeper, .int .i64 frm, .int .i64 til]] AV.bool (bP (Dut.ok ⟨keeper, frm, til⟩)) := by
  refine a0 Try.func39 fun E K hE hK => ?_
  repeat' first
    | ((first
   | (refine callP (isTime_ _) (fun ht => ?_) (fun _ => ?_) <;> (try unfold TimeOk at ht))
   | refine callP (isName_ _) (fun _ => ?_) (fun _ => ?_)
   | refine callP (within_ _ _ _) (fun _ => ?_) (fun _ => ?_)
   | refine B0 ?_|refine B1 ?_ ?_) <;> intros <;> (try conv => cbv))
  all_goals first
    | (refine finB hK (bP_true.2 ?_); simp only [Dut.ok, TimeOk]; exact ⟨by assumption, by omega, by omega, by omega, by omega⟩)
    | (refine finB hK (bP_false.2 fun h => ?_); obtain ⟨h1, h2, h3, h4, h5⟩ := h; simp only [TimeOk] at *; first | contradiction | omega)
    | trace_state
theorem l28One_ (keeper : ByteArray) (frm til : Int) : AP 36 [.pp [.str keeper, .int .i64 frm, .int .i64 til]] AV.bool (bP (Dut.ok ⟨keeper, frm, til⟩)) := by
  refine a0 Try.func36 fun E K hE hK => ?_
  repeat' first
    | ((first
   | (refine callP (l20Time_ _) (fun ht => ?_) (fun _ => ?_) <;> (try unfold TimeOk at ht))
   | refine callP (l01Name_ _) (fun _ => ?_) (fun _ => ?_)
   | refine callP (in_ _ _ _) (fun _ => ?_) (fun _ => ?_)
   | refine B0 ?_|refine B1 ?_ ?_) <;> intros <;> (try conv => cbv))
  all_goals first
    | (refine finB hK (bP_true.2 ?_); simp only [Dut.ok, TimeOk]; exact ⟨by assumption, by omega, by omega, by omega, by omega⟩)
    | (refine finB hK (bP_false.2 fun h => ?_); obtain ⟨h1, h2, h3, h4, h5⟩ := h; simp only [TimeOk] at *; first | contradiction | omega)
    | trace_state
noncomputable def Dut.cmp (a b : Dut) : Int := if cmpI a.frm b.frm ≠ 0 then cmpI a.frm b.frm else cmpS a.keeper b.keeper
def Dut.less (a b : Dut) : Prop := a.frm < b.frm ∨ a.frm = b.frm ∧ strLt a.keeper b.keeper
theorem Dut.cmp_neg (a b : Dut) : Dut.cmp a b < 0 ↔ Dut.less a b := by
  unfold Dut.cmp Dut.less cmpI
  rcases Int.lt_trichotomy a.frm b.frm with h | h | h
  · simp [h]
  · rw [h]; simp [cmpS_neg]
  · have h1 : ¬ a.frm < b.frm := by omega
    have h2 : ¬ a.frm = b.frm := by omega
    simp [h, h1, h2]
def Dut.rested (a b : Dut) : Prop := IntKind.i64.wrap (a.til + 480) ≤ b.frm ∨ IntKind.i64.wrap (b.til + 480) ≤ a.frm
def Dut.rests (a b : Dut) : Prop := a.keeper ≠ b.keeper ∨ Dut.rested a b
theorem dutCompare_ (keeper : ByteArray) (frm til : Int) (keeper' : ByteArray) (frm' til' : Int) : AP 40 [.agg [.str keeper, .int .i64 frm, .int .i64 til], .agg [.str keeper', .int .i64 frm', .int .i64 til']] (AV.int .i64) (Dut.cmp ⟨keeper, frm, til⟩ ⟨keeper', frm', til'⟩) := by
  refine a0 Try.func40 fun E K hE hK => ?_
  repeat' first
    | ((first
   | refine callI (compare_ _ _) (fun _ _ => ?_)
   | refine callI (compareS_ _ _) (fun _ _ => ?_)
   | refine callI (cmpOr_ (l := [_, _]) (by rfl)) (fun _ _ => ?_)
   | refine B0 ?_|refine B1 ?_ ?_) <;> intros <;> (try conv => cbv))
  refine hK _ ?_
  rename_i c hc c' hc' r hr
  rw [hr]
  subst hc hc'
  simp only [orI, Dut.cmp, atup]
  congr 1
  split
  · rfl
  · split <;> simp_all
theorem l28Less_ (keeper : ByteArray) (frm til : Int) (keeper' : ByteArray) (frm' til' : Int) : AP 37 [.pp [.str keeper, .int .i64 frm, .int .i64 til], .pp [.str keeper', .int .i64 frm', .int .i64 til']] AV.bool (bP (Dut.less ⟨keeper, frm, til⟩ ⟨keeper', frm', til'⟩)) := by
  refine a0 Try.func37 fun E K hE hK => ?_
  repeat' first
    | ((first
   | refine sltP (fun _ => ?_) (fun _ => ?_)
   | refine B0 ?_|refine B1 ?_ ?_) <;> intros <;> (try conv => cbv))
  all_goals first
    | (refine finB hK (bP_true.2 (.inl ?_)); simp only; omega)
    | (refine finB hK (bP_true.2 (.inr ⟨?_, by assumption⟩)); simp only; omega)
    | (refine finB hK (bP_false.2 fun h => ?_); rcases h with h | ⟨h, h2⟩ <;> simp only at h <;> first | omega | contradiction)
    | trace_state
theorem l28Rested_ (keeper : ByteArray) (frm til : Int) (keeper' : ByteArray) (frm' til' : Int) : AP 38 [.pp [.str keeper, .int .i64 frm, .int .i64 til], .pp [.str keeper', .int .i64 frm', .int .i64 til']] AV.bool (bP (Dut.rested ⟨keeper, frm, til⟩ ⟨keeper', frm', til'⟩)) := by
  refine a0 Try.func38 fun E K hE hK => ?_
  refine addI (fun a ha => ?_)
  conv => cbv
  repeat' first
    | ((first
   | refine addI (fun a ha => ?_)
   | refine B0 ?_|refine B1 ?_ ?_) <;> intros <;> (try conv => cbv))
  all_goals first
    | (refine finB hK (bP_true.2 (.inl ?_)); simp only; omega)
    | (refine finB hK (bP_true.2 (.inr ?_)); simp only; omega)
    | (refine finB hK (bP_false.2 fun h => ?_); rcases h with h | h <;> simp only at h <;> omega)
    | trace_state
theorem dutRests_ (keeper : ByteArray) (frm til : Int) (keeper' : ByteArray) (frm' til' : Int) : AP 62 [.agg [.str keeper, .int .i64 frm, .int .i64 til], .agg [.str keeper', .int .i64 frm', .int .i64 til']] AV.bool (bP (Dut.rests ⟨keeper, frm, til⟩ ⟨keeper', frm', til'⟩)) := by
  refine a0 Try.func62 fun E K hE hK => ?_
  repeat' first
    | ((first
   | refine addI (fun a ha => ?_)
   | refine B0 ?_|refine B1 ?_ ?_) <;> intros <;> (try conv => cbv))
  all_goals first
    | (refine finB hK (bP_true.2 (.inl ?_)); simpa using by assumption)
    | (refine finB hK (bP_true.2 (.inr (.inl ?_))); simp only; omega)
    | (refine finB hK (bP_true.2 (.inr (.inr ?_))); simp only; omega)
    | (refine finB hK (bP_false.2 fun h => ?_); rcases h with h | h | h <;> simp only at h <;> first | omega | contradiction)
    | trace_state
theorem dutFits1_ (keeper : ByteArray) (frm til : Int) (keeper' : ByteArray) (frm' til' : Int) : AP 61 [.agg [.str keeper, .int .i64 frm, .int .i64 til], .pp [.str keeper', .int .i64 frm', .int .i64 til']] AV.bool (bP (¬ Dut.rests ⟨keeper', frm', til'⟩ ⟨keeper, frm, til⟩)) := by
  refine a0 Try.func61 fun E K hE hK => ?_
  repeat' first
    | ((first
   | refine callP (dutRests_ _ _ _ _ _ _) (fun _ => ?_) (fun _ => ?_)
   | refine B0 ?_|refine B1 ?_ ?_) <;> intros <;> (try conv => cbv))
  all_goals first
    | (exact finB hK (bP_true.2 (by assumption)))
    | (exact finB hK (bP_false.2 (fun h => h (by assumption))))
theorem dutFits_ {rs : List (List AV)} {t : Bool} {l : List Dut} (keeper : ByteArray) (frm til : Int) (hl : rs = l.map Dut.cs) : AP 41 [.agg [.str keeper, .int .i64 frm, .int .i64 til], .sl t 3 rs] AV.bool (bP (∀ w ∈ l, Dut.rests ⟨keeper, frm, til⟩ w)) := by
  refine a0 Try.func41 fun E K hE hK => ?_
  repeat' first
    | ((first
   | refine callP (containsDuty1_ (p := fun w => ¬ Dut.rests ⟨keeper, frm, til⟩ w) hl (fun a b c => dutFits1_ a b c keeper frm til)) (fun _ => ?_) (fun _ => ?_)
   | refine B0 ?_|refine B1 ?_ ?_) <;> intros <;> (try conv => cbv))
  all_goals first
    | (refine finB hK (bP_false.2 fun h => ?_); obtain ⟨v, hv, hp⟩ : ∃ v ∈ l, ¬ Dut.rests ⟨keeper, frm, til⟩ v := (by assumption); exact hp (h v hv))
    | (refine finB hK (bP_true.2 fun w hw => ?_); rename_i h; exact Classical.byContradiction fun hp => h ⟨w, hw, hp⟩)
    | trace_state
def Dut.C (l : List Dut) (j : Nat) : Prop := ∃ v, l[j]? = some v ∧ v.ok ∧ (0 < j → ∃ w, l[j - 1]? = some w ∧ w.less v) ∧ ∀ w ∈ l.take j, v.rests w
def DutiesOk (l : List Dut) : Prop := (∀ j, j < l.length → Dut.C l j) ∧ l.length ≤ 60
theorem dutC_mk {l : List Dut} {i : Int} {v : Dut} (h0 : 0 ≤ i) (hv : l[i.toNat]? = some v) (hok : v.ok) (hp : i ≤ 0 ∨ ∃ (n : Int) (w : Dut), n = i - 1 ∧ l[n.toNat]? = some w ∧ w.less v)
    (hr : ∀ w ∈ (l.take i.toNat), v.rests w) : Dut.C l i.toNat := by
  refine ⟨v, hv, hok, fun h => ?_, hr⟩
  rcases hp with hp | ⟨n, w, rfl, hw, hl⟩
  · omega
  · exact ⟨w, by rw [show i.toNat - 1 = (i - 1).toNat by omega]; exact hw, hl⟩
theorem dutC_ok {l : List Dut} {i : Int} {v : Dut} (h0 : 0 ≤ i) (h : Dut.C l i.toNat) (hv : l[i.toNat]? = some v) : v.ok ∧ (∀ (n : Int) w, n = i - 1 → 0 < i → l[n.toNat]? = some w → w.less v) ∧ ∀ w ∈ (l.take i.toNat), v.rests w := by
  obtain ⟨v', h1, h2, h3, h4⟩ := h
  rw [hv] at h1; cases h1
  refine ⟨h2, fun n w hn hi hw => ?_, h4⟩
  obtain ⟨w', hw', hl⟩ := h3 (by omega)
  rw [show i.toNat - 1 = n.toNat by omega, hw] at hw'; cases hw'
  exact hl
theorem validDuties_ {rs : List (List AV)} {t : Bool} {l : List Dut} (hl : rs = l.map Dut.cs) : AP 31 [.sl t 3 rs] AV.bool (bP (DutiesOk l)) := by
  refine a0 Try.func31 fun E K hE hK => ?_
  refine lenL hl fun n hn hb => ?_
  conv => cbv
  refine loop1 [0, 5, 6] [7] (fun (i : Int) => ([(7, .int .i64 i)], [], l.length - i, 0 ≤ i ∧ Up (Dut.C l) i)) [] (0) (by dsimp only; exact ⟨by omega, .zero (by omega)⟩) fun i hi Kn hN => ?_
  obtain ⟨h0, hinv⟩ := hi
  repeat' first
    | (refine hN _ [] rfl ⟨?_, ?_⟩)
    | ((first
   | refine q0 ?_
   | refine callP (isDuty_ _ _ _) (fun _ => ?_) (fun _ => ?_)
   | refine callP (few_ _ _) (fun _ => ?_) (fun _ => ?_)
   | (refine idxL (R := Dut.cs) (by assumption) (by first | omega | (simp only [List.length_set, mix_len]; omega)) ?_; rintro ⟨⟩ _)
   | refine callI (dutCompare_ _ _ _ _ _ _) (fun _ _ => ?_)
   | refine subL hl (by simp only [Option.getD_some, Option.getD_none]; omega) (fun _ _ => ?_)
   | refine callP (dutFits_ _ _ _ (by assumption)) (fun _ => ?_) (fun _ => ?_)
   | refine B0 ?_|refine B1 ?_ ?_) <;> intros <;> (try conv => cbv))
  all_goals (try clear hN)
  all_goals first
    | omega
    | exact hinv.succ (dutC_mk h0 (by assumption) (by assumption) (.inr ⟨_, _, by assumption, by assumption, (Dut.cmp_neg _ _).1 (by omega)⟩) (by assumption)) (by assumption)
    | exact hinv.succ (dutC_mk h0 (by assumption) (by assumption) (.inl (by omega)) (by assumption)) (by assumption)
    | (refine finB hK (bP_false.2 fun h => ?_); have k := dutC_ok h0 (h.1 i.toNat (by omega)) (by assumption); first | exact absurd k.1 (by assumption) | (have := (Dut.cmp_neg _ _).2 (k.2.1 _ _ (by assumption) (by omega) (by assumption)); omega) | exact absurd k.2.2 (by assumption))
    | exact finB hK (bP_true.2 ⟨hinv.all (by omega), by omega⟩)
    | (refine finB hK (bP_false.2 fun h => ?_); have := h.2; omega)
    | trace_state
theorem rests_symm {v w : Dut} (h : v.rests w) : w.rests v := by
  rcases h with h | h | h
  · exact .inl (Ne.symm h)
  · exact .inr (.inr h)
  · exact .inr (.inl h)
theorem rests_all {l : List Dut} {i k : Int} {v : Dut} (h0 : 0 ≤ i) (hk : i ≤ k) (hv : l[i.toNat]? = some v) (h : Up (fun j => ∀ v w, l[i.toNat]? = some v → l[j]? = some w → Dut.rests v w) k) : ∀ w ∈ l.take i.toNat, v.rests w := fun w hw => by
  obtain ⟨j, hj⟩ := List.getElem?_of_mem hw
  have hlt := (List.getElem?_eq_some_iff.1 hj).1
  rw [List.length_take] at hlt
  rw [List.getElem?_take, if_pos (by omega)] at hj
  exact h j (by omega) v w hv hj
theorem rests_step {l : List Dut} {i k n : Int} {v w : Dut} (h : Up (fun j => ∀ v w, l[i.toNat]? = some v → l[j]? = some w → Dut.rests v w) k) (hv : l[i.toNat]? = some v) (hw : l[k.toNat]? = some w) (hr : v.rests w) (hn : n = k + 1) : Up (fun j => ∀ v w, l[i.toNat]? = some v → l[j]? = some w → Dut.rests v w) n :=
  h.succ (fun v' w' hv' hw' => by rw [hv] at hv'; cases hv'; rw [hw] at hw'; cases hw'; exact hr) hn
theorem rests_bad {l : List Dut} {i k : Int} {v w : Dut} (hw : l[k.toNat]? = some w) (he : w.keeper = v.keeper) (hr : ¬ w.rested v) (hk : 0 ≤ k ∧ k < i) : ¬ ∀ w ∈ l.take i.toNat, v.rests w := fun h => by
  have : w ∈ l.take i.toNat := List.mem_of_getElem? (i := k.toNat) (by rw [List.getElem?_take, if_pos (by omega)]; exact hw)
  rcases h w this with h1 | h1 | h1
  · exact h1 he.symm
  · exact hr (.inr h1)
  · exact hr (.inl h1)
theorem l28Ok_ {rs : List (List AV)} {t : Bool} {l : List Dut} (hl : rs = l.map Dut.cs) : AP 29 [.sl t 3 rs] AV.bool (bP (DutiesOk l)) := by
  refine a0 Try.func29 fun E K hE hK => ?_
  refine loop1 [0] [3] (fun (i : Int) => ([(3, .int .i64 i)], [], l.length - i, 0 ≤ i ∧ Up (Dut.C l) i)) [] (0) (by dsimp only; exact ⟨by omega, .zero (by omega)⟩) fun i hi Kn hN => ?_
  obtain ⟨h0, hinv⟩ := hi
  repeat' first
    | ((refine loop1 [0, 3] [4] (fun (k : Int) => ([(4, .int .i64 k)], [], i - k, (0 ≤ k ∧ k ≤ i) ∧ Up (fun j => ∀ v w, l[i.toNat]? = some v → l[j]? = some w → Dut.rests v w) k)) [] (0) (by dsimp only; exact ⟨by omega, .zero (by omega)⟩) fun k hi2 Kn2 hN2 => ?_); obtain ⟨⟨k0, k1⟩, kinv⟩ := hi2)
    | (refine hN2 _ [] rfl ⟨?_, ?_⟩)
    | (refine hN _ [] rfl ⟨?_, ?_⟩)
    | ((first
   | refine q0 ?_
   | refine callP (l28One_ _ _ _) (fun _ => ?_) (fun _ => ?_)
   | (refine idxL (R := Dut.cs) (by assumption) (by first | omega | (simp only [List.length_set, mix_len]; omega)) ?_; rintro ⟨⟩ _)
   | refine callP (l28Less_ _ _ _ _ _ _) (fun _ => ?_) (fun _ => ?_)
   | refine callP (l28Rested_ _ _ _ _ _ _) (fun _ => ?_) (fun _ => ?_)
   | refine B0 ?_|refine B1 ?_ ?_) <;> intros <;> (try conv => cbv))
  all_goals (try clear hN)
  all_goals (try clear hN2)
  all_goals first
    | omega
    | exact rests_step kinv (by assumption) (by assumption) (rests_symm (.inr (by assumption))) (by assumption)
    | exact rests_step kinv (by assumption) (by assumption) (rests_symm (.inl (by assumption))) (by assumption)
    | exact hinv.succ (dutC_mk h0 (by assumption) (by assumption) (.inr ⟨_, _, by assumption, by assumption, by assumption⟩) (rests_all h0 (by omega) (by assumption) kinv)) (by assumption)
    | exact hinv.succ (dutC_mk h0 (by assumption) (by assumption) (.inl (by omega)) (rests_all h0 (by omega) (by assumption) kinv)) (by assumption)
    | (refine finB hK (bP_false.2 fun h => ?_); have k := dutC_ok h0 (h.1 i.toNat (by omega)) (by assumption); first | exact absurd k.1 (by assumption) | exact absurd (k.2.1 _ _ (by assumption) (by omega) (by assumption)) (by assumption) | exact rests_bad (by assumption) (by dsimp only; assumption) (by assumption) (by omega) k.2.2)
    | exact finB hK (bP_true.2 ⟨hinv.all (by omega), by omega⟩)
    | (refine finB hK (bP_false.2 fun h => ?_); have := h.2; omega)
    | trace_state
end Go.Proofs.Ytehobmjmhjgnoaa
