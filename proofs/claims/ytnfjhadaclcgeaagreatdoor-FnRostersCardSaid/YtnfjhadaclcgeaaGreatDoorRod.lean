/- Contracts: the next keeper, plans of duties, the least rest. -/
import Derived.Test.YtnfjhadaclcgeaaGreatDoorRoa
namespace Go.Proofs.YtnfjhadaclcgeaaGreatDoor
open Go Go.RowKit Classical
set_option maxRecDepth 100000
set_option maxHeartbeats 2000000
set_option linter.unusedVariables false
set_option linter.unusedSimpArgs false
set_option maxHeartbeats 4000000
theorem tired_at {l : List Dut} {g j n : Int} {k : ByteArray} {v : Dut} (hn : n = (ofKeeper l k).length) (hj : j = n - 1) (h0 : 0 < n) (hv : (ofKeeper l k)[j.toNat]? = some v) : tired l g k ↔ g < v.til + 480 := by
  have e : (ofKeeper l k).getLast? = some v := by
    rw [List.getLast?_eq_getElem?, ← hv]; congr 1; omega
  unfold tired
  rw [e]
  exact ⟨fun ⟨w, h1, h2⟩ => by cases h1; exact h2, fun h => ⟨v, rfl, h⟩⟩
theorem tired_nil {l : List Dut} {g n : Int} {k : ByteArray} (hn : n = (ofKeeper l k).length) (h0 : ¬ 0 < n) : ¬ tired l g k := by
  have e : ofKeeper l k = [] := List.eq_nil_of_length_eq_zero (by omega)
  unfold tired
  rw [e]
  rintro ⟨v, h, _⟩
  cases h
theorem nextF_step {l : List Dut} {g i n : Int} {ks : List ByteArray} {k : ByteArray} (h0 : 0 ≤ i) (hk : ks[i.toNat]? = some k) (hn : n = i + 1) : (ks.take n.toNat).foldl (nextS l g) none = nextS l g ((ks.take i.toNat).foldl (nextS l g) none) k := by
  rw [show n.toNat = i.toNat + 1 by omega, List.take_add_one, hk, Option.toList_some, List.foldl_append]; rfl
def optK (o : Option ByteArray) : AV := .tup [.str (o.getD ⟨#[]⟩), .bool o.isSome]
theorem NoB.optK (o : Option ByteArray) : NoB (optK o) := .tupC (.str _) (.tupC (.bool _) .tup0)
theorem nextKeeper_ {rs ts : List (List AV)} {b b' : Bool} {l : List Dut} {ks : List ByteArray} (g : Int) (hl : rs = l.map Dut.cs) (hk : ts = ks.map strR) (h : DutiesOk l) : AP 28 [.sl b 3 rs, .sl b' 1 ts, .int .i64 g] optK (nextR l ks g) := by
  refine ac Tryz.func28 (.optK _) fun E K hE hK => ?_
  have h60 := h.2
  refine lenL hk fun n hn hb => ?_
  conv => cbv
  refine loop2 [0, 2, 14, 15] [8, 9, 16] (fun (i : Int) (o : Option ByteArray) => ([(8, .str (o.getD ⟨#[]⟩)), (9, .bool o.isSome), (16, .int .i64 i)], [], n - i, (0 ≤ i ∧ i ≤ n) ∧ o = (ks.take i.toNat).foldl (nextS l g) none)) [] ((0, none)) (by dsimp only; exact ⟨by omega, rfl⟩) fun i o hi Kn hN => ?_
  obtain ⟨⟨h0, h1⟩, h2⟩ := hi
  refine ltI (fun hlt => ?_) (fun hge => ?_) <;> conv => cbv
  · refine idxL (R := strR) hk (by omega) fun k hkk => ?_
    conv => cbv
    have hst := fun n hn => nextF_step (l := l) (g := g) (n := n) h0 hkk hn
    rw [← h2] at hst
    refine callR (dutiesOfI_ k hl (by omega)) fun rs1 hr1 => ?_
    conv => cbv
    refine lenL hr1 fun q hq hqb => ?_
    conv => cbv
    have htn := fun hq0 => tired_nil (g := g) hq hq0
    have hta := fun j v => tired_at (g := g) (j := j) (v := v) hq
    rcases o with _ | best
    ·
      repeat' first
        | (refine hN _ ((none : Option ByteArray)) [] rfl ⟨?_, ?_⟩)
        | (refine hN _ (some k) [] rfl ⟨?_, ?_⟩)
        | ((first
       | refine idxV (R := Dut.cs) hr1 (by omega) hv ?_
       | (refine idxL (R := Dut.cs) hr1 (by omega) (fun v hv => ?_); have hvo := h.all v (own_mem.1 (List.mem_of_getElem? hv)).1; obtain ⟨_, hv1, hv2, _⟩ := hvo; obtain ⟨vk, vf, vt⟩ := v; simp only [TimeOk] at hv1 hv2)
       | refine B0 ?_|refine B1 ?_ ?_) <;> intros <;> (try conv => cbv))
      all_goals (try clear hN)
      all_goals first
        | omega
        | (rw [hst _ (by assumption)]; unfold nextS; rw [if_pos ((hta _ _ (by omega) (by omega) hv).2 (by simp only; omega))])
        | (rw [hst _ (by assumption)]; unfold nextS; rw [if_neg (fun hh => absurd ((hta _ _ (by omega) (by omega) hv).1 hh) (by simp only; omega))])
        | (rw [hst _ (by assumption)]; unfold nextS; rw [if_neg (htn (by omega))])
        | trace_state
    ·
      repeat' first
        | (refine hN _ (some best) [] rfl ⟨?_, ?_⟩)
        | (refine hN _ (some k) [] rfl ⟨?_, ?_⟩)
        | ((first
       | refine idxV (R := Dut.cs) hr1 (by omega) hv ?_
       | (refine idxL (R := Dut.cs) hr1 (by omega) (fun v hv => ?_); have hvo := h.all v (own_mem.1 (List.mem_of_getElem? hv)).1; obtain ⟨_, hv1, hv2, _⟩ := hvo; obtain ⟨vk, vf, vt⟩ := v; simp only [TimeOk] at hv1 hv2)
       | refine callI (worked_ _ hl h) (fun _ _ => ?_)
       | refine B0 ?_|refine B1 ?_ ?_) <;> intros <;> (try conv => cbv))
      all_goals (try clear hN)
      all_goals first
        | omega
        | (rw [hst _ (by assumption)]; unfold nextS; rw [if_pos ((hta _ _ (by omega) (by omega) hv).2 (by simp only; omega))])
        | (rw [hst _ (by assumption)]; unfold nextS; rw [if_neg (fun hh => absurd ((hta _ _ (by omega) (by omega) hv).1 hh) (by simp only; omega))]; simp only; first | rw [if_pos (by omega)] | rw [if_neg (by omega)])
        | (rw [hst _ (by assumption)]; unfold nextS; rw [if_neg (htn (by omega))]; simp only; first | rw [if_pos (by omega)] | rw [if_neg (by omega)])
        | trace_state
  · refine hK _ ?_
    rw [show nextR l ks g = o by rw [h2, List.take_of_length_le (by omega)]; rfl]; rfl
theorem planG_step {ks : List ByteArray} {f long i n : Int} {l : List Dut} {k : ByteArray} (h0 : 0 ≤ i) (hl : planG ks f long i.toNat = some l) (hk : nextR l ks (f + i * long) = some k) (hn : n = i + 1) : planG ks f long n.toNat = some (l ++ [⟨k, f + i * long, f + i * long + long⟩]) := by
  rw [show n.toNat = i.toNat + 1 by omega, planG, hl]
  simp only
  rw [show ((i.toNat : Nat) : Int) = i by omega, hk]
theorem planG_stop {ks : List ByteArray} {f long i n : Int} {l : List Dut} (h0 : 0 ≤ i) (hl : planG ks f long i.toNat = some l) (hk : nextR l ks (f + i * long) = none) (hn : i < n) : planG ks f long n.toNat = none := by
  have h1 : planG ks f long (i.toNat + 1) = none := by
    rw [planG, hl]
    simp only
    rw [show ((i.toNat : Nat) : Int) = i by omega, hk]
  have := planG_none ks f long h1 (n.toNat - (i.toNat + 1))
  rwa [show i.toNat + 1 + (n.toNat - (i.toNat + 1)) = n.toNat by omega] at this
theorem mul_bd {i long : Int} (h1 : 0 ≤ i ∧ i ≤ 60) (h2 : 1 ≤ long ∧ long ≤ 720) : 0 ≤ i * long ∧ i * long ≤ 43200 := by
  refine ⟨Int.mul_nonneg h1.1 (by omega), ?_⟩
  have a := mul_mono (a := i) (b := 60) (long := long) h1.2 (by omega)
  omega
theorem planDuties_ {ts : List (List AV)} {b : Bool} {ks : List ByteArray} (f count long : Int) (hk : ts = ks.map strR) : AP 6 [.sl b 1 ts, .int .i64 f, .int .i64 count, .int .i64 long] dutLI (planR ks f count long) := by
  refine ac Tryz.func6 (.dutLI _) fun E K hE hK => ?_
  refine callP (areKeepers_ hk) (fun hok => ?_) (fun hok => ?_) <;> conv => cbv
  rotate_left
  · refine nilOwnI 3 ?_
    conv => cbv
    exact hK _ (by rw [planR, if_neg hok]; rfl)
  by_cases hr : ((1 ≤ long ∧ long ≤ 720) ∧ 0 ≤ count ∧ count ≤ 60) ∧ (0 < count → TimeOk f ∧ TimeOk (f + count * long))
  rotate_left
  · have hp : planR ks f count long = ([], 2) := by rw [planR, if_pos hok, if_neg hr]
    have hmb := fun h1 h2 => mul_bd (i := count) (long := long) h1 h2
    unfold TimeOk at hr
    repeat' first
      | ((first
     | (refine callP (isTime_ _) (fun ht => ?_) (fun ht => ?_) <;> (unfold TimeOk at ht))
     | (have hmb2 := hmb (by omega) (by omega); refine mul64 (a := count) (b := long) (by omega) (fun _ _ => ?_))
     | refine callP (within_ _ _ _) (fun _ => ?_) (fun _ => ?_)
     | refine nilOwnI 3 ?_
     | refine B0 ?_|refine B1 ?_ ?_) <;> intros <;> (try conv => cbv))
    all_goals first
      | exact hK _ (by rw [hp]; rfl)
      | (exfalso; apply hr; refine ⟨by omega, fun _ => ?_⟩; subst_vars; omega)
      | (exfalso; apply hr; refine ⟨by omega, fun _ => ?_⟩; exfalso; omega)
      | trace_state
  obtain ⟨⟨hlo, hco⟩, htm⟩ := hr
  have hp : planR ks f count long = match planG ks f long count.toNat with | some l => (l, 0) | none => ([], 3) := by
    rw [planR, if_pos hok, if_pos ⟨⟨hlo, hco⟩, htm⟩]
    cases planG ks f long count.toNat <;> rfl
  have hmc := mul_bd hco hlo
  obtain ⟨cl, hcl⟩ : ∃ x, x = count * long := ⟨_, rfl⟩
  have hend : ∀ K : AV → Prop, (∀ r, r = dutLI (planR ks f count long) → K r) → ∀ l, planG ks f long count.toNat = some l → K (dutLI (l, 0)) := fun K hK l h => hK _ (by rw [hp, h])
  have hbad : planG ks f long count.toNat = none → planR ks f count long = ([], 3) := fun h => by rw [hp, h]
  repeat' first
    | ((refine loop2 [0, 1, 3, 45] [46, 10] (fun (i : Int) (es : List (List AV)) => ([(46, .int .i64 i), (10, .ob 0)], [.row 3 es], count - i, (0 ≤ i ∧ i ≤ count) ∧ ∃ l, planG ks f long i.toNat = some l ∧ es = l.map Dut.cs)) [0] ((0, [])) (by dsimp only; exact ⟨by omega, [], rfl, rfl⟩) fun i es hi1 Kn1 hN1 => ?_); obtain ⟨⟨i0, i1⟩, l, hpl, hes⟩ := hi1; obtain ⟨hpo, hll⟩ := planG_of (by omega) _ hpl; have hv : DutiesOk l := hpo.valid hok hlo (by omega) (n := count) (by omega) (fun hne => htm (by have := List.length_pos_iff.2 hne; omega)); have hmi := mul_bd (i := i) (long := long) ⟨i0, by omega⟩ hlo)
    | (refine hN1 _ _ [0] rfl ⟨?_, _, ?_, (by assumption)⟩)
    | (refine hN1 _ _ [1] rfl ⟨?_, _, ?_, (by assumption)⟩)
    | (refine hN1 _ _ [2] rfl ⟨?_, _, ?_, (by assumption)⟩)
    | ((first
   | refine callPT (within_ _ _ _) (by omega) ?_
   | (refine callPT (isTime_ _) (by first | exact (htm (by omega)).1 | (subst_vars; exact (htm (by omega)).2)) ?_)
   | refine mul64 (a := count) (b := long) (by omega) (fun _ _ => ?_)
   | (have ht1 := (htm (by omega)).1; unfold TimeOk at ht1; refine add64 (a := f) (by omega) (fun g hg => ?_))
   | refine mul64 (a := i) (b := long) (by omega) (fun p hp1 => ?_)
   | (have ht2 := (htm (by omega)).1; unfold TimeOk at ht2; refine add64 (a := f) (by omega) (fun g hg => ?_))
   | (refine callI (nextKeeper_ g hes hk hv) (fun o ho => ?_); (rcases o with _ | kk))
   | refine add64 (a := g) (b := long) (by omega) (fun g2 hg2 => ?_)
   | refine catP (R := Dut.cs) (v := ⟨kk, g, g2⟩) hes rfl (by omega) (fun es2 hes2 => ?_)
   | refine nilOwnI 3 ?_
   | refine B0 ?_|refine B1 ?_ ?_) <;> intros <;> (try conv => cbv))
  all_goals (try clear hN1)
  all_goals first
    | omega
    | (subst hg2 hg hp1; exact planG_step i0 hpl ho.symm (by assumption))
    | (subst hg hp1; exact hK _ (by rw [hbad (planG_stop i0 hpl ho.symm (by omega))]; rfl))
    | (subst hes; exact hend _ hK l (by rw [← hpl]; congr 1; omega))
    | trace_state
theorem leastRest_ {rs : List (List AV)} {b : Bool} {l : List Dut} (k : ByteArray) (hl : rs = l.map Dut.cs) : AP 10 [.sl b 3 rs, .str k] two (leastR l k) := by
  refine ac Tryz.func10 (.two _) fun E K hE hK => ?_
  refine callP (validDuties_ hl) (fun hok => ?_) (fun hok => ?_) <;> conv => cbv
  rotate_left
  · exact hK _ (by rw [leastR, if_neg hok]; rfl)
  have h60 := hok.2
  have hbd := dur_bd hok k
  refine callR (dutiesOfI_ k hl (by omega)) fun rs1 h1 => ?_
  conv => cbv
  refine lenL h1 fun n hn hnb => ?_
  conv => cbv
  refine ltI (fun hlt => ?_) (fun hge => ?_) <;> conv => cbv
  · exact hK _ (by rw [leastR, if_pos hok, if_pos (by omega)]; rfl)
  obtain ⟨v0, hv0⟩ : ∃ v, (ofKeeper l k)[0]? = some v := ⟨_, List.getElem?_eq_getElem (by omega)⟩
  obtain ⟨v1, hv1⟩ : ∃ v, (ofKeeper l k)[1]? = some v := ⟨_, List.getElem?_eq_getElem (by omega)⟩
  have hg0 : leastN (ofKeeper l k) 0 = v1.frm - v0.til := by unfold leastN gapAt; rw [hv0, hv1]
  have hgs : ∀ (j : Int) v w, 1 ≤ j → (ofKeeper l k)[(j - 1).toNat]? = some v → (ofKeeper l k)[j.toNat]? = some w → leastN (ofKeeper l k) j.toNat = min (leastN (ofKeeper l k) (j - 1).toNat) (w.frm - v.til) := fun j v w hj hv hw => by
    rw [show j.toNat = (j - 1).toNat + 1 by omega, leastN]
    congr 1
    unfold gapAt
    rw [hv, show (j - 1).toNat + 1 = j.toNat by omega, hw]
  have b0 := hbd v0 (List.mem_of_getElem? hv0)
  have b1 := hbd v1 (List.mem_of_getElem? hv1)
  obtain ⟨k0, f0, u0⟩ := v0
  obtain ⟨k1, f1, u1⟩ := v1
  simp only at b0 b1 hg0
  repeat' first
    | ((refine loop2 [] [8, 7, 6] (fun (i m : Int) => ([(8, .int .i64 i), (7, .int .i64 m), (6, .ob 0)], [.row 3 rs1], n - i, (1 ≤ i ∧ i ≤ n) ∧ m = leastN (ofKeeper l k) (i - 1).toNat)) [0] ((1, g)) (by dsimp only; exact ⟨by omega, by rw [hg, ← hg0]; rfl⟩) fun i m hi1 Kn1 hN1 => ?_); obtain ⟨⟨i0, i1⟩, hm⟩ := hi1)
    | (refine hN1 _ _ [0] rfl ⟨?_, ?_⟩)
    | ((first
   | refine idxV (R := Dut.cs) h1 (by omega) hv1 ?_
   | refine idxV (R := Dut.cs) h1 (by omega) hv0 ?_
   | refine sub64 (a := f1) (b := u0) (by omega) (fun g hg => ?_)
   | refine lenL h1 (fun n2 hn2 _ => ?_)
   | refine ltI (fun hlt => ?_) (fun hge2 => ?_)
   | refine idxV (R := Dut.cs) h1 (by omega) hw ?_
   | refine idxV (R := Dut.cs) h1 (by omega) hv ?_
   | refine sub64 (a := i) (b := 1) (by omega) (fun nm hnm => ?_)
   | (refine idxL (R := Dut.cs) (i := i) h1 (by omega) (fun w hw => ?_); have bw := hbd w (List.mem_of_getElem? hw); obtain ⟨wk, wf, wt⟩ := w; simp only at bw)
   | (refine idxL (R := Dut.cs) (i := nm) h1 (by omega) (fun v hv => ?_); have bv := hbd v (List.mem_of_getElem? hv); obtain ⟨vk, vf, vt⟩ := v; simp only at bv)
   | refine sub64 (a := wf) (b := vt) (by omega) (fun d hd => ?_)
   | refine B0 ?_|refine B1 ?_ ?_) <;> intros <;> (try conv => cbv))
  all_goals (try clear hN1)
  all_goals first
    | omega
    | (have hst := hgs i _ _ i0 (by rw [← hnm]; exact hv) hw; simp only at hst; rename_i hn1; rw [hn1, show i + 1 - 1 = i by omega, hst, ← hm]; omega)
    | (refine hK _ ?_; rw [leastR, if_pos hok, if_neg (by omega), show (ofKeeper l k).length - 1 = (i - 1).toNat by omega, ← hm]; rfl)
    | trace_state
end Go.Proofs.YtnfjhadaclcgeaaGreatDoor
