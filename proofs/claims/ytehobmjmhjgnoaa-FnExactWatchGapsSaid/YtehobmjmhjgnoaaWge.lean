/- Contracts: the gaps of watches by the reference; the law. (DRAFT) -/
import Derived.Test.YtehobmjmhjgnoaaWgd
namespace Go.Proofs.Ytehobmjmhjgnoaa
open Go Go.RowKit Classical
set_option maxRecDepth 100000
set_option maxHeartbeats 2000000
set_option linter.unusedVariables false
set_option linter.unusedSimpArgs false
set_option maxHeartbeats 8000000
theorem turns_step {l : List Dut} {f u i n : Int} {v : Dut} (h0 : 0 ≤ i) (hn : n = i + 1) (hv : l[i.toNat]? = some v) : (l.take n.toNat).foldl (turnS f u) (putI [f] u) = turnS f u ((l.take i.toNat).foldl (turnS f u) (putI [f] u)) v := by
  rw [show n.toNat = i.toNat + 1 by omega, List.take_add_one, hv, Option.toList_some, List.foldl_append]; rfl
theorem sWatchGaps_ {rs : List (List AV)} {b : Bool} {l : List Dut} (f u need : Int) (hl : rs = l.map Dut.cs) : AP 5 [.sl b 3 rs, .int .i64 f, .int .i64 u, .int .i64 need] llLI (watchLL l f u need) := by
  refine ac Try.func5 (.llLI _) fun E K hE hK => ?_
  refine callI (l28Span_ f u hl) fun c hc => ?_
  conv => cbv
  by_cases hb0 : btwR l f u = 0
  rotate_left
  ·
    repeat' first
      | ((first
     | refine eqF (a := c) (b := 0) (by omega) ?_
     | refine nilOwnI 1 ?_
     | refine B0 ?_|refine B1 ?_ ?_) <;> intros <;> (try conv => cbv))
    all_goals first
      | exact hK _ (by rw [watch_bad hb0, ← hc]; rfl)
      | trace_state
  have hw := watch_need (need := need) hb0
  obtain ⟨hok, ⟨hf, hu⟩, hfu⟩ := btw_ok.1 hb0
  have h60 := hok.2
  have hc0 : c = 0 := by omega
  by_cases hn : 1 ≤ need ∧ need ≤ 10
  rotate_left
  ·
    repeat' first
      | ((first
     | refine eqT (a := c) (b := 0) (by omega) ?_
     | refine callPF (in_ need 1 10) hn ?_
     | refine nilOwnI 1 ?_
     | refine B0 ?_|refine B1 ?_ ?_) <;> intros <;> (try conv => cbv))
    all_goals first
      | exact hK _ (by rw [hw, if_neg hn]; rfl)
      | trace_state
  rw [if_pos hn] at hw
  refine eqT (a := c) (b := 0) (by omega) ?_
  conv => cbv
  refine callPT (in_ need 1 10) hn ?_
  conv => cbv
  refine eqT (a := c) (b := 0) (by omega) ?_
  conv => cbv
  refine callR (l00Put_ u (l := [f]) (by rfl) (by simp)) fun rt hrt => ?_
  conv => cbv
  (refine loop2 [0, 1, 2, 3] [12, 11] (fun (i : Int) (es : List (List AV)) => ([(12, .int .i64 i), (11, .ob 0)], [.row 1 es], l.length - i, (0 ≤ i ∧ i ≤ l.length) ∧ es = ((l.take i.toNat).foldl (turnS f u) (putI [f] u)).map intR)) [1] ((0, rt)) (by dsimp only; exact ⟨by omega, by exact hrt⟩) fun i es hi1 Kn1 hN1 => ?_)
  obtain ⟨⟨i0, i1⟩, h2⟩ := hi1
  have hpl := (turns_spec (f := f) (u := u) (l.take i.toNat) (putI [f] u) (putI_inc (by simp)).1).1
  obtain ⟨O, hO⟩ : ∃ O, O = (l.take i.toNat).foldl (turnS f u) (putI [f] u) := ⟨_, rfl⟩
  have hOl : O.length ≤ 1000 := by
    have := (turnsR_len (l.take i.toNat) f u).2
    unfold turnsR at this
    rw [← hO, List.length_take] at this
    omega
  rw [← hO] at h2
  refine lenL hl fun m hm _ => ?_
  conv => cbv
  refine ltI (fun hlt => ?_) (fun hge => ?_) <;> conv => cbv
  · refine idxL (R := Dut.cs) hl (by omega) fun v hv => ?_
    have hst := fun n hn => turns_step (f := f) (u := u) (n := n) i0 hn hv
    rw [← hO] at hst
    obtain ⟨keeper, frm, til⟩ := v
    conv => cbv
    repeat' first
      | (refine hN1 _ _ [0] rfl ⟨?_, ?_⟩)
      | (refine hN1 _ _ [1] rfl ⟨?_, ?_⟩)
      | (refine hN1 _ _ [2] rfl ⟨?_, ?_⟩)
      | ((first
     | refine q0 ?_
     | refine callR (l00Put_ frm h2 (by omega)) (fun r1 hr1 => ?_)
     | (refine callR (l00Put_ til hr1 (by have := putI_len O frm; omega)) (fun r2 hr2 => ?_))
     | refine callR (l00Put_ til h2 (by omega)) (fun r2 hr2 => ?_)
     | refine callP (in_ _ _ _) (fun _ => ?_) (fun _ => ?_)
     | refine B0 ?_|refine B1 ?_ ?_) <;> intros <;> (try conv => cbv))
    all_goals (try clear hN1)
    all_goals first
      | omega
      | (rw [hst _ (by assumption)]; unfold turnS; rw [if_pos (by assumption), if_pos (by assumption)]; exact hr2)
      | (rw [hst _ (by assumption)]; unfold turnS; rw [if_neg (by assumption), if_pos (by assumption)]; exact hr1)
      | (rw [hst _ (by assumption)]; unfold turnS; rw [if_pos (by assumption), if_neg (by assumption)]; exact hr2)
      | (rw [hst _ (by assumption)]; unfold turnS; rw [if_neg (by assumption), if_neg (by assumption)]; exact h2)
      | trace_state
  have hT : O = turnsR l f u := by rw [hO, List.take_of_length_le (by omega)]; rfl
  have hTl := turnsR_len l f u
  rw [← hT] at hTl
  (refine loop2 [0, 3] [14, 13, 11] (fun (k : Int) (eo : List (List AV)) => ([(14, .int .i64 k), (13, .ob 1), (11, .ob 0)], [.row 1 es, .row 1 eo], O.length - k, (0 ≤ k ∧ k + 1 ≤ O.length) ∧ eo = (gapN (onN l) need O k.toNat).map gpR)) [0, 1] ((0, [])) (by dsimp only; exact ⟨by omega, by rfl⟩) fun k eo hi2 Kn2 hN2 => ?_)
  obtain ⟨⟨k0, k1⟩, h5⟩ := hi2
  have hgl := gapN_len (onN l) need O k.toNat
  refine add64 (a := k) (b := 1) (by omega) fun kn hkn => ?_
  conv => cbv
  refine lenL h2 fun m2 hm2 _ => ?_
  conv => cbv
  refine ltI (fun hlt => ?_) (fun hge2 => ?_) <;> conv => cbv
  · refine idxL (R := intR) h2 (by omega) fun a ha => ?_
    conv => cbv
    refine idxV (R := intR) h2 (by omega) ha ?_
    conv => cbv
    refine callI (l28On_ a hl (by omega)) fun p hp => ?_
    conv => cbv
    obtain ⟨b2, hb2⟩ : ∃ x, O[kn.toNat]? = some x := ⟨_, List.getElem?_eq_getElem (by omega)⟩
    have hgs : ∀ n, n = k + 1 → gapN (onN l) need O n.toNat = gapS (onN l) need (gapN (onN l) need O k.toNat) a b2 := fun n hn => by
      rw [show n.toNat = k.toNat + 1 by omega]
      exact gapN_succ ha (by rw [show k.toNat + 1 = kn.toNat by omega]; exact hb2)
    obtain ⟨G, hG⟩ : ∃ G, G = gapN (onN l) need O k.toNat := ⟨_, rfl⟩
    rw [← hG] at h5 hgl hgs
    refine leI (fun hle => ?_) (fun hgt => ?_) <;> conv => cbv
    ·
      repeat' first
        | (refine hN2 _ _ [0, 1] rfl ⟨?_, ?_⟩)
        | ((first

       | refine B0 ?_|refine B1 ?_ ?_) <;> intros <;> (try conv => cbv))
      all_goals (try clear hN2)
      all_goals first
        | omega
        | (rw [hgs _ (by assumption), gapS_on (by omega)]; exact h5)
        | trace_state
    · refine lenL h5 fun q hq _ => ?_
      conv => cbv
      refine sub64 (a := q) (b := 1) (by omega) fun qm hqm => ?_
      conv => cbv
      repeat' first
        | (refine hN2 _ _ [0, 1] rfl ⟨?_, ?_⟩)
        | (refine hN2 _ _ [0, 2] rfl ⟨?_, ?_⟩)
        | (refine hN2 _ _ [0, 3] rfl ⟨?_, ?_⟩)
        | (refine hN2 _ _ [0, 4] rfl ⟨?_, ?_⟩)
        | (refine hN2 _ _ [0, 5] rfl ⟨?_, ?_⟩)
        | ((first
       | refine q0 ?_
       | (refine add64 (a := k) (b := 1) (by omega) (fun n8 h8 => ?_); obtain rfl : kn = n8 := by omega)
       | (refine idxL (R := gpR) h5 (by omega) (fun pq hpq => ?_); obtain ⟨x, y⟩ := pq)
       | (refine updR0 (by decide) rfl (by exact Nat.le_of_ble_eq_true rfl) (fun es6 h6e _ => ?_); subst h6e)
       | (refine updL (R := gpR) (x, b2) h5 (by omega) hpq (by exact Nat.le_of_ble_eq_true rfl) (by first | rfl | ((conv => lhs; cbv); rfl)) (fun eo3 heo3 => ?_))
       | refine catP (R := gpR) (v := (a, b2)) h5 (by rfl) (by omega) (fun eo4 heo4 => ?_)
       | refine B0 ?_|refine B1 ?_ ?_) <;> intros <;> (try conv => cbv))
      all_goals (try clear hN2)
      all_goals first
        | omega
        | (rw [hgs _ (by assumption), gapS_set (by omega) (by rw [show G.length - 1 = qm.toNat by omega]; exact hpq) (by assumption), show G.length - 1 = qm.toNat by omega]; exact heo3)
        | (rw [hgs _ (by assumption), gapS_new (by omega) (by rw [show G.length - 1 = qm.toNat by omega]; exact hpq) (by assumption)]; exact heo4)
        | (rw [hgs _ (by assumption), gapS_nil (by omega) (List.eq_nil_of_length_eq_zero (by omega))]; exact heo4)
        | trace_state
  · refine hK _ ?_
    rw [hw, h5, show k.toNat = O.length - 1 by omega, hT]; unfold gapsR llLI; rw [List.map_map]; rfl
theorem watch_bd (l : List Dut) (f u need : Int) : (watchLL l f u need).1.length ≤ 1000 ∧ ∀ x ∈ (watchLL l f u need).1, x.length = 2 := by
  constructor
  · unfold watchLL watchR
    by_cases h1 : DutiesOk l
    · rw [if_pos h1]
      split
      · split
        · show ((gapsR l f u need).map pairL).length ≤ 1000
          have a1 := gapN_len (onN l) need (turnsR l f u) ((turnsR l f u).length - 1)
          have a2 := turnsR_len l f u
          have a3 := h1.2
          rw [List.length_map]; unfold gapsR; omega
        · simp
      · simp
    · rw [if_neg h1]; simp
  · intro x hx
    unfold watchLL at hx
    obtain ⟨p, _, rfl⟩ := List.mem_map.1 hx
    rfl
theorem lawWatchGaps {rs : List (List AV)} {b : Bool} {l : List Dut} (f u need : Int) (hl : rs = l.map Dut.cs) : AP 3 [.sl b 3 rs, .int .i64 f, .int .i64 u, .int .i64 need] id (.bool true) := by
  refine a0 Try.func3 fun E K hE hK => ?_
  have hlen := watch_bd l f u need
  have hrow : ∀ x ∈ (watchLL l f u need).1, x.length ≤ 100000 := fun x hx => by rw [hlen.2 x hx]; omega
  repeat' first
    | ((first
   | (refine callI (szDutyS_ _ hl (by decide)) (fun y hy => ?_); have hz := szN_or 1048576 (l.length + (l.map Dut.sz).sum); rw [← hy] at hz; clear hy)
   | (refine callMI (markDutyS_ _ (by assumption) (by omega) (by omega)) ?_; rintro _ _ ⟨n, rs', hn, hrs', rfl, rfl⟩)
   | (refine callMI (markInt64SS_ _ (by assumption) (by omega) (by omega) hrow) ?_; rintro _ _ ⟨n, rs', hn, hrs', rfl, rfl⟩)
   | refine callR (toDutyS_ hl (by omega)) (fun _ _ => ?_)
   | refine callLI (sWatchGaps_ _ _ _ (by assumption)) (fun _ _ _ _ => ?_)
   | refine callLI (watchGaps_ _ _ _ (by assumption)) (fun _ _ _ _ => ?_)
   | refine callPT (eqDutyS_ (by assumption) (by assumption)) rfl ?_
   | refine callPT (eqInt64SS_ (by assumption) (by assumption)) rfl ?_
   | refine sameI (by subst_vars; simp [Dut.mks_len, mkLL_len]) ?_
   | refine callI (heldInt64SS_ _ (by assumption) (by omega) (by omega) hrow) (fun _ _ => ?_)
   | refine B0 ?_|refine B1 ?_ ?_) <;> intros <;> (try conv => cbv))
  all_goals first
    | exact hK _ rfl
    | omega
    | trace_state
end Go.Proofs.Ytehobmjmhjgnoaa
