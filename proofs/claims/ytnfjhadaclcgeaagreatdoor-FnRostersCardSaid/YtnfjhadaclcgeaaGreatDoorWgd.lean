/- Contracts: the gaps of watches by the program and by the reference; the law. -/
import Derived.Test.YtnfjhadaclcgeaaGreatDoorWgc
import Derived.Test.YtnfjhadaclcgeaaGreatDoorGmr
namespace Go.Proofs.YtnfjhadaclcgeaaGreatDoor
open Go Go.RowKit Classical
set_option maxRecDepth 100000
set_option maxHeartbeats 2000000
set_option linter.unusedVariables false
set_option linter.unusedSimpArgs false
set_option maxHeartbeats 8000000
theorem gapS_on {cnt : Int → Int} {need a b : Int} {o : List (Int × Int)} (h : need ≤ cnt a) : gapS cnt need o a b = o := if_pos h
theorem gapS_set {cnt : Int → Int} {need a b x y : Int} {o : List (Int × Int)} (h : cnt a < need) (ho : o[o.length - 1]? = some (x, y)) (hy : y = a) : gapS cnt need o a b = o.set (o.length - 1) (x, b) := by
  unfold gapS; rw [if_neg (by omega), ho]; simp only; rw [if_pos hy]
theorem gapS_new {cnt : Int → Int} {need a b x y : Int} {o : List (Int × Int)} (h : cnt a < need) (ho : o[o.length - 1]? = some (x, y)) (hy : y ≠ a) : gapS cnt need o a b = o ++ [(a, b)] := by
  unfold gapS; rw [if_neg (by omega), ho]; simp only; rw [if_neg hy]
theorem gapS_nil {cnt : Int → Int} {need a b : Int} {o : List (Int × Int)} (h : cnt a < need) (ho : o = []) : gapS cnt need o a b = o ++ [(a, b)] := by
  unfold gapS; rw [if_neg (by omega), ho]; rfl
theorem onN_ins (l : List Dut) (t : Int) : ((insAll (onM l t)).length : Int) = onN l t := by
  rw [(insAll_spec (onM l t)).1.length_eq]; unfold onM onN; rw [List.length_map]
theorem clampL_take {l : List Dut} {f u i n : Int} {v : Dut} (h0 : 0 ≤ i) (hn : n = i + 1) (hv : l[i.toNat]? = some v) : clampL (l.take n.toNat) f u = clampL (l.take i.toNat) f u ++ [clampI f u v.frm, clampI f u v.til] := by
  rw [show n.toNat = i.toNat + 1 by omega, List.take_add_one, hv]
  unfold clampL
  simp [List.flatMap_append]
theorem clampL_len (l : List Dut) (f u : Int) : (clampL l f u).length = 2 + 2 * l.length := by
  unfold clampL
  induction l with
  | nil => rfl
  | cons d l ih => simp at ih ⊢; omega
theorem watchGaps_ {rs : List (List AV)} {b : Bool} {l : List Dut} (f u need : Int) (hl : rs = l.map Dut.cs) : AP 8 [.sl b 3 rs, .int .i64 f, .int .i64 u, .int .i64 need] llLI (watchLL l f u need) := by
  refine ac Tryz.func8 (.llLI _) fun E K hE hK => ?_
  refine callI (betweenW_ f u hl) fun c hc => ?_
  conv => cbv
  refine eqI (fun h0 => ?_) (fun h0 => ?_) <;> conv => cbv
  rotate_left
  · refine nilOwnI 1 ?_
    conv => cbv
    exact hK _ (by rw [watch_bad (by rw [← hc]; exact h0), ← hc]; rfl)
  have hb0 : btwR l f u = 0 := by rw [← hc]; exact h0
  have hw := watch_need (need := need) hb0
  obtain ⟨hok, ⟨hf, hu⟩, hfu⟩ := btw_ok.1 hb0
  have h60 := hok.2
  refine callP (within_ need 1 10) (fun hn => ?_) (fun hn => ?_) <;> conv => cbv
  rotate_left
  · refine nilOwnI 1 ?_
    conv => cbv
    exact hK _ (by rw [hw, if_neg hn]; rfl)
  rw [if_pos hn] at hw
  refine lenL hl fun n hn1 _ => ?_
  conv => cbv
  (refine loop2 [0, 1, 2, 3, 30, 31] [32, 11] (fun (i : Int) (es : List (List AV)) => ([(32, .int .i64 i), (11, .ob 0)], [.row 1 es], l.length - i, (0 ≤ i ∧ i ≤ l.length) ∧ es = (clampL (l.take i.toNat) f u).map intR)) [0] ((0, [[.int .i64 f], [.int .i64 u]])) (by dsimp only; exact ⟨by omega, by rfl⟩) fun i es hi1 Kn1 hN1 => ?_)
  obtain ⟨⟨i0, i1⟩, h2⟩ := hi1
  have hcl := clampL_len (l.take i.toNat) f u
  rw [List.length_take] at hcl
  refine ltI (fun hlt => ?_) (fun hge => ?_) <;> conv => cbv
  · refine idxL (R := Dut.cs) hl (by omega) fun v hv => ?_
    have hst := fun n hn => clampL_take (f := f) (u := u) (n := n) i0 hn hv
    obtain ⟨keeper, frm, til⟩ := v
    dsimp only at hst
    conv => cbv
    repeat' first
      | (refine hN1 _ _ [0] rfl ⟨?_, ?_⟩)
      | (refine hN1 _ _ [1] rfl ⟨?_, ?_⟩)
      | (refine hN1 _ _ [2] rfl ⟨?_, ?_⟩)
      | (refine hN1 _ _ [3] rfl ⟨?_, ?_⟩)
      | ((first
     | (refine catL (R := intR) (m := [clampI f u frm, clampI f u til]) h2 (by subst_vars; rfl) (by first | omega | (simp; omega)) (fun es3 hes3 => ?_))
     | refine B0 ?_|refine B1 ?_ ?_) <;> intros <;> (try conv => cbv))
    all_goals (try clear hN1)
    all_goals first
      | omega
      | (rw [hst _ (by assumption)]; exact hes3)
      | trace_state
  clear hN1
  have hes : es = (clampL l f u).map intR := by rw [h2, List.take_of_length_le (by omega)]
  refine callMI (sortTurns_ hes (by rw [clampL_len]; omega)) ?_
  rintro _ _ ⟨rs', h3, rfl, rfl⟩
  conv => cbv
  refine sameI (by rw [h3, hes]; simp) ?_
  conv => cbv
  refine callMI (compactI_ h3 (by rw [List.length_mergeSort, clampL_len]; omega)) ?_
  rintro _ _ ⟨es', h4, rfl, rfl⟩
  conv => cbv
  rw [turns_same hfu] at h4
  obtain ⟨T, hT⟩ : ∃ T, T = turnsR l f u := ⟨_, rfl⟩
  have hTl := turnsR_len l f u
  rw [← hT] at h4 hTl
  (refine loop2 [0, 3] [15, 14, 11] (fun (k : Int) (eo : List (List AV)) => ([(15, .int .i64 k), (14, .ob 1), (11, .ob 0)], [.row 1 es', .row 1 eo], T.length - k, (1 ≤ k ∧ k ≤ T.length) ∧ eo = (gapN (onN l) need T (k - 1).toNat).map gpR)) [1, 2] ((1, [])) (by dsimp only; exact ⟨by omega, by rfl⟩) fun k eo hi2 Kn2 hN2 => ?_)
  obtain ⟨⟨k0, k1⟩, h5⟩ := hi2
  have hgl := gapN_len (onN l) need T (k - 1).toNat
  refine lenL h4 fun m hm _ => ?_
  conv => cbv
  refine ltI (fun hlt => ?_) (fun hge => ?_) <;> conv => cbv
  · refine lenL h5 fun q hq _ => ?_
    conv => cbv
    refine sub64 (a := k) (b := 1) (by omega) fun km hkm => ?_
    conv => cbv
    refine idxL (R := intR) h4 (by omega) fun a ha => ?_
    conv => cbv
    refine idxV (R := intR) h4 (by omega) ha ?_
    conv => cbv
    refine callR (onDutyI_ a hl hok) fun rs5 h6 => ?_
    conv => cbv
    refine lenL h6 fun p hp _ => ?_
    conv => cbv
    have hpn : p = onN l a := by rw [hp]; exact onN_ins l a
    obtain ⟨b2, hb2⟩ : ∃ x, T[k.toNat]? = some x := ⟨_, List.getElem?_eq_getElem (by omega)⟩
    have hgs : ∀ n, n = k + 1 → gapN (onN l) need T (n - 1).toNat = gapS (onN l) need (gapN (onN l) need T (k - 1).toNat) a b2 := fun n hn => by
      rw [show (n - 1).toNat = (k - 1).toNat + 1 by omega]
      exact gapN_succ (by rw [show (k - 1).toNat = km.toNat by omega]; exact ha) (by rw [show (k - 1).toNat + 1 = k.toNat by omega]; exact hb2)
    obtain ⟨G, hG⟩ : ∃ G, G = gapN (onN l) need T (k - 1).toNat := ⟨_, rfl⟩
    rw [← hG] at h5 hgl hgs hq
    refine leI (fun hle => ?_) (fun hgt => ?_) <;> conv => cbv
    ·
      repeat' first
        | (refine hN2 _ _ [0, 1] rfl ⟨?_, ?_⟩)
        | ((first

       | refine B0 ?_|refine B1 ?_ ?_) <;> intros <;> (try conv => cbv))
      all_goals (try clear hN2)
      all_goals first
        | omega
        | (rw [hgs _ (by assumption), gapS_on (by omega)]; exact h5)
        | trace_state
    · obtain ⟨qm, hqm⟩ : ∃ x, x = q - 1 := ⟨_, rfl⟩
      repeat' first
        | (refine hN2 _ _ [0, 1] rfl ⟨?_, ?_⟩)
        | (refine hN2 _ _ [0, 2] rfl ⟨?_, ?_⟩)
        | (refine hN2 _ _ [0, 3] rfl ⟨?_, ?_⟩)
        | (refine hN2 _ _ [0, 5] rfl ⟨?_, ?_⟩)
        | ((first
       | refine q0 ?_
       | (refine sub64 (a := q) (b := 1) (by omega) (fun n9 h9 => ?_); obtain rfl : qm = n9 := by omega)
       | (refine sub64 (a := k) (b := 1) (by omega) (fun n8 h8 => ?_); obtain rfl : km = n8 := by omega)
       | (refine idxL (R := gpR) h5 (by omega) (fun pq hpq => ?_); obtain ⟨x, y⟩ := pq)
       | (refine updR0 (by decide) rfl (by exact Nat.le_of_ble_eq_true rfl) (fun es6 h6e _ => ?_); subst h6e)
       | (refine updL (R := gpR) (x, b2) h5 (by omega) hpq (by exact Nat.le_of_ble_eq_true rfl) (by first | rfl | ((conv => lhs; cbv); rfl)) (fun eo3 heo3 => ?_))
       | refine catP (R := gpR) (v := (a, b2)) h5 (by rfl) (by omega) (fun eo4 heo4 => ?_)
       | refine B0 ?_|refine B1 ?_ ?_) <;> intros <;> (try conv => cbv))
      all_goals (try clear hN2)
      all_goals first
        | omega
        | (rw [hgs _ (by assumption), gapS_set (by omega) (by rw [show G.length - 1 = qm.toNat by omega]; exact hpq) (by assumption), show G.length - 1 = qm.toNat by omega]; exact heo3)
        | (rw [hgs _ (by assumption), gapS_new (by omega) (by rw [show G.length - 1 = qm.toNat by omega]; exact hpq) (by assumption)]; exact heo4)
        | (rw [hgs _ (by assumption), gapS_nil (by omega) (List.eq_nil_of_length_eq_zero (by omega))]; exact heo4)
        | trace_state
  · refine hK _ ?_
    rw [hw, h5, show (k - 1).toNat = T.length - 1 by omega, hT]; unfold gapsR llLI; rw [List.map_map]; rfl
end Go.Proofs.YtnfjhadaclcgeaaGreatDoor
