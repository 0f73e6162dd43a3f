/- Contracts: the law of faults. -/
import Derived.Test.YtifjebnieieolaaGreatDoorFba
import Derived.Test.YtifjebnieieolaaGreatDoorFlp
import Derived.Test.YtifjebnieieolaaGreatDoorFlr
import Derived.Test.YtifjebnieieolaaGreatDoorFff
namespace Go.Proofs.YtifjebnieieolaaGreatDoor
open Go Go.RowKit Go.Sort Classical
set_option maxRecDepth 100000
set_option maxHeartbeats 2000000
set_option linter.unusedVariables false
set_option linter.unusedSimpArgs false
theorem b10LongF_ {rs : List (List AV)} {t : Bool} {l : List Int} (hl : rs = l.map u8R) : AC Tryz.prog 4 [.sl t 1 rs] AV.bool (bP (1048576 < l.length)) := by
  refine ac Tryz.func4 (by kernel_rfl) (.bool _) fun E K hE hK => ?_
  conv => cbv
  repeat' first
    | ((first
   | refine q0 hE ?_
   | refine B0 hE ?_|refine B1 hE (fun _=>?_) fun _=>?_|refine B3 hE fun _ _ _=>?_|refine B2 hE fun _ _=>?_|refine B4 hE fun _ _ _ _=>?_) <;> (try conv => cbv))
  all_goals first
    | exact finB hK (bP_true.2 (by omega))
    | exact finB hK (bP_false.2 (by omega))
theorem b10HasF_ {rs : List (List AV)} {t : Bool} {l : List Int} (x : Int) (hl : rs = l.map intR) : AC Tryz.prog 9 [.sl t 1 rs, .int .i64 x] AV.bool (bP (x ∈ l)) := by
  refine ac Tryz.func9 (by kernel_rfl) (.bool _) fun E K hE hK => ?_
  conv => cbv
  refine loopC hE (ι := Int) [0, 1] [5] (fun q => (fun (i : Int) => [(5, .int .i64 i)]) q) (fun q => (fun (i : Int) => []) q) (fun q => (fun (i : Int) => (l.length - i).toNat) q) (fun q => (fun (i : Int) => 0 ≤ i ∧ Up (fun j => ∀ v, l[j]? = some v → ¬ v = x) i) q) [] (by decide) (0) (by conv => lhs; cbv) (by conv => lhs; cbv) rfl rfl (by dsimp only; exact ⟨by omega, .zero (by omega)⟩) fun i hi Kn hN => ?_
  (try dsimp only at hi)
  conv => cbv
  obtain ⟨h0, hinv⟩ := hi
  repeat' first
    | (refine idxL hE hl (by omega) (fun v hv => ?_); (try conv => cbv))
    | (refine hN _ _ [] (by decide) rfl ⟨?_, ?_⟩ ?_ <;> (try dsimp only))
    | ((first
   | refine q0 hE ?_
   | refine B0 hE ?_|refine B1 hE (fun _=>?_) fun _=>?_|refine B3 hE fun _ _ _=>?_|refine B2 hE fun _ _=>?_|refine B4 hE fun _ _ _ _=>?_) <;> (try conv => cbv))
  all_goals (try clear hN)
  all_goals first
    | omega
    | exact finB hK (bP_true.2 (by subst_vars; exact List.mem_of_getElem? (by assumption)))
    | exact hinv.succ (fun w hw => by rw [hv] at hw; cases hw; assumption) (by assumption)
    | exact finB hK (bP_false.2 fun h => by
        obtain ⟨j, hj⟩ := List.getElem?_of_mem h
        exact hinv j (by have := (List.getElem?_eq_some_iff.1 hj).1; omega) x hj rfl)
    | trace_state
noncomputable def atFR (code : List Int) (i n : Int) : Int := if n ≤ 1 then 0 else if i < code.length then (code.getD i.toNat 0) % n else (i * 37 + 11) % n
theorem atFR_bd {code : List Int} {i n : Int} (hn : 1 < n) : 0 ≤ atFR code i n ∧ atFR code i n < n := by
  unfold atFR
  rw [if_neg (by omega)]
  split <;> exact ⟨Int.emod_nonneg _ (by omega), Int.emod_lt_of_pos _ (by omega)⟩
theorem b10AtF_ {rs : List (List AV)} {t : Bool} {code : List Int} (i n : Int) (hc : rs = code.map u8R) (hb : Bytes code) (hi : 0 ≤ i ∧ i ≤ 1000) : AC Tryz.prog 11 [.sl t 1 rs, .int .i64 i, .int .i64 n] (AV.int .i64) (atFR code i n) := by
  refine ac Tryz.func11 (by kernel_rfl) (.int _ _) fun E K hE hK => ?_
  conv => cbv
  repeat' first
    | (refine idxV (R := u8R) hE hc (by omega) (by assumption) ?_; (try conv => cbv))
    | (refine idxL hE hc (by omega) (fun v hv => ?_); have hvb := hb v (List.mem_of_getElem? hv); (try conv => cbv))
    | (refine mul64 hE (by omega) (fun _ _ => ?_); (try conv => cbv))
    | ((first
   | refine q0 hE ?_
   | refine B0 hE ?_|refine B1 hE (fun _=>?_) fun _=>?_|refine B3 hE fun _ _ _=>?_|refine B2 hE fun _ _=>?_|refine B4 hE fun _ _ _ _=>?_) <;> (try conv => cbv))
  all_goals (refine hK _ ?_; unfold atFR; simp only [atup]; first | (rw [if_pos (by assumption)]; done) | (rw [if_neg (by omega), if_pos (by omega), List.getD_eq_getElem?_getD, hv]; subst_vars; rfl) | (rw [if_neg (by omega), if_neg (by omega)]; subst_vars; rfl) | trace_state)
theorem l20DrawKind_ {rs : List (List AV)} {code : List Int} (a z : Int) (hc : rs = code.map u8R) (hb : Bytes code) (ha : 0 ≤ a ∧ a ≤ 800000000) : ACS Tryz.prog 18 [.bx [.sl false 1 rs, .int .i64 a, .int .u64 z]] (fun r ys => ∃ x a' z', r = .int .i64 x ∧ (a ≤ a' ∧ a' ≤ a + 4) ∧ ys = [.bx [.sl false 1 rs, .int .i64 a', .int .u64 z']]) := by
  refine acs 1 Tryz.func18 (by kernel_rfl) fun E K hE hK => ?_
  conv => cbv
  repeat' first
    | (refine callSI hE (one_ _ _ _ hc hb (by omega)) ?_; rintro r ys ⟨c, a', z', rfl, ha', rfl⟩; (try conv => cbv))
    | (refine callSI hE (pick_ _ _ _ hc hb (by omega)) ?_; rintro r ys ⟨x, a', z', rfl, hx, ha', rfl⟩; (try conv => cbv))
    | (refine callSI hE (among_ (l := [0, 5]) _ _ hc hb (by omega) rfl (by decide)) ?_; rintro r ys ⟨x, a', z', rfl, hx, ha', rfl⟩; (try conv => cbv))
    | (refine sameI hE rfl ?_; (try conv => cbv))
    | ((first
   | refine q0 hE ?_
   | refine B0 hE ?_|refine B1 hE (fun _=>?_) fun _=>?_|refine B3 hE fun _ _ _=>?_|refine B2 hE fun _ _=>?_|refine B4 hE fun _ _ _ _=>?_) <;> (try conv => cbv))
  all_goals exact hK _ _ ⟨_, _, _, rfl, by omega, rfl⟩
theorem drawReportFault_ {rs : List (List AV)} {code : List Int} (hc : rs = code.map u8R) (hb : Bytes code) : ACS Tryz.prog 5 [.sl false 1 rs] (fun r ys => ∃ (l : List Fau) (rs1 : List (List AV)) (aid k t : Int), r = .tup [.sl true 4 rs1, .int .i64 aid, .int .i64 k, .int .i64 t] ∧ rs1 = l.map Fau.cs ∧ l.length ≤ 49 ∧ ys = [.any]) := by
  refine acs 0 Tryz.func5 (by kernel_rfl) fun E K hE hK => ?_
  conv => cbv
  refine callSI hE from_ ?_
  rintro r ys ⟨rfl, rfl⟩
  conv => cbv
  refine callSI hE (l20Draw_ _ _ hc hb (by omega)) ?_
  rintro r ys ⟨l, rs1, a0, z0, rfl, hl, hlen, ha0, rfl⟩
  conv => cbv
  refine callSI hE (l20DrawAid_ _ _ hc hb (by omega)) ?_
  rintro r ys ⟨aid, a1, z1, rfl, ha1, rfl⟩
  conv => cbv
  refine callSI hE (l20DrawKind_ _ _ hc hb (by omega)) ?_
  rintro r ys ⟨k, a2, z2, rfl, ha2, rfl⟩
  conv => cbv
  refine callSI hE (l20DrawTime_ _ _ hc hb (by omega)) ?_
  rintro r ys ⟨t, a3, z3, rfl, ht, ha3, rfl⟩
  conv => cbv
  exact hK _ _ ⟨l, rs1, _, _, _, rfl, hl, hlen, rfl⟩
theorem openFn_ (aid kind frm til : Int) : AC Tryz.prog 28 [.agg [.int .i64 aid, .int .i64 kind, .int .i64 frm, .int .i64 til]] AV.bool (bP (til ≠ -1)) := by
  refine ac Tryz.func28 (by kernel_rfl) (.bool _) fun E K hE hK => ?_
  conv => cbv
  repeat' first
    | ((first
   | refine q0 hE ?_
   | refine B0 hE ?_|refine B1 hE (fun _=>?_) fun _=>?_|refine B3 hE fun _ _ _=>?_|refine B2 hE fun _ _=>?_|refine B4 hE fun _ _ _ _=>?_) <;> (try conv => cbv))
  all_goals (try clear hN)
  all_goals first
    | (omega)
    | (refine finB hK (bP_true.2 ?_); first | omega | grind)
    | (refine finB hK (bP_false.2 ?_); first | omega | (intro h; grind))
    | (refine ⟨by omega, Up.succ (by assumption) ?_ (by assumption)⟩; grind)
    | (refine hK _ ?_; simp_all [atup]; done)
    | (grind)
noncomputable def openR (l : List Fau) : List Fau × Int := if FaultsOk l then (openL l, 0) else ([], 1)
theorem openFaults_ {rs : List (List AV)} {b : Bool} {l : List Fau} (hl : rs = l.map Fau.cs) : AC Tryz.prog 7 [.sl b 4 rs] fauLI (openR l) := by
  refine ac Tryz.func7 (by kernel_rfl) (.fauLI _) fun E K hE hK => ?_
  conv => cbv
  refine callP hE (validFaults_ hl) (fun hok => ?_) (fun hok => ?_) <;> conv => cbv
  · have h48 := hok.2
    refine callR hE (cloneFault_ hl (by omega)) fun rs1 h1 => ?_
    conv => cbv
    refine callMI hE (deleteFault0_ (p := fun v : Fau => v.til ≠ -1) h1 (by omega) (fun a b c d => openFn_ a b c d)) ?_
    rintro r ys ⟨rs2, h2, rfl, rfl⟩
    conv => cbv
    exact hK _ (by rw [openR, if_pos hok, h2]; rfl)
  · refine nilOwnI hE 4 ?_
    conv => cbv
    exact hK _ (by rw [openR, if_neg hok]; rfl)
theorem repairFault_ {rs : List (List AV)} {b : Bool} {l : List Fau} (a k t : Int) (hl : rs = l.map Fau.cs) : AC Tryz.prog 12 [.sl b 4 rs, .int .i64 a, .int .i64 k, .int .i64 t] fauLI (fixR l a k t) := by
  refine ac Tryz.func12 (by kernel_rfl) (.fauLI _) fun E K hE hK => ?_
  conv => cbv
  refine callP hE (validFaults_ hl) (fun hok => ?_) (fun hok => ?_) <;> conv => cbv
  · have h48 := hok.2
    refine callR hE (cloneFault_ hl (by omega)) fun rs1 h1 => ?_
    conv => cbv
    refine lenL hE h1 fun n hn hbn => ?_
    conv => cbv
    refine loopC hE (ι := Int) [1, 2, 3, 18, 19] [20, 10] (fun q => (fun (i : Int) => [(20, .int .i64 i), (10, .ob 0)]) q) (fun q => (fun (i : Int) => [.row 4 rs1]) q) (fun q => (fun (i : Int) => (n - i).toNat) q) (fun q => (fun (i : Int) => (0 ≤ i ∧ i ≤ n) ∧ Up (fun j => ∀ w, l[j]? = some w → ¬ Fau.opn a k w) i) q) [0] (by decide) (0) (by conv => lhs; cbv) (by conv => lhs; cbv) rfl rfl (by dsimp only; exact ⟨by omega, .zero (by omega)⟩) fun i hi Kn hN => ?_
    (try dsimp only at hi)
    conv => cbv
    obtain ⟨⟨h0, h1'⟩, hinv⟩ := hi
    repeat' first
      | (refine idxV hE h1 h0 hv2 ?_; (try conv => cbv))
      | (refine idxL hE h1 (by omega) (fun v hv2 => ?_); obtain ⟨_, _, hvt, _⟩ := hok.all v (List.mem_of_getElem? hv2); unfold TimeOk at hvt; obtain ⟨aid, kind, frm, til⟩ := v; simp only at hvt; (try conv => cbv))
      | (refine updL hE (R := Fau.cs) ⟨aid, kind, frm, t⟩ (by assumption) (by omega) hv2 (by exact Nat.le_of_ble_eq_true rfl) (by rfl) (fun es' hes' => ?_); (try conv => cbv))
      | (refine hN _ _ [0] (by decide) rfl ⟨?_, ?_⟩ ?_ <;> (try dsimp only))
      | ((first
     | refine q0 hE ?_
     | refine callP hE (within_ _ _ _) (fun _ => ?_) (fun _ => ?_)
     | refine nilOwnI hE 4 ?_
     | refine B0 hE ?_|refine B1 hE (fun _=>?_) fun _=>?_|refine B3 hE fun _ _ _=>?_|refine B2 hE fun _ _=>?_|refine B4 hE fun _ _ _ _=>?_) <;> (try conv => cbv))
    all_goals (try clear hN)
    all_goals first
      | omega
      | exact upM hinv hv2 (by unfold Fau.opn; simp only; omega) (by assumption)
      | (refine hK _ ?_; rw [fix_some hok h0 hv2 ⟨by assumption, by assumption, by assumption⟩ hinv]; by_cases hc : TimeOk t ∧ frm < t <;> first | (exfalso; unfold TimeOk at hc; omega) | (rw [if_pos hc, hes']; rfl) | (rw [if_neg hc]; rfl))
      | (refine hK _ ?_; rw [fix_none hok (by omega) hinv]; rfl)
      | trace_state
  · refine nilOwnI hE 4 ?_
    conv => cbv
    refine hK _ ?_
    rw [fixR, if_neg hok]; rfl
theorem sValidFaultsF_ {rs : List (List AV)} {b : Bool} {l : List Fau} (hl : rs = l.map Fau.cs) : AC Tryz.prog 10 [.sl b 4 rs] AV.bool (bP (FaultsOk l)) := by
  refine ac Tryz.func10 (by kernel_rfl) (.bool _) fun E K hE hK => ?_
  conv => cbv
  refine callP hE (l20Ok_ hl) (fun h => ?_) (fun h => ?_) <;> conv => cbv
  · exact finB hK (bP_true.2 h)
  · exact finB hK (bP_false.2 h)
/-- What the repair of a reported fault leaves, and what is told of it. -/
theorem RepOk.fixc {l m : List Fau} {a k t u c : Int} {rs : List (List AV)} (h : RepOk l a k t m) (hr : rs = (fixR m a k u).1.map Fau.cs) (hc : c = (fixR m a k u).2) :
    (¬ (TimeOk u ∧ t < u) ∧ c = 2) ∨ ((TimeOk u ∧ t < u) ∧ c = 0 ∧ ∃ d : List Fau, rs = d.map Fau.cs ∧ FaultsOk d ∧ d.length ≤ 48 ∧
      (∀ (u' c' : Int) (rs' : List (List AV)), rs' = (faultsAtR d a u').1.map intR → c' = (faultsAtR d a u').2 → u' = u → ∃ K : List Int, rs' = K.map intR ∧ c' = 0 ∧ k ∉ K) ∧
      (∀ (u' c' : Int) (rs' : List (List AV)), rs' = (faultsAtR d a u').1.map intR → c' = (faultsAtR d a u').2 → u' = u - 1 → ∃ K : List Int, rs' = K.map intR ∧ c' = 0 ∧ k ∈ K) ∧
      (∀ (u' : Int) (s : ByteArray), s = ftext ⟨a, k, t, u'⟩ → u' = u → Fau.ok ⟨a, k, t, u'⟩ ∧ s.size ≤ 1048576)) := by
  obtain ⟨i, hi, hf⟩ := h.fix u
  rw [hf] at hr hc
  by_cases hu : TimeOk u ∧ t < u
  · right
    rw [if_pos hu] at hr hc
    obtain ⟨g1, g2, g3⟩ := h.fixed hi hu rfl
    have hnew : Fau.ok ⟨a, k, t, u⟩ := by
      obtain ⟨q1, q2, q3, _⟩ := h.2.1
      exact ⟨q1, q2, q3, .inr hu⟩
    refine ⟨hu, hc, _, hr, g1, g1.2, ?_, ?_, ?_⟩
    · rintro u' c' rs' hr' hc' rfl
      refine ⟨_, hr', ?_, (g2 k).resolve_right (fun e => e rfl)⟩
      rw [hc', (mem_faultsAt (k := k) g1 hu.1).1]
    · rintro u' c' rs' hr' hc' rfl
      have ht : TimeOk (u - 1) := by
        have := h.2.1.2.2.1
        unfold TimeOk at *; simp only at this; omega
      refine ⟨_, hr', ?_, g3⟩
      rw [hc', (mem_faultsAt (k := k) g1 ht).1]
    · rintro u' s rfl rfl
      exact ⟨hnew, Nat.le_trans (ftext_size hnew) (by decide)⟩
  · left
    rw [if_neg hu] at hc
    exact ⟨hu, hc⟩
set_option maxHeartbeats 40000000
theorem lawFaults {rs rs' : List (List AV)} {t t' : Bool} {code more : List Int} (hc : rs = code.map u8R) (hb : Bytes code) (hc' : rs' = more.map u8R) (hb' : Bytes more) : AC Tryz.prog 3 [.sl t 1 rs, .sl t' 1 rs'] id (.bool true) := by
  refine ac Tryz.func3 (by kernel_rfl) (.bool _) fun E K hE hK => ?_
  conv => cbv
  refine callP hE (b10LongF_ hc) (fun hq => ?_) (fun hq => ?_) <;> conv => cbv
  · exact hK _ rfl
  refine callP hE (b10LongF_ hc') (fun hq' => ?_) (fun hq' => ?_) <;> conv => cbv
  · exact hK _ rfl
  refine callSI hE (drawReportFault_ hc hb) ?_
  rintro r ys ⟨l, rs1, aid, k, t0, rfl, hl, hlen, rfl⟩
  conv => cbv
  refine callLI (R := Fau.cs) (k := 4) hE (reportFault_ aid k t0 hl) (fun ns one hns hone => ?_)
  conv => cbv
  rcases rep_cases l aid k t0 with ⟨hrep, h0⟩ | ⟨he, h0⟩
  · rw [h0] at hone
    obtain ⟨m, hm⟩ : ∃ m, m = (repR l aid k t0).1 := ⟨_, rfl⟩
    rw [← hm] at hns hrep
    have hok := hrep.ok
    have hops := hrep.opens
    have e1 : openR l = (openL l, 0) := if_pos hrep.1
    have e2 : openR m = (openL m, 0) := if_pos hok
    obtain ⟨hn1, hn2⟩ := hrep.now
    have hv := hrep.2.1
    have hbl := atFR_bd (code := more) (i := 0) (n := 200) (by omega)
    have htf : 0 ≤ t0 ∧ t0 ≤ 143999999 := hv.2.2.1
    have hol : (openL l).length ≤ l.length := rej_len _ _
    repeat' first
      | (refine callLI (R := Fau.cs) (k := 4) hE (openFaults_ hl) (fun r1 c1 hr1 hc1 => ?_); rw [e1] at hr1 hc1; (try conv => cbv))
      | (refine callLI (R := Fau.cs) (k := 4) hE (openFaults_ hns) (fun r2 c2 hr2 hc2 => ?_); rw [e2] at hr2 hc2; (try conv => cbv))
      | (refine callLI (R := intR) (k := 1) hE (faultsAt_ aid t0 hns) (fun r3 c3 hr3 hc3 => ?_); rw [hn1] at hc3; (try conv => cbv))
      | (refine lenL hE hr1 (fun q1 hq1 _ => ?_); (try simp only at hq1); (try conv => cbv))
      | (refine lenL hE hr2 (fun q2 hq2 _ => ?_); (try simp only at hq2); (try conv => cbv))
      | (refine callPT hE (b10HasF_ k hr3) hn2 ?_; (try conv => cbv))
      | (refine callPT hE (sValidFaultsF_ hns) hok ?_; (try conv => cbv))
      | (refine callI hE (b10AtF_ 0 200 hc' hb' (by omega)) (fun w hw => ?_); rw [← hw] at hbl; (try conv => cbv))
      | (refine callLI (R := Fau.cs) (k := 4) hE (repairFault_ aid k _ hns) (fun r5 c5 hr5 hc5 => ?_); refine (hrep.fixc hr5 hc5).elim (fun ⟨hu, h5⟩ => ?_) (fun ⟨hu, h5, d, hd, hdok, hdl, hno, hyes, hfok⟩ => ?_) <;> (have hu' := hu; unfold TimeOk at hu') <;> clear hc5 hr5 <;> (try conv => cbv))
      | (refine callLI (R := intR) (k := 1) hE (faultsAt_ aid _ hd) (fun r6 c6 hr6 hc6 => ?_); refine Exists.elim (hno _ _ _ hr6 hc6 ?h) (fun K6 h6 => ?_); (case h => omega); obtain ⟨hK6, hz6, hk6⟩ := h6; clear hr6 hc6; (try conv => cbv))
      | (refine callLI (R := intR) (k := 1) hE (faultsAt_ aid _ hd) (fun r7 c7 hr7 hc7 => ?_); refine Exists.elim (hyes _ _ _ hr7 hc7 ?h) (fun K7 h7 => ?_); (case h => omega); obtain ⟨hK7, hz7, hk7⟩ := h7; clear hr7 hc7; (try conv => cbv))
      | (refine callI hE (faultText_ _ _ _ _) (fun s hs => ?_); obtain ⟨f1, f2⟩ := hfok _ _ hs (by omega); (try conv => cbv))
      | (refine callI hE (readFault_ _ _ f1 hs f2) (fun p hp => ?_); subst hp; (try conv => cbv))
      | (refine callPF hE (b10HasF_ k hK6) hk6 ?_; (try conv => cbv))
      | (refine callPT hE (b10HasF_ k hK7) hk7 ?_; (try conv => cbv))
      | (refine callPT hE (sValidFaultsF_ hd) hdok ?_; (try conv => cbv))
      | ((first
     | refine q0 hE ?_
     | refine B0 hE ?_|refine B1 hE (fun _=>?_) fun _=>?_|refine B3 hE fun _ _ _=>?_|refine B2 hE fun _ _=>?_|refine B4 hE fun _ _ _ _=>?_) <;> (try conv => cbv))
    all_goals first
      | (exfalso; omega)
      | exact hK _ rfl
      | trace_state
  · rw [he] at hns
    repeat' first
      | ((first
     | refine q0 hE ?_
     | refine B0 hE ?_|refine B1 hE (fun _=>?_) fun _=>?_|refine B3 hE fun _ _ _=>?_|refine B2 hE fun _ _=>?_|refine B4 hE fun _ _ _ _=>?_) <;> (try conv => cbv))
    all_goals first
      | exact hK _ rfl
      | trace_state
end Go.Proofs.YtifjebnieieolaaGreatDoor
