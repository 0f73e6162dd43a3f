/- Contracts: the law of warnings. -/
import Derived.Test.YthiecdiiindegaaGreatDoorWlc
import Derived.Test.YthiecdiiindegaaGreatDoorWlr
import Derived.Test.YthiecdiiindegaaGreatDoorFbe
namespace Go.Proofs.YthiecdiiindegaaGreatDoor
open Go Go.RowKit Go.Sort Classical
set_option maxRecDepth 100000
set_option maxHeartbeats 2000000
set_option linter.unusedVariables false
set_option linter.unusedSimpArgs false
theorem b10LongW_ {rs : List (List AV)} {t : Bool} {l : List Int} (hl : rs = l.map u8R) : AC Tryz.prog 4 [.sl t 1 rs] AV.bool (bP (1048576 < l.length)) := by
  refine ac Tryz.func4 (by kernel_rfl) (.bool _) fun E K hE hK => ?_
  conv => cbv
  repeat' first
    | ((first
   | refine q0 hE ?_
   | refine B0 hE ?_|refine B1 hE (fun _=>?_) fun _=>?_|refine B3 hE fun _ _ _=>?_|refine B2 hE fun _ _=>?_|refine B4 hE fun _ _ _ _=>?_) <;> (try conv => cbv))
  all_goals first
    | exact finB hK (bP_true.2 (by omega))
    | exact finB hK (bP_false.2 (by omega))
theorem b10HasW_ {rs : List (List AV)} {t : Bool} {l : List Int} (x : Int) (hl : rs = l.map intR) : AC Tryz.prog 13 [.sl t 1 rs, .int .i64 x] AV.bool (bP (x ∈ l)) := by
  refine ac Tryz.func13 (by kernel_rfl) (.bool _) fun E K hE hK => ?_
  conv => cbv
  refine loopC hE (ι := Int) [0, 1] [5] (fun q => (fun (i : Int) => [(5, .int .i64 i)]) q) (fun q => (fun (i : Int) => []) q) (fun q => (fun (i : Int) => (l.length - i).toNat) q) (fun q => (fun (i : Int) => 0 ≤ i ∧ Up (fun j => ∀ v, l[j]? = some v → ¬ v = x) i) q) [] (by decide) (0) (by conv => lhs; cbv) (by conv => lhs; cbv) rfl rfl (by dsimp only; exact ⟨by omega, .zero (by omega)⟩) fun i hi Kn hN => ?_
  (try dsimp only at hi)
  conv => cbv
  obtain ⟨h0, hinv⟩ := hi
  repeat' first
    | (refine idxL hE hl (by omega) (fun v hv => ?_); (try conv => cbv))
    | (refine hN _ _ [] (by decide) rfl ⟨?_, ?_⟩ ?_ <;> (try dsimp only))
    | ((first
   | refine q0 hE ?_
   | refine B0 hE ?_|refine B1 hE (fun _=>?_) fun _=>?_|refine B3 hE fun _ _ _=>?_|refine B2 hE fun _ _=>?_|refine B4 hE fun _ _ _ _=>?_) <;> (try conv => cbv))
  all_goals (try clear hN)
  all_goals first
    | omega
    | exact finB hK (bP_true.2 (by subst_vars; exact List.mem_of_getElem? (by assumption)))
    | exact hinv.succ (fun w hw => by rw [hv] at hw; cases hw; assumption) (by assumption)
    | exact finB hK (bP_false.2 fun h => by
        obtain ⟨j, hj⟩ := List.getElem?_of_mem h
        exact hinv j (by have := (List.getElem?_eq_some_iff.1 hj).1; omega) x hj rfl)
    | trace_state
noncomputable def atWR (code : List Int) (i n : Int) : Int := if n ≤ 1 then 0 else if i < code.length then (code.getD i.toNat 0) % n else (i * 37 + 11) % n
theorem atWR_bd {code : List Int} {i n : Int} (hn : 1 < n) : 0 ≤ atWR code i n ∧ atWR code i n < n := by
  unfold atWR
  rw [if_neg (by omega)]
  split <;> exact ⟨Int.emod_nonneg _ (by omega), Int.emod_lt_of_pos _ (by omega)⟩
theorem b10AtW_ {rs : List (List AV)} {t : Bool} {code : List Int} (i n : Int) (hc : rs = code.map u8R) (hb : Bytes code) (hi : 0 ≤ i ∧ i ≤ 1000) : AC Tryz.prog 25 [.sl t 1 rs, .int .i64 i, .int .i64 n] (AV.int .i64) (atWR code i n) := by
  refine ac Tryz.func25 (by kernel_rfl) (.int _ _) fun E K hE hK => ?_
  conv => cbv
  repeat' first
    | (refine idxV (R := u8R) hE hc (by omega) (by assumption) ?_; (try conv => cbv))
    | (refine idxL hE hc (by omega) (fun v hv => ?_); have hvb := hb v (List.mem_of_getElem? hv); (try conv => cbv))
    | (refine mul64 hE (by omega) (fun _ _ => ?_); (try conv => cbv))
    | ((first
   | refine q0 hE ?_
   | refine B0 hE ?_|refine B1 hE (fun _=>?_) fun _=>?_|refine B3 hE fun _ _ _=>?_|refine B2 hE fun _ _=>?_|refine B4 hE fun _ _ _ _=>?_) <;> (try conv => cbv))
  all_goals (refine hK _ ?_; unfold atWR; simp only [atup]; first | (rw [if_pos (by assumption)]; done) | (rw [if_neg (by omega), if_pos (by omega), List.getD_eq_getElem?_getD, hv]; subst_vars; rfl) | (rw [if_neg (by omega), if_neg (by omega)]; subst_vars; rfl) | trace_state)
noncomputable def wideR (code : List Int) (i n : Int) : Int := (256 * atWR code i 256 + atWR code (i + 1) 256) % n
theorem wideR_bd {code : List Int} {i n : Int} (hn : 0 < n) : 0 ≤ wideR code i n ∧ wideR code i n < n := ⟨Int.emod_nonneg _ (by omega), Int.emod_lt_of_pos _ hn⟩
theorem b10WideW_ {rs : List (List AV)} {t : Bool} {code : List Int} (i n : Int) (hc : rs = code.map u8R) (hb : Bytes code) (hi : 0 ≤ i ∧ i ≤ 900) (hn : 0 < n) : AC Tryz.prog 7 [.sl t 1 rs, .int .i64 i, .int .i64 n] (AV.int .i64) (wideR code i n) := by
  refine ac Tryz.func7 (by kernel_rfl) (.int _ _) fun E K hE hK => ?_
  conv => cbv
  have hA1 := atWR_bd (code := code) (i := i) (n := 256) (by omega)
  have hA2 := atWR_bd (code := code) (i := i + 1) (n := 256) (by omega)
  repeat' first
    | (refine callI hE (b10AtW_ i 256 hc hb (by omega)) (fun y1 hy1 => ?_); rw [← hy1] at hA1; (try conv => cbv))
    | (refine add64 hE (a := i) (b := 1) (by omega) (fun i1 hi1 => ?_); rw [← hi1] at hA2; (try conv => cbv))
    | (refine callI hE (b10AtW_ i1 256 hc hb (by omega)) (fun y2 hy2 => ?_); rw [← hy2] at hA2; (try conv => cbv))
    | (refine mul64 hE (by omega) (fun _ _ => ?_); (try conv => cbv))
    | (refine add64 hE (by omega) (fun _ _ => ?_); (try conv => cbv))
    | (refine rem64 hE (by omega) (fun _ _ => ?_); (try conv => cbv))
    | ((first
   | refine q0 hE ?_
   | refine B0 hE ?_|refine B1 hE (fun _=>?_) fun _=>?_|refine B3 hE fun _ _ _=>?_|refine B2 hE fun _ _=>?_|refine B4 hE fun _ _ _ _=>?_) <;> (try conv => cbv))
  all_goals (refine hK _ ?_; unfold wideR; subst_vars; rfl)
theorem sValidWarningsW_ {rs : List (List AV)} {b : Bool} {l : List War} (hl : rs = l.map War.cs) : AC Tryz.prog 14 [.sl b 8 rs] AV.bool (bP (WarnsOk l)) := by
  refine ac Tryz.func14 (by kernel_rfl) (.bool _) fun E K hE hK => ?_
  conv => cbv
  refine callP hE (l22Ok_ hl) (fun h => ?_) (fun h => ?_) <;> conv => cbv
  · exact finB hK (bP_true.2 h)
  · exact finB hK (bP_false.2 h)
theorem drawAddWarning_ {rs : List (List AV)} {code : List Int} (hc : rs = code.map u8R) (hb : Bytes code) : ACS Tryz.prog 5 [.sl false 1 rs] (fun r ys => ∃ (l : List War) (rs1 : List (List AV)) (u1 u2 u3 u4 u5 u6 u7 : Int) (u8 : ByteArray), r = .tup [.sl true 8 rs1, .agg [.int .i64 u1, .int .i64 u2, .int .i64 u3, .int .i64 u4, .int .i64 u5, .int .i64 u6, .int .i64 u7, .str u8]] ∧ rs1 = l.map War.cs ∧ l.length ≤ 33 ∧ ys = [.any]) := by
  refine acs 0 Tryz.func5 (by kernel_rfl) fun E K hE hK => ?_
  conv => cbv
  refine callSI hE from_ ?_
  rintro r ys ⟨rfl, rfl⟩
  conv => cbv
  refine callSI hE (l22Draw_ _ _ hc hb (by omega)) ?_
  rintro r ys ⟨l, rs1, a0, z0, rfl, hl, hlen, ha0, rfl⟩
  conv => cbv
  refine callSI hE (l22DrawOne_ _ _ hc hb (by omega)) ?_
  rintro r ys ⟨u1, u2, u3, u4, u5, u6, u7, u8, a1, z1, rfl, ha1, rfl⟩
  conv => cbv
  refine callSI hE (l22Bend_ _ _ _ _ _ _ _ _ _ _ hc hb (by omega)) ?_
  rintro r ys ⟨u1, u2, u3, u4, u5, u6, u7, u8, a2, z2, rfl, ha2, rfl⟩
  conv => cbv
  exact hK _ _ ⟨l, rs1, _, _, _, _, _, _, _, _, rfl, hl, hlen, rfl⟩
set_option maxHeartbeats 40000000
theorem lawWarnings {rs rs' : List (List AV)} {t t' : Bool} {code more : List Int} (hc : rs = code.map u8R) (hb : Bytes code) (hc' : rs' = more.map u8R) (hb' : Bytes more) : AC Tryz.prog 3 [.sl t 1 rs, .sl t' 1 rs'] id (.bool true) := by
  refine ac Tryz.func3 (by kernel_rfl) (.bool _) fun E K hE hK => ?_
  conv => cbv
  refine callP hE (b10LongW_ hc) (fun hq => ?_) (fun hq => ?_) <;> conv => cbv
  · exact hK _ rfl
  refine callP hE (b10LongW_ hc') (fun hq' => ?_) (fun hq' => ?_) <;> conv => cbv
  · exact hK _ rfl
  refine callSI hE (drawAddWarning_ hc hb) ?_
  rintro r ys ⟨l, rs1, u1, u2, u3, u4, u5, u6, u7, u8, rfl, hl, hlen, rfl⟩
  conv => cbv
  refine callLI (R := War.cs) (k := 8) hE (addWarning_ u1 u2 u3 u4 u5 u6 u7 u8 hl) (fun ns one hns hone => ?_)
  conv => cbv
  rcases add_cases l ⟨u1, u2, u3, u4, u5, u6, u7, u8⟩ with ⟨hadd, h0⟩ | ⟨he, h0⟩
  · rw [h0] at hone
    obtain ⟨m, hm⟩ : ∃ m, m = (addWR l ⟨u1, u2, u3, u4, u5, u6, u7, u8⟩).1 := ⟨_, rfl⟩
    rw [← hm] at hns hadd
    have hok := hadd.ok
    have hw := hadd.2.1
    have hml := hadd.len
    obtain ⟨_, _, htf, htu, hfu, hpt, _⟩ := hw
    simp only at htf htu hfu hpt
    have htf' := htf
    have htu' := htu
    unfold TimeOk at htf' htu'
    have hwd := wideR_bd (code := more) (i := 0) (n := u4 - u3) (by omega)
    repeat' first
      | (refine sub64 hE (by omega) (fun dd hdd => ?_); rw [← hdd] at hwd; (try conv => cbv))
      | (refine callI hE (b10WideW_ 0 _ hc' hb' (by omega) (by omega)) (fun y hy => ?_); rw [← hy] at hwd; (try conv => cbv))
      | (refine add64 hE (by omega) (fun tt htt => ?_); have ht1 : u3 ≤ tt := (by omega); have ht2 : tt < u4 := (by omega); have htok : TimeOk tt := (by unfold TimeOk; omega); obtain ⟨a1, a2⟩ := active_code hok htok; obtain ⟨b1, b2⟩ := active_code hok htu; obtain ⟨n1, n2⟩ := hadd.near ht1 ht2 htok; obtain ⟨g1, g2, g3, g4, g5⟩ := hadd.canc ht1 ht2 htok; have hnow := hadd.now ht1 ht2; have hlate := hadd.late; simp only at n1 n2 g1 g2 g3 g4 g5 hnow hlate; clear htt hy; (try conv => cbv))
      | (refine callLI (R := intR) (k := 1) hE (activeWarnings_ tt hns (by omega)) (fun r1 c1 hr1 hc1 => ?_); rw [a2] at hr1; rw [a1] at hc1; (try conv => cbv))
      | (refine callLI (R := intR) (k := 1) hE (activeWarnings_ u4 hns (by omega)) (fun r2 c2 hr2 hc2 => ?_); rw [b2] at hr2; rw [b1] at hc2; (try conv => cbv))
      | (refine callLI (R := intR) (k := 1) hE (warningsNear_ u5 u6 0 tt hns (by omega)) (fun r3 c3 hr3 hc3 => ?_); rw [n1] at hc3; (try conv => cbv))
      | (refine callLI (R := War.cs) (k := 8) hE (cancelWarning_ u1 tt hns) (fun r4 c4 hr4 hc4 => ?_); rw [g1] at hc4; generalize (cancR m u1 tt).1 = d at hr4 g2 g3 g4 g5; obtain ⟨d1, d2⟩ := active_code g2 htok; (try conv => cbv))
      | (refine callLI (R := intR) (k := 1) hE (activeWarnings_ tt hr4 (by omega)) (fun r5 c5 hr5 hc5 => ?_); rw [d2] at hr5; rw [d1] at hc5; (try conv => cbv))
      | (refine callI hE (warningText_ _ _ _ _ _ _ _ _) (fun s hs => ?_); (try conv => cbv))
      | (refine callI hE (readWarning_ ⟨u1, u2, u3, u4, u5, u6, u7, u8⟩ s hadd.2.1 hs) (fun p hp => ?_); subst hp; (try conv => cbv))
      | (refine callPT hE (b10HasW_ u1 hr1) hnow ?_; (try conv => cbv))
      | (refine callPF hE (b10HasW_ u1 hr2) hlate ?_; (try conv => cbv))
      | (refine callPT hE (b10HasW_ u1 hr3) n2 ?_; (try conv => cbv))
      | (refine callPF hE (b10HasW_ u1 hr5) g3 ?_; (try conv => cbv))
      | (refine aeqI hE (fun hq => ?_) (fun hq => absurd (by simp [pairsP]) hq); (try conv => cbv))
      | (refine callPT hE (sValidWarningsW_ hns) hok ?_; (try conv => cbv))
      | (refine callPT hE (sValidWarningsW_ hr4) g2 ?_; (try conv => cbv))
      | (refine callI hE (sameWarnings_ (l := l) (show r4 = l.map War.cs from by rw [hr4, g4 (by omega)]) hl) (fun q hq => ?_); subst hq; (try conv => cbv))
      | ((first
     | refine q0 hE ?_
     | refine B0 hE ?_|refine B1 hE (fun _=>?_) fun _=>?_|refine B3 hE fun _ _ _=>?_|refine B2 hE fun _ _=>?_|refine B4 hE fun _ _ _ _=>?_) <;> (try conv => cbv))
    all_goals first
      | (exfalso; omega)
      | exact hK _ rfl
      | trace_state
  · rw [he] at hns
    repeat' first
      | ((first
     | refine q0 hE ?_
     | refine B0 hE ?_|refine B1 hE (fun _=>?_) fun _=>?_|refine B3 hE fun _ _ _=>?_|refine B2 hE fun _ _=>?_|refine B4 hE fun _ _ _ _=>?_) <;> (try conv => cbv))
    all_goals first
      | exact hK _ rfl
      | trace_state
end Go.Proofs.YthiecdiiindegaaGreatDoor
