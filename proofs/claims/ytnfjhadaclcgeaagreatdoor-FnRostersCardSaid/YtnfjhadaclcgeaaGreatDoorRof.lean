/- Contracts: the law of rosters. -/
import Derived.Test.YtnfjhadaclcgeaaGreatDoorRob
import Derived.Test.YtnfjhadaclcgeaaGreatDoorRoc
import Derived.Test.YtnfjhadaclcgeaaGreatDoorRod
import Derived.Test.YtnfjhadaclcgeaaGreatDoorRog
import Derived.Test.YtnfjhadaclcgeaaGreatDoorWgd
namespace Go.Proofs.YtnfjhadaclcgeaaGreatDoor
open Go Go.RowKit Go.Sort Classical
set_option maxRecDepth 100000
set_option maxHeartbeats 2000000
set_option linter.unusedVariables false
set_option linter.unusedSimpArgs false
theorem sameDut_ {rs rs' : List (List AV)} {t t' : Bool} {l m : List Dut} (hl : rs = l.map Dut.cs) (hm : rs' = m.map Dut.cs) : AP 49 [.sl t 3 rs, .sl t' 3 rs'] AV.bool (bP (l = m)) := by
  refine a0 Tryz.func49 fun E K hE hK => ?_
  refine lenL hl fun n hn hb => ?_
  conv => cbv
  refine lenL hm fun n' hn' hb' => ?_
  conv => cbv
  refine eqI (fun he => ?_) (fun he => ?_) <;> conv => cbv
  · skip
    repeat' first
      | ((refine loop1 [0, 1, 12] [13] (fun (i : Int) => ([(13, .int .i64 i)], [], l.length - i, 0 ≤ i ∧ Up (fun j => l[j]? = m[j]?) i)) [] (0) (by dsimp only; exact ⟨by omega, .zero (by omega)⟩) fun i hi2 Kn2 hN2 => ?_); obtain ⟨h0, hinv⟩ := hi2)
      | (refine hN2 _ [] rfl ⟨?_, ?_⟩)
      | ((first
     | refine q0 ?_
     | (refine idxL (R := Dut.cs) (by assumption) (by first | omega | (simp only [List.length_set, mix_len]; omega)) ?_; rintro ⟨⟩ _)
     | refine aeqI (fun hq => ?_) (fun hq => ?_)
     | refine B0 ?_|refine B1 ?_ ?_) <;> intros <;> (try conv => cbv))
    all_goals first
      | omega
      | (refine hinv.succ ?_ (by assumption); clear hN2; simp_all [pairsP]; done)
      | (refine finB hK (bP_false.2 fun h => ?_); clear hN2; simp_all [pairsP]; done)
      | exact finB hK (bP_true.2 (list_eq_of (by omega) hinv (by omega)))
      | trace_state
  · refine finB hK (bP_false.2 fun h => ?_); subst h; omega
theorem b10LongD_ {rs : List (List AV)} {t : Bool} {l : List Int} (hl : rs = l.map u8R) : AP 4 [.sl t 1 rs] AV.bool (bP (1048576 < l.length)) := by
  refine a0 Tryz.func4 fun E K hE hK => ?_
  repeat' first
    | ((first

   | refine B0 ?_|refine B1 ?_ ?_) <;> intros <;> (try conv => cbv))
  all_goals first
    | exact finB hK (bP_true.2 (by omega))
    | exact finB hK (bP_false.2 (by omega))
theorem sValidDuties_ {rs : List (List AV)} {b : Bool} {l : List Dut} (hl : rs = l.map Dut.cs) : AP 7 [.sl b 3 rs] AV.bool (bP (DutiesOk l)) := by
  refine a0 Tryz.func7 fun E K hE hK => ?_
  refine callP (l28Ok_ hl) (fun h => ?_) (fun h => ?_) <;> conv => cbv
  · exact finB hK (bP_true.2 h)
  · exact finB hK (bP_false.2 h)
theorem sameDuties_ {rs rs' : List (List AV)} {b b' : Bool} {l m : List Dut} (hl : rs = l.map Dut.cs) (hm : rs' = m.map Dut.cs) : AP 18 [.sl b 3 rs, .sl b' 3 rs'] AV.bool (bP (l = m)) := by
  refine a0 Tryz.func18 fun E K hE hK => ?_
  refine callP (sameDut_ hl hm) (fun h => ?_) (fun h => ?_) <;> conv => cbv
  · exact finB hK (bP_true.2 h)
  · exact finB hK (bP_false.2 h)
/-- A plan that is made. -/
def PlanGood (ks : List ByteArray) (f count long : Int) (l : List Dut) : Prop :=
  KeepersOk ks ∧ PlanOf ks f long l ∧ (l.length : Int) = count ∧ DutiesOk l ∧ ((1 ≤ long ∧ long ≤ 720) ∧ 0 ≤ count ∧ count ≤ 60) ∧ (0 < count → TimeOk f ∧ TimeOk (f + count * long))
theorem plan_cases (ks : List ByteArray) (f count long : Int) : (PlanGood ks f count long (planR ks f count long).1 ∧ (planR ks f count long).2 = 0) ∨ (planR ks f count long).2 ≠ 0 := by
  unfold planR
  by_cases h1 : KeepersOk ks
  · rw [if_pos h1]
    by_cases h2 : ((1 ≤ long ∧ long ≤ 720) ∧ 0 ≤ count ∧ count ≤ 60) ∧ (0 < count → TimeOk f ∧ TimeOk (f + count * long))
    · rw [if_pos h2]
      split
      · rename_i l hl
        obtain ⟨a, b⟩ := planG_of (by omega) _ hl
        have hlc : (l.length : Int) = count := by omega
        refine .inl ⟨⟨h1, a, hlc, a.valid h1 h2.1.1 (by omega) (n := count) (by omega) (fun hne => h2.2 ?_), h2.1, h2.2⟩, rfl⟩
        have := List.length_pos_iff.2 hne
        omega
      · exact .inr (by simp)
    · rw [if_neg h2]; exact .inr (by simp)
  · rw [if_neg h1]; exact .inr (by simp)
theorem PlanGood.gap {ks : List ByteArray} {f count long u : Int} {l : List Dut} (h : PlanGood ks f count long l) (hc : 0 < count) (hu : u = f + count * long) : watchLL l f u 1 = ([], 0) := by
  obtain ⟨_, h2, h3, h4, h5, h6⟩ := h
  obtain ⟨t1, t2⟩ := h6 hc
  exact h2.noGap h4 h5.1.1 (by rw [h3]; exact hu) t1 (by rw [hu]; exact t2)
theorem dutiesR_ok {l : List Dut} (h : DutiesOk l) (k : ByteArray) : dutiesR l k = (ofKeeper l k, 0) := if_pos h
noncomputable def ownS (l : List Dut) (ks : List ByteArray) : Nat := (ks.map fun k => (ofKeeper l k).length).sum
theorem ownS_step {l : List Dut} {ks : List ByteArray} {i n : Int} {k : ByteArray} (h0 : 0 ≤ i) (hk : ks[i.toNat]? = some k) (hn : n = i + 1) : ownS l (ks.take n.toNat) = ownS l (ks.take i.toNat) + (ofKeeper l k).length := by
  unfold ownS
  rw [show n.toNat = i.toNat + 1 by omega, List.take_add_one, hk, Option.toList_some, List.map_append, List.sum_append]; simp
theorem ownS_bd {l : List Dut} {ks : List ByteArray} (i : Int) (h : ks.length ≤ 20) : ownS l (ks.take i.toNat) ≤ 20 * l.length := by
  have key : ∀ q : List ByteArray, ownS l q ≤ q.length * l.length := fun q => by
    induction q with
    | nil => exact Nat.zero_le _
    | cons k q ih =>
      have h1 : (ofKeeper l k).length ≤ l.length := List.length_filter_le ..
      show (ofKeeper l k).length + ownS l q ≤ (q.length + 1) * l.length
      rw [Nat.add_mul, Nat.one_mul]; omega
  refine Nat.le_trans (key _) (Nat.mul_le_mul_right _ ?_)
  rw [List.length_take]; omega
theorem mem_take_mono {l : List ByteArray} {i n : Int} {k : ByteArray} (h : i ≤ n) (hk : k ∈ l.take i.toNat) : k ∈ l.take n.toNat := (List.take_subset_take_left l (by omega)) hk
theorem ownS_all {l : List Dut} {ks : List ByteArray} (h : (ks.map fun k => (ofKeeper l k).length).sum = l.length) (i : Int) (hi : (ks.length : Int) ≤ i) : ownS l (ks.take i.toNat) = l.length := by
  rw [List.take_of_length_le (by omega)]; exact h
theorem mem_take_step {l : List ByteArray} {i n : Int} {v k : ByteArray} (h0 : 0 ≤ i) (hv : l[i.toNat]? = some v) (hn : n = i + 1) : k ∈ l.take n.toNat ↔ k ∈ l.take i.toNat ∨ v = k := by
  rw [show n.toNat = i.toNat + 1 by omega, List.take_add_one, hv, Option.toList_some, List.mem_append, List.mem_singleton]
  exact or_congr_right ⟨Eq.symm, Eq.symm⟩
theorem least_cases {ks : List ByteArray} {f long : Int} {l : List Dut} (h : PlanOf ks f long l) (hv : DutiesOk l) (k : ByteArray) : (leastR l k = (0, 6) ∧ (ofKeeper l k).length ≤ 1) ∨ ∃ m, leastR l k = (m, 0) ∧ 480 ≤ m := by
  have h1 := h.rest hv k
  unfold leastR at h1 ⊢
  rw [if_pos hv] at h1 ⊢
  split
  · exact .inl ⟨rfl, by omega⟩
  · rename_i h2
    rw [if_neg h2] at h1
    exact .inr ⟨_, rfl, h1.1 rfl⟩
set_option maxHeartbeats 40000000
theorem lawRosters {rs rs' : List (List AV)} {t t' : Bool} {code more : List Int} (hc : rs = code.map u8R) (hb : Bytes code) (hc' : rs' = more.map u8R) (hb' : Bytes more) : AP 3 [.sl t 1 rs, .sl t' 1 rs'] id (.bool true) := by
  refine a0 Tryz.func3 fun E K hE hK => ?_
  refine callP (b10LongD_ hc) (fun hq => ?_) (fun hq => ?_) <;> conv => cbv
  · exact hK _ rfl
  refine callP (b10LongD_ hc') (fun hq' => ?_) (fun hq' => ?_) <;> conv => cbv
  · exact hK _ rfl
  refine callSI (drawPlanDuties_ hc hb) ?_
  rintro r ys ⟨ks, ts, f, count, long, rfl, hk, hkl, rfl⟩
  conv => cbv
  refine callLI (R := Dut.cs) (k := 3) (planDuties_ f count long hk) (fun ps one hps hone => ?_)
  conv => cbv
  rcases plan_cases ks f count long with ⟨hg, h0⟩ | h0
  rotate_left
  · refine eqF (a := one) (b := 0) (by omega) ?_
    conv => cbv
    as_aux_lemma =>
      refine callSI (drawAddDuty_ hc' hb') ?_
      rintro r ys ⟨q, rq, dk, df, du, rfl, hq, hql, rfl⟩
      conv => cbv
      refine callLI (R := Dut.cs) (k := 3) (addDuty_ dk df du hq) (fun ns five hns hfive => ?_)
      conv => cbv
      rcases add_casesD q ⟨dk, df, du⟩ with ⟨hput, h5⟩ | ⟨he, h5⟩
      rotate_left
      · rw [he] at hns
        simp only [List.map_nil] at hns
        subst hns
        refine eqF (a := five) (b := 0) (by omega) ?_
        conv => cbv
        refine lenI fun n5 hn5 _ => ?_
        simp only [List.length_nil] at hn5
        conv => cbv
        refine eqT (a := n5) (b := 0) (by omega) ?_
        conv => cbv
        exact hK _ rfl
      rw [h5] at hfive
      subst hfive
      refine eqT (a := 0) (b := 0) rfl ?_
      conv => cbv
      have hdr := hput.drop
      have hon := hput.on
      have hmi := hput.mins
      have hvl := hput.valid
      have hdk := hput.2.1
      simp only at hdr hon hmi
      obtain ⟨_, hd1, hd2, hd3, hd4⟩ := id hdk
      unfold TimeOk at hd1 hd2
      simp only at hd1 hd2 hd3 hd4
      obtain ⟨M, hM⟩ : ∃ M, M = (addDutyR q ⟨dk, df, du⟩).1 := ⟨_, rfl⟩
      rw [← hM] at hns hdr hon hmi hvl
      clear hput hM h5
      as_aux_lemma =>
        refine callLI (R := Dut.cs) (k := 3) (dropDuty_ dk df hns) (fun ls six hls hsix => ?_)
        rw [hdr] at hls hsix
        simp only at hls hsix
        subst hsix
        conv => cbv
        refine callLI (R := strR) (k := 1) (onDuty_ df hns) (fun ws seven hws hseven => ?_)
        conv => cbv
        rw [hon.1] at hseven
        subst hseven
        obtain ⟨O, hO⟩ : ∃ O, O = (onDutyR M df).1 := ⟨_, rfl⟩
        rw [← hO] at hws hon
        clear hO
        as_aux_lemma =>
          refine callII (minutesOf_ dk df du hns) (fun mi eight hmi2 height => ?_)
          rw [hmi] at hmi2 height
          simp only at hmi2 height
          subst height
          conv => cbv
          refine callI (dutyText_ dk df du) (fun s hs => ?_)
          conv => cbv
          refine callI (readDuty_ ⟨dk, df, du⟩ s hdk hs (by rw [hs]; exact Nat.le_trans (dtext_size hdk) (by decide))) (fun p hp => ?_)
          subst hp
          conv => cbv
          as_aux_lemma =>
            refine loop2 [24, 26, 27, 28, 30] [32, 31, 19, 20, 21, 23, 25, 29] (fun (i : Int) (fd : Bool) => ([(32, .int .i64 i), (31, .bool fd), (19, .ob 0), (20, .pb 1 0), (21, .ob 2), (23, .ob 3), (25, .ob 4), (29, .pb 5 0)], [.row 3 rq, .box [.str dk, .int .i64 df, .int .i64 du], .row 3 ns, .row 3 ls, .row 1 ws, .box [.str dk, .int .i64 df, .int .i64 du]], O.length - i, (0 ≤ i ∧ i ≤ O.length) ∧ (fd = true ↔ dk ∈ O.take i.toNat))) [2, 3, 4, 5, 6, 7] ((0, false)) (by dsimp only; exact ⟨by omega, by simp⟩) fun i fd hi Kn hN => ?_
            obtain ⟨⟨j0, j1⟩, hfd⟩ := hi
            (rcases fd with _ | _) <;> (try conv => cbv)
            · as_aux_lemma =>
                refine lenL hws fun n4 hn4 _ => ?_
                conv => cbv
                refine ltI (fun hlt => ?_) (fun hge => ?_) <;> conv => cbv
                · obtain ⟨v, hv⟩ : ∃ v, O[i.toNat]? = some v := ⟨_, List.getElem?_eq_getElem (by omega)⟩
                  repeat' first
                    | (refine hN _ _ [0, 1, 2, 3, 4, 5] rfl ⟨?_, ?_⟩)
                    | ((first
                   | refine idxV (R := strR) hws (by omega) hv ?_
                   | refine B0 ?_|refine B1 ?_ ?_) <;> intros <;> (try conv => cbv))
                  all_goals (try clear hN)
                  all_goals first
                    | omega
                    | (exact ⟨fun _ => mem_take_mono (by omega) (hfd.1 rfl), fun _ => rfl⟩)
                    | (rw [mem_take_step j0 hv (by assumption)]; exact ⟨fun _ => .inr (by assumption), fun _ => rfl⟩)
                    | (rw [mem_take_step j0 hv (by assumption)]; exact ⟨fun h => absurd h (by decide), fun h => h.elim (fun h => hfd.2 h) (fun h => absurd h (by assumption))⟩)
                    | trace_state
                · exact absurd (hfd.2 (by rw [List.take_of_length_le (by omega)]; exact hon.2)) (by decide)
            · as_aux_lemma =>
                refine lenL hws fun n4 hn4 _ => ?_
                conv => cbv
                refine ltI (fun hlt => ?_) (fun hge => ?_) <;> conv => cbv
                · obtain ⟨v, hv⟩ : ∃ v, O[i.toNat]? = some v := ⟨_, List.getElem?_eq_getElem (by omega)⟩
                  repeat' first
                    | (refine hN _ _ [0, 1, 2, 3, 4, 5] rfl ⟨?_, ?_⟩)
                    | ((first
                   | refine idxV (R := strR) hws (by omega) hv ?_
                   | refine B0 ?_|refine B1 ?_ ?_) <;> intros <;> (try conv => cbv))
                  all_goals (try clear hN)
                  all_goals first
                    | omega
                    | (exact ⟨fun _ => mem_take_mono (by omega) (hfd.1 rfl), fun _ => rfl⟩)
                    | (rw [mem_take_step j0 hv (by assumption)]; exact ⟨fun _ => .inr (by assumption), fun _ => rfl⟩)
                    | (rw [mem_take_step j0 hv (by assumption)]; exact ⟨fun h => absurd h (by decide), fun h => h.elim (fun h => hfd.2 h) (fun h => absurd h (by assumption))⟩)
                    | trace_state
                ·
                  repeat' first
                    | ((first
                   | refine eqT (a := 0) (b := 0) rfl ?_
                   | refine callPT (sameDuties_ hls hq) rfl ?_
                   | refine sub64 (a := du) (b := df) (by omega) (fun dd hdd2 => ?_)
                   | refine eqT (a := mi) (by omega) ?_
                   | refine aeqI (fun hq2 => ?_) (fun hq2 => absurd (by simp [pairsP]) hq2)
                   | refine callPT (sValidDuties_ hns) hvl ?_
                   | refine B0 ?_|refine B1 ?_ ?_) <;> intros <;> (try conv => cbv))
                  all_goals first
                    | exact hK _ rfl
                    | (exfalso; omega)
                    | trace_state
  rw [h0] at hone
  subst hone
  obtain ⟨l, hl⟩ : ∃ l, l = (planR ks f count long).1 := ⟨_, rfl⟩
  rw [← hl] at hps hg
  have hgap := fun u => hg.gap (u := u)
  obtain ⟨hko, hpo, hlc, hok, ⟨hlo, hco⟩, htm⟩ := hg
  have hall := ownS_all (hpo.sum hko)
  have hmc := mul_bd hco hlo
  have hown := fun i => ownS_bd (l := l) (ks := ks) i hkl
  clear hl h0
  refine eqT (a := 0) (b := 0) rfl ?_
  conv => cbv
  refine lenL hps fun n1 hn1 _ => ?_
  conv => cbv
  refine eqT (a := n1) (b := count) (by omega) ?_
  conv => cbv
  refine callPT (sValidDuties_ hps) hok ?_
  conv => cbv
  as_aux_lemma =>
    by_cases hc0 : 0 < count
    · as_aux_lemma =>
        refine ltT (a := 0) (b := count) hc0 ?_
        conv => cbv
        obtain ⟨t1, t2⟩ := htm hc0
        unfold TimeOk at t1 t2
        refine mul64 (a := count) (b := long) (by omega) fun p1 hp1 => ?_
        conv => cbv
        refine add64 (a := f) (b := p1) (by omega) fun p2 hp2 => ?_
        conv => cbv
        refine callLI (R := llR true) (k := 1) (watchGaps_ f p2 1 hps) (fun gs two hgs htwo => ?_)
        rw [hgap p2 hc0 (by omega)] at hgs htwo
        simp only [List.map_nil] at hgs htwo
        subst hgs htwo
        conv => cbv
        refine eqT (a := 0) (b := 0) rfl ?_
        conv => cbv
        refine lenI fun n6 hn6 _ => ?_
        simp only [List.length_nil] at hn6
        conv => cbv
        refine eqT (a := n6) (b := 0) (by omega) ?_
        conv => cbv
        refine loop2 [1, 7] [14, 13, 5, 9] (fun (i sm : Int) => ([(14, .int .i64 i), (13, .int .i64 sm), (5, .ob 0), (9, .ob 1)], [.row 1 ts, .row 3 ps], ks.length - i, (0 ≤ i ∧ i ≤ ks.length) ∧ sm = (ownS l (ks.take i.toNat) : Nat))) [0, 1] ((0, 0)) (by dsimp only; exact ⟨by omega, by rfl⟩) fun i sm hi Kn hN => ?_
        obtain ⟨⟨i0, i1⟩, hsm⟩ := hi
        as_aux_lemma =>
          have hob := hown i
          have hal := hall i
          refine lenL hk fun n2 hn2 _ => ?_
          conv => cbv
          refine ltI (fun hlt => ?_) (fun hge => ?_) <;> conv => cbv
          · refine idxL (R := strR) hk (by omega) fun k hkk => ?_
            conv => cbv
            have hst := fun n hn => ownS_step (l := l) (n := n) i0 hkk hn
            have hol : (ofKeeper l k).length ≤ l.length := List.length_filter_le ..
            refine idxV (R := strR) hk (by omega) hkk ?_
            conv => cbv
            refine callLI (R := Dut.cs) (k := 3) (dutiesOf_ k hps (by omega)) (fun os three hos hthree => ?_)
            rw [dutiesR_ok hok] at hos hthree
            simp only at hos hthree
            subst hthree
            conv => cbv
            refine idxV (R := strR) hk (by omega) hkk ?_
            conv => cbv
            refine idxV (R := strR) hk (by omega) hkk ?_
            conv => cbv
            as_aux_lemma =>
              refine callII (leastRest_ k hps) (fun rest four hrs4 hfour => ?_)
              conv => cbv
              rcases least_cases hpo hok k with ⟨e, hle⟩ | ⟨m, e, hle⟩
              all_goals (rw [e] at hrs4 hfour; simp only at hrs4 hfour; subst hfour; (try conv => cbv))
              all_goals
                repeat' first
                  | (refine hN _ _ [0, 1] rfl ⟨?_, ?_⟩)
                  | ((first
                 | refine eqT (a := 0) (b := 0) rfl ?_
                 | refine eqF (a := 6) (b := 0) (by decide) ?_
                 | refine ltF (a := rest) (b := 480) (by omega) ?_
                 | refine lenL hos (fun n3 hn3 _ => ?_)
                 | refine ltF (a := 1) (by omega) ?_
                 | refine B0 ?_|refine B1 ?_ ?_) <;> intros <;> (try conv => cbv))
              all_goals (try clear hN)
              all_goals first
                | omega
                | (rw [hst _ (by assumption)]; omega)
                | trace_state
          clear hN
          as_aux_lemma =>
            refine eqT (a := sm) (b := count) (by omega) ?_
            conv => cbv
            clear hal hob hsm hall hown hgap htm hmc
            as_aux_lemma =>
              refine callSI (drawAddDuty_ hc' hb') ?_
              rintro r ys ⟨q, rq, dk, df, du, rfl, hq, hql, rfl⟩
              conv => cbv
              refine callLI (R := Dut.cs) (k := 3) (addDuty_ dk df du hq) (fun ns five hns hfive => ?_)
              conv => cbv
              rcases add_casesD q ⟨dk, df, du⟩ with ⟨hput, h5⟩ | ⟨he, h5⟩
              rotate_left
              · rw [he] at hns
                simp only [List.map_nil] at hns
                subst hns
                refine eqF (a := five) (b := 0) (by omega) ?_
                conv => cbv
                refine lenI fun n5 hn5 _ => ?_
                simp only [List.length_nil] at hn5
                conv => cbv
                refine eqT (a := n5) (b := 0) (by omega) ?_
                conv => cbv
                exact hK _ rfl
              rw [h5] at hfive
              subst hfive
              refine eqT (a := 0) (b := 0) rfl ?_
              conv => cbv
              have hdr := hput.drop
              have hon := hput.on
              have hmi := hput.mins
              have hvl := hput.valid
              have hdk := hput.2.1
              simp only at hdr hon hmi
              obtain ⟨_, hd1, hd2, hd3, hd4⟩ := id hdk
              unfold TimeOk at hd1 hd2
              simp only at hd1 hd2 hd3 hd4
              obtain ⟨M, hM⟩ : ∃ M, M = (addDutyR q ⟨dk, df, du⟩).1 := ⟨_, rfl⟩
              rw [← hM] at hns hdr hon hmi hvl
              clear hput hM h5
              as_aux_lemma =>
                refine callLI (R := Dut.cs) (k := 3) (dropDuty_ dk df hns) (fun ls six hls hsix => ?_)
                rw [hdr] at hls hsix
                simp only at hls hsix
                subst hsix
                conv => cbv
                refine callLI (R := strR) (k := 1) (onDuty_ df hns) (fun ws seven hws hseven => ?_)
                conv => cbv
                rw [hon.1] at hseven
                subst hseven
                obtain ⟨O, hO⟩ : ∃ O, O = (onDutyR M df).1 := ⟨_, rfl⟩
                rw [← hO] at hws hon
                clear hO
                as_aux_lemma =>
                  refine callII (minutesOf_ dk df du hns) (fun mi eight hmi2 height => ?_)
                  rw [hmi] at hmi2 height
                  simp only at hmi2 height
                  subst height
                  conv => cbv
                  refine callI (dutyText_ dk df du) (fun s hs => ?_)
                  conv => cbv
                  refine callI (readDuty_ ⟨dk, df, du⟩ s hdk hs (by rw [hs]; exact Nat.le_trans (dtext_size hdk) (by decide))) (fun p hp => ?_)
                  subst hp
                  conv => cbv
                  as_aux_lemma =>
                    refine loop2 [24, 26, 27, 28, 30] [32, 31, 19, 20, 21, 23, 25, 29] (fun (i : Int) (fd : Bool) => ([(32, .int .i64 i), (31, .bool fd), (19, .ob 0), (20, .pb 1 0), (21, .ob 2), (23, .ob 3), (25, .ob 4), (29, .pb 5 0)], [.row 3 rq, .box [.str dk, .int .i64 df, .int .i64 du], .row 3 ns, .row 3 ls, .row 1 ws, .box [.str dk, .int .i64 df, .int .i64 du]], O.length - i, (0 ≤ i ∧ i ≤ O.length) ∧ (fd = true ↔ dk ∈ O.take i.toNat))) [2, 3, 4, 5, 6, 7] ((0, false)) (by dsimp only; exact ⟨by omega, by simp⟩) fun i fd hi Kn hN => ?_
                    obtain ⟨⟨j0, j1⟩, hfd⟩ := hi
                    (rcases fd with _ | _) <;> (try conv => cbv)
                    · as_aux_lemma =>
                        refine lenL hws fun n4 hn4 _ => ?_
                        conv => cbv
                        refine ltI (fun hlt => ?_) (fun hge => ?_) <;> conv => cbv
                        · obtain ⟨v, hv⟩ : ∃ v, O[i.toNat]? = some v := ⟨_, List.getElem?_eq_getElem (by omega)⟩
                          repeat' first
                            | (refine hN _ _ [0, 1, 2, 3, 4, 5] rfl ⟨?_, ?_⟩)
                            | ((first
                           | refine idxV (R := strR) hws (by omega) hv ?_
                           | refine B0 ?_|refine B1 ?_ ?_) <;> intros <;> (try conv => cbv))
                          all_goals (try clear hN)
                          all_goals first
                            | omega
                            | (exact ⟨fun _ => mem_take_mono (by omega) (hfd.1 rfl), fun _ => rfl⟩)
                            | (rw [mem_take_step j0 hv (by assumption)]; exact ⟨fun _ => .inr (by assumption), fun _ => rfl⟩)
                            | (rw [mem_take_step j0 hv (by assumption)]; exact ⟨fun h => absurd h (by decide), fun h => h.elim (fun h => hfd.2 h) (fun h => absurd h (by assumption))⟩)
                            | trace_state
                        · exact absurd (hfd.2 (by rw [List.take_of_length_le (by omega)]; exact hon.2)) (by decide)
                    · as_aux_lemma =>
                        refine lenL hws fun n4 hn4 _ => ?_
                        conv => cbv
                        refine ltI (fun hlt => ?_) (fun hge => ?_) <;> conv => cbv
                        · obtain ⟨v, hv⟩ : ∃ v, O[i.toNat]? = some v := ⟨_, List.getElem?_eq_getElem (by omega)⟩
                          repeat' first
                            | (refine hN _ _ [0, 1, 2, 3, 4, 5] rfl ⟨?_, ?_⟩)
                            | ((first
                           | refine idxV (R := strR) hws (by omega) hv ?_
                           | refine B0 ?_|refine B1 ?_ ?_) <;> intros <;> (try conv => cbv))
                          all_goals (try clear hN)
                          all_goals first
                            | omega
                            | (exact ⟨fun _ => mem_take_mono (by omega) (hfd.1 rfl), fun _ => rfl⟩)
                            | (rw [mem_take_step j0 hv (by assumption)]; exact ⟨fun _ => .inr (by assumption), fun _ => rfl⟩)
                            | (rw [mem_take_step j0 hv (by assumption)]; exact ⟨fun h => absurd h (by decide), fun h => h.elim (fun h => hfd.2 h) (fun h => absurd h (by assumption))⟩)
                            | trace_state
                        ·
                          repeat' first
                            | ((first
                           | refine eqT (a := 0) (b := 0) rfl ?_
                           | refine callPT (sameDuties_ hls hq) rfl ?_
                           | refine sub64 (a := du) (b := df) (by omega) (fun dd hdd2 => ?_)
                           | refine eqT (a := mi) (by omega) ?_
                           | refine aeqI (fun hq2 => ?_) (fun hq2 => absurd (by simp [pairsP]) hq2)
                           | refine callPT (sValidDuties_ hns) hvl ?_
                           | refine B0 ?_|refine B1 ?_ ?_) <;> intros <;> (try conv => cbv))
                          all_goals first
                            | exact hK _ rfl
                            | (exfalso; omega)
                            | trace_state
    · as_aux_lemma =>
        refine ltF (a := 0) (b := count) (by omega) ?_
        conv => cbv
        refine loop2 [1, 7] [14, 13, 5, 9] (fun (i sm : Int) => ([(14, .int .i64 i), (13, .int .i64 sm), (5, .ob 0), (9, .ob 1)], [.row 1 ts, .row 3 ps], ks.length - i, (0 ≤ i ∧ i ≤ ks.length) ∧ sm = (ownS l (ks.take i.toNat) : Nat))) [0, 1] ((0, 0)) (by dsimp only; exact ⟨by omega, by rfl⟩) fun i sm hi Kn hN => ?_
        obtain ⟨⟨i0, i1⟩, hsm⟩ := hi
        as_aux_lemma =>
          have hob := hown i
          have hal := hall i
          refine lenL hk fun n2 hn2 _ => ?_
          conv => cbv
          refine ltI (fun hlt => ?_) (fun hge => ?_) <;> conv => cbv
          · refine idxL (R := strR) hk (by omega) fun k hkk => ?_
            conv => cbv
            have hst := fun n hn => ownS_step (l := l) (n := n) i0 hkk hn
            have hol : (ofKeeper l k).length ≤ l.length := List.length_filter_le ..
            refine idxV (R := strR) hk (by omega) hkk ?_
            conv => cbv
            refine callLI (R := Dut.cs) (k := 3) (dutiesOf_ k hps (by omega)) (fun os three hos hthree => ?_)
            rw [dutiesR_ok hok] at hos hthree
            simp only at hos hthree
            subst hthree
            conv => cbv
            refine idxV (R := strR) hk (by omega) hkk ?_
            conv => cbv
            refine idxV (R := strR) hk (by omega) hkk ?_
            conv => cbv
            as_aux_lemma =>
              refine callII (leastRest_ k hps) (fun rest four hrs4 hfour => ?_)
              conv => cbv
              rcases least_cases hpo hok k with ⟨e, hle⟩ | ⟨m, e, hle⟩
              all_goals (rw [e] at hrs4 hfour; simp only at hrs4 hfour; subst hfour; (try conv => cbv))
              all_goals
                repeat' first
                  | (refine hN _ _ [0, 1] rfl ⟨?_, ?_⟩)
                  | ((first
                 | refine eqT (a := 0) (b := 0) rfl ?_
                 | refine eqF (a := 6) (b := 0) (by decide) ?_
                 | refine ltF (a := rest) (b := 480) (by omega) ?_
                 | refine lenL hos (fun n3 hn3 _ => ?_)
                 | refine ltF (a := 1) (by omega) ?_
                 | refine B0 ?_|refine B1 ?_ ?_) <;> intros <;> (try conv => cbv))
              all_goals (try clear hN)
              all_goals first
                | omega
                | (rw [hst _ (by assumption)]; omega)
                | trace_state
          clear hN
          as_aux_lemma =>
            refine eqT (a := sm) (b := count) (by omega) ?_
            conv => cbv
            clear hal hob hsm hall hown hgap htm hmc
            as_aux_lemma =>
              refine callSI (drawAddDuty_ hc' hb') ?_
              rintro r ys ⟨q, rq, dk, df, du, rfl, hq, hql, rfl⟩
              conv => cbv
              refine callLI (R := Dut.cs) (k := 3) (addDuty_ dk df du hq) (fun ns five hns hfive => ?_)
              conv => cbv
              rcases add_casesD q ⟨dk, df, du⟩ with ⟨hput, h5⟩ | ⟨he, h5⟩
              rotate_left
              · rw [he] at hns
                simp only [List.map_nil] at hns
                subst hns
                refine eqF (a := five) (b := 0) (by omega) ?_
                conv => cbv
                refine lenI fun n5 hn5 _ => ?_
                simp only [List.length_nil] at hn5
                conv => cbv
                refine eqT (a := n5) (b := 0) (by omega) ?_
                conv => cbv
                exact hK _ rfl
              rw [h5] at hfive
              subst hfive
              refine eqT (a := 0) (b := 0) rfl ?_
              conv => cbv
              have hdr := hput.drop
              have hon := hput.on
              have hmi := hput.mins
              have hvl := hput.valid
              have hdk := hput.2.1
              simp only at hdr hon hmi
              obtain ⟨_, hd1, hd2, hd3, hd4⟩ := id hdk
              unfold TimeOk at hd1 hd2
              simp only at hd1 hd2 hd3 hd4
              obtain ⟨M, hM⟩ : ∃ M, M = (addDutyR q ⟨dk, df, du⟩).1 := ⟨_, rfl⟩
              rw [← hM] at hns hdr hon hmi hvl
              clear hput hM h5
              as_aux_lemma =>
                refine callLI (R := Dut.cs) (k := 3) (dropDuty_ dk df hns) (fun ls six hls hsix => ?_)
                rw [hdr] at hls hsix
                simp only at hls hsix
                subst hsix
                conv => cbv
                refine callLI (R := strR) (k := 1) (onDuty_ df hns) (fun ws seven hws hseven => ?_)
                conv => cbv
                rw [hon.1] at hseven
                subst hseven
                obtain ⟨O, hO⟩ : ∃ O, O = (onDutyR M df).1 := ⟨_, rfl⟩
                rw [← hO] at hws hon
                clear hO
                as_aux_lemma =>
                  refine callII (minutesOf_ dk df du hns) (fun mi eight hmi2 height => ?_)
                  rw [hmi] at hmi2 height
                  simp only at hmi2 height
                  subst height
                  conv => cbv
                  refine callI (dutyText_ dk df du) (fun s hs => ?_)
                  conv => cbv
                  refine callI (readDuty_ ⟨dk, df, du⟩ s hdk hs (by rw [hs]; exact Nat.le_trans (dtext_size hdk) (by decide))) (fun p hp => ?_)
                  subst hp
                  conv => cbv
                  as_aux_lemma =>
                    refine loop2 [24, 26, 27, 28, 30] [32, 31, 19, 20, 21, 23, 25, 29] (fun (i : Int) (fd : Bool) => ([(32, .int .i64 i), (31, .bool fd), (19, .ob 0), (20, .pb 1 0), (21, .ob 2), (23, .ob 3), (25, .ob 4), (29, .pb 5 0)], [.row 3 rq, .box [.str dk, .int .i64 df, .int .i64 du], .row 3 ns, .row 3 ls, .row 1 ws, .box [.str dk, .int .i64 df, .int .i64 du]], O.length - i, (0 ≤ i ∧ i ≤ O.length) ∧ (fd = true ↔ dk ∈ O.take i.toNat))) [2, 3, 4, 5, 6, 7] ((0, false)) (by dsimp only; exact ⟨by omega, by simp⟩) fun i fd hi Kn hN => ?_
                    obtain ⟨⟨j0, j1⟩, hfd⟩ := hi
                    (rcases fd with _ | _) <;> (try conv => cbv)
                    · as_aux_lemma =>
                        refine lenL hws fun n4 hn4 _ => ?_
                        conv => cbv
                        refine ltI (fun hlt => ?_) (fun hge => ?_) <;> conv => cbv
                        · obtain ⟨v, hv⟩ : ∃ v, O[i.toNat]? = some v := ⟨_, List.getElem?_eq_getElem (by omega)⟩
                          repeat' first
                            | (refine hN _ _ [0, 1, 2, 3, 4, 5] rfl ⟨?_, ?_⟩)
                            | ((first
                           | refine idxV (R := strR) hws (by omega) hv ?_
                           | refine B0 ?_|refine B1 ?_ ?_) <;> intros <;> (try conv => cbv))
                          all_goals (try clear hN)
                          all_goals first
                            | omega
                            | (exact ⟨fun _ => mem_take_mono (by omega) (hfd.1 rfl), fun _ => rfl⟩)
                            | (rw [mem_take_step j0 hv (by assumption)]; exact ⟨fun _ => .inr (by assumption), fun _ => rfl⟩)
                            | (rw [mem_take_step j0 hv (by assumption)]; exact ⟨fun h => absurd h (by decide), fun h => h.elim (fun h => hfd.2 h) (fun h => absurd h (by assumption))⟩)
                            | trace_state
                        · exact absurd (hfd.2 (by rw [List.take_of_length_le (by omega)]; exact hon.2)) (by decide)
                    · as_aux_lemma =>
                        refine lenL hws fun n4 hn4 _ => ?_
                        conv => cbv
                        refine ltI (fun hlt => ?_) (fun hge => ?_) <;> conv => cbv
                        · obtain ⟨v, hv⟩ : ∃ v, O[i.toNat]? = some v := ⟨_, List.getElem?_eq_getElem (by omega)⟩
                          repeat' first
                            | (refine hN _ _ [0, 1, 2, 3, 4, 5] rfl ⟨?_, ?_⟩)
                            | ((first
                           | refine idxV (R := strR) hws (by omega) hv ?_
                           | refine B0 ?_|refine B1 ?_ ?_) <;> intros <;> (try conv => cbv))
                          all_goals (try clear hN)
                          all_goals first
                            | omega
                            | (exact ⟨fun _ => mem_take_mono (by omega) (hfd.1 rfl), fun _ => rfl⟩)
                            | (rw [mem_take_step j0 hv (by assumption)]; exact ⟨fun _ => .inr (by assumption), fun _ => rfl⟩)
                            | (rw [mem_take_step j0 hv (by assumption)]; exact ⟨fun h => absurd h (by decide), fun h => h.elim (fun h => hfd.2 h) (fun h => absurd h (by assumption))⟩)
                            | trace_state
                        ·
                          repeat' first
                            | ((first
                           | refine eqT (a := 0) (b := 0) rfl ?_
                           | refine callPT (sameDuties_ hls hq) rfl ?_
                           | refine sub64 (a := du) (b := df) (by omega) (fun dd hdd2 => ?_)
                           | refine eqT (a := mi) (by omega) ?_
                           | refine aeqI (fun hq2 => ?_) (fun hq2 => absurd (by simp [pairsP]) hq2)
                           | refine callPT (sValidDuties_ hns) hvl ?_
                           | refine B0 ?_|refine B1 ?_ ?_) <;> intros <;> (try conv => cbv))
                          all_goals first
                            | exact hK _ rfl
                            | (exfalso; omega)
                            | trace_state
end Go.Proofs.YtnfjhadaclcgeaaGreatDoor
