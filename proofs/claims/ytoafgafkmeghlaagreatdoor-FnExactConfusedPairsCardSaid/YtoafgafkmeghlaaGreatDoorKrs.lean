/- Contracts: the reference's phases of a character, colours. -/
import Derived.Test.YtoafgafkmeghlaaGreatDoorKB
import Derived.Test.YtoafgafkmeghlaaGreatDoorKC
namespace Go.Proofs.YtoafgafkmeghlaaGreatDoor
open Go Go.RowKit Classical
set_option maxRecDepth 100000
set_option maxHeartbeats 2000000
set_option linter.unusedVariables false
set_option linter.unusedSimpArgs false
set_option maxHeartbeats 4000000
theorem l18Tol_ (n : Int) : AC Tryz.prog 19 [.int .i64 n] AV.bool (bP (0 ≤ n ∧ n ≤ 20)) := by
  refine ac Tryz.func19 (by kernel_rfl) (.bool _) fun E K hE hK => ?_
  conv => cbv
  repeat' first
    | ((first
   | refine q0 hE ?_
   | refine callP hE (in_ _ _ _) (fun _ => ?_) (fun _ => ?_)
   | refine B0 hE ?_|refine B1 hE (fun _=>?_) fun _=>?_|refine B3 hE fun _ _ _=>?_|refine B2 hE fun _ _=>?_|refine B4 hE fun _ _ _ _=>?_) <;> (try conv => cbv))
  all_goals (try clear hN)
  all_goals first
    | (omega)
    | (refine finB hK (bP_true.2 ?_); first | omega | grind)
    | (refine finB hK (bP_false.2 ?_); first | omega | (intro h; grind))
    | (refine ⟨by omega, Up.succ (by assumption) ?_ (by assumption)⟩; grind)
    | (refine hK _ ?_; simp_all [atup]; done)
    | (grind)
theorem l05Contains_ (c : UInt8) (d s : ByteArray) (hs : s = colS c true) (hd : d.size ≤ 1000) : AC Tryz.prog 75 [.str d, .str s] AV.bool (bP (hasC d c)) := by
  refine ac Tryz.func75 (by kernel_rfl) (.bool _) fun E K hE hK => ?_
  conv => cbv
  refine loopC hE (ι := Int) [0, 1] [5] (fun q => (fun (i : Int) => [(5, .int .i64 i)]) q) (fun q => (fun (i : Int) => []) q) (fun q => (fun (i : Int) => (d.size - i).toNat) q) (fun q => (fun (i : Int) => (0 ≤ i ∧ i ≤ d.size) ∧ Up (fun j => ¬ d.data.getD j 0 = c) i) q) [] (by decide) (0) (by conv => lhs; cbv) (by conv => lhs; cbv) rfl rfl (by dsimp only; exact ⟨by omega, .zero (by omega)⟩) fun i hi Kn hN => ?_
  (try dsimp only at hi)
  conv => cbv
  obtain ⟨⟨h0, h1⟩, hinv⟩ := hi
  repeat' first
    | (refine slenI hE (fun n hn _ => ?_); (try conv => cbv))
    | (refine add64 hE (a := i) (by omega) (fun hi2 hhi => ?_); (try conv => cbv))
    | (refine ssub2 hE (by omega) (fun u hu => ?_); have huc := one_col (y := i.toNat) hu (by omega) hhi (by omega); (try conv => cbv))
    | (refine seqI hE (fun heq => ?_) (fun hne => ?_) <;> (try conv => cbv))
    | (refine hN _ _ [] (by decide) rfl ⟨?_, ?_⟩ ?_ <;> (try dsimp only))
    | ((first
   | refine q0 hE ?_
   | refine B0 hE ?_|refine B1 hE (fun _=>?_) fun _=>?_|refine B3 hE fun _ _ _=>?_|refine B2 hE fun _ _=>?_|refine B4 hE fun _ _ _ _=>?_) <;> (try conv => cbv))
  all_goals (try clear hN)
  all_goals first
    | omega
    | (refine finB hK (bP_true.2 ⟨i.toNat, by omega, ?_⟩); rw [huc, hs] at heq; simpa [colS] using heq)
    | exact hinv.succ (fun e => hne (by rw [huc, hs, e])) (by assumption)
    | (refine finB hK (bP_false.2 fun h => ?_); obtain ⟨j, hj, hjc⟩ := h; exact hinv j (by omega) hjc)
    | trace_state
theorem l05PhasesI_ (c : UInt8) (p : Int) (hp : 0 ≤ p ∧ p ≤ 600) (s le co : ByteArray) (hsc : s = colS c true) {rg : List (List AV)} {t : Bool} : AC Tryz.prog 77 [.pp [.int .i64 3, .sl t 1 rg, .str le, .str co, .int .i64 p], .str s] (fun l : List Ph => .sl true 2 (l.map (phR c))) [(true, p / 2), (false, p / 2)] := by
  refine ac Tryz.func77 (by kernel_rfl) (.ph _ _) fun E K hE hK => ?_
  conv => cbv
  repeat' first
    | (refine quo64 hE (by omega) (fun d hd => ?_); (try conv => cbv))
    | ((first
   | refine q0 hE ?_
   | refine B0 hE ?_|refine B1 hE (fun _=>?_) fun _=>?_|refine B3 hE fun _ _ _=>?_|refine B2 hE fun _ _=>?_|refine B4 hE fun _ _ _ _=>?_) <;> (try conv => cbv))
  all_goals (refine hK _ ?_; subst_vars; rfl)
theorem alt_end {k : Int} {g : List Int} {le : ByteArray} {p rest : Int} (h1 : k ≠ 1) (h3 : k ≠ 3) (hs : ShapeOk k g le) (hr : rest = if Steady k g then gapR k else p - (timesR k g le).sum) : altP k (timesR k g le ++ [rest]) (timesR k g le ++ [rest]).length = phsR k g le p := by
  have hpar := timesR_par hs
  rw [phsR, if_neg h1, if_neg h3, List.length_append]
  show altP k _ ((timesR k g le).length + 1) = _
  rw [altP, altP_app k _ _ _ (Nat.le_refl _), List.getD_eq_getElem?_getD, List.getElem?_append_right (Nat.le_refl _), Nat.sub_self]
  have hl : litI k (timesR k g le).length = decide (k = 2) := by
    unfold litI
    congr 1
    have : ¬ (timesR k g le).length % 2 = 0 := by omega
    simp [this]
  rw [hl]
  by_cases hst : Steady k g
  · rw [if_pos hst] at hr ⊢
    have hk : k = 6 ∨ k = 7 := by rcases hst with h | h <;> omega
    have hg : g = [] := by
      rcases hst with h | h
      · omega
      · exact h.2
    subst hg
    rw [timesR_steady hk (hs.noL hk), hr]
    have e1 : litI k 0 = true := by unfold litI; simp; omega
    have e2 : decide (k = 2) = false := by simp; omega
    rw [e2]
    show altP k [flashR k] (0 + 1) ++ _ = _
    rw [altP, e1]; rfl
  · rw [if_neg hst] at hr ⊢
    rw [hr]; rfl
theorem l05PhasesF_ (c : UInt8) (p : Int) (s le co : ByteArray) (hsc : s = colS c true) {rg : List (List AV)} {t : Bool} : AC Tryz.prog 77 [.pp [.int .i64 1, .sl t 1 rg, .str le, .str co, .int .i64 p], .str s] (fun l : List Ph => .sl true 2 (l.map (phR c))) [(true, 10)] := by
  refine ac Tryz.func77 (by kernel_rfl) (.ph _ _) fun E K hE hK => ?_
  conv => cbv
  repeat' first
    | ((first
   | refine q0 hE ?_
   | refine B0 hE ?_|refine B1 hE (fun _=>?_) fun _=>?_|refine B3 hE fun _ _ _=>?_|refine B2 hE fun _ _=>?_|refine B4 hE fun _ _ _ _=>?_) <;> (try conv => cbv))
  all_goals (refine hK _ ?_; subst_vars; rfl)
theorem l05PhasesG_ (c : UInt8) (k p : Int) (s le co : ByteArray) (hsc : s = colS c true) {rg : List (List AV)} {t : Bool} {g : List Int} (hl : rg = g.map intR) (hok : ChrOk k g le co p) (h1 : k ≠ 1) (h3 : k ≠ 3) : AC Tryz.prog 77 [.pp [.int .i64 k, .sl t 1 rg, .str le, .str co, .int .i64 p], .str s] (fun l : List Ph => .sl true 2 (l.map (phR c))) (phsR k g le p) := by
  refine ac Tryz.func77 (by kernel_rfl) (.ph _ _) fun E K hE hK => ?_
  conv => cbv
  have hs := hok.2.1
  have htb := timesR_bd hs
  have hsb := sum_bd htb.2
  have hkk := hs.kind
  have hp : 0 ≤ p ∧ p ≤ 600 := by
    by_cases hst : Steady k g
    · have := hok.2.2.1 hst; omega
    · have h1 := hok.2.2.2 hst
      have h2 := leastR_bd hs
      omega
  have hend : ∀ rest, _ → _ := fun rest => alt_end (p := p) (rest := rest) h1 h3 hs
  obtain ⟨T, hT⟩ : ∃ T, T = timesR k g le := ⟨_, rfl⟩
  rw [← hT] at hend
  have hT8 : T.length ≤ 80 := by rw [hT]; exact htb.1
  have hTs : 0 ≤ T.sum ∧ T.sum ≤ 100 * T.length := by rw [hT]; exact hsb
  refine eqI hE (fun h => absurd h h1) (fun _ => ?_)
  conv => cbv
  refine eqI hE (fun h => absurd h h3) (fun _ => ?_)
  conv => cbv
  refine callR hE (sTimes_ k p le co hl hs ⟨h1, h3⟩) (fun ts hts => ?_)
  rw [← hT] at hts
  conv => cbv
  repeat' first
    | (refine callI hE (l05Total_ (by assumption) (by rw [hT]; exact htb.2) (by rw [hT]; omega)) (fun sm hsm => ?_); (try conv => cbv))
    | (refine sub64 hE (a := p) (b := sm) (by omega) (fun d hd => ?_); (try conv => cbv))
    | (refine callP hE (l05Steady_ k p le co hl) (fun hst => ?_) (fun hst => ?_) <;> (try conv => cbv))
    | (refine callI hE (l05Gap_ k) (fun gp hgp => ?_); (try conv => cbv))
    | (refine catP (R := intR) (v := gp) hE hts (by rfl) (by omega) (fun ts2 hts2 => ?_); (have hr := hend gp (by rw [if_pos hst]; exact hgp)); (obtain ⟨U, hU⟩ : ∃ U, U = T ++ [gp] := ⟨_, rfl⟩); rw [← hU] at hr hts2; (have hUl : U.length = T.length + 1 := by rw [hU]; simp); (try conv => cbv))
    | (refine catP (R := intR) (v := d) hE hts (by rfl) (by omega) (fun ts2 hts2 => ?_); (have hr := hend d (by rw [if_neg hst, ← hsm]; exact hd)); (obtain ⟨U, hU⟩ : ∃ U, U = T ++ [d] := ⟨_, rfl⟩); rw [← hU] at hr hts2; (have hUl : U.length = T.length + 1 := by rw [hU]; simp); (try conv => cbv))
    | ((refine loopC hE (ι := Int × (List (List AV))) [0, 1] [8, 5, 7] (fun q => (fun (i : Int) (es : List (List AV)) => [(8, .int .i64 i), (5, .ob 0), (7, .ob 1)]) q.1 q.2) (fun q => (fun (i : Int) (es : List (List AV)) => [.row 1 ts2, .row 2 es]) q.1 q.2) (fun q => (fun (i : Int) (es : List (List AV)) => (U.length - i).toNat) q.1 q.2) (fun q => (fun (i : Int) (es : List (List AV)) => (0 ≤ i ∧ i ≤ U.length) ∧ es = (altP k U i.toNat).map (phR c)) q.1 q.2) [2, 3] (by decide) ((0, [])) (by conv => lhs; cbv) (by conv => lhs; cbv) rfl rfl (by dsimp only; exact ⟨by omega, rfl⟩) fun q hi2 Kn2 hN2 => ?_; obtain ⟨i, es⟩ := q; (try dsimp only at hi2); conv => cbv); obtain ⟨⟨i0, i1⟩, h2⟩ := hi2; have hal := altP_len k U i.toNat)
    | (refine lenL hE hts2 (fun n hn _ => ?_); (try conv => cbv))
    | (refine idxL (R := intR) (i := i) hE hts2 (by omega) (fun v hv => ?_); (try conv => cbv))
    | (refine rem64 hE (a := i) (by omega) (fun m hm => ?_); (try conv => cbv))
    | (refine eqI hE (a := m) (b := 1) (fun heq => have he0 : m ≠ 0 := (by omega); ?_) (fun hne => have he0 : m = 0 := (by omega); ?_) <;> (try conv => cbv))
    | (refine eqI hE (a := k) (b := 2) (fun hk => ?_) (fun hk => ?_) <;> (try conv => cbv))
    | (refine hN2 (_, _) _ [0, 2] (by decide) rfl ⟨?_, ?_⟩ ?_ <;> (try dsimp only))
    | (refine hN2 (_, _) _ [0, 3] (by decide) rfl ⟨?_, ?_⟩ ?_ <;> (try dsimp only))
    | ((first
   | refine q0 hE ?_
   | refine catP (R := phR c) (v := (litI k i.toNat, v)) hE h2 (by first | exact ph_at (lit1 i0 hm he0 hk) | exact ph_at (lit2 hsc i0 hm he0 hk) | exact ph_at (lit3 hsc i0 hm he0 hk) | exact ph_at (lit4 i0 hm he0 hk)) (by omega) (fun _ _ => ?_)
   | refine B0 hE ?_|refine B1 hE (fun _=>?_) fun _=>?_|refine B3 hE fun _ _ _=>?_|refine B2 hE fun _ _=>?_|refine B4 hE fun _ _ _ _=>?_) <;> (try conv => cbv))
  all_goals (try clear hN2)
  all_goals first
    | omega
    | (rename_i _ h5 _ h6; rw [h5]; exact congrArg (List.map (phR c)) (alt_put (k := k) i0 hv h6 rfl))
    | (refine hK _ ?_; rw [h2, show i.toNat = U.length by omega, hr]; rfl)
    | trace_state
theorem l05Phases_ (c : UInt8) (k p : Int) (s le co : ByteArray) (hsc : s = colS c true) {rg : List (List AV)} {t : Bool} {g : List Int} (hl : rg = g.map intR) (hok : ChrOk k g le co p) : AC Tryz.prog 77 [.pp [.int .i64 k, .sl t 1 rg, .str le, .str co, .int .i64 p], .str s] (fun l : List Ph => .sl true 2 (l.map (phR c))) (phsR k g le p) := by
  by_cases h1 : k = 1
  · subst h1
    exact l05PhasesF_ c p s le co hsc
  by_cases h3 : k = 3
  · subst h3
    have hp : 0 ≤ p ∧ p ≤ 600 := by
      have hns : ¬ Steady 3 g := by rintro (h | h) <;> omega
      have := hok.2.2.2 hns
      have h2 := leastR_bd hok.2.1
      omega
    exact l05PhasesI_ c p hp s le co hsc
  exact l05PhasesG_ c k p s le co hsc hl hok h1 h3
theorem l18Confused_ (k p k' p' z : Int) (hz : 0 ≤ z ∧ z ≤ 20) (le co le' co' : ByteArray) {rg rg' : List (List AV)} {t t' : Bool} {g g' : List Int} (hl : rg = g.map intR) (hl' : rg' = g'.map intR) (hok : ChrOk k g le co p) (hok' : ChrOk k' g' le' co' p') : AC Tryz.prog 46 [.pp [.int .i64 k, .sl t 1 rg, .str le, .str co, .int .i64 p], .pp [.int .i64 k', .sl t' 1 rg', .str le', .str co', .int .i64 p'], .int .i64 z] AV.bool (bP (confR ⟨k, g, le, co, p⟩ ⟨k', g', le', co', p'⟩ z)) := by
  refine ac Tryz.func46 (by kernel_rfl) (.bool _) fun E K hE hK => ?_
  conv => cbv
  have hco := hok.1
  have hph := phsR_ok hok
  have hph' := phsR_ok hok'
  have hc3 := hco.2.2
  have hc3' := hok'.1.2.2
  refine loopC hE (ι := Int) [0, 1, 2] [7] (fun q => (fun (y : Int) => [(7, .int .i64 y)]) q) (fun q => (fun (y : Int) => []) q) (fun q => (fun (y : Int) => (co.size - y).toNat) q) (fun q => (fun (y : Int) => (0 ≤ y ∧ y ≤ co.size) ∧ Up (fun j => ¬ hasC co' (co.data.getD j 0)) y) q) [] (by decide) (0) (by conv => lhs; cbv) (by conv => lhs; cbv) rfl rfl (by dsimp only; exact ⟨by omega, .zero (by omega)⟩) fun y hi Kn hN => ?_
  (try dsimp only at hi)
  conv => cbv
  obtain ⟨⟨h0, h1⟩, hinv⟩ := hi
  refine slenI hE fun n hn _ => ?_
  conv => cbv
  refine ltI hE (fun hlt => ?_) (fun hge => ?_) <;> conv => cbv
  · have hyl : y.toNat < co.size := by omega
    have hc0 : co.data.getD y.toNat 0 ≠ 0 := fun e => by
      have h2 := rk_ascii (hco.1 y.toNat hyl).1
      unfold chr at h2
      rw [e] at h2
      exact absurd h2.1 (by decide)
    repeat' first
      | (refine add64 hE (a := y) (by omega) (fun hi2 hhi => ?_); (try conv => cbv))
      | (refine ssub2 hE (by omega) (fun s hs => ?_); have hsc := one_col (y := y.toNat) hs (by omega) hhi hyl; (try conv => cbv))
      | (refine callP hE (l05Contains_ (co.data.getD y.toNat 0) co' s hsc (by omega)) (fun hb => ?_) (fun hb => ?_) <;> (try conv => cbv))
      | (refine callR hE (l05Phases_ (co.data.getD y.toNat 0) k p s le co hsc hl hok) (fun r1 hr1 => ?_); (try conv => cbv))
      | (refine callR hE (l05Phases_ (co.data.getD y.toNat 0) k' p' s le' co' hsc hl' hok') (fun r2 hr2 => ?_); (try conv => cbv))
      | (refine callP hE (l18Close_ (co.data.getD y.toNat 0) hc0 z hz hr1 hr2 hph hph') (fun hcl => ?_) (fun hcl => ?_) <;> (try conv => cbv))
      | (refine hN _ _ [] (by decide) rfl ⟨?_, ?_⟩ ?_ <;> (try dsimp only))
      | ((first
     | refine q0 hE ?_
     | refine B0 hE ?_|refine B1 hE (fun _=>?_) fun _=>?_|refine B3 hE fun _ _ _=>?_|refine B2 hE fun _ _=>?_|refine B4 hE fun _ _ _ _=>?_) <;> (try conv => cbv))
    all_goals (try clear hN)
    all_goals first
      | omega
      | exact finB hK (bP_true.2 ⟨⟨y.toNat, hyl, hb⟩, hcl⟩)
      | exact finB hK (bP_false.2 fun h => hcl h.2)
      | exact hinv.succ hb (by assumption)
      | trace_state
  · exact finB hK (bP_false.2 fun h => by
      obtain ⟨⟨j, hj, h1⟩, h2⟩ := h
      replace hj : j < co.size := hj
      exact hinv j (by omega) h1)
end Go.Proofs.YtoafgafkmeghlaaGreatDoor
