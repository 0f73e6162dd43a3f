/- Contracts: how many aids each observer sees; the law. -/
import Derived.Test.YtlfnlgbojbgcnaaGreatDoorGsm
namespace Go.Proofs.YtlfnlgbojbgcnaaGreatDoor
open Go Go.RowKit Classical
set_option maxRecDepth 100000
set_option maxHeartbeats 2000000
set_option linter.unusedVariables false
set_option linter.unusedSimpArgs false

theorem indexObserver0_ {rs : List (List AV)} {t : Bool} {l : List Obv} {g : FuncId} {p : Obv → Prop} (hl : rs = l.map Obv.cs) (hp : ∀ atX atY eye vis, AC Tryz.prog g (.agg [.int .i64 atX, .int .i64 atY, .int .i64 eye, .int .i64 vis] :: []) AV.bool (bP (p ⟨atX, atY, eye, vis⟩))) : AC Tryz.prog 147 [.sl t 4 rs, .fn g []] (AV.int .i64) (firstI p l) := by
  refine ac Tryz.func147 (by kernel_rfl) (.int _ _) fun E K hE hK => ?_
  conv => cbv
  refine lenL hE hl fun n hn hb => ?_
  conv => cbv
  refine loopC hE (ι := Int) [0, 1, 7] [8] (fun q => (fun (i : Int) => [(8, .int .i64 i)]) q) (fun q => (fun (i : Int) => []) q) (fun q => (fun (i : Int) => (l.length - i).toNat) q) (fun q => (fun (i : Int) => 0 ≤ i ∧ Up (fun j => ∀ v, l[j]? = some v → ¬ p v) i) q) [] (by decide) (0) (by conv => lhs; cbv) (by conv => lhs; cbv) rfl rfl (by dsimp only; exact ⟨by omega, .zero (by omega)⟩) fun i hi Kn hN => ?_
  (try dsimp only at hi)
  conv => cbv
  obtain ⟨h0, hinv⟩ := hi
  repeat' first
    | (refine hN _ _ [] (by decide) rfl ⟨?_, ?_⟩ ?_ <;> (try dsimp only))
    | ((first
   | refine q0 hE ?_
   | refine callP hE (hp _ _ _ _) (fun _ => ?_) (fun _ => ?_)
   | (refine idxL (R := Obv.cs) hE (by assumption) (by first | omega | (simp only [List.length_set, mix_len]; omega)) ?_; rintro ⟨⟩ _)
   | refine q1 hE ?_|refine q2 hE ?_|refine ltI hE (fun _=>?_) fun _=>?_|refine q4 hE ?_|refine q5 hE ?_|refine leI hE (fun _=>?_) fun _=>?_|refine q6 hE ?_|refine q7 hE ?_|refine eqI hE (fun _=>?_) fun _=>?_|refine q8 hE fun _ _=>?_|refine q9 hE fun _ _=>?_|refine addI hE fun _ _=>?_|refine subI hE fun _ _=>?_|refine qa hE fun _ _ _=>?_|refine len0 hE fun _ _=>?_|refine qb hE fun _ _=>?_|refine qc hE ?_|refine qd hE ?_|refine iteB (fun _=>?_) fun _=>?_|refine maxI hE fun _ _=>?_|refine minI hE fun _ _=>?_|refine seqI hE (fun _=>?_) fun _=>?_|refine qe hE fun _ _ _=>?_|refine slenI hE fun _ _ _=>?_|refine qf hE fun _ _ _ _=>?_|refine qg hE ?_|refine qh hE fun _ _=>?_|refine qi hE fun _ _=>?_|refine qj hE fun _ _=>?_|refine qk hE fun _ _=>?_|refine ql hE ?_) <;> (try conv => cbv))
  · refine hK _ ?_
    rw [firstI_in h0 (by assumption) (by assumption) hinv]; rfl
  · omega
  · refine hinv.succ ?_ (by assumption)
    clear hN; simp_all
  · omega
  · refine hK _ ?_
    rw [firstI_out (by omega) hinv]; rfl
theorem containsObserver0_ {rs : List (List AV)} {t : Bool} {l : List Obv} {g : FuncId} {p : Obv → Prop} (hl : rs = l.map Obv.cs) (hp : ∀ atX atY eye vis, AC Tryz.prog g (.agg [.int .i64 atX, .int .i64 atY, .int .i64 eye, .int .i64 vis] :: []) AV.bool (bP (p ⟨atX, atY, eye, vis⟩))) : AC Tryz.prog 114 [.sl t 4 rs, .fn g []] AV.bool (bP (∃ v ∈ l, p v)) := by
  refine ac Tryz.func114 (by kernel_rfl) (.bool _) fun E K hE hK => ?_
  conv => cbv
  refine callI hE (indexObserver0_ hl hp) fun y hy => ?_
  conv => cbv
  refine leI hE (fun h => ?_) (fun h => ?_) <;> conv => cbv
  · exact finB hK (bP_true.2 (firstI_ge.1 (by omega)))
  · exact finB hK (bP_false.2 fun h' => by have := firstI_ge.2 h'; omega)
def Obv.ok (o : Obv) : Prop := ObvOk o.atX o.atY o.eye o.vis
def AskOk (l : List Aid) (os : List Obv) : Prop := AidsOk l ∧ ∀ o ∈ os, o.ok
theorem areObservers1_ (atX atY eye vis : Int) : AC Tryz.prog 115 [.agg [.int .i64 atX, .int .i64 atY, .int .i64 eye, .int .i64 vis]] AV.bool (bP (¬ Obv.ok ⟨atX, atY, eye, vis⟩)) := by
  refine ac Tryz.func115 (by kernel_rfl) (.bool _) fun E K hE hK => ?_
  conv => cbv
  repeat' first
    | ((first
   | refine q0 hE ?_
   | refine callP hE (validObserver_ _ _ _ _) (fun _ => ?_) (fun _ => ?_)
   | refine q1 hE ?_|refine q2 hE ?_|refine ltI hE (fun _=>?_) fun _=>?_|refine q4 hE ?_|refine q5 hE ?_|refine leI hE (fun _=>?_) fun _=>?_|refine q6 hE ?_|refine q7 hE ?_|refine eqI hE (fun _=>?_) fun _=>?_|refine q8 hE fun _ _=>?_|refine q9 hE fun _ _=>?_|refine addI hE fun _ _=>?_|refine subI hE fun _ _=>?_|refine qa hE fun _ _ _=>?_|refine len0 hE fun _ _=>?_|refine qb hE fun _ _=>?_|refine qc hE ?_|refine qd hE ?_|refine iteB (fun _=>?_) fun _=>?_|refine maxI hE fun _ _=>?_|refine minI hE fun _ _=>?_|refine seqI hE (fun _=>?_) fun _=>?_|refine qe hE fun _ _ _=>?_|refine slenI hE fun _ _ _=>?_|refine qf hE fun _ _ _ _=>?_|refine qg hE ?_|refine qh hE fun _ _=>?_|refine qi hE fun _ _=>?_|refine qj hE fun _ _=>?_|refine qk hE fun _ _=>?_|refine ql hE ?_) <;> (try conv => cbv))
  all_goals first
    | exact finB hK (bP_false.2 fun h => h (by assumption))
    | exact finB hK (bP_true.2 (by assumption))
    | trace_state
theorem areObservers_ {rs ro : List (List AV)} {t t' b : Bool} {l : List Aid} {os : List Obv} (hl : rs = l.map (Aid.cs b)) (ho : ro = os.map Obv.cs) : AC Tryz.prog 73 [.sl t 16 rs, .sl t' 4 ro] AV.bool (bP (AskOk l os)) := by
  refine ac Tryz.func73 (by kernel_rfl) (.bool _) fun E K hE hK => ?_
  conv => cbv
  refine callP hE (validAids_ hl) (fun h1 => ?_) (fun h1 => ?_) <;> conv => cbv
  · refine callP hE (containsObserver0_ (p := fun o => ¬ Obv.ok o) ho areObservers1_) (fun h2 => ?_) (fun h2 => ?_) <;> conv => cbv
    · refine finB hK (bP_false.2 fun h => ?_)
      obtain ⟨o, g1, g2⟩ := h2
      exact g2 (h.2 o g1)
    · exact finB hK (bP_true.2 ⟨h1, fun o ho => Classical.byContradiction fun hn => h2 ⟨o, ho, hn⟩⟩)
  · exact finB hK (bP_false.2 fun h => h1 h.1)
noncomputable def askR (l : List Aid) (os : List Obv) : Int := if AskOk l os then (if os.length ≤ 16 then 0 else 5) else 1
theorem upAll {α : Type} {l : List α} {p : α → Prop} {i : Int} (h : Up (fun j => ∃ w, l[j]? = some w ∧ p w) i) (hi : l.length ≤ i) : ∀ w ∈ l, p w := fun w hw => by
  obtain ⟨j, hj⟩ := List.getElem?_of_mem hw
  obtain ⟨w', h1, h2⟩ := h j (by have := (List.getElem?_eq_some_iff.1 hj).1; omega)
  rw [hj] at h1; cases h1; exact h2
theorem l16Ask_ {rs ro : List (List AV)} {t t' b : Bool} {l : List Aid} {os : List Obv} (hl : rs = l.map (Aid.cs b)) (ho : ro = os.map Obv.cs) : AC Tryz.prog 72 [.sl t 16 rs, .sl t' 4 ro] (AV.int .i64) (askR l os) := by
  refine ac Tryz.func72 (by kernel_rfl) (.int _ _) fun E K hE hK => ?_
  conv => cbv
  refine callP hE (l12Ok_ hl) (fun h1 => ?_) (fun h1 => ?_) <;> conv => cbv
  · refine loopC hE (ι := Int) [1] [5] (fun q => (fun (i : Int) => [(5, .int .i64 i)]) q) (fun q => (fun (i : Int) => []) q) (fun q => (fun (i : Int) => (os.length - i).toNat) q) (fun q => (fun (i : Int) => 0 ≤ i ∧ Up (fun j => ∃ o, os[j]? = some o ∧ Obv.ok o) i) q) [] (by decide) (0) (by conv => lhs; cbv) (by conv => lhs; cbv) rfl rfl (by dsimp only; exact ⟨by omega, .zero (by omega)⟩) fun i hi Kn hN => ?_
    (try dsimp only at hi)
    conv => cbv
    obtain ⟨h0, hinv⟩ := hi
    repeat' first
      | (refine idxL (R := Obv.cs) hE ho (by omega) (fun o hv => ?_); obtain ⟨ox, oy, oe, ov⟩ := o; (try conv => cbv))
      | (refine hN _ _ [] (by decide) rfl ⟨?_, ?_⟩ ?_ <;> (try dsimp only))
      | ((first
     | refine q0 hE ?_
     | refine callP hE (l16One_ _ _ _ _) (fun _ => ?_) (fun _ => ?_)
     | refine q1 hE ?_|refine q2 hE ?_|refine ltI hE (fun _=>?_) fun _=>?_|refine q4 hE ?_|refine q5 hE ?_|refine leI hE (fun _=>?_) fun _=>?_|refine q6 hE ?_|refine q7 hE ?_|refine eqI hE (fun _=>?_) fun _=>?_|refine q8 hE fun _ _=>?_|refine q9 hE fun _ _=>?_|refine addI hE fun _ _=>?_|refine subI hE fun _ _=>?_|refine qa hE fun _ _ _=>?_|refine len0 hE fun _ _=>?_|refine qb hE fun _ _=>?_|refine qc hE ?_|refine qd hE ?_|refine iteB (fun _=>?_) fun _=>?_|refine maxI hE fun _ _=>?_|refine minI hE fun _ _=>?_|refine seqI hE (fun _=>?_) fun _=>?_|refine qe hE fun _ _ _=>?_|refine slenI hE fun _ _ _=>?_|refine qf hE fun _ _ _ _=>?_|refine qg hE ?_|refine qh hE fun _ _=>?_|refine qi hE fun _ _=>?_|refine qj hE fun _ _=>?_|refine qk hE fun _ _=>?_|refine ql hE ?_) <;> (try conv => cbv))
    all_goals (try clear hN)
    all_goals first
      | omega
      | exact hinv.succ ⟨_, hv, by assumption⟩ (by assumption)
      | (refine hK _ ?_; rw [askR, if_neg (fun h : AskOk l os => by have := h.2 _ (List.mem_of_getElem? hv); contradiction)]; rfl)
      | (refine hK _ ?_; rw [askR, if_pos ⟨h1, upAll hinv (by omega)⟩, if_neg (by omega)]; rfl)
      | (refine hK _ ?_; rw [askR, if_pos ⟨h1, upAll hinv (by omega)⟩, if_pos (by omega)]; rfl)
      | trace_state
  · exact hK _ (by rw [askR, if_neg fun h => h1 h.1]; rfl)
noncomputable def countO (l : List Aid) (o : Obv) : Int := ((seenL l o.atX o.atY o.eye o.vis).length : Int)
noncomputable def seenCountsR (l : List Aid) (os : List Obv) : List Int × Int := if askR l os = 0 then (os.map (countO l), 0) else ([], askR l os)
theorem seenCountsR_len (l : List Aid) (os : List Obv) : (seenCountsR l os).1.length ≤ os.length := by
  unfold seenCountsR
  split <;> simp
theorem askR_ok {l : List Aid} {os : List Obv} (h : AskOk l os) (h16 : os.length ≤ 16) : askR l os = 0 := by rw [askR, if_pos h, if_pos h16]
theorem askR_of {l : List Aid} {os : List Obv} (h : askR l os = 0) : AskOk l os ∧ os.length ≤ 16 := by
  unfold askR at h
  split at h
  · split at h
    · exact ⟨by assumption, by assumption⟩
    · omega
  · omega
set_option maxHeartbeats 4000000
theorem seenCounts_ {rs ro : List (List AV)} {t t' b : Bool} {l : List Aid} {os : List Obv} (hl : rs = l.map (Aid.cs b)) (ho : ro = os.map Obv.cs) : AC Tryz.prog 39 [.sl t 16 rs, .sl t' 4 ro] intLI (seenCountsR l os) := by
  refine ac Tryz.func39 (by kernel_rfl) (.intLI _) fun E K hE hK => ?_
  conv => cbv
  refine callP hE (areObservers_ hl ho) (fun hok => ?_) (fun hok => ?_) <;> conv => cbv
  · refine lenL hE ho fun n hn hb => ?_
    conv => cbv
    have h24 := hok.1.2
    repeat' first
      | ((refine loopC hE (ι := Int × (List (List AV))) [0, 18, 19] [20, 6] (fun q => (fun (i : Int) (es : List (List AV)) => [(20, .int .i64 i), (6, .ob 0)]) q.1 q.2) (fun q => (fun (i : Int) (es : List (List AV)) => [.row 1 es]) q.1 q.2) (fun q => (fun (i : Int) (es : List (List AV)) => (os.length - i).toNat) q.1 q.2) (fun q => (fun (i : Int) (es : List (List AV)) => (0 ≤ i ∧ i ≤ os.length) ∧ es = ((os.take i.toNat).map (countO l)).map intR) q.1 q.2) [0] (by decide) ((0, [])) (by conv => lhs; cbv) (by conv => lhs; cbv) rfl rfl (by dsimp only; exact ⟨by omega, rfl⟩) fun q hi2 Kn2 hN2 => ?_; obtain ⟨i, es⟩ := q; (try dsimp only at hi2); conv => cbv); obtain ⟨⟨h0, h1⟩, h2⟩ := hi2)
      | (refine idxL (R := Obv.cs) hE ho (by omega) (fun o hv => ?_); have hob := hok.2 _ (List.mem_of_getElem? hv); obtain ⟨ox, oy, oe, ov⟩ := o; (try conv => cbv))
      | (refine callSI hE (seenFrom_ _ _ _ _ hl hok.1.all hob (by omega)) ?_; rintro r ys ⟨rs', hrs, rfl, rfl⟩; (try conv => cbv))
      | (refine lenL hE hrs (fun n5 hn5 hb5 => ?_); (try conv => cbv))
      | (refine hN2 (_, _) _ [4] (by decide) rfl ⟨?_, ?_⟩ ?_ <;> (try dsimp only))
      | ((first
     | refine q0 hE ?_
     | refine callP hE (few_ _ _) (fun _ => ?_) (fun _ => ?_)
     | refine nilOwnI hE 1 ?_
     | refine lenL hE ho (fun _ _ _ => ?_)
     | refine catP hE (R := intR) h2 rfl (by simp only [List.length_map, List.length_take]; omega) (fun _ _ => ?_)
     | refine q1 hE ?_|refine q2 hE ?_|refine ltI hE (fun _=>?_) fun _=>?_|refine q4 hE ?_|refine q5 hE ?_|refine leI hE (fun _=>?_) fun _=>?_|refine q6 hE ?_|refine q7 hE ?_|refine eqI hE (fun _=>?_) fun _=>?_|refine q8 hE fun _ _=>?_|refine q9 hE fun _ _=>?_|refine addI hE fun _ _=>?_|refine subI hE fun _ _=>?_|refine qa hE fun _ _ _=>?_|refine len0 hE fun _ _=>?_|refine qb hE fun _ _=>?_|refine qc hE ?_|refine qd hE ?_|refine iteB (fun _=>?_) fun _=>?_|refine maxI hE fun _ _=>?_|refine minI hE fun _ _=>?_|refine seqI hE (fun _=>?_) fun _=>?_|refine qe hE fun _ _ _=>?_|refine slenI hE fun _ _ _=>?_|refine qf hE fun _ _ _ _=>?_|refine qg hE ?_|refine qh hE fun _ _=>?_|refine qi hE fun _ _=>?_|refine qj hE fun _ _=>?_|refine qk hE fun _ _=>?_|refine ql hE ?_) <;> (try conv => cbv))
    all_goals (try clear hN2)
    all_goals first
      | omega
      | (rw [take_map h0 hv (by assumption)]; subst_vars; rfl)
      | (refine hK _ ?_; rw [seenCountsR, if_pos (askR_ok hok (by omega)), h2, List.take_of_length_le (by omega)]; rfl)
      | (refine hK _ ?_; rw [seenCountsR, askR, if_pos hok, if_neg (by omega), if_neg (by omega)]; rfl)
      | trace_state
  · refine nilOwnI hE 1 ?_
    conv => cbv
    exact hK _ (by rw [seenCountsR, askR, if_neg hok, if_neg (by omega)]; rfl)
theorem sSeenCounts_ {rs ro : List (List AV)} {t t' b : Bool} {l : List Aid} {os : List Obv} (hl : rs = l.map (Aid.cs b)) (ho : ro = os.map Obv.cs) : AC Tryz.prog 37 [.sl t 16 rs, .sl t' 4 ro] intLI (seenCountsR l os) := by
  refine ac Tryz.func37 (by kernel_rfl) (.intLI _) fun E K hE hK => ?_
  conv => cbv
  refine callI hE (l16Ask_ hl ho) fun c hc => ?_
  conv => cbv
  refine eqI hE (fun h => ?_) (fun h => ?_) <;> conv => cbv
  · obtain ⟨hok, h16⟩ := askR_of (hc.symm.trans h)
    have h24 := hok.1.2
    repeat' first
      | ((refine loopC hE (ι := Int × (List (List AV))) [0, 1] [8, 7] (fun q => (fun (i : Int) (es : List (List AV)) => [(8, .int .i64 i), (7, .ob 0)]) q.1 q.2) (fun q => (fun (i : Int) (es : List (List AV)) => [.row 1 es]) q.1 q.2) (fun q => (fun (i : Int) (es : List (List AV)) => (os.length - i).toNat) q.1 q.2) (fun q => (fun (i : Int) (es : List (List AV)) => (0 ≤ i ∧ i ≤ os.length) ∧ es = ((os.take i.toNat).map (countO l)).map intR) q.1 q.2) [0] (by decide) ((0, [])) (by conv => lhs; cbv) (by conv => lhs; cbv) rfl rfl (by dsimp only; exact ⟨by omega, rfl⟩) fun q hi2 Kn2 hN2 => ?_; obtain ⟨i, es⟩ := q; (try dsimp only at hi2); conv => cbv); obtain ⟨⟨h0, h1⟩, h2⟩ := hi2)
      | (refine lenL hE ho (fun n5 hn5 hb5 => ?_); (try conv => cbv))
      | (refine idxL (R := Obv.cs) hE ho (by omega) (fun o hv => ?_); have hob := hok.2 _ (List.mem_of_getElem? hv); obtain ⟨ox, oy, oe, ov⟩ := o; (try conv => cbv))
      | (refine callR hE (l16All_ _ _ _ _ hl hok.1.all hob (by omega)) (fun rs' hrs => ?_); (try conv => cbv))
      | (refine lenL hE hrs (fun n5 hn5 hb5 => ?_); rw [seenX_len] at hn5; (try conv => cbv))
      | (refine hN2 (_, _) _ [3] (by decide) rfl ⟨?_, ?_⟩ ?_ <;> (try dsimp only))
      | ((first
     | refine q0 hE ?_
     | refine catP hE (R := intR) h2 rfl (by simp only [List.length_map, List.length_take]; omega) (fun _ _ => ?_)
     | refine q1 hE ?_|refine q2 hE ?_|refine ltI hE (fun _=>?_) fun _=>?_|refine q4 hE ?_|refine q5 hE ?_|refine leI hE (fun _=>?_) fun _=>?_|refine q6 hE ?_|refine q7 hE ?_|refine eqI hE (fun _=>?_) fun _=>?_|refine q8 hE fun _ _=>?_|refine q9 hE fun _ _=>?_|refine addI hE fun _ _=>?_|refine subI hE fun _ _=>?_|refine qa hE fun _ _ _=>?_|refine len0 hE fun _ _=>?_|refine qb hE fun _ _=>?_|refine qc hE ?_|refine qd hE ?_|refine iteB (fun _=>?_) fun _=>?_|refine maxI hE fun _ _=>?_|refine minI hE fun _ _=>?_|refine seqI hE (fun _=>?_) fun _=>?_|refine qe hE fun _ _ _=>?_|refine slenI hE fun _ _ _=>?_|refine qf hE fun _ _ _ _=>?_|refine qg hE ?_|refine qh hE fun _ _=>?_|refine qi hE fun _ _=>?_|refine qj hE fun _ _=>?_|refine qk hE fun _ _=>?_|refine ql hE ?_) <;> (try conv => cbv))
    all_goals (try clear hN2)
    all_goals first
      | omega
      | (rw [take_map h0 hv (by assumption)]; subst_vars; rfl)
      | (refine hK _ ?_; rw [seenCountsR, if_pos (hc.symm.trans h), h2, List.take_of_length_le (by omega)]; rfl)
      | trace_state
  · refine nilOwnI hE 1 ?_
    conv => cbv
    exact hK _ (by rw [seenCountsR, if_neg (fun h' => h (hc.trans h')), ← hc]; rfl)
theorem lawSeenCounts {rs ro : List (List AV)} {t t' b : Bool} {l : List Aid} {os : List Obv} (hl : rs = l.map (Aid.cs b)) (ho : ro = os.map Obv.cs) : AC Tryz.prog 8 [.sl t 16 rs, .sl t' 4 ro] id (.bool true) := by
  refine ac Tryz.func8 (by kernel_rfl) (.bool _) fun E K hE hK => ?_
  conv => cbv
  have hlen := seenCountsR_len l os
  refine callI hE (szAidS_ _ hl (by decide)) (fun z hz => ?_)
  have hz2 := szN_or2 hz
  clear hz
  conv => cbv
  refine ltI hE (fun hlt => ?_) (fun hge => ?_) <;> conv => cbv
  · exact hK _ rfl
  have hsz : l.length + (l.map Aid.sz).sum ≤ 1048576 := by omega
  have hmk := Aid.mk1_bd2 hsz
  have hbd := Aid.mk1_bd hmk l.length (Nat.le_refl _)
  refine callI hE (szObserverS_ _ ho (by omega)) (fun z2 hz => ?_)
  have hz3 := szN_or2 hz
  clear hz
  conv => cbv
  refine ltI hE (fun hlt => ?_) (fun hge2 => ?_) <;> conv => cbv
  · exact hK _ rfl
  repeat' first
    | (refine callMI hE (markAidS_ _ (by assumption) (by omega) (by omega) hmk) ?_; rintro _ _ ⟨n9, rs9, hn9, ⟨m9, hm9, hl9⟩, rfl, rfl⟩; conv => cbv)
    | (refine callMI hE (markObserverS_ _ (by assumption) (by omega) (by omega)) ?_; rintro _ _ ⟨n, rs', hn, hrs', rfl, rfl⟩; conv => cbv)
    | (refine callMI hE (markI_ _ (by assumption) (by omega) (by omega)) ?_; rintro _ _ ⟨n, rs', hn, hrs', rfl, rfl⟩; conv => cbv)
    | ((first
   | refine q0 hE ?_
   | refine callR hE (toAidS_ hl (by omega)) (fun _ _ => ?_)
   | refine callR hE (toObserverS_ ho (by omega)) (fun _ _ => ?_)
   | refine callLI hE (sSeenCounts_ (by assumption) (by assumption)) (fun _ _ _ _ => ?_)
   | refine callLI hE (seenCounts_ (by assumption) (by assumption)) (fun _ _ _ _ => ?_)
   | refine callPT hE (eqAidS_ (by assumption) (by assumption)) rfl ?_
   | refine callPT hE (eqObserverS_ (by assumption) (by assumption)) rfl ?_
   | refine callPT hE (eqInt64S_ (by assumption) (by assumption)) rfl ?_
   | refine sameI hE (by subst_vars; simp only [List.length_map, markL_len, Obv.mks_len]; first | done | omega) ?_
   | refine callI hE (heldInt64S_ _ (by assumption) (by omega) (by omega)) (fun _ _ => ?_)
   | refine q1 hE ?_|refine q2 hE ?_|refine ltI hE (fun _=>?_) fun _=>?_|refine q4 hE ?_|refine q5 hE ?_|refine leI hE (fun _=>?_) fun _=>?_|refine q6 hE ?_|refine q7 hE ?_|refine eqI hE (fun _=>?_) fun _=>?_|refine q8 hE fun _ _=>?_|refine q9 hE fun _ _=>?_|refine addI hE fun _ _=>?_|refine subI hE fun _ _=>?_|refine qa hE fun _ _ _=>?_|refine len0 hE fun _ _=>?_|refine qb hE fun _ _=>?_|refine qc hE ?_|refine qd hE ?_|refine iteB (fun _=>?_) fun _=>?_|refine maxI hE fun _ _=>?_|refine minI hE fun _ _=>?_|refine seqI hE (fun _=>?_) fun _=>?_|refine qe hE fun _ _ _=>?_|refine slenI hE fun _ _ _=>?_|refine qf hE fun _ _ _ _=>?_|refine qg hE ?_|refine qh hE fun _ _=>?_|refine qi hE fun _ _=>?_|refine qj hE fun _ _=>?_|refine qk hE fun _ _=>?_|refine ql hE ?_) <;> (try conv => cbv))
  all_goals first
    | exact hK _ rfl
    | omega
    | trace_state
end Go.Proofs.YtlfnlgbojbgcnaaGreatDoor
