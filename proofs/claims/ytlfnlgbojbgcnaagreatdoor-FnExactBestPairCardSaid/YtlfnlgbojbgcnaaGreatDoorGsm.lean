/- Contracts: what an observer sees; the law. -/
import Derived.Test.YtlfnlgbojbgcnaaGreatDoorGsl
import Derived.Test.YtlfnlgbojbgcnaaGreatDoorGma
namespace Go.Proofs.YtlfnlgbojbgcnaaGreatDoor
open Go Go.RowKit Classical
set_option maxRecDepth 100000
set_option maxHeartbeats 2000000
set_option linter.unusedVariables false
set_option linter.unusedSimpArgs false
noncomputable def seenFromR (l : List Aid) (x y e s : Int) : List Int × Int := if AidsOk l ∧ ObvOk x y e s then ((seenL l x y e s).map Aid.number, 0) else ([], 1)
theorem seenFromR_len (l : List Aid) (x y e s : Int) : (seenFromR l x y e s).1.length ≤ l.length := by
  unfold seenFromR
  split
  · rw [List.length_map]; exact seenL_len _ _ _ _ _
  · simp
theorem take_map {α β : Type} {f : α → β} {l : List α} {i n : Int} {v : α} (h0 : 0 ≤ i) (hv : l[i.toNat]? = some v) (hn : n = i + 1) : (l.take n.toNat).map f = (l.take i.toNat).map f ++ [f v] := by
  rw [show n.toNat = i.toNat + 1 by omega, List.take_add_one, hv]; simp
set_option maxHeartbeats 4000000
theorem seenFromI_ {rs : List (List AV)} {t b : Bool} {l : List Aid} (x y e s : Int) (hl : rs = l.map (Aid.cs b)) : AC Tryz.prog 27 [.sl t 16 rs, .agg [.int .i64 x, .int .i64 y, .int .i64 e, .int .i64 s]] intLI (seenFromR l x y e s) := by
  refine ac Tryz.func27 (by kernel_rfl) (.intLI _) fun E K hE hK => ?_
  conv => cbv
  refine callP hE (validAids_ hl) (fun hok => ?_) (fun hok => ?_) <;> conv => cbv
  · refine callP hE (validObserver_ _ _ _ _) (fun hob => ?_) (fun hob => ?_) <;> conv => cbv
    · have hlen := seenL_len l x y e s
      have h24 := hok.2
      refine callSI hE (seenFrom_ _ _ _ _ hl hok.all hob (by omega)) ?_
      rintro r ys ⟨rs', hrs, rfl, rfl⟩
      conv => cbv
      refine lenL hE hrs fun n hn hb => ?_
      conv => cbv
      refine loopC hE (ι := Int × (List (List AV))) [20, 21] [22, 6] (fun q => (fun (i : Int) (es : List (List AV)) => [(22, .int .i64 i), (6, .ob 0)]) q.1 q.2) (fun q => (fun (i : Int) (es : List (List AV)) => [.row 1 es, .row 16 rs']) q.1 q.2) (fun q => (fun (i : Int) (es : List (List AV)) => ((seenL l x y e s).length - i).toNat) q.1 q.2) (fun q => (fun (i : Int) (es : List (List AV)) => (0 ≤ i ∧ i ≤ (seenL l x y e s).length) ∧ es = (((seenL l x y e s).take i.toNat).map Aid.number).map intR) q.1 q.2) [1, 2] (by decide) ((0, [])) (by conv => lhs; cbv) (by conv => lhs; cbv) rfl rfl (by dsimp only; exact ⟨by omega, rfl⟩) fun q hi Kn hN => ?_
      obtain ⟨i, es⟩ := q
      (try dsimp only at hi)
      conv => cbv
      obtain ⟨⟨h0, h1⟩, h2⟩ := hi
      repeat' first
        | (refine idxAidV hE hrs (by omega) (by assumption) (by assumption) (by assumption) ?_; (try conv => cbv))
        | (refine idxAid hE hrs (by omega) (fun number name atX atY height mKind mColors mShape mTop lKind lGroup lLetter lColors lPeriod sectors intensity rg rx hv hg hx => ?_); (try conv => cbv))
        | (refine hN (_, _) _ [5, 1] (by decide) rfl ⟨?_, ?_⟩ ?_ <;> (try dsimp only))
        | (refine hN (_, _) _ [4, 1] (by decide) rfl ⟨?_, ?_⟩ ?_ <;> (try dsimp only))
        | (refine hN (_, _) _ [3, 1] (by decide) rfl ⟨?_, ?_⟩ ?_ <;> (try dsimp only))
        | ((first
       | refine q0 hE ?_
       | refine catP hE (R := intR) h2 rfl (by simp only [List.length_map, List.length_take]; omega) (fun _ _ => ?_)
       | refine q1 hE ?_|refine q2 hE ?_|refine ltI hE (fun _=>?_) fun _=>?_|refine q4 hE ?_|refine q5 hE ?_|refine leI hE (fun _=>?_) fun _=>?_|refine q6 hE ?_|refine q7 hE ?_|refine eqI hE (fun _=>?_) fun _=>?_|refine q8 hE fun _ _=>?_|refine q9 hE fun _ _=>?_|refine addI hE fun _ _=>?_|refine subI hE fun _ _=>?_|refine qa hE fun _ _ _=>?_|refine len0 hE fun _ _=>?_|refine qb hE fun _ _=>?_|refine qc hE ?_|refine qd hE ?_|refine iteB (fun _=>?_) fun _=>?_|refine maxI hE fun _ _=>?_|refine minI hE fun _ _=>?_|refine seqI hE (fun _=>?_) fun _=>?_|refine qe hE fun _ _ _=>?_|refine slenI hE fun _ _ _=>?_|refine qf hE fun _ _ _ _=>?_|refine qg hE ?_|refine qh hE fun _ _=>?_|refine qi hE fun _ _=>?_|refine qj hE fun _ _=>?_|refine qk hE fun _ _=>?_|refine ql hE ?_) <;> (try conv => cbv))
      all_goals (try clear hN)
      all_goals first
        | omega
        | (rw [take_map h0 hv (by assumption)]; assumption)
        | (refine hK _ ?_; rw [seenFromR, if_pos ⟨hok, hob⟩, h2, List.take_of_length_le (by omega)]; rfl)
        | trace_state
    · refine nilOwnI hE 1 ?_
      conv => cbv
      exact hK _ (by rw [seenFromR, if_neg fun h => hob h.2]; rfl)
  · refine nilOwnI hE 1 ?_
    conv => cbv
    exact hK _ (by rw [seenFromR, if_neg fun h => hok h.1]; rfl)
theorem sSeenFrom_ {rs : List (List AV)} {t b : Bool} {l : List Aid} (x y e s : Int) (hl : rs = l.map (Aid.cs b)) : AC Tryz.prog 26 [.sl t 16 rs, .agg [.int .i64 x, .int .i64 y, .int .i64 e, .int .i64 s]] intLI (seenFromR l x y e s) := by
  refine ac Tryz.func26 (by kernel_rfl) (.intLI _) fun E K hE hK => ?_
  conv => cbv
  refine callP hE (l12Ok_ hl) (fun hok => ?_) (fun hok => ?_) <;> conv => cbv
  · refine callP hE (l16One_ _ _ _ _) (fun hob => ?_) (fun hob => ?_) <;> conv => cbv
    · have hlen := seenL_len l x y e s
      have hlx := seenX_len l x y e s
      have h24 := hok.2
      refine callR hE (l16All_ _ _ _ _ hl hok.all hob (by omega)) fun rs' hrs => ?_
      conv => cbv
      refine loopC hE (ι := Int × (List (List AV))) [0, 6] [8, 7] (fun q => (fun (i : Int) (es : List (List AV)) => [(8, .int .i64 i), (7, .ob 1)]) q.1 q.2) (fun q => (fun (i : Int) (es : List (List AV)) => [.row 1 rs', .row 1 es]) q.1 q.2) (fun q => (fun (i : Int) (es : List (List AV)) => ((seenL l x y e s).length - i).toNat) q.1 q.2) (fun q => (fun (i : Int) (es : List (List AV)) => (0 ≤ i ∧ i ≤ (seenL l x y e s).length) ∧ es = (((seenL l x y e s).take i.toNat).map Aid.number).map intR) q.1 q.2) [1, 2] (by decide) ((0, [])) (by conv => lhs; cbv) (by conv => lhs; cbv) rfl rfl (by dsimp only; exact ⟨by omega, rfl⟩) fun q hi Kn hN => ?_
      obtain ⟨i, es⟩ := q
      (try dsimp only at hi)
      conv => cbv
      obtain ⟨⟨h0, h1⟩, h2⟩ := hi
      repeat' first
        | (refine idxAidV hE hl (by omega) (by assumption) (by assumption) (by assumption) ?_; (try conv => cbv))
        | (refine idxV hE hrs (by omega) (by assumption) ?_; (try conv => cbv))
        | (refine idxL hE hrs (by omega) (fun j hj => ?_); obtain ⟨⟨number, name, atX, atY, height, mKind, mColors, mShape, mTop, lKind, lGroup, lLetter, lColors, lPeriod, sectors, intensity⟩, hv, hv2, hj0, hj1⟩ := seenX_get hj; (obtain ⟨rg, hg⟩ : ∃ rg, rg = lGroup.map intR := ⟨_, rfl⟩); (obtain ⟨rx, hx⟩ : ∃ rx, rx = sectors.map Scr.cs := ⟨_, rfl⟩); (try conv => cbv))
        | (refine hN (_, _) _ [0, 3] (by decide) rfl ⟨?_, ?_⟩ ?_ <;> (try dsimp only))
        | (refine hN (_, _) _ [0, 2] (by decide) rfl ⟨?_, ?_⟩ ?_ <;> (try dsimp only))
        | (refine hN (_, _) _ [0, 4] (by decide) rfl ⟨?_, ?_⟩ ?_ <;> (try dsimp only))
        | ((first
       | refine q0 hE ?_
       | refine catP hE (R := intR) h2 rfl (by simp only [List.length_map, List.length_take]; omega) (fun _ _ => ?_)
       | refine q1 hE ?_|refine q2 hE ?_|refine ltI hE (fun _=>?_) fun _=>?_|refine q4 hE ?_|refine q5 hE ?_|refine leI hE (fun _=>?_) fun _=>?_|refine q6 hE ?_|refine q7 hE ?_|refine eqI hE (fun _=>?_) fun _=>?_|refine q8 hE fun _ _=>?_|refine q9 hE fun _ _=>?_|refine addI hE fun _ _=>?_|refine subI hE fun _ _=>?_|refine qa hE fun _ _ _=>?_|refine len0 hE fun _ _=>?_|refine qb hE fun _ _=>?_|refine qc hE ?_|refine qd hE ?_|refine iteB (fun _=>?_) fun _=>?_|refine maxI hE fun _ _=>?_|refine minI hE fun _ _=>?_|refine seqI hE (fun _=>?_) fun _=>?_|refine qe hE fun _ _ _=>?_|refine slenI hE fun _ _ _=>?_|refine qf hE fun _ _ _ _=>?_|refine qg hE ?_|refine qh hE fun _ _=>?_|refine qi hE fun _ _=>?_|refine qj hE fun _ _=>?_|refine qk hE fun _ _=>?_|refine ql hE ?_) <;> (try conv => cbv))
      all_goals (try clear hN)
      all_goals first
        | omega
        | (rw [take_map h0 hv (by assumption)]; assumption)
        | (refine hK _ ?_; rw [seenFromR, if_pos ⟨hok, hob⟩, h2, List.take_of_length_le (by omega)]; rfl)
        | trace_state
    · refine nilOwnI hE 1 ?_
      conv => cbv
      exact hK _ (by rw [seenFromR, if_neg fun h => hob h.2]; rfl)
  · refine nilOwnI hE 1 ?_
    conv => cbv
    exact hK _ (by rw [seenFromR, if_neg fun h => hok h.1]; rfl)
theorem Aid.mk1_bd2 {l : List Aid} (h : l.length + (l.map Aid.sz).sum ≤ 1048576) : ∀ v ∈ l, Aid.mk1 v ≤ 10000000 := fun v hv => by
  have h1 := sum_ge Aid.sz hv
  unfold Aid.mk1
  simp only [Aid.sz, Chr.sz] at h1
  omega
theorem lawSeenFrom {rs : List (List AV)} {t b : Bool} {l : List Aid} (x y e s : Int) (hl : rs = l.map (Aid.cs b)) : AC Tryz.prog 6 [.sl t 16 rs, .agg [.int .i64 x, .int .i64 y, .int .i64 e, .int .i64 s]] id (.bool true) := by
  refine ac Tryz.func6 (by kernel_rfl) (.bool _) fun E K hE hK => ?_
  conv => cbv
  have hlen := seenFromR_len l x y e s
  refine callI hE (szAidS_ _ hl (by decide)) (fun z hz => ?_)
  have hz2 := szN_or2 hz
  clear hz
  conv => cbv
  refine ltI hE (fun hlt => ?_) (fun hge => ?_) <;> conv => cbv
  · exact hK _ rfl
  have hsz : l.length + (l.map Aid.sz).sum ≤ 1048576 := by omega
  have hmk := Aid.mk1_bd2 hsz
  have hbd := Aid.mk1_bd hmk l.length (Nat.le_refl _)
  repeat' first
    | (refine callMI hE (markAidS_ _ (by assumption) (by omega) (by omega) hmk) ?_; rintro _ _ ⟨n9, rs9, hn9, ⟨m9, hm9, hl9⟩, rfl, rfl⟩; conv => cbv)
    | (refine callMI hE (markI_ _ (by assumption) (by omega) (by omega)) ?_; rintro _ _ ⟨n, rs', hn, hrs', rfl, rfl⟩; conv => cbv)
    | ((first
   | refine q0 hE ?_
   | refine callR hE (toAidS_ hl (by omega)) (fun _ _ => ?_)
   | (refine callI hE (toObserver_ _ _ _ _) (fun _ hy => ?_); subst hy)
   | refine callLI hE (sSeenFrom_ _ _ _ _ (by assumption)) (fun _ _ _ _ => ?_)
   | refine callLI hE (seenFromI_ _ _ _ _ (by assumption)) (fun _ _ _ _ => ?_)
   | refine callPT hE (eqAidS_ (by assumption) (by assumption)) rfl ?_
   | refine callPT hE (eqInt64S_ (by assumption) (by assumption)) rfl ?_
   | refine sameI hE (by subst_vars; simp only [List.length_map, markL_len]; first | done | omega) ?_
   | refine callI hE (heldInt64S_ _ (by assumption) (by omega) (by omega)) (fun _ _ => ?_)
   | refine q1 hE ?_|refine q2 hE ?_|refine ltI hE (fun _=>?_) fun _=>?_|refine q4 hE ?_|refine q5 hE ?_|refine leI hE (fun _=>?_) fun _=>?_|refine q6 hE ?_|refine q7 hE ?_|refine eqI hE (fun _=>?_) fun _=>?_|refine q8 hE fun _ _=>?_|refine q9 hE fun _ _=>?_|refine addI hE fun _ _=>?_|refine subI hE fun _ _=>?_|refine qa hE fun _ _ _=>?_|refine len0 hE fun _ _=>?_|refine qb hE fun _ _=>?_|refine qc hE ?_|refine qd hE ?_|refine iteB (fun _=>?_) fun _=>?_|refine maxI hE fun _ _=>?_|refine minI hE fun _ _=>?_|refine seqI hE (fun _=>?_) fun _=>?_|refine qe hE fun _ _ _=>?_|refine slenI hE fun _ _ _=>?_|refine qf hE fun _ _ _ _=>?_|refine qg hE ?_|refine qh hE fun _ _=>?_|refine qi hE fun _ _=>?_|refine qj hE fun _ _=>?_|refine qk hE fun _ _=>?_|refine ql hE ?_) <;> (try conv => cbv))
  all_goals first
    | exact hK _ rfl
    | omega
    | trace_state
end Go.Proofs.YtlfnlgbojbgcnaaGreatDoor
