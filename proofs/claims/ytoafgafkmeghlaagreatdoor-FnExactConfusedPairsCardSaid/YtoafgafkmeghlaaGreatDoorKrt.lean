/- Contracts: the reference's ConfusedPairs; the law. -/
import Derived.Test.YtoafgafkmeghlaaGreatDoorKrs
import Derived.Test.YtoafgafkmeghlaaGreatDoorKD
import Derived.Test.YtoafgafkmeghlaaGreatDoorGti
import Derived.Test.YtoafgafkmeghlaaGreatDoorFA
namespace Go.Proofs.YtoafgafkmeghlaaGreatDoor
open Go Go.RowKit Classical
set_option maxRecDepth 100000
set_option maxHeartbeats 2000000
set_option linter.unusedVariables false
set_option linter.unusedSimpArgs false
set_option maxHeartbeats 4000000
theorem AC.tl11v {P : Program} {α : Type} {f : FuncId} {cs ds tl tm : List AV} {a : AV} {R : α → AV} {x : α} (h : AC P f [.pp cs, .pp ds, a] R x) : AC P f [.pp (cs ++ tl), .pp (ds ++ tm), a] R x :=
  AC.tl h rfl fun i => match i with
    | 0 => .inr ⟨_, _, rfl, rfl⟩
    | 1 => .inr ⟨_, _, rfl, rfl⟩
    | _ + 2 => .inl rfl
theorem l18Aids_ (number atX atY height mKind lKind lPeriod intensity number' atX' atY' height' mKind' lKind' lPeriod' intensity' z : Int) (hz : 0 ≤ z ∧ z ≤ 20) (name mColors mShape mTop lLetter lColors name' mColors' mShape' mTop' lLetter' lColors' : ByteArray) {rg rx rg' rx' : List (List AV)} {t t' s s' : Bool} {g g' : List Int} {l l' : List Scr} (hg : rg = g.map intR) (hl : rx = l.map Scr.cs) (hg' : rg' = g'.map intR) (hl' : rx' = l'.map Scr.cs) (oa : ChrOk lKind g lLetter lColors lPeriod) (ob : ChrOk lKind' g' lLetter' lColors' lPeriod') : AC Tryz.prog 21 [.pp [.int .i64 number, .str name, .int .i64 atX, .int .i64 atY, .int .i64 height, .int .i64 mKind, .str mColors, .str mShape, .str mTop, .int .i64 lKind, .sl t 1 rg, .str lLetter, .str lColors, .int .i64 lPeriod, .sl t' 3 rx, .int .i64 intensity], .pp [.int .i64 number', .str name', .int .i64 atX', .int .i64 atY', .int .i64 height', .int .i64 mKind', .str mColors', .str mShape', .str mTop', .int .i64 lKind', .sl s 1 rg', .str lLetter', .str lColors', .int .i64 lPeriod', .sl s' 3 rx', .int .i64 intensity'], .int .i64 z] AV.bool (bP (confR ⟨lKind, g, lLetter, lColors, lPeriod⟩ ⟨lKind', g', lLetter', lColors', lPeriod'⟩ z)) := by
  refine ac Tryz.func21 (by kernel_rfl) (.bool _) fun E K hE hK => ?_
  conv => cbv
  have hk1 := oa.2.1.kind
  have hk2 := ob.2.1.kind
  repeat' first
    | (refine callP hE (l12Lit_ _ _ _ _ _ _ _ _ _ _ _ _ _ _ hg hl) (fun h1 => ?_) (fun h1 => ?_) <;> (try conv => cbv))
    | (refine callP hE (l12Lit_ _ _ _ _ _ _ _ _ _ _ _ _ _ _ hg' hl') (fun h2 => ?_) (fun h2 => ?_) <;> (try conv => cbv))
    | (refine callP hE (AC.tl11v (l18Confused_ _ _ _ _ z hz _ _ _ _ hg hg' oa ob)) (fun h => ?_) (fun h => ?_) <;> (try conv => cbv))
    | ((first
   | refine q0 hE ?_
   | refine B0 hE ?_|refine B1 hE (fun _=>?_) fun _=>?_|refine B3 hE fun _ _ _=>?_|refine B2 hE fun _ _=>?_|refine B4 hE fun _ _ _ _=>?_) <;> (try conv => cbv))
  all_goals first
    | (exfalso; omega)
    | exact finB hK (bP_true.2 h)
    | exact finB hK (bP_false.2 h)
    | trace_state
theorem cf_iff {l : List Aid} {z : Int} {p : Nat × Nat} {A C : Int} {a b : Aid} (hA : A = p.1) (hC : C = p.2) (ha : l[A.toNat]? = some a) (hb : l[C.toNat]? = some b) : cfR l z p ↔ confR (chrOf a) (chrOf b) z := by
  rw [hA, Int.toNat_natCast] at ha
  rw [hC, Int.toNat_natCast] at hb
  constructor
  · rintro ⟨a', b', h1, h2, h3⟩
    rw [ha] at h1; rw [hb] at h2; cases h1; cases h2; exact h3
  · intro h; exact ⟨a, b, ha, hb, h⟩
theorem cf_put {l : List Aid} {z : Int} {L : List (Nat × Nat)} {p : Nat × Nat} {i ip : Int} {A C : Int} {a b : Aid} (h0 : 0 ≤ i) (hp : L[i.toNat]? = some p) (hA : A = p.1) (hC : C = p.2) (ha : l[A.toNat]? = some a) (hb : l[C.toNat]? = some b) (hip : ip = i + 1) (h : confR (chrOf a) (chrOf b) z) : ((L.take i.toNat).filter fun p => decide (cfR l z p)).map (numT l) ++ [[a.number, b.number]] = ((L.take ip.toNat).filter fun p => decide (cfR l z p)).map (numT l) := by
  rw [show ip.toNat = i.toNat + 1 by omega, List.take_add_one, hp]
  simp [(cf_iff hA hC ha hb).2 h, numT_at hA hC ha hb]
theorem cf_skip {l : List Aid} {z : Int} {L : List (Nat × Nat)} {p : Nat × Nat} {i ip : Int} {A C : Int} {a b : Aid} (h0 : 0 ≤ i) (hp : L[i.toNat]? = some p) (hA : A = p.1) (hC : C = p.2) (ha : l[A.toNat]? = some a) (hb : l[C.toNat]? = some b) (hip : ip = i + 1) (h : ¬ confR (chrOf a) (chrOf b) z) : ((L.take i.toNat).filter fun p => decide (cfR l z p)).map (numT l) = ((L.take ip.toNat).filter fun p => decide (cfR l z p)).map (numT l) := by
  rw [show ip.toNat = i.toNat + 1 by omega, List.take_add_one, hp]
  simp [mt (cf_iff hA hC ha hb).1 h]
theorem sConfusedPairs_ {rs ro : List (List AV)} {t t' b : Bool} {l : List Aid} {os : List Obv} {z : Int} (hl : rs = l.map (Aid.cs b)) (ho : ro = os.map Obv.cs) : AC Tryz.prog 6 [.sl t 16 rs, .sl t' 4 ro, .int .i64 z] llLI (conR l os z) := by
  refine ac Tryz.func6 (by kernel_rfl) (.llLI _) fun E K hE hK => ?_
  conv => cbv
  refine callI hE (l16Ask_ hl ho) fun c hc => ?_
  conv => cbv
  refine eqI hE (fun h => ?_) (fun hn1 => ?_) <;> conv => cbv
  · have hno : ¬ AskOk l os := fun hok => by
      unfold askR at hc
      rw [if_pos hok] at hc
      split at hc <;> omega
    refine nilOwnI hE 1 ?_
    conv => cbv
    exact hK _ (by rw [conR, if_neg hno, h]; rfl)
  have hok : AskOk l os := by
    by_cases hok : AskOk l os
    · exact hok
    · exact absurd (by rw [hc, askR, if_neg hok]) hn1
  refine callP hE (l18Tol_ z) (fun hz => ?_) (fun hz => ?_) <;> conv => cbv
  · refine eqI hE (fun h => ?_) (fun h => ?_) <;> conv => cbv
    · obtain ⟨_, h16⟩ := askR_of (hc.symm.trans h)
      have h24 := hok.1.2
      refine callR hE (l16Together_ hl ho hok h16) (fun rs' hrs => ?_)
      conv => cbv
      obtain ⟨L, hL⟩ : ∃ L, L = allT (both l os) l.length l.length := ⟨_, rfl⟩
      rw [← hL] at hrs
      have hL5 : L.length ≤ 576 := by rw [hL]; exact allT_bd h24 (Nat.le_refl _)
      have hLm : (L.map pI).length = L.length := List.length_map _
      refine loopC hE (ι := Int × (List (List AV))) [0, 2, 9] [11, 10] (fun q => (fun (i : Int) (es : List (List AV)) => [(11, .int .i64 i), (10, .ob 0)]) q.1 q.2) (fun q => (fun (i : Int) (es : List (List AV)) => [.row 1 es]) q.1 q.2) (fun q => (fun (i : Int) (es : List (List AV)) => (L.length - i).toNat) q.1 q.2) (fun q => (fun (i : Int) (es : List (List AV)) => (0 ≤ i ∧ i ≤ L.length) ∧ es = (((L.take i.toNat).filter fun p => decide (cfR l z p)).map (numT l)).map (llR true)) q.1 q.2) [0] (by decide) ((0, [])) (by conv => lhs; cbv) (by conv => lhs; cbv) rfl rfl (by dsimp only; exact ⟨by omega, rfl⟩) fun q hi Kn hN => ?_
      obtain ⟨i, es⟩ := q
      (try dsimp only at hi)
      conv => cbv
      obtain ⟨⟨h0, h1⟩, h2⟩ := hi
      have hfl : ((L.take i.toNat).filter fun p => decide (cfR l z p)).length ≤ 576 := by
        have := List.length_filter_le (fun p => decide (cfR l z p)) (L.take i.toNat)
        rw [List.length_take] at this; omega
      refine lenL hE hrs fun n3 hn3 _ => ?_
      rw [hLm] at hn3
      conv => cbv
      refine ltI hE (fun hlt => ?_) (fun hge => ?_) <;> conv => cbv
      · obtain ⟨p, hp⟩ : ∃ p, L[i.toNat]? = some p := ⟨_, List.getElem?_eq_getElem (by omega)⟩
        have hpm := mem_allT.1 (by rw [← hL]; exact List.mem_of_getElem? hp : p ∈ allT (both l os) l.length l.length)
        obtain ⟨_, _, _, o, _, va, vb, ha, hb, sa, sb⟩ := hpm
        have oa := seen_chr sa
        have ob := seen_chr sb
        obtain ⟨A, hA⟩ : ∃ A : Int, A = (p.1 : Int) := ⟨_, rfl⟩
        obtain ⟨C, hC⟩ : ∃ C : Int, C = (p.2 : Int) := ⟨_, rfl⟩
        rw [show p.1 = A.toNat by omega] at ha
        rw [show p.2 = C.toNat by omega] at hb
        have hx := pI_at hp hA hC
        have hstep := fun ip hip => cf_put (z := z) (ip := ip) h0 hp hA hC ha hb hip
        have hskip := fun ip hip => cf_skip (z := z) (ip := ip) h0 hp hA hC ha hb hip
        have hal := (List.getElem?_eq_some_iff.1 ha).1
        have hbl := (List.getElem?_eq_some_iff.1 hb).1
        obtain ⟨rw0, hrw⟩ : ∃ r, r = [A, C].map intR := ⟨_, rfl⟩
        obtain ⟨n1, nm1, ax1, ay1, h1', mk1, mc1, ms1, mt1, lk1, lg1, ll1, lc1, lp1, sc1, in1⟩ := va
        obtain ⟨n2, nm2, ax2, ay2, h2', mk2, mc2, ms2, mt2, lk2, lg2, ll2, lc2, lp2, sc2, in2⟩ := vb
        simp only at oa ob
        obtain ⟨ga, hga⟩ : ∃ r, r = lg1.map intR := ⟨_, rfl⟩
        obtain ⟨gb, hgb⟩ : ∃ r, r = lg2.map intR := ⟨_, rfl⟩
        obtain ⟨xa, hxa⟩ : ∃ r, r = sc1.map Scr.cs := ⟨_, rfl⟩
        obtain ⟨xb, hxb⟩ : ∃ r, r = sc2.map Scr.cs := ⟨_, rfl⟩
        repeat' first
          | (refine idxLV hE hrs h0 hx hrw ?_; (try conv => cbv))
          | (refine idxV (R := intR) (i := 0) (v := A) hE hrw (by decide) rfl ?_; (try conv => cbv))
          | (refine idxV (R := intR) (i := 1) (v := C) hE hrw (by decide) rfl ?_; (try conv => cbv))
          | (refine idxAidV (i := A) hE hl (by omega) ha hga hxa ?_; (try conv => cbv))
          | (refine idxAidV (i := C) hE hl (by omega) hb hgb hxb ?_; (try conv => cbv))
          | (refine callP hE (l18Aids_ _ _ _ _ _ _ _ _ _ _ _ _ _ _ _ _ z hz _ _ _ _ _ _ _ _ _ _ _ _ hga hxa hgb hxb oa ob) (fun hc => ?_) (fun hc => ?_) <;> (try conv => cbv))
          | (refine catP hE (R := llR true) (v := [n1, n2]) h2 (by rfl) (by rw [List.length_map]; omega) (fun es5 hes5 => ?_); (try conv => cbv))
          | (refine hN (_, _) _ [0] (by decide) rfl ⟨?_, ?_⟩ ?_ <;> (try dsimp only))
          | (refine hN (_, _) _ [6] (by decide) rfl ⟨?_, ?_⟩ ?_ <;> (try dsimp only))
          | (refine hN (_, _) _ [5] (by decide) rfl ⟨?_, ?_⟩ ?_ <;> (try dsimp only))
          | (refine hN (_, _) _ [4] (by decide) rfl ⟨?_, ?_⟩ ?_ <;> (try dsimp only))
          | (refine hN (_, _) _ [3] (by decide) rfl ⟨?_, ?_⟩ ?_ <;> (try dsimp only))
          | (refine hN (_, _) _ [2] (by decide) rfl ⟨?_, ?_⟩ ?_ <;> (try dsimp only))
          | (refine hN (_, _) _ [1] (by decide) rfl ⟨?_, ?_⟩ ?_ <;> (try dsimp only))
          | ((first
         | refine q0 hE ?_
         | refine B0 hE ?_|refine B1 hE (fun _=>?_) fun _=>?_|refine B3 hE fun _ _ _=>?_|refine B2 hE fun _ _=>?_|refine B4 hE fun _ _ _ _=>?_) <;> (try conv => cbv))
        all_goals (try clear hN)
        all_goals first
          | omega
          | (rw [hes5]; exact congrArg (List.map (llR true)) (hstep _ (by assumption) hc))
          | (rw [h2, hskip _ (by assumption) hc])
          | trace_state
      · refine hK _ ?_
        rw [conR, if_pos hok, if_pos hz, if_pos h16, h2, List.take_of_length_le (by omega), hL]; rfl
    · have h16 : ¬ os.length ≤ 16 := fun h16 => h (hc.trans (askR_ok hok h16))
      have he : c = 5 := by rw [hc, askR, if_pos hok, if_neg h16]
      refine nilOwnI hE 1 ?_
      conv => cbv
      exact hK _ (by rw [conR, if_pos hok, if_pos hz, if_neg h16, he]; rfl)
  · refine nilOwnI hE 1 ?_
    conv => cbv
    exact hK _ (by rw [conR, if_pos hok, if_neg hz]; rfl)
theorem conR_bd (l : List Aid) (os : List Obv) (z : Int) : (conR l os z).1.length ≤ 576 ∧ ∀ r ∈ (conR l os z).1, r.length ≤ 100000 := by
  unfold conR
  split
  · rename_i h
    split
    · split
      · refine ⟨?_, fun r hr => ?_⟩
        · rw [List.length_map]
          exact Nat.le_trans (List.length_filter_le _ _) (allT_bd h.1.2 (Nat.le_refl _))
        · obtain ⟨p, _, rfl⟩ := List.mem_map.1 hr
          simp [numT]
      · simp
    · simp
  · simp
theorem lawConfusedPairs {rs ro : List (List AV)} {t t' b : Bool} {l : List Aid} {os : List Obv} {z0 : Int} (hl : rs = l.map (Aid.cs b)) (ho : ro = os.map Obv.cs) : AC Tryz.prog 3 [.sl t 16 rs, .sl t' 4 ro, .int .i64 z0] id (.bool true) := by
  refine ac Tryz.func3 (by kernel_rfl) (.bool _) fun E K hE hK => ?_
  conv => cbv
  obtain ⟨hlen, hrow⟩ := conR_bd l os z0
  refine callI hE (szAidS_ _ hl (by decide)) (fun z hz => ?_)
  have hz2 := szN_or2 hz
  clear hz
  conv => cbv
  refine ltI hE (fun hlt => ?_) (fun hge => ?_) <;> conv => cbv
  · exact hK _ rfl
  have hsz : l.length + (l.map Aid.sz).sum ≤ 1048576 := by omega
  have hmk := Aid.mk1_bd2 hsz
  have hbd := Aid.mk1_bd hmk l.length (Nat.le_refl _)
  refine callI hE (szObserverS_ _ ho (by omega)) (fun z2 hz => ?_)
  have hz3 := szN_or2 hz
  clear hz
  conv => cbv
  refine ltI hE (fun hlt => ?_) (fun hge2 => ?_) <;> conv => cbv
  · exact hK _ rfl
  repeat' first
    | (refine callMI hE (markAidS_ _ (by assumption) (by omega) (by omega) hmk) ?_; rintro _ _ ⟨n9, rs9, hn9, ⟨m9, hm9, hl9⟩, rfl, rfl⟩; conv => cbv)
    | (refine callMI hE (markObserverS_ _ (by assumption) (by omega) (by omega)) ?_; rintro _ _ ⟨n, rs', hn, hrs', rfl, rfl⟩; conv => cbv)
    | (refine callMI hE (markInt64SS_ _ (by assumption) (by omega) (by omega) hrow) ?_; rintro _ _ ⟨n, rs', hn, hrs', rfl, rfl⟩; conv => cbv)
    | ((first
   | refine q0 hE ?_
   | refine callR hE (toAidS_ hl (by omega)) (fun _ _ => ?_)
   | refine callR hE (toObserverS_ ho (by omega)) (fun _ _ => ?_)
   | refine callLI hE (sConfusedPairs_ (by assumption) (by assumption)) (fun _ _ _ _ => ?_)
   | refine callLI hE (confusedPairs_ (by assumption) (by assumption)) (fun _ _ _ _ => ?_)
   | refine callPT hE (eqAidS_ (by assumption) (by assumption)) rfl ?_
   | refine callPT hE (eqObserverS_ (by assumption) (by assumption)) rfl ?_
   | refine callPT hE (eqInt64SS_ (by assumption) (by assumption)) rfl ?_
   | refine sameI hE (by subst_vars; simp only [List.length_map, mkLL_len, Obv.mks_len]; first | done | omega) ?_
   | refine callI hE (heldInt64SS_ _ (by assumption) (by omega) (by omega) hrow) (fun _ _ => ?_)
   | refine B0 hE ?_|refine B1 hE (fun _=>?_) fun _=>?_|refine B3 hE fun _ _ _=>?_|refine B2 hE fun _ _=>?_|refine B4 hE fun _ _ _ _=>?_) <;> (try conv => cbv))
  all_goals first
    | exact hK _ rfl
    | omega
    | trace_state
end Go.Proofs.YtoafgafkmeghlaaGreatDoor
