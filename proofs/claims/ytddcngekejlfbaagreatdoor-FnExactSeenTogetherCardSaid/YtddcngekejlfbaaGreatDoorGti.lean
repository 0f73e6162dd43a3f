/- Contracts: the reference's SeenTogether; the law. -/
import Derived.Test.YtddcngekejlfbaaGreatDoorGth
namespace Go.Proofs.YtddcngekejlfbaaGreatDoor
open Go Go.RowKit Classical
set_option maxRecDepth 100000
set_option maxHeartbeats 2000000
set_option linter.unusedVariables false
set_option linter.unusedSimpArgs false
theorem pI_at {L : List (Nat × Nat)} {i : Nat} {p : Nat × Nat} {A C : Int} (h : L[i]? = some p) (hA : A = p.1) (hC : C = p.2) : (L.map pI)[i]? = some [A, C] := by
  rw [List.getElem?_map, h, hA, hC]; rfl
theorem numT_at {l : List Aid} {p : Nat × Nat} {A C : Int} {a b : Aid} (hA : A = p.1) (hC : C = p.2) (ha : l[A.toNat]? = some a) (hb : l[C.toNat]? = some b) : numT l p = [a.number, b.number] := by
  unfold numT
  rw [numAt_of (v := a) (by rw [← ha, hA]; rfl), numAt_of (v := b) (by rw [← hb, hC]; rfl)]
theorem numT_step {l : List Aid} {L : List (Nat × Nat)} {p : Nat × Nat} {i ip : Int} {A C : Int} {a b : Aid} (h0 : 0 ≤ i) (hp : L[i.toNat]? = some p) (hA : A = p.1) (hC : C = p.2) (ha : l[A.toNat]? = some a) (hb : l[C.toNat]? = some b) (hip : ip = i + 1) : (L.take i.toNat).map (numT l) ++ [[a.number, b.number]] = (L.take ip.toNat).map (numT l) := by
  rw [show ip.toNat = i.toNat + 1 by omega, List.take_add_one, hp]
  simp [numT_at hA hC ha hb]
set_option maxHeartbeats 4000000
theorem sSeenTogether_ {rs ro : List (List AV)} {t t' b : Bool} {l : List Aid} {os : List Obv} (hl : rs = l.map (Aid.cs b)) (ho : ro = os.map Obv.cs) : AC Tryz.prog 6 [.sl t 16 rs, .sl t' 4 ro] llLI (togR l os) := by
  refine ac Tryz.func6 (by kernel_rfl) (.llLI _) fun E K hE hK => ?_
  conv => cbv
  refine callI hE (l16Ask_ hl ho) fun c hc => ?_
  conv => cbv
  refine eqI hE (fun h => ?_) (fun h => ?_) <;> conv => cbv
  · obtain ⟨hok, h16⟩ := askR_of (hc.symm.trans h)
    have h24 := hok.1.2
    refine callR hE (l16Together_ hl ho hok h16) (fun rs' hrs => ?_)
    conv => cbv
    obtain ⟨L, hL⟩ : ∃ L, L = allT (both l os) l.length l.length := ⟨_, rfl⟩
    rw [← hL] at hrs
    have hL5 : L.length ≤ 576 := by rw [hL]; exact allT_bd h24 (Nat.le_refl _)
    have hLm : (L.map pI).length = L.length := List.length_map _
    refine loopC hE (ι := Int × (List (List AV))) [0, 7] [9, 8] (fun q => (fun (i : Int) (es : List (List AV)) => [(9, .int .i64 i), (8, .ob 0)]) q.1 q.2) (fun q => (fun (i : Int) (es : List (List AV)) => [.row 1 es]) q.1 q.2) (fun q => (fun (i : Int) (es : List (List AV)) => (L.length - i).toNat) q.1 q.2) (fun q => (fun (i : Int) (es : List (List AV)) => (0 ≤ i ∧ i ≤ L.length) ∧ es = ((L.take i.toNat).map (numT l)).map (llR true)) q.1 q.2) [0] (by decide) ((0, [])) (by conv => lhs; cbv) (by conv => lhs; cbv) rfl rfl (by dsimp only; exact ⟨by omega, rfl⟩) fun q hi Kn hN => ?_
    obtain ⟨i, es⟩ := q
    (try dsimp only at hi)
    conv => cbv
    obtain ⟨⟨h0, h1⟩, h2⟩ := hi
    refine lenL hE hrs fun n3 hn3 _ => ?_
    rw [hLm] at hn3
    conv => cbv
    refine ltI hE (fun hlt => ?_) (fun hge => ?_) <;> conv => cbv
    · obtain ⟨p, hp⟩ : ∃ p, L[i.toNat]? = some p := ⟨_, List.getElem?_eq_getElem (by omega)⟩
      have hpm := mem_allT.1 (by rw [← hL]; exact List.mem_of_getElem? hp : p ∈ allT (both l os) l.length l.length)
      obtain ⟨A, hA⟩ : ∃ A : Int, A = (p.1 : Int) := ⟨_, rfl⟩
      obtain ⟨C, hC⟩ : ∃ C : Int, C = (p.2 : Int) := ⟨_, rfl⟩
      have hx := pI_at hp hA hC
      obtain ⟨rw0, hrw⟩ : ∃ r, r = [A, C].map intR := ⟨_, rfl⟩
      repeat' first
        | (refine idxLV hE hrs h0 hx hrw ?_; (try conv => cbv))
        | (refine idxV (R := intR) (i := 0) (v := A) hE hrw (by decide) rfl ?_; (try conv => cbv))
        | (refine idxV (R := intR) (i := 1) (v := C) hE hrw (by decide) rfl ?_; (try conv => cbv))
        | (refine idxAid (i := A) hE hl (by omega) (fun number name atX atY height mKind mColors mShape mTop lKind lGroup lLetter lColors lPeriod sectors intensity rg rx hvA hgA hxA => ?_); (try conv => cbv))
        | (refine idxAid (i := C) hE hl (by omega) (fun number2 name2 atX2 atY2 height2 mKind2 mColors2 mShape2 mTop2 lKind2 lGroup2 lLetter2 lColors2 lPeriod2 sectors2 intensity2 rg2 rx2 hvB hgB hxB => ?_); (try conv => cbv))
        | (refine catP hE (R := llR true) (v := [number, number2]) h2 (by rfl) (by rw [List.length_map, List.length_take]; omega) (fun es5 hes5 => ?_); (try conv => cbv))
        | (refine hN (_, _) _ [4] (by decide) rfl ⟨?_, ?_⟩ ?_ <;> (try dsimp only))
        | (refine hN (_, _) _ [3] (by decide) rfl ⟨?_, ?_⟩ ?_ <;> (try dsimp only))
        | (refine hN (_, _) _ [2] (by decide) rfl ⟨?_, ?_⟩ ?_ <;> (try dsimp only))
        | (refine hN (_, _) _ [1] (by decide) rfl ⟨?_, ?_⟩ ?_ <;> (try dsimp only))
        | ((first
       | refine q0 hE ?_
       | refine B0 hE ?_|refine B1 hE (fun _=>?_) fun _=>?_|refine B3 hE fun _ _ _=>?_|refine B2 hE fun _ _=>?_|refine B4 hE fun _ _ _ _=>?_) <;> (try conv => cbv))
      all_goals (try clear hN)
      all_goals first
        | omega
        | (rw [hes5, numT_step h0 hp hA hC hvA hvB (by assumption)])
        | trace_state
    · refine hK _ ?_
      rw [tog_val hok h16, h2, List.take_of_length_le (by omega), hL]; rfl
  · have he : togR l os = ([], askR l os) := by
      unfold togR askR
      by_cases hok : AskOk l os
      · rw [if_pos hok, if_pos hok]
        by_cases h16 : os.length ≤ 16
        · exact absurd (hc.trans (askR_ok hok h16)) h
        · rw [if_neg h16, if_neg h16]
      · rw [if_neg hok, if_neg hok]
    refine nilOwnI hE 1 ?_
    conv => cbv
    exact hK _ (by rw [he, ← hc]; rfl)
theorem togR_bd (l : List Aid) (os : List Obv) : (togR l os).1.length ≤ 576 ∧ ∀ r ∈ (togR l os).1, r.length ≤ 100000 := by
  unfold togR
  split
  · rename_i h
    split
    · refine ⟨by rw [List.length_map]; exact allT_bd h.1.2 (Nat.le_refl _), fun r hr => ?_⟩
      obtain ⟨p, _, rfl⟩ := List.mem_map.1 hr
      simp [numT]
    · simp
  · simp
theorem lawSeenTogether {rs ro : List (List AV)} {t t' b : Bool} {l : List Aid} {os : List Obv} (hl : rs = l.map (Aid.cs b)) (ho : ro = os.map Obv.cs) : AC Tryz.prog 3 [.sl t 16 rs, .sl t' 4 ro] id (.bool true) := by
  refine ac Tryz.func3 (by kernel_rfl) (.bool _) fun E K hE hK => ?_
  conv => cbv
  obtain ⟨hlen, hrow⟩ := togR_bd l os
  refine callI hE (szAidS_ _ hl (by decide)) (fun z hz => ?_)
  have hz2 := szN_or2 hz
  clear hz
  conv => cbv
  refine ltI hE (fun hlt => ?_) (fun hge => ?_) <;> conv => cbv
  · exact hK _ rfl
  have hsz : l.length + (l.map Aid.sz).sum ≤ 1048576 := by omega
  have hmk := Aid.mk1_bd2 hsz
  have hbd := Aid.mk1_bd hmk l.length (Nat.le_refl _)
  refine callI hE (szObserverS_ _ ho (by omega)) (fun z2 hz => ?_)
  have hz3 := szN_or2 hz
  clear hz
  conv => cbv
  refine ltI hE (fun hlt => ?_) (fun hge2 => ?_) <;> conv => cbv
  · exact hK _ rfl
  repeat' first
    | (refine callMI hE (markAidS_ _ (by assumption) (by omega) (by omega) hmk) ?_; rintro _ _ ⟨n9, rs9, hn9, ⟨m9, hm9, hl9⟩, rfl, rfl⟩; conv => cbv)
    | (refine callMI hE (markObserverS_ _ (by assumption) (by omega) (by omega)) ?_; rintro _ _ ⟨n, rs', hn, hrs', rfl, rfl⟩; conv => cbv)
    | (refine callMI hE (markInt64SS_ _ (by assumption) (by omega) (by omega) hrow) ?_; rintro _ _ ⟨n, rs', hn, hrs', rfl, rfl⟩; conv => cbv)
    | ((first
   | refine q0 hE ?_
   | refine callR hE (toAidS_ hl (by omega)) (fun _ _ => ?_)
   | refine callR hE (toObserverS_ ho (by omega)) (fun _ _ => ?_)
   | refine callLI hE (sSeenTogether_ (by assumption) (by assumption)) (fun _ _ _ _ => ?_)
   | refine callLI hE (seenTogether_ (by assumption) (by assumption)) (fun _ _ _ _ => ?_)
   | refine callPT hE (eqAidS_ (by assumption) (by assumption)) rfl ?_
   | refine callPT hE (eqObserverS_ (by assumption) (by assumption)) rfl ?_
   | refine callPT hE (eqInt64SS_ (by assumption) (by assumption)) rfl ?_
   | refine sameI hE (by subst_vars; simp only [List.length_map, mkLL_len, Obv.mks_len]; first | done | omega) ?_
   | refine callI hE (heldInt64SS_ _ (by assumption) (by omega) (by omega) hrow) (fun _ _ => ?_)
   | refine B0 hE ?_|refine B1 hE (fun _=>?_) fun _=>?_|refine B3 hE fun _ _ _=>?_|refine B2 hE fun _ _=>?_|refine B4 hE fun _ _ _ _=>?_) <;> (try conv => cbv))
  all_goals first
    | exact hK _ rfl
    | omega
    | trace_state
end Go.Proofs.YtddcngekejlfbaaGreatDoor
