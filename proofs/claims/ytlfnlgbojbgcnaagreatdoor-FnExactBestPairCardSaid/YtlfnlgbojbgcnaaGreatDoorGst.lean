/- Contracts: the best pair by the reference; the law. -/
import Derived.Test.YtlfnlgbojbgcnaaGreatDoorGso
namespace Go.Proofs.YtlfnlgbojbgcnaaGreatDoor
open Go Go.RowKit Classical
set_option maxRecDepth 100000
set_option maxHeartbeats 2000000
set_option linter.unusedVariables false
set_option linter.unusedSimpArgs false
set_option maxHeartbeats 8000000
theorem sBestPair_ {rs : List (List AV)} {t b : Bool} {l : List Aid} (x y e s : Int) (hl : rs = l.map (Aid.cs b)) : AC Tryz.prog 24 [.sl t 16 rs, .agg [.int .i64 x, .int .i64 y, .int .i64 e, .int .i64 s]] three (bestR l x y e s) := by
  refine ac Tryz.func24 (by kernel_rfl) (.three _) fun E K hE hK => ?_
  conv => cbv
  refine callP hE (l12Ok_ hl) (fun hok => ?_) (fun hok => ?_) <;> conv => cbv
  · refine callP hE (l16One_ _ _ _ _) (fun hob => ?_) (fun hob => ?_) <;> conv => cbv
    · have h24 := hok.2
      have hlx := seenX_len l x y e s
      have hlb := bearL_len l x y e s
      have hlen := seenL_len l x y e s
      refine callR hE (l16All_ _ _ _ _ hl hok.all hob (by omega)) fun rs' hrs => ?_
      conv => cbv
      refine lenL hE hrs fun n hn hb => ?_
      conv => cbv
      refine ltI hE (fun h2 => ?_) (fun h2 => ?_) <;> conv => cbv
      · refine hK _ ?_
        rw [bestR, if_pos ⟨hok, hob⟩, if_pos (by omega)]; rfl
      obtain ⟨L, hL⟩ : ∃ L, L = bearL l x y e s := ⟨_, rfl⟩
      rw [← hL] at hlb
      refine loopC hE (ι := Int × Int × Int × Int) [0, 3, 7] [11, 9, 10, 8] (fun q => (fun (i : Int) (p : Int) (q1 : Int) (m : Int) => [(11, .int .i64 i), (9, .int .i64 p), (10, .int .i64 q1), (8, .int .i64 m)]) q.1 q.2.1 q.2.2.1 q.2.2.2) (fun q => (fun (i : Int) (p : Int) (q1 : Int) (m : Int) => [.box [.int .i64 x, .int .i64 y, .int .i64 e, .int .i64 s], .row 1 rs']) q.1 q.2.1 q.2.2.1 q.2.2.2) (fun q => (fun (i : Int) (p : Int) (q1 : Int) (m : Int) => (n - i).toNat) q.1 q.2.1 q.2.2.1 q.2.2.2) (fun q => (fun (i : Int) (p : Int) (q1 : Int) (m : Int) => (0 ≤ i ∧ i ≤ n) ∧ bestL L (0, 0, -1) = bestL (L.drop i.toNat) (p, q1, m)) q.1 q.2.1 q.2.2.1 q.2.2.2) [0, 1] (by decide) ((0, 0, 0, -1)) (by conv => lhs; cbv) (by conv => lhs; cbv) rfl rfl (by dsimp only; exact ⟨by omega, by rfl⟩) fun q hi Kn hN => ?_
      obtain ⟨i, p, q1, m⟩ := q
      (try dsimp only at hi)
      conv => cbv
      obtain ⟨⟨h0, h1⟩, hgo⟩ := hi
      refine lenL hE hrs fun n2 hn2 hb2 => ?_
      conv => cbv
      refine ltI hE (fun hlt => ?_) (fun hge => ?_) <;> conv => cbv
      · obtain ⟨ja, hja⟩ : ∃ j, (seenX l x y e s)[i.toNat]? = some j := ⟨_, List.getElem?_eq_getElem (by omega)⟩
        obtain ⟨⟨na, nb, aX, aY, nc, nd, ne, nf, ng, nh, ni, nj, nk, nl, nm, no⟩, hva, hva2, hja0, hja1⟩ := seenX_get hja
        have hvpa := Aid.okAt (hok.all _ (seenL_mem hva))
        obtain ⟨rga, hga⟩ : ∃ rg, rg = ni.map intR := ⟨_, rfl⟩
        obtain ⟨rxa, hxa⟩ : ∃ rx, rx = nm.map Scr.cs := ⟨_, rfl⟩
        have hLa : L[i.toNat]? = some (na, beaR x y aX aY) := by rw [hL]; unfold bearL; rw [List.getElem?_map, hva]; rfl
        refine add64 hE (by omega) fun i1 hi1 => ?_
        conv => cbv
        have ho := best_out (st := (p, q1, m)) h0 hLa hi1
        repeat' first
          | ((refine loopC hE (ι := Int × Int × Int × Int) [0, 3, 7, 11] [12, 9, 10, 8] (fun q => (fun (k : Int) (p2 : Int) (q2 : Int) (m2 : Int) => [(12, .int .i64 k), (9, .int .i64 p2), (10, .int .i64 q2), (8, .int .i64 m2)]) q.1 q.2.1 q.2.2.1 q.2.2.2) (fun q => (fun (k : Int) (p2 : Int) (q2 : Int) (m2 : Int) => [.box [.int .i64 x, .int .i64 y, .int .i64 e, .int .i64 s], .row 1 rs']) q.1 q.2.1 q.2.2.1 q.2.2.2) (fun q => (fun (k : Int) (p2 : Int) (q2 : Int) (m2 : Int) => (n - k).toNat) q.1 q.2.1 q.2.2.1 q.2.2.2) (fun q => (fun (k : Int) (p2 : Int) (q2 : Int) (m2 : Int) => (i1 ≤ k ∧ k ≤ n) ∧ bestL L (0, 0, -1) = bestL (L.drop i1.toNat) (bestIn (na, beaR x y aX aY) (L.drop k.toNat) (p2, q2, m2))) q.1 q.2.1 q.2.2.1 q.2.2.2) [0, 1] (by decide) ((i1, p, q1, m)) (by conv => lhs; cbv) (by conv => lhs; cbv) rfl rfl (by dsimp only; exact ⟨by omega, by rw [hgo, ho]⟩) fun q hi2 Kn2 hN2 => ?_; obtain ⟨k, p2, q2, m2⟩ := q; (try dsimp only at hi2); conv => cbv); obtain ⟨⟨k0, k1⟩, hgo2⟩ := hi2)
          | (refine lenL hE hrs (fun n7 hn7 hb7 => ?_); (try conv => cbv))
          | (refine idxV hE hrs (by omega) hja ?_; (try conv => cbv))
          | (refine idxAidV hE hl (by omega) hva2 hga hxa ?_; (try conv => cbv))
          | (refine idxAidV hE hl (by omega) (by assumption) (by assumption) (by assumption) ?_; (try conv => cbv))
          | (refine idxL hE hrs (by omega) (fun jb hjb => ?_); obtain ⟨⟨oa, ob, bX, bY, oc, od, oe, of, og, oh, oi, oj, ok, ol, om, oo⟩, hvb, hvb2, hjb0, hjb1⟩ := seenX_get hjb; have hvpb := Aid.okAt (hok.all _ (seenL_mem hvb)); (obtain ⟨rgb, hgb⟩ : ∃ rg, rg = oi.map intR := ⟨_, rfl⟩); (obtain ⟨rxb, hxb⟩ : ∃ rx, rx = om.map Scr.cs := ⟨_, rfl⟩); (have hLb : L[k.toNat]? = some (oa, beaR x y bX bY) := by rw [hL]; unfold bearL; rw [List.getElem?_map, hvb]; rfl); (try conv => cbv))
          | (refine hN2 (_, _, _, _) _ [0, 1] (by decide) rfl ⟨?_, ?_⟩ ?_ <;> (try dsimp only))
          | (refine hN (_, _, _, _) _ [0, 1] (by decide) rfl ⟨?_, ?_⟩ ?_ <;> (try dsimp only))
          | ((first
         | refine q0 hE ?_
         | refine callI hE (l02Bearing_ _ _ _ _ hob.1 hvpa) (fun _ _ => ?_)
         | refine callI hE (l02Bearing_ _ _ _ _ hob.1 hvpb) (fun _ _ => ?_)
         | refine callI hE (l16Cross_ _ _) (fun _ _ => ?_)
         | refine q1 hE ?_|refine q2 hE ?_|refine ltI hE (fun _=>?_) fun _=>?_|refine q4 hE ?_|refine q5 hE ?_|refine leI hE (fun _=>?_) fun _=>?_|refine q6 hE ?_|refine q7 hE ?_|refine eqI hE (fun _=>?_) fun _=>?_|refine q8 hE fun _ _=>?_|refine q9 hE fun _ _=>?_|refine addI hE fun _ _=>?_|refine subI hE fun _ _=>?_|refine qa hE fun _ _ _=>?_|refine len0 hE fun _ _=>?_|refine qb hE fun _ _=>?_|refine qc hE ?_|refine qd hE ?_|refine iteB (fun _=>?_) fun _=>?_|refine maxI hE fun _ _=>?_|refine minI hE fun _ _=>?_|refine seqI hE (fun _=>?_) fun _=>?_|refine qe hE fun _ _ _=>?_|refine slenI hE fun _ _ _=>?_|refine qf hE fun _ _ _ _=>?_|refine qg hE ?_|refine qh hE fun _ _=>?_|refine qi hE fun _ _=>?_|refine qj hE fun _ _=>?_|refine qk hE fun _ _=>?_|refine ql hE ?_) <;> (try conv => cbv))
        all_goals (try clear hN2)
        all_goals (try clear hN)
        all_goals first
          | omega
          | (rename_i hk2; rw [hgo2, (best_in (a := (na, beaR x y aX aY)) (st := (p2, q2, m2)) (by omega) hLb hk2).1 (by subst_vars; simp only; omega)]; subst_vars; rfl)
          | (rename_i hk2; rw [hgo2, (best_in (a := (na, beaR x y aX aY)) (st := (p2, q2, m2)) (by omega) hLb hk2).2 (by subst_vars; simp only; omega)])
          | (rename_i i2 hi2; rw [show i2 = i1 by omega, hgo2, best_end (by omega)])
          | trace_state
      · refine hK _ ?_
        rw [bestR, if_pos ⟨hok, hob⟩, if_neg (by rw [← hL]; omega), ← hL, hgo, bestL_end (by omega)]; rfl
    · exact hK _ (by rw [bestR, if_neg fun h => hob h.2]; rfl)
  · exact hK _ (by rw [bestR, if_neg fun h => hok h.1]; rfl)
theorem lawBestPair {rs : List (List AV)} {t b : Bool} {l : List Aid} (x y e s : Int) (hl : rs = l.map (Aid.cs b)) : AC Tryz.prog 5 [.sl t 16 rs, .agg [.int .i64 x, .int .i64 y, .int .i64 e, .int .i64 s]] id (.bool true) := by
  refine ac Tryz.func5 (by kernel_rfl) (.bool _) fun E K hE hK => ?_
  conv => cbv
  refine callI hE (szAidS_ _ hl (by decide)) (fun z hz => ?_)
  have hz2 := szN_or2 hz
  clear hz
  conv => cbv
  refine ltI hE (fun hlt => ?_) (fun hge => ?_) <;> conv => cbv
  · exact hK _ rfl
  have hsz : l.length + (l.map Aid.sz).sum ≤ 1048576 := by omega
  repeat' first
    | ((first
   | refine q0 hE ?_
   | refine callR hE (toAidS_ hl (by omega)) (fun _ _ => ?_)
   | (refine callI hE (toObserver_ _ _ _ _) (fun _ hy => ?_); subst hy)
   | refine callIII hE (sBestPair_ _ _ _ _ (by assumption)) (fun _ _ _ _ _ _ => ?_)
   | refine callIII hE (bestPair_ _ _ _ _ (by assumption)) (fun _ _ _ _ _ _ => ?_)
   | refine callPT hE (eqAidS_ (by assumption) (by assumption)) rfl ?_
   | refine q1 hE ?_|refine q2 hE ?_|refine ltI hE (fun _=>?_) fun _=>?_|refine q4 hE ?_|refine q5 hE ?_|refine leI hE (fun _=>?_) fun _=>?_|refine q6 hE ?_|refine q7 hE ?_|refine eqI hE (fun _=>?_) fun _=>?_|refine q8 hE fun _ _=>?_|refine q9 hE fun _ _=>?_|refine addI hE fun _ _=>?_|refine subI hE fun _ _=>?_|refine qa hE fun _ _ _=>?_|refine len0 hE fun _ _=>?_|refine qb hE fun _ _=>?_|refine qc hE ?_|refine qd hE ?_|refine iteB (fun _=>?_) fun _=>?_|refine maxI hE fun _ _=>?_|refine minI hE fun _ _=>?_|refine seqI hE (fun _=>?_) fun _=>?_|refine qe hE fun _ _ _=>?_|refine slenI hE fun _ _ _=>?_|refine qf hE fun _ _ _ _=>?_|refine qg hE ?_|refine qh hE fun _ _=>?_|refine qi hE fun _ _=>?_|refine qj hE fun _ _=>?_|refine qk hE fun _ _=>?_|refine ql hE ?_) <;> (try conv => cbv))
  all_goals first
    | exact hK _ rfl
    | omega
    | trace_state
end Go.Proofs.YtlfnlgbojbgcnaaGreatDoor
