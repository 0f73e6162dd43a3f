/- Plain laws: a plan that is made can be done; visits that are due. -/
import Derived.Test.YtjenekakcoggpaaFpx
import Derived.Test.YtjenekakcoggpaaFo
namespace Go.Proofs.Ytjenekakcoggpaa
open Go Go.RowKit Go.Sort Classical
set_option maxRecDepth 100000
set_option maxHeartbeats 2000000
set_option linter.unusedVariables false
set_option linter.unusedSimpArgs false
theorem visAt_of {now : List Vis} (hok : VisitsOk now) {k : Nat} {w : Vis} (hw : now[k]? = some w) : visAt now w.aid = k := by
  unfold visAt
  refine firstI_eq (.inl ⟨by omega, by have := (List.getElem?_eq_some_iff.1 hw).1; omega, ⟨w, by simpa using hw, rfl⟩, fun j v hj hv he => ?_⟩)
  have := pair_le (ok_chain hok) (i := j) (j := k) (by omega) hv hw
  omega
theorem visAt_get {now : List Vis} {aid : Int} (h : 0 ≤ visAt now aid) : ∃ v, now[(visAt now aid).toNat]? = some v ∧ v.aid = aid := by
  rcases firstI_spec (fun v : Vis => v.aid = aid) now with ⟨h1, h2, ⟨v, h3, h4⟩, h5⟩ | ⟨h1, _⟩
  · exact ⟨v, h3, h4⟩
  · unfold visAt at h; omega
theorem markV_out {now : List Vis} {ps : List Int} {day : Int} {k : Nat} {w : Vis} (hw : now[k]? = some w) (hn : w.aid ∉ ps) : (markV now ps day)[k]? = some w := by
  unfold markV
  rw [List.getElem?_map, hw]
  simp [hn]
/-- One day of a plan, and what comes behind it. -/
theorem day_run {now : List Vis} (hok : VisitsOk now) {day room ahead : Int} (hd : 0 ≤ day ∧ day ≤ 99999) (hlast : ∀ v ∈ now, v.last ≤ day) (hr : 1 ≤ room ∧ room ≤ 10) {rest : List (List Int)}
    (h1 : ∀ bf td, bf ≤ day → runC room ahead (markV now (picksR now (day + ahead) room) day) bf td rest)
    (h2 : ∀ most, 0 ≤ most → ∃ d, 0 ≤ d ∧ runG (markV now (picksR now (day + ahead) room) day) most false rest = (d, 0)) :
    ∀ (todo done : List Int), done ++ todo = picksR now (day + ahead) room →
      (∀ bf td, bf ≤ day → (if bf < day then [] else td) = done → runC room ahead (markV now done day) bf td (dayRows day todo ++ rest)) ∧
      (∀ most, 0 ≤ most → ∃ d, 0 ≤ d ∧ runG (markV now done day) most false (dayRows day todo ++ rest) = (d, 0))
  | [], done, he => by
    rw [List.append_nil] at he
    subst he
    exact ⟨fun bf td hb _ => h1 bf td hb, h2⟩
  | a :: todo, done, he => by
    have ih := day_run hok hd hlast hr h1 h2 todo (done ++ [a]) (by rw [List.append_assoc]; exact he)
    have hnd : (picksR now (day + ahead) room).Nodup := by
      unfold picksR
      rw [List.map_take]
      exact (dueM_nodup hok _).sublist (List.take_sublist _ _)
    rw [← he] at hnd
    have hna : a ∉ done := fun h => by
      have := (List.nodup_append.1 hnd).2.2 a h a (List.mem_cons_self ..)
      exact this rfl
    have hlen : (done.length : Int) < room := by
      have h3 := congrArg List.length he
      have h4 : (picksR now (day + ahead) room).length ≤ room.toNat := by unfold picksR; rw [List.length_map]; exact List.length_take_le _ _
      rw [List.length_append, List.length_cons] at h3
      omega
    have hmem : a ∈ picksR now (day + ahead) room := by rw [← he]; simp
    obtain ⟨w, hw, rfl⟩ := List.mem_map.1 hmem
    obtain ⟨hwn, hwd⟩ := (dueM_sub hok).1 (List.mem_of_mem_take hw)
    obtain ⟨k, hk⟩ := List.getElem?_of_mem hwn
    have hm := markV_out (day := day) hk hna
    have hmok := markV_ok hok done hd
    have hat : visAt (markV now done day) w.aid = k := visAt_of hmok hm
    have hset := markV_set hok hm
    have hwl := hlast w hwn
    have hdue : IntKind.i64.wrap (w.last + w.every) ≤ day + ahead := hwd
    refine ⟨fun bf td hb hi => ?_, fun most hmost => ?_⟩
    · show runC room ahead _ bf td ([day, w.aid] :: (dayRows day todo ++ rest))
      unfold runC
      refine ⟨rfl, by simpa using hd, by simpa using hb, w, ?_, ?_, by simpa using hwl, by simpa using hdue, ?_, ?_, ?_⟩
      · show (markV now done day)[(visAt (markV now done day) w.aid).toNat]? = _
        rw [hat, Int.toNat_natCast]; exact hm
      · show 0 ≤ visAt (markV now done day) w.aid
        omega
      · show w.aid ∉ (if bf < day then [] else td)
        rw [hi]; exact hna
      · show (((if bf < day then [] else td) : List Int).length : Int) ≠ room
        rw [hi]; omega
      · show runC room ahead ((markV now done day).set (visAt (markV now done day) w.aid).toNat ⟨w.aid, w.every, day⟩) day ((if bf < day then [] else td) ++ [w.aid]) _
        rw [hat, Int.toNat_natCast, hset, hi]
        exact ih.1 day _ (Int.le_refl _) (if_neg (by omega))
    · show ∃ d, 0 ≤ d ∧ runG _ most false ([day, w.aid] :: (dayRows day todo ++ rest)) = (d, 0)
      unfold runG
      show ∃ d, 0 ≤ d ∧ (if ¬ (0 ≤ day ∧ day ≤ 99999) then ((0, 2) : Int × Int) else match (markV now done day)[(visAt (markV now done day) w.aid).toNat]? with
        | some v => if visAt (markV now done day) w.aid < 0 then runG (markV now done day) most true (dayRows day todo ++ rest) else if day < v.last then (0, 2) else
            runG ((markV now done day).set (visAt (markV now done day) w.aid).toNat ⟨v.aid, v.every, day⟩) (max most (IntKind.i64.wrap (day - v.due))) false (dayRows day todo ++ rest)
        | none => runG (markV now done day) most true (dayRows day todo ++ rest)) = (d, 0)
      rw [if_neg (by omega), hat, Int.toNat_natCast, hm]
      show ∃ d, 0 ≤ d ∧ (if (k : Int) < 0 then runG (markV now done day) most true (dayRows day todo ++ rest) else if day < w.last then (0, 2) else
            runG ((markV now done day).set k ⟨w.aid, w.every, day⟩) (max most (IntKind.i64.wrap (day - w.due))) false (dayRows day todo ++ rest)) = (d, 0)
      rw [if_neg (by omega), if_neg (by omega), hset]
      exact ih.2 _ (by omega)
theorem go_run {room ahead : Int} (hr : 1 ≤ room ∧ room ≤ 10) : ∀ (n : Nat) (day : Int) (now : List Vis) (plan p : List (List Int)), VisitsOk now → 0 ≤ day → day + n ≤ 100000 → (∀ v ∈ now, v.last ≤ day) → planGo room ahead n day now plan = (p, 0) →
    ∃ more, p = plan ++ more ∧ (∀ bf td, bf < day → runC room ahead now bf td more) ∧ (∀ bf td, bf ≤ day → (∀ x, x ∉ (td : List Int)) → runC room ahead now bf td more) ∧ (∀ most, 0 ≤ most → ∃ d, 0 ≤ d ∧ runG now most false more = (d, 0)) ∧ ∀ x ∈ more, x.length = 2 ∧ day ≤ x.getD 0 0 ∧ x.getD 0 0 < day + n
  | 0, day, now, plan, p, _, _, _, _, h => by
    unfold planGo at h
    cases h
    exact ⟨[], by simp, fun _ _ _ => trivial, fun _ _ _ _ => trivial, fun most hm => ⟨most, hm, rfl⟩, fun x hx => by simp at hx⟩
  | n + 1, day, now, plan, p, hok, h0, hn, hl, h => by
    unfold planGo at h
    split at h
    · cases h
    · have hd : 0 ≤ day ∧ day ≤ 99999 := by omega
      obtain ⟨more, e, g1, g2, g3, g4⟩ := go_run hr n (day + 1) _ _ p (markV_ok hok _ hd) (by omega) (by omega) (fun v hv => by
        obtain ⟨k, hk⟩ := List.getElem?_of_mem hv
        obtain ⟨w, q1, _, _, q2⟩ := markV_get hk
        have := hl w (List.mem_of_getElem? q1)
        omega) h
      obtain ⟨r1, r2⟩ := day_run hok hd hl hr (rest := more) (ahead := ahead) (fun bf td hb => g1 bf td (by omega)) g3 (picksR now (day + ahead) room) [] rfl
      rw [markV_nil] at r1 r2
      refine ⟨dayRows day (picksR now (day + ahead) room) ++ more, by rw [e, List.append_assoc], fun bf td hb => r1 bf td (by omega) (if_pos hb), fun bf td hb ht => r1 bf td hb ?_, r2, fun x hx => ?_⟩
      · split
        · rfl
        · exact List.eq_nil_iff_forall_not_mem.2 ht
      · rcases List.mem_append.1 hx with hx | hx
        · obtain ⟨a, _, rfl⟩ := List.mem_map.1 hx
          exact ⟨rfl, by simp, by simp; omega⟩
        · have := g4 x hx
          exact ⟨this.1, by omega, by omega⟩
/-- A plan that is made can be done. -/
theorem plan_good {l : List Vis} {f u room ahead : Int} {p : List (List Int)} (h : planR l f u room ahead = (p, 0)) : planOk l p room ahead ∧ (∃ d, 0 ≤ d ∧ gdelay l p = (d, 0)) ∧ ∀ x ∈ p, x.length = 2 ∧ f ≤ x.getD 0 0 ∧ x.getD 0 0 ≤ u := by
  unfold planR at h
  split at h
  · rename_i hok
    split at h
    · rename_i hl
      split at h
      · cases h
      · rename_i hno
        obtain ⟨more, e, _, g2, g3, g4⟩ := go_run hl.2.1 _ f l [] p hok (by omega) (by omega) (fun v hv => Int.not_lt.1 fun hlt => hno ⟨v, hv, hlt⟩) h
        rw [List.nil_append] at e
        subst e
        refine ⟨⟨hok, hl.2, g2 0 [] (by omega) (by simp)⟩, ?_, fun x hx => ?_⟩
        · obtain ⟨d, hd, e⟩ := g3 0 (Int.le_refl _)
          refine ⟨d, hd, ?_⟩
          unfold gdelay
          rw [if_pos hok, if_neg (fun ⟨x, hx, hne⟩ => hne (g4 x hx).1)]
          exact e
        · have := g4 x hx
          exact ⟨this.1, this.2.1, by omega⟩
    · cases h
  · cases h
/-- The least by a total preorder. -/
theorem minF_spec : ∀ (l : List Vis) (m : Vis), (minF Vis.cmp m l = m ∨ minF Vis.cmp m l ∈ l) ∧ Vis.le (minF Vis.cmp m l) m ∧ ∀ x ∈ l, Vis.le (minF Vis.cmp m l) x
  | [], m => ⟨.inl rfl, by unfold minF Vis.le; simp, fun x hx => by simp at hx⟩
  | y :: l, m => by
    have h := minF_spec l (if Vis.cmp y m < 0 then y else m)
    have e : minF Vis.cmp m (y :: l) = minF Vis.cmp (if Vis.cmp y m < 0 then y else m) l := rfl
    rw [e]
    generalize minF Vis.cmp (if Vis.cmp y m < 0 then y else m) l = r at *
    obtain ⟨h1, h2, h3⟩ := h
    have hle : Vis.le r y ∧ Vis.le r m := by
      by_cases hc : Vis.cmp y m < 0
      · rw [if_pos hc] at h2
        rw [Vis.cmp_lt] at hc
        refine ⟨h2, ?_⟩
        unfold Vis.le at *; omega
      · rw [if_neg hc] at h2
        have := (Vis.cmp_le m y).1 hc
        refine ⟨?_, h2⟩
        unfold Vis.le at *; omega
    refine ⟨?_, hle.2, fun x hx => ?_⟩
    · rcases h1 with h1 | h1
      · rw [h1]
        split
        · exact .inr (List.mem_cons_self ..)
        · exact .inl rfl
      · exact .inr (List.mem_cons_of_mem _ h1)
    · rcases List.mem_cons.1 hx with rfl | hx
      · exact hle.1
      · exact h3 x hx
theorem next_spec {a0 : Vis} {l : List Vis} (hok : VisitsOk (a0 :: l)) : nextM a0 l ∈ a0 :: l ∧ ∀ x ∈ a0 :: l, Vis.le (nextM a0 l) x := by
  have hc := ok_chain hok
  rw [List.pairwise_cons] at hc
  have e : nextM a0 l = minF Vis.cmp a0 l := (min_same l a0 hc.1 hc.2).symm
  rw [e]
  obtain ⟨h1, h2, h3⟩ := minF_spec l a0
  refine ⟨?_, fun x hx => ?_⟩
  · rcases h1 with h1 | h1
    · rw [h1]; exact List.mem_cons_self ..
    · exact List.mem_cons_of_mem _ h1
  · rcases List.mem_cons.1 hx with rfl | hx
    · exact h2
    · exact h3 x hx
/-- What has been visited. -/
noncomputable def markVR (l : List Vis) (aid day : Int) : List Vis × Int := if (visCode l aid day).2 = 0 then (match l[(visCode l aid day).1.toNat]? with
  | some v => if day < v.last then ([], 7) else (l.set (visCode l aid day).1.toNat ⟨v.aid, v.every, day⟩, 0)
  | none => ([], 1)) else ([], (visCode l aid day).2)
theorem markVR_bad {l : List Vis} {aid day : Int} (h : (markVR l aid day).2 ≠ 0) : (markVR l aid day).1 = [] := by
  unfold markVR at *
  split
  · split
    · split
      · rfl
      · rename_i h1 _ v h2 h3
        rw [if_pos h1] at h
        simp only [h2, if_neg h3] at h
        exact (h rfl).elim
    · rfl
  · rfl
theorem visit_good {v : List Vis} {aid day : Int} (h : (markVR v aid day).2 = 0) : VisitsOk (markVR v aid day).1 ∧ lateBy (markVR v aid day).1 aid day = (0, 0) ∧ (lateBy v aid day).2 = 0 ∧ (0 < (lateBy v aid day).1 → aid ∈ (dueListR v day).1) ∧ (dueListR v day).2 = 0 ∧
    (nextDue v).2.2 = 0 ∧ (0 < (dueListR v day).1.length ↔ (nextDue v).2.1 ≤ day) ∧ ∀ x, (dueListR v day).1[0]? = some x → x = (nextDue v).1 := by
  unfold markVR at h ⊢
  split at h
  · rename_i hc
    rw [if_pos hc]
    have hc' := hc
    unfold visCode at hc'
    split at hc'
    · rename_i hok
      split at hc'
      · rename_i hd
        split at hc'
        · cases hc'
        · rename_i hat
          have hcode : visCode v aid day = (visAt v aid, 0) := by unfold visCode; rw [if_pos hok, if_pos hd, if_neg hat]
          rw [hcode] at h ⊢
          obtain ⟨w, hw, hwa⟩ := visAt_get (now := v) (aid := aid) (by omega)
          simp only [hw] at h ⊢
          split at h
          · cases h
          · rename_i hlast
            rw [if_neg hlast]
            have hwm := List.mem_of_getElem? hw
            obtain ⟨w0, hw0, hwok, _⟩ := hok.1 _ (List.getElem?_eq_some_iff.1 hw).1
            rw [hw] at hw0; cases hw0
            have hset : v.set (visAt v aid).toNat ⟨w.aid, w.every, day⟩ = markV v [aid] day := by
              have h1 := markV_set (now := v) hok (ps := []) (day := day) (k := (visAt v aid).toNat) (u := w) (by rw [markV_nil]; exact hw)
              rw [markV_nil, List.nil_append, hwa] at h1
              rw [hwa]; exact h1
            have hok' : VisitsOk (v.set (visAt v aid).toNat ⟨w.aid, w.every, day⟩) := by rw [hset]; exact markV_ok hok _ hd
            have hlt := (List.getElem?_eq_some_iff.1 hw).1
            have hw' : (v.set (visAt v aid).toNat ⟨w.aid, w.every, day⟩)[(visAt v aid).toNat]? = some ⟨w.aid, w.every, day⟩ := by simp [hlt]
            have hat' : visAt (v.set (visAt v aid).toNat ⟨w.aid, w.every, day⟩) aid = (visAt v aid).toNat := by
              have := visAt_of hok' hw'
              simp only [hwa] at this ⊢
              exact this
            have hcode' : visCode (v.set (visAt v aid).toNat ⟨w.aid, w.every, day⟩) aid day = ((((visAt v aid).toNat : Nat) : Int), 0) := by
              unfold visCode; rw [if_pos hok', if_pos hd, hat', if_neg (by omega)]
            have wr : ∀ n : Int, -1000000 ≤ n ∧ n ≤ 1000000 → IntKind.i64.wrap n = n := fun n hn => IntWalk.i64_in _ (by omega)
            unfold Vis.ok at hwok
            have hdl : dueListR v day = ((dueM v day).map Vis.aid, 0) := by unfold dueListR; rw [if_pos hok, if_pos hd]
            have hlate : lateBy v aid day = (max 0 (IntKind.i64.wrap (day - IntKind.i64.wrap (w.last + w.every))), 0) := by
              unfold lateBy; rw [hcode]; simp only [hw]; rfl
            refine ⟨hok', ?_, by rw [hlate], fun hb => ?_, by rw [hdl], ?_⟩
            · unfold lateBy
              rw [hcode']
              simp only [Int.toNat_natCast, hw']
              rw [wr (day + w.every) (by omega), wr _ (by omega)]
              show (max 0 (day - (day + w.every)), (0 : Int)) = (0, 0)
              rw [show max 0 (day - (day + w.every)) = 0 by omega]
            · rw [hdl]
              rw [hlate] at hb
              simp only at hb ⊢
              rw [wr (w.last + w.every) (by omega), wr _ (by omega)] at hb
              refine List.mem_map.2 ⟨w, (dueM_sub hok).2 ⟨hwm, ?_⟩, hwa⟩
              unfold Vis.due
              rw [wr _ (by omega)]; omega
            · cases v with
              | nil => simp at hwm
              | cons a0 l =>
                obtain ⟨n1, n2⟩ := next_spec hok
                rw [nextDue_cons hok, hdl]
                have hsub : ∀ z, z ∈ dueM (a0 :: l) day ↔ z ∈ a0 :: l ∧ z.due ≤ day := fun z => dueM_sub hok
                have hsort := (dueM_due hok day).2
                refine ⟨rfl, ?_, fun x hx => ?_⟩
                · simp only [List.length_map]
                  constructor
                  · intro hp
                    obtain ⟨z, hz⟩ := List.exists_mem_of_length_pos hp
                    obtain ⟨z1, z2⟩ := (hsub z).1 hz
                    have := n2 z z1
                    unfold Vis.le at this; omega
                  · intro hp
                    exact List.length_pos_of_mem ((hsub _).2 ⟨n1, hp⟩)
                · simp only [List.getElem?_map] at hx
                  cases hm : dueM (a0 :: l) day with
                  | nil => rw [hm] at hx; simp at hx
                  | cons z m =>
                    rw [hm] at hx hsort hsub
                    simp at hx
                    subst hx
                    obtain ⟨z1, z2⟩ := (hsub z).1 (List.mem_cons_self ..)
                    have h1 := n2 z z1
                    have hnm : nextM a0 l ∈ z :: m := (hsub _).2 ⟨n1, by unfold Vis.le at h1; omega⟩
                    have h2 : Vis.le z (nextM a0 l) := by
                      rcases List.mem_cons.1 hnm with e | e
                      · rw [e]; unfold Vis.le; omega
                      · exact (List.pairwise_cons.1 hsort).1 _ e
                    show z.aid = (nextM a0 l).aid
                    unfold Vis.le at h1 h2; omega
      · cases hc'
    · cases hc'
  · exact absurd h (by assumption)
end Go.Proofs.Ytjenekakcoggpaa
