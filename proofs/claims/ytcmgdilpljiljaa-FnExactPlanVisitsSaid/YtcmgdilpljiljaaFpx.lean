/- Contracts: a plan of inspections by the reference; the law. -/
import Derived.Test.YtcmgdilpljiljaaFpw
namespace Go.Proofs.Ytcmgdilpljiljaa
open Go Go.RowKit Go.Sort Classical
set_option maxRecDepth 100000
set_option maxHeartbeats 2000000
set_option linter.unusedVariables false
set_option linter.unusedSimpArgs false
theorem ord_at {now : List Vis} {D day j q : Int} {ps : List Int} {v : Vis} (hq : (ordTo now D now.length)[j.toNat]? = some q) (hv : (markV now ps day)[q.toNat]? = some v) : ((dueM now D).map Vis.aid)[j.toNat]? = some v.aid := by
  obtain ⟨w, h1, h2, _⟩ := markV_get hv
  unfold dueM
  rw [List.getElem?_map, List.getElem?_map, hq]
  show some (vAt now q).aid = _
  rw [vAt_eq h1, h2]
theorem picks_take {now : List Vis} {D room j : Int} (h : (((ordTo now D now.length).length : Int) ≤ j ∧ j ≤ room) ∨ j = room) : ((dueM now D).map Vis.aid).take j.toNat = picksR now D room := by
  unfold picksR
  rw [← List.map_take]
  congr 1
  rcases h with ⟨h1, h2⟩ | h
  · have hl : (dueM now D).length ≤ j.toNat := by unfold dueM; rw [List.length_map]; omega
    rw [List.take_of_length_le hl, List.take_of_length_le (by omega)]
  · rw [h]
theorem mark_step {now : List Vis} (hok : VisitsOk now) {Q : List Int} {day j n : Int} {k : Nat} {u : Vis} (hu : (markV now (Q.take j.toNat) day)[k]? = some u) (hq : Q[j.toNat]? = some u.aid) (h0 : 0 ≤ j) (hn : n = j + 1) : (markV now (Q.take j.toNat) day).set k ⟨u.aid, u.every, day⟩ = markV now (Q.take n.toNat) day := by
  have e := (take_row (plan := []) (day := day) h0 hq hn).2
  rw [e]; exact markV_set hok hu
theorem upNo {α : Type} {l : List α} {p : α → Prop} {i : Int} (h : Up (fun j => ∀ w, l[j]? = some w → ¬ p w) i) (hi : l.length ≤ i) : ¬ ∃ w ∈ l, p w := fun ⟨w, hw, hp⟩ => by
  obtain ⟨j, hj⟩ := List.getElem?_of_mem hw
  have := (List.getElem?_eq_some_iff.1 hj).1
  exact h j (by omega) w hj hp
theorem sPlanVisits_ {rs : List (List AV)} {b : Bool} {l : List Vis} (f u room ahead : Int) (hl : rs = l.map Vis.cs) : AC Try.prog 23 [.sl b 3 rs, .int .i64 f, .int .i64 u, .int .i64 room, .int .i64 ahead] llLI (planR l f u room ahead) := by
  refine ac Try.func23 (by kernel_rfl) (.llLI _) fun E K hE hK => ?_
  conv => cbv
  refine callP hE (l30Ok_ hl) (fun hok => ?_) (fun hok => ?_) <;> conv => cbv
  · have h24 := hok.2
    repeat' first
      | ((refine loopC hE (ι := Int) [0, 1, 2, 3, 4] [12] (fun q => (fun (c : Int) => [(12, .int .i64 c)]) q) (fun q => (fun (c : Int) => []) q) (fun q => (fun (c : Int) => (l.length - c).toNat) q) (fun q => (fun (c : Int) => (0 ≤ c ∧ c ≤ l.length) ∧ Up (fun j => ∀ w, l[j]? = some w → ¬ f < w.last) c) q) [] (by decide) (0) (by conv => lhs; cbv) (by conv => lhs; cbv) rfl rfl (by dsimp only; exact ⟨by omega, .zero (by omega)⟩) fun c hi4 Kn4 hN4 => ?_; (try dsimp only at hi4); conv => cbv); obtain ⟨⟨c0, c1⟩, cinv⟩ := hi4)
      | (refine idxV hE hl (by omega) (by assumption) ?_; (try conv => cbv))
      | (refine idxL hE hl (by omega) (fun w hw => ?_); obtain ⟨aid, every, last⟩ := w; (try conv => cbv))
      | (refine hN4 _ _ [] (by decide) rfl ⟨?_, ?_⟩ ?_ <;> (try dsimp only))
      | ((refine loopC hE (ι := Int × (List (List AV)) × (List (List AV))) [2, 3, 4] [15, 13, 14] (fun q => (fun (day : Int) (es : List (List AV)) (ps : List (List AV)) => [(15, .int .i64 day), (13, .ob 0), (14, .ob 1)]) q.1 q.2.1 q.2.2) (fun q => (fun (day : Int) (es : List (List AV)) (ps : List (List AV)) => [.row 3 es, .row 1 ps]) q.1 q.2.1 q.2.2) (fun q => (fun (day : Int) (es : List (List AV)) (ps : List (List AV)) => (u + 1 - day).toNat) q.1 q.2.1 q.2.2) (fun q => (fun (day : Int) (es : List (List AV)) (ps : List (List AV)) => (f ≤ day ∧ day ≤ u + 1) ∧ ∃ (now : List Vis) (plan : List (List Int)), es = now.map Vis.cs ∧ ps = plan.map (llR true) ∧ VisitsOk now ∧ plan.length ≤ 200 ∧ planGo room ahead (u - f + 1).toNat f l [] = planGo room ahead (u - day + 1).toNat day now plan) q.1 q.2.1 q.2.2) [1, 2] (by decide) ((f, _, [])) (by conv => lhs; cbv) (by conv => lhs; cbv) rfl rfl (by dsimp only; exact ⟨by omega, l, [], by assumption, rfl, hok, by simp, rfl⟩) fun q hi2 Kn2 hN2 => ?_; obtain ⟨day, es, ps⟩ := q; (try dsimp only at hi2); conv => cbv); obtain ⟨⟨d0, d1⟩, now, plan, e1, e2, nok, pl, hgo⟩ := hi2)
      | (refine add64 (a := day) (b := ahead) hE (by omega) (fun D hD => ?_); (try conv => cbv))
      | (refine callR hE (l30Order_ _ e1 (by have := nok.2; omega)) (fun ro hro => ?_); have hom := ordTo_mem now D now.length; have hn24 := nok.2; (try conv => cbv))
      | ((refine loopC hE (ι := Int × (List (List AV)) × (List (List AV))) [2, 3, 4, 15, 16] [17, 13, 14] (fun q => (fun (j : Int) (es2 : List (List AV)) (ps2 : List (List AV)) => [(17, .int .i64 j), (13, .ob 0), (14, .ob 1)]) q.1 q.2.1 q.2.2) (fun q => (fun (j : Int) (es2 : List (List AV)) (ps2 : List (List AV)) => [.row 3 es2, .row 1 ps2, .row 1 ro]) q.1 q.2.1 q.2.2) (fun q => (fun (j : Int) (es2 : List (List AV)) (ps2 : List (List AV)) => ((ordTo now D now.length).length - j).toNat) q.1 q.2.1 q.2.2) (fun q => (fun (j : Int) (es2 : List (List AV)) (ps2 : List (List AV)) => (0 ≤ j ∧ j ≤ (ordTo now D now.length).length ∧ j ≤ room) ∧ es2 = (markV now (((dueM now D).map Vis.aid).take j.toNat) day).map Vis.cs ∧ ps2 = (plan ++ dayRows day (((dueM now D).map Vis.aid).take j.toNat)).map (llR true)) q.1 q.2.1 q.2.2) [0, 1, 2] (by decide) ((0, es, ps)) (by conv => lhs; cbv) (by conv => lhs; cbv) rfl rfl (by dsimp only; exact ⟨by omega, by simp [markV_nil]; exact e1, by simp [dayRows]; exact e2⟩) fun q hi3 Kn3 hN3 => ?_; obtain ⟨j, es2, ps2⟩ := q; (try dsimp only at hi3); conv => cbv); obtain ⟨⟨j0, j1, j2⟩, e3, e4⟩ := hi3; have hml := markV_len now (((dueM now D).map Vis.aid).take j.toNat) day)
      | (refine idxV hE hro (by omega) (by assumption) ?_; (try conv => cbv))
      | (refine idxL hE hro (by omega) (fun q hq => ?_); have hq2 := hom.1 q (List.mem_of_getElem? hq); (try conv => cbv))
      | (refine idxL hE e3 (by omega) (fun v hv => ?_); (try conv => cbv))
      | (refine hN3 (_, _, _) _ [0, 5, 2] (by decide) rfl ⟨?_, ?_, ?_⟩ ?_ <;> (try dsimp only))
      | (refine hN2 (_, _, _) _ [0, 1] (by decide) rfl ⟨?_, _, _, e3, e4, ?_, ?_, ?_⟩ ?_ <;> (try dsimp only))
      | ((first
       | refine idxV hE (by assumption) (by omega) (by assumption) ?_
       | refine callP hE (l04Day_ _) (fun _ => ?_) (fun _ => ?_)
       | refine callP hE (in_ _ _ _) (fun _ => ?_) (fun _ => ?_)
       | refine callP hE (l30Room_ _ _) (fun _ => ?_) (fun _ => ?_)
       | refine nilOwnI hE 1 ?_
       | refine noownI hE (by rw [hl]; exact Vis.nown l) ?_
       | refine cat0L hE (R := Vis.cs) hl (by omega) (fun _ _ => ?_)
       | refine updL hE (R := Vis.cs) (⟨v.aid, v.every, day⟩ : Vis) e3 (by omega) hv (by exact Nat.le_of_ble_eq_true rfl) (by rfl) (fun es3 he3 => ?_)
       | refine idxS hE he3 (by omega) ?_
       | refine catP hE (R := llR true) (v := [day, v.aid]) e4 rfl (by simp only [List.length_append, dayRows, List.length_map, List.length_take]; omega) (fun ps3 hp3 => ?_)
       | refine lenL hE e4 (fun _ _ _ => ?_)
       | refine ltT hE (by omega) ?_
       | refine ltF hE (by omega) ?_
       | refine ltI hE (fun _ => ?_) (fun _ => ?_)
       | refine leT hE (by omega) ?_
       | refine leF hE (by omega) ?_
       | refine leI hE (fun _ => ?_) (fun _ => ?_)
       | refine eqT hE (by omega) ?_
       | refine eqF hE (by omega) ?_
       | refine eqI hE (fun _ => ?_) (fun _ => ?_)
       | refine add64 hE (by omega) (fun _ _ => ?_)
       | refine sub64 hE (by omega) (fun _ _ => ?_)
       | refine addI hE (fun _ _ => ?_)
       | refine subI hE (fun _ _ => ?_)
       | refine lenL hE (by assumption) (fun _ _ _ => ?_)
       | refine len0 hE (fun _ _ => ?_)
       | refine idxL hE (by assumption) (by first | omega | (simp only [List.length_set, mix_len]; omega)) (fun _ _ => ?_)
       | refine idxFill hE (by assumption) (by omega) ?_
       | refine idxI hE (by decide) (by rfl) ?_
       | refine iteB (fun _ => ?_) (fun _ => ?_)
       | refine maxI hE (fun _ _ => ?_)
       | refine minI hE (fun _ _ => ?_)
       | refine seqI hE (fun _ => ?_) (fun _ => ?_)
       | refine scatI hE (by first | omega | (simp only [ByteArray.size, Array.size, List.length_cons, List.length_nil] at *; omega)) (fun _ _ _ => ?_)
       | refine slenI hE (fun _ _ _ => ?_)
       | refine sidxI hE (by omega) (fun _ _ _ _ => ?_)
       | refine needI hE (by first | decide | omega) ?_
       | refine rem64 hE (by omega) (fun _ _ => ?_)
       | refine quo64 hE (by omega) (fun _ _ => ?_)
       | refine wrapU8 hE (by omega) (fun _ _ => ?_)
       | refine wrap64 hE (by omega) (fun _ _ => ?_)
       | refine noownI hE (by simp [AV.isOwn]) ?_) <;> (try conv => cbv))
    all_goals (try clear hN2)
    all_goals (try clear hN3)
    all_goals (try clear hN4)
    all_goals (try subst hD)
    all_goals first
      | omega
      | exact upStep cinv hw (by simp only; omega) (by assumption)
      | (rw [he3, mark_step nok hv (ord_at hq hv) j0 (by assumption)])
      | (rw [hp3, (take_row (plan := plan) (day := day) j0 (ord_at hq hv) (by assumption)).1])
      | exact markV_ok nok _ (by omega)
      | (refine hK _ ?_; rw [planR, if_pos hok, if_neg (by omega)]; rfl)
      | (refine hK _ ?_; rw [planR, if_pos hok, if_pos (by omega), if_pos ⟨_, List.mem_of_getElem? hw, by simp only; omega⟩]; rfl)
      | (have htk := picks_take (now := now) (D := day + ahead) (room := room) (j := j) (by omega)
         rw [htk] at e3 e4 ⊢
         first
          | exact planGo_step hgo (by omega) rfl (by rw [← htk]; omega) (by assumption)
          | trace_state)
      | (have htk := picks_take (now := now) (D := day + ahead) (room := room) (j := j) (by omega)
         refine hK _ ?_
         rw [planR, if_pos hok, if_pos (by omega), if_neg (upNo cinv (by omega)), planGo_full hgo (by omega) rfl (by rw [← htk]; omega)]; rfl)
      | (refine hK _ ?_; rw [planR, if_pos hok, if_pos (by omega), if_neg (upNo cinv (by omega)), planGo_done hgo (by omega), e2]; rfl)
      | trace_state
  · refine nilOwnI hE 1 ?_
    conv => cbv
    refine hK _ ?_
    rw [planR, if_neg hok]; rfl
theorem lawPlanVisits {rs : List (List AV)} {b : Bool} {l : List Vis} (f u room ahead : Int) (hl : rs = l.map Vis.cs) : AC Try.prog 4 [.sl b 3 rs, .int .i64 f, .int .i64 u, .int .i64 room, .int .i64 ahead] id (.bool true) := by
  refine ac Try.func4 (by kernel_rfl) (.bool _) fun E K hE hK => ?_
  conv => cbv
  have hlen := planR_bd l f u room ahead
  have hrow : ∀ x ∈ (planR l f u room ahead).1, x.length ≤ 100000 := fun x hx => by rw [hlen.2 x hx]; omega
  repeat' first
    | (refine callI hE (szVisitS_ _ hl (by decide)) (fun y hy => ?_); have hz := szN_or 1048576 l.length; rw [← hy] at hz; clear hy; (try conv => cbv))
    | (refine callMI hE (markVisitS_ _ (by assumption) (by omega) (by omega)) ?_; rintro _ _ ⟨n, rs', hn, hrs', rfl, rfl⟩; conv => cbv)
    | (refine callMI hE (markInt64SS_ _ (by assumption) (by omega) (by omega) hrow) ?_; rintro _ _ ⟨n, rs', hn, hrs', rfl, rfl⟩; conv => cbv)
    | ((first
     | refine idxV hE (by assumption) (by omega) (by assumption) ?_
     | refine callR hE (toVisitS_ hl (by omega)) (fun _ _ => ?_)
     | refine callLI hE (sPlanVisits_ _ _ _ _ (by assumption)) (fun _ _ _ _ => ?_)
     | refine callLI hE (planVisits_ _ _ _ _ (by assumption)) (fun _ _ _ _ => ?_)
     | refine callPT hE (eqVisitS_ (by assumption) (by assumption)) rfl ?_
     | refine callPT hE (eqInt64SS_ (by assumption) (by assumption)) rfl ?_
     | refine sameI hE (by subst_vars; simp [Vis.mks_len, mkLL_len]) ?_
     | refine callI hE (heldInt64SS_ _ (by assumption) (by omega) (by omega) hrow) (fun _ _ => ?_)
     | refine ltT hE (by omega) ?_
     | refine ltF hE (by omega) ?_
     | refine ltI hE (fun _ => ?_) (fun _ => ?_)
     | refine leT hE (by omega) ?_
     | refine leF hE (by omega) ?_
     | refine leI hE (fun _ => ?_) (fun _ => ?_)
     | refine eqT hE (by omega) ?_
     | refine eqF hE (by omega) ?_
     | refine eqI hE (fun _ => ?_) (fun _ => ?_)
     | refine add64 hE (by omega) (fun _ _ => ?_)
     | refine sub64 hE (by omega) (fun _ _ => ?_)
     | refine addI hE (fun _ _ => ?_)
     | refine subI hE (fun _ _ => ?_)
     | refine lenL hE (by assumption) (fun _ _ _ => ?_)
     | refine len0 hE (fun _ _ => ?_)
     | refine idxL hE (by assumption) (by first | omega | (simp only [List.length_set, mix_len]; omega)) (fun _ _ => ?_)
     | refine idxFill hE (by assumption) (by omega) ?_
     | refine idxI hE (by decide) (by rfl) ?_
     | refine iteB (fun _ => ?_) (fun _ => ?_)
     | refine maxI hE (fun _ _ => ?_)
     | refine minI hE (fun _ _ => ?_)
     | refine seqI hE (fun _ => ?_) (fun _ => ?_)
     | refine scatI hE (by first | omega | (simp only [ByteArray.size, Array.size, List.length_cons, List.length_nil] at *; omega)) (fun _ _ _ => ?_)
     | refine slenI hE (fun _ _ _ => ?_)
     | refine sidxI hE (by omega) (fun _ _ _ _ => ?_)
     | refine needI hE (by first | decide | omega) ?_
     | refine rem64 hE (by omega) (fun _ _ => ?_)
     | refine quo64 hE (by omega) (fun _ _ => ?_)
     | refine wrapU8 hE (by omega) (fun _ _ => ?_)
     | refine wrap64 hE (by omega) (fun _ _ => ?_)
     | refine noownI hE (by simp [AV.isOwn]) ?_) <;> (try conv => cbv))
  all_goals first
    | exact hK _ rfl
    | omega
    | trace_state
end Go.Proofs.Ytcmgdilpljiljaa
