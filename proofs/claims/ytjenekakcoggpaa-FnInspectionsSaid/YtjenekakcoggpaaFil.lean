/- Contracts: a visit is noted; the law of inspections. -/
import Derived.Test.YtjenekakcoggpaaFin
import Derived.Test.YtjenekakcoggpaaFse
import Derived.Test.YtjenekakcoggpaaFb
import Derived.Test.YtjenekakcoggpaaFdo
import Derived.Test.YtjenekakcoggpaaFh
namespace Go.Proofs.Ytjenekakcoggpaa
open Go Go.RowKit Classical
set_option maxRecDepth 100000
set_option maxHeartbeats 2000000
set_option linter.unusedVariables false
set_option linter.unusedSimpArgs false
def visLI (p : List Vis × Int) : AV := .tup [.sl true 3 (p.1.map Vis.cs), .int .i64 p.2]
theorem NoB.visLI (p : List Vis × Int) : NoB (visLI p) := .tupC (.sl _ _ fun i j e c he hc => by
  rw [List.getElem?_map] at he
  cases hv : p.1[i]? with
  | none => rw [hv] at he; cases he
  | some v =>
    rw [hv] at he; cases he
    have : c ∈ Vis.cs v := List.mem_of_getElem? hc
    simp only [Vis.cs, List.mem_cons, List.not_mem_nil, or_false] at this
    rcases this with rfl | rfl | rfl <;> constructor) (.tupC (.int _ _) .tup0)
theorem markVisited_ {rs : List (List AV)} {b : Bool} {l : List Vis} (aid day : Int) (hl : rs = l.map Vis.cs) (hb : l.length ≤ 1048576) : AC Try.prog 36 [.sl b 3 rs, .int .i64 aid, .int .i64 day] visLI (markVR l aid day) := by
  refine ac Try.func36 (by kernel_rfl) (.visLI _) fun E K hE hK => ?_
  conv => cbv
  refine callI hE (visitCode_ aid day hl) fun y hy => ?_
  have hok := @visCode_ok l aid day
  have hR : markVR l aid day = markVR l aid day := rfl
  conv at hR => rhs; unfold markVR
  rw [← hy] at hok hR
  obtain ⟨i, c⟩ := y
  simp only at hok hR
  conv => cbv
  repeat' first
    | ((refine idxL (R := Vis.cs) hE hl (by have := hok (by assumption); omega) ?_; rintro ⟨w1, w2, w3⟩ hw; (try conv => cbv)))
    | ((refine idxV (R := Vis.cs) hE (by assumption) (by have := hok (by assumption); omega) hw ?_; (try conv => cbv)))
    | (refine updL hE (R := Vis.cs) ⟨w1, w2, day⟩ (by assumption) (by have := hok (by assumption); omega) hw (by exact Nat.le_of_ble_eq_true rfl) (by rfl) (fun es' hes' => ?_); (try conv => cbv))
    | ((first
     | refine idxV hE (by assumption) (by omega) (by assumption) ?_
     | refine callR hE (cloneVis_ hl hb) (fun _ _ => ?_)
     | refine nilOwnI hE 3 ?_
     | refine ltT hE (by omega) ?_
     | refine ltF hE (by omega) ?_
     | refine ltI hE (fun _ => ?_) (fun _ => ?_)
     | refine leT hE (by omega) ?_
     | refine leF hE (by omega) ?_
     | refine leI hE (fun _ => ?_) (fun _ => ?_)
     | refine eqT hE (by omega) ?_
     | refine eqF hE (by omega) ?_
     | refine eqI hE (fun _ => ?_) (fun _ => ?_)
     | refine add64 hE (by omega) (fun _ _ => ?_)
     | refine sub64 hE (by omega) (fun _ _ => ?_)
     | refine addI hE (fun _ _ => ?_)
     | refine subI hE (fun _ _ => ?_)
     | refine lenL hE (by assumption) (fun _ _ _ => ?_)
     | refine len0 hE (fun _ _ => ?_)
     | refine idxL hE (by assumption) (by first | omega | (simp only [List.length_set, mix_len]; omega)) (fun _ _ => ?_)
     | refine idxFill hE (by assumption) (by omega) ?_
     | refine idxI hE (by decide) (by rfl) ?_
     | refine iteB (fun _ => ?_) (fun _ => ?_)
     | refine maxI hE (fun _ _ => ?_)
     | refine minI hE (fun _ _ => ?_)
     | refine seqI hE (fun _ => ?_) (fun _ => ?_)
     | refine scatI hE (by first | omega | (simp only [ByteArray.size, Array.size, List.length_cons, List.length_nil] at *; omega)) (fun _ _ _ => ?_)
     | refine slenI hE (fun _ _ _ => ?_)
     | refine sidxI hE (by omega) (fun _ _ _ _ => ?_)
     | refine needI hE (by first | decide | omega) ?_
     | refine rem64 hE (by omega) (fun _ _ => ?_)
     | refine quo64 hE (by omega) (fun _ _ => ?_)
     | refine wrapU8 hE (by omega) (fun _ _ => ?_)
     | refine wrap64 hE (by omega) (fun _ _ => ?_)
     | refine noownI hE (by simp [AV.isOwn]) ?_) <;> (try conv => cbv))
  all_goals first
    | (refine hK _ ?_; rw [hR, if_neg (by assumption)]; rfl)
    | (refine hK _ ?_; rw [hR, if_pos (by assumption), hw]; simp only; rw [if_pos (by assumption)]; rfl)
    | (refine hK _ ?_; rw [hR, if_pos (by assumption), hw]; simp only; rw [if_neg (by omega), hes']; rfl)
    | trace_state
theorem b10Has_ {rs : List (List AV)} {t : Bool} {l : List Int} (x : Int) (hl : rs = l.map intR) : AC Try.prog 19 [.sl t 1 rs, .int .i64 x] AV.bool (bP (x ∈ l)) := by
  refine ac Try.func19 (by kernel_rfl) (.bool _) fun E K hE hK => ?_
  conv => cbv
  refine loopC hE (ι := Int) [0, 1] [5] (fun q => (fun (i : Int) => [(5, .int .i64 i)]) q) (fun q => (fun (i : Int) => []) q) (fun q => (fun (i : Int) => (l.length - i).toNat) q) (fun q => (fun (i : Int) => 0 ≤ i ∧ Up (fun j => ∀ v, l[j]? = some v → ¬ v = x) i) q) [] (by decide) (0) (by conv => lhs; cbv) (by conv => lhs; cbv) rfl rfl (by dsimp only; exact ⟨by omega, .zero (by omega)⟩) fun i hi Kn hN => ?_
  (try dsimp only at hi)
  conv => cbv
  obtain ⟨h0, hinv⟩ := hi
  repeat' first
    | (refine idxL hE hl (by omega) (fun v hv => ?_); (try conv => cbv))
    | (refine hN _ _ [] (by decide) rfl ⟨?_, ?_⟩ ?_ <;> (try dsimp only))
    | ((first
     | refine idxV hE (by assumption) (by omega) (by assumption) ?_
     | refine ltT hE (by omega) ?_
     | refine ltF hE (by omega) ?_
     | refine ltI hE (fun _ => ?_) (fun _ => ?_)
     | refine leT hE (by omega) ?_
     | refine leF hE (by omega) ?_
     | refine leI hE (fun _ => ?_) (fun _ => ?_)
     | refine eqT hE (by omega) ?_
     | refine eqF hE (by omega) ?_
     | refine eqI hE (fun _ => ?_) (fun _ => ?_)
     | refine add64 hE (by omega) (fun _ _ => ?_)
     | refine sub64 hE (by omega) (fun _ _ => ?_)
     | refine addI hE (fun _ _ => ?_)
     | refine subI hE (fun _ _ => ?_)
     | refine lenL hE (by assumption) (fun _ _ _ => ?_)
     | refine len0 hE (fun _ _ => ?_)
     | refine idxL hE (by assumption) (by first | omega | (simp only [List.length_set, mix_len]; omega)) (fun _ _ => ?_)
     | refine idxFill hE (by assumption) (by omega) ?_
     | refine idxI hE (by decide) (by rfl) ?_
     | refine iteB (fun _ => ?_) (fun _ => ?_)
     | refine maxI hE (fun _ _ => ?_)
     | refine minI hE (fun _ _ => ?_)
     | refine seqI hE (fun _ => ?_) (fun _ => ?_)
     | refine scatI hE (by first | omega | (simp only [ByteArray.size, Array.size, List.length_cons, List.length_nil] at *; omega)) (fun _ _ _ => ?_)
     | refine slenI hE (fun _ _ _ => ?_)
     | refine sidxI hE (by omega) (fun _ _ _ _ => ?_)
     | refine needI hE (by first | decide | omega) ?_
     | refine rem64 hE (by omega) (fun _ _ => ?_)
     | refine quo64 hE (by omega) (fun _ _ => ?_)
     | refine wrapU8 hE (by omega) (fun _ _ => ?_)
     | refine wrap64 hE (by omega) (fun _ _ => ?_)
     | refine noownI hE (by simp [AV.isOwn]) ?_) <;> (try conv => cbv))
  all_goals (try clear hN)
  all_goals first
    | omega
    | exact finB hK (bP_true.2 (by subst_vars; exact List.mem_of_getElem? (by assumption)))
    | exact hinv.succ (fun w hw => by rw [hv] at hw; cases hw; assumption) (by assumption)
    | exact finB hK (bP_false.2 fun h => by
        obtain ⟨j, hj⟩ := List.getElem?_of_mem h
        exact hinv j (by have := (List.getElem?_eq_some_iff.1 hj).1; omega) x hj rfl)
    | trace_state
theorem b10Long_ {rs : List (List AV)} {t : Bool} {l : List Int} (hl : rs = l.map u8R) : AC Try.prog 8 [.sl t 1 rs] AV.bool (bP (1048576 < l.length)) := by
  refine ac Try.func8 (by kernel_rfl) (.bool _) fun E K hE hK => ?_
  conv => cbv
  repeat' first
    | ((first
     | refine idxV hE (by assumption) (by omega) (by assumption) ?_
     | refine ltT hE (by omega) ?_
     | refine ltF hE (by omega) ?_
     | refine ltI hE (fun _ => ?_) (fun _ => ?_)
     | refine leT hE (by omega) ?_
     | refine leF hE (by omega) ?_
     | refine leI hE (fun _ => ?_) (fun _ => ?_)
     | refine eqT hE (by omega) ?_
     | refine eqF hE (by omega) ?_
     | refine eqI hE (fun _ => ?_) (fun _ => ?_)
     | refine add64 hE (by omega) (fun _ _ => ?_)
     | refine sub64 hE (by omega) (fun _ _ => ?_)
     | refine addI hE (fun _ _ => ?_)
     | refine subI hE (fun _ _ => ?_)
     | refine lenL hE (by assumption) (fun _ _ _ => ?_)
     | refine len0 hE (fun _ _ => ?_)
     | refine idxL hE (by assumption) (by first | omega | (simp only [List.length_set, mix_len]; omega)) (fun _ _ => ?_)
     | refine idxFill hE (by assumption) (by omega) ?_
     | refine idxI hE (by decide) (by rfl) ?_
     | refine iteB (fun _ => ?_) (fun _ => ?_)
     | refine maxI hE (fun _ _ => ?_)
     | refine minI hE (fun _ _ => ?_)
     | refine seqI hE (fun _ => ?_) (fun _ => ?_)
     | refine scatI hE (by first | omega | (simp only [ByteArray.size, Array.size, List.length_cons, List.length_nil] at *; omega)) (fun _ _ _ => ?_)
     | refine slenI hE (fun _ _ _ => ?_)
     | refine sidxI hE (by omega) (fun _ _ _ _ => ?_)
     | refine needI hE (by first | decide | omega) ?_
     | refine rem64 hE (by omega) (fun _ _ => ?_)
     | refine quo64 hE (by omega) (fun _ _ => ?_)
     | refine wrapU8 hE (by omega) (fun _ _ => ?_)
     | refine wrap64 hE (by omega) (fun _ _ => ?_)
     | refine noownI hE (by simp [AV.isOwn]) ?_) <;> (try conv => cbv))
  all_goals first
    | exact finB hK (bP_true.2 (by omega))
    | exact finB hK (bP_false.2 (by omega))
theorem sValidVisits_ {rs : List (List AV)} {t : Bool} {l : List Vis} (hl : rs = l.map Vis.cs) : AC Try.prog 40 [.sl t 3 rs] AV.bool (bP (VisitsOk l)) := by
  refine ac Try.func40 (by kernel_rfl) (.bool _) fun E K hE hK => ?_
  conv => cbv
  refine callP hE (l30Ok_ hl) (fun h => ?_) (fun h => ?_) <;> conv => cbv
  · exact finB hK (bP_true.2 h)
  · exact finB hK (bP_false.2 h)
theorem list2 {x : List Int} (h : x.length = 2) : ∃ a b, x = [a, b] := by
  match x, h with
  | [a, b], _ => exact ⟨a, b, rfl⟩
theorem len2E {E : Env} {np : Nat} {P : Program} (hE : E = stdE np P) {a b : List AV} {K : Int → Prop} (h : ∀ n : Int, n = 2 → K n) : E.len [a, b] K := by
  subst hE; exact fun _ => h _ rfl
set_option maxHeartbeats 40000000
theorem lawInspections {rs rs' : List (List AV)} {t t' : Bool} {code more : List Int} (hc : rs = code.map u8R) (hb : Bytes code) (hc' : rs' = more.map u8R) (hb' : Bytes more) : AC Try.prog 6 [.sl t 1 rs, .sl t' 1 rs'] id (.bool true) := by
  refine ac Try.func6 (by kernel_rfl) (.bool _) fun E K hE hK => ?_
  conv => cbv
  refine callP hE (b10Long_ hc) (fun hq => ?_) (fun hq => ?_) <;> conv => cbv
  · exact hK _ rfl
  refine callP hE (b10Long_ hc') (fun hq' => ?_) (fun hq' => ?_) <;> conv => cbv
  · exact hK _ rfl
  refine callSI hE (drawPlanVisits_ hc hb) ?_
  rintro r ys ⟨l, rs1, f, u, room, ahead, rfl, hl, hlen, rfl⟩
  conv => cbv
  refine callLI hE (planVisits_ f u room ahead hl) (fun ps cd hps hcd => ?_)
  conv => cbv
  have hplan : cd = 0 → _ := fun h => plan_good (l := l) (f := f) (u := u) (room := room) (ahead := ahead) (p := (planR l f u room ahead).1) (by rw [← h, hcd])
  generalize (planR l f u room ahead).1 = p at *
  repeat' first
    | (refine callI hE (greatestDelay_ hl hps) (fun y hy => ?_); obtain ⟨hpo, ⟨d, hd0, hd⟩, hrow⟩ := hplan (by assumption); rw [hd] at hy; subst hy; (try conv => cbv))
    | (refine callPT hE (checkPlan_ _ _ hl hps) hpo ?_; (try conv => cbv))
    | ((refine loopC hE (ι := Int) [1, 6, 7, 10] [14] (fun q => (fun (i : Int) => [(14, .int .i64 i)]) q) (fun q => (fun (i : Int) => []) q) (fun q => (fun (i : Int) => (p.length - i).toNat) q) (fun q => (fun (i : Int) => 0 ≤ i) q) [] (by decide) (0) (by conv => lhs; cbv) (by conv => lhs; cbv) rfl rfl (by dsimp only; exact by omega) fun i hi2 Kn2 hN2 => ?_; (try dsimp only at hi2); conv => cbv))
    | (refine idxV (R := llR true) hE hps (by omega) (show p[i.toNat]? = some [x0, x1] from hx) ?_; (try conv => cbv))
    | (refine idxL (R := llR true) hE hps (by omega) (fun x hx => ?_); obtain ⟨x0, x1, rfl⟩ := list2 (hrow x (List.mem_of_getElem? hx)).1; have hxr : f ≤ x0 ∧ x0 ≤ u := (hrow _ (List.mem_of_getElem? hx)).2; (try conv => cbv))
    | (refine len2E hE (fun n hn => ?_); (try conv => cbv))
    | (refine hN2 _ _ [] (by decide) rfl (by omega) ?_ <;> (try dsimp only))
    | (refine callSI hE (drawMarkVisited_ hc' hb') ?_; rintro r ys ⟨v, rs2, aid, day, rfl, hv, hvl, rfl⟩; (try conv => cbv))
    | (refine callLI hE (markVisited_ aid day hv (by omega)) (fun ns c3 hns hc3 => ?_); have hbad := @markVR_bad v aid day; (try conv => cbv))
    | (refine callLI hE (dueListI_ day hv (by omega)) (fun ds c4 hds hc4 => ?_); (try conv => cbv))
    | (refine callII hE (lateBy_ aid day hns) (fun m1 n1 hm1 hn1 => ?_); obtain ⟨g1, g2, g3, g4, g5, g6, g7, g8⟩ := visit_good (v := v) (aid := aid) (day := day) (by omega); rw [g2] at hm1 hn1; simp only at hm1 hn1; (try conv => cbv))
    | (refine callII hE (lateBy_ aid day hv) (fun m2 n2 hm2 hn2 => ?_); (try conv => cbv))
    | (refine callI hE (nextDue_ hv) (fun y hy => ?_); obtain ⟨first, least, c5⟩ := y; rw [← hy] at g6 g7 g8; simp only at g6 g7 g8; (try conv => cbv))
    | (refine callPT hE (b10Has_ aid hds) (g4 (by omega)) ?_; (try conv => cbv))
    | (refine callPT hE (sValidVisits_ hns) g1 ?_; (try conv => cbv))
    | (refine idxL (R := intR) hE hds (by omega) (fun x hx => ?_); have hxf := g8 x hx; (try conv => cbv))
    | (refine lenL hE hns (fun n hn _ => ?_); have hz : n = 0 := (by rw [hn, hbad (by omega)]; rfl); (try conv => cbv))
    | ((first
     | refine idxV hE (by assumption) (by omega) (by assumption) ?_
     | refine ltT hE (by omega) ?_
     | refine ltF hE (by omega) ?_
     | refine ltI hE (fun _ => ?_) (fun _ => ?_)
     | refine leT hE (by omega) ?_
     | refine leF hE (by omega) ?_
     | refine leI hE (fun _ => ?_) (fun _ => ?_)
     | refine eqT hE (by omega) ?_
     | refine eqF hE (by omega) ?_
     | refine eqI hE (fun _ => ?_) (fun _ => ?_)
     | refine add64 hE (by omega) (fun _ _ => ?_)
     | refine sub64 hE (by omega) (fun _ _ => ?_)
     | refine addI hE (fun _ _ => ?_)
     | refine subI hE (fun _ _ => ?_)
     | refine lenL hE (by assumption) (fun _ _ _ => ?_)
     | refine len0 hE (fun _ _ => ?_)
     | refine idxL hE (by assumption) (by first | omega | (simp only [List.length_set, mix_len]; omega)) (fun _ _ => ?_)
     | refine idxFill hE (by assumption) (by omega) ?_
     | refine idxI hE (by decide) (by rfl) ?_
     | refine iteB (fun _ => ?_) (fun _ => ?_)
     | refine maxI hE (fun _ _ => ?_)
     | refine minI hE (fun _ _ => ?_)
     | refine seqI hE (fun _ => ?_) (fun _ => ?_)
     | refine scatI hE (by first | omega | (simp only [ByteArray.size, Array.size, List.length_cons, List.length_nil] at *; omega)) (fun _ _ _ => ?_)
     | refine slenI hE (fun _ _ _ => ?_)
     | refine sidxI hE (by omega) (fun _ _ _ _ => ?_)
     | refine needI hE (by first | decide | omega) ?_
     | refine rem64 hE (by omega) (fun _ _ => ?_)
     | refine quo64 hE (by omega) (fun _ _ => ?_)
     | refine wrapU8 hE (by omega) (fun _ _ => ?_)
     | refine wrap64 hE (by omega) (fun _ _ => ?_)
     | refine noownI hE (by simp [AV.isOwn]) ?_) <;> (try conv => cbv))
  all_goals first
    | exact hK _ rfl
    | omega
    | trace_state
end Go.Proofs.Ytjenekakcoggpaa
