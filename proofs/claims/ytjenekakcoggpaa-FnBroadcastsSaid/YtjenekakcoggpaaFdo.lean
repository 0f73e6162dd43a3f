/- Contracts: what is due on a day; the law. -/
import Derived.Test.YtjenekakcoggpaaFdn
import Derived.Test.YtjenekakcoggpaaFso
namespace Go.Proofs.Ytjenekakcoggpaa
open Go Go.RowKit Go.Sort Classical
set_option maxRecDepth 100000
set_option maxHeartbeats 2000000
set_option linter.unusedVariables false
set_option linter.unusedSimpArgs false
theorem NoB.oVis (v : Vis) : NoB (.agg v.cs) := NoB.vis v
def Vis.mk' (k : Int) : Vis := ⟨k + 0, k + 1, k + 2⟩
def Vis.mks (n : Nat) (k : Int) : List Vis := (List.range n).map fun i : Nat => Vis.mk' (k + 3 * (i : Int))
theorem Vis.mks_len (n : Nat) (k : Int) : (Vis.mks n k).length = n := by simp [Vis.mks]
theorem Vis.mks_get {n : Nat} {k i : Int} {v : Vis} (h0 : 0 ≤ i) (h : (Vis.mks n k)[i.toNat]? = some v) : v = Vis.mk' (k + 3 * i) := by
  unfold Vis.mks at h
  rw [List.getElem?_map] at h
  by_cases hi : i.toNat < n
  · rw [List.getElem?_range hi] at h
    simp only [Option.map_some, Option.some.injEq] at h
    rw [← h, Int.toNat_of_nonneg h0]
  · rw [List.getElem?_eq_none (by simpa using Nat.le_of_not_lt hi)] at h; cases h
theorem Vis.swo : SWO (ltOf Vis.cmp) :=
  swo_of (fun x => by rw [Vis.cmp_lt]; omega) (fun x y z h1 h2 => by rw [Vis.cmp_lt] at *; omega) (fun x y z h1 h2 => by rw [Vis.cmp_lt] at *; omega)
theorem sortVis_ {rs : List (List AV)} {l : List Vis} (hl : rs = l.map Vis.cs) (hb : l.length ≤ 1048576) : ACM Try.prog 98 [.sl true 3 rs, .fn 99 []]
    (fun r ys => ∃ (m : List Vis) (rs' : List (List AV)), m.Perm l ∧ m.Pairwise Vis.le ∧ rs' = m.map Vis.cs ∧ r = .tup [] ∧ ys = [.sl true 3 rs', .any]) :=
  (ACM.sort Vis.cs Try.sortVis Try.isAgg118 Try.sizeOf118 (fun _ _ => rfl) (fun _ => rfl) (fun _ _ h => by simp only [Vis.cs, List.mem_cons, List.not_mem_nil, or_false] at h; rcases h with rfl | rfl | rfl <;> rfl) Vis.swo (fun x y => visCompare_ x.aid x.every x.last y.aid y.every y.last) hl hb).mono
    fun r ys ⟨m, rs', h1, h2, h3, h4, h5⟩ => ⟨m, rs', h1, pw_of fun i j x y hij hx hy => (Vis.cmp_le x y).1 (h2 i j x y hij hx hy), h3, h4, h5⟩
noncomputable def dueM (l : List Vis) (day : Int) : List Vis := (ordTo l day l.length).map (vAt l)
noncomputable def dueListR (l : List Vis) (day : Int) : List Int × Int := if VisitsOk l then (if 0 ≤ day ∧ day ≤ 99999 then ((dueM l day).map Vis.aid, 0) else ([], 2)) else ([], 1)
theorem dueListR_len (l : List Vis) (day : Int) : (dueListR l day).1.length ≤ l.length := by
  unfold dueListR
  split
  · split
    · simp only [dueM, List.length_map]; exact (ordTo_mem l day l.length).2
    · simp
  · simp
theorem dueM_is {l m : List Vis} (hok : VisitsOk l) (day : Int) (hp : m.Perm l) (hs : m.Pairwise Vis.le) : rej (fun v => day < v.due) m = dueM l day := by
  have h := ordTo_due hok day l.length (Nat.le_refl _)
  rw [List.take_length] at h
  exact DueIs.uniq hok (DueIs.of_sorted day hp hs) h
theorem dueListI_ {rs : List (List AV)} {b : Bool} {l : List Vis} (day : Int) (hl : rs = l.map Vis.cs) (hb : l.length ≤ 1048576) : AC Try.prog 37 [.sl b 3 rs, .int .i64 day] intLI (dueListR l day) := by
  refine ac Try.func37 (by kernel_rfl) (.intLI _) fun E K hE hK => ?_
  conv => cbv
  refine callP hE (validVisits_ hl) (fun hok => ?_) (fun hok => ?_) <;> conv => cbv
  · refine callP hE (isDay_ _) (fun hd => ?_) (fun hd => ?_) <;> conv => cbv
    · refine callR hE (cloneVis_ hl hb) fun rs1 h1 => ?_
      conv => cbv
      refine callMI hE (sortVis_ h1 hb) ?_
      rintro r ys ⟨m, rs2, hperm, hsort, h2, rfl, rfl⟩
      conv => cbv
      refine sameI hE (by rw [h1, h2, List.length_map, List.length_map, hperm.length_eq]) ?_
      conv => cbv
      have hml := hperm.length_eq
      refine lenL hE h2 fun n hn hbn => ?_
      conv => cbv
      refine loopC hE (ι := Int × (List (List AV))) [1, 21, 22] [23, 7] (fun q => (fun (i : Int) (es : List (List AV)) => [(23, .int .i64 i), (7, .ob 1)]) q.1 q.2) (fun q => (fun (i : Int) (es : List (List AV)) => [.row 3 rs2, .row 1 es]) q.1 q.2) (fun q => (fun (i : Int) (es : List (List AV)) => (n - i).toNat) q.1 q.2) (fun q => (fun (i : Int) (es : List (List AV)) => (0 ≤ i ∧ i ≤ n) ∧ ∃ q : List Int, es = q.map intR ∧ q = (rej (fun v => day < v.due) (m.take i.toNat)).map Vis.aid) q.1 q.2) [0, 1] (by decide) ((0, [])) (by conv => lhs; cbv) (by conv => lhs; cbv) rfl rfl (by dsimp only; exact ⟨by omega, [], rfl, rfl⟩) fun q hi Kn hN => ?_
      obtain ⟨i, es⟩ := q
      (try dsimp only at hi)
      conv => cbv
      obtain ⟨⟨h0, h3⟩, q, h4, h5⟩ := hi
      have hq : q.length ≤ 1048576 := by
        have := rej_len (fun v : Vis => day < v.due) (m.take i.toNat)
        rw [List.length_take] at this
        rw [h5, List.length_map]; omega
      repeat' first
        | (refine idxV hE h2 (by omega) (by assumption) ?_; (try conv => cbv))
        | (refine idxL hE h2 (by omega) (fun v hv => ?_); obtain ⟨aid, every, last⟩ := v; (try conv => cbv))
        | (refine hN (_, _) _ [0, 4] (by decide) rfl ⟨?_, _, by assumption, ?_⟩ ?_ <;> (try dsimp only))
        | (refine hN (_, _) _ [0, 1] (by decide) rfl ⟨?_, _, by assumption, ?_⟩ ?_ <;> (try dsimp only))
        | ((first
         | refine idxV hE (by assumption) (by omega) (by assumption) ?_
         | refine callI hE (due_ _ _ _) (fun _ _ => ?_)
         | refine catP hE (R := intR) (by assumption) rfl (by omega) (fun _ _ => ?_)
         | refine ltT hE (by omega) ?_
         | refine ltF hE (by omega) ?_
         | refine ltI hE (fun _ => ?_) (fun _ => ?_)
         | refine leT hE (by omega) ?_
         | refine leF hE (by omega) ?_
         | refine leI hE (fun _ => ?_) (fun _ => ?_)
         | refine eqT hE (by omega) ?_
         | refine eqF hE (by omega) ?_
         | refine eqI hE (fun _ => ?_) (fun _ => ?_)
         | refine add64 hE (by omega) (fun _ _ => ?_)
         | refine sub64 hE (by omega) (fun _ _ => ?_)
         | refine addI hE (fun _ _ => ?_)
         | refine subI hE (fun _ _ => ?_)
         | refine lenL hE (by assumption) (fun _ _ _ => ?_)
         | refine len0 hE (fun _ _ => ?_)
         | refine idxL hE (by assumption) (by first | omega | (simp only [List.length_set, mix_len]; omega)) (fun _ _ => ?_)
         | refine idxFill hE (by assumption) (by omega) ?_
         | refine idxI hE (by decide) (by rfl) ?_
         | refine iteB (fun _ => ?_) (fun _ => ?_)
         | refine maxI hE (fun _ _ => ?_)
         | refine minI hE (fun _ _ => ?_)
         | refine seqI hE (fun _ => ?_) (fun _ => ?_)
         | refine scatI hE (by first | omega | (simp only [ByteArray.size, Array.size, List.length_cons, List.length_nil] at *; omega)) (fun _ _ _ => ?_)
         | refine slenI hE (fun _ _ _ => ?_)
         | refine sidxI hE (by omega) (fun _ _ _ _ => ?_)
         | refine needI hE (by first | decide | omega) ?_
         | refine rem64 hE (by omega) (fun _ _ => ?_)
         | refine quo64 hE (by omega) (fun _ _ => ?_)
         | refine wrapU8 hE (by omega) (fun _ _ => ?_)
         | refine wrap64 hE (by omega) (fun _ _ => ?_)
         | refine noownI hE (by simp [AV.isOwn]) ?_) <;> (try conv => cbv))
      all_goals (try clear hN)
      all_goals first
        | omega
        | (have hs := (rej_step (fun v : Vis => day < v.due) h0 (by assumption) (by assumption)).2 (by show ¬ day < IntKind.i64.wrap (last + every); omega); rw [h5, hs]; simp; done)
        | (have hs := (rej_step (fun v : Vis => day < v.due) h0 (by assumption) (by assumption)).1 (by show day < IntKind.i64.wrap (last + every); omega); rw [h5, hs])
        | (refine hK _ ?_; rw [dueListR, if_pos hok, if_pos hd, ← dueM_is hok day hperm hsort, h4, h5, List.take_of_length_le (by omega)]; rfl)
        | trace_state
    · refine nilOwnI hE 1 ?_
      conv => cbv
      refine hK _ ?_
      rw [dueListR, if_pos hok, if_neg hd]; rfl
  · refine nilOwnI hE 1 ?_
    conv => cbv
    refine hK _ ?_
    rw [dueListR, if_neg hok]; rfl
end Go.Proofs.Ytjenekakcoggpaa
