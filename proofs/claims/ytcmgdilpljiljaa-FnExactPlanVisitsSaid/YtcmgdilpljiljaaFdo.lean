/- Contracts: what is due on a day; the law. -/
import Derived.Test.YtcmgdilpljiljaaFdn
import Derived.Test.YtcmgdilpljiljaaFso
namespace Go.Proofs.Ytcmgdilpljiljaa
open Go Go.RowKit Go.Sort Classical
set_option maxRecDepth 100000
set_option maxHeartbeats 2000000
set_option linter.unusedVariables false
set_option linter.unusedSimpArgs false
theorem NoB.oVis (v : Vis) : NoB (.agg v.cs) := NoB.vis v
def Vis.mk' (k : Int) : Vis := ⟨k + 0, k + 1, k + 2⟩
def Vis.mks (n : Nat) (k : Int) : List Vis := (List.range n).map fun i : Nat => Vis.mk' (k + 3 * (i : Int))
theorem Vis.mks_len (n : Nat) (k : Int) : (Vis.mks n k).length = n := by simp [Vis.mks]
theorem Vis.mks_get {n : Nat} {k i : Int} {v : Vis} (h0 : 0 ≤ i) (h : (Vis.mks n k)[i.toNat]? = some v) : v = Vis.mk' (k + 3 * i) := by
  unfold Vis.mks at h
  rw [List.getElem?_map] at h
  by_cases hi : i.toNat < n
  · rw [List.getElem?_range hi] at h
    simp only [Option.map_some, Option.some.injEq] at h
    rw [← h, Int.toNat_of_nonneg h0]
  · rw [List.getElem?_eq_none (by simpa using Nat.le_of_not_lt hi)] at h; cases h
theorem markVisitS_ {rs : List (List AV)} {l : List Vis} (k : Int) (hl : rs = l.map Vis.cs) (hk0 : 0 ≤ k ∧ k ≤ 1000000000000000) (hb : l.length ≤ 100000000000) : ACM Try.prog 28 [.sl true 3 rs, .int .i64 k] (fun r ys => ∃ (n : Int) (rs' : List (List AV)), n = k + 3 * l.length ∧ rs' = (Vis.mks l.length k).map Vis.cs ∧ r = .int .i64 n ∧ ys = [.sl true 3 rs', .any]) := by
  refine acm 1 Try.func28 (by kernel_rfl) (fun r ys ⟨n, rs', _, h3, h1, h2⟩ => ⟨by rw [h1]; exact .int _ _, by rw [h2, h3]; simp; exact ⟨.rows .oVis, .any⟩⟩) fun E K hE hK => ?_
  conv => cbv
  refine loopC hE (ι := Int × Int × (List (List AV))) [] [5, 1, 0] (fun q => (fun (i : Int) (k' : Int) (es : List (List AV)) => [(5, .int .i64 i), (1, .int .i64 k'), (0, .ob 0)]) q.1 q.2.1 q.2.2) (fun q => (fun (i : Int) (k' : Int) (es : List (List AV)) => [.row 3 es]) q.1 q.2.1 q.2.2) (fun q => (fun (i : Int) (k' : Int) (es : List (List AV)) => (l.length - i).toNat) q.1 q.2.1 q.2.2) (fun q => (fun (i : Int) (k' : Int) (es : List (List AV)) => (0 ≤ i ∧ i ≤ l.length) ∧ k' = k + 3 * i ∧ es = (mix (fun i : Nat => Vis.mk' (k + 3 * (i : Int))) l i).map Vis.cs) q.1 q.2.1 q.2.2) [0] (by decide) ((0, k, rs)) (by conv => lhs; cbv) (by conv => lhs; cbv) rfl rfl (by dsimp only; exact ⟨by omega, by omega, by rw [mix_zero (by omega)]; exact hl⟩) fun q hi Kn hN => ?_
  obtain ⟨i, k', es⟩ := q
  (try dsimp only at hi)
  conv => cbv
  obtain ⟨⟨h0, h1⟩, h2, h3⟩ := hi
  have hlen := mix_len (fun i : Nat => Vis.mk' (k + 3 * (i : Int))) l i
  obtain ⟨L, hL⟩ : ∃ L, L = mix (fun i : Nat => Vis.mk' (k + 3 * (i : Int))) l i := ⟨_, rfl⟩
  rw [← hL] at h3 hlen
  repeat' first
    | (refine idxS hE (by assumption) (by omega) ?_; (try conv => cbv))
    | (refine hN (_, _, _) _ [0] (by decide) rfl ⟨?_, ?_, ?_⟩ ?_ <;> (try dsimp only))
    | ((first
     | refine idxV hE (by assumption) (by omega) (by assumption) ?_
     | (refine idxL (R := Vis.cs) hE (by assumption) (by first | omega | (simp only [List.length_set, mix_len]; omega)) ?_; rintro ⟨⟩ _)
     | refine callI hE (markText_ _ (by omega)) (fun _ _ => ?_)
     | refine updS hE (v' := (⟨_, _, _⟩ : Vis)) (by assumption) (by omega) (by exact Nat.le_of_ble_eq_true rfl) (by first | rfl | ((conv => lhs; cbv); rfl)) (fun _ _ => ?_)
     | refine updL hE (v' := (⟨_, _, _⟩ : Vis)) (by assumption) (by omega) (by assumption) (by exact Nat.le_of_ble_eq_true rfl) (by first | rfl | ((conv => lhs; cbv); rfl)) (fun _ _ => ?_)
     | refine ltT hE (by omega) ?_
     | refine ltF hE (by omega) ?_
     | refine ltI hE (fun _ => ?_) (fun _ => ?_)
     | refine leT hE (by omega) ?_
     | refine leF hE (by omega) ?_
     | refine leI hE (fun _ => ?_) (fun _ => ?_)
     | refine eqT hE (by omega) ?_
     | refine eqF hE (by omega) ?_
     | refine eqI hE (fun _ => ?_) (fun _ => ?_)
     | refine add64 hE (by omega) (fun _ _ => ?_)
     | refine sub64 hE (by omega) (fun _ _ => ?_)
     | refine addI hE (fun _ _ => ?_)
     | refine subI hE (fun _ _ => ?_)
     | refine lenL hE (by assumption) (fun _ _ _ => ?_)
     | refine len0 hE (fun _ _ => ?_)
     | refine idxL hE (by assumption) (by first | omega | (simp only [List.length_set, mix_len]; omega)) (fun _ _ => ?_)
     | refine idxFill hE (by assumption) (by omega) ?_
     | refine idxI hE (by decide) (by rfl) ?_
     | refine iteB (fun _ => ?_) (fun _ => ?_)
     | refine maxI hE (fun _ _ => ?_)
     | refine minI hE (fun _ _ => ?_)
     | refine seqI hE (fun _ => ?_) (fun _ => ?_)
     | refine scatI hE (by first | omega | (simp only [ByteArray.size, Array.size, List.length_cons, List.length_nil] at *; omega)) (fun _ _ _ => ?_)
     | refine slenI hE (fun _ _ _ => ?_)
     | refine sidxI hE (by omega) (fun _ _ _ _ => ?_)
     | refine needI hE (by first | decide | omega) ?_
     | refine rem64 hE (by omega) (fun _ _ => ?_)
     | refine quo64 hE (by omega) (fun _ _ => ?_)
     | refine wrapU8 hE (by omega) (fun _ _ => ?_)
     | refine wrap64 hE (by omega) (fun _ _ => ?_)
     | refine noownI hE (by simp [AV.isOwn]) ?_) <;> (try conv => cbv))
  · omega
  · omega
  · clear hN hK
    rename_i hes _ hfin _ hi1
    rw [hes, hL, mix_set h0 (by omega) (v := _) ?_ hi1]
    clear hL h3 hlen
    subst_vars
    rw [Int.toNat_of_nonneg h0]
    simp only [Vis.mk', Vis.mk.injEq, Int.add_zero]
    refine ⟨?_, ?_, ?_⟩ <;> first | trivial | omega | rfl | (congr 1; omega)
  · omega
  · have hi : i = l.length := by omega
    refine hK _ _ ⟨k', es, ?_, ?_, rfl, rfl⟩
    · rw [h2, hi]
    · rw [h3, hL, mix_all (by omega)]; rfl
theorem Vis.swo : SWO (ltOf Vis.cmp) :=
  swo_of (fun x => by rw [Vis.cmp_lt]; omega) (fun x y z h1 h2 => by rw [Vis.cmp_lt] at *; omega) (fun x y z h1 h2 => by rw [Vis.cmp_lt] at *; omega)
theorem sortVis_ {rs : List (List AV)} {l : List Vis} (hl : rs = l.map Vis.cs) (hb : l.length ≤ 1048576) : ACM Try.prog 104 [.sl true 3 rs, .fn 105 []]
    (fun r ys => ∃ (m : List Vis) (rs' : List (List AV)), m.Perm l ∧ m.Pairwise Vis.le ∧ rs' = m.map Vis.cs ∧ r = .tup [] ∧ ys = [.sl true 3 rs', .any]) :=
  (ACM.sort Vis.cs Try.sortVis Try.isAgg109 Try.sizeOf109 (fun _ _ => rfl) (fun _ => rfl) (fun _ _ h => by simp only [Vis.cs, List.mem_cons, List.not_mem_nil, or_false] at h; rcases h with rfl | rfl | rfl <;> rfl) Vis.swo (fun x y => visCompare_ x.aid x.every x.last y.aid y.every y.last) hl hb).mono
    fun r ys ⟨m, rs', h1, h2, h3, h4, h5⟩ => ⟨m, rs', h1, pw_of fun i j x y hij hx hy => (Vis.cmp_le x y).1 (h2 i j x y hij hx hy), h3, h4, h5⟩
noncomputable def dueM (l : List Vis) (day : Int) : List Vis := (ordTo l day l.length).map (vAt l)
noncomputable def dueListR (l : List Vis) (day : Int) : List Int × Int := if VisitsOk l then (if 0 ≤ day ∧ day ≤ 99999 then ((dueM l day).map Vis.aid, 0) else ([], 2)) else ([], 1)
theorem dueListR_len (l : List Vis) (day : Int) : (dueListR l day).1.length ≤ l.length := by
  unfold dueListR
  split
  · split
    · simp only [dueM, List.length_map]; exact (ordTo_mem l day l.length).2
    · simp
  · simp
theorem dueM_is {l m : List Vis} (hok : VisitsOk l) (day : Int) (hp : m.Perm l) (hs : m.Pairwise Vis.le) : rej (fun v => day < v.due) m = dueM l day := by
  have h := ordTo_due hok day l.length (Nat.le_refl _)
  rw [List.take_length] at h
  exact DueIs.uniq hok (DueIs.of_sorted day hp hs) h
theorem dueListI_ {rs : List (List AV)} {b : Bool} {l : List Vis} (day : Int) (hl : rs = l.map Vis.cs) (hb : l.length ≤ 1048576) : AC Try.prog 39 [.sl b 3 rs, .int .i64 day] intLI (dueListR l day) := by
  refine ac Try.func39 (by kernel_rfl) (.intLI _) fun E K hE hK => ?_
  conv => cbv
  refine callP hE (validVisits_ hl) (fun hok => ?_) (fun hok => ?_) <;> conv => cbv
  · refine callP hE (isDay_ _) (fun hd => ?_) (fun hd => ?_) <;> conv => cbv
    · refine callR hE (cloneVis_ hl hb) fun rs1 h1 => ?_
      conv => cbv
      refine callMI hE (sortVis_ h1 hb) ?_
      rintro r ys ⟨m, rs2, hperm, hsort, h2, rfl, rfl⟩
      conv => cbv
      refine sameI hE (by rw [h1, h2, List.length_map, List.length_map, hperm.length_eq]) ?_
      conv => cbv
      have hml := hperm.length_eq
      refine lenL hE h2 fun n hn hbn => ?_
      conv => cbv
      refine loopC hE (ι := Int × (List (List AV))) [1, 21, 22] [23, 7] (fun q => (fun (i : Int) (es : List (List AV)) => [(23, .int .i64 i), (7, .ob 1)]) q.1 q.2) (fun q => (fun (i : Int) (es : List (List AV)) => [.row 3 rs2, .row 1 es]) q.1 q.2) (fun q => (fun (i : Int) (es : List (List AV)) => (n - i).toNat) q.1 q.2) (fun q => (fun (i : Int) (es : List (List AV)) => (0 ≤ i ∧ i ≤ n) ∧ ∃ q : List Int, es = q.map intR ∧ q = (rej (fun v => day < v.due) (m.take i.toNat)).map Vis.aid) q.1 q.2) [0, 1] (by decide) ((0, [])) (by conv => lhs; cbv) (by conv => lhs; cbv) rfl rfl (by dsimp only; exact ⟨by omega, [], rfl, rfl⟩) fun q hi Kn hN => ?_
      obtain ⟨i, es⟩ := q
      (try dsimp only at hi)
      conv => cbv
      obtain ⟨⟨h0, h3⟩, q, h4, h5⟩ := hi
      have hq : q.length ≤ 1048576 := by
        have := rej_len (fun v : Vis => day < v.due) (m.take i.toNat)
        rw [List.length_take] at this
        rw [h5, List.length_map]; omega
      repeat' first
        | (refine idxV hE h2 (by omega) (by assumption) ?_; (try conv => cbv))
        | (refine idxL hE h2 (by omega) (fun v hv => ?_); obtain ⟨aid, every, last⟩ := v; (try conv => cbv))
        | (refine hN (_, _) _ [0, 4] (by decide) rfl ⟨?_, _, by assumption, ?_⟩ ?_ <;> (try dsimp only))
        | (refine hN (_, _) _ [0, 1] (by decide) rfl ⟨?_, _, by assumption, ?_⟩ ?_ <;> (try dsimp only))
        | ((first
         | refine idxV hE (by assumption) (by omega) (by assumption) ?_
         | refine callI hE (due_ _ _ _) (fun _ _ => ?_)
         | refine catP hE (R := intR) (by assumption) rfl (by omega) (fun _ _ => ?_)
         | refine ltT hE (by omega) ?_
         | refine ltF hE (by omega) ?_
         | refine ltI hE (fun _ => ?_) (fun _ => ?_)
         | refine leT hE (by omega) ?_
         | refine leF hE (by omega) ?_
         | refine leI hE (fun _ => ?_) (fun _ => ?_)
         | refine eqT hE (by omega) ?_
         | refine eqF hE (by omega) ?_
         | refine eqI hE (fun _ => ?_) (fun _ => ?_)
         | refine add64 hE (by omega) (fun _ _ => ?_)
         | refine sub64 hE (by omega) (fun _ _ => ?_)
         | refine addI hE (fun _ _ => ?_)
         | refine subI hE (fun _ _ => ?_)
         | refine lenL hE (by assumption) (fun _ _ _ => ?_)
         | refine len0 hE (fun _ _ => ?_)
         | refine idxL hE (by assumption) (by first | omega | (simp only [List.length_set, mix_len]; omega)) (fun _ _ => ?_)
         | refine idxFill hE (by assumption) (by omega) ?_
         | refine idxI hE (by decide) (by rfl) ?_
         | refine iteB (fun _ => ?_) (fun _ => ?_)
         | refine maxI hE (fun _ _ => ?_)
         | refine minI hE (fun _ _ => ?_)
         | refine seqI hE (fun _ => ?_) (fun _ => ?_)
         | refine scatI hE (by first | omega | (simp only [ByteArray.size, Array.size, List.length_cons, List.length_nil] at *; omega)) (fun _ _ _ => ?_)
         | refine slenI hE (fun _ _ _ => ?_)
         | refine sidxI hE (by omega) (fun _ _ _ _ => ?_)
         | refine needI hE (by first | decide | omega) ?_
         | refine rem64 hE (by omega) (fun _ _ => ?_)
         | refine quo64 hE (by omega) (fun _ _ => ?_)
         | refine wrapU8 hE (by omega) (fun _ _ => ?_)
         | refine wrap64 hE (by omega) (fun _ _ => ?_)
         | refine noownI hE (by simp [AV.isOwn]) ?_) <;> (try conv => cbv))
      all_goals (try clear hN)
      all_goals first
        | omega
        | (have hs := (rej_step (fun v : Vis => day < v.due) h0 (by assumption) (by assumption)).2 (by show ¬ day < IntKind.i64.wrap (last + every); omega); rw [h5, hs]; simp; done)
        | (have hs := (rej_step (fun v : Vis => day < v.due) h0 (by assumption) (by assumption)).1 (by show day < IntKind.i64.wrap (last + every); omega); rw [h5, hs])
        | (refine hK _ ?_; rw [dueListR, if_pos hok, if_pos hd, ← dueM_is hok day hperm hsort, h4, h5, List.take_of_length_le (by omega)]; rfl)
        | trace_state
    · refine nilOwnI hE 1 ?_
      conv => cbv
      refine hK _ ?_
      rw [dueListR, if_pos hok, if_neg hd]; rfl
  · refine nilOwnI hE 1 ?_
    conv => cbv
    refine hK _ ?_
    rw [dueListR, if_neg hok]; rfl
theorem sDueList_ {rs : List (List AV)} {b : Bool} {l : List Vis} (day : Int) (hl : rs = l.map Vis.cs) (hb : l.length ≤ 1048576) : AC Try.prog 38 [.sl b 3 rs, .int .i64 day] intLI (dueListR l day) := by
  refine ac Try.func38 (by kernel_rfl) (.intLI _) fun E K hE hK => ?_
  conv => cbv
  refine callP hE (l30Ok_ hl) (fun hok => ?_) (fun hok => ?_) <;> conv => cbv
  · refine callP hE (l04Day_ _) (fun hd => ?_) (fun hd => ?_) <;> conv => cbv
    · refine callR hE (l30Order_ day hl hb) fun rs1 h1 => ?_
      conv => cbv
      obtain ⟨o, ho⟩ : ∃ o, o = ordTo l day l.length := ⟨_, rfl⟩
      have hom := ordTo_mem l day l.length
      rw [← ho] at h1 hom
      refine loopC hE (ι := Int × (List (List AV))) [0, 6] [8, 7] (fun q => (fun (i : Int) (es : List (List AV)) => [(8, .int .i64 i), (7, .ob 1)]) q.1 q.2) (fun q => (fun (i : Int) (es : List (List AV)) => [.row 1 rs1, .row 1 es]) q.1 q.2) (fun q => (fun (i : Int) (es : List (List AV)) => (o.length - i).toNat) q.1 q.2) (fun q => (fun (i : Int) (es : List (List AV)) => (0 ≤ i ∧ i ≤ o.length) ∧ ∃ q : List Int, es = q.map intR ∧ q = ((o.take i.toNat).map (vAt l)).map Vis.aid) q.1 q.2) [0, 1] (by decide) ((0, [])) (by conv => lhs; cbv) (by conv => lhs; cbv) rfl rfl (by dsimp only; exact ⟨by omega, [], rfl, rfl⟩) fun q hi Kn hN => ?_
      obtain ⟨i, es⟩ := q
      (try dsimp only at hi)
      conv => cbv
      obtain ⟨⟨h0, h3⟩, q, h4, h5⟩ := hi
      have hq : q.length ≤ 1048576 := by
        rw [h5, List.length_map, List.length_map, List.length_take]; omega
      repeat' first
        | (refine idxL hE h1 (by omega) (fun k hk => ?_); have hk2 := hom.1 k (List.mem_of_getElem? hk); (try conv => cbv))
        | (refine idxL hE hl (by omega) (fun v hv => ?_); have hva := congrArg Vis.aid (vAt_eq hv); obtain ⟨aid, every, last⟩ := v; simp only at hva; (try conv => cbv))
        | (refine hN (_, _) _ [0, 3] (by decide) rfl ⟨?_, _, by assumption, ?_⟩ ?_ <;> (try dsimp only))
        | ((first
         | refine idxV hE (by assumption) (by omega) (by assumption) ?_
         | refine catP hE (R := intR) (by assumption) rfl (by omega) (fun _ _ => ?_)
         | refine ltT hE (by omega) ?_
         | refine ltF hE (by omega) ?_
         | refine ltI hE (fun _ => ?_) (fun _ => ?_)
         | refine leT hE (by omega) ?_
         | refine leF hE (by omega) ?_
         | refine leI hE (fun _ => ?_) (fun _ => ?_)
         | refine eqT hE (by omega) ?_
         | refine eqF hE (by omega) ?_
         | refine eqI hE (fun _ => ?_) (fun _ => ?_)
         | refine add64 hE (by omega) (fun _ _ => ?_)
         | refine sub64 hE (by omega) (fun _ _ => ?_)
         | refine addI hE (fun _ _ => ?_)
         | refine subI hE (fun _ _ => ?_)
         | refine lenL hE (by assumption) (fun _ _ _ => ?_)
         | refine len0 hE (fun _ _ => ?_)
         | refine idxL hE (by assumption) (by first | omega | (simp only [List.length_set, mix_len]; omega)) (fun _ _ => ?_)
         | refine idxFill hE (by assumption) (by omega) ?_
         | refine idxI hE (by decide) (by rfl) ?_
         | refine iteB (fun _ => ?_) (fun _ => ?_)
         | refine maxI hE (fun _ _ => ?_)
         | refine minI hE (fun _ _ => ?_)
         | refine seqI hE (fun _ => ?_) (fun _ => ?_)
         | refine scatI hE (by first | omega | (simp only [ByteArray.size, Array.size, List.length_cons, List.length_nil] at *; omega)) (fun _ _ _ => ?_)
         | refine slenI hE (fun _ _ _ => ?_)
         | refine sidxI hE (by omega) (fun _ _ _ _ => ?_)
         | refine needI hE (by first | decide | omega) ?_
         | refine rem64 hE (by omega) (fun _ _ => ?_)
         | refine quo64 hE (by omega) (fun _ _ => ?_)
         | refine wrapU8 hE (by omega) (fun _ _ => ?_)
         | refine wrap64 hE (by omega) (fun _ _ => ?_)
         | refine noownI hE (by simp [AV.isOwn]) ?_) <;> (try conv => cbv))
      all_goals (try clear hN)
      all_goals first
        | omega
        | (rename_i hn1; rw [h5, hn1, show (i + 1).toNat = i.toNat + 1 by omega, List.take_add_one, hk, List.map_append, List.map_append, ← hva]; rfl)
        | (refine hK _ ?_; rw [dueListR, if_pos hok, if_pos hd, h4, h5, List.take_of_length_le (by omega), ho]; rfl)
        | trace_state
    · refine nilOwnI hE 1 ?_
      conv => cbv
      refine hK _ ?_
      rw [dueListR, if_pos hok, if_neg hd]; rfl
  · refine nilOwnI hE 1 ?_
    conv => cbv
    refine hK _ ?_
    rw [dueListR, if_neg hok]; rfl
theorem lawDueList {rs : List (List AV)} {b : Bool} {l : List Vis} (day : Int) (hl : rs = l.map Vis.cs) : AC Try.prog 6 [.sl b 3 rs, .int .i64 day] id (.bool true) := by
  refine ac Try.func6 (by kernel_rfl) (.bool _) fun E K hE hK => ?_
  conv => cbv
  have hlen := dueListR_len l day
  repeat' first
    | (refine callI hE (szVisitS_ _ hl (by decide)) (fun y hy => ?_); have hz := szN_or 1048576 l.length; rw [← hy] at hz; clear hy; (try conv => cbv))
    | (refine callMI hE (markVisitS_ _ (by assumption) (by omega) (by omega)) ?_; rintro _ _ ⟨n, rs', hn, hrs', rfl, rfl⟩; conv => cbv)
    | (refine callMI hE (markI_ _ (by assumption) (by omega) (by omega)) ?_; rintro _ _ ⟨n, rs', hn, hrs', rfl, rfl⟩; conv => cbv)
    | ((first
     | refine idxV hE (by assumption) (by omega) (by assumption) ?_
     | refine callR hE (toVisitS_ hl (by omega)) (fun _ _ => ?_)
     | refine callLI hE (sDueList_ day (by assumption) (by omega)) (fun _ _ _ _ => ?_)
     | refine callLI hE (dueListI_ day (by assumption) (by omega)) (fun _ _ _ _ => ?_)
     | refine callPT hE (eqVisitS_ (by assumption) (by assumption)) rfl ?_
     | refine callPT hE (eqInt64S_ (by assumption) (by assumption)) rfl ?_
     | refine sameI hE (by subst_vars; simp [Vis.mks_len, markL_len]) ?_
     | refine callI hE (heldInt64S_ _ (by assumption) (by omega) (by omega)) (fun _ _ => ?_)
     | refine ltT hE (by omega) ?_
     | refine ltF hE (by omega) ?_
     | refine ltI hE (fun _ => ?_) (fun _ => ?_)
     | refine leT hE (by omega) ?_
     | refine leF hE (by omega) ?_
     | refine leI hE (fun _ => ?_) (fun _ => ?_)
     | refine eqT hE (by omega) ?_
     | refine eqF hE (by omega) ?_
     | refine eqI hE (fun _ => ?_) (fun _ => ?_)
     | refine add64 hE (by omega) (fun _ _ => ?_)
     | refine sub64 hE (by omega) (fun _ _ => ?_)
     | refine addI hE (fun _ _ => ?_)
     | refine subI hE (fun _ _ => ?_)
     | refine lenL hE (by assumption) (fun _ _ _ => ?_)
     | refine len0 hE (fun _ _ => ?_)
     | refine idxL hE (by assumption) (by first | omega | (simp only [List.length_set, mix_len]; omega)) (fun _ _ => ?_)
     | refine idxFill hE (by assumption) (by omega) ?_
     | refine idxI hE (by decide) (by rfl) ?_
     | refine iteB (fun _ => ?_) (fun _ => ?_)
     | refine maxI hE (fun _ _ => ?_)
     | refine minI hE (fun _ _ => ?_)
     | refine seqI hE (fun _ => ?_) (fun _ => ?_)
     | refine scatI hE (by first | omega | (simp only [ByteArray.size, Array.size, List.length_cons, List.length_nil] at *; omega)) (fun _ _ _ => ?_)
     | refine slenI hE (fun _ _ _ => ?_)
     | refine sidxI hE (by omega) (fun _ _ _ _ => ?_)
     | refine needI hE (by first | decide | omega) ?_
     | refine rem64 hE (by omega) (fun _ _ => ?_)
     | refine quo64 hE (by omega) (fun _ _ => ?_)
     | refine wrapU8 hE (by omega) (fun _ _ => ?_)
     | refine wrap64 hE (by omega) (fun _ _ => ?_)
     | refine noownI hE (by simp [AV.isOwn]) ?_) <;> (try conv => cbv))
  all_goals first
    | exact hK _ rfl
    | omega
    | trace_state
end Go.Proofs.Ytcmgdilpljiljaa
