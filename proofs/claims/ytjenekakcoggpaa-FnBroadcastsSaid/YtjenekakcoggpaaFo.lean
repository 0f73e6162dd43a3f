/- Contracts: checking a plan of inspections. -/
import Derived.Test.YtjenekakcoggpaaFm
namespace Go.Proofs.Ytjenekakcoggpaa
open Go Go.RowKit Classical
set_option maxRecDepth 100000
set_option maxHeartbeats 2000000
set_option linter.unusedVariables false
set_option linter.unusedSimpArgs false
theorem indexI_ {rs : List (List AV)} {t : Bool} {l : List Int} (x : Int) (hl : rs = l.map intR) : AC Try.prog 136 [.sl t 1 rs, .int .i64 x] (AV.int .i64) (firstI (fun y => x = y) l) := by
  refine ac Try.func136 (by kernel_rfl) (.int _ _) fun E K hE hK => ?_
  conv => cbv
  refine lenL hE hl fun n hn hb => ?_
  conv => cbv
  refine loopK hE (ι := Int) [0, 1, 7, 8] (fun i => ⟨reF _ [(0, .sl t 1 rs), (1, .int .i64 x), (7, .int .i64 n), (8, .int .i64 i)], []⟩) (fun i => (l.length - i).toNat) (fun i => 0 ≤ i ∧ Up (fun j => ∀ v, l[j]? = some v → ¬ x = v) i) [] (by decide) 0 rfl ⟨by omega, .zero (by omega)⟩ fun i hi Kn hN => ?_
  obtain ⟨h0, hinv⟩ := hi
  conv => cbv
  repeat' first
    | ( refine hN _ _ [] (by decide) rfl ?_ ?_)
    | ((first
     | refine idxV hE (by assumption) (by omega) (by assumption) ?_
     | refine ltT hE (by omega) ?_
     | refine ltF hE (by omega) ?_
     | refine ltI hE (fun _ => ?_) (fun _ => ?_)
     | refine leT hE (by omega) ?_
     | refine leF hE (by omega) ?_
     | refine leI hE (fun _ => ?_) (fun _ => ?_)
     | refine eqT hE (by omega) ?_
     | refine eqF hE (by omega) ?_
     | refine eqI hE (fun _ => ?_) (fun _ => ?_)
     | refine add64 hE (by omega) (fun _ _ => ?_)
     | refine sub64 hE (by omega) (fun _ _ => ?_)
     | refine addI hE (fun _ _ => ?_)
     | refine subI hE (fun _ _ => ?_)
     | refine lenL hE (by assumption) (fun _ _ _ => ?_)
     | refine len0 hE (fun _ _ => ?_)
     | refine idxL hE (by assumption) (by first | omega | (simp only [List.length_set, mix_len]; omega)) (fun _ _ => ?_)
     | refine idxFill hE (by assumption) (by omega) ?_
     | refine idxI hE (by decide) (by rfl) ?_
     | refine iteB (fun _ => ?_) (fun _ => ?_)
     | refine maxI hE (fun _ _ => ?_)
     | refine minI hE (fun _ _ => ?_)
     | refine seqI hE (fun _ => ?_) (fun _ => ?_)
     | refine scatI hE (by first | omega | (simp only [ByteArray.size, Array.size, List.length_cons, List.length_nil] at *; omega)) (fun _ _ _ => ?_)
     | refine slenI hE (fun _ _ _ => ?_)
     | refine sidxI hE (by omega) (fun _ _ _ _ => ?_)
     | refine needI hE (by first | decide | omega) ?_
     | refine rem64 hE (by omega) (fun _ _ => ?_)
     | refine quo64 hE (by omega) (fun _ _ => ?_)
     | refine wrapU8 hE (by omega) (fun _ _ => ?_)
     | refine wrap64 hE (by omega) (fun _ _ => ?_)
     | refine noownI hE (by simp [AV.isOwn]) ?_) <;> (try conv => cbv))
  · refine hK _ ?_
    rw [firstI_in h0 (by assumption) (by assumption) hinv]; rfl
  · refine ⟨by omega, hinv.succ ?_ (by assumption)⟩
    grind
  · omega
  · refine hK _ ?_
    rw [firstI_out (by omega) hinv]; rfl
theorem containsI_ {rs : List (List AV)} {t : Bool} {l : List Int} (x : Int) (hl : rs = l.map intR) : AC Try.prog 95 [.sl t 1 rs, .int .i64 x] AV.bool (bP (x ∈ l)) := by
  refine ac Try.func95 (by kernel_rfl) (.bool _) fun E K hE hK => ?_
  conv => cbv
  refine callI hE (indexI_ x hl) fun y hy => ?_
  conv => cbv
  refine leI hE (fun h => ?_) (fun h => ?_) <;> conv => cbv
  · refine finB hK (bP_true.2 ?_)
    obtain ⟨v, hv, e⟩ := firstI_ge.1 (hy ▸ h)
    rw [e]; exact hv
  · exact finB hK (bP_false.2 fun h' => by have : 0 ≤ y := hy ▸ firstI_ge.2 ⟨x, h', rfl⟩; omega)
/-- Is the rest of a plan right, from a state on? -/
noncomputable def runC (room ahead : Int) : List Vis → Int → List Int → List (List Int) → Prop
  | _, _, _, [] => True
  | now, bf, td, x :: p => x.length = 2 ∧ (0 ≤ x.getD 0 0 ∧ x.getD 0 0 ≤ 99999) ∧ bf ≤ x.getD 0 0 ∧ ∃ v, now[(visAt now (x.getD 1 0)).toNat]? = some v ∧ 0 ≤ visAt now (x.getD 1 0) ∧ v.last ≤ x.getD 0 0 ∧
      IntKind.i64.wrap (v.last + v.every) ≤ x.getD 0 0 + ahead ∧ x.getD 1 0 ∉ (if bf < x.getD 0 0 then [] else td) ∧ ((if bf < x.getD 0 0 then [] else td).length : Int) ≠ room ∧
      runC room ahead (now.set (visAt now (x.getD 1 0)).toNat ⟨v.aid, v.every, x.getD 0 0⟩) (x.getD 0 0) ((if bf < x.getD 0 0 then [] else td) ++ [x.getD 1 0]) p
noncomputable def planOk (l : List Vis) (p : List (List Int)) (room ahead : Int) : Prop := VisitsOk l ∧ ((1 ≤ room ∧ room ≤ 10) ∧ 0 ≤ ahead ∧ ahead ≤ 3650) ∧ runC room ahead l 0 [] p
theorem planLimits_ (r a : Int) : AC Try.prog 85 [.int .i64 r, .int .i64 a] AV.bool (bP ((1 ≤ r ∧ r ≤ 10) ∧ 0 ≤ a ∧ a ≤ 3650)) := by
  refine ac Try.func85 (by kernel_rfl) (.bool _) fun E K hE hK => ?_
  conv => cbv
  repeat' first
    | ((first
     | refine idxV hE (by assumption) (by omega) (by assumption) ?_
     | refine callP hE (within_ _ _ _) (fun _ => ?_) (fun _ => ?_)
     | refine ltT hE (by omega) ?_
     | refine ltF hE (by omega) ?_
     | refine ltI hE (fun _ => ?_) (fun _ => ?_)
     | refine leT hE (by omega) ?_
     | refine leF hE (by omega) ?_
     | refine leI hE (fun _ => ?_) (fun _ => ?_)
     | refine eqT hE (by omega) ?_
     | refine eqF hE (by omega) ?_
     | refine eqI hE (fun _ => ?_) (fun _ => ?_)
     | refine add64 hE (by omega) (fun _ _ => ?_)
     | refine sub64 hE (by omega) (fun _ _ => ?_)
     | refine addI hE (fun _ _ => ?_)
     | refine subI hE (fun _ _ => ?_)
     | refine lenL hE (by assumption) (fun _ _ _ => ?_)
     | refine len0 hE (fun _ _ => ?_)
     | refine idxL hE (by assumption) (by first | omega | (simp only [List.length_set, mix_len]; omega)) (fun _ _ => ?_)
     | refine idxFill hE (by assumption) (by omega) ?_
     | refine idxI hE (by decide) (by rfl) ?_
     | refine iteB (fun _ => ?_) (fun _ => ?_)
     | refine maxI hE (fun _ _ => ?_)
     | refine minI hE (fun _ _ => ?_)
     | refine seqI hE (fun _ => ?_) (fun _ => ?_)
     | refine scatI hE (by first | omega | (simp only [ByteArray.size, Array.size, List.length_cons, List.length_nil] at *; omega)) (fun _ _ _ => ?_)
     | refine slenI hE (fun _ _ _ => ?_)
     | refine sidxI hE (by omega) (fun _ _ _ _ => ?_)
     | refine needI hE (by first | decide | omega) ?_
     | refine rem64 hE (by omega) (fun _ _ => ?_)
     | refine quo64 hE (by omega) (fun _ _ => ?_)
     | refine wrapU8 hE (by omega) (fun _ _ => ?_)
     | refine wrap64 hE (by omega) (fun _ _ => ?_)
     | refine noownI hE (by simp [AV.isOwn]) ?_) <;> (try conv => cbv))
  all_goals (try clear hN)
  all_goals first
    | (omega)
    | (refine finB hK (bP_true.2 ?_); first | omega | grind)
    | (refine finB hK (bP_false.2 ?_); first | omega | (intro h; grind))
    | (refine ⟨by omega, Up.succ (by assumption) ?_ (by assumption)⟩; grind)
    | (refine hK _ ?_; simp_all [atup]; done)
    | (grind)
theorem runC_drop {room ahead : Int} {p : List (List Int)} {i : Int} {x : List Int} (h0 : 0 ≤ i) (h : p[i.toNat]? = some x) (now : List Vis) (bf : Int) (td : List Int) : runC room ahead now bf td (p.drop i.toNat) = runC room ahead now bf td (x :: p.drop (i + 1).toNat) := by
  have hi := (List.getElem?_eq_some_iff.1 h).1
  rw [List.drop_eq_getElem_cons hi, (List.getElem?_eq_some_iff.1 h).2, show (i + 1).toNat = i.toNat + 1 by omega]
theorem getD_of {x : List Int} {k : Int} {d : Int} (h : x[k.toNat]? = some d) (n : Nat) (hn : n = k.toNat) : x.getD n 0 = d := by subst hn; rw [List.getD_eq_getElem?_getD, h]; rfl
/-- One step of the check, once all is known of it. -/
theorem runC_step {room ahead : Int} {now : List Vis} {bf : Int} {td : List Int} {x : List Int} {p : List (List Int)} {d a k : Int} {v : Vis} (h1 : x[(0 : Int).toNat]? = some d) (h2 : x[(1 : Int).toNat]? = some a) (hk : k = visAt now a) (hv : now[k.toNat]? = some v) :
    runC room ahead now bf td (x :: p) ↔ x.length = 2 ∧ (0 ≤ d ∧ d ≤ 99999) ∧ bf ≤ d ∧ 0 ≤ k ∧ v.last ≤ d ∧ IntKind.i64.wrap (v.last + v.every) ≤ d + ahead ∧ a ∉ (if bf < d then [] else td) ∧ ((if bf < d then [] else td).length : Int) ≠ room ∧
      runC room ahead (now.set k.toNat ⟨v.aid, v.every, d⟩) d ((if bf < d then [] else td) ++ [a]) p := by
  rw [runC, getD_of h1 0 rfl, getD_of h2 1 rfl, ← hk]
  constructor
  · rintro ⟨q1, q2, q3, w, q4, q5⟩
    rw [hv] at q4; cases q4
    exact ⟨q1, q2, q3, q5⟩
  · rintro ⟨q1, q2, q3, q5⟩
    exact ⟨q1, q2, q3, v, hv, q5⟩
theorem runC_len {room ahead : Int} {now : List Vis} {bf : Int} {td : List Int} {x : List Int} {p : List (List Int)} (h : x.length ≠ 2) : ¬ runC room ahead now bf td (x :: p) := fun h' => h h'.1
theorem runC_day {room ahead : Int} {now : List Vis} {bf : Int} {td : List Int} {x : List Int} {p : List (List Int)} {d : Int} (h1 : x[(0 : Int).toNat]? = some d) (h : ¬ ((0 ≤ d ∧ d ≤ 99999) ∧ bf ≤ d)) : ¬ runC room ahead now bf td (x :: p) := fun h' => by
  rw [runC, getD_of h1 0 rfl] at h'
  exact h ⟨h'.2.1, h'.2.2.1⟩
theorem runC_none {room ahead : Int} {now : List Vis} {bf : Int} {td : List Int} {x : List Int} {p : List (List Int)} {a k : Int} (h2 : x[(1 : Int).toNat]? = some a) (hk : k = visAt now a) (h : k < 0) : ¬ runC room ahead now bf td (x :: p) := fun h' => by
  rw [runC, getD_of h2 1 rfl, ← hk] at h'
  obtain ⟨_, _, _, v, _, q, _⟩ := h'
  omega
theorem runC_next {room ahead : Int} {now : List Vis} {bf : Int} {td : List Int} {x : List Int} {p : List (List Int)} {d a k : Int} {v : Vis} (h1 : x[(0 : Int).toNat]? = some d) (h2 : x[(1 : Int).toNat]? = some a) (hk : k = visAt now a) (hv : now[k.toNat]? = some v)
    (q1 : x.length = 2) (q2 : 0 ≤ d ∧ d ≤ 99999) (q3 : bf ≤ d) (q4 : 0 ≤ k) (q5 : v.last ≤ d) (q6 : IntKind.i64.wrap (v.last + v.every) ≤ d + ahead) (td' : List Int) (htd : (if bf < d then [] else td) = td') (q7 : a ∉ td') (q8 : (td'.length : Int) ≠ room) :
    runC room ahead now bf td (x :: p) ↔ runC room ahead (now.set k.toNat ⟨v.aid, v.every, d⟩) d (td' ++ [a]) p := by
  subst htd
  rw [runC_step h1 h2 hk hv]
  exact ⟨fun h => h.2.2.2.2.2.2.2.2, fun h => ⟨q1, q2, q3, q4, q5, q6, q7, q8, h⟩⟩
theorem runC_bad {room ahead : Int} {now : List Vis} {bf : Int} {td : List Int} {x : List Int} {p : List (List Int)} {d a k : Int} {v : Vis} (h1 : x[(0 : Int).toNat]? = some d) (h2 : x[(1 : Int).toNat]? = some a) (hk : k = visAt now a) (hv : now[k.toNat]? = some v)
    (td' : List Int) (htd : (if bf < d then [] else td) = td') (h : d < v.last ∨ d + ahead < IntKind.i64.wrap (v.last + v.every) ∨ a ∈ td' ∨ (td'.length : Int) = room) : ¬ runC room ahead now bf td (x :: p) := by
  subst htd
  rw [runC_step h1 h2 hk hv]
  rintro ⟨_, _, _, _, q5, q6, q7, q8, _⟩
  rcases h with h | h | h | h
  · omega
  · omega
  · exact q7 h
  · exact q8 h
theorem checkPlan_ {rs ps : List (List AV)} {t t' b : Bool} {l : List Vis} {p : List (List Int)} (room ahead : Int) (hl : rs = l.map Vis.cs) (hp : ps = p.map (llR b)) : AC Try.prog 34 [.sl t 3 rs, .sl t' 1 ps, .int .i64 room, .int .i64 ahead] AV.bool (bP (planOk l p room ahead)) := by
  refine ac Try.func34 (by kernel_rfl) (.bool _) fun E K hE hK => ?_
  conv => cbv
  refine callP hE (validVisits_ hl) (fun hok => ?_) (fun hok => ?_) <;> conv => cbv
  · refine callP hE (planLimits_ _ _) (fun hlim => ?_) (fun hlim => ?_) <;> conv => cbv
    · refine callR hE (cloneVis_ hl (by have := hok.2; omega)) fun es0 hes0 => ?_
      conv => cbv
      refine lenL hE hp fun n hn hb => ?_
      conv => cbv
      have hg : planOk l p room ahead ↔ runC room ahead l 0 [] (p.drop (0 : Int).toNat) := ⟨fun h => h.2.2, fun h => ⟨hok, hlim, h⟩⟩
      refine loopC hE (ι := Int × Int × (List (List AV)) × (List (List AV))) [2, 3, 27, 28] [29, 10, 9, 11] (fun q => (fun (i : Int) (bf : Int) (es : List (List AV)) (ts : List (List AV)) => [(29, .int .i64 i), (10, .int .i64 bf), (9, .ob 0), (11, .ob 1)]) q.1 q.2.1 q.2.2.1 q.2.2.2) (fun q => (fun (i : Int) (bf : Int) (es : List (List AV)) (ts : List (List AV)) => [.row 3 es, .row 1 ts]) q.1 q.2.1 q.2.2.1 q.2.2.2) (fun q => (fun (i : Int) (bf : Int) (es : List (List AV)) (ts : List (List AV)) => (n - i).toNat) q.1 q.2.1 q.2.2.1 q.2.2.2) (fun q => (fun (i : Int) (bf : Int) (es : List (List AV)) (ts : List (List AV)) => ∃ now td, es = now.map Vis.cs ∧ ts = td.map intR ∧ (0 ≤ i ∧ i ≤ n) ∧ (td.length : Int) ≤ room ∧ (planOk l p room ahead ↔ runC room ahead now bf td (p.drop i.toNat))) q.1 q.2.1 q.2.2.1 q.2.2.2) [0, 1] (by decide) ((0, 0, es0, [])) (by conv => lhs; cbv) (by conv => lhs; cbv) rfl rfl (by dsimp only; exact ⟨l, [], hes0, rfl, by omega, by simp; omega, hg⟩) fun q hi Kn hN => ?_
      obtain ⟨i, bf, es, ts⟩ := q
      (try dsimp only at hi)
      conv => cbv
      obtain ⟨now, td, h2, h3, ⟨h0, h1⟩, h4, h5⟩ := hi
      repeat' first
        | (refine idxLV hE (by assumption) (by omega) (by assumption) (by assumption) ?_; (try conv => cbv))
        | (refine idxLL hE (by assumption) (by omega) (fun x _ hx _ => ?_); (try conv => cbv))
        | (refine callI hE (visitOf_ _ (by assumption)) (fun y hy => ?_); have hy2 : y = -1 ∨ (0 ≤ y ∧ y < (now.length : Int)) := (by rw [hy]; exact visAt_spec _ _); (try conv => cbv))
        | (refine hN (_, _, _, _) _ [0, 2] (by decide) rfl ⟨_, _, by assumption, by assumption, ?_, ?_, ?_⟩ ?_ <;> (try dsimp only))
        | ((first
         | refine idxV hE (by assumption) (by omega) (by assumption) ?_
         | refine callP hE (isDay_ _) (fun _ => ?_) (fun _ => ?_)
         | refine callP hE (containsI_ _ (by assumption)) (fun _ => ?_) (fun _ => ?_)
         | refine callP hE ((containsI_ (t := false) (rs := []) (l := []) _ rfl).nil0) (fun _ => ?_) (fun _ => ?_)
         | (refine idxL (R := Vis.cs) hE (by assumption) (by first | omega | (simp only [List.length_set, mix_len]; omega)) ?_; rintro ⟨⟩ _)
         | refine callI hE (due_ _ _ _) (fun _ _ => ?_)
         | refine updL hE (v' := (⟨_, _, _⟩ : Vis)) (by assumption) (by omega) (by assumption) (by exact Nat.le_of_ble_eq_true rfl) (by first | rfl | ((conv => lhs; cbv); rfl)) (fun _ _ => ?_)
         | refine catP hE (R := intR) (by assumption) rfl (by omega) (fun _ _ => ?_)
         | refine catP0 hE (R := intR) rfl (by omega) (fun _ _ => ?_)
         | refine ltT hE (by omega) ?_
         | refine ltF hE (by omega) ?_
         | refine ltI hE (fun _ => ?_) (fun _ => ?_)
         | refine leT hE (by omega) ?_
         | refine leF hE (by omega) ?_
         | refine leI hE (fun _ => ?_) (fun _ => ?_)
         | refine eqT hE (by omega) ?_
         | refine eqF hE (by omega) ?_
         | refine eqI hE (fun _ => ?_) (fun _ => ?_)
         | refine add64 hE (by omega) (fun _ _ => ?_)
         | refine sub64 hE (by omega) (fun _ _ => ?_)
         | refine addI hE (fun _ _ => ?_)
         | refine subI hE (fun _ _ => ?_)
         | refine lenL hE (by assumption) (fun _ _ _ => ?_)
         | refine len0 hE (fun _ _ => ?_)
         | refine idxL hE (by assumption) (by first | omega | (simp only [List.length_set, mix_len]; omega)) (fun _ _ => ?_)
         | refine idxFill hE (by assumption) (by omega) ?_
         | refine idxI hE (by decide) (by rfl) ?_
         | refine iteB (fun _ => ?_) (fun _ => ?_)
         | refine maxI hE (fun _ _ => ?_)
         | refine minI hE (fun _ _ => ?_)
         | refine seqI hE (fun _ => ?_) (fun _ => ?_)
         | refine scatI hE (by first | omega | (simp only [ByteArray.size, Array.size, List.length_cons, List.length_nil] at *; omega)) (fun _ _ _ => ?_)
         | refine slenI hE (fun _ _ _ => ?_)
         | refine sidxI hE (by omega) (fun _ _ _ _ => ?_)
         | refine needI hE (by first | decide | omega) ?_
         | refine rem64 hE (by omega) (fun _ _ => ?_)
         | refine quo64 hE (by omega) (fun _ _ => ?_)
         | refine wrapU8 hE (by omega) (fun _ _ => ?_)
         | refine wrap64 hE (by omega) (fun _ _ => ?_)
         | refine noownI hE (by simp [AV.isOwn]) ?_) <;> (try conv => cbv))
      all_goals clear hN
      all_goals first
        | omega
        | (simp only [List.length_append, List.length_cons, List.length_nil]; omega)
        | (refine finB hK (bP_false.2 ?_); rw [h5, runC_drop h0 hx]; first | exact runC_len (by omega) | exact runC_day (by assumption) (by omega) | exact runC_none (by assumption) (by assumption) (by omega))
        | (refine finB hK (bP_false.2 ?_); rw [h5, runC_drop h0 hx]; refine runC_bad (by assumption) (by assumption) (by assumption) (by assumption) _ (if_pos (by omega)) ?_; first | (left; omega) | (right; left; (try simp only); omega) | (right; right; left; assumption) | (right; right; right; (try simp only [List.length_nil]); omega))
        | (refine finB hK (bP_false.2 ?_); rw [h5, runC_drop h0 hx]; refine runC_bad (by assumption) (by assumption) (by assumption) (by assumption) _ (if_neg (by omega)) ?_; first | (left; omega) | (right; left; (try simp only); omega) | (right; right; left; assumption) | (right; right; right; (try simp only [List.length_nil]); omega))
        | (refine finB hK (bP_true.2 ?_); rw [h5, List.drop_eq_nil_of_le (by omega)]; trivial)
        | (rw [h5, runC_drop h0 hx, runC_next (by assumption) (by assumption) (by assumption) (by assumption) (by omega) (by assumption) (by omega) (by omega) (by (try simp only); omega) (by (try simp only); omega) _ (if_pos (by omega)) (by assumption) (by (try simp only [List.length_nil]); omega)]; subst_vars; rfl)
        | (rw [h5, runC_drop h0 hx, runC_next (by assumption) (by assumption) (by assumption) (by assumption) (by omega) (by assumption) (by omega) (by omega) (by (try simp only); omega) (by (try simp only); omega) _ (if_neg (by omega)) (by assumption) (by (try simp only [List.length_nil]); omega)]; subst_vars; rfl)
        | trace_state
    · exact finB hK (bP_false.2 fun h => hlim h.2.1)
  · exact finB hK (bP_false.2 fun h => hok h.1)
end Go.Proofs.Ytjenekakcoggpaa
