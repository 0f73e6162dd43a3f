/- Contracts: checking a plan of inspections: the reference; the law. -/
import Derived.Test.YtmliclmglgimbaaFo
namespace Go.Proofs.Ytmliclmglgimbaa
open Go Go.RowKit Classical
set_option maxRecDepth 100000
set_option maxHeartbeats 2000000
set_option linter.unusedVariables false
set_option linter.unusedSimpArgs false
theorem sCheckPlan_ {rs ps : List (List AV)} {t t' b : Bool} {l : List Vis} {p : List (List Int)} (room ahead : Int) (hl : rs = l.map Vis.cs) (hp : ps = p.map (llR b)) : AC Try.prog 17 [.sl t 3 rs, .sl t' 1 ps, .int .i64 room, .int .i64 ahead] AV.bool (bP (planOk l p room ahead)) := by
  refine ac Try.func17 (by kernel_rfl) (.bool _) fun E K hE hK => ?_
  conv => cbv
  refine callP hE (l30Ok_ hl) (fun hok => ?_) (fun hok => ?_) <;> conv => cbv
  · refine callP hE (l30Room_ _ _) (fun hlim => ?_) (fun hlim => ?_) <;> conv => cbv
    · refine noownI hE (by rw [hl]; exact Vis.nown l) ?_
      conv => cbv
      have h24 := hok.2
      refine cat0L hE hl (by omega) fun es0 hes0 => ?_
      conv => cbv
      have hg : planOk l p room ahead ↔ runC room ahead l 0 [] (p.drop (0 : Int).toNat) := ⟨fun h => h.2.2, fun h => ⟨hok, hlim, h⟩⟩
      refine loopC hE (ι := Int × (List (List AV)) × (List (List AV))) [1, 2, 3] [11, 9, 10] (fun q => (fun (i : Int) (es : List (List AV)) (ts : List (List AV)) => [(11, .int .i64 i), (9, .ob 0), (10, .ob 1)]) q.1 q.2.1 q.2.2) (fun q => (fun (i : Int) (es : List (List AV)) (ts : List (List AV)) => [.row 3 es, .row 1 ts]) q.1 q.2.1 q.2.2) (fun q => (fun (i : Int) (es : List (List AV)) (ts : List (List AV)) => (p.length - i).toNat) q.1 q.2.1 q.2.2) (fun q => (fun (i : Int) (es : List (List AV)) (ts : List (List AV)) => ∃ now td bf, es = now.map Vis.cs ∧ ts = td.map intR ∧ (0 ≤ i ∧ i ≤ p.length) ∧ (td.length : Int) ≤ room ∧ (i = 0 → bf = 0 ∧ td = []) ∧ (0 < i → ∃ x, p[(i - 1).toNat]? = some x ∧ x[(0 : Int).toNat]? = some bf) ∧ (planOk l p room ahead ↔ runC room ahead now bf td (p.drop i.toNat))) q.1 q.2.1 q.2.2) [1, 2] (by decide) ((0, es0, [])) (by conv => lhs; cbv) (by conv => lhs; cbv) rfl rfl (⟨l, [], 0, hes0, rfl, by omega, by simp; omega, fun _ => ⟨rfl, rfl⟩, fun h => by omega, hg⟩) fun q hi Kn hN => ?_
      obtain ⟨i, es, ts⟩ := q
      (try dsimp only at hi)
      conv => cbv
      obtain ⟨now, td, bf, h2, h3, ⟨h0, h1⟩, h4, h6, h7, h5⟩ := hi
      by_cases hi0 : 0 < i
      · obtain ⟨xp, hxp, hbf⟩ := h7 hi0
        clear h7 h6
        obtain ⟨rxp, hrxp⟩ : ∃ r, r = xp.map intR := ⟨_, rfl⟩
        repeat' first
          | (refine idxLV hE (by assumption) (by omega) (by assumption) (by assumption) ?_; (try conv => cbv))
          | (refine idxLV hE (by assumption) (by omega) (x := xp) (by subst_vars; exact hxp) (by assumption) ?_; (try conv => cbv))
          | (refine idxLL hE (by assumption) (by omega) (fun x _ hx _ => ?_); (try conv => cbv))
          | (refine callI hE (l30Find_ _ (by assumption)) (fun y hy => ?_); have hy2 : y = -1 ∨ (0 ≤ y ∧ y < (now.length : Int)) := (by rw [hy]; exact visAt_spec _ _); (try conv => cbv))
          | (refine hN (_, _, _) _ [0, 3] (by decide) rfl ⟨_, _, _, by assumption, by assumption, ?_, ?_, ?_, fun _ => ⟨x, by subst_vars; rw [Int.add_sub_cancel]; exact hx, by assumption⟩, ?_⟩ ?_ <;> (try dsimp only))
          | (refine hN (_, _, _) _ [0, 4] (by decide) rfl ⟨_, _, _, by assumption, by assumption, ?_, ?_, ?_, fun _ => ⟨x, by subst_vars; rw [Int.add_sub_cancel]; exact hx, by assumption⟩, ?_⟩ ?_ <;> (try dsimp only))
          | ((first
           | refine idxV hE (by assumption) (by omega) (by assumption) ?_
           | refine callP hE (l04Day_ _) (fun _ => ?_) (fun _ => ?_)
           | refine callP hE (l00Has_ _ (by assumption)) (fun _ => ?_) (fun _ => ?_)
           | refine callP hE (l00Has_ (rs := []) (l := []) _ rfl) (fun _ => ?_) (fun _ => ?_)
           | (refine idxL (R := Vis.cs) hE (by assumption) (by first | omega | (simp only [List.length_set, mix_len]; omega)) ?_; rintro ⟨⟩ _)
           | refine callI hE (l30Due_ _ _ _) (fun _ _ => ?_)
           | refine updL hE (v' := (⟨_, _, _⟩ : Vis)) (by assumption) (by omega) (by assumption) (by exact Nat.le_of_ble_eq_true rfl) (by first | rfl | ((conv => lhs; cbv); rfl)) (fun _ _ => ?_)
           | refine catP hE (R := intR) (by assumption) rfl (by omega) (fun _ _ => ?_)
           | refine catP0 hE (R := intR) rfl (by omega) (fun _ _ => ?_)
           | refine ltT hE (by omega) ?_
           | refine ltF hE (by omega) ?_
           | refine ltI hE (fun _ => ?_) (fun _ => ?_)
           | refine leT hE (by omega) ?_
           | refine leF hE (by omega) ?_
           | refine leI hE (fun _ => ?_) (fun _ => ?_)
           | refine eqT hE (by omega) ?_
           | refine eqF hE (by omega) ?_
           | refine eqI hE (fun _ => ?_) (fun _ => ?_)
           | refine add64 hE (by omega) (fun _ _ => ?_)
           | refine sub64 hE (by omega) (fun _ _ => ?_)
           | refine addI hE (fun _ _ => ?_)
           | refine subI hE (fun _ _ => ?_)
           | refine lenL hE (by assumption) (fun _ _ _ => ?_)
           | refine len0 hE (fun _ _ => ?_)
           | refine idxL hE (by assumption) (by first | omega | (simp only [List.length_set, mix_len]; omega)) (fun _ _ => ?_)
           | refine idxFill hE (by assumption) (by omega) ?_
           | refine idxI hE (by decide) (by rfl) ?_
           | refine iteB (fun _ => ?_) (fun _ => ?_)
           | refine maxI hE (fun _ _ => ?_)
           | refine minI hE (fun _ _ => ?_)
           | refine seqI hE (fun _ => ?_) (fun _ => ?_)
           | refine scatI hE (by first | omega | (simp only [ByteArray.size, Array.size, List.length_cons, List.length_nil] at *; omega)) (fun _ _ _ => ?_)
           | refine slenI hE (fun _ _ _ => ?_)
           | refine sidxI hE (by omega) (fun _ _ _ _ => ?_)
           | refine needI hE (by first | decide | omega) ?_
           | refine rem64 hE (by omega) (fun _ _ => ?_)
           | refine quo64 hE (by omega) (fun _ _ => ?_)
           | refine wrapU8 hE (by omega) (fun _ _ => ?_)
           | refine wrap64 hE (by omega) (fun _ _ => ?_)
           | refine noownI hE (by simp [AV.isOwn]) ?_) <;> (try conv => cbv))
        all_goals clear hN
        all_goals first
          | omega
          | (simp only [List.length_append, List.length_cons, List.length_nil]; omega)
          | (refine finB hK (bP_false.2 ?_); rw [h5, runC_drop h0 hx]; first | exact runC_len (by omega) | exact runC_day (by assumption) (by omega) | exact runC_none (by assumption) (by assumption) (by omega))
          | (refine finB hK (bP_false.2 ?_); rw [h5, runC_drop h0 hx]; refine runC_bad (by assumption) (by assumption) (by assumption) (by assumption) _ (if_pos (by omega)) ?_; first | (left; omega) | (right; left; (try simp only); omega) | (right; right; left; assumption) | (right; right; right; (try simp only [List.length_nil]); omega))
          | (refine finB hK (bP_false.2 ?_); rw [h5, runC_drop h0 hx]; refine runC_bad (by assumption) (by assumption) (by assumption) (by assumption) _ (if_neg (by omega)) ?_; first | (left; omega) | (right; left; (try simp only); omega) | (right; right; left; assumption) | (right; right; right; (try simp only [List.length_nil]); omega))
          | (refine finB hK (bP_true.2 ?_); rw [h5, List.drop_eq_nil_of_le (by omega)]; trivial)
          | (rw [h5, runC_drop h0 hx, runC_next (by assumption) (by assumption) (by assumption) (by assumption) (by omega) (by assumption) (by omega) (by omega) (by (try simp only); omega) (by (try simp only); omega) _ (if_pos (by omega)) (by assumption) (by (try simp only [List.length_nil]); omega)]; subst_vars; rfl)
          | (rw [h5, runC_drop h0 hx, runC_next (by assumption) (by assumption) (by assumption) (by assumption) (by omega) (by assumption) (by omega) (by omega) (by (try simp only); omega) (by (try simp only); omega) _ (if_neg (by omega)) (by assumption) (by (try simp only [List.length_nil]); omega)]; subst_vars; rfl)
          | trace_state
      · obtain ⟨hbf0, htd0⟩ := h6 (by omega)
        have htd1 : ∀ d, (if bf < d then [] else td) = td := fun d => by rw [htd0]; exact ite_self _
        clear h7 h6
        repeat' first
          | (refine idxLV hE (by assumption) (by omega) (by assumption) (by assumption) ?_; (try conv => cbv))
          | (refine idxLL hE (by assumption) (by omega) (fun x _ hx _ => ?_); (try conv => cbv))
          | (refine callI hE (l30Find_ _ (by assumption)) (fun y hy => ?_); have hy2 : y = -1 ∨ (0 ≤ y ∧ y < (now.length : Int)) := (by rw [hy]; exact visAt_spec _ _); (try conv => cbv))
          | (refine hN (_, _, _) _ [0, 3] (by decide) rfl ⟨_, _, _, by assumption, by assumption, ?_, ?_, ?_, fun _ => ⟨x, by subst_vars; rw [Int.add_sub_cancel]; exact hx, by assumption⟩, ?_⟩ ?_ <;> (try dsimp only))
          | (refine hN (_, _, _) _ [0, 4] (by decide) rfl ⟨_, _, _, by assumption, by assumption, ?_, ?_, ?_, fun _ => ⟨x, by subst_vars; rw [Int.add_sub_cancel]; exact hx, by assumption⟩, ?_⟩ ?_ <;> (try dsimp only))
          | ((first
           | refine idxV hE (by assumption) (by omega) (by assumption) ?_
           | refine callP hE (l04Day_ _) (fun _ => ?_) (fun _ => ?_)
           | refine callP hE (l00Has_ _ (by assumption)) (fun _ => ?_) (fun _ => ?_)
           | refine callP hE (l00Has_ (rs := []) (l := []) _ rfl) (fun _ => ?_) (fun _ => ?_)
           | (refine idxL (R := Vis.cs) hE (by assumption) (by first | omega | (simp only [List.length_set, mix_len]; omega)) ?_; rintro ⟨⟩ _)
           | refine callI hE (l30Due_ _ _ _) (fun _ _ => ?_)
           | refine updL hE (v' := (⟨_, _, _⟩ : Vis)) (by assumption) (by omega) (by assumption) (by exact Nat.le_of_ble_eq_true rfl) (by first | rfl | ((conv => lhs; cbv); rfl)) (fun _ _ => ?_)
           | refine catP hE (R := intR) (by assumption) rfl (by omega) (fun _ _ => ?_)
           | refine catP0 hE (R := intR) rfl (by omega) (fun _ _ => ?_)
           | refine ltT hE (by omega) ?_
           | refine ltF hE (by omega) ?_
           | refine ltI hE (fun _ => ?_) (fun _ => ?_)
           | refine leT hE (by omega) ?_
           | refine leF hE (by omega) ?_
           | refine leI hE (fun _ => ?_) (fun _ => ?_)
           | refine eqT hE (by omega) ?_
           | refine eqF hE (by omega) ?_
           | refine eqI hE (fun _ => ?_) (fun _ => ?_)
           | refine add64 hE (by omega) (fun _ _ => ?_)
           | refine sub64 hE (by omega) (fun _ _ => ?_)
           | refine addI hE (fun _ _ => ?_)
           | refine subI hE (fun _ _ => ?_)
           | refine lenL hE (by assumption) (fun _ _ _ => ?_)
           | refine len0 hE (fun _ _ => ?_)
           | refine idxL hE (by assumption) (by first | omega | (simp only [List.length_set, mix_len]; omega)) (fun _ _ => ?_)
           | refine idxFill hE (by assumption) (by omega) ?_
           | refine idxI hE (by decide) (by rfl) ?_
           | refine iteB (fun _ => ?_) (fun _ => ?_)
           | refine maxI hE (fun _ _ => ?_)
           | refine minI hE (fun _ _ => ?_)
           | refine seqI hE (fun _ => ?_) (fun _ => ?_)
           | refine scatI hE (by first | omega | (simp only [ByteArray.size, Array.size, List.length_cons, List.length_nil] at *; omega)) (fun _ _ _ => ?_)
           | refine slenI hE (fun _ _ _ => ?_)
           | refine sidxI hE (by omega) (fun _ _ _ _ => ?_)
           | refine needI hE (by first | decide | omega) ?_
           | refine rem64 hE (by omega) (fun _ _ => ?_)
           | refine quo64 hE (by omega) (fun _ _ => ?_)
           | refine wrapU8 hE (by omega) (fun _ _ => ?_)
           | refine wrap64 hE (by omega) (fun _ _ => ?_)
           | refine noownI hE (by simp [AV.isOwn]) ?_) <;> (try conv => cbv))
        all_goals clear hN
        all_goals first
          | omega
          | (simp only [List.length_append, List.length_cons, List.length_nil]; omega)
          | (refine finB hK (bP_false.2 ?_); rw [h5, runC_drop h0 hx]; first | exact runC_len (by omega) | exact runC_day (by assumption) (by omega) | exact runC_none (by assumption) (by assumption) (by omega))
          | (refine finB hK (bP_false.2 ?_); rw [h5, runC_drop h0 hx]; refine runC_bad (by assumption) (by assumption) (by assumption) (by assumption) _ (htd1 _) ?_; first | (left; omega) | (right; left; (try simp only); omega) | (right; right; left; assumption) | (right; right; right; (try simp only [List.length_nil]); omega))
          | (refine finB hK (bP_false.2 ?_); rw [h5, runC_drop h0 hx]; refine runC_bad (by assumption) (by assumption) (by assumption) (by assumption) _ (if_neg (by omega)) ?_; first | (left; omega) | (right; left; (try simp only); omega) | (right; right; left; assumption) | (right; right; right; (try simp only [List.length_nil]); omega))
          | (refine finB hK (bP_true.2 ?_); rw [h5, List.drop_eq_nil_of_le (by omega)]; trivial)
          | (rw [h5, runC_drop h0 hx, runC_next (by assumption) (by assumption) (by assumption) (by assumption) (by omega) (by assumption) (by omega) (by omega) (by (try simp only); omega) (by (try simp only); omega) _ (htd1 _) (by assumption) (by (try simp only [List.length_nil]); omega)]; subst_vars; rfl)
          | (rw [h5, runC_drop h0 hx, runC_next (by assumption) (by assumption) (by assumption) (by assumption) (by omega) (by assumption) (by omega) (by omega) (by (try simp only); omega) (by (try simp only); omega) _ (if_neg (by omega)) (by assumption) (by (try simp only [List.length_nil]); omega)]; subst_vars; rfl)
          | trace_state
    · exact finB hK (bP_false.2 fun h => hlim h.2.1)
  · exact finB hK (bP_false.2 fun h => hok h.1)
end Go.Proofs.Ytmliclmglgimbaa
