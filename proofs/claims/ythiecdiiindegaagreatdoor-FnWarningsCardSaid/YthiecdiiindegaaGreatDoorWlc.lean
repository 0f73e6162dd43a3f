/- Contracts: warnings that are added and cancelled. -/
import Derived.Test.YthiecdiiindegaaGreatDoorWlp
import Derived.Test.YthiecdiiindegaaGreatDoorRdc
import Derived.Test.YthiecdiiindegaaGreatDoorIncW
namespace Go.Proofs.YthiecdiiindegaaGreatDoor
open Go Go.RowKit Go.Sort Classical
set_option maxRecDepth 100000
set_option maxHeartbeats 2000000
set_option linter.unusedVariables false
set_option linter.unusedSimpArgs false
theorem warningOf_ {rs : List (List AV)} {b : Bool} {l : List War} (n : Int) (hl : rs = l.map War.cs) : AC Tryz.prog 22 [.sl b 8 rs, .int .i64 n] numR (lowI l n, bP (foundW l n)) := by
  refine ac Tryz.func22 (by kernel_rfl) (.numR _) fun E K hE hK => ?_
  conv => cbv
  refine loopC hE (ι := Int) [0, 1] [6] (fun q => (fun (i : Int) => [(6, .int .i64 i)]) q) (fun q => (fun (i : Int) => []) q) (fun q => (fun (i : Int) => (l.length - i).toNat) q) (fun q => (fun (i : Int) => (0 ≤ i ∧ i ≤ l.length) ∧ Up (fun j => ∀ v, l[j]? = some v → v.number < n) i) q) [] (by decide) (0) (by conv => lhs; cbv) (by conv => lhs; cbv) rfl rfl (by dsimp only; exact ⟨by omega, .zero (by omega)⟩) fun i hi Kn hN => ?_
  (try dsimp only at hi)
  conv => cbv
  obtain ⟨⟨h0, h1⟩, hinv⟩ := hi
  repeat' first
    | (refine idxV (R := War.cs) hE hl h0 hv ?_; (try conv => cbv))
    | (refine idxL (R := War.cs) hE hl (by omega) (fun v hv => ?_); obtain ⟨vn, vp, vf, vu, vx, vy, vr, vs⟩ := v; (try conv => cbv))
    | (refine hN _ _ [] (by decide) rfl ⟨?_, ?_⟩ ?_ <;> (try dsimp only))
    | ((first
   | refine q0 hE ?_
   | refine B0 hE ?_|refine B1 hE (fun _=>?_) fun _=>?_|refine B3 hE fun _ _ _=>?_|refine B2 hE fun _ _=>?_|refine B4 hE fun _ _ _ _=>?_) <;> (try conv => cbv))
  all_goals (try clear hN)
  all_goals first
    | omega
    | exact hinv.succ (fun w hw => by rw [hv] at hw; cases hw; assumption) (by assumption)
    | (have e := lowI_in h0 hv (by simp only; omega) hinv; have f := found_in e hv; refine hK _ ?_; rw [show bP (foundW l n) = true from bP_true.2 (f.2 (by assumption)), e]; rfl)
    | (have e := lowI_in h0 hv (by simp only; omega) hinv; have f := found_in e hv; refine hK _ ?_; rw [show bP (foundW l n) = false from bP_false.2 (fun h => absurd (f.1 h) (by assumption)), e]; rfl)
    | (have e := lowI_out (l := l) (by omega) h1 hinv; have f := found_out e (by omega); refine hK _ ?_; rw [show bP (foundW l n) = false from bP_false.2 f, e]; rfl)
    | trace_state
theorem ins_map {l : List War} {w : War} {rs : List (List AV)} (h : rs = l.map War.cs) (k : Nat) : rs.take k ++ w.cs :: rs.drop k = (l.take k ++ w :: l.drop k).map War.cs := by
  subst h; simp [List.map_take, List.map_drop]
theorem nob_ins {l : List War} {w : War} {rs : List (List AV)} (h : rs = l.map War.cs) (k : Nat) : NoB (.sl true 8 (rs.take k ++ w.cs :: rs.drop k)) := by
  rw [ins_map h]; exact .rows .oWar
theorem insWar_ {rs : List (List AV)} {l : List War} (w : War) (i : Int) (hl : rs = l.map War.cs) (hi : 0 ≤ i ∧ i ≤ l.length) (hb : l.length ≤ 1048576) : ACM Tryz.prog 23 [.sl true 8 rs, .int .i64 i, .sl true 8 [w.cs]] (fun r ys => ∃ rs', rs' = (l.take i.toNat ++ w :: l.drop i.toNat).map War.cs ∧ r = .sl true 8 rs' ∧ ys = [.any, .any, .any]) := by
  have hlen : rs.length = l.length := by rw [hl, List.length_map]
  obtain ⟨h1, h2⟩ := insW_ (es := rs) (e := w.cs) (i := i) (by omega) (by omega) (nob_ins hl _)
  exact ⟨h1, fun w A vs F g1 g2 g3 g4 g5 => (h2 w A vs F g1 g2 g3 g4 g5).mono fun e w' ⟨v, G, r, args', hq, rest⟩ => ⟨v, G, r, args', ⟨_, ins_map hl _, hq.1, hq.2⟩, rest⟩⟩
theorem addWarning_ {rs : List (List AV)} {b : Bool} {l : List War} (n p f u x y r : Int) (s : ByteArray) (hl : rs = l.map War.cs) : AC Tryz.prog 6 [.sl b 8 rs, .agg [.int .i64 n, .int .i64 p, .int .i64 f, .int .i64 u, .int .i64 x, .int .i64 y, .int .i64 r, .str s]] warLI (addWR l ⟨n, p, f, u, x, y, r, s⟩) := by
  refine ac Tryz.func6 (by kernel_rfl) (.warLI _) fun E K hE hK => ?_
  conv => cbv
  rw [addWR_low] at hK
  refine callP hE (validWarnings_ hl) (fun hok => ?_) (fun hok => ?_) <;> conv => cbv
  · have h32 := hok.2
    refine callP hE (validWarning_ n p f u x y r s) (fun hw => ?_) (fun hw => ?_) <;> conv => cbv
    · rw [if_pos ⟨hok, hw⟩, addWAt_low] at hK
      simp only at hK
      have hb := (lowI_spec l n).1
      refine callI hE (warningOf_ n hl) (fun q hq => ?_)
      by_cases hf : foundW l n
      · rw [if_pos hf] at hK
        rw [show bP (foundW l n) = true from bP_true.2 hf] at hq
        subst hq
        conv => cbv
        repeat' first
          | ((first
         | refine q0 hE ?_
         | refine nilOwnI hE 8 ?_
         | refine B0 hE ?_|refine B1 hE (fun _=>?_) fun _=>?_|refine B3 hE fun _ _ _=>?_|refine B2 hE fun _ _=>?_|refine B4 hE fun _ _ _ _=>?_) <;> (try conv => cbv))
        all_goals exact hK _ rfl
      · rw [if_neg hf] at hK
        rw [show bP (foundW l n) = false from bP_false.2 hf] at hq
        generalize lowI l n = i at *
        subst hq
        conv => cbv
        repeat' first
          | (refine lenL hE hl (fun n1 hn1 _ => ?_); (try conv => cbv))
          | (refine callR hE (cloneWarning_ hl (by omega)) (fun rs1 h1 => ?_); (try conv => cbv))
          | (refine callMI hE (insWar_ ⟨n, p, f, u, x, y, r, s⟩ i h1 (by omega) (by omega)) ?_; rintro r ys ⟨rs2, h2, rfl, rfl⟩; (try conv => cbv))
          | (refine needI hE ?_ ?_ <;> (try conv => cbv))
          | ((first
         | refine q0 hE ?_
         | refine nilOwnI hE 8 ?_
         | refine B0 hE ?_|refine B1 hE (fun _=>?_) fun _=>?_|refine B3 hE fun _ _ _=>?_|refine B2 hE fun _ _=>?_|refine B4 hE fun _ _ _ _=>?_) <;> (try conv => cbv))
        all_goals first
          | (rw [if_pos (by omega)] at hK; exact hK _ rfl)
          | (rw [if_neg (by omega)] at hK; refine hK _ ?_; rw [h2]; rfl)
          | trace_state
    · refine nilOwnI hE 8 ?_
      conv => cbv
      exact hK _ (by rw [if_neg (fun h => hw h.2)]; rfl)
  · refine nilOwnI hE 8 ?_
    conv => cbv
    exact hK _ (by rw [if_neg (fun h => hok h.1)]; rfl)
theorem cancelWarning_ {rs : List (List AV)} {b : Bool} {l : List War} (n t : Int) (hl : rs = l.map War.cs) : AC Tryz.prog 10 [.sl b 8 rs, .int .i64 n, .int .i64 t] warLI (cancR l n t) := by
  refine ac Tryz.func10 (by kernel_rfl) (.warLI _) fun E K hE hK => ?_
  conv => cbv
  unfold cancR at hK
  refine callP hE (validWarnings_ hl) (fun hok => ?_) (fun hok => ?_) <;> conv => cbv
  · have h32 := hok.2
    rw [if_pos hok] at hK
    have hb := (lowI_spec l n).1
    refine callI hE (warningOf_ n hl) (fun q hq => ?_)
    by_cases hf : foundW l n
    · obtain ⟨v, hv, hvn⟩ := hf
      rw [show bP (foundW l n) = true from bP_true.2 ⟨v, hv, hvn⟩] at hq
      have hvo := hok.all v (List.mem_of_getElem? hv)
      obtain ⟨_, _, hvf, hvt, _⟩ := hvo
      unfold TimeOk at hvf hvt
      have hil := (List.getElem?_eq_some_iff.1 hv).1
      rw [hv, cancO, if_pos hvn] at hK
      generalize lowI l n = i at *
      subst hq
      obtain ⟨vn, vp, vf, vu, vx, vy, vr, vs⟩ := v
      simp only at hvf hvt hvn hK
      conv => cbv
      repeat' first
        | (refine idxV (R := War.cs) hE (by assumption) hb.1 hv ?_; (try conv => cbv))
        | (refine callR hE (cloneWarning_ hl (by omega)) (fun rs1 h1 => ?_); (try conv => cbv))
        | (refine callMI hE (delWarning_ i _ h1 (by omega) (by omega)) ?_; rintro r ys ⟨rs2, h2, rfl, rfl⟩; (try conv => cbv))
        | (refine updL hE (R := War.cs) ⟨vn, vp, vf, t, vx, vy, vr, vs⟩ (by assumption) (by omega) hv (by exact Nat.le_of_ble_eq_true rfl) (by rfl) (fun es' hes' => ?_); (try conv => cbv))
        | ((first
       | refine q0 hE ?_
       | refine callP hE (isTime_ _) (fun _ => ?_) (fun _ => ?_)
       | refine nilOwnI hE 8 ?_
       | refine B0 hE ?_|refine B1 hE (fun _=>?_) fun _=>?_|refine B3 hE fun _ _ _=>?_|refine B2 hE fun _ _=>?_|refine B4 hE fun _ _ _ _=>?_) <;> (try conv => cbv))
      all_goals first
        | (rw [if_neg (by assumption)] at hK; exact hK _ rfl)
        | (rw [if_pos (by assumption), if_pos (by omega)] at hK; exact hK _ rfl)
        | (rw [if_pos (by assumption), if_neg (by omega), if_pos (by omega)] at hK; refine hK _ ?_; have e : ∀ z : Int, z = i + 1 → l.drop z.toNat = l.drop (i.toNat + 1) := (fun z hz => by rw [show z.toNat = i.toNat + 1 by omega]); rw [h2, e _ (by assumption)]; rfl)
        | (rw [if_pos (by assumption), if_neg (by omega), if_neg (by omega)] at hK; refine hK _ ?_; rw [hes']; rfl)
        | trace_state
    · rw [show bP (foundW l n) = false from bP_false.2 hf] at hq
      have hno : cancO l n t l[(lowI l n).toNat]? = ([], 3) := by
        cases hv : l[(lowI l n).toNat]? with
        | some v => exact if_neg (fun e => hf ⟨v, hv, e⟩)
        | none => rfl
      rw [hno] at hK
      generalize lowI l n = i at *
      subst hq
      conv => cbv
      repeat' first
        | ((first
       | refine q0 hE ?_
       | refine nilOwnI hE 8 ?_
       | refine B0 hE ?_|refine B1 hE (fun _=>?_) fun _=>?_|refine B3 hE fun _ _ _=>?_|refine B2 hE fun _ _=>?_|refine B4 hE fun _ _ _ _=>?_) <;> (try conv => cbv))
      all_goals exact hK _ rfl
  · rw [if_neg hok] at hK
    refine nilOwnI hE 8 ?_
    conv => cbv
    exact hK _ rfl
theorem same0_ {rs rs' : List (List AV)} {b b' : Bool} {l : List War} (hl : rs = l.map War.cs) (hm : rs' = l.map War.cs) : AC Tryz.prog 43 [.sl b 8 rs, .sl b' 8 rs'] AV.bool true := by
  refine ac Tryz.func43 (by kernel_rfl) (.bool _) fun E K hE hK => ?_
  conv => cbv
  repeat' first
    | (refine lenL hE hl (fun n1 hn1 _ => ?_); (try conv => cbv))
    | (refine lenL hE hm (fun n2 hn2 _ => ?_); (try conv => cbv))
    | ((refine loopC hE (ι := Int) [0, 1, 12] [13] (fun q => (fun (i : Int) => [(13, .int .i64 i)]) q) (fun q => (fun (i : Int) => []) q) (fun q => (fun (i : Int) => (l.length - i).toNat) q) (fun q => (fun (i : Int) => 0 ≤ i) q) [] (by decide) (0) (by conv => lhs; cbv) (by conv => lhs; cbv) rfl rfl (by dsimp only; exact by omega) fun i hi2 Kn2 hN2 => ?_; (try dsimp only at hi2); conv => cbv))
    | (refine idxV (R := War.cs) hE hl (by omega) hv ?_; (try conv => cbv))
    | (refine idxV (R := War.cs) hE hm (by omega) hv ?_; (try conv => cbv))
    | (refine idxL (R := War.cs) hE hl (by omega) (fun v hv => ?_); obtain ⟨vn, vp, vf, vu, vx, vy, vr, vs⟩ := v; (try conv => cbv))
    | (refine aeqI hE (fun hq => ?_) (fun hq => ?_) <;> (try conv => cbv))
    | (refine hN2 _ _ [] (by decide) rfl (by omega) ?_ <;> (try dsimp only))
    | ((first
   | refine q0 hE ?_
   | refine B0 hE ?_|refine B1 hE (fun _=>?_) fun _=>?_|refine B3 hE fun _ _ _=>?_|refine B2 hE fun _ _=>?_|refine B4 hE fun _ _ _ _=>?_) <;> (try conv => cbv))
  all_goals first
    | exact hK _ rfl
    | omega
    | exact absurd (by simp [pairsP]) hq
    | trace_state
theorem sameWarnings_ {rs rs' : List (List AV)} {b b' : Bool} {l : List War} (hl : rs = l.map War.cs) (hm : rs' = l.map War.cs) : AC Tryz.prog 15 [.sl b 8 rs, .sl b' 8 rs'] AV.bool true := by
  refine ac Tryz.func15 (by kernel_rfl) (.bool _) fun E K hE hK => ?_
  conv => cbv
  refine callI hE (same0_ hl hm) (fun q hq => ?_)
  subst hq
  conv => cbv
  exact hK _ rfl
end Go.Proofs.YthiecdiiindegaaGreatDoor
