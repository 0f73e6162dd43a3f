/- Contracts: the best pair of what an observer sees; the law. -/
import Derived.Test.YtlfnlgbojbgcnaaGreatDoorGsn
namespace Go.Proofs.YtlfnlgbojbgcnaaGreatDoor
open Go Go.RowKit Classical
set_option maxRecDepth 100000
set_option maxHeartbeats 2000000
set_option linter.unusedVariables false
set_option linter.unusedSimpArgs false
/-- Contracts whose proof takes the results of some functions as read only. -/
noncomputable def LZ (zs : List Nat) : Lay := ⟨tyT, muT, srT, fun f => memB f zs⟩
theorem acZ (zs : List Nat) {f : FuncId} {fn : Func} {α : Type} {args : List AV} {R : α → AV} {x : α} (hf : Tryz.prog.funcs[f]? = some fn) (hname : (fn.name == "runtime.NumGoroutine") = false) (hn : NoB (R x))
    (h : ∀ (E : Env) (K : AV → Prop), E = stdE 0 Tryz.prog → (∀ r, r = R x → K r) → afun E (LZ zs) fn args K) : AC Tryz.prog f args R x := by
  have h1 := h _ (fun r => r = R x) rfl (fun _ h => h)
  cases hb : fn.body with
  | none => unfold afun at h1; rw [hb] at h1; exact h1.elim
  | some c => exact AC_of_ax (L := LZ zs) LT_ty wide hf hname hb hn h1
def crossR (a b : Int) : Int := min (turnR a b) (180 - turnR a b)
theorem crossing_ (a b : Int) : AC Tryz.prog 69 [.int .i64 a, .int .i64 b] (AV.int .i64) (crossR a b) := by
  refine ac Tryz.func69 (by kernel_rfl) (.int _ _) fun E K hE hK => ?_
  conv => cbv
  have hb := turnR_bd a b
  repeat' first
    | ((first
   | refine q0 hE ?_
   | refine callI hE (turn_ _ _) (fun _ _ => ?_)
   | refine q1 hE ?_|refine q2 hE ?_|refine ltI hE (fun _=>?_) fun _=>?_|refine q4 hE ?_|refine q5 hE ?_|refine leI hE (fun _=>?_) fun _=>?_|refine q6 hE ?_|refine q7 hE ?_|refine eqI hE (fun _=>?_) fun _=>?_|refine q8 hE fun _ _=>?_|refine q9 hE fun _ _=>?_|refine addI hE fun _ _=>?_|refine subI hE fun _ _=>?_|refine qa hE fun _ _ _=>?_|refine len0 hE fun _ _=>?_|refine qb hE fun _ _=>?_|refine qc hE ?_|refine qd hE ?_|refine iteB (fun _=>?_) fun _=>?_|refine maxI hE fun _ _=>?_|refine minI hE fun _ _=>?_|refine seqI hE (fun _=>?_) fun _=>?_|refine qe hE fun _ _ _=>?_|refine slenI hE fun _ _ _=>?_|refine qf hE fun _ _ _ _=>?_|refine qg hE ?_|refine qh hE fun _ _=>?_|refine qi hE fun _ _=>?_|refine qj hE fun _ _=>?_|refine qk hE fun _ _=>?_|refine ql hE ?_) <;> (try conv => cbv))
  all_goals first
    | omega
    | (exact hK _ (by subst_vars; rfl))
    | trace_state
theorem l16Cross_ (a b : Int) : AC Tryz.prog 67 [.int .i64 a, .int .i64 b] (AV.int .i64) (crossR a b) := by
  refine ac Tryz.func67 (by kernel_rfl) (.int _ _) fun E K hE hK => ?_
  conv => cbv
  have hb := turnR_bd a b
  repeat' first
    | ((first
   | refine q0 hE ?_
   | refine callI hE (l02Turn_ _ _) (fun _ _ => ?_)
   | refine callI hE (l00Min_ _ _) (fun _ _ => ?_)
   | refine q1 hE ?_|refine q2 hE ?_|refine ltI hE (fun _=>?_) fun _=>?_|refine q4 hE ?_|refine q5 hE ?_|refine leI hE (fun _=>?_) fun _=>?_|refine q6 hE ?_|refine q7 hE ?_|refine eqI hE (fun _=>?_) fun _=>?_|refine q8 hE fun _ _=>?_|refine q9 hE fun _ _=>?_|refine addI hE fun _ _=>?_|refine subI hE fun _ _=>?_|refine qa hE fun _ _ _=>?_|refine len0 hE fun _ _=>?_|refine qb hE fun _ _=>?_|refine qc hE ?_|refine qd hE ?_|refine iteB (fun _=>?_) fun _=>?_|refine maxI hE fun _ _=>?_|refine minI hE fun _ _=>?_|refine seqI hE (fun _=>?_) fun _=>?_|refine qe hE fun _ _ _=>?_|refine slenI hE fun _ _ _=>?_|refine qf hE fun _ _ _ _=>?_|refine qg hE ?_|refine qh hE fun _ _=>?_|refine qi hE fun _ _=>?_|refine qj hE fun _ _=>?_|refine qk hE fun _ _=>?_|refine ql hE ?_) <;> (try conv => cbv))
  all_goals first
    | omega
    | (exact hK _ (by subst_vars; rfl))
    | trace_state
/-- The best pair so far: (one, two, most). -/
def bestIn (a : Int × Int) (l : List (Int × Int)) (st : Int × Int × Int) : Int × Int × Int := l.foldl (fun st b => if st.2.2 < crossR a.2 b.2 then (a.1, b.1, crossR a.2 b.2) else st) st
def bestL : List (Int × Int) → Int × Int × Int → Int × Int × Int
  | [], st => st
  | a :: l, st => bestL l (bestIn a l st)
theorem best_in {a b : Int × Int} {L : List (Int × Int)} {st : Int × Int × Int} {k n : Int} (h0 : 0 ≤ k) (hb : L[k.toNat]? = some b) (hn : n = k + 1) : (st.2.2 < crossR a.2 b.2 → bestIn a (L.drop k.toNat) st = bestIn a (L.drop n.toNat) (a.1, b.1, crossR a.2 b.2)) ∧ (¬ st.2.2 < crossR a.2 b.2 → bestIn a (L.drop k.toNat) st = bestIn a (L.drop n.toNat) st) := by
  have hlt := (List.getElem?_eq_some_iff.1 hb)
  have e : L.drop k.toNat = b :: L.drop n.toNat := by
    rw [List.drop_eq_getElem_cons hlt.1, hlt.2, show n.toNat = k.toNat + 1 by omega]
  rw [e]
  unfold bestIn
  constructor
  · intro h; rw [List.foldl_cons, if_pos h]
  · intro h; rw [List.foldl_cons, if_neg h]
theorem best_out {a : Int × Int} {L : List (Int × Int)} {st : Int × Int × Int} {i n : Int} (h0 : 0 ≤ i) (ha : L[i.toNat]? = some a) (hn : n = i + 1) : bestL (L.drop i.toNat) st = bestL (L.drop n.toNat) (bestIn a (L.drop n.toNat) st) := by
  have hlt := (List.getElem?_eq_some_iff.1 ha)
  have e : L.drop i.toNat = a :: L.drop n.toNat := by
    rw [List.drop_eq_getElem_cons hlt.1, hlt.2, show n.toNat = i.toNat + 1 by omega]
  rw [e]; rfl
theorem best_end {a : Int × Int} {L : List (Int × Int)} {st : Int × Int × Int} {k : Int} (h : L.length ≤ k) : bestIn a (L.drop k.toNat) st = st := by
  rw [List.drop_of_length_le (by omega)]; rfl
theorem bestL_end {L : List (Int × Int)} {st : Int × Int × Int} {k : Int} (h : L.length ≤ k) : bestL (L.drop k.toNat) st = st := by
  rw [List.drop_of_length_le (by omega)]; rfl
noncomputable def bestR (l : List Aid) (x y e s : Int) : Int × Int × Int := if AidsOk l ∧ ObvOk x y e s then (if (bearL l x y e s).length < 2 then (0, 0, 6) else ((bestL (bearL l x y e s) (0, 0, -1)).1, (bestL (bearL l x y e s) (0, 0, -1)).2.1, 0)) else (0, 0, 1)
def prowR (b : Bool) (p : Int × Int) : List AV := llR b (prow p)
set_option maxHeartbeats 4000000
--CUR impl.BestPair
theorem bestPair_ {rs : List (List AV)} {t b : Bool} {l : List Aid} (x y e s : Int) (hl : rs = l.map (Aid.cs b)) : AC Tryz.prog 25 [.sl t 16 rs, .agg [.int .i64 x, .int .i64 y, .int .i64 e, .int .i64 s]] three (bestR l x y e s) := by
  refine acZ [32] Tryz.func25 (by kernel_rfl) (.three _) fun E K hE hK => ?_
  conv => cbv
  refine callLI hE (bearingsFrom_ x y e s hl) fun rs1 c hrs1 hc => ?_
  conv => cbv
  by_cases hok : AidsOk l ∧ ObvOk x y e s
  · rw [bearingsR, if_pos hok] at hrs1 hc
    obtain ⟨L, hL⟩ : ∃ L, L = bearL l x y e s := ⟨_, rfl⟩
    rw [← hL] at hrs1
    have hrs : rs1 = L.map (prowR true) := by rw [hrs1, List.map_map]; rfl
    clear hrs1
    have hLl : L.length ≤ 24 := by rw [hL, bearL_len]; exact Nat.le_trans (seenL_len _ _ _ _ _) hok.1.2
    refine eqT hE hc ?_
    conv => cbv
    refine lenL hE hrs fun n hn hb => ?_
    conv => cbv
    refine ltI hE (fun h2 => ?_) (fun h2 => ?_) <;> conv => cbv
    · refine hK _ ?_
      rw [bestR, if_pos hok, if_pos (by rw [← hL]; omega)]; rfl
    refine lenL hE hrs fun n2 hn2 hb2 => ?_
    conv => cbv
    refine loopC hE (ι := Int × Int × Int × Int) [7, 29, 30] [31, 9, 10, 11] (fun q => (fun (i : Int) (p : Int) (q1 : Int) (m : Int) => [(31, .int .i64 i), (9, .int .i64 p), (10, .int .i64 q1), (11, .int .i64 m)]) q.1 q.2.1 q.2.2.1 q.2.2.2) (fun q => (fun (i : Int) (p : Int) (q1 : Int) (m : Int) => []) q.1 q.2.1 q.2.2.1 q.2.2.2) (fun q => (fun (i : Int) (p : Int) (q1 : Int) (m : Int) => (n2 - i).toNat) q.1 q.2.1 q.2.2.1 q.2.2.2) (fun q => (fun (i : Int) (p : Int) (q1 : Int) (m : Int) => (0 ≤ i ∧ i ≤ n2) ∧ bestL L (0, 0, -1) = bestL (L.drop i.toNat) (p, q1, m)) q.1 q.2.1 q.2.2.1 q.2.2.2) [] (by decide) ((0, 0, 0, -1)) (by conv => lhs; cbv) (by conv => lhs; cbv) rfl rfl (by dsimp only; exact ⟨by omega, by rfl⟩) fun q hi Kn hN => ?_
    obtain ⟨i, p, q1, m⟩ := q
    (try dsimp only at hi)
    conv => cbv
    obtain ⟨⟨h0, h1⟩, hgo⟩ := hi
    refine ltI hE (fun hlt => ?_) (fun hge => ?_) <;> conv => cbv
    · refine idxL (R := prowR true) hE hrs (by omega) fun a ha => ?_
      obtain ⟨u1, u2⟩ := a
      conv => cbv
      refine add64 hE (by omega) fun i1 hi1 => ?_
      conv => cbv
      have ho := best_out (st := (p, q1, m)) h0 ha hi1
      refine subL (R := prowR true) hE hrs (by simp only [Option.getD_some, Option.getD_none]; omega) fun rs2 hrs2 => ?_
      have hrs3 : rs2 = (L.drop i1.toNat).map (prowR true) := by rw [hrs2]; simp
      conv => cbv
      refine lenL hE hrs3 fun n3 hn3 hb3 => ?_
      conv => cbv
      rw [List.length_drop] at hn3
      repeat' first
        | ((refine loopC hE (ι := Int × Int × Int × Int) [7, 13, 29, 30, 31, 39, 40] [41, 9, 10, 11] (fun q => (fun (j : Int) (p2 : Int) (q2 : Int) (m2 : Int) => [(41, .int .i64 j), (9, .int .i64 p2), (10, .int .i64 q2), (11, .int .i64 m2)]) q.1 q.2.1 q.2.2.1 q.2.2.2) (fun q => (fun (j : Int) (p2 : Int) (q2 : Int) (m2 : Int) => []) q.1 q.2.1 q.2.2.1 q.2.2.2) (fun q => (fun (j : Int) (p2 : Int) (q2 : Int) (m2 : Int) => (n3 - j).toNat) q.1 q.2.1 q.2.2.1 q.2.2.2) (fun q => (fun (j : Int) (p2 : Int) (q2 : Int) (m2 : Int) => (0 ≤ j ∧ j ≤ n3) ∧ bestL L (0, 0, -1) = bestL (L.drop i1.toNat) (bestIn (u1, u2) (L.drop (i1 + j).toNat) (p2, q2, m2))) q.1 q.2.1 q.2.2.1 q.2.2.2) [] (by decide) ((0, p, q1, m)) (by conv => lhs; cbv) (by conv => lhs; cbv) rfl rfl (by dsimp only; exact ⟨by omega, by rw [hgo, ho, Int.add_zero]⟩) fun q hi2 Kn2 hN2 => ?_; obtain ⟨j, p2, q2, m2⟩ := q; (try dsimp only at hi2); conv => cbv); obtain ⟨⟨j0, j1⟩, hgo2⟩ := hi2)
        | (refine idxL (R := prowR true) hE hrs3 (by rw [List.length_drop]; omega) (fun b2 hb2 => ?_); rw [List.getElem?_drop, show i1.toNat + j.toNat = (i1 + j).toNat by omega] at hb2; obtain ⟨w1, w2⟩ := b2; (try conv => cbv))
        | (refine hN2 (_, _, _, _) _ [] (by decide) rfl ⟨?_, ?_⟩ ?_ <;> (try dsimp only))
        | (refine hN (_, _, _, _) _ [] (by decide) rfl ⟨?_, ?_⟩ ?_ <;> (try dsimp only))
        | ((first
       | refine q0 hE ?_
       | refine callI hE (crossing_ _ _) (fun _ _ => ?_)
       | refine q1 hE ?_|refine q2 hE ?_|refine ltI hE (fun _=>?_) fun _=>?_|refine q4 hE ?_|refine q5 hE ?_|refine leI hE (fun _=>?_) fun _=>?_|refine q6 hE ?_|refine q7 hE ?_|refine eqI hE (fun _=>?_) fun _=>?_|refine q8 hE fun _ _=>?_|refine q9 hE fun _ _=>?_|refine addI hE fun _ _=>?_|refine subI hE fun _ _=>?_|refine qa hE fun _ _ _=>?_|refine len0 hE fun _ _=>?_|refine qb hE fun _ _=>?_|refine qc hE ?_|refine qd hE ?_|refine iteB (fun _=>?_) fun _=>?_|refine maxI hE fun _ _=>?_|refine minI hE fun _ _=>?_|refine seqI hE (fun _=>?_) fun _=>?_|refine qe hE fun _ _ _=>?_|refine slenI hE fun _ _ _=>?_|refine qf hE fun _ _ _ _=>?_|refine qg hE ?_|refine qh hE fun _ _=>?_|refine qi hE fun _ _=>?_|refine qj hE fun _ _=>?_|refine qk hE fun _ _=>?_|refine ql hE ?_) <;> (try conv => cbv))
      all_goals (try clear hN2)
      all_goals (try clear hN)
      all_goals first
        | omega
        | (rename_i j2 hj2; rw [hgo2, (best_in (a := (u1, u2)) (st := (p2, q2, m2)) (n := i1 + j2) (by omega) hb2 (by omega)).1 (by simp only; omega)]; subst_vars; rfl)
        | (rename_i j2 hj2; rw [hgo2, (best_in (a := (u1, u2)) (st := (p2, q2, m2)) (n := i1 + j2) (by omega) hb2 (by omega)).2 (by simp only; omega)])
        | (rw [hgo2, best_end (by omega)]; done)
        | (rename_i i2 hi2; rw [show i2 = i1 by omega, hgo2, best_end (by omega)])
        | trace_state
    · refine hK _ ?_
      rw [bestR, if_pos hok, if_neg (by rw [← hL]; omega), ← hL, hgo, bestL_end (by omega)]; rfl
  · rw [bearingsR, if_neg hok] at hc
    refine eqF hE (by rw [hc]; decide) ?_
    conv => cbv
    refine hK _ ?_
    rw [bestR, if_neg hok, hc]; rfl
end Go.Proofs.YtlfnlgbojbgcnaaGreatDoor
