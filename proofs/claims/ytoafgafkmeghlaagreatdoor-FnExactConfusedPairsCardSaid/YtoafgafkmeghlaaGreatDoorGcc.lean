/- Contracts: characters: small functions, groups, signs. -/
import Derived.Test.YtoafgafkmeghlaaGreatDoorGco
namespace Go.Proofs.YtoafgafkmeghlaaGreatDoor
open Go Go.RowKit Classical
set_option maxRecDepth 100000
set_option maxHeartbeats 2000000
set_option linter.unusedVariables false
set_option linter.unusedSimpArgs false
def three (p : Int × Int × Int) : AV := .tup [.int .i64 p.1, .int .i64 p.2.1, .int .i64 p.2.2]
theorem NoB.three (p : Int × Int × Int) : NoB (three p) := .tupC (.int _ _) (.tupC (.int _ _) (.tupC (.int _ _) .tup0))
theorem callIII {E : Env} {np : Nat} {P : Program} (hE : E = stdE np P) {f : FuncId} {args : List AV} {x : Int × Int × Int} {K : AV → Prop} (h : AC P f args three x) (hk : ∀ a b c, a = x.1 → b = x.2.1 → c = x.2.2 → K (.tup [.int .i64 a, .int .i64 b, .int .i64 c])) : E.call f args K :=
  callI hE h fun y hy => hk _ _ _ (by rw [hy]) (by rw [hy]) (by rw [hy])
theorem l05Rank_ (n : Int) : AC Tryz.prog 231 [.int .u8 n] (AV.int .i64) (rk n) := by
  refine ac Tryz.func231 (by kernel_rfl) (.int _ _) fun E K hE hK => ?_
  conv => cbv
  repeat' first
    | ((first
   | refine q0 hE ?_
   | refine B0 hE ?_|refine B1 hE (fun _=>?_) fun _=>?_|refine B3 hE fun _ _ _=>?_|refine B2 hE fun _ _=>?_|refine B4 hE fun _ _ _ _=>?_) <;> (try conv => cbv))
  all_goals first
    | (refine hK _ ?_; show AV.int _ _ = AV.int _ _; congr 1; unfold rk; repeat' split <;> omega)
    | trace_state
theorem rk_bd (c : Int) : 0 ≤ rk c ∧ rk c ≤ 4 := by unfold rk; repeat' split <;> omega
theorem colC_of {s : ByteArray} {i a b : Int} (h0 : 0 ≤ i) (ha : a = chr s i.toNat) (h1 : rk a ≠ 0) (h2 : i ≤ 0 ∨ (b = chr s (i - 1).toNat ∧ rk b < rk a)) : ColC s i.toNat := by
  subst ha
  refine ⟨h1, fun hp => ?_⟩
  rcases h2 with h2 | ⟨rfl, h2⟩
  · omega
  · rw [show i.toNat - 1 = (i - 1).toNat by omega]; exact h2
theorem l05Colors_ (s : ByteArray) : AC Tryz.prog 194 [.str s] AV.bool (bP (ColOk s)) := by
  refine ac Tryz.func194 (by kernel_rfl) (.bool _) fun E K hE hK => ?_
  conv => cbv
  refine loopC hE (ι := Int) [0] [3] (fun q => (fun (i : Int) => [(3, .int .i64 i)]) q) (fun q => (fun (i : Int) => []) q) (fun q => (fun (i : Int) => (s.size - i).toNat) q) (fun q => (fun (i : Int) => (0 ≤ i ∧ i ≤ s.size) ∧ Up (ColC s) i) q) [] (by decide) (0) (by conv => lhs; cbv) (by conv => lhs; cbv) rfl rfl (by dsimp only; exact ⟨by omega, .zero (by omega)⟩) fun i hi Kn hN => ?_
  (try dsimp only at hi)
  conv => cbv
  obtain ⟨h0, hinv⟩ := hi
  refine slenI hE fun n hn hb => ?_
  conv => cbv
  refine ltI hE (fun hlt => ?_) (fun hge => ?_) <;> conv => cbv
  · refine sidxI hE (by omega) fun a ha ha1 ha2 => ?_
    replace ha : a = chr s i.toNat := ha
    conv => cbv
    repeat' first
      | (refine callI hE (l05Rank_ _) (fun y hy => ?_); (try conv => cbv))
      | (refine sidxI hE (by omega) (fun b hb0 _ _ => ?_); (first | (replace hb0 : b = chr s i.toNat := hb0; (have hb1 : a = b := ha.trans hb0.symm); clear hb0; subst hb1) | (replace hb0 : b = chr s q.toNat := hb0)); (try conv => cbv))
      | (refine sub64 hE (by omega) (fun q hq => ?_); (try conv => cbv))
      | (refine hN _ _ [] (by decide) rfl ⟨?_, ?_⟩ ?_ <;> (try dsimp only))
      | ((first
     | refine q0 hE ?_
     | refine B0 hE ?_|refine B1 hE (fun _=>?_) fun _=>?_|refine B3 hE fun _ _ _=>?_|refine B2 hE fun _ _=>?_|refine B4 hE fun _ _ _ _=>?_) <;> (try conv => cbv))
    all_goals (try clear hN)
    all_goals first
      | omega
      | (refine hinv.succ (colC_of (b := 0) h0.1 ha (by omega) (.inl (by omega))) (by assumption))
      | (refine hinv.succ (colC_of h0.1 ha (by omega) (.inr ⟨hq ▸ hb0, by omega⟩)) (by assumption))
      | (refine finB hK (bP_false.2 fun h => ?_); have := (h.1 i.toNat (by omega)).1; rw [← ha] at this; omega)
      | (refine finB hK (bP_false.2 fun h => ?_); have := (h.1 i.toNat (by omega)).2 (by omega); rw [← ha, show i.toNat - 1 = (i - 1).toNat by omega, ← hq, ← hb0] at this; omega)
      | trace_state
  · skip
    repeat' first
      | ((first
     | refine q0 hE ?_
     | refine B0 hE ?_|refine B1 hE (fun _=>?_) fun _=>?_|refine B3 hE fun _ _ _=>?_|refine B2 hE fun _ _=>?_|refine B4 hE fun _ _ _ _=>?_) <;> (try conv => cbv))
    all_goals (try clear hN)
    all_goals first
      | (refine finB hK (bP_true.2 ⟨hinv.all (by omega), by omega, by omega⟩))
      | (refine finB hK (bP_false.2 fun h => ?_); have := h.2; omega)
      | trace_state
theorem areCharacterColors_ (s : ByteArray) : AC Tryz.prog 213 [.str s] AV.bool (bP (ColOk s)) := by
  refine ac Tryz.func213 (by kernel_rfl) (.bool _) fun E K hE hK => ?_
  conv => cbv
  refine loopC hE (ι := Int × Int) [0] [4, 3] (fun q => (fun (i : Int) (last : Int) => [(4, .int .i64 i), (3, .int .i64 last)]) q.1 q.2) (fun q => (fun (i : Int) (last : Int) => []) q.1 q.2) (fun q => (fun (i : Int) (last : Int) => (s.size - i).toNat) q.1 q.2) (fun q => (fun (i : Int) (last : Int) => (0 ≤ i ∧ i ≤ s.size) ∧ Up (ColC s) i ∧ (i ≤ 0 ∧ last = -1 ∨ 0 < i ∧ last = rk (chr s (i - 1).toNat) - 1)) q.1 q.2) [] (by decide) ((0, -1)) (by conv => lhs; cbv) (by conv => lhs; cbv) rfl rfl (by dsimp only; exact ⟨by omega, .zero (by omega), by omega⟩) fun q hi Kn hN => ?_
  obtain ⟨i, last⟩ := q
  (try dsimp only at hi)
  conv => cbv
  obtain ⟨h0, hinv, hla⟩ := hi
  refine slenI hE fun n hn hb => ?_
  conv => cbv
  refine ltI hE (fun hlt => ?_) (fun hge => ?_) <;> conv => cbv
  · refine sidxI hE (by omega) fun a ha ha1 ha2 => ?_
    replace ha : a = chr s i.toNat := ha
    conv => cbv
    refine callI hE (indexByte_ cAll a) fun y hy => ?_
    rw [idx_rk ⟨ha1, ha2⟩] at hy
    conv => cbv
    have hrk := rk_bd a
    have hrk2 := rk_bd (chr s (i - 1).toNat)
    repeat' first
      | (refine hN (_, _) _ [] (by decide) rfl ⟨?_, ?_, ?_⟩ ?_ <;> (try dsimp only))
      | ((first
     | refine q0 hE ?_
     | refine B0 hE ?_|refine B1 hE (fun _=>?_) fun _=>?_|refine B3 hE fun _ _ _=>?_|refine B2 hE fun _ _=>?_|refine B4 hE fun _ _ _ _=>?_) <;> (try conv => cbv))
    all_goals (try clear hN)
    all_goals first
      | omega
      | (refine hinv.succ (colC_of (b := chr s (i - 1).toNat) h0.1 ha (by omega) ?_) (by assumption); rcases hla with hla | hla; exact .inl (by omega); exact .inr ⟨rfl, by omega⟩)
      | (right; rename_i hi1; rw [hi1, show (i + 1 - 1).toNat = i.toNat by omega, ← ha]; omega)
      | (refine finB hK (bP_false.2 fun h => ?_); have h1 := h.1 i.toNat (by omega); unfold ColC at h1; rw [← ha] at h1; rcases hla with hla | hla; omega; (have h2 := h1.2 (by omega)); rw [show i.toNat - 1 = (i - 1).toNat by omega] at h2; omega)
      | trace_state
  · skip
    repeat' first
      | ((first
     | refine q0 hE ?_
     | refine callP hE (within_ _ _ _) (fun _ => ?_) (fun _ => ?_)
     | refine B0 hE ?_|refine B1 hE (fun _=>?_) fun _=>?_|refine B3 hE fun _ _ _=>?_|refine B2 hE fun _ _=>?_|refine B4 hE fun _ _ _ _=>?_) <;> (try conv => cbv))
    all_goals (try clear hN)
    all_goals first
      | (refine finB hK (bP_true.2 ⟨hinv.all (by omega), by omega, by omega⟩))
      | (refine finB hK (bP_false.2 fun h => ?_); have := h.2; omega)
      | trace_state
theorem nil_len {l : List Int} {n : Int} (hn : n = l.length) : n = 0 ↔ l = [] := ⟨fun h => List.eq_nil_of_length_eq_zero (by omega), fun h => by rw [h] at hn; simpa using hn⟩
theorem one_len {l : List Int} {n v : Int} (hn : n = l.length) (h1 : n = 1) (hv : l[(0 : Int).toNat]? = some v) : l = [v] := by
  match l, hv, hn with
  | [a], hv, _ => simp at hv; rw [hv]
  | [], _, hn => simp at hn; omega
  | _ :: _ :: _, _, hn => simp at hn; omega
theorem tL_ne : tL ≠ noS := by
  intro h
  have := congrArg ByteArray.size h
  exact absurd this (by decide)
theorem grp_nil : GrpOk [] := ⟨by simp, by simp, by simp, by simp⟩
theorem grp_one {x : Int} (h : 2 ≤ x ∧ x ≤ 9) : GrpOk [x] := by
  refine ⟨fun y hy => ?_, by simp, ?_, fun h1 => ?_⟩
  · rw [List.mem_singleton] at hy; omega
  · simp only [List.sum_cons, List.sum_nil]; omega
  · simp only [List.cons.injEq] at h1; omega
theorem grp_le1 {l : List Int} (h : GrpOk l) (h1 : l.length ≤ 1) : l = [] ∨ ∃ x, l = [x] ∧ 2 ≤ x ∧ x ≤ 9 := by
  cases l with
  | nil => exact .inl rfl
  | cons x m =>
    cases m with
    | nil =>
      refine .inr ⟨x, rfl, ?_⟩
      have h2 := h.1 x (List.mem_cons_self ..)
      have h3 := h.2.2.2
      by_cases e : x = 1
      · subst e; exact absurd rfl h3
      · omega
    | cons y m => simp only [List.length_cons] at h1; omega
theorem equalI_ {rs rs' : List (List AV)} {t t' : Bool} {l m : List Int} (hl : rs = l.map intR) (hm : rs' = m.map intR) : AC Tryz.prog 61 [.sl t 1 rs, .sl t' 1 rs'] AV.bool (bP (l = m)) := by
  refine ac Tryz.func61 (by kernel_rfl) (.bool _) fun E K hE hK => ?_
  conv => cbv
  refine lenL hE hl fun n hn hb => ?_
  conv => cbv
  refine lenL hE hm fun n' hn' hb' => ?_
  conv => cbv
  refine eqI hE (fun he => ?_) (fun he => ?_) <;> conv => cbv
  · skip
    repeat' first
      | ((refine loopC hE (ι := Int) [0, 1, 12] [13] (fun q => (fun (i : Int) => [(13, .int .i64 i)]) q) (fun q => (fun (i : Int) => []) q) (fun q => (fun (i : Int) => (l.length - i).toNat) q) (fun q => (fun (i : Int) => 0 ≤ i ∧ Up (fun j => l[j]? = m[j]?) i) q) [] (by decide) (0) (by conv => lhs; cbv) (by conv => lhs; cbv) rfl rfl (by dsimp only; exact ⟨by omega, .zero (by omega)⟩) fun i hi2 Kn2 hN2 => ?_; (try dsimp only at hi2); conv => cbv); obtain ⟨h0, hinv⟩ := hi2)
      | (refine hN2 _ _ [] (by decide) rfl ⟨?_, ?_⟩ ?_ <;> (try dsimp only))
      | ((first
     | refine q0 hE ?_
     | refine idxL (R := intR) hE (by assumption) (by omega) (fun _ _ => ?_)
     | refine B0 hE ?_|refine B1 hE (fun _=>?_) fun _=>?_|refine B3 hE fun _ _ _=>?_|refine B2 hE fun _ _=>?_|refine B4 hE fun _ _ _ _=>?_) <;> (try conv => cbv))
    all_goals first
      | omega
      | (refine hinv.succ ?_ (by assumption); clear hN2; simp_all [pairsP]; done)
      | (refine finB hK (bP_false.2 fun h => ?_); clear hN2; simp_all [pairsP]; done)
      | exact finB hK (bP_true.2 (list_eq_of (by omega) hinv (by omega)))
      | trace_state
  · refine finB hK (bP_false.2 fun h => ?_); subst h; omega
theorem grp_up {l : List Int} {i : Int} (h : Up (fun j => ∀ x, l[j]? = some x → 1 ≤ x ∧ x ≤ 9) i) (hi : (l.length : Int) ≤ i) : ∀ x ∈ l, 1 ≤ x ∧ x ≤ 9 := fun x hx => by
  obtain ⟨j, hj⟩ := List.getElem?_of_mem hx
  exact h j (by have := (List.getElem?_eq_some_iff.1 hj).1; omega) x hj
theorem isGroup_ {rs : List (List AV)} {t : Bool} {l : List Int} (hl : rs = l.map intR) : AC Tryz.prog 239 [.sl t 1 rs] AV.bool (bP (GrpOk l)) := by
  refine ac Tryz.func239 (by kernel_rfl) (.bool _) fun E K hE hK => ?_
  conv => cbv
  refine lenL hE hl fun n hn hb => ?_
  conv => cbv
  refine loopC hE (ι := Int × Int) [0, 6, 7] [8, 3] (fun q => (fun (i : Int) (total : Int) => [(8, .int .i64 i), (3, .int .i64 total)]) q.1 q.2) (fun q => (fun (i : Int) (total : Int) => []) q.1 q.2) (fun q => (fun (i : Int) (total : Int) => (n - i).toNat) q.1 q.2) (fun q => (fun (i : Int) (total : Int) => (0 ≤ i ∧ i ≤ l.length) ∧ Up (fun j => ∀ x, l[j]? = some x → 1 ≤ x ∧ x ≤ 9) i ∧ (l.length ≤ 4 → total = sumI l i ∧ 0 ≤ total ∧ total ≤ 9 * i)) q.1 q.2) [] (by decide) ((0, 0)) (by conv => lhs; cbv) (by conv => lhs; cbv) rfl rfl (by dsimp only; exact ⟨by omega, .zero (by omega), fun _ => by rw [sumI_zero (by omega)]; omega⟩) fun q hi Kn hN => ?_
  obtain ⟨i, total⟩ := q
  (try dsimp only at hi)
  conv => cbv
  obtain ⟨h0, hinv, htot⟩ := hi
  repeat' first
    | (refine idxL (R := intR) hE hl (by omega) (fun v hv => ?_); have hsum := sumI_succ h0.1 hv; (try conv => cbv))
    | (refine addI hE (fun tot2 htot2 => ?_); (try conv => cbv); refine add64 hE (by omega) (fun i1 hi1 => ?_); (try conv => cbv))
    | (refine hN (_, _) _ [] (by decide) rfl ⟨?_, ?_, ?_⟩ ?_ <;> (try dsimp only))
    | ((first
   | refine q0 hE ?_
   | refine callP hE (within_ _ _ _) (fun _ => ?_) (fun _ => ?_)
   | refine callP hE (few_ _ _) (fun _ => ?_) (fun _ => ?_)
   | refine callP hE (equalI_ (m := [1]) hl (by rfl)) (fun _ => ?_) (fun _ => ?_)
   | refine B0 hE ?_|refine B1 hE (fun _=>?_) fun _=>?_|refine B3 hE fun _ _ _=>?_|refine B2 hE fun _ _=>?_|refine B4 hE fun _ _ _ _=>?_) <;> (try conv => cbv))
  all_goals (try clear hN)
  all_goals first
    | omega
    | (refine hinv.succ (fun x hx => ?_) (by assumption); rw [hv] at hx; cases hx; assumption)
    | (intro h4; obtain ⟨g1, g2⟩ := htot h4; rw [IntWalk.i64_in _ ⟨by omega, by omega⟩] at htot2; rw [hi1, hsum]; omega)
    | (refine finB hK (bP_false.2 fun h => ?_); have := h.1 _ (List.mem_of_getElem? hv); contradiction)
    | (have hall := grp_up hinv (by omega); first
        | (refine finB hK (bP_true.2 ⟨hall, by omega, ?_, by assumption⟩); have h2 := htot (by omega); have h3 := sumI_all (l := l) (i := i) (by omega); omega)
        | (refine finB hK (bP_false.2 fun h => ?_); exact h.2.2.2 (by assumption))
        | (refine finB hK (bP_false.2 fun h => ?_); have h1 := h.2.1; have h4 := h.2.2.1; have h2 := htot (by omega); have h3 := sumI_all (l := l) (i := i) (by omega); omega))
    | trace_state
theorem l05Sum_ {rs : List (List AV)} {t : Bool} {l : List Int} (hl : rs = l.map intR) (hg : ∀ x ∈ l, 1 ≤ x ∧ x ≤ 9) (h4 : l.length ≤ 4) : AC Tryz.prog 232 [.sl t 1 rs] (AV.int .i64) (if l = [] then 1 else l.sum) := by
  refine ac Tryz.func232 (by kernel_rfl) (.int _ _) fun E K hE hK => ?_
  conv => cbv
  refine lenL hE hl fun n hn hb => ?_
  conv => cbv
  refine eqI hE (fun he => ?_) (fun he => ?_) <;> conv => cbv
  · exact hK _ (by rw [if_pos (List.eq_nil_of_length_eq_zero (by omega))]; rfl)
  · have hne : l ≠ [] := by rintro rfl; simp at hn; omega
    refine loopC hE (ι := Int × Int) [0] [4, 3] (fun q => (fun (i : Int) (s : Int) => [(4, .int .i64 i), (3, .int .i64 s)]) q.1 q.2) (fun q => (fun (i : Int) (s : Int) => []) q.1 q.2) (fun q => (fun (i : Int) (s : Int) => (l.length - i).toNat) q.1 q.2) (fun q => (fun (i : Int) (s : Int) => (0 ≤ i ∧ i ≤ l.length) ∧ s = sumI l i ∧ 0 ≤ s ∧ s ≤ 9 * i) q.1 q.2) [] (by decide) ((0, 0)) (by conv => lhs; cbv) (by conv => lhs; cbv) rfl rfl (by dsimp only; exact ⟨by omega, by rw [sumI_zero (by omega)], by omega⟩) fun q hi Kn hN => ?_
    obtain ⟨i, s⟩ := q
    (try dsimp only at hi)
    conv => cbv
    obtain ⟨h0, hs, hs2⟩ := hi
    repeat' first
      | (refine idxL (R := intR) hE hl (by omega) (fun v hv => ?_); have hsum := sumI_succ h0.1 hv; have hv2 := hg v (List.mem_of_getElem? hv); (try conv => cbv))
      | (refine hN (_, _) _ [] (by decide) rfl ⟨?_, ?_, ?_⟩ ?_ <;> (try dsimp only))
      | ((first
     | refine q0 hE ?_
     | refine B0 hE ?_|refine B1 hE (fun _=>?_) fun _=>?_|refine B3 hE fun _ _ _=>?_|refine B2 hE fun _ _=>?_|refine B4 hE fun _ _ _ _=>?_) <;> (try conv => cbv))
    all_goals (try clear hN)
    all_goals first
      | omega
      | (rename_i hi1; rw [hi1, hsum]; omega)
      | (refine hK _ ?_; rw [if_neg hne, ← sumI_all (l := l) (i := i) (by omega), hs]; rfl)
      | trace_state
theorem l05Group_ {rs : List (List AV)} {t : Bool} {l : List Int} (hl : rs = l.map intR) : AC Tryz.prog 195 [.sl t 1 rs] AV.bool (bP (GrpOk l)) := by
  refine ac Tryz.func195 (by kernel_rfl) (.bool _) fun E K hE hK => ?_
  conv => cbv
  refine loopC hE (ι := Int) [0] [3] (fun q => (fun (i : Int) => [(3, .int .i64 i)]) q) (fun q => (fun (i : Int) => []) q) (fun q => (fun (i : Int) => (l.length - i).toNat) q) (fun q => (fun (i : Int) => (0 ≤ i ∧ i ≤ l.length) ∧ Up (fun j => ∀ x, l[j]? = some x → 1 ≤ x ∧ x ≤ 9) i) q) [] (by decide) (0) (by conv => lhs; cbv) (by conv => lhs; cbv) rfl rfl (by dsimp only; exact ⟨by omega, .zero (by omega)⟩) fun i hi Kn hN => ?_
  (try dsimp only at hi)
  conv => cbv
  obtain ⟨h0, hinv⟩ := hi
  refine lenL hE hl fun n hn hb => ?_
  conv => cbv
  refine ltI hE (fun hlt => ?_) (fun hge => ?_) <;> conv => cbv
  · skip
    repeat' first
      | (refine idxL (R := intR) hE hl (by omega) (fun v hv => ?_); (try conv => cbv))
      | (refine hN _ _ [] (by decide) rfl ⟨?_, ?_⟩ ?_ <;> (try dsimp only))
      | ((first
     | refine q0 hE ?_
     | refine callP hE (in_ _ _ _) (fun _ => ?_) (fun _ => ?_)
     | refine B0 hE ?_|refine B1 hE (fun _=>?_) fun _=>?_|refine B3 hE fun _ _ _=>?_|refine B2 hE fun _ _=>?_|refine B4 hE fun _ _ _ _=>?_) <;> (try conv => cbv))
    all_goals (try clear hN)
    all_goals first
      | omega
      | (refine hinv.succ (fun x hx => ?_) (by assumption); rw [hv] at hx; cases hx; assumption)
      | (refine finB hK (bP_false.2 fun h => ?_); have := h.1 _ (List.mem_of_getElem? hv); contradiction)
      | trace_state
  · have hall := grp_up hinv (by omega)
    repeat' first
      | (refine idxL (R := intR) hE hl (by omega) (fun v hv => ?_); (try conv => cbv))
      | (refine callI hE (l05Sum_ hl hall (by omega)) (fun s hs => ?_); (try conv => cbv))
      | ((first
     | refine q0 hE ?_
     | refine B0 hE ?_|refine B1 hE (fun _=>?_) fun _=>?_|refine B3 hE fun _ _ _=>?_|refine B2 hE fun _ _=>?_|refine B4 hE fun _ _ _ _=>?_) <;> (try conv => cbv))
    all_goals (try clear hN)
    all_goals first
      | (have hsum : l.sum ≤ 12 := (by
           by_cases h : l = []
           · subst h; simp
           · rw [if_neg h] at hs; omega)
         refine finB hK (bP_true.2 ⟨hall, by omega, hsum, fun h1 => ?_⟩)
         have h2 := congrArg List.length h1
         simp only [List.length_cons, List.length_nil] at h2
         first | omega | (rw [h1] at hv; simp at hv; omega))
      | (refine finB hK (bP_false.2 fun h => ?_); have := h.2.1; omega)
      | (refine finB hK (bP_false.2 fun h => h.2.2.2 ?_); rw [one_len (n := (l.length : Int)) rfl (by omega) hv]; subst_vars; rfl)
      | (refine finB hK (bP_false.2 fun h => ?_); have h3 := h.2.2.1; split at hs <;> omega)
      | trace_state
theorem str1_lt {s : ByteArray} (h : s.size = 1) (c : UInt8) : (strLt s ⟨#[c]⟩ ↔ chr s 0 < c.toNat) ∧ (strLt ⟨#[c]⟩ s ↔ (c.toNat : Int) < chr s 0) := by
  have e := size1 h
  have hc : chr s 0 = ((s.data.getD 0 0).toNat : Int) := rfl
  generalize s.data.getD 0 0 = b at e hc
  subst e
  rw [hc]
  have t : ∀ x : UInt8, (⟨#[x]⟩ : ByteArray).toList = [x] := fun x => by rw [bytes_toList]
  unfold strLt
  rw [t, t]
  simp only [Op.bytesLess, Bool.or_eq_true, decide_eq_true_iff, Bool.and_eq_true, Bool.false_eq_true, and_false, or_false, UInt8.lt_iff_toNat_lt]
  omega
theorem codes_get {t : ByteArray} (h : LetOk t) {i : Int} {v : ByteArray} (hi : i = chr t 0 - 65) (hv : codes[i.toNat]? = some v) : v = sgnT t := sgnT_get hi hv
theorem signsOf_ (s : ByteArray) : AC Tryz.prog 141 [.str s] AV.str (if LetOk s then sgnT s else noS) := by
  refine ac Tryz.func141 (by kernel_rfl) (.str _) fun E K hE hK => ?_
  conv => cbv
  have h26 := codes_len
  refine slenI hE fun n hn hb => ?_
  conv => cbv
  refine eqI hE (fun h1 => ?_) (fun h1 => ?_) <;> conv => cbv
  · have hs1 : s.size = 1 := by omega
    have hA := (str1_lt hs1 65).1
    have hZ := (str1_lt hs1 90).2
    have e65 : (65 : UInt8).toNat = 65 := rfl
    have e90 : (90 : UInt8).toNat = 90 := rfl
    rw [e65] at hA
    rw [e90] at hZ
    refine sltP hE (fun hlt => ?_) (fun hlt => ?_) <;> conv => cbv
    · exact hK _ (by rw [if_neg (fun h => by have h2 := hA.1 hlt; have h3 := h.2; omega)]; rfl)
    · refine sltP hE (fun hgt => ?_) (fun hgt => ?_) <;> conv => cbv
      · exact hK _ (by rw [if_neg (fun h => by have h2 := hZ.1 hgt; have h3 := h.2; omega)]; rfl)
      · have hok : LetOk s := ⟨hs1, by have := mt hA.2 hlt; omega, by have := mt hZ.2 hgt; omega⟩
        have hok2 := hok.2
        refine sidxI hE (by omega) fun a ha ha1 ha2 => ?_
        replace ha : a = chr s 0 := ha
        conv => cbv
        refine subI hE fun b hb2 => ?_
        rw [IntWalk.u8_in _ ⟨by omega, by omega⟩] at hb2
        conv => cbv
        refine idxL (R := strR) (l := codes) hE (by rfl) (by omega) fun v hv => ?_
        conv => cbv
        exact hK _ (by rw [if_pos hok, ← codes_get hok (by omega) hv]; rfl)
  · exact hK _ (by rw [if_neg (fun h => by have := h.1; omega)]; rfl)
theorem rhythm_ (k : Int) (h : k = 2 ∨ k = 4 ∨ k = 5 ∨ k = 6 ∨ k = 7 ∨ k = 8) : AC Tryz.prog 96 [.int .i64 k] three (flashR k, gapR k, restR k) := by
  refine ac Tryz.func96 (by kernel_rfl) (.three _) fun E K hE hK => ?_
  conv => cbv
  repeat' first
    | ((first
   | refine q0 hE ?_
   | refine B0 hE ?_|refine B1 hE (fun _=>?_) fun _=>?_|refine B3 hE fun _ _ _=>?_|refine B2 hE fun _ _=>?_|refine B4 hE fun _ _ _ _=>?_) <;> (try conv => cbv))
  all_goals first
    | omega
    | (exact hK _ (by subst_vars; rfl))
    | (have e : k = 8 := by omega
       subst e; exact hK _ rfl)
    | trace_state
theorem isQuick_ (k : Int) : AC Tryz.prog 140 [.int .i64 k] AV.bool (bP (k = 6 ∨ k = 7)) := by
  refine ac Tryz.func140 (by kernel_rfl) (.bool _) fun E K hE hK => ?_
  conv => cbv
  repeat' first
    | ((first
   | refine q0 hE ?_
   | refine B0 hE ?_|refine B1 hE (fun _=>?_) fun _=>?_|refine B3 hE fun _ _ _=>?_|refine B2 hE fun _ _=>?_|refine B4 hE fun _ _ _ _=>?_) <;> (try conv => cbv))
  all_goals (try clear hN)
  all_goals first
    | (omega)
    | (refine finB hK (bP_true.2 ?_); first | omega | grind)
    | (refine finB hK (bP_false.2 ?_); first | omega | (intro h; grind))
    | (refine ⟨by omega, Up.succ (by assumption) ?_ (by assumption)⟩; grind)
    | (refine hK _ ?_; simp_all [atup]; done)
    | (grind)
theorem l05Flash_ (k : Int) : AC Tryz.prog 158 [.int .i64 k] (AV.int .i64) (flashR k) := by
  refine ac Tryz.func158 (by kernel_rfl) (.int _ _) fun E K hE hK => ?_
  conv => cbv
  repeat' first
    | ((first
   | refine q0 hE ?_
   | refine B0 hE ?_|refine B1 hE (fun _=>?_) fun _=>?_|refine B3 hE fun _ _ _=>?_|refine B2 hE fun _ _=>?_|refine B4 hE fun _ _ _ _=>?_) <;> (try conv => cbv))
  all_goals (refine hK _ ?_; show AV.int _ _ = AV.int _ _; congr 1; unfold flashR; repeat' split <;> omega)
theorem l05Gap_ (k : Int) : AC Tryz.prog 114 [.int .i64 k] (AV.int .i64) (gapR k) := by
  refine ac Tryz.func114 (by kernel_rfl) (.int _ _) fun E K hE hK => ?_
  conv => cbv
  repeat' first
    | ((first
   | refine q0 hE ?_
   | refine B0 hE ?_|refine B1 hE (fun _=>?_) fun _=>?_|refine B3 hE fun _ _ _=>?_|refine B2 hE fun _ _=>?_|refine B4 hE fun _ _ _ _=>?_) <;> (try conv => cbv))
  all_goals (refine hK _ ?_; show AV.int _ _ = AV.int _ _; congr 1; unfold gapR; repeat' split <;> omega)
theorem l05Kind_ (k : Int) : AC Tryz.prog 193 [.int .i64 k] AV.bool (bP (1 ≤ k ∧ k ≤ 8)) := by
  refine ac Tryz.func193 (by kernel_rfl) (.bool _) fun E K hE hK => ?_
  conv => cbv
  repeat' first
    | ((first
   | refine q0 hE ?_
   | refine callP hE (in_ _ _ _) (fun _ => ?_) (fun _ => ?_)
   | refine B0 hE ?_|refine B1 hE (fun _=>?_) fun _=>?_|refine B3 hE fun _ _ _=>?_|refine B2 hE fun _ _=>?_|refine B4 hE fun _ _ _ _=>?_) <;> (try conv => cbv))
  all_goals (try clear hN)
  all_goals first
    | (omega)
    | (refine finB hK (bP_true.2 ?_); first | omega | grind)
    | (refine finB hK (bP_false.2 ?_); first | omega | (intro h; grind))
    | (refine ⟨by omega, Up.succ (by assumption) ?_ (by assumption)⟩; grind)
    | (refine hK _ ?_; simp_all [atup]; done)
    | (grind)
theorem sumOf_ {rs : List (List AV)} {t : Bool} {l : List Int} (hl : rs = l.map intR) (hg : ∀ x ∈ l, 0 ≤ x ∧ x ≤ 100) (h4 : l.length ≤ 1000000) : AC Tryz.prog 99 [.sl t 1 rs] (AV.int .i64) l.sum := by
  refine ac Tryz.func99 (by kernel_rfl) (.int _ _) fun E K hE hK => ?_
  conv => cbv
  have hbd := sumI_bd hg
  refine lenL hE hl fun n hn hb => ?_
  conv => cbv
  refine loopC hE (ι := Int × Int) [6, 7] [8, 3] (fun q => (fun (i : Int) (s : Int) => [(8, .int .i64 i), (3, .int .i64 s)]) q.1 q.2) (fun q => (fun (i : Int) (s : Int) => []) q.1 q.2) (fun q => (fun (i : Int) (s : Int) => (l.length - i).toNat) q.1 q.2) (fun q => (fun (i : Int) (s : Int) => (0 ≤ i ∧ i ≤ l.length) ∧ s = sumI l i) q.1 q.2) [] (by decide) ((0, 0)) (by conv => lhs; cbv) (by conv => lhs; cbv) rfl rfl (by dsimp only; exact ⟨by omega, by rw [sumI_zero (by omega)]⟩) fun q hi Kn hN => ?_
  obtain ⟨i, s⟩ := q
  (try dsimp only at hi)
  conv => cbv
  obtain ⟨h0, hs⟩ := hi
  have hb1 := hbd i
  repeat' first
    | (refine idxL (R := intR) hE hl (by omega) (fun v hv => ?_); have hsum := sumI_succ h0.1 hv; have hb2 := hbd (i + 1); (try conv => cbv))
    | (refine hN (_, _) _ [] (by decide) rfl ⟨?_, ?_⟩ ?_ <;> (try dsimp only))
    | ((first
   | refine q0 hE ?_
   | refine B0 hE ?_|refine B1 hE (fun _=>?_) fun _=>?_|refine B3 hE fun _ _ _=>?_|refine B2 hE fun _ _=>?_|refine B4 hE fun _ _ _ _=>?_) <;> (try conv => cbv))
  all_goals (try clear hN)
  all_goals first
    | omega
    | (rename_i hi1; rw [hi1, hsum]; omega)
    | (refine hK _ ?_; rw [← sumI_all (l := l) (i := i) (by omega), hs]; rfl)
    | trace_state
theorem l05Total_ {rs : List (List AV)} {t : Bool} {l : List Int} (hl : rs = l.map intR) (hg : ∀ x ∈ l, 0 ≤ x ∧ x ≤ 100) (h4 : l.length ≤ 1000000) : AC Tryz.prog 112 [.sl t 1 rs] (AV.int .i64) l.sum := by
  refine ac Tryz.func112 (by kernel_rfl) (.int _ _) fun E K hE hK => ?_
  conv => cbv
  have hbd := sumI_bd hg
  refine loopC hE (ι := Int × Int) [0] [4, 3] (fun q => (fun (i : Int) (s : Int) => [(4, .int .i64 i), (3, .int .i64 s)]) q.1 q.2) (fun q => (fun (i : Int) (s : Int) => []) q.1 q.2) (fun q => (fun (i : Int) (s : Int) => (l.length - i).toNat) q.1 q.2) (fun q => (fun (i : Int) (s : Int) => (0 ≤ i ∧ i ≤ l.length) ∧ s = sumI l i) q.1 q.2) [] (by decide) ((0, 0)) (by conv => lhs; cbv) (by conv => lhs; cbv) rfl rfl (by dsimp only; exact ⟨by omega, by rw [sumI_zero (by omega)]⟩) fun q hi Kn hN => ?_
  obtain ⟨i, s⟩ := q
  (try dsimp only at hi)
  conv => cbv
  obtain ⟨h0, hs⟩ := hi
  have hb1 := hbd i
  repeat' first
    | (refine idxL (R := intR) hE hl (by omega) (fun v hv => ?_); have hsum := sumI_succ h0.1 hv; have hb2 := hbd (i + 1); (try conv => cbv))
    | (refine hN (_, _) _ [] (by decide) rfl ⟨?_, ?_⟩ ?_ <;> (try dsimp only))
    | ((first
   | refine q0 hE ?_
   | refine B0 hE ?_|refine B1 hE (fun _=>?_) fun _=>?_|refine B3 hE fun _ _ _=>?_|refine B2 hE fun _ _=>?_|refine B4 hE fun _ _ _ _=>?_) <;> (try conv => cbv))
  all_goals (try clear hN)
  all_goals first
    | omega
    | (rename_i hi1; rw [hi1, hsum]; omega)
    | (refine hK _ ?_; rw [← sumI_all (l := l) (i := i) (by omega), hs]; rfl)
    | trace_state
theorem isSteady_ (k p : Int) (le co : ByteArray) {rs : List (List AV)} {t : Bool} {l : List Int} (hl : rs = l.map intR) : AC Tryz.prog 97 [.agg [.int .i64 k, .sl t 1 rs, .str le, .str co, .int .i64 p]] AV.bool (bP (Steady k l)) := by
  refine ac Tryz.func97 (by kernel_rfl) (.bool _) fun E K hE hK => ?_
  conv => cbv
  repeat' first
    | ((first
   | refine q0 hE ?_
   | refine callP hE (isQuick_ _) (fun _ => ?_) (fun _ => ?_)
   | refine B0 hE ?_|refine B1 hE (fun _=>?_) fun _=>?_|refine B3 hE fun _ _ _=>?_|refine B2 hE fun _ _=>?_|refine B4 hE fun _ _ _ _=>?_) <;> (try conv => cbv))
  all_goals (have hz : l = [] ↔ l.length = 0 := ⟨fun h => by rw [h]; rfl, List.eq_nil_of_length_eq_zero⟩)
  all_goals first
    | (refine finB hK (bP_true.2 ?_); unfold Steady; rw [hz]; omega)
    | (refine finB hK (bP_false.2 ?_); unfold Steady; rw [hz]; omega)
    | trace_state
theorem l05Steady_ (k p : Int) (le co : ByteArray) {rs : List (List AV)} {t : Bool} {l : List Int} (hl : rs = l.map intR) : AC Tryz.prog 113 [.pp [.int .i64 k, .sl t 1 rs, .str le, .str co, .int .i64 p]] AV.bool (bP (Steady k l)) := by
  refine ac Tryz.func113 (by kernel_rfl) (.bool _) fun E K hE hK => ?_
  conv => cbv
  repeat' first
    | ((first
   | refine q0 hE ?_
   | refine B0 hE ?_|refine B1 hE (fun _=>?_) fun _=>?_|refine B3 hE fun _ _ _=>?_|refine B2 hE fun _ _=>?_|refine B4 hE fun _ _ _ _=>?_) <;> (try conv => cbv))
  all_goals (have hz : l = [] ↔ l.length = 0 := ⟨fun h => by rw [h]; rfl, List.eq_nil_of_length_eq_zero⟩)
  all_goals first
    | (refine finB hK (bP_true.2 ?_); unfold Steady; rw [hz]; omega)
    | (refine finB hK (bP_false.2 ?_); unfold Steady; rw [hz]; omega)
    | trace_state
set_option maxHeartbeats 4000000
theorem fits_ (k p : Int) (le co : ByteArray) {rs : List (List AV)} {t : Bool} {l : List Int} (hl : rs = l.map intR) : AC Tryz.prog 214 [.agg [.int .i64 k, .sl t 1 rs, .str le, .str co, .int .i64 p]] AV.bool (bP (ShapeOk k l le)) := by
  refine ac Tryz.func214 (by kernel_rfl) (.bool _) fun E K hE hK => ?_
  conv => cbv
  repeat' first
    | (refine callI hE (signsOf_ le) (fun y hy => ?_); (try conv => cbv))
    | (refine lenL hE hl (fun n hn hb => ?_); (have hnl := nil_len hn); (try conv => cbv))
    | (refine idxL (R := intR) hE hl (by omega) (fun v hv => ?_); (have hv1 := one_len (by assumption) (by omega) hv); (try conv => cbv))
    | ((first
   | refine q0 hE ?_
   | refine callP hE (isGroup_ hl) (fun _ => ?_) (fun _ => ?_)
   | refine callP hE (within_ _ _ _) (fun _ => ?_) (fun _ => ?_)
   | refine callP hE (equalI_ (m := [6]) hl (by rfl)) (fun _ => ?_) (fun _ => ?_)
   | refine B0 hE ?_|refine B1 hE (fun _=>?_) fun _=>?_|refine B3 hE fun _ _ _=>?_|refine B2 hE fun _ _=>?_|refine B4 hE fun _ _ _ _=>?_) <;> (try conv => cbv))
  all_goals first
    | (refine finB hK (bP_true.2 ?_); unfold ShapeOk; first
        | exact .inl ⟨by omega, hnl.1 (by assumption), by assumption⟩
        | exact .inr (.inl ⟨by omega, by assumption, by assumption⟩)
        | exact .inr (.inr (.inl ⟨by omega, .inl ⟨by assumption, .inl (hnl.1 (by assumption))⟩⟩))
        | exact .inr (.inr (.inl ⟨by omega, .inl ⟨by assumption, .inr ⟨v, hv1, by omega⟩⟩⟩))
        | exact .inr (.inr (.inl ⟨by omega, .inr ⟨by assumption, by assumption⟩⟩))
        | exact .inr (.inr (.inr ⟨by omega, by (split at hy; assumption; contradiction), hnl.1 (by assumption)⟩)))
    | (refine finB hK (bP_false.2 fun h => ?_); rcases h with ⟨g1, g2, g3⟩ | ⟨g1, g2, g3⟩ | ⟨g1, ⟨g2, g3 | ⟨x, g3, g4⟩⟩ | ⟨g2, g3⟩⟩ | ⟨g1, g2, g3⟩ <;> first
        | omega
        | contradiction
        | exact absurd (hnl.2 g2) (by assumption)
        | exact absurd (hnl.2 g3) (by assumption)
        | (have := hnl.2 g3; omega)
        | exact tL_ne (g2.symm.trans (by assumption))
        | exact tL_ne ((show le = tL by assumption).symm.trans g2)
        | (rw [g3] at hv1; cases hv1; omega)
        | (rw [g3] at hn; simp only [List.length_cons, List.length_nil] at hn; omega)
        | (rw [if_pos g2] at hy; exact (codes_ok _ (sgnT_mem g2)).1 (by rw [← hy]; assumption)))
    | trace_state
theorem l05Shape_ (k p : Int) (le co : ByteArray) {rs : List (List AV)} {t : Bool} {l : List Int} (hl : rs = l.map intR) : AC Tryz.prog 145 [.pp [.int .i64 k, .sl t 1 rs, .str le, .str co, .int .i64 p]] AV.bool (bP (ColOk co ∧ ShapeOk k l le)) := by
  refine ac Tryz.func145 (by kernel_rfl) (.bool _) fun E K hE hK => ?_
  conv => cbv
  repeat' first
    | (refine lenL hE hl (fun n hn hb => ?_); (have hnl := nil_len hn); (try conv => cbv))
    | (refine idxL (R := intR) hE hl (by omega) (fun v hv => ?_); (have hv1 := one_len (by assumption) (by omega) hv); (try conv => cbv))
    | (refine sidxI hE (by omega) (fun a ha _ _ => ?_); (replace ha : a = chr le 0 := ha); (try conv => cbv))
    | ((first
   | refine q0 hE ?_
   | refine callP hE (l05Kind_ _) (fun _ => ?_) (fun _ => ?_)
   | refine callP hE (l05Colors_ _) (fun _ => ?_) (fun _ => ?_)
   | refine callP hE (l05Group_ hl) (fun _ => ?_) (fun _ => ?_)
   | refine callP hE (in_ _ _ _) (fun _ => ?_) (fun _ => ?_)
   | refine B0 hE ?_|refine B1 hE (fun _=>?_) fun _=>?_|refine B3 hE fun _ _ _=>?_|refine B2 hE fun _ _=>?_|refine B4 hE fun _ _ _ _=>?_) <;> (try conv => cbv))
  all_goals first
    | (refine finB hK (bP_true.2 ⟨by assumption, ?_⟩); unfold ShapeOk; first
        | exact .inl ⟨by omega, hnl.1 (by assumption), by assumption⟩
        | exact .inr (.inl ⟨by omega, by assumption, by assumption⟩)
        | exact .inr (.inr (.inl ⟨by omega, .inr ⟨by assumption, by rw [hv1, show v = 6 by omega]⟩⟩))
        | exact .inr (.inr (.inl ⟨by omega, .inl ⟨by assumption, grp_le1 (by assumption) (by omega)⟩⟩))
        | exact .inr (.inr (.inr ⟨by omega, ⟨by omega, by omega, by omega⟩, hnl.1 (by assumption)⟩)))
    | (refine finB hK (bP_false.2 fun ⟨h0, h⟩ => ?_); have hkk := h.kind; rcases h with ⟨g1, g2, g3⟩ | ⟨g1, g2, g3⟩ | ⟨g1, ⟨g2, g3 | ⟨x, g3, g4⟩⟩ | ⟨g2, g3⟩⟩ | ⟨g1, g2, g3⟩ <;> first
        | omega
        | contradiction
        | exact absurd (hnl.2 g2) (by assumption)
        | exact absurd (hnl.2 g3) (by assumption)
        | (have := hnl.2 g3; omega)
        | exact tL_ne (g2.symm.trans (by assumption))
        | exact tL_ne ((show le = tL by assumption).symm.trans g2)
        | (have := g2.1; have := g2.2; omega)
        | (rw [g3] at hv1; cases hv1; contradiction)
        | (rw [g3] at hn; simp only [List.length_cons, List.length_nil] at hn; omega)
        | (refine absurd ?_ (show ¬ GrpOk l by assumption); rw [g3]; first | exact grp_nil | exact grp_one g4))
    | trace_state
end Go.Proofs.YtoafgafkmeghlaaGreatDoor
