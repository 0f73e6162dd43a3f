/- Contracts: the times of a character. -/
import Derived.Test.YtoafgafkmeghlaaGreatDoorGcc
namespace Go.Proofs.YtoafgafkmeghlaaGreatDoor
open Go Go.RowKit Classical
set_option maxRecDepth 100000
set_option maxHeartbeats 2000000
set_option linter.unusedVariables false
set_option linter.unusedSimpArgs false
theorem codes_dec {s : ByteArray} (h : s ∈ codes) : ∀ p, p < s.size → ((Utf8.decode s p).1 : Int) = chr s p ∧ (Utf8.decode s p).2 = 1 := by
  have h2 : ∀ s ∈ codes, ∀ p : Fin 4, p.1 < s.size → ((Utf8.decode s p.1).1 : Int) = chr s p.1 ∧ (Utf8.decode s p.1).2 = 1 := by decide +kernel
  exact fun p hp => h2 s h ⟨p, by have := (codes_ok s h).2.1; omega⟩ hp
theorem morL_zero {s : ByteArray} {q n : Nat} {x : Int} (h : q = 0) (hn : n = q + 1) (hx : x = if chr s q = 45 then 15 else 5) : morL s q ++ [x] = morL s n := by
  subst h hn hx; rfl
theorem morL_pos {s : ByteArray} {q n : Nat} {x g : Int} (h : 0 < q) (hg : g = 5) (hn : n = q + 1) (hx : x = if chr s q = 45 then 15 else 5) : (morL s q ++ [g]) ++ [x] = morL s n := by
  subst hn hx hg
  conv => rhs; unfold morL
  rw [if_neg (show ¬ q = 0 by omega), List.append_assoc]
theorem inner_pos {f g : Int} {A : List Int} {b : Bool} {j n : Int} (h : 0 < j) (hn : n = j + 1) : ((A ++ innerL f g b j.toNat) ++ [g]) ++ [f] = A ++ innerL f g b n.toNat := by
  rw [hn, show (j + 1).toNat = j.toNat + 1 by omega]
  conv => rhs; unfold innerL
  rw [if_neg (show ¬ j.toNat = 0 by omega)]
  simp only [List.append_assoc]
theorem inner_gap {f g x : Int} {A : List Int} {i : Int} {j n : Int} (h : j = 0) (hi : 0 < i) (hn : n = j + 1) (hx : x = g + 20) : ((A ++ innerL f g (i.toNat == 0) j.toNat) ++ [x]) ++ [f] = A ++ innerL f g (i.toNat == 0) n.toNat := by
  subst h hn hx
  have e : (i.toNat == 0) = false := by simp; omega
  rw [e]
  show ((A ++ []) ++ [g + 20]) ++ [f] = A ++ ([] ++ ([g + 20] ++ [f]))
  simp
theorem inner_first {f g : Int} {A : List Int} {i : Int} {j n : Int} (h : j = 0) (hi : i = 0) (hn : n = j + 1) : (A ++ innerL f g (i.toNat == 0) j.toNat) ++ [f] = A ++ innerL f g (i.toNat == 0) n.toNat := by
  subst h hi hn
  show (A ++ []) ++ [f] = A ++ ([] ++ ([] ++ [f]))
  simp
theorem inner_zero {f g : Int} {A : List Int} {b : Bool} : A = A ++ innerL f g b (0 : Int).toNat := by
  show A = A ++ []
  simp
theorem outer_step {f g v : Int} {l : List Int} {i n j : Int} (h0 : 0 ≤ i) (hv : l[i.toNat]? = some v) (hj : j = v) (hn : n = i + 1) : outerL f g l i.toNat ++ innerL f g (i.toNat == 0) j.toNat = outerL f g l n.toNat := by
  subst hj
  rw [hn, show (i + 1).toNat = i.toNat + 1 by omega]
  conv => rhs; unfold outerL
  rw [List.getD_eq_getElem?_getD, hv]; rfl
theorem outIn_len {f g : Int} {l : List Int} (h : ∀ x ∈ l, 1 ≤ x ∧ x ≤ 9) {i j : Nat} (b : Bool) (hi : i ≤ 4) (hj : j ≤ 9) : (outerL f g l i ++ innerL f g b j).length ≤ 90 := by
  have h1 := outerL_len (f := f) (g := g) h i
  have h2 := innerL_len f g b j
  rw [List.length_append]; omega
/- Morse -/
theorem timesM_ (p : Int) (le co : ByteArray) (hle : LetOk le) {rs : List (List AV)} {t : Bool} : AC Tryz.prog 98 [.agg [.int .i64 8, .sl t 1 rs, .str le, .str co, .int .i64 p]] (fun l : List Int => .sl true 1 (l.map intR)) (timesR 8 [] le) := by
  refine ac Tryz.func98 (by kernel_rfl) (.ints _) fun E K hE hK => ?_
  conv => cbv
  refine callIII hE (rhythm_ 8 (by omega)) fun f g r hf hg hr => ?_
  replace hf : f = 5 := hf
  replace hg : g = 5 := hg
  conv => cbv
  refine eqT hE rfl ?_
  conv => cbv
  refine callI hE (signsOf_ le) fun s hs => ?_
  rw [if_pos hle] at hs
  have hmem := sgnT_mem hle
  rw [← hs] at hmem
  have hok := codes_ok s hmem
  conv => cbv
  refine loopC hE (ι := Nat × (List (List AV))) [3, 4, 28] [6] (fun q => (fun (q : Nat) (es : List (List AV)) => [(6, .ob 1)]) q.1 q.2) (fun q => (fun (q : Nat) (es : List (List AV)) => [.box [.int .i64 8, .sl t 1 rs, .str le, .str co, .int .i64 p], .row 1 es, .iter s q]) q.1 q.2) (fun q => (fun (q : Nat) (es : List (List AV)) => (((s.size : Int) - q)).toNat) q.1 q.2) (fun q => (fun (q : Nat) (es : List (List AV)) => q ≤ s.size ∧ es = (morL s q).map intR) q.1 q.2) [0, 1, 2] (by decide) ((0, [])) (by conv => lhs; cbv) (by conv => lhs; cbv) rfl rfl (by dsimp only; exact ⟨by omega, rfl⟩) fun q hi Kn hN => ?_
  obtain ⟨q, es⟩ := q
  (try dsimp only at hi)
  conv => cbv
  obtain ⟨h0, hinv⟩ := hi
  have hlen := morL_len s q
  refine nxtI hE (chr s) (codes_dec hmem) (fun q' r' n hq hq' hr' hn => ?_) (fun hq => ?_) <;> conv => cbv
  · have hch := hok.2.2 q hq
    repeat' first
      | (refine mul64 hE (by omega) (fun m hm => ?_); (try conv => cbv))
      | (refine hN (_, _) _ [0, 6, 2] (by decide) rfl ⟨?_, ?_⟩ ?_ <;> (try dsimp only))
      | (refine hN (_, _) _ [0, 4, 2] (by decide) rfl ⟨?_, ?_⟩ ?_ <;> (try dsimp only))
      | ((first
     | refine q0 hE ?_
     | refine catP (R := intR) hE (by assumption) (by rfl) (by (first | omega | (rw [List.length_append]; simp only [List.length_cons, List.length_nil]; omega))) (fun _ _ => ?_)
     | refine B0 hE ?_|refine B1 hE (fun _=>?_) fun _=>?_|refine B3 hE fun _ _ _=>?_|refine B2 hE fun _ _=>?_|refine B4 hE fun _ _ _ _=>?_) <;> (try conv => cbv))
    all_goals (try clear hN)
    all_goals first
      | omega
      | (subst_vars; refine congrArg (List.map intR) (morL_pos (by omega) rfl rfl ?_); ((first | rw [if_pos (by omega)] | rw [if_neg (by omega)]) <;> omega))
      | (subst_vars; refine congrArg (List.map intR) (morL_zero (by omega) rfl ?_); ((first | rw [if_pos (by omega)] | rw [if_neg (by omega)]) <;> omega))
      | trace_state
  · refine hK _ ?_
    rw [hinv, show q = s.size by omega]
    unfold timesR
    rw [if_pos rfl, ← hs]; rfl
/- flashes -/
theorem timesN_ (k p : Int) (le co : ByteArray) {rs : List (List AV)} {t : Bool} {l : List Int} (hl : rs = l.map intR) (hs : ShapeOk k l le) (hk : k = 2 ∨ k = 4 ∨ k = 5 ∨ k = 6 ∨ k = 7) (hne : l ≠ []) : AC Tryz.prog 98 [.agg [.int .i64 k, .sl t 1 rs, .str le, .str co, .int .i64 p]] (fun l : List Int => .sl true 1 (l.map intR)) (timesR k l le) := by
  refine ac Tryz.func98 (by kernel_rfl) (.ints _) fun E K hE hK => ?_
  conv => cbv
  have hgb := grpOr_bd hs.grp
  have hor : grpOr l = l := by unfold grpOr; rw [if_neg hne]
  rw [hor] at hgb
  have hfb := flashR_bd k
  have hgp := gapR_bd k
  refine callIII hE (rhythm_ k (by omega)) fun f g r hf hg hr => ?_
  simp only at hf hg
  rw [← hf] at hfb
  rw [← hg] at hgp
  conv => cbv
  refine eqF hE (by omega) ?_
  conv => cbv
  refine lenL hE hl fun n0 hn0 hb0 => ?_
  have hnl := nil_len hn0
  conv => cbv
  (first | refine eqT hE (hnl.2 hne) ?_ | refine eqF hE (fun h => hne (hnl.1 h)) ?_)
  conv => cbv
  refine lenL (R := intR) (l := l) hE hl fun n hn hb => ?_
  conv => cbv
  refine loopC hE (ι := Int × (List (List AV))) [1, 3, 4, 58, 59] [60, 10] (fun q => (fun (i : Int) (es : List (List AV)) => [(60, .int .i64 i), (10, .ob 1)]) q.1 q.2) (fun q => (fun (i : Int) (es : List (List AV)) => [.box [.int .i64 k, .sl t 1 rs, .str le, .str co, .int .i64 p], .row 1 es]) q.1 q.2) (fun q => (fun (i : Int) (es : List (List AV)) => (n - i).toNat) q.1 q.2) (fun q => (fun (i : Int) (es : List (List AV)) => (0 ≤ i ∧ i ≤ n) ∧ es = (outerL f g l i.toNat).map intR) q.1 q.2) [0, 1] (by decide) ((0, [])) (by conv => lhs; cbv) (by conv => lhs; cbv) rfl rfl (by dsimp only; exact ⟨by omega, rfl⟩) fun q hi Kn hN => ?_
  obtain ⟨i, es⟩ := q
  (try dsimp only at hi)
  conv => cbv
  obtain ⟨h0, hinv⟩ := hi
  refine ltI hE (fun hlt => ?_) (fun hge => ?_) <;> conv => cbv
  · refine idxL (R := intR) (l := l) hE hl (by omega) fun v hv => ?_
    have hv2 := hgb.1 v (List.mem_of_getElem? hv)
    conv => cbv
    repeat' first
      | ((refine loopC hE (ι := Int × (List (List AV))) [1, 3, 4, 11, 58, 59, 60, 65] [66, 10] (fun q => (fun (j : Int) (es2 : List (List AV)) => [(66, .int .i64 j), (10, .ob 1)]) q.1 q.2) (fun q => (fun (j : Int) (es2 : List (List AV)) => [.box [.int .i64 k, .sl t 1 rs, .str le, .str co, .int .i64 p], .row 1 es2]) q.1 q.2) (fun q => (fun (j : Int) (es2 : List (List AV)) => (v - j).toNat) q.1 q.2) (fun q => (fun (j : Int) (es2 : List (List AV)) => (0 ≤ j ∧ j ≤ v) ∧ es2 = (outerL f g l i.toNat ++ innerL f g (i.toNat == 0) j.toNat).map intR) q.1 q.2) [0, 1] (by decide) ((0, es)) (by conv => lhs; cbv) (by conv => lhs; cbv) rfl rfl (by dsimp only; exact ⟨by omega, by rw [hinv]; exact congrArg (List.map intR) inner_zero⟩) fun q hi2 Kn2 hN2 => ?_; obtain ⟨j, es2⟩ := q; (try dsimp only at hi2); conv => cbv); obtain ⟨h1, h2⟩ := hi2; have hln := outIn_len (f := f) (g := g) hgb.1 (i := i.toNat) (j := j.toNat) (i.toNat == 0) (by omega) (by omega))
      | (refine idxV (R := intR) (l := l) hE hl (by omega) hv ?_; (try conv => cbv))
      | (refine hN (_, _) _ [0, 1] (by decide) rfl ⟨?_, ?_⟩ ?_ <;> (try dsimp only))
      | (refine hN2 (_, _) _ [0, 5] (by decide) rfl ⟨?_, ?_⟩ ?_ <;> (try dsimp only))
      | (refine hN2 (_, _) _ [0, 3] (by decide) rfl ⟨?_, ?_⟩ ?_ <;> (try dsimp only))
      | ((first
     | refine q0 hE ?_
     | refine catP (R := intR) hE (by assumption) (by rfl) (by (first | omega | (rw [List.length_append]; simp only [List.length_cons, List.length_nil]; omega))) (fun _ _ => ?_)
     | refine B0 hE ?_|refine B1 hE (fun _=>?_) fun _=>?_|refine B3 hE fun _ _ _=>?_|refine B2 hE fun _ _=>?_|refine B4 hE fun _ _ _ _=>?_) <;> (try conv => cbv))
    all_goals (try clear hN)
    all_goals (try clear hN2)
    all_goals first
      | omega
      | (clear hK hf hg; subst_vars; exact congrArg (List.map intR) (inner_pos (by omega) rfl))
      | (clear hK hf hg; subst_vars; exact congrArg (List.map intR) (inner_gap (by omega) (by omega) rfl rfl))
      | (clear hK hf hg; subst_vars; exact congrArg (List.map intR) (inner_first (by omega) (by omega) rfl))
      | (rw [h2]; exact congrArg (List.map intR) (outer_step h0.1 hv (by omega) (by assumption)))
      | trace_state
  · have hlen := outerL_len (f := f) (g := g) hgb.1 i.toNat
    have hil : i.toNat = (l).length := by omega
    repeat' first
      | ((first
     | refine q0 hE ?_
     | refine catL (R := intR) (m := [_, 20]) hE (by assumption) (by rfl) (by simp only [List.length_cons, List.length_nil]; omega) (fun _ _ => ?_)
     | refine B0 hE ?_|refine B1 hE (fun _=>?_) fun _=>?_|refine B3 hE fun _ _ _=>?_|refine B2 hE fun _ _=>?_|refine B4 hE fun _ _ _ _=>?_) <;> (try conv => cbv))
    all_goals (try clear hN)
    all_goals first
      | (refine hK _ ?_; unfold timesR; rw [if_neg (by omega), if_neg (by assumption), hor, ← hf, ← hg, ← hil]; rename_i e; rw [e]; rfl)
      | (refine hK _ ?_; unfold timesR; rw [if_neg (by omega), if_pos (by assumption), hor, ← hf, ← hg, ← hil, hinv, List.append_nil]; rfl)
      | trace_state
theorem timesE_ (k p : Int) (le co : ByteArray) {rs : List (List AV)} {t : Bool} {l : List Int} (hl : rs = l.map intR) (hs : ShapeOk k l le) (hk : k = 2 ∨ k = 4 ∨ k = 5 ∨ k = 6 ∨ k = 7) (hne : l = []) : AC Tryz.prog 98 [.agg [.int .i64 k, .sl t 1 rs, .str le, .str co, .int .i64 p]] (fun l : List Int => .sl true 1 (l.map intR)) (timesR k l le) := by
  refine ac Tryz.func98 (by kernel_rfl) (.ints _) fun E K hE hK => ?_
  conv => cbv
  have hgb := grpOr_bd hs.grp
  have hor : grpOr l = ([1] : List Int) := by unfold grpOr; rw [if_pos hne]
  rw [hor] at hgb
  have hfb := flashR_bd k
  have hgp := gapR_bd k
  refine callIII hE (rhythm_ k (by omega)) fun f g r hf hg hr => ?_
  simp only at hf hg
  rw [← hf] at hfb
  rw [← hg] at hgp
  conv => cbv
  refine eqF hE (by omega) ?_
  conv => cbv
  refine lenL hE hl fun n0 hn0 hb0 => ?_
  have hnl := nil_len hn0
  conv => cbv
  (first | refine eqT hE (hnl.2 hne) ?_ | refine eqF hE (fun h => hne (hnl.1 h)) ?_)
  conv => cbv
  refine lenL (R := intR) (l := ([1] : List Int)) hE (by rfl) fun n hn hb => ?_
  conv => cbv
  refine loopC hE (ι := Int × (List (List AV))) [1, 3, 4, 58, 59] [60, 10] (fun q => (fun (i : Int) (es : List (List AV)) => [(60, .int .i64 i), (10, .ob 2)]) q.1 q.2) (fun q => (fun (i : Int) (es : List (List AV)) => [.box [.int .i64 k, .sl t 1 rs, .str le, .str co, .int .i64 p], .row 1 [[.int .i64 1]], .row 1 es]) q.1 q.2) (fun q => (fun (i : Int) (es : List (List AV)) => (n - i).toNat) q.1 q.2) (fun q => (fun (i : Int) (es : List (List AV)) => (0 ≤ i ∧ i ≤ n) ∧ es = (outerL f g ([1] : List Int) i.toNat).map intR) q.1 q.2) [0, 1, 2] (by decide) ((0, [])) (by conv => lhs; cbv) (by conv => lhs; cbv) rfl rfl (by dsimp only; exact ⟨by omega, rfl⟩) fun q hi Kn hN => ?_
  obtain ⟨i, es⟩ := q
  (try dsimp only at hi)
  conv => cbv
  obtain ⟨h0, hinv⟩ := hi
  refine ltI hE (fun hlt => ?_) (fun hge => ?_) <;> conv => cbv
  · refine idxL (R := intR) (l := ([1] : List Int)) hE (by rfl) (by omega) fun v hv => ?_
    have hv2 := hgb.1 v (List.mem_of_getElem? hv)
    conv => cbv
    repeat' first
      | ((refine loopC hE (ι := Int × (List (List AV))) [1, 3, 4, 11, 58, 59, 60, 65] [66, 10] (fun q => (fun (j : Int) (es2 : List (List AV)) => [(66, .int .i64 j), (10, .ob 2)]) q.1 q.2) (fun q => (fun (j : Int) (es2 : List (List AV)) => [.box [.int .i64 k, .sl t 1 rs, .str le, .str co, .int .i64 p], .row 1 [[.int .i64 1]], .row 1 es2]) q.1 q.2) (fun q => (fun (j : Int) (es2 : List (List AV)) => (v - j).toNat) q.1 q.2) (fun q => (fun (j : Int) (es2 : List (List AV)) => (0 ≤ j ∧ j ≤ v) ∧ es2 = (outerL f g ([1] : List Int) i.toNat ++ innerL f g (i.toNat == 0) j.toNat).map intR) q.1 q.2) [0, 1, 2] (by decide) ((0, es)) (by conv => lhs; cbv) (by conv => lhs; cbv) rfl rfl (by dsimp only; exact ⟨by omega, by rw [hinv]; exact congrArg (List.map intR) inner_zero⟩) fun q hi2 Kn2 hN2 => ?_; obtain ⟨j, es2⟩ := q; (try dsimp only at hi2); conv => cbv); obtain ⟨h1, h2⟩ := hi2; have hln := outIn_len (f := f) (g := g) hgb.1 (i := i.toNat) (j := j.toNat) (i.toNat == 0) (by omega) (by omega))
      | (refine idxV (R := intR) (l := ([1] : List Int)) hE (by rfl) (by omega) hv ?_; (try conv => cbv))
      | (refine hN (_, _) _ [0, 1, 2] (by decide) rfl ⟨?_, ?_⟩ ?_ <;> (try dsimp only))
      | (refine hN2 (_, _) _ [0, 1, 6] (by decide) rfl ⟨?_, ?_⟩ ?_ <;> (try dsimp only))
      | (refine hN2 (_, _) _ [0, 1, 4] (by decide) rfl ⟨?_, ?_⟩ ?_ <;> (try dsimp only))
      | ((first
     | refine q0 hE ?_
     | refine catP (R := intR) hE (by assumption) (by rfl) (by (first | omega | (rw [List.length_append]; simp only [List.length_cons, List.length_nil]; omega))) (fun _ _ => ?_)
     | refine B0 hE ?_|refine B1 hE (fun _=>?_) fun _=>?_|refine B3 hE fun _ _ _=>?_|refine B2 hE fun _ _=>?_|refine B4 hE fun _ _ _ _=>?_) <;> (try conv => cbv))
    all_goals (try clear hN)
    all_goals (try clear hN2)
    all_goals first
      | omega
      | (clear hK hf hg; subst_vars; exact congrArg (List.map intR) (inner_pos (by omega) rfl))
      | (clear hK hf hg; subst_vars; exact congrArg (List.map intR) (inner_gap (by omega) (by omega) rfl rfl))
      | (clear hK hf hg; subst_vars; exact congrArg (List.map intR) (inner_first (by omega) (by omega) rfl))
      | (rw [h2]; exact congrArg (List.map intR) (outer_step h0.1 hv (by omega) (by assumption)))
      | trace_state
  · have hlen := outerL_len (f := f) (g := g) hgb.1 i.toNat
    have hil : i.toNat = (([1] : List Int)).length := by omega
    repeat' first
      | ((first
     | refine q0 hE ?_
     | refine catL (R := intR) (m := [_, 20]) hE (by assumption) (by rfl) (by simp only [List.length_cons, List.length_nil]; omega) (fun _ _ => ?_)
     | refine B0 hE ?_|refine B1 hE (fun _=>?_) fun _=>?_|refine B3 hE fun _ _ _=>?_|refine B2 hE fun _ _=>?_|refine B4 hE fun _ _ _ _=>?_) <;> (try conv => cbv))
    all_goals (try clear hN)
    all_goals first
      | (refine hK _ ?_; unfold timesR; rw [if_neg (by omega), if_neg (by assumption), hor, ← hf, ← hg, ← hil]; rename_i e; rw [e]; rfl)
      | (refine hK _ ?_; unfold timesR; rw [if_neg (by omega), if_pos (by assumption), hor, ← hf, ← hg, ← hil, hinv, List.append_nil]; rfl)
      | trace_state
theorem times_ (k p : Int) (le co : ByteArray) {rs : List (List AV)} {t : Bool} {l : List Int} (hl : rs = l.map intR) (hs : ShapeOk k l le) (hk : k ≠ 1 ∧ k ≠ 3) : AC Tryz.prog 98 [.agg [.int .i64 k, .sl t 1 rs, .str le, .str co, .int .i64 p]] (fun l : List Int => .sl true 1 (l.map intR)) (timesR k l le) := by
  have hkk := hs.kind
  by_cases h8 : k = 8
  · subst h8
    have hle : LetOk le ∧ l = [] := by
      rcases hs with h | h | h | h
      · omega
      · omega
      · omega
      · exact h.2
    rw [hle.2]
    exact timesM_ p le co hle.1
  · by_cases hne : l = []
    · exact timesE_ k p le co hl hs (by omega) hne
    · exact timesN_ k p le co hl hs (by omega) hne
def morD (s : ByteArray) : Nat → List Int
  | 0 => []
  | j + 1 => morD s j ++ [if chr s j = 46 then 5 else 15]
theorem morD_len (s : ByteArray) : ∀ j, (morD s j).length = j
  | 0 => rfl
  | j + 1 => by unfold morD; rw [List.length_append, morD_len s j]; rfl
theorem morD_get {s : ByteArray} {i : Nat} : ∀ {j : Nat}, i < j → (morD s j)[i]? = some (if chr s i = 46 then 5 else 15)
  | 0, h => by omega
  | j + 1, h => by
    unfold morD
    by_cases e : i = j
    · subst e
      rw [List.getElem?_append_right (by rw [morD_len]; omega), morD_len, Nat.sub_self]; rfl
    · rw [List.getElem?_append_left (by rw [morD_len]; omega)]
      exact morD_get (by omega)
theorem morD_succ {s : ByteArray} {i n x : Int} (h0 : 0 ≤ i) (hn : n = i + 1) (hx : x = if chr s i.toNat = 46 then 5 else 15) : morD s i.toNat ++ [x] = morD s n.toNat := by
  rw [hn, show (i + 1).toNat = i.toNat + 1 by omega, hx]; rfl
theorem l05Morse_ (le : ByteArray) (n0 : Int) (hle : LetOk le) (hn0 : n0 = chr le 0) : AC Tryz.prog 157 [.int .u8 n0] (fun l : List Int => .sl true 1 (l.map intR)) (morD (sgnT le) (sgnT le).size) := by
  refine ac Tryz.func157 (by kernel_rfl) (.ints _) fun E K hE hK => ?_
  conv => cbv
  have h26 := codes_len
  have hle2 := hle.2
  have hmem := sgnT_mem hle
  have hok := codes_ok _ hmem
  refine subI hE fun b hb2 => ?_
  rw [IntWalk.u8_in _ ⟨by omega, by omega⟩] at hb2
  conv => cbv
  refine idxL (R := strR) (l := codes) hE (by rfl) (by omega) fun s hv => ?_
  have hs := codes_get hle (by omega) hv
  rw [← hs] at hok hK
  conv => cbv
  refine idxV (R := strR) (l := codes) hE (by rfl) (by omega) hv ?_
  conv => cbv
  refine loopC hE (ι := Int × (List (List AV))) [4] [6, 5] (fun q => (fun (i : Int) (es : List (List AV)) => [(6, .int .i64 i), (5, .ob 0)]) q.1 q.2) (fun q => (fun (i : Int) (es : List (List AV)) => [.row 1 es]) q.1 q.2) (fun q => (fun (i : Int) (es : List (List AV)) => (s.size - i).toNat) q.1 q.2) (fun q => (fun (i : Int) (es : List (List AV)) => (0 ≤ i ∧ i ≤ s.size) ∧ es = (morD s i.toNat).map intR) q.1 q.2) [1] (by decide) ((0, [])) (by conv => lhs; cbv) (by conv => lhs; cbv) rfl rfl (by dsimp only; exact ⟨by omega, rfl⟩) fun q hi Kn hN => ?_
  obtain ⟨i, es⟩ := q
  (try dsimp only at hi)
  conv => cbv
  obtain ⟨h0, hinv⟩ := hi
  have hlen := morD_len s i.toNat
  repeat' first
    | (refine sidxI hE (by omega) (fun a ha _ _ => ?_); (replace ha : a = chr s i.toNat := ha); (try conv => cbv))
    | (refine hN (_, _) _ [2] (by decide) rfl ⟨?_, ?_⟩ ?_ <;> (try dsimp only))
    | ((first
   | refine q0 hE ?_
   | refine catP (R := intR) hE (by assumption) (by rfl) (by omega) (fun _ _ => ?_)
   | refine B0 hE ?_|refine B1 hE (fun _=>?_) fun _=>?_|refine B3 hE fun _ _ _=>?_|refine B2 hE fun _ _=>?_|refine B4 hE fun _ _ _ _=>?_) <;> (try conv => cbv))
  all_goals (try clear hN)
  all_goals first
    | omega
    | (rename_i e1 _ e2; clear hK; rw [e1]; refine congrArg (List.map intR) (morD_succ h0.1 (by assumption) ?_); first | rw [if_pos (by omega)] | rw [if_neg (by omega)])
    | (refine hK _ ?_; rw [hinv, show i.toNat = s.size by omega]; rfl)
    | trace_state
theorem sTimesM_ (p : Int) (le co : ByteArray) (hle : LetOk le) {rs : List (List AV)} {t : Bool} : AC Tryz.prog 111 [.pp [.int .i64 8, .sl t 1 rs, .str le, .str co, .int .i64 p]] (fun l : List Int => .sl true 1 (l.map intR)) (timesR 8 [] le) := by
  refine ac Tryz.func111 (by kernel_rfl) (.ints _) fun E K hE hK => ?_
  conv => cbv
  have hok := codes_ok _ (sgnT_mem hle)
  refine eqT hE rfl ?_
  conv => cbv
  refine sidxI hE (by have := hle.1; omega) fun a ha _ _ => ?_
  replace ha : a = chr le 0 := ha
  conv => cbv
  refine callR hE (l05Morse_ le a hle ha) fun ds hds => ?_
  obtain ⟨s, hs⟩ : ∃ s, s = sgnT le := ⟨_, rfl⟩
  rw [← hs] at hds hok
  have hdl := morD_len s s.size
  conv => cbv
  refine loopC hE (ι := Int × (List (List AV))) [4] [5, 3] (fun q => (fun (i : Int) (es : List (List AV)) => [(5, .int .i64 i), (3, .ob 0)]) q.1 q.2) (fun q => (fun (i : Int) (es : List (List AV)) => [.row 1 es, .row 1 ds]) q.1 q.2) (fun q => (fun (i : Int) (es : List (List AV)) => (s.size - i).toNat) q.1 q.2) (fun q => (fun (i : Int) (es : List (List AV)) => (0 ≤ i ∧ i ≤ s.size) ∧ es = (morL s i.toNat).map intR) q.1 q.2) [0, 1] (by decide) ((0, [])) (by conv => lhs; cbv) (by conv => lhs; cbv) rfl rfl (by dsimp only; exact ⟨by omega, rfl⟩) fun q hi Kn hN => ?_
  obtain ⟨i, es⟩ := q
  (try dsimp only at hi)
  conv => cbv
  obtain ⟨h0, hinv⟩ := hi
  have hlen := morL_len s i.toNat
  repeat' first
    | (refine idxL (R := intR) hE hds (by omega) (fun v hv => ?_); rw [morD_get (by omega)] at hv; (replace hv := (Option.some.inj hv).symm); have hch := hok.2.2 i.toNat (by omega); (try conv => cbv))
    | (refine hN (_, _) _ [5, 1] (by decide) rfl ⟨?_, ?_⟩ ?_ <;> (try dsimp only))
    | (refine hN (_, _) _ [3, 1] (by decide) rfl ⟨?_, ?_⟩ ?_ <;> (try dsimp only))
    | ((first
   | refine q0 hE ?_
   | refine catP (R := intR) hE (by assumption) (by rfl) (by (first | omega | (rw [List.length_append]; simp only [List.length_cons, List.length_nil]; omega))) (fun _ _ => ?_)
   | refine B0 hE ?_|refine B1 hE (fun _=>?_) fun _=>?_|refine B3 hE fun _ _ _=>?_|refine B2 hE fun _ _=>?_|refine B4 hE fun _ _ _ _=>?_) <;> (try conv => cbv))
  all_goals (try clear hN)
  all_goals first
    | omega
    | (clear hK; subst_vars; refine congrArg (List.map intR) (morL_pos (n := (i + 1).toNat) (by omega) rfl (by omega) ?_); rcases hch with hch | hch <;> rw [hch] <;> rfl)
    | (clear hK; subst_vars; refine congrArg (List.map intR) (morL_zero (n := (i + 1).toNat) (by omega) (by omega) ?_); rcases hch with hch | hch <;> rw [hch] <;> rfl)
    | (refine hK _ ?_; unfold timesR; rw [if_pos rfl, ← hs, hinv, show i.toNat = s.size by omega]; rfl)
    | trace_state
theorem sTimesN_ (k p : Int) (le co : ByteArray) {rs : List (List AV)} {t : Bool} {l : List Int} (hl : rs = l.map intR) (hs : ShapeOk k l le) (hk : k = 2 ∨ k = 4 ∨ k = 5 ∨ k = 6 ∨ k = 7) (hne : l ≠ []) : AC Tryz.prog 111 [.pp [.int .i64 k, .sl t 1 rs, .str le, .str co, .int .i64 p]] (fun l : List Int => .sl true 1 (l.map intR)) (timesR k l le) := by
  refine ac Tryz.func111 (by kernel_rfl) (.ints _) fun E K hE hK => ?_
  conv => cbv
  have hgb := grpOr_bd hs.grp
  have hor : grpOr l = l := by unfold grpOr; rw [if_neg hne]
  rw [hor] at hgb
  have hfb := flashR_bd k
  have hgp := gapR_bd k
  have hF := l05Flash_ k
  have hG := l05Gap_ k
  have hlet := hs.letter
  obtain ⟨f, hf⟩ : ∃ f, f = flashR k := ⟨_, rfl⟩
  obtain ⟨g, hg⟩ : ∃ g, g = gapR k := ⟨_, rfl⟩
  rw [← hf] at hfb hF
  rw [← hg] at hgp hG
  refine eqF hE (by omega) ?_
  conv => cbv
  refine lenL hE hl fun n0 hn0 hb0 => ?_
  have hnl := nil_len hn0
  conv => cbv
  (first | refine eqT hE (hnl.2 hne) ?_ | refine eqF hE (fun h => hne (hnl.1 h)) ?_)
  conv => cbv
  refine loopC hE (ι := Int × (List (List AV))) [0, 6] [7, 3] (fun q => (fun (i : Int) (es : List (List AV)) => [(7, .int .i64 i), (3, .ob 0)]) q.1 q.2) (fun q => (fun (i : Int) (es : List (List AV)) => [.row 1 es]) q.1 q.2) (fun q => (fun (i : Int) (es : List (List AV)) => ((l).length - i).toNat) q.1 q.2) (fun q => (fun (i : Int) (es : List (List AV)) => (0 ≤ i ∧ i ≤ (l).length) ∧ es = (outerL f g l i.toNat).map intR) q.1 q.2) [0] (by decide) ((0, [])) (by conv => lhs; cbv) (by conv => lhs; cbv) rfl rfl (by dsimp only; exact ⟨by simp, rfl⟩) fun q hi Kn hN => ?_
  obtain ⟨i, es⟩ := q
  (try dsimp only at hi)
  conv => cbv
  obtain ⟨h0, hinv⟩ := hi
  refine lenL (R := intR) (l := l) hE hl fun n hn hb => ?_
  conv => cbv
  refine ltI hE (fun hlt => ?_) (fun hge => ?_) <;> conv => cbv
  · obtain ⟨v, hv⟩ : ∃ v, (l)[i.toNat]? = some v := ⟨_, List.getElem?_eq_getElem (by omega)⟩
    have hv2 := hgb.1 v (List.mem_of_getElem? hv)
    repeat' first
      | ((refine loopC hE (ι := Int × (List (List AV))) [0, 6, 7] [8, 3] (fun q => (fun (j : Int) (es2 : List (List AV)) => [(8, .int .i64 j), (3, .ob 0)]) q.1 q.2) (fun q => (fun (j : Int) (es2 : List (List AV)) => [.row 1 es2]) q.1 q.2) (fun q => (fun (j : Int) (es2 : List (List AV)) => (v - j).toNat) q.1 q.2) (fun q => (fun (j : Int) (es2 : List (List AV)) => (0 ≤ j ∧ j ≤ v) ∧ es2 = (outerL f g l i.toNat ++ innerL f g (i.toNat == 0) j.toNat).map intR) q.1 q.2) [0] (by decide) ((0, es)) (by conv => lhs; cbv) (by conv => lhs; cbv) rfl rfl (by dsimp only; exact ⟨by omega, by rw [hinv]; exact congrArg (List.map intR) inner_zero⟩) fun q hi2 Kn2 hN2 => ?_; obtain ⟨j, es2⟩ := q; (try dsimp only at hi2); conv => cbv); obtain ⟨h1, h2⟩ := hi2; have hln := outIn_len (f := f) (g := g) hgb.1 (i := i.toNat) (j := j.toNat) (i.toNat == 0) (by omega) (by omega))
      | (refine idxV (R := intR) (l := l) hE hl (by omega) hv ?_; (try conv => cbv))
      | ((refine callI hE hG (fun y hy => ?_); subst hy); (try conv => cbv))
      | ((refine callI hE hF (fun y hy => ?_); subst hy); (try conv => cbv))
      | (refine hN (_, _) _ [0] (by decide) rfl ⟨?_, ?_⟩ ?_ <;> (try dsimp only))
      | (refine hN2 (_, _) _ [4] (by decide) rfl ⟨?_, ?_⟩ ?_ <;> (try dsimp only))
      | (refine hN2 (_, _) _ [2] (by decide) rfl ⟨?_, ?_⟩ ?_ <;> (try dsimp only))
      | ((first
     | refine q0 hE ?_
     | refine catP (R := intR) hE (by assumption) (by rfl) (by (first | omega | (rw [List.length_append]; simp only [List.length_cons, List.length_nil]; omega))) (fun _ _ => ?_)
     | refine B0 hE ?_|refine B1 hE (fun _=>?_) fun _=>?_|refine B3 hE fun _ _ _=>?_|refine B2 hE fun _ _=>?_|refine B4 hE fun _ _ _ _=>?_) <;> (try conv => cbv))
    all_goals (try clear hN)
    all_goals (try clear hN2)
    all_goals first
      | omega
      | (clear hK hf hg hF hG; subst_vars; exact congrArg (List.map intR) (inner_pos (by omega) rfl))
      | (clear hK hf hg hF hG; subst_vars; exact congrArg (List.map intR) (inner_gap (by omega) (by omega) rfl rfl))
      | (clear hK hf hg hF hG; subst_vars; exact congrArg (List.map intR) (inner_first (by omega) (by omega) rfl))
      | (rw [h2]; exact congrArg (List.map intR) (outer_step h0.1 hv (by omega) (by assumption)))
      | trace_state
  · have hlen := outerL_len (f := f) (g := g) hgb.1 i.toNat
    have hil : i.toNat = (l).length := by omega
    repeat' first
      | ((refine callI hE hG (fun y hy => ?_); subst hy); (try conv => cbv))
      | ((first
     | refine q0 hE ?_
     | refine catL (R := intR) (m := [_, 20]) hE (by assumption) (by rfl) (by simp only [List.length_cons, List.length_nil]; omega) (fun _ _ => ?_)
     | refine B0 hE ?_|refine B1 hE (fun _=>?_) fun _=>?_|refine B3 hE fun _ _ _=>?_|refine B2 hE fun _ _=>?_|refine B4 hE fun _ _ _ _=>?_) <;> (try conv => cbv))
    all_goals (try clear hN)
    all_goals first
      | (refine hK _ ?_; unfold timesR; rw [if_neg (by omega), if_neg (by rintro rfl; contradiction), hor, ← hf, ← hg, ← hil]; rename_i e; rw [e]; rfl)
      | (refine hK _ ?_; unfold timesR; rw [if_neg (by omega), if_pos (by rcases hlet with h | ⟨_, h | h⟩; omega; exact h; contradiction), hor, ← hf, ← hg, ← hil, hinv, List.append_nil]; rfl)
      | trace_state
theorem sTimesE_ (k p : Int) (le co : ByteArray) {rs : List (List AV)} {t : Bool} {l : List Int} (hl : rs = l.map intR) (hs : ShapeOk k l le) (hk : k = 2 ∨ k = 4 ∨ k = 5 ∨ k = 6 ∨ k = 7) (hne : l = []) : AC Tryz.prog 111 [.pp [.int .i64 k, .sl t 1 rs, .str le, .str co, .int .i64 p]] (fun l : List Int => .sl true 1 (l.map intR)) (timesR k l le) := by
  refine ac Tryz.func111 (by kernel_rfl) (.ints _) fun E K hE hK => ?_
  conv => cbv
  have hgb := grpOr_bd hs.grp
  have hor : grpOr l = ([1] : List Int) := by unfold grpOr; rw [if_pos hne]
  rw [hor] at hgb
  have hfb := flashR_bd k
  have hgp := gapR_bd k
  have hF := l05Flash_ k
  have hG := l05Gap_ k
  have hlet := hs.letter
  obtain ⟨f, hf⟩ : ∃ f, f = flashR k := ⟨_, rfl⟩
  obtain ⟨g, hg⟩ : ∃ g, g = gapR k := ⟨_, rfl⟩
  rw [← hf] at hfb hF
  rw [← hg] at hgp hG
  refine eqF hE (by omega) ?_
  conv => cbv
  refine lenL hE hl fun n0 hn0 hb0 => ?_
  have hnl := nil_len hn0
  conv => cbv
  (first | refine eqT hE (hnl.2 hne) ?_ | refine eqF hE (fun h => hne (hnl.1 h)) ?_)
  conv => cbv
  refine loopC hE (ι := Int × (List (List AV))) [0, 6] [7, 3] (fun q => (fun (i : Int) (es : List (List AV)) => [(7, .int .i64 i), (3, .ob 0)]) q.1 q.2) (fun q => (fun (i : Int) (es : List (List AV)) => [.row 1 es, .row 1 [[.int .i64 1]]]) q.1 q.2) (fun q => (fun (i : Int) (es : List (List AV)) => ((([1] : List Int)).length - i).toNat) q.1 q.2) (fun q => (fun (i : Int) (es : List (List AV)) => (0 ≤ i ∧ i ≤ (([1] : List Int)).length) ∧ es = (outerL f g ([1] : List Int) i.toNat).map intR) q.1 q.2) [0, 1] (by decide) ((0, [])) (by conv => lhs; cbv) (by conv => lhs; cbv) rfl rfl (by dsimp only; exact ⟨by simp, rfl⟩) fun q hi Kn hN => ?_
  obtain ⟨i, es⟩ := q
  (try dsimp only at hi)
  conv => cbv
  obtain ⟨h0, hinv⟩ := hi
  refine lenL (R := intR) (l := ([1] : List Int)) hE (by rfl) fun n hn hb => ?_
  conv => cbv
  refine ltI hE (fun hlt => ?_) (fun hge => ?_) <;> conv => cbv
  · obtain ⟨v, hv⟩ : ∃ v, (([1] : List Int))[i.toNat]? = some v := ⟨_, List.getElem?_eq_getElem (by omega)⟩
    have hv2 := hgb.1 v (List.mem_of_getElem? hv)
    repeat' first
      | ((refine loopC hE (ι := Int × (List (List AV))) [0, 6, 7] [8, 3] (fun q => (fun (j : Int) (es2 : List (List AV)) => [(8, .int .i64 j), (3, .ob 0)]) q.1 q.2) (fun q => (fun (j : Int) (es2 : List (List AV)) => [.row 1 es2, .row 1 [[.int .i64 1]]]) q.1 q.2) (fun q => (fun (j : Int) (es2 : List (List AV)) => (v - j).toNat) q.1 q.2) (fun q => (fun (j : Int) (es2 : List (List AV)) => (0 ≤ j ∧ j ≤ v) ∧ es2 = (outerL f g ([1] : List Int) i.toNat ++ innerL f g (i.toNat == 0) j.toNat).map intR) q.1 q.2) [0, 1] (by decide) ((0, es)) (by conv => lhs; cbv) (by conv => lhs; cbv) rfl rfl (by dsimp only; exact ⟨by omega, by rw [hinv]; exact congrArg (List.map intR) inner_zero⟩) fun q hi2 Kn2 hN2 => ?_; obtain ⟨j, es2⟩ := q; (try dsimp only at hi2); conv => cbv); obtain ⟨h1, h2⟩ := hi2; have hln := outIn_len (f := f) (g := g) hgb.1 (i := i.toNat) (j := j.toNat) (i.toNat == 0) (by omega) (by omega))
      | (refine idxV (R := intR) (l := ([1] : List Int)) hE (by rfl) (by omega) hv ?_; (try conv => cbv))
      | ((refine callI hE hG (fun y hy => ?_); subst hy); (try conv => cbv))
      | ((refine callI hE hF (fun y hy => ?_); subst hy); (try conv => cbv))
      | (refine hN (_, _) _ [0, 1] (by decide) rfl ⟨?_, ?_⟩ ?_ <;> (try dsimp only))
      | (refine hN2 (_, _) _ [5, 1] (by decide) rfl ⟨?_, ?_⟩ ?_ <;> (try dsimp only))
      | (refine hN2 (_, _) _ [3, 1] (by decide) rfl ⟨?_, ?_⟩ ?_ <;> (try dsimp only))
      | ((first
     | refine q0 hE ?_
     | refine catP (R := intR) hE (by assumption) (by rfl) (by (first | omega | (rw [List.length_append]; simp only [List.length_cons, List.length_nil]; omega))) (fun _ _ => ?_)
     | refine B0 hE ?_|refine B1 hE (fun _=>?_) fun _=>?_|refine B3 hE fun _ _ _=>?_|refine B2 hE fun _ _=>?_|refine B4 hE fun _ _ _ _=>?_) <;> (try conv => cbv))
    all_goals (try clear hN)
    all_goals (try clear hN2)
    all_goals first
      | omega
      | (clear hK hf hg hF hG; subst_vars; exact congrArg (List.map intR) (inner_pos (by omega) rfl))
      | (clear hK hf hg hF hG; subst_vars; exact congrArg (List.map intR) (inner_gap (by omega) (by omega) rfl rfl))
      | (clear hK hf hg hF hG; subst_vars; exact congrArg (List.map intR) (inner_first (by omega) (by omega) rfl))
      | (rw [h2]; exact congrArg (List.map intR) (outer_step h0.1 hv (by omega) (by assumption)))
      | trace_state
  · have hlen := outerL_len (f := f) (g := g) hgb.1 i.toNat
    have hil : i.toNat = (([1] : List Int)).length := by omega
    repeat' first
      | ((refine callI hE hG (fun y hy => ?_); subst hy); (try conv => cbv))
      | ((first
     | refine q0 hE ?_
     | refine catL (R := intR) (m := [_, 20]) hE (by assumption) (by rfl) (by simp only [List.length_cons, List.length_nil]; omega) (fun _ _ => ?_)
     | refine B0 hE ?_|refine B1 hE (fun _=>?_) fun _=>?_|refine B3 hE fun _ _ _=>?_|refine B2 hE fun _ _=>?_|refine B4 hE fun _ _ _ _=>?_) <;> (try conv => cbv))
    all_goals (try clear hN)
    all_goals first
      | (refine hK _ ?_; unfold timesR; rw [if_neg (by omega), if_neg (by rintro rfl; contradiction), hor, ← hf, ← hg, ← hil]; rename_i e; rw [e]; rfl)
      | (refine hK _ ?_; unfold timesR; rw [if_neg (by omega), if_pos (by rcases hlet with h | ⟨_, h | h⟩; omega; exact h; contradiction), hor, ← hf, ← hg, ← hil, hinv, List.append_nil]; rfl)
      | trace_state
theorem sTimes_ (k p : Int) (le co : ByteArray) {rs : List (List AV)} {t : Bool} {l : List Int} (hl : rs = l.map intR) (hs : ShapeOk k l le) (hk : k ≠ 1 ∧ k ≠ 3) : AC Tryz.prog 111 [.pp [.int .i64 k, .sl t 1 rs, .str le, .str co, .int .i64 p]] (fun l : List Int => .sl true 1 (l.map intR)) (timesR k l le) := by
  have hkk := hs.kind
  by_cases h8 : k = 8
  · subst h8
    have hle : LetOk le ∧ l = [] := by
      rcases hs with h | h | h | h
      · omega
      · omega
      · omega
      · exact h.2
    rw [hle.2]
    exact sTimesM_ p le co hle.1
  · by_cases hne : l = []
    · exact sTimesE_ k p le co hl hs (by omega) hne
    · exact sTimesN_ k p le co hl hs (by omega) hne
end Go.Proofs.YtoafgafkmeghlaaGreatDoor
