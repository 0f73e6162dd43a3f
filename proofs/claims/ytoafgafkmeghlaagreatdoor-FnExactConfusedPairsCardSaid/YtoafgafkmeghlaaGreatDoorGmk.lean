/- Contracts: marks. -/
import Derived.Test.YtoafgafkmeghlaaGreatDoorFC
import Derived.Test.YtoafgafkmeghlaaGreatDoorFma
namespace Go.Proofs.YtoafgafkmeghlaaGreatDoor
open Go Go.RowKit Classical
set_option maxRecDepth 100000
set_option maxHeartbeats 2000000
set_option linter.unusedVariables false
set_option linter.unusedSimpArgs false
theorem isMarkKind_ (n : Int) : AC Tryz.prog 160 [.int .i64 n] AV.bool (bP (1 ≤ n ∧ n ≤ 9)) := by
  refine ac Tryz.func160 (by kernel_rfl) (.bool _) fun E K hE hK => ?_
  conv => cbv
  repeat' first
    | ((first
   | refine q0 hE ?_
   | refine callP hE (within_ _ _ _) (fun _ => ?_) (fun _ => ?_)
   | refine B0 hE ?_|refine B1 hE (fun _=>?_) fun _=>?_|refine B3 hE fun _ _ _=>?_|refine B2 hE fun _ _=>?_|refine B4 hE fun _ _ _ _=>?_) <;> (try conv => cbv))
  all_goals (try clear hN)
  all_goals first
    | (omega)
    | (refine finB hK (bP_true.2 ?_); first | omega | grind)
    | (refine finB hK (bP_false.2 ?_); first | omega | (intro h; grind))
    | (refine ⟨by omega, Up.succ (by assumption) ?_ (by assumption)⟩; grind)
    | (refine hK _ ?_; simp_all [atup]; done)
    | (grind)
theorem l11Kind_ (n : Int) : AC Tryz.prog 189 [.int .i64 n] AV.bool (bP (1 ≤ n ∧ n ≤ 9)) := by
  refine ac Tryz.func189 (by kernel_rfl) (.bool _) fun E K hE hK => ?_
  conv => cbv
  repeat' first
    | ((first
   | refine q0 hE ?_
   | refine callP hE (in_ _ _ _) (fun _ => ?_) (fun _ => ?_)
   | refine B0 hE ?_|refine B1 hE (fun _=>?_) fun _=>?_|refine B3 hE fun _ _ _=>?_|refine B2 hE fun _ _=>?_|refine B4 hE fun _ _ _ _=>?_) <;> (try conv => cbv))
  all_goals (try clear hN)
  all_goals first
    | (omega)
    | (refine finB hK (bP_true.2 ?_); first | omega | grind)
    | (refine finB hK (bP_false.2 ?_); first | omega | (intro h; grind))
    | (refine ⟨by omega, Up.succ (by assumption) ?_ (by assumption)⟩; grind)
    | (refine hK _ ?_; simp_all [atup]; done)
    | (grind)
theorem markColors_ (k : Int) : AC Tryz.prog 161 [.int .i64 k] AV.str (pickS k mcols) := by
  refine ac Tryz.func161 (by kernel_rfl) (.str _) fun E K hE hK => ?_
  conv => cbv
  repeat' first
    | ((first
   | refine q0 hE ?_
   | refine callI hE (npick_ (es := mcols) k (by rfl)) (fun _ _ => ?_)
   | refine B0 hE ?_|refine B1 hE (fun _=>?_) fun _=>?_|refine B3 hE fun _ _ _=>?_|refine B2 hE fun _ _=>?_|refine B4 hE fun _ _ _ _=>?_) <;> (try conv => cbv))
  exact hK _ (by simp_all [atup])
theorem markTop_ (k : Int) : AC Tryz.prog 164 [.int .i64 k] AV.str (pickS k mtops) := by
  refine ac Tryz.func164 (by kernel_rfl) (.str _) fun E K hE hK => ?_
  conv => cbv
  repeat' first
    | ((first
   | refine q0 hE ?_
   | refine callI hE (npick_ (es := mtops) k (by rfl)) (fun _ _ => ?_)
   | refine B0 hE ?_|refine B1 hE (fun _=>?_) fun _=>?_|refine B3 hE fun _ _ _=>?_|refine B2 hE fun _ _=>?_|refine B4 hE fun _ _ _ _=>?_) <;> (try conv => cbv))
  exact hK _ (by simp_all [atup])
theorem indexStr_ {rs : List (List AV)} {t : Bool} {l : List ByteArray} (v : ByteArray) (hl : rs = l.map strR) : AC Tryz.prog 211 [.sl t 1 rs, .str v] (AV.int .i64) (firstI (fun x => x = v) l) := by
  refine ac Tryz.func211 (by kernel_rfl) (.int _ _) fun E K hE hK => ?_
  conv => cbv
  refine lenL hE hl fun n hn hb => ?_
  conv => cbv
  refine loopC hE (ι := Int) [0, 1, 7] [8] (fun q => (fun (i : Int) => [(8, .int .i64 i)]) q) (fun q => (fun (i : Int) => []) q) (fun q => (fun (i : Int) => (n - i).toNat) q) (fun q => (fun (i : Int) => 0 ≤ i ∧ Up (fun j => ∀ x, l[j]? = some x → ¬ x = v) i) q) [] (by decide) (0) (by conv => lhs; cbv) (by conv => lhs; cbv) rfl rfl (by dsimp only; exact ⟨by omega, .zero (by omega)⟩) fun i hi Kn hN => ?_
  (try dsimp only at hi)
  conv => cbv
  obtain ⟨h0, hinv⟩ := hi
  repeat' first
    | (refine idxL (R := strR) hE hl (by omega) (fun x hx => ?_); (try conv => cbv))
    | (refine seqI hE (fun he => ?_) (fun he => ?_) <;> (try conv => cbv))
    | (refine hN _ _ [] (by decide) rfl ⟨?_, ?_⟩ ?_ <;> (try dsimp only))
    | ((first
   | refine q0 hE ?_
   | refine B0 hE ?_|refine B1 hE (fun _=>?_) fun _=>?_|refine B3 hE fun _ _ _=>?_|refine B2 hE fun _ _=>?_|refine B4 hE fun _ _ _ _=>?_) <;> (try conv => cbv))
  all_goals (try clear hN)
  all_goals first
    | omega
    | (refine hK _ ?_; rw [firstI_in (p := fun x => x = v) h0 hx he.symm hinv]; rfl)
    | (refine hinv.succ (fun y hy => ?_) (by assumption); rw [hx] at hy; cases hy; exact fun h => he h.symm)
    | (refine hK _ ?_; rw [firstI_out (by omega) hinv]; rfl)
    | trace_state
theorem containsStr_ {rs : List (List AV)} {t : Bool} {l : List ByteArray} (v : ByteArray) (hl : rs = l.map strR) : AC Tryz.prog 162 [.sl t 1 rs, .str v] AV.bool (bP (v ∈ l)) := by
  refine ac Tryz.func162 (by kernel_rfl) (.bool _) fun E K hE hK => ?_
  conv => cbv
  refine callI hE (indexStr_ v hl) fun y hy => ?_
  have hf := firstI_spec (fun x => x = v) l
  rw [← hy] at hf
  conv => cbv
  repeat' first
    | ((first
   | refine q0 hE ?_
   | refine B0 hE ?_|refine B1 hE (fun _=>?_) fun _=>?_|refine B3 hE fun _ _ _=>?_|refine B2 hE fun _ _=>?_|refine B4 hE fun _ _ _ _=>?_) <;> (try conv => cbv))
  · refine finB hK (bP_true.2 ?_)
    rcases hf with ⟨_, _, ⟨w, hw, rfl⟩, _⟩ | ⟨h, _⟩
    · exact List.mem_of_getElem? hw
    · omega
  · refine finB hK (bP_false.2 fun h => ?_)
    rcases hf with ⟨_, _, _, _⟩ | ⟨_, h'⟩
    · omega
    · obtain ⟨j, hj⟩ := List.getElem?_of_mem h
      exact h' j _ hj rfl
theorem markShapes_ (k : Int) (h : 1 ≤ k ∧ k ≤ 9) : AC Tryz.prog 163 [.int .i64 k] (fun l : List ByteArray => .sl true 1 (l.map strR)) (mshapes k) := by
  refine ac Tryz.func163 (by kernel_rfl) (.strs _) fun E K hE hK => ?_
  conv => cbv
  have hm := mtexts_ok h
  have hf := shapes_fields h
  refine callI hE (npick_ (es := mtexts) k (by rfl)) fun y hy => ?_
  rw [← hy] at hm hf
  conv => cbv
  refine callR hE (fields_ y hm.1 (fun j b hb => hm.2.1 b (List.mem_of_getElem? hb)) (by rw [hf]; unfold maxLen; omega) (fun x hx => by have := hm.2.2.2 x (by rw [← hf]; exact hx); unfold maxLen; omega)) fun rs hrs => ?_
  rw [hf] at hrs
  conv => cbv
  exact hK _ (by rw [hrs]; rfl)
theorem validMark_ (k : Int) (c s t : ByteArray) : AC Tryz.prog 117 [.agg [.int .i64 k, .str c, .str s, .str t]] AV.bool (bP (MarkOk k c s t)) := by
  refine ac Tryz.func117 (by kernel_rfl) (.bool _) fun E K hE hK => ?_
  conv => cbv
  refine aeqI hE (fun he => ?_) (fun he => ?_) <;> conv => cbv
  · obtain ⟨e1, e2, e3, e4, _⟩ := he
    exact finB hK (bP_true.2 (.inl ⟨e1, e2, e3, e4⟩))
  · have hnz : ¬ (k = 0 ∧ c = noS ∧ s = noS ∧ t = noS) := fun ⟨a, b, c, d⟩ => he ⟨a, b, c, d, trivial⟩
    refine callP hE (isMarkKind_ k) (fun hk => ?_) (fun hk => ?_) <;> conv => cbv
    · skip
      repeat' first
        | (refine callI hE (markColors_ k) (fun cc hcc => ?_); (try conv => cbv); refine seqI hE (fun hc => ?_) (fun hc => ?_) <;> (try conv => cbv))
        | (refine callI hE (markTop_ k) (fun tt htt => ?_); (try conv => cbv); refine seqI hE (fun ht => ?_) (fun ht => ?_) <;> (try conv => cbv))
        | (refine callP hE (containsStr_ s (by assumption)) (fun hs => ?_) (fun hs => ?_) <;> (try conv => cbv))
        | ((first
       | refine q0 hE ?_
       | refine callR hE (markShapes_ k hk) (fun _ _ => ?_)
       | refine B0 hE ?_|refine B1 hE (fun _=>?_) fun _=>?_|refine B3 hE fun _ _ _=>?_|refine B2 hE fun _ _=>?_|refine B4 hE fun _ _ _ _=>?_) <;> (try conv => cbv))
      all_goals first
        | (refine finB hK (bP_true.2 (.inr ⟨hk, hc.trans hcc, hs, ?_⟩)); first | exact .inl (by assumption) | exact .inr (ht.trans htt))
        | (refine finB hK (bP_false.2 fun h => ?_); rcases h with h | ⟨h1, h2, h3, h4⟩; exact hnz h; first | exact hc (h2.trans hcc.symm) | exact hs h3 | (rcases h4 with h4 | h4; contradiction; exact ht (h4.trans htt.symm)))
        | trace_state
    · refine finB hK (bP_false.2 fun h => ?_)
      rcases h with h | h
      · exact hnz h
      · exact hk h.1
theorem pickS_get {i : Int} {es : List ByteArray} {v : ByteArray} (h0 : 0 ≤ i) (hv : es[i.toNat]? = some v) : v = pickS i es := by
  have := (List.getElem?_eq_some_iff.1 hv).1
  unfold pickS
  rw [if_pos (by omega), List.getD_eq_getElem?_getD, hv]; rfl
theorem mcols_len : mcols.length = 10 := rfl
theorem mtops_len : mtops.length = 10 := rfl
theorem l11Colors_ (k : Int) (h : 1 ≤ k ∧ k ≤ 9) : AC Tryz.prog 190 [.int .i64 k] AV.str (pickS k mcols) := by
  refine ac Tryz.func190 (by kernel_rfl) (.str _) fun E K hE hK => ?_
  conv => cbv
  have h10 := mcols_len
  refine idxL (R := strR) (l := mcols) hE (by rfl) (by omega) fun v hv => ?_
  conv => cbv
  refine idxV (R := strR) (l := mcols) hE (by rfl) (by omega) hv ?_
  conv => cbv
  exact hK _ (by rw [← pickS_get (by omega) hv]; rfl)
theorem l11Topmark_ (k : Int) (h : 1 ≤ k ∧ k ≤ 9) : AC Tryz.prog 191 [.int .i64 k] AV.str (pickS k mtops) := by
  refine ac Tryz.func191 (by kernel_rfl) (.str _) fun E K hE hK => ?_
  conv => cbv
  have h10 := mtops_len
  refine idxL (R := strR) (l := mtops) hE (by rfl) (by omega) fun v hv => ?_
  conv => cbv
  refine idxV (R := strR) (l := mtops) hE (by rfl) (by omega) hv ?_
  conv => cbv
  exact hK _ (by rw [← pickS_get (by omega) hv]; rfl)
theorem l11Shapes_ (k : Int) : AC Tryz.prog 192 [.int .i64 k] (fun l : List ByteArray => .sl true 1 (l.map strR)) (mshapes k) := by
  refine ac Tryz.func192 (by kernel_rfl) (.strs _) fun E K hE hK => ?_
  conv => cbv
  repeat' first
    | ((first
   | refine q0 hE ?_
   | refine B0 hE ?_|refine B1 hE (fun _=>?_) fun _=>?_|refine B3 hE fun _ _ _=>?_|refine B2 hE fun _ _=>?_|refine B4 hE fun _ _ _ _=>?_) <;> (try conv => cbv))
  all_goals (refine hK _ ?_; unfold mshapes; (repeat' first | rw [if_pos (by omega)] | rw [if_neg (by omega)]); rfl)
theorem l11Ok_ (k : Int) (c s t : ByteArray) : AC Tryz.prog 144 [.pp [.int .i64 k, .str c, .str s, .str t]] AV.bool (bP (MarkOk k c s t)) := by
  refine ac Tryz.func144 (by kernel_rfl) (.bool _) fun E K hE hK => ?_
  conv => cbv
  refine eqI hE (fun h0 => ?_) (fun h0 => ?_) <;> conv => cbv
  · refine aeqI hE (fun he => ?_) (fun he => ?_) <;> conv => cbv
    · obtain ⟨e1, e2, e3, e4, _⟩ := he
      exact finB hK (bP_true.2 (.inl ⟨e1, e2, e3, e4⟩))
    · refine finB hK (bP_false.2 fun h => ?_)
      rcases h with ⟨a, b, c, d⟩ | h
      · exact he ⟨a, b, c, d, trivial⟩
      · omega
  · refine callP hE (l11Kind_ k) (fun hk => ?_) (fun hk => ?_) <;> conv => cbv
    · have hno : ∀ {q : Prop}, (c = pickS k mcols → s ∈ mshapes k → (t = noS ∨ t = pickS k mtops) → q) → MarkOk k c s t → q := fun hq h => by
        rcases h with h | ⟨_, h2, h3, h4⟩
        · exact absurd h.1 h0
        · exact hq h2 h3 h4
      repeat' first
        | (refine callI hE (l11Colors_ k hk) (fun cc hcc => ?_); (try conv => cbv); refine seqI hE (fun hc => ?_) (fun hc => ?_) <;> (try conv => cbv))
        | (refine callI hE (l11Topmark_ k hk) (fun tt htt => ?_); (try conv => cbv); refine seqI hE (fun ht => ?_) (fun ht => ?_) <;> (try conv => cbv))
        | (refine callR hE (l11Shapes_ k) (fun rs hrs => ?_); (try conv => cbv); (refine loopC hE (ι := Int) [0, 3] [4] (fun q => (fun (i : Int) => [(4, .int .i64 i)]) q) (fun q => (fun (i : Int) => [.row 1 rs]) q) (fun q => (fun (i : Int) => ((mshapes k).length - i).toNat) q) (fun q => (fun (i : Int) => 0 ≤ i ∧ Up (fun j => ∀ x, (mshapes k)[j]? = some x → ¬ x = s) i) q) [0] (by decide) (0) (by conv => lhs; cbv) (by conv => lhs; cbv) rfl rfl (by dsimp only; exact ⟨by omega, .zero (by omega)⟩) fun i hi2 Kn2 hN2 => ?_; (try dsimp only at hi2); conv => cbv); obtain ⟨hi0, hinv⟩ := hi2)
        | (refine idxL (R := strR) hE hrs (by omega) (fun x hx => ?_); (try conv => cbv); refine seqI hE (fun he => ?_) (fun he => ?_) <;> (try conv => cbv))
        | (refine hN2 _ _ [0] (by decide) rfl ⟨?_, ?_⟩ ?_ <;> (try dsimp only))
        | ((first
       | refine q0 hE ?_
       | refine B0 hE ?_|refine B1 hE (fun _=>?_) fun _=>?_|refine B3 hE fun _ _ _=>?_|refine B2 hE fun _ _=>?_|refine B4 hE fun _ _ _ _=>?_) <;> (try conv => cbv))
      all_goals (try clear hN2)
      all_goals first
        | omega
        | (refine hinv.succ (fun y hy => ?_) (by assumption); rw [hx] at hy; cases hy; exact he)
        | (refine finB hK (bP_true.2 (.inr ⟨hk, hc.trans hcc, by rw [← he]; exact List.mem_of_getElem? hx, ?_⟩)); first | exact .inl (by assumption) | exact .inr (ht.trans htt))
        | (refine finB hK (bP_false.2 (hno fun h2 h3 h4 => ?_)); first | exact hc (h2.trans hcc.symm) | (rcases h4 with h4 | h4; contradiction; exact ht (h4.trans htt.symm)) | (obtain ⟨j, hj⟩ := List.getElem?_of_mem h3; exact hinv j (by have := (List.getElem?_eq_some_iff.1 hj).1; omega) _ hj rfl))
        | trace_state
    · refine finB hK (bP_false.2 fun h => ?_)
      rcases h with h | h
      · exact h0 h.1
      · exact hk h.1
theorem sValidMark_ (k : Int) (c s t : ByteArray) : AC Tryz.prog 102 [.agg [.int .i64 k, .str c, .str s, .str t]] AV.bool (bP (MarkOk k c s t)) := by
  refine ac Tryz.func102 (by kernel_rfl) (.bool _) fun E K hE hK => ?_
  conv => cbv
  repeat' first
    | ((first
   | refine q0 hE ?_
   | refine callP hE (l11Ok_ _ _ _ _) (fun _ => ?_) (fun _ => ?_)
   | refine B0 hE ?_|refine B1 hE (fun _=>?_) fun _=>?_|refine B3 hE fun _ _ _=>?_|refine B2 hE fun _ _=>?_|refine B4 hE fun _ _ _ _=>?_) <;> (try conv => cbv))
  all_goals (try clear hN)
  all_goals first
    | (omega)
    | (refine finB hK (bP_true.2 ?_); first | omega | grind)
    | (refine finB hK (bP_false.2 ?_); first | omega | (intro h; grind))
    | (refine ⟨by omega, Up.succ (by assumption) ?_ (by assumption)⟩; grind)
    | (refine hK _ ?_; simp_all [atup]; done)
    | (grind)
end Go.Proofs.YtoafgafkmeghlaaGreatDoor
