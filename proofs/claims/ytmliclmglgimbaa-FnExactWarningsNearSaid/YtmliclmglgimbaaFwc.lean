/- Contracts: warnings in force; the law. -/
import Derived.Test.YtmliclmglgimbaaFwb
namespace Go.Proofs.Ytmliclmglgimbaa
open Go Go.RowKit Classical
set_option maxRecDepth 100000
set_option maxHeartbeats 2000000
set_option linter.unusedVariables false
set_option linter.unusedSimpArgs false
theorem ACM.mono {P : Program} {f : FuncId} {args : List AV} {Q Q' : AV → List AV → Prop} (h : ACM P f args Q) (hq : ∀ r ys, Q r ys → Q' r ys) : ACM P f args Q' :=
  ⟨h.1, fun w A vs F h1 h2 h3 => (h.2 w A vs F h1 h2 h3).mono fun e w' ⟨v, G, r, ys, g0, g⟩ => ⟨v, G, r, ys, hq r ys g0, g⟩⟩
theorem markI_ {rs : List (List AV)} {l : List Int} (k : Int) (hl : rs = l.map intR) (hk0 : 0 ≤ k ∧ k ≤ 1000000000000000) (hb : l.length ≤ 100000000000) : ACM Try.prog 41 [.sl true 1 rs, .int .i64 k] (fun r ys => ∃ (n : Int) (rs' : List (List AV)), n = k + l.length ∧ rs' = (markL l.length k).map intR ∧ r = .int .i64 n ∧ ys = [.sl true 1 rs', .any]) :=
  (markInt64S_ k hl hk0 hb).mono fun r ys ⟨h1, rs', h2, h3⟩ => ⟨_, rs', rfl, h2, h1, h3⟩
def intLI (p : List Int × Int) : AV := .tup [.sl true 1 (p.1.map intR), .int .i64 p.2]
theorem NoB.intLI (p : List Int × Int) : NoB (intLI p) := .tupC (.ints _) (.tupC (.int _ _) .tup0)
noncomputable def actives (l : List War) (t : Int) : List War := rej (fun w => t < w.frm ∨ w.til ≤ t) l
theorem actives_len (l : List War) (t : Int) : (actives l t).length ≤ l.length := rej_len _ _
theorem active1_ (number priority frm til atX atY radius : Int) (words : ByteArray) (t : Int) : AC Try.prog 177 [.agg [.int .i64 number, .int .i64 priority, .int .i64 frm, .int .i64 til, .int .i64 atX, .int .i64 atY, .int .i64 radius, .str words], .pp [.int .i64 t]] AV.bool (bP (t < frm ∨ til ≤ t)) := by
  refine ac Try.func177 (by kernel_rfl) (.bool _) fun E K hE hK => ?_
  conv => cbv
  repeat' first
    | ((first
     | refine idxV hE (by assumption) (by omega) (by assumption) ?_
     | refine ltT hE (by omega) ?_
     | refine ltF hE (by omega) ?_
     | refine ltI hE (fun _ => ?_) (fun _ => ?_)
     | refine leT hE (by omega) ?_
     | refine leF hE (by omega) ?_
     | refine leI hE (fun _ => ?_) (fun _ => ?_)
     | refine eqT hE (by omega) ?_
     | refine eqF hE (by omega) ?_
     | refine eqI hE (fun _ => ?_) (fun _ => ?_)
     | refine add64 hE (by omega) (fun _ _ => ?_)
     | refine sub64 hE (by omega) (fun _ _ => ?_)
     | refine addI hE (fun _ _ => ?_)
     | refine subI hE (fun _ _ => ?_)
     | refine lenL hE (by assumption) (fun _ _ _ => ?_)
     | refine len0 hE (fun _ _ => ?_)
     | refine idxL hE (by assumption) (by first | omega | (simp only [List.length_set, mix_len]; omega)) (fun _ _ => ?_)
     | refine idxFill hE (by assumption) (by omega) ?_
     | refine idxI hE (by decide) (by rfl) ?_
     | refine iteB (fun _ => ?_) (fun _ => ?_)
     | refine maxI hE (fun _ _ => ?_)
     | refine minI hE (fun _ _ => ?_)
     | refine seqI hE (fun _ => ?_) (fun _ => ?_)
     | refine scatI hE (by first | omega | (simp only [ByteArray.size, Array.size, List.length_cons, List.length_nil] at *; omega)) (fun _ _ _ => ?_)
     | refine slenI hE (fun _ _ _ => ?_)
     | refine sidxI hE (by omega) (fun _ _ _ _ => ?_)
     | refine needI hE (by first | decide | omega) ?_
     | refine rem64 hE (by omega) (fun _ _ => ?_)
     | refine quo64 hE (by omega) (fun _ _ => ?_)
     | refine wrapU8 hE (by omega) (fun _ _ => ?_)
     | refine wrap64 hE (by omega) (fun _ _ => ?_)
     | refine noownI hE (by simp [AV.isOwn]) ?_) <;> (try conv => cbv))
  all_goals (try clear hN)
  all_goals first
    | (omega)
    | (refine finB hK (bP_true.2 ?_); first | omega | grind)
    | (refine finB hK (bP_false.2 ?_); first | omega | (intro h; grind))
    | (refine ⟨by omega, Up.succ (by assumption) ?_ (by assumption)⟩; grind)
    | (refine hK _ ?_; simp_all [atup]; done)
    | (grind)
theorem active_ {rs : List (List AV)} {b : Bool} {l : List War} (t : Int) (hl : rs = l.map War.cs) (hb : l.length ≤ 1048576) : AC Try.prog 117 [.sl b 8 rs, .int .i64 t] (fun l : List War => .sl true 8 (l.map War.cs)) (actives l t) := by
  refine ac Try.func117 (by kernel_rfl) (.rows .oWar) fun E K hE hK => ?_
  conv => cbv
  refine callR hE (cloneWarning_ hl hb) fun rs1 h1 => ?_
  conv => cbv
  refine callMI hE (deleteWarning1_ (p := fun w => t < w.frm ∨ w.til ≤ t) h1 hb (fun a b c d e f g h => active1_ a b c d e f g h t)) ?_
  rintro r ys ⟨rs2, h2, rfl, rfl⟩
  conv => cbv
  exact hK _ (by rw [h2]; rfl)
theorem numbersOf_ {rs : List (List AV)} {b : Bool} {l : List War} (hl : rs = l.map War.cs) (hb : l.length ≤ 1048576) : AC Try.prog 116 [.sl b 8 rs] (fun l : List Int => .sl true 1 (l.map intR)) (l.map War.number) := by
  refine ac Try.func116 (by kernel_rfl) (.ints _) fun E K hE hK => ?_
  conv => cbv
  refine lenL hE hl fun n hn hbn => ?_
  conv => cbv
  refine loopC hE (ι := Int × (List (List AV))) [7, 8] [9, 3] (fun q => (fun (i : Int) (es : List (List AV)) => [(9, .int .i64 i), (3, .ob 0)]) q.1 q.2) (fun q => (fun (i : Int) (es : List (List AV)) => [.row 1 es]) q.1 q.2) (fun q => (fun (i : Int) (es : List (List AV)) => (n - i).toNat) q.1 q.2) (fun q => (fun (i : Int) (es : List (List AV)) => (0 ≤ i ∧ i ≤ n) ∧ ∃ m : List Int, es = m.map intR ∧ m = (l.take i.toNat).map War.number) q.1 q.2) [0] (by decide) ((0, [])) (by conv => lhs; cbv) (by conv => lhs; cbv) rfl rfl (by dsimp only; exact ⟨by omega, [], rfl, rfl⟩) fun q hi Kn hN => ?_
  obtain ⟨i, es⟩ := q
  (try dsimp only at hi)
  conv => cbv
  obtain ⟨⟨h0, h1⟩, m, h2, h3⟩ := hi
  have hm : m.length ≤ 1048576 := by rw [h3, List.length_map, List.length_take]; omega
  repeat' first
    | (refine hN (_, _) _ [3] (by decide) rfl ⟨?_, _, by assumption, ?_⟩ ?_ <;> (try dsimp only))
    | ((first
     | refine idxV hE (by assumption) (by omega) (by assumption) ?_
     | (refine idxL (R := War.cs) hE (by assumption) (by first | omega | (simp only [List.length_set, mix_len]; omega)) ?_; rintro ⟨⟩ _)
     | refine catP hE (R := intR) (by assumption) rfl (by omega) (fun _ _ => ?_)
     | refine ltT hE (by omega) ?_
     | refine ltF hE (by omega) ?_
     | refine ltI hE (fun _ => ?_) (fun _ => ?_)
     | refine leT hE (by omega) ?_
     | refine leF hE (by omega) ?_
     | refine leI hE (fun _ => ?_) (fun _ => ?_)
     | refine eqT hE (by omega) ?_
     | refine eqF hE (by omega) ?_
     | refine eqI hE (fun _ => ?_) (fun _ => ?_)
     | refine add64 hE (by omega) (fun _ _ => ?_)
     | refine sub64 hE (by omega) (fun _ _ => ?_)
     | refine addI hE (fun _ _ => ?_)
     | refine subI hE (fun _ _ => ?_)
     | refine lenL hE (by assumption) (fun _ _ _ => ?_)
     | refine len0 hE (fun _ _ => ?_)
     | refine idxL hE (by assumption) (by first | omega | (simp only [List.length_set, mix_len]; omega)) (fun _ _ => ?_)
     | refine idxFill hE (by assumption) (by omega) ?_
     | refine idxI hE (by decide) (by rfl) ?_
     | refine iteB (fun _ => ?_) (fun _ => ?_)
     | refine maxI hE (fun _ _ => ?_)
     | refine minI hE (fun _ _ => ?_)
     | refine seqI hE (fun _ => ?_) (fun _ => ?_)
     | refine scatI hE (by first | omega | (simp only [ByteArray.size, Array.size, List.length_cons, List.length_nil] at *; omega)) (fun _ _ _ => ?_)
     | refine slenI hE (fun _ _ _ => ?_)
     | refine sidxI hE (by omega) (fun _ _ _ _ => ?_)
     | refine needI hE (by first | decide | omega) ?_
     | refine rem64 hE (by omega) (fun _ _ => ?_)
     | refine quo64 hE (by omega) (fun _ _ => ?_)
     | refine wrapU8 hE (by omega) (fun _ _ => ?_)
     | refine wrap64 hE (by omega) (fun _ _ => ?_)
     | refine noownI hE (by simp [AV.isOwn]) ?_) <;> (try conv => cbv))
  all_goals (try clear hN)
  all_goals first
    | omega
    | (rename_i hv _ _ _ hn1; rw [h3, hn1, show (i + 1).toNat = i.toNat + 1 by omega, List.take_add_one, hv]; simp; done)
    | (refine hK _ ?_; rw [h2, h3, List.take_of_length_le (by omega)]; rfl)
    | trace_state
noncomputable def activeR (l : List War) (t : Int) : List Int × Int := if WarnsOk l then (if TimeOk t then ((actives l t).map War.number, 0) else ([], 2)) else ([], 1)
theorem activeR_len (l : List War) (t : Int) : (activeR l t).1.length ≤ l.length := by
  unfold activeR; split <;> (try split) <;> simp [actives_len]
theorem activeWarnings_ {rs : List (List AV)} {b : Bool} {l : List War} (t : Int) (hl : rs = l.map War.cs) (hb : l.length ≤ 1048576) : AC Try.prog 37 [.sl b 8 rs, .int .i64 t] intLI (activeR l t) := by
  refine ac Try.func37 (by kernel_rfl) (.intLI _) fun E K hE hK => ?_
  conv => cbv
  have hal := actives_len l t
  repeat' first
    | ((first
     | refine idxV hE (by assumption) (by omega) (by assumption) ?_
     | refine callP hE (validWarnings_ (by assumption)) (fun _ => ?_) (fun _ => ?_)
     | refine callP hE (isTime_ _) (fun _ => ?_) (fun _ => ?_)
     | refine callR hE (active_ t hl hb) (fun _ _ => ?_)
     | refine callR hE (numbersOf_ (by assumption) (by omega)) (fun _ _ => ?_)
     | refine nilOwnI hE 1 ?_
     | refine ltT hE (by omega) ?_
     | refine ltF hE (by omega) ?_
     | refine ltI hE (fun _ => ?_) (fun _ => ?_)
     | refine leT hE (by omega) ?_
     | refine leF hE (by omega) ?_
     | refine leI hE (fun _ => ?_) (fun _ => ?_)
     | refine eqT hE (by omega) ?_
     | refine eqF hE (by omega) ?_
     | refine eqI hE (fun _ => ?_) (fun _ => ?_)
     | refine add64 hE (by omega) (fun _ _ => ?_)
     | refine sub64 hE (by omega) (fun _ _ => ?_)
     | refine addI hE (fun _ _ => ?_)
     | refine subI hE (fun _ _ => ?_)
     | refine lenL hE (by assumption) (fun _ _ _ => ?_)
     | refine len0 hE (fun _ _ => ?_)
     | refine idxL hE (by assumption) (by first | omega | (simp only [List.length_set, mix_len]; omega)) (fun _ _ => ?_)
     | refine idxFill hE (by assumption) (by omega) ?_
     | refine idxI hE (by decide) (by rfl) ?_
     | refine iteB (fun _ => ?_) (fun _ => ?_)
     | refine maxI hE (fun _ _ => ?_)
     | refine minI hE (fun _ _ => ?_)
     | refine seqI hE (fun _ => ?_) (fun _ => ?_)
     | refine scatI hE (by first | omega | (simp only [ByteArray.size, Array.size, List.length_cons, List.length_nil] at *; omega)) (fun _ _ _ => ?_)
     | refine slenI hE (fun _ _ _ => ?_)
     | refine sidxI hE (by omega) (fun _ _ _ _ => ?_)
     | refine needI hE (by first | decide | omega) ?_
     | refine rem64 hE (by omega) (fun _ _ => ?_)
     | refine quo64 hE (by omega) (fun _ _ => ?_)
     | refine wrapU8 hE (by omega) (fun _ _ => ?_)
     | refine wrap64 hE (by omega) (fun _ _ => ?_)
     | refine noownI hE (by simp [AV.isOwn]) ?_) <;> (try conv => cbv))
  all_goals first
    | (refine hK _ ?_; rw [activeR, if_pos (by assumption), if_pos (by assumption)]; subst_vars; rfl)
    | (refine hK _ ?_; rw [activeR, if_pos (by assumption), if_neg (by assumption)]; rfl)
    | (refine hK _ ?_; rw [activeR, if_neg (by assumption)]; rfl)
    | trace_state
theorem l22Active_ (number priority frm til atX atY radius : Int) (words : ByteArray) (t : Int) : AC Try.prog 112 [.pp [.int .i64 number, .int .i64 priority, .int .i64 frm, .int .i64 til, .int .i64 atX, .int .i64 atY, .int .i64 radius, .str words], .int .i64 t] AV.bool (bP (¬ (t < frm ∨ til ≤ t))) := by
  refine ac Try.func112 (by kernel_rfl) (.bool _) fun E K hE hK => ?_
  conv => cbv
  repeat' first
    | ((first
     | refine idxV hE (by assumption) (by omega) (by assumption) ?_
     | refine ltT hE (by omega) ?_
     | refine ltF hE (by omega) ?_
     | refine ltI hE (fun _ => ?_) (fun _ => ?_)
     | refine leT hE (by omega) ?_
     | refine leF hE (by omega) ?_
     | refine leI hE (fun _ => ?_) (fun _ => ?_)
     | refine eqT hE (by omega) ?_
     | refine eqF hE (by omega) ?_
     | refine eqI hE (fun _ => ?_) (fun _ => ?_)
     | refine add64 hE (by omega) (fun _ _ => ?_)
     | refine sub64 hE (by omega) (fun _ _ => ?_)
     | refine addI hE (fun _ _ => ?_)
     | refine subI hE (fun _ _ => ?_)
     | refine lenL hE (by assumption) (fun _ _ _ => ?_)
     | refine len0 hE (fun _ _ => ?_)
     | refine idxL hE (by assumption) (by first | omega | (simp only [List.length_set, mix_len]; omega)) (fun _ _ => ?_)
     | refine idxFill hE (by assumption) (by omega) ?_
     | refine idxI hE (by decide) (by rfl) ?_
     | refine iteB (fun _ => ?_) (fun _ => ?_)
     | refine maxI hE (fun _ _ => ?_)
     | refine minI hE (fun _ _ => ?_)
     | refine seqI hE (fun _ => ?_) (fun _ => ?_)
     | refine scatI hE (by first | omega | (simp only [ByteArray.size, Array.size, List.length_cons, List.length_nil] at *; omega)) (fun _ _ _ => ?_)
     | refine slenI hE (fun _ _ _ => ?_)
     | refine sidxI hE (by omega) (fun _ _ _ _ => ?_)
     | refine needI hE (by first | decide | omega) ?_
     | refine rem64 hE (by omega) (fun _ _ => ?_)
     | refine quo64 hE (by omega) (fun _ _ => ?_)
     | refine wrapU8 hE (by omega) (fun _ _ => ?_)
     | refine wrap64 hE (by omega) (fun _ _ => ?_)
     | refine noownI hE (by simp [AV.isOwn]) ?_) <;> (try conv => cbv))
  all_goals (try clear hN)
  all_goals first
    | (omega)
    | (refine finB hK (bP_true.2 ?_); first | omega | grind)
    | (refine finB hK (bP_false.2 ?_); first | omega | (intro h; grind))
    | (refine ⟨by omega, Up.succ (by assumption) ?_ (by assumption)⟩; grind)
    | (refine hK _ ?_; simp_all [atup]; done)
    | (grind)
theorem sActiveWarnings_ {rs : List (List AV)} {b : Bool} {l : List War} (t : Int) (hl : rs = l.map War.cs) (hb : l.length ≤ 1048576) : AC Try.prog 35 [.sl b 8 rs, .int .i64 t] intLI (activeR l t) := by
  refine ac Try.func35 (by kernel_rfl) (.intLI _) fun E K hE hK => ?_
  conv => cbv
  refine callP hE (l22Ok_ hl) (fun hok => ?_) (fun hok => ?_) <;> conv => cbv
  · refine callP hE (l20Time_ _) (fun ht => ?_) (fun ht => ?_) <;> conv => cbv
    · refine loopC hE (ι := Int × (List (List AV))) [0, 1] [7, 6] (fun q => (fun (i : Int) (es : List (List AV)) => [(7, .int .i64 i), (6, .ob 0)]) q.1 q.2) (fun q => (fun (i : Int) (es : List (List AV)) => [.row 1 es]) q.1 q.2) (fun q => (fun (i : Int) (es : List (List AV)) => (l.length - i).toNat) q.1 q.2) (fun q => (fun (i : Int) (es : List (List AV)) => (0 ≤ i ∧ i ≤ l.length) ∧ ∃ m : List Int, es = m.map intR ∧ m = (rej (fun w => t < w.frm ∨ w.til ≤ t) (l.take i.toNat)).map War.number) q.1 q.2) [0] (by decide) ((0, [])) (by conv => lhs; cbv) (by conv => lhs; cbv) rfl rfl (by dsimp only; exact ⟨by omega, [], rfl, rfl⟩) fun q hi Kn hN => ?_
      obtain ⟨i, es⟩ := q
      (try dsimp only at hi)
      conv => cbv
      obtain ⟨⟨h0, h1⟩, m, h2, h3⟩ := hi
      have hm : m.length ≤ 1048576 := by
        have := rej_len (fun w : War => t < w.frm ∨ w.til ≤ t) (l.take i.toNat)
        rw [List.length_take] at this
        rw [h3, List.length_map]; omega
      repeat' first
        | (refine idxV hE hl (by omega) (by assumption) ?_; (try conv => cbv))
        | (refine hN (_, _) _ [2] (by decide) rfl ⟨?_, _, by assumption, ?_⟩ ?_ <;> (try dsimp only))
        | (refine hN (_, _) _ [0] (by decide) rfl ⟨?_, _, by assumption, ?_⟩ ?_ <;> (try dsimp only))
        | ((first
         | refine idxV hE (by assumption) (by omega) (by assumption) ?_
         | (refine idxL (R := War.cs) hE (by assumption) (by first | omega | (simp only [List.length_set, mix_len]; omega)) ?_; rintro ⟨⟩ _)
         | refine callP hE (l22Active_ _ _ _ _ _ _ _ _ _) (fun _ => ?_) (fun _ => ?_)
         | refine catP hE (R := intR) (by assumption) rfl (by omega) (fun _ _ => ?_)
         | refine nilOwnI hE 1 ?_
         | refine ltT hE (by omega) ?_
         | refine ltF hE (by omega) ?_
         | refine ltI hE (fun _ => ?_) (fun _ => ?_)
         | refine leT hE (by omega) ?_
         | refine leF hE (by omega) ?_
         | refine leI hE (fun _ => ?_) (fun _ => ?_)
         | refine eqT hE (by omega) ?_
         | refine eqF hE (by omega) ?_
         | refine eqI hE (fun _ => ?_) (fun _ => ?_)
         | refine add64 hE (by omega) (fun _ _ => ?_)
         | refine sub64 hE (by omega) (fun _ _ => ?_)
         | refine addI hE (fun _ _ => ?_)
         | refine subI hE (fun _ _ => ?_)
         | refine lenL hE (by assumption) (fun _ _ _ => ?_)
         | refine len0 hE (fun _ _ => ?_)
         | refine idxL hE (by assumption) (by first | omega | (simp only [List.length_set, mix_len]; omega)) (fun _ _ => ?_)
         | refine idxFill hE (by assumption) (by omega) ?_
         | refine idxI hE (by decide) (by rfl) ?_
         | refine iteB (fun _ => ?_) (fun _ => ?_)
         | refine maxI hE (fun _ _ => ?_)
         | refine minI hE (fun _ _ => ?_)
         | refine seqI hE (fun _ => ?_) (fun _ => ?_)
         | refine scatI hE (by first | omega | (simp only [ByteArray.size, Array.size, List.length_cons, List.length_nil] at *; omega)) (fun _ _ _ => ?_)
         | refine slenI hE (fun _ _ _ => ?_)
         | refine sidxI hE (by omega) (fun _ _ _ _ => ?_)
         | refine needI hE (by first | decide | omega) ?_
         | refine rem64 hE (by omega) (fun _ _ => ?_)
         | refine quo64 hE (by omega) (fun _ _ => ?_)
         | refine wrapU8 hE (by omega) (fun _ _ => ?_)
         | refine wrap64 hE (by omega) (fun _ _ => ?_)
         | refine noownI hE (by simp [AV.isOwn]) ?_) <;> (try conv => cbv))
      all_goals (try clear hN)
      all_goals first
        | omega
        | (have hs := (rej_step (fun w : War => t < w.frm ∨ w.til ≤ t) h0 (by assumption) (by assumption)).2 (by assumption); rw [h3, hs]; simp; done)
        | (have hs := (rej_step (fun w : War => t < w.frm ∨ w.til ≤ t) h0 (by assumption) (by assumption)).1 (Classical.not_not.1 (by assumption)); rw [h3, hs])
        | (refine hK _ ?_; rw [activeR, if_pos (by assumption), if_pos (by assumption)]; rw [List.take_of_length_le (by omega)] at h3; rw [h2, h3]; rfl)
        | trace_state
    · refine nilOwnI hE 1 ?_
      conv => cbv
      refine hK _ ?_
      rw [activeR, if_pos (by assumption), if_neg (by assumption)]; rfl
  · refine nilOwnI hE 1 ?_
    conv => cbv
    refine hK _ ?_
    rw [activeR, if_neg (by assumption)]; rfl
theorem lawActiveWarnings {rs : List (List AV)} {b : Bool} {l : List War} (t : Int) (hl : rs = l.map War.cs) : AC Try.prog 7 [.sl b 8 rs, .int .i64 t] id (.bool true) := by
  refine ac Try.func7 (by kernel_rfl) (.bool _) fun E K hE hK => ?_
  conv => cbv
  have hlen := activeR_len l t
  repeat' first
    | (refine callI hE (szWarningS_ _ hl (by decide)) (fun y hy => ?_); have hz := szN_or 1048576 (l.length + (l.map War.sz).sum); rw [← hy] at hz; clear hy; (try conv => cbv))
    | (refine callMI hE (markWarningS_ _ (by assumption) (by omega) (by omega)) ?_; rintro _ _ ⟨n, rs', hn, hrs', rfl, rfl⟩; conv => cbv)
    | (refine callMI hE (markI_ _ (by assumption) (by omega) (by omega)) ?_; rintro _ _ ⟨n, rs', hn, hrs', rfl, rfl⟩; conv => cbv)
    | ((first
     | refine idxV hE (by assumption) (by omega) (by assumption) ?_
     | refine callR hE (toWarningS_ hl (by omega)) (fun _ _ => ?_)
     | refine callLI hE (sActiveWarnings_ t (by assumption) (by omega)) (fun _ _ _ _ => ?_)
     | refine callLI hE (activeWarnings_ t (by assumption) (by omega)) (fun _ _ _ _ => ?_)
     | refine callPT hE (eqWarningS_ (by assumption) (by assumption)) rfl ?_
     | refine callPT hE (eqInt64S_ (by assumption) (by assumption)) rfl ?_
     | refine sameI hE (by subst_vars; simp [War.mks_len, markL_len]) ?_
     | refine callI hE (heldInt64S_ _ (by assumption) (by omega) (by omega)) (fun _ _ => ?_)
     | refine ltT hE (by omega) ?_
     | refine ltF hE (by omega) ?_
     | refine ltI hE (fun _ => ?_) (fun _ => ?_)
     | refine leT hE (by omega) ?_
     | refine leF hE (by omega) ?_
     | refine leI hE (fun _ => ?_) (fun _ => ?_)
     | refine eqT hE (by omega) ?_
     | refine eqF hE (by omega) ?_
     | refine eqI hE (fun _ => ?_) (fun _ => ?_)
     | refine add64 hE (by omega) (fun _ _ => ?_)
     | refine sub64 hE (by omega) (fun _ _ => ?_)
     | refine addI hE (fun _ _ => ?_)
     | refine subI hE (fun _ _ => ?_)
     | refine lenL hE (by assumption) (fun _ _ _ => ?_)
     | refine len0 hE (fun _ _ => ?_)
     | refine idxL hE (by assumption) (by first | omega | (simp only [List.length_set, mix_len]; omega)) (fun _ _ => ?_)
     | refine idxFill hE (by assumption) (by omega) ?_
     | refine idxI hE (by decide) (by rfl) ?_
     | refine iteB (fun _ => ?_) (fun _ => ?_)
     | refine maxI hE (fun _ _ => ?_)
     | refine minI hE (fun _ _ => ?_)
     | refine seqI hE (fun _ => ?_) (fun _ => ?_)
     | refine scatI hE (by first | omega | (simp only [ByteArray.size, Array.size, List.length_cons, List.length_nil] at *; omega)) (fun _ _ _ => ?_)
     | refine slenI hE (fun _ _ _ => ?_)
     | refine sidxI hE (by omega) (fun _ _ _ _ => ?_)
     | refine needI hE (by first | decide | omega) ?_
     | refine rem64 hE (by omega) (fun _ _ => ?_)
     | refine quo64 hE (by omega) (fun _ _ => ?_)
     | refine wrapU8 hE (by omega) (fun _ _ => ?_)
     | refine wrap64 hE (by omega) (fun _ _ => ?_)
     | refine noownI hE (by simp [AV.isOwn]) ?_) <;> (try conv => cbv))
  all_goals first
    | exact hK _ rfl
    | omega
    | trace_state
end Go.Proofs.Ytmliclmglgimbaa
