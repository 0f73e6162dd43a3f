/- Contracts: warnings. -/
import Derived.Test.YtjenekakcoggpaaFnm
namespace Go.Proofs.Ytjenekakcoggpaa
open Go Go.RowKit Classical
set_option maxRecDepth 100000
set_option maxHeartbeats 2000000
set_option linter.unusedVariables false
set_option linter.unusedSimpArgs false
structure War where
  number : Int
  priority : Int
  frm : Int
  til : Int
  atX : Int
  atY : Int
  radius : Int
  words : ByteArray
def War.cs (v : War) : List AV := [.int .i64 v.number, .int .i64 v.priority, .int .i64 v.frm, .int .i64 v.til, .int .i64 v.atX, .int .i64 v.atY, .int .i64 v.radius, .str v.words]
theorem NoB.oWar (v : War) : NoB (.agg v.cs) := (.aggC (.int _ _) (.aggC (.int _ _) (.aggC (.int _ _) (.aggC (.int _ _) (.aggC (.int _ _) (.aggC (.int _ _) (.aggC (.int _ _) (.aggC (.str _) .agg0))))))))
theorem War.nown (l : List War) : ∀ e ∈ l.map War.cs, ∀ c ∈ e, c.isOwn = false := fun e he c hc => by
  obtain ⟨v, _, rfl⟩ := List.mem_map.1 he
  simp only [War.cs, List.mem_cons, List.not_mem_nil, or_false] at hc
  rcases hc with rfl | rfl | rfl | rfl | rfl | rfl | rfl | rfl <;> rfl
def War.sz (v : War) : Nat := v.words.size
theorem szWarning_ (number : Int) (priority : Int) (frm : Int) (til : Int) (atX : Int) (atY : Int) (radius : Int) (words : ByteArray) (n : Int) (hn : 0 ≤ n ∧ n ≤ 1048576) : AC Try.prog 102 [.agg [.int .i64 number, .int .i64 priority, .int .i64 frm, .int .i64 til, .int .i64 atX, .int .i64 atY, .int .i64 radius, .str words], .int .i64 n] (AV.int .i64) (szN n (War.sz ⟨number, priority, frm, til, atX, atY, radius, words⟩)) := by
  refine ac Try.func102 (by kernel_rfl) (.int _ _) fun E K hE hK => ?_
  conv => cbv
  repeat' first
    | ((first
     | refine idxV hE (by assumption) (by omega) (by assumption) ?_
     | refine ltT hE (by omega) ?_
     | refine ltF hE (by omega) ?_
     | refine ltI hE (fun _ => ?_) (fun _ => ?_)
     | refine leT hE (by omega) ?_
     | refine leF hE (by omega) ?_
     | refine leI hE (fun _ => ?_) (fun _ => ?_)
     | refine eqT hE (by omega) ?_
     | refine eqF hE (by omega) ?_
     | refine eqI hE (fun _ => ?_) (fun _ => ?_)
     | refine add64 hE (by omega) (fun _ _ => ?_)
     | refine sub64 hE (by omega) (fun _ _ => ?_)
     | refine addI hE (fun _ _ => ?_)
     | refine subI hE (fun _ _ => ?_)
     | refine lenL hE (by assumption) (fun _ _ _ => ?_)
     | refine len0 hE (fun _ _ => ?_)
     | refine idxL hE (by assumption) (by first | omega | (simp only [List.length_set, mix_len]; omega)) (fun _ _ => ?_)
     | refine idxFill hE (by assumption) (by omega) ?_
     | refine idxI hE (by decide) (by rfl) ?_
     | refine iteB (fun _ => ?_) (fun _ => ?_)
     | refine maxI hE (fun _ _ => ?_)
     | refine minI hE (fun _ _ => ?_)
     | refine seqI hE (fun _ => ?_) (fun _ => ?_)
     | refine scatI hE (by first | omega | (simp only [ByteArray.size, Array.size, List.length_cons, List.length_nil] at *; omega)) (fun _ _ _ => ?_)
     | refine slenI hE (fun _ _ _ => ?_)
     | refine sidxI hE (by omega) (fun _ _ _ _ => ?_)
     | refine needI hE (by first | decide | omega) ?_
     | refine rem64 hE (by omega) (fun _ _ => ?_)
     | refine quo64 hE (by omega) (fun _ _ => ?_)
     | refine wrapU8 hE (by omega) (fun _ _ => ?_)
     | refine wrap64 hE (by omega) (fun _ _ => ?_)
     | refine noownI hE (by simp [AV.isOwn]) ?_) <;> (try conv => cbv))
  all_goals (refine hK _ ?_; show AV.int _ _ = AV.int _ _; congr 1; unfold szN War.sz; simp only at *; split <;> omega)
theorem szWarningS_ {rs : List (List AV)} {t : Bool} {l : List War} (n : Int) (hl : rs = l.map War.cs) (hn : 0 ≤ n ∧ n ≤ 1048576) : AC Try.prog 41 [.sl t 8 rs, .int .i64 n] (AV.int .i64) (szN n (l.length + (l.map War.sz).sum)) := by
  refine ac Try.func41 (by kernel_rfl) (.int _ _) fun E K hE hK => ?_
  conv => cbv
  repeat' first
    | ((first
     | refine idxV hE (by assumption) (by omega) (by assumption) ?_
     | refine ltT hE (by omega) ?_
     | refine ltF hE (by omega) ?_
     | refine ltI hE (fun _ => ?_) (fun _ => ?_)
     | refine leT hE (by omega) ?_
     | refine leF hE (by omega) ?_
     | refine leI hE (fun _ => ?_) (fun _ => ?_)
     | refine eqT hE (by omega) ?_
     | refine eqF hE (by omega) ?_
     | refine eqI hE (fun _ => ?_) (fun _ => ?_)
     | refine add64 hE (by omega) (fun _ _ => ?_)
     | refine sub64 hE (by omega) (fun _ _ => ?_)
     | refine addI hE (fun _ _ => ?_)
     | refine subI hE (fun _ _ => ?_)
     | refine lenL hE (by assumption) (fun _ _ _ => ?_)
     | refine len0 hE (fun _ _ => ?_)
     | refine idxL hE (by assumption) (by first | omega | (simp only [List.length_set, mix_len]; omega)) (fun _ _ => ?_)
     | refine idxFill hE (by assumption) (by omega) ?_
     | refine idxI hE (by decide) (by rfl) ?_
     | refine iteB (fun _ => ?_) (fun _ => ?_)
     | refine maxI hE (fun _ _ => ?_)
     | refine minI hE (fun _ _ => ?_)
     | refine seqI hE (fun _ => ?_) (fun _ => ?_)
     | refine scatI hE (by first | omega | (simp only [ByteArray.size, Array.size, List.length_cons, List.length_nil] at *; omega)) (fun _ _ _ => ?_)
     | refine slenI hE (fun _ _ _ => ?_)
     | refine sidxI hE (by omega) (fun _ _ _ _ => ?_)
     | refine needI hE (by first | decide | omega) ?_
     | refine rem64 hE (by omega) (fun _ _ => ?_)
     | refine quo64 hE (by omega) (fun _ _ => ?_)
     | refine wrapU8 hE (by omega) (fun _ _ => ?_)
     | refine wrap64 hE (by omega) (fun _ _ => ?_)
     | refine noownI hE (by simp [AV.isOwn]) ?_) <;> (try conv => cbv))
  · refine hK _ ?_
    rw [szN, if_pos (by omega)]; rfl
  · refine loopC hE (ι := Int × Int) [0] [5, 1] (fun q => (fun (i : Int) (m : Int) => [(5, .int .i64 i), (1, .int .i64 m)]) q.1 q.2) (fun q => (fun (i : Int) (m : Int) => []) q.1 q.2) (fun q => (fun (i : Int) (m : Int) => (l.length - i).toNat) q.1 q.2) (fun q => (fun (i : Int) (m : Int) => (0 ≤ i ∧ i ≤ l.length) ∧ (0 ≤ m ∧ m ≤ 1048576) ∧ m + sumTo War.sz l i + l.length = n) q.1 q.2) [] (by decide) ((0, _)) (by conv => lhs; cbv) (by conv => lhs; cbv) rfl rfl (by dsimp only; exact ⟨by omega, by omega, by rw [sumTo_zero (by omega)]; omega⟩) fun q hi Kn hN => ?_
    obtain ⟨i, m⟩ := q
    (try dsimp only at hi)
    conv => cbv
    obtain ⟨⟨h0, h1⟩, h2, h3⟩ := hi
    have hle := sumTo_le War.sz l
    repeat' first
      | (refine idxL hE hl (by omega) (fun v hv => ?_); have hs := sumTo_succ War.sz h0 hv; have hs2 := hle (i + 1); obtain ⟨number, priority, frm, til, atX, atY, radius, words⟩ := v; (try conv => cbv))
      | (refine callI hE (szWarning_ _ _ _ _ _ _ _ _ _ (by omega)) (fun y hy => ?_); have hz := szN_or m (War.sz ⟨number, priority, frm, til, atX, atY, radius, words⟩); rw [← hy] at hz; clear hy; (try conv => cbv))
      | (refine hN (_, _) _ [] (by decide) rfl ⟨?_, ?_, ?_⟩ ?_ <;> (try dsimp only))
      | ((first
       | refine idxV hE (by assumption) (by omega) (by assumption) ?_
       | refine ltT hE (by omega) ?_
       | refine ltF hE (by omega) ?_
       | refine ltI hE (fun _ => ?_) (fun _ => ?_)
       | refine leT hE (by omega) ?_
       | refine leF hE (by omega) ?_
       | refine leI hE (fun _ => ?_) (fun _ => ?_)
       | refine eqT hE (by omega) ?_
       | refine eqF hE (by omega) ?_
       | refine eqI hE (fun _ => ?_) (fun _ => ?_)
       | refine add64 hE (by omega) (fun _ _ => ?_)
       | refine sub64 hE (by omega) (fun _ _ => ?_)
       | refine addI hE (fun _ _ => ?_)
       | refine subI hE (fun _ _ => ?_)
       | refine lenL hE (by assumption) (fun _ _ _ => ?_)
       | refine len0 hE (fun _ _ => ?_)
       | refine idxL hE (by assumption) (by first | omega | (simp only [List.length_set, mix_len]; omega)) (fun _ _ => ?_)
       | refine idxFill hE (by assumption) (by omega) ?_
       | refine idxI hE (by decide) (by rfl) ?_
       | refine iteB (fun _ => ?_) (fun _ => ?_)
       | refine maxI hE (fun _ _ => ?_)
       | refine minI hE (fun _ _ => ?_)
       | refine seqI hE (fun _ => ?_) (fun _ => ?_)
       | refine scatI hE (by first | omega | (simp only [ByteArray.size, Array.size, List.length_cons, List.length_nil] at *; omega)) (fun _ _ _ => ?_)
       | refine slenI hE (fun _ _ _ => ?_)
       | refine sidxI hE (by omega) (fun _ _ _ _ => ?_)
       | refine needI hE (by first | decide | omega) ?_
       | refine rem64 hE (by omega) (fun _ _ => ?_)
       | refine quo64 hE (by omega) (fun _ _ => ?_)
       | refine wrapU8 hE (by omega) (fun _ _ => ?_)
       | refine wrap64 hE (by omega) (fun _ _ => ?_)
       | refine noownI hE (by simp [AV.isOwn]) ?_) <;> (try conv => cbv))
    all_goals first
      | omega
      | (refine hK _ ?_; rw [szN_lt (by omega)]; rfl)
      | (rename_i hn2; rw [hn2, hs]; omega)
      | (refine hK _ ?_; have := sumTo_all War.sz l (i := i) (by omega); rw [szN_ge (by omega)]; show AV.int _ _ = AV.int _ _; congr 1; omega)
      | trace_state
theorem toWarning_ (number : Int) (priority : Int) (frm : Int) (til : Int) (atX : Int) (atY : Int) (radius : Int) (words : ByteArray) : AC Try.prog 106 [.agg [.int .i64 number, .int .i64 priority, .int .i64 frm, .int .i64 til, .int .i64 atX, .int .i64 atY, .int .i64 radius, .str words]] (fun v : War => .agg v.cs) ⟨number, priority, frm, til, atX, atY, radius, words⟩ := by
  refine ac Try.func106 (by kernel_rfl) (.oWar _) fun E K hE hK => ?_
  conv => cbv
  repeat' first
    | ((first
     | refine idxV hE (by assumption) (by omega) (by assumption) ?_
     | (refine callI hE (toPoint_ _ _) (fun _ hy => ?_); subst hy)
     | refine ltT hE (by omega) ?_
     | refine ltF hE (by omega) ?_
     | refine ltI hE (fun _ => ?_) (fun _ => ?_)
     | refine leT hE (by omega) ?_
     | refine leF hE (by omega) ?_
     | refine leI hE (fun _ => ?_) (fun _ => ?_)
     | refine eqT hE (by omega) ?_
     | refine eqF hE (by omega) ?_
     | refine eqI hE (fun _ => ?_) (fun _ => ?_)
     | refine add64 hE (by omega) (fun _ _ => ?_)
     | refine sub64 hE (by omega) (fun _ _ => ?_)
     | refine addI hE (fun _ _ => ?_)
     | refine subI hE (fun _ _ => ?_)
     | refine lenL hE (by assumption) (fun _ _ _ => ?_)
     | refine len0 hE (fun _ _ => ?_)
     | refine idxL hE (by assumption) (by first | omega | (simp only [List.length_set, mix_len]; omega)) (fun _ _ => ?_)
     | refine idxFill hE (by assumption) (by omega) ?_
     | refine idxI hE (by decide) (by rfl) ?_
     | refine iteB (fun _ => ?_) (fun _ => ?_)
     | refine maxI hE (fun _ _ => ?_)
     | refine minI hE (fun _ _ => ?_)
     | refine seqI hE (fun _ => ?_) (fun _ => ?_)
     | refine scatI hE (by first | omega | (simp only [ByteArray.size, Array.size, List.length_cons, List.length_nil] at *; omega)) (fun _ _ _ => ?_)
     | refine slenI hE (fun _ _ _ => ?_)
     | refine sidxI hE (by omega) (fun _ _ _ _ => ?_)
     | refine needI hE (by first | decide | omega) ?_
     | refine rem64 hE (by omega) (fun _ _ => ?_)
     | refine quo64 hE (by omega) (fun _ _ => ?_)
     | refine wrapU8 hE (by omega) (fun _ _ => ?_)
     | refine wrap64 hE (by omega) (fun _ _ => ?_)
     | refine noownI hE (by simp [AV.isOwn]) ?_) <;> (try conv => cbv))
  all_goals exact hK _ rfl
theorem toWarningS_ {rs : List (List AV)} {t : Bool} {l : List War} (hl : rs = l.map War.cs) (hb0 : l.length ≤ 1048576) : AC Try.prog 43 [.sl t 8 rs] (fun l : List War => .sl true 8 (l.map War.cs)) l := by
  refine ac Try.func43 (by kernel_rfl) (.rows .oWar) fun E K hE hK => ?_
  conv => cbv
  refine lenL hE hl fun n hn hb => ?_
  conv => cbv
  refine makeL hE (l := l) War.cs hn rfl (by omega) fun es hes => ?_
  conv => cbv
  refine loopC hE (ι := Int × (List (List AV))) [0] [4, 3] (fun q => (fun (i : Int) (es' : List (List AV)) => [(4, .int .i64 i), (3, .ob 0)]) q.1 q.2) (fun q => (fun (i : Int) (es' : List (List AV)) => [.row 8 es']) q.1 q.2) (fun q => (fun (i : Int) (es' : List (List AV)) => (l.length - i).toNat) q.1 q.2) (fun q => (fun (i : Int) (es' : List (List AV)) => 0 ≤ i ∧ es' = fillRow War.cs [.int .i64 0, .int .i64 0, .int .i64 0, .int .i64 0, .int .i64 0, .int .i64 0, .int .i64 0, .str ⟨#[]⟩] l i) q.1 q.2) [0] (by decide) ((0, es)) (by conv => lhs; cbv) (by conv => lhs; cbv) rfl rfl (by dsimp only; exact ⟨by omega, hes⟩) fun q hi Kn hN => ?_
  obtain ⟨i, es'⟩ := q
  (try dsimp only at hi)
  conv => cbv
  obtain ⟨h0, hinv⟩ := hi
  repeat' first
    | (refine hN (_, _) _ [0] (by decide) rfl ⟨?_, ?_⟩ ?_ <;> (try dsimp only))
    | ((first
     | refine idxV hE (by assumption) (by omega) (by assumption) ?_
     | (refine idxL (R := War.cs) hE (by assumption) (by first | omega | (simp only [List.length_set, mix_len]; omega)) ?_; rintro ⟨⟩ _)
     | (refine callI hE (toWarning_ _ _ _ _ _ _ _ _) (fun _ hy => ?_); subst hy)
     | refine updFill (R := War.cs) hE (by assumption) (by omega) (by assumption) (by exact Nat.le_refl _) (by rfl) (fun _ _ => ?_)
     | refine ltT hE (by omega) ?_
     | refine ltF hE (by omega) ?_
     | refine ltI hE (fun _ => ?_) (fun _ => ?_)
     | refine leT hE (by omega) ?_
     | refine leF hE (by omega) ?_
     | refine leI hE (fun _ => ?_) (fun _ => ?_)
     | refine eqT hE (by omega) ?_
     | refine eqF hE (by omega) ?_
     | refine eqI hE (fun _ => ?_) (fun _ => ?_)
     | refine add64 hE (by omega) (fun _ _ => ?_)
     | refine sub64 hE (by omega) (fun _ _ => ?_)
     | refine addI hE (fun _ _ => ?_)
     | refine subI hE (fun _ _ => ?_)
     | refine lenL hE (by assumption) (fun _ _ _ => ?_)
     | refine len0 hE (fun _ _ => ?_)
     | refine idxL hE (by assumption) (by first | omega | (simp only [List.length_set, mix_len]; omega)) (fun _ _ => ?_)
     | refine idxFill hE (by assumption) (by omega) ?_
     | refine idxI hE (by decide) (by rfl) ?_
     | refine iteB (fun _ => ?_) (fun _ => ?_)
     | refine maxI hE (fun _ _ => ?_)
     | refine minI hE (fun _ _ => ?_)
     | refine seqI hE (fun _ => ?_) (fun _ => ?_)
     | refine scatI hE (by first | omega | (simp only [ByteArray.size, Array.size, List.length_cons, List.length_nil] at *; omega)) (fun _ _ _ => ?_)
     | refine slenI hE (fun _ _ _ => ?_)
     | refine sidxI hE (by omega) (fun _ _ _ _ => ?_)
     | refine needI hE (by first | decide | omega) ?_
     | refine rem64 hE (by omega) (fun _ _ => ?_)
     | refine quo64 hE (by omega) (fun _ _ => ?_)
     | refine wrapU8 hE (by omega) (fun _ _ => ?_)
     | refine wrap64 hE (by omega) (fun _ _ => ?_)
     | refine noownI hE (by simp [AV.isOwn]) ?_) <;> (try conv => cbv))
  · omega
  · subst_vars; rfl
  · omega
  · refine hK _ ?_
    rw [hinv, fillRow_all (by omega)]; rfl
theorem eqWarning_ (number : Int) (priority : Int) (frm : Int) (til : Int) (atX : Int) (atY : Int) (radius : Int) (words : ByteArray) (number' : Int) (priority' : Int) (frm' : Int) (til' : Int) (atX' : Int) (atY' : Int) (radius' : Int) (words' : ByteArray) : AC Try.prog 107 [.agg [.int .i64 number, .int .i64 priority, .int .i64 frm, .int .i64 til, .int .i64 atX, .int .i64 atY, .int .i64 radius, .str words], .agg [.int .i64 number', .int .i64 priority', .int .i64 frm', .int .i64 til', .int .i64 atX', .int .i64 atY', .int .i64 radius', .str words']] AV.bool (bP ((War.mk number priority frm til atX atY radius words) = (War.mk number' priority' frm' til' atX' atY' radius' words'))) := by
  refine ac Try.func107 (by kernel_rfl) (.bool _) fun E K hE hK => ?_
  conv => cbv
  repeat' first
    | ((first
     | refine idxV hE (by assumption) (by omega) (by assumption) ?_
     | refine callP hE (eqPoint_ _ _ _ _) (fun _ => ?_) (fun _ => ?_)
     | refine ltT hE (by omega) ?_
     | refine ltF hE (by omega) ?_
     | refine ltI hE (fun _ => ?_) (fun _ => ?_)
     | refine leT hE (by omega) ?_
     | refine leF hE (by omega) ?_
     | refine leI hE (fun _ => ?_) (fun _ => ?_)
     | refine eqT hE (by omega) ?_
     | refine eqF hE (by omega) ?_
     | refine eqI hE (fun _ => ?_) (fun _ => ?_)
     | refine add64 hE (by omega) (fun _ _ => ?_)
     | refine sub64 hE (by omega) (fun _ _ => ?_)
     | refine addI hE (fun _ _ => ?_)
     | refine subI hE (fun _ _ => ?_)
     | refine lenL hE (by assumption) (fun _ _ _ => ?_)
     | refine len0 hE (fun _ _ => ?_)
     | refine idxL hE (by assumption) (by first | omega | (simp only [List.length_set, mix_len]; omega)) (fun _ _ => ?_)
     | refine idxFill hE (by assumption) (by omega) ?_
     | refine idxI hE (by decide) (by rfl) ?_
     | refine iteB (fun _ => ?_) (fun _ => ?_)
     | refine maxI hE (fun _ _ => ?_)
     | refine minI hE (fun _ _ => ?_)
     | refine seqI hE (fun _ => ?_) (fun _ => ?_)
     | refine scatI hE (by first | omega | (simp only [ByteArray.size, Array.size, List.length_cons, List.length_nil] at *; omega)) (fun _ _ _ => ?_)
     | refine slenI hE (fun _ _ _ => ?_)
     | refine sidxI hE (by omega) (fun _ _ _ _ => ?_)
     | refine needI hE (by first | decide | omega) ?_
     | refine rem64 hE (by omega) (fun _ _ => ?_)
     | refine quo64 hE (by omega) (fun _ _ => ?_)
     | refine wrapU8 hE (by omega) (fun _ _ => ?_)
     | refine wrap64 hE (by omega) (fun _ _ => ?_)
     | refine noownI hE (by simp [AV.isOwn]) ?_) <;> (try conv => cbv))
  all_goals first | (refine finB hK (bP_true.2 ?_); simp only [War.mk.injEq, Pnt.mk.injEq] at *; simp_all; done) | (refine finB hK (bP_false.2 ?_); simp only [War.mk.injEq, Pnt.mk.injEq] at *; simp_all; done)
theorem eqWarningS_ {rs rs' : List (List AV)} {t t' : Bool} {l m : List War} (hl : rs = l.map War.cs) (hm : rs' = m.map War.cs) : AC Try.prog 44 [.sl t 8 rs, .sl t' 8 rs'] AV.bool (bP (l = m)) := by
  refine ac Try.func44 (by kernel_rfl) (.bool _) fun E K hE hK => ?_
  conv => cbv
  refine lenL hE hl fun n hn hb => ?_
  conv => cbv
  refine lenL hE hm fun n' hn' hb' => ?_
  conv => cbv
  refine eqI hE (fun he => ?_) (fun he => ?_) <;> conv => cbv
  · refine loopC hE (ι := Int) [0, 1] [5] (fun q => (fun (i : Int) => [(5, .int .i64 i)]) q) (fun q => (fun (i : Int) => []) q) (fun q => (fun (i : Int) => (l.length - i).toNat) q) (fun q => (fun (i : Int) => 0 ≤ i ∧ Up (fun j => l[j]? = m[j]?) i) q) [] (by decide) (0) (by conv => lhs; cbv) (by conv => lhs; cbv) rfl rfl (by dsimp only; exact ⟨by omega, .zero (by omega)⟩) fun i hi Kn hN => ?_
    (try dsimp only at hi)
    conv => cbv
    obtain ⟨h0, hinv⟩ := hi
    repeat' first
      | (refine hN _ _ [] (by decide) rfl ⟨?_, ?_⟩ ?_ <;> (try dsimp only))
      | ((first
       | refine idxV hE (by assumption) (by omega) (by assumption) ?_
       | refine callP hE (eqWarning_ _ _ _ _ _ _ _ _ _ _ _ _ _ _ _ _) (fun _ => ?_) (fun _ => ?_)
       | (refine idxL (R := War.cs) hE (by assumption) (by first | omega | (simp only [List.length_set, mix_len]; omega)) ?_; rintro ⟨⟩ _)
       | refine ltT hE (by omega) ?_
       | refine ltF hE (by omega) ?_
       | refine ltI hE (fun _ => ?_) (fun _ => ?_)
       | refine leT hE (by omega) ?_
       | refine leF hE (by omega) ?_
       | refine leI hE (fun _ => ?_) (fun _ => ?_)
       | refine eqT hE (by omega) ?_
       | refine eqF hE (by omega) ?_
       | refine eqI hE (fun _ => ?_) (fun _ => ?_)
       | refine add64 hE (by omega) (fun _ _ => ?_)
       | refine sub64 hE (by omega) (fun _ _ => ?_)
       | refine addI hE (fun _ _ => ?_)
       | refine subI hE (fun _ _ => ?_)
       | refine lenL hE (by assumption) (fun _ _ _ => ?_)
       | refine len0 hE (fun _ _ => ?_)
       | refine idxL hE (by assumption) (by first | omega | (simp only [List.length_set, mix_len]; omega)) (fun _ _ => ?_)
       | refine idxFill hE (by assumption) (by omega) ?_
       | refine idxI hE (by decide) (by rfl) ?_
       | refine iteB (fun _ => ?_) (fun _ => ?_)
       | refine maxI hE (fun _ _ => ?_)
       | refine minI hE (fun _ _ => ?_)
       | refine seqI hE (fun _ => ?_) (fun _ => ?_)
       | refine scatI hE (by first | omega | (simp only [ByteArray.size, Array.size, List.length_cons, List.length_nil] at *; omega)) (fun _ _ _ => ?_)
       | refine slenI hE (fun _ _ _ => ?_)
       | refine sidxI hE (by omega) (fun _ _ _ _ => ?_)
       | refine needI hE (by first | decide | omega) ?_
       | refine rem64 hE (by omega) (fun _ _ => ?_)
       | refine quo64 hE (by omega) (fun _ _ => ?_)
       | refine wrapU8 hE (by omega) (fun _ _ => ?_)
       | refine wrap64 hE (by omega) (fun _ _ => ?_)
       | refine noownI hE (by simp [AV.isOwn]) ?_) <;> (try conv => cbv))
    · omega
    · refine hinv.succ ?_ (by assumption); clear hN; simp_all
    · omega
    · refine finB hK (bP_false.2 fun h => ?_); clear hN; simp_all
    · exact finB hK (bP_true.2 (list_eq_of (by omega) hinv (by omega)))
  · refine finB hK (bP_false.2 fun h => ?_); subst h; omega
def War.mk' (k : Int) : War := ⟨k + 0, k + 1, k + 2, k + 3, k + 4, k + 5, k + 6, mText (k + 7)⟩
def War.mks (n : Nat) (k : Int) : List War := (List.range n).map fun i : Nat => War.mk' (k + 8 * (i : Int))
theorem War.mks_len (n : Nat) (k : Int) : (War.mks n k).length = n := by simp [War.mks]
theorem War.mks_get {n : Nat} {k i : Int} {v : War} (h0 : 0 ≤ i) (h : (War.mks n k)[i.toNat]? = some v) : v = War.mk' (k + 8 * i) := by
  unfold War.mks at h
  rw [List.getElem?_map] at h
  by_cases hi : i.toNat < n
  · rw [List.getElem?_range hi] at h
    simp only [Option.map_some, Option.some.injEq] at h
    rw [← h, Int.toNat_of_nonneg h0]
  · rw [List.getElem?_eq_none (by simpa using Nat.le_of_not_lt hi)] at h; cases h
theorem markWarningS_ {rs : List (List AV)} {l : List War} (k : Int) (hl : rs = l.map War.cs) (hk0 : 0 ≤ k ∧ k ≤ 1000000000000000) (hb : l.length ≤ 100000000000) : ACM Try.prog 45 [.sl true 8 rs, .int .i64 k] (fun r ys => ∃ (n : Int) (rs' : List (List AV)), n = k + 8 * l.length ∧ rs' = (War.mks l.length k).map War.cs ∧ r = .int .i64 n ∧ ys = [.sl true 8 rs', .any]) := by
  refine acm 1 Try.func45 (by kernel_rfl) (fun r ys ⟨n, rs', _, h3, h1, h2⟩ => ⟨by rw [h1]; exact .int _ _, by rw [h2, h3]; simp; exact ⟨.rows .oWar, .any⟩⟩) fun E K hE hK => ?_
  conv => cbv
  refine loopC hE (ι := Int × Int × (List (List AV))) [] [5, 1, 0] (fun q => (fun (i : Int) (k' : Int) (es : List (List AV)) => [(5, .int .i64 i), (1, .int .i64 k'), (0, .ob 0)]) q.1 q.2.1 q.2.2) (fun q => (fun (i : Int) (k' : Int) (es : List (List AV)) => [.row 8 es]) q.1 q.2.1 q.2.2) (fun q => (fun (i : Int) (k' : Int) (es : List (List AV)) => (l.length - i).toNat) q.1 q.2.1 q.2.2) (fun q => (fun (i : Int) (k' : Int) (es : List (List AV)) => (0 ≤ i ∧ i ≤ l.length) ∧ k' = k + 8 * i ∧ es = (mix (fun i : Nat => War.mk' (k + 8 * (i : Int))) l i).map War.cs) q.1 q.2.1 q.2.2) [0] (by decide) ((0, k, rs)) (by conv => lhs; cbv) (by conv => lhs; cbv) rfl rfl (by dsimp only; exact ⟨by omega, by omega, by rw [mix_zero (by omega)]; exact hl⟩) fun q hi Kn hN => ?_
  obtain ⟨i, k', es⟩ := q
  (try dsimp only at hi)
  conv => cbv
  obtain ⟨⟨h0, h1⟩, h2, h3⟩ := hi
  have hlen := mix_len (fun i : Nat => War.mk' (k + 8 * (i : Int))) l i
  obtain ⟨L, hL⟩ : ∃ L, L = mix (fun i : Nat => War.mk' (k + 8 * (i : Int))) l i := ⟨_, rfl⟩
  rw [← hL] at h3 hlen
  repeat' first
    | (refine idxS hE (by assumption) (by omega) ?_; (try conv => cbv))
    | (refine hN (_, _, _) _ [0] (by decide) rfl ⟨?_, ?_, ?_⟩ ?_ <;> (try dsimp only))
    | ((first
     | refine idxV hE (by assumption) (by omega) (by assumption) ?_
     | (refine idxL (R := War.cs) hE (by assumption) (by first | omega | (simp only [List.length_set, mix_len]; omega)) ?_; rintro ⟨⟩ _)
     | refine callI hE (markText_ _ (by omega)) (fun _ _ => ?_)
     | refine updS hE (v' := (⟨_, _, _, _, _, _, _, _⟩ : War)) (by assumption) (by omega) (by exact Nat.le_of_ble_eq_true rfl) (by first | rfl | ((conv => lhs; cbv); rfl)) (fun _ _ => ?_)
     | refine updL hE (v' := (⟨_, _, _, _, _, _, _, _⟩ : War)) (by assumption) (by omega) (by assumption) (by exact Nat.le_of_ble_eq_true rfl) (by first | rfl | ((conv => lhs; cbv); rfl)) (fun _ _ => ?_)
     | refine ltT hE (by omega) ?_
     | refine ltF hE (by omega) ?_
     | refine ltI hE (fun _ => ?_) (fun _ => ?_)
     | refine leT hE (by omega) ?_
     | refine leF hE (by omega) ?_
     | refine leI hE (fun _ => ?_) (fun _ => ?_)
     | refine eqT hE (by omega) ?_
     | refine eqF hE (by omega) ?_
     | refine eqI hE (fun _ => ?_) (fun _ => ?_)
     | refine add64 hE (by omega) (fun _ _ => ?_)
     | refine sub64 hE (by omega) (fun _ _ => ?_)
     | refine addI hE (fun _ _ => ?_)
     | refine subI hE (fun _ _ => ?_)
     | refine lenL hE (by assumption) (fun _ _ _ => ?_)
     | refine len0 hE (fun _ _ => ?_)
     | refine idxL hE (by assumption) (by first | omega | (simp only [List.length_set, mix_len]; omega)) (fun _ _ => ?_)
     | refine idxFill hE (by assumption) (by omega) ?_
     | refine idxI hE (by decide) (by rfl) ?_
     | refine iteB (fun _ => ?_) (fun _ => ?_)
     | refine maxI hE (fun _ _ => ?_)
     | refine minI hE (fun _ _ => ?_)
     | refine seqI hE (fun _ => ?_) (fun _ => ?_)
     | refine scatI hE (by first | omega | (simp only [ByteArray.size, Array.size, List.length_cons, List.length_nil] at *; omega)) (fun _ _ _ => ?_)
     | refine slenI hE (fun _ _ _ => ?_)
     | refine sidxI hE (by omega) (fun _ _ _ _ => ?_)
     | refine needI hE (by first | decide | omega) ?_
     | refine rem64 hE (by omega) (fun _ _ => ?_)
     | refine quo64 hE (by omega) (fun _ _ => ?_)
     | refine wrapU8 hE (by omega) (fun _ _ => ?_)
     | refine wrap64 hE (by omega) (fun _ _ => ?_)
     | refine noownI hE (by simp [AV.isOwn]) ?_) <;> (try conv => cbv))
  · omega
  · omega
  · clear hN hK
    rename_i hes _ hfin _ hi1
    rw [hes, hL, mix_set h0 (by omega) (v := _) ?_ hi1]
    clear hL h3 hlen
    subst_vars
    rw [Int.toNat_of_nonneg h0]
    simp only [War.mk', War.mk.injEq, Int.add_zero]
    refine ⟨?_, ?_, ?_, ?_, ?_, ?_, ?_, ?_⟩ <;> first | trivial | omega | rfl | (congr 1; omega)
  · omega
  · have hi : i = l.length := by omega
    refine hK _ _ ⟨k', es, ?_, ?_, rfl, rfl⟩
    · rw [h2, hi]
    · rw [h3, hL, mix_all (by omega)]; rfl
theorem cloneWarning_ {rs : List (List AV)} {t : Bool} {l : List War} (hl : rs = l.map War.cs) (hb0 : l.length ≤ 1048576) : AC Try.prog 122 [.sl t 8 rs] (fun l : List War => .sl true 8 (l.map War.cs)) l := by
  refine ac Try.func122 (by kernel_rfl) (.rows .oWar) fun E K hE hK => ?_
  conv => cbv
  refine lenL hE hl fun n hn hb => ?_
  conv => cbv
  refine makeI hE (by omega) fun es hes => ?_
  conv => cbv
  refine noownI hE (by rw [hl]; exact War.nown l) ?_
  conv => cbv
  refine catL hE (l := []) (R := War.cs) (by rw [hes]; rfl) hl (by simp; omega) fun es2 hes2 => ?_
  conv => cbv
  exact hK _ (by rw [hes2]; rfl)
theorem indexWarning1_ {rs : List (List AV)} {t : Bool} {l : List War} {g : FuncId} {c0 : List AV} {p : War → Prop} (hl : rs = l.map War.cs) (hp : ∀ number priority frm til atX atY radius words, AC Try.prog g (.agg [.int .i64 number, .int .i64 priority, .int .i64 frm, .int .i64 til, .int .i64 atX, .int .i64 atY, .int .i64 radius, .str words] :: [.pp c0]) AV.bool (bP (p ⟨number, priority, frm, til, atX, atY, radius, words⟩))) : AC Try.prog 156 [.sl t 8 rs, .fn g [.pp c0]] (AV.int .i64) (firstI p l) := by
  refine ac Try.func156 (by kernel_rfl) (.int _ _) fun E K hE hK => ?_
  conv => cbv
  refine lenL hE hl fun n hn hb => ?_
  conv => cbv
  refine loopC hE (ι := Int) [0, 1, 7] [8] (fun q => (fun (i : Int) => [(8, .int .i64 i)]) q) (fun q => (fun (i : Int) => []) q) (fun q => (fun (i : Int) => (l.length - i).toNat) q) (fun q => (fun (i : Int) => 0 ≤ i ∧ Up (fun j => ∀ v, l[j]? = some v → ¬ p v) i) q) [] (by decide) (0) (by conv => lhs; cbv) (by conv => lhs; cbv) rfl rfl (by dsimp only; exact ⟨by omega, .zero (by omega)⟩) fun i hi Kn hN => ?_
  (try dsimp only at hi)
  conv => cbv
  obtain ⟨h0, hinv⟩ := hi
  repeat' first
    | (refine hN _ _ [] (by decide) rfl ⟨?_, ?_⟩ ?_ <;> (try dsimp only))
    | ((first
     | refine idxV hE (by assumption) (by omega) (by assumption) ?_
     | refine callP hE (hp _ _ _ _ _ _ _ _) (fun _ => ?_) (fun _ => ?_)
     | (refine idxL (R := War.cs) hE (by assumption) (by first | omega | (simp only [List.length_set, mix_len]; omega)) ?_; rintro ⟨⟩ _)
     | refine ltT hE (by omega) ?_
     | refine ltF hE (by omega) ?_
     | refine ltI hE (fun _ => ?_) (fun _ => ?_)
     | refine leT hE (by omega) ?_
     | refine leF hE (by omega) ?_
     | refine leI hE (fun _ => ?_) (fun _ => ?_)
     | refine eqT hE (by omega) ?_
     | refine eqF hE (by omega) ?_
     | refine eqI hE (fun _ => ?_) (fun _ => ?_)
     | refine add64 hE (by omega) (fun _ _ => ?_)
     | refine sub64 hE (by omega) (fun _ _ => ?_)
     | refine addI hE (fun _ _ => ?_)
     | refine subI hE (fun _ _ => ?_)
     | refine lenL hE (by assumption) (fun _ _ _ => ?_)
     | refine len0 hE (fun _ _ => ?_)
     | refine idxL hE (by assumption) (by first | omega | (simp only [List.length_set, mix_len]; omega)) (fun _ _ => ?_)
     | refine idxFill hE (by assumption) (by omega) ?_
     | refine idxI hE (by decide) (by rfl) ?_
     | refine iteB (fun _ => ?_) (fun _ => ?_)
     | refine maxI hE (fun _ _ => ?_)
     | refine minI hE (fun _ _ => ?_)
     | refine seqI hE (fun _ => ?_) (fun _ => ?_)
     | refine scatI hE (by first | omega | (simp only [ByteArray.size, Array.size, List.length_cons, List.length_nil] at *; omega)) (fun _ _ _ => ?_)
     | refine slenI hE (fun _ _ _ => ?_)
     | refine sidxI hE (by omega) (fun _ _ _ _ => ?_)
     | refine needI hE (by first | decide | omega) ?_
     | refine rem64 hE (by omega) (fun _ _ => ?_)
     | refine quo64 hE (by omega) (fun _ _ => ?_)
     | refine wrapU8 hE (by omega) (fun _ _ => ?_)
     | refine wrap64 hE (by omega) (fun _ _ => ?_)
     | refine noownI hE (by simp [AV.isOwn]) ?_) <;> (try conv => cbv))
  · refine hK _ ?_
    rw [firstI_in h0 (by assumption) (by assumption) hinv]; rfl
  · omega
  · refine hinv.succ ?_ (by assumption)
    clear hN; simp_all
  · omega
  · refine hK _ ?_
    rw [firstI_out (by omega) hinv]; rfl
theorem deleteWarning1_ {rs : List (List AV)} {l : List War} {g : FuncId} {c0 : List AV} {p : War → Prop} (hl : rs = l.map War.cs) (hbl : l.length ≤ 1048576) (hp : ∀ number priority frm til atX atY radius words, AC Try.prog g (.agg [.int .i64 number, .int .i64 priority, .int .i64 frm, .int .i64 til, .int .i64 atX, .int .i64 atY, .int .i64 radius, .str words] :: [.pp c0]) AV.bool (bP (p ⟨number, priority, frm, til, atX, atY, radius, words⟩))) : ACM Try.prog 121 [.sl true 8 rs, .fn g [.pp c0]] (fun r ys => ∃ rs', rs' = (rej p l).map War.cs ∧ r = .sl true 8 rs' ∧ ys = [.any, .any]) := by
  refine acm 1 Try.func121 (by kernel_rfl) (fun r ys ⟨rs', h1, h2, h3⟩ => ⟨by rw [h2, h1]; exact .rows .oWar, by rw [h3]; simp; exact .any⟩) fun E K hE hK => ?_
  conv => cbv
  refine callI hE (indexWarning1_ hl hp) fun y hy => ?_
  conv => cbv
  rcases firstI_spec p l with ⟨g1, g2, ⟨v0, g3, g4⟩, g5⟩ | ⟨g1, g2⟩
  · rw [← hy] at g1 g2 g3 g5
    refine eqF hE (by omega) ?_
    conv => cbv
    refine add64 hE (by omega) fun n1 hn1 => ?_
    conv => cbv
    refine loopC hE (ι := Int × Int × (List (List AV))) [1] [5, 6, 0] (fun q => (fun (i : Int) (j : Int) (es : List (List AV)) => [(5, .int .i64 i), (6, .int .i64 j), (0, .ob 0)]) q.1 q.2.1 q.2.2) (fun q => (fun (i : Int) (j : Int) (es : List (List AV)) => [.row 8 es]) q.1 q.2.1 q.2.2) (fun q => (fun (i : Int) (j : Int) (es : List (List AV)) => (l.length - j).toNat) q.1 q.2.1 q.2.2) (fun q => (fun (i : Int) (j : Int) (es : List (List AV)) => ∃ m : List War, es = m.map War.cs ∧ m.length = l.length ∧ (0 ≤ i ∧ i < j ∧ j ≤ l.length) ∧ m.take i.toNat = (l.take j.toNat).filter (fun v => decide (¬ p v)) ∧ m.drop j.toNat = l.drop j.toNat) q.1 q.2.1 q.2.2) [0] (by decide) ((y, n1, rs)) (by conv => lhs; cbv) (by conv => lhs; cbv) rfl rfl (by dsimp only; exact ⟨l, hl, rfl, by omega, filt_start g1 (by omega) g3 g4 g5, rfl⟩) fun q hi Kn hN => ?_
    obtain ⟨i, j, es⟩ := q
    (try dsimp only at hi)
    conv => cbv
    obtain ⟨m, h2, h3, ⟨h0, h1, h1'⟩, h4, h5⟩ := hi
    have hes : es.length = m.length := by rw [h2]; exact List.length_map ..
    repeat' first
      | (refine idxL hE h2 (by omega) (fun v hv => ?_); have hv2 := filt_get h5 hv; have hv3 := hv; obtain ⟨number, priority, frm, til, atX, atY, radius, words⟩ := v; (try conv => cbv))
      | (refine updL hE (v' := (⟨_, _, _, _, _, _, _, _⟩ : War)) (by assumption) (by omega) (List.getElem?_eq_getElem (by omega)) (by exact Nat.le_of_ble_eq_true rfl) (by first | rfl | ((conv => lhs; cbv); rfl)) (fun _ _ => ?_); (try conv => cbv))
      | (refine hN (_, _, _) _ [0] (by decide) rfl ⟨_, by assumption, ?_, ?_, ?_, ?_⟩ ?_ <;> (try dsimp only))
      | ((first
       | refine idxV hE (by assumption) (by omega) (by assumption) ?_
       | refine callP hE (hp _ _ _ _ _ _ _ _) (fun _ => ?_) (fun _ => ?_)
       | refine subL hE h2 (by simp only [Option.getD_some, Option.getD_none]; omega) (fun _ _ => ?_)
       | refine clrG hE (by omega) (fun es2 hl2 ht2 => ?_)
       | refine subG hE (by simp only [Option.getD_some, Option.getD_none]; omega) (fun _ _ => ?_)
       | refine ltT hE (by omega) ?_
       | refine ltF hE (by omega) ?_
       | refine ltI hE (fun _ => ?_) (fun _ => ?_)
       | refine leT hE (by omega) ?_
       | refine leF hE (by omega) ?_
       | refine leI hE (fun _ => ?_) (fun _ => ?_)
       | refine eqT hE (by omega) ?_
       | refine eqF hE (by omega) ?_
       | refine eqI hE (fun _ => ?_) (fun _ => ?_)
       | refine add64 hE (by omega) (fun _ _ => ?_)
       | refine sub64 hE (by omega) (fun _ _ => ?_)
       | refine addI hE (fun _ _ => ?_)
       | refine subI hE (fun _ _ => ?_)
       | refine lenL hE (by assumption) (fun _ _ _ => ?_)
       | refine len0 hE (fun _ _ => ?_)
       | refine idxL hE (by assumption) (by first | omega | (simp only [List.length_set, mix_len]; omega)) (fun _ _ => ?_)
       | refine idxFill hE (by assumption) (by omega) ?_
       | refine idxI hE (by decide) (by rfl) ?_
       | refine iteB (fun _ => ?_) (fun _ => ?_)
       | refine maxI hE (fun _ _ => ?_)
       | refine minI hE (fun _ _ => ?_)
       | refine seqI hE (fun _ => ?_) (fun _ => ?_)
       | refine scatI hE (by first | omega | (simp only [ByteArray.size, Array.size, List.length_cons, List.length_nil] at *; omega)) (fun _ _ _ => ?_)
       | refine slenI hE (fun _ _ _ => ?_)
       | refine sidxI hE (by omega) (fun _ _ _ _ => ?_)
       | refine needI hE (by first | decide | omega) ?_
       | refine rem64 hE (by omega) (fun _ _ => ?_)
       | refine quo64 hE (by omega) (fun _ _ => ?_)
       | refine wrapU8 hE (by omega) (fun _ _ => ?_)
       | refine wrap64 hE (by omega) (fun _ _ => ?_)
       | refine noownI hE (by simp [AV.isOwn]) ?_) <;> (try conv => cbv))
    all_goals first
      | omega
      | (simp only [List.length_set]; omega)
      | exact hK _ _ ⟨_, filt_done h2 ht2 h4 (by omega) (by assumption), rfl, rfl⟩
      | exact filt_skip (by omega) hv2 (by assumption) (by assumption) h4
      | exact filt_keep (by omega) (by omega) hv2 (by assumption) (by assumption) (by assumption) h4
      | exact filt_drop (by omega) (by assumption) h5
      | exact filt_dropS (by omega) (by assumption) h5
      | trace_state
  · rw [← hy] at g1
    refine eqT hE g1 ?_
    conv => cbv
    exact hK _ _ ⟨rs, by rw [hl, filt_none g2], rfl, rfl⟩
theorem indexWarning2_ {rs : List (List AV)} {t : Bool} {l : List War} {g : FuncId} {c0 : List AV} {c1 : List AV} {p : War → Prop} (hl : rs = l.map War.cs) (hp : ∀ number priority frm til atX atY radius words, AC Try.prog g (.agg [.int .i64 number, .int .i64 priority, .int .i64 frm, .int .i64 til, .int .i64 atX, .int .i64 atY, .int .i64 radius, .str words] :: [.pp c0, .pp c1]) AV.bool (bP (p ⟨number, priority, frm, til, atX, atY, radius, words⟩))) : AC Try.prog 156 [.sl t 8 rs, .fn g [.pp c0, .pp c1]] (AV.int .i64) (firstI p l) := by
  refine ac Try.func156 (by kernel_rfl) (.int _ _) fun E K hE hK => ?_
  conv => cbv
  refine lenL hE hl fun n hn hb => ?_
  conv => cbv
  refine loopC hE (ι := Int) [0, 1, 7] [8] (fun q => (fun (i : Int) => [(8, .int .i64 i)]) q) (fun q => (fun (i : Int) => []) q) (fun q => (fun (i : Int) => (l.length - i).toNat) q) (fun q => (fun (i : Int) => 0 ≤ i ∧ Up (fun j => ∀ v, l[j]? = some v → ¬ p v) i) q) [] (by decide) (0) (by conv => lhs; cbv) (by conv => lhs; cbv) rfl rfl (by dsimp only; exact ⟨by omega, .zero (by omega)⟩) fun i hi Kn hN => ?_
  (try dsimp only at hi)
  conv => cbv
  obtain ⟨h0, hinv⟩ := hi
  repeat' first
    | (refine hN _ _ [] (by decide) rfl ⟨?_, ?_⟩ ?_ <;> (try dsimp only))
    | ((first
     | refine idxV hE (by assumption) (by omega) (by assumption) ?_
     | refine callP hE (hp _ _ _ _ _ _ _ _) (fun _ => ?_) (fun _ => ?_)
     | (refine idxL (R := War.cs) hE (by assumption) (by first | omega | (simp only [List.length_set, mix_len]; omega)) ?_; rintro ⟨⟩ _)
     | refine ltT hE (by omega) ?_
     | refine ltF hE (by omega) ?_
     | refine ltI hE (fun _ => ?_) (fun _ => ?_)
     | refine leT hE (by omega) ?_
     | refine leF hE (by omega) ?_
     | refine leI hE (fun _ => ?_) (fun _ => ?_)
     | refine eqT hE (by omega) ?_
     | refine eqF hE (by omega) ?_
     | refine eqI hE (fun _ => ?_) (fun _ => ?_)
     | refine add64 hE (by omega) (fun _ _ => ?_)
     | refine sub64 hE (by omega) (fun _ _ => ?_)
     | refine addI hE (fun _ _ => ?_)
     | refine subI hE (fun _ _ => ?_)
     | refine lenL hE (by assumption) (fun _ _ _ => ?_)
     | refine len0 hE (fun _ _ => ?_)
     | refine idxL hE (by assumption) (by first | omega | (simp only [List.length_set, mix_len]; omega)) (fun _ _ => ?_)
     | refine idxFill hE (by assumption) (by omega) ?_
     | refine idxI hE (by decide) (by rfl) ?_
     | refine iteB (fun _ => ?_) (fun _ => ?_)
     | refine maxI hE (fun _ _ => ?_)
     | refine minI hE (fun _ _ => ?_)
     | refine seqI hE (fun _ => ?_) (fun _ => ?_)
     | refine scatI hE (by first | omega | (simp only [ByteArray.size, Array.size, List.length_cons, List.length_nil] at *; omega)) (fun _ _ _ => ?_)
     | refine slenI hE (fun _ _ _ => ?_)
     | refine sidxI hE (by omega) (fun _ _ _ _ => ?_)
     | refine needI hE (by first | decide | omega) ?_
     | refine rem64 hE (by omega) (fun _ _ => ?_)
     | refine quo64 hE (by omega) (fun _ _ => ?_)
     | refine wrapU8 hE (by omega) (fun _ _ => ?_)
     | refine wrap64 hE (by omega) (fun _ _ => ?_)
     | refine noownI hE (by simp [AV.isOwn]) ?_) <;> (try conv => cbv))
  · refine hK _ ?_
    rw [firstI_in h0 (by assumption) (by assumption) hinv]; rfl
  · omega
  · refine hinv.succ ?_ (by assumption)
    clear hN; simp_all
  · omega
  · refine hK _ ?_
    rw [firstI_out (by omega) hinv]; rfl
theorem deleteWarning2_ {rs : List (List AV)} {l : List War} {g : FuncId} {c0 : List AV} {c1 : List AV} {p : War → Prop} (hl : rs = l.map War.cs) (hbl : l.length ≤ 1048576) (hp : ∀ number priority frm til atX atY radius words, AC Try.prog g (.agg [.int .i64 number, .int .i64 priority, .int .i64 frm, .int .i64 til, .int .i64 atX, .int .i64 atY, .int .i64 radius, .str words] :: [.pp c0, .pp c1]) AV.bool (bP (p ⟨number, priority, frm, til, atX, atY, radius, words⟩))) : ACM Try.prog 121 [.sl true 8 rs, .fn g [.pp c0, .pp c1]] (fun r ys => ∃ rs', rs' = (rej p l).map War.cs ∧ r = .sl true 8 rs' ∧ ys = [.any, .any]) := by
  refine acm 1 Try.func121 (by kernel_rfl) (fun r ys ⟨rs', h1, h2, h3⟩ => ⟨by rw [h2, h1]; exact .rows .oWar, by rw [h3]; simp; exact .any⟩) fun E K hE hK => ?_
  conv => cbv
  refine callI hE (indexWarning2_ hl hp) fun y hy => ?_
  conv => cbv
  rcases firstI_spec p l with ⟨g1, g2, ⟨v0, g3, g4⟩, g5⟩ | ⟨g1, g2⟩
  · rw [← hy] at g1 g2 g3 g5
    refine eqF hE (by omega) ?_
    conv => cbv
    refine add64 hE (by omega) fun n1 hn1 => ?_
    conv => cbv
    refine loopC hE (ι := Int × Int × (List (List AV))) [1] [5, 6, 0] (fun q => (fun (i : Int) (j : Int) (es : List (List AV)) => [(5, .int .i64 i), (6, .int .i64 j), (0, .ob 0)]) q.1 q.2.1 q.2.2) (fun q => (fun (i : Int) (j : Int) (es : List (List AV)) => [.row 8 es]) q.1 q.2.1 q.2.2) (fun q => (fun (i : Int) (j : Int) (es : List (List AV)) => (l.length - j).toNat) q.1 q.2.1 q.2.2) (fun q => (fun (i : Int) (j : Int) (es : List (List AV)) => ∃ m : List War, es = m.map War.cs ∧ m.length = l.length ∧ (0 ≤ i ∧ i < j ∧ j ≤ l.length) ∧ m.take i.toNat = (l.take j.toNat).filter (fun v => decide (¬ p v)) ∧ m.drop j.toNat = l.drop j.toNat) q.1 q.2.1 q.2.2) [0] (by decide) ((y, n1, rs)) (by conv => lhs; cbv) (by conv => lhs; cbv) rfl rfl (by dsimp only; exact ⟨l, hl, rfl, by omega, filt_start g1 (by omega) g3 g4 g5, rfl⟩) fun q hi Kn hN => ?_
    obtain ⟨i, j, es⟩ := q
    (try dsimp only at hi)
    conv => cbv
    obtain ⟨m, h2, h3, ⟨h0, h1, h1'⟩, h4, h5⟩ := hi
    have hes : es.length = m.length := by rw [h2]; exact List.length_map ..
    repeat' first
      | (refine idxL hE h2 (by omega) (fun v hv => ?_); have hv2 := filt_get h5 hv; have hv3 := hv; obtain ⟨number, priority, frm, til, atX, atY, radius, words⟩ := v; (try conv => cbv))
      | (refine updL hE (v' := (⟨_, _, _, _, _, _, _, _⟩ : War)) (by assumption) (by omega) (List.getElem?_eq_getElem (by omega)) (by exact Nat.le_of_ble_eq_true rfl) (by first | rfl | ((conv => lhs; cbv); rfl)) (fun _ _ => ?_); (try conv => cbv))
      | (refine hN (_, _, _) _ [0] (by decide) rfl ⟨_, by assumption, ?_, ?_, ?_, ?_⟩ ?_ <;> (try dsimp only))
      | ((first
       | refine idxV hE (by assumption) (by omega) (by assumption) ?_
       | refine callP hE (hp _ _ _ _ _ _ _ _) (fun _ => ?_) (fun _ => ?_)
       | refine subL hE h2 (by simp only [Option.getD_some, Option.getD_none]; omega) (fun _ _ => ?_)
       | refine clrG hE (by omega) (fun es2 hl2 ht2 => ?_)
       | refine subG hE (by simp only [Option.getD_some, Option.getD_none]; omega) (fun _ _ => ?_)
       | refine ltT hE (by omega) ?_
       | refine ltF hE (by omega) ?_
       | refine ltI hE (fun _ => ?_) (fun _ => ?_)
       | refine leT hE (by omega) ?_
       | refine leF hE (by omega) ?_
       | refine leI hE (fun _ => ?_) (fun _ => ?_)
       | refine eqT hE (by omega) ?_
       | refine eqF hE (by omega) ?_
       | refine eqI hE (fun _ => ?_) (fun _ => ?_)
       | refine add64 hE (by omega) (fun _ _ => ?_)
       | refine sub64 hE (by omega) (fun _ _ => ?_)
       | refine addI hE (fun _ _ => ?_)
       | refine subI hE (fun _ _ => ?_)
       | refine lenL hE (by assumption) (fun _ _ _ => ?_)
       | refine len0 hE (fun _ _ => ?_)
       | refine idxL hE (by assumption) (by first | omega | (simp only [List.length_set, mix_len]; omega)) (fun _ _ => ?_)
       | refine idxFill hE (by assumption) (by omega) ?_
       | refine idxI hE (by decide) (by rfl) ?_
       | refine iteB (fun _ => ?_) (fun _ => ?_)
       | refine maxI hE (fun _ _ => ?_)
       | refine minI hE (fun _ _ => ?_)
       | refine seqI hE (fun _ => ?_) (fun _ => ?_)
       | refine scatI hE (by first | omega | (simp only [ByteArray.size, Array.size, List.length_cons, List.length_nil] at *; omega)) (fun _ _ _ => ?_)
       | refine slenI hE (fun _ _ _ => ?_)
       | refine sidxI hE (by omega) (fun _ _ _ _ => ?_)
       | refine needI hE (by first | decide | omega) ?_
       | refine rem64 hE (by omega) (fun _ _ => ?_)
       | refine quo64 hE (by omega) (fun _ _ => ?_)
       | refine wrapU8 hE (by omega) (fun _ _ => ?_)
       | refine wrap64 hE (by omega) (fun _ _ => ?_)
       | refine noownI hE (by simp [AV.isOwn]) ?_) <;> (try conv => cbv))
    all_goals first
      | omega
      | (simp only [List.length_set]; omega)
      | exact hK _ _ ⟨_, filt_done h2 ht2 h4 (by omega) (by assumption), rfl, rfl⟩
      | exact filt_skip (by omega) hv2 (by assumption) (by assumption) h4
      | exact filt_keep (by omega) (by omega) hv2 (by assumption) (by assumption) (by assumption) h4
      | exact filt_drop (by omega) (by assumption) h5
      | exact filt_dropS (by omega) (by assumption) h5
      | trace_state
  · rw [← hy] at g1
    refine eqT hE g1 ?_
    conv => cbv
    exact hK _ _ ⟨rs, by rw [hl, filt_none g2], rfl, rfl⟩
end Go.Proofs.Ytjenekakcoggpaa
