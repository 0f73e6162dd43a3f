/- Contracts: warnings. -/
import Derived.Test.YtffkcjcaeppboacGreatDoorFB
namespace Go.Proofs.YtffkcjcaeppboacGreatDoor
open Go Go.RowKit Classical
set_option maxRecDepth 100000
set_option maxHeartbeats 2000000
set_option linter.unusedVariables false
set_option linter.unusedSimpArgs false
structure War where
  number : Int
  priority : Int
  frm : Int
  til : Int
  atX : Int
  atY : Int
  radius : Int
  words : ByteArray
def War.cs (v : War) : List AV := [.int .i64 v.number, .int .i64 v.priority, .int .i64 v.frm, .int .i64 v.til, .int .i64 v.atX, .int .i64 v.atY, .int .i64 v.radius, .str v.words]
theorem NoB.oWar (v : War) : NoB (.agg v.cs) := (.aggC (.int _ _) (.aggC (.int _ _) (.aggC (.int _ _) (.aggC (.int _ _) (.aggC (.int _ _) (.aggC (.int _ _) (.aggC (.int _ _) (.aggC (.str _) .agg0))))))))
def War.sz (v : War) : Nat := v.words.size
theorem szWarning_ (number : Int) (priority : Int) (frm : Int) (til : Int) (atX : Int) (atY : Int) (radius : Int) (words : ByteArray) (n : Int) (hn : 0 ≤ n ∧ n ≤ 1048576) : AC Tryz.prog 38 [.agg [.int .i64 number, .int .i64 priority, .int .i64 frm, .int .i64 til, .int .i64 atX, .int .i64 atY, .int .i64 radius, .str words], .int .i64 n] (AV.int .i64) (szN n (War.sz ⟨number, priority, frm, til, atX, atY, radius, words⟩)) := by
  refine ac Tryz.func38 (by kernel_rfl) (.int _ _) fun E K hE hK => ?_
  conv => cbv
  repeat' first
    | ((first
   | refine q0 hE ?_
   | refine B0 hE ?_|refine B1 hE (fun _=>?_) fun _=>?_|refine B3 hE fun _ _ _=>?_|refine B2 hE fun _ _=>?_|refine B4 hE fun _ _ _ _=>?_) <;> (try conv => cbv))
  all_goals (refine hK _ ?_; show AV.int _ _ = AV.int _ _; congr 1; unfold szN War.sz; simp only at *; split <;> omega)
theorem szWarningS_ {rs : List (List AV)} {t : Bool} {l : List War} (n : Int) (hl : rs = l.map War.cs) (hn : 0 ≤ n ∧ n ≤ 1048576) : AC Tryz.prog 11 [.sl t 8 rs, .int .i64 n] (AV.int .i64) (szN n (l.length + (l.map War.sz).sum)) := by
  refine ac Tryz.func11 (by kernel_rfl) (.int _ _) fun E K hE hK => ?_
  conv => cbv
  repeat' first
    | ((first
   | refine q0 hE ?_
   | refine B0 hE ?_|refine B1 hE (fun _=>?_) fun _=>?_|refine B3 hE fun _ _ _=>?_|refine B2 hE fun _ _=>?_|refine B4 hE fun _ _ _ _=>?_) <;> (try conv => cbv))
  · refine hK _ ?_
    rw [szN, if_pos (by omega)]; rfl
  · refine loopC hE (ι := Int × Int) [0] [5, 1] (fun q => (fun (i : Int) (m : Int) => [(5, .int .i64 i), (1, .int .i64 m)]) q.1 q.2) (fun q => (fun (i : Int) (m : Int) => []) q.1 q.2) (fun q => (fun (i : Int) (m : Int) => (l.length - i).toNat) q.1 q.2) (fun q => (fun (i : Int) (m : Int) => (0 ≤ i ∧ i ≤ l.length) ∧ (0 ≤ m ∧ m ≤ 1048576) ∧ m + sumTo War.sz l i + l.length = n) q.1 q.2) [] (by decide) ((0, _)) (by conv => lhs; cbv) (by conv => lhs; cbv) rfl rfl (by dsimp only; exact ⟨by omega, by omega, by rw [sumTo_zero (by omega)]; omega⟩) fun q hi Kn hN => ?_
    obtain ⟨i, m⟩ := q
    (try dsimp only at hi)
    conv => cbv
    obtain ⟨⟨h0, h1⟩, h2, h3⟩ := hi
    have hle := sumTo_le War.sz l
    repeat' first
      | (refine idxL hE hl (by omega) (fun v hv => ?_); have hs := sumTo_succ War.sz h0 hv; have hs2 := hle (i + 1); obtain ⟨number, priority, frm, til, atX, atY, radius, words⟩ := v; (try conv => cbv))
      | (refine callI hE (szWarning_ _ _ _ _ _ _ _ _ _ (by omega)) (fun y hy => ?_); have hz := szN_or m (War.sz ⟨number, priority, frm, til, atX, atY, radius, words⟩); rw [← hy] at hz; clear hy; (try conv => cbv))
      | (refine hN (_, _) _ [] (by decide) rfl ⟨?_, ?_, ?_⟩ ?_ <;> (try dsimp only))
      | ((first
     | refine q0 hE ?_
     | refine B0 hE ?_|refine B1 hE (fun _=>?_) fun _=>?_|refine B3 hE fun _ _ _=>?_|refine B2 hE fun _ _=>?_|refine B4 hE fun _ _ _ _=>?_) <;> (try conv => cbv))
    all_goals first
      | omega
      | (refine hK _ ?_; rw [szN_lt (by omega)]; rfl)
      | (rename_i hn2; rw [hn2, hs]; omega)
      | (refine hK _ ?_; have := sumTo_all War.sz l (i := i) (by omega); rw [szN_ge (by omega)]; show AV.int _ _ = AV.int _ _; congr 1; omega)
      | trace_state
theorem toWarning_ (number : Int) (priority : Int) (frm : Int) (til : Int) (atX : Int) (atY : Int) (radius : Int) (words : ByteArray) : AC Tryz.prog 55 [.agg [.int .i64 number, .int .i64 priority, .int .i64 frm, .int .i64 til, .int .i64 atX, .int .i64 atY, .int .i64 radius, .str words]] (fun v : War => .agg v.cs) ⟨number, priority, frm, til, atX, atY, radius, words⟩ := by
  refine ac Tryz.func55 (by kernel_rfl) (.oWar _) fun E K hE hK => ?_
  conv => cbv
  repeat' first
    | ((first
   | refine q0 hE ?_
   | (refine callI hE (toPoint_ _ _) (fun _ hy => ?_); subst hy)
   | refine B0 hE ?_|refine B1 hE (fun _=>?_) fun _=>?_|refine B3 hE fun _ _ _=>?_|refine B2 hE fun _ _=>?_|refine B4 hE fun _ _ _ _=>?_) <;> (try conv => cbv))
  all_goals exact hK _ rfl
theorem toWarningS_ {rs : List (List AV)} {t : Bool} {l : List War} (hl : rs = l.map War.cs) (hb0 : l.length ≤ 1048576) : AC Tryz.prog 17 [.sl t 8 rs] (fun l : List War => .sl true 8 (l.map War.cs)) l := by
  refine ac Tryz.func17 (by kernel_rfl) (.rows .oWar) fun E K hE hK => ?_
  conv => cbv
  refine lenL hE hl fun n hn hb => ?_
  conv => cbv
  refine makeL hE (l := l) War.cs hn rfl (by omega) fun es hes => ?_
  conv => cbv
  refine loopC hE (ι := Int × (List (List AV))) [0] [4, 3] (fun q => (fun (i : Int) (es' : List (List AV)) => [(4, .int .i64 i), (3, .ob 0)]) q.1 q.2) (fun q => (fun (i : Int) (es' : List (List AV)) => [.row 8 es']) q.1 q.2) (fun q => (fun (i : Int) (es' : List (List AV)) => (l.length - i).toNat) q.1 q.2) (fun q => (fun (i : Int) (es' : List (List AV)) => 0 ≤ i ∧ es' = fillRow War.cs [.int .i64 0, .int .i64 0, .int .i64 0, .int .i64 0, .int .i64 0, .int .i64 0, .int .i64 0, .str ⟨#[]⟩] l i) q.1 q.2) [0] (by decide) ((0, es)) (by conv => lhs; cbv) (by conv => lhs; cbv) rfl rfl (by dsimp only; exact ⟨by omega, hes⟩) fun q hi Kn hN => ?_
  obtain ⟨i, es'⟩ := q
  (try dsimp only at hi)
  conv => cbv
  obtain ⟨h0, hinv⟩ := hi
  repeat' first
    | (refine hN (_, _) _ [0] (by decide) rfl ⟨?_, ?_⟩ ?_ <;> (try dsimp only))
    | ((first
   | refine q0 hE ?_
   | (refine idxL (R := War.cs) hE (by assumption) (by first | omega | (simp only [List.length_set, mix_len]; omega)) ?_; rintro ⟨⟩ _)
   | (refine callI hE (toWarning_ _ _ _ _ _ _ _ _) (fun _ hy => ?_); subst hy)
   | refine updFill (R := War.cs) hE (by assumption) (by omega) (by assumption) (by exact Nat.le_refl _) (by rfl) (fun _ _ => ?_)
   | refine B0 hE ?_|refine B1 hE (fun _=>?_) fun _=>?_|refine B3 hE fun _ _ _=>?_|refine B2 hE fun _ _=>?_|refine B4 hE fun _ _ _ _=>?_) <;> (try conv => cbv))
  · omega
  · subst_vars; rfl
  · omega
  · refine hK _ ?_
    rw [hinv, fillRow_all (by omega)]; rfl
theorem eqWarning_ (number : Int) (priority : Int) (frm : Int) (til : Int) (atX : Int) (atY : Int) (radius : Int) (words : ByteArray) (number' : Int) (priority' : Int) (frm' : Int) (til' : Int) (atX' : Int) (atY' : Int) (radius' : Int) (words' : ByteArray) : AC Tryz.prog 86 [.agg [.int .i64 number, .int .i64 priority, .int .i64 frm, .int .i64 til, .int .i64 atX, .int .i64 atY, .int .i64 radius, .str words], .agg [.int .i64 number', .int .i64 priority', .int .i64 frm', .int .i64 til', .int .i64 atX', .int .i64 atY', .int .i64 radius', .str words']] AV.bool (bP ((War.mk number priority frm til atX atY radius words) = (War.mk number' priority' frm' til' atX' atY' radius' words'))) := by
  refine ac Tryz.func86 (by kernel_rfl) (.bool _) fun E K hE hK => ?_
  conv => cbv
  repeat' first
    | ((first
   | refine q0 hE ?_
   | refine callP hE (eqPoint_ _ _ _ _) (fun _ => ?_) (fun _ => ?_)
   | refine B0 hE ?_|refine B1 hE (fun _=>?_) fun _=>?_|refine B3 hE fun _ _ _=>?_|refine B2 hE fun _ _=>?_|refine B4 hE fun _ _ _ _=>?_) <;> (try conv => cbv))
  all_goals first | (refine finB hK (bP_true.2 ?_); simp only [War.mk.injEq, Pnt.mk.injEq] at *; simp_all; done) | (refine finB hK (bP_false.2 ?_); simp only [War.mk.injEq, Pnt.mk.injEq] at *; simp_all; done)
theorem eqWarningS_ {rs rs' : List (List AV)} {t t' : Bool} {l m : List War} (hl : rs = l.map War.cs) (hm : rs' = m.map War.cs) : AC Tryz.prog 27 [.sl t 8 rs, .sl t' 8 rs'] AV.bool (bP (l = m)) := by
  refine ac Tryz.func27 (by kernel_rfl) (.bool _) fun E K hE hK => ?_
  conv => cbv
  refine lenL hE hl fun n hn hb => ?_
  conv => cbv
  refine lenL hE hm fun n' hn' hb' => ?_
  conv => cbv
  refine eqI hE (fun he => ?_) (fun he => ?_) <;> conv => cbv
  · refine loopC hE (ι := Int) [0, 1] [5] (fun q => (fun (i : Int) => [(5, .int .i64 i)]) q) (fun q => (fun (i : Int) => []) q) (fun q => (fun (i : Int) => (l.length - i).toNat) q) (fun q => (fun (i : Int) => 0 ≤ i ∧ Up (fun j => l[j]? = m[j]?) i) q) [] (by decide) (0) (by conv => lhs; cbv) (by conv => lhs; cbv) rfl rfl (by dsimp only; exact ⟨by omega, .zero (by omega)⟩) fun i hi Kn hN => ?_
    (try dsimp only at hi)
    conv => cbv
    obtain ⟨h0, hinv⟩ := hi
    repeat' first
      | (refine hN _ _ [] (by decide) rfl ⟨?_, ?_⟩ ?_ <;> (try dsimp only))
      | ((first
     | refine q0 hE ?_
     | refine callP hE (eqWarning_ _ _ _ _ _ _ _ _ _ _ _ _ _ _ _ _) (fun _ => ?_) (fun _ => ?_)
     | (refine idxL (R := War.cs) hE (by assumption) (by first | omega | (simp only [List.length_set, mix_len]; omega)) ?_; rintro ⟨⟩ _)
     | refine B0 hE ?_|refine B1 hE (fun _=>?_) fun _=>?_|refine B3 hE fun _ _ _=>?_|refine B2 hE fun _ _=>?_|refine B4 hE fun _ _ _ _=>?_) <;> (try conv => cbv))
    · omega
    · refine hinv.succ ?_ (by assumption); clear hN; simp_all
    · omega
    · refine finB hK (bP_false.2 fun h => ?_); clear hN; simp_all
    · exact finB hK (bP_true.2 (list_eq_of (by omega) hinv (by omega)))
  · refine finB hK (bP_false.2 fun h => ?_); subst h; omega
end Go.Proofs.YtffkcjcaeppboacGreatDoor
