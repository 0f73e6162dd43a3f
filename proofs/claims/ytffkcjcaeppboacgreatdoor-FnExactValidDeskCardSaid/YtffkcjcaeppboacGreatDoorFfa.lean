/- Contracts: faults. -/
import Derived.Test.YtffkcjcaeppboacGreatDoorFB
namespace Go.Proofs.YtffkcjcaeppboacGreatDoor
open Go Go.RowKit Classical
set_option maxRecDepth 100000
set_option maxHeartbeats 2000000
set_option linter.unusedVariables false
set_option linter.unusedSimpArgs false
structure Fau where
  aid : Int
  kind : Int
  frm : Int
  til : Int
def Fau.cs (v : Fau) : List AV := [.int .i64 v.aid, .int .i64 v.kind, .int .i64 v.frm, .int .i64 v.til]
theorem NoB.oFau (v : Fau) : NoB (.agg v.cs) := (.aggC (.int _ _) (.aggC (.int _ _) (.aggC (.int _ _) (.aggC (.int _ _) .agg0))))
theorem szFaultS_ {rs : List (List AV)} {t : Bool} {l : List Fau} (n : Int) (hl : rs = l.map Fau.cs) (hn : 0 ≤ n ∧ n ≤ 1048576) : AC Tryz.prog 10 [.sl t 4 rs, .int .i64 n] (AV.int .i64) (szN n l.length) := by
  refine ac Tryz.func10 (by kernel_rfl) (.int _ _) fun E K hE hK => ?_
  conv => cbv
  repeat' first
    | ((first
   | refine q0 hE ?_
   | refine B0 hE ?_|refine B1 hE (fun _=>?_) fun _=>?_|refine B3 hE fun _ _ _=>?_|refine B2 hE fun _ _=>?_|refine B4 hE fun _ _ _ _=>?_) <;> (try conv => cbv))
  all_goals (try clear hN)
  all_goals (refine hK _ ?_; first | (simp only [atup]; grind [szN]) | (simp_all [atup, szN]; done))
theorem toFault_ (aid : Int) (kind : Int) (frm : Int) (til : Int) : AC Tryz.prog 54 [.agg [.int .i64 aid, .int .i64 kind, .int .i64 frm, .int .i64 til]] (fun v : Fau => .agg v.cs) ⟨aid, kind, frm, til⟩ := by
  refine ac Tryz.func54 (by kernel_rfl) (.oFau _) fun E K hE hK => ?_
  conv => cbv
  exact hK _ rfl
theorem toFaultS_ {rs : List (List AV)} {t : Bool} {l : List Fau} (hl : rs = l.map Fau.cs) (hb0 : l.length ≤ 1048576) : AC Tryz.prog 16 [.sl t 4 rs] (fun l : List Fau => .sl true 4 (l.map Fau.cs)) l := by
  refine ac Tryz.func16 (by kernel_rfl) (.rows .oFau) fun E K hE hK => ?_
  conv => cbv
  refine lenL hE hl fun n hn hb => ?_
  conv => cbv
  refine makeL hE (l := l) Fau.cs hn rfl (by omega) fun es hes => ?_
  conv => cbv
  refine loopC hE (ι := Int × (List (List AV))) [0] [4, 3] (fun q => (fun (i : Int) (es' : List (List AV)) => [(4, .int .i64 i), (3, .ob 0)]) q.1 q.2) (fun q => (fun (i : Int) (es' : List (List AV)) => [.row 4 es']) q.1 q.2) (fun q => (fun (i : Int) (es' : List (List AV)) => (l.length - i).toNat) q.1 q.2) (fun q => (fun (i : Int) (es' : List (List AV)) => 0 ≤ i ∧ es' = fillRow Fau.cs [.int .i64 0, .int .i64 0, .int .i64 0, .int .i64 0] l i) q.1 q.2) [0] (by decide) ((0, es)) (by conv => lhs; cbv) (by conv => lhs; cbv) rfl rfl (by dsimp only; exact ⟨by omega, hes⟩) fun q hi Kn hN => ?_
  obtain ⟨i, es'⟩ := q
  (try dsimp only at hi)
  conv => cbv
  obtain ⟨h0, hinv⟩ := hi
  repeat' first
    | (refine hN (_, _) _ [0] (by decide) rfl ⟨?_, ?_⟩ ?_ <;> (try dsimp only))
    | ((first
   | refine q0 hE ?_
   | (refine idxL (R := Fau.cs) hE (by assumption) (by first | omega | (simp only [List.length_set, mix_len]; omega)) ?_; rintro ⟨⟩ _)
   | (refine callI hE (toFault_ _ _ _ _) (fun _ hy => ?_); subst hy)
   | refine updFill (R := Fau.cs) hE (by assumption) (by omega) (by assumption) (by exact Nat.le_refl _) (by rfl) (fun _ _ => ?_)
   | refine B0 hE ?_|refine B1 hE (fun _=>?_) fun _=>?_|refine B3 hE fun _ _ _=>?_|refine B2 hE fun _ _=>?_|refine B4 hE fun _ _ _ _=>?_) <;> (try conv => cbv))
  · omega
  · subst_vars; rfl
  · omega
  · refine hK _ ?_
    rw [hinv, fillRow_all (by omega)]; rfl
theorem eqFault_ (aid : Int) (kind : Int) (frm : Int) (til : Int) (aid' : Int) (kind' : Int) (frm' : Int) (til' : Int) : AC Tryz.prog 85 [.agg [.int .i64 aid, .int .i64 kind, .int .i64 frm, .int .i64 til], .agg [.int .i64 aid', .int .i64 kind', .int .i64 frm', .int .i64 til']] AV.bool (bP ((Fau.mk aid kind frm til) = (Fau.mk aid' kind' frm' til'))) := by
  refine ac Tryz.func85 (by kernel_rfl) (.bool _) fun E K hE hK => ?_
  conv => cbv
  repeat' first
    | ((first
   | refine q0 hE ?_
   | refine B0 hE ?_|refine B1 hE (fun _=>?_) fun _=>?_|refine B3 hE fun _ _ _=>?_|refine B2 hE fun _ _=>?_|refine B4 hE fun _ _ _ _=>?_) <;> (try conv => cbv))
  all_goals first | (refine finB hK (bP_true.2 ?_); simp only [Fau.mk.injEq, Pnt.mk.injEq] at *; simp_all; done) | (refine finB hK (bP_false.2 ?_); simp only [Fau.mk.injEq, Pnt.mk.injEq] at *; simp_all; done)
theorem eqFaultS_ {rs rs' : List (List AV)} {t t' : Bool} {l m : List Fau} (hl : rs = l.map Fau.cs) (hm : rs' = m.map Fau.cs) : AC Tryz.prog 26 [.sl t 4 rs, .sl t' 4 rs'] AV.bool (bP (l = m)) := by
  refine ac Tryz.func26 (by kernel_rfl) (.bool _) fun E K hE hK => ?_
  conv => cbv
  refine lenL hE hl fun n hn hb => ?_
  conv => cbv
  refine lenL hE hm fun n' hn' hb' => ?_
  conv => cbv
  refine eqI hE (fun he => ?_) (fun he => ?_) <;> conv => cbv
  · refine loopC hE (ι := Int) [0, 1] [5] (fun q => (fun (i : Int) => [(5, .int .i64 i)]) q) (fun q => (fun (i : Int) => []) q) (fun q => (fun (i : Int) => (l.length - i).toNat) q) (fun q => (fun (i : Int) => 0 ≤ i ∧ Up (fun j => l[j]? = m[j]?) i) q) [] (by decide) (0) (by conv => lhs; cbv) (by conv => lhs; cbv) rfl rfl (by dsimp only; exact ⟨by omega, .zero (by omega)⟩) fun i hi Kn hN => ?_
    (try dsimp only at hi)
    conv => cbv
    obtain ⟨h0, hinv⟩ := hi
    repeat' first
      | (refine hN _ _ [] (by decide) rfl ⟨?_, ?_⟩ ?_ <;> (try dsimp only))
      | ((first
     | refine q0 hE ?_
     | refine callP hE (eqFault_ _ _ _ _ _ _ _ _) (fun _ => ?_) (fun _ => ?_)
     | (refine idxL (R := Fau.cs) hE (by assumption) (by first | omega | (simp only [List.length_set, mix_len]; omega)) ?_; rintro ⟨⟩ _)
     | refine B0 hE ?_|refine B1 hE (fun _=>?_) fun _=>?_|refine B3 hE fun _ _ _=>?_|refine B2 hE fun _ _=>?_|refine B4 hE fun _ _ _ _=>?_) <;> (try conv => cbv))
    · omega
    · refine hinv.succ ?_ (by assumption); clear hN; simp_all
    · omega
    · refine finB hK (bP_false.2 fun h => ?_); clear hN; simp_all
    · exact finB hK (bP_true.2 (list_eq_of (by omega) hinv (by omega)))
  · refine finB hK (bP_false.2 fun h => ?_); subst h; omega
theorem indexFaultb_ {rs : List (List AV)} {t : Bool} {l : List Fau} {g : FuncId} {c0 : List AV} {p : Fau → Prop} (hl : rs = l.map Fau.cs) (hp : ∀ aid kind frm til, AC Tryz.prog g [.agg c0, .agg [.int .i64 aid, .int .i64 kind, .int .i64 frm, .int .i64 til]] AV.bool (bP (p ⟨aid, kind, frm, til⟩))) : AC Tryz.prog 137 [.sl t 4 rs, .fb g c0] (AV.int .i64) (firstI p l) := by
  refine ac Tryz.func137 (by kernel_rfl) (.int _ _) fun E K hE hK => ?_
  conv => cbv
  refine lenL hE hl fun n hn hb => ?_
  conv => cbv
  refine loopC hE (ι := Int) [0, 1, 7] [8] (fun q => (fun (i : Int) => [(8, .int .i64 i)]) q) (fun q => (fun (i : Int) => []) q) (fun q => (fun (i : Int) => (l.length - i).toNat) q) (fun q => (fun (i : Int) => 0 ≤ i ∧ Up (fun j => ∀ v, l[j]? = some v → ¬ p v) i) q) [] (by decide) (0) (by conv => lhs; cbv) (by conv => lhs; cbv) rfl rfl (by dsimp only; exact ⟨by omega, .zero (by omega)⟩) fun i hi Kn hN => ?_
  (try dsimp only at hi)
  conv => cbv
  obtain ⟨h0, hinv⟩ := hi
  repeat' first
    | (refine hN _ _ [] (by decide) rfl ⟨?_, ?_⟩ ?_ <;> (try dsimp only))
    | ((first
   | refine q0 hE ?_
   | refine callP hE (hp _ _ _ _) (fun _ => ?_) (fun _ => ?_)
   | (refine idxL (R := Fau.cs) hE (by assumption) (by first | omega | (simp only [List.length_set, mix_len]; omega)) ?_; rintro ⟨⟩ _)
   | refine B0 hE ?_|refine B1 hE (fun _=>?_) fun _=>?_|refine B3 hE fun _ _ _=>?_|refine B2 hE fun _ _=>?_|refine B4 hE fun _ _ _ _=>?_) <;> (try conv => cbv))
  · refine hK _ ?_
    rw [firstI_in h0 (by assumption) (by assumption) hinv]; rfl
  · omega
  · refine hinv.succ ?_ (by assumption)
    clear hN; simp_all
  · omega
  · refine hK _ ?_
    rw [firstI_out (by omega) hinv]; rfl
theorem containsFaultb_ {rs : List (List AV)} {t : Bool} {l : List Fau} {g : FuncId} {c0 : List AV} {p : Fau → Prop} (hl : rs = l.map Fau.cs) (hp : ∀ aid kind frm til, AC Tryz.prog g [.agg c0, .agg [.int .i64 aid, .int .i64 kind, .int .i64 frm, .int .i64 til]] AV.bool (bP (p ⟨aid, kind, frm, til⟩))) : AC Tryz.prog 69 [.sl t 4 rs, .fb g c0] AV.bool (bP (∃ v ∈ l, p v)) := by
  refine ac Tryz.func69 (by kernel_rfl) (.bool _) fun E K hE hK => ?_
  conv => cbv
  refine callI hE (indexFaultb_ hl hp) fun y hy => ?_
  conv => cbv
  refine leI hE (fun h => ?_) (fun h => ?_) <;> conv => cbv
  · exact finB hK (bP_true.2 (firstI_ge.1 (by omega)))
  · exact finB hK (bP_false.2 fun h' => by have := firstI_ge.2 h'; omega)
theorem isFaultKind_ (n : Int) : AC Tryz.prog 133 [.int .i64 n] AV.bool (bP (1 ≤ n ∧ n ≤ 4)) := by
  refine ac Tryz.func133 (by kernel_rfl) (.bool _) fun E K hE hK => ?_
  conv => cbv
  repeat' first
    | ((first
   | refine q0 hE ?_
   | refine callP hE (within_ _ _ _) (fun _ => ?_) (fun _ => ?_)
   | refine B0 hE ?_|refine B1 hE (fun _=>?_) fun _=>?_|refine B3 hE fun _ _ _=>?_|refine B2 hE fun _ _=>?_|refine B4 hE fun _ _ _ _=>?_) <;> (try conv => cbv))
  all_goals (try clear hN)
  all_goals first
    | (omega)
    | (refine finB hK (bP_true.2 ?_); first | omega | grind)
    | (refine finB hK (bP_false.2 ?_); first | omega | (intro h; grind))
    | (refine ⟨by omega, Up.succ (by assumption) ?_ (by assumption)⟩; grind)
    | (refine hK _ ?_; simp_all [atup]; done)
    | (grind)
theorem l20Kind_ (n : Int) : AC Tryz.prog 166 [.int .i64 n] AV.bool (bP (1 ≤ n ∧ n ≤ 4)) := by
  refine ac Tryz.func166 (by kernel_rfl) (.bool _) fun E K hE hK => ?_
  conv => cbv
  repeat' first
    | ((first
   | refine q0 hE ?_
   | refine callP hE (in_ _ _ _) (fun _ => ?_) (fun _ => ?_)
   | refine B0 hE ?_|refine B1 hE (fun _=>?_) fun _=>?_|refine B3 hE fun _ _ _=>?_|refine B2 hE fun _ _=>?_|refine B4 hE fun _ _ _ _=>?_) <;> (try conv => cbv))
  all_goals (try clear hN)
  all_goals first
    | (omega)
    | (refine finB hK (bP_true.2 ?_); first | omega | grind)
    | (refine finB hK (bP_false.2 ?_); first | omega | (intro h; grind))
    | (refine ⟨by omega, Up.succ (by assumption) ?_ (by assumption)⟩; grind)
    | (refine hK _ ?_; simp_all [atup]; done)
    | (grind)
def Fau.ok (v : Fau) : Prop := (1 ≤ v.aid ∧ v.aid ≤ 9999) ∧ (1 ≤ v.kind ∧ v.kind ≤ 4) ∧ TimeOk v.frm ∧ (v.til = -1 ∨ TimeOk v.til ∧ v.frm < v.til)
def Fau.end_ (v : Fau) : Int := if v.til = -1 then 144000000 else v.til
def Fau.meets (f g : Fau) : Prop := f.aid = g.aid ∧ f.kind = g.kind ∧ max f.frm g.frm < min f.end_ g.end_
theorem fauValid_ (aid kind frm til : Int) : AC Tryz.prog 67 [.agg [.int .i64 aid, .int .i64 kind, .int .i64 frm, .int .i64 til]] AV.bool (bP (Fau.ok ⟨aid, kind, frm, til⟩)) := by
  refine ac Tryz.func67 (by kernel_rfl) (.bool _) fun E K hE hK => ?_
  conv => cbv
  repeat' first
    | (refine callP hE (isTime_ _) (fun ht => ?_) (fun _ => ?_) <;> (try unfold TimeOk at ht) <;> (try conv => cbv))
    | ((first
   | refine q0 hE ?_
   | refine callP hE (isNumber_ _) (fun _ => ?_) (fun _ => ?_)
   | refine callP hE (isFaultKind_ _) (fun _ => ?_) (fun _ => ?_)
   | refine callP hE (within_ _ _ _) (fun _ => ?_) (fun _ => ?_)
   | refine B0 hE ?_|refine B1 hE (fun _=>?_) fun _=>?_|refine B3 hE fun _ _ _=>?_|refine B2 hE fun _ _=>?_|refine B4 hE fun _ _ _ _=>?_) <;> (try conv => cbv))
  all_goals first
    | (refine finB hK (bP_true.2 ?_); simp only [Fau.ok, TimeOk]; omega)
    | (refine finB hK (bP_false.2 fun h => ?_); simp only [Fau.ok, TimeOk] at *; omega)
    | trace_state
theorem l20One_ (aid kind frm til : Int) : AC Tryz.prog 104 [.pp [.int .i64 aid, .int .i64 kind, .int .i64 frm, .int .i64 til]] AV.bool (bP (Fau.ok ⟨aid, kind, frm, til⟩)) := by
  refine ac Tryz.func104 (by kernel_rfl) (.bool _) fun E K hE hK => ?_
  conv => cbv
  repeat' first
    | (refine callP hE (l20Time_ _) (fun ht => ?_) (fun _ => ?_) <;> (try unfold TimeOk at ht) <;> (try conv => cbv))
    | ((first
   | refine q0 hE ?_
   | refine callP hE (l20Number_ _) (fun _ => ?_) (fun _ => ?_)
   | refine callP hE (l20Kind_ _) (fun _ => ?_) (fun _ => ?_)
   | refine B0 hE ?_|refine B1 hE (fun _=>?_) fun _=>?_|refine B3 hE fun _ _ _=>?_|refine B2 hE fun _ _=>?_|refine B4 hE fun _ _ _ _=>?_) <;> (try conv => cbv))
  all_goals first
    | (refine finB hK (bP_true.2 ?_); simp only [Fau.ok, TimeOk]; omega)
    | (refine finB hK (bP_false.2 fun h => ?_); simp only [Fau.ok, TimeOk] at *; omega)
    | trace_state
theorem fauEnd_ (aid kind frm til : Int) : AC Tryz.prog 138 [.agg [.int .i64 aid, .int .i64 kind, .int .i64 frm, .int .i64 til]] (AV.int .i64) (Fau.end_ ⟨aid, kind, frm, til⟩) := by
  refine ac Tryz.func138 (by kernel_rfl) (.int _ _) fun E K hE hK => ?_
  conv => cbv
  repeat' first
    | ((first
   | refine q0 hE ?_
   | refine B0 hE ?_|refine B1 hE (fun _=>?_) fun _=>?_|refine B3 hE fun _ _ _=>?_|refine B2 hE fun _ _=>?_|refine B4 hE fun _ _ _ _=>?_) <;> (try conv => cbv))
  all_goals (refine hK _ ?_; unfold Fau.end_; simp only [atup]; first | (rw [if_pos (by assumption)]; done) | (rw [if_neg (by assumption)]; done) | trace_state)
theorem l20End_ (aid kind frm til : Int) : AC Tryz.prog 106 [.pp [.int .i64 aid, .int .i64 kind, .int .i64 frm, .int .i64 til]] (AV.int .i64) (Fau.end_ ⟨aid, kind, frm, til⟩) := by
  refine ac Tryz.func106 (by kernel_rfl) (.int _ _) fun E K hE hK => ?_
  conv => cbv
  repeat' first
    | ((first
   | refine q0 hE ?_
   | refine B0 hE ?_|refine B1 hE (fun _=>?_) fun _=>?_|refine B3 hE fun _ _ _=>?_|refine B2 hE fun _ _=>?_|refine B4 hE fun _ _ _ _=>?_) <;> (try conv => cbv))
  all_goals (refine hK _ ?_; unfold Fau.end_; simp only [atup]; first | (rw [if_pos (by assumption)]; done) | (rw [if_neg (by assumption)]; done) | trace_state)
theorem fauMeets_ (aid kind frm til aid' kind' frm' til' : Int) : AC Tryz.prog 70 [.agg [.int .i64 aid, .int .i64 kind, .int .i64 frm, .int .i64 til], .agg [.int .i64 aid', .int .i64 kind', .int .i64 frm', .int .i64 til']] AV.bool (bP (Fau.meets ⟨aid, kind, frm, til⟩ ⟨aid', kind', frm', til'⟩)) := by
  refine ac Tryz.func70 (by kernel_rfl) (.bool _) fun E K hE hK => ?_
  conv => cbv
  repeat' first
    | ((first
   | refine q0 hE ?_
   | refine callI hE (fauEnd_ _ _ _ _) (fun _ _ => ?_)
   | refine B0 hE ?_|refine B1 hE (fun _=>?_) fun _=>?_|refine B3 hE fun _ _ _=>?_|refine B2 hE fun _ _=>?_|refine B4 hE fun _ _ _ _=>?_) <;> (try conv => cbv))
  all_goals first
    | (refine finB hK (bP_true.2 ⟨?_, ?_, ?_⟩) <;> dsimp only <;> omega)
    | (refine finB hK (bP_false.2 fun h => ?_); obtain ⟨h1, h2, h3⟩ := h; dsimp only at h1 h2 h3; omega)
    | trace_state
def Fau.less (a b : Fau) : Prop := a.frm < b.frm ∨ a.frm = b.frm ∧ (a.aid < b.aid ∨ a.aid = b.aid ∧ a.kind < b.kind)
def Fau.cmp (a b : Fau) : Int := orI [cmpI a.frm b.frm, cmpI a.aid b.aid, cmpI a.kind b.kind]
theorem Fau.cmp_neg (a b : Fau) : Fau.cmp a b < 0 ↔ Fau.less a b := by
  unfold Fau.cmp Fau.less cmpI
  simp only [orI]
  split <;> (try split) <;> (try split) <;> (try split) <;> (try split) <;> (try split) <;> omega
theorem fauCompare_ (aid kind frm til aid' kind' frm' til' : Int) : AC Tryz.prog 68 [.agg [.int .i64 aid, .int .i64 kind, .int .i64 frm, .int .i64 til], .agg [.int .i64 aid', .int .i64 kind', .int .i64 frm', .int .i64 til']] (AV.int .i64) (Fau.cmp ⟨aid, kind, frm, til⟩ ⟨aid', kind', frm', til'⟩) := by
  refine ac Tryz.func68 (by kernel_rfl) (.int _ _) fun E K hE hK => ?_
  conv => cbv
  repeat' first
    | ((first
   | refine q0 hE ?_
   | refine callI hE (compare_ _ _) (fun _ _ => ?_)
   | refine callI hE (cmpOr_ (l := [_, _, _]) (by rfl)) (fun _ _ => ?_)
   | refine B0 hE ?_|refine B1 hE (fun _=>?_) fun _=>?_|refine B3 hE fun _ _ _=>?_|refine B2 hE fun _ _=>?_|refine B4 hE fun _ _ _ _=>?_) <;> (try conv => cbv))
  refine hK _ ?_
  subst_vars
  rfl
theorem l20Less_ (aid kind frm til aid' kind' frm' til' : Int) : AC Tryz.prog 105 [.pp [.int .i64 aid, .int .i64 kind, .int .i64 frm, .int .i64 til], .pp [.int .i64 aid', .int .i64 kind', .int .i64 frm', .int .i64 til']] AV.bool (bP (Fau.less ⟨aid, kind, frm, til⟩ ⟨aid', kind', frm', til'⟩)) := by
  refine ac Tryz.func105 (by kernel_rfl) (.bool _) fun E K hE hK => ?_
  conv => cbv
  repeat' first
    | ((first
   | refine q0 hE ?_
   | refine B0 hE ?_|refine B1 hE (fun _=>?_) fun _=>?_|refine B3 hE fun _ _ _=>?_|refine B2 hE fun _ _=>?_|refine B4 hE fun _ _ _ _=>?_) <;> (try conv => cbv))
  all_goals first
    | (refine finB hK (bP_true.2 ?_); unfold Fau.less; simp only; omega)
    | (refine finB hK (bP_false.2 ?_); unfold Fau.less; simp only; omega)
    | trace_state
def Fau.C (l : List Fau) (j : Nat) : Prop := ∃ v, l[j]? = some v ∧ v.ok ∧ (0 < j → ∃ w, l[j - 1]? = some w ∧ w.less v) ∧ ∀ w ∈ l.take j, ¬ v.meets w
def FaultsOk (l : List Fau) : Prop := (∀ j, j < l.length → Fau.C l j) ∧ l.length ≤ 48
theorem fauC_mk {l : List Fau} {i : Int} {v : Fau} (h0 : 0 ≤ i) (hv : l[i.toNat]? = some v) (hok : v.ok) (hp : i ≤ 0 ∨ ∃ (n : Int) (w : Fau), n = i - 1 ∧ l[n.toNat]? = some w ∧ w.less v)
    (hr : ∀ w ∈ (l.take i.toNat), ¬ v.meets w) : Fau.C l i.toNat := by
  refine ⟨v, hv, hok, fun h => ?_, hr⟩
  rcases hp with hp | ⟨n, w, rfl, hw, hl⟩
  · omega
  · exact ⟨w, by rw [show i.toNat - 1 = (i - 1).toNat by omega]; exact hw, hl⟩
theorem fauC_ok {l : List Fau} {i : Int} {v : Fau} (h0 : 0 ≤ i) (h : Fau.C l i.toNat) (hv : l[i.toNat]? = some v) : v.ok ∧ (∀ (n : Int) w, n = i - 1 → 0 < i → l[n.toNat]? = some w → w.less v) ∧ ∀ w ∈ (l.take i.toNat), ¬ v.meets w := by
  obtain ⟨v', h1, h2, h3, h4⟩ := h
  rw [hv] at h1; cases h1
  refine ⟨h2, fun n w hn hi hw => ?_, h4⟩
  obtain ⟨w', hw', hl⟩ := h3 (by omega)
  rw [show i.toNat - 1 = n.toNat by omega, hw] at hw'; cases hw'
  exact hl
theorem FaultsOk.all {l : List Fau} (h : FaultsOk l) : ∀ v ∈ l, v.ok := fun v hv => by
  obtain ⟨j, hj⟩ := List.getElem?_of_mem hv
  obtain ⟨w, h1, h2, _⟩ := h.1 j (List.getElem?_eq_some_iff.1 hj).1
  rw [hj] at h1; cases h1; exact h2
theorem fau_le {l : List Fau} {j : Nat} : ∀ (k : Nat) x y, (∀ m v, j < m → m ≤ k → l[m]? = some v → ∃ w, l[m - 1]? = some w ∧ w.less v) → j ≤ k → l[j]? = some x → l[k]? = some y → x.frm ≤ y.frm
  | 0, x, y, _, h1, hx, hy => by
    have : j = 0 := by omega
    subst this; rw [hx] at hy; cases hy; omega
  | k + 1, x, y, h, h1, hx, hy => by
    rcases Nat.lt_or_ge j (k + 1) with hj | hj
    · obtain ⟨w, hw, hl⟩ := h (k + 1) y hj (Nat.le_refl _) hy
      rw [Nat.add_sub_cancel] at hw
      have := fau_le k x w (fun m v g1 g2 g3 => h m v g1 (by omega) g3) (by omega) hx hw
      unfold Fau.less at hl; omega
    · have : j = k + 1 := by omega
      subst this; rw [hx] at hy; cases hy; omega
theorem fau_meets {v w : Fau} (hv : v.ok) (hw : w.ok) (h : w.frm ≤ v.frm) : v.meets w ↔ w.aid = v.aid ∧ w.kind = v.kind ∧ v.frm < w.end_ := by
  unfold Fau.ok TimeOk at hv hw
  unfold Fau.meets Fau.end_
  split <;> split <;> omega
theorem fauNo {l : List Fau} {i : Int} {v : Fau} (h : ¬ ∃ w, w ∈ (l.take ((some i).getD (l.length : Int)).toNat).drop ((none : Option Int).getD 0).toNat ∧ v.meets w) : ∀ w ∈ l.take i.toNat, ¬ v.meets w := fun w hw hm => h ⟨w, hw, hm⟩
theorem fauYes {l : List Fau} {i : Int} {v : Fau} (h : ∃ w, w ∈ (l.take ((some i).getD (l.length : Int)).toNat).drop ((none : Option Int).getD 0).toNat ∧ v.meets w) : ¬ ∀ w ∈ l.take i.toNat, ¬ v.meets w := fun g => by
  obtain ⟨w, hw, hm⟩ := h
  exact g w hw hm
theorem validFaults_ {rs : List (List AV)} {t : Bool} {l : List Fau} (hl : rs = l.map Fau.cs) : AC Tryz.prog 21 [.sl t 4 rs] AV.bool (bP (FaultsOk l)) := by
  refine ac Tryz.func21 (by kernel_rfl) (.bool _) fun E K hE hK => ?_
  conv => cbv
  refine lenL hE hl fun n hn hb => ?_
  conv => cbv
  refine loopC hE (ι := Int) [0, 5, 6] [7] (fun q => (fun (i : Int) => [(7, .int .i64 i)]) q) (fun q => (fun (i : Int) => []) q) (fun q => (fun (i : Int) => (l.length - i).toNat) q) (fun q => (fun (i : Int) => 0 ≤ i ∧ Up (Fau.C l) i) q) [] (by decide) (0) (by conv => lhs; cbv) (by conv => lhs; cbv) rfl rfl (by dsimp only; exact ⟨by omega, .zero (by omega)⟩) fun i hi Kn hN => ?_
  (try dsimp only at hi)
  conv => cbv
  obtain ⟨h0, hinv⟩ := hi
  repeat' first
    | (refine idxL hE hl (by omega) (fun v hv => ?_); obtain ⟨aid, kind, frm, til⟩ := v; (try conv => cbv))
    | (refine callP hE (containsFaultb_ (p := fun w => Fau.meets ⟨_, _, _, _⟩ w) (by assumption) (fun a b c d => fauMeets_ _ _ _ _ a b c d)) (fun _ => ?_) (fun _ => ?_) <;> (try conv => cbv))
    | (refine hN _ _ [] (by decide) rfl ⟨?_, ?_⟩ ?_ <;> (try dsimp only))
    | ((first
   | refine q0 hE ?_
   | refine callP hE (fauValid_ _ _ _ _) (fun _ => ?_) (fun _ => ?_)
   | refine callP hE (few_ _ _) (fun _ => ?_) (fun _ => ?_)
   | refine callI hE (fauCompare_ _ _ _ _ _ _ _ _) (fun _ _ => ?_)
   | refine subL hE hl (by simp only [Option.getD_some, Option.getD_none]; omega) (fun _ _ => ?_)
   | refine B0 hE ?_|refine B1 hE (fun _=>?_) fun _=>?_|refine B3 hE fun _ _ _=>?_|refine B2 hE fun _ _=>?_|refine B4 hE fun _ _ _ _=>?_) <;> (try conv => cbv))
  all_goals (try clear hN)
  all_goals first
    | omega
    | exact hinv.succ (fauC_mk h0 (by assumption) (by assumption) (.inr ⟨_, _, by assumption, by assumption, (Fau.cmp_neg _ _).1 (by omega)⟩) (fauNo (by assumption))) (by assumption)
    | exact hinv.succ (fauC_mk h0 (by assumption) (by assumption) (.inl (by omega)) (fauNo (by assumption))) (by assumption)
    | (refine finB hK (bP_false.2 fun h => ?_); have k := fauC_ok h0 (h.1 i.toNat (by omega)) (by assumption); first | exact absurd k.1 (by assumption) | (have := (Fau.cmp_neg _ _).2 (k.2.1 _ _ (by assumption) (by omega) (by assumption)); omega) | exact fauYes (by assumption) k.2.2)
    | exact finB hK (bP_true.2 ⟨hinv.all (by omega), by omega⟩)
    | (refine finB hK (bP_false.2 fun h => ?_); have := h.2; omega)
    | trace_state
theorem fau_prev {l : List Fau} {i : Int} (h : Up (Fau.C l) i) (m : Nat) (v : Fau) (hm : (m : Int) < i) (h0 : 0 < m) (hv : l[m]? = some v) : ∃ w, l[m - 1]? = some w ∧ w.less v := by
  obtain ⟨v', h1, _, h3, _⟩ := h m hm
  rw [hv] at h1; cases h1
  exact h3 h0
theorem fau_none {l : List Fau} {i k : Int} {v : Fau} (h0 : 0 ≤ i) (hk : i ≤ k) (hv : l[i.toNat]? = some v) (hok : v.ok) (hC : Up (Fau.C l) i) (hp : i ≤ 0 ∨ ∃ (n : Int) (w : Fau), n = i - 1 ∧ l[n.toNat]? = some w ∧ w.less v)
    (h : Up (fun j => ∀ w, l[j]? = some w → ¬ (w.aid = v.aid ∧ w.kind = v.kind ∧ v.frm < w.end_)) k) : ∀ w ∈ l.take i.toNat, ¬ v.meets w := fun w hw hm => by
  obtain ⟨j, hj⟩ := List.getElem?_of_mem hw
  have hlt := (List.getElem?_eq_some_iff.1 hj).1
  rw [List.length_take] at hlt
  rw [List.getElem?_take, if_pos (by omega)] at hj
  obtain ⟨w', g1, g2, _⟩ := hC j (by omega)
  rw [hj] at g1; cases g1
  have hle : w.frm ≤ v.frm := fau_le (j := j) i.toNat w v (fun m u g3 g4 g5 => by
    rcases Nat.lt_or_ge m i.toNat with g6 | g6
    · exact fau_prev hC m u (by omega) (by omega) g5
    · have : m = i.toNat := by omega
      subst this
      rw [hv] at g5; cases g5
      rcases hp with hp | ⟨n, w2, rfl, hw2, hl⟩
      · omega
      · exact ⟨w2, by rw [show i.toNat - 1 = (i - 1).toNat by omega]; exact hw2, hl⟩) (by omega) hj hv
  exact h j (by omega) w hj ((fau_meets hok g2 hle).1 hm)
theorem fau_some {l : List Fau} {i k : Int} {v w : Fau} (h : FaultsOk l) (h0 : 0 ≤ k ∧ k < i) (hi : i < l.length) (hv : l[i.toNat]? = some v) (hw : l[k.toNat]? = some w) (h1 : w.aid = v.aid) (h2 : w.kind = v.kind) (h3 : v.frm < w.end_) : False := by
  obtain ⟨v', g1, g2, _, g4⟩ := h.1 i.toNat (by omega)
  rw [hv] at g1; cases g1
  obtain ⟨w', g5, g6, _⟩ := h.1 k.toNat (by omega)
  rw [hw] at g5; cases g5
  have hle : w.frm ≤ v.frm := fau_le (j := k.toNat) i.toNat w v (fun m u q1 q2 q3 => fau_prev (i := l.length) (fun j hj => h.1 j (by omega)) m u (by have := (List.getElem?_eq_some_iff.1 q3).1; omega) (by omega) q3) (by omega) hw hv
  refine g4 w ?_ ((fau_meets g2 g6 hle).2 ⟨h1, h2, h3⟩)
  exact List.mem_of_getElem? (i := k.toNat) (by rw [List.getElem?_take, if_pos (by omega)]; exact hw)
theorem fauStep {l : List Fau} {i k n : Int} {w0 : Fau} (h : Up (fun j => ∀ (v w : Fau), l[i.toNat]? = some v → l[j]? = some w → ¬ (w.aid = v.aid ∧ w.kind = v.kind ∧ v.frm < w.end_)) k) (hw : l[k.toNat]? = some w0) (hs : ∀ v w, l[i.toNat]? = some v → l[k.toNat]? = some w → ¬ (w.aid = v.aid ∧ w.kind = v.kind ∧ v.frm < w.end_)) (hn : n = k + 1) :
    Up (fun j => ∀ (v w : Fau), l[i.toNat]? = some v → l[j]? = some w → ¬ (w.aid = v.aid ∧ w.kind = v.kind ∧ v.frm < w.end_)) n := h.succ hs hn
theorem fauStop {l : List Fau} {i k : Int} {v0 w0 v w : Fau} (hv : l[i.toNat]? = some v0) (hw : l[k.toNat]? = some w0) (g1 : l[i.toNat]? = some v) (g2 : l[k.toNat]? = some w) (h : w0.aid ≠ v0.aid ∨ w0.kind ≠ v0.kind ∨ w0.end_ ≤ v0.frm) : ¬ (w.aid = v.aid ∧ w.kind = v.kind ∧ v.frm < w.end_) := by
  rw [hv] at g1; cases g1
  rw [hw] at g2; cases g2
  omega
theorem fauStep2 {l : List Fau} {i k n : Int} {v0 w0 : Fau} (h : Up (fun j => ∀ (v w : Fau), l[i.toNat]? = some v → l[j]? = some w → ¬ (w.aid = v.aid ∧ w.kind = v.kind ∧ v.frm < w.end_)) k) (hv : l[i.toNat]? = some v0) (hw : l[k.toNat]? = some w0) (hd : w0.aid ≠ v0.aid ∨ w0.kind ≠ v0.kind ∨ w0.end_ ≤ v0.frm) (hn : n = k + 1) :
    Up (fun j => ∀ (v w : Fau), l[i.toNat]? = some v → l[j]? = some w → ¬ (w.aid = v.aid ∧ w.kind = v.kind ∧ v.frm < w.end_)) n := fauStep h hw (fun v w g1 g2 => fauStop hv hw g1 g2 hd) hn
theorem fauAt {l : List Fau} {i k : Int} {v0 : Fau} (h : Up (fun j => ∀ (v w : Fau), l[i.toNat]? = some v → l[j]? = some w → ¬ (w.aid = v.aid ∧ w.kind = v.kind ∧ v.frm < w.end_)) k) (hv : l[i.toNat]? = some v0) : Up (fun j => ∀ w, l[j]? = some w → ¬ (w.aid = v0.aid ∧ w.kind = v0.kind ∧ v0.frm < w.end_)) k := fun j hj w hw => h j hj v0 w hv hw
theorem l20Ok_ {rs : List (List AV)} {t : Bool} {l : List Fau} (hl : rs = l.map Fau.cs) : AC Tryz.prog 41 [.sl t 4 rs] AV.bool (bP (FaultsOk l)) := by
  refine ac Tryz.func41 (by kernel_rfl) (.bool _) fun E K hE hK => ?_
  conv => cbv
  refine loopC hE (ι := Int) [0] [3] (fun q => (fun (i : Int) => [(3, .int .i64 i)]) q) (fun q => (fun (i : Int) => []) q) (fun q => (fun (i : Int) => (l.length - i).toNat) q) (fun q => (fun (i : Int) => 0 ≤ i ∧ Up (Fau.C l) i) q) [] (by decide) (0) (by conv => lhs; cbv) (by conv => lhs; cbv) rfl rfl (by dsimp only; exact ⟨by omega, .zero (by omega)⟩) fun i hi Kn hN => ?_
  (try dsimp only at hi)
  conv => cbv
  obtain ⟨h0, hinv⟩ := hi
  repeat' first
    | (refine idxV hE hl (by omega) (by assumption) ?_; (try conv => cbv))
    | ((refine loopC hE (ι := Int) [0, 3] [4] (fun q => (fun (k : Int) => [(4, .int .i64 k)]) q) (fun q => (fun (k : Int) => []) q) (fun q => (fun (k : Int) => (i - k).toNat) q) (fun q => (fun (k : Int) => (0 ≤ k ∧ k ≤ i) ∧ Up (fun j => ∀ v w, l[i.toNat]? = some v → l[j]? = some w → ¬ (w.aid = v.aid ∧ w.kind = v.kind ∧ v.frm < w.end_)) k) q) [] (by decide) (0) (by conv => lhs; cbv) (by conv => lhs; cbv) rfl rfl (by dsimp only; exact ⟨by omega, .zero (by omega)⟩) fun k hi2 Kn2 hN2 => ?_; (try dsimp only at hi2); conv => cbv); obtain ⟨⟨k0, k1⟩, kinv⟩ := hi2)
    | (refine idxL hE hl (by omega) (fun v hv => ?_); obtain ⟨aid, kind, frm, til⟩ := v; (try conv => cbv))
    | (refine hN2 _ _ [] (by decide) rfl ⟨?_, ?_⟩ ?_ <;> (try dsimp only))
    | (refine hN _ _ [] (by decide) rfl ⟨?_, ?_⟩ ?_ <;> (try dsimp only))
    | ((first
   | refine q0 hE ?_
   | refine callP hE (l20One_ _ _ _ _) (fun _ => ?_) (fun _ => ?_)
   | refine callP hE (l20Less_ _ _ _ _ _ _ _ _) (fun _ => ?_) (fun _ => ?_)
   | refine callI hE (l20End_ _ _ _ _) (fun _ _ => ?_)
   | refine B0 hE ?_|refine B1 hE (fun _=>?_) fun _=>?_|refine B3 hE fun _ _ _=>?_|refine B2 hE fun _ _=>?_|refine B4 hE fun _ _ _ _=>?_) <;> (try conv => cbv))
  all_goals (try clear hN)
  all_goals (try clear hN2)
  all_goals first
    | omega
    | exact fauStep2 kinv (by assumption) hv (by simp only; omega) (by assumption)
    | exact hinv.succ (fauC_mk h0 (by assumption) (by assumption) (.inr ⟨_, _, by assumption, by assumption, by assumption⟩) (fau_none h0 (by omega) (by assumption) (by assumption) hinv (.inr ⟨_, _, by assumption, by assumption, by assumption⟩) (fauAt kinv (by assumption)))) (by assumption)
    | exact hinv.succ (fauC_mk h0 (by assumption) (by assumption) (.inl (by omega)) (fau_none h0 (by omega) (by assumption) (by assumption) hinv (.inl (by omega)) (fauAt kinv (by assumption)))) (by assumption)
    | (refine finB hK (bP_false.2 fun h => ?_); refine fau_some (i := i) (v := (⟨_, _, _, _⟩ : Fau)) h ?_ (by omega) (by assumption) hv (by assumption) (by assumption) ?_ <;> (try simp only) <;> omega)
    | (refine finB hK (bP_false.2 fun h => ?_); have k := fauC_ok h0 (h.1 i.toNat (by omega)) (by assumption); first | exact absurd k.1 (by assumption) | exact absurd (k.2.1 _ _ (by assumption) (by omega) (by assumption)) (by assumption))
    | exact finB hK (bP_true.2 ⟨hinv.all (by omega), by omega⟩)
    | (refine finB hK (bP_false.2 fun h => ?_); have := h.2; omega)
    | trace_state
end Go.Proofs.YtffkcjcaeppboacGreatDoor
