/- Contracts: the buoys that mark the sides of channels; the law. -/
import Derived.Test.YtlfnlgbojbgcnaaGreatDoorGsm
namespace Go.Proofs.YtlfnlgbojbgcnaaGreatDoor
open Go Go.RowKit Classical
set_option maxRecDepth 100000
set_option maxHeartbeats 2000000
set_option linter.unusedVariables false
set_option linter.unusedSimpArgs false
structure Buo where
  atX : Int
  atY : Int
  kind : Int
def Buo.cs (v : Buo) : List AV := [.int .i64 v.atX, .int .i64 v.atY, .int .i64 v.kind]
theorem NoB.oBuo (v : Buo) : NoB (.agg v.cs) := (.aggC (.int _ _) (.aggC (.int _ _) (.aggC (.int _ _) .agg0)))
theorem Buo.nown (l : List Buo) : ∀ e ∈ l.map Buo.cs, ∀ c ∈ e, c.isOwn = false := fun e he c hc => by
  obtain ⟨v, _, rfl⟩ := List.mem_map.1 he
  simp only [Buo.cs, List.mem_cons, List.not_mem_nil, or_false] at hc
  rcases hc with rfl | rfl | rfl <;> rfl
theorem eqBuoy_ (atX : Int) (atY : Int) (kind : Int) (atX' : Int) (atY' : Int) (kind' : Int) : AC Tryz.prog 46 [.agg [.int .i64 atX, .int .i64 atY, .int .i64 kind], .agg [.int .i64 atX', .int .i64 atY', .int .i64 kind']] AV.bool (bP ((Buo.mk atX atY kind) = (Buo.mk atX' atY' kind'))) := by
  refine ac Tryz.func46 (by kernel_rfl) (.bool _) fun E K hE hK => ?_
  conv => cbv
  repeat' first
    | ((first
   | refine q0 hE ?_
   | refine callP hE (eqPoint_ _ _ _ _) (fun _ => ?_) (fun _ => ?_)
   | refine q1 hE ?_|refine q2 hE ?_|refine ltI hE (fun _=>?_) fun _=>?_|refine q4 hE ?_|refine q5 hE ?_|refine leI hE (fun _=>?_) fun _=>?_|refine q6 hE ?_|refine q7 hE ?_|refine eqI hE (fun _=>?_) fun _=>?_|refine q8 hE fun _ _=>?_|refine q9 hE fun _ _=>?_|refine addI hE fun _ _=>?_|refine subI hE fun _ _=>?_|refine qa hE fun _ _ _=>?_|refine len0 hE fun _ _=>?_|refine qb hE fun _ _=>?_|refine qc hE ?_|refine qd hE ?_|refine iteB (fun _=>?_) fun _=>?_|refine maxI hE fun _ _=>?_|refine minI hE fun _ _=>?_|refine seqI hE (fun _=>?_) fun _=>?_|refine qe hE fun _ _ _=>?_|refine slenI hE fun _ _ _=>?_|refine qf hE fun _ _ _ _=>?_|refine qg hE ?_|refine qh hE fun _ _=>?_|refine qi hE fun _ _=>?_|refine qj hE fun _ _=>?_|refine qk hE fun _ _=>?_|refine ql hE ?_) <;> (try conv => cbv))
  all_goals first | (refine finB hK (bP_true.2 ?_); simp only [Buo.mk.injEq, Pnt.mk.injEq] at *; simp_all; done) | (refine finB hK (bP_false.2 ?_); simp only [Buo.mk.injEq, Pnt.mk.injEq] at *; simp_all; done)
theorem eqBuoyS_ {rs rs' : List (List AV)} {t t' : Bool} {l m : List Buo} (hl : rs = l.map Buo.cs) (hm : rs' = m.map Buo.cs) : AC Tryz.prog 13 [.sl t 3 rs, .sl t' 3 rs'] AV.bool (bP (l = m)) := by
  refine ac Tryz.func13 (by kernel_rfl) (.bool _) fun E K hE hK => ?_
  conv => cbv
  refine lenL hE hl fun n hn hb => ?_
  conv => cbv
  refine lenL hE hm fun n' hn' hb' => ?_
  conv => cbv
  refine eqI hE (fun he => ?_) (fun he => ?_) <;> conv => cbv
  · refine loopC hE (ι := Int) [0, 1] [5] (fun q => (fun (i : Int) => [(5, .int .i64 i)]) q) (fun q => (fun (i : Int) => []) q) (fun q => (fun (i : Int) => (l.length - i).toNat) q) (fun q => (fun (i : Int) => 0 ≤ i ∧ Up (fun j => l[j]? = m[j]?) i) q) [] (by decide) (0) (by conv => lhs; cbv) (by conv => lhs; cbv) rfl rfl (by dsimp only; exact ⟨by omega, .zero (by omega)⟩) fun i hi Kn hN => ?_
    (try dsimp only at hi)
    conv => cbv
    obtain ⟨h0, hinv⟩ := hi
    repeat' first
      | (refine hN _ _ [] (by decide) rfl ⟨?_, ?_⟩ ?_ <;> (try dsimp only))
      | ((first
     | refine q0 hE ?_
     | refine callP hE (eqBuoy_ _ _ _ _ _ _) (fun _ => ?_) (fun _ => ?_)
     | (refine idxL (R := Buo.cs) hE (by assumption) (by first | omega | (simp only [List.length_set, mix_len]; omega)) ?_; rintro ⟨⟩ _)
     | refine q1 hE ?_|refine q2 hE ?_|refine ltI hE (fun _=>?_) fun _=>?_|refine q4 hE ?_|refine q5 hE ?_|refine leI hE (fun _=>?_) fun _=>?_|refine q6 hE ?_|refine q7 hE ?_|refine eqI hE (fun _=>?_) fun _=>?_|refine q8 hE fun _ _=>?_|refine q9 hE fun _ _=>?_|refine addI hE fun _ _=>?_|refine subI hE fun _ _=>?_|refine qa hE fun _ _ _=>?_|refine len0 hE fun _ _=>?_|refine qb hE fun _ _=>?_|refine qc hE ?_|refine qd hE ?_|refine iteB (fun _=>?_) fun _=>?_|refine maxI hE fun _ _=>?_|refine minI hE fun _ _=>?_|refine seqI hE (fun _=>?_) fun _=>?_|refine qe hE fun _ _ _=>?_|refine slenI hE fun _ _ _=>?_|refine qf hE fun _ _ _ _=>?_|refine qg hE ?_|refine qh hE fun _ _=>?_|refine qi hE fun _ _=>?_|refine qj hE fun _ _=>?_|refine qk hE fun _ _=>?_|refine ql hE ?_) <;> (try conv => cbv))
    · omega
    · refine hinv.succ ?_ (by assumption); clear hN; simp_all
    · omega
    · refine finB hK (bP_false.2 fun h => ?_); clear hN; simp_all
    · exact finB hK (bP_true.2 (list_eq_of (by omega) hinv (by omega)))
  · refine finB hK (bP_false.2 fun h => ?_); subst h; omega
def Buo.mk' (k : Int) : Buo := ⟨k + 0, k + 1, k + 2⟩
def Buo.mks (n : Nat) (k : Int) : List Buo := (List.range n).map fun i : Nat => Buo.mk' (k + 3 * (i : Int))
theorem Buo.mks_len (n : Nat) (k : Int) : (Buo.mks n k).length = n := by simp [Buo.mks]
theorem Buo.mks_get {n : Nat} {k i : Int} {v : Buo} (h0 : 0 ≤ i) (h : (Buo.mks n k)[i.toNat]? = some v) : v = Buo.mk' (k + 3 * i) := by
  unfold Buo.mks at h
  rw [List.getElem?_map] at h
  by_cases hi : i.toNat < n
  · rw [List.getElem?_range hi] at h
    simp only [Option.map_some, Option.some.injEq] at h
    rw [← h, Int.toNat_of_nonneg h0]
  · rw [List.getElem?_eq_none (by simpa using Nat.le_of_not_lt hi)] at h; cases h
theorem markBuoyS_ {rs : List (List AV)} {l : List Buo} (k : Int) (hl : rs = l.map Buo.cs) (hk0 : 0 ≤ k ∧ k ≤ 1000000000000000) (hb : l.length ≤ 100000000000) : ACM Tryz.prog 16 [.sl true 3 rs, .int .i64 k] (fun r ys => ∃ (n : Int) (rs' : List (List AV)), n = k + 3 * l.length ∧ rs' = (Buo.mks l.length k).map Buo.cs ∧ r = .int .i64 n ∧ ys = [.sl true 3 rs', .any]) := by
  refine acm 1 Tryz.func16 (by kernel_rfl) (fun r ys ⟨n, rs', _, h3, h1, h2⟩ => ⟨by rw [h1]; exact .int _ _, by rw [h2, h3]; simp; exact ⟨.rows .oBuo, .any⟩⟩) fun E K hE hK => ?_
  conv => cbv
  refine loopC hE (ι := Int × Int × (List (List AV))) [] [5, 1, 0] (fun q => (fun (i : Int) (k' : Int) (es : List (List AV)) => [(5, .int .i64 i), (1, .int .i64 k'), (0, .ob 0)]) q.1 q.2.1 q.2.2) (fun q => (fun (i : Int) (k' : Int) (es : List (List AV)) => [.row 3 es]) q.1 q.2.1 q.2.2) (fun q => (fun (i : Int) (k' : Int) (es : List (List AV)) => (l.length - i).toNat) q.1 q.2.1 q.2.2) (fun q => (fun (i : Int) (k' : Int) (es : List (List AV)) => (0 ≤ i ∧ i ≤ l.length) ∧ k' = k + 3 * i ∧ es = (mix (fun i : Nat => Buo.mk' (k + 3 * (i : Int))) l i).map Buo.cs) q.1 q.2.1 q.2.2) [0] (by decide) ((0, k, rs)) (by conv => lhs; cbv) (by conv => lhs; cbv) rfl rfl (by dsimp only; exact ⟨by omega, by omega, by rw [mix_zero (by omega)]; exact hl⟩) fun q hi Kn hN => ?_
  obtain ⟨i, k', es⟩ := q
  (try dsimp only at hi)
  conv => cbv
  obtain ⟨⟨h0, h1⟩, h2, h3⟩ := hi
  have hlen := mix_len (fun i : Nat => Buo.mk' (k + 3 * (i : Int))) l i
  obtain ⟨L, hL⟩ : ∃ L, L = mix (fun i : Nat => Buo.mk' (k + 3 * (i : Int))) l i := ⟨_, rfl⟩
  rw [← hL] at h3 hlen
  repeat' first
    | (refine idxS hE (by assumption) (by omega) ?_; (try conv => cbv))
    | (refine hN (_, _, _) _ [0] (by decide) rfl ⟨?_, ?_, ?_⟩ ?_ <;> (try dsimp only))
    | ((first
   | refine q0 hE ?_
   | (refine idxL (R := Buo.cs) hE (by assumption) (by first | omega | (simp only [List.length_set, mix_len]; omega)) ?_; rintro ⟨⟩ _)
   | refine callI hE (markText_ _ (by omega)) (fun _ _ => ?_)
   | refine updS hE (v' := (⟨_, _, _⟩ : Buo)) (by assumption) (by omega) (by exact Nat.le_of_ble_eq_true rfl) (by first | rfl | ((conv => lhs; cbv); rfl)) (fun _ _ => ?_)
   | refine updL hE (v' := (⟨_, _, _⟩ : Buo)) (by assumption) (by omega) (by assumption) (by exact Nat.le_of_ble_eq_true rfl) (by first | rfl | ((conv => lhs; cbv); rfl)) (fun _ _ => ?_)
   | refine q1 hE ?_|refine q2 hE ?_|refine ltI hE (fun _=>?_) fun _=>?_|refine q4 hE ?_|refine q5 hE ?_|refine leI hE (fun _=>?_) fun _=>?_|refine q6 hE ?_|refine q7 hE ?_|refine eqI hE (fun _=>?_) fun _=>?_|refine q8 hE fun _ _=>?_|refine q9 hE fun _ _=>?_|refine addI hE fun _ _=>?_|refine subI hE fun _ _=>?_|refine qa hE fun _ _ _=>?_|refine len0 hE fun _ _=>?_|refine qb hE fun _ _=>?_|refine qc hE ?_|refine qd hE ?_|refine iteB (fun _=>?_) fun _=>?_|refine maxI hE fun _ _=>?_|refine minI hE fun _ _=>?_|refine seqI hE (fun _=>?_) fun _=>?_|refine qe hE fun _ _ _=>?_|refine slenI hE fun _ _ _=>?_|refine qf hE fun _ _ _ _=>?_|refine qg hE ?_|refine qh hE fun _ _=>?_|refine qi hE fun _ _=>?_|refine qj hE fun _ _=>?_|refine qk hE fun _ _=>?_|refine ql hE ?_) <;> (try conv => cbv))
  · omega
  · omega
  · clear hN hK
    rename_i hes _ hfin _ hi1
    rw [hes, hL, mix_set h0 (by omega) (v := _) ?_ hi1]
    clear hL h3 hlen
    subst_vars
    rw [Int.toNat_of_nonneg h0]
    simp only [Buo.mk', Buo.mk.injEq, Int.add_zero]
    refine ⟨?_, ?_, ?_⟩ <;> first | trivial | omega | rfl | (congr 1; omega)
  · omega
  · have hi : i = l.length := by omega
    refine hK _ _ ⟨k', es, ?_, ?_, rfl, rfl⟩
    · rw [h2, hi]
    · rw [h3, hL, mix_all (by omega)]; rfl
theorem heldBuoyS_ {rs : List (List AV)} {t : Bool} {n : Nat} (k : Int) (hl : rs = (Buo.mks n k).map Buo.cs) (hk0 : 0 ≤ k ∧ k ≤ 1000000000000000) (hb : n ≤ 100000000000) : AC Tryz.prog 17 [.sl t 3 rs, .int .i64 k] (AV.int .i64) (k + 3 * n) := by
  refine ac Tryz.func17 (by kernel_rfl) (.int _ _) fun E K hE hK => ?_
  conv => cbv
  have hlen := Buo.mks_len n k
  refine loopC hE (ι := Int × Int) [0] [5, 1] (fun q => (fun (i : Int) (k' : Int) => [(5, .int .i64 i), (1, .int .i64 k')]) q.1 q.2) (fun q => (fun (i : Int) (k' : Int) => []) q.1 q.2) (fun q => (fun (i : Int) (k' : Int) => (n - i).toNat) q.1 q.2) (fun q => (fun (i : Int) (k' : Int) => (0 ≤ i ∧ i ≤ n) ∧ k' = k + 3 * i) q.1 q.2) [] (by decide) ((0, k)) (by conv => lhs; cbv) (by conv => lhs; cbv) rfl rfl (by dsimp only; exact ⟨by omega, by omega⟩) fun q hi Kn hN => ?_
  obtain ⟨i, k'⟩ := q
  (try dsimp only at hi)
  conv => cbv
  obtain ⟨⟨h0, h1⟩, h2⟩ := hi
  repeat' first
    | (refine idxV hE (by assumption) (by omega) (by assumption) ?_; (try conv => cbv))
    | (refine idxL hE hl (by omega) (fun v hv => ?_); have hv' := Buo.mks_get h0 hv; obtain ⟨atX, atY, kind⟩ := v; simp only [Buo.mk', Buo.mk.injEq] at hv'; obtain ⟨eatX, eatY, ekind⟩ := hv'; (try conv => cbv))
    | (refine hN (_, _) _ [] (by decide) rfl ⟨?_, ?_⟩ ?_ <;> (try dsimp only))
    | ((first
   | refine q0 hE ?_
   | refine callI hE (markText_ _ (by omega)) (fun _ _ => ?_)
   | refine seqT hE (by subst_vars; first | rfl | (congr 1; omega)) ?_
   | refine q1 hE ?_|refine q2 hE ?_|refine ltI hE (fun _=>?_) fun _=>?_|refine q4 hE ?_|refine q5 hE ?_|refine leI hE (fun _=>?_) fun _=>?_|refine q6 hE ?_|refine q7 hE ?_|refine eqI hE (fun _=>?_) fun _=>?_|refine q8 hE fun _ _=>?_|refine q9 hE fun _ _=>?_|refine addI hE fun _ _=>?_|refine subI hE fun _ _=>?_|refine qa hE fun _ _ _=>?_|refine len0 hE fun _ _=>?_|refine qb hE fun _ _=>?_|refine qc hE ?_|refine qd hE ?_|refine iteB (fun _=>?_) fun _=>?_|refine maxI hE fun _ _=>?_|refine minI hE fun _ _=>?_|refine seqI hE (fun _=>?_) fun _=>?_|refine qe hE fun _ _ _=>?_|refine slenI hE fun _ _ _=>?_|refine qf hE fun _ _ _ _=>?_|refine qg hE ?_|refine qh hE fun _ _=>?_|refine qi hE fun _ _=>?_|refine qj hE fun _ _=>?_|refine qk hE fun _ _=>?_|refine ql hE ?_) <;> (try conv => cbv))
  all_goals first
    | omega
    | exact hK _ (by rw [h2, show i = (n : Int) by omega]; rfl)
def Aid.lateral (v : Aid) : Prop := v.mKind = 1 ∨ v.mKind = 2
def Aid.buo (v : Aid) : Buo := ⟨v.atX, v.atY, v.mKind⟩
theorem isLateral_ (number atX atY height mKind lKind lPeriod intensity : Int) (name mColors mShape mTop lLetter lColors : ByteArray) {rg rx : List (List AV)} {t t' : Bool} {g : List Int} {l : List Scr} (hg : rg = g.map intR) (hl : rx = l.map Scr.cs) : AC Tryz.prog 45 [.agg [.int .i64 number, .str name, .int .i64 atX, .int .i64 atY, .int .i64 height, .int .i64 mKind, .str mColors, .str mShape, .str mTop, .int .i64 lKind, .sl t 1 rg, .str lLetter, .str lColors, .int .i64 lPeriod, .sl t' 3 rx, .int .i64 intensity]] AV.bool (bP (Aid.lateral ⟨number, name, atX, atY, height, mKind, mColors, mShape, mTop, lKind, g, lLetter, lColors, lPeriod, l, intensity⟩)) := by
  refine ac Tryz.func45 (by kernel_rfl) (.bool _) fun E K hE hK => ?_
  conv => cbv
  repeat' first
    | ((first
   | refine q0 hE ?_
   | refine q1 hE ?_|refine q2 hE ?_|refine ltI hE (fun _=>?_) fun _=>?_|refine q4 hE ?_|refine q5 hE ?_|refine leI hE (fun _=>?_) fun _=>?_|refine q6 hE ?_|refine q7 hE ?_|refine eqI hE (fun _=>?_) fun _=>?_|refine q8 hE fun _ _=>?_|refine q9 hE fun _ _=>?_|refine addI hE fun _ _=>?_|refine subI hE fun _ _=>?_|refine qa hE fun _ _ _=>?_|refine len0 hE fun _ _=>?_|refine qb hE fun _ _=>?_|refine qc hE ?_|refine qd hE ?_|refine iteB (fun _=>?_) fun _=>?_|refine maxI hE fun _ _=>?_|refine minI hE fun _ _=>?_|refine seqI hE (fun _=>?_) fun _=>?_|refine qe hE fun _ _ _=>?_|refine slenI hE fun _ _ _=>?_|refine qf hE fun _ _ _ _=>?_|refine qg hE ?_|refine qh hE fun _ _=>?_|refine qi hE fun _ _=>?_|refine qj hE fun _ _=>?_|refine qk hE fun _ _=>?_|refine ql hE ?_) <;> (try conv => cbv))
  all_goals first
    | exact finB hK (bP_true.2 (.inl (by assumption)))
    | exact finB hK (bP_true.2 (.inr (by assumption)))
    | exact finB hK (bP_false.2 fun h => h.elim (by assumption) (by assumption))
    | trace_state
theorem l31Lateral_ (number atX atY height mKind lKind lPeriod intensity : Int) (name mColors mShape mTop lLetter lColors : ByteArray) {rg rx : List (List AV)} {t t' : Bool} {g : List Int} {l : List Scr} (hg : rg = g.map intR) (hl : rx = l.map Scr.cs) : AC Tryz.prog 76 [.pp [.int .i64 number, .str name, .int .i64 atX, .int .i64 atY, .int .i64 height, .int .i64 mKind, .str mColors, .str mShape, .str mTop, .int .i64 lKind, .sl t 1 rg, .str lLetter, .str lColors, .int .i64 lPeriod, .sl t' 3 rx, .int .i64 intensity]] AV.bool (bP (Aid.lateral ⟨number, name, atX, atY, height, mKind, mColors, mShape, mTop, lKind, g, lLetter, lColors, lPeriod, l, intensity⟩)) := by
  refine ac Tryz.func76 (by kernel_rfl) (.bool _) fun E K hE hK => ?_
  conv => cbv
  repeat' first
    | ((first
   | refine q0 hE ?_
   | refine q1 hE ?_|refine q2 hE ?_|refine ltI hE (fun _=>?_) fun _=>?_|refine q4 hE ?_|refine q5 hE ?_|refine leI hE (fun _=>?_) fun _=>?_|refine q6 hE ?_|refine q7 hE ?_|refine eqI hE (fun _=>?_) fun _=>?_|refine q8 hE fun _ _=>?_|refine q9 hE fun _ _=>?_|refine addI hE fun _ _=>?_|refine subI hE fun _ _=>?_|refine qa hE fun _ _ _=>?_|refine len0 hE fun _ _=>?_|refine qb hE fun _ _=>?_|refine qc hE ?_|refine qd hE ?_|refine iteB (fun _=>?_) fun _=>?_|refine maxI hE fun _ _=>?_|refine minI hE fun _ _=>?_|refine seqI hE (fun _=>?_) fun _=>?_|refine qe hE fun _ _ _=>?_|refine slenI hE fun _ _ _=>?_|refine qf hE fun _ _ _ _=>?_|refine qg hE ?_|refine qh hE fun _ _=>?_|refine qi hE fun _ _=>?_|refine qj hE fun _ _=>?_|refine qk hE fun _ _=>?_|refine ql hE ?_) <;> (try conv => cbv))
  all_goals first
    | exact finB hK (bP_true.2 (.inl (by assumption)))
    | exact finB hK (bP_true.2 (.inr (by assumption)))
    | exact finB hK (bP_false.2 fun h => h.elim (by assumption) (by assumption))
    | trace_state

noncomputable def buoysL (l : List Aid) (i : Int) : List Buo := (selI Aid.lateral l i).map Aid.buo
theorem buoysL_len (l : List Aid) (i : Int) : (buoysL l i).length ≤ l.length := by unfold buoysL; rw [List.length_map]; exact selI_len _ _ _
theorem buoysL_step {l : List Aid} {i n : Int} {v : Aid} (h0 : 0 ≤ i) (hv : l[i.toNat]? = some v) (hn : n = i + 1) : (v.lateral → buoysL l n = buoysL l i ++ [v.buo]) ∧ (¬ v.lateral → buoysL l n = buoysL l i) := by
  have h := selI_step Aid.lateral h0 hv hn
  unfold buoysL
  constructor
  · intro hp; rw [h.1 hp]; simp
  · intro hp; rw [h.2 hp]
theorem buoysL_all {l : List Aid} {i : Int} (h : l.length ≤ i) : buoysL l i = buoysL l l.length := by unfold buoysL; rw [selI_all h, selI_all (by omega)]
noncomputable def lateralR (l : List Aid) : List Buo × Int := if AidsOk l then (buoysL l l.length, 0) else ([], 1)
theorem lateralR_len (l : List Aid) : (lateralR l).1.length ≤ l.length := by
  unfold lateralR
  split
  · exact buoysL_len _ _
  · simp
def buoLI (p : List Buo × Int) : AV := .tup [.sl true 3 (p.1.map Buo.cs), .int .i64 p.2]
theorem NoB.buoLI (p : List Buo × Int) : NoB (buoLI p) := .tupC (.rows .oBuo) (.tupC (.int _ _) .tup0)
set_option maxHeartbeats 4000000
theorem lateralBuoys_ {rs : List (List AV)} {t b : Bool} {l : List Aid} (hl : rs = l.map (Aid.cs b)) : AC Tryz.prog 12 [.sl t 16 rs] buoLI (lateralR l) := by
  refine ac Tryz.func12 (by kernel_rfl) (.buoLI _) fun E K hE hK => ?_
  conv => cbv
  refine callP hE (validAids_ hl) (fun hok => ?_) (fun hok => ?_) <;> conv => cbv
  · refine lenL hE hl fun n hn hb => ?_
    conv => cbv
    have h24 := hok.2
    refine loopC hE (ι := Int × (List (List AV))) [11, 12] [13, 4] (fun q => (fun (i : Int) (es : List (List AV)) => [(13, .int .i64 i), (4, .ob 0)]) q.1 q.2) (fun q => (fun (i : Int) (es : List (List AV)) => [.row 3 es]) q.1 q.2) (fun q => (fun (i : Int) (es : List (List AV)) => (l.length - i).toNat) q.1 q.2) (fun q => (fun (i : Int) (es : List (List AV)) => (0 ≤ i ∧ i ≤ l.length) ∧ es = (buoysL l i).map Buo.cs) q.1 q.2) [0] (by decide) ((0, [])) (by conv => lhs; cbv) (by conv => lhs; cbv) rfl rfl (by dsimp only; exact ⟨by omega, by rw [buoysL, selI_zero (by omega)]; rfl⟩) fun q hi Kn hN => ?_
    obtain ⟨i, es⟩ := q
    (try dsimp only at hi)
    conv => cbv
    obtain ⟨⟨h0, h1⟩, h2⟩ := hi
    have hlen := buoysL_len l i
    repeat' first
      | (refine idxAid hE hl (by omega) (fun number name atX atY height mKind mColors mShape mTop lKind lGroup lLetter lColors lPeriod sectors intensity rg rx hv hg hx => ?_); (try conv => cbv))
      | (refine hN (_, _) _ [3] (by decide) rfl ⟨?_, ?_⟩ ?_ <;> (try dsimp only))
      | (refine hN (_, _) _ [0] (by decide) rfl ⟨?_, ?_⟩ ?_ <;> (try dsimp only))
      | ((first
     | refine q0 hE ?_
     | refine callP hE (isLateral_ _ _ _ _ _ _ _ _ _ _ _ _ _ _ hg hx) (fun _ => ?_) (fun _ => ?_)
     | refine catP hE (R := Buo.cs) (v := ⟨atX, atY, mKind⟩) h2 rfl (by omega) (fun _ _ => ?_)
     | refine q1 hE ?_|refine q2 hE ?_|refine ltI hE (fun _=>?_) fun _=>?_|refine q4 hE ?_|refine q5 hE ?_|refine leI hE (fun _=>?_) fun _=>?_|refine q6 hE ?_|refine q7 hE ?_|refine eqI hE (fun _=>?_) fun _=>?_|refine q8 hE fun _ _=>?_|refine q9 hE fun _ _=>?_|refine addI hE fun _ _=>?_|refine subI hE fun _ _=>?_|refine qa hE fun _ _ _=>?_|refine len0 hE fun _ _=>?_|refine qb hE fun _ _=>?_|refine qc hE ?_|refine qd hE ?_|refine iteB (fun _=>?_) fun _=>?_|refine maxI hE fun _ _=>?_|refine minI hE fun _ _=>?_|refine seqI hE (fun _=>?_) fun _=>?_|refine qe hE fun _ _ _=>?_|refine slenI hE fun _ _ _=>?_|refine qf hE fun _ _ _ _=>?_|refine qg hE ?_|refine qh hE fun _ _=>?_|refine qi hE fun _ _=>?_|refine qj hE fun _ _=>?_|refine qk hE fun _ _=>?_|refine ql hE ?_) <;> (try conv => cbv))
    all_goals (try clear hN)
    all_goals first
      | omega
      | (rw [(buoysL_step h0 hv (by assumption)).1 (by assumption)]; assumption)
      | (rw [(buoysL_step h0 hv (by assumption)).2 (by assumption)]; assumption)
      | (refine hK _ ?_; rw [lateralR, if_pos hok, h2, buoysL_all (by omega)]; rfl)
      | trace_state
  · refine nilOwnI hE 3 ?_
    conv => cbv
    exact hK _ (by rw [lateralR, if_neg hok]; rfl)
theorem l31Buoys_ {rs : List (List AV)} {t b : Bool} {l : List Aid} (hl : rs = l.map (Aid.cs b)) (hb0 : l.length ≤ 1048576) : AC Tryz.prog 43 [.sl t 16 rs] (fun l : List Buo => .sl true 3 (l.map Buo.cs)) (buoysL l l.length) := by
  refine ac Tryz.func43 (by kernel_rfl) (.rows .oBuo) fun E K hE hK => ?_
  conv => cbv
  refine loopC hE (ι := Int × (List (List AV))) [0] [4, 3] (fun q => (fun (i : Int) (es : List (List AV)) => [(4, .int .i64 i), (3, .ob 0)]) q.1 q.2) (fun q => (fun (i : Int) (es : List (List AV)) => [.row 3 es]) q.1 q.2) (fun q => (fun (i : Int) (es : List (List AV)) => (l.length - i).toNat) q.1 q.2) (fun q => (fun (i : Int) (es : List (List AV)) => (0 ≤ i ∧ i ≤ l.length) ∧ es = (buoysL l i).map Buo.cs) q.1 q.2) [0] (by decide) ((0, [])) (by conv => lhs; cbv) (by conv => lhs; cbv) rfl rfl (by dsimp only; exact ⟨by omega, by rw [buoysL, selI_zero (by omega)]; rfl⟩) fun q hi Kn hN => ?_
  obtain ⟨i, es⟩ := q
  (try dsimp only at hi)
  conv => cbv
  obtain ⟨⟨h0, h1⟩, h2⟩ := hi
  have hlen := buoysL_len l i
  repeat' first
    | (refine idxAidV hE hl (by omega) (by assumption) (by assumption) (by assumption) ?_; (try conv => cbv))
    | (refine idxAid hE hl (by omega) (fun number name atX atY height mKind mColors mShape mTop lKind lGroup lLetter lColors lPeriod sectors intensity rg rx hv hg hx => ?_); (try conv => cbv))
    | (refine hN (_, _) _ [0] (by decide) rfl ⟨?_, ?_⟩ ?_ <;> (try dsimp only))
    | (refine hN (_, _) _ [1] (by decide) rfl ⟨?_, ?_⟩ ?_ <;> (try dsimp only))
    | (refine hN (_, _) _ [2] (by decide) rfl ⟨?_, ?_⟩ ?_ <;> (try dsimp only))
    | ((first
   | refine q0 hE ?_
   | refine callP hE (l31Lateral_ _ _ _ _ _ _ _ _ _ _ _ _ _ _ hg hx) (fun _ => ?_) (fun _ => ?_)
   | refine catP hE (R := Buo.cs) (v := ⟨atX, atY, mKind⟩) h2 rfl (by omega) (fun _ _ => ?_)
   | refine q1 hE ?_|refine q2 hE ?_|refine ltI hE (fun _=>?_) fun _=>?_|refine q4 hE ?_|refine q5 hE ?_|refine leI hE (fun _=>?_) fun _=>?_|refine q6 hE ?_|refine q7 hE ?_|refine eqI hE (fun _=>?_) fun _=>?_|refine q8 hE fun _ _=>?_|refine q9 hE fun _ _=>?_|refine addI hE fun _ _=>?_|refine subI hE fun _ _=>?_|refine qa hE fun _ _ _=>?_|refine len0 hE fun _ _=>?_|refine qb hE fun _ _=>?_|refine qc hE ?_|refine qd hE ?_|refine iteB (fun _=>?_) fun _=>?_|refine maxI hE fun _ _=>?_|refine minI hE fun _ _=>?_|refine seqI hE (fun _=>?_) fun _=>?_|refine qe hE fun _ _ _=>?_|refine slenI hE fun _ _ _=>?_|refine qf hE fun _ _ _ _=>?_|refine qg hE ?_|refine qh hE fun _ _=>?_|refine qi hE fun _ _=>?_|refine qj hE fun _ _=>?_|refine qk hE fun _ _=>?_|refine ql hE ?_) <;> (try conv => cbv))
  all_goals (try clear hN)
  all_goals first
    | omega
    | (rw [(buoysL_step h0 hv (by assumption)).1 (by assumption)]; assumption)
    | (rw [(buoysL_step h0 hv (by assumption)).2 (by assumption)]; assumption)
    | (refine hK _ ?_; rw [h2, buoysL_all (by omega)]; rfl)
    | trace_state
theorem sLateralBuoys_ {rs : List (List AV)} {t b : Bool} {l : List Aid} (hl : rs = l.map (Aid.cs b)) : AC Tryz.prog 10 [.sl t 16 rs] buoLI (lateralR l) := by
  refine ac Tryz.func10 (by kernel_rfl) (.buoLI _) fun E K hE hK => ?_
  conv => cbv
  refine callP hE (l12Ok_ hl) (fun hok => ?_) (fun hok => ?_) <;> conv => cbv
  · have h24 := hok.2
    refine callR hE (l31Buoys_ hl (by omega)) fun rs' hrs => ?_
    conv => cbv
    exact hK _ (by rw [lateralR, if_pos hok, hrs]; rfl)
  · refine nilOwnI hE 3 ?_
    conv => cbv
    exact hK _ (by rw [lateralR, if_neg hok]; rfl)
theorem lawLateralBuoys {rs : List (List AV)} {t b : Bool} {l : List Aid} (hl : rs = l.map (Aid.cs b)) : AC Tryz.prog 3 [.sl t 16 rs] id (.bool true) := by
  refine ac Tryz.func3 (by kernel_rfl) (.bool _) fun E K hE hK => ?_
  conv => cbv
  have hlen := lateralR_len l
  refine callI hE (szAidS_ _ hl (by decide)) (fun z hz => ?_)
  have hz2 := szN_or2 hz
  clear hz
  conv => cbv
  refine ltI hE (fun hlt => ?_) (fun hge => ?_) <;> conv => cbv
  · exact hK _ rfl
  have hsz : l.length + (l.map Aid.sz).sum ≤ 1048576 := by omega
  have hmk := Aid.mk1_bd2 hsz
  have hbd := Aid.mk1_bd hmk l.length (Nat.le_refl _)
  repeat' first
    | (refine callMI hE (markAidS_ _ (by assumption) (by omega) (by omega) hmk) ?_; rintro _ _ ⟨n9, rs9, hn9, ⟨m9, hm9, hl9⟩, rfl, rfl⟩; conv => cbv)
    | (refine callMI hE (markBuoyS_ _ (by assumption) (by omega) (by omega)) ?_; rintro _ _ ⟨n, rs', hn, hrs', rfl, rfl⟩; conv => cbv)
    | ((first
   | refine q0 hE ?_
   | refine callR hE (toAidS_ hl (by omega)) (fun _ _ => ?_)
   | refine callLI (R := Buo.cs) (k := 3) hE (sLateralBuoys_ (by assumption)) (fun _ _ _ _ => ?_)
   | refine callLI (R := Buo.cs) (k := 3) hE (lateralBuoys_ (by assumption)) (fun _ _ _ _ => ?_)
   | refine callPT hE (eqAidS_ (by assumption) (by assumption)) rfl ?_
   | refine callPT hE (eqBuoyS_ (by assumption) (by assumption)) rfl ?_
   | refine sameI hE (by subst_vars; simp only [List.length_map, Buo.mks_len]; first | done | omega) ?_
   | refine callI hE (heldBuoyS_ _ (by assumption) (by omega) (by omega)) (fun _ _ => ?_)
   | refine q1 hE ?_|refine q2 hE ?_|refine ltI hE (fun _=>?_) fun _=>?_|refine q4 hE ?_|refine q5 hE ?_|refine leI hE (fun _=>?_) fun _=>?_|refine q6 hE ?_|refine q7 hE ?_|refine eqI hE (fun _=>?_) fun _=>?_|refine q8 hE fun _ _=>?_|refine q9 hE fun _ _=>?_|refine addI hE fun _ _=>?_|refine subI hE fun _ _=>?_|refine qa hE fun _ _ _=>?_|refine len0 hE fun _ _=>?_|refine qb hE fun _ _=>?_|refine qc hE ?_|refine qd hE ?_|refine iteB (fun _=>?_) fun _=>?_|refine maxI hE fun _ _=>?_|refine minI hE fun _ _=>?_|refine seqI hE (fun _=>?_) fun _=>?_|refine qe hE fun _ _ _=>?_|refine slenI hE fun _ _ _=>?_|refine qf hE fun _ _ _ _=>?_|refine qg hE ?_|refine qh hE fun _ _=>?_|refine qi hE fun _ _=>?_|refine qj hE fun _ _=>?_|refine qk hE fun _ _=>?_|refine ql hE ?_) <;> (try conv => cbv))
  all_goals first
    | exact hK _ rfl
    | omega
    | trace_state
end Go.Proofs.YtlfnlgbojbgcnaaGreatDoor
