/- Contracts: faults. -/
import Derived.Test.YtifjebnieieolaaGreatDoorFnm
namespace Go.Proofs.YtifjebnieieolaaGreatDoor
open Go Go.RowKit Classical
set_option maxRecDepth 100000
set_option maxHeartbeats 2000000
set_option linter.unusedVariables false
set_option linter.unusedSimpArgs false
structure Fau where
  aid : Int
  kind : Int
  frm : Int
  til : Int
def Fau.cs (v : Fau) : List AV := [.int .i64 v.aid, .int .i64 v.kind, .int .i64 v.frm, .int .i64 v.til]
theorem NoB.oFau (v : Fau) : NoB (.agg v.cs) := (.aggC (.int _ _) (.aggC (.int _ _) (.aggC (.int _ _) (.aggC (.int _ _) .agg0))))
theorem Fau.nown (l : List Fau) : ∀ e ∈ l.map Fau.cs, ∀ c ∈ e, c.isOwn = false := fun e he c hc => by
  obtain ⟨v, _, rfl⟩ := List.mem_map.1 he
  simp only [Fau.cs, List.mem_cons, List.not_mem_nil, or_false] at hc
  rcases hc with rfl | rfl | rfl | rfl <;> rfl
def Fau.mk' (k : Int) : Fau := ⟨k + 0, k + 1, k + 2, k + 3⟩
def Fau.mks (n : Nat) (k : Int) : List Fau := (List.range n).map fun i : Nat => Fau.mk' (k + 4 * (i : Int))
theorem Fau.mks_len (n : Nat) (k : Int) : (Fau.mks n k).length = n := by simp [Fau.mks]
theorem Fau.mks_get {n : Nat} {k i : Int} {v : Fau} (h0 : 0 ≤ i) (h : (Fau.mks n k)[i.toNat]? = some v) : v = Fau.mk' (k + 4 * i) := by
  unfold Fau.mks at h
  rw [List.getElem?_map] at h
  by_cases hi : i.toNat < n
  · rw [List.getElem?_range hi] at h
    simp only [Option.map_some, Option.some.injEq] at h
    rw [← h, Int.toNat_of_nonneg h0]
  · rw [List.getElem?_eq_none (by simpa using Nat.le_of_not_lt hi)] at h; cases h
theorem cloneFault_ {rs : List (List AV)} {t : Bool} {l : List Fau} (hl : rs = l.map Fau.cs) (hb0 : l.length ≤ 1048576) : AC Tryz.prog 24 [.sl t 4 rs] (fun l : List Fau => .sl true 4 (l.map Fau.cs)) l := by
  refine ac Tryz.func24 (by kernel_rfl) (.rows .oFau) fun E K hE hK => ?_
  conv => cbv
  refine lenL hE hl fun n hn hb => ?_
  conv => cbv
  refine makeI hE (by omega) fun es hes => ?_
  conv => cbv
  refine noownI hE (by rw [hl]; exact Fau.nown l) ?_
  conv => cbv
  refine catL hE (l := []) (R := Fau.cs) (by rw [hes]; rfl) hl (by simp; omega) fun es2 hes2 => ?_
  conv => cbv
  exact hK _ (by rw [hes2]; rfl)
theorem indexFaultb_ {rs : List (List AV)} {t : Bool} {l : List Fau} {g : FuncId} {c0 : List AV} {p : Fau → Prop} (hl : rs = l.map Fau.cs) (hp : ∀ aid kind frm til, AC Tryz.prog g [.agg c0, .agg [.int .i64 aid, .int .i64 kind, .int .i64 frm, .int .i64 til]] AV.bool (bP (p ⟨aid, kind, frm, til⟩))) : AC Tryz.prog 45 [.sl t 4 rs, .fb g c0] (AV.int .i64) (firstI p l) := by
  refine ac Tryz.func45 (by kernel_rfl) (.int _ _) fun E K hE hK => ?_
  conv => cbv
  refine lenL hE hl fun n hn hb => ?_
  conv => cbv
  refine loopC hE (ι := Int) [0, 1, 7] [8] (fun q => (fun (i : Int) => [(8, .int .i64 i)]) q) (fun q => (fun (i : Int) => []) q) (fun q => (fun (i : Int) => (l.length - i).toNat) q) (fun q => (fun (i : Int) => 0 ≤ i ∧ Up (fun j => ∀ v, l[j]? = some v → ¬ p v) i) q) [] (by decide) (0) (by conv => lhs; cbv) (by conv => lhs; cbv) rfl rfl (by dsimp only; exact ⟨by omega, .zero (by omega)⟩) fun i hi Kn hN => ?_
  (try dsimp only at hi)
  conv => cbv
  obtain ⟨h0, hinv⟩ := hi
  repeat' first
    | (refine hN _ _ [] (by decide) rfl ⟨?_, ?_⟩ ?_ <;> (try dsimp only))
    | ((first
   | refine q0 hE ?_
   | refine callP hE (hp _ _ _ _) (fun _ => ?_) (fun _ => ?_)
   | (refine idxL (R := Fau.cs) hE (by assumption) (by first | omega | (simp only [List.length_set, mix_len]; omega)) ?_; rintro ⟨⟩ _)
   | refine B0 hE ?_|refine B1 hE (fun _=>?_) fun _=>?_|refine B3 hE fun _ _ _=>?_|refine B2 hE fun _ _=>?_|refine B4 hE fun _ _ _ _=>?_) <;> (try conv => cbv))
  · refine hK _ ?_
    rw [firstI_in h0 (by assumption) (by assumption) hinv]; rfl
  · omega
  · refine hinv.succ ?_ (by assumption)
    clear hN; simp_all
  · omega
  · refine hK _ ?_
    rw [firstI_out (by omega) hinv]; rfl
theorem containsFaultb_ {rs : List (List AV)} {t : Bool} {l : List Fau} {g : FuncId} {c0 : List AV} {p : Fau → Prop} (hl : rs = l.map Fau.cs) (hp : ∀ aid kind frm til, AC Tryz.prog g [.agg c0, .agg [.int .i64 aid, .int .i64 kind, .int .i64 frm, .int .i64 til]] AV.bool (bP (p ⟨aid, kind, frm, til⟩))) : AC Tryz.prog 22 [.sl t 4 rs, .fb g c0] AV.bool (bP (∃ v ∈ l, p v)) := by
  refine ac Tryz.func22 (by kernel_rfl) (.bool _) fun E K hE hK => ?_
  conv => cbv
  refine callI hE (indexFaultb_ hl hp) fun y hy => ?_
  conv => cbv
  refine leI hE (fun h => ?_) (fun h => ?_) <;> conv => cbv
  · exact finB hK (bP_true.2 (firstI_ge.1 (by omega)))
  · exact finB hK (bP_false.2 fun h' => by have := firstI_ge.2 h'; omega)
theorem deleteFaultb_ {rs : List (List AV)} {l : List Fau} {g : FuncId} {c0 : List AV} {p : Fau → Prop} (hl : rs = l.map Fau.cs) (hbl : l.length ≤ 1048576) (hp : ∀ aid kind frm til, AC Tryz.prog g [.agg c0, .agg [.int .i64 aid, .int .i64 kind, .int .i64 frm, .int .i64 til]] AV.bool (bP (p ⟨aid, kind, frm, til⟩))) : ACM Tryz.prog 27 [.sl true 4 rs, .fb g c0] (fun r ys => ∃ rs', rs' = (rej p l).map Fau.cs ∧ r = .sl true 4 rs' ∧ ys = [.any, .any]) := by
  refine acm 1 Tryz.func27 (by kernel_rfl) (fun r ys ⟨rs', h1, h2, h3⟩ => ⟨by rw [h2, h1]; exact .rows .oFau, by rw [h3]; simp; exact .any⟩) fun E K hE hK => ?_
  conv => cbv
  refine callI hE (indexFaultb_ hl hp) fun y hy => ?_
  conv => cbv
  rcases firstI_spec p l with ⟨g1, g2, ⟨v0, g3, g4⟩, g5⟩ | ⟨g1, g2⟩
  · rw [← hy] at g1 g2 g3 g5
    refine eqF hE (by omega) ?_
    conv => cbv
    refine add64 hE (by omega) fun n1 hn1 => ?_
    conv => cbv
    refine loopC hE (ι := Int × Int × (List (List AV))) [1] [5, 6, 0] (fun q => (fun (i : Int) (j : Int) (es : List (List AV)) => [(5, .int .i64 i), (6, .int .i64 j), (0, .ob 0)]) q.1 q.2.1 q.2.2) (fun q => (fun (i : Int) (j : Int) (es : List (List AV)) => [.row 4 es]) q.1 q.2.1 q.2.2) (fun q => (fun (i : Int) (j : Int) (es : List (List AV)) => (l.length - j).toNat) q.1 q.2.1 q.2.2) (fun q => (fun (i : Int) (j : Int) (es : List (List AV)) => ∃ m : List Fau, es = m.map Fau.cs ∧ m.length = l.length ∧ (0 ≤ i ∧ i < j ∧ j ≤ l.length) ∧ m.take i.toNat = (l.take j.toNat).filter (fun v => decide (¬ p v)) ∧ m.drop j.toNat = l.drop j.toNat) q.1 q.2.1 q.2.2) [0] (by decide) ((y, n1, rs)) (by conv => lhs; cbv) (by conv => lhs; cbv) rfl rfl (by dsimp only; exact ⟨l, hl, rfl, by omega, filt_start g1 (by omega) g3 g4 g5, rfl⟩) fun q hi Kn hN => ?_
    obtain ⟨i, j, es⟩ := q
    (try dsimp only at hi)
    conv => cbv
    obtain ⟨m, h2, h3, ⟨h0, h1, h1'⟩, h4, h5⟩ := hi
    have hes : es.length = m.length := by rw [h2]; exact List.length_map ..
    repeat' first
      | (refine idxL hE h2 (by omega) (fun v hv => ?_); have hv2 := filt_get h5 hv; have hv3 := hv; obtain ⟨aid, kind, frm, til⟩ := v; (try conv => cbv))
      | (refine updL hE (v' := (⟨_, _, _, _⟩ : Fau)) (by assumption) (by omega) (List.getElem?_eq_getElem (by omega)) (by exact Nat.le_of_ble_eq_true rfl) (by first | rfl | ((conv => lhs; cbv); rfl)) (fun _ _ => ?_); (try conv => cbv))
      | (refine hN (_, _, _) _ [0] (by decide) rfl ⟨_, by assumption, ?_, ?_, ?_, ?_⟩ ?_ <;> (try dsimp only))
      | ((first
     | refine q0 hE ?_
     | refine callP hE (hp _ _ _ _) (fun _ => ?_) (fun _ => ?_)
     | refine subL hE h2 (by simp only [Option.getD_some, Option.getD_none]; omega) (fun _ _ => ?_)
     | refine clrG hE (by omega) (fun es2 hl2 ht2 => ?_)
     | refine subG hE (by simp only [Option.getD_some, Option.getD_none]; omega) (fun _ _ => ?_)
     | refine B0 hE ?_|refine B1 hE (fun _=>?_) fun _=>?_|refine B3 hE fun _ _ _=>?_|refine B2 hE fun _ _=>?_|refine B4 hE fun _ _ _ _=>?_) <;> (try conv => cbv))
    all_goals first
      | omega
      | (simp only [List.length_set]; omega)
      | exact hK _ _ ⟨_, filt_done h2 ht2 h4 (by omega) (by assumption), rfl, rfl⟩
      | exact filt_skip (by omega) hv2 (by assumption) (by assumption) h4
      | exact filt_keep (by omega) (by omega) hv2 (by assumption) (by assumption) (by assumption) h4
      | exact filt_drop (by omega) (by assumption) h5
      | exact filt_dropS (by omega) (by assumption) h5
      | trace_state
  · rw [← hy] at g1
    refine eqT hE g1 ?_
    conv => cbv
    exact hK _ _ ⟨rs, by rw [hl, filt_none g2], rfl, rfl⟩
theorem indexFault0_ {rs : List (List AV)} {t : Bool} {l : List Fau} {g : FuncId} {p : Fau → Prop} (hl : rs = l.map Fau.cs) (hp : ∀ aid kind frm til, AC Tryz.prog g (.agg [.int .i64 aid, .int .i64 kind, .int .i64 frm, .int .i64 til] :: []) AV.bool (bP (p ⟨aid, kind, frm, til⟩))) : AC Tryz.prog 45 [.sl t 4 rs, .fn g []] (AV.int .i64) (firstI p l) := by
  refine ac Tryz.func45 (by kernel_rfl) (.int _ _) fun E K hE hK => ?_
  conv => cbv
  refine lenL hE hl fun n hn hb => ?_
  conv => cbv
  refine loopC hE (ι := Int) [0, 1, 7] [8] (fun q => (fun (i : Int) => [(8, .int .i64 i)]) q) (fun q => (fun (i : Int) => []) q) (fun q => (fun (i : Int) => (l.length - i).toNat) q) (fun q => (fun (i : Int) => 0 ≤ i ∧ Up (fun j => ∀ v, l[j]? = some v → ¬ p v) i) q) [] (by decide) (0) (by conv => lhs; cbv) (by conv => lhs; cbv) rfl rfl (by dsimp only; exact ⟨by omega, .zero (by omega)⟩) fun i hi Kn hN => ?_
  (try dsimp only at hi)
  conv => cbv
  obtain ⟨h0, hinv⟩ := hi
  repeat' first
    | (refine hN _ _ [] (by decide) rfl ⟨?_, ?_⟩ ?_ <;> (try dsimp only))
    | ((first
   | refine q0 hE ?_
   | refine callP hE (hp _ _ _ _) (fun _ => ?_) (fun _ => ?_)
   | (refine idxL (R := Fau.cs) hE (by assumption) (by first | omega | (simp only [List.length_set, mix_len]; omega)) ?_; rintro ⟨⟩ _)
   | refine B0 hE ?_|refine B1 hE (fun _=>?_) fun _=>?_|refine B3 hE fun _ _ _=>?_|refine B2 hE fun _ _=>?_|refine B4 hE fun _ _ _ _=>?_) <;> (try conv => cbv))
  · refine hK _ ?_
    rw [firstI_in h0 (by assumption) (by assumption) hinv]; rfl
  · omega
  · refine hinv.succ ?_ (by assumption)
    clear hN; simp_all
  · omega
  · refine hK _ ?_
    rw [firstI_out (by omega) hinv]; rfl
theorem containsFault0_ {rs : List (List AV)} {t : Bool} {l : List Fau} {g : FuncId} {p : Fau → Prop} (hl : rs = l.map Fau.cs) (hp : ∀ aid kind frm til, AC Tryz.prog g (.agg [.int .i64 aid, .int .i64 kind, .int .i64 frm, .int .i64 til] :: []) AV.bool (bP (p ⟨aid, kind, frm, til⟩))) : AC Tryz.prog 22 [.sl t 4 rs, .fn g []] AV.bool (bP (∃ v ∈ l, p v)) := by
  refine ac Tryz.func22 (by kernel_rfl) (.bool _) fun E K hE hK => ?_
  conv => cbv
  refine callI hE (indexFault0_ hl hp) fun y hy => ?_
  conv => cbv
  refine leI hE (fun h => ?_) (fun h => ?_) <;> conv => cbv
  · exact finB hK (bP_true.2 (firstI_ge.1 (by omega)))
  · exact finB hK (bP_false.2 fun h' => by have := firstI_ge.2 h'; omega)
theorem deleteFault0_ {rs : List (List AV)} {l : List Fau} {g : FuncId} {p : Fau → Prop} (hl : rs = l.map Fau.cs) (hbl : l.length ≤ 1048576) (hp : ∀ aid kind frm til, AC Tryz.prog g (.agg [.int .i64 aid, .int .i64 kind, .int .i64 frm, .int .i64 til] :: []) AV.bool (bP (p ⟨aid, kind, frm, til⟩))) : ACM Tryz.prog 27 [.sl true 4 rs, .fn g []] (fun r ys => ∃ rs', rs' = (rej p l).map Fau.cs ∧ r = .sl true 4 rs' ∧ ys = [.any, .any]) := by
  refine acm 1 Tryz.func27 (by kernel_rfl) (fun r ys ⟨rs', h1, h2, h3⟩ => ⟨by rw [h2, h1]; exact .rows .oFau, by rw [h3]; simp; exact .any⟩) fun E K hE hK => ?_
  conv => cbv
  refine callI hE (indexFault0_ hl hp) fun y hy => ?_
  conv => cbv
  rcases firstI_spec p l with ⟨g1, g2, ⟨v0, g3, g4⟩, g5⟩ | ⟨g1, g2⟩
  · rw [← hy] at g1 g2 g3 g5
    refine eqF hE (by omega) ?_
    conv => cbv
    refine add64 hE (by omega) fun n1 hn1 => ?_
    conv => cbv
    refine loopC hE (ι := Int × Int × (List (List AV))) [1] [5, 6, 0] (fun q => (fun (i : Int) (j : Int) (es : List (List AV)) => [(5, .int .i64 i), (6, .int .i64 j), (0, .ob 0)]) q.1 q.2.1 q.2.2) (fun q => (fun (i : Int) (j : Int) (es : List (List AV)) => [.row 4 es]) q.1 q.2.1 q.2.2) (fun q => (fun (i : Int) (j : Int) (es : List (List AV)) => (l.length - j).toNat) q.1 q.2.1 q.2.2) (fun q => (fun (i : Int) (j : Int) (es : List (List AV)) => ∃ m : List Fau, es = m.map Fau.cs ∧ m.length = l.length ∧ (0 ≤ i ∧ i < j ∧ j ≤ l.length) ∧ m.take i.toNat = (l.take j.toNat).filter (fun v => decide (¬ p v)) ∧ m.drop j.toNat = l.drop j.toNat) q.1 q.2.1 q.2.2) [0] (by decide) ((y, n1, rs)) (by conv => lhs; cbv) (by conv => lhs; cbv) rfl rfl (by dsimp only; exact ⟨l, hl, rfl, by omega, filt_start g1 (by omega) g3 g4 g5, rfl⟩) fun q hi Kn hN => ?_
    obtain ⟨i, j, es⟩ := q
    (try dsimp only at hi)
    conv => cbv
    obtain ⟨m, h2, h3, ⟨h0, h1, h1'⟩, h4, h5⟩ := hi
    have hes : es.length = m.length := by rw [h2]; exact List.length_map ..
    repeat' first
      | (refine idxL hE h2 (by omega) (fun v hv => ?_); have hv2 := filt_get h5 hv; have hv3 := hv; obtain ⟨aid, kind, frm, til⟩ := v; (try conv => cbv))
      | (refine updL hE (v' := (⟨_, _, _, _⟩ : Fau)) (by assumption) (by omega) (List.getElem?_eq_getElem (by omega)) (by exact Nat.le_of_ble_eq_true rfl) (by first | rfl | ((conv => lhs; cbv); rfl)) (fun _ _ => ?_); (try conv => cbv))
      | (refine hN (_, _, _) _ [0] (by decide) rfl ⟨_, by assumption, ?_, ?_, ?_, ?_⟩ ?_ <;> (try dsimp only))
      | ((first
     | refine q0 hE ?_
     | refine callP hE (hp _ _ _ _) (fun _ => ?_) (fun _ => ?_)
     | refine subL hE h2 (by simp only [Option.getD_some, Option.getD_none]; omega) (fun _ _ => ?_)
     | refine clrG hE (by omega) (fun es2 hl2 ht2 => ?_)
     | refine subG hE (by simp only [Option.getD_some, Option.getD_none]; omega) (fun _ _ => ?_)
     | refine B0 hE ?_|refine B1 hE (fun _=>?_) fun _=>?_|refine B3 hE fun _ _ _=>?_|refine B2 hE fun _ _=>?_|refine B4 hE fun _ _ _ _=>?_) <;> (try conv => cbv))
    all_goals first
      | omega
      | (simp only [List.length_set]; omega)
      | exact hK _ _ ⟨_, filt_done h2 ht2 h4 (by omega) (by assumption), rfl, rfl⟩
      | exact filt_skip (by omega) hv2 (by assumption) (by assumption) h4
      | exact filt_keep (by omega) (by omega) hv2 (by assumption) (by assumption) (by assumption) h4
      | exact filt_drop (by omega) (by assumption) h5
      | exact filt_dropS (by omega) (by assumption) h5
      | trace_state
  · rw [← hy] at g1
    refine eqT hE g1 ?_
    conv => cbv
    exact hK _ _ ⟨rs, by rw [hl, filt_none g2], rfl, rfl⟩
theorem isFaultKind_ (n : Int) : AC Tryz.prog 44 [.int .i64 n] AV.bool (bP (1 ≤ n ∧ n ≤ 4)) := by
  refine ac Tryz.func44 (by kernel_rfl) (.bool _) fun E K hE hK => ?_
  conv => cbv
  repeat' first
    | ((first
   | refine q0 hE ?_
   | refine callP hE (within_ _ _ _) (fun _ => ?_) (fun _ => ?_)
   | refine B0 hE ?_|refine B1 hE (fun _=>?_) fun _=>?_|refine B3 hE fun _ _ _=>?_|refine B2 hE fun _ _=>?_|refine B4 hE fun _ _ _ _=>?_) <;> (try conv => cbv))
  all_goals (try clear hN)
  all_goals first
    | (omega)
    | (refine finB hK (bP_true.2 ?_); first | omega | grind)
    | (refine finB hK (bP_false.2 ?_); first | omega | (intro h; grind))
    | (refine ⟨by omega, Up.succ (by assumption) ?_ (by assumption)⟩; grind)
    | (refine hK _ ?_; simp_all [atup]; done)
    | (grind)
theorem l20Kind_ (n : Int) : AC Tryz.prog 83 [.int .i64 n] AV.bool (bP (1 ≤ n ∧ n ≤ 4)) := by
  refine ac Tryz.func83 (by kernel_rfl) (.bool _) fun E K hE hK => ?_
  conv => cbv
  repeat' first
    | ((first
   | refine q0 hE ?_
   | refine callP hE (in_ _ _ _) (fun _ => ?_) (fun _ => ?_)
   | refine B0 hE ?_|refine B1 hE (fun _=>?_) fun _=>?_|refine B3 hE fun _ _ _=>?_|refine B2 hE fun _ _=>?_|refine B4 hE fun _ _ _ _=>?_) <;> (try conv => cbv))
  all_goals (try clear hN)
  all_goals first
    | (omega)
    | (refine finB hK (bP_true.2 ?_); first | omega | grind)
    | (refine finB hK (bP_false.2 ?_); first | omega | (intro h; grind))
    | (refine ⟨by omega, Up.succ (by assumption) ?_ (by assumption)⟩; grind)
    | (refine hK _ ?_; simp_all [atup]; done)
    | (grind)
def Fau.ok (v : Fau) : Prop := (1 ≤ v.aid ∧ v.aid ≤ 9999) ∧ (1 ≤ v.kind ∧ v.kind ≤ 4) ∧ TimeOk v.frm ∧ (v.til = -1 ∨ TimeOk v.til ∧ v.frm < v.til)
def Fau.end_ (v : Fau) : Int := if v.til = -1 then 144000000 else v.til
def Fau.meets (f g : Fau) : Prop := f.aid = g.aid ∧ f.kind = g.kind ∧ max f.frm g.frm < min f.end_ g.end_
theorem fauValid_ (aid kind frm til : Int) : AC Tryz.prog 21 [.agg [.int .i64 aid, .int .i64 kind, .int .i64 frm, .int .i64 til]] AV.bool (bP (Fau.ok ⟨aid, kind, frm, til⟩)) := by
  refine ac Tryz.func21 (by kernel_rfl) (.bool _) fun E K hE hK => ?_
  conv => cbv
  repeat' first
    | (refine callP hE (isTime_ _) (fun ht => ?_) (fun _ => ?_) <;> (try unfold TimeOk at ht) <;> (try conv => cbv))
    | ((first
   | refine q0 hE ?_
   | refine callP hE (isNumber_ _) (fun _ => ?_) (fun _ => ?_)
   | refine callP hE (isFaultKind_ _) (fun _ => ?_) (fun _ => ?_)
   | refine callP hE (within_ _ _ _) (fun _ => ?_) (fun _ => ?_)
   | refine B0 hE ?_|refine B1 hE (fun _=>?_) fun _=>?_|refine B3 hE fun _ _ _=>?_|refine B2 hE fun _ _=>?_|refine B4 hE fun _ _ _ _=>?_) <;> (try conv => cbv))
  all_goals first
    | (refine finB hK (bP_true.2 ?_); simp only [Fau.ok, TimeOk]; omega)
    | (refine finB hK (bP_false.2 fun h => ?_); simp only [Fau.ok, TimeOk] at *; omega)
    | trace_state
theorem l20One_ (aid kind frm til : Int) : AC Tryz.prog 51 [.pp [.int .i64 aid, .int .i64 kind, .int .i64 frm, .int .i64 til]] AV.bool (bP (Fau.ok ⟨aid, kind, frm, til⟩)) := by
  refine ac Tryz.func51 (by kernel_rfl) (.bool _) fun E K hE hK => ?_
  conv => cbv
  repeat' first
    | (refine callP hE (l20Time_ _) (fun ht => ?_) (fun _ => ?_) <;> (try unfold TimeOk at ht) <;> (try conv => cbv))
    | ((first
   | refine q0 hE ?_
   | refine callP hE (l20Number_ _) (fun _ => ?_) (fun _ => ?_)
   | refine callP hE (l20Kind_ _) (fun _ => ?_) (fun _ => ?_)
   | refine B0 hE ?_|refine B1 hE (fun _=>?_) fun _=>?_|refine B3 hE fun _ _ _=>?_|refine B2 hE fun _ _=>?_|refine B4 hE fun _ _ _ _=>?_) <;> (try conv => cbv))
  all_goals first
    | (refine finB hK (bP_true.2 ?_); simp only [Fau.ok, TimeOk]; omega)
    | (refine finB hK (bP_false.2 fun h => ?_); simp only [Fau.ok, TimeOk] at *; omega)
    | trace_state
theorem fauEnd_ (aid kind frm til : Int) : AC Tryz.prog 31 [.agg [.int .i64 aid, .int .i64 kind, .int .i64 frm, .int .i64 til]] (AV.int .i64) (Fau.end_ ⟨aid, kind, frm, til⟩) := by
  refine ac Tryz.func31 (by kernel_rfl) (.int _ _) fun E K hE hK => ?_
  conv => cbv
  repeat' first
    | ((first
   | refine q0 hE ?_
   | refine B0 hE ?_|refine B1 hE (fun _=>?_) fun _=>?_|refine B3 hE fun _ _ _=>?_|refine B2 hE fun _ _=>?_|refine B4 hE fun _ _ _ _=>?_) <;> (try conv => cbv))
  all_goals (refine hK _ ?_; unfold Fau.end_; simp only [atup]; first | (rw [if_pos (by assumption)]; done) | (rw [if_neg (by assumption)]; done) | trace_state)
theorem l20End_ (aid kind frm til : Int) : AC Tryz.prog 53 [.pp [.int .i64 aid, .int .i64 kind, .int .i64 frm, .int .i64 til]] (AV.int .i64) (Fau.end_ ⟨aid, kind, frm, til⟩) := by
  refine ac Tryz.func53 (by kernel_rfl) (.int _ _) fun E K hE hK => ?_
  conv => cbv
  repeat' first
    | ((first
   | refine q0 hE ?_
   | refine B0 hE ?_|refine B1 hE (fun _=>?_) fun _=>?_|refine B3 hE fun _ _ _=>?_|refine B2 hE fun _ _=>?_|refine B4 hE fun _ _ _ _=>?_) <;> (try conv => cbv))
  all_goals (refine hK _ ?_; unfold Fau.end_; simp only [atup]; first | (rw [if_pos (by assumption)]; done) | (rw [if_neg (by assumption)]; done) | trace_state)
theorem fauMeets_ (aid kind frm til aid' kind' frm' til' : Int) : AC Tryz.prog 23 [.agg [.int .i64 aid, .int .i64 kind, .int .i64 frm, .int .i64 til], .agg [.int .i64 aid', .int .i64 kind', .int .i64 frm', .int .i64 til']] AV.bool (bP (Fau.meets ⟨aid, kind, frm, til⟩ ⟨aid', kind', frm', til'⟩)) := by
  refine ac Tryz.func23 (by kernel_rfl) (.bool _) fun E K hE hK => ?_
  conv => cbv
  repeat' first
    | ((first
   | refine q0 hE ?_
   | refine callI hE (fauEnd_ _ _ _ _) (fun _ _ => ?_)
   | refine B0 hE ?_|refine B1 hE (fun _=>?_) fun _=>?_|refine B3 hE fun _ _ _=>?_|refine B2 hE fun _ _=>?_|refine B4 hE fun _ _ _ _=>?_) <;> (try conv => cbv))
  all_goals first
    | (refine finB hK (bP_true.2 ⟨?_, ?_, ?_⟩) <;> dsimp only <;> omega)
    | (refine finB hK (bP_false.2 fun h => ?_); obtain ⟨h1, h2, h3⟩ := h; dsimp only at h1 h2 h3; omega)
    | trace_state
def Fau.less (a b : Fau) : Prop := a.frm < b.frm ∨ a.frm = b.frm ∧ (a.aid < b.aid ∨ a.aid = b.aid ∧ a.kind < b.kind)
def Fau.cmp (a b : Fau) : Int := orI [cmpI a.frm b.frm, cmpI a.aid b.aid, cmpI a.kind b.kind]
theorem Fau.cmp_neg (a b : Fau) : Fau.cmp a b < 0 ↔ Fau.less a b := by
  unfold Fau.cmp Fau.less cmpI
  simp only [orI]
  split <;> (try split) <;> (try split) <;> (try split) <;> (try split) <;> (try split) <;> omega
theorem Fau.less_tr (x y z : Fau) (h1 : Fau.less x y) (h2 : Fau.less y z) : Fau.less x z := by unfold Fau.less at *; omega
theorem Fau.less_ir (x : Fau) : ¬ Fau.less x x := by unfold Fau.less; omega
theorem fauCompare_ (aid kind frm til aid' kind' frm' til' : Int) : AC Tryz.prog 26 [.agg [.int .i64 aid, .int .i64 kind, .int .i64 frm, .int .i64 til], .agg [.int .i64 aid', .int .i64 kind', .int .i64 frm', .int .i64 til']] (AV.int .i64) (Fau.cmp ⟨aid, kind, frm, til⟩ ⟨aid', kind', frm', til'⟩) := by
  refine ac Tryz.func26 (by kernel_rfl) (.int _ _) fun E K hE hK => ?_
  conv => cbv
  repeat' first
    | ((first
   | refine q0 hE ?_
   | refine callI hE (compare_ _ _) (fun _ _ => ?_)
   | refine callI hE (cmpOr_ (l := [_, _, _]) (by rfl)) (fun _ _ => ?_)
   | refine B0 hE ?_|refine B1 hE (fun _=>?_) fun _=>?_|refine B3 hE fun _ _ _=>?_|refine B2 hE fun _ _=>?_|refine B4 hE fun _ _ _ _=>?_) <;> (try conv => cbv))
  refine hK _ ?_
  subst_vars
  rfl
theorem l20Less_ (aid kind frm til aid' kind' frm' til' : Int) : AC Tryz.prog 52 [.pp [.int .i64 aid, .int .i64 kind, .int .i64 frm, .int .i64 til], .pp [.int .i64 aid', .int .i64 kind', .int .i64 frm', .int .i64 til']] AV.bool (bP (Fau.less ⟨aid, kind, frm, til⟩ ⟨aid', kind', frm', til'⟩)) := by
  refine ac Tryz.func52 (by kernel_rfl) (.bool _) fun E K hE hK => ?_
  conv => cbv
  repeat' first
    | ((first
   | refine q0 hE ?_
   | refine B0 hE ?_|refine B1 hE (fun _=>?_) fun _=>?_|refine B3 hE fun _ _ _=>?_|refine B2 hE fun _ _=>?_|refine B4 hE fun _ _ _ _=>?_) <;> (try conv => cbv))
  all_goals first
    | (refine finB hK (bP_true.2 ?_); unfold Fau.less; simp only; omega)
    | (refine finB hK (bP_false.2 ?_); unfold Fau.less; simp only; omega)
    | trace_state
def Fau.C (l : List Fau) (j : Nat) : Prop := ∃ v, l[j]? = some v ∧ v.ok ∧ (0 < j → ∃ w, l[j - 1]? = some w ∧ w.less v) ∧ ∀ w ∈ l.take j, ¬ v.meets w
def FaultsOk (l : List Fau) : Prop := (∀ j, j < l.length → Fau.C l j) ∧ l.length ≤ 48
theorem fauC_mk {l : List Fau} {i : Int} {v : Fau} (h0 : 0 ≤ i) (hv : l[i.toNat]? = some v) (hok : v.ok) (hp : i ≤ 0 ∨ ∃ (n : Int) (w : Fau), n = i - 1 ∧ l[n.toNat]? = some w ∧ w.less v)
    (hr : ∀ w ∈ (l.take i.toNat), ¬ v.meets w) : Fau.C l i.toNat := by
  refine ⟨v, hv, hok, fun h => ?_, hr⟩
  rcases hp with hp | ⟨n, w, rfl, hw, hl⟩
  · omega
  · exact ⟨w, by rw [show i.toNat - 1 = (i - 1).toNat by omega]; exact hw, hl⟩
theorem fauC_ok {l : List Fau} {i : Int} {v : Fau} (h0 : 0 ≤ i) (h : Fau.C l i.toNat) (hv : l[i.toNat]? = some v) : v.ok ∧ (∀ (n : Int) w, n = i - 1 → 0 < i → l[n.toNat]? = some w → w.less v) ∧ ∀ w ∈ (l.take i.toNat), ¬ v.meets w := by
  obtain ⟨v', h1, h2, h3, h4⟩ := h
  rw [hv] at h1; cases h1
  refine ⟨h2, fun n w hn hi hw => ?_, h4⟩
  obtain ⟨w', hw', hl⟩ := h3 (by omega)
  rw [show i.toNat - 1 = n.toNat by omega, hw] at hw'; cases hw'
  exact hl
theorem FaultsOk.all {l : List Fau} (h : FaultsOk l) : ∀ v ∈ l, v.ok := fun v hv => by
  obtain ⟨j, hj⟩ := List.getElem?_of_mem hv
  obtain ⟨w, h1, h2, _⟩ := h.1 j (List.getElem?_eq_some_iff.1 hj).1
  rw [hj] at h1; cases h1; exact h2
/-- Those before begin no later. -/
theorem fau_le {l : List Fau} {j : Nat} : ∀ (k : Nat) x y, (∀ m v, j < m → m ≤ k → l[m]? = some v → ∃ w, l[m - 1]? = some w ∧ w.less v) → j ≤ k → l[j]? = some x → l[k]? = some y → x.frm ≤ y.frm
  | 0, x, y, _, h1, hx, hy => by
    have : j = 0 := by omega
    subst this; rw [hx] at hy; cases hy; omega
  | k + 1, x, y, h, h1, hx, hy => by
    rcases Nat.lt_or_ge j (k + 1) with hj | hj
    · obtain ⟨w, hw, hl⟩ := h (k + 1) y hj (Nat.le_refl _) hy
      rw [Nat.add_sub_cancel] at hw
      have := fau_le k x w (fun m v g1 g2 g3 => h m v g1 (by omega) g3) (by omega) hx hw
      unfold Fau.less at hl; omega
    · have : j = k + 1 := by omega
      subst this; rw [hx] at hy; cases hy; omega
theorem fau_meets {v w : Fau} (hv : v.ok) (hw : w.ok) (h : w.frm ≤ v.frm) : v.meets w ↔ w.aid = v.aid ∧ w.kind = v.kind ∧ v.frm < w.end_ := by
  unfold Fau.ok TimeOk at hv hw
  unfold Fau.meets Fau.end_
  split <;> split <;> omega
theorem fauNo {l : List Fau} {i : Int} {v : Fau} (h : ¬ ∃ w, w ∈ (l.take ((some i).getD (l.length : Int)).toNat).drop ((none : Option Int).getD 0).toNat ∧ v.meets w) : ∀ w ∈ l.take i.toNat, ¬ v.meets w := fun w hw hm => h ⟨w, hw, hm⟩
theorem fauYes {l : List Fau} {i : Int} {v : Fau} (h : ∃ w, w ∈ (l.take ((some i).getD (l.length : Int)).toNat).drop ((none : Option Int).getD 0).toNat ∧ v.meets w) : ¬ ∀ w ∈ l.take i.toNat, ¬ v.meets w := fun g => by
  obtain ⟨w, hw, hm⟩ := h
  exact g w hw hm
theorem validFaults_ {rs : List (List AV)} {t : Bool} {l : List Fau} (hl : rs = l.map Fau.cs) : AC Tryz.prog 20 [.sl t 4 rs] AV.bool (bP (FaultsOk l)) := by
  refine ac Tryz.func20 (by kernel_rfl) (.bool _) fun E K hE hK => ?_
  conv => cbv
  refine lenL hE hl fun n hn hb => ?_
  conv => cbv
  refine loopC hE (ι := Int) [0, 5, 6] [7] (fun q => (fun (i : Int) => [(7, .int .i64 i)]) q) (fun q => (fun (i : Int) => []) q) (fun q => (fun (i : Int) => (l.length - i).toNat) q) (fun q => (fun (i : Int) => 0 ≤ i ∧ Up (Fau.C l) i) q) [] (by decide) (0) (by conv => lhs; cbv) (by conv => lhs; cbv) rfl rfl (by dsimp only; exact ⟨by omega, .zero (by omega)⟩) fun i hi Kn hN => ?_
  (try dsimp only at hi)
  conv => cbv
  obtain ⟨h0, hinv⟩ := hi
  repeat' first
    | (refine idxL hE hl (by omega) (fun v hv => ?_); obtain ⟨aid, kind, frm, til⟩ := v; (try conv => cbv))
    | (refine callP hE (containsFaultb_ (p := fun w => Fau.meets ⟨_, _, _, _⟩ w) (by assumption) (fun a b c d => fauMeets_ _ _ _ _ a b c d)) (fun _ => ?_) (fun _ => ?_) <;> (try conv => cbv))
    | (refine hN _ _ [] (by decide) rfl ⟨?_, ?_⟩ ?_ <;> (try dsimp only))
    | ((first
   | refine q0 hE ?_
   | refine callP hE (fauValid_ _ _ _ _) (fun _ => ?_) (fun _ => ?_)
   | refine callP hE (few_ _ _) (fun _ => ?_) (fun _ => ?_)
   | refine callI hE (fauCompare_ _ _ _ _ _ _ _ _) (fun _ _ => ?_)
   | refine subL hE hl (by simp only [Option.getD_some, Option.getD_none]; omega) (fun _ _ => ?_)
   | refine B0 hE ?_|refine B1 hE (fun _=>?_) fun _=>?_|refine B3 hE fun _ _ _=>?_|refine B2 hE fun _ _=>?_|refine B4 hE fun _ _ _ _=>?_) <;> (try conv => cbv))
  all_goals (try clear hN)
  all_goals first
    | omega
    | exact hinv.succ (fauC_mk h0 (by assumption) (by assumption) (.inr ⟨_, _, by assumption, by assumption, (Fau.cmp_neg _ _).1 (by omega)⟩) (fauNo (by assumption))) (by assumption)
    | exact hinv.succ (fauC_mk h0 (by assumption) (by assumption) (.inl (by omega)) (fauNo (by assumption))) (by assumption)
    | (refine finB hK (bP_false.2 fun h => ?_); have k := fauC_ok h0 (h.1 i.toNat (by omega)) (by assumption); first | exact absurd k.1 (by assumption) | (have := (Fau.cmp_neg _ _).2 (k.2.1 _ _ (by assumption) (by omega) (by assumption)); omega) | exact fauYes (by assumption) k.2.2)
    | exact finB hK (bP_true.2 ⟨hinv.all (by omega), by omega⟩)
    | (refine finB hK (bP_false.2 fun h => ?_); have := h.2; omega)
    | trace_state
theorem fau_prev {l : List Fau} {i : Int} (h : Up (Fau.C l) i) (m : Nat) (v : Fau) (hm : (m : Int) < i) (h0 : 0 < m) (hv : l[m]? = some v) : ∃ w, l[m - 1]? = some w ∧ w.less v := by
  obtain ⟨v', h1, _, h3, _⟩ := h m hm
  rw [hv] at h1; cases h1
  exact h3 h0
/-- The reference's test, at all those before. -/
theorem fau_none {l : List Fau} {i k : Int} {v : Fau} (h0 : 0 ≤ i) (hk : i ≤ k) (hv : l[i.toNat]? = some v) (hok : v.ok) (hC : Up (Fau.C l) i) (hp : i ≤ 0 ∨ ∃ (n : Int) (w : Fau), n = i - 1 ∧ l[n.toNat]? = some w ∧ w.less v)
    (h : Up (fun j => ∀ w, l[j]? = some w → ¬ (w.aid = v.aid ∧ w.kind = v.kind ∧ v.frm < w.end_)) k) : ∀ w ∈ l.take i.toNat, ¬ v.meets w := fun w hw hm => by
  obtain ⟨j, hj⟩ := List.getElem?_of_mem hw
  have hlt := (List.getElem?_eq_some_iff.1 hj).1
  rw [List.length_take] at hlt
  rw [List.getElem?_take, if_pos (by omega)] at hj
  obtain ⟨w', g1, g2, _⟩ := hC j (by omega)
  rw [hj] at g1; cases g1
  have hle : w.frm ≤ v.frm := fau_le (j := j) i.toNat w v (fun m u g3 g4 g5 => by
    rcases Nat.lt_or_ge m i.toNat with g6 | g6
    · exact fau_prev hC m u (by omega) (by omega) g5
    · have : m = i.toNat := by omega
      subst this
      rw [hv] at g5; cases g5
      rcases hp with hp | ⟨n, w2, rfl, hw2, hl⟩
      · omega
      · exact ⟨w2, by rw [show i.toNat - 1 = (i - 1).toNat by omega]; exact hw2, hl⟩) (by omega) hj hv
  exact h j (by omega) w hj ((fau_meets hok g2 hle).1 hm)
theorem fau_some {l : List Fau} {i k : Int} {v w : Fau} (h : FaultsOk l) (h0 : 0 ≤ k ∧ k < i) (hi : i < l.length) (hv : l[i.toNat]? = some v) (hw : l[k.toNat]? = some w) (h1 : w.aid = v.aid) (h2 : w.kind = v.kind) (h3 : v.frm < w.end_) : False := by
  obtain ⟨v', g1, g2, _, g4⟩ := h.1 i.toNat (by omega)
  rw [hv] at g1; cases g1
  obtain ⟨w', g5, g6, _⟩ := h.1 k.toNat (by omega)
  rw [hw] at g5; cases g5
  have hle : w.frm ≤ v.frm := fau_le (j := k.toNat) i.toNat w v (fun m u q1 q2 q3 => fau_prev (i := l.length) (fun j hj => h.1 j (by omega)) m u (by have := (List.getElem?_eq_some_iff.1 q3).1; omega) (by omega) q3) (by omega) hw hv
  refine g4 w ?_ ((fau_meets g2 g6 hle).2 ⟨h1, h2, h3⟩)
  exact List.mem_of_getElem? (i := k.toNat) (by rw [List.getElem?_take, if_pos (by omega)]; exact hw)
theorem fauStep {l : List Fau} {i k n : Int} {w0 : Fau} (h : Up (fun j => ∀ (v w : Fau), l[i.toNat]? = some v → l[j]? = some w → ¬ (w.aid = v.aid ∧ w.kind = v.kind ∧ v.frm < w.end_)) k) (hw : l[k.toNat]? = some w0) (hs : ∀ v w, l[i.toNat]? = some v → l[k.toNat]? = some w → ¬ (w.aid = v.aid ∧ w.kind = v.kind ∧ v.frm < w.end_)) (hn : n = k + 1) :
    Up (fun j => ∀ (v w : Fau), l[i.toNat]? = some v → l[j]? = some w → ¬ (w.aid = v.aid ∧ w.kind = v.kind ∧ v.frm < w.end_)) n := h.succ hs hn
theorem fauStop {l : List Fau} {i k : Int} {v0 w0 v w : Fau} (hv : l[i.toNat]? = some v0) (hw : l[k.toNat]? = some w0) (g1 : l[i.toNat]? = some v) (g2 : l[k.toNat]? = some w) (h : w0.aid ≠ v0.aid ∨ w0.kind ≠ v0.kind ∨ w0.end_ ≤ v0.frm) : ¬ (w.aid = v.aid ∧ w.kind = v.kind ∧ v.frm < w.end_) := by
  rw [hv] at g1; cases g1
  rw [hw] at g2; cases g2
  omega
theorem fauStep2 {l : List Fau} {i k n : Int} {v0 w0 : Fau} (h : Up (fun j => ∀ (v w : Fau), l[i.toNat]? = some v → l[j]? = some w → ¬ (w.aid = v.aid ∧ w.kind = v.kind ∧ v.frm < w.end_)) k) (hv : l[i.toNat]? = some v0) (hw : l[k.toNat]? = some w0) (hd : w0.aid ≠ v0.aid ∨ w0.kind ≠ v0.kind ∨ w0.end_ ≤ v0.frm) (hn : n = k + 1) :
    Up (fun j => ∀ (v w : Fau), l[i.toNat]? = some v → l[j]? = some w → ¬ (w.aid = v.aid ∧ w.kind = v.kind ∧ v.frm < w.end_)) n := fauStep h hw (fun v w g1 g2 => fauStop hv hw g1 g2 hd) hn
theorem fauAt {l : List Fau} {i k : Int} {v0 : Fau} (h : Up (fun j => ∀ (v w : Fau), l[i.toNat]? = some v → l[j]? = some w → ¬ (w.aid = v.aid ∧ w.kind = v.kind ∧ v.frm < w.end_)) k) (hv : l[i.toNat]? = some v0) : Up (fun j => ∀ w, l[j]? = some w → ¬ (w.aid = v0.aid ∧ w.kind = v0.kind ∧ v0.frm < w.end_)) k := fun j hj w hw => h j hj v0 w hv hw
theorem l20Ok_ {rs : List (List AV)} {t : Bool} {l : List Fau} (hl : rs = l.map Fau.cs) : AC Tryz.prog 33 [.sl t 4 rs] AV.bool (bP (FaultsOk l)) := by
  refine ac Tryz.func33 (by kernel_rfl) (.bool _) fun E K hE hK => ?_
  conv => cbv
  refine loopC hE (ι := Int) [0] [3] (fun q => (fun (i : Int) => [(3, .int .i64 i)]) q) (fun q => (fun (i : Int) => []) q) (fun q => (fun (i : Int) => (l.length - i).toNat) q) (fun q => (fun (i : Int) => 0 ≤ i ∧ Up (Fau.C l) i) q) [] (by decide) (0) (by conv => lhs; cbv) (by conv => lhs; cbv) rfl rfl (by dsimp only; exact ⟨by omega, .zero (by omega)⟩) fun i hi Kn hN => ?_
  (try dsimp only at hi)
  conv => cbv
  obtain ⟨h0, hinv⟩ := hi
  repeat' first
    | (refine idxV hE hl (by omega) (by assumption) ?_; (try conv => cbv))
    | ((refine loopC hE (ι := Int) [0, 3] [4] (fun q => (fun (k : Int) => [(4, .int .i64 k)]) q) (fun q => (fun (k : Int) => []) q) (fun q => (fun (k : Int) => (i - k).toNat) q) (fun q => (fun (k : Int) => (0 ≤ k ∧ k ≤ i) ∧ Up (fun j => ∀ v w, l[i.toNat]? = some v → l[j]? = some w → ¬ (w.aid = v.aid ∧ w.kind = v.kind ∧ v.frm < w.end_)) k) q) [] (by decide) (0) (by conv => lhs; cbv) (by conv => lhs; cbv) rfl rfl (by dsimp only; exact ⟨by omega, .zero (by omega)⟩) fun k hi2 Kn2 hN2 => ?_; (try dsimp only at hi2); conv => cbv); obtain ⟨⟨k0, k1⟩, kinv⟩ := hi2)
    | (refine idxL hE hl (by omega) (fun v hv => ?_); obtain ⟨aid, kind, frm, til⟩ := v; (try conv => cbv))
    | (refine hN2 _ _ [] (by decide) rfl ⟨?_, ?_⟩ ?_ <;> (try dsimp only))
    | (refine hN _ _ [] (by decide) rfl ⟨?_, ?_⟩ ?_ <;> (try dsimp only))
    | ((first
   | refine q0 hE ?_
   | refine callP hE (l20One_ _ _ _ _) (fun _ => ?_) (fun _ => ?_)
   | refine callP hE (l20Less_ _ _ _ _ _ _ _ _) (fun _ => ?_) (fun _ => ?_)
   | refine callI hE (l20End_ _ _ _ _) (fun _ _ => ?_)
   | refine B0 hE ?_|refine B1 hE (fun _=>?_) fun _=>?_|refine B3 hE fun _ _ _=>?_|refine B2 hE fun _ _=>?_|refine B4 hE fun _ _ _ _=>?_) <;> (try conv => cbv))
  all_goals (try clear hN)
  all_goals (try clear hN2)
  all_goals first
    | omega
    | exact fauStep2 kinv (by assumption) hv (by simp only; omega) (by assumption)
    | exact hinv.succ (fauC_mk h0 (by assumption) (by assumption) (.inr ⟨_, _, by assumption, by assumption, by assumption⟩) (fau_none h0 (by omega) (by assumption) (by assumption) hinv (.inr ⟨_, _, by assumption, by assumption, by assumption⟩) (fauAt kinv (by assumption)))) (by assumption)
    | exact hinv.succ (fauC_mk h0 (by assumption) (by assumption) (.inl (by omega)) (fau_none h0 (by omega) (by assumption) (by assumption) hinv (.inl (by omega)) (fauAt kinv (by assumption)))) (by assumption)
    | (refine finB hK (bP_false.2 fun h => ?_); refine fau_some (i := i) (v := (⟨_, _, _, _⟩ : Fau)) h ?_ (by omega) (by assumption) hv (by assumption) (by assumption) ?_ <;> (try simp only) <;> omega)
    | (refine finB hK (bP_false.2 fun h => ?_); have k := fauC_ok h0 (h.1 i.toNat (by omega)) (by assumption); first | exact absurd k.1 (by assumption) | exact absurd (k.2.1 _ _ (by assumption) (by omega) (by assumption)) (by assumption))
    | exact finB hK (bP_true.2 ⟨hinv.all (by omega), by omega⟩)
    | (refine finB hK (bP_false.2 fun h => ?_); have := h.2; omega)
    | trace_state
end Go.Proofs.YtifjebnieieolaaGreatDoor
