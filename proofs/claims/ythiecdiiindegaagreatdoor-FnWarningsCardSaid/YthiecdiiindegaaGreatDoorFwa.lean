/- Contracts: warnings. -/
import Derived.Test.YthiecdiiindegaaGreatDoorFnm
namespace Go.Proofs.YthiecdiiindegaaGreatDoor
open Go Go.RowKit Classical
set_option maxRecDepth 100000
set_option maxHeartbeats 2000000
set_option linter.unusedVariables false
set_option linter.unusedSimpArgs false
structure War where
  number : Int
  priority : Int
  frm : Int
  til : Int
  atX : Int
  atY : Int
  radius : Int
  words : ByteArray
def War.cs (v : War) : List AV := [.int .i64 v.number, .int .i64 v.priority, .int .i64 v.frm, .int .i64 v.til, .int .i64 v.atX, .int .i64 v.atY, .int .i64 v.radius, .str v.words]
theorem NoB.oWar (v : War) : NoB (.agg v.cs) := (.aggC (.int _ _) (.aggC (.int _ _) (.aggC (.int _ _) (.aggC (.int _ _) (.aggC (.int _ _) (.aggC (.int _ _) (.aggC (.int _ _) (.aggC (.str _) .agg0))))))))
theorem War.nown (l : List War) : ∀ e ∈ l.map War.cs, ∀ c ∈ e, c.isOwn = false := fun e he c hc => by
  obtain ⟨v, _, rfl⟩ := List.mem_map.1 he
  simp only [War.cs, List.mem_cons, List.not_mem_nil, or_false] at hc
  rcases hc with rfl | rfl | rfl | rfl | rfl | rfl | rfl | rfl <;> rfl
def War.sz (v : War) : Nat := v.words.size
def War.mk' (k : Int) : War := ⟨k + 0, k + 1, k + 2, k + 3, k + 4, k + 5, k + 6, mText (k + 7)⟩
def War.mks (n : Nat) (k : Int) : List War := (List.range n).map fun i : Nat => War.mk' (k + 8 * (i : Int))
theorem War.mks_len (n : Nat) (k : Int) : (War.mks n k).length = n := by simp [War.mks]
theorem War.mks_get {n : Nat} {k i : Int} {v : War} (h0 : 0 ≤ i) (h : (War.mks n k)[i.toNat]? = some v) : v = War.mk' (k + 8 * i) := by
  unfold War.mks at h
  rw [List.getElem?_map] at h
  by_cases hi : i.toNat < n
  · rw [List.getElem?_range hi] at h
    simp only [Option.map_some, Option.some.injEq] at h
    rw [← h, Int.toNat_of_nonneg h0]
  · rw [List.getElem?_eq_none (by simpa using Nat.le_of_not_lt hi)] at h; cases h
theorem cloneWarning_ {rs : List (List AV)} {t : Bool} {l : List War} (hl : rs = l.map War.cs) (hb0 : l.length ≤ 1048576) : AC Tryz.prog 24 [.sl t 8 rs] (fun l : List War => .sl true 8 (l.map War.cs)) l := by
  refine ac Tryz.func24 (by kernel_rfl) (.rows .oWar) fun E K hE hK => ?_
  conv => cbv
  refine lenL hE hl fun n hn hb => ?_
  conv => cbv
  refine makeI hE (by omega) fun es hes => ?_
  conv => cbv
  refine noownI hE (by rw [hl]; exact War.nown l) ?_
  conv => cbv
  refine catL hE (l := []) (R := War.cs) (by rw [hes]; rfl) hl (by simp; omega) fun es2 hes2 => ?_
  conv => cbv
  exact hK _ (by rw [hes2]; rfl)
theorem indexWarning1_ {rs : List (List AV)} {t : Bool} {l : List War} {g : FuncId} {c0 : List AV} {p : War → Prop} (hl : rs = l.map War.cs) (hp : ∀ number priority frm til atX atY radius words, AC Tryz.prog g (.agg [.int .i64 number, .int .i64 priority, .int .i64 frm, .int .i64 til, .int .i64 atX, .int .i64 atY, .int .i64 radius, .str words] :: [.pp c0]) AV.bool (bP (p ⟨number, priority, frm, til, atX, atY, radius, words⟩))) : AC Tryz.prog 57 [.sl t 8 rs, .fn g [.pp c0]] (AV.int .i64) (firstI p l) := by
  refine ac Tryz.func57 (by kernel_rfl) (.int _ _) fun E K hE hK => ?_
  conv => cbv
  refine lenL hE hl fun n hn hb => ?_
  conv => cbv
  refine loopC hE (ι := Int) [0, 1, 7] [8] (fun q => (fun (i : Int) => [(8, .int .i64 i)]) q) (fun q => (fun (i : Int) => []) q) (fun q => (fun (i : Int) => (l.length - i).toNat) q) (fun q => (fun (i : Int) => 0 ≤ i ∧ Up (fun j => ∀ v, l[j]? = some v → ¬ p v) i) q) [] (by decide) (0) (by conv => lhs; cbv) (by conv => lhs; cbv) rfl rfl (by dsimp only; exact ⟨by omega, .zero (by omega)⟩) fun i hi Kn hN => ?_
  (try dsimp only at hi)
  conv => cbv
  obtain ⟨h0, hinv⟩ := hi
  repeat' first
    | (refine hN _ _ [] (by decide) rfl ⟨?_, ?_⟩ ?_ <;> (try dsimp only))
    | ((first
   | refine q0 hE ?_
   | refine callP hE (hp _ _ _ _ _ _ _ _) (fun _ => ?_) (fun _ => ?_)
   | (refine idxL (R := War.cs) hE (by assumption) (by first | omega | (simp only [List.length_set, mix_len]; omega)) ?_; rintro ⟨⟩ _)
   | refine B0 hE ?_|refine B1 hE (fun _=>?_) fun _=>?_|refine B3 hE fun _ _ _=>?_|refine B2 hE fun _ _=>?_|refine B4 hE fun _ _ _ _=>?_) <;> (try conv => cbv))
  · refine hK _ ?_
    rw [firstI_in h0 (by assumption) (by assumption) hinv]; rfl
  · omega
  · refine hinv.succ ?_ (by assumption)
    clear hN; simp_all
  · omega
  · refine hK _ ?_
    rw [firstI_out (by omega) hinv]; rfl
theorem deleteWarning1_ {rs : List (List AV)} {l : List War} {g : FuncId} {c0 : List AV} {p : War → Prop} (hl : rs = l.map War.cs) (hbl : l.length ≤ 1048576) (hp : ∀ number priority frm til atX atY radius words, AC Tryz.prog g (.agg [.int .i64 number, .int .i64 priority, .int .i64 frm, .int .i64 til, .int .i64 atX, .int .i64 atY, .int .i64 radius, .str words] :: [.pp c0]) AV.bool (bP (p ⟨number, priority, frm, til, atX, atY, radius, words⟩))) : ACM Tryz.prog 31 [.sl true 8 rs, .fn g [.pp c0]] (fun r ys => ∃ rs', rs' = (rej p l).map War.cs ∧ r = .sl true 8 rs' ∧ ys = [.any, .any]) := by
  refine acm 1 Tryz.func31 (by kernel_rfl) (fun r ys ⟨rs', h1, h2, h3⟩ => ⟨by rw [h2, h1]; exact .rows .oWar, by rw [h3]; simp; exact .any⟩) fun E K hE hK => ?_
  conv => cbv
  refine callI hE (indexWarning1_ hl hp) fun y hy => ?_
  conv => cbv
  rcases firstI_spec p l with ⟨g1, g2, ⟨v0, g3, g4⟩, g5⟩ | ⟨g1, g2⟩
  · rw [← hy] at g1 g2 g3 g5
    refine eqF hE (by omega) ?_
    conv => cbv
    refine add64 hE (by omega) fun n1 hn1 => ?_
    conv => cbv
    refine loopC hE (ι := Int × Int × (List (List AV))) [1] [5, 6, 0] (fun q => (fun (i : Int) (j : Int) (es : List (List AV)) => [(5, .int .i64 i), (6, .int .i64 j), (0, .ob 0)]) q.1 q.2.1 q.2.2) (fun q => (fun (i : Int) (j : Int) (es : List (List AV)) => [.row 8 es]) q.1 q.2.1 q.2.2) (fun q => (fun (i : Int) (j : Int) (es : List (List AV)) => (l.length - j).toNat) q.1 q.2.1 q.2.2) (fun q => (fun (i : Int) (j : Int) (es : List (List AV)) => ∃ m : List War, es = m.map War.cs ∧ m.length = l.length ∧ (0 ≤ i ∧ i < j ∧ j ≤ l.length) ∧ m.take i.toNat = (l.take j.toNat).filter (fun v => decide (¬ p v)) ∧ m.drop j.toNat = l.drop j.toNat) q.1 q.2.1 q.2.2) [0] (by decide) ((y, n1, rs)) (by conv => lhs; cbv) (by conv => lhs; cbv) rfl rfl (by dsimp only; exact ⟨l, hl, rfl, by omega, filt_start g1 (by omega) g3 g4 g5, rfl⟩) fun q hi Kn hN => ?_
    obtain ⟨i, j, es⟩ := q
    (try dsimp only at hi)
    conv => cbv
    obtain ⟨m, h2, h3, ⟨h0, h1, h1'⟩, h4, h5⟩ := hi
    have hes : es.length = m.length := by rw [h2]; exact List.length_map ..
    repeat' first
      | (refine idxL hE h2 (by omega) (fun v hv => ?_); have hv2 := filt_get h5 hv; have hv3 := hv; obtain ⟨number, priority, frm, til, atX, atY, radius, words⟩ := v; (try conv => cbv))
      | (refine updL hE (v' := (⟨_, _, _, _, _, _, _, _⟩ : War)) (by assumption) (by omega) (List.getElem?_eq_getElem (by omega)) (by exact Nat.le_of_ble_eq_true rfl) (by first | rfl | ((conv => lhs; cbv); rfl)) (fun _ _ => ?_); (try conv => cbv))
      | (refine hN (_, _, _) _ [0] (by decide) rfl ⟨_, by assumption, ?_, ?_, ?_, ?_⟩ ?_ <;> (try dsimp only))
      | ((first
     | refine q0 hE ?_
     | refine callP hE (hp _ _ _ _ _ _ _ _) (fun _ => ?_) (fun _ => ?_)
     | refine subL hE h2 (by simp only [Option.getD_some, Option.getD_none]; omega) (fun _ _ => ?_)
     | refine clrG hE (by omega) (fun es2 hl2 ht2 => ?_)
     | refine subG hE (by simp only [Option.getD_some, Option.getD_none]; omega) (fun _ _ => ?_)
     | refine B0 hE ?_|refine B1 hE (fun _=>?_) fun _=>?_|refine B3 hE fun _ _ _=>?_|refine B2 hE fun _ _=>?_|refine B4 hE fun _ _ _ _=>?_) <;> (try conv => cbv))
    all_goals first
      | omega
      | (simp only [List.length_set]; omega)
      | exact hK _ _ ⟨_, filt_done h2 ht2 h4 (by omega) (by assumption), rfl, rfl⟩
      | exact filt_skip (by omega) hv2 (by assumption) (by assumption) h4
      | exact filt_keep (by omega) (by omega) hv2 (by assumption) (by assumption) (by assumption) h4
      | exact filt_drop (by omega) (by assumption) h5
      | exact filt_dropS (by omega) (by assumption) h5
      | trace_state
  · rw [← hy] at g1
    refine eqT hE g1 ?_
    conv => cbv
    exact hK _ _ ⟨rs, by rw [hl, filt_none g2], rfl, rfl⟩
theorem indexWarning2_ {rs : List (List AV)} {t : Bool} {l : List War} {g : FuncId} {c0 : List AV} {c1 : List AV} {p : War → Prop} (hl : rs = l.map War.cs) (hp : ∀ number priority frm til atX atY radius words, AC Tryz.prog g (.agg [.int .i64 number, .int .i64 priority, .int .i64 frm, .int .i64 til, .int .i64 atX, .int .i64 atY, .int .i64 radius, .str words] :: [.pp c0, .pp c1]) AV.bool (bP (p ⟨number, priority, frm, til, atX, atY, radius, words⟩))) : AC Tryz.prog 57 [.sl t 8 rs, .fn g [.pp c0, .pp c1]] (AV.int .i64) (firstI p l) := by
  refine ac Tryz.func57 (by kernel_rfl) (.int _ _) fun E K hE hK => ?_
  conv => cbv
  refine lenL hE hl fun n hn hb => ?_
  conv => cbv
  refine loopC hE (ι := Int) [0, 1, 7] [8] (fun q => (fun (i : Int) => [(8, .int .i64 i)]) q) (fun q => (fun (i : Int) => []) q) (fun q => (fun (i : Int) => (l.length - i).toNat) q) (fun q => (fun (i : Int) => 0 ≤ i ∧ Up (fun j => ∀ v, l[j]? = some v → ¬ p v) i) q) [] (by decide) (0) (by conv => lhs; cbv) (by conv => lhs; cbv) rfl rfl (by dsimp only; exact ⟨by omega, .zero (by omega)⟩) fun i hi Kn hN => ?_
  (try dsimp only at hi)
  conv => cbv
  obtain ⟨h0, hinv⟩ := hi
  repeat' first
    | (refine hN _ _ [] (by decide) rfl ⟨?_, ?_⟩ ?_ <;> (try dsimp only))
    | ((first
   | refine q0 hE ?_
   | refine callP hE (hp _ _ _ _ _ _ _ _) (fun _ => ?_) (fun _ => ?_)
   | (refine idxL (R := War.cs) hE (by assumption) (by first | omega | (simp only [List.length_set, mix_len]; omega)) ?_; rintro ⟨⟩ _)
   | refine B0 hE ?_|refine B1 hE (fun _=>?_) fun _=>?_|refine B3 hE fun _ _ _=>?_|refine B2 hE fun _ _=>?_|refine B4 hE fun _ _ _ _=>?_) <;> (try conv => cbv))
  · refine hK _ ?_
    rw [firstI_in h0 (by assumption) (by assumption) hinv]; rfl
  · omega
  · refine hinv.succ ?_ (by assumption)
    clear hN; simp_all
  · omega
  · refine hK _ ?_
    rw [firstI_out (by omega) hinv]; rfl
theorem deleteWarning2_ {rs : List (List AV)} {l : List War} {g : FuncId} {c0 : List AV} {c1 : List AV} {p : War → Prop} (hl : rs = l.map War.cs) (hbl : l.length ≤ 1048576) (hp : ∀ number priority frm til atX atY radius words, AC Tryz.prog g (.agg [.int .i64 number, .int .i64 priority, .int .i64 frm, .int .i64 til, .int .i64 atX, .int .i64 atY, .int .i64 radius, .str words] :: [.pp c0, .pp c1]) AV.bool (bP (p ⟨number, priority, frm, til, atX, atY, radius, words⟩))) : ACM Tryz.prog 31 [.sl true 8 rs, .fn g [.pp c0, .pp c1]] (fun r ys => ∃ rs', rs' = (rej p l).map War.cs ∧ r = .sl true 8 rs' ∧ ys = [.any, .any]) := by
  refine acm 1 Tryz.func31 (by kernel_rfl) (fun r ys ⟨rs', h1, h2, h3⟩ => ⟨by rw [h2, h1]; exact .rows .oWar, by rw [h3]; simp; exact .any⟩) fun E K hE hK => ?_
  conv => cbv
  refine callI hE (indexWarning2_ hl hp) fun y hy => ?_
  conv => cbv
  rcases firstI_spec p l with ⟨g1, g2, ⟨v0, g3, g4⟩, g5⟩ | ⟨g1, g2⟩
  · rw [← hy] at g1 g2 g3 g5
    refine eqF hE (by omega) ?_
    conv => cbv
    refine add64 hE (by omega) fun n1 hn1 => ?_
    conv => cbv
    refine loopC hE (ι := Int × Int × (List (List AV))) [1] [5, 6, 0] (fun q => (fun (i : Int) (j : Int) (es : List (List AV)) => [(5, .int .i64 i), (6, .int .i64 j), (0, .ob 0)]) q.1 q.2.1 q.2.2) (fun q => (fun (i : Int) (j : Int) (es : List (List AV)) => [.row 8 es]) q.1 q.2.1 q.2.2) (fun q => (fun (i : Int) (j : Int) (es : List (List AV)) => (l.length - j).toNat) q.1 q.2.1 q.2.2) (fun q => (fun (i : Int) (j : Int) (es : List (List AV)) => ∃ m : List War, es = m.map War.cs ∧ m.length = l.length ∧ (0 ≤ i ∧ i < j ∧ j ≤ l.length) ∧ m.take i.toNat = (l.take j.toNat).filter (fun v => decide (¬ p v)) ∧ m.drop j.toNat = l.drop j.toNat) q.1 q.2.1 q.2.2) [0] (by decide) ((y, n1, rs)) (by conv => lhs; cbv) (by conv => lhs; cbv) rfl rfl (by dsimp only; exact ⟨l, hl, rfl, by omega, filt_start g1 (by omega) g3 g4 g5, rfl⟩) fun q hi Kn hN => ?_
    obtain ⟨i, j, es⟩ := q
    (try dsimp only at hi)
    conv => cbv
    obtain ⟨m, h2, h3, ⟨h0, h1, h1'⟩, h4, h5⟩ := hi
    have hes : es.length = m.length := by rw [h2]; exact List.length_map ..
    repeat' first
      | (refine idxL hE h2 (by omega) (fun v hv => ?_); have hv2 := filt_get h5 hv; have hv3 := hv; obtain ⟨number, priority, frm, til, atX, atY, radius, words⟩ := v; (try conv => cbv))
      | (refine updL hE (v' := (⟨_, _, _, _, _, _, _, _⟩ : War)) (by assumption) (by omega) (List.getElem?_eq_getElem (by omega)) (by exact Nat.le_of_ble_eq_true rfl) (by first | rfl | ((conv => lhs; cbv); rfl)) (fun _ _ => ?_); (try conv => cbv))
      | (refine hN (_, _, _) _ [0] (by decide) rfl ⟨_, by assumption, ?_, ?_, ?_, ?_⟩ ?_ <;> (try dsimp only))
      | ((first
     | refine q0 hE ?_
     | refine callP hE (hp _ _ _ _ _ _ _ _) (fun _ => ?_) (fun _ => ?_)
     | refine subL hE h2 (by simp only [Option.getD_some, Option.getD_none]; omega) (fun _ _ => ?_)
     | refine clrG hE (by omega) (fun es2 hl2 ht2 => ?_)
     | refine subG hE (by simp only [Option.getD_some, Option.getD_none]; omega) (fun _ _ => ?_)
     | refine B0 hE ?_|refine B1 hE (fun _=>?_) fun _=>?_|refine B3 hE fun _ _ _=>?_|refine B2 hE fun _ _=>?_|refine B4 hE fun _ _ _ _=>?_) <;> (try conv => cbv))
    all_goals first
      | omega
      | (simp only [List.length_set]; omega)
      | exact hK _ _ ⟨_, filt_done h2 ht2 h4 (by omega) (by assumption), rfl, rfl⟩
      | exact filt_skip (by omega) hv2 (by assumption) (by assumption) h4
      | exact filt_keep (by omega) (by omega) hv2 (by assumption) (by assumption) (by assumption) h4
      | exact filt_drop (by omega) (by assumption) h5
      | exact filt_dropS (by omega) (by assumption) h5
      | trace_state
  · rw [← hy] at g1
    refine eqT hE g1 ?_
    conv => cbv
    exact hK _ _ ⟨rs, by rw [hl, filt_none g2], rfl, rfl⟩
theorem War.cflat (v : War) : ∀ c ∈ v.cs, c.flat = true := fun c hc => by
  simp only [War.cs, List.mem_cons, List.not_mem_nil, or_false] at hc
  rcases hc with rfl | rfl | rfl | rfl | rfl | rfl | rfl | rfl <;> rfl
theorem delWarning_ {rs : List (List AV)} {l : List War} (i j : Int) (hl : rs = l.map War.cs) (h : 0 ≤ i ∧ i ≤ j ∧ j ≤ l.length) (hbl : l.length ≤ 1048576) : ACM Tryz.prog 34 [.sl true 8 rs, .int .i64 i, .int .i64 j] (fun r ys => ∃ rs', rs' = (l.take i.toNat ++ l.drop j.toNat).map War.cs ∧ r = .sl true 8 rs' ∧ ys = [.any, .any, .any]) := by
  refine acm 1 Tryz.func34 (by kernel_rfl) (fun r ys ⟨rs', h1, h2, h3⟩ => ⟨by rw [h2, h1]; exact .rows .oWar, by rw [h3]; simp; exact .any⟩) fun E K hE hK => ?_
  conv => cbv
  repeat' first
    | ((first
   | refine q0 hE ?_
   | refine subL hE (by assumption) (by simp only [Option.getD_some, Option.getD_none]; omega) (fun _ _ => ?_)
   | refine mvL hE (by assumption) War.cflat (by omega) (fun _ _ _ _ => ?_)
   | refine clrG hE (by first | omega | (simp only [List.length_map, List.length_append, List.length_take, List.length_drop, *]; omega)) (fun es2 hl2 ht2 => ?_)
   | refine subG hE (by simp only [Option.getD_some, Option.getD_none, List.length_map, List.length_append, List.length_take, List.length_drop, *]; omega) (fun _ _ => ?_)
   | refine B0 hE ?_|refine B1 hE (fun _=>?_) fun _=>?_|refine B3 hE fun _ _ _=>?_|refine B2 hE fun _ _=>?_|refine B4 hE fun _ _ _ _=>?_) <;> (try conv => cbv))
  all_goals first
    | omega
    | (refine hK _ _ ⟨_, ?_, rfl, rfl⟩; rw [hl, show j = i by omega, List.take_append_drop]; done)
    | exact hK _ _ ⟨_, del_done h (by assumption) (by assumption) (by assumption) (by assumption) ht2 (by assumption), rfl, rfl⟩
    | trace_state
end Go.Proofs.YthiecdiiindegaaGreatDoor
