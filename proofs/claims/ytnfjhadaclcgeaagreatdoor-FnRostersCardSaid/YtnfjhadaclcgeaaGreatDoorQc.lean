/- Contracts: duties; Contracts: valid duties; Contracts: the duties of a keeper; Contracts: the duties of a keeper: the law. -/
import Derived.Test.YtnfjhadaclcgeaaGreatDoorFnm
namespace Go.Proofs.YtnfjhadaclcgeaaGreatDoor
open Go Go.RowKit Classical
set_option maxRecDepth 100000
set_option maxHeartbeats 2000000
set_option linter.unusedVariables false
set_option linter.unusedSimpArgs false
structure Dut where
  keeper : ByteArray
  frm : Int
  til : Int
def Dut.cs (v : Dut) : List AV := [.str v.keeper, .int .i64 v.frm, .int .i64 v.til]
theorem NoB.oDut (v : Dut) : NoB (.agg v.cs) := (.aggC (.str _) (.aggC (.int _ _) (.aggC (.int _ _) .agg0)))
theorem Dut.nown (l : List Dut) : ∀ e ∈ l.map Dut.cs, ∀ c ∈ e, c.isOwn = false := fun e he c hc => by
  obtain ⟨v, _, rfl⟩ := List.mem_map.1 he
  simp only [Dut.cs, List.mem_cons, List.not_mem_nil, or_false] at hc
  rcases hc with rfl | rfl | rfl <;> rfl
def Dut.sz (v : Dut) : Nat := v.keeper.size
def Dut.mk' (k : Int) : Dut := ⟨mText (k + 0), k + 1, k + 2⟩
def Dut.mks (n : Nat) (k : Int) : List Dut := (List.range n).map fun i : Nat => Dut.mk' (k + 3 * (i : Int))
theorem Dut.mks_len (n : Nat) (k : Int) : (Dut.mks n k).length = n := by simp [Dut.mks]
theorem Dut.mks_get {n : Nat} {k i : Int} {v : Dut} (h0 : 0 ≤ i) (h : (Dut.mks n k)[i.toNat]? = some v) : v = Dut.mk' (k + 3 * i) := by
  unfold Dut.mks at h
  rw [List.getElem?_map] at h
  by_cases hi : i.toNat < n
  · rw [List.getElem?_range hi] at h
    simp only [Option.map_some, Option.some.injEq] at h
    rw [← h, Int.toNat_of_nonneg h0]
  · rw [List.getElem?_eq_none (by simpa using Nat.le_of_not_lt hi)] at h; cases h
theorem cloneDuty_ {rs : List (List AV)} {t : Bool} {l : List Dut} (hl : rs = l.map Dut.cs) (hb0 : l.length ≤ 1048576) : AP 44 [.sl t 3 rs] (fun l : List Dut => .sl true 3 (l.map Dut.cs)) l := by
  refine ac Tryz.func44 (.rows .oDut) fun E K hE hK => ?_
  refine lenL hl fun n hn hb => ?_
  conv => cbv
  refine makeI (by omega) fun es hes => ?_
  conv => cbv
  refine noownI (by rw [hl]; exact Dut.nown l) ?_
  conv => cbv
  refine catL (l := []) (R := Dut.cs) (by rw [hes]; rfl) hl (by simp; omega) fun es2 hes2 => ?_
  conv => cbv
  exact hK _ (by rw [hes2]; rfl)
theorem indexDuty1_ {rs : List (List AV)} {t : Bool} {l : List Dut} {g : FuncId} {c0 : List AV} {p : Dut → Prop} (hl : rs = l.map Dut.cs) (hp : ∀ keeper frm til, AC Tryz.prog g (.agg [.str keeper, .int .i64 frm, .int .i64 til] :: [.pp c0]) AV.bool (bP (p ⟨keeper, frm, til⟩))) : AP 70 [.sl t 3 rs, .fn g [.pp c0]] (AV.int .i64) (firstI p l) := by
  refine a0 Tryz.func70 fun E K hE hK => ?_
  refine lenL hl fun n hn hb => ?_
  conv => cbv
  refine loop1 [0, 1, 7] [8] (fun (i : Int) => ([(8, .int .i64 i)], [], l.length - i, 0 ≤ i ∧ Up (fun j => ∀ v, l[j]? = some v → ¬ p v) i)) [] (0) (by dsimp only; exact ⟨by omega, .zero (by omega)⟩) fun i hi Kn hN => ?_
  obtain ⟨h0, hinv⟩ := hi
  repeat' first
    | (refine hN _ [] rfl ⟨?_, ?_⟩)
    | ((first
   | refine q0 ?_
   | refine callP (hp _ _ _) (fun _ => ?_) (fun _ => ?_)
   | (refine idxL (R := Dut.cs) (by assumption) (by first | omega | (simp only [List.length_set, mix_len]; omega)) ?_; rintro ⟨⟩ _)
   | refine B0 ?_|refine B1 ?_ ?_) <;> intros <;> (try conv => cbv))
  · refine hK _ ?_
    rw [firstI_in h0 (by assumption) (by assumption) hinv]; rfl
  · omega
  · refine hinv.succ ?_ (by assumption)
    clear hN; simp_all
  · refine hK _ ?_
    rw [firstI_out (by omega) hinv]; rfl
theorem containsDuty1_ {rs : List (List AV)} {t : Bool} {l : List Dut} {g : FuncId} {c0 : List AV} {p : Dut → Prop} (hl : rs = l.map Dut.cs) (hp : ∀ keeper frm til, AC Tryz.prog g (.agg [.str keeper, .int .i64 frm, .int .i64 til] :: [.pp c0]) AV.bool (bP (p ⟨keeper, frm, til⟩))) : AP 66 [.sl t 3 rs, .fn g [.pp c0]] AV.bool (bP (∃ v ∈ l, p v)) := by
  refine a0 Tryz.func66 fun E K hE hK => ?_
  refine callI (indexDuty1_ hl hp) fun y hy => ?_
  conv => cbv
  refine leI (fun h => ?_) (fun h => ?_) <;> conv => cbv
  · exact finB hK (bP_true.2 (firstI_ge.1 (by omega)))
  · exact finB hK (bP_false.2 fun h' => by have := firstI_ge.2 h'; omega)
theorem deleteDuty1_ {rs : List (List AV)} {l : List Dut} {g : FuncId} {c0 : List AV} {p : Dut → Prop} (hl : rs = l.map Dut.cs) (hbl : l.length ≤ 1048576) (hp : ∀ keeper frm til, AC Tryz.prog g (.agg [.str keeper, .int .i64 frm, .int .i64 til] :: [.pp c0]) AV.bool (bP (p ⟨keeper, frm, til⟩))) : ACM Tryz.prog 62 [.sl true 3 rs, .fn g [.pp c0]] (fun r ys => ∃ rs', rs' = (rej p l).map Dut.cs ∧ r = .sl true 3 rs' ∧ ys = [.any, .any]) := by
  refine acm 1 Tryz.func62 (fun r ys ⟨rs', h1, h2, h3⟩ => ⟨by rw [h2, h1]; exact .rows .oDut, by rw [h3]; simp; exact .any⟩) fun E K hE hK => ?_
  refine callI (indexDuty1_ hl hp) fun y hy => ?_
  conv => cbv
  rcases firstI_spec p l with ⟨g1, g2, ⟨v0, g3, g4⟩, g5⟩ | ⟨g1, g2⟩
  · rw [← hy] at g1 g2 g3 g5
    refine eqF (by omega) ?_
    conv => cbv
    refine add64 (by omega) fun n1 hn1 => ?_
    conv => cbv
    refine loop3 [1] [5, 6, 0] (fun (i j : Int) (es : List (List AV)) => ([(5, .int .i64 i), (6, .int .i64 j), (0, .ob 0)], [.row 3 es], l.length - j, ∃ m : List Dut, es = m.map Dut.cs ∧ m.length = l.length ∧ (0 ≤ i ∧ i < j ∧ j ≤ l.length) ∧ m.take i.toNat = (l.take j.toNat).filter (fun v => decide (¬ p v)) ∧ m.drop j.toNat = l.drop j.toNat)) [0] ((y, n1, rs)) (by dsimp only; exact ⟨l, hl, rfl, by omega, filt_start g1 (by omega) g3 g4 g5, rfl⟩) fun i j es hi Kn hN => ?_
    obtain ⟨m, h2, h3, ⟨h0, h1, h1'⟩, h4, h5⟩ := hi
    have hes : es.length = m.length := by rw [h2]; exact List.length_map ..
    repeat' first
      | (refine hN _ _ _ [0] rfl ⟨_, by assumption, ?_, ?_, ?_, ?_⟩)
      | ((first
     | (refine idxL h2 (by omega) (fun v hv => ?_); have hv2 := filt_get h5 hv; have hv3 := hv; obtain ⟨keeper, frm, til⟩ := v)
     | (refine updL (v' := (⟨_, _, _⟩ : Dut)) (by assumption) (by omega) (List.getElem?_eq_getElem (by omega)) (by exact Nat.le_of_ble_eq_true rfl) (by first | rfl | ((conv => lhs; cbv); rfl)) (fun _ _ => ?_))
     | refine callP (hp _ _ _) (fun _ => ?_) (fun _ => ?_)
     | refine subL h2 (by simp only [Option.getD_some, Option.getD_none]; omega) (fun _ _ => ?_)
     | refine clrG (by omega) (fun es2 hl2 ht2 => ?_)
     | refine subG (by simp only [Option.getD_some, Option.getD_none]; omega) (fun _ _ => ?_)
     | refine B0 ?_|refine B1 ?_ ?_) <;> intros <;> (try conv => cbv))
    all_goals first
      | omega
      | (simp only [List.length_set]; omega)
      | exact hK _ _ ⟨_, filt_done h2 ht2 h4 (by omega) (by assumption), rfl, rfl⟩
      | exact filt_skip (by omega) hv2 (by assumption) (by assumption) h4
      | exact filt_keep (by omega) (by omega) hv2 (by assumption) (by assumption) (by assumption) h4
      | exact filt_drop (by omega) (by assumption) h5
      | exact filt_dropS (by omega) (by assumption) h5
      | trace_state
  · rw [← hy] at g1
    refine eqT g1 ?_
    conv => cbv
    exact hK _ _ ⟨rs, by rw [hl, filt_none g2], rfl, rfl⟩
theorem indexDuty2_ {rs : List (List AV)} {t : Bool} {l : List Dut} {g : FuncId} {c0 : List AV} {c1 : List AV} {p : Dut → Prop} (hl : rs = l.map Dut.cs) (hp : ∀ keeper frm til, AC Tryz.prog g (.agg [.str keeper, .int .i64 frm, .int .i64 til] :: [.pp c0, .pp c1]) AV.bool (bP (p ⟨keeper, frm, til⟩))) : AP 70 [.sl t 3 rs, .fn g [.pp c0, .pp c1]] (AV.int .i64) (firstI p l) := by
  refine a0 Tryz.func70 fun E K hE hK => ?_
  refine lenL hl fun n hn hb => ?_
  conv => cbv
  refine loop1 [0, 1, 7] [8] (fun (i : Int) => ([(8, .int .i64 i)], [], l.length - i, 0 ≤ i ∧ Up (fun j => ∀ v, l[j]? = some v → ¬ p v) i)) [] (0) (by dsimp only; exact ⟨by omega, .zero (by omega)⟩) fun i hi Kn hN => ?_
  obtain ⟨h0, hinv⟩ := hi
  repeat' first
    | (refine hN _ [] rfl ⟨?_, ?_⟩)
    | ((first
   | refine q0 ?_
   | refine callP (hp _ _ _) (fun _ => ?_) (fun _ => ?_)
   | (refine idxL (R := Dut.cs) (by assumption) (by first | omega | (simp only [List.length_set, mix_len]; omega)) ?_; rintro ⟨⟩ _)
   | refine B0 ?_|refine B1 ?_ ?_) <;> intros <;> (try conv => cbv))
  · refine hK _ ?_
    rw [firstI_in h0 (by assumption) (by assumption) hinv]; rfl
  · omega
  · refine hinv.succ ?_ (by assumption)
    clear hN; simp_all
  · refine hK _ ?_
    rw [firstI_out (by omega) hinv]; rfl
theorem containsDuty2_ {rs : List (List AV)} {t : Bool} {l : List Dut} {g : FuncId} {c0 : List AV} {c1 : List AV} {p : Dut → Prop} (hl : rs = l.map Dut.cs) (hp : ∀ keeper frm til, AC Tryz.prog g (.agg [.str keeper, .int .i64 frm, .int .i64 til] :: [.pp c0, .pp c1]) AV.bool (bP (p ⟨keeper, frm, til⟩))) : AP 66 [.sl t 3 rs, .fn g [.pp c0, .pp c1]] AV.bool (bP (∃ v ∈ l, p v)) := by
  refine a0 Tryz.func66 fun E K hE hK => ?_
  refine callI (indexDuty2_ hl hp) fun y hy => ?_
  conv => cbv
  refine leI (fun h => ?_) (fun h => ?_) <;> conv => cbv
  · exact finB hK (bP_true.2 (firstI_ge.1 (by omega)))
  · exact finB hK (bP_false.2 fun h' => by have := firstI_ge.2 h'; omega)
theorem deleteDuty2_ {rs : List (List AV)} {l : List Dut} {g : FuncId} {c0 : List AV} {c1 : List AV} {p : Dut → Prop} (hl : rs = l.map Dut.cs) (hbl : l.length ≤ 1048576) (hp : ∀ keeper frm til, AC Tryz.prog g (.agg [.str keeper, .int .i64 frm, .int .i64 til] :: [.pp c0, .pp c1]) AV.bool (bP (p ⟨keeper, frm, til⟩))) : ACM Tryz.prog 62 [.sl true 3 rs, .fn g [.pp c0, .pp c1]] (fun r ys => ∃ rs', rs' = (rej p l).map Dut.cs ∧ r = .sl true 3 rs' ∧ ys = [.any, .any]) := by
  refine acm 1 Tryz.func62 (fun r ys ⟨rs', h1, h2, h3⟩ => ⟨by rw [h2, h1]; exact .rows .oDut, by rw [h3]; simp; exact .any⟩) fun E K hE hK => ?_
  refine callI (indexDuty2_ hl hp) fun y hy => ?_
  conv => cbv
  rcases firstI_spec p l with ⟨g1, g2, ⟨v0, g3, g4⟩, g5⟩ | ⟨g1, g2⟩
  · rw [← hy] at g1 g2 g3 g5
    refine eqF (by omega) ?_
    conv => cbv
    refine add64 (by omega) fun n1 hn1 => ?_
    conv => cbv
    refine loop3 [1] [5, 6, 0] (fun (i j : Int) (es : List (List AV)) => ([(5, .int .i64 i), (6, .int .i64 j), (0, .ob 0)], [.row 3 es], l.length - j, ∃ m : List Dut, es = m.map Dut.cs ∧ m.length = l.length ∧ (0 ≤ i ∧ i < j ∧ j ≤ l.length) ∧ m.take i.toNat = (l.take j.toNat).filter (fun v => decide (¬ p v)) ∧ m.drop j.toNat = l.drop j.toNat)) [0] ((y, n1, rs)) (by dsimp only; exact ⟨l, hl, rfl, by omega, filt_start g1 (by omega) g3 g4 g5, rfl⟩) fun i j es hi Kn hN => ?_
    obtain ⟨m, h2, h3, ⟨h0, h1, h1'⟩, h4, h5⟩ := hi
    have hes : es.length = m.length := by rw [h2]; exact List.length_map ..
    repeat' first
      | (refine hN _ _ _ [0] rfl ⟨_, by assumption, ?_, ?_, ?_, ?_⟩)
      | ((first
     | (refine idxL h2 (by omega) (fun v hv => ?_); have hv2 := filt_get h5 hv; have hv3 := hv; obtain ⟨keeper, frm, til⟩ := v)
     | (refine updL (v' := (⟨_, _, _⟩ : Dut)) (by assumption) (by omega) (List.getElem?_eq_getElem (by omega)) (by exact Nat.le_of_ble_eq_true rfl) (by first | rfl | ((conv => lhs; cbv); rfl)) (fun _ _ => ?_))
     | refine callP (hp _ _ _) (fun _ => ?_) (fun _ => ?_)
     | refine subL h2 (by simp only [Option.getD_some, Option.getD_none]; omega) (fun _ _ => ?_)
     | refine clrG (by omega) (fun es2 hl2 ht2 => ?_)
     | refine subG (by simp only [Option.getD_some, Option.getD_none]; omega) (fun _ _ => ?_)
     | refine B0 ?_|refine B1 ?_ ?_) <;> intros <;> (try conv => cbv))
    all_goals first
      | omega
      | (simp only [List.length_set]; omega)
      | exact hK _ _ ⟨_, filt_done h2 ht2 h4 (by omega) (by assumption), rfl, rfl⟩
      | exact filt_skip (by omega) hv2 (by assumption) (by assumption) h4
      | exact filt_keep (by omega) (by omega) hv2 (by assumption) (by assumption) (by assumption) h4
      | exact filt_drop (by omega) (by assumption) h5
      | exact filt_dropS (by omega) (by assumption) h5
      | trace_state
  · rw [← hy] at g1
    refine eqT g1 ?_
    conv => cbv
    exact hK _ _ ⟨rs, by rw [hl, filt_none g2], rfl, rfl⟩
theorem Dut.cflat (v : Dut) : ∀ c ∈ v.cs, c.flat = true := fun c hc => by
  simp only [Dut.cs, List.mem_cons, List.not_mem_nil, or_false] at hc
  rcases hc with rfl | rfl | rfl <;> rfl
theorem delDuty_ {rs : List (List AV)} {l : List Dut} (i j : Int) (hl : rs = l.map Dut.cs) (h : 0 ≤ i ∧ i ≤ j ∧ j ≤ l.length) (hbl : l.length ≤ 1048576) : ACM Tryz.prog 43 [.sl true 3 rs, .int .i64 i, .int .i64 j] (fun r ys => ∃ rs', rs' = (l.take i.toNat ++ l.drop j.toNat).map Dut.cs ∧ r = .sl true 3 rs' ∧ ys = [.any, .any, .any]) := by
  refine acm 1 Tryz.func43 (fun r ys ⟨rs', h1, h2, h3⟩ => ⟨by rw [h2, h1]; exact .rows .oDut, by rw [h3]; simp; exact .any⟩) fun E K hE hK => ?_
  repeat' first
    | ((first
   | refine subL (by assumption) (by simp only [Option.getD_some, Option.getD_none]; omega) (fun _ _ => ?_)
   | refine mvL (by assumption) Dut.cflat (by omega) (fun _ _ _ _ => ?_)
   | refine clrG (by first | omega | (simp only [List.length_map, List.length_append, List.length_take, List.length_drop, *]; omega)) (fun es2 hl2 ht2 => ?_)
   | refine subG (by simp only [Option.getD_some, Option.getD_none, List.length_map, List.length_append, List.length_take, List.length_drop, *]; omega) (fun _ _ => ?_)
   | refine B0 ?_|refine B1 ?_ ?_) <;> intros <;> (try conv => cbv))
  all_goals first
    | omega
    | (refine hK _ _ ⟨_, ?_, rfl, rfl⟩; rw [hl, show j = i by omega, List.take_append_drop]; done)
    | exact hK _ _ ⟨_, del_done h (by assumption) (by assumption) (by assumption) (by assumption) ht2 (by assumption), rfl, rfl⟩
    | trace_state
end Go.Proofs.YtnfjhadaclcgeaaGreatDoor
namespace Go.Proofs.YtnfjhadaclcgeaaGreatDoor
open Go Go.RowKit Classical
set_option maxRecDepth 100000
set_option maxHeartbeats 2000000
set_option linter.unusedVariables false
set_option linter.unusedSimpArgs false
def Dut.ok (d : Dut) : Prop := NameOk d.keeper ∧ TimeOk d.frm ∧ TimeOk d.til ∧ d.frm + 1 ≤ d.til ∧ d.til ≤ d.frm + 720
theorem isDuty_ (keeper : ByteArray) (frm til : Int) : AP 39 [.agg [.str keeper, .int .i64 frm, .int .i64 til]] AV.bool (bP (Dut.ok ⟨keeper, frm, til⟩)) := by
  refine a0 Tryz.func39 fun E K hE hK => ?_
  repeat' first
    | ((first
   | (refine callP (isTime_ _) (fun ht => ?_) (fun _ => ?_) <;> (try unfold TimeOk at ht))
   | refine callP (isName_ _) (fun _ => ?_) (fun _ => ?_)
   | refine callP (within_ _ _ _) (fun _ => ?_) (fun _ => ?_)
   | refine B0 ?_|refine B1 ?_ ?_) <;> intros <;> (try conv => cbv))
  all_goals first
    | (refine finB hK (bP_true.2 ?_); simp only [Dut.ok, TimeOk]; exact ⟨by assumption, by omega, by omega, by omega, by omega⟩)
    | (refine finB hK (bP_false.2 fun h => ?_); obtain ⟨h1, h2, h3, h4, h5⟩ := h; simp only [TimeOk] at *; first | contradiction | omega)
    | trace_state
theorem l28One_ (keeper : ByteArray) (frm til : Int) : AP 54 [.pp [.str keeper, .int .i64 frm, .int .i64 til]] AV.bool (bP (Dut.ok ⟨keeper, frm, til⟩)) := by
  refine a0 Tryz.func54 fun E K hE hK => ?_
  repeat' first
    | ((first
   | (refine callP (l20Time_ _) (fun ht => ?_) (fun _ => ?_) <;> (try unfold TimeOk at ht))
   | refine callP (l01Name_ _) (fun _ => ?_) (fun _ => ?_)
   | refine callP (in_ _ _ _) (fun _ => ?_) (fun _ => ?_)
   | refine B0 ?_|refine B1 ?_ ?_) <;> intros <;> (try conv => cbv))
  all_goals first
    | (refine finB hK (bP_true.2 ?_); simp only [Dut.ok, TimeOk]; exact ⟨by assumption, by omega, by omega, by omega, by omega⟩)
    | (refine finB hK (bP_false.2 fun h => ?_); obtain ⟨h1, h2, h3, h4, h5⟩ := h; simp only [TimeOk] at *; first | contradiction | omega)
    | trace_state
noncomputable def Dut.cmp (a b : Dut) : Int := if cmpI a.frm b.frm ≠ 0 then cmpI a.frm b.frm else cmpS a.keeper b.keeper
def Dut.less (a b : Dut) : Prop := a.frm < b.frm ∨ a.frm = b.frm ∧ strLt a.keeper b.keeper
theorem Dut.cmp_neg (a b : Dut) : Dut.cmp a b < 0 ↔ Dut.less a b := by
  unfold Dut.cmp Dut.less cmpI
  rcases Int.lt_trichotomy a.frm b.frm with h | h | h
  · simp [h]
  · rw [h]; simp [cmpS_neg]
  · have h1 : ¬ a.frm < b.frm := by omega
    have h2 : ¬ a.frm = b.frm := by omega
    simp [h, h1, h2]
def Dut.rested (a b : Dut) : Prop := IntKind.i64.wrap (a.til + 480) ≤ b.frm ∨ IntKind.i64.wrap (b.til + 480) ≤ a.frm
def Dut.rests (a b : Dut) : Prop := a.keeper ≠ b.keeper ∨ Dut.rested a b
theorem dutCompare_ (keeper : ByteArray) (frm til : Int) (keeper' : ByteArray) (frm' til' : Int) : AP 60 [.agg [.str keeper, .int .i64 frm, .int .i64 til], .agg [.str keeper', .int .i64 frm', .int .i64 til']] (AV.int .i64) (Dut.cmp ⟨keeper, frm, til⟩ ⟨keeper', frm', til'⟩) := by
  refine a0 Tryz.func60 fun E K hE hK => ?_
  repeat' first
    | ((first
   | refine callI (compare_ _ _) (fun _ _ => ?_)
   | refine callI (compareS_ _ _) (fun _ _ => ?_)
   | refine callI (cmpOr_ (l := [_, _]) (by rfl)) (fun _ _ => ?_)
   | refine B0 ?_|refine B1 ?_ ?_) <;> intros <;> (try conv => cbv))
  refine hK _ ?_
  rename_i c hc c' hc' r hr
  rw [hr]
  subst hc hc'
  simp only [orI, Dut.cmp, atup]
  congr 1
  split
  · rfl
  · split <;> simp_all
theorem l28Less_ (keeper : ByteArray) (frm til : Int) (keeper' : ByteArray) (frm' til' : Int) : AP 55 [.pp [.str keeper, .int .i64 frm, .int .i64 til], .pp [.str keeper', .int .i64 frm', .int .i64 til']] AV.bool (bP (Dut.less ⟨keeper, frm, til⟩ ⟨keeper', frm', til'⟩)) := by
  refine a0 Tryz.func55 fun E K hE hK => ?_
  repeat' first
    | ((first
   | refine sltP (fun _ => ?_) (fun _ => ?_)
   | refine B0 ?_|refine B1 ?_ ?_) <;> intros <;> (try conv => cbv))
  all_goals first
    | (refine finB hK (bP_true.2 (.inl ?_)); simp only; omega)
    | (refine finB hK (bP_true.2 (.inr ⟨?_, by assumption⟩)); simp only; omega)
    | (refine finB hK (bP_false.2 fun h => ?_); rcases h with h | ⟨h, h2⟩ <;> simp only at h <;> first | omega | contradiction)
    | trace_state
theorem l28Rested_ (keeper : ByteArray) (frm til : Int) (keeper' : ByteArray) (frm' til' : Int) : AP 56 [.pp [.str keeper, .int .i64 frm, .int .i64 til], .pp [.str keeper', .int .i64 frm', .int .i64 til']] AV.bool (bP (Dut.rested ⟨keeper, frm, til⟩ ⟨keeper', frm', til'⟩)) := by
  refine a0 Tryz.func56 fun E K hE hK => ?_
  refine addI (fun a ha => ?_)
  conv => cbv
  repeat' first
    | ((first
   | refine addI (fun a ha => ?_)
   | refine B0 ?_|refine B1 ?_ ?_) <;> intros <;> (try conv => cbv))
  all_goals first
    | (refine finB hK (bP_true.2 (.inl ?_)); simp only; omega)
    | (refine finB hK (bP_true.2 (.inr ?_)); simp only; omega)
    | (refine finB hK (bP_false.2 fun h => ?_); rcases h with h | h <;> simp only at h <;> omega)
    | trace_state
theorem dutRests_ (keeper : ByteArray) (frm til : Int) (keeper' : ByteArray) (frm' til' : Int) : AP 68 [.agg [.str keeper, .int .i64 frm, .int .i64 til], .agg [.str keeper', .int .i64 frm', .int .i64 til']] AV.bool (bP (Dut.rests ⟨keeper, frm, til⟩ ⟨keeper', frm', til'⟩)) := by
  refine a0 Tryz.func68 fun E K hE hK => ?_
  repeat' first
    | ((first
   | refine addI (fun a ha => ?_)
   | refine B0 ?_|refine B1 ?_ ?_) <;> intros <;> (try conv => cbv))
  all_goals first
    | (refine finB hK (bP_true.2 (.inl ?_)); simpa using by assumption)
    | (refine finB hK (bP_true.2 (.inr (.inl ?_))); simp only; omega)
    | (refine finB hK (bP_true.2 (.inr (.inr ?_))); simp only; omega)
    | (refine finB hK (bP_false.2 fun h => ?_); rcases h with h | h | h <;> simp only at h <;> first | omega | contradiction)
    | trace_state
theorem dutFits1_ (keeper : ByteArray) (frm til : Int) (keeper' : ByteArray) (frm' til' : Int) : AP 67 [.agg [.str keeper, .int .i64 frm, .int .i64 til], .pp [.str keeper', .int .i64 frm', .int .i64 til']] AV.bool (bP (¬ Dut.rests ⟨keeper', frm', til'⟩ ⟨keeper, frm, til⟩)) := by
  refine a0 Tryz.func67 fun E K hE hK => ?_
  repeat' first
    | ((first
   | refine callP (dutRests_ _ _ _ _ _ _) (fun _ => ?_) (fun _ => ?_)
   | refine B0 ?_|refine B1 ?_ ?_) <;> intros <;> (try conv => cbv))
  all_goals first
    | (exact finB hK (bP_true.2 (by assumption)))
    | (exact finB hK (bP_false.2 (fun h => h (by assumption))))
theorem dutFits_ {rs : List (List AV)} {t : Bool} {l : List Dut} (keeper : ByteArray) (frm til : Int) (hl : rs = l.map Dut.cs) : AP 40 [.agg [.str keeper, .int .i64 frm, .int .i64 til], .sl t 3 rs] AV.bool (bP (∀ w ∈ l, Dut.rests ⟨keeper, frm, til⟩ w)) := by
  refine a0 Tryz.func40 fun E K hE hK => ?_
  repeat' first
    | ((first
   | refine callP (containsDuty1_ (p := fun w => ¬ Dut.rests ⟨keeper, frm, til⟩ w) hl (fun a b c => dutFits1_ a b c keeper frm til)) (fun _ => ?_) (fun _ => ?_)
   | refine B0 ?_|refine B1 ?_ ?_) <;> intros <;> (try conv => cbv))
  all_goals first
    | (refine finB hK (bP_false.2 fun h => ?_); obtain ⟨v, hv, hp⟩ : ∃ v ∈ l, ¬ Dut.rests ⟨keeper, frm, til⟩ v := (by assumption); exact hp (h v hv))
    | (refine finB hK (bP_true.2 fun w hw => ?_); rename_i h; exact Classical.byContradiction fun hp => h ⟨w, hw, hp⟩)
    | trace_state
def Dut.C (l : List Dut) (j : Nat) : Prop := ∃ v, l[j]? = some v ∧ v.ok ∧ (0 < j → ∃ w, l[j - 1]? = some w ∧ w.less v) ∧ ∀ w ∈ l.take j, v.rests w
def DutiesOk (l : List Dut) : Prop := (∀ j, j < l.length → Dut.C l j) ∧ l.length ≤ 60
theorem dutC_mk {l : List Dut} {i : Int} {v : Dut} (h0 : 0 ≤ i) (hv : l[i.toNat]? = some v) (hok : v.ok) (hp : i ≤ 0 ∨ ∃ (n : Int) (w : Dut), n = i - 1 ∧ l[n.toNat]? = some w ∧ w.less v)
    (hr : ∀ w ∈ (l.take i.toNat), v.rests w) : Dut.C l i.toNat := by
  refine ⟨v, hv, hok, fun h => ?_, hr⟩
  rcases hp with hp | ⟨n, w, rfl, hw, hl⟩
  · omega
  · exact ⟨w, by rw [show i.toNat - 1 = (i - 1).toNat by omega]; exact hw, hl⟩
theorem dutC_ok {l : List Dut} {i : Int} {v : Dut} (h0 : 0 ≤ i) (h : Dut.C l i.toNat) (hv : l[i.toNat]? = some v) : v.ok ∧ (∀ (n : Int) w, n = i - 1 → 0 < i → l[n.toNat]? = some w → w.less v) ∧ ∀ w ∈ (l.take i.toNat), v.rests w := by
  obtain ⟨v', h1, h2, h3, h4⟩ := h
  rw [hv] at h1; cases h1
  refine ⟨h2, fun n w hn hi hw => ?_, h4⟩
  obtain ⟨w', hw', hl⟩ := h3 (by omega)
  rw [show i.toNat - 1 = n.toNat by omega, hw] at hw'; cases hw'
  exact hl
theorem validDuties_ {rs : List (List AV)} {t : Bool} {l : List Dut} (hl : rs = l.map Dut.cs) : AP 34 [.sl t 3 rs] AV.bool (bP (DutiesOk l)) := by
  refine a0 Tryz.func34 fun E K hE hK => ?_
  refine lenL hl fun n hn hb => ?_
  conv => cbv
  refine loop1 [0, 5, 6] [7] (fun (i : Int) => ([(7, .int .i64 i)], [], l.length - i, 0 ≤ i ∧ Up (Dut.C l) i)) [] (0) (by dsimp only; exact ⟨by omega, .zero (by omega)⟩) fun i hi Kn hN => ?_
  obtain ⟨h0, hinv⟩ := hi
  repeat' first
    | (refine hN _ [] rfl ⟨?_, ?_⟩)
    | ((first
   | refine q0 ?_
   | refine callP (isDuty_ _ _ _) (fun _ => ?_) (fun _ => ?_)
   | refine callP (few_ _ _) (fun _ => ?_) (fun _ => ?_)
   | (refine idxL (R := Dut.cs) (by assumption) (by first | omega | (simp only [List.length_set, mix_len]; omega)) ?_; rintro ⟨⟩ _)
   | refine callI (dutCompare_ _ _ _ _ _ _) (fun _ _ => ?_)
   | refine subL hl (by simp only [Option.getD_some, Option.getD_none]; omega) (fun _ _ => ?_)
   | refine callP (dutFits_ _ _ _ (by assumption)) (fun _ => ?_) (fun _ => ?_)
   | refine B0 ?_|refine B1 ?_ ?_) <;> intros <;> (try conv => cbv))
  all_goals (try clear hN)
  all_goals first
    | omega
    | exact hinv.succ (dutC_mk h0 (by assumption) (by assumption) (.inr ⟨_, _, by assumption, by assumption, (Dut.cmp_neg _ _).1 (by omega)⟩) (by assumption)) (by assumption)
    | exact hinv.succ (dutC_mk h0 (by assumption) (by assumption) (.inl (by omega)) (by assumption)) (by assumption)
    | (refine finB hK (bP_false.2 fun h => ?_); have k := dutC_ok h0 (h.1 i.toNat (by omega)) (by assumption); first | exact absurd k.1 (by assumption) | (have := (Dut.cmp_neg _ _).2 (k.2.1 _ _ (by assumption) (by omega) (by assumption)); omega) | exact absurd k.2.2 (by assumption))
    | exact finB hK (bP_true.2 ⟨hinv.all (by omega), by omega⟩)
    | (refine finB hK (bP_false.2 fun h => ?_); have := h.2; omega)
    | trace_state
theorem rests_symm {v w : Dut} (h : v.rests w) : w.rests v := by
  rcases h with h | h | h
  · exact .inl (Ne.symm h)
  · exact .inr (.inr h)
  · exact .inr (.inl h)
theorem rests_all {l : List Dut} {i k : Int} {v : Dut} (h0 : 0 ≤ i) (hk : i ≤ k) (hv : l[i.toNat]? = some v) (h : Up (fun j => ∀ v w, l[i.toNat]? = some v → l[j]? = some w → Dut.rests v w) k) : ∀ w ∈ l.take i.toNat, v.rests w := fun w hw => by
  obtain ⟨j, hj⟩ := List.getElem?_of_mem hw
  have hlt := (List.getElem?_eq_some_iff.1 hj).1
  rw [List.length_take] at hlt
  rw [List.getElem?_take, if_pos (by omega)] at hj
  exact h j (by omega) v w hv hj
theorem rests_step {l : List Dut} {i k n : Int} {v w : Dut} (h : Up (fun j => ∀ v w, l[i.toNat]? = some v → l[j]? = some w → Dut.rests v w) k) (hv : l[i.toNat]? = some v) (hw : l[k.toNat]? = some w) (hr : v.rests w) (hn : n = k + 1) : Up (fun j => ∀ v w, l[i.toNat]? = some v → l[j]? = some w → Dut.rests v w) n :=
  h.succ (fun v' w' hv' hw' => by rw [hv] at hv'; cases hv'; rw [hw] at hw'; cases hw'; exact hr) hn
theorem rests_bad {l : List Dut} {i k : Int} {v w : Dut} (hw : l[k.toNat]? = some w) (he : w.keeper = v.keeper) (hr : ¬ w.rested v) (hk : 0 ≤ k ∧ k < i) : ¬ ∀ w ∈ l.take i.toNat, v.rests w := fun h => by
  have : w ∈ l.take i.toNat := List.mem_of_getElem? (i := k.toNat) (by rw [List.getElem?_take, if_pos (by omega)]; exact hw)
  rcases h w this with h1 | h1 | h1
  · exact h1 he.symm
  · exact hr (.inr h1)
  · exact hr (.inl h1)
theorem l28Ok_ {rs : List (List AV)} {t : Bool} {l : List Dut} (hl : rs = l.map Dut.cs) : AP 29 [.sl t 3 rs] AV.bool (bP (DutiesOk l)) := by
  refine a0 Tryz.func29 fun E K hE hK => ?_
  refine loop1 [0] [3] (fun (i : Int) => ([(3, .int .i64 i)], [], l.length - i, 0 ≤ i ∧ Up (Dut.C l) i)) [] (0) (by dsimp only; exact ⟨by omega, .zero (by omega)⟩) fun i hi Kn hN => ?_
  obtain ⟨h0, hinv⟩ := hi
  repeat' first
    | ((refine loop1 [0, 3] [4] (fun (k : Int) => ([(4, .int .i64 k)], [], i - k, (0 ≤ k ∧ k ≤ i) ∧ Up (fun j => ∀ v w, l[i.toNat]? = some v → l[j]? = some w → Dut.rests v w) k)) [] (0) (by dsimp only; exact ⟨by omega, .zero (by omega)⟩) fun k hi2 Kn2 hN2 => ?_); obtain ⟨⟨k0, k1⟩, kinv⟩ := hi2)
    | (refine hN2 _ [] rfl ⟨?_, ?_⟩)
    | (refine hN _ [] rfl ⟨?_, ?_⟩)
    | ((first
   | refine q0 ?_
   | refine callP (l28One_ _ _ _) (fun _ => ?_) (fun _ => ?_)
   | (refine idxL (R := Dut.cs) (by assumption) (by first | omega | (simp only [List.length_set, mix_len]; omega)) ?_; rintro ⟨⟩ _)
   | refine callP (l28Less_ _ _ _ _ _ _) (fun _ => ?_) (fun _ => ?_)
   | refine callP (l28Rested_ _ _ _ _ _ _) (fun _ => ?_) (fun _ => ?_)
   | refine B0 ?_|refine B1 ?_ ?_) <;> intros <;> (try conv => cbv))
  all_goals (try clear hN)
  all_goals (try clear hN2)
  all_goals first
    | omega
    | exact rests_step kinv (by assumption) (by assumption) (rests_symm (.inr (by assumption))) (by assumption)
    | exact rests_step kinv (by assumption) (by assumption) (rests_symm (.inl (by assumption))) (by assumption)
    | exact hinv.succ (dutC_mk h0 (by assumption) (by assumption) (.inr ⟨_, _, by assumption, by assumption, by assumption⟩) (rests_all h0 (by omega) (by assumption) kinv)) (by assumption)
    | exact hinv.succ (dutC_mk h0 (by assumption) (by assumption) (.inl (by omega)) (rests_all h0 (by omega) (by assumption) kinv)) (by assumption)
    | (refine finB hK (bP_false.2 fun h => ?_); have k := dutC_ok h0 (h.1 i.toNat (by omega)) (by assumption); first | exact absurd k.1 (by assumption) | exact absurd (k.2.1 _ _ (by assumption) (by omega) (by assumption)) (by assumption) | exact rests_bad (by assumption) (by dsimp only; assumption) (by assumption) (by omega) k.2.2)
    | exact finB hK (bP_true.2 ⟨hinv.all (by omega), by omega⟩)
    | (refine finB hK (bP_false.2 fun h => ?_); have := h.2; omega)
    | trace_state
end Go.Proofs.YtnfjhadaclcgeaaGreatDoor
namespace Go.Proofs.YtnfjhadaclcgeaaGreatDoor
open Go Go.RowKit Classical
set_option maxRecDepth 100000
set_option maxHeartbeats 2000000
set_option linter.unusedVariables false
set_option linter.unusedSimpArgs false
theorem DutiesOk.all {l : List Dut} (h : DutiesOk l) : ∀ v ∈ l, v.ok := fun v hv => by
  obtain ⟨j, hj⟩ := List.getElem?_of_mem hv
  obtain ⟨w, h1, h2, _⟩ := h.1 j (List.getElem?_eq_some_iff.1 hj).1
  rw [hj] at h1; cases h1; exact h2
noncomputable def ofKeeper (l : List Dut) (k : ByteArray) : List Dut := rej (fun v => v.keeper ≠ k) l
theorem dutiesOf1_ (keeper : ByteArray) (frm til : Int) (k : ByteArray) : AP 63 [.agg [.str keeper, .int .i64 frm, .int .i64 til], .pp [.str k]] AV.bool (bP ((⟨keeper, frm, til⟩ : Dut).keeper ≠ k)) := by
  refine a0 Tryz.func63 fun E K hE hK => ?_
  repeat' first
    | ((first
   | refine B0 ?_|refine B1 ?_ ?_) <;> intros <;> (try conv => cbv))
  all_goals first
    | (refine finB hK (bP_true.2 ?_); assumption)
    | (refine finB hK (bP_false.2 fun h => h ?_); assumption)
theorem dutiesOfI_ {rs : List (List AV)} {t : Bool} {l : List Dut} (k : ByteArray) (hl : rs = l.map Dut.cs) (hb : l.length ≤ 1048576) : AP 35 [.sl t 3 rs, .str k] (fun l : List Dut => .sl true 3 (l.map Dut.cs)) (ofKeeper l k) := by
  refine ac Tryz.func35 (.rows .oDut) fun E K hE hK => ?_
  refine callR (cloneDuty_ hl hb) fun rs1 h1 => ?_
  conv => cbv
  refine callMI (deleteDuty1_ (p := fun v => v.keeper ≠ k) h1 hb (fun a b c => dutiesOf1_ a b c k)) ?_
  rintro r ys ⟨rs2, h2, rfl, rfl⟩
  conv => cbv
  exact hK _ (by rw [h2]; rfl)
theorem ofKeeper_len (l : List Dut) (k : ByteArray) : (ofKeeper l k).length ≤ l.length := rej_len _ _
end Go.Proofs.YtnfjhadaclcgeaaGreatDoor
namespace Go.Proofs.YtnfjhadaclcgeaaGreatDoor
open Go Go.RowKit Classical
set_option maxRecDepth 100000
set_option maxHeartbeats 2000000
set_option linter.unusedVariables false
set_option linter.unusedSimpArgs false
def dutLI (p : List Dut × Int) : AV := .tup [.sl true 3 (p.1.map Dut.cs), .int .i64 p.2]
theorem NoB.dutLI (p : List Dut × Int) : NoB (dutLI p) := .tupC (.rows .oDut) (.tupC (.int _ _) .tup0)
noncomputable def dutiesR (l : List Dut) (k : ByteArray) : List Dut × Int := if DutiesOk l then (ofKeeper l k, 0) else ([], 1)
theorem dutiesR_len (l : List Dut) (k : ByteArray) : (dutiesR l k).1.length ≤ l.length := by unfold dutiesR; split <;> simp [ofKeeper_len]
theorem dutiesOf_ {rs : List (List AV)} {t : Bool} {l : List Dut} (k : ByteArray) (hl : rs = l.map Dut.cs) (hb : l.length ≤ 1048576) : AP 9 [.sl t 3 rs, .str k] dutLI (dutiesR l k) := by
  refine ac Tryz.func9 (.dutLI _) fun E K hE hK => ?_
  repeat' first
    | ((first
   | refine callP (validDuties_ (by assumption)) (fun _ => ?_) (fun _ => ?_)
   | refine callR (dutiesOfI_ _ hl hb) (fun _ _ => ?_)
   | refine nilOwnI 3 ?_
   | refine B0 ?_|refine B1 ?_ ?_) <;> intros <;> (try conv => cbv))
  · refine hK _ ?_
    subst_vars
    rw [dutiesR, if_pos (by assumption)]; rfl
  · refine hK _ ?_
    rw [dutiesR, if_neg (by assumption)]; rfl
end Go.Proofs.YtnfjhadaclcgeaaGreatDoor
