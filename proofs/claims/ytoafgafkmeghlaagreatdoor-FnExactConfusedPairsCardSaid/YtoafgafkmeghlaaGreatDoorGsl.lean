/- Contracts: lists of aids; those that an observer sees. -/
import Derived.Test.YtoafgafkmeghlaaGreatDoorGse
namespace Go.Proofs.YtoafgafkmeghlaaGreatDoor
open Go Go.RowKit Classical
set_option maxRecDepth 100000
set_option maxHeartbeats 2000000
set_option linter.unusedVariables false
set_option linter.unusedSimpArgs false
noncomputable def selI {α : Type} (p : α → Prop) (l : List α) (i : Int) : List α := (l.take i.toNat).filter fun v => bP (p v)
theorem selI_zero {α : Type} {p : α → Prop} {l : List α} {i : Int} (h : i ≤ 0) : selI p l i = [] := by
  unfold selI; rw [show i.toNat = 0 by omega]; simp
theorem selI_step {α : Type} (p : α → Prop) {l : List α} {i n : Int} {v : α} (h0 : 0 ≤ i) (hv : l[i.toNat]? = some v) (hn : n = i + 1) : (p v → selI p l n = selI p l i ++ [v]) ∧ (¬ p v → selI p l n = selI p l i) := by
  unfold selI
  rw [show n.toNat = i.toNat + 1 by omega, List.take_add_one, hv, List.filter_append]
  constructor
  · intro h; simp [bP_true.2 h]
  · intro h; simp [bP_false.2 h]
theorem selI_all {α : Type} {p : α → Prop} {l : List α} {i : Int} (h : l.length ≤ i) : selI p l i = l.filter fun v => bP (p v) := by
  unfold selI; rw [List.take_of_length_le (by omega)]
theorem selI_len {α : Type} (p : α → Prop) (l : List α) (i : Int) : (selI p l i).length ≤ l.length :=
  Nat.le_trans (List.length_filter_le _ _) (by rw [List.length_take]; omega)
noncomputable def selX {α : Type} (p : α → Prop) (l : List α) (i : Int) : List Int := ((List.range i.toNat).filter fun j => bP (∃ v, l[j]? = some v ∧ p v)).map Int.ofNat
theorem selX_zero {α : Type} {p : α → Prop} {l : List α} {i : Int} (h : i ≤ 0) : selX p l i = [] := by
  unfold selX; rw [show i.toNat = 0 by omega]; simp
theorem selX_step {α : Type} (p : α → Prop) {l : List α} {i n : Int} {v : α} (h0 : 0 ≤ i) (hv : l[i.toNat]? = some v) (hn : n = i + 1) : (p v → selX p l n = selX p l i ++ [i]) ∧ (¬ p v → selX p l n = selX p l i) := by
  unfold selX
  rw [show n.toNat = i.toNat + 1 by omega, List.range_succ, List.filter_append, List.map_append]
  have e : (∃ w, l[i.toNat]? = some w ∧ p w) ↔ p v := by
    rw [hv]; exact ⟨fun ⟨w, h1, h2⟩ => by cases h1; exact h2, fun h => ⟨v, rfl, h⟩⟩
  constructor
  · intro h
    have h1 : bP (∃ w, l[i.toNat]? = some w ∧ p w) = true := bP_true.2 (e.2 h)
    simp only [List.filter_cons, h1, if_true, List.filter_nil, List.map_cons, List.map_nil]
    rw [show Int.ofNat i.toNat = i by simp; omega]
  · intro h
    have h1 : bP (∃ w, l[i.toNat]? = some w ∧ p w) = false := bP_false.2 fun h2 => h (e.1 h2)
    simp only [List.filter_cons, h1, List.filter_nil, List.map_nil]
    simp
theorem selX_map {α : Type} (p : α → Prop) (l : List α) : ∀ n : Nat, n ≤ l.length → (selX p l n).map (fun j => l[j.toNat]?) = (selI p l n).map some ∧ ∀ j ∈ selX p l n, 0 ≤ j ∧ j < n
  | 0, _ => by rw [selX_zero (by omega), selI_zero (by omega)]; simp
  | n + 1, h => by
    obtain ⟨ih1, ih2⟩ := selX_map p l n (by omega)
    have hv : l[(n : Int).toNat]? = some l[n] := by simp
    have hx := selX_step p (n := ((n + 1 : Nat) : Int)) (by omega) hv (by omega)
    have hi := selI_step p (n := ((n + 1 : Nat) : Int)) (by omega) hv (by omega)
    by_cases hp : p l[n]
    · rw [hx.1 hp, hi.1 hp, List.map_append, List.map_append, ih1]
      refine ⟨by simp, fun j hj => ?_⟩
      rcases List.mem_append.1 hj with hj | hj
      · have := ih2 j hj; omega
      · simp at hj; omega
    · rw [hx.2 hp, hi.2 hp]
      exact ⟨ih1, fun j hj => by have := ih2 j hj; omega⟩
theorem selX_len {α : Type} (p : α → Prop) (l : List α) {i : Int} (h : i.toNat ≤ l.length) : (selX p l i).length = (selI p l i).length := by
  have := congrArg List.length (selX_map p l i.toNat h).1
  simp only [List.length_map] at this
  by_cases h0 : 0 ≤ i
  · rwa [show ((i.toNat : Nat) : Int) = i by omega] at this
  · rw [selX_zero (by omega), selI_zero (by omega)]; rfl
theorem selX_get {α : Type} {p : α → Prop} {l : List α} {k : Nat} {j : Int} (h : (selX p l l.length)[k]? = some j) : ∃ v, (l.filter fun v => bP (p v))[k]? = some v ∧ l[j.toNat]? = some v ∧ 0 ≤ j ∧ j < l.length := by
  obtain ⟨h1, h2⟩ := selX_map p l l.length (Nat.le_refl _)
  have h3 := congrArg (fun x => x[k]?) h1
  rw [selI_all (by omega)] at h3
  simp only [List.getElem?_map, h, Option.map_some] at h3
  have h4 := h2 j (List.mem_of_getElem? h)
  cases hq : (l.filter fun v => bP (p v))[k]? with
  | none => rw [hq] at h3; cases h3
  | some v =>
    rw [hq] at h3
    simp only [Option.map_some, Option.some.injEq] at h3
    exact ⟨v, rfl, h3, h4.1, by omega⟩
theorem AidsOk.all {l : List Aid} (h : AidsOk l) : ∀ v ∈ l, v.ok := fun v hv => h.mem hv
noncomputable def seenX (l : List Aid) (x y e s : Int) : List Int := selX (fun v : Aid => v.seen x y e s) l l.length
theorem seenX_len (l : List Aid) (x y e s : Int) : (seenX l x y e s).length = (seenL l x y e s).length := by
  unfold seenX seenL; rw [selX_len _ _ (by omega), selI_all (by omega)]
theorem seenX_get {l : List Aid} {x y e s : Int} {k : Nat} {j : Int} (h : (seenX l x y e s)[k]? = some j) : ∃ v, (seenL l x y e s)[k]? = some v ∧ l[j.toNat]? = some v ∧ 0 ≤ j ∧ j < l.length := selX_get h
set_option maxHeartbeats 4000000
theorem validAids_ {rs : List (List AV)} {t b : Bool} {l : List Aid} (hl : rs = l.map (Aid.cs b)) : AC Tryz.prog 51 [.sl t 16 rs] AV.bool (bP (AidsOk l)) := by
  refine ac Tryz.func51 (by kernel_rfl) (.bool _) fun E K hE hK => ?_
  conv => cbv
  refine lenL hE hl fun n hn hb => ?_
  conv => cbv
  refine loopC hE (ι := Int) [0, 5, 6] [7] (fun q => (fun (i : Int) => [(7, .int .i64 i)]) q) (fun q => (fun (i : Int) => []) q) (fun q => (fun (i : Int) => (l.length - i).toNat) q) (fun q => (fun (i : Int) => 0 ≤ i ∧ Up (Aid.C l) i) q) [] (by decide) (0) (by conv => lhs; cbv) (by conv => lhs; cbv) rfl rfl (by dsimp only; exact ⟨by omega, .zero (by omega)⟩) fun i hi Kn hN => ?_
  (try dsimp only at hi)
  conv => cbv
  obtain ⟨h0, hinv⟩ := hi
  refine ltI hE (fun hlt => ?_) (fun hge => ?_) <;> conv => cbv
  · refine idxAid hE hl (by omega) (fun number name atX atY height mKind mColors mShape mTop lKind lGroup lLetter lColors lPeriod sectors intensity rg rx hv hg hx => ?_)
    conv => cbv
    refine callP hE (validAid_ _ _ _ _ _ _ _ _ _ _ _ _ _ _ hg hx) (fun h1 => ?_) (fun h1 => ?_) <;> conv => cbv
    · refine ltI hE (fun h2 => ?_) (fun h2 => ?_) <;> conv => cbv
      · refine sub64 hE (by omega) fun k hk => ?_
        conv => cbv
        refine idxAid hE hl (by omega) (fun number' name' atX' atY' height' mKind' mColors' mShape' mTop' lKind' lGroup' lLetter' lColors' lPeriod' sectors' intensity' rg' rx' hw hg' hx' => ?_)
        conv => cbv
        have hk2 : i.toNat - 1 = k.toNat := by omega
        repeat' first
          | (refine hN _ _ [] (by decide) rfl ⟨?_, ?_⟩ ?_ <;> (try dsimp only))
          | ((first
         | refine q0 hE ?_
         | refine B0 hE ?_|refine B1 hE (fun _=>?_) fun _=>?_|refine B3 hE fun _ _ _=>?_|refine B2 hE fun _ _=>?_|refine B4 hE fun _ _ _ _=>?_) <;> (try conv => cbv))
        all_goals (try clear hN)
        all_goals first
          | omega
          | (refine finB hK (bP_false.2 fun h => ?_)
             obtain ⟨v', e1, e2, e3⟩ := h.1 i.toNat (by omega)
             rw [hv] at e1; cases e1
             obtain ⟨w', g1, g2⟩ := e3 (by omega)
             rw [hk2, hw] at g1; cases g1
             simp only at g2; omega)
          | exact hinv.succ ⟨_, hv, h1, fun _ => ⟨_, by rw [hk2]; exact hw, by simp only; omega⟩⟩ (by assumption)
          | trace_state
      · skip
        repeat' first
          | (refine hN _ _ [] (by decide) rfl ⟨?_, ?_⟩ ?_ <;> (try dsimp only))
          | ((first
         | refine q0 hE ?_
         | refine B0 hE ?_|refine B1 hE (fun _=>?_) fun _=>?_|refine B3 hE fun _ _ _=>?_|refine B2 hE fun _ _=>?_|refine B4 hE fun _ _ _ _=>?_) <;> (try conv => cbv))
        all_goals (try clear hN)
        all_goals first
          | omega
          | exact hinv.succ ⟨_, hv, h1, fun _ => by omega⟩ (by assumption)
          | trace_state
    · refine finB hK (bP_false.2 fun h => ?_)
      obtain ⟨v', e1, e2, e3⟩ := h.1 i.toNat (by omega)
      rw [hv] at e1; cases e1
      exact h1 e2
  · skip
    repeat' first
      | ((first
     | refine q0 hE ?_
     | refine callP hE (few_ _ _) (fun _ => ?_) (fun _ => ?_)
     | refine B0 hE ?_|refine B1 hE (fun _=>?_) fun _=>?_|refine B3 hE fun _ _ _=>?_|refine B2 hE fun _ _=>?_|refine B4 hE fun _ _ _ _=>?_) <;> (try conv => cbv))
    all_goals first
      | exact finB hK (bP_true.2 ⟨hinv.all (by omega), by omega⟩)
      | (refine finB hK (bP_false.2 fun h => ?_); have := h.2; omega)
      | trace_state
theorem l12Ok_ {rs : List (List AV)} {t b : Bool} {l : List Aid} (hl : rs = l.map (Aid.cs b)) : AC Tryz.prog 41 [.sl t 16 rs] AV.bool (bP (AidsOk l)) := by
  refine ac Tryz.func41 (by kernel_rfl) (.bool _) fun E K hE hK => ?_
  conv => cbv
  refine loopC hE (ι := Int) [0] [3] (fun q => (fun (i : Int) => [(3, .int .i64 i)]) q) (fun q => (fun (i : Int) => []) q) (fun q => (fun (i : Int) => (l.length - i).toNat) q) (fun q => (fun (i : Int) => 0 ≤ i ∧ Up (Aid.C l) i) q) [] (by decide) (0) (by conv => lhs; cbv) (by conv => lhs; cbv) rfl rfl (by dsimp only; exact ⟨by omega, .zero (by omega)⟩) fun i hi Kn hN => ?_
  (try dsimp only at hi)
  conv => cbv
  obtain ⟨h0, hinv⟩ := hi
  refine lenL hE hl fun n hn hb => ?_
  conv => cbv
  refine ltI hE (fun hlt => ?_) (fun hge => ?_) <;> conv => cbv
  · refine idxAid hE hl (by omega) (fun number name atX atY height mKind mColors mShape mTop lKind lGroup lLetter lColors lPeriod sectors intensity rg rx hv hg hx => ?_)
    conv => cbv
    refine callP hE (l12One_ _ _ _ _ _ _ _ _ _ _ _ _ _ _ hg hx) (fun h1 => ?_) (fun h1 => ?_) <;> conv => cbv
    · refine ltI hE (fun h2 => ?_) (fun h2 => ?_) <;> conv => cbv
      · refine sub64 hE (by omega) fun k hk => ?_
        conv => cbv
        refine idxAid hE hl (by omega) (fun number' name' atX' atY' height' mKind' mColors' mShape' mTop' lKind' lGroup' lLetter' lColors' lPeriod' sectors' intensity' rg' rx' hw hg' hx' => ?_)
        conv => cbv
        have hk2 : i.toNat - 1 = k.toNat := by omega
        repeat' first
          | (refine idxAidV hE hl (by omega) hv hg hx ?_; (try conv => cbv))
          | (refine hN _ _ [] (by decide) rfl ⟨?_, ?_⟩ ?_ <;> (try dsimp only))
          | ((first
         | refine q0 hE ?_
         | refine B0 hE ?_|refine B1 hE (fun _=>?_) fun _=>?_|refine B3 hE fun _ _ _=>?_|refine B2 hE fun _ _=>?_|refine B4 hE fun _ _ _ _=>?_) <;> (try conv => cbv))
        all_goals (try clear hN)
        all_goals first
          | omega
          | (refine finB hK (bP_false.2 fun h => ?_)
             obtain ⟨v', e1, e2, e3⟩ := h.1 i.toNat (by omega)
             rw [hv] at e1; cases e1
             obtain ⟨w', g1, g2⟩ := e3 (by omega)
             rw [hk2, hw] at g1; cases g1
             simp only at g2; omega)
          | exact hinv.succ ⟨_, hv, h1, fun _ => ⟨_, by rw [hk2]; exact hw, by simp only; omega⟩⟩ (by assumption)
          | trace_state
      · skip
        repeat' first
          | (refine hN _ _ [] (by decide) rfl ⟨?_, ?_⟩ ?_ <;> (try dsimp only))
          | ((first
         | refine q0 hE ?_
         | refine B0 hE ?_|refine B1 hE (fun _=>?_) fun _=>?_|refine B3 hE fun _ _ _=>?_|refine B2 hE fun _ _=>?_|refine B4 hE fun _ _ _ _=>?_) <;> (try conv => cbv))
        all_goals (try clear hN)
        all_goals first
          | omega
          | exact hinv.succ ⟨_, hv, h1, fun _ => by omega⟩ (by assumption)
          | trace_state
    · refine finB hK (bP_false.2 fun h => ?_)
      obtain ⟨v', e1, e2, e3⟩ := h.1 i.toNat (by omega)
      rw [hv] at e1; cases e1
      exact h1 e2
  · skip
    repeat' first
      | ((first
     | refine q0 hE ?_
     | refine B0 hE ?_|refine B1 hE (fun _=>?_) fun _=>?_|refine B3 hE fun _ _ _=>?_|refine B2 hE fun _ _=>?_|refine B4 hE fun _ _ _ _=>?_) <;> (try conv => cbv))
    all_goals first
      | exact finB hK (bP_true.2 ⟨hinv.all (by omega), by omega⟩)
      | (refine finB hK (bP_false.2 fun h => ?_); have := h.2; omega)
      | trace_state
theorem seenFrom_ {rs : List (List AV)} {b : Bool} {l : List Aid} (x y e s : Int) (hl : rs = l.map (Aid.cs b)) (hok : ∀ v ∈ l, v.ok) (hob : ObvOk x y e s) (hb : l.length ≤ 1048576) : ACS Tryz.prog 57 [.sl false 16 rs, .agg [.int .i64 x, .int .i64 y, .int .i64 e, .int .i64 s]] (fun r ys => ∃ rs', rs' = (seenL l x y e s).map (Aid.cs false) ∧ r = .sl true 16 rs' ∧ ys = [.any, .any]) := by
  refine acs 0 Tryz.func57 (by kernel_rfl) fun E K hE hK => ?_
  conv => cbv
  refine lenL hE hl fun n hn hb2 => ?_
  conv => cbv
  refine loopC hE (ι := Int × (List (List AV))) [3, 9, 10] [11, 5] (fun q => (fun (i : Int) (es : List (List AV)) => [(11, .int .i64 i), (5, .ob 1)]) q.1 q.2) (fun q => (fun (i : Int) (es : List (List AV)) => [.box [.int .i64 x, .int .i64 y, .int .i64 e, .int .i64 s], .row 16 es]) q.1 q.2) (fun q => (fun (i : Int) (es : List (List AV)) => (l.length - i).toNat) q.1 q.2) (fun q => (fun (i : Int) (es : List (List AV)) => (0 ≤ i ∧ i ≤ l.length) ∧ es = (selI (fun v : Aid => v.seen x y e s) l i).map (Aid.cs false)) q.1 q.2) [0, 1] (by decide) ((0, [])) (by conv => lhs; cbv) (by conv => lhs; cbv) rfl rfl (by dsimp only; exact ⟨by omega, by rw [selI_zero (by omega)]; rfl⟩) fun q hi Kn hN => ?_
  obtain ⟨i, es⟩ := q
  (try dsimp only at hi)
  conv => cbv
  obtain ⟨⟨h0, h1⟩, h2⟩ := hi
  have hlen := selI_len (fun v : Aid => v.seen x y e s) l i
  repeat' first
    | (refine idxAid hE hl (by omega) (fun number name atX atY height mKind mColors mShape mTop lKind lGroup lLetter lColors lPeriod sectors intensity rg rx hv hg hx => ?_); have hvok := hok _ (List.mem_of_getElem? hv); (try conv => cbv))
    | (refine hN (_, _) _ [0, 4] (by decide) rfl ⟨?_, ?_⟩ ?_ <;> (try dsimp only))
    | (refine hN (_, _) _ [0, 1] (by decide) rfl ⟨?_, ?_⟩ ?_ <;> (try dsimp only))
    | ((first
   | refine q0 hE ?_
   | refine callP hE (seen_ _ _ _ _ _ _ _ _ _ _ _ _ _ _ hg hx _ _ _ _ hvok hob) (fun _ => ?_) (fun _ => ?_)
   | refine catP hE (R := Aid.cs false) (v := (⟨_, _, _, _, _, _, _, _, _, _, _, _, _, _, _, _⟩ : Aid)) (by assumption) (by rw [hg, hx]; rfl) (by omega) (fun _ _ => ?_)
   | refine B0 hE ?_|refine B1 hE (fun _=>?_) fun _=>?_|refine B3 hE fun _ _ _=>?_|refine B2 hE fun _ _=>?_|refine B4 hE fun _ _ _ _=>?_) <;> (try conv => cbv))
  all_goals (try clear hN)
  all_goals first
    | omega
    | (rw [(selI_step _ h0 hv (by assumption)).1 (by assumption)]; assumption)
    | (rw [(selI_step _ h0 hv (by assumption)).2 (by assumption)]; assumption)
    | (refine hK _ _ ⟨es, ?_, rfl, rfl⟩; rw [h2, selI_all (by omega)]; rfl)
    | trace_state
theorem l16All_ {rs : List (List AV)} {t b : Bool} {l : List Aid} (x y e s : Int) (hl : rs = l.map (Aid.cs b)) (hok : ∀ v ∈ l, v.ok) (hob : ObvOk x y e s) (hb : l.length ≤ 1048576) : AC Tryz.prog 44 [.sl t 16 rs, .pp [.int .i64 x, .int .i64 y, .int .i64 e, .int .i64 s]] (fun l : List Int => .sl true 1 (l.map intR)) (seenX l x y e s) := by
  refine ac Tryz.func44 (by kernel_rfl) (.ints _) fun E K hE hK => ?_
  conv => cbv
  refine loopC hE (ι := Int × (List (List AV))) [0, 1] [6, 5] (fun q => (fun (i : Int) (es : List (List AV)) => [(6, .int .i64 i), (5, .ob 0)]) q.1 q.2) (fun q => (fun (i : Int) (es : List (List AV)) => [.row 1 es]) q.1 q.2) (fun q => (fun (i : Int) (es : List (List AV)) => (l.length - i).toNat) q.1 q.2) (fun q => (fun (i : Int) (es : List (List AV)) => (0 ≤ i ∧ i ≤ l.length) ∧ es = (selX (fun v : Aid => v.seen x y e s) l i).map intR) q.1 q.2) [0] (by decide) ((0, [])) (by conv => lhs; cbv) (by conv => lhs; cbv) rfl rfl (by dsimp only; exact ⟨by omega, by rw [selX_zero (by omega)]; rfl⟩) fun q hi Kn hN => ?_
  obtain ⟨i, es⟩ := q
  (try dsimp only at hi)
  conv => cbv
  obtain ⟨⟨h0, h1⟩, h2⟩ := hi
  have hlen := selI_len (fun v : Aid => v.seen x y e s) l i
  rw [← selX_len _ _ (by omega)] at hlen
  repeat' first
    | (refine idxAid hE hl (by omega) (fun number name atX atY height mKind mColors mShape mTop lKind lGroup lLetter lColors lPeriod sectors intensity rg rx hv hg hx => ?_); have hvok := hok _ (List.mem_of_getElem? hv); (try conv => cbv))
    | (refine hN (_, _) _ [0] (by decide) rfl ⟨?_, ?_⟩ ?_ <;> (try dsimp only))
    | (refine hN (_, _) _ [2] (by decide) rfl ⟨?_, ?_⟩ ?_ <;> (try dsimp only))
    | ((first
   | refine q0 hE ?_
   | refine callP hE (l16Seen_ _ _ _ _ _ _ _ _ _ _ _ _ _ _ hg hx _ _ _ _ hvok hob) (fun _ => ?_) (fun _ => ?_)
   | refine catP hE (R := intR) (v := i) (by assumption) rfl (by omega) (fun _ _ => ?_)
   | refine B0 hE ?_|refine B1 hE (fun _=>?_) fun _=>?_|refine B3 hE fun _ _ _=>?_|refine B2 hE fun _ _=>?_|refine B4 hE fun _ _ _ _=>?_) <;> (try conv => cbv))
  all_goals (try clear hN)
  all_goals first
    | omega
    | (rw [(selX_step _ h0 hv (by assumption)).1 (by assumption)]; assumption)
    | (rw [(selX_step _ h0 hv (by assumption)).2 (by assumption)]; assumption)
    | (refine hK _ ?_; rw [h2, show i = l.length by omega]; rfl)
    | trace_state
end Go.Proofs.YtoafgafkmeghlaaGreatDoor
