/- Contracts: warnings in force; the law. -/
import Derived.Test.YthiecdiiindegaaGreatDoorFwb
namespace Go.Proofs.YthiecdiiindegaaGreatDoor
open Go Go.RowKit Classical
set_option maxRecDepth 100000
set_option maxHeartbeats 2000000
set_option linter.unusedVariables false
set_option linter.unusedSimpArgs false
noncomputable def actives (l : List War) (t : Int) : List War := rej (fun w => t < w.frm ∨ w.til ≤ t) l
theorem actives_len (l : List War) (t : Int) : (actives l t).length ≤ l.length := rej_len _ _
theorem active1_ (number priority frm til atX atY radius : Int) (words : ByteArray) (t : Int) : AC Tryz.prog 56 [.agg [.int .i64 number, .int .i64 priority, .int .i64 frm, .int .i64 til, .int .i64 atX, .int .i64 atY, .int .i64 radius, .str words], .pp [.int .i64 t]] AV.bool (bP (t < frm ∨ til ≤ t)) := by
  refine ac Tryz.func56 (by kernel_rfl) (.bool _) fun E K hE hK => ?_
  conv => cbv
  repeat' first
    | ((first
   | refine q0 hE ?_
   | refine B0 hE ?_|refine B1 hE (fun _=>?_) fun _=>?_|refine B3 hE fun _ _ _=>?_|refine B2 hE fun _ _=>?_|refine B4 hE fun _ _ _ _=>?_) <;> (try conv => cbv))
  all_goals (try clear hN)
  all_goals first
    | (omega)
    | (refine finB hK (bP_true.2 ?_); first | omega | grind)
    | (refine finB hK (bP_false.2 ?_); first | omega | (intro h; grind))
    | (refine ⟨by omega, Up.succ (by assumption) ?_ (by assumption)⟩; grind)
    | (refine hK _ ?_; simp_all [atup]; done)
    | (grind)
theorem active_ {rs : List (List AV)} {b : Bool} {l : List War} (t : Int) (hl : rs = l.map War.cs) (hb : l.length ≤ 1048576) : AC Tryz.prog 28 [.sl b 8 rs, .int .i64 t] (fun l : List War => .sl true 8 (l.map War.cs)) (actives l t) := by
  refine ac Tryz.func28 (by kernel_rfl) (.rows .oWar) fun E K hE hK => ?_
  conv => cbv
  refine callR hE (cloneWarning_ hl hb) fun rs1 h1 => ?_
  conv => cbv
  refine callMI hE (deleteWarning1_ (p := fun w => t < w.frm ∨ w.til ≤ t) h1 hb (fun a b c d e f g h => active1_ a b c d e f g h t)) ?_
  rintro r ys ⟨rs2, h2, rfl, rfl⟩
  conv => cbv
  exact hK _ (by rw [h2]; rfl)
theorem numbersOf_ {rs : List (List AV)} {b : Bool} {l : List War} (hl : rs = l.map War.cs) (hb : l.length ≤ 1048576) : AC Tryz.prog 27 [.sl b 8 rs] (fun l : List Int => .sl true 1 (l.map intR)) (l.map War.number) := by
  refine ac Tryz.func27 (by kernel_rfl) (.ints _) fun E K hE hK => ?_
  conv => cbv
  refine lenL hE hl fun n hn hbn => ?_
  conv => cbv
  refine loopC hE (ι := Int × (List (List AV))) [7, 8] [9, 3] (fun q => (fun (i : Int) (es : List (List AV)) => [(9, .int .i64 i), (3, .ob 0)]) q.1 q.2) (fun q => (fun (i : Int) (es : List (List AV)) => [.row 1 es]) q.1 q.2) (fun q => (fun (i : Int) (es : List (List AV)) => (n - i).toNat) q.1 q.2) (fun q => (fun (i : Int) (es : List (List AV)) => (0 ≤ i ∧ i ≤ n) ∧ ∃ m : List Int, es = m.map intR ∧ m = (l.take i.toNat).map War.number) q.1 q.2) [0] (by decide) ((0, [])) (by conv => lhs; cbv) (by conv => lhs; cbv) rfl rfl (by dsimp only; exact ⟨by omega, [], rfl, rfl⟩) fun q hi Kn hN => ?_
  obtain ⟨i, es⟩ := q
  (try dsimp only at hi)
  conv => cbv
  obtain ⟨⟨h0, h1⟩, m, h2, h3⟩ := hi
  have hm : m.length ≤ 1048576 := by rw [h3, List.length_map, List.length_take]; omega
  repeat' first
    | (refine hN (_, _) _ [3] (by decide) rfl ⟨?_, _, by assumption, ?_⟩ ?_ <;> (try dsimp only))
    | ((first
   | refine q0 hE ?_
   | (refine idxL (R := War.cs) hE (by assumption) (by first | omega | (simp only [List.length_set, mix_len]; omega)) ?_; rintro ⟨⟩ _)
   | refine catP hE (R := intR) (by assumption) rfl (by omega) (fun _ _ => ?_)
   | refine B0 hE ?_|refine B1 hE (fun _=>?_) fun _=>?_|refine B3 hE fun _ _ _=>?_|refine B2 hE fun _ _=>?_|refine B4 hE fun _ _ _ _=>?_) <;> (try conv => cbv))
  all_goals (try clear hN)
  all_goals first
    | omega
    | (rename_i hv _ _ _ hn1; rw [h3, hn1, show (i + 1).toNat = i.toNat + 1 by omega, List.take_add_one, hv]; simp; done)
    | (refine hK _ ?_; rw [h2, h3, List.take_of_length_le (by omega)]; rfl)
    | trace_state
noncomputable def activeR (l : List War) (t : Int) : List Int × Int := if WarnsOk l then (if TimeOk t then ((actives l t).map War.number, 0) else ([], 2)) else ([], 1)
theorem activeR_len (l : List War) (t : Int) : (activeR l t).1.length ≤ l.length := by
  unfold activeR; split <;> (try split) <;> simp [actives_len]
theorem activeWarnings_ {rs : List (List AV)} {b : Bool} {l : List War} (t : Int) (hl : rs = l.map War.cs) (hb : l.length ≤ 1048576) : AC Tryz.prog 8 [.sl b 8 rs, .int .i64 t] intLI (activeR l t) := by
  refine ac Tryz.func8 (by kernel_rfl) (.intLI _) fun E K hE hK => ?_
  conv => cbv
  have hal := actives_len l t
  repeat' first
    | ((first
   | refine q0 hE ?_
   | refine callP hE (validWarnings_ (by assumption)) (fun _ => ?_) (fun _ => ?_)
   | refine callP hE (isTime_ _) (fun _ => ?_) (fun _ => ?_)
   | refine callR hE (active_ t hl hb) (fun _ _ => ?_)
   | refine callR hE (numbersOf_ (by assumption) (by omega)) (fun _ _ => ?_)
   | refine nilOwnI hE 1 ?_
   | refine B0 hE ?_|refine B1 hE (fun _=>?_) fun _=>?_|refine B3 hE fun _ _ _=>?_|refine B2 hE fun _ _=>?_|refine B4 hE fun _ _ _ _=>?_) <;> (try conv => cbv))
  all_goals first
    | (refine hK _ ?_; rw [activeR, if_pos (by assumption), if_pos (by assumption)]; subst_vars; rfl)
    | (refine hK _ ?_; rw [activeR, if_pos (by assumption), if_neg (by assumption)]; rfl)
    | (refine hK _ ?_; rw [activeR, if_neg (by assumption)]; rfl)
    | trace_state
end Go.Proofs.YthiecdiiindegaaGreatDoor
