/- Contracts: warnings near a place; the law. -/
import Derived.Test.YthiecdiiindegaaGreatDoorFwc
import Derived.Test.YthiecdiiindegaaGreatDoorFro
namespace Go.Proofs.YthiecdiiindegaaGreatDoor
open Go Go.RowKit Classical
set_option maxRecDepth 100000
set_option maxHeartbeats 2000000
set_option linter.unusedVariables false
set_option linter.unusedSimpArgs false
def farW (x y d : Int) (w : War) : Prop := IntKind.i64.wrap (w.radius + d) < distR w.atX w.atY x y
theorem farW_iff {x y d : Int} {w : War} (h : 0 ≤ w.radius ∧ w.radius ≤ 20000) (hd : 0 ≤ d ∧ d ≤ 20000) : farW x y d w ↔ w.radius + d < distR w.atX w.atY x y := by
  unfold farW
  rw [IntWalk.i64_in _ ⟨by omega, by omega⟩]
theorem near1_ (number priority frm til atX atY radius : Int) (words : ByteArray) (x y d : Int) : AC Tryz.prog 32 [.agg [.int .i64 number, .int .i64 priority, .int .i64 frm, .int .i64 til, .int .i64 atX, .int .i64 atY, .int .i64 radius, .str words], .pp [.int .i64 x, .int .i64 y], .pp [.int .i64 d]] AV.bool (bP (farW x y d ⟨number, priority, frm, til, atX, atY, radius, words⟩)) := by
  refine ac Tryz.func32 (by kernel_rfl) (.bool _) fun E K hE hK => ?_
  conv => cbv
  repeat' first
    | (refine addI hE (fun a ha => ?_); (try conv => cbv))
    | ((first
   | refine q0 hE ?_
   | refine callI hE (distance_ _ _ _ _) (fun _ _ => ?_)
   | refine B0 hE ?_|refine B1 hE (fun _=>?_) fun _=>?_|refine B3 hE fun _ _ _=>?_|refine B2 hE fun _ _=>?_|refine B4 hE fun _ _ _ _=>?_) <;> (try conv => cbv))
  all_goals first
    | (refine finB hK (bP_true.2 ?_); unfold farW; simp only; omega)
    | (refine finB hK (bP_false.2 ?_); unfold farW; simp only; omega)
    | trace_state
noncomputable def nearR (l : List War) (x y d t : Int) : List Int × Int := if WarnsOk l ∧ PtOk x y then (if TimeOk t ∧ 0 ≤ d ∧ d ≤ 20000 then ((rej (farW x y d) (actives l t)).map War.number, 0) else ([], 2)) else ([], 1)
theorem nearR_len (l : List War) (x y d t : Int) : (nearR l x y d t).1.length ≤ l.length := by
  unfold nearR; split <;> (try split) <;> simp
  exact Nat.le_trans (rej_len _ _) (actives_len _ _)
theorem warningsNear_ {rs : List (List AV)} {b : Bool} {l : List War} (x y d t : Int) (hl : rs = l.map War.cs) (hb : l.length ≤ 1048576) : AC Tryz.prog 9 [.sl b 8 rs, .agg [.int .i64 x, .int .i64 y], .int .i64 d, .int .i64 t] intLI (nearR l x y d t) := by
  refine ac Tryz.func9 (by kernel_rfl) (.intLI _) fun E K hE hK => ?_
  conv => cbv
  have hal := actives_len l t
  have hrl := rej_len (farW x y d) (actives l t)
  repeat' first
    | (refine callMI hE (deleteWarning2_ (p := farW x y d) (by assumption) (by omega) (fun a b c e f g h i => near1_ a b c e f g h i x y d)) ?_; rintro _ _ ⟨rs2, hrs2, rfl, rfl⟩; conv => cbv)
    | ((first
   | refine q0 hE ?_
   | refine callP hE (validWarnings_ (by assumption)) (fun _ => ?_) (fun _ => ?_)
   | refine callP hE (validPoint_ _ _) (fun _ => ?_) (fun _ => ?_)
   | refine callP hE (isTime_ _) (fun _ => ?_) (fun _ => ?_)
   | refine callP hE (isAway_ _) (fun _ => ?_) (fun _ => ?_)
   | refine callR hE (active_ t hl hb) (fun _ _ => ?_)
   | refine callR hE (numbersOf_ (by assumption) (by omega)) (fun _ _ => ?_)
   | refine nilOwnI hE 1 ?_
   | refine B0 hE ?_|refine B1 hE (fun _=>?_) fun _=>?_|refine B3 hE fun _ _ _=>?_|refine B2 hE fun _ _=>?_|refine B4 hE fun _ _ _ _=>?_) <;> (try conv => cbv))
  all_goals first
    | (refine hK _ ?_; rw [nearR, if_pos ⟨by assumption, by assumption⟩, if_pos ⟨by assumption, by assumption⟩]; subst_vars; rfl)
    | (refine hK _ ?_; rw [nearR, if_pos ⟨by assumption, by assumption⟩, if_neg (fun h => by first | (exact absurd h.1 (by assumption)) | (exact absurd h.2 (by assumption)))]; rfl)
    | (refine hK _ ?_; rw [nearR, if_neg (fun h => by first | (exact absurd h.1 (by assumption)) | (exact absurd h.2 (by assumption)))]; rfl)
    | trace_state
theorem rej_app {α : Type} (p : α → Prop) (l : List α) (v : α) : (p v → rej p (l ++ [v]) = rej p l) ∧ (¬ p v → rej p (l ++ [v]) = rej p l ++ [v]) := by
  unfold rej
  rw [List.filter_append]
  by_cases h : p v <;> simp [h]
end Go.Proofs.YthiecdiiindegaaGreatDoor
