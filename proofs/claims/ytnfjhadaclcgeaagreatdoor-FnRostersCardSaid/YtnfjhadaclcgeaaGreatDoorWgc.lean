/- Contracts: turns of duties, gaps of watches. -/
import Derived.Test.YtnfjhadaclcgeaaGreatDoorQd
import Derived.Test.YtnfjhadaclcgeaaGreatDoorWgb
import Derived.Test.YtnfjhadaclcgeaaGreatDoorFon
import Derived.Test.YtnfjhadaclcgeaaGreatDoorAxSortO
import Derived.Test.YtnfjhadaclcgeaaGreatDoorFss
namespace Go.Proofs.YtnfjhadaclcgeaaGreatDoor
open Go Go.RowKit Go.Sort Classical
set_option maxRecDepth 100000
set_option maxHeartbeats 2000000
set_option linter.unusedVariables false
set_option linter.unusedSimpArgs false
set_option maxHeartbeats 4000000
theorem sortTurns_ {rs : List (List AV)} {l : List Int} (hl : rs = l.map intR) (hb : l.length ≤ 1048576) : ACM Tryz.prog 31 [.sl true 1 rs] (fun r ys => ∃ rs', rs' = (l.mergeSort fun x y => decide (x ≤ y)).map intR ∧ r = .tup [] ∧ ys = [.sl true 1 rs']) :=
  ACM.sortI Tryz.sortI (fun _ _ => rfl) hl hb
def gpR (p : Int × Int) : List AV := llR true (pairL p)
theorem betweenW_ {rs : List (List AV)} {b : Bool} {l : List Dut} (f u : Int) (hl : rs = l.map Dut.cs) : AP 30 [.sl b 3 rs, .int .i64 f, .int .i64 u] (AV.int .i64) (btwR l f u) := by
  refine a0 Tryz.func30 fun E K hE hK => ?_
  repeat' first
    | ((first
   | refine callP (validDuties_ hl) (fun _ => ?_) (fun _ => ?_)
   | refine callP (isTime_ _) (fun _ => ?_) (fun _ => ?_)
   | refine B0 ?_|refine B1 ?_ ?_) <;> intros <;> (try conv => cbv))
  all_goals first
    | (refine hK _ (congrArg (AV.int .i64) ?_); unfold btwR; rw [if_pos (by assumption), if_pos ⟨⟨by assumption, by assumption⟩, by omega⟩])
    | (refine hK _ (congrArg (AV.int .i64) ?_); unfold btwR; rw [if_pos (by assumption), if_neg (fun h => by first | omega | exact absurd h.1.1 (by assumption) | exact absurd h.1.2 (by assumption))])
    | (refine hK _ (congrArg (AV.int .i64) ?_); unfold btwR; rw [if_neg (by assumption)])
    | trace_state
theorem onN_step {l : List Dut} {t i n : Int} {v : Dut} (h0 : 0 ≤ i) (hn : n = i + 1) (hv : l[i.toNat]? = some v) : (v.frm ≤ t ∧ t < v.til → onN (l.take n.toNat) t = onN (l.take i.toNat) t + 1) ∧ (¬ (v.frm ≤ t ∧ t < v.til) → onN (l.take n.toNat) t = onN (l.take i.toNat) t) := by
  have hs := rej_step (fun v : Dut => t < v.frm ∨ v.til ≤ t) h0 hv hn
  constructor
  · intro h
    unfold onN
    rw [hs.2 (by omega), List.length_append]; simp
  · intro h
    unfold onN
    rw [hs.1 (by omega)]
end Go.Proofs.YtnfjhadaclcgeaaGreatDoor
