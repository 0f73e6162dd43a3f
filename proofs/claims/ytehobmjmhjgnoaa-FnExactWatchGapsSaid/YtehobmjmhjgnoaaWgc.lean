/- Contracts: turns of duties, gaps of watches. -/
import Derived.Test.YtehobmjmhjgnoaaWga
import Derived.Test.YtehobmjmhjgnoaaWgb
import Derived.Test.YtehobmjmhjgnoaaFon
import Derived.Test.YtehobmjmhjgnoaaAxSortO
import Derived.Test.YtehobmjmhjgnoaaFss
namespace Go.Proofs.Ytehobmjmhjgnoaa
open Go Go.RowKit Go.Sort Classical
set_option maxRecDepth 100000
set_option maxHeartbeats 2000000
set_option linter.unusedVariables false
set_option linter.unusedSimpArgs false
set_option maxHeartbeats 4000000
theorem sortTurns_ {rs : List (List AV)} {l : List Int} (hl : rs = l.map intR) (hb : l.length ≤ 1048576) : ACM Try.prog 21 [.sl true 1 rs] (fun r ys => ∃ rs', rs' = (l.mergeSort fun x y => decide (x ≤ y)).map intR ∧ r = .tup [] ∧ ys = [.sl true 1 rs']) :=
  ACM.sortI Try.sortI (fun _ _ => rfl) hl hb
def gpR (p : Int × Int) : List AV := llR true (pairL p)
theorem betweenCode_ {rs : List (List AV)} {b : Bool} {l : List Dut} (f u : Int) (hl : rs = l.map Dut.cs) : AP 19 [.sl b 3 rs, .int .i64 f, .int .i64 u] (AV.int .i64) (btwR l f u) := by
  refine a0 Try.func19 fun E K hE hK => ?_
  repeat' first
    | ((first
   | refine callP (validDuties_ hl) (fun _ => ?_) (fun _ => ?_)
   | refine callP (isTime_ _) (fun _ => ?_) (fun _ => ?_)
   | refine B0 ?_|refine B1 ?_ ?_) <;> intros <;> (try conv => cbv))
  all_goals first
    | (refine hK _ (congrArg (AV.int .i64) ?_); unfold btwR; rw [if_pos (by assumption), if_pos ⟨⟨by assumption, by assumption⟩, by omega⟩])
    | (refine hK _ (congrArg (AV.int .i64) ?_); unfold btwR; rw [if_pos (by assumption), if_neg (fun h => by first | omega | exact absurd h.1.1 (by assumption) | exact absurd h.1.2 (by assumption))])
    | (refine hK _ (congrArg (AV.int .i64) ?_); unfold btwR; rw [if_neg (by assumption)])
    | trace_state
theorem l28Span_ {rs : List (List AV)} {b : Bool} {l : List Dut} (f u : Int) (hl : rs = l.map Dut.cs) : AP 14 [.sl b 3 rs, .int .i64 f, .int .i64 u] (AV.int .i64) (btwR l f u) := by
  refine a0 Try.func14 fun E K hE hK => ?_
  repeat' first
    | ((first
   | refine callP (l28Ok_ hl) (fun _ => ?_) (fun _ => ?_)
   | refine callP (l20Time_ _) (fun _ => ?_) (fun _ => ?_)
   | refine B0 ?_|refine B1 ?_ ?_) <;> intros <;> (try conv => cbv))
  all_goals first
    | (refine hK _ (congrArg (AV.int .i64) ?_); unfold btwR; rw [if_pos (by assumption), if_pos ⟨⟨by assumption, by assumption⟩, by omega⟩])
    | (refine hK _ (congrArg (AV.int .i64) ?_); unfold btwR; rw [if_pos (by assumption), if_neg (fun h => by first | omega | exact absurd h.1.1 (by assumption) | exact absurd h.1.2 (by assumption))])
    | (refine hK _ (congrArg (AV.int .i64) ?_); unfold btwR; rw [if_neg (by assumption)])
    | trace_state
theorem onN_step {l : List Dut} {t i n : Int} {v : Dut} (h0 : 0 ≤ i) (hn : n = i + 1) (hv : l[i.toNat]? = some v) : (v.frm ≤ t ∧ t < v.til → onN (l.take n.toNat) t = onN (l.take i.toNat) t + 1) ∧ (¬ (v.frm ≤ t ∧ t < v.til) → onN (l.take n.toNat) t = onN (l.take i.toNat) t) := by
  have hs := rej_step (fun v : Dut => t < v.frm ∨ v.til ≤ t) h0 hv hn
  constructor
  · intro h
    unfold onN
    rw [hs.2 (by omega), List.length_append]; simp
  · intro h
    unfold onN
    rw [hs.1 (by omega)]
theorem l28On_ {rs : List (List AV)} {b : Bool} {l : List Dut} (t : Int) (hl : rs = l.map Dut.cs) (hb : l.length ≤ 1048576) : AP 17 [.sl b 3 rs, .int .i64 t] (AV.int .i64) (onN l t) := by
  refine a0 Try.func17 fun E K hE hK => ?_
  refine loop2 [0, 1] [6, 5] (fun (i m : Int) => ([(6, .int .i64 i), (5, .int .i64 m)], [], l.length - i, (0 ≤ i ∧ i ≤ l.length) ∧ (0 ≤ m ∧ m ≤ i) ∧ m = onN (l.take i.toNat) t)) [] ((0, 0)) (by dsimp only; exact ⟨by omega, by omega, by rfl⟩) fun i m hi Kn hN => ?_
  obtain ⟨⟨h0, h1⟩, hm, h2⟩ := hi
  repeat' first
    | (refine hN _ _ [] rfl ⟨?_, ?_, ?_⟩)
    | ((first
   | refine idxV hl (by omega) (by assumption) ?_
   | (refine idxL hl (by omega) (fun v hv => ?_); have hst := fun n hn => onN_step (t := t) (n := n) h0 hn hv; obtain ⟨keeper, frm, til⟩ := v; dsimp only at hst)
   | refine B0 ?_|refine B1 ?_ ?_) <;> intros <;> (try conv => cbv))
  all_goals (try clear hN)
  all_goals first
    | omega
    | (have := (hst _ (by assumption)).1 (by omega); omega)
    | (have := (hst _ (by assumption)).2 (by omega); omega)
    | (refine hK _ (congrArg (AV.int .i64) ?_); rw [h2, List.take_of_length_le (by omega)])
    | trace_state
end Go.Proofs.Ytehobmjmhjgnoaa
