/- Contracts: texts divided, visits read: the law of ReadVisit. -/
import Derived.Test.YtnfjhadaclcgeaaGreatDoorRdc
import Derived.Test.YtnfjhadaclcgeaaGreatDoorDcp
namespace Go.Proofs.YtnfjhadaclcgeaaGreatDoor
open Go Go.RowKit Classical
set_option maxRecDepth 100000
set_option maxHeartbeats 2000000
set_option linter.unusedVariables false
set_option linter.unusedSimpArgs false
/-! The functions. -/
theorem viaNum {K : AV → Prop} {l : List UInt8} {p : Int × Bool} (hK : ∀ r, r = numR (numOf l) → K r) (h : numOf l = p) : K (numR p) := hK _ (by rw [h])
theorem split1_ (s : ByteArray) (c : UInt8) (hs : s.size ≤ 1048576) : AC Tryz.prog 72 [.str s, .str ⟨#[c]⟩] (fun l : List ByteArray => .sl true 1 (l.map strR)) (cutS c s) := by
  have h := split_ s ⟨#[c]⟩ (by omega) (Nat.le_refl 1) (fun x hx => by rw [splitB_cut] at hx; have := cutS_mem hx; unfold maxLen; omega)
  rw [splitB_cut] at h
  exact h
theorem splitWords_ (s : ByteArray) (hs : s.size ≤ 1048576) : AP 46 [.str s] (fun l : List ByteArray => .sl true 1 (l.map strR)) (wordsOf s) := by
  refine ac Tryz.func46 (.strs _) fun E K hE hK => ?_
  have hcl := cutS_len 32 s
  refine callR (split1_ s 32 hs) (fun rs hrs => ?_)
  conv => cbv
  refine lenL hrs fun n hn hb => ?_
  conv => cbv
  refine loop3 [8, 9] [10, 3] (fun (i : Int) (out : List ByteArray) (es : List (List AV)) => ([(10, .int .i64 i), (3, .ob 0)], [.row 1 es, .row 1 rs], n - i, ((0 ≤ i ∧ i ≤ n) ∧ out.length ≤ i ∧ out = rej isE ((cutS 32 s).take i.toNat)) ∧ es = out.map strR)) [0, 1] ((0, [], [])) (by dsimp only; exact ⟨⟨by omega, by simp, rfl⟩, rfl⟩) fun i out es hi Kn hN => ?_
  obtain ⟨⟨⟨h0, h1⟩, hol, hJ⟩, hes⟩ := hi
  repeat' first
    | (refine hN _ (out ++ [x]) _ [3, 1] rfl ⟨⟨?_, ?_, ?_⟩, ?_⟩)
    | (refine hN _ out _ [0, 1] rfl ⟨⟨?_, ?_, ?_⟩, ?_⟩)
    | ((first
   | refine idxV (R := strR) hrs h0 hx ?_
   | refine idxL (R := strR) hrs (by omega) (fun x hx => ?_)
   | refine catP (R := strR) hes rfl (by omega) (fun es2 hes2 => ?_)
   | refine B0 ?_|refine B1 ?_ ?_) <;> intros <;> (try conv => cbv))
  all_goals (try clear hN)
  all_goals first
    | omega
    | (rw [List.length_append, List.length_singleton]; omega)
    | (have hs := (rej_step isE h0 hx (by assumption)).2 (by assumption); rw [hJ, hs])
    | (have hs := (rej_step isE h0 hx (by assumption)).1 (by assumption); rw [hJ, hs])
    | exact hes2
    | exact hes
    | (refine hK _ ?_; rw [hes, hJ, List.take_of_length_le (by omega)]; rfl)
    | trace_state
theorem vtext_eq {v : Vis} (h : v.ok) : vtext v = decS v.aid ++ ⟨#[32]⟩ ++ decS v.every ++ ⟨#[32]⟩ ++ decS v.last := by
  unfold vtext
  rw [if_pos h]
  apply ByteArray.ext
  apply Array.ext'
  simp [visTxt, bL, decS]
def visB (p : Vis × Bool) : AV := .tup [.agg p.1.cs, .bool p.2]
theorem viaVis {K : AV → Prop} {l : List UInt8} {p : Vis × Bool} (hK : ∀ r, r = visB (visOf l) → K r) (h : visOf l = p) : K (visB p) := hK _ (by rw [h])
theorem NoB.visB (p : Vis × Bool) : NoB (visB p) := .tupC (.vis _) (.tupC (.bool _) .tup0)
end Go.Proofs.YtnfjhadaclcgeaaGreatDoor
