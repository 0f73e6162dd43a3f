/- Contracts: the order in which visits are due (the reference's). -/
import Derived.Test.YtjenekakcoggpaaFdl
namespace Go.Proofs.Ytjenekakcoggpaa
open Go Go.RowKit Classical
set_option maxRecDepth 100000
set_option maxHeartbeats 2000000
set_option linter.unusedVariables false
set_option linter.unusedSimpArgs false
def vAt (l : List Vis) (k : Int) : Vis := l.getD k.toNat ⟨0, 0, 0⟩
theorem vAt_eq {l : List Vis} {k : Int} {v : Vis} (h : l[k.toNat]? = some v) : vAt l k = v := by
  unfold vAt; rw [List.getD_eq_getElem?_getD, h]; rfl
def scanP (l : List Vis) (o : List Int) (d : Int) : Nat → Nat
  | 0 => 0
  | n + 1 => if d < (vAt l (o.getD n 0)).due then scanP l o d n else n + 1
theorem scanP_le (l : List Vis) (o : List Int) (d : Int) : ∀ n, scanP l o d n ≤ n
  | 0 => Nat.le_refl _
  | n + 1 => by
    unfold scanP
    split
    · exact Nat.le_succ_of_le (scanP_le l o d n)
    · exact Nat.le_refl _
def ordStep (l : List Vis) (day : Int) (o : List Int) (i : Int) : List Int := if day < (vAt l i).due then o else o.take (scanP l o (vAt l i).due o.length) ++ i :: o.drop (scanP l o (vAt l i).due o.length)
def ordTo (l : List Vis) (day : Int) : Nat → List Int
  | 0 => []
  | n + 1 => ordStep l day (ordTo l day n) n
theorem ordTo_mem (l : List Vis) (day : Int) : ∀ n, (∀ k ∈ ordTo l day n, 0 ≤ k ∧ k < n) ∧ (ordTo l day n).length ≤ n
  | 0 => ⟨fun k h => by simp [ordTo] at h, Nat.le_refl _⟩
  | n + 1 => by
    obtain ⟨h1, h2⟩ := ordTo_mem l day n
    unfold ordTo ordStep
    split
    · exact ⟨fun k hk => by have := h1 k hk; omega, by omega⟩
    · refine ⟨fun k hk => ?_, ?_⟩
      · rcases List.mem_append.1 hk with h | h
        · have := h1 k (List.mem_of_mem_take h); omega
        · rcases List.mem_cons.1 h with rfl | h
          · omega
          · have := h1 k (List.mem_of_mem_drop h); omega
      · have := congrArg List.length (List.take_append_drop (scanP l (ordTo l day n) (vAt l n).due (ordTo l day n).length) (ordTo l day n))
        rw [List.length_append] at this
        rw [List.length_append, List.length_cons]; omega
theorem scanP_down {l : List Vis} {o : List Int} {d : Int} {a n m q : Int} (hq : o[n.toNat]? = some q) (h0 : 0 < a) (hn : n = a - 1) (hm : m = a - 1) (h : d < (vAt l q).due) : scanP l o d a.toNat = scanP l o d m.toNat := by
  rw [show a.toNat = n.toNat + 1 by omega, scanP, List.getD_eq_getElem?_getD, hq]
  rw [show m.toNat = n.toNat by omega]
  exact if_pos h
theorem scanP_stop {l : List Vis} {o : List Int} {d : Int} {a n q : Int} (hq : o[n.toNat]? = some q) (h0 : 0 < a) (hn : n = a - 1) (h : ¬ d < (vAt l q).due) : scanP l o d a.toNat = a.toNat := by
  rw [show a.toNat = n.toNat + 1 by omega, scanP, List.getD_eq_getElem?_getD, hq]
  exact if_neg h
theorem scanP_end {l : List Vis} {o : List Int} {d : Int} {a : Int} (h0 : a ≤ 0) : scanP l o d a.toNat = a.toNat := by
  rw [show a.toNat = 0 by omega]; rfl
theorem ordTo_skip {l : List Vis} {day i n : Int} (h0 : 0 ≤ i) (hn : n = i + 1) (h : day < (vAt l i).due) : ordTo l day n.toNat = ordTo l day i.toNat := by
  rw [show n.toNat = i.toNat + 1 by omega, ordTo, ordStep, Int.toNat_of_nonneg h0, if_pos h]
theorem ordTo_put {l : List Vis} {day i n : Int} {o : List Int} {a : Int} (h0 : 0 ≤ i) (hn : n = i + 1) (h : ¬ day < (vAt l i).due) (ho : o = ordTo l day i.toNat) (ha : scanP l o (vAt l i).due o.length = a.toNat) : ordTo l day n.toNat = o.take a.toNat ++ i :: o.drop a.toNat := by
  rw [show n.toNat = i.toNat + 1 by omega, ordTo, ordStep, Int.toNat_of_nonneg h0, if_neg h, ← ho, ha]
end Go.Proofs.Ytjenekakcoggpaa
