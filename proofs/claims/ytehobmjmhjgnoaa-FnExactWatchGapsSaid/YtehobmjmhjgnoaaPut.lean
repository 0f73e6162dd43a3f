/- Contracts: a number put into a rising list. -/
import Derived.Test.YtehobmjmhjgnoaaFsp
import Derived.Test.YtehobmjmhjgnoaaFl
namespace Go.Proofs.Ytehobmjmhjgnoaa
open Go Go.RowKit Classical
set_option maxRecDepth 100000
set_option maxHeartbeats 2000000
set_option linter.unusedVariables false
set_option linter.unusedSimpArgs false
/-- A number put into a rising list, once. -/
noncomputable def putI (l : List Int) (n : Int) : List Int := if l[fro (· < n) l]? = some n then l else insF (· < n) l n
theorem putI_len (l : List Int) (n : Int) : (putI l n).length ≤ l.length + 1 := by
  unfold putI
  split
  · omega
  · exact Nat.le_of_eq (insF_len _ _ _)
/-- What has been written when i numbers have been read. -/
noncomputable def putAt (l : List Int) (n i : Int) : List Int := if (fro (· < n) l : Int) < i then (if l[fro (· < n) l]? = some n then l.take i.toNat else l.take (fro (· < n) l) ++ n :: (l.take i.toNat).drop (fro (· < n) l)) else l.take i.toNat
theorem putAt_len (l : List Int) (n i : Int) : (putAt l n i).length ≤ l.length + 1 := by
  unfold putAt
  split
  · split
    · rw [List.length_take]; omega
    · rw [List.length_append, List.length_cons, List.length_take, List.length_drop, List.length_take]; omega
  · rw [List.length_take]; omega
theorem fro_at {p : Int → Prop} {l : List Int} {i : Int} {x : Int} (h0 : 0 ≤ i) (hx : l[i.toNat]? = some x) (hf : i ≤ fro p l) : (p x → i < fro p l) ∧ (¬ p x → (fro p l : Int) = i) := by
  obtain ⟨g1, g2⟩ := fro_spec p l
  refine ⟨fun hp => ?_, fun hp => ?_⟩
  · rcases Int.lt_or_le i (fro p l) with h | h
    · exact h
    · have e : fro p l = i.toNat := by omega
      exact absurd hp (g2 x (by rw [e]; exact hx))
  · rcases Int.lt_or_le i (fro p l) with h | h
    · refine absurd (g1 x ?_) hp
      exact List.mem_of_getElem? (i := i.toNat) (by rw [List.getElem?_take, if_pos (by omega)]; exact hx)
    · omega
theorem putAt_zero (l : List Int) (n : Int) : putAt l n 0 = [] := by
  unfold putAt; rw [if_neg (by omega)]; rfl
theorem take_snoc {l : List Int} {i n : Int} {x : Int} (h0 : 0 ≤ i) (hn : n = i + 1) (hx : l[i.toNat]? = some x) : l.take n.toNat = l.take i.toNat ++ [x] := by
  rw [show n.toNat = i.toNat + 1 by omega, List.take_add_one, hx]; rfl
theorem putAt_done {l : List Int} {m i n x : Int} (h0 : 0 ≤ i) (hn : n = i + 1) (hx : l[i.toNat]? = some x) (hd : (fro (· < m) l : Int) < i) : putAt l m n = putAt l m i ++ [x] := by
  unfold putAt
  rw [if_pos (by omega), if_pos hd, take_snoc h0 hn hx]
  split
  · rfl
  · have hl : fro (· < m) l ≤ (l.take i.toNat).length := by
      have := (List.getElem?_eq_some_iff.1 hx).1
      rw [List.length_take]; omega
    rw [List.drop_append_of_le_length hl, ← List.cons_append, List.append_assoc]
theorem putAt_less {l : List Int} {m i n x : Int} (h0 : 0 ≤ i) (hn : n = i + 1) (hx : l[i.toNat]? = some x) (hd : i ≤ fro (· < m) l) (hlt : x < m) : putAt l m n = putAt l m i ++ [x] ∧ n ≤ fro (· < m) l := by
  have h1 := (fro_at h0 hx hd).1 hlt
  unfold putAt
  rw [if_neg (by omega), if_neg (by omega), take_snoc h0 hn hx]
  exact ⟨rfl, by omega⟩
theorem putAt_eq {l : List Int} {m i n x : Int} (h0 : 0 ≤ i) (hn : n = i + 1) (hx : l[i.toNat]? = some x) (hd : i ≤ fro (· < m) l) (he : x = m) : putAt l m n = putAt l m i ++ [x] ∧ (fro (· < m) l : Int) < n := by
  have h1 := (fro_at h0 hx hd).2 (by omega)
  have e : fro (· < m) l = i.toNat := by omega
  have hlen := (List.getElem?_eq_some_iff.1 hx).1
  have e1 : putAt l m i = l.take i.toNat := by unfold putAt; exact if_neg (by omega)
  have e2 : putAt l m n = l.take n.toNat := by
    unfold putAt
    rw [if_pos (show (fro (· < m) l : Int) < n by omega), if_pos (by rw [e, hx, he])]
  rw [e1, e2, take_snoc h0 hn hx]
  exact ⟨rfl, by omega⟩
theorem putAt_more {l : List Int} {m i n x : Int} (h0 : 0 ≤ i) (hn : n = i + 1) (hx : l[i.toNat]? = some x) (hd : i ≤ fro (· < m) l) (he : m < x) : putAt l m n = putAt l m i ++ [m] ++ [x] ∧ (fro (· < m) l : Int) < n := by
  have h1 := (fro_at h0 hx hd).2 (by omega)
  have e : fro (· < m) l = i.toNat := by omega
  have hlen := (List.getElem?_eq_some_iff.1 hx).1
  have e1 : putAt l m i = l.take i.toNat := by unfold putAt; exact if_neg (by omega)
  have e2 : putAt l m n = l.take i.toNat ++ m :: (l.take n.toNat).drop i.toNat := by
    unfold putAt
    rw [if_pos (show (fro (· < m) l : Int) < n by omega), if_neg (by rw [e, hx]; intro h; injection h with h; omega), e]
  rw [e1, e2, take_snoc h0 hn hx]
  refine ⟨?_, by omega⟩
  rw [List.drop_append_of_le_length (by rw [List.length_take]; omega), List.drop_eq_nil_of_le (by rw [List.length_take]; omega), List.nil_append, List.append_assoc]
  rfl
theorem putAt_end {l : List Int} {m i : Int} (hi : l.length ≤ i) : ((fro (· < m) l : Int) < i → i ≤ l.length → putAt l m i = putI l m) ∧ (i ≤ fro (· < m) l → putAt l m i ++ [m] = putI l m) := by
  have hle := fro_le (· < m) l
  have ht : l.take i.toNat = l := List.take_of_length_le (by omega)
  constructor
  · intro h _
    unfold putAt putI insF
    rw [if_pos h, ht]
  · intro h
    have e : fro (· < m) l = l.length := by omega
    unfold putAt putI insF
    rw [if_neg (by omega), ht, e, if_neg (by simp), List.take_length, List.drop_length]
theorem l00Put_ {rs : List (List AV)} {b : Bool} {l : List Int} (m : Int) (hl : rs = l.map intR) (hb : l.length ≤ 1000000) : AP 16 [.sl b 1 rs, .int .i64 m] (fun l : List Int => .sl true 1 (l.map intR)) (putI l m) := by
  refine ac Try.func16 (.ints _) fun E K hE hK => ?_
  refine loop3 [0, 1] [7, 5, 6] (fun (i : Int) (es : List (List AV)) (d : Bool) => ([(7, .int .i64 i), (5, .ob 0), (6, .bool d)], [.row 1 es], l.length - i, (0 ≤ i ∧ i ≤ l.length) ∧ es = (putAt l m i).map intR ∧ (d = true → (fro (· < m) l : Int) < i) ∧ (d = false → i ≤ fro (· < m) l))) [0] ((0, [], false)) (by dsimp only; exact ⟨by omega, by rw [putAt_zero]; rfl, fun h => (by cases h), fun _ => by omega⟩) fun i es d hi Kn hN => ?_
  obtain ⟨⟨h0, h1⟩, h2, h3, h4⟩ := hi
  have hlen := putAt_len l m i
  have hend := putAt_end (l := l) (m := m) (i := i)
  cases d
  · have hd := h4 rfl
    conv => cbv
    repeat' first
      | (refine hN _ _ true [2] rfl ⟨?_, ?_, fun _ => ?_, fun h => (by cases h)⟩)
      | (refine hN _ _ true [4] rfl ⟨?_, ?_, fun _ => ?_, fun h => (by cases h)⟩)
      | (refine hN _ _ false [2] rfl ⟨?_, ?_, fun h => (by cases h), fun _ => ?_⟩)
      | ((first
     | refine idxV hl (by omega) (by assumption) ?_
     | refine idxL hl (by omega) (fun x hx => ?_)
     | refine catP (R := intR) (by assumption) rfl (by first | omega | (simp only [List.length_append, List.length_cons, List.length_nil]; omega)) (fun _ _ => ?_)
     | refine B0 ?_|refine B1 ?_ ?_) <;> intros <;> (try conv => cbv))
    all_goals (try clear hN)
    all_goals first
      | omega
      | (rw [(putAt_more h0 (by assumption) hx hd (by omega)).1]; assumption)
      | exact (putAt_more h0 (by assumption) hx hd (by omega)).2
      | (rw [(putAt_eq h0 (by assumption) hx hd (by omega)).1]; assumption)
      | exact (putAt_eq h0 (by assumption) hx hd (by omega)).2
      | (rw [(putAt_less h0 (by assumption) hx hd (by omega)).1]; assumption)
      | exact (putAt_less h0 (by assumption) hx hd (by omega)).2
      | (refine hK _ ?_; rw [← (hend (by omega)).2 hd]; subst_vars; rfl)
      | trace_state
  · have hd := h3 rfl
    conv => cbv
    repeat' first
      | (refine hN _ _ true [2] rfl ⟨?_, ?_, fun _ => ?_, fun h => (by cases h)⟩)
      | ((first
     | refine idxV hl (by omega) (by assumption) ?_
     | refine idxL hl (by omega) (fun x hx => ?_)
     | refine catP (R := intR) (by assumption) rfl (by first | omega | (simp only [List.length_append, List.length_cons, List.length_nil]; omega)) (fun _ _ => ?_)
     | refine B0 ?_|refine B1 ?_ ?_) <;> intros <;> (try conv => cbv))
    all_goals (try clear hN)
    all_goals first
      | omega
      | (rw [putAt_done h0 (by assumption) hx hd]; assumption)
      | (refine hK _ ?_; rw [← (hend (by omega)).1 hd (by omega)]; subst_vars; rfl)
      | trace_state
end Go.Proofs.Ytehobmjmhjgnoaa
