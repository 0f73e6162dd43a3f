/- Plain laws: the reference's order is the one in which visits are due. -/
import Derived.Test.YtjenekakcoggpaaFdm
import Derived.Test.YtjenekakcoggpaaFso
namespace Go.Proofs.Ytjenekakcoggpaa
open Go Go.RowKit Classical
set_option maxRecDepth 100000
set_option maxHeartbeats 2000000
set_option linter.unusedVariables false
set_option linter.unusedSimpArgs false
theorem scanP_spec (l : List Vis) (o : List Int) (d : Int) : ∀ n, n ≤ o.length → (∀ j k, scanP l o d n ≤ j → j < n → o[j]? = some k → d < (vAt l k).due) ∧ (0 < scanP l o d n → ∃ k, o[scanP l o d n - 1]? = some k ∧ (vAt l k).due ≤ d)
  | 0, _ => ⟨fun j k h1 h2 => by omega, fun h => by simp [scanP] at h⟩
  | n + 1, hn => by
    obtain ⟨h1, h2⟩ := scanP_spec l o d n (by omega)
    have hk : o[n]? = some (o.getD n 0) := by rw [List.getD_eq_getElem?_getD, List.getElem?_eq_getElem (by omega)]; rfl
    unfold scanP
    split
    · rename_i h
      refine ⟨fun j k hj hjn hk' => ?_, h2⟩
      rcases Nat.lt_or_ge j n with h3 | h3
      · exact h1 j k hj h3 hk'
      · have : j = n := by omega
        subst this
        rw [hk] at hk'; cases hk'; exact h
    · rename_i h
      exact ⟨fun j k hj hjn => by omega, fun _ => ⟨_, by rw [Nat.add_sub_cancel]; exact hk, by omega⟩⟩
theorem aid_mono {l : List Vis} (h : VisitsOk l) (j : Nat) : ∀ (k : Nat) x y, j < k → l[j]? = some x → l[k]? = some y → x.aid < y.aid
  | 0, x, y, h1, _, _ => by omega
  | k + 1, x, y, hjk, hx, hy => by
    obtain ⟨y', h1, _, h2⟩ := h.1 (k + 1) (List.getElem?_eq_some_iff.1 hy).1
    rw [hy] at h1; cases h1
    obtain ⟨z, hz, hzy⟩ := h2 (by omega)
    rw [Nat.add_sub_cancel] at hz
    rcases Nat.lt_or_ge j k with hj | hj
    · have := aid_mono h j k x z hj hx hz; omega
    · have : j = k := by omega
      subst this
      rw [hx] at hz; cases hz; exact hzy
theorem ordTo_due {l : List Vis} (hok : VisitsOk l) (day : Int) : ∀ n, n ≤ l.length → DueIs (l.take n) day ((ordTo l day n).map (vAt l))
  | 0, _ => ⟨by simp [rej, ordTo], by simp [ordTo]⟩
  | n + 1, hn => by
    have ih := ordTo_due hok day n (by omega)
    obtain ⟨x, hx⟩ : ∃ x, l[n]? = some x := ⟨_, List.getElem?_eq_getElem (by omega)⟩
    have hv : vAt l (n : Int) = x := vAt_eq (by simpa using hx)
    rw [List.take_add_one, hx]
    unfold ordTo ordStep
    rw [hv]
    split
    · rename_i h
      have e : rej (fun v : Vis => day < v.due) (l.take n ++ [x]) = rej (fun v : Vis => day < v.due) (l.take n) := (rej_app' _ _ _).1 h
      exact ⟨by rw [show (some x).toList = [x] from rfl, e]; exact ih.1, ih.2⟩
    · rename_i h
      obtain ⟨h1, h2⟩ := scanP_spec l (ordTo l day n) x.due (ordTo l day n).length (Nat.le_refl _)
      generalize scanP l (ordTo l day n) x.due (ordTo l day n).length = p at *
      rw [List.map_append, List.map_cons, List.map_take, List.map_drop, hv]
      refine ih.insert h (fun w hw => ?_) (fun w hw => ?_) (fun w hw => ?_)
      · obtain ⟨j, hj⟩ := List.getElem?_of_mem hw
        have hlt := (List.getElem?_eq_some_iff.1 hj).1
        rw [List.length_take] at hlt
        rw [List.getElem?_take, if_pos (by omega)] at hj
        exact aid_mono hok j n w x (by omega) hj hx
      · obtain ⟨j, hj⟩ := List.getElem?_of_mem hw
        have hlt := (List.getElem?_eq_some_iff.1 hj).1
        rw [List.length_take] at hlt
        rw [List.getElem?_take, if_pos (by omega)] at hj
        obtain ⟨k, hk, hd⟩ := h2 (by omega)
        have hk2 : ((ordTo l day n).map (vAt l))[p - 1]? = some (vAt l k) := by rw [List.getElem?_map, hk]; rfl
        rcases Nat.lt_or_ge j (p - 1) with h3 | h3
        · have := pair_le ih.2 h3 hj hk2
          unfold Vis.le at this; omega
        · have : j = p - 1 := by omega
          subst this
          rw [hk2] at hj; cases hj; exact hd
      · obtain ⟨j, hj⟩ := List.getElem?_of_mem hw
        rw [List.getElem?_drop, List.getElem?_map] at hj
        cases hk : (ordTo l day n)[p + j]? with
        | none => rw [hk] at hj; cases hj
        | some k =>
          rw [hk] at hj
          simp only [Option.map_some, Option.some.injEq] at hj
          rw [← hj]
          exact h1 (p + j) k (by omega) (List.getElem?_eq_some_iff.1 hk).1 hk
end Go.Proofs.Ytjenekakcoggpaa
