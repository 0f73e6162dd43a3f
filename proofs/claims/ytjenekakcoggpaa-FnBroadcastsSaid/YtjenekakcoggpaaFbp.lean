/- Plain laws: what broadcasts are. -/
import Derived.Test.YtjenekakcoggpaaFbr
namespace Go.Proofs.Ytjenekakcoggpaa
open Go Go.RowKit Go.Sort Classical
set_option maxRecDepth 100000
set_option maxHeartbeats 2000000
set_option linter.unusedVariables false
set_option linter.unusedSimpArgs false
theorem bRun_get (l : List War) (frm every room : Int) : ∀ (n i : Nat), i < n → (bRun l frm every room n)[i]? = some (bRowS l (frm + every * i) room (bRun l frm every room i))
  | 0, i, h => by omega
  | n + 1, i, h => by
    have hl := bRun_len l frm every room n
    rw [bRun]
    by_cases hi : i < n
    · rw [List.getElem?_append_left (by omega)]
      exact bRun_get l frm every room n i hi
    · have : i = n := by omega
      subst this
      rw [List.getElem?_append_right (by omega), hl, Nat.sub_self]
      rfl
theorem actives_nodup {l : List War} (hok : WarnsOk l) (t : Int) : ((actives l t).map War.number).Nodup := by
  show List.Pairwise (· ≠ ·) _
  rw [List.pairwise_map]
  have hp : l.Pairwise fun x y => x.number < y.number := pw_of fun i j x y hij hx hy => numb_mono hok i j x y hij hx hy
  have h2 : (actives l t).Pairwise fun x y => x.number < y.number := hp.sublist (by unfold actives rej; exact List.filter_sublist)
  exact h2.imp fun h => by omega
theorem bRow_take (l : List War) (t room : Int) (rows : List (List Int)) : bRowS l t room rows = (((sOrd l t rows).map (wAt l)).map War.number).take room.toNat := by
  unfold bRowS
  rw [List.map_take, List.map_take]
theorem bRow_mem {l : List War} (hok : WarnsOk l) {t room : Int} {rows : List (List Int)} {x : Int} (h : x ∈ bRowS l t room rows) : x ∈ (actives l t).map War.number := by
  rw [bRow_take] at h
  exact ((sOrd_is hok t rows).1.map War.number).mem_iff.1 (List.mem_of_mem_take h)
theorem bRow_nodup {l : List War} (hok : WarnsOk l) (t room : Int) (rows : List (List Int)) : (bRowS l t room rows).Nodup := by
  rw [bRow_take]
  exact (((sOrd_is hok t rows).1.map War.number).nodup_iff.2 (actives_nodup hok t)).sublist (List.take_sublist _ _)
theorem bRow_len {l : List War} (hok : WarnsOk l) (t room : Int) (rows : List (List Int)) : (bRowS l t room rows).length = min room.toNat (actives l t).length := by
  rw [bRow_take, List.length_take, List.length_map, (sOrd_is hok t rows).1.length_eq]
theorem bOrd_len {l : List War} (hok : WarnsOk l) (t : Int) : (bOrdM l t).length = (actives l t).length := by
  have h : bOrdM l t = ((sOrd l t []).map (wAt l)).map War.number := by
    unfold bOrdM sOrd
    have : cntL l [] = List.replicate l.length 0 := by
      unfold cntL cntN
      simp [List.map_const']
    rw [this]
  rw [h, List.length_map, (sOrd_is hok t []).1.length_eq]
theorem bRow_first (l : List War) (t room : Int) : bRowS l t room [] = (bOrdM l t).take room.toNat := by
  rw [bRow_take]
  unfold bOrdM sOrd
  have : cntL l [] = List.replicate l.length 0 := by
    unfold cntL cntN
    simp [List.map_const']
  rw [this]
theorem nodup_before {x : List Int} (h : x.Nodup) {k : Nat} {v : Int} (hv : x[k]? = some v) : v ∉ x.take k := fun hm => by
  obtain ⟨j, hj⟩ := List.getElem?_of_mem hm
  have hjl := (List.getElem?_eq_some_iff.1 hj).1
  rw [List.length_take] at hjl
  rw [List.getElem?_take, if_pos (by omega)] at hj
  have := (List.getElem?_inj (by have := (List.getElem?_eq_some_iff.1 hj).1; exact this) h).1 (hj.trans hv.symm)
  omega
/-- What broadcasts say. -/
theorem bc_good {l : List War} {f every count room : Int} (h : (bcR l f every count room).2 = 0) : WarnsOk l ∧ (0 ≤ count ∧ count ≤ 48) ∧ (1 ≤ room ∧ room ≤ 32) ∧ (1 ≤ every ∧ every ≤ 10000) ∧ ((bcR l f every count room).1.length : Int) = count ∧
    ∀ (i : Int) x, 0 ≤ i → (bcR l f every count room).1[i.toNat]? = some x → TimeOk (f + every * i) ∧ x.Nodup ∧ (∀ v ∈ x, v ∈ (actives l (f + every * i)).map War.number) ∧ (x.length : Int) = min room (actives l (f + every * i)).length ∧ (i = 0 → x = (bOrdM l f).take room.toNat) := by
  unfold bcR at h ⊢
  split at h
  · rename_i hok
    split at h
    · rename_i ha
      rw [if_pos hok, if_pos ha]
      obtain ⟨h1, h2, h3, h4⟩ := ha
      refine ⟨hok, h2, h3, h1, by simp only [bRun_len]; omega, fun i x hi hx => ?_⟩
      have hlt := (List.getElem?_eq_some_iff.1 hx).1
      simp only [bRun_len] at hlt
      have hx' := bRun_get l f every room count.toNat i.toNat hlt
      simp only at hx
      rw [hx] at hx'
      cases hx'
      have hc : ((i.toNat : Nat) : Int) = i := by omega
      rw [hc]
      obtain ⟨t1, t2⟩ := h4 (by omega)
      have m1 : every * i ≤ every * (count - 1) := Int.mul_le_mul_of_nonneg_left (by omega) (by omega)
      have m0 : 0 ≤ every * i := Int.mul_nonneg (by omega) hi
      refine ⟨by unfold TimeOk at *; omega, bRow_nodup hok _ _ _, fun v hv => bRow_mem hok hv, ?_, fun h0 => ?_⟩
      · rw [bRow_len hok]; omega
      · subst h0
        show bRowS l (f + every * 0) room (bRun l f every room 0) = _
        rw [Int.mul_zero, Int.add_zero]
        exact bRow_first l f room
    · cases h
  · cases h
end Go.Proofs.Ytjenekakcoggpaa
