/- slices.Insert of one aid into a list of aids, at the level of the model: its roads. DRAFT. -/
import Derived.Test.YthiecdiiindegaaGreatDoorInr
import Derived.Shelf.Spec.SlicesInsertGrow
namespace Go.Proofs.YthiecdiiindegaaGreatDoor
set_option linter.unusedVariables false
set_option linter.unusedSimpArgs false
open Go Go.RowKit Go.Shelf Go.Lib

set_option maxHeartbeats 8000000 in
set_option maxRecDepth 100000 in
/-- In place: s has room for one more and i < len(s). -/
theorem insert_shiftW (n c i vc : Nat) (b vb : Nat) (T Tv : TypeId) (cur cv : Array Value) (w : World) (hi : i < n) (hroom : n + 1 ≤ c) (hc : c * 8 ≤ cur.size) (hcv : 8 ≤ cv.size) (hvb : vb ≠ b) (hn63 : n + 1 ≤ 140737488355328)
    (hb : w.heap[b]? = some (.cells cur T (0, 0))) (hv : w.heap[vb]? = some (.cells cv Tv (0, 0))) (h1 : ∀ j, j < n * 8 → (cur.getD j undef).oneCell' = true) (h1v : ∀ j, j < 8 → (cv.getD j undef).oneCell' = true)
    (mid fin : List Value) (hmid : mid = (cur.toList.drop (i * 8)).take ((n - i) * 8)) (hfin : fin = cv.toList.take 8) :
    Calls Tryz.prog 23 #[.slice (some ⟨b, 0, none⟩) n c, .int .i64 i, .slice (some ⟨vb, 0, none⟩) 1 vc] w fun e w' =>
      e = .returned (.slice (some ⟨b, 0, none⟩) (n + 1) c) ∧ w' = (w.drew.setRow b (spliceV cur ((i + 1) * 8) mid)).setRow b (spliceV (spliceV cur ((i + 1) * 8) mid) (i * 8) fin) := by
  have t3 := Tryz.underlying3; have z3 := Tryz.sizeOf3; have t4 := Tryz.underlying4; have z4 := Tryz.sizeOf4
  have tS := Tryz.underlying24; have zS := Tryz.sizeOf24; have zA := Tryz.sizeOf28; have aA := Tryz.isAgg28
  have u3 := run_underlying t3; have u4 := run_underlying t4; have uS := run_underlying tS
  have mixed := mixedP
  have hml : mid.length = (n - i) * 8 := by rw [hmid, List.length_take, List.length_drop, Array.length_toList]; omega
  have hfl : fin.length = 1 * 8 := by rw [hfin, List.length_take, Array.length_toList]; omega
  have hz1 : ¬ ((1 : Int) = 0) := by omega
  have hz2 : ¬ ((i : Int) = (n : Int)) := by omega
  have hsa : w.shape? vb = some (Tv, cv.size) := by simp [World.shape?, hv]
  have hsb : w.shape? b = some (T, cur.size) := by simp [World.shape?, hb]
  have hov : ∀ lb cb, (callFunc 54 #[.slice (some ⟨vb, 0, none⟩) 1 vc, .slice (some ⟨b, (i + 1) * 8, none⟩) lb cb]).run Tryz.prog w = .ok (.value (.bool false)) w := fun lb cb => by
    rw [run_callFunc_extern Tryz.func54 (by kernel_rfl) (by kernel_rfl) (by kernel_rfl) (e := Extern.SlicesOverlaps.overlaps #[24, 24] #[4]) (by kernel_rfl),
      Lib.run_overlaps_apart w 24 4 28 tS 8 zA ⟨vb, 0, none⟩ ⟨b, (i + 1) * 8, none⟩ 1 vc lb cb hvb Tv T cv.size cur.size hsa hsb (by omega) (by simp [World.frozen?, hv]) (by simp [World.frozen?, hv])]
    rfl
  have hcp1 : ∀ ty dc sc, (Builtin.copy_ #[24, 24] ty #[.slice (some ⟨b, (i + 1) * 8, none⟩) (n - i) dc, .slice (some ⟨b, i * 8, none⟩) (n + 1 - i) sc]).run Tryz.prog w.drew = .ok (goInt ((n - i : Nat) : Int)) (w.drew.setRow b (spliceV cur ((i + 1) * 8) mid)) := fun ty dc sc => by
    refine run_copyK w.drew tS zA b _ _ dc cur hb ⟨b, i * 8, none⟩ _ sc (n - i) mid (by simp only [Nat.min_def]; split <;> omega) hml (fun j v hj => ?_) (by omega) (fun v hv => ?_)
    · obtain ⟨_, h2, h3⟩ := part_at (hmid ▸ hj)
      rw [Addr.add_lit, h3]; exact cell_of_row hb h2
    · obtain ⟨j, hj⟩ := List.getElem?_of_mem hv
      obtain ⟨h2, _, h3⟩ := part_at (hmid ▸ hj)
      rw [h3]; exact h1 _ (by omega)
  have hsz1 : (spliceV cur ((i + 1) * 8) mid).size = cur.size := spliceV_size (by omega)
  obtain ⟨W1, hW1⟩ : ∃ W1, W1 = w.drew.setRow b (spliceV cur ((i + 1) * 8) mid) := ⟨_, rfl⟩
  have hb1 : W1.heap[b]? = some (.cells (spliceV cur ((i + 1) * 8) mid) T (0, 0)) := by rw [hW1]; exact setRow_heap w.drew b cur _ T _ hb
  have hv1 : W1.heap[vb]? = some (.cells cv Tv (0, 0)) := by
    rw [hW1]
    show (w.heap.modify b _)[vb]? = _
    rw [Array.getElem?_modify, if_neg (Ne.symm hvb), hv]
  have hcp2 : ∀ ty dc, (Builtin.copy_ #[24, 24] ty #[.slice (some ⟨b, i * 8, none⟩) (n + 1 - i) dc, .slice (some ⟨vb, 0, none⟩) 1 vc]).run Tryz.prog W1 = .ok (goInt ((1 : Nat) : Int)) (W1.setRow b (spliceV (spliceV cur ((i + 1) * 8) mid) (i * 8) fin)) := fun ty dc => by
    refine run_copyK W1 tS zA b _ _ dc _ hb1 ⟨vb, 0, none⟩ 1 vc 1 fin (by simp only [Nat.min_def]; split <;> omega) hfl (fun j v hj => ?_) (by omega) (fun v hv => ?_)
    · obtain ⟨_, h2, h3⟩ := part_at (o := 0) (by rw [List.drop_zero]; exact hfin ▸ hj)
      rw [Addr.add_lit, h3]; exact cell_of_row hv1 h2
    · obtain ⟨j, hj⟩ := List.getElem?_of_mem hv
      obtain ⟨h2, _, h3⟩ := part_at (o := 0) (by rw [List.drop_zero]; exact hfin ▸ hj)
      rw [h3]; exact h1v _ (by omega)
  rw [← hW1] at hcp1 ⊢
  have hw1 : IntKind.i64.wrap ((i : Int) + 1) = (i : Int) + 1 := by rw [IntKind.wrap_i64]; omega
  have hw2 : IntKind.i64.wrap ((n : Int) + 1) = (n : Int) + 1 := by rw [IntKind.wrap_i64]; omega
  have hb1' : (0 : Int) ≤ (i : Int) + 1 := by omega
  have hin : i ≤ n := by omega
  have htn : ((i : Int) + 1).toNat = i + 1 := by omega
  have htn2 : ((n : Int) + 1).toNat = n + 1 := by omega
  have hb2 : ¬ (c = i + 1) := by omega
  have hb3 : (i : Int) ≤ (n : Int) + 1 := by omega
  have hb4 : ¬ (c = i) := by omega
  clear hmid hfin hsz1 hb1 hv1 hml hfl h1 h1v hsa hsb hW1
  go_enter Tryz.func23, Tryz.ntmps23
  go_wp2_with (simp only [hov])
  go_region_law_o (refine step_copy_runI rfl _ _ 24 24 rfl _ _ (by simp [Act.eval, Act.put]) (by simp [Act.eval, Act.put]) (hcp1 _ _ _) ?_)
  go_wp2_with (at_builtin; refine wpList_copy_runI _ rfl _ _ 24 24 rfl _ _ rfl rfl (hcp2 _ _) ?_)
  go_ret
  exact ⟨rfl, rfl⟩

set_option maxHeartbeats 8000000 in
set_option maxRecDepth 100000 in
/-- At the end: what 'append' does. -/
theorem insert_endW (n c vc : Nat) (base : Option Addr) (vb : Nat) (w w1 : World) (r : Value) (hb : ∀ a, base = some a → a.spot = none) (hnc : n ≤ c) (hnil : base = none → n = 0 ∧ c = 0)
    (hrun : ∀ ty, (Builtin.append_ #[24, 24] ty #[.slice base n c, .slice (some ⟨vb, 0, none⟩) 1 vc]).run Tryz.prog w = .ok r w1) :
    Calls Tryz.prog 23 #[.slice base n c, .int .i64 n, .slice (some ⟨vb, 0, none⟩) 1 vc] w fun e w' => e = .returned r ∧ w' = w1 := by
  have t3 := Tryz.underlying3; have z3 := Tryz.sizeOf3; have t4 := Tryz.underlying4; have z4 := Tryz.sizeOf4
  have tS := Tryz.underlying24; have zS := Tryz.sizeOf24; have zA := Tryz.sizeOf28; have aA := Tryz.isAgg28
  have u3 := run_underlying t3; have u4 := run_underlying t4; have uS := run_underlying tS
  have mixed := mixedP
  have hz1 : ¬ ((1 : Int) = 0) := by omega
  cases base with
  | none =>
    obtain ⟨h0, h00⟩ := hnil rfl
    subst h0 h00
    go_enter Tryz.func23, Tryz.ntmps23
    go_wp2_with (at_builtin; refine Lib.wpList_append_run _ rfl _ _ _ _ rfl _ _ rfl rfl _ _ (hrun _) ?_)
    go_ret
    exact ⟨rfl, rfl⟩
  | some a =>
    obtain ⟨ab, ao, asp⟩ := a
    have hs := hb _ rfl
    simp only at hs
    subst hs
    go_enter Tryz.func23, Tryz.ntmps23
    go_wp2_with (at_builtin; refine Lib.wpList_append_run _ rfl _ _ _ _ rfl _ _ rfl rfl _ _ (hrun _) ?_)
    all_goals (go_ret; exact ⟨rfl, rfl⟩)

set_option maxHeartbeats 8000000 in
set_option maxRecDepth 100000 in
/-- No room, i < len(s): a new row. -/
theorem insert_growW (n c i vc : Nat) (b vb : Nat) (T Tv : TypeId) (cur cv : Array Value) (w : World) (z : Value) (i0 : TypeInfo) (hi0 : Tryz.prog.info? 28 = some i0) (hz0 : i0.zero = some z) (hzs : i0.size = 8) (hzc : z.cells.size = 8)
    (hi : i < n) (hnc : n ≤ c) (hroom : c < n + 1) (hbig : (n + 1) * i0.bytes ≤ 140737488355328) (hn63 : n + 1 ≤ 140737488355328) (hc : c * 8 ≤ cur.size) (hcv : 8 ≤ cv.size)
    (hb : w.heap[b]? = some (.cells cur T (0, 0))) (hv : w.heap[vb]? = some (.cells cv Tv (0, 0))) (h1 : ∀ j, j < n * 8 → (cur.getD j undef).oneCell' = true) (h1v : ∀ j, j < 8 → (cv.getD j undef).oneCell' = true)
    (mid fin : List Value) (hmid : mid = (cur.toList.drop (i * 8)).take ((n - i) * 8)) (hfin : fin = cv.toList.take 8)
    (G : Nat) (hG : G = grownCap w (n + 1) c 28) (ROW : Array Value) (hROW : ROW = ((cur.toList.drop 0).take (i * 8)).toArray ++ Builtin.zeroCells z.cells (n + 1 - i) ++ Builtin.zeroCells z.cells (G - (n + 1))) :
    Calls Tryz.prog 23 #[.slice (some ⟨b, 0, none⟩) n c, .int .i64 i, .slice (some ⟨vb, 0, none⟩) 1 vc] w fun e w' =>
      e = .returned (.slice (some ⟨w.heap.size, 0, none⟩) (n + 1) G) ∧ w' = (((w.drew.alloc (.cells ROW 28)).setRow w.heap.size (spliceV ROW (i * 8) fin)).drew).setRow w.heap.size (spliceV (spliceV ROW (i * 8) fin) ((i + 1) * 8) mid) := by
  have t3 := Tryz.underlying3; have z3 := Tryz.sizeOf3; have t4 := Tryz.underlying4; have z4 := Tryz.sizeOf4
  have tS := Tryz.underlying24; have zS := Tryz.sizeOf24; have zA := Tryz.sizeOf28; have aA := Tryz.isAgg28
  have u3 := run_underlying t3; have u4 := run_underlying t4; have uS := run_underlying tS
  have mixed := mixedP
  have hml : mid.length = (n - i) * 8 := by rw [hmid, List.length_take, List.length_drop, Array.length_toList]; omega
  have hfl : fin.length = 1 * 8 := by rw [hfin, List.length_take, Array.length_toList]; omega
  have hbw : b < w.heap.size := (Array.getElem?_eq_some_iff.1 hb).1
  have hvw : vb < w.heap.size := (Array.getElem?_eq_some_iff.1 hv).1
  have hpl : ((cur.toList.drop 0).take (i * 8)).length = i * 8 := by rw [List.length_take, List.length_drop, Array.length_toList]; omega
  have hold : (Builtin.firstCells i0.size i (.slice (some ⟨b, 0, none⟩) i c)).run Tryz.prog w.drew = .ok ((cur.toList.drop 0).take (i * 8)).toArray w.drew := by
    refine run_firstCells_some w.drew i0.size i ⟨b, 0, none⟩ i c _ (by rw [hpl, hzs]) (fun j v hj => ?_)
    obtain ⟨_, h2, h3⟩ := part_at hj
    rw [Addr.add_lit, h3]; exact cell_of_row (w := w) hb h2
  have hkk : (n : Int) + 1 - (i : Int) = ((n + 1 - i : Nat) : Int) := by omega
  have hik : i + (n + 1 - i) = n + 1 := by omega
  have hfit := growslice_fits hroom hbig
  have hrz : ∀ ty, (Builtin.append_ #[24, 3] ty #[.slice (some ⟨b, 0, none⟩) i c, .int .i64 ((n : Int) + 1 - (i : Int))]).run Tryz.prog w =
      .ok (.slice (some ⟨w.heap.size, 0, none⟩) (n + 1) G) (w.drew.alloc (.cells ROW 28)) := fun ty => by
    have h := Lib.run_append_grow_zeros w 24 3 ty 28 i0 z .i64 .i64 tS t3 hi0 hz0 (some ⟨b, 0, none⟩) i c _ hold (n + 1 - i) (by omega) (by omega) (by omega) (by omega) (by
      have : (n + 1 - i) * i0.bytes ≤ (n + 1) * i0.bytes := Nat.mul_le_mul_right _ (by omega)
      omega) (by rw [hik]; exact hfit)
    rw [hik, ← hG, ← hROW] at h
    rw [hkk]
    exact h
  have hGn : n + 1 ≤ G := by rw [hG]; exact grownCap_ge w _ _ _
  have hG63 : G ≤ 9223372036854775807 := by
    have := grownCap_le_maxLen w (n + 1) c 28 (by unfold maxLen; omega)
    rw [← hG] at this
    unfold maxLen at this
    omega
  have hRs : ROW.size = G * 8 := by
    rw [hROW]
    simp only [Array.size_append, List.size_toArray, hpl, size_zeroCells, hzc]
    omega
  obtain ⟨W1, hW1⟩ : ∃ W1, W1 = w.drew.alloc (.cells ROW 28) := ⟨_, rfl⟩
  obtain ⟨h, hh⟩ : ∃ h, h = w.heap.size := ⟨_, rfl⟩
  have hN1 : W1.heap[h]? = some (.cells ROW 28 (0, 0)) := by rw [hW1, hh]; exact heap_alloc_new w.drew _
  have hb1 : W1.heap[b]? = some (.cells cur T (0, 0)) := by rw [hW1]; exact (Below.heap_alloc w.drew _ b hbw).trans hb
  have hv1 : W1.heap[vb]? = some (.cells cv Tv (0, 0)) := by rw [hW1]; exact (Below.heap_alloc w.drew _ vb hvw).trans hv
  have hcpA : ∀ ty dc, (Builtin.copy_ #[24, 24] ty #[.slice (some ⟨h, i * 8, none⟩) (n + 1 - i) dc, .slice (some ⟨vb, 0, none⟩) 1 vc]).run Tryz.prog W1 = .ok (goInt ((1 : Nat) : Int)) (W1.setRow h (spliceV ROW (i * 8) fin)) := fun ty dc => by
    refine run_copyK W1 tS zA h _ _ dc _ hN1 ⟨vb, 0, none⟩ 1 vc 1 fin (by simp only [Nat.min_def]; split <;> omega) hfl (fun j v hj => ?_) (by omega) (fun v hv => ?_)
    · obtain ⟨_, h2, h3⟩ := part_at (o := 0) (by rw [List.drop_zero]; exact hfin ▸ hj)
      rw [Addr.add_lit, h3]; exact cell_of_row hv1 h2
    · obtain ⟨j, hj⟩ := List.getElem?_of_mem hv
      obtain ⟨h2, _, h3⟩ := part_at (o := 0) (by rw [List.drop_zero]; exact hfin ▸ hj)
      rw [h3]; exact h1v _ (by omega)
  have hsz1 : (spliceV ROW (i * 8) fin).size = ROW.size := spliceV_size (by omega)
  obtain ⟨W2, hW2⟩ : ∃ W2, W2 = W1.setRow h (spliceV ROW (i * 8) fin) := ⟨_, rfl⟩
  have hN2 : W2.drew.heap[h]? = some (.cells (spliceV ROW (i * 8) fin) 28 (0, 0)) := by rw [hW2]; exact setRow_heap W1 h ROW _ _ _ hN1
  have hb2 : W2.drew.heap[b]? = some (.cells cur T (0, 0)) := by
    rw [hW2]
    show (W1.heap.modify h _)[b]? = _
    rw [Array.getElem?_modify, if_neg (by omega), hb1]
  have hcpB : ∀ ty dc sc, (Builtin.copy_ #[24, 24] ty #[.slice (some ⟨h, (i + 1) * 8, none⟩) (n - i) dc, .slice (some ⟨b, i * 8, none⟩) (n - i) sc]).run Tryz.prog W2.drew = .ok (goInt ((n - i : Nat) : Int)) (W2.drew.setRow h (spliceV (spliceV ROW (i * 8) fin) ((i + 1) * 8) mid)) := fun ty dc sc => by
    refine run_copyK W2.drew tS zA h _ _ dc _ hN2 ⟨b, i * 8, none⟩ _ sc (n - i) mid (by simp) hml (fun j v hj => ?_) (by omega) (fun v hv => ?_)
    · obtain ⟨_, h2, h3⟩ := part_at (hmid ▸ hj)
      rw [Addr.add_lit, h3]; exact cell_of_row hb2 h2
    · obtain ⟨j, hj⟩ := List.getElem?_of_mem hv
      obtain ⟨h2, _, h3⟩ := part_at (hmid ▸ hj)
      rw [h3]; exact h1 _ (by omega)
  rw [← hW2] at hcpA
  rw [← hW1, ← hh] at hrz ⊢
  rw [← hW2]
  have hw1 : IntKind.i64.wrap ((i : Int) + 1) = (i : Int) + 1 := by rw [IntKind.wrap_i64]; omega
  have hw2 : IntKind.i64.wrap ((n : Int) + 1) = (n : Int) + 1 := by rw [IntKind.wrap_i64]; omega
  have hw3 : IntKind.i64.wrap ((n : Int) + 1 - (i : Int)) = (n : Int) + 1 - (i : Int) := by rw [IntKind.wrap_i64]; omega
  have hb1' : (0 : Int) ≤ (i : Int) + 1 := by omega
  have hin : i ≤ n := by omega
  have htn : ((i : Int) + 1).toNat = i + 1 := by omega
  have hz1 : ¬ ((1 : Int) = 0) := by omega
  have hz2 : ¬ ((i : Int) = (n : Int)) := by omega
  have hGi : ¬ (G = i) := by omega
  have hGi1 : ¬ (G = i + 1) := by omega
  have hci : ¬ (c = i) := by omega
  have hb3 : (i : Int) ≤ (n : Int) + 1 := by omega
  clear hh hmid hfin hsz1 hN1 hN2 hb1 hb2 hv1 hml hfl h1 h1v hW1 hW2 hROW hG hold hkk hik hfit hRs hpl hzc hzs hz0 hi0 hbig
  go_enter Tryz.func23, Tryz.ntmps23
  go_wp2_with (first
    | (at_builtin; refine Lib.wpList_append_run _ rfl _ _ _ _ rfl _ _ rfl rfl _ _ (hrz _) ?_)
    | (at_builtin; refine wpList_copy_runI _ rfl _ _ 24 24 rfl _ _ rfl rfl (hcpA _ _) ?_)
    | (at_builtin; refine wpList_copy_runI _ rfl _ _ 24 24 rfl _ _ rfl rfl (hcpB _ _ _) ?_))
  go_region_law_o (refine step_copy_runI rfl _ _ 24 24 rfl _ _ (by simp [Act.eval, Act.put]) (by simp [Act.eval, Act.put]) (hcpB _ _ _) ?_)
  go_wp2
  go_ret
  exact ⟨rfl, rfl⟩
end Go.Proofs.YthiecdiiindegaaGreatDoor
