/- The names of commands: both maps ranged over in whatever order, the names sorted. -/
import Derived.Test.YtlemeenicaidfaaGreatDoorCn1
import Derived.Shelf.SortG.Plain
namespace Go.Proofs.YtlemeenicaidfaaGreatDoor
open Go Go.RowKit Go.Maps Go.WideMaps Go.Sort Go.Proofs
set_option maxRecDepth 100000
set_option maxHeartbeats 2000000
set_option linter.unusedVariables false
set_option linter.unusedSimpArgs false
set_option linter.unusedVariables false
theorem infoS : (Tryz.prog.info? 9).map (fun i => (i.zero, i.size, i.bytes)) = some (some (.string ⟨#[]⟩), 1, 16) := by kernel_rfl
def cmdN : List (List UInt8) := bytesL ["active", "aid", "audit", "away", "cancel", "danger", "day", "due", "duties", "duty", "fault", "help", "list", "notice", "observer", "recognize", "remove", "repair", "seen", "tolerance", "visit", "visited", "warning"]
def SortC : Prop := ∀ (blk off cap : Nat) (ss : List (List UInt8)) (w : World), Holds encStr w blk off ss.toArray → blk < w.heap.size → ss.length < 4611686018427387904 → Calls Tryz.prog 11 #[.slice (some ⟨blk, off, none⟩) ss.length cap] w fun e w' => e = .returned (.tuple #[]) ∧ ∃ n os, w' = grow (putRow encStr (Sort.ahead w n) blk off (ss.mergeSort fun x y => decide (x ≤ y)).toArray) os
structure Keep (p : Prop) : Prop where
  out : p
theorem row_ne_map {H : Type} {P : Program} {k : TypeId} {R : Value → Option (DataW H × List MemPlace)} {w : World} {b n : Nat} {D : DataW H} {base : Nat} {e : TypeId} {size : Nat} {v : Value} {m : Nat} {xs : List Value}
    (h : w.ownsRow base e size v m xs) (hr : w.ownsMap P k R b n D) : some b ≠ v.ownBlock := by
  obtain ⟨_, _, hmap, _⟩ := hr
  rcases h.2 with ⟨rfl, _⟩ | ⟨g, cap, cur, rfl, _, hb, _⟩
  · simp [Value.ownBlock]
  · intro e
    simp [Value.ownBlock] at e
    subst e
    rw [hb] at hmap
    cases hmap
theorem names_sorted {ss tt : List (List UInt8)} (h1 : ss.Perm actN) (h2 : tt.Perm txtN) : (ss ++ tt).mergeSort (fun x y => decide (x ≤ y)) = cmdN := by
  have e := mergeSort_of_perm ((h1.append h2).trans (by decide +kernel : (actN ++ txtN).Perm cmdN))
  exact e.trans (List.mergeSort_of_pairwise (by decide +kernel))
theorem keyS (key : Value) (kl : Lit) (hk : keyOf Tryz.prog 9 key = some kl) : ∃ x, key = encStr x := by
  obtain ⟨x, hx, _⟩ := Maps.keyOf_str Tryz.underlying9 hk
  exact ⟨x, hx⟩
set_option maxHeartbeats 8000000 in
theorem names_calls (hsort : SortC) (w : World) : Calls Tryz.prog 5 #[] w fun e w' => ∃ g cap, e = .returned (.slice (some ⟨g, 0, none⟩) 23 cap) ∧ w'.ownsRow w.heap.size 9 1 (.slice (some ⟨g, 0, none⟩) 23 cap) 23 (cmdN.map encStr) ∧ Below w.heap.size w w' := by
  obtain ⟨i0, hi, hz0, hz1, hz2⟩ := info_parts infoS
  have e1 : (w.alloc (.cells #[] 9)).heap.size = w.heap.size + 1 := by simp
  have hrow0 : (w.alloc (.cells #[] 9)).ownsRow w.heap.size 9 1 (.slice (some ⟨w.heap.size, 0, none⟩) 0 0) 0 [] := World.ownsRow_made (cur := #[]) (cap := 0) w (Nat.le_refl _) (by decide) rfl
  go_enter Tryz.func5, Tryz.ntmps5
  go_wp2_with (first
    | (go_at_call 9; refine (actions_calls _).mono ?_; rintro e w1 ⟨rfl, ⟨D1, hown1, hk1, hs1⟩, hg1⟩; rw [e1] at hown1)
    | (at_range; refine wpList_range_own _ rfl _ 27 rfl 9 37 lawS Tryz.underlying27 _ _ _ _ rfl hown1 ?_; intro w2 hrg hg2 hsz2)
    | go_in)
  go_frame
  have hrow2 := (hrow0.kept hg1 (Or.inr (by simp [Value.ownBlock]))).kept hg2 (Or.inr (by simp [Value.ownBlock]))
  have hb2 : Below w.heap.size w w2 := (((Below.refl _ _).alloc (Nat.le_refl _) _).grown hg1 (by simp) (fun j hj => by cases hj)).grown hg2 (by have := hg1.size; simp at this; omega) (fun j hj => by cases hj)
  go_loopw [1] (fun v wr => ∃ (left : Lit → Bool) (cnt : Nat) (ss : List (List UInt8)), wr.ranges Tryz.prog 9 anyR (w.heap.size + 1) w1.heap.size 16 D1 left cnt ∧ ss.length + cnt ≤ 16 ∧ wr.ownsRow w.heap.size 9 1 v ss.length (ss.map encStr) ∧ v ≠ .slice none 0 0 ∧ Collected D1 left ss ∧ Below w.heap.size w wr) (fun _ wr => wr.rangeLeft (w.heap.size + 1) w1.heap.size)
  case atStart => exact ⟨_, _, [], hrg, by rw [hs1]; simp, hrow2, by simp, Collected.start D1, hb2⟩
  case round =>
    obtain ⟨left, cnt, ss, hrg, hcs, hrow, hnn, hC, hnx⟩ := hrel
    go_wp2_with (first
      | (at_next; refine wpList_next_ranges _ rfl _ rfl 9 lawS anyR encStr id keyS (fun v y hv => ⟨v, rfl⟩) (w.heap.size + 1) w1.heap.size 16 _ _ _ rfl hrg ?_ ?_)
      | go_in)
    · intro hc0 hl0
      have hp1 := hC.perm hrg.owns lawS Tryz.underlying9 hl0
      rw [hk1] at hp1
      clear hrow2 hb2 hrow0
      obtain ⟨B2, hB2⟩ : ∃ B2, B2 = wr.heap.size := ⟨_, rfl⟩
      go_wp2_with (first
        | (go_at_call 10; refine (texts_calls _).mono ?_; rintro e w3 ⟨rfl, ⟨D2, hown2, hk2, hs2⟩, hg3⟩)
        | (at_range; refine wpList_range_own _ rfl _ 29 rfl 9 39 lawS Tryz.underlying29 _ _ _ _ rfl hown2 ?_; intro w4 hrg2 hg4 hsz4)
        | go_in)
      go_frame
      rw [← hB2] at hrg2
      clear hB2
      have hrow4 := (hrow.kept hg3 (Classical.em _)).kept hg4 (Classical.em _)
      have hb4 : Below w.heap.size w w4 := (hnx.grown hg3 hnx.size (fun j hj => by cases hj)).grown hg4 (by have := hnx.size; have := hg3.size; omega) (fun j hj => by cases hj)
      go_loopw [1] (fun v wq => ∃ (left : Lit → Bool) (cnt : Nat) (tt : List (List UInt8)), wq.ranges Tryz.prog 9 anyR B2 w3.heap.size 7 D2 left cnt ∧ tt.length + cnt ≤ 7 ∧ wq.ownsRow w.heap.size 9 1 v (ss.length + tt.length) ((ss ++ tt).map encStr) ∧ v ≠ .slice none 0 0 ∧ Collected D2 left tt ∧ Below w.heap.size w wq) (fun _ wq => wq.rangeLeft B2 w3.heap.size)
      case atStart => exact ⟨_, _, [], hrg2, by rw [hs2]; simp, by simpa using hrow4, hnn, Collected.start D2, hb4⟩
      case round =>
        obtain ⟨left2, cnt2, tt, hrg2, hcs2, hrow2, hnn2, hC2, hnx2⟩ := hrel
        go_wp2_with (first
          | (at_next; refine wpList_next_ranges _ rfl _ rfl 9 lawS anyR encStr id keyS (fun v y hv => ⟨v, rfl⟩) B2 w3.heap.size 7 _ _ _ rfl hrg2 ?_ ?_)
          | go_in)
        · intro hc2 hl2
          have hp2 := hC2.perm hrg2.owns lawS Tryz.underlying9 hl2
          rw [hk2] at hp2
          have n1 : ss.length = 16 := hp1.length_eq
          have n2 : tt.length = 7 := hp2.length_eq
          rcases hrow2.2 with ⟨hnil, _⟩ | ⟨g, cap, cur, rfl, hbase, hb, h1, h2, h3, h4⟩
          · exact absurd hnil hnn2
          have hH := holds_of_block (ss := ss ++ tt) hb (by simpa using h4)
          have hc := hsort g 0 cap (ss ++ tt) _ hH (Array.getElem?_eq_some_iff.1 hb).1 (by simp; omega)
          rw [names_sorted hp1 hp2, List.length_append, n1, n2] at hc
          have hfin : Keep (∀ (nn : Nat) (os : Array Go.Obj), (grow (putRow encStr (Sort.ahead wr nn) g 0 cmdN.toArray) os).ownsRow w.heap.size 9 1 (.slice (some ⟨g, 0, none⟩) 23 cap) 23 (cmdN.map encStr) ∧ Below w.heap.size w (grow (putRow encStr (Sort.ahead wr nn) g 0 cmdN.toArray) os)) := ⟨fun nn os => by
            have hrs := ownsRow_sorted (n := nn) (os := os) (ss := ss ++ tt) (ts := cmdN) (by rw [List.length_append, n1, n2]; rfl) hbase hb (by rw [List.length_append]; exact h1) h2 h3
            rw [List.length_append, n1, n2] at hrs
            exact ⟨hrs, hnx2.grown (grownBy_sorted _) hnx2.size (fun j hj => by cases hj; exact hbase)⟩⟩
          obtain ⟨C, hC0⟩ : ∃ C, C = cmdN.toArray := ⟨_, rfl⟩
          rw [← hC0] at hc hfin
          have hnm : Keep (ss.length + tt.length = 23) := ⟨by rw [n1, n2]⟩
          have hc2 : Calls Tryz.prog 11 #[.slice (some ⟨g, 0, none⟩) (ss.length + tt.length) cap] wr fun e w' => e = .returned (.tuple #[]) ∧ ∃ n os, w' = grow (putRow encStr (Sort.ahead wr n) g 0 C) os := by rw [hnm.out]; exact hc
          clear hc hC0 n1 n2 hp1 hp2 hrg hcs hrow hnn hC hnx hrg2 hcs2 hrow2 hnn2 hC2 hnx2 hl0 hl2 hH hb h1 h2 h3 h4 hbase hown1 hown2 hk1 hk2 hs1 hs2 hg1 hg2 hg3 hg4 hrow4 hb4 hsz4 hsz2
          go_wp2_with (go_at_call 11; refine hc2.mono ?_; rintro e w' ⟨rfl, nn, os, rfl⟩)
          go_ret
          have hf := hfin.out nn os
          exact ⟨g, cap, by rw [hnm.out]; rfl, hf.1, hf.2⟩
        · intro x c kl yd yp w5 cnt5 hkey hlk hv hat hrg5 hlt hg5 hs5 hen
          obtain ⟨x', ex, rfl, _⟩ := Maps.keyOf_str Tryz.underlying9 hkey
          obtain rfl : x = x' := encStr_inj ex
          have hrow5 := hrow2.kept hg5 (Or.inr (row_ne_iter hrow2 hrg2).symm)
          have n1 : ss.length = 16 := hp1.length_eq
          clear hs5
          go_wp2_with (first
            | (at_builtin; refine wpList_append_own _ rfl _ _ 22 rfl w.heap.size 9 i0 (.string ⟨#[]⟩) 1 16 Tryz.underlying22 hi hz0 hz1 hz2 rfl (by decide) _ _ _ rfl (hrow5.alloc _) ⟨w5.heap.size, 0, none⟩ 1 1 [encStr x] rfl rfl (cell_one_new _ _ _) (by simp [Value.oneCell', encStr]) (by unfold maxLen; omega) (by omega) (by have := hnx2.size; have := hg5.size; simp; omega) ?_; intro v' w6 hown' hg6 hnil6; go_frame)
            | go_in)
          have hrg6 := (hrg5.alloc _).kept hg6 (row_ne_map hrow5 hrg5.owns) (row_ne_iter hrow5 hrg5)
          go_roundw
          case rel =>
            refine ⟨_, cnt5, tt ++ [x], hrg6, by simp; omega, by simpa [Nat.add_assoc] using hown', fun hv' => by have := (hnil6.1 hv').2; omega, hC2.step hlk hat, ?_⟩
            exact ((hnx2.grown hg5 hnx2.size (fun j hj => by cases hj; have := hnx.size; have := hg3.size; omega)).alloc (by have := hnx2.size; have := hg5.size; omega) _).grown hg6 (by have := hnx2.size; have := hg5.size; simp; omega) (fun j hj => (hrow5.lt j hj).1)
          case measure => rw [hrg6.left_eq, hrg2.left_eq]; exact hlt
    · intro x c kl yd yp w3 cnt3 hkey hlk hv hat hrg3 hlt hg3 hs3 hen
      obtain ⟨x', ex, rfl, _⟩ := Maps.keyOf_str Tryz.underlying9 hkey
      obtain rfl : x = x' := encStr_inj ex
      have hrow3 := hrow.kept hg3 (Or.inr (row_ne_iter hrow hrg).symm)
      clear hs3
      go_wp2_with (first
        | (at_builtin; refine wpList_append_own _ rfl _ _ 22 rfl w.heap.size 9 i0 (.string ⟨#[]⟩) 1 16 Tryz.underlying22 hi hz0 hz1 hz2 rfl (by decide) _ _ _ rfl (hrow3.alloc _) ⟨w3.heap.size, 0, none⟩ 1 1 [encStr x] rfl rfl (cell_one_new _ _ _) (by simp [Value.oneCell', encStr]) (by unfold maxLen; omega) (by omega) (by have := hnx.size; have := hg3.size; simp; omega) ?_; intro v' w4 hown' hg4 hnil4; go_frame)
        | go_in)
      have hrg4 := (hrg3.alloc _).kept hg4 (row_ne_map hrow3 hrg3.owns) (row_ne_iter hrow3 hrg3)
      go_roundw
      case rel =>
        refine ⟨_, cnt3, ss ++ [x], hrg4, by simp; omega, by simpa using hown', fun hv' => by have := (hnil4.1 hv').2; omega, hC.step hlk hat, ?_⟩
        exact ((hnx.grown hg3 hnx.size (fun j hj => by cases hj; have := hg1.size; simp at this; omega)).alloc (by have := hnx.size; have := hg3.size; omega) _).grown hg4 (by have := hnx.size; have := hg3.size; simp; omega) (fun j hj => (hrow3.lt j hj).1)
      case measure => rw [hrg4.left_eq, hrg.left_eq]; exact hlt
theorem sortC : SortC := fun blk off cap ss w hH hb hl => AnyG.slices_Sort_string Tryz.sortS blk off cap ss w hH hb hl
end Go.Proofs.YtlemeenicaidfaaGreatDoor
