/- The contract of slices.Insert of one aid. DRAFT. -/
import Derived.Test.YthiecdiiindegaaGreatDoorInsW
import Derived.Test.YthiecdiiindegaaGreatDoorInr
import Derived.Test.YthiecdiiindegaaGreatDoorInkW
namespace Go.Proofs.YthiecdiiindegaaGreatDoor
set_option linter.unusedVariables false
set_option linter.unusedSimpArgs false
open Go Go.RowKit Go.Shelf Go.Lib
theorem aidInfoW : ∃ i0 z, Tryz.prog.info? 28 = some i0 ∧ i0.zero = some z ∧ i0.size = 8 ∧ z.cells.size = 8 ∧ i0.bytes ≤ 1000 := by
  obtain ⟨i0, hi0⟩ : ∃ i0, Tryz.prog.info? 28 = some i0 := Option.isSome_iff_exists.1 (by kernel_rfl)
  have h1 : (Tryz.prog.info? 28).map (·.size) = some 8 := by kernel_rfl
  have h2 : (Tryz.prog.info? 28).map (fun i => i.zero.map (·.cells.size)) = some (some 8) := by kernel_rfl
  have h3 : (Tryz.prog.info? 28).map (fun i => decide (i.bytes ≤ 1000)) = some true := by kernel_rfl
  rw [hi0] at h1 h2 h3
  simp only [Option.map_some, Option.some.injEq] at h1 h2 h3
  cases hz : i0.zero with
  | none => rw [hz] at h2; cases h2
  | some z => rw [hz] at h2; exact ⟨i0, z, hi0, hz, h1, by simpa using h2, of_decide_eq_true h3⟩
theorem insW_ {es : List (List AV)} {e : List AV} {i : Int} (hi : 0 ≤ i ∧ i ≤ es.length) (hbl : es.length ≤ 1048576) (hnb : NoB (.sl true 8 (es.take i.toNat ++ e :: es.drop i.toNat))) :
    ACM Tryz.prog 23 [.sl true 8 es, .int .i64 i, .sl true 8 [e]] (fun r ys => r = .sl true 8 (es.take i.toNat ++ e :: es.drop i.toNat) ∧ ys = [.any, .any, .any]) := by
  refine ⟨fun args w => enters_go Tryz.func23 (by kernel_rfl) rfl args w, fun w A vs F hg hX hA hFs hNG => ?_⟩
  cases hX with
  | pure _ _ _ _ ho _ => simp [AV.isOwn] at ho
  | tup _ _ _ G hn hc hFe hd =>
    obtain ⟨v0, v1, v2, rfl⟩ : ∃ v0 v1 v2, vs = #[v0, v1, v2] := by
      match vs, hn with
      | ⟨[a, b, c]⟩, _ => exact ⟨a, b, c, rfl⟩
    have h0 : XRel w A (.sl true 8 es) v0 (G 0) := hc 0 _ rfl
    have h1 : XRel w A (.int .i64 i) v1 (G 1) := hc 1 _ rfl
    have h2 : XRel w A (.sl true 8 [e]) v2 (G 2) := hc 2 _ rfl
    obtain rfl : v1 = .int .i64 i := by
      cases h1 with
      | pure _ _ _ hr _ _ => cases hr; rfl
    have F0 : ∀ x, G 0 x → F x := fun x hx => (hFe x).2 ⟨0, by simp, hx⟩
    have F2 : ∀ x, G 2 x → F x := fun x hx => (hFe x).2 ⟨2, by simp, hx⟩
    have D02 : ∀ x, G 0 x → ¬ G 2 x := fun x h h' => by have := hd 0 2 x (by simp) (by simp) h h'; omega
    rcases own_row h2 with ⟨h, _⟩ | ⟨vc, vb, Tv, cv, H, rfl, hv, _, hvc1, hvsz, hek, h1v, hrv, hFv, hv0, hvd⟩
    · cases h
    have he : e.length = 8 := hek e (by simp)
    have HG2 : ∀ j x, j < 8 → H 0 j x → G 2 x := fun j x hj h => (hFv x).2 (.inr ⟨0, j, by simp, hj, h⟩)
    have hm : i.toNat ≤ es.length := by omega
    have fin : ∀ (w' : World) (b' cap' : Nat) (c' cur : Array Value) (T : TypeId) (G0 : Nat → Nat → Nat → Prop), Keeps (fun x => x = b') w w' → (G 0 b' ∨ w.heap.size ≤ b') → (∀ x ∈ es, x.length = 8) →
        (∀ (i j : Nat) x a, es[i]? = some x → x[j]? = some a → XRel w A a (cur.getD (i * 8 + j) undef) (G0 i j)) → (∀ i j, i < es.length → j < 8 → (cur.getD (i * 8 + j) undef).oneCell' = true) →
        (∀ i j i' j' x, i < es.length → j < 8 → i' < es.length → j' < 8 → G0 i j x → G0 i' j' x → i = i' ∧ j = j') → (∀ i j x, i < es.length → j < 8 → G0 i j x → G 0 x) → (∀ i j, i < es.length → j < 8 → ¬ G0 i j b') →
        w'.heap[b']? = some (.cells c' T (0, 0)) → es.length + 1 ≤ cap' → cap' * 8 ≤ c'.size →
        (∀ m j, m < es.length + 1 → j < 8 → c'.getD (m * 8 + j) undef = if m < i.toNat then cur.getD (m * 8 + j) undef else if m = i.toNat then cv.getD j undef else cur.getD ((m - 1) * 8 + j) undef) →
        ∃ v G r args', (r = AV.sl true 8 (es.take i.toNat ++ e :: es.drop i.toNat) ∧ args' = [AV.any, .any, .any]) ∧ Ending.returned (.slice (some ⟨b', 0, none⟩) (es.length + 1) cap') = .returned v ∧ Keeps F w w' ∧ XRel w' (fun _ => False) (.tup (r :: args')) (.tuple (#[v] ++ #[v0, .int .i64 i, .slice (some ⟨vb, 0, none⟩) [e].length vc])) G ∧ ∀ b, G b → F b ∨ w.heap.size ≤ b ∧ b < w'.heap.size := by
      intro w' b' cap' c' cur T G0 hkp hb0 hk hr0 h1c hd0 hG00 hgb hb' hcap hsz hcc
      have hlt : b' < w'.heap.size := (Array.getElem?_eq_some_iff.1 hb').1
      have hx := XRel.ins (w := w) (w' := w') (A := A) (H := H 0) (cv := cv) hm hk he hr0 (fun j a ha => by have := hrv 0 j e a rfl ha; rwa [Nat.zero_mul, Nat.zero_add] at this) h1c (fun j hj => by have := h1v 0 j (by simp) hj; rwa [Nat.zero_mul, Nat.zero_add] at this) hd0
        (fun j j' x hj hj' h h' => (hvd 0 j 0 j' x (by simp) hj (by simp) hj' h h').2) (fun i j j' x hi hj hj' h h' => D02 x (hG00 i j x hi hj h) (HG2 j' x hj' h')) hb' (by unfold maxLen; omega) hcap hsz hcc
        (fun x hx => by
          rcases hx with h | ⟨i, j, hi, hj, h⟩ | ⟨j, hj, h⟩
          · refine hkp.block x (hA x h).1 fun hxb => ?_
            subst hxb
            rcases hb0 with h' | h'
            · exact (hA _ h).2 (F0 _ h')
            · have := (hA _ h).1; omega
          · exact hkp.block x (hFs _ (F0 _ (hG00 i j x hi hj h))) fun hxb => hgb i j hi hj (hxb ▸ h)
          · refine hkp.block x (hFs _ (F2 _ (HG2 j x hj h))) fun hxb => ?_
            subst hxb
            rcases hb0 with h' | h'
            · exact D02 _ h' (HG2 j _ hj h)
            · have := hFs _ (F2 _ (HG2 j _ hj h)); omega)
        hgb (fun j hj h => by
          rcases hb0 with h' | h'
          · exact D02 _ h' (HG2 j _ hj h)
          · have := hFs _ (F2 _ (HG2 j _ hj h)); omega)
      refine ⟨_, fun x => x = b' ∨ (∃ i j, i < es.length ∧ j < 8 ∧ G0 i j x) ∨ ∃ j, j < 8 ∧ H 0 j x, _, _, ⟨rfl, rfl⟩, rfl, ?_, ?_, fun x hx => ?_⟩
      · refine ⟨hkp.os, hkp.tape, hkp.output, hkp.size, fun x hx hnf => hkp.block x hx fun hxb => ?_, hkp.frz, hkp.drawn⟩
        subst hxb
        rcases hb0 with h' | h'
        · exact hnf (F0 _ h')
        · omega
      · refine .tup _ _ _ (fun m x => m = 0 ∧ (x = b' ∨ (∃ i j, i < es.length ∧ j < 8 ∧ G0 i j x) ∨ ∃ j, j < 8 ∧ H 0 j x)) rfl (fun m a ha => ?_) (fun x => ⟨fun h => ⟨0, by simp, rfl, h⟩, fun ⟨_, _, _, h⟩ => h⟩) (fun m m' x _ _ h h' => by rw [h.1, h'.1])
        match m, ha with
        | 0, ha => cases ha; exact (hx.noB hnb).congr fun x => ⟨fun h => h.2, fun h => ⟨rfl, h⟩⟩
        | 1, ha => cases ha; exact .pure _ _ _ (.any _) rfl fun x h => absurd h.1 (by decide)
        | 2, ha => cases ha; exact .pure _ _ _ (.any _) rfl fun x h => absurd h.1 (by decide)
        | 3, ha => cases ha; exact .pure _ _ _ (.any _) rfl fun x h => absurd h.1 (by decide)
        | m + 4, ha => simp at ha
      · rcases hx with rfl | ⟨i, j, hi, hj, h⟩ | ⟨j, hj, h⟩
        · rcases hb0 with h' | h'
          · exact .inl (F0 _ h')
          · exact .inr ⟨h', hlt⟩
        · exact .inl (F0 _ (hG00 i j x hi hj h))
        · exact .inl (F2 _ (HG2 j x hj h))
    obtain ⟨q, rfl⟩ : ∃ q : Nat, i = q := ⟨i.toNat, by omega⟩
    rw [Int.toNat_natCast] at fin hm
    have hq : q ≤ es.length := hm
    have hvb : ∀ b, G 0 b → vb ≠ b := fun b h hvb => D02 b h ((hFv b).2 (.inl hvb.symm))
    have h1v' : ∀ j, j < 8 → (cv.getD j undef).oneCell' = true := fun j hj => by have := h1v 0 j (by simp) hj; rwa [Nat.zero_mul, Nat.zero_add] at this
    have hvc16 : 8 ≤ cv.size := by simp at hvc1; omega
    obtain ⟨i0, z, hi0, hz0, hzs, hzc, hby⟩ := aidInfoW
    obtain ⟨fi, hfi⟩ : ∃ fi, fi = cv.toList.take 8 := ⟨_, rfl⟩
    have hfl : fi.length = 8 := fi_lenW hvc16 hfi
    have hfc : ∀ j u, fi[j]? = some u → w.cell? ((⟨vb, 0, none⟩ : Addr).add j) = some u := fun j u hj => by
      obtain ⟨_, h2, h3⟩ := part_at (o := 0) (by rw [List.drop_zero]; exact hfi ▸ hj)
      rw [Addr.add_lit, h3]; exact cell_of_row hv h2
    have hf1 : ∀ u ∈ fi, u.oneCell' = true := fun u hu => by
      obtain ⟨j, hj⟩ := List.getElem?_of_mem hu
      obtain ⟨h2, _, h3⟩ := part_at (o := 0) (by rw [List.drop_zero]; exact hfi ▸ hj)
      rw [h3, Nat.zero_add]; exact h1v' j h2
    have hbyt : ∀ n, n ≤ 1048577 → n * i0.bytes ≤ 1048577000 := fun n hn => by
      have := Nat.mul_le_mul hn hby
      exact Nat.le_trans this (by decide)
    rcases own_row h0 with ⟨rfl, rfl, hF0⟩ | ⟨c, b, T, cur, G0, rfl, hb, hl, hcap, hsz, hk, h1c, hr0, hF0, h00, hd0⟩
    · have hq0 : q = 0 := by simpa using hq
      subst hq0
      have hr : ∀ ty, (Builtin.append_ #[24, 24] ty #[.slice none 0 0, .slice (some ⟨vb, 0, none⟩) 1 vc]).run Tryz.prog w = .ok (.slice (some ⟨w.heap.size, 0, none⟩) 1 (grownCap w 1 0 28)) (w.drew.alloc (.cells (fi.toArray ++ Builtin.zeroCells z.cells (grownCap w 1 0 28 - 1)) 28)) := fun ty =>
        run_append_nil (P := Tryz.prog) (w := w) 24 ty 28 i0 z Tryz.underlying24 hi0 hz0 ⟨vb, 0, none⟩ 1 vc fi (by rw [hfl, hzs]) hfc (by omega) (by omega) (by have := hbyt 1 (by omega); omega)
      refine (insert_endW 0 0 vc none vb w _ _ (fun a h => by cases h) (Nat.le_refl _) (fun _ => ⟨rfl, rfl⟩) hr).mono ?_
      rintro en w' ⟨rfl, rfl⟩
      have hge := grownCap_ge w 1 0 28
      refine fin _ w.heap.size (grownCap w 1 0 28) _ #[] 28 (fun _ _ _ => False) (((Keeps.drew w).weaken fun x h => h.elim).trans ((Keeps.alloc w.drew _ _).weaken fun x h => h.elim)) (.inr (Nat.le_refl _)) (fun x hx => by simp at hx) (fun i j x a hx ha => by simp at hx) (fun i j hi hj => by simp at hi) (fun i j i' j' x hi => by simp at hi) (fun i j x hi hj h => h.elim) (fun i j hi hj h => h) (heap_alloc_new w.drew _) (by simpa using hge) (by simp [hfl, size_zeroCells, hzc]; omega) fun m j hm hj => ?_
      have := endgrow_cellsW (cur := #[]) (zs := Builtin.zeroCells z.cells (grownCap w 1 0 28 - 1)) (n := 0) (by simp) hvc16 hfi m j (by simpa using hm) hj
      simpa using this
    · have hGb : G 0 b := (hF0 b).2 (.inl rfl)
      have hG00 : ∀ i j x, i < es.length → j < 8 → G0 i j x → G 0 x := fun i j x hi hj h => (hF0 x).2 (.inr ⟨i, j, hi, hj, h⟩)
      have h1r : ∀ j, j < es.length * 8 → (cur.getD j undef).oneCell' = true := fun j hj => by
        have := h1c (j / 8) (j % 8) (by omega) (by omega)
        rwa [show j / 8 * 8 + j % 8 = j by omega] at this
      rcases Nat.lt_or_ge q es.length with hlt | hge
      · by_cases hroom : es.length + 1 ≤ c
        · obtain ⟨mid, hmid⟩ : ∃ mid, mid = (cur.toList.drop (q * 8)).take ((es.length - q) * 8) := ⟨_, rfl⟩
          have hml : mid.length = (es.length - q) * 8 := mid_lenW (by omega) hq hmid
          refine (insert_shiftW es.length c q vc b vb T Tv cur cv w hlt hroom hsz hvc16 (hvb b hGb) (by omega) hb hv h1r h1v' mid fi hmid hfi).mono ?_
          rintro en w' ⟨rfl, rfl⟩
          exact fin _ b c _ cur T G0 (((Keeps.drew w).weaken fun x h => h.elim).trans ((setRow_keeps (fun x => x = b) rfl).trans (setRow_keeps (fun x => x = b) rfl))) (.inl hGb) hk hr0 h1c hd0 hG00 h00 (setRow_heap _ b _ _ T _ (setRow_heap _ b cur _ T _ hb)) hroom (by rw [spliceV_size (by rw [spliceV_size (by omega)]; omega), spliceV_size (by omega)]; exact hsz) (fun m j hm hj => ins_cellsW hq (by omega) hvc16 hmid hfi m j hm hj)
        · obtain ⟨mid, hmid⟩ : ∃ mid, mid = (cur.toList.drop (q * 8)).take ((es.length - q) * 8) := ⟨_, rfl⟩
          have hml : mid.length = (es.length - q) * 8 := mid_lenW (by omega) hq hmid
          obtain ⟨R, hR⟩ : ∃ R, R = grownCap w (es.length + 1) c 28 := ⟨_, rfl⟩
          have hRn : es.length + 1 ≤ R := by rw [hR]; exact grownCap_ge w _ _ _
          obtain ⟨ROW, hROW⟩ : ∃ ROW, ROW = ((cur.toList.drop 0).take (q * 8)).toArray ++ Builtin.zeroCells z.cells (es.length + 1 - q) ++ Builtin.zeroCells z.cells (R - (es.length + 1)) := ⟨_, rfl⟩
          have hRs : ROW.size = R * 8 := by
            have := @Array.length_toList _ cur
            rw [hROW]
            simp only [Array.size_append, List.size_toArray, size_zeroCells, hzc, List.length_take, List.length_drop]
            omega
          refine (insert_growW es.length c q vc b vb T Tv cur cv w z i0 hi0 hz0 hzs hzc hlt hcap (by omega) (by have := hbyt (es.length + 1) (by omega); omega) (by omega) hsz hvc16 hb hv h1r h1v' mid fi hmid hfi R hR ROW hROW).mono ?_
          rintro en w' ⟨rfl, rfl⟩
          have hn1 : (w.drew.alloc (.cells ROW 28)).heap[w.heap.size]? = some (.cells ROW 28 (0, 0)) := heap_alloc_new w.drew _
          refine fin _ w.heap.size R _ cur 28 G0 (((((Keeps.drew w).weaken fun x h => h.elim).trans ((Keeps.alloc w.drew _ _).weaken fun x h => h.elim)).trans (setRow_keeps (fun x => x = w.heap.size) rfl)).trans (((Keeps.drew _).weaken fun x h => h.elim).trans (setRow_keeps (fun x => x = w.heap.size) rfl))) (.inr (Nat.le_refl _)) hk hr0 h1c hd0 hG00 (fun i j hi hj h => by have := hFs _ (F0 _ (hG00 i j _ hi hj h)); omega) (setRow_heap _ w.heap.size _ _ _ _ (setRow_heap _ w.heap.size ROW _ _ _ hn1)) hRn (by rw [spliceV_size (by rw [spliceV_size (by omega)]; omega), spliceV_size (by omega)]; omega) fun m j hm hj => ?_
          refine grow_cellsW hq (by omega) (by omega) hvc16 (fun x hx => ?_) hmid hfi m j hm hj
          rw [hROW, Array.append_assoc]
          exact pre_rowW (by omega) x hx
      · have hqe : q = es.length := by omega
        subst hqe
        by_cases hroom : es.length + 1 ≤ c
        · have hr : ∀ ty, (Builtin.append_ #[24, 24] ty #[.slice (some ⟨b, 0, none⟩) es.length c, .slice (some ⟨vb, 0, none⟩) 1 vc]).run Tryz.prog w = .ok (.slice (some ⟨b, 0, none⟩) (es.length + 1) c) (w.setRow b (spliceV cur (es.length * 8) fi)) := fun ty => by
            have := run_append_room' (P := Tryz.prog) (w := w) (ty := ty) i0 Tryz.underlying24 hi0 b es.length c cur hb ⟨vb, 0, none⟩ 1 vc fi (by rw [hfl, hzs]) hfc hf1 hroom (by rw [hzs]; omega)
            rw [hzs] at this
            exact this
          refine (insert_endW es.length c vc (some ⟨b, 0, none⟩) vb w _ _ (fun a h => by cases h; rfl) hcap (fun h => by cases h) hr).mono ?_
          rintro en w' ⟨rfl, rfl⟩
          exact fin _ b c _ cur T G0 (setRow_keeps (fun x => x = b) rfl) (.inl hGb) hk hr0 h1c hd0 hG00 h00 (setRow_heap _ b cur _ T _ hb) hroom (by rw [spliceV_size (by omega)]; exact hsz) (fun m j hm hj => end_cellsW (by omega) hvc16 hfi m j hm hj)
        · have hol : (cur.toList.take (es.length * 8)).length = es.length * 8 := by
            have := @Array.length_toList _ cur
            rw [List.length_take]; omega
          have hr : ∀ ty, (Builtin.append_ #[24, 24] ty #[.slice (some ⟨b, 0, none⟩) es.length c, .slice (some ⟨vb, 0, none⟩) 1 vc]).run Tryz.prog w = .ok (.slice (some ⟨w.heap.size, 0, none⟩) (es.length + 1) (grownCap w (es.length + 1) c 28)) (w.drew.alloc (.cells ((cur.toList.take (es.length * 8)).toArray ++ fi.toArray ++ Builtin.zeroCells z.cells (grownCap w (es.length + 1) c 28 - (es.length + 1))) 28)) := fun ty =>
            run_append_grow (P := Tryz.prog) (w := w) 24 ty 28 i0 z Tryz.underlying24 hi0 hz0 ⟨b, 0, none⟩ es.length c _ (by rw [hol, hzs]) (fun j u hu => by
              have hu' : ((cur.toList.drop 0).take (es.length * 8))[j]? = some u := by rw [List.drop_zero]; exact hu
              obtain ⟨_, h2, h3⟩ := part_at hu'
              rw [Addr.add_lit, h3]; exact cell_of_row hb h2) ⟨vb, 0, none⟩ 1 vc fi (by rw [hfl, hzs]) hfc (by omega) (by omega) (growslice_fits (by omega) (by have := hbyt (es.length + 1) (by omega); omega))
          refine (insert_endW es.length c vc (some ⟨b, 0, none⟩) vb w _ _ (fun a h => by cases h; rfl) hcap (fun h => by cases h) hr).mono ?_
          rintro en w' ⟨rfl, rfl⟩
          have hge := grownCap_ge w (es.length + 1) c 28
          exact fin _ w.heap.size _ _ cur 28 G0 (((Keeps.drew w).weaken fun x h => h.elim).trans ((Keeps.alloc w.drew _ _).weaken fun x h => h.elim)) (.inr (Nat.le_refl _)) hk hr0 h1c hd0 hG00 (fun i j hi hj h => by have := hFs _ (F0 _ (hG00 i j _ hi hj h)); omega) (heap_alloc_new w.drew _) hge (by simp only [Array.size_append, List.size_toArray, size_zeroCells, hzc, hol, hfl]; omega) (fun m j hm hj => endgrow_cellsW (by omega) hvc16 hfi m j hm hj)
end Go.Proofs.YthiecdiiindegaaGreatDoor
