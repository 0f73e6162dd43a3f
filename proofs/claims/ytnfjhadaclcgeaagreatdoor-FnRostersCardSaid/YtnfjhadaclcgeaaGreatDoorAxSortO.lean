/- The shelf's contracts of slices.Sort at integers and at strings, as contracts of the interpreter. -/
import Derived.Test.YtnfjhadaclcgeaaGreatDoorAxSortG
import Derived.Shelf.SortG.Plain
import Derived.Shelf.SortG.SortNone
namespace Go.Proofs.YtnfjhadaclcgeaaGreatDoor
set_option linter.unusedVariables false
set_option linter.unusedSimpArgs false
open Go Go.RowKit Go.Sort Go.Shelf
section
variable {β α : Type}
theorem ACM.sortO {P : Program} {f : FuncId} {cell : β → AV} {enc : α → Value} {srt : List α → List α} (hperm : ∀ l, (srt l).Perm l) (hent : Enters P f)
  (hnone : ∀ (p : Option Addr) (cap : Nat) (w : World), Calls P f #[.slice p 0 cap] w fun e w' => e = .returned (.tuple #[]) ∧ w' = w)
  [Inhabited α] (hsort : ∀ (blk off cap : Nat) (zs : List α) (w : World), Holds enc w blk off zs.toArray → blk < w.heap.size → zs.length < 4611686018427387904 →
   Calls P f #[.slice (some ⟨blk, off, none⟩) zs.length cap] w fun e w' => e = .returned (.tuple #[]) ∧ ∃ n os, w' = grow (putRow enc (Sort.ahead w n) blk off (srt zs).toArray) os)
  {un : β → α} {back : α → β} (hub : ∀ a, un (back a) = a) (hbu : ∀ x, back (un x) = x) (hfl : ∀ x, (cell x).flat = true) (hval : ∀ x, (cell x).val = enc (un x))
  {rs : List (List AV)} {l : List β} (hl : rs = l.map fun x => [cell x]) (hbl : l.length ≤ 1048576) :
  ACM P f [.sl true 1 rs] (fun r ys => ∃ rs', rs' = ((srt (l.map un)).map back).map (fun x => [cell x]) ∧ r = .tup [] ∧ ys = [.sl true 1 rs']) := by
 refine ⟨hent, fun w A vs F hg hX hA hFs hNG => ?_⟩
 subst hl
 cases hX with
 | pure _ _ _ _ ho _ => simp [AV.isOwn] at ho
 | tup _ _ _ G hn hc hFe hd =>
  obtain ⟨v0, rfl⟩ : ∃ v0, vs = #[v0] := by
   match vs, hn with
   | ⟨[a]⟩, _ => exact ⟨a, rfl⟩
  have h0 : XRel w A (.sl true 1 (l.map fun x => [cell x])) v0 (G 0) := hc 0 _ rfl
  have hR1 : ∀ x, ([cell x]).length = 1 := fun _ => rfl
  have hRf : ∀ x, ∀ a ∈ [cell x], a.flat = true := fun x a ha => by
   rw [List.mem_singleton.1 ha]; exact hfl x
  have fin : ∀ (w' : World), (∃ G', XRel w' (fun _ => False) (.sl true 1 (((srt (l.map un)).map back).map fun x => [cell x])) v0 G' ∧ ∀ b, G' b → F b) →
    ∃ G r args', (∃ rs', rs' = ((srt (l.map un)).map back).map (fun x => [cell x]) ∧ r = AV.tup [] ∧ args' = [.sl true 1 rs']) ∧ XRel w' (fun _ => False) (.tup (r :: args')) (.tuple (#[.tuple #[]] ++ #[v0])) G ∧ ∀ b, G b → F b ∨ w.heap.size ≤ b ∧ b < w'.heap.size := fun w' ⟨G', hx, hG'⟩ => by
   refine ⟨G', .tup [], [.sl true 1 (((srt (l.map un)).map back).map fun x => [cell x])], ⟨_, rfl, rfl, rfl⟩, ?_, fun b hb => .inl (hG' b hb)⟩
   refine .tup _ _ _ (fun i x => i = 1 ∧ G' x) (by simp) (fun i a ha => ?_) (fun x => ⟨fun h => ⟨1, by simp, rfl, h⟩, fun ⟨i, _, _, h⟩ => h⟩) (fun i j x _ _ h1 h2 => by rw [h1.1, h2.1])
   match i, ha with
   | 0, ha =>
    simp at ha; subst ha
    exact .tup [] #[] _ (fun _ _ => False) rfl (fun i a h => by simp at h) (fun x => ⟨fun h => absurd h.1 (by decide), fun ⟨_, h, _⟩ => by simp at h⟩) (fun _ _ _ h => by simp at h)
   | 1, ha =>
    simp only [List.getElem?_cons_succ, List.getElem?_cons_zero, Option.some.injEq] at ha
    subst ha
    exact hx.congr (fun x => ⟨fun h => h.2, fun h => ⟨rfl, h⟩⟩)
   | n + 2, ha => simp at ha
  have hF0 : ∀ b, G 0 b → F b := fun b hb => (hFe b).2 ⟨0, by simp, hb⟩
  have hpl : ((srt (l.map un)).map back).Perm l := by
   have h5 := (hperm (l.map un)).map back
   rw [List.map_map] at h5
   rwa [show back ∘ un = id from funext hbu, List.map_id] at h5
  by_cases hne : l = []
  ·subst hne
   obtain ⟨p, cap, rfl⟩ : ∃ p cap, v0 = .slice p 0 cap := by
    cases h0 with
    | pure _ _ _ _ ho _ => simp [AV.isOwn] at ho
    | nil => exact ⟨none, 0, rfl⟩
    | sl _ _ cap b => exact ⟨_, cap, rfl⟩
   refine (hnone p cap w).mono ?_
   rintro e w' ⟨rfl, rfl⟩
   have hnil : ((srt (([] : List β).map un)).map back) = [] := hpl.eq_nil
   obtain ⟨G2, r, ys, q1, q2, q3⟩ := fin _ ⟨_, by rw [hnil]; exact h0.noB (flat_rows (fun x => [cell x]) hRf []), hF0⟩
   exact ⟨_, G2, r, ys, q1, rfl, Keeps.refl _ _, q2, q3⟩
  ·obtain ⟨es, hes⟩ : ∃ es, es = l.map fun x => [cell x] := ⟨_, rfl⟩
   rw [← hes] at h0
   cases h0 with
   | pure _ _ _ _ ho _ => simp [AV.isOwn] at ho
   | nil => exact (hne (List.map_eq_nil_iff.1 hes.symm)).elim
   | sl _ _ cap b T c _ G3 hb hl hcap hsz hk h1c hr hGF h00 hdd =>
    have hblk : b < w.heap.size := by
     rcases Nat.lt_or_ge b w.heap.size with h | h
     ·exact h
     ·rw [Array.getElem?_eq_none h] at hb; cases hb
    have hcellv : ∀ (i : Nat) x, l[i]? = some x → c.getD i undef = (cell x).val ∧ (cell x).fits := fun i x hx => by
     have := (hr i 0 [cell x] (cell x) (by rw [hes, List.getElem?_map, hx]; rfl) rfl).flat_val (hfl x)
     simpa using this
    have hfit : ∀ x ∈ l, okB (fun x => [cell x]) x := fun x hx a ha => by
     obtain ⟨i, hi⟩ := List.getElem?_of_mem hx
     rw [List.mem_singleton.1 ha]
     exact (hcellv i x hi).2
    have hesl : es.length = l.length := by rw [hes, List.length_map]
    rw [hesl] at hl hcap
    have hGb : G 0 b := (hGF b).2 (.inl rfl)
    obtain ⟨zs, hzs⟩ : ∃ zs, zs = l.map un := ⟨_, rfl⟩
    have hzl : zs.length = l.length := by rw [hzs, List.length_map]
    have hH : Holds enc w b 0 zs.toArray := fun j hj => by
     have hj' : j < l.length := by simpa [hzl] using hj
     obtain ⟨e1, _⟩ := hcellv j l[j] (List.getElem?_eq_getElem hj')
     have hjc : j < c.size := by omega
     refine ⟨?_, ?_⟩
     ·have e2 : zs.toArray[j]! = un l[j] := by
       rw [getElem!_pos zs.toArray j hj]
       simp [hzs]
      rw [e2, ← hval, ← e1]
      simp [World.cell?, hb, Array.getD, hjc]
     ·simp [World.frozen?, hb]
    rw [show es.length = zs.length by omega] at fin ⊢
    refine (hsort b 0 cap zs w hH hblk (by omega)).mono ?_
    rintro e w' ⟨rfl, n, os, hw'⟩
    obtain ⟨m, hm⟩ : ∃ m, m = (srt zs).map back := ⟨_, rfl⟩
    have hpm : m.Perm l := by rw [hm, hzs]; exact hpl
    have hml : m.length = l.length := hpm.length_eq
    have hmfit : ∀ x ∈ m, okB (fun x => [cell x]) x := fun x hx => hfit x (hpm.subset hx)
    obtain ⟨x0, hx0⟩ := List.exists_mem_of_ne_nil l hne
    haveI : Inhabited {x : β // okB (fun x => [cell x]) x} := ⟨⟨x0, hfit x0 hx0⟩⟩
    obtain ⟨la, hla0⟩ : ∃ la, la = m.attach.map fun x => (⟨x.1, hmfit x.1 x.2⟩ : {x : β // okB (fun x => [cell x]) x}) := ⟨_, rfl⟩
    have hla : la.map (fun x => x.1) = m := by rw [hla0]; exact attach_map (fun x => [cell x]) hmfit
    have hlal : la.length = m.length := by rw [← hla]; simp
    have hsl : (srt zs).length = m.length := by rw [hm, List.length_map]
    have hput : putRow enc (Sort.ahead w n) b 0 (srt zs).toArray = putRowK (encB fun x => [cell x]) 1 (Sort.ahead w n) b 0 la.toArray := by
     unfold putRowK putRow
     congr 1
     funext c
     unfold putCells
     apply Array.ext_getElem?
     intro i
     rw [Array.getElem?_mapIdx, Array.getElem?_mapIdx]
     congr 1
     funext x
     have e1 : (flatK (encB fun x => [cell x]) 1 la.toArray).size = (srt zs).toArray.size := by
      rw [size_flatK]; simp; omega
     by_cases hi : i < (srt zs).length
     ·rw [if_pos ⟨by omega, by simpa using hi⟩, if_pos ⟨by omega, by rw [e1]; simpa using hi⟩]
      rw [Nat.sub_zero]
      show enc _ = (flatK (encB fun x => [cell x]) 1 la.toArray)[i]!
      have hi2 : i < la.toArray.size := by simp; omega
      rw [get_flatK _ _ _ _ (by omega), Nat.div_one, Nat.mod_one]
      have e3 : (la.toArray[i]!).1 = back (srt zs)[i] := by
       have h1 : la[i]? = some la.toArray[i]! := by
        rw [getElem!_pos la.toArray i hi2]; simp
       have h2 := congrArg (fun o => o.map fun x : {x : β // okB (fun x => [cell x]) x} => x.1) h1
       rw [← List.getElem?_map, hla, hm, List.getElem?_map, List.getElem?_eq_getElem hi] at h2
       simpa using h2.symm
      show enc _ = ([cell (la.toArray[i]!).1].map AV.val)[0]!
      rw [e3, getElem!_pos (srt zs).toArray i (by simpa using hi)]
      show _ = (cell (back (srt zs)[i])).val
      rw [hval, hub]
      simp
     ·rw [if_neg (fun h => hi (by simpa using h.2)), if_neg (fun h => hi (by have := h.2; rw [e1] at this; simpa using this))]
    have hw2 : w' = sortWorldK (encB fun x => [cell x]) 1 w b 0 n la.toArray os := by rw [hw', hput]; rfl
    have hrow := sort_row (fun x => [cell x]) (A' := fun _ => False) (k := 1) (cap := cap) hR1 la.toArray hb (by simp; omega) hsz (by simp; omega) n os hw2
    have hrow2 : XRel w' (fun _ => False) (.sl true 1 (m.map fun x => [cell x])) (.slice (some ⟨b, 0, none⟩) zs.length cap) (fun x => x = b) := by
     have e5 : (la.toArray.toList.map fun x => [cell x.1]) = m.map fun x => [cell x] := by
      rw [List.toList_toArray, ← hla, List.map_map]; rfl
     rw [e5] at hrow
     rwa [show la.toArray.size = zs.length by simp; omega] at hrow
    obtain ⟨G2, r, ys, q1, q2, q3⟩ := fin w' ⟨_, by rw [← hzs, ← hm]; exact hrow2, fun z (hz : z = b) => hz ▸ hF0 b hGb⟩
    exact ⟨_, G2, r, ys, q1, rfl, sortW_keeps (fun x => [cell x]) (hF0 b hGb) hblk hw2, q2, q3⟩
end
theorem ACM.sortI {P : Program} {ρ : Ren} (L : SlLaysN.n53 P ρ) (hent : Enters P (ρ.f 53)) {rs : List (List AV)} {l : List Int} (hl : rs = l.map (fun n : Int => [AV.int .i64 n])) (hbl : l.length ≤ 1048576) :
  ACM P (ρ.f 53) [.sl true 1 rs] (fun r ys => ∃ rs', rs' = (l.mergeSort fun x y => decide (x ≤ y)).map (fun n : Int => [AV.int .i64 n]) ∧ r = .tup [] ∧ ys = [.sl true 1 rs']) := by
 have h := ACM.sortO (β := Int) (α := Int) (cell := AV.int .i64) (enc := Value.int .i64) (srt := fun l => l.mergeSort fun x y => decide (x ≤ y)) (fun l => List.mergeSort_perm l _) hent
  (fun p cap w => AnyG.slices_Sort_int_none L p cap w) (fun b o c z w h1 h2 h3 => AnyG.slices_Sort_int L b o c z w h1 h2 h3) (un := id) (back := id) (fun _ => rfl) (fun _ => rfl) (fun _ => rfl) (fun _ => rfl) hl hbl
 rw [List.map_id, List.map_id] at h
 exact h
theorem ACM.sortS {P : Program} {ρ : Ren} (L : SlLaysN.n54 P ρ) (hent : Enters P (ρ.f 54)) {rs : List (List AV)} {l : List ByteArray} (hl : rs = l.map (fun b : ByteArray => [AV.str b])) (hbl : l.length ≤ 1048576) :
  ACM P (ρ.f 54) [.sl true 1 rs] (fun r ys => ∃ rs', rs' = (((l.map fun b => b.data.toList).mergeSort fun x y => decide (x ≤ y)).map fun x => (⟨x.toArray⟩ : ByteArray)).map (fun b : ByteArray => [AV.str b]) ∧ r = .tup [] ∧ ys = [.sl true 1 rs']) :=
 ACM.sortO (β := ByteArray) (α := List UInt8) (cell := AV.str) (enc := encStr) (srt := fun l => l.mergeSort fun x y => decide (x ≤ y)) (fun l => List.mergeSort_perm l _) hent
  (fun p cap w => AnyG.slices_Sort_string_none L p cap w) (fun b o c z w h1 h2 h3 => AnyG.slices_Sort_string L b o c z w h1 h2 h3) (un := fun b => b.data.toList) (back := fun x => ⟨x.toArray⟩) (fun _ => rfl) (fun _ => rfl) (fun _ => rfl) (fun _ => rfl) hl hbl
end Go.Proofs.YtnfjhadaclcgeaaGreatDoor
