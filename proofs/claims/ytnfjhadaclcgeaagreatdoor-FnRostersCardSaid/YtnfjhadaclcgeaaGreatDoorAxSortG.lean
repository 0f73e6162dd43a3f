/- What sorts leave of a row, as the interpreter speaks of it. -/
import Derived.Test.YtnfjhadaclcgeaaGreatDoorAxU
import Derived.Shelf.GgSortFunc.InsertionK
import Derived.Shelf.SortG.Plain
namespace Go.Proofs.YtnfjhadaclcgeaaGreatDoor
set_option linter.unusedVariables false
set_option linter.unusedSimpArgs false
open Go Go.RowKit Go.Sort Go.Shelf

/-- The value of a flat cell. -/
def AV.val : AV → Value
 | .int k n => .int k n
 | .bool b => .bool b
 | .str s => .string s
 | _ => undef
def AV.fits : AV → Prop
 | .int .. => True
 | .bool _ => True
 | .str s => s.size ≤ maxLen
 | _ => False
theorem AV.fits_rel {w : World} {A : Nat → Prop} {x : AV} (h : x.fits) : Rel w A x x.val := by
 cases x <;> first | exact .int _ _ | exact .bool _ | exact .str _ h | exact h.elim
theorem AV.fits_one {x : AV} (h : x.fits) : x.val.oneCell' = true := by
 cases x <;> first | rfl | exact h.elim
theorem AV.fits_own {x : AV} (h : x.fits) : x.isOwn = false := by
 cases x <;> first | rfl | exact h.elim
theorem XRel.flat_val {w : World} {A : Nat → Prop} {x : AV} {v : Value} {G : Nat → Prop} (h : XRel w A x v G) (hf : x.flat = true) : v = x.val ∧ x.fits := by
 have h1 := h.flat hf
 cases h1 <;> first | exact ⟨rfl, trivial⟩ | exact ⟨rfl, by assumption⟩ | cases hf
theorem grow_of_keeps {w w' : World} (h : Keeps (fun _ => False) w w') : ∃ q os, w' = grow (w.drewN q) os := by
 refine ⟨w'.drawn - w.drawn, w'.heap.extract w.heap.size w'.heap.size, ?_⟩
 have hd : w.drawn ≤ w'.drawn := h.drawn
 have hs := h.size
 have hh : w'.heap = w.heap ++ w'.heap.extract w.heap.size w'.heap.size := by
  apply Array.ext_getElem?
  intro i
  rw [Array.getElem?_append]
  split
  ·rename_i hi; exact h.block i hi (fun x => x)
  ·rename_i hi
   rw [Array.getElem?_extract]
   split
   ·congr 1; omega
   ·rw [Array.getElem?_eq_none (by omega)]
 have e1 := h.os
 have e2 := h.tape
 have e3 := h.output
 obtain ⟨h1, t1, d1, o1, u1⟩ := w'
 obtain ⟨h0, t0, d0, o0, u0⟩ := w
 simp only at e1 e2 e3 hh hd
 subst e1 e2 e3
 simp only [grow, World.drewN, World.mk.injEq, and_true, true_and]
 exact ⟨hh, by omega⟩

section
variable {β : Type} (R : β → List AV)
def okB (x : β) : Prop := ∀ a ∈ R x, a.fits
def encB (x : {x : β // okB R x}) : List Value := (R x.1).map AV.val
theorem getD_val {l : List AV} {i : Nat} {a : AV} (h : l[i]? = some a) : (l.map AV.val)[i]! = a.val := by
 rw [List.getElem!_eq_getElem?_getD, List.getElem?_map, h]; rfl
theorem sort_row {w w' : World} {A' : Nat → Prop} {k : Nat} {cap b : Nat} {T : TypeId} {c : Array Value}
  (hlen : ∀ x, (R x).length = k) [Inhabited {x : β // okB R x}] (d : Array {x : β // okB R x})
  (hb : w.heap[b]? = some (.cells c T (0, 0))) (hsz : d.size ≤ cap) (hcs : cap * k ≤ c.size) (hm : d.size ≤ maxLen) (n : Nat) (os : Array Go.Obj)
  (hw : w' = sortWorldK (encB R) k w b 0 n d os) : XRel w' A' (.sl true k (d.toList.map fun x => R x.1)) (.slice (some ⟨b, 0, none⟩) d.size cap) (fun x => x = b) := by
 have hblk : b < w.heap.size := by
  rcases Nat.lt_or_ge b w.heap.size with h | h
  ·exact h
  ·rw [Array.getElem?_eq_none h] at hb; cases hb
 have hb' : w'.heap[b]? = some (.cells (putCells id 0 (flatK (encB R) k d) c) T (0, 0)) := by
  rw [hw]
  unfold sortWorldK putRowK putRow mapBlock grow
  simp only [Sort.ahead]
  rw [Array.getElem?_append_left (by simpa using hblk), Array.getElem?_modify, if_pos rfl, hb]
  rfl
 have hcell : ∀ i j, i < d.size → j < k → (putCells id 0 (flatK (encB R) k d) c).getD (i * k + j) undef = ((R (d[i]!).1).map AV.val)[j]! := fun i j hi hj => by
  have h1 : i * k + j < d.size * k := by
   have : (i + 1) * k ≤ d.size * k := Nat.mul_le_mul_right k (by omega)
   rw [Nat.add_mul] at this; omega
  have h2 : d.size * k ≤ cap * k := Nat.mul_le_mul_right k hsz
  have h3 : i * k + j < c.size := by omega
  unfold putCells
  have hk0 : 0 < k := by omega
  simp only [Array.getD_eq_getD_getElem?, Array.getElem?_mapIdx, Array.getElem?_eq_getElem h3, Option.map_some, Option.getD_some]
  rw [if_pos ⟨by omega, by rw [size_flatK]; omega⟩, Nat.sub_zero]
  show (flatK (encB R) k d)[i * k + j]! = _
  rw [get_flatK _ _ _ _ h1]
  have e1 : (i * k + j) / k = i := by
   rw [Nat.mul_comm, Nat.mul_add_div hk0, Nat.div_eq_of_lt hj]; rfl
  have e2 : (i * k + j) % k = j := by
   rw [Nat.mul_comm, Nat.mul_add_mod, Nat.mod_eq_of_lt hj]
  rw [e1, e2]; rfl
 have hl : (d.toList.map fun x => R x.1).length = d.size := by simp
 have hval : ∀ (i j : Nat) e a, (d.toList.map fun x => R x.1)[i]? = some e → e[j]? = some a → (putCells id 0 (flatK (encB R) k d) c).getD (i * k + j) undef = a.val ∧ a.fits := fun i j e a he ha => by
  rw [List.getElem?_map] at he
  have hi : i < d.size := by
   rcases Nat.lt_or_ge i d.size with h | h
   ·exact h
   ·rw [List.getElem?_eq_none (by simpa using h)] at he; cases he
  have e0 : d.toList[i]? = some d[i]! := by
   rw [Array.getElem?_toList, Array.getElem?_eq_getElem hi, getElem!_pos d i hi]
  rw [e0] at he
  simp only [Option.map_some, Option.some.injEq] at he
  subst he
  have hj : j < k := by
   have := (List.getElem?_eq_some_iff.1 ha).1
   rwa [hlen] at this
  rw [hcell i j hi hj, getD_val ha]
  exact ⟨rfl, (d[i]!).2 a (List.mem_of_getElem? ha)⟩
 have h := XRel.sl (w := w') (A := A') k (d.toList.map fun x => R x.1) cap b T _ (fun x => x = b) (fun _ _ _ => False) hb' (by rw [hl]; exact hm) (by rw [hl]; exact hsz) (by unfold putCells; simpa using hcs)
  (fun e he => by obtain ⟨x, _, rfl⟩ := List.mem_map.1 he; exact hlen _)
  (fun i j hi hj => by
   have hi' : i < d.size := by rw [← hl]; exact hi
   have he : (d.toList.map fun x => R x.1)[i]? = some ((d.toList.map fun x => R x.1)[i]) := List.getElem?_eq_getElem hi
   have hj' : j < ((d.toList.map fun x => R x.1)[i]).length := by
    have : ((d.toList.map fun x => R x.1)[i]) ∈ (d.toList.map fun x => R x.1) := List.getElem_mem _
    obtain ⟨x, _, hx⟩ := List.mem_map.1 this
    rw [← hx, hlen]; exact hj
   obtain ⟨h1, h2⟩ := hval i j _ _ he (List.getElem?_eq_getElem hj')
   rw [h1]; exact AV.fits_one h2)
  (fun i j e a he ha => by
   obtain ⟨h1, h2⟩ := hval i j e a he ha
   rw [h1]
   exact .pure _ _ _ (AV.fits_rel h2) (AV.fits_own h2) (fun _ h => h))
  (fun x => ⟨fun h => .inl h, fun h => h.elim (fun h => h) (fun ⟨_, _, _, _, h⟩ => h.elim)⟩) (fun _ _ _ _ h => h) (fun _ _ _ _ _ _ _ _ _ h => h.elim)
 rwa [hl] at h

theorem app2 (a b : Value) (c : Array Value) : (#[a, b] ++ c).getD 0 undef = a ∧ (#[a, b] ++ c).getD 1 undef = b ∧ ∀ i, (#[a, b] ++ c).getD (i + 2) undef = c.getD i undef := by
 refine ⟨?_, ?_, fun i => ?_⟩
 ·rw [← toList_getD, Array.toList_append]; rfl
 ·rw [← toList_getD, Array.toList_append]; rfl
 ·rw [← toList_getD, ← toList_getD, Array.toList_append]; rfl
theorem AV.flat_noB {x : AV} (h : x.flat = true) : NoB x := by
 cases x <;> first | exact .int _ _ | exact .bool _ | exact .str _ | cases h
theorem flat_rows {k : Nat} (hfl : ∀ x, ∀ a ∈ R x, a.flat = true) (l : List β) : NoB (.sl true k (l.map R)) :=
 .rows fun v => .agg _ fun i c h => AV.flat_noB (hfl v c (List.mem_of_getElem? h))
theorem sortW_keeps [Inhabited {x : β // okB R x}] {w w' : World} {k b n : Nat} {d : Array {x : β // okB R x}} {os : Array Go.Obj} {F : Nat → Prop} (hF : F b) (hblk : b < w.heap.size) (hw : w' = sortWorldK (encB R) k w b 0 n d os) : Keeps F w w' := by
 subst hw
 unfold sortWorldK putRowK
 refine ⟨rfl, rfl, rfl, by simp [grow, putRow, mapBlock, Sort.ahead], fun x hx hnF => ?_, fun a ha => ?_, DrawLe.of ?_⟩
 ·have hne : b ≠ x := fun e => hnF (e ▸ hF)
  unfold putRow mapBlock grow
  simp only [Sort.ahead]
  rw [Array.getElem?_append_left (by simpa using hx), Array.getElem?_modify, if_neg hne]
 ·have h1 : (grow (putRow id (Sort.ahead w n) b 0 (flatK (encB R) k d)) os).frozen? a = (putRow id (Sort.ahead w n) b 0 (flatK (encB R) k d)).frozen? a := by
   unfold grow World.frozen?
   simp only
   rw [Array.getElem?_append_left (by simpa [putRow, mapBlock, Sort.ahead] using ha)]
  rw [h1, frozen?_putRow]; rfl
 ·simp [grow, putRow, mapBlock, Sort.ahead]
theorem attach_map {l : List β} (h : ∀ x ∈ l, okB R x) : (l.attach.map fun x => (⟨x.1, h x.1 x.2⟩ : {x : β // okB R x})).map (fun x => x.1) = l := by
 rw [List.map_map]
 exact (List.attach_map_val (f := fun x => x)).trans (List.map_id _)
end
end Go.Proofs.YtnfjhadaclcgeaaGreatDoor
