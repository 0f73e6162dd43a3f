/- slices.SortFunc over opened rows (lists of lists): the shelf's contract as one of the interpreter. -/
import Derived.Test.YtoafgafkmeghlaaGreatDoorAxOp
import Derived.Test.YtoafgafkmeghlaaGreatDoorAxSort
namespace Go.Proofs.YtoafgafkmeghlaaGreatDoor
open Go Go.RowKit Go.Sort Go.Shelf
set_option linter.unusedVariables false
section
variable {β : Type} (R : β → AV)
def okN (w : World) (A : Nat → Prop) (p : Value × β) : Prop := p.1.oneCell' = true ∧ Rel w A (R p.2) p.1
def encN {w : World} {A : Nat → Prop} (x : {p : Value × β // okN R w A p}) : Value := x.1.1
theorem sortN_keeps {w0 : World} {A : Nat → Prop} [Inhabited {p : Value × β // okN R w0 A p}] {w w' : World} {b n : Nat} {d : Array {p : Value × β // okN R w0 A p}} {os : Array Go.Obj} {F : Nat → Prop} (hF : F b) (hblk : b < w.heap.size) (hw : w' = sortWorld (encN R) w b 0 n d os) : Keeps F w w' := by
 subst hw
 unfold sortWorld
 refine ⟨rfl, rfl, rfl, by simp [grow, putRow, mapBlock, Sort.ahead], fun x hx hnF => ?_, fun a ha => ?_, DrawLe.of ?_⟩
 ·have hne : b ≠ x := fun e => hnF (e ▸ hF)
  unfold putRow mapBlock grow
  simp only [Sort.ahead]
  rw [Array.getElem?_append_left (by simpa using hx), Array.getElem?_modify, if_neg hne]
 ·have h1 : (grow (putRow (encN R) (Sort.ahead w n) b 0 d) os).frozen? a = (putRow (encN R) (Sort.ahead w n) b 0 d).frozen? a := by
   unfold grow World.frozen?
   simp only
   rw [Array.getElem?_append_left (by simpa [putRow, mapBlock, Sort.ahead] using ha)]
  rw [h1, frozen?_putRow]; rfl
 ·simp [grow, putRow, mapBlock, Sort.ahead]
theorem sortN_row {w w' : World} {A : Nat → Prop} {cap b : Nat} {T : TypeId} {c : Array Value} [Inhabited {p : Value × β // okN R w A p}] (d : Array {p : Value × β // okN R w A p})
  (hb : w.heap[b]? = some (.cells c T (0, 0))) (hsz : d.size ≤ cap) (hcs : cap * 1 ≤ c.size) (hm : d.size ≤ maxLen) (hAb : ∀ x, A x → x < w.heap.size ∧ x ≠ b) (n : Nat) (os : Array Go.Obj)
  (hw : w' = sortWorld (encN R) w b 0 n d os) : XRel w' A (.sl true 1 ((d.toList.map fun x => x.1).map (opn R))) (.slice (some ⟨b, 0, none⟩) d.size cap) (fun x => x = b) := by
 have hblk : b < w.heap.size := by
  rcases Nat.lt_or_ge b w.heap.size with h | h
  ·exact h
  ·rw [Array.getElem?_eq_none h] at hb; cases hb
 have hkp : Keeps (fun x => x = b) w w' := sortN_keeps R (w0 := w) (A := A) rfl hblk hw
 have hb' : w'.heap[b]? = some (.cells (putCells (encN R) 0 d c) T (0, 0)) := by
  rw [hw]
  unfold sortWorld putRow mapBlock grow
  simp only [Sort.ahead]
  rw [Array.getElem?_append_left (by simpa using hblk), Array.getElem?_modify, if_pos rfl, hb]
  rfl
 have hcell : ∀ i, i < d.size → (putCells (encN R) 0 d c).getD (i * 1 + 0) undef = (d[i]!).1.1 := fun i hi => by
  have h3 : i < c.size := by omega
  unfold putCells
  rw [Nat.mul_one, Nat.add_zero]
  simp only [Array.getD_eq_getD_getElem?, Array.getElem?_mapIdx, Array.getElem?_eq_getElem h3, Option.map_some, Option.getD_some]
  rw [if_pos ⟨by omega, by omega⟩, Nat.sub_zero]
  rfl
 have hl : ((d.toList.map fun x => x.1).map (opn R)).length = d.size := by simp
 have h := XRel.sl (w := w') (A := A) 1 ((d.toList.map fun x => x.1).map (opn R)) cap b T _ (fun x => x = b) (fun _ _ _ => False) hb' (by rw [hl]; exact hm) (by rw [hl]; exact hsz) (by unfold putCells; simpa using hcs)
  (fun e he => by obtain ⟨x, _, rfl⟩ := List.mem_map.1 he; rfl)
  (fun i j hi hj => by
   have : j = 0 := by omega
   subst this
   rw [hcell i (by rw [← hl]; exact hi)]
   exact (d[i]!).2.1)
  (fun i j e a he ha => by
   rw [List.getElem?_map, List.getElem?_map] at he
   have hi : i < d.size := by
    rcases Nat.lt_or_ge i d.size with h | h
    ·exact h
    ·rw [List.getElem?_eq_none (by simpa using h)] at he; cases he
   have e0 : d.toList[i]? = some d[i]! := by
    rw [Array.getElem?_toList, Array.getElem?_eq_getElem hi, getElem!_pos d i hi]
   rw [e0] at he
   cases he
   cases j with
   | succ j => simp [opn] at ha
   | zero =>
    cases ha
    rw [hcell i hi]
    exact .pure _ _ _ (.hd _ _ (d[i]!).2.1 ((d[i]!).2.2.mono (fun x hx => hkp.block x (hAb x hx).1 (hAb x hx).2) (fun _ h => h))) rfl (fun _ h => h))
  (fun x => ⟨fun h => .inl h, fun h => h.elim (fun h => h) (fun ⟨_, _, _, _, h⟩ => h.elim)⟩) (fun _ _ _ _ h => h) (fun _ _ _ _ _ _ _ _ _ h => h.elim)
 rwa [hl] at h
theorem ACS.sortN {P : Program} {ρ : Ren} (L : SlLaysF.n6 P ρ) (L0 : SlLaysF0.n6 P ρ) (hent : Enters P (ρ.f 6)) {g : FuncId} {cf : β → β → Int} (hO : SWO (ltOf cf)) (hp : ∀ x y, AC P g [R x, R y] (AV.int .i64) (cf x y)) {ls : List (Value × β)} (h1 : ∀ p ∈ ls, p.1.oneCell' = true) (hbl : ls.length ≤ 1048576) :
  ACS P (ρ.f 6) [.sl true 1 (ls.map (opn R)), .fn g []] (fun r ys => ∃ m : List (Value × β), m.Perm ls ∧ (∀ (i j : Nat) x y, i < j → m[i]? = some x → m[j]? = some y → ¬ cf y.2 x.2 < 0) ∧ r = .tup [] ∧ ys = [.sl true 1 (m.map (opn R)), .any]) := by
 refine ⟨hent, fun w A vs F hg hX hA hFs hNG => ?_⟩
 cases hX with
 | pure _ _ _ _ ho _ => simp [AV.isOwn] at ho
 | tup _ _ _ G hn hc hFe hd =>
  obtain ⟨v0, v1, rfl⟩ : ∃ v0 v1, vs = #[v0, v1] := by
   match vs, hn with
   | ⟨[a, b]⟩, _ => exact ⟨a, b, rfl⟩
  have h0 : XRel w A (.sl true 1 (ls.map (opn R))) v0 (G 0) := hc 0 _ rfl
  have h1' : XRel w A (.fn g []) v1 (G 1) := hc 1 _ rfl
  have hF0 : ∀ b, G 0 b → F b := fun b hb => (hFe b).2 ⟨0, by simp, hb⟩
  cases h1' with
  | pure _ _ _ hr _ hG1 =>
   cases hr with
   | fn _ _ cvs hcn hcc =>
    have hcv : cvs = #[] := Array.eq_empty_of_size_eq_zero (by simpa using hcn)
    subst hcv
    have fin : ∀ (w' : World) (m : List (Value × β)), Keeps F w w' → m.Perm ls → (∀ (i j : Nat) x y, i < j → m[i]? = some x → m[j]? = some y → ¬ cf y.2 x.2 < 0) → (∃ G', XRel w' A (.sl true 1 (m.map (opn R))) v0 G' ∧ ∀ b, G' b → F b) →
      ∃ v G A' r args', (∃ m : List (Value × β), m.Perm ls ∧ (∀ (i j : Nat) x y, i < j → m[i]? = some x → m[j]? = some y → ¬ cf y.2 x.2 < 0) ∧ r = AV.tup [] ∧ args' = [.sl true 1 (m.map (opn R)), .any]) ∧ Ending.returned (.tuple #[]) = .returned v ∧ Keeps F w w' ∧ XRel w' A' (.tup (r :: args')) (.tuple (#[v] ++ #[v0, .func (.func g) #[] #[]])) G ∧ (∀ b, G b → F b ∨ w.heap.size ≤ b ∧ b < w'.heap.size) ∧ ∀ b, A' b → b < w'.heap.size ∧ ¬ G b ∧ (A b ∨ w.heap.size ≤ b) := fun w' m hk hm hs ⟨G', hx, hG'⟩ => by
     refine ⟨_, G', A, .tup [], [.sl true 1 (m.map (opn R)), .any], ⟨m, hm, hs, rfl, rfl⟩, rfl, hk, ?_, fun b hb => .inl (hG' b hb), fun b hb => ⟨Nat.lt_of_lt_of_le (hA b hb).1 hk.size, fun h => (hA b hb).2 (hG' b h), .inl hb⟩⟩
     refine .tup _ _ _ (fun i x => i = 1 ∧ G' x) (by simp) (fun i a ha => ?_) (fun x => ⟨fun h => ⟨1, by simp, rfl, h⟩, fun ⟨i, _, _, h⟩ => h⟩) (fun i j x _ _ h1 h2 => by rw [h1.1, h2.1])
     match i, ha with
     | 0, ha =>
      simp at ha; subst ha
      exact .tup [] #[] _ (fun _ _ => False) rfl (fun i a h => by simp at h) (fun x => ⟨fun h => absurd h.1 (by decide), fun ⟨_, h, _⟩ => by simp at h⟩) (fun _ _ _ h => by simp at h)
     | 1, ha =>
      simp at ha; subst ha
      exact hx.congr (fun x => ⟨fun h => h.2, fun h => ⟨rfl, h⟩⟩)
     | 2, ha =>
      simp at ha; subst ha
      exact .pure _ _ _ (.any _) rfl (fun x h => absurd h.1 (by decide))
     | n + 3, ha => simp at ha
    by_cases hne : ls = []
    ·subst hne
     obtain ⟨p, cap, rfl⟩ : ∃ p cap, v0 = .slice p 0 cap := by
      rcases own_row h0 with ⟨_, rfl, _⟩ | ⟨cap, b, _, _, _, rfl, _⟩
      ·exact ⟨none, 0, rfl⟩
      ·exact ⟨_, cap, rfl⟩
     refine (AnyF.slices_SortFunc_none L0 p cap _ w).mono ?_
     rintro e w' ⟨rfl, rfl⟩
     exact fin _ [] (Keeps.refl _ _) (.refl _) (by simp) ⟨_, h0, hF0⟩
    ·rcases own_row h0 with ⟨h, _⟩ | ⟨cap, b, T, c, G3, rfl, hb, hl, hcap, hsz, hk, h1c, hr, hGF, h00, hdd⟩
     ·exact (hne (by simpa using h)).elim
     ·rw [List.length_map] at hl hcap
      have hblk : b < w.heap.size := by
       rcases Nat.lt_or_ge b w.heap.size with h | h
       ·exact h
       ·rw [Array.getElem?_eq_none h] at hb; cases hb
      have hGb : G 0 b := (hGF b).2 (.inl rfl)
      have hAb : ∀ x, A x → x < w.heap.size ∧ x ≠ b := fun x hx => ⟨(hA x hx).1, fun e => (hA x hx).2 (hF0 x (e ▸ hGb))⟩
      have hcv : ∀ i p, ls[i]? = some p → c.getD (i * 1 + 0) undef = p.1 ∧ Rel w A (R p.2) p.1 := fun i p hp => by
       have h2 := hr i 0 (opn R p) (.hd p.1 (R p.2)) (by rw [List.getElem?_map, hp]; rfl) rfl
       cases h2 with
       | pure _ _ _ h2 _ _ => exact rel_hd h2
      have hok : ∀ p ∈ ls, okN R w A p := fun p hp => by
       obtain ⟨i, hi⟩ := List.getElem?_of_mem hp
       exact ⟨h1 p hp, (hcv i p hi).2⟩
      obtain ⟨x0, hx0⟩ := List.exists_mem_of_ne_nil ls hne
      haveI : Inhabited {p : Value × β // okN R w A p} := ⟨⟨x0, hok x0 hx0⟩⟩
      obtain ⟨la, hla0⟩ : ∃ la, la = ls.attach.map fun x => (⟨x.1, hok x.1 x.2⟩ : {p : Value × β // okN R w A p}) := ⟨_, rfl⟩
      have hla : la.map (fun x => x.1) = ls := by
       rw [hla0, List.map_map]
       exact (List.attach_map_val (f := fun x => x)).trans (List.map_id _)
      have hlal : la.length = ls.length := by rw [← hla]; simp
      have hds : la.toArray.size = ls.length := by simpa using hlal
      have hget : ∀ i, i < ls.length → ls[i]? = some (la.toArray[i]!).1 := fun i hi => by
       have h1 : la[i]? = some la.toArray[i]! := by
        rw [getElem!_pos la.toArray i (by omega)]
        simp
       have h2 := congrArg (fun o => o.map fun x : {p : Value × β // okN R w A p} => x.1) h1
       rw [← List.getElem?_map, hla] at h2
       exact h2
      have hH : Holds (encN R) w b 0 la.toArray := fun j hj => by
       rw [hds] at hj
       obtain ⟨e1, _⟩ := hcv j _ (hget j hj)
       have hjc : j < c.size := by omega
       rw [Nat.mul_one, Nat.add_zero] at e1
       refine ⟨?_, ?_⟩
       ·show _ = some (la.toArray[j]!).1.1
        rw [← e1]
        simp [World.cell?, hb, Array.getD, hjc]
       ·simp [World.frozen?, hb]
      have hcmp : CmpLays1 P g #[] (encN R) (fun x y => cf x.1.2 y.1.2) b 0 la.toArray.size w := fun m os dk hdk x y => by
       have hkp := sortN_keeps R (w0 := w) (A := A) (w := w) (b := b) (F := fun z => z = b) (n := m) (d := dk) (os := os) rfl hblk rfl
       generalize sortWorld (encN R) w b 0 m dk os = W at *
       have hrel : RelL W (fun z => z < W.heap.size) [R x.1.2, R y.1.2] (#[encN R x, encN R y] ++ #[]) := by
        have hone : ∀ z : {p : Value × β // okN R w A p}, Rel W (fun z => z < W.heap.size) (R z.1.2) (encN R z) := fun z => z.2.2.mono (fun q hq => hkp.block q (hAb q hq).1 (hAb q hq).2) (fun q hq => Nat.lt_of_lt_of_le (hA q hq).1 hkp.size)
        refine ⟨rfl, fun i a ha => ?_⟩
        match i, ha with
        | 0, ha => cases ha; exact hone x
        | 1, ha => cases ha; exact hone y
        | i + 2, ha => simp at ha
       refine ((hp x.1.2 y.1.2).2 W _ (hg.keeps hkp fun z hz => hNG z (hz ▸ hF0 b hGb)) hrel).mono ?_
       rintro e w' ⟨v, F', rfl, hk', hx', _⟩
       cases hx' with
       | pure _ _ _ h _ _ => cases h; exact ⟨rfl, grow_of_keeps hk'⟩
      rw [List.length_map, show ls.length = la.toArray.size by omega] at fin ⊢
      refine (Any.slices_SortFunc L (encN R) (fun x => ?_) (fun x y => cf x.1.2 y.1.2) ⟨fun x => hO.irrefl x.1.2, fun x y z => hO.trans x.1.2 y.1.2 z.1.2, fun x y z => hO.ntrans x.1.2 y.1.2 z.1.2⟩ g #[] b 0 cap la.toArray w (hp x0.2 x0.2).1 hcmp hH hblk (by omega)).mono ?_
      ·exact x.2.1
      rintro e w' ⟨rfl, d', n, os, hp1, hp2, hw'⟩
      have hd's : d'.size = ls.length := hp1.1.trans hds
      have hperm : (d'.toList.map fun x => x.1).Perm ls := by
       have h5 := hp1.2.2
       rw [Array.extract_eq_self_of_le (by omega), Array.extract_eq_self_of_le (by omega)] at h5
       have := h5.map (fun x : {p : Value × β // okN R w A p} => x.1)
       rwa [List.toList_toArray, hla] at this
      have hsorted : ∀ (i j : Nat) x y, i < j → (d'.toList.map fun x => x.1)[i]? = some x → (d'.toList.map fun x => x.1)[j]? = some y → ¬ cf y.2 x.2 < 0 := fun i j x y hij hx hy => by
       rw [List.getElem?_map] at hx hy
       have hj : j < d'.size := by
        rcases Nat.lt_or_ge j d'.size with h | h
        ·exact h
        ·rw [List.getElem?_eq_none (by simpa using h)] at hy; cases hy
       have hi : i < d'.size := by omega
       have h5 := hp2 i j (Nat.zero_le _) hij (by omega)
       rw [getElem!_pos d' i hi, getElem!_pos d' j hj] at h5
       simp only [Array.getElem?_toList, Array.getElem?_eq_getElem hi, Array.getElem?_eq_getElem hj, Option.map_some, Option.some.injEq] at hx hy
       subst hx hy
       exact of_decide_eq_false h5
      have hrow := sortN_row R (cap := cap) d' hb (by omega) hsz (by omega) hAb n os hw'
      rw [hp1.1] at hrow
      exact fin w' _ (sortN_keeps R (w0 := w) (A := A) (hF0 b hGb) hblk hw') hperm hsorted ⟨_, hrow, fun z (hz : z = b) => hz ▸ hF0 b hGb⟩
end
end Go.Proofs.YtoafgafkmeghlaaGreatDoor
