/- Rows of owned values, opened: the header of each element is known and what it reads as; how such a row is closed again. -/
import Derived.Test.YtoafgafkmeghlaaGreatDoorInr
namespace Go.Proofs.YtoafgafkmeghlaaGreatDoor
open Go Go.RowKit
set_option linter.unusedVariables false
def opn {β : Type} (R : β → AV) (p : Value × β) : List AV := [.hd p.1 (R p.2)]
def clo {β : Type} (R : β → AV) (x : β) : List AV := [R x]
theorem rel_hd {w : World} {A : Nat → Prop} {x : AV} {v u : Value} (h : Rel w A (.hd v x) u) : u = v ∧ Rel w A x v := by
 cases h with
 | hd _ _ _ h => exact ⟨rfl, h⟩
theorem AC.hd2 {α : Type} {P : Program} {f : FuncId} {x y : AV} {u v : Value} {caps : List AV} {R : α → AV} {r : α} (h : AC P f (x :: y :: caps) R r) : AC P f (.hd u x :: .hd v y :: caps) R r :=
 ⟨h.1, fun w vs hg hr => h.2 w vs hg ⟨hr.1, fun i a ha => by
  match i, ha with
  | 0, ha => cases ha; obtain ⟨e, h⟩ := rel_hd (hr.2 0 _ rfl); rw [e]; exact h
  | 1, ha => cases ha; obtain ⟨e, h⟩ := rel_hd (hr.2 1 _ rfl); rw [e]; exact h
  | i + 2, ha => exact hr.2 (i + 2) a ha⟩⟩
theorem AC.hd1 {α : Type} {P : Program} {f : FuncId} {x : AV} {u : Value} {caps : List AV} {R : α → AV} {r : α} (h : AC P f (x :: caps) R r) : AC P f (.hd u x :: caps) R r :=
 ⟨h.1, fun w vs hg hr => h.2 w vs hg ⟨hr.1, fun i a ha => by
  match i, ha with
  | 0, ha => cases ha; obtain ⟨e, h⟩ := rel_hd (hr.2 0 _ rfl); rw [e]; exact h
  | i + 1, ha => exact hr.2 (i + 1) a ha⟩⟩
theorem open_row {β : Type} {R : β → AV} {w : World} {A : Nat → Prop} {l : List β} {v : Value} {F : Nat → Prop} (h : XRel w A (.sl true 1 (l.map (clo R))) v F) :
  ∃ (ls : List (Value × β)) (B : Nat → Prop) (H : Nat → Nat → Prop), ls.map Prod.snd = l ∧ (∀ p ∈ ls, p.1.oneCell' = true) ∧ (∀ (i : Nat) p, ls[i]? = some p → XRel w A (R p.2) p.1 (H i)) ∧ (∀ x, F x ↔ B x ∨ ∃ i, i < l.length ∧ H i x) ∧ (∀ i x, i < l.length → H i x → ¬ B x) ∧
   (∀ i j x, i < l.length → j < l.length → H i x → H j x → i = j) ∧ ∀ A2 : Nat → Prop, (∀ x, A x → A2 x) → (∀ i x, i < l.length → H i x → A2 x) → XRel w A2 (.sl true 1 (ls.map (opn R))) v B := by
 rcases own_row h with ⟨h1, rfl, h3⟩ | ⟨cap, b, T, c, G, rfl, hb, hl, hcap, hsz, hk, h1, hr, hF, h0, hd⟩
 ·have : l = [] := by simpa using h1
  subst this
  exact ⟨[], fun _ => False, fun _ _ => False, rfl, by simp, by simp, fun x => ⟨fun h => (h3 x h).elim, fun h => h.elim (fun h => h.elim) fun ⟨_, h, _⟩ => by simp at h⟩, fun i x h => by simp at h, fun i j x h => by simp at h, fun A2 _ _ => .nil 1 _ (fun _ h => h)⟩
 ·rw [List.length_map] at hl hcap h1 h0 hd ⊢
  have hg : ∀ i, (l.zipIdx.map fun q => (c.getD (q.2 * 1 + 0) undef, q.1))[i]? = (l[i]?).map fun x => (c.getD (i * 1 + 0) undef, x) := fun i => by
   rw [List.getElem?_map, List.getElem?_zipIdx]
   cases l[i]? <;> simp
  obtain ⟨ls, hls⟩ : ∃ ls, ls = l.zipIdx.map fun q => (c.getD (q.2 * 1 + 0) undef, q.1) := ⟨_, rfl⟩
  rw [← hls] at hg
  have hlen : ls.length = l.length := by rw [hls]; simp
  have hone : ∀ (i : Nat) (p : Value × β), ls[i]? = some p → p.1.oneCell' = true := fun i p hp => by
   rw [hg] at hp
   cases hx : l[i]? with
   | none => rw [hx] at hp; cases hp
   | some x =>
    rw [hx] at hp; cases hp
    exact h1 i 0 (List.getElem?_eq_some_iff.1 hx).1 (by omega)
  have hrr : ∀ (i : Nat) p, ls[i]? = some p → p.1 = c.getD (i * 1 + 0) undef ∧ XRel w A (R p.2) p.1 (G i 0) := fun i p hp => by
   rw [hg] at hp
   cases hx : l[i]? with
   | none => rw [hx] at hp; cases hp
   | some x =>
    rw [hx] at hp; cases hp
    exact ⟨rfl, hr i 0 (clo R x) (R x) (by rw [List.getElem?_map, hx]; rfl) rfl⟩
  refine ⟨ls, fun x => x = b, fun i x => G i 0 x, ?_, fun p hp => ?_, fun i p hp => (hrr i p hp).2, fun x => ?_, fun i x hi hx e => ?_, fun i j x hi hj h2 h3 => (hd i 0 j 0 x hi (by omega) hj (by omega) h2 h3).1, fun A2 hA hH => ?_⟩
  ·refine List.ext_getElem? fun i => ?_
   rw [List.getElem?_map, hg]
   cases l[i]? <;> rfl
  ·obtain ⟨i, hi⟩ := List.getElem?_of_mem hp
   exact hone i p hi
  ·rw [hF]
   constructor
   ·rintro (h | ⟨i, j, hi, hj, h⟩)
    ·exact .inl h
    ·have : j = 0 := by omega
     subst this
     exact .inr ⟨i, by simpa using hi, h⟩
   ·rintro (h | ⟨i, hi, h⟩)
    ·exact .inl h
    ·exact .inr ⟨i, 0, by simpa using hi, by omega, h⟩
  ·exact h0 i 0 hi (by omega) (e ▸ hx)
  ·have key := XRel.sl (w := w) (A := A2) 1 (ls.map (opn R)) cap b T c (fun x => x = b) (fun _ _ _ => False) hb (by rw [List.length_map, hlen]; exact hl) (by rw [List.length_map, hlen]; exact hcap) hsz (fun e he => by obtain ⟨p, _, rfl⟩ := List.mem_map.1 he; rfl)
    (fun i j hi hj => by rw [List.length_map, hlen] at hi; exact h1 i j hi hj) (fun i j e a he ha => ?_) (fun x => ⟨.inl, fun h => h.elim id fun ⟨_, _, _, _, h⟩ => h.elim⟩) (fun _ _ _ _ h => h) (fun _ _ _ _ _ _ _ _ _ h => h.elim)
   ·rw [List.length_map, hlen] at key; exact key
   ·rw [List.getElem?_map] at he
    cases hp : ls[i]? with
    | none => rw [hp] at he; cases he
    | some p =>
     rw [hp] at he; cases he
     have hi : i < l.length := by rw [← hlen]; exact (List.getElem?_eq_some_iff.1 hp).1
     cases j with
     | succ j => simp [opn] at ha
     | zero =>
      cases ha
      obtain ⟨e1, e2⟩ := hrr i p hp
      rw [← e1]
      have ho := hone i p hp
      exact .pure _ _ _ (.hd _ _ ho (e2.rel hA fun x hx => hH i x hi hx)) rfl (fun _ h => h)
def Sel {α : Type} (m l : List α) : Prop := ∃ idx : List Nat, idx.Nodup ∧ m.map some = idx.map fun i => l[i]?
theorem Sel.get {α : Type} {m l : List α} {idx : List Nat} (h : m.map some = idx.map fun i => l[i]?) {t : Nat} {p : α} (hp : m[t]? = some p) : ∃ i, idx[t]? = some i ∧ l[i]? = some p := by
 have h1 := congrArg (fun q => q[t]?) h
 simp only [List.getElem?_map, hp, Option.map_some] at h1
 cases hi : idx[t]? with
 | none => rw [hi] at h1; cases h1
 | some i => rw [hi] at h1; exact ⟨i, rfl, by simpa using h1.symm⟩
theorem Sel.perm {α : Type} {m l : List α} (h : m.Perm l) : Sel m l := by
 have key : ∀ {β : Type} {a b : List β}, a.Perm b → ∀ {γ : Type} (f : γ → β) (l2 : List γ), b = l2.map f → ∃ l1 : List γ, l1.Perm l2 ∧ a = l1.map f := by
  intro β a b hp
  induction hp with
  | nil => intro γ f l2 h2; exact ⟨l2, .refl _, h2⟩
  | cons x _ ih =>
   intro γ f l2 h2
   cases l2 with
   | nil => cases h2
   | cons y l2 =>
    rw [List.map_cons] at h2
    injection h2 with e1 e2
    obtain ⟨l1, g1, g2⟩ := ih f l2 e2
    exact ⟨y :: l1, g1.cons y, by rw [List.map_cons, ← g2, e1]⟩
  | swap x y l =>
   intro γ f l2 h2
   match l2, h2 with
   | p :: q :: l2, h2 =>
    simp only [List.map_cons, List.cons.injEq] at h2
    obtain ⟨e1, e2, e3⟩ := h2
    exact ⟨q :: p :: l2, .swap _ _ _, by simp [e1, e2, e3]⟩
  | trans _ _ ih1 ih2 =>
   intro γ f l2 h2
   obtain ⟨l1, g1, g2⟩ := ih2 f l2 h2
   obtain ⟨l0, g3, g4⟩ := ih1 f l1 g2
   exact ⟨l0, g3.trans g1, g4⟩
 have e : l.map some = (List.range l.length).map fun i => l[i]? := by
  refine List.ext_getElem? fun i => ?_
  rw [List.getElem?_map, List.getElem?_map]
  by_cases hi : i < l.length
  ·rw [List.getElem?_range hi, List.getElem?_eq_getElem hi]; simp [hi]
  ·rw [List.getElem?_eq_none (by omega), List.getElem?_eq_none (by simpa using hi)]; rfl
 obtain ⟨idx, h1, h2⟩ := key (h.map some) (fun i => l[i]?) (List.range l.length) e
 exact ⟨idx, h1.nodup_iff.2 List.nodup_range, h2⟩
theorem ACM.close {P : Program} {f : FuncId} {β : Type} {R : β → AV} (hR : ∀ x, NoB (R x)) {rest : List AV} {l : List β} {Q : AV → List AV → Prop} (hent : Enters P f)
  (h : ∀ ls : List (Value × β), ls.map Prod.snd = l → (∀ p ∈ ls, p.1.oneCell' = true) → ACS P f (.sl true 1 (ls.map (opn R)) :: rest) (fun r ys => ∃ (pos : Nat) (m : List (Value × β)) (r' : AV) (ys' : List AV), Sel m ls ∧ (r :: ys)[pos]? = some (.sl true 1 (m.map (opn R))) ∧
   (∀ (j : Nat) a, j ≠ pos → (r :: ys)[j]? = some a → NoB a) ∧ r' :: ys' = (r :: ys).set pos (.sl true 1 ((m.map Prod.snd).map (clo R))) ∧ Q r' ys')) : ACM P f (.sl true 1 (l.map (clo R)) :: rest) Q := by
 refine ⟨hent, fun w A vs F hg hX hA hFs hNG => ?_⟩
 cases hX with
 | pure _ _ _ _ ho _ => simp [AV.isOwn] at ho
 | tup _ _ _ G hn hc hFe hd =>
  have h0 : XRel w A (.sl true 1 (l.map (clo R))) (vs.getD 0 undef) (G 0) := hc 0 _ rfl
  obtain ⟨ls, B, H, e1, e2, e3, e4, e5, e6, e7⟩ := open_row h0
  have hF0 : ∀ x, G 0 x → F x := fun x hx => (hFe x).2 ⟨0, by simp, hx⟩
  have hHF : ∀ i x, i < l.length → H i x → F x := fun i x hi hx => hF0 x ((e4 x).2 (.inr ⟨i, hi, hx⟩))
  have hlen : ls.length = l.length := by rw [← e1, List.length_map]
  have hX2 : XRel w (fun x => A x ∨ ∃ i, i < l.length ∧ H i x) (.tup (.sl true 1 (ls.map (opn R)) :: rest)) (.tuple vs) (fun x => F x ∧ ¬ ∃ i, i < l.length ∧ H i x) := by
   refine .tup _ _ _ (fun j x => if j = 0 then B x else G j x) (by simpa using hn) (fun j a ha => ?_) (fun x => ?_) (fun i j x hi hj h1 h2 => ?_)
   ·cases j with
    | zero => cases ha; exact (e7 _ (fun x hx => .inl hx) (fun i x hi hx => .inr ⟨i, hi, hx⟩)).congr fun x => by rw [if_pos rfl]
    | succ j => exact (XRel.mono (fun x hx => .inl hx) (hc (j + 1) a ha) (fun _ _ => rfl)).congr fun x => by rw [if_neg (by omega)]
   ·constructor
    ·rintro ⟨hf, hno⟩
     obtain ⟨j, hj, hx⟩ := (hFe x).1 hf
     refine ⟨j, by simpa using hj, ?_⟩
     by_cases e : j = 0
     ·subst e; rw [if_pos rfl]; exact ((e4 x).1 hx).resolve_right hno
     ·rw [if_neg e]; exact hx
    ·rintro ⟨j, hj, hx⟩
     by_cases e : j = 0
     ·subst e; rw [if_pos rfl] at hx
      exact ⟨hF0 x ((e4 x).2 (.inl hx)), fun ⟨i, hi, h⟩ => e5 i x hi h hx⟩
     ·rw [if_neg e] at hx
      refine ⟨(hFe x).2 ⟨j, by simpa using hj, hx⟩, fun ⟨i, hi, h⟩ => ?_⟩
      exact e (hd 0 j x (by simp) (by simpa using hj) ((e4 x).2 (.inr ⟨i, hi, h⟩)) hx).symm
   ·have tr : ∀ i, (if i = 0 then B x else G i x) → G i x := fun i h => by
     by_cases e : i = 0
     ·subst e; rw [if_pos rfl] at h; exact (e4 x).2 (.inl h)
     ·rw [if_neg e] at h; exact h
    exact hd i j x (by simpa using hi) (by simpa using hj) (tr i h1) (tr j h2)
  refine ((h ls e1 e2).2 w _ vs _ hg hX2 (fun b hb => ?_) (fun b hb => hFs b hb.1) (fun b hb => hNG b hb.1)).mono ?_
  ·rcases hb with hb | ⟨i, hi, hb⟩
   ·exact ⟨(hA b hb).1, fun h => (hA b hb).2 h.1⟩
   ·exact ⟨hFs b (hHF i b hi hb), fun h => h.2 ⟨i, hi, hb⟩⟩
  ·rintro e w' ⟨v, G', A', r, ys, ⟨pos, m, r', ys', ⟨idx, hnd, hidx⟩, hpos, hoth, hset, hQ⟩, rfl, hkp, hX3, hG', hA'⟩
   have hlt : ∀ (t i : Nat), idx[t]? = some i → t < m.length → i < l.length := fun t i hi ht => by
    obtain ⟨p, hp⟩ : ∃ p, m[t]? = some p := ⟨_, List.getElem?_eq_getElem ht⟩
    obtain ⟨i', h1, h2⟩ := Sel.get hidx hp
    rw [hi] at h1; cases h1
    rw [← hlen]; exact (List.getElem?_eq_some_iff.1 h2).1
   have hil : idx.length = m.length := by have := congrArg List.length hidx; simpa using this.symm
   cases hX3 with
   | pure _ _ _ _ ho _ => simp [AV.isOwn] at ho
   | tup _ _ _ Gc hn3 hc3 hFe3 hd3 =>
    have hplt := (List.getElem?_eq_some_iff.1 hpos).1
    have hrow := hc3 pos _ hpos
    have hG'j : ∀ j x, j < (r :: ys).length → Gc j x → F x ∨ w.heap.size ≤ x ∧ x < w'.heap.size := fun j x hj hx => by
     rcases hG' x ((hFe3 x).2 ⟨j, hj, hx⟩) with h1 | h1
     ·exact .inl h1.1
     ·exact .inr h1
    have hHG : ∀ i j x, i < l.length → j < (r :: ys).length → H i x → ¬ Gc j x := fun i j x hi hj h1 h2 => by
     rcases hG' x ((hFe3 x).2 ⟨j, hj, h2⟩) with h3 | h3
     ·exact h3.2 ⟨i, hi, h1⟩
     ·have := hFs x (hHF i x hi h1); omega
    have hkb : ∀ x, A x ∨ (∃ i, i < l.length ∧ H i x) → w'.heap[x]? = w.heap[x]? := fun x hx => by
     refine hkp.block x ?_ fun h2 => ?_
     ·rcases hx with h1 | ⟨i, hi, h1⟩
      ·exact (hA x h1).1
      ·exact hFs x (hHF i x hi h1)
     ·rcases hx with h1 | h1
      ·exact (hA x h1).2 h2.1
      ·exact h2.2 h1
    have hin : ∀ (i : Nat) p, ls[i]? = some p → XRel w' (fun _ => False) (R p.2) p.1 (H i) := fun i p hp => by
     have hi : i < l.length := by rw [← hlen]; exact (List.getElem?_eq_some_iff.1 hp).1
     have h1 : XRel w' A (R p.2) p.1 (H i) := (e3 i p hp).mono (fun _ h => h) fun x hx => hkb x (hx.imp_right fun h => ⟨i, hi, h⟩)
     exact h1.noB (hR _)
    have hnew : XRel w' (fun _ => False) (.sl true 1 ((m.map Prod.snd).map (clo R))) ((#[v] ++ vs).getD pos undef) (fun x => Gc pos x ∨ ∃ t i, t < m.length ∧ idx[t]? = some i ∧ H i x) := by
     rcases own_row hrow with ⟨g1, g2, g3⟩ | ⟨cap, b, T, c, Gr, g1, hb, hl, hcap, hsz, hk, h1, hr, hF, h0, hdr⟩
     ·have : m = [] := by simpa using g1
      subst this
      rw [g2]
      exact .nil 1 _ fun x hx => hx.elim (g3 x) fun ⟨t, i, h, _⟩ => by simp at h
     ·have hval : ∀ t p, m[t]? = some p → c.getD (t * 1 + 0) undef = p.1 := fun t p hp => by
       have h2 := hr t 0 (opn R p) (.hd p.1 (R p.2)) (by rw [List.getElem?_map, hp]; rfl) rfl
       cases h2 with
       | pure _ _ _ h2 _ _ => exact (rel_hd h2).1
      rw [List.length_map] at hl hcap h1 h0 hdr g1
      rw [g1]
      have hbG : Gc pos b := (hF b).2 (.inl rfl)
      have key := XRel.sl (w := w') (A := fun _ => False) 1 ((m.map Prod.snd).map (clo R)) cap b T c (fun x => Gc pos x ∨ ∃ t i, t < m.length ∧ idx[t]? = some i ∧ H i x) (fun t j x => (Gr t j x ∧ False) ∨ ∃ i, idx[t]? = some i ∧ H i x) hb
       (by simpa using hl) (by simpa using hcap) hsz (fun e he => by obtain ⟨p, _, rfl⟩ := List.mem_map.1 he; rfl) (fun t j ht hj => h1 t j (by simpa using ht) hj)
       (fun t j e a he ha => ?_) (fun x => ?_) (fun t j ht hj hx => ?_) (fun t j t' j' x ht hj ht' hj' hx hx' => ?_)
      ·rw [List.length_map, List.length_map] at key; exact key
      ·rw [List.getElem?_map, List.getElem?_map] at he
       cases hp : m[t]? with
       | none => rw [hp] at he; cases he
       | some p =>
        rw [hp] at he; cases he
        cases j with
        | succ j => simp [clo] at ha
        | zero =>
         cases ha
         obtain ⟨i, hi, hpi⟩ := Sel.get hidx hp
         rw [hval t p hp]
         exact (hin i p hpi).congr fun x => ⟨fun h => h.elim (fun h => h.2.elim) (fun ⟨i', h1, h2⟩ => by rw [hi] at h1; cases h1; exact h2), fun h => .inr ⟨i, hi, h⟩⟩
      ·constructor
       ·rintro (hx | ⟨t, i, ht, hi, hx⟩)
        ·rcases (hF x).1 hx with hx | ⟨t, j, ht, hj, hx⟩
         ·exact .inl hx
         ·exfalso
          rw [List.length_map] at ht
          have : j = 0 := by omega
          subst this
          have h2 := hr t 0 (opn R m[t]) (.hd m[t].1 (R m[t].2)) (by rw [List.getElem?_map, List.getElem?_eq_getElem ht]; rfl) rfl
          cases h2 with
          | pure _ _ _ _ _ hno => exact hno x hx
        ·exact .inr ⟨t, 0, by simpa using ht, by omega, .inr ⟨i, hi, hx⟩⟩
       ·rintro (hx | ⟨t, j, ht, hj, hx⟩)
        ·exact .inl (hx ▸ hbG)
        ·rcases hx with hx | ⟨i, hi, hx⟩
         ·exact hx.2.elim
         ·exact .inr ⟨t, i, by simpa using ht, hi, hx⟩
      ·rcases hx with hx | ⟨i, hi, hx⟩
       ·exact hx.2
       ·rw [List.length_map, List.length_map] at ht
        exact hHG i pos b (hlt t i hi ht) hplt hx hbG
      ·rw [List.length_map, List.length_map] at ht ht'
       rcases hx with hx | ⟨i, hi, hx⟩
       ·exact hx.2.elim
       ·rcases hx' with hx' | ⟨i', hi', hx'⟩
        ·exact hx'.2.elim
        ·have e := e6 i i' x (hlt t i hi ht) (hlt t' i' hi' ht') hx hx'
         subst e
         have := (List.getElem?_inj (i := t) (j := t') (by omega) hnd).1 (hi.trans hi'.symm)
         exact ⟨this, by omega⟩
    refine ⟨v, fun x => ∃ j, j < (r' :: ys').length ∧ (if j = pos then Gc pos x ∨ ∃ t i, t < m.length ∧ idx[t]? = some i ∧ H i x else Gc j x), r', ys', hQ, rfl, hkp.weaken (fun x h => h.1), ?_, fun b hb => ?_⟩
    ·have hle : (r' :: ys').length = (r :: ys).length := by rw [hset, List.length_set]
     refine .tup _ _ _ (fun j x => if j = pos then Gc pos x ∨ ∃ t i, t < m.length ∧ idx[t]? = some i ∧ H i x else Gc j x) (by rw [hle]; exact hn3) (fun j a ha => ?_) (fun x => Iff.rfl) (fun i j x hi hj h1 h2 => ?_)
     ·rw [hset, List.getElem?_set] at ha
      by_cases e : pos = j
      ·rw [if_pos e, if_pos hplt] at ha
       cases ha
       subst e
       exact hnew.congr fun x => by rw [if_pos rfl]
      ·rw [if_neg e] at ha
       refine ((hc3 j a ha).noB (hoth j a (Ne.symm e) ha)).congr fun x => ?_
       rw [if_neg (Ne.symm e)]
     ·rw [hle] at hi hj
      by_cases ei : i = pos
      ·by_cases ej : j = pos
       ·rw [ei, ej]
       ·rw [if_pos ei] at h1; rw [if_neg ej] at h2
        rcases h1 with h1 | ⟨t, k, ht, hk, h1⟩
        ·rw [ei]; exact hd3 pos j x hplt hj h1 h2
        ·exact (hHG k j x (hlt t k hk ht) hj h1 h2).elim
      ·by_cases ej : j = pos
       ·rw [if_neg ei] at h1; rw [if_pos ej] at h2
        rcases h2 with h2 | ⟨t, k, ht, hk, h2⟩
        ·rw [ej]; exact hd3 i pos x hi hplt h1 h2
        ·exact (hHG k i x (hlt t k hk ht) hi h2 h1).elim
       ·rw [if_neg ei] at h1; rw [if_neg ej] at h2
        exact hd3 i j x hi hj h1 h2
    ·obtain ⟨j, hj, hb⟩ := hb
     have hle : (r' :: ys').length = (r :: ys).length := by rw [hset, List.length_set]
     rw [hle] at hj
     by_cases e : j = pos
     ·rw [if_pos e] at hb
      rcases hb with hb | ⟨t, k, ht, hk, hb⟩
      ·exact hG'j pos b hplt hb
      ·exact .inl (hHF k b (hlt t k hk ht) hb)
     ·rw [if_neg e] at hb
      exact hG'j j b hj hb
end Go.Proofs.YtoafgafkmeghlaaGreatDoor
