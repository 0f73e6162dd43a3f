/- What an operation asks for is one value. -/
import Derived.Test.YtlemeenicaidfaaGreatDoorAxD
import Derived.Orders
namespace Go.Proofs.YtlemeenicaidfaaGreatDoor
set_option linter.unusedVariables false
set_option linter.unusedSimpArgs false
open Go Go.RowKit

section
variable {P : Program} {np : Nat} {L : Lay} {W : WM} {w w' : World} {A : Nat → Prop} {os os' : List Obj} {hd hd' : Nat → Value} {F F' : Nat → Nat → Prop} {s : AS} {a : Act}

theorem ofCells_pick {t : TypeId} {cs : List AV} {K : AV → Prop} (hk : ofCells L t cs K) : ∃ x, K x ∧ ofCells L t cs (· = x) := by
 unfold ofCells at hk ⊢
 generalize (L.ty t).d = d at hk ⊢
 generalize (L.ty t).agg = g at hk ⊢
 cases g
 ·cases d <;> cases cs <;> first | exact hk.elim | exact ⟨_, hk, rfl⟩
 ·cases d <;> simp only at hk ⊢ <;> first | exact hk.elim | (split at hk <;> first | exact hk.elim | (rename_i h; exact ⟨_, hk, by simp only [h, if_true]⟩))

theorem abin_pick [St] {op : BinOp} {t : TypeId} {x y : AV} {K : AV → Prop} (hk : abin (stdE np P) L op t x y K) : ∃ x', K x' ∧ abin (stdE np P) L op t x y (· = x') := by
 unfold abin at hk
 split at hk
 ·rename_i k n k' m
  simp only [abin]
  split at hk
  ·exact ⟨_, hk.2, hk.1, rfl⟩
  rename_i hop
  split at hk
  ·rename_i e
   subst e
   simp only [if_true]
   unfold abinInt at hk ⊢
   cases op <;> first | exact (hop rfl).elim | skip
   all_goals first | exact hk.elim | exact ⟨_, hk, rfl⟩ | exact ⟨_, hk.2, hk.1, rfl⟩
  ·exact hk.elim
 ·simp only [abin]
  unfold abinStr at hk ⊢
  cases op <;> first | exact hk.elim | exact ⟨_, hk, rfl⟩ | exact ⟨_, hk.2, hk.1, rfl⟩
 ·simp only [abin]
  generalize (L.ty t).d = d at hk ⊢
  cases d <;> cases op <;> first | exact hk.elim | exact ⟨_, hk, rfl⟩
 ·simp only [abin]
  split at hk
  ·rename_i ps hps; exact ⟨_, hk, rfl⟩
  ·rename_i ps hps; exact ⟨_, hk, rfl⟩
  ·exact hk.elim
 ·exact hk.elim

theorem aval_pick [St] (hw : CW W w A s.os hd F) {op : Op} (hx : ∀ y ∈ op.operands, SRel w A s.os hd (s.get y) (a.eval y)) {K : AV → Prop} (hk : aval (stdE np P) L s op K) : ∃ x, K x ∧ aval (stdE np P) L s op (· = x) := by
 cases op
 case move x => exact ⟨_, hk, rfl⟩
 case assign x => exact ⟨_, hk, rfl⟩
 case binOp => exact abin_pick hk
 case pick c x y =>
  simp only [aval] at hk ⊢
  split at hk
  ·rename_i b e
   split at hk
   ·rename_i hb; exact ⟨_, hk, by simp only [hb, if_true]⟩
   ·rename_i hb; exact ⟨_, hk, by rw [if_neg hb]⟩
  ·exact hk.elim
 case unOp o t x =>
  cases o <;> simp only [aval] at hk ⊢ <;> first | exact hk.elim | (split at hk <;> first | exact hk.elim | exact ⟨_, hk, rfl⟩)
 case nilCheck x =>
  simp only [aval] at hk ⊢
  split at hk
  ·exact ⟨_, hk, rfl⟩
  ·split at hk
   ·rename_i e; exact ⟨_, hk, rfl⟩
   ·exact hk.elim
  ·split at hk
   ·rename_i e; exact ⟨_, hk, rfl⟩
   ·exact hk.elim
  ·exact hk.elim
 case load t x =>
  simp only [aval] at hk ⊢
  split at hk
  ·exact ofCells_pick hk
  ·split at hk
   ·exact ofCells_pick hk
   ·exact hk.elim
  ·split at hk
   ·rename_i e
    obtain ⟨h0, r, hr, hk⟩ := hk
    split at hk
    ·rename_i hfl
     obtain ⟨x', h1, h2⟩ := ofCells_pick hk
     exact ⟨x', h1, ⟨h0, r, hr, by simp only [hfl, if_true]; exact h2⟩⟩
    ·exact hk.elim
   ·exact hk.elim
  ·exact hk.elim
 case fieldAddr t x f =>
  simp only [aval] at hk ⊢
  split at hk
  ·rename_i h1 h2; exact ⟨_, hk, by simp only⟩
  ·split at hk
   ·rename_i e; exact ⟨_, hk, rfl⟩
   ·exact hk.elim
  ·split at hk
   ·rename_i e; exact ⟨_, hk, rfl⟩
   ·exact hk.elim
  ·exact hk.elim
 case field t x f =>
  simp only [aval] at hk ⊢
  split at hk
  ·exact ofCells_pick hk
  ·exact hk.elim
 case indexAddr t x ix =>
  simp only [aval] at hk ⊢
  split at hk
  ·split at hk
   ·rename_i e
    obtain ⟨h0, r, hr, hk⟩ := hk
    exact ⟨_, hk, by simp only [e, if_true]; exact ⟨h0, r, hr, rfl⟩⟩
   ·exact hk.elim
  ·split at hk
   ·rename_i e
    split at hk
    ·rename_i e2
     obtain ⟨h0, r, hr, hk⟩ := hk
     exact ⟨_, hk, by rw [if_pos e2]; exact ⟨h0, r, hr, rfl⟩⟩
    ·exact hk.elim
   ·exact hk.elim
  ·split at hk
   ·rename_i e
    split at hk
    ·rename_i e2
     obtain ⟨hn, hk⟩ := hk
     exact ⟨_, hk, by rw [if_pos e2]; exact ⟨hn, rfl⟩⟩
    ·exact hk.elim
   ·exact hk.elim
  ·split at hk
   ·split at hk
    ·rename_i e2
     exact ⟨_, hk, by rw [if_pos e2]⟩
    ·exact hk.elim
   ·exact hk.elim
  ·exact hk.elim
 case index t x ix =>
  simp only [aval] at hk ⊢
  split at hk
  ·split at hk
   ·rename_i e
    obtain ⟨h0, hr, hk⟩ := hk
    exact ⟨_, hk, by simp only [e, if_true]; exact ⟨h0, hr, rfl⟩⟩
   ·exact hk.elim
  ·split at hk
   ·rename_i len e hd'
    obtain ⟨h0, r, hr, hk⟩ := hk
    obtain ⟨x', g1, g2⟩ := ofCells_pick hk
    exact ⟨x', g1, ⟨h0, r, hr, g2⟩⟩
   ·exact hk.elim
  ·exact hk.elim
 case extract x i =>
  simp only [aval] at hk ⊢
  split at hk
  ·split at hk
   ·rename_i e; exact ⟨_, hk, rfl⟩
   ·exact hk.elim
  ·exact hk.elim
 case convert src dst x =>
  simp only [aval] at hk ⊢
  split at hk
  ·exact ⟨_, hk, rfl⟩
  ·split at hk
   ·rename_i hu; obtain ⟨ns, h1, h2⟩ := hk; exact ⟨_, h2, by rw [if_pos hu]; exact ⟨ns, h1, rfl⟩⟩
   ·exact hk.elim
  ·split at hk
   ·rename_i ho
    split at hk
    ·rename_i hu; obtain ⟨ns, h1, h2⟩ := hk; exact ⟨_, h2, by rw [if_pos hu]; exact ⟨ns, h1, rfl⟩⟩
    ·exact hk.elim
   ·exact hk.elim
  ·exact hk.elim
 case makeFunc f first captured =>
  cases f <;> simp only [aval] at hk ⊢ <;> first | exact hk.elim | (split at hk <;> first | exact hk.elim | exact ⟨_, hk, rfl⟩ | (split at hk <;> first | exact hk.elim | (split at hk <;> first | exact hk.elim | exact ⟨_, hk, by simp only [*]⟩)))
 case slice t x lo hi mx =>
  cases mx with
  | some m =>
   simp only [aval] at hk ⊢
   split at hk
   ·rename_i g1 g2 g3 g4
    split at hk
    ·rename_i e
     split at hk
     ·rename_i e2
      obtain ⟨h0, h1, h2, h0', h1', h2', hk⟩ := hk
      exact ⟨_, hk, by rw [if_pos e2]; exact ⟨h0, h1, h2, h0', h1', h2', rfl⟩⟩
     ·exact hk.elim
    ·exact hk.elim
   ·exact hk.elim
  | none =>
   simp only [aval] at hk ⊢
   split at hk
   ·split at hk
    ·rename_i e
     obtain ⟨h0, h1, h2, hk⟩ := hk
     exact ⟨_, hk, by simp only [e, if_true]; exact ⟨h0, h1, h2, rfl⟩⟩
    ·exact hk.elim
   ·split at hk
    ·rename_i e
     obtain ⟨h0, h1, h2, hk⟩ := hk
     exact ⟨_, hk, by simp only [e, if_true]; exact ⟨h0, h1, h2, rfl⟩⟩
    ·exact hk.elim
   ·split at hk
    ·rename_i e
     split at hk
     ·rename_i e2
      obtain ⟨h0, h1, h2, hk⟩ := hk
      exact ⟨_, hk, by rw [if_pos e2]; exact ⟨h0, h1, h2, rfl⟩⟩
     ·exact hk.elim
    ·exact hk.elim
   ·split at hk
    ·rename_i e
     split at hk
     ·rename_i e2
      obtain ⟨h0, h1, h2, hk⟩ := hk
      exact ⟨_, hk, by rw [if_pos e2]; exact ⟨h0, h1, h2, rfl⟩⟩
     ·exact hk.elim
    ·exact hk.elim
   ·split at hk
    ·rename_i e
     split at hk
     ·rename_i e2
      have hb := (hw.rel_row e).sl_len.choose_spec.choose_spec.2.1
      obtain ⟨h0, h1, h2, hk⟩ := hk hb
      exact ⟨_, hk, by simp only [e2, if_true]; exact fun _ => ⟨h0, h1, h2, rfl⟩⟩
     ·exact hk.elim
    ·exact hk.elim
   ·split at hk
    ·rename_i e
     split at hk
     ·rename_i ez
      split at hk
      ·rename_i e2
       obtain ⟨h0, h1, h2, hk⟩ := hk
       exact ⟨_, hk, by rw [if_pos ez, if_pos e2]; exact ⟨h0, h1, h2, rfl⟩⟩
      ·exact hk.elim
     ·exact hk.elim
    ·exact hk.elim
   ·exact hk.elim
 case call c =>
  simp only [aval] at hk ⊢
  split at hk
  ·split at hk
   ·rename_i x t hxs hts
    have hm : SRel w A s.os hd (s.get x) (a.eval x) := hx x (by
     simp only [Op.operands, Call.operands]
     have : x ∈ c.args := by rw [← Array.mem_toList_iff, hxs]; simp
     simp [this])
    split at hk
    ·rename_i e; rw [e] at hm
     have hb := hm.sl_inv.sl_len.choose_spec.choose_spec.2.1
     exact ⟨_, hk hb, fun _ => rfl⟩
    ·exact ⟨_, hk, rfl⟩
    ·split at hk
     ·rename_i e
      have hb := (hw.rel_row e).sl_len.choose_spec.choose_spec.2.1
      exact ⟨_, hk hb, by exact fun _ => rfl⟩
     ·exact hk.elim
    ·split at hk
     ·rename_i e; exact ⟨_, hk, rfl⟩
     ·exact hk.elim
    ·rename_i e; rw [e] at hm
     exact ⟨_, hk hm.str_inv.2, fun _ => rfl⟩
    ·exact hk.elim
   ·exact hk.elim
  ·split at hk
   ·rename_i hxs
    split at hk
    ·exact ⟨_, hk, rfl⟩
    ·exact hk.elim
   ·exact hk.elim
  ·split at hk
   ·rename_i hxs
    split at hk
    ·exact ⟨_, hk, rfl⟩
    ·exact hk.elim
   ·exact hk.elim
  ·exact hk.elim
 all_goals exact hk.elim
end
end Go.Proofs.YtlemeenicaidfaaGreatDoor

/- Regions that draw their order: the walk in the text's order serves every order. -/
namespace Go.Proofs.YtlemeenicaidfaaGreatDoor
set_option linter.unusedVariables false
set_option linter.unusedSimpArgs false
open Go Go.RowKit

section
variable {P : Program} {np : Nat} {L : Lay} {W : WM} {w w' : World} {A : Nat → Prop} {os os' : List Obj} {hd hd' : Nat → Value} {F F' : Nat → Nat → Prop} {s : AS} {a : Act}

theorem FR.to {A' : Nat → Prop} {fr : List AV} (h : FR w A os hd fr a) (hm : ∀ y u, SRel w A os hd y u → SRel w' A' os' hd' y u) : FR w' A' os' hd' fr a :=
 ⟨h.nodef, h.size, fun t x hx => hm _ _ (h.slots t x hx)⟩

/-- What one operation of a drawn region does. -/
def Ran [St] (W : WM) (w : World) (A : Nat → Prop) (s : AS) (hd : Nat → Value) (F : Nat → Nat → Prop) (x : AV) (v : Value) (w' : World) (A' : Nat → Prop) : Prop :=
 Keeps (fun _ => False) w w' ∧ CW W w' A' s.os hd F ∧ ((∀ b, A b → A' b) ∧ ∀ b, A' b → A b ∨ w.heap.size ≤ b) ∧ SRel w' A' s.os hd x v

theorem call_ran [St] (hw : CW W w A s.os hd F) {x : AV} {v : Value} {G : Nat → Prop} (h1 : Keeps (fun _ => False) w w') (h2 : XRel w' (fun _ => False) x v G) (h3 : ∀ b, G b → w.heap.size ≤ b ∧ b < w'.heap.size) :
  Ran W w A s hd F x v w' (fun b => A b ∨ G b) :=
 ⟨h1, (hw.keep h1).grow (fun y hy => ⟨(h3 y hy).2, fun id h => by have := (hw.fsz id y h).2; have := (h3 y hy).1; omega⟩) (fun y hy => Nat.le_trans hw.below.size (h3 y hy).1), ⟨fun _ h => .inl h, fun b h => h.imp (fun h => h) fun h => (h3 b h).1⟩, .pure _ _ (h2.rel (fun _ h => h.elim) (fun _ h => .inr h))⟩

theorem allPure_get {l : List AV} (h : AV.allPure l = true) {i : Nat} {x : AV} (hx : l[i]? = some x) : x.isPure = true := by
 induction l generalizing i with
 | nil => simp at hx
 | cons y l ih =>
  unfold AV.allPure at h
  split at h
  ·cases i with
   | zero => simp at hx; subst hx; assumption
   | succ i => simp at hx; exact ih h hx
  ·cases h
theorem SRel.of_pure {x : AV} {v : Value} (h : SRel w A os hd x v) (hx : x.isPure = true) : Rel w A x v := by
 cases x <;> first | exact h.pure_inv trivial | cases hx

theorem ran_built [St] (hL : L.ty = layOf P) (hw : CW W w A s.os hd F) {o : Oper} (hx : ∀ y ∈ o.op.operands, SRel w A s.os hd (s.get y) (a.eval y)) {x : AV} (hk : abuilt L s o.op = some x) :
  ∃ v w' A', (execOp a.eval o).run P w = .ok (.value v) w' ∧ Ran W w A s hd F x v w' A' := by
 obtain ⟨dst, op, ty, pos, af, g⟩ := o
 cases op
 case build t parts =>
  simp only [abuilt] at hk
  split at hk
  ·cases hk
  ·rename_i fs z hd0 hz
   split at hk
   ·rename_i cs hkn hcs
    cases hk
    obtain ⟨v, h1, h2⟩ := built_struct (dst := dst) (ty := ty) (pos := pos) (af := af) (g := g) hL hw hd0 (by intro e; simp_all) hkn hcs (fun p hp => hx _ (by simp only [Op.operands]; exact List.mem_toArray.2 (List.mem_map.2 ⟨p, hp, rfl⟩)))
    exact ⟨v, w, A, h1, Keeps.refl _ _, hw, ⟨fun _ h => h, fun _ h => .inl h⟩, h2⟩
   ·cases hk
  ·rename_i len e hd0 hz
   split at hk
   ·cases hk
   ·rename_i cs hcs hne
    cases hk
    obtain ⟨v, h1, h2⟩ := built_array (dst := dst) (ty := ty) (pos := pos) (af := af) (g := g) hL hw hd0 (by intro e; simp_all) (by intro e; simp_all) hcs (fun p hp => hx _ (by simp only [Op.operands]; exact List.mem_toArray.2 (List.mem_map.2 ⟨p, hp, rfl⟩)))
    exact ⟨v, w, A, h1, Keeps.refl _ _, hw, ⟨fun _ h => h, fun _ h => .inl h⟩, h2⟩
   ·cases hk
  ·cases hk
 case buildSlice t len parts =>
  simp only [abuilt] at hk
  split at hk
  ·rename_i e hd0
   split at hk
   ·cases hk
   ·cases hk
   ·rename_i z hne hz
    split at hk
    ·rename_i hh
     split at hk
     ·rename_i cs hcs
      split at hk
      ·rename_i hp
       cases hk
       obtain ⟨c, e2, hcsl, e3, hn0, hr0⟩ := built_slice (dst := dst) (ty := ty) (pos := pos) (af := af) (g := g) hL hw hd0 (by intro e; simp_all) (by intro e; simp_all) hh.1 hh.2 hcs (fun p hp => hx _ (by simp only [Op.operands]; exact List.mem_toArray.2 (List.mem_map.2 ⟨p, hp, rfl⟩)))
       generalize hkn : (L.ty e).n = n at *
       have hkp := Keeps.alloc w c e
       have hes : (rowsOf n len cs).length = len := rowsOf_length _ _ _
       have idx : ∀ i j, i < len → j < n → i * n + j < len * n := fun i j hi hj => by
        have : (i + 1) * n ≤ len * n := Nat.mul_le_mul_right n hi
        rw [Nat.add_mul] at this
        omega
       have hA' : ∀ y, A y → (w.alloc (.cells c e)).heap[y]? = w.heap[y]? := fun y hy => hkp.block y (hw.hA y hy).1 (fun h => h)
       refine ⟨_, _, fun b => A b ∨ b = w.heap.size, hr0, hkp, (hw.keep hkp).grow (fun y hy => ?_) (fun y hy => by subst hy; exact hw.below.size), ⟨fun _ h => .inl h, fun b h => h.imp (fun h => h) fun h => by omega⟩, .pure _ _ ?_⟩
       ·subst hy
        exact ⟨by simp, fun id h => Nat.lt_irrefl _ (hw.fsz id _ h).2⟩
       ·have key := Rel.sl (w := w.alloc (.cells c e)) (A := fun b => A b ∨ b = w.heap.size) false n (rowsOf n len cs) (some ⟨w.heap.size, 0, none⟩) len w.heap.size 0 (fun i j => c.getD (i * n + j) undef)
         (by rw [hes]; have := Nat.le_mul_of_pos_right len hn0; unfold maxLen; omega) (by rw [hes]; exact Nat.le_refl _) (fun _ => ⟨rfl, .inr rfl⟩) (fun r hr => by
          obtain ⟨i, hi⟩ := List.getElem?_of_mem hr
          have hi' := (List.getElem?_eq_some_iff.1 hi).1
          rw [hes] at hi'
          rw [rowsOf_get _ _ _ _ _ hi, List.length_take, List.length_drop, hcsl]
          have := idx i (n - 1) hi' (by omega)
          omega) (fun i j hi hj => by
          rw [hes] at hi
          have h5 : i * n + j < c.size := by rw [e2, hcsl]; exact idx i j hi hj
          have h6 : (w.alloc (.cells c e)).heap[w.heap.size]? = some (.cells c e (0, 0)) := heap_alloc_new w _
          rw [Nat.zero_add]
          simp only [World.cell?, h6]
          simp [h5]) (fun i j hi hj => by
          rw [hes] at hi
          have h5 : i * n + j < cs.length := by rw [hcsl]; exact idx i j hi hj
          refine okCell_spec (s := s) ?_ (e3 _ _ (List.getElem?_eq_getElem h5)) hw.row_hd
          have := allPure_get hp (List.getElem?_eq_getElem h5)
          generalize cs[i * n + j] = q at this
          cases q <;> first | rfl | cases this) (fun i j r y hr hy => by
          rw [rowsOf_get _ _ _ _ _ hr, List.getElem?_take] at hy
          split at hy
          ·rw [List.getElem?_drop] at hy
           exact ((e3 _ _ hy).of_pure (allPure_get hp hy)).mono hA' (fun _ h => .inl h)
          ·cases hy)
        rw [hes] at key
        exact key
      ·cases hk
     ·cases hk
    ·cases hk
  ·cases hk
 all_goals (simp only [abuilt] at hk; cases hk)

theorem aread_sound [St] (hL : L.ty = layOf P) (hw : CW W w A s.os hd F) {o : Oper} (hx : ∀ y ∈ o.op.operands, SRel w A s.os hd (s.get y) (a.eval y)) {x : AV} (hk : aread (stdE np P) L s o (· = x)) {next : Act → World → Prop} {Q : Exit → Act → World → Prop}
  (hn : ∀ v w' A', Ran W w A s hd F x v w' A' → next (a.put o.dst v) w') : o.wp P a w next Q := by
 obtain ⟨dst, op, ty, pos, af, g⟩ := o
 have val : aval (stdE np P) L s op (· = x) → Oper.wp P ⟨dst, op, ty, pos, af, g⟩ a w next Q := fun h => by
  obtain ⟨y, v, h1, h2, h3⟩ := aval_sound (dst := dst) (ty := ty) (pos := pos) (af := af) (g := g) hL hw hx h
  subst h1
  exact wp_value h3 (hn v w A ⟨Keeps.refl _ _, hw, ⟨fun _ h => h, fun _ h => .inl h⟩, h2⟩)
 unfold aread at hk
 split at hk
 ·rename_i c ho
  simp only at ho
  subst ho
  split at hk
  ·split at hk
   ·rename_i hcal
    split at hk
    ·obtain ⟨r, vs, hr, ⟨fo, h1, h2⟩, h3, h4⟩ := call_core hw (fun y hy => hx y hy) hcal hk
     subst hr
     exact wp_enter (run_call h1 h2 h3) (R := fun v w' => ∃ G, Keeps (fun _ => False) w w' ∧ XRel w' (fun _ => False) r v G ∧ ∀ b, G b → w.heap.size ≤ b ∧ b < w'.heap.size) (h4.mono fun e w' ⟨v, G, g1, g2⟩ => ⟨v, g1, G, g2⟩) fun v w' ⟨G, g1, g2, g3⟩ => hn v w' _ (call_ran hw g1 g2 g3)
    ·exact hk.elim
   ·split at hk
    ·rename_i hcal
     obtain ⟨r, vs, hr, ⟨fo, h1, h2⟩, h3, h4⟩ := call_coreB hw (fun y hy => hx y hy) hcal hk
     subst hr
     exact wp_enter (run_callB h1 h2 h3) (R := fun v w' => ∃ G, Keeps (fun _ => False) w w' ∧ XRel w' (fun _ => False) r v G ∧ ∀ b, G b → w.heap.size ≤ b ∧ b < w'.heap.size) (h4.mono fun e w' ⟨v, G, g1, g2⟩ => ⟨v, g1, G, g2⟩) fun v w' ⟨G, g1, g2, g3⟩ => hn v w' _ (call_ran hw g1 g2 g3)
    ·exact hk.elim
  ·exact val hk
 ·rename_i t ho
  simp only at ho
  subst ho
  split at hk
  ·exact hk.elim
  ·rename_i z zs hz
   replace hk : AV.any = x := hk
   subst hk
   obtain ⟨i, zv, h1, h2, _⟩ := lay_zero hL (t := t) (by rw [hz]; simp)
   have hkp := Keeps.alloc w zv.cells t
   refine wp_value (v := .pointer (some ⟨w.heap.size, 0, none⟩)) (w' := w.alloc (.cells zv.cells t)) ?_ (hn _ _ A ⟨hkp, hw.keep hkp, ⟨fun _ h => h, fun _ h => .inl h⟩, .pure _ _ (.any _)⟩)
   simp [execOp, Instr.alloc, zeroValue, typeInfo, h1, h2, newVar, newRow, go_sem]
 ·split at hk
  ·split at hk
   ·rename_i y hy
    subst hk
    obtain ⟨v, w', A', h1, h2⟩ := ran_built (o := ⟨dst, op, ty, pos, af, g⟩) hL hw hx hy
    exact wp_value h1 (hn v w' A' h2)
   ·exact hk.elim
  ·exact val hk

theorem calls_ex {f : FuncId} {vs : Array Value} {R : Ending → World → Prop} (h : Calls P f vs w R) : ∃ e w', R e w' :=
 let ⟨e, w', _, h, _⟩ := h []
 ⟨e, w', h⟩

def Pk {α : Type} (T : (α → Prop) → Prop) (K : α → Prop) : Prop := ∃ x, K x ∧ ∀ K' : α → Prop, K' x → T K'

theorem Pk.mono {α β : Type} {T : (α → Prop) → Prop} {U : (β → Prop) → Prop} {K : α → Prop} {K₂ : β → Prop} (h : Pk T K) (hk : ∀ x, K x → (∀ K' : α → Prop, K' x → T K') → Pk U K₂) : Pk U K₂ :=
 let ⟨x, h1, h2⟩ := h
 hk x h1 h2

theorem r1_pick [St] {x : AV} {K : AV → Prop} (hk : s.r1 (stdE np P) x K) : Pk (s.r1 (stdE np P) x) K := by
 unfold AS.r1 at hk
 split at hk
 ·split at hk
  ·rename_i e; exact ⟨_, hk, fun K' h => by simp only [AS.r1, e]; exact h⟩
  ·exact hk.elim
 ·split at hk
  ·rename_i e
   obtain ⟨h0, h1, h2, hk⟩ := hk
   exact ⟨_, hk, fun K' h => by simp only [AS.r1, e]; exact ⟨h0, h1, h2, h⟩⟩
  ·exact hk.elim
 all_goals first | exact hk.elim | exact ⟨_, hk, fun K' h => h⟩
theorem rL_pick [St] : ∀ (l : List AV) (K : List AV → Prop), s.rL (stdE np P) l K → Pk (s.rL (stdE np P) l) K
 | [], K, hk => ⟨[], hk, fun _ h => h⟩
 | x :: l, K, hk => by
  unfold AS.rL at hk
  obtain ⟨x', h1, h2⟩ := r1_pick hk
  obtain ⟨l', h3, h4⟩ := rL_pick l _ h1
  exact ⟨_, h3, fun K' h => h2 _ (h4 _ h)⟩
theorem rC_pick [St] : ∀ (l : List AV) (K : List AV → Prop), s.rC (stdE np P) l K → Pk (s.rC (stdE np P) l) K
 | [], K, hk => ⟨[], hk, fun _ h => h⟩
 | x :: l, K, hk => by
  unfold AS.rC at hk
  split at hk
  ·cases ‹_ :: _ = []›
  ·rename_i id off l' K0 e0
   cases e0
   split at hk
   ·rename_i e
    obtain ⟨x', h1, h2⟩ := rL_pick _ _ hk
    obtain ⟨l', h3, h4⟩ := rC_pick l _ h1
    exact ⟨_, h3, fun K' h => by simp only [AS.rC, e]; exact h2 _ (h4 _ h)⟩
   ·exact hk.elim
  ·rename_i hne e0
   cases e0
   obtain ⟨x', h1, h2⟩ := r1_pick hk
   obtain ⟨l', h3, h4⟩ := rC_pick l _ h1
   refine ⟨_, h3, fun K' h => ?_⟩
   unfold AS.rC
   split
   ·cases ‹_ :: _ = []›
   ·rename_i e1; cases e1; exact absurd rfl (hne _ _)
   ·rename_i e1; cases e1; exact h2 _ (h4 _ h)
theorem res_pick [St] {x : AV} {K : AV → Prop} (hk : s.res (stdE np P) x K) : Pk (s.res (stdE np P) x) K := by
 cases x
 case agg cs => obtain ⟨l, h1, h2⟩ := rL_pick _ _ hk; exact ⟨_, h1, fun K' h => h2 _ h⟩
 case fn f cs => obtain ⟨l, h1, h2⟩ := rC_pick _ _ hk; exact ⟨_, h1, fun K' h => h2 _ h⟩
 case pb id off =>
  simp only [AS.res] at hk
  split at hk
  ·rename_i e; obtain ⟨l, h1, h2⟩ := rL_pick _ _ hk; exact ⟨_, h1, fun K' h => by simp only [AS.res, e]; exact h2 _ h⟩
  ·exact hk.elim
 case pe id i j =>
  simp only [AS.res] at hk
  split at hk
  ·rename_i e; obtain ⟨h0, r, hr, hk⟩ := hk; exact ⟨_, hk, fun K' h => by simp only [AS.res, e]; exact ⟨h0, r, hr, h⟩⟩
  ·exact hk.elim
 all_goals (simp only [AS.res] at hk; obtain ⟨y, h1, h2⟩ := r1_pick hk; exact ⟨y, h1, fun K' h => h2 K' h⟩)
theorem resL_pick [St] : ∀ (l : List AV) (K : List AV → Prop), s.resL (stdE np P) l K → Pk (s.resL (stdE np P) l) K
 | [], K, hk => ⟨[], hk, fun _ h => h⟩
 | x :: l, K, hk => by
  unfold AS.resL at hk
  obtain ⟨x', h1, h2⟩ := res_pick hk
  obtain ⟨l', h3, h4⟩ := resL_pick l _ h1
  exact ⟨_, h3, fun K' h => h2 _ (h4 _ h)⟩

/-- The value that the text's order gives. -/
theorem aread_pick [St] (hL : L.ty = layOf P) (hw : CW W w A s.os hd F) {o : Oper} (hx : ∀ y ∈ o.op.operands, SRel w A s.os hd (s.get y) (a.eval y)) {K : AV → Prop} (hk : aread (stdE np P) L s o K) :
  ∃ x, K x ∧ aread (stdE np P) L s o (· = x) ∧ ∃ v w' A', Ran W w A s hd F x v w' A' := by
 obtain ⟨dst, op, ty, pos, af, g⟩ := o
 have val : aval (stdE np P) L s op K → ∃ x, K x ∧ aval (stdE np P) L s op (· = x) ∧ ∃ v w' A', Ran W w A s hd F x v w' A' := fun h => by
  obtain ⟨x, h1, h2⟩ := aval_pick hw hx h
  obtain ⟨y, v, h4, h5, h6⟩ := aval_sound (dst := dst) (ty := ty) (pos := pos) (af := af) (g := g) hL hw hx h2
  subst h4
  exact ⟨_, h1, h2, v, w, A, Keeps.refl _ _, hw, ⟨fun _ h => h, fun _ h => .inl h⟩, h5⟩
 have gen : ∀ c : Call, op = .call c → ∀ f0, c.callee = .value f0 → ∃ x, K x ∧ aread (stdE np P) L s ⟨dst, op, ty, pos, af, g⟩ (· = x) ∧ ∃ v w' A', Ran W w A s hd F x v w' A' := fun c ho f0 hce => by
  subst ho
  simp only [aread, hce] at hk
  split at hk
  ·rename_i f caps hcal
   split at hk
   ·rename_i hmu
    obtain ⟨args, ⟨r, hac, hkr⟩, hT⟩ := resL_pick _ _ hk
    have hk2 : s.resL (stdE np P) (c.args.toList.map s.get ++ caps) fun args => (stdE np P).call f args (· = r) := hT _ ⟨r, hac, rfl⟩
    refine ⟨r, hkr, by simp only [aread, hce, hcal, hmu]; exact hk2, ?_⟩
    obtain ⟨r', vs, hr, _, _, h4⟩ := call_core hw (fun y hy => hx y hy) hcal hk2
    subst hr
    obtain ⟨e, w', v, G, _, g1, g2, g3⟩ := calls_ex h4
    exact ⟨v, w', _, call_ran hw g1 g2 g3⟩
   ·exact hk.elim
  ·rename_i hno
   split at hk
   ·rename_i f cs hcal
    obtain ⟨args, ⟨r, hac, hkr⟩, hT⟩ := resL_pick _ _ hk
    have hk2 : s.resL (stdE np P) (c.args.toList.map s.get) fun args => (stdE np P).call f (.agg cs :: args) (· = r) := hT _ ⟨r, hac, rfl⟩
    refine ⟨r, hkr, by simp only [aread, hce, hno, hcal]; exact hk2, ?_⟩
    obtain ⟨r', vs, hr, _, _, h4⟩ := call_coreB hw (fun y hy => hx y hy) hcal hk2
    subst hr
    obtain ⟨e, w', v, G, _, g1, g2, g3⟩ := calls_ex h4
    exact ⟨v, w', _, call_ran hw g1 g2 g3⟩
   ·exact hk.elim
 by_cases hc : ∃ c f0, op = .call c ∧ c.callee = .value f0
 ·obtain ⟨c, f0, h1, h2⟩ := hc
  exact gen c h1 f0 h2
 by_cases ha : ∃ t, op = .alloc t
 ·obtain ⟨t, rfl⟩ := ha
  have e : ∀ K', aread (stdE np P) L s ⟨dst, .alloc t, ty, pos, af, g⟩ K' = match (L.ty t).zero with
    | [] => False
    | _ :: _ => K' .any := fun K' => rfl
  rw [e] at hk
  split at hk
  ·exact hk.elim
  ·rename_i z zs hz
   obtain ⟨i, zv, h1, h2, _⟩ := lay_zero hL (t := t) (by rw [hz]; simp)
   have hkp := Keeps.alloc w zv.cells t
   exact ⟨.any, hk, by rw [e, hz], .pointer none, w.alloc (.cells zv.cells t), A, hkp, hw.keep hkp, ⟨fun _ h => h, fun _ h => .inl h⟩, .pure _ _ (.any _)⟩
 ·by_cases hb : isBuild op = true
  ·have e : ∀ K', aread (stdE np P) L s ⟨dst, op, ty, pos, af, g⟩ K' = match abuilt L s op with
     | some v => K' v
     | none => False := fun K' => by
    cases op <;> first | rfl | (simp [isBuild] at hb)
   rw [e] at hk
   split at hk
   ·rename_i y hy
    obtain ⟨v, w', A', h1, h2⟩ := ran_built (o := ⟨dst, op, ty, pos, af, g⟩) hL hw hx hy
    exact ⟨y, hk, by rw [e, hy], v, w', A', h2⟩
   ·exact hk.elim
  ·have e : ∀ K', aread (stdE np P) L s ⟨dst, op, ty, pos, af, g⟩ K' = aval (stdE np P) L s op K' := fun K' => by
    cases op
    case call c =>
     simp only [aread]
     split
     ·rename_i h; exact (hc ⟨_, _, rfl, h⟩).elim
     ·rfl
    case build => exact (hb rfl).elim
    case buildSlice => exact (hb rfl).elim
    case alloc t => exact (ha ⟨_, rfl⟩).elim
    all_goals rfl
   rw [e] at hk
   obtain ⟨x, h1, h2, h3⟩ := val hk
   exact ⟨x, h1, by rw [e]; exact h2, h3⟩

def Does [St] (np : Nat) (P : Program) (L : Lay) (ops : List Oper) (s : AS) (o : Oper) (x : AV) : Prop := match o.guard with
 | none => aread (stdE np P) L s o (· = x)
 | some (j, want) => match s.yield ops j with
  | none => False
  | some none => x = .und
  | some (some b) => if b = want then aread (stdE np P) L s o (· = x) else x = .und

def Txt [St] (np : Nat) (P : Program) (L : Lay) (ops : List Oper) : List Oper → AS → List AV → AS → Prop
 | [], s, xs, sf => xs = [] ∧ sf = s
 | o :: l, s, xs, sf => ∃ x ys, xs = x :: ys ∧ Does np P L ops s o x ∧ Txt np P L ops l (s.put o.dst x) ys sf

theorem txt_sim [St] (hL : L.ty = layOf P) {ops : List Oper} {K : AS → Prop} : ∀ (l : List Oper) (s : AS) (a : Act) (w : World) (A : Nat → Prop), CW W w A s.os hd F → FR w A s.os hd s.fr a → aops (stdE np P) L true ops l s K → ∃ xs sf, Txt np P L ops l s xs sf ∧ K sf
 | [], s, a, w, A, _, _, hk => ⟨[], s, ⟨rfl, rfl⟩, hk⟩
 | o :: rest, s, a, w, A, hw, hf, hk => by
  have step : (aread (stdE np P) L s o fun v => aops (stdE np P) L true ops rest (s.put o.dst v) K) → ∃ x ys sf, aread (stdE np P) L s o (· = x) ∧ Txt np P L ops rest (s.put o.dst x) ys sf ∧ K sf := fun h => by
   obtain ⟨x, h1, h2, v, w', A', h3, h4, h5, h6⟩ := aread_pick hL hw (fun y _ => hf.get y) h
   obtain ⟨ys, sf, h7, h8⟩ := txt_sim hL rest (s.put o.dst x) (a.put o.dst v) w' A' (by rw [AS.put_os]; exact h4)
    (FR.put (s := s) (hf.to fun y u hy => hy.mono (fun b hb => h3.block b (hw.hA b hb).1 (fun h => h)) h5.1) h6 o.dst) h1
   exact ⟨x, ys, sf, h2, h7, h8⟩
  have skip : aops (stdE np P) L true ops rest (s.put o.dst .und) K → ∃ ys sf, Txt np P L ops rest (s.put o.dst .und) ys sf ∧ K sf := fun h =>
   txt_sim hL rest (s.put o.dst .und) (a.put o.dst undef) w A (by rw [AS.put_os]; exact hw) (hf.put .und o.dst) h
  unfold aops at hk
  split at hk
  ·rename_i hg
   obtain ⟨x, ys, sf, h1, h2, h3⟩ := step hk
   exact ⟨_, sf, ⟨x, ys, rfl, by simp only [Does, hg]; exact h1, h2⟩, h3⟩
  ·rename_i j want hg
   split at hk
   ·exact hk.elim
   ·rename_i hy
    obtain ⟨ys, sf, h2, h3⟩ := skip hk
    exact ⟨_, sf, ⟨_, ys, rfl, by simp only [Does, hg, hy], h2⟩, h3⟩
   ·rename_i b hy
    split at hk
    ·rename_i e
     obtain ⟨x, ys, sf, h1, h2, h3⟩ := step hk
     exact ⟨_, sf, ⟨x, ys, rfl, by simp only [Does, hg, hy, e, if_true]; exact h1, h2⟩, h3⟩
    ·rename_i e
     obtain ⟨ys, sf, h2, h3⟩ := skip hk
     exact ⟨_, sf, ⟨_, ys, rfl, by simp only [Does, hg, hy, e, if_false], h2⟩, h3⟩

/-- The frame once the operations of 'lst' have come up. -/
def put1 (b : Bool) (d : Option Nat) (x : AV) (fr : List AV) : List AV := match b, d with
 | true, some d => fr.set d x
 | _, _ => fr
def puts (lst : Nat → Bool) : Nat → List Oper → List AV → List AV → List AV
 | i, o :: l, x :: xs, fr => puts lst (i + 1) l xs (put1 (lst i) o.dst x fr)
 | _, _, _, fr => fr

theorem put1_len (b : Bool) (d : Option Nat) (x : AV) (fr : List AV) : (put1 b d x fr).length = fr.length := by
 unfold put1; split <;> simp
theorem puts_len (lst : Nat → Bool) : ∀ (l : List Oper) (i : Nat) (xs fr : List AV), (puts lst i l xs fr).length = fr.length
 | [], _, _, _ => by simp [puts]
 | _ :: _, _, [], _ => by simp [puts]
 | o :: l, i, x :: xs, fr => by rw [puts, puts_len lst l, put1_len]

theorem puts_agree {lst lst' : Nat → Bool} {t : Nat} : ∀ (l : List Oper) (i : Nat) (xs fr fr' : List AV), (∀ m o, l[m]? = some o → o.dst = some t → lst (i + m) = lst' (i + m)) → fr[t]? = fr'[t]? → (puts lst i l xs fr)[t]? = (puts lst' i l xs fr')[t]?
 | [], _, _, _, _, _, h => by simpa [puts] using h
 | _ :: _, _, [], _, _, _, h => by simpa [puts] using h
 | o :: l, i, x :: xs, fr, fr', hl, h => by
  rw [puts, puts]
  refine puts_agree l (i + 1) xs _ _ (fun m o' ho hd => by have := hl (m + 1) o' (by simpa using ho) hd; rwa [show i + (m + 1) = i + 1 + m by omega] at this) ?_
  have h0 := hl 0 o rfl
  have hlen : t < fr.length ↔ t < fr'.length := by
   rcases Nat.lt_or_ge t fr.length with h1 | h1
   ·rw [List.getElem?_eq_getElem h1] at h
    exact ⟨fun _ => (List.getElem?_eq_some_iff.1 h.symm).1, fun _ => h1⟩
   ·rw [List.getElem?_eq_none h1] at h
    exact ⟨fun h2 => by omega, fun h2 => by have := List.getElem?_eq_none_iff.1 h.symm; omega⟩
  cases hd : o.dst with
  | none => cases lst i <;> cases lst' i <;> exact h
  | some d =>
   by_cases e : d = t
   ·subst e
    rw [show lst i = lst' i from h0 hd]
    cases lst' i
    ·exact h
    ·simp only [put1, List.getElem?_set_self']
     rw [h]
   ·cases lst i <;> cases lst' i <;> simp [put1, List.getElem?_set_ne e, h]

theorem puts_hit {lst : Nat → Bool} {t : Nat} {x : AV} : ∀ (l : List Oper) (i : Nat) (xs fr : List AV) (m : Nat) (o : Oper), l[m]? = some o → o.dst = some t → xs[m]? = some x → lst (i + m) = true → (∀ m' o', l[m']? = some o' → o'.dst = some t → m' = m) → t < fr.length → (puts lst i l xs fr)[t]? = some x
 | [], _, _, _, m, _, h, _, _, _, _, _ => by simp at h
 | _ :: _, _, [], _, m, _, _, _, h, _, _, _ => by simp at h
 | o :: l, i, y :: xs, fr, m, o', h1, h2, h3, h4, h5, h6 => by
  rw [puts]
  cases m with
  | succ m =>
   exact puts_hit l (i + 1) xs _ m o' (by simpa using h1) h2 (by simpa using h3) (by rw [show i + 1 + m = i + (m + 1) by omega]; exact h4) (fun m' o2 g1 g2 => by have := h5 (m' + 1) o2 (by simpa using g1) g2; omega) (by rw [put1_len]; exact h6)
  | zero =>
   simp at h1 h3 h4
   subst h1 h3
   have e1 := puts_agree (lst := lst) (lst' := fun _ => false) (t := t) l (i + 1) xs (put1 (lst i) o.dst y fr) (put1 (lst i) o.dst y fr) (fun m' o2 g1 g2 => by have := h5 (m' + 1) o2 (by simpa using g1) g2; omega) rfl
   have e2 : ∀ (l : List Oper) (i : Nat) (xs fr : List AV), puts (fun _ => false) i l xs fr = fr := by
    intro l
    induction l with
    | nil => intro i xs fr; simp [puts]
    | cons o l ih => intro i xs fr; cases xs with | nil => simp [puts] | cons x xs => simp [puts, put1, ih]
   rw [e1, e2, h4, h2]
   simp [put1, h6]

/-- Text order: the frame ahead of each operation, and at the end. -/
theorem txt_at [St] {ops : List Oper} : ∀ (l : List Oper) (s : AS) (xs : List AV) (sf : AS), Txt np P L ops l s xs sf → ∀ i0,
  xs.length = l.length ∧ sf.os = s.os ∧ sf.fr = puts (fun _ => true) i0 l xs s.fr ∧ ∀ (m : Nat) o, l[m]? = some o → ∃ x, xs[m]? = some x ∧ Does np P L ops ⟨puts (fun j => decide (j < i0 + m)) i0 l xs s.fr, s.os⟩ o x
 | [], s, xs, sf, ⟨h1, h2⟩, i0 => by subst h1 h2; exact ⟨rfl, rfl, by simp [puts], fun m o h => by simp at h⟩
 | o :: l, s, xs, sf, ⟨x, ys, h1, h2, h3⟩, i0 => by
  subst h1
  obtain ⟨e1, e2, e3, e4⟩ := txt_at l _ ys sf h3 (i0 + 1)
  have pf : (s.put o.dst x).fr = put1 true o.dst x s.fr := by cases o.dst <;> rfl
  refine ⟨by simp [e1], by rw [e2, AS.put_os], by rw [e3, puts, pf], fun m o' ho => ?_⟩
  cases m with
  | zero =>
   simp at ho; subst ho
   refine ⟨x, rfl, ?_⟩
   have e : puts (fun j => decide (j < i0 + 0)) i0 (o :: l) (x :: ys) s.fr = s.fr := by
    have e2 : ∀ (l : List Oper) (i : Nat) (xs fr : List AV), i0 ≤ i → puts (fun j => decide (j < i0 + 0)) i l xs fr = fr := by
     intro l
     induction l with
     | nil => intro i xs fr _; simp [puts]
     | cons o l ih => intro i xs fr hi; cases xs with | nil => simp [puts] | cons x xs => rw [puts, ih _ _ _ (by omega)]; rw [show decide (i < i0 + 0) = false by simp; omega]; cases o.dst <;> rfl
    exact e2 _ _ _ _ (Nat.le_refl _)
   rw [e]; exact h2
  | succ m =>
   obtain ⟨y, g1, g2⟩ := e4 m o' (by simpa using ho)
   refine ⟨y, by simpa using g1, ?_⟩
   rw [puts, show decide (i0 < i0 + (m + 1)) = true by simp, ← pf]
   rw [AS.put_os] at g2
   rw [show (fun j => decide (j < i0 + (m + 1))) = fun j => decide (j < i0 + 1 + m) by funext j; congr 1; rw [show i0 + (m + 1) = i0 + 1 + m by omega]]
   exact g2

theorem bnd_spec (e : Edge) : Region.binds .any e = bnd e := by
 unfold Region.binds bnd
 cases e.ground <;> rfl
theorem hasEdge_spec {j : Nat} : ∀ {l : List Edge}, hasEdge j l = true → ∃ e ∈ l, bnd e = true ∧ e.on = j
 | [], h => by simp [hasEdge] at h
 | e :: l, h => by
  unfold hasEdge at h
  split at h
  ·rename_i hb
   split at h
   ·rename_i he; exact ⟨e, by simp, hb, he⟩
   ·obtain ⟨e', h1, h2⟩ := hasEdge_spec h; exact ⟨e', by simp [h1], h2⟩
  ·obtain ⟨e', h1, h2⟩ := hasEdge_spec h; exact ⟨e', by simp [h1], h2⟩
theorem edgesOK_spec {i : Nat} : ∀ {l : List Edge}, edgesOK i l = true → ∀ e ∈ l, bnd e = true → e.on < i
 | [], _, e, he, _ => by simp at he
 | e :: l, h, e', he, hb => by
  unfold edgesOK at h
  rcases List.mem_cons.1 he with rfl | he
  ·rw [hb] at h
   simp only at h
   split at h
   ·assumption
   ·cases h
  ·split at h
   ·split at h
    ·exact edgesOK_spec h e' he hb
    ·cases h
   ·exact edgesOK_spec h e' he hb
theorem readOK_spec {i t : Nat} {af : List Edge} : ∀ {l : List Oper} {j : Nat}, readOK i t af j l = true → ∀ (m : Nat) o, l[m]? = some o → o.dst = some t → j + m < i ∧ hasEdge (j + m) af = true
 | [], _, _, m, o, h, _ => by simp at h
 | o :: l, j, h, m, o', ho, hd => by
  unfold readOK at h
  cases m with
  | zero =>
   simp at ho; subst ho
   rw [hd] at h
   simp only [if_true] at h
   split at h
   ·split at h
    ·rename_i h1 _ h2; exact ⟨h1, h2⟩
    ·cases h
   ·cases h
  | succ m =>
   have key : readOK i t af (j + 1) l = true := by
    split at h
    ·split at h
     ·split at h
      ·split at h
       ·exact h
       ·cases h
      ·cases h
     ·exact h
    ·exact h
   have := readOK_spec key m o' (by simpa using ho) hd
   rwa [show j + 1 + m = j + (m + 1) by omega] at this
theorem readsOK_spec {i : Nat} {af : List Edge} {ops : List Oper} : ∀ {l : List Nat}, readsOK i af ops l = true → ∀ t ∈ l, readOK i t af 0 ops = true
 | [], _, t, h => by simp at h
 | u :: l, h, t, ht => by
  unfold readsOK at h
  split at h
  ·rename_i h1
   rcases List.mem_cons.1 ht with rfl | ht
   ·exact h1
   ·exact readsOK_spec h t ht
  ·cases h
theorem noWriter_spec {d : Nat} : ∀ {l : List Oper}, noWriter d l = true → ∀ o ∈ l, o.dst ≠ some d
 | [], _, o, h => by simp at h
 | p :: l, h, o, ho => by
  unfold noWriter at h
  have key : noWriter d l = true ∧ p.dst ≠ some d := by
   split at h
   ·rename_i e hd
    split at h
    ·cases h
    ·rename_i hne; exact ⟨h, by rw [hd]; simpa using hne⟩
   ·rename_i hd; exact ⟨h, by rw [hd]; simp⟩
  rcases List.mem_cons.1 ho with rfl | ho
  ·exact key.2
  ·exact noWriter_spec key.1 o ho

structure OpOK (ops : List Oper) (i : Nat) (o : Oper) : Prop where
 reads : ∃ ts, opTmps o.op = some ts ∧ ∀ t ∈ ts ++ guardTmps ops o.guard, ∀ (m : Nat) o', ops[m]? = some o' → o'.dst = some t → m < i ∧ ∃ e ∈ o.after, bnd e = true ∧ e.on = m
 edges : ∀ e ∈ o.after, bnd e = true → e.on < i

theorem isBit_eq (m j : Nat) : isBit m j = m.testBit j := by
 unfold isBit Nat.testBit
 rw [Nat.shiftRight_eq_div_pow, Nat.one_and_eq_mod_two]
 cases h : (m / 2 ^ j) % 2 with
 | zero => rfl
 | succ n =>
  have : (m / 2 ^ j) % 2 < 2 := Nat.mod_lt _ (by omega)
  have : n = 0 := by omega
  subst this; rfl
theorem atD_cons {o : Oper} {l : List Oper} (h : dstC o < 1048576) (j : Nat) : atD (mkD (o :: l)) (j + 1) = atD (mkD l) j := by
 have e : mkD (o :: l) = dstC o + 1048576 * mkD l := rfl
 unfold atD
 rw [e, Nat.shiftRight_eq_div_pow, Nat.shiftRight_eq_div_pow, show 20 * (j + 1) = 20 + 20 * j by omega, Nat.pow_add, ← Nat.div_div_eq_div_mul]
 rw [show (2 : Nat) ^ 20 = 1048576 from rfl, show (dstC o + 1048576 * mkD l) / 1048576 = mkD l by omega]
theorem atD_zero {o : Oper} {l : List Oper} (h : dstC o < 1048576) : atD (mkD (o :: l)) 0 = dstC o := by
 unfold atD mkD
 simp only [Nat.mul_zero, Nat.shiftRight_zero]
 omega
theorem atD_spec : ∀ {ops : List Oper} (_ : ∀ o ∈ ops, dstC o < 1048576) (j : Nat), atD (mkD ops) j = match ops[j]? with
  | some o => dstC o
  | none => 0
 | [], _, j => by simp [atD, mkD, Nat.shiftRight_eq_div_pow]
 | o :: l, h, 0 => by rw [atD_zero (h o (by simp))]; rfl
 | o :: l, h, j + 1 => by
  rw [atD_cons (h o (by simp)), atD_spec (fun o ho => h o (by simp [ho])) j]; rfl
theorem mkW_spec {t : Nat} : ∀ {ops : List Oper}, isBit (mkW ops) t = false → ∀ o ∈ ops, o.dst ≠ some t
 | [], _, o, ho => by simp at ho
 | p :: l, h, o, ho => by
  rw [isBit_eq] at h
  unfold mkW at h
  rw [Nat.testBit_or, Bool.or_eq_false_iff] at h
  rcases List.mem_cons.1 ho with rfl | ho
  ·intro e
   rw [e] at h
   have := h.1
   simp [Nat.testBit_shiftLeft] at this
  ·exact mkW_spec (by rw [isBit_eq]; exact h.2) o ho
theorem dOK_dst {D W : Nat} : ∀ {l : List Oper} {i M : Nat}, dOK D W i M l = true → (∀ o ∈ l, dstC o < 1048576) ∧ (∀ o ∈ l, ∀ d, o.dst = some d → isBit M d = false) ∧ ∀ (m m' : Nat) o o' d, l[m]? = some o → l[m']? = some o' → o.dst = some d → o'.dst = some d → m = m'
 | [], _, _, _ => ⟨fun o h => by simp at h, fun o h => by simp at h, fun m m' o o' d h => by simp at h⟩
 | o :: l, i, M, h => by
  unfold dOK at h
  split at h
  ·cases h
  ·split at h
   ·split at h
    ·rename_i hd
     obtain ⟨g1, g2, g3⟩ := dOK_dst h
     refine ⟨fun p hp => ?_, fun p hp d hpd => ?_, fun m m' p p' d hp hp' h1 h2 => ?_⟩
     ·rcases List.mem_cons.1 hp with rfl | hp
      ·simp [dstC, hd]
      ·exact g1 p hp
     ·rcases List.mem_cons.1 hp with rfl | hp
      ·rw [hd] at hpd; cases hpd
      ·exact g2 p hp d hpd
     ·cases m with
      | zero => simp at hp; subst hp; rw [hd] at h1; cases h1
      | succ m =>
       cases m' with
       | zero => simp at hp'; subst hp'; rw [hd] at h2; cases h2
       | succ m' => rw [g3 m m' p p' d (by simpa using hp) (by simpa using hp') h1 h2]
    ·rename_i d hd
     split at h
     ·rename_i hlt
      split at h
      ·cases h
      ·rename_i hb
       obtain ⟨g1, g2, g3⟩ := dOK_dst h
       have g2' : ∀ p ∈ l, ∀ d', p.dst = some d' → isBit M d' = false ∧ d' ≠ d := fun p hp d' hd' => by
        have := g2 p hp d' hd'
        rw [isBit_eq, Nat.testBit_or, Bool.or_eq_false_iff] at this
        refine ⟨by rw [isBit_eq]; exact this.1, fun e => ?_⟩
        subst e
        simp [Nat.testBit_shiftLeft] at this
       refine ⟨fun p hp => ?_, fun p hp d' hpd => ?_, fun m m' p p' d' hp hp' h1 h2 => ?_⟩
       ·rcases List.mem_cons.1 hp with rfl | hp
        ·simp only [dstC, hd]; exact Nat.succ_lt_succ hlt
        ·exact g1 p hp
       ·rcases List.mem_cons.1 hp with rfl | hp
        ·rw [hd] at hpd; cases hpd; exact hb
        ·exact (g2' p hp d' hpd).1
       ·cases m with
        | zero =>
         simp at hp; subst hp
         cases m' with
         | zero => rfl
         | succ m' =>
          rw [hd] at h1; cases h1
          exact absurd rfl (g2' p' (List.mem_of_getElem? (by simpa using hp')) _ h2).2
        | succ m =>
         cases m' with
         | zero =>
          simp at hp'; subst hp'
          rw [hd] at h2; cases h2
          exact absurd rfl (g2' p (List.mem_of_getElem? (by simpa using hp)) _ h1).2
         | succ m' => rw [g3 m m' p p' d' (by simpa using hp) (by simpa using hp') h1 h2]
     ·cases h
   ·cases h
theorem edgeW_spec {D t i : Nat} : ∀ {af : List Edge}, edgeW D t i af = true → ∃ e ∈ af, bnd e = true ∧ e.on < i ∧ atD D e.on = t + 1
 | [], h => by cases h
 | e :: l, h => by
  unfold edgeW at h
  split at h
  ·rename_i hb
   split at h
   ·rename_i hi
    split at h
    ·rename_i hd; exact ⟨e, by simp, hb, hi, hd⟩
    ·obtain ⟨e', h1, h2⟩ := edgeW_spec h; exact ⟨e', by simp [h1], h2⟩
   ·obtain ⟨e', h1, h2⟩ := edgeW_spec h; exact ⟨e', by simp [h1], h2⟩
  ·obtain ⟨e', h1, h2⟩ := edgeW_spec h; exact ⟨e', by simp [h1], h2⟩
theorem readsW_spec {D W i : Nat} {af : List Edge} : ∀ {ts : List Nat}, readsW D W i af ts = true → ∀ t ∈ ts, isBit W t = false ∨ edgeW D t i af = true
 | [], _, t, h => by simp at h
 | u :: l, h, t, ht => by
  unfold readsW at h
  split at h
  ·rename_i hb
   rcases List.mem_cons.1 ht with rfl | ht
   ·exact .inl hb
   ·exact readsW_spec h t ht
  ·split at h
   ·rename_i hb
    rcases List.mem_cons.1 ht with rfl | ht
    ·exact .inr hb
    ·exact readsW_spec h t ht
   ·cases h
theorem hasEdge_of {j : Nat} : ∀ {af : List Edge} {e : Edge}, e ∈ af → bnd e = true → e.on = j → hasEdge j af = true
 | [], e, h, _, _ => by cases h
 | x :: l, e, h, hb, ho => by
  unfold hasEdge
  rcases List.mem_cons.1 h with rfl | h
  ·rw [hb]; simp [ho]
  ·have := hasEdge_of h hb ho
   split
   ·split
    ·rfl
    ·exact this
   ·exact this
theorem readOK_of {i t : Nat} {af : List Edge} : ∀ {l : List Oper} {j : Nat}, (∀ (m : Nat) o, l[m]? = some o → o.dst = some t → j + m < i ∧ hasEdge (j + m) af = true) → readOK i t af j l = true
 | [], _, _ => rfl
 | o :: l, j, h => by
  have ih : readOK i t af (j + 1) l = true := readOK_of fun m o' ho hd => by
   have := h (m + 1) o' (by simpa using ho) hd
   rwa [show j + (m + 1) = j + 1 + m by omega] at this
  unfold readOK
  split
  ·rename_i d hd
   split
   ·rename_i e
    subst e
    obtain ⟨h1, h2⟩ := h 0 o rfl hd
    rw [Nat.add_zero] at h1 h2
    rw [if_pos h1, h2]
    exact ih
   ·exact ih
  ·exact ih
theorem readsOK_of {i : Nat} {af : List Edge} {ops : List Oper} : ∀ {ts : List Nat}, (∀ t ∈ ts, readOK i t af 0 ops = true) → readsOK i af ops ts = true
 | [], _ => rfl
 | t :: l, h => by
  unfold readsOK
  rw [h t (by simp)]
  exact readsOK_of fun t ht => h t (by simp [ht])
theorem noWriter_of {d : Nat} : ∀ {l : List Oper}, (∀ o ∈ l, o.dst ≠ some d) → noWriter d l = true
 | [], _ => rfl
 | o :: l, h => by
  have ih : noWriter d l = true := noWriter_of fun o ho => h o (by simp [ho])
  unfold noWriter
  split
  ·rename_i e he
   split
   ·rename_i e2; subst e2; exact absurd he (h o (by simp))
   ·exact ih
  ·exact ih
theorem drawOK2_spec {ops : List Oper} (h : drawOK2 ops = true) : drawOK ops 0 ops = true := by
 unfold drawOK2 at h
 obtain ⟨g1, _, g3⟩ := dOK_dst h
 have main : ∀ (l : List Oper) (i M : Nat), (∀ (m : Nat) o, l[m]? = some o → ops[i + m]? = some o) → dOK (mkD ops) (mkW ops) i M l = true → drawOK ops i l = true := by
  intro l
  induction l with
  | nil => intro i M _ _; rfl
  | cons o l ih =>
   intro i M hl h
   have hD := dOK_dst h
   unfold dOK at h
   unfold drawOK
   split at h
   ·cases h
   ·rename_i ts hts
    (try rw [hts])
    (try simp only)
    split at h
    ·rename_i h1 h2
     have hrd : readsOK i o.after.toList ops (ts ++ guardTmps ops o.guard) = true := by
      refine readsOK_of fun t ht => readOK_of fun m p hp hpd => ?_
      rw [Nat.zero_add]
      have ht' : t ∈ ts ++ guardC (mkD ops) o.guard := by
       rcases List.mem_append.1 ht with h5 | h5
       ·exact List.mem_append.2 (.inl h5)
       ·refine List.mem_append.2 (.inr ?_)
        unfold guardTmps at h5
        split at h5
        ·cases h5
        ·rename_i j b hg
         split at h5
         ·rename_i q hq
          split at h5
          ·rename_i d hd
           rw [hg]
           simp only [guardC]
           rw [atD_spec g1, hq]
           simp only [dstC, hd]
           exact h5
          ·cases h5
         ·cases h5
      rcases readsW_spec h1 t ht' with h5 | h5
      ·exact absurd hpd (mkW_spec h5 p (List.mem_of_getElem? hp))
      ·obtain ⟨e, he, hb, hi, hd⟩ := edgeW_spec h5
       rw [atD_spec g1] at hd
       split at hd
       ·rename_i q hq
        have hqd : q.dst = some t := by
         unfold dstC at hd
         split at hd
         ·rename_i d hd'
          have : d = t := Nat.succ.inj hd
          rw [hd', this]
         ·exact absurd hd (by simp)
        have : m = e.on := g3 m e.on p q t hp hq hpd hqd
        rw [this]
        exact ⟨hi, hasEdge_of he hb rfl⟩
       ·exact absurd hd (by simp)
     rw [hrd, h2]
     have next : drawOK ops (i + 1) l = true := by
      have hl' : ∀ (m : Nat) p, l[m]? = some p → ops[i + 1 + m]? = some p := fun m p hp => by
       have := hl (m + 1) p (by simpa using hp)
       rwa [show i + (m + 1) = i + 1 + m by omega] at this
      split at h
      ·exact ih _ _ hl' h
      ·split at h
       ·split at h
        ·cases h
        ·exact ih _ _ hl' h
       ·cases h
     have hnw : (match o.dst with
      | some d => noWriter d l
      | none => true) = true := by
      split
      ·rename_i d hd
       refine noWriter_of fun p hp hpd => ?_
       obtain ⟨m, hm⟩ := List.getElem?_of_mem hp
       have := hD.2.2 0 (m + 1) o p d rfl (by simpa using hm) hd hpd
       omega
      ·rfl
     have fin : ∀ b : Bool, b = true → (match true, true, b with
      | true, true, true => drawOK ops (i + 1) l
      | _, _, _ => false) = true := fun b hb => by subst hb; exact next
     exact fin _ hnw
    ·cases h
 exact main ops 0 0 (fun m o h => by rw [Nat.zero_add]; exact h) h
theorem drawOK_spec {ops : List Oper} : ∀ {l : List Oper} {i : Nat}, drawOK ops i l = true → (∀ (m : Nat) o, l[m]? = some o → OpOK ops (i + m) o) ∧ ∀ (m m' : Nat) o o' d, l[m]? = some o → l[m']? = some o' → o.dst = some d → o'.dst = some d → m = m'
 | [], _, _ => ⟨fun m o h => by simp at h, fun m m' o o' d h => by simp at h⟩
 | o :: l, i, h => by
  unfold drawOK at h
  split at h
  ·cases h
  ·rename_i ts hts
   split at h
   ·rename_i h1 h2 h3
    obtain ⟨g1, g2⟩ := drawOK_spec h
    refine ⟨fun m o' ho => ?_, fun m m' p p' d hp hp' hd hd' => ?_⟩
    ·cases m with
     | zero =>
      simp at ho; subst ho
      exact ⟨⟨ts, hts, fun t ht m o' ho hd => by
       obtain ⟨q1, q2⟩ := readOK_spec (readsOK_spec h1 t ht) m o' ho hd
       rw [Nat.zero_add] at q1 q2
       obtain ⟨e, r1, r2⟩ := hasEdge_spec q2
       exact ⟨q1, e, Array.mem_toList_iff.1 r1, r2⟩⟩, fun e he => edgesOK_spec h2 e (Array.mem_toList_iff.2 he)⟩
     | succ m => rw [show i + (m + 1) = i + 1 + m by omega]; exact g1 m o' (by simpa using ho)
    ·have nw : ∀ {d}, o.dst = some d → ∀ o' ∈ l, o'.dst ≠ some d := fun {d} hd o' ho' => by
      rw [hd] at h3
      exact noWriter_spec h3 o' ho'
     cases m with
     | zero =>
      cases m' with
      | zero => rfl
      | succ m' => simp at hp hp'; subst hp; exact absurd hd' (nw hd p' (List.mem_of_getElem? hp'))
     | succ m =>
      cases m' with
      | zero => simp at hp hp'; subst hp'; exact absurd hd (nw hd' p (List.mem_of_getElem? hp))
      | succ m' => rw [g2 m m' p p' d (by simpa using hp) (by simpa using hp') hd hd']
   ·cases h

theorem tmpsOf_spec {t : Nat} : ∀ {l : List Operand}, Operand.tmp t ∈ l → t ∈ tmpsOf l
 | [], h => by simp at h
 | x :: l, h => by
  rcases List.mem_cons.1 h with rfl | h
  ·simp [tmpsOf]
  ·have := tmpsOf_spec h
   cases x <;> simp [tmpsOf, this]
theorem opTmps_spec {o : Op} {ts : List Nat} {t : Nat} (h : opTmps o = some ts) (ht : Operand.tmp t ∈ o.operands) : t ∈ ts := by
 cases o
 case slice u x lo hi mx =>
  cases mx with
  | some _ => cases h
  | none =>
   simp only [opTmps, Option.some.injEq] at h
   subst h
   simp only [Op.operands] at ht
   simp at ht
   rcases ht with rfl | rfl | rfl
   ·simp [tmpsOf]
   ·simp [optTmps]
   ·simp [optTmps]
 case makeFunc u x y =>
  simp only [opTmps, Option.some.injEq] at h
  subst h
  simp only [Op.operands, Array.mem_append] at ht
  rcases ht with ht | ht
  ·exact List.mem_append_left _ (tmpsOf_spec (Array.mem_toList_iff.2 ht))
  ·exact List.mem_append_right _ (tmpsOf_spec (Array.mem_toList_iff.2 ht))
 case call c =>
  simp only [opTmps] at h
  simp only [Op.operands, Call.operands, Array.mem_append] at ht
  split at h
  ·rename_i f hce
   cases h
   rw [hce] at ht
   rcases ht with ht | ht
   ·simp at ht; subst ht; simp [tmpsOf]
   ·exact List.mem_append_right _ (tmpsOf_spec (Array.mem_toList_iff.2 ht))
  ·rename_i b hce
   cases h
   rw [hce] at ht
   rcases ht with ht | ht
   ·simp at ht
   ·exact tmpsOf_spec (Array.mem_toList_iff.2 ht)
  ·cases h
 all_goals first
  | (simp only [opTmps, Option.some.injEq] at h; subst h; exact tmpsOf_spec (by simpa [Op.operands] using ht))
  | (simp [Op.operands] at ht; done)
  | cases h


/-- The frame's slots that one operation looks at are the text's. -/
theorem look_same {ops : List Oper} {i : Nat} {o : Oper} (hok : OpOK ops i o) {lst : Nat → Bool} (hl : ∀ e ∈ o.after, bnd e = true → lst e.on = true) {xs fr : List AV} {t : Nat} {ts : List Nat} (hts : opTmps o.op = some ts) (ht : t ∈ ts ++ guardTmps ops o.guard) :
  (puts lst 0 ops xs fr)[t]? = (puts (fun j => decide (j < 0 + i)) 0 ops xs fr)[t]? := by
 obtain ⟨ts', h1, h2⟩ := hok.reads
 rw [hts] at h1; cases h1
 refine puts_agree ops 0 xs fr fr (fun m o' ho hd => ?_) rfl
 obtain ⟨g1, e, g2, g3, g4⟩ := h2 t ht m o' ho hd
 have := hl e g2 g3
 rw [g4] at this
 simp [this, g1]

/-! ### Which operations wait for all earlier ones. -/
def Closed (ops : List Oper) (S : Nat → Prop) : Prop := ∀ (i : Nat) o, ops[i]? = some o → S i → ∀ e ∈ o.after, bnd e = true → S e.on
theorem edgeMask_spec {ms : List Nat} {j : Nat} : ∀ {l : List Edge}, (edgeMask ms l).testBit j = true → ∃ e ∈ l, bnd e = true ∧ (ms.getD e.on 0).testBit j = true
 | [], h => by simp [edgeMask] at h
 | e :: l, h => by
  unfold edgeMask at h
  split at h
  ·rename_i hb
   rw [Nat.testBit_or, Bool.or_eq_true] at h
   rcases h with h | h
   ·exact ⟨e, by simp, hb, h⟩
   ·obtain ⟨e', h1, h2, h3⟩ := edgeMask_spec h
    exact ⟨e', by simp [h1], h2, h3⟩
  ·obtain ⟨e', h1, h2, h3⟩ := edgeMask_spec h
   exact ⟨e', by simp [h1], h2, h3⟩
theorem masks_spec {S : Nat → Prop} {ops : List Oper} (hS : Closed ops S) : ∀ (l : List Oper) (ms : List Nat), (∀ m, (hm : m < l.length) → ops[ms.length + m]? = l[m]?) →
  (∀ (i j : Nat) m, ms[i]? = some m → m.testBit j = true → (S i → S j)) → (∀ (i j : Nat) m o, ms[i]? = some m → ops[i]? = some o → m.testBit j = true → (∀ e ∈ o.after, bnd e = true → S e.on) → j = i ∨ S j) →
  (masks ms l).length = ms.length + l.length ∧ ∀ (i j : Nat) m o, (masks ms l)[i]? = some m → ops[i]? = some o → m.testBit j = true → (∀ e ∈ o.after, bnd e = true → S e.on) → j = i ∨ S j
 | [], ms, _, _, h2 => ⟨by simp [masks], h2⟩
 | o :: l, ms, hl, h1, h2 => by
  unfold masks
  have ho : ops[ms.length]? = some o := by simpa using hl 0 (by simp)
  have key : ∀ j, (edgeMask ms o.after.toList ||| (1 <<< ms.length)).testBit j = true → j = ms.length ∨ ∃ e ∈ o.after, bnd e = true ∧ (ms.getD e.on 0).testBit j = true := fun j hj => by
   rw [Nat.testBit_or, Bool.or_eq_true] at hj
   rcases hj with hj | hj
   ·obtain ⟨e, g1, g2, g3⟩ := edgeMask_spec hj
    exact .inr ⟨e, Array.mem_toList_iff.1 g1, g2, g3⟩
   ·refine .inl ?_
    rw [Nat.one_shiftLeft, Nat.testBit_two_pow] at hj
    exact (by simpa using hj : ms.length = j).symm
  have get : ∀ (e : Edge) (j : Nat), (ms.getD e.on 0).testBit j = true → ∃ m, ms[e.on]? = some m ∧ m.testBit j = true := fun e j h => by
   rw [List.getD_eq_getElem?_getD] at h
   cases hm : ms[e.on]? with
   | none => rw [hm] at h; simp at h
   | some m => rw [hm] at h; exact ⟨m, rfl, h⟩
  obtain ⟨g1, g2⟩ := masks_spec hS l (ms ++ [edgeMask ms o.after.toList ||| (1 <<< ms.length)]) (fun m hm => by
    have := hl (m + 1) (by simpa using hm)
    simp only [List.length_append, List.length_singleton, List.getElem?_cons_succ] at this ⊢
    rw [← this]; congr 1; omega) (fun i j m hm hj hi => by
    rw [List.getElem?_append] at hm
    split at hm
    ·exact h1 i j m hm hj hi
    ·rename_i hge
     have e0 : i = ms.length := by
      have := (List.getElem?_eq_some_iff.1 hm).1
      simp at this; omega
     subst e0
     simp at hm; subst hm
     rcases key j hj with e1 | ⟨e, q1, q2, q3⟩
     ·subst e1; exact hi
     ·obtain ⟨m', r1, r2⟩ := get e j q3
      exact h1 e.on j m' r1 r2 (hS _ o ho hi e q1 q2)) (fun i j m o' hm ho' hj he => by
    rw [List.getElem?_append] at hm
    split at hm
    ·exact h2 i j m o' hm ho' hj he
    ·rename_i hge
     have e0 : i = ms.length := by
      have := (List.getElem?_eq_some_iff.1 hm).1
      simp at this; omega
     subst e0
     simp at hm; subst hm
     rw [ho] at ho'; cases ho'
     rcases key j hj with e1 | ⟨e, q1, q2, q3⟩
     ·exact .inl e1
     ·obtain ⟨m', r1, r2⟩ := get e j q3
      exact .inr (h1 e.on j m' r1 r2 (he e q1 q2)))
  exact ⟨by rw [g1]; simp; omega, g2⟩
theorem cutF_spec : ∀ (ms : List Nat) (l : List Oper) (i n : Nat), ms.length = l.length → n ≤ i → cutF i ms l n ≤ i + l.length ∧ n ≤ cutF i ms l n ∧
  ∀ (q : Nat) m o, ms[q]? = some m → l[q]? = some o → cutF i ms l n ≤ i + q → m = (1 <<< (i + q + 1)) - 1 ∧ edgesOK (i + q) o.after.toList = true
 | [], [], i, n, _, hn => ⟨by simpa [cutF] using hn, by simp [cutF], fun q m o h => by simp at h⟩
 | [], _ :: _, _, _, h, _ => by simp at h
 | _ :: _, [], _, _, h, _ => by simp at h
 | m :: ms, o :: l, i, n, h, hn => by
  unfold cutF
  split
  ·rename_i h1 h2
   obtain ⟨g1, g2, g3⟩ := cutF_spec ms l (i + 1) n (by simpa using h) (by omega)
   refine ⟨by simp; omega, g2, fun q m' o' hm ho hq => ?_⟩
   cases q with
   | zero => simp at hm ho; subst hm ho; exact ⟨by simpa using h1, h2⟩
   | succ q =>
    have := g3 q m' o' (by simpa using hm) (by simpa using ho) (by omega)
    rwa [show i + 1 + q = i + (q + 1) by omega] at this
  ·obtain ⟨g1, g2, g3⟩ := cutF_spec ms l (i + 1) (i + 1) (by simpa using h) (Nat.le_refl _)
   refine ⟨by simp; omega, by omega, fun q m' o' hm ho hq => ?_⟩
   cases q with
   | zero => omega
   | succ q =>
    have := g3 q m' o' (by simpa using hm) (by simpa using ho) (by omega)
    rwa [show i + 1 + q = i + (q + 1) by omega] at this
/-- A ready operation behind the cut: all earlier ones have come up. -/
theorem cut_spec {ops : List Oper} : cutN ops ≤ ops.length ∧ ∀ (i : Nat) o, cutN ops ≤ i → ops[i]? = some o → (∀ e ∈ o.after, bnd e = true → e.on < i) ∧
  ∀ S : Nat → Prop, Closed ops S → (∀ e ∈ o.after, bnd e = true → S e.on) → ∀ j, j < i → S j := by
 have hl : (masks [] ops).length = ops.length := by
  have := (masks_spec (S := fun _ => True) (ops := ops) (fun _ _ _ _ _ _ _ => trivial) ops [] (fun m _ => by simp) (fun i j m h => by simp at h) (fun i j m o h => by simp at h)).1
  simpa using this
 obtain ⟨g1, _, g3⟩ := cutF_spec (masks [] ops) ops 0 0 hl (Nat.le_refl _)
 refine ⟨by simpa [cutN] using g1, fun i o hi ho => ?_⟩
 have hlt := (List.getElem?_eq_some_iff.1 ho).1
 have hm : (masks [] ops)[i]? = some (masks [] ops)[i] := List.getElem?_eq_getElem (by omega)
 obtain ⟨e1, e2⟩ := g3 i _ o hm ho (by simpa [cutN] using hi)
 rw [Nat.zero_add] at e1 e2
 refine ⟨fun e he => edgesOK_spec e2 e (Array.mem_toList_iff.2 he), fun S hS hr j hj => ?_⟩
 have hb : ((masks [] ops)[i]).testBit j = true := by
  rw [e1, Nat.one_shiftLeft, Nat.testBit_two_pow_sub_one]; simp; omega
 rcases (masks_spec hS ops [] (fun m _ => by simp) (fun i j m h => by simp at h) (fun i j m o h => by simp at h)).2 i j _ o hm ho hb hr with h | h
 ·omega
 ·exact h

/-- The operations behind the cut come up in the text's order. -/
theorem aseq_any [St] (hL : L.ty = layOf P) {ops : Array Oper} {n : Nat} {Q : Exit → Act → World → Prop} {K : AS → Prop}
  (hcut : ∀ (i : Nat) o, n ≤ i → ops.toList[i]? = some o → (∀ e ∈ o.after, bnd e = true → e.on < i) ∧ ∀ S : Nat → Prop, Closed ops.toList S → (∀ e ∈ o.after, bnd e = true → S e.on) → ∀ j, j < i → S j)
  (hQ : ∀ s' a' w' A' hd' F', K s' → CW W w' A' s'.os hd' F' → FR w' A' s'.os hd' s'.fr a' → Q .normal a' w') :
  ∀ (fuel m : Nat) (listed : Array Bool) (s : AS) (a : Act) (w : World) (A : Nat → Prop) (hd : Nat → Value) (F : Nat → Nat → Prop), n ≤ m → m ≤ ops.size → listed.size = ops.size → (∀ j, j < ops.size → listed.getD j false = decide (j < m)) → ops.size - m ≤ fuel →
   Closed ops.toList (fun j => j < m) → CW W w A s.os hd F → FR w A s.os hd s.fr a → aops (stdE np P) L false ops.toList (ops.toList.drop m) s K → wpAny P .any ops Q fuel listed a w := by
 have getD_tf : ∀ (listed : Array Bool) i, listed.size = ops.size → i < ops.size → listed.getD i true = listed.getD i false := fun listed i hs hi => by
  have : i < listed.size := by omega
  simp [Array.getD, this]
 intro fuel
 induction fuel with
 | zero =>
  intro m listed s a w A hd F hnm hm hs hl hf hcl hw hfr hk
  have e : m = ops.size := by omega
  subst e
  rw [List.drop_eq_nil_of_le (by simp)] at hk
  refine ⟨?_, hQ s a w A hd F hk hw hfr⟩
  apply List.eq_nil_iff_forall_not_mem.2
  intro i hi
  obtain ⟨h1, o, h2, _⟩ := mem_ready.1 hi
  have hi' := (Array.getElem?_eq_some_iff.1 h2).1
  rw [getD_tf listed i hs hi', hl i hi'] at h1
  simp at h1; omega
 | succ fuel ih =>
  intro m listed s a w A hd F hnm hm hs hl hf hcl hw hfr hk
  by_cases hmz : m = ops.size
  ·subst hmz
   rw [List.drop_eq_nil_of_le (by simp)] at hk
   refine ⟨fun _ => hQ s a w A hd F hk hw hfr, fun i hi => ?_⟩
   obtain ⟨h1, o, h2, _⟩ := mem_ready.1 hi
   have hi' := (Array.getElem?_eq_some_iff.1 h2).1
   rw [getD_tf listed i hs hi', hl i hi'] at h1
   simp at h1; omega
  ·have hml : m < ops.size := by omega
   have hom : ops[m]? = some ops[m] := Array.getElem?_eq_getElem hml
   have homl : ops.toList[m]? = some ops[m] := by rw [Array.getElem?_toList]; exact hom
   obtain ⟨c1, c2⟩ := hcut m _ hnm homl
   have hrdy : m ∈ Region.ready .any ops listed := mem_ready.2 ⟨by rw [getD_tf listed m hs hml, hl m hml]; simp, _, hom, fun e he hb => by
    rw [bnd_spec] at hb
    have h1 := c1 e he hb
    rw [hl e.on (by omega)]; simpa using h1⟩
   refine ⟨fun h0 => (by rw [h0] at hrdy; cases hrdy), fun i hi => ?_⟩
   obtain ⟨h1, o, h2, h3⟩ := mem_ready.1 hi
   have hi' := (Array.getElem?_eq_some_iff.1 h2).1
   rw [getD_tf listed i hs hi', hl i hi'] at h1
   have him : m ≤ i := by simpa using h1
   have h2l : ops.toList[i]? = some o := by rw [Array.getElem?_toList]; exact h2
   have hall := (hcut i o (by omega) h2l).2 (fun j => j < m) hcl (fun e he hb => by
    have h4 := h3 e he (by rw [bnd_spec]; exact hb)
    have h5 : e.on < ops.size := by
     have := (hcut i o (by omega) h2l).1 e he hb; omega
    rw [hl e.on h5] at h4
    simpa using h4)
   have hie : i = m := by
    apply Classical.byContradiction
    intro hne
    have := hall m (by omega)
    omega
   subst hie
   rw [List.drop_eq_getElem_cons (by simpa using hml)] at hk
   have hoe : o = ops[i] := by rw [hom] at h2; cases h2; rfl
   have hog : ops.toList[i]'(by simpa using hml) = o := by rw [hoe]; simp
   rw [hog] at hk
   have hnext : ∀ s' a' w' A' hd' F', CW W w' A' s'.os hd' F' → FR w' A' s'.os hd' s'.fr a' → aops (stdE np P) L false ops.toList (ops.toList.drop (i + 1)) s' K → wpAny P .any ops Q fuel (listed.setIfInBounds i true) a' w' := fun s' a' w' A' hd' F' q1 q2 q3 =>
    ih (i + 1) _ s' a' w' A' hd' F' (by omega) (by omega) (by simpa using hs) (fun j hj => by
     by_cases hji : j = i
     ·subst hji
      have : j < listed.size := by omega
      simp [this]
     ·rw [getD_set_ne false (Ne.symm hji), hl j hj]
      exact decide_eq_decide.2 (by omega)) (by omega) (fun q o' ho' hq ed hed hb => by
     show ed.on < i + 1
     by_cases hqi : q = i
     ·subst hqi
      rw [homl] at ho'; cases ho'
      have := c1 ed hed hb; omega
     ·have : ed.on < i := hcl q o' ho' (by omega) ed hed hb
      omega) q1 q2 q3
   have hstep : (astep (stdE np P) L s o fun v s' => aops (stdE np P) L false ops.toList (ops.toList.drop (i + 1)) (s'.put o.dst v) K) → o.wp P a w (wpAny P .any ops Q fuel (listed.setIfInBounds i true)) Q := fun h =>
    astep_sound hL hw hfr h _ Q fun x s' v w' A' hd' F' hk' hfr' hw' hf' hx => by
     rw [← hfr'] at hf'
     exact hnext _ _ w' A' hd' F' (by rw [AS.put_os]; exact hw') (hf'.put hx o.dst) hk'
   have hskip : aops (stdE np P) L false ops.toList (ops.toList.drop (i + 1)) (s.put o.dst .und) K → wpAny P .any ops Q fuel (listed.setIfInBounds i true) (a.put o.dst undef) w := fun h =>
    hnext _ _ w A hd F (by rw [AS.put_os]; exact hw) (hfr.put .und o.dst) h
   unfold wpOp
   simp only [h2]
   unfold aops at hk
   split at hk
   ·rename_i hg
    rw [if_pos (by simp [Region.wanted, hg])]
    exact .inl (hstep hk)
   ·rename_i j want hg
    split at hk
    ·exact hk.elim
    ·rename_i hy
     have := yield_sound hfr hy
     rw [if_neg (by simp [Region.wanted, hg, this])]
     exact hskip hk
    ·rename_i b hy
     have := yield_sound hfr hy
     split at hk
     ·rename_i e
      subst e
      rw [if_pos (by simp [Region.wanted, hg, this])]
      exact .inl (hstep hk)
     ·rename_i e
      rw [if_neg (by simp [Region.wanted, hg, this, e])]
      exact hskip hk

theorem yield_take {fr : List AV} {os : List Obj} {ops : List Oper} {n j : Nat} {r : Option Bool} (h : AS.yield ⟨fr, os⟩ (ops.take n) j = some r) : AS.yield ⟨fr, os⟩ ops j = some r := by
 unfold AS.yield at *
 by_cases hj : j < n
 ·rw [List.getElem?_take, if_pos hj] at h; exact h
 ·rw [List.getElem?_take, if_neg hj] at h; cases h

theorem adraw_any [St] (hL : L.ty = layOf P) {ops : Array Oper} {Q : Exit → Act → World → Prop} {n : Nat} {s0 sf : AS} {xs : List AV} (late : Nat → Prop) (hdr : drawOK (ops.toList.take n) 0 (ops.toList.take n) = true) (ht : Txt np P L (ops.toList.take n) (ops.toList.take n) s0 xs sf) (hnle : n ≤ ops.size)
  (hcut : ∀ (i : Nat) o, n ≤ i → ops.toList[i]? = some o → ∀ S : Nat → Prop, Closed ops.toList S → (∀ e ∈ o.after, bnd e = true → S e.on) → ∀ j, j < n → ¬ late j → S j)
  (hQ : ∀ fuel (listed : Array Bool) a' w' A', listed.size = ops.size → ((List.range ops.size).filter fun i => !listed.getD i true).length ≤ fuel → (∀ j, n ≤ j → j < ops.size → listed.getD j false = false) → (∀ j, j < n → listed.getD j false = false → late j) → Closed ops.toList (fun j => listed.getD j false = true) →
   CW W w' A' s0.os hd F → FR w' A' s0.os hd (puts (fun j => listed.getD j false) 0 (ops.toList.take n) xs s0.fr) a' → wpAny P .any ops Q fuel listed a' w') :
  ∀ (fuel : Nat) (listed : Array Bool) (a : Act) (w : World) (A : Nat → Prop), listed.size = ops.size → ((List.range ops.size).filter fun i => !listed.getD i true).length ≤ fuel → (∀ j, n ≤ j → j < ops.size → listed.getD j false = false) → Closed ops.toList (fun j => listed.getD j false = true) →
   CW W w A s0.os hd F → FR w A s0.os hd (puts (fun j => listed.getD j false) 0 (ops.toList.take n) xs s0.fr) a → wpAny P .any ops Q fuel listed a w := by
 obtain ⟨hlen, hos, hfr, hdoes⟩ := txt_at (ops.toList.take n) s0 xs sf ht 0
 obtain ⟨hok, huniq⟩ := drawOK_spec hdr
 have pre : ∀ {i : Nat} {o : Oper}, i < n → ops[i]? = some o → (ops.toList.take n)[i]? = some o := fun {i o} hi ho => by
  rw [List.getElem?_take, if_pos hi, Array.getElem?_toList]; exact ho
 have getD_tf : ∀ (listed : Array Bool) i, listed.size = ops.size → i < ops.size → listed.getD i true = listed.getD i false := fun listed i hs hi => by
  have : i < listed.size := by omega
  simp [Array.getD, this]
 have allrdy : ∀ (listed : Array Bool), listed.size = ops.size → (∀ i ∈ Region.ready .any ops listed, n ≤ i) → ∀ i, i < n → listed.getD i false = true := by
  intro listed hs h0 i
  induction i using Nat.strongRecOn with
  | _ i ih =>
   intro hi
   apply Classical.byContradiction
   intro hn
   have hio : i < ops.size := by omega
   have ho : ops[i]? = some ops[i] := Array.getElem?_eq_getElem hio
   have : i ∈ Region.ready .any ops listed := mem_ready.2 ⟨by rw [getD_tf listed i hs hio]; simpa using hn, _, ho, fun e he hb => by
    rw [bnd_spec] at hb
    have h1 := (hok i ops[i] (pre hi ho)).edges e he hb
    rw [Nat.zero_add] at h1
    exact ih e.on h1 (by omega)⟩
   have := h0 i this
   omega
 intro fuel
 induction fuel with
 | zero =>
  intro listed a w A hs hc hge hcl hw hf
  refine hQ 0 listed a w A hs hc hge (fun i hi hli => ?_) hcl hw hf
  have hnil : ((List.range ops.size).filter fun i => !listed.getD i true) = [] := List.length_eq_zero_iff.1 (Nat.le_zero.1 hc)
  have := List.filter_eq_nil_iff.1 hnil i (List.mem_range.2 (by omega))
  rw [getD_tf listed i hs (by omega), hli] at this
  simp at this
 | succ fuel ih =>
  intro listed a w A hs hc hge hcl hw hf
  by_cases hsw : ∀ j, j < n → listed.getD j false = false → late j
  ·exact hQ (fuel + 1) listed a w A hs hc hge hsw hcl hw hf
  refine ⟨fun h0 => (hsw fun j hj hjl => ?_).elim, fun i hi => ?_⟩
  ·rw [allrdy listed hs (fun i hi => by rw [h0] at hi; cases hi) j hj] at hjl
   cases hjl
  obtain ⟨h1, o, h2, h3⟩ := mem_ready.1 hi
  have hi' : i < ops.size := (Array.getElem?_eq_some_iff.1 h2).1
  have h2f : ops.toList[i]? = some o := by rw [Array.getElem?_toList]; exact h2
  have hin : i < n := by
   apply Classical.byContradiction
   intro hge'
   refine hsw fun j hj hjl => ?_
   apply Classical.byContradiction
   intro hnl
   have : listed.getD j false = true := hcut i o (by omega) h2f (fun j => listed.getD j false = true) hcl (fun e he hb => h3 e he (by rw [bnd_spec]; exact hb)) j hj hnl
   rw [hjl] at this
   cases this
  have h2l : (ops.toList.take n)[i]? = some o := pre hin h2
  obtain ⟨x, hx, hd1⟩ := hdoes i o h2l
  have hopok := hok i o h2l
  rw [Nat.zero_add] at hopok
  obtain ⟨ts, hts, _⟩ := hopok.reads
  have same : ∀ t, t ∈ ts ++ guardTmps (ops.toList.take n) o.guard → (puts (fun j => listed.getD j false) 0 (ops.toList.take n) xs s0.fr)[t]? = (puts (fun j => decide (j < 0 + i)) 0 (ops.toList.take n) xs s0.fr)[t]? := fun t ht =>
   look_same hopok (lst := fun j => listed.getD j false) (fun e he hb => h3 e he (by rw [bnd_spec]; exact hb)) hts ht
  have hset : ∀ (v : Value) (w' : World) (A' : Nat → Prop), Keeps (fun _ => False) w w' → CW W w' A' s0.os hd F → (∀ b, A b → A' b) → SRel w' A' s0.os hd x v → wpAny P .any ops Q fuel (listed.setIfInBounds i true) (a.put o.dst v) w' := fun v w' A' k1 k2 k3 k4 => by
   refine ih (listed.setIfInBounds i true) _ w' A' (by simpa using hs) ?_ (fun j hj hjs => by rw [getD_set_ne false (by omega : i ≠ j)]; exact hge j hj hjs) (fun q o' ho' hq e he hb => ?_) k2 ?_
   ·have hsub : ((List.range ops.size).filter fun j => !(listed.setIfInBounds i true).getD j true) = ((List.range ops.size).filter fun j => !listed.getD j true).filter fun j => decide (j ≠ i) := by
     rw [List.filter_filter]
     refine List.filter_congr fun j hj => ?_
     by_cases e : j = i
     ·subst e
      have : j < listed.size := by omega
      simp [this]
     ·rw [getD_set_ne true (Ne.symm e)]; simp [e]
    have hlt : (((List.range ops.size).filter fun j => !listed.getD j true).filter fun j => decide (j ≠ i)).length < ((List.range ops.size).filter fun j => !listed.getD j true).length :=
     List.length_filter_lt_length_iff_exists.2 ⟨i, List.mem_filter.2 ⟨List.mem_range.2 hi', by simp [h1]⟩, by simp⟩
    rw [hsub]
    omega
   ·have hqs := (List.getElem?_eq_some_iff.1 ho').1
    show (listed.setIfInBounds i true).getD e.on false = true
    replace hq : (listed.setIfInBounds i true).getD q false = true := hq
    by_cases hqi : q = i
    ·subst hqi
     rw [h2f] at ho'; cases ho'
     have h5 := h3 e he (by rw [bnd_spec]; exact hb)
     by_cases hei : q = e.on
     ·rw [← hei]
      have : q < listed.size := by omega
      simp [this]
     ·rw [getD_set_ne false hei]; exact h5
    ·rw [getD_set_ne false (Ne.symm hqi)] at hq
     have h5 := hcl q o' ho' hq e he hb
     by_cases hei : i = e.on
     ·rw [← hei]
      have : i < listed.size := by omega
      simp [this]
     ·rw [getD_set_ne false hei]; exact h5
   ·have f1 : FR w' A' s0.os hd (puts (fun j => listed.getD j false) 0 (ops.toList.take n) xs s0.fr) a := hf.to fun y u hy => hy.mono (fun b hb => k1.block b (hw.hA b hb).1 (fun h => h)) k3
    have f2 := FR.put (s := ⟨puts (fun j => listed.getD j false) 0 (ops.toList.take n) xs s0.fr, s0.os⟩) f1 k4 o.dst
    have e : (AS.put ⟨puts (fun j => listed.getD j false) 0 (ops.toList.take n) xs s0.fr, s0.os⟩ o.dst x).fr = puts (fun j => (listed.setIfInBounds i true).getD j false) 0 (ops.toList.take n) xs s0.fr := by
     refine List.ext_getElem? fun t => ?_
     have other : o.dst ≠ some t → (puts (fun j => listed.getD j false) 0 (ops.toList.take n) xs s0.fr)[t]? = (puts (fun j => (listed.setIfInBounds i true).getD j false) 0 (ops.toList.take n) xs s0.fr)[t]? := fun hne =>
      puts_agree _ _ _ _ _ (fun m o' ho hd => by
       rw [Nat.zero_add]
       refine (getD_set_ne false fun e => ?_).symm
       subst e
       rw [h2l] at ho; cases ho
       exact hne hd) rfl
     cases hdst : o.dst with
     | none => simp only [AS.put]; exact other (by rw [hdst]; simp)
     | some d =>
      simp only [AS.put]
      by_cases e : d = t
      ·subst e
       rw [List.getElem?_set_self']
       rcases Nat.lt_or_ge d s0.fr.length with hlt | hge
       ·rw [List.getElem?_eq_getElem (by rw [puts_len]; exact hlt)]
        refine (puts_hit (lst := fun j => (listed.setIfInBounds i true).getD j false) (ops.toList.take n) 0 xs s0.fr i o h2l hdst hx ?_ (fun m' o' g1 g2 => huniq m' i o' o d g1 h2l g2 hdst) hlt).symm
        have : i < listed.size := by omega
        rw [Nat.zero_add]
        simp [this]
       ·rw [List.getElem?_eq_none (by rw [puts_len]; exact hge), List.getElem?_eq_none (by rw [puts_len]; exact hge)]
        rfl
      ·rw [List.getElem?_set_ne e]; exact other (by rw [hdst]; simpa using e)
    rw [← e]
    simpa [AS.put_os] using f2
  have hrun : aread (stdE np P) L ⟨puts (fun j => decide (j < 0 + i)) 0 (ops.toList.take n) xs s0.fr, s0.os⟩ o (· = x) → o.wp P a w (wpAny P .any ops Q fuel (listed.setIfInBounds i true)) Q := fun hr =>
   aread_sound (s := ⟨puts (fun j => decide (j < 0 + i)) 0 (ops.toList.take n) xs s0.fr, s0.os⟩) hL hw (fun y hy => by
    have g := FR.get (s := ⟨puts (fun j => listed.getD j false) 0 (ops.toList.take n) xs s0.fr, s0.os⟩) hf y
    cases y with
    | tmp t =>
     have := same t (List.mem_append_left _ (opTmps_spec hts hy))
     simp only [AS.get, List.getD_eq_getElem?_getD] at g ⊢
     rw [← this]; exact g
    | _ => exact g) hr fun v w' A' ⟨k1, k2, k3, k4⟩ => hset v w' A' k1 k2 k3.1 k4
  have hskip : x = .und → wpAny P .any ops Q fuel (listed.setIfInBounds i true) (a.put o.dst undef) w := fun e =>
   hset undef w A (Keeps.refl _ _) hw (fun _ h => h) (by subst e; exact .und)
  unfold wpOp
  simp only [h2]
  unfold Does at hd1
  split at hd1
  ·rename_i hg
   rw [if_pos (by simp [Region.wanted, hg])]
   exact .inl (hrun hd1)
  ·rename_i j want hg
   have hy0 : AS.yield ⟨puts (fun j => decide (j < 0 + i)) 0 (ops.toList.take n) xs s0.fr, s0.os⟩ (ops.toList.take n) j = AS.yield ⟨puts (fun j => listed.getD j false) 0 (ops.toList.take n) xs s0.fr, s0.os⟩ (ops.toList.take n) j := by
    unfold AS.yield
    cases hj : (ops.toList.take n)[j]? with
    | none => rfl
    | some oj =>
     cases hdj : oj.dst with
     | none => simp only [hdj]
     | some d =>
      have := same d (List.mem_append_right _ (by simp [guardTmps, hg, hj, hdj]))
      simp only [hdj, List.getD_eq_getElem?_getD, this]
   rw [hy0] at hd1
   split at hd1
   ·exact hd1.elim
   ·rename_i hy
    have := yield_sound (s := ⟨puts (fun j => listed.getD j false) 0 (ops.toList.take n) xs s0.fr, s0.os⟩) hf (yield_take hy)
    rw [if_neg (by simp [Region.wanted, hg, this])]
    exact hskip hd1
   ·rename_i b hy
    have := yield_sound (s := ⟨puts (fun j => listed.getD j false) 0 (ops.toList.take n) xs s0.fr, s0.os⟩) hf (yield_take hy)
    split at hd1
    ·rename_i e
     subst e
     rw [if_pos (by simp [Region.wanted, hg, this])]
     exact .inl (hrun hd1)
    ·rename_i e
     rw [if_neg (by simp [Region.wanted, hg, this, e])]
     exact hskip hd1

/-- A call whose result is owned. -/
theorem aread_own [St] (hw : CW W w A s.os hd F) {o : Oper} (hx : ∀ y ∈ o.op.operands, SRel w A s.os hd (s.get y) (a.eval y)) {c : Call} {f0 : FuncId} (hoc : o.op = .call c) (hcc : c.callee = .value (.func f0)) {x : AV} (hk : aread (stdE np P) L s o (· = x)) {next : Act → World → Prop} {Q : Exit → Act → World → Prop}
  (hn : ∀ v w' G, Keeps (fun _ => False) w w' → XRel w' (fun _ => False) x v G → (∀ b, G b → w.heap.size ≤ b ∧ b < w'.heap.size) → next (a.put o.dst v) w') : o.wp P a w next Q := by
 obtain ⟨dst, op, ty, pos, af, g⟩ := o
 simp only at hoc
 subst hoc
 simp only [aread, hcc] at hk
 split at hk
 ·rename_i hcal
  split at hk
  ·obtain ⟨r, vs, hr, ⟨fo, h1, h2⟩, h3, h4⟩ := call_core hw (fun y hy => hx y hy) hcal hk
   subst hr
   exact wp_enter (run_call h1 h2 h3) (R := fun v w' => ∃ G, Keeps (fun _ => False) w w' ∧ XRel w' (fun _ => False) r v G ∧ ∀ b, G b → w.heap.size ≤ b ∧ b < w'.heap.size) (h4.mono fun e w' ⟨v, G, g1, g2⟩ => ⟨v, g1, G, g2⟩) fun v w' ⟨G, g1, g2, g3⟩ => hn v w' G g1 g2 g3
  ·exact hk.elim
 ·split at hk
  ·rename_i hcal
   obtain ⟨r, vs, hr, ⟨fo, h1, h2⟩, h3, h4⟩ := call_coreB hw (fun y hy => hx y hy) hcal hk
   subst hr
   exact wp_enter (run_callB h1 h2 h3) (R := fun v w' => ∃ G, Keeps (fun _ => False) w w' ∧ XRel w' (fun _ => False) r v G ∧ ∀ b, G b → w.heap.size ≤ b ∧ b < w'.heap.size) (h4.mono fun e w' ⟨v, G, g1, g2⟩ => ⟨v, g1, G, g2⟩) fun v w' ⟨G, g1, g2, g3⟩ => hn v w' G g1 g2 g3
  ·exact hk.elim
theorem memB_not {n : Nat} : ∀ {l : List Nat}, memB n l = false → n ∉ l
 | [], _, h => by cases h
 | m :: l, h, hm => by
  unfold memB at h
  split at h
  ·cases h
  ·rename_i hne
   rcases List.mem_cons.1 hm with e | e
   ·exact hne e.symm
   ·exact memB_not h e
theorem unread_spec {t : Nat} {ops : List Oper} : ∀ {l : List Oper}, unread t ops l = true → ∀ (i : Nat) o, l[i]? = some o → ∀ ts, opTmps o.op = some ts → t ∉ ts ++ guardTmps ops o.guard
 | [], _, i, o, h, _, _ => by simp at h
 | q :: l, h, i, o, ho, ts, hts => by
  unfold unread at h
  split at h
  ·cases h
  ·rename_i ts' hts'
   split at h
   ·cases h
   ·rename_i hm
    cases i with
    | zero =>
     simp at ho; subst ho
     rw [hts] at hts'; cases hts'
     exact memB_not hm
    | succ i => exact unread_spec h i o (by simpa using ho) ts hts
theorem adraw_own [St] (hL : L.ty = layOf P) {ops : Array Oper} {Q : Exit → Act → World → Prop} {n : Nat} {s0 sf : AS} {xs : List AV} (hdr : drawOK (ops.toList.take n) 0 (ops.toList.take n) = true) (ht : Txt np P L (ops.toList.take n) (ops.toList.take n) s0 xs sf) (hnle : n ≤ ops.size)
  {i0 d0 k0 : Nat} {es0 : List (List AV)} (hi0 : i0 < n) (hd0l : d0 < s0.fr.length) (hun : unread d0 (ops.toList.take n) (ops.toList.take n) = true) (how : ∀ o, (ops.toList.take n)[i0]? = some o → o.dst = some d0 ∧ o.guard = none ∧ ∃ c f, o.op = .call c ∧ c.callee = .value (.func f)) (hx0 : xs[i0]? = some (.sl true k0 es0))
  (hcut : ∀ (i : Nat) o, n ≤ i → ops.toList[i]? = some o → ∀ S : Nat → Prop, Closed ops.toList S → (∀ e ∈ o.after, bnd e = true → S e.on) → ∀ j, j < n → S j)
  (hQ : ∀ fuel (listed : Array Bool) a' w' A', listed.size = ops.size → ((List.range ops.size).filter fun i => !listed.getD i true).length ≤ fuel → (∀ j, n ≤ j → j < ops.size → listed.getD j false = false) → (∀ j, j < n → listed.getD j false = true) → Closed ops.toList (fun j => listed.getD j false = true) →
   CW W w' A' s0.os hd F → FR w' A' s0.os hd ((puts (fun j => listed.getD j false) 0 (ops.toList.take n) xs s0.fr).set d0 .any) a' → (listed.getD i0 false = true → ∃ G, XRel w' (fun _ => False) (.sl true k0 es0) (a'.tmps.getD d0 undef) G ∧ ∀ b, G b → W.new b ∧ b < w'.heap.size ∧ ¬ A' b ∧ ∀ id, ¬ F id b) → wpAny P .any ops Q fuel listed a' w') :
  ∀ (fuel : Nat) (listed : Array Bool) (a : Act) (w : World) (A : Nat → Prop), listed.size = ops.size → ((List.range ops.size).filter fun i => !listed.getD i true).length ≤ fuel → (∀ j, n ≤ j → j < ops.size → listed.getD j false = false) → Closed ops.toList (fun j => listed.getD j false = true) →
   CW W w A s0.os hd F → FR w A s0.os hd ((puts (fun j => listed.getD j false) 0 (ops.toList.take n) xs s0.fr).set d0 .any) a → (listed.getD i0 false = true → ∃ G, XRel w (fun _ => False) (.sl true k0 es0) (a.tmps.getD d0 undef) G ∧ ∀ b, G b → W.new b ∧ b < w.heap.size ∧ ¬ A b ∧ ∀ id, ¬ F id b) → wpAny P .any ops Q fuel listed a w := by
 obtain ⟨hlen, hos, hfr, hdoes⟩ := txt_at (ops.toList.take n) s0 xs sf ht 0
 obtain ⟨hok, huniq⟩ := drawOK_spec hdr
 have pre : ∀ {i : Nat} {o : Oper}, i < n → ops[i]? = some o → (ops.toList.take n)[i]? = some o := fun {i o} hi ho => by
  rw [List.getElem?_take, if_pos hi, Array.getElem?_toList]; exact ho
 have getD_tf : ∀ (listed : Array Bool) i, listed.size = ops.size → i < ops.size → listed.getD i true = listed.getD i false := fun listed i hs hi => by
  have : i < listed.size := by omega
  simp [Array.getD, this]
 have allrdy : ∀ (listed : Array Bool), listed.size = ops.size → (∀ i ∈ Region.ready .any ops listed, n ≤ i) → ∀ i, i < n → listed.getD i false = true := by
  intro listed hs h0 i
  induction i using Nat.strongRecOn with
  | _ i ih =>
   intro hi
   apply Classical.byContradiction
   intro hn
   have hio : i < ops.size := by omega
   have ho : ops[i]? = some ops[i] := Array.getElem?_eq_getElem hio
   have : i ∈ Region.ready .any ops listed := mem_ready.2 ⟨by rw [getD_tf listed i hs hio]; simpa using hn, _, ho, fun e he hb => by
    rw [bnd_spec] at hb
    have h1 := (hok i ops[i] (pre hi ho)).edges e he hb
    rw [Nat.zero_add] at h1
    exact ih e.on h1 (by omega)⟩
   have := h0 i this
   omega
 intro fuel
 induction fuel with
 | zero =>
  intro listed a w A hs hc hge hcl hw hf hg
  refine hQ 0 listed a w A hs hc hge (fun i hi => ?_) hcl hw hf hg
  cases hli : listed.getD i false with
  | true => rfl
  | false =>
   have hnil : ((List.range ops.size).filter fun i => !listed.getD i true) = [] := List.length_eq_zero_iff.1 (Nat.le_zero.1 hc)
   have := List.filter_eq_nil_iff.1 hnil i (List.mem_range.2 (by omega))
   rw [getD_tf listed i hs (by omega), hli] at this
   simp at this
 | succ fuel ih =>
  intro listed a w A hs hc hge hcl hw hf hg
  by_cases hsw : ∀ j, j < n → listed.getD j false = true
  ·exact hQ (fuel + 1) listed a w A hs hc hge hsw hcl hw hf hg
  refine ⟨fun h0 => (hsw fun j hj => ?_).elim, fun i hi => ?_⟩
  ·exact allrdy listed hs (fun i hi => by rw [h0] at hi; cases hi) j hj
  obtain ⟨h1, o, h2, h3⟩ := mem_ready.1 hi
  have hi' : i < ops.size := (Array.getElem?_eq_some_iff.1 h2).1
  have h2f : ops.toList[i]? = some o := by rw [Array.getElem?_toList]; exact h2
  have hin : i < n := by
   apply Classical.byContradiction
   intro hge'
   exact hsw fun j hj => hcut i o (by omega) h2f (fun j => listed.getD j false = true) hcl (fun e he hb => h3 e he (by rw [bnd_spec]; exact hb)) j hj
  have h2l : (ops.toList.take n)[i]? = some o := pre hin h2
  obtain ⟨x, hx, hd1⟩ := hdoes i o h2l
  have hopok := hok i o h2l
  rw [Nat.zero_add] at hopok
  obtain ⟨ts, hts, _⟩ := hopok.reads
  have same : ∀ t, t ∈ ts ++ guardTmps (ops.toList.take n) o.guard → (puts (fun j => listed.getD j false) 0 (ops.toList.take n) xs s0.fr)[t]? = (puts (fun j => decide (j < 0 + i)) 0 (ops.toList.take n) xs s0.fr)[t]? := fun t ht =>
   look_same hopok (lst := fun j => listed.getD j false) (fun e he hb => h3 e he (by rw [bnd_spec]; exact hb)) hts ht
  have hnl : listed.getD i false = false := by
   rw [← getD_tf listed i hs hi']; exact h1
  have hdi : o.dst = some d0 → i = i0 := fun hd => by
   obtain ⟨o0, ho0⟩ : ∃ o0, (ops.toList.take n)[i0]? = some o0 := ⟨_, List.getElem?_eq_getElem (by simp; omega)⟩
   exact huniq i i0 o o0 d0 h2l ho0 hd (how o0 ho0).1
  have hunr := unread_spec hun i o h2l
  have hset : ∀ (v : Value) (w' : World) (A' : Nat → Prop), Keeps (fun _ => False) w w' → CW W w' A' s0.os hd F → (∀ b, A b → A' b) → (o.dst ≠ some d0 → SRel w' A' s0.os hd x v) → (((listed.setIfInBounds i true).getD i0 false = true) → ∃ G, XRel w' (fun _ => False) (.sl true k0 es0) ((a.put o.dst v).tmps.getD d0 undef) G ∧ ∀ b, G b → W.new b ∧ b < w'.heap.size ∧ ¬ A' b ∧ ∀ id, ¬ F id b) → wpAny P .any ops Q fuel (listed.setIfInBounds i true) (a.put o.dst v) w' := fun v w' A' k1 k2 k3 k4 k5 => by
   refine ih (listed.setIfInBounds i true) _ w' A' (by simpa using hs) ?_ (fun j hj hjs => by rw [getD_set_ne false (by omega : i ≠ j)]; exact hge j hj hjs) (fun q o' ho' hq e he hb => ?_) k2 ?_ k5
   ·have hsub : ((List.range ops.size).filter fun j => !(listed.setIfInBounds i true).getD j true) = ((List.range ops.size).filter fun j => !listed.getD j true).filter fun j => decide (j ≠ i) := by
     rw [List.filter_filter]
     refine List.filter_congr fun j hj => ?_
     by_cases e : j = i
     ·subst e
      have : j < listed.size := by omega
      simp [this]
     ·rw [getD_set_ne true (Ne.symm e)]; simp [e]
    have hlt : (((List.range ops.size).filter fun j => !listed.getD j true).filter fun j => decide (j ≠ i)).length < ((List.range ops.size).filter fun j => !listed.getD j true).length :=
     List.length_filter_lt_length_iff_exists.2 ⟨i, List.mem_filter.2 ⟨List.mem_range.2 hi', by simp [h1]⟩, by simp⟩
    rw [hsub]
    omega
   ·have hqs := (List.getElem?_eq_some_iff.1 ho').1
    show (listed.setIfInBounds i true).getD e.on false = true
    replace hq : (listed.setIfInBounds i true).getD q false = true := hq
    by_cases hqi : q = i
    ·subst hqi
     rw [h2f] at ho'; cases ho'
     have h5 := h3 e he (by rw [bnd_spec]; exact hb)
     by_cases hei : q = e.on
     ·rw [← hei]
      have : q < listed.size := by omega
      simp [this]
     ·rw [getD_set_ne false hei]; exact h5
    ·rw [getD_set_ne false (Ne.symm hqi)] at hq
     have h5 := hcl q o' ho' hq e he hb
     by_cases hei : i = e.on
     ·rw [← hei]
      have : i < listed.size := by omega
      simp [this]
     ·rw [getD_set_ne false hei]; exact h5
   ·have f1 : FR w' A' s0.os hd ((puts (fun j => listed.getD j false) 0 (ops.toList.take n) xs s0.fr).set d0 .any) a := hf.to fun y u hy => hy.mono (fun b hb => k1.block b (hw.hA b hb).1 (fun h => h)) k3
    have e : (AS.put ⟨puts (fun j => listed.getD j false) 0 (ops.toList.take n) xs s0.fr, s0.os⟩ o.dst x).fr = puts (fun j => (listed.setIfInBounds i true).getD j false) 0 (ops.toList.take n) xs s0.fr := by
     refine List.ext_getElem? fun t => ?_
     have other : o.dst ≠ some t → (puts (fun j => listed.getD j false) 0 (ops.toList.take n) xs s0.fr)[t]? = (puts (fun j => (listed.setIfInBounds i true).getD j false) 0 (ops.toList.take n) xs s0.fr)[t]? := fun hne =>
      puts_agree _ _ _ _ _ (fun m o' ho hd => by
       rw [Nat.zero_add]
       refine (getD_set_ne false fun e => ?_).symm
       subst e
       rw [h2l] at ho; cases ho
       exact hne hd) rfl
     cases hdst : o.dst with
     | none => simp only [AS.put]; exact other (by rw [hdst]; simp)
     | some d =>
      simp only [AS.put]
      by_cases e : d = t
      ·subst e
       rw [List.getElem?_set_self']
       rcases Nat.lt_or_ge d s0.fr.length with hlt | hge
       ·rw [List.getElem?_eq_getElem (by rw [puts_len]; exact hlt)]
        refine (puts_hit (lst := fun j => (listed.setIfInBounds i true).getD j false) (ops.toList.take n) 0 xs s0.fr i o h2l hdst hx ?_ (fun m' o' g1 g2 => huniq m' i o' o d g1 h2l g2 hdst) hlt).symm
        have : i < listed.size := by omega
        rw [Nat.zero_add]
        simp [this]
       ·rw [List.getElem?_eq_none (by rw [puts_len]; exact hge), List.getElem?_eq_none (by rw [puts_len]; exact hge)]
        rfl
      ·rw [List.getElem?_set_ne e]; exact other (by rw [hdst]; simpa using e)
    rw [← e]
    cases hdst : o.dst with
    | none => simpa [AS.put, Act.put, hdst] using f1
    | some d =>
     by_cases hdd : d = d0
     ·subst hdd
      have f2 := FR.put (s := ⟨(puts (fun j => listed.getD j false) 0 (ops.toList.take n) xs s0.fr).set d .any, s0.os⟩) f1 (x := .any) (v := v) (.pure _ _ (.any _)) (some d)
      simpa [AS.put, List.set_set] using f2
     ·have f2 := FR.put (s := ⟨(puts (fun j => listed.getD j false) 0 (ops.toList.take n) xs s0.fr).set d0 .any, s0.os⟩) f1 (k4 (by rw [hdst]; simpa using hdd)) (some d)
      have e2 : ((puts (fun j => listed.getD j false) 0 (ops.toList.take n) xs s0.fr).set d x).set d0 .any = ((puts (fun j => listed.getD j false) 0 (ops.toList.take n) xs s0.fr).set d0 .any).set d x := List.set_comm _ _ hdd
      simp only [AS.put] at f2 ⊢
      rw [e2]; exact f2
  have hne : ∀ t, t ∈ ts ++ guardTmps (ops.toList.take n) o.guard → ((puts (fun j => listed.getD j false) 0 (ops.toList.take n) xs s0.fr).set d0 .any)[t]? = (puts (fun j => decide (j < 0 + i)) 0 (ops.toList.take n) xs s0.fr)[t]? := fun t ht => by
   rw [List.getElem?_set_ne (fun e => hunr ts hts (by rw [e]; exact ht))]; exact same t ht
  have hops : ∀ y ∈ o.op.operands, SRel w A s0.os hd (AS.get ⟨puts (fun j => decide (j < 0 + i)) 0 (ops.toList.take n) xs s0.fr, s0.os⟩ y) (a.eval y) := fun y hy => by
   have g := FR.get (s := ⟨(puts (fun j => listed.getD j false) 0 (ops.toList.take n) xs s0.fr).set d0 .any, s0.os⟩) hf y
   cases y with
   | tmp t =>
    have := hne t (List.mem_append_left _ (opTmps_spec hts hy))
    simp only [AS.get, List.getD_eq_getElem?_getD] at g ⊢
    rw [← this]; exact g
   | _ => exact g
  have tmpk : ∀ v, o.dst ≠ some d0 → (a.put o.dst v).tmps.getD d0 undef = a.tmps.getD d0 undef := fun v hv => by
   cases hdst : o.dst with
   | none => rfl
   | some d =>
    have : d ≠ d0 := fun e => hv (by rw [hdst, e])
    simp [Act.put, Array.getD_eq_getD_getElem?, Array.getElem?_setIfInBounds, this]
  have hkeep : ∀ (v : Value) (w' : World) (A' : Nat → Prop), i ≠ i0 → Keeps (fun _ => False) w w' → (∀ b, A' b → A b ∨ w.heap.size ≤ b) → (((listed.setIfInBounds i true).getD i0 false = true) → ∃ G, XRel w' (fun _ => False) (.sl true k0 es0) ((a.put o.dst v).tmps.getD d0 undef) G ∧ ∀ b, G b → W.new b ∧ b < w'.heap.size ∧ ¬ A' b ∧ ∀ id, ¬ F id b) := fun v w' A' hii k1 k3 hl => by
   rw [getD_set_ne false hii] at hl
   obtain ⟨G, g1, g2⟩ := hg hl
   refine ⟨G, by rw [tmpk v (fun h => hii (hdi h))]; exact g1.mono (fun _ h => h) (fun x hx => hx.elim (fun h => h.elim) fun hx => k1.block x (g2 x hx).2.1 (fun h => h)), fun b hb => ⟨(g2 b hb).1, Nat.lt_of_lt_of_le (g2 b hb).2.1 k1.size, fun h => ?_, (g2 b hb).2.2.2⟩⟩
   rcases k3 b h with h | h
   ·exact (g2 b hb).2.2.1 h
   ·have := (g2 b hb).2.1; omega
  have hrun : i ≠ i0 → aread (stdE np P) L ⟨puts (fun j => decide (j < 0 + i)) 0 (ops.toList.take n) xs s0.fr, s0.os⟩ o (· = x) → o.wp P a w (wpAny P .any ops Q fuel (listed.setIfInBounds i true)) Q := fun hii hr =>
   aread_sound (s := ⟨puts (fun j => decide (j < 0 + i)) 0 (ops.toList.take n) xs s0.fr, s0.os⟩) hL hw hops hr fun v w' A' ⟨k1, k2, k3, k4⟩ => hset v w' A' k1 k2 k3.1 (fun _ => k4) (hkeep v w' A' hii k1 k3.2)
  have hown : i = i0 → aread (stdE np P) L ⟨puts (fun j => decide (j < 0 + i)) 0 (ops.toList.take n) xs s0.fr, s0.os⟩ o (· = x) → o.wp P a w (wpAny P .any ops Q fuel (listed.setIfInBounds i true)) Q := fun hii hr => by
   obtain ⟨hd1', _, c, f, hoc, hcc⟩ := how o (by rw [← hii]; exact h2l)
   have hxx : x = .sl true k0 es0 := by rw [← hii, hx] at hx0; cases hx0; rfl
   refine aread_own (s := ⟨puts (fun j => decide (j < 0 + i)) 0 (ops.toList.take n) xs s0.fr, s0.os⟩) hw hops hoc hcc hr fun v w' G k1 k2 k3 => ?_
   refine hset v w' A k1 (hw.keep k1) (fun _ h => h) (fun h => absurd hd1' h) fun _ => ⟨G, ?_, fun b hb => ⟨hw.below.new (k3 b hb).1, (k3 b hb).2, fun h => ?_, fun id h => ?_⟩⟩
   ·have hsz := hf.size
    rw [List.length_set, puts_len] at hsz
    have : (a.put o.dst v).tmps.getD d0 undef = v := by
     rw [hd1']
     simp [Act.put, Array.getD_eq_getD_getElem?, Array.getElem?_setIfInBounds, hsz, hd0l]
    rw [this, ← hxx]; exact k2
   ·have := (hw.hA b h).1; have := (k3 b hb).1; omega
   ·have := (hw.fsz id b h).2; have := (k3 b hb).1; omega
  have hskip : i ≠ i0 → x = .und → wpAny P .any ops Q fuel (listed.setIfInBounds i true) (a.put o.dst undef) w := fun hii e =>
   hset undef w A (Keeps.refl _ _) hw (fun _ h => h) (fun _ => by subst e; exact .und) (hkeep undef w A hii (Keeps.refl _ _) fun _ h => .inl h)
  unfold wpOp
  simp only [h2]
  unfold Does at hd1
  split at hd1
  ·rename_i hg
   rw [if_pos (by simp [Region.wanted, hg])]
   by_cases hii : i = i0
   ·exact .inl (hown hii hd1)
   ·exact .inl (hrun hii hd1)
  ·rename_i j want hg'
   have hii : i ≠ i0 := fun e => by
    have := (how o (by rw [← e]; exact h2l)).2.1
    rw [this] at hg'; cases hg'
   have hy0 : AS.yield ⟨puts (fun j => decide (j < 0 + i)) 0 (ops.toList.take n) xs s0.fr, s0.os⟩ (ops.toList.take n) j = AS.yield ⟨(puts (fun j => listed.getD j false) 0 (ops.toList.take n) xs s0.fr).set d0 .any, s0.os⟩ (ops.toList.take n) j := by
    unfold AS.yield
    cases hj : (ops.toList.take n)[j]? with
    | none => rfl
    | some oj =>
     cases hdj : oj.dst with
     | none => simp only [hdj]
     | some d =>
      have := hne d (List.mem_append_right _ (by simp [guardTmps, hg', hj, hdj]))
      simp only [hdj, List.getD_eq_getElem?_getD, this]
   rw [hy0] at hd1
   split at hd1
   ·exact hd1.elim
   ·rename_i hy
    have := yield_sound (s := ⟨(puts (fun j => listed.getD j false) 0 (ops.toList.take n) xs s0.fr).set d0 .any, s0.os⟩) hf (yield_take hy)
    rw [if_neg (by simp [Region.wanted, hg', this])]
    exact hskip hii hd1
   ·rename_i b hy
    have := yield_sound (s := ⟨(puts (fun j => listed.getD j false) 0 (ops.toList.take n) xs s0.fr).set d0 .any, s0.os⟩) hf (yield_take hy)
    split at hd1
    ·rename_i e
     subst e
     rw [if_pos (by simp [Region.wanted, hg', this])]
     exact .inl (hrun hii hd1)
    ·rename_i e
     rw [if_neg (by simp [Region.wanted, hg', this, e])]
     exact hskip hii hd1

theorem cutK_spec {ops : List Oper} : cutK L ops ≤ ops.length ∧ ∀ (i : Nat) o, cutK L ops ≤ i → ops[i]? = some o → (∀ e ∈ o.after, bnd e = true → e.on < i) ∧
  ∀ S : Nat → Prop, Closed ops S → (∀ e ∈ o.after, bnd e = true → S e.on) → ∀ j, j < i → S j := by
 unfold cutK
 split
 ·exact cut_spec
 ·split
  ·exact ⟨Nat.le_refl _, fun i o hi ho => by
    have := (List.getElem?_eq_some_iff.1 ho).1
    omega⟩
  ·exact cut_spec
theorem drawOK_closed {ops : Array Oper} {n : Nat} (hdr : drawOK (ops.toList.take n) 0 (ops.toList.take n) = true) (hn : n ≤ ops.size) : Closed ops.toList (fun j => j < n) := fun i o ho hi e he hb => by
 have h1 := ((drawOK_spec hdr).1 i o (by rw [List.getElem?_take, if_pos hi]; exact ho)).edges e he hb
 rw [Nat.zero_add] at h1
 show e.on < n
 omega
/-- A region that draws its order. -/
theorem adraw_sound [St] (hL : L.ty = layOf P) (hm : P.follows .mixedOrders = true) {id : Nat} {ops : Array Oper} (hdr : drawOK (ops.toList.take (cutK L ops.toList)) 0 (ops.toList.take (cutK L ops.toList)) = true) {Q : Exit → Act → World → Prop} {K : AS → Prop} (hQ : ∀ s' a' w' A' hd' F', K s' → CW W w' A' s'.os hd' F' → FR w' A' s'.os hd' s'.fr a' → Q .normal a' w')
  (hw : CW W w A s.os hd F) (hf : FR w A s.os hd s.fr a) (hk : aops (stdE np P) L true (ops.toList.take (cutK L ops.toList)) (ops.toList.take (cutK L ops.toList)) s fun s' => aops (stdE np P) L false ops.toList (ops.toList.drop (cutK L ops.toList)) s' K) : (Code.region id ops true).wp P Q a w := by
 have hkp := Keeps.drew w
 have hw' := hw.keep hkp
 have hf' : FR w.drew A s.os hd s.fr a := hf.to fun y u hy => hy.keep (fun b hb => (hw.hA b hb).1) hkp
 obtain ⟨xs, sf, ht, hK⟩ := txt_sim hL (ops.toList.take (cutK L ops.toList)) s a w.drew A hw' hf' hk
 have hcut := cutK_spec (L := L) (ops := ops.toList)
 have hnle : cutK L ops.toList ≤ ops.size := by simpa using hcut.1
 obtain ⟨hlen, hos, hfr, _⟩ := txt_at (ops.toList.take (cutK L ops.toList)) s xs sf ht 0
 refine wp_region_any hm (adraw_any hL (fun _ => False) hdr ht hnle (fun i o hi ho S hS he j hj _ => (hcut.2 i o hi ho).2 S hS he j (by omega)) (fun fuel listed a' w' A' g1 gc gge g2 _ h1 h2 => ?_) ops.size (Array.replicate ops.size false) a w.drew A (by simp) ?_ ?_ ?_ hw' ?_)
 ·have hall : ∀ i, i < cutK L ops.toList → listed.getD i false = true := fun i hi => by
   cases h : listed.getD i false
   ·exact (g2 i hi h).elim
   ·rfl
  have e : puts (fun j => listed.getD j false) 0 (ops.toList.take (cutK L ops.toList)) xs s.fr = sf.fr := by
   rw [hfr]
   refine List.ext_getElem? fun t => puts_agree _ _ _ _ _ (fun m o ho _ => ?_) rfl
   have : m < cutK L ops.toList := by have := (List.getElem?_eq_some_iff.1 ho).1; simp at this; omega
   simpa using hall m this
  rw [e] at h2
  have hfu : ops.size - cutK L ops.toList ≤ fuel := by
   have hsub : (List.range' (cutK L ops.toList) (ops.size - cutK L ops.toList)).length ≤ ((List.range ops.size).filter fun i => !listed.getD i true).length := by
    refine List.Nodup.length_le_of_subset (List.nodup_range' ..) (fun j hj => ?_)
    have h1 := List.mem_range'_1.1 hj
    refine List.mem_filter.2 ⟨List.mem_range.2 (by omega), ?_⟩
    have h2 : j < listed.size := by omega
    have h3 := gge j h1.1 (by omega)
    simp [Array.getD, h2] at h3 ⊢; exact h3
   rw [List.length_range'] at hsub; omega
  refine aseq_any hL hcut.2 hQ fuel (cutK L ops.toList) listed sf a' w' A' hd F (Nat.le_refl _) hnle g1 (fun j hj => ?_) hfu ?_ (by rw [hos]; exact h1) (by rw [hos]; exact h2) hK
  ·by_cases hjn : j < cutK L ops.toList
   ·rw [hall j hjn]; simp [hjn]
   ·rw [gge j (by omega) hj]; simp [hjn]
  ·exact drawOK_closed hdr hnle
 ·exact Nat.le_trans (List.length_filter_le _ _) (by simp)
 ·intro j _ hj; simp [hj]
 ·intro i o ho hi
  exfalso
  have : i < ops.size := by simpa using (List.getElem?_eq_some_iff.1 ho).1
  simp [this] at hi
 ·have e : puts (fun j => (Array.replicate ops.size false).getD j false) 0 (ops.toList.take (cutK L ops.toList)) xs s.fr = s.fr := by
   have h0 : (fun j => (Array.replicate ops.size false).getD j false) = fun _ => false := by
    funext j
    by_cases h : j < ops.size <;> simp [h]
   rw [h0]
   have e2 : ∀ (l : List Oper) (i : Nat) (xs fr : List AV), puts (fun _ => false) i l xs fr = fr := by
    intro l
    induction l with
    | nil => intro i xs fr; simp [puts]
    | cons o l ih => intro i xs fr; cases xs with | nil => simp [puts] | cons x xs => simp [puts, put1, ih]
   exact e2 _ _ _ _
  rw [e]; exact hf'
theorem madeBy_spec {t : Nat} : ∀ {l : List Oper} {i0 i : Nat}, madeBy t i0 l = some i → i0 ≤ i ∧ i < i0 + l.length ∧ ∀ o, l[i - i0]? = some o → o.dst = some t ∧ o.guard = none ∧ ∃ c f, o.op = .call c ∧ c.callee = .value (.func f)
 | [], _, _, h => by cases h
 | o :: l, i0, i, h => by
  have next : madeBy t (i0 + 1) l = some i → i0 ≤ i ∧ i < i0 + (o :: l).length ∧ ∀ o', (o :: l)[i - i0]? = some o' → o'.dst = some t ∧ o'.guard = none ∧ ∃ c f, o'.op = .call c ∧ c.callee = .value (.func f) := fun h => by
   obtain ⟨h1, h2, h3⟩ := madeBy_spec h
   refine ⟨by omega, by simp; omega, fun o' ho => h3 o' ?_⟩
   rw [show i - i0 = (i - (i0 + 1)) + 1 by omega] at ho
   simpa using ho
  unfold madeBy at h
  split at h
  ·rename_i d hd
   split at h
   ·rename_i e
    subst e
    split at h
    ·rename_i c hg hop
     split at h
     ·rename_i f hc
      cases h
      refine ⟨Nat.le_refl _, by simp, fun o' ho => ?_⟩
      simp at ho; subst ho
      exact ⟨hd, hg, c, f, hop, hc⟩
     ·cases h
    ·cases h
   ·exact next h
  ·exact next h
theorem ownSlot_spec {pre suf : List Oper} {i d : Nat} (h : ownSlot pre suf = some (i, d)) : i < pre.length ∧ unread d pre pre = true ∧ ∀ o, pre[i]? = some o → o.dst = some d ∧ o.guard = none ∧ ∃ c f, o.op = .call c ∧ c.callee = .value (.func f) := by
 unfold ownSlot at h
 split at h
 ·cases h
 ·split at h
  ·cases h
  ·rename_i i' hi
   split at h
   ·rename_i hu
    cases h
    obtain ⟨_, h2, h3⟩ := madeBy_spec hi
    exact ⟨by omega, hu, fun o ho => h3 o (by simpa using ho)⟩
   ·cases h
/-- A region that draws its order, in which a call makes a list that is appended to. -/
theorem adraw_ownS [St] (hL : L.ty = layOf P) (hm : P.follows .mixedOrders = true) {id : Nat} {ops : Array Oper} (hdr : drawOK (ops.toList.take (cutK L ops.toList)) 0 (ops.toList.take (cutK L ops.toList)) = true) {i0 d0 : Nat} (hsl : ownSlot (ops.toList.take (cutK L ops.toList)) (ops.toList.drop (cutK L ops.toList)) = some (i0, d0)) {Q : Exit → Act → World → Prop} {K : AS → Prop} (hQ : ∀ s' a' w' A' hd' F', K s' → CW W w' A' s'.os hd' F' → FR w' A' s'.os hd' s'.fr a' → Q .normal a' w')
  (hw : CW W w A s.os hd F) (hf : FR w A s.os hd s.fr a) (hk : aops (stdE np P) L true (ops.toList.take (cutK L ops.toList)) (ops.toList.take (cutK L ops.toList)) s fun s' => match s'.fr.getD d0 .any with
   | .sl true k es => aops (stdE np P) L false ops.toList (ops.toList.drop (cutK L ops.toList)) ⟨s'.fr.set d0 (.ob s'.os.length), s'.os ++ [.row k es]⟩ K
   | _ => False) : (Code.region id ops true).wp P Q a w := by
 have hkp := Keeps.drew w
 have hw' := hw.keep hkp
 have hf' : FR w.drew A s.os hd s.fr a := hf.to fun y u hy => hy.keep (fun b hb => (hw.hA b hb).1) hkp
 obtain ⟨xs, sf, ht, hK⟩ := txt_sim hL (ops.toList.take (cutK L ops.toList)) s a w.drew A hw' hf' hk
 have hcut := cutK_spec (L := L) (ops := ops.toList)
 have hnle : cutK L ops.toList ≤ ops.size := by simpa using hcut.1
 obtain ⟨hlen, hos, hfr, hdoes⟩ := txt_at (ops.toList.take (cutK L ops.toList)) s xs sf ht 0
 obtain ⟨hi0, hun, how⟩ := ownSlot_spec hsl
 obtain ⟨_, huniq⟩ := drawOK_spec hdr
 split at hK
 ·rename_i k0 es0 hx
  have hd0l : d0 < s.fr.length := by
   apply Classical.byContradiction
   intro h
   rw [hfr, List.getD_eq_getElem?_getD, List.getElem?_eq_none (by rw [puts_len]; omega)] at hx
   cases hx
  obtain ⟨o0, ho0⟩ : ∃ o0, (ops.toList.take (cutK L ops.toList))[i0]? = some o0 := ⟨_, List.getElem?_eq_getElem hi0⟩
  obtain ⟨x0, hx0, _⟩ := hdoes i0 o0 ho0
  have hxx : x0 = .sl true k0 es0 := by
   have h1 := puts_hit (lst := fun _ => true) (ops.toList.take (cutK L ops.toList)) 0 xs s.fr i0 o0 ho0 (how o0 ho0).1 hx0 rfl (fun m' o' g1 g2 => huniq m' i0 o' o0 d0 g1 ho0 g2 (how o0 ho0).1) hd0l
   rw [hfr, List.getD_eq_getElem?_getD, h1] at hx
   exact hx
  subst hxx
  have hi0' : i0 < cutK L ops.toList := by simp at hi0; omega
  refine wp_region_any hm (adraw_own hL hdr ht hnle hi0' hd0l hun how hx0 (fun i o hi ho S hS he j hj => (hcut.2 i o hi ho).2 S hS he j (by omega)) (fun fuel listed a' w' A' g1 gc gge g2 _ h1 h2 h3 => ?_) ops.size (Array.replicate ops.size false) a w.drew A (by simp) ?_ ?_ ?_ hw' ?_ ?_)
  ·have e : puts (fun j => listed.getD j false) 0 (ops.toList.take (cutK L ops.toList)) xs s.fr = sf.fr := by
    rw [hfr]
    refine List.ext_getElem? fun t => puts_agree _ _ _ _ _ (fun m o ho _ => ?_) rfl
    have : m < cutK L ops.toList := by have := (List.getElem?_eq_some_iff.1 ho).1; simp at this; omega
    simpa using g2 m this
   rw [e] at h2
   obtain ⟨G, h4, h5⟩ := h3 (g2 i0 hi0')
   have hfu : ops.size - cutK L ops.toList ≤ fuel := by
    have hsub : (List.range' (cutK L ops.toList) (ops.size - cutK L ops.toList)).length ≤ ((List.range ops.size).filter fun i => !listed.getD i true).length := by
     refine List.Nodup.length_le_of_subset (List.nodup_range' ..) (fun j hj => ?_)
     have h1 := List.mem_range'_1.1 hj
     refine List.mem_filter.2 ⟨List.mem_range.2 (by omega), ?_⟩
     have h2 : j < listed.size := by omega
     have h3 := gge j h1.1 (by omega)
     simp [Array.getD, h2] at h3 ⊢; exact h3
    rw [List.length_range'] at hsub; omega
   have hxr : XRel w' A' (.sl true k0 es0) (a'.tmps.getD d0 undef) G := h4.mono (fun _ h => h.elim) (fun _ _ => rfl)
   have hcw := h1.push (.row k0 es0) (a'.tmps.getD d0 undef) G h5 (fun k es he => by cases he; exact hxr) (fun cs he => by cases he)
   have hfr2 : FR w' A' (s.os ++ [.row k0 es0]) (updN hd s.os.length (a'.tmps.getD d0 undef)) (sf.fr.set d0 (.ob s.os.length)) a' := by
    refine ⟨h2.nodef, by have := h2.size; simpa using this, fun t x hx => ?_⟩
    rw [List.getElem?_set] at hx
    split at hx
    ·rename_i et
     subst et
     split at hx
     ·cases hx
      exact .ob _ _ (by simp) fun k es ho => by rw [updN_eq]
     ·cases hx
    ·rename_i et
     exact (h2.slots t x (by rw [List.getElem?_set_ne et]; exact hx)).push _ _
   refine aseq_any hL hcut.2 hQ fuel (cutK L ops.toList) listed _ a' w' A' _ _ (Nat.le_refl _) hnle g1 (fun j hj => ?_) hfu ?_ (by rw [hos]; exact hcw) (by rw [hos]; exact hfr2) hK
   ·by_cases hjn : j < cutK L ops.toList
    ·rw [g2 j hjn]; simp [hjn]
    ·rw [gge j (by omega) hj]; simp [hjn]
   ·exact drawOK_closed hdr hnle
  ·exact Nat.le_trans (List.length_filter_le _ _) (by simp)
  ·intro j _ hj; simp [hj]
  ·intro i o ho hi
   exfalso
   have : i < ops.size := by simpa using (List.getElem?_eq_some_iff.1 ho).1
   simp [this] at hi
  ·have e : puts (fun j => (Array.replicate ops.size false).getD j false) 0 (ops.toList.take (cutK L ops.toList)) xs s.fr = s.fr := by
    have h0 : (fun j => (Array.replicate ops.size false).getD j false) = fun _ => false := by
     funext j
     by_cases h : j < ops.size <;> simp [h]
    rw [h0]
    have e2 : ∀ (l : List Oper) (i : Nat) (xs fr : List AV), puts (fun _ => false) i l xs fr = fr := by
     intro l
     induction l with
     | nil => intro i xs fr; simp [puts]
     | cons o l ih => intro i xs fr; cases xs with | nil => simp [puts] | cons x xs => simp [puts, put1, ih]
    exact e2 _ _ _ _
   rw [e]
   refine ⟨hf'.nodef, by have := hf'.size; simpa using this, fun t x hx => ?_⟩
   rw [List.getElem?_set] at hx
   split at hx
   ·first
     | (cases hx; exact .pure _ _ (.any _))
     | (split at hx
        ·cases hx; exact .pure _ _ (.any _)
        ·cases hx)
   ·exact hf'.slots t x hx
  ·intro h
   have : i0 < ops.size := by omega
   simp [this] at h
 ·exact hK.elim
end
end Go.Proofs.YtlemeenicaidfaaGreatDoor
