/- Drawn regions with operations that change memory, some reads of which come late. -/
import Derived.Test.YtlemeenicaidfaaGreatDoorAxE
import Derived.Test.YtlemeenicaidfaaGreatDoorAxD
import Derived.LoopN
import Derived.Laws.Sem
import Derived.KernelRfl
namespace Go.Proofs.YtlemeenicaidfaaGreatDoor
set_option linter.unusedVariables false
set_option linter.unusedSimpArgs false
open Go Go.RowKit

section
variable {P : Program} {np : Nat} {L : Lay} {W : WM} {w w' : World} {A : Nat → Prop} {os os' : List Obj} {hd hd' : Nat → Value} {F F' : Nat → Nat → Prop} {s s1 : AS} {a : Act}

/-- What may come late: moves, reads of pure values, reads of own boxes that stay. -/
def LP (s : AS) (ids : List Nat) (o : Oper) : Prop := isMove o.op = true ∨ (∀ y ∈ o.op.operands, (s.get y).isPure = true) ∨ isLd o.op = true ∧ ∀ y ∈ o.op.operands, (s.get y).isPure = true ∨ ∃ id off, s.get y = .pb id off ∧ id ∈ ids
theorem LP.to {ids : List Nat} {o : Oper} (h : LP s ids o) (hg : ∀ y ∈ o.op.operands, s1.get y = s.get y) : LP s1 ids o :=
 h.imp (fun h => h) fun h => h.imp (fun h y hy => by rw [hg y hy]; exact h y hy) fun ⟨h1, h2⟩ => ⟨h1, fun y hy => by rw [hg y hy]; exact h2 y hy⟩
theorem aval_late {E : Env} {o : Oper} {K : AV → Prop} (hl : lateOp o = true) (hg : ∀ y ∈ o.op.operands, s1.get y = s.get y) {ids : List Nat} (hp : LP s ids o) (hids : ∀ id ∈ ids, s1.os[id]? = s.os[id]?) (hk : aval E L s o.op K) : aval E L s1 o.op K := by
 obtain ⟨dst, op, ty, pos, af, g⟩ := o
 replace hl : lateOp ⟨dst, op, ty, pos, af, g⟩ = true := hl
 have hl2 : g = none := by
  unfold lateOp at hl
  split at hl
  ·assumption
  ·cases hl
 subst hl2
 replace hg : ∀ y ∈ op.operands, s1.get y = s.get y := hg
 replace hp : isMove op = true ∨ (∀ y ∈ op.operands, (s.get y).isPure = true) ∨ isLd op = true ∧ ∀ y ∈ op.operands, (s.get y).isPure = true ∨ ∃ id off, s.get y = .pb id off ∧ id ∈ ids := hp
 replace hk : aval E L s op K := hk
 show aval E L s1 op K
 revert hl hg hp hk
 ·cases op
  case move x =>
   intro hl hg hp hk
   simp only [aval] at *; rw [hg x (by simp [Op.operands])]; exact hk
  case assign x =>
   intro hl hg hp hk
   simp only [aval] at *; rw [hg x (by simp [Op.operands])]; exact hk
  case extract x i =>
   intro hl hg hp hk
   simp only [aval] at *; rw [hg x (by simp [Op.operands])]; exact hk
  case nilCheck x =>
   intro hl hg hp hk
   have h1 := hg x (by simp [Op.operands])
   have h2 : (s.get x).isPure = true ∨ ∃ id off, s.get x = .pb id off ∧ id ∈ ids := by
    rcases hp with h | h | h
    ·simp [isMove] at h
    ·exact .inl (h x (by simp [Op.operands]))
    ·exact h.2 x (by simp [Op.operands])
   simp only [aval] at hk ⊢
   rw [h1]
   generalize s.get x = v at *
   rcases h2 with h2 | ⟨id, off, rfl, hid⟩
   ·cases v <;> first | exact hk | exact hk.elim | (simp [AV.isPure] at h2)
   ·simp only at hk ⊢
    rw [hids id hid]; exact hk
  case load t x =>
   intro hl hg hp hk
   have h1 := hg x (by simp [Op.operands])
   have h2 : (s.get x).isPure = true ∨ ∃ id off, s.get x = .pb id off ∧ id ∈ ids := by
    rcases hp with h | h | h
    ·simp [isMove] at h
    ·exact .inl (h x (by simp [Op.operands]))
    ·exact h.2 x (by simp [Op.operands])
   simp only [aval] at hk ⊢
   rw [h1]
   generalize s.get x = v at *
   rcases h2 with h2 | ⟨id, off, rfl, hid⟩
   ·cases v <;> first | exact hk | exact hk.elim | (simp [AV.isPure] at h2)
   ·simp only at hk ⊢
    rw [hids id hid]; exact hk
  case fieldAddr t x f =>
   intro hl hg hp hk
   have h1 := hg x (by simp [Op.operands])
   have h2 : (s.get x).isPure = true ∨ ∃ id off, s.get x = .pb id off ∧ id ∈ ids := by
    rcases hp with h | h | h
    ·simp [isMove] at h
    ·exact .inl (h x (by simp [Op.operands]))
    ·exact h.2 x (by simp [Op.operands])
   simp only [aval] at hk ⊢
   rw [h1]
   generalize s.get x = v at *
   rcases h2 with h2 | ⟨id, off, rfl, hid⟩
   ·cases v <;> first
     | (simp [AV.isPure] at h2; done)
     | (cases hfo : fieldOf L t f <;> simp only [hfo] at hk ⊢ <;> first | exact hk | exact hk.elim)
   ·cases hfo : fieldOf L t f <;> simp only [hfo] at hk ⊢ <;> first | exact hk | exact hk.elim | (rw [hids id hid]; exact hk)
  case indexAddr t x i =>
   intro hl hg hp hk
   have h1 := hg x (by simp [Op.operands])
   have h2 : (s.get x).isPure = true := by
    rcases hp with h | h | h
    ·simp [isMove] at h
    ·exact h x (by simp [Op.operands])
    ·simp [isLd] at h
   have h3 := hg i (by simp [Op.operands])
   simp only [aval] at hk ⊢
   rw [h1, h3]
   generalize s.get x = v at *
   generalize s.get i = u at *
   cases v <;> first
    | (simp [AV.isPure] at h2; done)
    | (cases u <;> first | exact hk | exact hk.elim)
  case binOp q t x y m =>
   intro hl hg hp hk
   have h1 := hg x (by simp [Op.operands])
   have h3 := hg y (by simp [Op.operands])
   simp only [aval] at hk ⊢
   rw [h1, h3]
   exact hk
  all_goals (intro hl; cases hl)

theorem isBit_spec {m j : Nat} : isBit m j = m.testBit j := by
 rw [Nat.testBit_eq_decide_div_mod_eq, isBit, Nat.shiftRight_eq_div_pow]
 rfl

theorem setSame {l : List AV} {i : Nat} {x : AV} (h : ∀ z, l[i]? = some z → z = x) : l.set i x = l := by
 cases hz : l[i]? with
 | none => exact List.set_eq_of_length_le (List.getElem?_eq_none_iff.1 hz)
 | some z => rw [← h z hz]; exact setSelf hz

/-- A late operation: what it will yield stands in the frame already. -/
def LV [St] (np : Nat) (P : Program) (L : Lay) (ids : List Nat) (s : AS) (o : Oper) : Prop :=
 lateOp o = true ∧ ∃ d x, o.dst = some d ∧ (∀ z, s.fr[d]? = some z → z = x) ∧ aval (stdE np P) L s o.op (· = x) ∧ LP s ids o
/-- The slots that are still open. -/
def Unl (ops : List Oper) (n : Nat) (listed : Array Bool) (t : Nat) : Prop := ∃ j o, j < n ∧ listed.getD j false = false ∧ ops[j]? = some o ∧ o.dst = some t

structure Agree (U : Nat → Prop) (a az : Act) : Prop where
 defs : a.defers = az.defers
 size : a.tmps.size = az.tmps.size
 tmps : ∀ t, ¬ U t → a.tmps.getD t undef = az.tmps.getD t undef

theorem Agree.eval {U : Nat → Prop} {a az : Act} (h : Agree U a az) {y : Operand} (hy : ∀ t, y = .tmp t → ¬ U t) : a.eval y = az.eval y := by
 cases y with
 | tmp t => exact h.tmps t (hy t rfl)
 | _ => rfl

theorem act_ext {x y : Act} (h1 : x.defers = y.defers) (h2 : x.tmps.size = y.tmps.size) (h3 : ∀ t, x.tmps.getD t undef = y.tmps.getD t undef) : x = y := by
 obtain ⟨xt, xd⟩ := x
 obtain ⟨yt, yd⟩ := y
 cases h1
 have : xt = yt := Array.ext h2 fun i hi hj => by
  have := h3 i
  simpa [Array.getD, hi, show i < yt.size from hj] using this
 rw [this]

theorem put_getD (a : Act) (dst : Option Nat) (v : Value) (t : Nat) : (a.put dst v).tmps.getD t undef = if dst = some t ∧ t < a.tmps.size then v else a.tmps.getD t undef := by
 cases dst with
 | none => simp [Act.put]
 | some d =>
  simp only [Act.put, Option.some.injEq]
  by_cases e : d = t
  ·subst e
   by_cases h : d < a.tmps.size
   ·simp [Array.getD, h]
   ·simp [Array.getD, h]
  ·rw [if_neg (fun h => e h.1)]
   by_cases h : t < a.tmps.size
   ·simp [Array.getD, h, Array.getElem_setIfInBounds, e]
   ·simp [Array.getD, h]
theorem put_size (a : Act) (dst : Option Nat) (v : Value) : (a.put dst v).tmps.size = a.tmps.size := by cases dst <;> simp [Act.put]
theorem put_defs (a : Act) (dst : Option Nat) (v : Value) : (a.put dst v).defers = a.defers := by cases dst <;> rfl

open Classical in
noncomputable def patch (U : Nat → Prop) (a x : Act) : Act := ⟨Array.ofFn (n := x.tmps.size) fun t => if U t then a.tmps.getD t undef else x.tmps.getD t undef, x.defers⟩
theorem patch_size (U : Nat → Prop) (a x : Act) : (patch U a x).tmps.size = x.tmps.size := by simp [patch]
open Classical in
theorem patch_getD (U : Nat → Prop) (a x : Act) (t : Nat) : (patch U a x).tmps.getD t undef = if U t ∧ t < x.tmps.size then a.tmps.getD t undef else x.tmps.getD t undef := by
 by_cases h : t < x.tmps.size
 ·have h' : t < (patch U a x).tmps.size := by rw [patch_size]; exact h
  simp [patch, Array.getD, h]
 ·have h' : ¬ t < (patch U a x).tmps.size := by rw [patch_size]; exact h
  rw [Array.getD, dif_neg h', if_neg (fun e => h e.2), Array.getD, dif_neg h]
theorem patch_agree (U : Nat → Prop) (a x : Act) : Agree U (patch U a x) x :=
 ⟨rfl, patch_size U a x, fun t ht => by rw [patch_getD, if_neg (fun e => ht e.1)]⟩
theorem patch_put {U : Nat → Prop} {a az : Act} (h : Agree U a az) {dst : Option Nat} (hd : ∀ t, dst = some t → ¬ U t) (v : Value) : patch U a (az.put dst v) = a.put dst v := by
 refine act_ext (by show (az.put dst v).defers = _; rw [put_defs, put_defs, h.defs]) (by rw [patch_size, put_size, put_size, h.size]) fun t => ?_
 rw [patch_getD, put_getD, put_getD, put_size, h.size]
 by_cases hu : U t
 ·rw [if_neg (c := dst = some t ∧ t < az.tmps.size) (fun e => hd t e.1 hu), if_neg (c := dst = some t ∧ t < az.tmps.size) (fun e => hd t e.1 hu)]
  split
  ·rfl
  ·rename_i hn
   have h1 : ¬ t < az.tmps.size := fun h2 => hn ⟨hu, h2⟩
   have h2 : ¬ t < a.tmps.size := by rw [h.size]; exact h1
   rw [Array.getD, dif_neg h1, Array.getD, dif_neg h2]
 ·rw [if_neg (fun e => hu e.1), h.tmps t hu]
theorem patch_self {U : Nat → Prop} {a az : Act} (h : Agree U a az) : patch U a az = a := patch_put h (dst := none) (fun t e => by cases e) undef

theorem wp_patch {o : Oper} {a az : Act} {U : Nat → Prop} {next : Act → World → Prop} {Q : Exit → Act → World → Prop} (hex : execOp a.eval o = execOp az.eval o) (hag : Agree U a az) (hd : ∀ t, o.dst = some t → ¬ U t)
  (h : o.wp P az w (fun x w' => next (patch U a x) w') (fun e x w' => Q e (patch U a x) w')) : o.wp P a w next Q := by
 unfold Oper.wp at *
 rw [hex]
 generalize (execOp az.eval o).run P w = r at *
 have hput : ∀ v, patch U a (az.put o.dst v) = a.put o.dst v := patch_put hag hd
 have hself := patch_self hag
 cases r with
 | ok n w' =>
  cases n <;> simp only [Oper.upon] at h ⊢
  case value v => rw [hput] at h; exact h
  case skip => rw [hput] at h; exact h
  case defer d =>
   have : patch U a (Act.put { az with defers := d :: az.defers } o.dst undef) = Act.put { a with defers := d :: a.defers } o.dst undef := by
    have e0 : Act.put { az with defers := d :: az.defers } o.dst undef = { az.put o.dst undef with defers := d :: az.defers } := by generalize o.dst = q; cases q <;> rfl
    have e1 : Act.put { a with defers := d :: a.defers } o.dst undef = { a.put o.dst undef with defers := d :: a.defers } := by generalize o.dst = q; cases q <;> rfl
    rw [e0, e1]
    have e2 : patch U a { az.put o.dst undef with defers := d :: az.defers } = { patch U a (az.put o.dst undef) with defers := d :: az.defers } := rfl
    rw [e2, hput, hag.defs]
   rw [this] at h
   exact h
  case enter f args => exact Calls.mono h (fun e w'' he => by
   cases e with
   | returned v => simp only at he ⊢; rw [hput] at he; exact he
   | panicked c => simp only at he ⊢; rw [hself] at he; exact he
   | outgrown => obtain ⟨x, w0, h0⟩ := he; exact ⟨_, w0, h0⟩)
  case row row args => exact Rows.mono h (fun v w'' he => by rw [hput] at he; exact he)
 | halt x w' =>
  cases x <;> simp only [Oper.upon] at h ⊢ <;> first | exact h | (rw [hself] at h; exact h)

theorem stTmps_spec {o : Op} {ts : List Nat} {t : Nat} (h : stTmps o = some ts) (ht : Operand.tmp t ∈ o.operands) : t ∈ ts := by
 unfold stTmps at h
 split at h
 ·simp only [Option.some.injEq] at h
  subst h
  exact tmpsOf_spec (by simpa [Op.operands] using ht)
 ·exact opTmps_spec h ht

theorem chkE_std [St] {os0 os : List Obj} : ∀ {ids : List Nat} {K : Prop}, chkE (stdE np P) os0 os ids K → (∀ id ∈ ids, os[id]? = os0[id]?) ∧ K
 | [], _, h => ⟨fun id h => by simp at h, h⟩
 | id :: l, K, h => by
  obtain ⟨h1, h2⟩ := h
  obtain ⟨h3, h4⟩ := chkE_std h2
  exact ⟨fun j hj => (List.mem_cons.1 hj).elim (fun e => by rw [e]; exact h1) (h3 j), h4⟩
theorem alate_any [St] (hL : L.ty = layOf P) {os0 : List Obj} {ids : List Nat} {fl : Nat → Bool} {ops : Array Oper} {n : Nat} {Q : Exit → Act → World → Prop} {K : AS → Prop} {miss : Nat → Nat → Prop}
  (hpre : ∀ (j : Nat) o, j < n → ops.toList[j]? = some o → OpOK (ops.toList.take n) j o)
  (hsuf : ∀ (i : Nat) o, n ≤ i → ops.toList[i]? = some o → (∀ e ∈ o.after, bnd e = true → e.on < i) ∧
   (∀ S : Nat → Prop, Closed ops.toList S → (∀ e ∈ o.after, bnd e = true → S e.on) → ∀ j, j < i → ¬ S j → miss i j) ∧
   ∃ ts, stTmps o.op = some ts ∧ ∀ j oj, miss i j → ops.toList[j]? = some oj → j < n ∧ ∃ d tj, oj.dst = some d ∧ opTmps oj.op = some tj ∧ d ∉ ts ++ guardTmps ops.toList o.guard ∧ o.dst ≠ some d ∧ ∀ t ∈ tj, o.dst ≠ some t)
  (hfl : ∀ i, n ≤ i → i < ops.size → fl i = false → ∀ j, j < n → ¬ miss i j)
  (hQ : ∀ s' a' w' A' hd' F', K s' → CW W w' A' s'.os hd' F' → FR w' A' s'.os hd' s'.fr a' → Q .normal a' w') :
  ∀ (fuel m : Nat) (listed : Array Bool) (s : AS) (a az : Act) (w : World) (A : Nat → Prop) (hd : Nat → Value) (F : Nat → Nat → Prop), n ≤ m → m ≤ ops.size → listed.size = ops.size → (∀ j, n ≤ j → j < ops.size → listed.getD j false = decide (j < m)) →
   ((List.range ops.size).filter fun i => !listed.getD i true).length ≤ fuel → Closed ops.toList (fun j => listed.getD j false = true) → CW W w A s.os hd F → FR w A s.os hd s.fr az → Agree (Unl ops.toList n listed) a az →
   (∀ j o, j < n → listed.getD j false = false → ops.toList[j]? = some o → LV np P L ids s o) → ((∀ j, j < n → listed.getD j false = true) ∨ ∀ id ∈ ids, s.os[id]? = os0[id]?) → aopsC (stdE np P) L os0 ids fl ops.toList m (ops.toList.drop m) s K → wpAny P .any ops Q fuel listed a w := by
 have getD_tf : ∀ (listed : Array Bool) i, listed.size = ops.size → i < ops.size → listed.getD i true = listed.getD i false := fun listed i hs hi => by
  have : i < listed.size := by omega
  simp [Array.getD, this]
 have fin : ∀ (m : Nat) (listed : Array Bool) (s : AS) (a az : Act) (w : World) (A : Nat → Prop) (hd : Nat → Value) (F : Nat → Nat → Prop), n ≤ m → m ≤ ops.size → (∀ j, n ≤ j → j < ops.size → listed.getD j false = decide (j < m)) →
   (∀ j, j < ops.size → listed.getD j false = true) → CW W w A s.os hd F → FR w A s.os hd s.fr az → Agree (Unl ops.toList n listed) a az → aopsC (stdE np P) L os0 ids fl ops.toList m (ops.toList.drop m) s K → Q .normal a w := by
  intro m listed s a az w A hd F hnm hms hl hall hw hf hag hk
  have e : m = ops.size := by
   apply Classical.byContradiction
   intro hne
   have h1 := hl m hnm (by omega)
   rw [hall m (by omega)] at h1
   simp at h1
  subst e
  rw [List.drop_eq_nil_of_le (by simp)] at hk
  have : a = az := act_ext hag.defs hag.size fun t => hag.tmps t fun ⟨j, o, h1, h2, h3, _⟩ => by
   have := (List.getElem?_eq_some_iff.1 h3).1
   rw [hall j (by simpa using this)] at h2; cases h2
  subst this
  exact hQ s a w A hd F hk hw hf
 have allrdy : ∀ (listed : Array Bool), listed.size = ops.size → Region.ready .any ops listed = [] → ∀ i, i < ops.size → listed.getD i false = true := by
  intro listed hs h0 i
  induction i using Nat.strongRecOn with
  | _ i ih =>
   intro hio
   apply Classical.byContradiction
   intro hn
   have ho : ops[i]? = some ops[i] := Array.getElem?_eq_getElem hio
   have hol : ops.toList[i]? = some ops[i] := by rw [Array.getElem?_toList]; exact ho
   have : i ∈ Region.ready .any ops listed := mem_ready.2 ⟨by rw [getD_tf listed i hs hio]; simpa using hn, _, ho, fun e he hb => by
    rw [bnd_spec] at hb
    have h1 : e.on < i := by
     by_cases hin : i < n
     ·exact (hpre i _ hin hol).edges e he hb
     ·exact (hsuf i _ (by omega) hol).1 e he hb
    exact ih e.on h1 (by omega)⟩
   rw [h0] at this
   cases this
 intro fuel
 induction fuel with
 | zero =>
  intro m listed s a az w A hd F hnm hms hs hl hc hcl hw hf hag hlv hsb hk
  have hall : ∀ j, j < ops.size → listed.getD j false = true := fun i hi => by
   have hnil : ((List.range ops.size).filter fun i => !listed.getD i true) = [] := List.length_eq_zero_iff.1 (Nat.le_zero.1 hc)
   have := List.filter_eq_nil_iff.1 hnil i (List.mem_range.2 (by omega))
   rw [← getD_tf listed i hs hi]
   simpa using this
  refine ⟨?_, fin m listed s a az w A hd F hnm hms hl hall hw hf hag hk⟩
  apply List.eq_nil_iff_forall_not_mem.2
  intro i hi
  obtain ⟨h1, o, h2, _⟩ := mem_ready.1 hi
  have hi' := (Array.getElem?_eq_some_iff.1 h2).1
  rw [getD_tf listed i hs hi', hall i hi'] at h1
  cases h1
 | succ fuel ih =>
  intro m listed s a az w A hd F hnm hms hs hl hc hcl hw hf hag hlv hsb hk
  refine ⟨fun h0 => fin m listed s a az w A hd F hnm hms hl (allrdy listed hs h0) hw hf hag hk, fun i hi => ?_⟩
  obtain ⟨h1, o, h2, h3⟩ := mem_ready.1 hi
  have hi' : i < ops.size := (Array.getElem?_eq_some_iff.1 h2).1
  have h2f : ops.toList[i]? = some o := by rw [Array.getElem?_toList]; exact h2
  rw [getD_tf listed i hs hi'] at h1
  have hdep : ∀ e ∈ o.after, bnd e = true → listed.getD e.on false = true := fun e he hb => h3 e he (by rw [bnd_spec]; exact hb)
  have hcnt : ((List.range ops.size).filter fun j => !(listed.setIfInBounds i true).getD j true).length ≤ fuel := by
   have hsub : ((List.range ops.size).filter fun j => !(listed.setIfInBounds i true).getD j true) = ((List.range ops.size).filter fun j => !listed.getD j true).filter fun j => decide (j ≠ i) := by
    rw [List.filter_filter]
    refine List.filter_congr fun j hj => ?_
    by_cases e : j = i
    ·subst e
     have : j < listed.size := by omega
     simp [this]
    ·rw [getD_set_ne true (Ne.symm e)]; simp [e]
   have hlt : (((List.range ops.size).filter fun j => !listed.getD j true).filter fun j => decide (j ≠ i)).length < ((List.range ops.size).filter fun j => !listed.getD j true).length :=
    List.length_filter_lt_length_iff_exists.2 ⟨i, List.mem_filter.2 ⟨List.mem_range.2 hi', by rw [getD_tf listed i hs hi']; simp [h1]⟩, by simp⟩
   rw [hsub]
   omega
  have hself : (listed.setIfInBounds i true).getD i false = true := by
   have : i < listed.size := by omega
   simp [this]
  have hcl' : Closed ops.toList (fun j => (listed.setIfInBounds i true).getD j false = true) := fun q o' ho' hq e he hb => by
   show (listed.setIfInBounds i true).getD e.on false = true
   replace hq : (listed.setIfInBounds i true).getD q false = true := hq
   have key : listed.getD e.on false = true := by
    by_cases hqi : q = i
    ·subst hqi
     rw [h2f] at ho'; cases ho'
     exact hdep e he hb
    ·rw [getD_set_ne false (Ne.symm hqi)] at hq
     exact hcl q o' ho' hq e he hb
   by_cases hei : i = e.on
   ·rw [← hei]; exact hself
   ·rw [getD_set_ne false hei]; exact key
  by_cases hin : i < n
  ·obtain ⟨hlo, d, x, hdst, hx, hval, hpure⟩ := hlv i o hin (by simpa using h1) h2f
   have hg : o.guard = none := by
    unfold lateOp at hlo
    split at hlo
    ·assumption
    ·cases hlo
   have hop : ∀ y ∈ o.op.operands, ∀ t, y = .tmp t → ¬ Unl ops.toList n listed t := fun y hy t ht => by
    rintro ⟨j', o', q1, q2, q3, q4⟩
    subst ht
    obtain ⟨ts, hts, hr⟩ := (hpre i o hin h2f).reads
    obtain ⟨_, e, q5, q6, q7⟩ := hr t (List.mem_append_left _ (opTmps_spec hts hy)) j' o' (by rw [List.getElem?_take, if_pos q1]; exact q3) q4
    have := hdep e q5 q6
    rw [q7, q2] at this
    cases this
   have hex : execOp a.eval o = execOp az.eval o := execOp_congr o (fun cs b e => by unfold lateOp at hlo; rw [hg, e] at hlo; cases hlo) (fun y hy => hag.eval (hop y hy))
   obtain ⟨y, v, k1, k2, k3⟩ := aval_sound (dst := o.dst) (ty := o.type) (pos := o.pos) (af := o.after) (g := o.guard) hL hw (fun y _ => hf.get y) hval
   subst k1
   unfold wpOp
   simp only [h2]
   rw [if_pos (by simp [Region.wanted, hg])]
   refine .inl (wp_value (v := v) (w' := w) (by rw [hex]; exact k3) ?_)
   have hset : s.fr.set d y = s.fr := setSame hx
   refine ih m _ s (a.put o.dst v) (az.put o.dst v) w A hd F hnm hms (by simpa using hs) (fun j hj hjs => by rw [getD_set_ne false (by omega)]; exact hl j hj hjs) hcnt hcl' hw ?_ ⟨?_, ?_, fun t ht => ?_⟩ (fun j oj hj hjl hoj => ?_) (hsb.imp (fun h q hq => by
    by_cases e : i = q
    ·subst e; exact hself
    ·rw [getD_set_ne false e]; exact h q hq) (fun h => h)) hk
   ·have := FR.put (s := s) hf k2 o.dst
    rw [hdst] at this ⊢
    simp only [AS.put, hset] at this
    exact this
   ·rw [put_defs, put_defs]; exact hag.defs
   ·rw [put_size, put_size]; exact hag.size
   ·rw [put_getD, put_getD, hag.size]
    split
    ·rfl
    ·rename_i hne
     by_cases e : o.dst = some t
     ·have h5 : ¬ t < az.tmps.size := fun h => hne ⟨e, h⟩
      have h6 : ¬ t < a.tmps.size := by rw [hag.size]; exact h5
      simp [Array.getD, h5, h6]
     ·refine hag.tmps t fun ⟨j', o', q1, q2, q3, q4⟩ => ht ⟨j', o', q1, ?_, q3, q4⟩
      rw [getD_set_ne false (fun e2 => by subst e2; rw [h2f] at q3; cases q3; exact e q4)]
      exact q2
   ·refine hlv j oj hj ?_ hoj
    by_cases e : i = j
    ·subst e; rw [hself] at hjl; cases hjl
    ·rwa [getD_set_ne false e] at hjl
  ·have hge : i ≥ m := by
    apply Classical.byContradiction
    intro hlt
    rw [hl i (by omega) hi'] at h1
    simp at h1; omega
   have him : i = m := by
    apply Classical.byContradiction
    intro hne
    have hml : m < ops.size := by omega
    obtain ⟨_, q2, ts, _, q3⟩ := hsuf i o (by omega) h2f
    have q4 := q2 (fun j => listed.getD j false = true) hcl hdep m (by omega) (by simp [hl m hnm hml])
    have := (q3 m ops[m] q4 (by rw [Array.getElem?_toList]; exact Array.getElem?_eq_getElem hml)).1
    omega
   subst him
   obtain ⟨c1, c2, ts, hts, c3⟩ := hsuf i o (by omega) h2f
   have hmiss : ∀ j, j < n → listed.getD j false = false → miss i j := fun j hj hjl => c2 (fun j => listed.getD j false = true) hcl hdep j (by omega) (by simp [hjl])
   have hU : ∀ t, Unl ops.toList n listed t → t ∉ ts ++ guardTmps ops.toList o.guard ∧ o.dst ≠ some t := by
    rintro t ⟨j, oj, q1, q2, q3, q4⟩
    obtain ⟨_, d, tj, e1, e2, e3, e4, e5⟩ := c3 j oj (hmiss j q1 q2) q3
    rw [q4] at e1; cases e1; exact ⟨e3, e4⟩
   have hUd : ∀ t, o.dst = some t → ¬ Unl ops.toList n listed t := fun t ht hu => (hU t hu).2 ht
   have hex : execOp a.eval o = execOp az.eval o := execOp_congr o (fun cs b e => by rw [e] at hts; cases hts) (fun y hy => hag.eval fun t ht hu => (hU t hu).1 (List.mem_append_left _ (stTmps_spec hts (ht ▸ hy))))
   have hnext : ∀ (s' : AS) (a' az' : Act) (w' : World) (A' : Nat → Prop) (hd' : Nat → Value) (F' : Nat → Nat → Prop), (∀ t, o.dst ≠ some t → s'.fr[t]? = s.fr[t]?) → CW W w' A' s'.os hd' F' → FR w' A' s'.os hd' s'.fr az' → Agree (Unl ops.toList n listed) a' az' → ((∀ j, j < n → listed.getD j false = true) ∨ ∀ id ∈ ids, s'.os[id]? = os0[id]?) →
     aopsC (stdE np P) L os0 ids fl ops.toList (i + 1) (ops.toList.drop (i + 1)) s' K → wpAny P .any ops Q fuel (listed.setIfInBounds i true) a' w' := fun s' a' az' w' A' hd' F' q0 q1 q2 q3 qs q4 =>
    ih (i + 1) _ s' a' az' w' A' hd' F' (by omega) (by omega) (by simpa using hs) (fun j hj hjs => by
     by_cases hji : j = i
     ·subst hji; rw [hself]; simp
     ·rw [getD_set_ne false (Ne.symm hji), hl j hj hjs]
      exact decide_eq_decide.2 (by omega)) hcnt hcl' q1 q2 ⟨q3.defs, q3.size, fun t ht => q3.tmps t fun ⟨j, oj, r1, r2, r3, r4⟩ => ht ⟨j, oj, r1, by rw [getD_set_ne false (by omega)]; exact r2, r3, r4⟩⟩
     (fun j oj hj hjl hoj => by
      rw [getD_set_ne false (by omega)] at hjl
      obtain ⟨r1, d, x, r2, r3, r4, r5⟩ := hlv j oj hj hjl hoj
      obtain ⟨_, d', tj, e1, e2, e3, e4, e5⟩ := c3 j oj (hmiss j hj hjl) hoj
      rw [r2] at e1; cases e1
      have hget : ∀ y ∈ oj.op.operands, s'.get y = s.get y := fun y hy => by
       cases y with
       | tmp t => simp only [AS.get, List.getD_eq_getElem?_getD]; rw [q0 t (e5 t (opTmps_spec e2 hy))]
       | _ => rfl
      exact ⟨r1, d, x, r2, by rw [q0 d e4]; exact r3, aval_late r1 hget r5 (fun id hid => by
       rcases qs with qs | qs
       ·rw [qs j hj] at hjl; cases hjl
       ·rcases hsb with hsb | hsb
        ·rw [hsb j hj] at hjl; cases hjl
        ·exact (qs id hid).trans (hsb id hid).symm) r4, r5.to hget⟩) (qs.imp (fun h q hq => by rw [getD_set_ne false (by omega)]; exact h q hq) (fun h => h)) q4
   have hfr0 : ∀ (fr : List AV) (os : List Obj) (x : AV), ∀ t, o.dst ≠ some t → (AS.put ⟨fr, os⟩ o.dst x).fr[t]? = fr[t]? := fun fr os x t ht => by
    cases hdst : o.dst with
    | none => rfl
    | some d =>
     simp only [AS.put]
     rw [List.getElem?_set_ne (fun e => ht (by rw [hdst, e]))]
   rw [List.drop_eq_getElem_cons (by simpa using hi')] at hk
   have hoe : o = ops[i] := by
    rw [Array.getElem?_eq_getElem hi'] at h2; cases h2; rfl
   have hog : ops.toList[i]'(by simpa using hi') = o := by rw [hoe]; simp
   rw [hog] at hk
   have hstep : (astep (stdE np P) L s o fun v s' => match fl i with
     | true => chkE (stdE np P) os0 s'.os ids (aopsC (stdE np P) L os0 ids fl ops.toList (i + 1) (ops.toList.drop (i + 1)) (s'.put o.dst v) K)
     | false => aopsC (stdE np P) L os0 ids fl ops.toList (i + 1) (ops.toList.drop (i + 1)) (s'.put o.dst v) K) → o.wp P a w (wpAny P .any ops Q fuel (listed.setIfInBounds i true)) Q := fun h =>
    wp_patch hex hag hUd (astep_sound hL hw hf h _ _ fun x s' v w' A' hd' F' hk' hfr' hw' hf' hx => by
     rw [← hfr'] at hf'
     obtain ⟨hk1, hk2⟩ : ((∀ j, j < n → listed.getD j false = true) ∨ ∀ id ∈ ids, s'.os[id]? = os0[id]?) ∧ aopsC (stdE np P) L os0 ids fl ops.toList (i + 1) (ops.toList.drop (i + 1)) (s'.put o.dst x) K := by
      cases hfi : fl i with
      | true =>
       rw [hfi] at hk'
       obtain ⟨h1, h2⟩ := chkE_std hk'
       exact ⟨.inr h1, h2⟩
      | false =>
       rw [hfi] at hk'
       refine ⟨.inl fun j hj => ?_, hk'⟩
       cases hlj : listed.getD j false with
       | true => rfl
       | false => exact (hfl i (by omega) hi' hfi j hj (hmiss j hj hlj)).elim
     exact hnext (s'.put o.dst x) _ (az.put o.dst v) w' A' hd' F' (fun t ht => by rw [← hfr']; exact hfr0 s'.fr s'.os x t ht) (by rw [AS.put_os]; exact hw') (hf'.put hx o.dst) (patch_agree _ a _) (by rw [AS.put_os]; exact hk1) hk2)
   have hskip : aopsC (stdE np P) L os0 ids fl ops.toList (i + 1) (ops.toList.drop (i + 1)) (s.put o.dst .und) K → wpAny P .any ops Q fuel (listed.setIfInBounds i true) (a.put o.dst undef) w := fun h =>
    hnext (s.put o.dst .und) _ (az.put o.dst undef) w A hd F (fun t ht => hfr0 s.fr s.os .und t ht) (by rw [AS.put_os]; exact hw) (hf.put .und o.dst) ⟨by rw [put_defs, put_defs]; exact hag.defs, by rw [put_size, put_size]; exact hag.size, fun t ht => by rw [put_getD, put_getD, hag.size, hag.tmps t ht]⟩ (by rw [AS.put_os]; exact hsb) h
   have hyl : ∀ j want, o.guard = some (j, want) → yielded ops a.tmps j = yielded ops az.tmps j := fun j want hg => by
    unfold yielded
    cases hb : (ops[j]?).bind (·.dst) with
    | none => rfl
    | some d =>
     have hd0 : ¬ Unl ops.toList n listed d := fun hu => (hU d hu).1 (List.mem_append_right _ (by
      cases hj : ops[j]? with
      | none => rw [hj] at hb; cases hb
      | some oj =>
       rw [hj] at hb
       have hb : oj.dst = some d := hb
       have hj' : ops.toList[j]? = some oj := by rw [Array.getElem?_toList]; exact hj
       simp [guardTmps, hg, hj', hb]))
     have h5 := hag.tmps d hd0
     have h6 : a.tmps.size = az.tmps.size := hag.size
     have : a.tmps[d]? = az.tmps[d]? := by
      by_cases h : d < az.tmps.size
      ·have h' : d < a.tmps.size := by rw [h6]; exact h
       rw [Array.getElem?_eq_getElem h, Array.getElem?_eq_getElem h']
       simpa [Array.getD, h, h'] using h5
      ·have h' : ¬ d < a.tmps.size := by rw [h6]; exact h
       rw [Array.getElem?_eq_none (Nat.le_of_not_lt h), Array.getElem?_eq_none (Nat.le_of_not_lt h')]
     simp only [Option.bind_some, this]
   unfold wpOp
   simp only [h2]
   unfold aopsC at hk
   split at hk
   ·rename_i hg
    rw [if_pos (by simp [Region.wanted, hg])]
    exact .inl (hstep hk)
   ·rename_i j want hg
    split at hk
    ·exact hk.elim
    ·rename_i hy
     have := yield_sound hf hy
     rw [← hyl j want hg] at this
     rw [if_neg (by simp [Region.wanted, hg, this])]
     exact hskip hk
    ·rename_i b hy
     have := yield_sound hf hy
     rw [← hyl j want hg] at this
     split at hk
     ·rename_i e
      subst e
      rw [if_pos (by simp [Region.wanted, hg, this])]
      exact .inl (hstep hk)
     ·rename_i e
      rw [if_neg (by simp [Region.wanted, hg, this, e])]
      exact hskip hk

theorem memB_spec {t : Nat} : ∀ {l : List Nat}, memB t l = false → t ∉ l
 | [], _ => by simp
 | m :: l, h => by
  unfold memB at h
  split at h
  ·cases h
  ·rename_i hne
   have := memB_spec h
   simp only [List.mem_cons, not_or]
   exact ⟨fun e => hne e.symm, this⟩
theorem bitsFrom_spec {m : Nat} : ∀ (k n : Nat), bitsFrom m n k = true → ∀ j, n ≤ j → j < n + k → m.testBit j = true
 | 0, n, _, j, h1, h2 => by omega
 | k + 1, n, h, j, h1, h2 => by
  unfold bitsFrom at h
  split at h
  ·rename_i hb
   by_cases e : j = n
   ·subst e; rw [← isBit_spec]; exact hb
   ·exact bitsFrom_spec k (n + 1) h j (by omega) (by omega)
  ·cases h
theorem lateRow_spec {m : Nat} {rd : List Nat} {od : Option Nat} : ∀ (l : List Oper) (i : Nat), lateRow m rd od i l = true → ∀ (q : Nat) o, l[q]? = some o → m.testBit (i + q) = false →
  lateOp o = true ∧ ∃ d tj, o.dst = some d ∧ opTmps o.op = some tj ∧ d ∉ rd ∧ od ≠ some d ∧ ∀ t ∈ tj, od ≠ some t
 | [], i, _, q, o, h, _ => by simp at h
 | p :: l, i, h, q, o, ho, hb => by
  have tail : lateRow m rd od (i + 1) l = true → ∀ q', q = q' + 1 → lateOp o = true ∧ ∃ d tj, o.dst = some d ∧ opTmps o.op = some tj ∧ d ∉ rd ∧ od ≠ some d ∧ ∀ t ∈ tj, od ≠ some t := fun h' q' e => by
   subst e
   exact lateRow_spec l (i + 1) h' q' o (by simpa using ho) (by rw [show i + 1 + q' = i + (q' + 1) by omega]; exact hb)
  unfold lateRow at h
  split at h
  ·rename_i h1
   cases q with
   | zero => rw [isBit_spec, ← Nat.add_zero i, hb] at h1; cases h1
   | succ q' => exact tail h q' rfl
  ·split at h
   ·rename_i d ts h1 h2 h3
    split at h
    ·rename_i h4 h5
     cases q with
     | zero =>
      simp at ho; subst ho
      refine ⟨h1, d, ts, h2, h3, memB_spec h4, fun e => ?_, fun t ht e => ?_⟩
      ·rw [e] at h5
       simp only at h5
       exact memB_spec h5 (by simp)
      ·rw [e] at h5
       simp only at h5
       exact memB_spec h5 (by simp [ht])
     | succ q' => exact tail h q' rfl
    ·cases h
   ·cases h
theorem sufOK_spec {ops : List Oper} {n : Nat} : ∀ (l : List Oper) (ms : List Nat) (i : Nat), sufOK ops n i ms l = true → ∀ (q : Nat) o, l[q]? = some o → ∃ m, ms[q]? = some m ∧ (∀ e ∈ o.after, bnd e = true → e.on < i + q) ∧ (∀ j, n ≤ j → j < i + q → n ≤ i + q → m.testBit j = true) ∧
  ∃ ts, stTmps o.op = some ts ∧ lateRow m (ts ++ guardTmps ops o.guard) o.dst 0 (ops.take n) = true
 | [], _, _, _, q, o, h => by simp at h
 | _ :: _, [], _, h, _, _, _ => by simp [sufOK] at h
 | p :: l, m :: ms, i, h, q, o, ho => by
  unfold sufOK at h
  split at h
  ·cases h
  ·rename_i ts hts
   split at h
   ·rename_i h1 h2 h3
    cases q with
    | zero =>
     simp at ho; subst ho
     exact ⟨m, rfl, fun e he => edgesOK_spec h1 e (Array.mem_toList_iff.2 he), fun j g1 g2 g3 => bitsFrom_spec _ _ h3 j g1 (by omega), ts, hts, h2⟩
    | succ q =>
     have := sufOK_spec l ms (i + 1) h q o (by simpa using ho)
     rw [show i + 1 + q = i + (q + 1) by omega] at this
     simpa using this
   ·cases h
theorem lateOK_spec {ops : List Oper} {n : Nat} (h : lateOK ops n = true) : drawOK (ops.take n) 0 (ops.take n) = true ∧ ∀ (i : Nat) o, n ≤ i → ops[i]? = some o → ∃ m, (masks [] ops)[i]? = some m ∧ (∀ e ∈ o.after, bnd e = true → e.on < i) ∧ (∀ j, n ≤ j → j < i → m.testBit j = true) ∧
  ∃ ts, stTmps o.op = some ts ∧ lateRow m (ts ++ guardTmps ops o.guard) o.dst 0 (ops.take n) = true := by
 unfold lateOK at h
 split at h
 ·rename_i h1
  refine ⟨h1, fun i o hi ho => ?_⟩
  obtain ⟨m, g1, g2, g3, g4⟩ := sufOK_spec _ _ _ h (i - n) o (by rw [List.getElem?_drop]; rw [show n + (i - n) = i by omega]; exact ho)
  rw [show n + (i - n) = i by omega] at g2 g3
  rw [List.getElem?_drop, show n + (i - n) = i by omega] at g1
  exact ⟨m, g1, g2, fun j q1 q2 => g3 j q1 q2 hi, g4⟩
 ·cases h

theorem anyMiss_spec {j : Nat} : ∀ {l : List Nat}, anyMiss j l = false → ∀ m ∈ l, m.testBit j = true
 | [], _, m, h => by simp at h
 | p :: l, h, m, hm => by
  unfold anyMiss at h
  split at h
  ·rename_i hb
   rcases List.mem_cons.1 hm with rfl | hm
   ·rw [← isBit_spec]; exact hb
   ·exact anyMiss_spec h m hm
  ·cases h
theorem allPB_spec : ∀ {l : List AV}, allPB l = true → ∀ x ∈ l, x.isPure = true ∨ ∃ id off, x = .pb id off ∧ id ∈ pbIds l
 | [], _, x, h => by simp at h
 | y :: l, h, x, hx => by
  by_cases hp : ∃ id off, y = .pb id off
  ·obtain ⟨id, off, rfl⟩ := hp
   rcases List.mem_cons.1 hx with rfl | hx
   ·exact .inr ⟨id, off, rfl, List.mem_cons_self ..⟩
   ·refine (allPB_spec (l := l) h x hx).imp (fun h => h) fun ⟨i, o, e, hi⟩ => ⟨i, o, e, List.mem_cons_of_mem _ hi⟩
  ·have hy : y.isPure = true ∧ allPB l = true ∧ pbIds (y :: l) = pbIds l := by
    cases y <;> first | exact (hp ⟨_, _, rfl⟩).elim | (simp only [allPB, AV.isPure] at h; first | exact ⟨rfl, h, rfl⟩ | cases h)
   rcases List.mem_cons.1 hx with rfl | hx
   ·exact .inl hy.1
   ·rw [hy.2.2]; exact allPB_spec hy.2.1 x hx
theorem lateIds_tail {ms : List Nat} {p : Oper} {l : List Oper} {i id : Nat} (h : id ∈ lateIds s ms (i + 1) l) : id ∈ lateIds s ms i (p :: l) := by
 unfold lateIds
 split
 ·exact List.mem_append_right _ h
 ·exact h
theorem latePure_spec {ms : List Nat} : ∀ (l : List Oper) (i : Nat), latePure s ms i l = true → ∀ (q : Nat) o, l[q]? = some o → (∃ m ∈ ms, m.testBit (i + q) = false) → LP s (lateIds s ms i l) o
 | [], _, _, q, o, h, _ => by simp at h
 | p :: l, i, h, q, o, ho, ⟨m, hm, hb⟩ => by
  have tail : latePure s ms (i + 1) l = true → ∀ q', q = q' + 1 → LP s (lateIds s ms i (p :: l)) o := fun h' q' e => by
   subst e
   have := latePure_spec l (i + 1) h' q' o (by simpa using ho) ⟨m, hm, by rw [show i + 1 + q' = i + (q' + 1) by omega]; exact hb⟩
   exact this.imp (fun h => h) fun h => h.imp (fun h => h) fun ⟨h1, h2⟩ => ⟨h1, fun y hy => (h2 y hy).imp (fun h => h) fun ⟨id, off, e, hi⟩ => ⟨id, off, e, lateIds_tail hi⟩⟩
  unfold latePure at h
  split at h
  ·rename_i hmiss0
   split at h
   ·rename_i h1
    cases q with
    | zero => simp at ho; subst ho; exact .inl h1
    | succ q' => exact tail h q' rfl
   ·split at h
    ·rename_i h1
     cases q with
     | zero =>
      simp at ho; subst ho
      refine .inr (.inl fun y hy => ?_)
      obtain ⟨i', hi'⟩ := List.getElem?_of_mem (List.mem_map.2 ⟨y, Array.mem_toList_iff.2 hy, rfl⟩)
      exact allPure_get h1 hi'
     | succ q' => exact tail h q' rfl
    ·split at h
     ·rename_i hld hpb
      cases q with
      | zero =>
       simp at ho; subst ho
       refine .inr (.inr ⟨hld, fun y hy => ?_⟩)
       refine (allPB_spec hpb (s.get y) (List.mem_map.2 ⟨y, Array.mem_toList_iff.2 hy, rfl⟩)).imp (fun h => h) fun ⟨id, off, e, hi⟩ => ⟨id, off, e, ?_⟩
       unfold lateIds
       rw [hmiss0, hld]
       exact List.mem_append_left _ hi
      | succ q' => exact tail h q' rfl
     ·cases h
  ·rename_i h1
   cases q with
   | zero => have := anyMiss_spec h1 m hm; rw [Nat.add_zero] at hb; rw [hb] at this; cases this
   | succ q' => exact tail h q' rfl
theorem aread_of_late {E : Env} {o : Oper} {K : AV → Prop} (hl : lateOp o = true) : aread E L s o K = aval E L s o.op K := by
 unfold lateOp at hl
 split at hl
 ·split at hl <;> first | (rename_i e; simp only [aread, e, isBuild]; done) | cases hl
 ·cases hl

/-- A region that draws its order and changes memory at its end. -/
theorem alate_sound [St] (hL : L.ty = layOf P) (hm : P.follows .mixedOrders = true) {id : Nat} {ops : Array Oper} {n : Nat} (hok : lateOK ops.toList n = true) (hnle : n ≤ ops.size) {Q : Exit → Act → World → Prop} {K : AS → Prop} (hQ : ∀ s' a' w' A' hd' F', K s' → CW W w' A' s'.os hd' F' → FR w' A' s'.os hd' s'.fr a' → Q .normal a' w')
  (hw : CW W w A s.os hd F) (hf : FR w A s.os hd s.fr a) (hk : aops (stdE np P) L true (ops.toList.take n) (ops.toList.take n) s fun s' => match latePure s' ((masks [] ops.toList).drop n) 0 (ops.toList.take n) with
   | true => aopsC (stdE np P) L s'.os (lateIds s' ((masks [] ops.toList).drop n) 0 (ops.toList.take n)) (missB ops.toList n) ops.toList n (ops.toList.drop n) s' K
   | false => False) : (Code.region id ops true).wp P Q a w := by
 have hkp := Keeps.drew w
 have hw' := hw.keep hkp
 have hf' : FR w.drew A s.os hd s.fr a := hf.to fun y u hy => hy.keep (fun b hb => (hw.hA b hb).1) hkp
 obtain ⟨xs, sf, ht, hK⟩ := txt_sim hL (ops.toList.take n) s a w.drew A hw' hf' hk
 obtain ⟨hdr, hsf⟩ := lateOK_spec hok
 obtain ⟨hlen, hos, hfr, hdoes⟩ := txt_at (ops.toList.take n) s xs sf ht 0
 obtain ⟨hopok, huniq⟩ := drawOK_spec hdr
 split at hK
 case h_2 => exact hK.elim
 rename_i hpu
 have pre : ∀ {i : Nat} {o : Oper}, i < n → ops.toList[i]? = some o → (ops.toList.take n)[i]? = some o := fun {i o} hi ho => by
  rw [List.getElem?_take, if_pos hi]; exact ho
 let miss : Nat → Nat → Prop := fun i j => ∃ m, (masks [] ops.toList)[i]? = some m ∧ m.testBit j = false ∧ j < i
 have hwait : ∀ (i : Nat) o, n ≤ i → ops.toList[i]? = some o → ∀ S : Nat → Prop, Closed ops.toList S → (∀ e ∈ o.after, bnd e = true → S e.on) → ∀ j, j < i → ¬ S j → miss i j := fun i o hi ho S hS he j hj hns => by
  obtain ⟨m, h1, _⟩ := hsf i o hi ho
  refine ⟨m, h1, ?_, hj⟩
  cases hb : m.testBit j with
  | false => rfl
  | true =>
   rcases (masks_spec hS ops.toList [] (fun m _ => by simp) (fun i j m h => by simp at h) (fun i j m o h => by simp at h)).2 i j m o h1 ho hb he with h | h
   ·omega
   ·exact (hns h).elim
 have hmiss : ∀ (i : Nat) o, n ≤ i → ops.toList[i]? = some o → ∀ j oj, miss i j → ops.toList[j]? = some oj → j < n ∧ lateOp oj = true ∧ ∃ ts, stTmps o.op = some ts ∧ ∃ d tj, oj.dst = some d ∧ opTmps oj.op = some tj ∧ d ∉ ts ++ guardTmps ops.toList o.guard ∧ o.dst ≠ some d ∧ ∀ t ∈ tj, o.dst ≠ some t := fun i o hi ho j oj ⟨m, h1, h2, h3⟩ hoj => by
  obtain ⟨m', g1, g2, g3, ts, g4, g5⟩ := hsf i o hi ho
  rw [h1] at g1; cases g1
  have hjn : j < n := by
   apply Classical.byContradiction
   intro hge
   rw [g3 j (by omega) h3] at h2; cases h2
  obtain ⟨q1, d, tj, q2⟩ := lateRow_spec _ _ g5 j oj (pre hjn hoj) (by rw [Nat.zero_add]; exact h2)
  exact ⟨hjn, q1, ts, g4, d, tj, q2⟩
 have hlatemiss : ∀ j, (∃ i, n ≤ i ∧ i < ops.size ∧ miss i j) → ∀ oj, ops.toList[j]? = some oj → lateOp oj = true ∧ (∃ d, oj.dst = some d) ∧ ∃ m ∈ (masks [] ops.toList).drop n, m.testBit (0 + j) = false := fun j ⟨i, h1, h2, h3⟩ oj hoj => by
  have ho : ops.toList[i]? = some (ops.toList[i]'(by simpa using h2)) := List.getElem?_eq_getElem _
  obtain ⟨_, q1, ts, _, d, tj, q2, _⟩ := hmiss i _ h1 ho j oj h3 hoj
  obtain ⟨m, g1, g2, _⟩ := h3
  exact ⟨q1, ⟨d, q2⟩, m, List.mem_of_getElem? (i := i - n) (by rw [List.getElem?_drop, show n + (i - n) = i by omega]; exact g1), by rw [Nat.zero_add]; exact g2⟩
 refine wp_region_any hm (adraw_any hL (fun j => ∃ i, n ≤ i ∧ i < ops.size ∧ miss i j) hdr ht hnle (fun i o hi ho S hS he j hj hnl => ?_) (fun fuel listed a' w' A' g1 gc gge g2 gcl h1 h2 => ?_) ops.size (Array.replicate ops.size false) a w.drew A (by simp) ?_ ?_ ?_ hw' ?_)
 ·apply Classical.byContradiction
  intro hns
  exact hnl ⟨i, hi, by simpa using (List.getElem?_eq_some_iff.1 ho).1, hwait i o hi ho S hS he j (by omega) hns⟩
 ·obtain ⟨az, h3, h4⟩ : ∃ az, FR w' A' s.os hd (puts (fun j => listed.getD j false || decide (j < n)) 0 (ops.toList.take n) xs s.fr) az ∧ Agree (Unl ops.toList n listed) a' az := by
   have key : ∀ k, k ≤ n → ∃ az, FR w' A' s.os hd (puts (fun j => listed.getD j false || decide (j < k)) 0 (ops.toList.take n) xs s.fr) az ∧ Agree (Unl ops.toList n listed) a' az := by
    intro k
    induction k with
    | zero => intro _; exact ⟨a', by simpa using h2, rfl, rfl, fun _ _ => rfl⟩
    | succ k ih =>
     intro hkn
     obtain ⟨az, q1, q2⟩ := ih (by omega)
     have hks : k < ops.toList.length := by simp; omega
     obtain ⟨o, ho⟩ : ∃ o, ops.toList[k]? = some o := ⟨_, List.getElem?_eq_getElem hks⟩
     by_cases hl : listed.getD k false = true
     ·refine ⟨az, ?_, q2⟩
      rwa [show (fun j => listed.getD j false || decide (j < k + 1)) = fun j => listed.getD j false || decide (j < k) from funext fun j => by
       by_cases e : j = k
       ·subst e; rw [hl]; rfl
       ·rw [show decide (j < k + 1) = decide (j < k) from decide_eq_decide.2 (by omega)]]
     ·have hlf : listed.getD k false = false := by simpa using hl
      obtain ⟨r1, ⟨d, r2⟩, r3⟩ := hlatemiss k (g2 k (by omega) hlf) o ho
      obtain ⟨x, hx, hd1⟩ := hdoes k o (pre (by omega) ho)
      have hg : o.guard = none := by
       unfold lateOp at r1
       split at r1
       ·assumption
       ·cases r1
      have hd2 : aval (stdE np P) L ⟨puts (fun j => decide (j < 0 + k)) 0 (ops.toList.take n) xs s.fr, s.os⟩ o.op (· = x) := by
       unfold Does at hd1
       rw [hg] at hd1
       simp only at hd1
       rwa [aread_of_late r1] at hd1
      have hokk := hopok k o (pre (by omega) ho)
      rw [Nat.zero_add] at hokk
      obtain ⟨ts, hts, _⟩ := hokk.reads
      have same : ∀ t, t ∈ ts ++ guardTmps (ops.toList.take n) o.guard → _ := fun t ht => look_same (xs := xs) (fr := s.fr) hokk (lst := fun j => listed.getD j false || decide (j < k)) (fun e he hb => by simp [hokk.edges e he hb]) hts ht
      obtain ⟨y, v, k1, k2, k3⟩ := aval_sound (s := ⟨puts (fun j => decide (j < 0 + k)) 0 (ops.toList.take n) xs s.fr, s.os⟩) (a := az) (dst := o.dst) (ty := o.type) (pos := o.pos) (af := o.after) (g := o.guard) hL h1 (fun y hy => by
       have g := FR.get (s := ⟨puts (fun j => listed.getD j false || decide (j < k)) 0 (ops.toList.take n) xs s.fr, s.os⟩) q1 y
       cases y with
       | tmp t =>
        have := same t (List.mem_append_left _ (opTmps_spec hts hy))
        simp only [AS.get, List.getD_eq_getElem?_getD] at g ⊢
        rw [← this]; exact g
       | _ => exact g) hd2
      subst k1
      refine ⟨az.put o.dst v, ?_, by rw [put_defs]; exact q2.defs, by rw [put_size]; exact q2.size, fun t ht => ?_⟩
      ·have f2 := FR.put (s := ⟨puts (fun j => listed.getD j false || decide (j < k)) 0 (ops.toList.take n) xs s.fr, s.os⟩) q1 k2 o.dst
       have e : (AS.put ⟨puts (fun j => listed.getD j false || decide (j < k)) 0 (ops.toList.take n) xs s.fr, s.os⟩ o.dst y).fr = puts (fun j => listed.getD j false || decide (j < k + 1)) 0 (ops.toList.take n) xs s.fr := by
        refine List.ext_getElem? fun t => ?_
        rw [r2]
        simp only [AS.put]
        by_cases e : d = t
        ·subst e
         rw [List.getElem?_set_self']
         rcases Nat.lt_or_ge d s.fr.length with hlt | hge
         ·rw [List.getElem?_eq_getElem (by rw [puts_len]; exact hlt)]
          exact (puts_hit (lst := fun j => listed.getD j false || decide (j < k + 1)) (ops.toList.take n) 0 xs s.fr k o (pre (by omega) ho) r2 hx (by simp) (fun m' o' g1 g2 => huniq m' k o' o d g1 (pre (by omega) ho) g2 r2) hlt).symm
         ·rw [List.getElem?_eq_none (by rw [puts_len]; exact hge), List.getElem?_eq_none (by rw [puts_len]; exact hge)]
          rfl
        ·rw [List.getElem?_set_ne e]
         exact puts_agree _ _ _ _ _ (fun m o' ho' hd' => by
          rw [Nat.zero_add]
          have hne : m ≠ k := fun e2 => by
           subst e2
           rw [pre (by omega) ho] at ho'; cases ho'
           rw [r2] at hd'; cases hd'; exact e rfl
          rw [show decide (m < k + 1) = decide (m < k) from decide_eq_decide.2 (by omega)]) rfl
       rw [← e]; simpa [AS.put_os] using f2
      ·rw [put_getD, if_neg (fun h => ht ⟨k, o, by omega, hlf, ho, h.1⟩)]
       exact q2.tmps t ht
   exact key n (Nat.le_refl _)
  have e : puts (fun j => listed.getD j false || decide (j < n)) 0 (ops.toList.take n) xs s.fr = sf.fr := by
   rw [hfr]
   refine List.ext_getElem? fun t => puts_agree _ _ _ _ _ (fun m o ho _ => ?_) rfl
   have : m < n := by have := (List.getElem?_eq_some_iff.1 ho).1; simp at this; omega
   simp [this]
  rw [e] at h3
  refine alate_any hL (miss := miss) (fun j o hj ho => by have := hopok j o (pre hj ho); rwa [Nat.zero_add] at this) (fun i o hi ho => ⟨(hsf i o hi ho).elim fun m h => h.2.1, fun S hS he j hj hns => hwait i o hi ho S hS he j hj hns, ?_⟩) (fun i hi his hfi j hj ⟨m, h1, h2, _⟩ => by
   unfold missB at hfi
   rw [h1] at hfi
   simp only at hfi
   split at hfi
   ·rename_i hbt
    have := bitsFrom_spec n 0 hbt j (by omega) (by omega)
    rw [h2] at this; cases this
   ·cases hfi) hQ fuel n listed sf a' az w' A' hd F (Nat.le_refl _) hnle g1 (fun j hj hjs => by rw [gge j hj hjs]; simp; omega) gc gcl (by rw [hos]; exact h1) (by rw [hos]; exact h3) h4 (fun j o hj hjl ho => ?_) (.inr fun _ _ => rfl) hK
  ·obtain ⟨m, _, _, _, ts, g4, _⟩ := hsf i o hi ho
   refine ⟨ts, g4, fun j oj hmi hoj => ?_⟩
   obtain ⟨q1, _, ts', q2, d, tj, q3⟩ := hmiss i o hi ho j oj hmi hoj
   rw [g4] at q2; cases q2
   exact ⟨q1, d, tj, q3⟩
  ·obtain ⟨r1, ⟨d, r2⟩, r3⟩ := hlatemiss j (g2 j hj hjl) o ho
   obtain ⟨x, hx, hd1⟩ := hdoes j o (pre hj ho)
   have hg : o.guard = none := by
    unfold lateOp at r1
    split at r1
    ·assumption
    ·cases r1
   have hd2 : aval (stdE np P) L ⟨puts (fun q => decide (q < 0 + j)) 0 (ops.toList.take n) xs s.fr, s.os⟩ o.op (· = x) := by
    unfold Does at hd1
    rw [hg] at hd1
    simp only at hd1
    rwa [aread_of_late r1] at hd1
   have hokk := hopok j o (pre hj ho)
   rw [Nat.zero_add] at hokk
   obtain ⟨ts, hts, _⟩ := hokk.reads
   have hpp := latePure_spec _ _ hpu j o (pre hj ho) r3
   have hget : ∀ y ∈ o.op.operands, sf.get y = AS.get ⟨puts (fun q => decide (q < 0 + j)) 0 (ops.toList.take n) xs s.fr, s.os⟩ y := fun y hy => by
    cases y with
    | tmp t =>
     have := look_same (xs := xs) (fr := s.fr) hokk (lst := fun _ => true) (fun _ _ _ => rfl) hts (List.mem_append_left _ (opTmps_spec hts hy))
     simp only [AS.get, List.getD_eq_getElem?_getD]
     rw [hfr, this]
    | _ => rfl
   refine ⟨r1, d, x, r2, fun z hz => ?_, aval_late r1 hget (hpp.to fun y hy => (hget y hy).symm) (fun id _ => by rw [hos]) hd2, hpp⟩
   have hlt : d < s.fr.length := by
    have := (List.getElem?_eq_some_iff.1 hz).1
    rw [hfr, puts_len] at this; exact this
   rw [hfr, puts_hit (lst := fun _ => true) (ops.toList.take n) 0 xs s.fr j o (pre hj ho) r2 hx rfl (fun m' o' g1 g2 => huniq m' j o' o d g1 (pre hj ho) g2 r2) hlt] at hz
   cases hz; rfl
 ·exact Nat.le_trans (List.length_filter_le _ _) (by simp)
 ·intro j _ hj; simp [hj]
 ·intro i o ho hi
  exfalso
  have : i < ops.size := by simpa using (List.getElem?_eq_some_iff.1 ho).1
  simp [this] at hi
 ·have e : puts (fun j => (Array.replicate ops.size false).getD j false) 0 (ops.toList.take n) xs s.fr = s.fr := by
   have h0 : (fun j => (Array.replicate ops.size false).getD j false) = fun _ => false := by
    funext j
    by_cases h : j < ops.size <;> simp [h]
   rw [h0]
   have e2 : ∀ (l : List Oper) (i : Nat) (xs fr : List AV), puts (fun _ => false) i l xs fr = fr := by
    intro l
    induction l with
    | nil => intro i xs fr; simp [puts]
    | cons o l ih => intro i xs fr; cases xs with | nil => simp [puts] | cons x xs => simp [puts, put1, ih]
   exact e2 _ _ _ _
  rw [e]; exact hf'
end
end Go.Proofs.YtlemeenicaidfaaGreatDoor

/- Drawn regions whose first part makes boxes. -/
namespace Go.Proofs.YtlemeenicaidfaaGreatDoor
set_option linter.unusedVariables false
set_option linter.unusedSimpArgs false
open Go Go.RowKit

section
variable {P : Program} {np : Nat} {L : Lay} {W : WM} {w w' : World} {A A' : Nat → Prop} {os os' : List Obj} {hd hd' : Nat → Value} {F F' : Nat → Nat → Prop} {s s1 : AS} {a : Act}

theorem rep_false (n i : Nat) : (Array.replicate n false).getD i false = false := by
 by_cases h : i < n <;> simp [h]
/-- The boxes that lie there already. -/
def AlI (P : Program) (ops : Array Oper) (n : Nat) (W : WM) (F : Nat → Nat → Prop) (listed : Array Bool) (a : Act) (w : World) (A : Nat → Prop) : Prop :=
 ∃ B : Nat → Nat, (∀ (i : Nat) o T d, i < n → ops.toList[i]? = some o → o.op = .alloc T → o.dst = some d → listed.getD i false = true →
   a.tmps.getD d undef = .pointer (some ⟨B i, 0, none⟩) ∧ (∃ ti z, P.info? T = some ti ∧ ti.zero = some z ∧ w.heap[B i]? = some (.cells z.cells T (0, 0))) ∧ W.new (B i) ∧ B i < w.heap.size ∧ ¬ A (B i) ∧ ∀ id, ¬ F id (B i)) ∧
  ∀ (i j : Nat) o o' T T', i < n → j < n → ops.toList[i]? = some o → ops.toList[j]? = some o' → o.op = .alloc T → o'.op = .alloc T' → listed.getD i false = true → listed.getD j false = true → B i = B j → i = j
theorem AlI.keep [St] {ops : Array Oper} {n : Nat} {listed : Array Bool} (h : AlI P ops n W F listed a w A) {i : Nat} {o : Oper} {v : Value} (hno : ops.toList[i]? = some o) (hna : ∀ T, o.op ≠ .alloc T)
  (hud : ∀ (j : Nat) oj T d, j < n → ops.toList[j]? = some oj → oj.op = .alloc T → oj.dst = some d → j ≠ i → o.dst ≠ some d) (k1 : Keeps (fun _ => False) w w') (k3 : ∀ b, A' b → A b ∨ w.heap.size ≤ b) :
  AlI P ops n W F (listed.setIfInBounds i true) (a.put o.dst v) w' A' := by
 obtain ⟨B, h1, h2⟩ := h
 have hji : ∀ (j : Nat) oj T, ops.toList[j]? = some oj → oj.op = .alloc T → i ≠ j := fun j oj T hoj hal e => by
  subst e
  rw [hno] at hoj; cases hoj
  exact hna T hal
 refine ⟨B, fun j oj T d hj hoj hal hd hl => ?_, fun j j' oj oj' T T' hj hj' hoj hoj' hal hal' hl hl' he => ?_⟩
 ·rw [getD_set_ne false (hji j oj T hoj hal)] at hl
  obtain ⟨q1, ⟨ti, z, q2, q3, q4⟩, q5, q6, q7, q8⟩ := h1 j oj T d hj hoj hal hd hl
  refine ⟨?_, ⟨ti, z, q2, q3, (k1.block _ q6 (fun h => h)).trans q4⟩, q5, Nat.lt_of_lt_of_le q6 k1.size, fun h => ?_, q8⟩
  ·rw [put_getD, if_neg (fun h => hud j oj T d hj hoj hal hd (Ne.symm (hji j oj T hoj hal)) h.1)]
   exact q1
  ·rcases k3 _ h with h | h
   ·exact q7 h
   ·omega
 ·rw [getD_set_ne false (hji j oj T hoj hal)] at hl
  rw [getD_set_ne false (hji j' oj' T' hoj' hal')] at hl'
  exact h2 j j' oj oj' T T' hj hj' hoj hoj' hal hal' hl hl' he
theorem AlI.new {ops : Array Oper} {n : Nat} {listed : Array Bool} (h : AlI P ops n W F listed a w A) {i d : Nat} {o : Oper} {T : TypeId} {ti : TypeInfo} {z : Value} (hi : i < n) (hsz : i < listed.size) (hno : ops.toList[i]? = some o) (hop : o.op = .alloc T) (hdst : o.dst = some d) (hdl : d < a.tmps.size)
  (hz1 : P.info? T = some ti) (hz2 : ti.zero = some z) (hu : ∀ (j : Nat) oj T', j < n → ops.toList[j]? = some oj → oj.op = .alloc T' → oj.dst = some d → j = i) (hW : W.new w.heap.size) (hA : ¬ A w.heap.size) (hF : ∀ id, ¬ F id w.heap.size) :
  AlI P ops n W F (listed.setIfInBounds i true) (a.put o.dst (.pointer (some ⟨w.heap.size, 0, none⟩))) (w.alloc (.cells z.cells T)) A := by
 obtain ⟨B, h1, h2⟩ := h
 have old : ∀ (j : Nat) oj T', j < n → j ≠ i → ops.toList[j]? = some oj → oj.op = .alloc T' → (listed.setIfInBounds i true).getD j false = true → listed.getD j false = true := fun j oj T' _ hji _ _ hl => by
  rwa [getD_set_ne false (Ne.symm hji)] at hl
 have lt : ∀ (j : Nat) oj T', j < n → j ≠ i → ops.toList[j]? = some oj → oj.op = .alloc T' → (listed.setIfInBounds i true).getD j false = true → (∃ d', oj.dst = some d') → B j < w.heap.size := fun j oj T' hj hji hoj hal hl ⟨d', hd'⟩ =>
  (h1 j oj T' d' hj hoj hal hd' (old j oj T' hj hji hoj hal hl)).2.2.2.1
 refine ⟨fun j => if j = i then w.heap.size else (if B j < w.heap.size then B j else w.heap.size + 1 + j), fun j oj T' d' hj hoj hal hd hl => ?_, fun j j' oj oj' T1 T2 hj hj' hoj hoj' hal hal' hl hl' he => ?_⟩
 ·by_cases hji : j = i
  ·subst hji
   rw [hno] at hoj; cases hoj
   rw [hop] at hal; cases hal
   rw [hdst] at hd; cases hd
   simp only [if_true]
   refine ⟨?_, ⟨ti, z, hz1, hz2, heap_alloc_new w _⟩, hW, by simp, hA, hF⟩
   rw [put_getD, if_pos ⟨hdst, hdl⟩]
  ·have hl2 := old j oj T' hj hji hoj hal hl
   obtain ⟨q1, ⟨ti', z', q2, q3, q4⟩, q5, q6, q7, q8⟩ := h1 j oj T' d' hj hoj hal hd hl2
   simp only [if_neg hji, if_pos q6]
   refine ⟨?_, ⟨ti', z', q2, q3, ?_⟩, q5, by simp; omega, q7, q8⟩
   ·rw [put_getD, if_neg (fun h => hji (hu j oj T' hj hoj hal (by rw [hd, ← h.1, hdst])))]
    exact q1
   ·rw [Below.heap_alloc _ _ _ q6]; exact q4
 ·have bad : ∀ (k : Nat), k ≠ i → (if k = i then w.heap.size else (if B k < w.heap.size then B k else w.heap.size + 1 + k)) ≠ w.heap.size := fun k hk => by
   rw [if_neg hk]; split <;> omega
  by_cases e1 : j = i
  ·by_cases e2 : j' = i
   ·rw [e1, e2]
   ·exfalso
    simp only [if_pos e1] at he
    exact bad j' e2 he.symm
  ·by_cases e2 : j' = i
   ·exfalso
    simp only [if_pos e2] at he
    exact bad j e1 he
   ·simp only [if_neg e1, if_neg e2] at he
    split at he <;> split at he
    ·exact h2 j j' oj oj' T1 T2 hj hj' hoj hoj' hal hal' (old j oj T1 hj e1 hoj hal hl) (old j' oj' T2 hj' e2 hoj' hal' hl') he
    ·omega
    ·omega
    ·omega
theorem adraw_al [St] (hL : L.ty = layOf P) {ops : Array Oper} {Q : Exit → Act → World → Prop} {n : Nat} {s0 sf : AS} {xs : List AV} (late : Nat → Prop) (hdr : drawOK (ops.toList.take n) 0 (ops.toList.take n) = true) (hal : ∀ (i : Nat) o T, i < n → ops.toList[i]? = some o → o.op = .alloc T → o.guard = none ∧ ∃ d, o.dst = some d ∧ d < s0.fr.length) (ht : Txt np P L (ops.toList.take n) (ops.toList.take n) s0 xs sf) (hnle : n ≤ ops.size)
  (hcut : ∀ (i : Nat) o, n ≤ i → ops.toList[i]? = some o → ∀ S : Nat → Prop, Closed ops.toList S → (∀ e ∈ o.after, bnd e = true → S e.on) → ∀ j, j < n → ¬ late j → S j)
  (hQ : ∀ fuel (listed : Array Bool) a' w' A', listed.size = ops.size → ((List.range ops.size).filter fun i => !listed.getD i true).length ≤ fuel → (∀ j, n ≤ j → j < ops.size → listed.getD j false = false) → (∀ j, j < n → listed.getD j false = false → late j) → Closed ops.toList (fun j => listed.getD j false = true) →
   CW W w' A' s0.os hd F → FR w' A' s0.os hd (puts (fun j => listed.getD j false) 0 (ops.toList.take n) xs s0.fr) a' → AlI P ops n W F listed a' w' A' → wpAny P .any ops Q fuel listed a' w') :
  ∀ (fuel : Nat) (listed : Array Bool) (a : Act) (w : World) (A : Nat → Prop), listed.size = ops.size → ((List.range ops.size).filter fun i => !listed.getD i true).length ≤ fuel → (∀ j, n ≤ j → j < ops.size → listed.getD j false = false) → Closed ops.toList (fun j => listed.getD j false = true) →
   CW W w A s0.os hd F → FR w A s0.os hd (puts (fun j => listed.getD j false) 0 (ops.toList.take n) xs s0.fr) a → AlI P ops n W F listed a w A → wpAny P .any ops Q fuel listed a w := by
 obtain ⟨hlen, hos, hfr, hdoes⟩ := txt_at (ops.toList.take n) s0 xs sf ht 0
 obtain ⟨hok, huniq⟩ := drawOK_spec hdr
 have pre : ∀ {i : Nat} {o : Oper}, i < n → ops[i]? = some o → (ops.toList.take n)[i]? = some o := fun {i o} hi ho => by
  rw [List.getElem?_take, if_pos hi, Array.getElem?_toList]; exact ho
 have getD_tf : ∀ (listed : Array Bool) i, listed.size = ops.size → i < ops.size → listed.getD i true = listed.getD i false := fun listed i hs hi => by
  have : i < listed.size := by omega
  simp [Array.getD, this]
 have allrdy : ∀ (listed : Array Bool), listed.size = ops.size → (∀ i ∈ Region.ready .any ops listed, n ≤ i) → ∀ i, i < n → listed.getD i false = true := by
  intro listed hs h0 i
  induction i using Nat.strongRecOn with
  | _ i ih =>
   intro hi
   apply Classical.byContradiction
   intro hn
   have hio : i < ops.size := by omega
   have ho : ops[i]? = some ops[i] := Array.getElem?_eq_getElem hio
   have : i ∈ Region.ready .any ops listed := mem_ready.2 ⟨by rw [getD_tf listed i hs hio]; simpa using hn, _, ho, fun e he hb => by
    rw [bnd_spec] at hb
    have h1 := (hok i ops[i] (pre hi ho)).edges e he hb
    rw [Nat.zero_add] at h1
    exact ih e.on h1 (by omega)⟩
   have := h0 i this
   omega
 intro fuel
 induction fuel with
 | zero =>
  intro listed a w A hs hc hge hcl hw hf hI
  refine hQ 0 listed a w A hs hc hge (fun i hi hli => ?_) hcl hw hf hI
  have hnil : ((List.range ops.size).filter fun i => !listed.getD i true) = [] := List.length_eq_zero_iff.1 (Nat.le_zero.1 hc)
  have := List.filter_eq_nil_iff.1 hnil i (List.mem_range.2 (by omega))
  rw [getD_tf listed i hs (by omega), hli] at this
  simp at this
 | succ fuel ih =>
  intro listed a w A hs hc hge hcl hw hf hI
  by_cases hsw : ∀ j, j < n → listed.getD j false = false → late j
  ·exact hQ (fuel + 1) listed a w A hs hc hge hsw hcl hw hf hI
  refine ⟨fun h0 => (hsw fun j hj hjl => ?_).elim, fun i hi => ?_⟩
  ·rw [allrdy listed hs (fun i hi => by rw [h0] at hi; cases hi) j hj] at hjl
   cases hjl
  obtain ⟨h1, o, h2, h3⟩ := mem_ready.1 hi
  have hi' : i < ops.size := (Array.getElem?_eq_some_iff.1 h2).1
  have h2f : ops.toList[i]? = some o := by rw [Array.getElem?_toList]; exact h2
  have hin : i < n := by
   apply Classical.byContradiction
   intro hge'
   refine hsw fun j hj hjl => ?_
   apply Classical.byContradiction
   intro hnl
   have : listed.getD j false = true := hcut i o (by omega) h2f (fun j => listed.getD j false = true) hcl (fun e he hb => h3 e he (by rw [bnd_spec]; exact hb)) j hj hnl
   rw [hjl] at this
   cases this
  have h2l : (ops.toList.take n)[i]? = some o := pre hin h2
  obtain ⟨x, hx, hd1⟩ := hdoes i o h2l
  have hopok := hok i o h2l
  rw [Nat.zero_add] at hopok
  obtain ⟨ts, hts, _⟩ := hopok.reads
  have same : ∀ t, t ∈ ts ++ guardTmps (ops.toList.take n) o.guard → (puts (fun j => listed.getD j false) 0 (ops.toList.take n) xs s0.fr)[t]? = (puts (fun j => decide (j < 0 + i)) 0 (ops.toList.take n) xs s0.fr)[t]? := fun t ht =>
   look_same hopok (lst := fun j => listed.getD j false) (fun e he hb => h3 e he (by rw [bnd_spec]; exact hb)) hts ht
  have hset : ∀ (v : Value) (w' : World) (A' : Nat → Prop), Keeps (fun _ => False) w w' → CW W w' A' s0.os hd F → (∀ b, A b → A' b) → SRel w' A' s0.os hd x v → AlI P ops n W F (listed.setIfInBounds i true) (a.put o.dst v) w' A' → wpAny P .any ops Q fuel (listed.setIfInBounds i true) (a.put o.dst v) w' := fun v w' A' k1 k2 k3 k4 k5 => by
   refine ih (listed.setIfInBounds i true) _ w' A' (by simpa using hs) ?_ (fun j hj hjs => by rw [getD_set_ne false (by omega : i ≠ j)]; exact hge j hj hjs) (fun q o' ho' hq e he hb => ?_) k2 ?_ k5
   ·have hsub : ((List.range ops.size).filter fun j => !(listed.setIfInBounds i true).getD j true) = ((List.range ops.size).filter fun j => !listed.getD j true).filter fun j => decide (j ≠ i) := by
     rw [List.filter_filter]
     refine List.filter_congr fun j hj => ?_
     by_cases e : j = i
     ·subst e
      have : j < listed.size := by omega
      simp [this]
     ·rw [getD_set_ne true (Ne.symm e)]; simp [e]
    have hlt : (((List.range ops.size).filter fun j => !listed.getD j true).filter fun j => decide (j ≠ i)).length < ((List.range ops.size).filter fun j => !listed.getD j true).length :=
     List.length_filter_lt_length_iff_exists.2 ⟨i, List.mem_filter.2 ⟨List.mem_range.2 hi', by simp [h1]⟩, by simp⟩
    rw [hsub]
    omega
   ·have hqs := (List.getElem?_eq_some_iff.1 ho').1
    show (listed.setIfInBounds i true).getD e.on false = true
    replace hq : (listed.setIfInBounds i true).getD q false = true := hq
    by_cases hqi : q = i
    ·subst hqi
     rw [h2f] at ho'; cases ho'
     have h5 := h3 e he (by rw [bnd_spec]; exact hb)
     by_cases hei : q = e.on
     ·rw [← hei]
      have : q < listed.size := by omega
      simp [this]
     ·rw [getD_set_ne false hei]; exact h5
    ·rw [getD_set_ne false (Ne.symm hqi)] at hq
     have h5 := hcl q o' ho' hq e he hb
     by_cases hei : i = e.on
     ·rw [← hei]
      have : i < listed.size := by omega
      simp [this]
     ·rw [getD_set_ne false hei]; exact h5
   ·have f1 : FR w' A' s0.os hd (puts (fun j => listed.getD j false) 0 (ops.toList.take n) xs s0.fr) a := hf.to fun y u hy => hy.mono (fun b hb => k1.block b (hw.hA b hb).1 (fun h => h)) k3
    have f2 := FR.put (s := ⟨puts (fun j => listed.getD j false) 0 (ops.toList.take n) xs s0.fr, s0.os⟩) f1 k4 o.dst
    have e : (AS.put ⟨puts (fun j => listed.getD j false) 0 (ops.toList.take n) xs s0.fr, s0.os⟩ o.dst x).fr = puts (fun j => (listed.setIfInBounds i true).getD j false) 0 (ops.toList.take n) xs s0.fr := by
     refine List.ext_getElem? fun t => ?_
     have other : o.dst ≠ some t → (puts (fun j => listed.getD j false) 0 (ops.toList.take n) xs s0.fr)[t]? = (puts (fun j => (listed.setIfInBounds i true).getD j false) 0 (ops.toList.take n) xs s0.fr)[t]? := fun hne =>
      puts_agree _ _ _ _ _ (fun m o' ho hd => by
       rw [Nat.zero_add]
       refine (getD_set_ne false fun e => ?_).symm
       subst e
       rw [h2l] at ho; cases ho
       exact hne hd) rfl
     cases hdst : o.dst with
     | none => simp only [AS.put]; exact other (by rw [hdst]; simp)
     | some d =>
      simp only [AS.put]
      by_cases e : d = t
      ·subst e
       rw [List.getElem?_set_self']
       rcases Nat.lt_or_ge d s0.fr.length with hlt | hge
       ·rw [List.getElem?_eq_getElem (by rw [puts_len]; exact hlt)]
        refine (puts_hit (lst := fun j => (listed.setIfInBounds i true).getD j false) (ops.toList.take n) 0 xs s0.fr i o h2l hdst hx ?_ (fun m' o' g1 g2 => huniq m' i o' o d g1 h2l g2 hdst) hlt).symm
        have : i < listed.size := by omega
        rw [Nat.zero_add]
        simp [this]
       ·rw [List.getElem?_eq_none (by rw [puts_len]; exact hge), List.getElem?_eq_none (by rw [puts_len]; exact hge)]
        rfl
      ·rw [List.getElem?_set_ne e]; exact other (by rw [hdst]; simpa using e)
    rw [← e]
    simpa [AS.put_os] using f2
  have hud : ∀ (j : Nat) oj d, j < n → ops.toList[j]? = some oj → oj.dst = some d → j ≠ i → o.dst ≠ some d := fun j oj d hj hoj hd hji hod =>
   hji (huniq j i oj o d (by rw [List.getElem?_take, if_pos hj]; exact hoj) h2l hd hod)
  have hrun : (∀ T, o.op ≠ .alloc T) → aread (stdE np P) L ⟨puts (fun j => decide (j < 0 + i)) 0 (ops.toList.take n) xs s0.fr, s0.os⟩ o (· = x) → o.wp P a w (wpAny P .any ops Q fuel (listed.setIfInBounds i true)) Q := fun hna hr =>
   aread_sound (s := ⟨puts (fun j => decide (j < 0 + i)) 0 (ops.toList.take n) xs s0.fr, s0.os⟩) hL hw (fun y hy => by
    have g := FR.get (s := ⟨puts (fun j => listed.getD j false) 0 (ops.toList.take n) xs s0.fr, s0.os⟩) hf y
    cases y with
    | tmp t =>
     have := same t (List.mem_append_left _ (opTmps_spec hts hy))
     simp only [AS.get, List.getD_eq_getElem?_getD] at g ⊢
     rw [← this]; exact g
    | _ => exact g) hr fun v w' A' ⟨k1, k2, k3, k4⟩ => hset v w' A' k1 k2 k3.1 k4 (hI.keep h2f hna (fun j oj T d hj hoj _ hd hji => hud j oj d hj hoj hd hji) k1 k3.2)
  have hskip : (∀ T, o.op ≠ .alloc T) → x = .und → wpAny P .any ops Q fuel (listed.setIfInBounds i true) (a.put o.dst undef) w := fun hna e =>
   hset undef w A (Keeps.refl _ _) hw (fun _ h => h) (by subst e; exact .und) (hI.keep h2f hna (fun j oj T d hj hoj _ hd hji => hud j oj d hj hoj hd hji) (Keeps.refl _ _) fun _ h => .inl h)
  by_cases hall : ∃ T, o.op = .alloc T
  ·obtain ⟨T, hop⟩ := hall
   obtain ⟨hg, d, hdst, hdl⟩ := hal i o T hin h2f hop
   unfold Does at hd1
   rw [hg] at hd1
   simp only [aread, hop] at hd1
   split at hd1
   ·exact hd1.elim
   rename_i z zs hz
   obtain ⟨ti, zv, q1, q2, _⟩ := lay_zero hL (t := T) (by rw [hz]; simp)
   have hkp := Keeps.alloc w zv.cells T
   have hx2 : x = .any := hd1.symm
   have hsz : a.tmps.size = s0.fr.length := by rw [hf.size, puts_len]
   unfold wpOp
   simp only [h2]
   rw [if_pos (by simp [Region.wanted, hg])]
   refine .inl (wp_value (v := .pointer (some ⟨w.heap.size, 0, none⟩)) (w' := w.alloc (.cells zv.cells T)) ?_ (hset _ _ A hkp (hw.keep hkp) (fun _ h => h) (by rw [hx2]; exact .pure _ _ (.any _)) (hI.new hin (by rw [hs]; exact hi') h2f hop hdst (by rw [hsz]; exact hdl) q1 q2 (fun j oj T' hj hoj _ hd' => Classical.byContradiction fun hji => hud j oj d hj hoj hd' hji hdst) (hw.below.new (Nat.le_refl _)) (fun h => Nat.lt_irrefl _ (hw.hA _ h).1) (fun id h => Nat.lt_irrefl _ (hw.fsz id _ h).2))))
   obtain ⟨dst, op, ty, pos, af, g⟩ := o
   simp only at hop
   subst hop
   simp [execOp, Instr.alloc, zeroValue, typeInfo, q1, q2, newVar, newRow, go_sem]
  replace hall : ∀ T, o.op ≠ .alloc T := fun T h => hall ⟨T, h⟩
  unfold wpOp
  simp only [h2]
  unfold Does at hd1
  split at hd1
  ·rename_i hg
   rw [if_pos (by simp [Region.wanted, hg])]
   exact .inl (hrun hall hd1)
  ·rename_i j want hg
   have hy0 : AS.yield ⟨puts (fun j => decide (j < 0 + i)) 0 (ops.toList.take n) xs s0.fr, s0.os⟩ (ops.toList.take n) j = AS.yield ⟨puts (fun j => listed.getD j false) 0 (ops.toList.take n) xs s0.fr, s0.os⟩ (ops.toList.take n) j := by
    unfold AS.yield
    cases hj : (ops.toList.take n)[j]? with
    | none => rfl
    | some oj =>
     cases hdj : oj.dst with
     | none => simp only [hdj]
     | some d =>
      have := same d (List.mem_append_right _ (by simp [guardTmps, hg, hj, hdj]))
      simp only [hdj, List.getD_eq_getElem?_getD, this]
   rw [hy0] at hd1
   split at hd1
   ·exact hd1.elim
   ·rename_i hy
    have := yield_sound (s := ⟨puts (fun j => listed.getD j false) 0 (ops.toList.take n) xs s0.fr, s0.os⟩) hf (yield_take hy)
    rw [if_neg (by simp [Region.wanted, hg, this])]
    exact hskip hall hd1
   ·rename_i b hy
    have := yield_sound (s := ⟨puts (fun j => listed.getD j false) 0 (ops.toList.take n) xs s0.fr, s0.os⟩) hf (yield_take hy)
    split at hd1
    ·rename_i e
     subst e
     rw [if_pos (by simp [Region.wanted, hg, this])]
     exact .inl (hrun hall hd1)
    ·rename_i e
     rw [if_neg (by simp [Region.wanted, hg, this, e])]
     exact hskip hall hd1

theorem alsOK_spec {ops : List Oper} : ∀ {l : List Oper}, alsOK ops l = true → ∀ (i : Nat) o T, l[i]? = some o → o.op = .alloc T → o.guard = none ∧ ∃ d, o.dst = some d ∧ unread d ops ops = true
 | [], _, i, o, T, ho, _ => by simp at ho
 | q :: l, h, i, o, T, ho, hop => by
  unfold alsOK at h
  cases i with
  | zero =>
   simp at ho; subst ho
   rw [hop] at h
   simp only at h
   split at h
   ·rename_i d hg hd
    split at h
    ·rename_i hu; exact ⟨hg, d, hd, hu⟩
    ·cases h
   ·cases h
  | succ i =>
   have rest : alsOK ops l = true := by
    split at h
    ·split at h
     ·split at h
      ·exact h
      ·cases h
     ·cases h
    ·exact h
   exact alsOK_spec rest i o T (by simpa using ho) hop
theorem ltAll_spec {n : Nat} : ∀ {l : List (Nat × TypeId)}, ltAll n l = true → ∀ q ∈ l, q.1 < n
 | [], _, q, hq => by simp at hq
 | p :: l, h, q, hq => by
  unfold ltAll at h
  split at h
  ·rename_i hp
   rcases List.mem_cons.1 hq with e | e
   ·rw [e]; exact hp
   ·exact ltAll_spec h q e
  ·cases h
theorem ltIds_spec {n : Nat} : ∀ {l : List Nat}, ltIds n l = true → ∀ q ∈ l, q < n
 | [], _, q, hq => by simp at hq
 | p :: l, h, q, hq => by
  unfold ltIds at h
  split at h
  ·rename_i hp
   rcases List.mem_cons.1 hq with e | e
   ·rw [e]; exact hp
   ·exact ltIds_spec h q e
  ·cases h
theorem alSl_cons (o : Oper) (l : List Oper) : (∃ d T, o.op = .alloc T ∧ o.dst = some d ∧ alSl (o :: l) = (d, T) :: alSl l) ∨ ((∀ d T, o.op = .alloc T → o.dst ≠ some d) ∧ alSl (o :: l) = alSl l) := by
 rw [alSl]
 split
 ·rename_i t d h1 h2; exact .inl ⟨d, t, h1, h2, rfl⟩
 ·rename_i h; exact .inr ⟨fun d T h1 h2 => h T d h1 h2, rfl⟩
theorem mem_alSl : ∀ {l : List Oper} {i : Nat} {o : Oper} {T : TypeId} {d : Nat}, l[i]? = some o → o.op = .alloc T → o.dst = some d → (d, T) ∈ alSl l
 | [], i, o, T, d, h, _, _ => by simp at h
 | q :: l, i, o, T, d, h, h1, h2 => by
  cases i with
  | zero =>
   simp at h; subst h
   rcases alSl_cons q l with ⟨d', T', g1, g2, g3⟩ | ⟨g1, _⟩
   ·rw [h1] at g1; cases g1
    rw [h2] at g2; cases g2
    rw [g3]; exact List.mem_cons_self ..
   ·exact (g1 d T h1 h2).elim
  | succ i =>
   have := mem_alSl (l := l) (i := i) (by simpa using h) h1 h2
   rcases alSl_cons q l with ⟨d', T', g1, g2, g3⟩ | ⟨_, g3⟩
   ·rw [g3]; exact List.mem_cons_of_mem _ this
   ·rw [g3]; exact this
theorem alSl_mem : ∀ {l : List Oper} {q : Nat × TypeId}, q ∈ alSl l → ∃ (i : Nat) (o : Oper), l[i]? = some o ∧ o.op = .alloc q.2 ∧ o.dst = some q.1
 | [], q, h => by simp [alSl] at h
 | p :: l, q, h => by
  have up : q ∈ alSl l → ∃ (i : Nat) (o : Oper), (p :: l)[i]? = some o ∧ o.op = .alloc q.2 ∧ o.dst = some q.1 := fun h => by
   obtain ⟨i, o, h1, h2⟩ := alSl_mem h
   exact ⟨i + 1, o, by simpa using h1, h2⟩
  rcases alSl_cons p l with ⟨d', T', g1, g2, g3⟩ | ⟨_, g3⟩
  ·rw [g3] at h
   rcases List.mem_cons.1 h with e | e
   ·subst e; exact ⟨0, p, rfl, g1, g2⟩
   ·exact up e
  ·rw [g3] at h; exact up h
theorem alSl_pair {R : Nat × TypeId → Nat × TypeId → Prop} : ∀ (l : List Oper), (∀ (i j : Nat) o o' T T' d d', i < j → l[i]? = some o → l[j]? = some o' → o.op = .alloc T → o'.op = .alloc T' → o.dst = some d → o'.dst = some d' → R (d, T) (d', T')) → (alSl l).Pairwise R
 | [], _ => by simp [alSl]
 | p :: l, h => by
  have ih := alSl_pair (R := R) l fun i j o o' T T' d d' hij h1 h2 => h (i + 1) (j + 1) o o' T T' d d' (by omega) (by simpa using h1) (by simpa using h2)
  rcases alSl_cons p l with ⟨d', T', g1, g2, g3⟩ | ⟨_, g3⟩
  ·rw [g3]
   refine List.pairwise_cons.2 ⟨fun q hq => ?_, ih⟩
   obtain ⟨j, o', h1, h2, h3⟩ := alSl_mem hq
   exact h 0 (j + 1) p o' T' q.2 d' q.1 (by omega) rfl (by simpa using h1) g1 h2 g2 h3
  ·rw [g3]; exact ih
theorem alsS_os {id : Nat} : ∀ {l : List (Nat × TypeId)} {s : AS}, id < s.os.length → (alsS L l s).os[id]? = s.os[id]?
 | [], s, _ => rfl
 | (d, t) :: l, s, h => by
  unfold alsS
  rw [alsS_os (by simp; omega)]
  exact List.getElem?_append_left h
theorem alsS_fr {t : Nat} : ∀ {l : List (Nat × TypeId)} {s : AS}, (∀ q ∈ l, q.1 ≠ t) → (alsS L l s).fr[t]? = s.fr[t]?
 | [], s, _ => rfl
 | (d, T) :: l, s, h => by
  unfold alsS
  rw [alsS_fr fun q hq => h q (List.mem_cons_of_mem _ hq)]
  exact List.getElem?_set_ne (h (d, T) (List.mem_cons_self ..))
/-- They become objects, in the text's order. -/
theorem alsS_sound [St] (hL : L.ty = layOf P) : ∀ (l : List (Nat × TypeId)) (s : AS) (hd : Nat → Value) (F : Nat → Nat → Prop), CW W w A s.os hd F → FR w A s.os hd s.fr a → ∀ Bk : Nat → Nat,
  (∀ q ∈ l, a.tmps.getD q.1 undef = .pointer (some ⟨Bk q.1, 0, none⟩) ∧ (∃ ti z, P.info? q.2 = some ti ∧ ti.zero = some z ∧ w.heap[Bk q.1]? = some (.cells z.cells q.2 (0, 0))) ∧ W.new (Bk q.1) ∧ Bk q.1 < w.heap.size ∧ ¬ A (Bk q.1) ∧ ∀ id, ¬ F id (Bk q.1)) →
  l.Pairwise (fun p q => Bk p.1 ≠ Bk q.1) → ∃ hd' F', CW W w A (alsS L l s).os hd' F' ∧ FR w A (alsS L l s).os hd' (alsS L l s).fr a
 | [], s, hd, F, hw, hf, _, _, _ => ⟨hd, F, hw, hf⟩
 | (d, T) :: l, s, hd, F, hw, hf, Bk, hB, hp => by
  obtain ⟨q1, ⟨ti, z, q2, q3, q4⟩, q5, q6, q7, q8⟩ := hB (d, T) (List.mem_cons_self ..)
  simp only at q1 q2 q4 q5 q6 q7 q8
  have hz : (L.ty T).zero = z.cells.toList.map Z.of := by
   rw [hL]; unfold layOf TyI.of
   simp [q2, q3, Z.ofAll]
  have hw2 := hw.push (.box ((L.ty T).zero.map Z.av)) (.pointer (some ⟨Bk d, 0, none⟩)) (fun x => x = Bk d) (fun x hx => by subst hx; exact ⟨q5, q6, q7, q8⟩) (fun k es e => by cases e) (fun cs' e => by
   cases e
   exact ⟨Bk d, T, z.cells, rfl, q4, by rw [hz]; simp, fun i x hx => by rw [hz] at hx; exact zero_rel hx, rfl⟩)
  have hf2 : FR w A (s.os ++ [.box ((L.ty T).zero.map Z.av)]) (updN hd s.os.length (.pointer (some ⟨Bk d, 0, none⟩))) (s.fr.set d (.pb s.os.length 0)) a := by
   refine ⟨hf.nodef, by rw [List.length_set]; exact hf.size, fun t x hx => ?_⟩
   rw [List.getElem?_set] at hx
   split at hx
   ·rename_i e
    subst e
    split at hx
    ·cases hx
     exact .pb _ _ _ (by simp) fun cs' ho => ⟨Bk d, updN_eq _ _ _, q1⟩
    ·cases hx
   ·exact (hf.slots t x hx).push _ _
  unfold alsS
  obtain ⟨p1, p2⟩ := List.pairwise_cons.1 hp
  exact alsS_sound hL l ⟨s.fr.set d (.pb s.os.length 0), s.os ++ [.box ((L.ty T).zero.map Z.av)]⟩ _ _ hw2 hf2 Bk (fun q hq => by
   obtain ⟨r1, r2, r3, r4, r5, r6⟩ := hB q (List.mem_cons_of_mem _ hq)
   refine ⟨r1, r2, r3, r4, r5, fun id h => ?_⟩
   unfold updN at h
   split at h
   ·exact p1 q hq h.symm
   ·exact r6 id h) p2

theorem alateA_sound [St] (hL : L.ty = layOf P) (hm : P.follows .mixedOrders = true) {id : Nat} {ops : Array Oper} {n : Nat} (hok : lateOK ops.toList n = true) (hao : alsOK (ops.toList.take n) (ops.toList.take n) = true) (hnle : n ≤ ops.size) {Q : Exit → Act → World → Prop} {K : AS → Prop} (hQ : ∀ s' a' w' A' hd' F', K s' → CW W w' A' s'.os hd' F' → FR w' A' s'.os hd' s'.fr a' → Q .normal a' w')
  (hw : CW W w A s.os hd F) (hf : FR w A s.os hd s.fr a) (hk : aops (stdE np P) L true (ops.toList.take n) (ops.toList.take n) s fun s' => match latePure s' ((masks [] ops.toList).drop n) 0 (ops.toList.take n), ltAll s'.fr.length (alSl (ops.toList.take n)), ltIds s'.os.length (lateIds s' ((masks [] ops.toList).drop n) 0 (ops.toList.take n)) with
   | true, true, true => aopsC (stdE np P) L s'.os (lateIds s' ((masks [] ops.toList).drop n) 0 (ops.toList.take n)) (missB ops.toList n) ops.toList n (ops.toList.drop n) (alsS L (alSl (ops.toList.take n)) s') K
   | _, _, _ => False) : (Code.region id ops true).wp P Q a w := by
 have hkp := Keeps.drew w
 have hw' := hw.keep hkp
 have hf' : FR w.drew A s.os hd s.fr a := hf.to fun y u hy => hy.keep (fun b hb => (hw.hA b hb).1) hkp
 obtain ⟨xs, sf, ht, hK⟩ := txt_sim hL (ops.toList.take n) s a w.drew A hw' hf' hk
 obtain ⟨hdr, hsf⟩ := lateOK_spec hok
 obtain ⟨hlen, hos, hfr, hdoes⟩ := txt_at (ops.toList.take n) s xs sf ht 0
 obtain ⟨hopok, huniq⟩ := drawOK_spec hdr
 split at hK
 case h_2 => exact hK.elim
 rename_i hpu hlt0 hli0
 have hflen : sf.fr.length = s.fr.length := by rw [hfr, puts_len]
 have hals := alsOK_spec hao
 have halS : ∀ (i : Nat) o T, i < n → ops.toList[i]? = some o → o.op = .alloc T → o.guard = none ∧ ∃ d, o.dst = some d ∧ d < s.fr.length := fun i o T hi ho hop => by
  have ho' : (ops.toList.take n)[i]? = some o := by rw [List.getElem?_take, if_pos hi]; exact ho
  obtain ⟨g1, d, g2, _⟩ := hals i o T ho' hop
  exact ⟨g1, d, g2, by rw [← hflen]; exact ltAll_spec hlt0 (d, T) (mem_alSl ho' hop g2)⟩
 have pre : ∀ {i : Nat} {o : Oper}, i < n → ops.toList[i]? = some o → (ops.toList.take n)[i]? = some o := fun {i o} hi ho => by
  rw [List.getElem?_take, if_pos hi]; exact ho
 let miss : Nat → Nat → Prop := fun i j => ∃ m, (masks [] ops.toList)[i]? = some m ∧ m.testBit j = false ∧ j < i
 have hwait : ∀ (i : Nat) o, n ≤ i → ops.toList[i]? = some o → ∀ S : Nat → Prop, Closed ops.toList S → (∀ e ∈ o.after, bnd e = true → S e.on) → ∀ j, j < i → ¬ S j → miss i j := fun i o hi ho S hS he j hj hns => by
  obtain ⟨m, h1, _⟩ := hsf i o hi ho
  refine ⟨m, h1, ?_, hj⟩
  cases hb : m.testBit j with
  | false => rfl
  | true =>
   rcases (masks_spec hS ops.toList [] (fun m _ => by simp) (fun i j m h => by simp at h) (fun i j m o h => by simp at h)).2 i j m o h1 ho hb he with h | h
   ·omega
   ·exact (hns h).elim
 have hmiss : ∀ (i : Nat) o, n ≤ i → ops.toList[i]? = some o → ∀ j oj, miss i j → ops.toList[j]? = some oj → j < n ∧ lateOp oj = true ∧ ∃ ts, stTmps o.op = some ts ∧ ∃ d tj, oj.dst = some d ∧ opTmps oj.op = some tj ∧ d ∉ ts ++ guardTmps ops.toList o.guard ∧ o.dst ≠ some d ∧ ∀ t ∈ tj, o.dst ≠ some t := fun i o hi ho j oj ⟨m, h1, h2, h3⟩ hoj => by
  obtain ⟨m', g1, g2, g3, ts, g4, g5⟩ := hsf i o hi ho
  rw [h1] at g1; cases g1
  have hjn : j < n := by
   apply Classical.byContradiction
   intro hge
   rw [g3 j (by omega) h3] at h2; cases h2
  obtain ⟨q1, d, tj, q2⟩ := lateRow_spec _ _ g5 j oj (pre hjn hoj) (by rw [Nat.zero_add]; exact h2)
  exact ⟨hjn, q1, ts, g4, d, tj, q2⟩
 have hlatemiss : ∀ j, (∃ i, n ≤ i ∧ i < ops.size ∧ miss i j) → ∀ oj, ops.toList[j]? = some oj → lateOp oj = true ∧ (∃ d, oj.dst = some d) ∧ ∃ m ∈ (masks [] ops.toList).drop n, m.testBit (0 + j) = false := fun j ⟨i, h1, h2, h3⟩ oj hoj => by
  have ho : ops.toList[i]? = some (ops.toList[i]'(by simpa using h2)) := List.getElem?_eq_getElem _
  obtain ⟨_, q1, ts, _, d, tj, q2, _⟩ := hmiss i _ h1 ho j oj h3 hoj
  obtain ⟨m, g1, g2, _⟩ := h3
  exact ⟨q1, ⟨d, q2⟩, m, List.mem_of_getElem? (i := i - n) (by rw [List.getElem?_drop, show n + (i - n) = i by omega]; exact g1), by rw [Nat.zero_add]; exact g2⟩
 refine wp_region_any hm (adraw_al hL (fun j => ∃ i, n ≤ i ∧ i < ops.size ∧ miss i j) hdr halS ht hnle (fun i o hi ho S hS he j hj hnl => ?_) (fun fuel listed a' w' A' g1 gc gge g2 gcl h1 h2 hI => ?_) ops.size (Array.replicate ops.size false) a w.drew A (by simp) ?_ ?_ ?_ hw' ?_ ⟨fun _ => 0, fun i o T d hi ho _ _ hl => absurd hl (by rw [rep_false]; exact Bool.false_ne_true), fun i j o o' T T' hi hj _ _ _ _ hl _ => absurd hl (by rw [rep_false]; exact Bool.false_ne_true)⟩)
 ·apply Classical.byContradiction
  intro hns
  exact hnl ⟨i, hi, by simpa using (List.getElem?_eq_some_iff.1 ho).1, hwait i o hi ho S hS he j (by omega) hns⟩
 ·obtain ⟨az, h3, h4⟩ : ∃ az, FR w' A' s.os hd (puts (fun j => listed.getD j false || decide (j < n)) 0 (ops.toList.take n) xs s.fr) az ∧ Agree (Unl ops.toList n listed) a' az := by
   have key : ∀ k, k ≤ n → ∃ az, FR w' A' s.os hd (puts (fun j => listed.getD j false || decide (j < k)) 0 (ops.toList.take n) xs s.fr) az ∧ Agree (Unl ops.toList n listed) a' az := by
    intro k
    induction k with
    | zero => intro _; exact ⟨a', by simpa using h2, rfl, rfl, fun _ _ => rfl⟩
    | succ k ih =>
     intro hkn
     obtain ⟨az, q1, q2⟩ := ih (by omega)
     have hks : k < ops.toList.length := by simp; omega
     obtain ⟨o, ho⟩ : ∃ o, ops.toList[k]? = some o := ⟨_, List.getElem?_eq_getElem hks⟩
     by_cases hl : listed.getD k false = true
     ·refine ⟨az, ?_, q2⟩
      rwa [show (fun j => listed.getD j false || decide (j < k + 1)) = fun j => listed.getD j false || decide (j < k) from funext fun j => by
       by_cases e : j = k
       ·subst e; rw [hl]; rfl
       ·rw [show decide (j < k + 1) = decide (j < k) from decide_eq_decide.2 (by omega)]]
     ·have hlf : listed.getD k false = false := by simpa using hl
      obtain ⟨r1, ⟨d, r2⟩, r3⟩ := hlatemiss k (g2 k (by omega) hlf) o ho
      obtain ⟨x, hx, hd1⟩ := hdoes k o (pre (by omega) ho)
      have hg : o.guard = none := by
       unfold lateOp at r1
       split at r1
       ·assumption
       ·cases r1
      have hd2 : aval (stdE np P) L ⟨puts (fun j => decide (j < 0 + k)) 0 (ops.toList.take n) xs s.fr, s.os⟩ o.op (· = x) := by
       unfold Does at hd1
       rw [hg] at hd1
       simp only at hd1
       rwa [aread_of_late r1] at hd1
      have hokk := hopok k o (pre (by omega) ho)
      rw [Nat.zero_add] at hokk
      obtain ⟨ts, hts, _⟩ := hokk.reads
      have same : ∀ t, t ∈ ts ++ guardTmps (ops.toList.take n) o.guard → _ := fun t ht => look_same (xs := xs) (fr := s.fr) hokk (lst := fun j => listed.getD j false || decide (j < k)) (fun e he hb => by simp [hokk.edges e he hb]) hts ht
      obtain ⟨y, v, k1, k2, k3⟩ := aval_sound (s := ⟨puts (fun j => decide (j < 0 + k)) 0 (ops.toList.take n) xs s.fr, s.os⟩) (a := az) (dst := o.dst) (ty := o.type) (pos := o.pos) (af := o.after) (g := o.guard) hL h1 (fun y hy => by
       have g := FR.get (s := ⟨puts (fun j => listed.getD j false || decide (j < k)) 0 (ops.toList.take n) xs s.fr, s.os⟩) q1 y
       cases y with
       | tmp t =>
        have := same t (List.mem_append_left _ (opTmps_spec hts hy))
        simp only [AS.get, List.getD_eq_getElem?_getD] at g ⊢
        rw [← this]; exact g
       | _ => exact g) hd2
      subst k1
      refine ⟨az.put o.dst v, ?_, by rw [put_defs]; exact q2.defs, by rw [put_size]; exact q2.size, fun t ht => ?_⟩
      ·have f2 := FR.put (s := ⟨puts (fun j => listed.getD j false || decide (j < k)) 0 (ops.toList.take n) xs s.fr, s.os⟩) q1 k2 o.dst
       have e : (AS.put ⟨puts (fun j => listed.getD j false || decide (j < k)) 0 (ops.toList.take n) xs s.fr, s.os⟩ o.dst y).fr = puts (fun j => listed.getD j false || decide (j < k + 1)) 0 (ops.toList.take n) xs s.fr := by
        refine List.ext_getElem? fun t => ?_
        rw [r2]
        simp only [AS.put]
        by_cases e : d = t
        ·subst e
         rw [List.getElem?_set_self']
         rcases Nat.lt_or_ge d s.fr.length with hlt | hge
         ·rw [List.getElem?_eq_getElem (by rw [puts_len]; exact hlt)]
          exact (puts_hit (lst := fun j => listed.getD j false || decide (j < k + 1)) (ops.toList.take n) 0 xs s.fr k o (pre (by omega) ho) r2 hx (by simp) (fun m' o' g1 g2 => huniq m' k o' o d g1 (pre (by omega) ho) g2 r2) hlt).symm
         ·rw [List.getElem?_eq_none (by rw [puts_len]; exact hge), List.getElem?_eq_none (by rw [puts_len]; exact hge)]
          rfl
        ·rw [List.getElem?_set_ne e]
         exact puts_agree _ _ _ _ _ (fun m o' ho' hd' => by
          rw [Nat.zero_add]
          have hne : m ≠ k := fun e2 => by
           subst e2
           rw [pre (by omega) ho] at ho'; cases ho'
           rw [r2] at hd'; cases hd'; exact e rfl
          rw [show decide (m < k + 1) = decide (m < k) from decide_eq_decide.2 (by omega)]) rfl
       rw [← e]; simpa [AS.put_os] using f2
      ·rw [put_getD, if_neg (fun h => ht ⟨k, o, by omega, hlf, ho, h.1⟩)]
       exact q2.tmps t ht
   exact key n (Nat.le_refl _)
  have e : puts (fun j => listed.getD j false || decide (j < n)) 0 (ops.toList.take n) xs s.fr = sf.fr := by
   rw [hfr]
   refine List.ext_getElem? fun t => puts_agree _ _ _ _ _ (fun m o ho _ => ?_) rfl
   have : m < n := by have := (List.getElem?_eq_some_iff.1 ho).1; simp at this; omega
   simp [this]
  rw [e] at h3
  have hln : ∀ (i : Nat) o T, i < n → ops.toList[i]? = some o → o.op = .alloc T → listed.getD i false = true := fun i o T hi ho hop => by
   cases hli : listed.getD i false with
   | true => rfl
   | false =>
    have := (hlatemiss i (g2 i hi hli) o ho).1
    unfold lateOp at this
    rw [hop] at this
    split at this <;> cases this
  obtain ⟨hd2, F2, hcw2, hfr2⟩ := alsS_sound hL (alSl (ops.toList.take n)) sf hd F (by rw [hos]; exact h1) (by rw [hos]; exact h3) (fun d => match az.tmps.getD d undef with
   | .pointer (some p) => p.block
   | _ => 0) (fun q hq => by
    obtain ⟨i, o, q1, q2, q3⟩ := alSl_mem hq
    have hin : i < n := by have := (List.getElem?_eq_some_iff.1 q1).1; simp at this; omega
    have ho : ops.toList[i]? = some o := by rwa [List.getElem?_take, if_pos hin] at q1
    obtain ⟨B, i1, i2⟩ := hI
    obtain ⟨r1, r2, r3, r4, r5, r6⟩ := i1 i o q.2 q.1 hin ho q2 q3 (hln i o q.2 hin ho q2)
    have hnu : ¬ Unl ops.toList n listed q.1 := fun ⟨j, oj, u1, u2, u3, u4⟩ => by
     have := huniq j i oj o q.1 (pre u1 u3) q1 u4 q3
     subst this
     rw [hln j o q.2 hin ho q2] at u2; cases u2
    rw [h4.tmps _ hnu] at r1
    rw [r1]
    exact ⟨rfl, r2, r3, r4, r5, r6⟩) (alSl_pair _ fun i j o o' T T' d d' hij q1 q2 q3 q4 q5 q6 => by
    have hjn : j < n := by have := (List.getElem?_eq_some_iff.1 q2).1; simp at this; omega
    have hin : i < n := by omega
    have ho : ops.toList[i]? = some o := by rwa [List.getElem?_take, if_pos hin] at q1
    have ho' : ops.toList[j]? = some o' := by rwa [List.getElem?_take, if_pos hjn] at q2
    obtain ⟨B, i1, i2⟩ := hI
    have nu : ∀ (k : Nat) ok T d, k < n → ops.toList[k]? = some ok → ok.op = .alloc T → ok.dst = some d → ¬ Unl ops.toList n listed d := fun k ok T d hk hok hop hdk ⟨j, oj, u1, u2, u3, u4⟩ => by
     have := huniq j k oj ok d (pre u1 u3) (pre hk hok) u4 hdk
     subst this
     rw [hln j ok T hk hok hop] at u2; cases u2
    obtain ⟨r1, _⟩ := i1 i o T d hin ho q3 q5 (hln i o T hin ho q3)
    obtain ⟨r1', _⟩ := i1 j o' T' d' hjn ho' q4 q6 (hln j o' T' hjn ho' q4)
    rw [h4.tmps _ (nu i o T d hin ho q3 q5)] at r1
    rw [h4.tmps _ (nu j o' T' d' hjn ho' q4 q6)] at r1'
    simp only [r1, r1']
    intro he
    have := i2 i j o o' T T' hin hjn ho ho' q3 q4 (hln i o T hin ho q3) (hln j o' T' hjn ho' q4) he
    omega)
  have hos2 : ∀ id ∈ lateIds sf ((masks [] ops.toList).drop n) 0 (ops.toList.take n), (alsS L (alSl (ops.toList.take n)) sf).os[id]? = sf.os[id]? := fun id hid => alsS_os (ltIds_spec hli0 id hid)
  have hfr2' : ∀ t, (∀ (i : Nat) o T, (ops.toList.take n)[i]? = some o → o.op = .alloc T → o.dst ≠ some t) → (alsS L (alSl (ops.toList.take n)) sf).fr[t]? = sf.fr[t]? := fun t hn => alsS_fr fun q hq e => by
   obtain ⟨i, o, q1, q2, q3⟩ := alSl_mem hq
   exact hn i o q.2 q1 q2 (by rw [q3, e])
  refine alate_any hL (miss := miss) (fun j o hj ho => by have := hopok j o (pre hj ho); rwa [Nat.zero_add] at this) (fun i o hi ho => ⟨(hsf i o hi ho).elim fun m h => h.2.1, fun S hS he j hj hns => hwait i o hi ho S hS he j hj hns, ?_⟩) (fun i hi his hfi j hj ⟨m, h1, h2, _⟩ => by
   unfold missB at hfi
   rw [h1] at hfi
   simp only at hfi
   split at hfi
   ·rename_i hbt
    have := bitsFrom_spec n 0 hbt j (by omega) (by omega)
    rw [h2] at this; cases this
   ·cases hfi) hQ fuel n listed (alsS L (alSl (ops.toList.take n)) sf) a' az w' A' hd2 F2 (Nat.le_refl _) hnle g1 (fun j hj hjs => by rw [gge j hj hjs]; simp; omega) gc gcl hcw2 hfr2 h4 (fun j o hj hjl ho => ?_) (.inr hos2) hK
  ·obtain ⟨m, _, _, _, ts, g4, _⟩ := hsf i o hi ho
   refine ⟨ts, g4, fun j oj hmi hoj => ?_⟩
   obtain ⟨q1, _, ts', q2, d, tj, q3⟩ := hmiss i o hi ho j oj hmi hoj
   rw [g4] at q2; cases q2
   exact ⟨q1, d, tj, q3⟩
  ·obtain ⟨r1, ⟨d, r2⟩, r3⟩ := hlatemiss j (g2 j hj hjl) o ho
   obtain ⟨x, hx, hd1⟩ := hdoes j o (pre hj ho)
   have hg : o.guard = none := by
    unfold lateOp at r1
    split at r1
    ·assumption
    ·cases r1
   have hd2' : aval (stdE np P) L ⟨puts (fun q => decide (q < 0 + j)) 0 (ops.toList.take n) xs s.fr, s.os⟩ o.op (· = x) := by
    unfold Does at hd1
    rw [hg] at hd1
    simp only at hd1
    rwa [aread_of_late r1] at hd1
   have hokk := hopok j o (pre hj ho)
   rw [Nat.zero_add] at hokk
   obtain ⟨ts, hts, _⟩ := hokk.reads
   have hpp := latePure_spec _ _ hpu j o (pre hj ho) r3
   have hget : ∀ y ∈ o.op.operands, sf.get y = AS.get ⟨puts (fun q => decide (q < 0 + j)) 0 (ops.toList.take n) xs s.fr, s.os⟩ y := fun y hy => by
    cases y with
    | tmp t =>
     have := look_same (xs := xs) (fr := s.fr) hokk (lst := fun _ => true) (fun _ _ _ => rfl) hts (List.mem_append_left _ (opTmps_spec hts hy))
     simp only [AS.get, List.getD_eq_getElem?_getD]
     rw [hfr, this]
    | _ => rfl
   have hget2 : ∀ y ∈ o.op.operands, (alsS L (alSl (ops.toList.take n)) sf).get y = sf.get y := fun y hy => by
    cases y with
    | tmp t =>
     have := hfr2' t fun i oi T q1 q2 q3 => by
      obtain ⟨_, d', g2', g3⟩ := hals i oi T q1 q2
      rw [g2'] at q3; cases q3
      exact unread_spec g3 j o (pre hj ho) ts hts (List.mem_append_left _ (opTmps_spec hts hy))
     simp only [AS.get, List.getD_eq_getElem?_getD]
     rw [this]
    | _ => rfl
   have hval := aval_late r1 hget (hpp.to fun y hy => (hget y hy).symm) (fun id _ => by rw [hos]) hd2'
   refine ⟨r1, d, x, r2, fun z hz => ?_, aval_late r1 hget2 hpp hos2 hval, hpp.to hget2⟩
   rw [hfr2' d fun i oi T q1 q2 q3 => by
    have := huniq i j oi o d q1 (pre hj ho) q3 r2
    subst this
    rw [pre hj ho] at q1; cases q1
    unfold lateOp at r1
    rw [q2] at r1
    split at r1 <;> cases r1] at hz
   have hlt : d < s.fr.length := by
    have := (List.getElem?_eq_some_iff.1 hz).1
    rw [hfr, puts_len] at this; exact this
   rw [hfr, puts_hit (lst := fun _ => true) (ops.toList.take n) 0 xs s.fr j o (pre hj ho) r2 hx rfl (fun m' o' g1 g2 => huniq m' j o' o d g1 (pre hj ho) g2 r2) hlt] at hz
   cases hz; rfl
 ·exact Nat.le_trans (List.length_filter_le _ _) (by simp)
 ·intro j _ hj; simp [hj]
 ·intro i o ho hi
  exfalso
  have : i < ops.size := by simpa using (List.getElem?_eq_some_iff.1 ho).1
  simp [this] at hi
 ·have e : puts (fun j => (Array.replicate ops.size false).getD j false) 0 (ops.toList.take n) xs s.fr = s.fr := by
   have h0 : (fun j => (Array.replicate ops.size false).getD j false) = fun _ => false := by
    funext j
    by_cases h : j < ops.size <;> simp [h]
   rw [h0]
   have e2 : ∀ (l : List Oper) (i : Nat) (xs fr : List AV), puts (fun _ => false) i l xs fr = fr := by
    intro l
    induction l with
    | nil => intro i xs fr; simp [puts]
    | cons o l ih => intro i xs fr; cases xs with | nil => simp [puts] | cons x xs => simp [puts, put1, ih]
   exact e2 _ _ _ _
  rw [e]; exact hf'
/-! Every order is walked. -/
theorem edgesIn_iff {done : List Nat} : ∀ {l : List Edge}, edgesIn done l = true ↔ ∀ e ∈ l, bnd e = true → e.on ∈ done
 | [] => by simp [edgesIn]
 | e :: l => by
  unfold edgesIn
  have ih := edgesIn_iff (done := done) (l := l)
  cases hb : bnd e with
  | false => simp only [ih, List.mem_cons, forall_eq_or_imp, hb, Bool.false_eq_true, false_implies, true_and]
  | true =>
   simp only [List.mem_cons, forall_eq_or_imp, hb, true_implies]
   cases hm : memB e.on done with
   | true => simp only [ih]; exact ⟨fun h => ⟨(memB_iff _ _).1 hm, h⟩, fun h => h.2⟩
   | false => simp only [Bool.false_eq_true, false_iff]; exact fun h => by rw [(memB_iff _ _).2 h.1] at hm; cases hm
theorem readyL_iff {done : List Nat} : ∀ {l : List Oper} {n i : Nat}, i ∈ readyL done n l ↔ n ≤ i ∧ i ∉ done ∧ ∃ o, l[i - n]? = some o ∧ ∀ e ∈ o.after, bnd e = true → e.on ∈ done
 | [], n, i => by simp [readyL]
 | o :: l, n, i => by
  have ih := readyL_iff (done := done) (l := l) (n := n + 1) (i := i)
  have hcons : ∀ j, (o :: l)[j + 1]? = l[j]? := fun j => rfl
  have next : (n + 1 ≤ i ∧ i ∉ done ∧ ∃ o', l[i - (n + 1)]? = some o' ∧ ∀ e ∈ o'.after, bnd e = true → e.on ∈ done) ↔ (n + 1 ≤ i ∧ i ∉ done ∧ ∃ o', (o :: l)[i - n]? = some o' ∧ ∀ e ∈ o'.after, bnd e = true → e.on ∈ done) := by
   constructor
   ·rintro ⟨h1, h2, h3⟩; refine ⟨h1, h2, ?_⟩; rw [show i - n = (i - (n + 1)) + 1 by omega, hcons]; exact h3
   ·rintro ⟨h1, h2, h3⟩; refine ⟨h1, h2, ?_⟩; rw [show i - n = (i - (n + 1)) + 1 by omega, hcons] at h3; exact h3
  have hat : i = n → ((o :: l)[i - n]? = some o) := fun e => by rw [e, Nat.sub_self]; rfl
  unfold readyL
  split
  ·rename_i hm
   rw [ih, next]
   constructor
   ·rintro ⟨h1, h2⟩; exact ⟨by omega, h2⟩
   ·rintro ⟨h1, h2, h3⟩
    refine ⟨?_, h2, h3⟩
    rcases Nat.lt_or_ge n i with h | h
    ·exact h
    ·have : i = n := by omega
     subst this; exact absurd ((memB_iff _ _).1 hm) h2
  ·rename_i hm
   have hnd : n ∉ done := fun h => by rw [(memB_iff _ _).2 h] at hm; cases hm
   split
   ·rename_i he
    rw [List.mem_cons, ih, next]
    constructor
    ·rintro (rfl | ⟨h1, h2⟩)
     ·exact ⟨Nat.le_refl _, hnd, o, hat rfl, fun e h => edgesIn_iff.1 he e (Array.mem_toList_iff.2 h)⟩
     ·exact ⟨by omega, h2⟩
    ·rintro ⟨h1, h2, h3⟩
     rcases Nat.lt_or_ge n i with h | h
     ·exact .inr ⟨h, h2, h3⟩
     ·exact .inl (by omega)
   ·rename_i he
    rw [ih, next]
    constructor
    ·rintro ⟨h1, h2⟩; exact ⟨by omega, h2⟩
    ·rintro ⟨h1, h2, o', ho', h3⟩
     refine ⟨?_, h2, o', ho', h3⟩
     rcases Nat.lt_or_ge n i with h | h
     ·exact h
     ·exfalso
      have e : i = n := by omega
      rw [hat e] at ho'; cases ho'
      have := edgesIn_iff (done := done) (l := o.after.toList)
      rw [this.2 fun e h => h3 e (Array.mem_toList_iff.1 h)] at he; cases he
theorem eachP_all [St] {p : Nat → Prop} : ∀ {l : List Nat}, eachP (stdE np P) p l → ∀ i ∈ l, p i
 | [], _, i, hi => by cases hi
 | [j], h, i, hi => by
  rw [List.mem_singleton] at hi; subst hi; exact h
 | j :: k :: l, h, i, hi => by
  obtain ⟨h1, h2⟩ := h
  rcases List.mem_cons.1 hi with rfl | hi
  ·exact h1
  ·exact eachP_all h2 i hi
theorem aany_sound [St] (hL : L.ty = layOf P) {ops : Array Oper} {Q : Exit → Act → World → Prop} {K : AS → Prop} (hQ : ∀ s' a' w' A' hd' F', K s' → CW W w' A' s'.os hd' F' → FR w' A' s'.os hd' s'.fr a' → Q .normal a' w') :
  ∀ (fuel : Nat) (listed : Array Bool) (f : Nat) (done : List Nat) (s : AS) (a : Act) (w : World) (A : Nat → Prop) (hd : Nat → Value) (F : Nat → Nat → Prop), listed.size = ops.size → (∀ j, j < ops.size → listed.getD j false = decide (j ∈ done)) → (∀ j ∈ done, j < ops.size) →
   ((List.range ops.size).filter fun i => !listed.getD i true).length ≤ fuel → CW W w A s.os hd F → FR w A s.os hd s.fr a → aany (stdE np P) L ops.toList f done s K → wpAny P .any ops Q fuel listed a w := by
 have getD_tf : ∀ (listed : Array Bool) i, listed.size = ops.size → i < ops.size → listed.getD i true = listed.getD i false := fun listed i hs hi => by
  have : i < listed.size := by omega
  simp [Array.getD, this]
 have key : ∀ (listed : Array Bool) (done : List Nat), listed.size = ops.size → (∀ j, j < ops.size → listed.getD j false = decide (j ∈ done)) → (∀ j ∈ done, j < ops.size) → ∀ i, i ∈ Region.ready .any ops listed ↔ i ∈ readyL done 0 ops.toList := fun listed done hs hl hdn i => by
  rw [mem_ready, readyL_iff]
  constructor
  ·rintro ⟨h1, o, h2, h3⟩
   have hi := (Array.getElem?_eq_some_iff.1 h2).1
   rw [getD_tf listed i hs hi, hl i hi] at h1
   refine ⟨Nat.zero_le _, by simpa using h1, o, by rw [Nat.sub_zero, Array.getElem?_toList]; exact h2, fun e he hb => ?_⟩
   have h4 := h3 e he (by rw [bnd_spec]; exact hb)
   by_cases hlt : e.on < ops.size
   ·rw [hl _ hlt] at h4; simpa using h4
   ·have : ¬ e.on < listed.size := by omega
    simp [Array.getD, this] at h4
  ·rintro ⟨_, h1, o, h2, h3⟩
   rw [Nat.sub_zero, Array.getElem?_toList] at h2
   have hi := (Array.getElem?_eq_some_iff.1 h2).1
   refine ⟨by rw [getD_tf listed i hs hi, hl i hi]; simpa using h1, o, h2, fun e he hb => ?_⟩
   have h4 := h3 e he (by rw [← bnd_spec]; exact hb)
   rw [hl _ (hdn _ h4)]; simpa using h4
 intro fuel
 induction fuel with
 | zero =>
  intro listed f done s a w A hd F hs hl hdn hc hw hf hk
  have hnil : ((List.range ops.size).filter fun i => !listed.getD i true) = [] := List.length_eq_zero_iff.1 (Nat.le_zero.1 hc)
  have h0 : Region.ready .any ops listed = [] := List.eq_nil_iff_forall_not_mem.2 fun i hi => by
   obtain ⟨h1, o, h2, _⟩ := mem_ready.1 hi
   have := List.filter_eq_nil_iff.1 hnil i (List.mem_range.2 (Array.getElem?_eq_some_iff.1 h2).1)
   rw [h1] at this; simp at this
  have h1 : readyL done 0 ops.toList = [] := List.eq_nil_iff_forall_not_mem.2 fun i hi => by
   have := (key listed done hs hl hdn i).2 hi
   rw [h0] at this; cases this
  cases f with
  | zero => exact hk.elim
  | succ f =>
   unfold aany at hk
   rw [h1] at hk
   exact ⟨h0, hQ s a w A hd F hk hw hf⟩
 | succ fuel ih =>
  intro listed f done s a w A hd F hs hl hdn hc hw hf hk
  cases f with
  | zero => exact hk.elim
  | succ f =>
   unfold aany at hk
   split at hk
   ·rename_i h1
    have h0 : Region.ready .any ops listed = [] := List.eq_nil_iff_forall_not_mem.2 fun i hi => by
     have := (key listed done hs hl hdn i).1 hi
     rw [h1] at this; cases this
    exact ⟨fun _ => hQ s a w A hd F hk hw hf, fun i hi => by rw [h0] at hi; cases hi⟩
   ·rename_i i0 is h1
    rw [← h1] at hk
    refine ⟨fun h0 => ?_, fun i hi => ?_⟩
    ·exfalso
     have := (key listed done hs hl hdn i0).2 (by rw [h1]; exact List.mem_cons_self ..)
     rw [h0] at this; cases this
    ·have hk := eachP_all hk i ((key listed done hs hl hdn i).1 hi)
     obtain ⟨g1, o, h2, h3⟩ := mem_ready.1 hi
     have hi' : i < ops.size := (Array.getElem?_eq_some_iff.1 h2).1
     have h2l : ops.toList[i]? = some o := by rw [Array.getElem?_toList]; exact h2
     have hnext : ∀ s' a' w' A' hd' F', CW W w' A' s'.os hd' F' → FR w' A' s'.os hd' s'.fr a' → aany (stdE np P) L ops.toList f (i :: done) s' K → wpAny P .any ops Q fuel (listed.setIfInBounds i true) a' w' := fun s' a' w' A' hd' F' q1 q2 q3 => by
      refine ih _ f (i :: done) s' a' w' A' hd' F' (by simpa using hs) (fun j hj => ?_) (fun j hj => ?_) ?_ q1 q2 q3
      ·by_cases hji : j = i
       ·subst hji
        have : j < listed.size := by omega
        simp [this]
       ·rw [getD_set_ne false (Ne.symm hji), hl j hj]
        exact decide_eq_decide.2 (by simp [hji])
      ·rcases List.mem_cons.1 hj with rfl | hj
       ·exact hi'
       ·exact hdn j hj
      ·have hsub : ((List.range ops.size).filter fun j => !(listed.setIfInBounds i true).getD j true) = ((List.range ops.size).filter fun j => !listed.getD j true).filter fun j => decide (j ≠ i) := by
        rw [List.filter_filter]
        refine List.filter_congr fun j hj => ?_
        by_cases e : j = i
        ·subst e
         have : j < listed.size := by omega
         simp [this]
        ·rw [getD_set_ne true (Ne.symm e)]; simp [e]
       have hlt : (((List.range ops.size).filter fun j => !listed.getD j true).filter fun j => decide (j ≠ i)).length < ((List.range ops.size).filter fun j => !listed.getD j true).length :=
        List.length_filter_lt_length_iff_exists.2 ⟨i, List.mem_filter.2 ⟨List.mem_range.2 hi', by simp [g1]⟩, by simp⟩
       rw [hsub]
       omega
     have hstep : (astep (stdE np P) L s o fun v s' => aany (stdE np P) L ops.toList f (i :: done) (s'.put o.dst v) K) → o.wp P a w (wpAny P .any ops Q fuel (listed.setIfInBounds i true)) Q := fun h =>
      astep_sound hL hw hf h _ Q fun x s' v w' A' hd' F' hk' hfr' hw' hf' hx => by
       rw [← hfr'] at hf'
       exact hnext _ _ w' A' hd' F' (by rw [AS.put_os]; exact hw') (hf'.put hx o.dst) hk'
     have hskip : aany (stdE np P) L ops.toList f (i :: done) (s.put o.dst .und) K → wpAny P .any ops Q fuel (listed.setIfInBounds i true) (a.put o.dst undef) w := fun h =>
      hnext _ _ w A hd F (by rw [AS.put_os]; exact hw) (hf.put .und o.dst) h
     unfold wpOp
     simp only [h2]
     unfold astepI at hk
     rw [h2l] at hk
     simp only at hk
     split at hk
     ·rename_i hg
      rw [if_pos (by simp [Region.wanted, hg])]
      exact .inl (hstep hk)
     ·rename_i j want hg
      split at hk
      ·exact hk.elim
      ·rename_i hy
       have := yield_sound hf hy
       rw [if_neg (by simp [Region.wanted, hg, this])]
       exact hskip hk
      ·rename_i b hy
       have := yield_sound hf hy
       split at hk
       ·rename_i e
        subst e
        rw [if_pos (by simp [Region.wanted, hg, this])]
        exact .inl (hstep hk)
       ·rename_i e
        rw [if_neg (by simp [Region.wanted, hg, this, e])]
        exact hskip hk
theorem aany_region [St] (hL : L.ty = layOf P) (hm : P.follows .mixedOrders = true) {id : Nat} {ops : Array Oper} {Q : Exit → Act → World → Prop} {K : AS → Prop} {n : Nat} (hQ : ∀ s' a' w' A' hd' F', K s' → CW W w' A' s'.os hd' F' → FR w' A' s'.os hd' s'.fr a' → Q .normal a' w')
  (hw : CW W w A s.os hd F) (hf : FR w A s.os hd s.fr a) (hk : aany (stdE np P) L ops.toList n [] s K) : (Code.region id ops true).wp P Q a w := by
 have hkp := Keeps.drew w
 have hw' := hw.keep hkp
 have hf' : FR w.drew A s.os hd s.fr a := hf.to fun y u hy => hy.keep (fun b hb => (hw.hA b hb).1) hkp
 refine wp_region_any hm (aany_sound hL hQ ops.size _ n [] s a w.drew A hd F (by simp) (fun j hj => ?_) (fun j hj => by cases hj) ?_ hw' hf' hk)
 ·rw [rep_false]; simp
 ·exact Nat.le_trans (List.length_filter_le _ _) (by simp)
end
end Go.Proofs.YtlemeenicaidfaaGreatDoor

/- Soundness of control. -/
namespace Go.Proofs.YtlemeenicaidfaaGreatDoor
set_option linter.unusedVariables false
set_option linter.unusedSimpArgs false
open Go Go.RowKit

section
variable {P : Program} {np : Nat} {L : Lay} {W : WM} {w w' : World} {A : Nat → Prop} {os os' : List Obj} {hd hd' : Nat → Value} {F F' : Nat → Nat → Prop} {s : AS} {a : Act}

def XE.ex : XE → Exit
 | .normal => .normal
 | .exit id => .exit id
 | .ret => .ret

theorem idxOf_spec : ∀ {ids : List Nat} {i j : Nat}, idxOf ids i = some j → ids[j]? = some i
 | [], i, j, h => by simp [idxOf] at h
 | k :: l, i, j, h => by
  unfold idxOf at h
  split at h
  ·rename_i e; cases h; subst e; rfl
  ·cases hl : idxOf l i with
   | none => simp [hl] at h
   | some m => simp [hl] at h; subst h; simpa using idxOf_spec hl

theorem wk_obj {ids : List Nat} {os : List Obj} {id j : Nat} (hj : ids[j]? = some id) {o : Obj} (ho : (ids.map fun i => (os.getD i .dead).ren ids)[j]? = some o) : o = (os.getD id .dead).ren ids := by
 rw [List.getElem?_map, hj] at ho
 exact (Option.some.inj ho).symm
theorem wk_row {ids : List Nat} {os : List Obj} {id j : Nat} (hj : ids[j]? = some id) {k es} (ho : (ids.map fun i => (os.getD i .dead).ren ids)[j]? = some (.row k es)) : os[id]? = some (.row k es) := by
 have h := wk_obj hj ho
 rw [List.getD_eq_getElem?_getD] at h
 cases hq : os[id]? with
 | none => rw [hq] at h; cases h
 | some q => rw [hq] at h; cases q <;> simp [Obj.ren] at h; obtain ⟨rfl, rfl⟩ := h; rfl
theorem wk_box {ids : List Nat} {os : List Obj} {id j : Nat} (hj : ids[j]? = some id) {cs} (ho : (ids.map fun i => (os.getD i .dead).ren ids)[j]? = some (.box cs)) : ∃ ds, os[id]? = some (.box ds) ∧ cs = ds.map (AV.ren1 ids) := by
 have h := wk_obj hj ho
 rw [List.getD_eq_getElem?_getD] at h
 cases hq : os[id]? with
 | none => rw [hq] at h; cases h
 | some q => rw [hq] at h; cases q <;> simp [Obj.ren] at h; exact ⟨_, rfl, h⟩

theorem wk_iter {ids : List Nat} {os : List Obj} {id j : Nat} (hj : ids[j]? = some id) {s p} (ho : (ids.map fun i => (os.getD i .dead).ren ids)[j]? = some (.iter s p)) : os[id]? = some (.iter s p) := by
 have h := wk_obj hj ho
 rw [List.getD_eq_getElem?_getD] at h
 cases hq : os[id]? with
 | none => rw [hq] at h; cases h
 | some q => rw [hq] at h; cases q <;> simp [Obj.ren] at h; obtain ⟨rfl, rfl⟩ := h; rfl
theorem idx_lt {ids : List Nat} {j i : Nat} (h : ids[j]? = some i) : j < ids.length := (List.getElem?_eq_some_iff.1 h).1

theorem ren1_rel {ids : List Nat} {x v} (h : SRel w A os hd x v) : SRel w A (ids.map fun i => (os.getD i .dead).ren ids) (fun j => hd (ids.getD j 0)) (x.ren1 ids) v := by
 have hh : ∀ {j i : Nat}, ids[j]? = some i → hd (ids.getD j 0) = hd i := fun h => by rw [List.getD_eq_getElem?_getD, h]; rfl
 have any : ∀ v, SRel w A (ids.map fun i => (os.getD i .dead).ren ids) (fun j => hd (ids.getD j 0)) .any v := fun v => .pure _ _ (.any v)
 cases h with
 | pure _ _ h =>
  cases h with
  | fn f caps vs hn hc =>
   cases caps with
   | nil => exact .pure _ _ (.fn f [] vs hn hc)
   | cons => exact any _
  | agg => exact any _
  | tup => exact any _
  | int k n => exact .pure _ _ (.int k n)
  | bool b => exact .pure _ _ (.bool b)
  | str s h => exact .pure _ _ (.str s h)
  | nils => exact .pure _ _ .nils
  | nilp => exact .pure _ _ .nilp
  | sl t k es p cap b off val hl hcap hp hk hc h1 hr => exact .pure _ _ (.sl t k es p cap b off val hl hcap hp hk hc h1 hr)
  | pp cs b off val hb hc hr => exact .pure _ _ (.pp cs b off val hb hc hr)
  | bx cs b off val hb hc hr => exact .pure _ _ (.bx cs b off val hb hc hr)
  | fb f cs vs hn hc => exact .pure _ _ (.fb f cs vs hn hc)
  | und => exact .pure _ _ .und
  | any v => exact any _
  | hd x v h1 h => exact .pure _ _ (.hd x v h1 h)
 | ob id v hi h =>
  simp only [AV.ren1]
  split
  ·rename_i j hj
   have h1 := idxOf_spec hj
   exact .ob j _ (by rw [List.length_map]; exact idx_lt h1) fun k es ho => by rw [hh h1]; exact h k es (wk_row h1 ho)
  ·exact any _
 | vs id lo hi v hi' h =>
  simp only [AV.ren1]
  split
  ·rename_i j hj
   have h1 := idxOf_spec hj
   refine .vs j lo hi _ (by rw [List.length_map]; exact idx_lt h1) fun k es ho => ?_
   rw [hh h1]; exact h k es (wk_row h1 ho)
  ·exact any _
 | pb id off v hi h =>
  simp only [AV.ren1]
  split
  ·rename_i j hj
   have h1 := idxOf_spec hj
   refine .pb j off _ (by rw [List.length_map]; exact idx_lt h1) fun cs ho => ?_
   obtain ⟨ds, e, _⟩ := wk_box h1 ho
   rw [hh h1]; exact h ds e
  ·exact any _
 | pe id i m v hi h =>
  simp only [AV.ren1]
  split
  ·rename_i j hj
   have h1 := idxOf_spec hj
   refine .pe j i m _ (by rw [List.length_map]; exact idx_lt h1) fun k es ho => ?_
   rw [hh h1]; exact h k es (wk_row h1 ho)
  ·exact any _
 | it id v hi h =>
  simp only [AV.ren1]
  split
  ·rename_i j hj
   have h1 := idxOf_spec hj
   exact .it j _ (by rw [List.length_map]; exact idx_lt h1) fun s p ho => by rw [hh h1]; exact h s p (wk_iter h1 ho)
  ·exact any _
 | agg => exact any _
 | tup => exact any _
 | fn f caps vs hn hc =>
  cases caps with
  | nil => exact .fn f [] vs hn (by simp)
  | cons => exact any _

theorem ren_rel {ids : List Nat} {x v} (h : SRel w A os hd x v) : SRel w A (ids.map fun i => (os.getD i .dead).ren ids) (fun j => hd (ids.getD j 0)) (x.ren ids) v := by
 have mp : ∀ {cs : List AV} {vs : Array Value}, (∀ (i : Nat) a, cs[i]? = some a → SRel w A os hd a (vs.getD i undef)) → ∀ (i : Nat) a, (cs.map (AV.ren1 ids))[i]? = some a → SRel w A (ids.map fun i => (os.getD i .dead).ren ids) (fun j => hd (ids.getD j 0)) a (vs.getD i undef) := fun {cs vs} hc i a ha => by
  rw [List.getElem?_map] at ha
  cases hq : cs[i]? with
  | none => rw [hq] at ha; cases ha
  | some q => rw [hq] at ha; cases ha; exact ren1_rel (hc i q hq)
 cases x with
 | agg cs => obtain ⟨vs, e1, e2, e3⟩ := h.agg_inv; subst e1; exact SRel.agg (w := w) (cs.map (AV.ren1 ids)) vs (by rw [e2, List.length_map]) (mp e3)
 | fn f cs => obtain ⟨vs, e1, e2, e3⟩ := h.fn_inv; subst e1; exact SRel.fn (w := w) f (cs.map (AV.ren1 ids)) vs (by rw [e2, List.length_map]) (mp e3)
 | _ => exact ren1_rel h

theorem wkF_spec (hv ids : List Nat) : ∀ (fr : List AV) (t : Nat), (wkF hv ids t fr).length = fr.length ∧ ∀ (i : Nat) x, (wkF hv ids t fr)[i]? = some x → ∃ y, fr[i]? = some y ∧ (x = .any ∨ x = y.ren ids)
 | [], t => ⟨rfl, fun i x h => by simp [wkF] at h⟩
 | y :: l, t => by
  obtain ⟨h1, h2⟩ := wkF_spec hv ids l (t + 1)
  refine ⟨by simp [wkF, h1], fun i x h => ?_⟩
  cases i with
  | zero =>
   simp only [wkF, List.getElem?_cons_zero, Option.some.injEq] at h
   refine ⟨y, rfl, ?_⟩
   split at h
   ·exact .inl h.symm
   ·exact .inr h.symm
  | succ i => simp only [wkF, List.getElem?_cons_succ] at h ⊢; exact h2 i x h

/-- A weaker state. -/
theorem wk_sound [St] (hw : CW W w A s.os hd F) (hf : FR w A s.os hd s.fr a) (hv ids : List Nat) (hids : ids.Nodup) (hpin : pinB np ids = true) (hnp : ∀ p ∈ W.pin, p.1 < np) : ∃ hd' F', CW W w A (wk hv ids s).os hd' F' ∧ FR w A (wk hv ids s).os hd' (wk hv ids s).fr a := by
 refine ⟨fun j => hd (ids.getD j 0), fun j x => ∃ i, ids[j]? = some i ∧ F i x, ⟨hw.below, fun x hx => ⟨(hw.hA x hx).1, fun id ⟨i, _, h⟩ => (hw.hA x hx).2 i h⟩, fun id x ⟨i, _, h⟩ => hw.fsz i x h, fun i j x ⟨p, hp, h1⟩ ⟨q, hq, h2⟩ => ?_, fun id k es ho => ?_, fun id cs ho => ?_, fun id s' p' ho => ?_, fun p hp => ?_, hw.old⟩, hf.nodef, ?_, fun t x hx => ?_⟩
 ·have := hw.disj p q x h1 h2
  subst this
  exact (List.getElem?_inj (idx_lt hp) hids).1 (hp.trans hq.symm)
 ·have hl : id < ids.length := by
   have := (List.getElem?_eq_some_iff.1 ho).1
   simpa [wk] using this
  have h1 : ids[id]? = some ids[id] := List.getElem?_eq_getElem hl
  have h2 := hw.rows _ k es (wk_row h1 ho)
  have e0 : ids.getD id 0 = ids[id] := by rw [List.getD_eq_getElem?_getD, h1]; rfl
  show XRel w A _ (hd (ids.getD id 0)) _
  rw [e0]
  exact h2.congr fun x => ⟨fun ⟨i, e, h⟩ => by rw [h1] at e; cases e; exact h, fun h => ⟨_, h1, h⟩⟩
 ·have hl : id < ids.length := by
   have := (List.getElem?_eq_some_iff.1 ho).1
   simpa [wk] using this
  have h1 : ids[id]? = some ids[id] := List.getElem?_eq_getElem hl
  obtain ⟨ds, e1, e2⟩ := wk_box h1 ho
  obtain ⟨b, T, c, g1, g2, g3, g4, g5⟩ := hw.boxes _ ds e1
  have e0 : ids.getD id 0 = ids[id] := by rw [List.getD_eq_getElem?_getD, h1]; rfl
  refine ⟨b, T, c, (congrArg hd e0).trans g1, g2, by rw [g3, e2, List.length_map], fun i x hx => ?_, _, h1, g5⟩
  rw [e2, List.getElem?_map] at hx
  cases hq : ds[i]? with
  | none => rw [hq] at hx; cases hx
  | some q => rw [hq] at hx; cases hx; exact ren1_rel (g4 i q hq)
 ·have hl : id < ids.length := by
   have := (List.getElem?_eq_some_iff.1 ho).1
   simpa [wk] using this
  have h1 : ids[id]? = some ids[id] := List.getElem?_eq_getElem hl
  obtain ⟨b, g1, g2, g3⟩ := hw.iters _ s' p' (wk_iter h1 ho)
  have e0 : ids.getD id 0 = ids[id] := by rw [List.getD_eq_getElem?_getD, h1]; rfl
  exact ⟨b, (congrArg hd e0).trans g1, g2, _, h1, g3⟩
 ·have h0 : ids.take np = List.range np := by simpa [pinB] using hpin
  have h1 := hnp p hp
  have h2 : ids[p.1]? = some p.1 := by
   have h3 : (ids.take np)[p.1]? = some p.1 := by rw [h0, List.getElem?_range h1]
   rwa [List.getElem?_take, if_pos h1] at h3
  refine ⟨by have := (List.getElem?_eq_some_iff.1 h2).1; simpa [wk] using this, ?_⟩
  have e0 : ids.getD p.1 0 = p.1 := by rw [List.getD_eq_getElem?_getD, h2]; rfl
  exact (congrArg hd e0).trans (hw.pin p hp).2
 ·rw [hf.size]; exact (wkF_spec hv ids s.fr 0).1.symm
 ·obtain ⟨y, h1, h2⟩ := (wkF_spec hv ids s.fr 0).2 t x hx
  rcases h2 with rfl | rfl
  ·exact .pure _ _ (.any _)
  ·exact ren_rel (hf.slots t y h1)

theorem firstChg_le : ∀ (l : List Oper) (n : Nat), firstChg L n l ≤ n + l.length
 | [], n => by simp [firstChg]
 | o :: l, n => by
  unfold firstChg
  split
  ·simp
  ·have := firstChg_le l (n + 1)
   simp only [List.length_cons]; omega

theorem firstChgA_le : ∀ (l : List Oper) (n : Nat), firstChgA L n l ≤ n + l.length
 | [], n => by simp [firstChgA]
 | o :: l, n => by
  unfold firstChgA
  split
  ·simp
  ·have := firstChgA_le l (n + 1)
   simp only [List.length_cons]; omega

theorem nestAt_le : ∀ (l : List Oper) (n m : Nat), nestAt n l = some m → m ≤ n + l.length
 | [], n, m, h => by simp [nestAt] at h
 | o :: l, n, m, h => by
  unfold nestAt at h
  simp only [List.length_cons]
  split at h
  ·split at h
   ·cases h; omega
   ·have := nestAt_le l (n + 1) m h; omega
  ·have := nestAt_le l (n + 1) m h; omega
theorem nestCut_le {l : List Oper} {m : Nat} (h : nestCut l = some m) : m ≤ l.length := by
 unfold nestCut at h
 split at h
 ·cases h
 ·rename_i n hn
  split at h
  ·cases h; have := nestAt_le l 0 _ hn; omega
  ·cases h

theorem ax_sound [St] (hL : L.ty = layOf P) (hm : P.follows .mixedOrders = true) (hnp : ∀ p ∈ W.pin, p.1 < np) : ∀ (c : Code) (s : AS) (K : XE → AS → Prop) (a : Act) (w : World) (A : Nat → Prop) (hd : Nat → Value) (F : Nat → Nat → Prop) (Q : Exit → Act → World → Prop),
  (∀ e s' a' w' A' hd' F', K e s' → CW W w' A' s'.os hd' F' → FR w' A' s'.os hd' s'.fr a' → Q e.ex a' w') → CW W w A s.os hd F → FR w A s.os hd s.fr a → ax (stdE np P) L c s K → c.wp P Q a w
 | .skip, s, K, a, w, A, hd, F, Q, hQ, hw, hf, hk => wp_skip (hQ .normal s a w A hd F hk hw hf)
 | .region id ops draw, s, K, a, w, A, hd, F, Q, hQ, hw, hf, hk => by
  cases draw with
  | false =>
   simp only [ax] at hk
   split at hk
   ·exact wp_region_list (aops_sound hL (fun s' a' w' A' hd' F' h1 h2 h3 => hQ .normal s' a' w' A' hd' F' h1 h2 h3) ops.toList s a w A hd F hw hf hk)
   ·have := agrps_sound hL (fun s' a' w' A' hd' F' h1 h2 h3 => hQ .normal s' a' w' A' hd' F' h1 h2 h3) (groups L ops.toList.length ops.toList) s a w A hd F hw hf hk
    rw [groups_spec] at this
    exact wp_region_list this
  | true =>
   simp only [ax, axN, axD] at hk
   split at hk
   ·exact aany_region hL hm (fun s' a' w' A' hd' F' h1 h2 h3 => hQ .normal s' a' w' A' hd' F' h1 h2 h3) hw hf hk
   split at hk
   ·rename_i n0 hn0
    unfold axLate at hk
    split at hk
    ·rename_i hok
     exact alate_sound hL hm hok (by simpa using nestCut_le hn0) (fun s' a' w' A' hd' F' h1 h2 h3 => hQ .normal s' a' w' A' hd' F' h1 h2 h3) hw hf hk
    ·exact hk.elim
   simp only [axD0] at hk
   split at hk
   ·split at hk
    ·rename_i hok
     replace hok := drawOK2_spec hok
     split at hk
     ·exact adraw_sound hL hm hok (fun s' a' w' A' hd' F' h1 h2 h3 => hQ .normal s' a' w' A' hd' F' h1 h2 h3) hw hf hk
     ·rename_i hsl
      exact adraw_ownS hL hm hok hsl (fun s' a' w' A' hd' F' h1 h2 h3 => hQ .normal s' a' w' A' hd' F' h1 h2 h3) hw hf hk
    ·exact hk.elim
   ·split at hk
    ·unfold axLate at hk
     split at hk
     ·rename_i hok
      exact alate_sound hL hm hok (by simpa using firstChg_le (L := L) ops.toList 0) (fun s' a' w' A' hd' F' h1 h2 h3 => hQ .normal s' a' w' A' hd' F' h1 h2 h3) hw hf hk
     ·exact hk.elim
    ·unfold axLateA at hk
     split at hk
     ·rename_i hok hao
      exact alateA_sound hL hm hok hao (by simpa using firstChgA_le (L := L) ops.toList 0) (fun s' a' w' A' hd' F' h1 h2 h3 => hQ .normal s' a' w' A' hd' F' h1 h2 h3) hw hf hk
     ·exact hk.elim
 | .seq x y, s, K, a, w, A, hd, F, Q, hQ, hw, hf, hk => by
  refine wp_seq (ax_sound hL hm hnp x s _ a w A hd F _ (fun e s' a' w' A' hd' F' h1 h2 h3 => ?_) hw hf hk)
  cases e with
  | normal => exact ax_sound hL hm hnp y s' K a' w' A' hd' F' Q hQ h2 h3 h1
  | exit id => exact hQ (.exit id) s' a' w' A' hd' F' h1 h2 h3
  | ret => exact hQ .ret s' a' w' A' hd' F' h1 h2 h3
 | .cond c x y, s, K, a, w, A, hd, F, Q, hQ, hw, hf, hk => by
  unfold ax at hk
  split at hk
  ·rename_i b hb
   have h1 := hf.get c
   rw [hb] at h1
   refine wp_cond h1.bool_inv ?_
   split at hk
   ·rename_i e; rw [if_pos e]; exact ax_sound hL hm hnp x s K a w A hd F Q hQ hw hf hk
   ·rename_i e; rw [if_neg e]; exact ax_sound hL hm hnp y s K a w A hd F Q hQ hw hf hk
  ·exact hk.elim
 | .block id c, s, K, a, w, A, hd, F, Q, hQ, hw, hf, hk => by
  refine wp_block (ax_sound hL hm hnp c s _ a w A hd F _ (fun e s' a' w' A' hd' F' h1 h2 h3 => ?_) hw hf hk)
  cases e with
  | normal => exact hQ .normal s' a' w' A' hd' F' h1 h2 h3
  | exit i =>
   simp only [XE.ex, Exit.inBlock]
   simp only at h1
   split at h1
   ·rename_i e; rw [if_pos e]; exact hQ .normal s' a' w' A' hd' F' h1 h2 h3
   ·rename_i e; rw [if_neg e]; exact hQ (.exit i) s' a' w' A' hd' F' h1 h2 h3
  | ret => exact hQ .ret s' a' w' A' hd' F' h1 h2 h3
 | .loop c, s, K, a, w, A, hd, F, Q, hQ, hw, hf, hk => by
  obtain ⟨n, hn⟩ := hk
  refine wp_loop_rounds n ?_
  have main : ∀ n s a w A hd F, iterL np (ax (stdE np P) L c) n s K → CW W w A s.os hd F → FR w A s.os hd s.fr a → Code.rounds P c Q n a w := by
   intro n
   induction n with
   | zero => intro s a w A hd F h _ _; exact h.elim
   | succ n ih =>
    intro s a w A hd F ⟨hv, ids, ⟨hnd, hpi⟩, hb⟩ hw hf
    obtain ⟨hd', F', hw', hf'⟩ := wk_sound hw hf hv ids hnd hpi hnp
    rw [rounds_succ]
    refine ax_sound hL hm hnp c (wk hv ids s) _ a w A hd' F' _ (fun e s' a' w' A' hd' F' h1 h2 h3 => ?_) hw' hf' hb
    cases e with
    | normal => exact ih s' a' w' A' hd' F' h1 h2 h3
    | exit id => exact hQ (.exit id) s' a' w' A' hd' F' h1 h2 h3
    | ret => exact hQ .ret s' a' w' A' hd' F' h1 h2 h3
  exact main n s a w A hd F hn hw hf
 | .exit id, s, K, a, w, A, hd, F, Q, hQ, hw, hf, hk => wp_exit (hQ (.exit id) s a w A hd F hk hw hf)
 | .ret, s, K, a, w, A, hd, F, Q, hQ, hw, hf, hk => wp_ret (hQ .ret s a w A hd F hk hw hf)
 | .rangeFunc .., _, _, _, _, _, _, _, _, _, _, _, hk => hk.elim
 | .scope _, _, _, _, _, _, _, _, _, _, _, _, hk => hk.elim
 | .label _, _, _, _, _, _, _, _, _, _, _, _, hk => hk.elim
 | .goto _, _, _, _, _, _, _, _, _, _, _, _, hk => hk.elim
 | .refuse _, _, _, _, _, _, _, _, _, _, _, _, hk => hk.elim
end
end Go.Proofs.YtlemeenicaidfaaGreatDoor

/- Soundness of functions: a body that computes 'R x' meets its contract. -/
namespace Go.Proofs.YtlemeenicaidfaaGreatDoor
set_option linter.unusedVariables false
set_option linter.unusedSimpArgs false
open Go Go.RowKit

section
variable {P : Program} {np : Nat} {L : Lay} {W : WM} {w w' : World} {A : Nat → Prop} {os os' : List Obj} {hd hd' : Nat → Value} {F F' : Nat → Nat → Prop} {s : AS} {a : Act}

def Out [St] (W : WM) (w : World) (A : Nat → Prop) (s : AS) (hd : Nat → Value) (F : Nat → Nat → Prop) (v : Value) (K : AV → AS → Prop) : Prop :=
 Leave W w A s hd F fun s' F' => ∃ x' G, K x' s' ∧ XRel w A x' v G ∧ ∀ y, G y → (∃ id, F id y) ∧ ∀ id, ¬ F' id y

theorem out1_sound [St] (hw : CW W w A s.os hd F) {x v} {K : AV → AS → Prop} (hx : SRel w A s.os hd x v) (hk : s.out1 (stdE np P) x K) : Out W w A s hd F v K := by
 unfold AS.out1 at hk
 split at hk
 ·cases hx.nils_inv
  rcases hk with hk | ⟨k, hk⟩ | ⟨k, hk⟩
  ·exact ⟨s, F, rfl, rfl, hw, fun _ _ h => h, fun _ _ h => h, _, fun _ => False, hk, .pure _ _ _ .nils rfl (fun _ h => h), fun y h => h.elim⟩
  ·exact ⟨s, F, rfl, rfl, hw, fun _ _ h => h, fun _ _ h => h, _, fun _ => False, hk, .nil _ _ (fun _ h => h), fun y h => h.elim⟩
  ·exact ⟨s, F, rfl, rfl, hw, fun _ _ h => h, fun _ _ h => h, _, fun _ => False, hk, .pure _ _ _ (.sl false k [] none 0 0 0 (fun _ _ => undef) (by simp) (by simp) (by simp) (by simp) (by simp) (by simp) (by simp)) rfl (fun _ h => h), fun y h => h.elim⟩
 ·split at hk
  ·rename_i id lo hi _ k es ho
   split at hk
   ·rename_i h0
    subst h0
    obtain ⟨g1, g2, g3, hk⟩ := hk
    simp only [Option.getD_some] at g1 g2 g3 hk
    obtain ⟨e1, e2, e3, p, cap, e4, e5, e6, e7⟩ := hx.vs_inv ho
    obtain ⟨n, e7⟩ := e7 rfl
    have hr := hw.rows id k es ho
    rw [e7] at hr
    obtain ⟨G', hp, hG'⟩ := hr.pre (m := hi.toNat) (by omega)
    obtain ⟨hw', hm⟩ := hw.kill id
    refine ⟨⟨s.fr, s.os.set id .dead⟩, _, rfl, by simp, hw', hm, fun i y h => ?_, _, G', hk, ?_, fun y hy => ⟨⟨id, hG' y hy⟩, fun i h => ?_⟩⟩
    ·unfold updN at h
     split at h
     ·exact h.elim
     ·exact h
    ·rw [e4, show (hi - 0).toNat = hi.toNat by omega, Int.toNat_zero, List.drop_zero]; exact hp
    ·unfold updN at h
     split at h
     ·exact h
     ·rename_i hne
      exact hne (hw.disj _ _ _ h (hG' y hy))
   ·exact hk.elim
  ·exact hk.elim
 ·rename_i id off
  split at hk
  ·rename_i cs ho
   split at hk
   ·rename_i hp
    obtain ⟨b, T, c, e1, e2, e3, e4, e5⟩ := hw.boxes id cs ho
    obtain ⟨b', g1, g2⟩ := hx.pb_inv ho
    rw [e1] at g1
    cases g1
    subst g2
    obtain ⟨hw', hm⟩ := hw.kill id
    refine ⟨⟨s.fr, s.os.set id .dead⟩, _, rfl, by simp, hw', hm, fun i y h => ?_, _, (fun y => y = b), hk, .bx cs b T c _ e2 e3 (fun i x hx => ?_) (fun _ => Iff.rfl), fun y hy => ⟨⟨id, by rw [hy]; exact e5⟩, fun i h => ?_⟩⟩
    ·unfold updN at h
     split at h
     ·exact h.elim
     ·exact h
    ·have := e4 i x hx
     have hpx := allPure_get' hp hx
     cases x <;> first | exact this.pure_inv trivial | cases hpx
    ·subst hy
     unfold updN at h
     split at h
     ·exact h
     ·rename_i hne
      exact hne (hw.disj _ _ _ h e5)
   ·exact hk.elim
  ·exact hk.elim
 ·obtain ⟨s', F', e, l, h1, h2, h3, x', G, h4, h5, h6, _⟩ := own1_sound hw hx hk
  exact ⟨s', F', e, l, h1, h2, h3, x', G, h4, h5, h6⟩

theorem outL_sound [St] : ∀ (l : List AV) (vs : List Value) (s : AS) (F : Nat → Nat → Prop) (K : List AV → AS → Prop), CW W w A s.os hd F → vs.length = l.length →
  (∀ (i : Nat) x, l[i]? = some x → SRel w A s.os hd x (vs.getD i undef)) → s.outL (stdE np P) l K →
  Leave W w A s hd F fun s' F' => ∃ (l' : List AV) (G : Nat → Nat → Prop), K l' s' ∧ l'.length = vs.length ∧ (∀ (i : Nat) x, l'[i]? = some x → XRel w A x (vs.getD i undef) (G i)) ∧
   (∀ i y, i < vs.length → G i y → (∃ id, F id y) ∧ ∀ id, ¬ F' id y) ∧ (∀ i j y, i < vs.length → j < vs.length → G i y → G j y → i = j)
 | [], [], s, F, K, hw, _, _, hk => ⟨s, F, rfl, rfl, hw, fun _ _ h => h, fun _ _ h => h, [], fun _ _ => False, hk, rfl, fun i x hx => by simp at hx, fun i y hi => by simp at hi, fun i j y hi => by simp at hi⟩
 | [], _ :: _, _, _, _, _, hn, _, _ => by simp at hn
 | _ :: _, [], _, _, _, _, hn, _, _ => by simp at hn
 | x :: l, v :: vs, s, F, K, hw, hn, hc, hk => by
  unfold AS.outL at hk
  obtain ⟨s1, F1, e1, l1, hw1, hm1, hF1, x', G0, hk1, hx', hG0⟩ := out1_sound hw (by simpa using hc 0 x (by simp)) hk
  obtain ⟨s2, F2, e2, l2, hw2, hm2, hF2, l', G, hk2, hl2, hc2, hG, hdj⟩ := outL_sound l vs s1 F1 _ hw1 (by simpa using hn) (fun i y hy => hm1 _ _ (by simpa using hc (i + 1) y (by simpa using hy))) hk1
  refine ⟨s2, F2, e2.trans e1, l2.trans l1, hw2, fun y u h => hm2 y u (hm1 y u h), fun id y h => hF1 id y (hF2 id y h), x' :: l', fun i => match i with | 0 => G0 | i + 1 => G i, hk2, by simp [hl2], fun i y hy => ?_, fun i y hi hy => ?_, fun i j y hi hj h3 h4 => ?_⟩
  ·cases i with
   | zero => simp at hy; subst hy; simpa using hx'
   | succ i => simp at hy; simpa using hc2 i y hy
  ·cases i with
   | zero => exact ⟨(hG0 y hy).1, fun id h => (hG0 y hy).2 id (hF2 id y h)⟩
   | succ i =>
    obtain ⟨⟨id, h5⟩, h6⟩ := hG i y (by simpa using hi) hy
    exact ⟨⟨id, hF1 id y h5⟩, h6⟩
  ·cases i with
   | zero =>
    cases j with
    | zero => rfl
    | succ j =>
     obtain ⟨⟨id, h5⟩, _⟩ := hG j y (by simpa using hj) h4
     exact ((hG0 y h3).2 id h5).elim
   | succ i =>
    cases j with
    | zero =>
     obtain ⟨⟨id, h5⟩, _⟩ := hG i y (by simpa using hi) h3
     exact ((hG0 y h4).2 id h5).elim
    | succ j => rw [hdj i j y (by simpa using hi) (by simpa using hj) h3 h4]

theorem out_sound [St] (hw : CW W w A s.os hd F) {x v} {K : AV → AS → Prop} (hx : SRel w A s.os hd x v) (hk : s.out (stdE np P) x K) : Out W w A s hd F v K := by
 unfold AS.out at hk
 split at hk
 ·obtain ⟨vs, rfl, e2, e3⟩ := hx.agg_inv
  obtain ⟨s', F', e, l, h1, h2, h3, l', G, h4, h5, h6, h7, h8⟩ := outL_sound _ vs.toList s F _ hw (by simpa using e2) (fun i x hx => by rw [toList_getD]; exact e3 i x hx) hk
  refine ⟨s', F', e, l, h1, h2, h3, _, fun y => ∃ i, i < l'.length ∧ G i y, h4, .agg l' vs _ G (by simpa using h5.symm) (fun i x hx => by rw [← toList_getD]; exact h6 i x hx) (fun y => Iff.rfl) (fun i j y hi hj => h8 i j y (by rwa [← h5]) (by rwa [← h5])), fun y ⟨i, hi, hy⟩ => h7 i y (by rwa [← h5]) hy⟩
 ·exact out1_sound hw hx hk

def resVar (tmps : Array Value) : ResultVar → Sem Value
 | .tmp t => pure (tmps.getD t undef)
 | .cell a t => do loadVar t (← asAddr (tmps.getD a undef))

theorem FR.slot (hf : FR w A s.os hd s.fr a) (t : Nat) : SRel w A s.os hd (s.fr.getD t .any) (a.tmps.getD t undef) := by
 rw [List.getD_eq_getElem?_getD]
 cases h : s.fr[t]? with
 | none => exact .pure _ _ (.any _)
 | some x => exact hf.slots t x h

theorem aret_sound [St] (hL : L.ty = layOf P) : ∀ (rs : List ResultVar) (s : AS) (F : Nat → Nat → Prop) (K : List AV → Prop), CW W w A s.os hd F → FR w A s.os hd s.fr a → aret (stdE np P) L rs s K →
  ∃ (vs : List Value) (l : List AV) (G : Nat → Nat → Prop), K l ∧ (rs.mapM (resVar a.tmps)).run P w = .ok vs w ∧ l.length = vs.length ∧ (∀ (i : Nat) x, l[i]? = some x → XRel w A x (vs.getD i undef) (G i)) ∧
   (∀ i y, i < vs.length → G i y → ∃ id, F id y) ∧ (∀ i j y, i < vs.length → j < vs.length → G i y → G j y → i = j)
 | [], s, F, K, hw, hf, hk => ⟨[], [], fun _ _ => False, hk, rfl, rfl, fun i x hx => by simp at hx, fun i y hi => by simp at hi, fun i j y hi => by simp at hi⟩
 | r :: rs, s, F, K, hw, hf, hk => by
  have main : ∀ v x, SRel w A s.os hd x v → (resVar a.tmps r).run P w = .ok v w → (s.out (stdE np P) x fun x' s' => aret (stdE np P) L rs s' fun vs => K (x' :: vs)) → ∃ (vs : List Value) (l : List AV) (G : Nat → Nat → Prop), K l ∧ ((r :: rs).mapM (resVar a.tmps)).run P w = .ok vs w ∧ l.length = vs.length ∧ (∀ (i : Nat) x, l[i]? = some x → XRel w A x (vs.getD i undef) (G i)) ∧
   (∀ i y, i < vs.length → G i y → ∃ id, F id y) ∧ (∀ i j y, i < vs.length → j < vs.length → G i y → G j y → i = j) := fun v x hx hr hk => by
   obtain ⟨s1, F1, e1, l1, hw1, hm1, hF1, x', G0, hk1, hx', hG0⟩ := out_sound hw hx hk
   obtain ⟨vs, l', G, hk2, hr2, hl2, hc2, hG, hdj⟩ := aret_sound hL rs s1 F1 _ hw1 (by rw [e1]; exact hf.os_mono hm1) hk1
   refine ⟨v :: vs, x' :: l', fun i => match i with | 0 => G0 | i + 1 => G i, hk2, ?_, by simp [hl2], fun i y hy => ?_, fun i y hi hy => ?_, fun i j y hi hj h3 h4 => ?_⟩
   ·rw [List.mapM_cons, Sem.run_bind, hr]
    simp only [Result.andThen_ok]
    rw [Sem.run_bind, hr2]
    rfl
   ·cases i with
    | zero => simp at hy; subst hy; simpa using hx'
    | succ i => simp at hy; simpa using hc2 i y hy
   ·cases i with
    | zero => exact (hG0 y hy).1
    | succ i =>
     obtain ⟨id, h5⟩ := hG i y (by simpa using hi) hy
     exact ⟨id, hF1 id y h5⟩
   ·cases i with
    | zero =>
     cases j with
     | zero => rfl
     | succ j =>
      obtain ⟨id, h5⟩ := hG j y (by simpa using hj) h4
      exact ((hG0 y h3).2 id h5).elim
    | succ i =>
     cases j with
     | zero =>
      obtain ⟨id, h5⟩ := hG i y (by simpa using hi) h3
      exact ((hG0 y h4).2 id h5).elim
     | succ j => rw [hdj i j y (by simpa using hi) (by simpa using hj) h3 h4]
  cases r with
  | tmp t => exact main _ _ (hf.slot t) rfl hk
  | cell t ty =>
   unfold aret at hk
   split at hk
   ·rename_i id off hx
    split at hk
    ·rename_i cs ho
     have h1 := hf.slot t
     rw [hx] at h1
     obtain ⟨b, e1, e2⟩ := h1.pb_inv ho
     obtain ⟨b', _, _, g1, _, _, _, g2, _⟩ := box_pt hw ho
     rw [g1] at e1
     cases e1
     have g3 := g2.drop off
     rw [Nat.zero_add] at g3
     obtain ⟨x, v, h2, h3, h4⟩ := run_loadVar hL g3 hk
     refine main v x h3 ?_ h2
     show (asAddr (a.tmps.getD t undef) >>= loadVar ty).run P w = _
     rw [e2, Sem.run_bind]
     simpa [asAddr] using h4
    ·exact hk.elim
   ·exact hk.elim

theorem aretM_sound [St] (hL : L.ty = layOf P) : ∀ (rs : List ResultVar) (s : AS) (F : Nat → Nat → Prop) (K : List AV → AS → Prop), CW W w A s.os hd F → FR w A s.os hd s.fr a → aretM (stdE np P) L rs s K →
  ∃ (vs : List Value) (l : List AV) (G : Nat → Nat → Prop) (s' : AS) (F' : Nat → Nat → Prop), K l s' ∧ CW W w A s'.os hd F' ∧ (∀ id y, F' id y → F id y) ∧ (rs.mapM (resVar a.tmps)).run P w = .ok vs w ∧ l.length = vs.length ∧ (∀ (i : Nat) x, l[i]? = some x → XRel w A x (vs.getD i undef) (G i)) ∧
   (∀ i y, i < vs.length → G i y → (∃ id, F id y) ∧ ∀ id, ¬ F' id y) ∧ (∀ i j y, i < vs.length → j < vs.length → G i y → G j y → i = j)
 | [], s, F, K, hw, hf, hk => ⟨[], [], fun _ _ => False, s, F, hk, hw, fun _ _ h => h, rfl, rfl, fun i x hx => by simp at hx, fun i y hi => by simp at hi, fun i j y hi => by simp at hi⟩
 | r :: rs, s, F, K, hw, hf, hk => by
  have main : ∀ v x, SRel w A s.os hd x v → (resVar a.tmps r).run P w = .ok v w → (s.out (stdE np P) x fun x' s' => aretM (stdE np P) L rs s' fun vs => K (x' :: vs)) → ∃ (vs : List Value) (l : List AV) (G : Nat → Nat → Prop) (s' : AS) (F' : Nat → Nat → Prop), K l s' ∧ CW W w A s'.os hd F' ∧ (∀ id y, F' id y → F id y) ∧ ((r :: rs).mapM (resVar a.tmps)).run P w = .ok vs w ∧ l.length = vs.length ∧ (∀ (i : Nat) x, l[i]? = some x → XRel w A x (vs.getD i undef) (G i)) ∧
   (∀ i y, i < vs.length → G i y → (∃ id, F id y) ∧ ∀ id, ¬ F' id y) ∧ (∀ i j y, i < vs.length → j < vs.length → G i y → G j y → i = j) := fun v x hx hr hk => by
   obtain ⟨s1, F1, e1, l1, hw1, hm1, hF1, x', G0, hk1, hx', hG0⟩ := out_sound hw hx hk
   obtain ⟨vs, l', G, s2, F2, hk2, hw2, hF2, hr2, hl2, hc2, hG, hdj⟩ := aretM_sound hL rs s1 F1 _ hw1 (by rw [e1]; exact hf.os_mono hm1) hk1
   refine ⟨v :: vs, x' :: l', fun i => match i with | 0 => G0 | i + 1 => G i, s2, F2, hk2, hw2, fun id y h => hF1 id y (hF2 id y h), ?_, by simp [hl2], fun i y hy => ?_, fun i y hi hy => ?_, fun i j y hi hj h3 h4 => ?_⟩
   ·rw [List.mapM_cons, Sem.run_bind, hr]
    simp only [Result.andThen_ok]
    rw [Sem.run_bind, hr2]
    rfl
   ·cases i with
    | zero => simp at hy; subst hy; simpa using hx'
    | succ i => simp at hy; simpa using hc2 i y hy
   ·cases i with
    | zero => exact ⟨(hG0 y hy).1, fun id h => (hG0 y hy).2 id (hF2 id y h)⟩
    | succ i =>
     obtain ⟨⟨id, h5⟩, h6⟩ := hG i y (by simpa using hi) hy
     exact ⟨⟨id, hF1 id y h5⟩, h6⟩
   ·cases i with
    | zero =>
     cases j with
     | zero => rfl
     | succ j =>
      obtain ⟨⟨id, h5⟩, _⟩ := hG j y (by simpa using hj) h4
      exact ((hG0 y h3).2 id h5).elim
    | succ i =>
     cases j with
     | zero =>
      obtain ⟨⟨id, h5⟩, _⟩ := hG i y (by simpa using hi) h3
      exact ((hG0 y h4).2 id h5).elim
     | succ j => rw [hdj i j y (by simpa using hi) (by simpa using hj) h3 h4]
  cases r with
  | tmp t => exact main _ _ (hf.slot t) rfl hk
  | cell t ty =>
   unfold aretM at hk
   split at hk
   ·rename_i id off hx
    split at hk
    ·rename_i cs ho
     have h1 := hf.slot t
     rw [hx] at h1
     obtain ⟨b, e1, e2⟩ := h1.pb_inv ho
     obtain ⟨b', _, _, g1, _, _, _, g2, _⟩ := box_pt hw ho
     rw [g1] at e1
     cases e1
     have g3 := g2.drop off
     rw [Nat.zero_add] at g3
     obtain ⟨x, v, h2, h3, h4⟩ := run_loadVar hL g3 hk
     refine main v x h3 ?_ h2
     show (asAddr (a.tmps.getD t undef) >>= loadVar ty).run P w = _
     rw [e2, Sem.run_bind]
     simpa [asAddr] using h4
    ·exact hk.elim
   ·exact hk.elim

/-- No borrowed memory. -/
inductive NoB : AV → Prop
 | int (k n) : NoB (.int k n)
 | bool (b) : NoB (.bool b)
 | str (b) : NoB (.str b)
 | nils : NoB .nils
 | nilp : NoB .nilp
 | any : NoB .any
 | sl (k es) (h : ∀ (i j : Nat) e c, es[i]? = some e → e[j]? = some c → NoB c) : NoB (.sl true k es)
 | agg (cs) (h : ∀ (i : Nat) c, cs[i]? = some c → NoB c) : NoB (.agg cs)
 | tup (cs) (h : ∀ (i : Nat) c, cs[i]? = some c → NoB c) : NoB (.tup cs)

theorem XRel.noB {x v} {G : Nat → Prop} (h : XRel w A x v G) (hx : NoB x) : XRel w (fun _ => False) x v G := by
 induction h with
 | pure x v G h ho hG =>
  refine .pure _ _ _ ?_ ho hG
  cases hx with
  | int => cases h; exact .int _ _
  | bool => cases h; exact .bool _
  | str => cases h; exact .str _ ‹_›
  | nils => cases h; exact .nils
  | nilp => cases h; exact .nilp
  | any => exact .any _
  | sl => simp [AV.isOwn] at ho
  | agg => simp [AV.isOwn] at ho
  | tup => simp [AV.isOwn] at ho
 | nil k G hG => exact .nil k G hG
 | sl k es cap b T c F G hb hl hcap hsz hk h1 _ hF h0 hd ih =>
  cases hx with
  | sl _ _ h => exact .sl k es cap b T c F G hb hl hcap hsz hk h1 (fun i j e a he ha => ih i j e a he ha (h i j e a he ha)) hF h0 hd
 | bx => cases hx
 | agg cs vs F G hn _ hF hd ih =>
  cases hx with
  | agg _ h => exact .agg cs vs F G hn (fun i a ha => ih i a ha (h i a ha)) hF hd
 | tup cs vs F G hn _ hF hd ih =>
  cases hx with
  | tup _ h => exact .tup cs vs F G hn (fun i a ha => ih i a ha (h i a ha)) hF hd

def tupV (vs : List Value) : Value := match vs with
 | [v] => v
 | vs => .tuple vs.toArray
theorem enters_go {f : FuncId} {fn : Func} {c : Code} (hf : P.funcs[f]? = some fn) (hname : (fn.name == "runtime.NumGoroutine") = false) (hb : fn.body = some c) (args : Array Value) (w : World) :
  (callFunc f args).run P w = .ok (.enter f args) w := by
 have h1 : fn.name ≠ "runtime.NumGoroutine" := by simpa using hname
 simp [callFunc, hf, h1, hb]
theorem results_eq (fn : Func) (tmps : Array Value) : results fn tmps = (fn.results.toList.mapM (resVar tmps)) >>= fun vs => pure (tupV vs) := by
 unfold results
 rw [Array.mapM_eq_mapM_toList]
 simp only [bind_map_left]
 have e : (fun r : ResultVar => (match r with
  | .tmp t => pure (tmps.getD t undef)
  | .cell a t => do loadVar t (← asAddr (tmps.getD a undef)) : Sem Value)) = resVar tmps := by
  funext r; cases r <;> rfl
 show (fn.results.toList.mapM _ >>= _) = _
 refine congrArg (fn.results.toList.mapM (resVar tmps) >>= ·) ?_
 funext vs
 match vs with
 | [] => rfl
 | [v] => rfl
 | v :: u :: l => simp [tupV]

theorem atup_rel {vs : List Value} {l : List AV} {G : Nat → Nat → Prop} (hl : l.length = vs.length) (hc : ∀ (i : Nat) x, l[i]? = some x → XRel w A x (vs.getD i undef) (G i)) (hd : ∀ i j y, i < vs.length → j < vs.length → G i y → G j y → i = j) :
  XRel w A (atup l) (tupV vs) fun y => ∃ i, i < vs.length ∧ G i y := by
 have gen : XRel w A (.tup l) (.tuple vs.toArray) fun y => ∃ i, i < vs.length ∧ G i y :=
  .tup l vs.toArray _ G (by simp [hl]) (fun i x hx => by rw [← toList_getD]; simpa using hc i x hx) (fun y => by rw [hl]) (fun i j y hi hj => hd i j y (by rwa [← hl]) (by rwa [← hl]))
 match l, vs, hl with
 | [], [], _ => exact gen
 | [x], [v], _ => exact (hc 0 x rfl).congr fun y => ⟨fun ⟨i, hi, h⟩ => by simp at hi; subst hi; exact h, fun h => ⟨0, by simp, h⟩⟩
 | x :: y :: l, v :: u :: vs, _ => exact gen

theorem AC_of_ax [St] (hL : L.ty = layOf P) (hm : P.follows .mixedOrders = true) {f : FuncId} {fn : Func} {c : Code} (hf : P.funcs[f]? = some fn) (hname : (fn.name == "runtime.NumGoroutine") = false) (hb : fn.body = some c)
  {α : Type} {args : List AV} {R : α → AV} {x : α} (hn : NoB (R x)) (h : afun (stdE np P) L fn args fun r => r = R x) : AC P f args R x := by
 refine ⟨fun xs w => enters_go hf hname hb xs w, fun w vs hg ⟨hsz, hr⟩ => calls_of_wp hf hb ?_⟩
 unfold afun at h
 rw [hb] at h
 simp only at h
 refine ax_sound (W := ⟨w, fun _ => False, [], fun _ => True⟩) hL hm (fun p hp => by simp at hp) c _ _ _ w (fun b => b < w.heap.size) (fun _ => undef) (fun _ _ => False) _ (fun e s' a' w' A' hd' F' hK hw hfr => ?_) ⟨⟨rfl, rfl, rfl, Nat.le_refl _, fun _ _ _ => rfl, fun _ _ => rfl, DrawLe.refl _, hg, fun _ h => h.elim⟩, fun x hx => ⟨hx, fun _ h => h⟩, fun _ _ h => h.elim, fun _ _ _ h => h.elim, fun id k es ho => by simp at ho, fun id cs ho => by simp at ho, fun id s p ho => by simp at ho, fun p hp => by simp at hp, fun _ _ _ => trivial⟩ ⟨rfl, by simp [hsz], fun t x hx => ?_⟩ h
 ·have fin : aret (stdE np P) L fn.results.toList s' (fun vs => atup vs = R x) → a'.defers = [] ∧ ∃ v, (results fn a'.tmps).run P w' = .ok v w' ∧ ∃ u F, Ending.returned v = .returned u ∧ Keeps (fun _ => False) w w' ∧ XRel w' (fun _ => False) (R x) u F ∧ ∀ b, F b → w.heap.size ≤ b ∧ b < w'.heap.size := fun hk => by
   obtain ⟨vs, l, G, h1, h2, h3, h4, h5, h6⟩ := aret_sound hL _ s' F' _ hw hfr hk
   refine ⟨hfr.nodef, _, ?_, _, _, rfl, ⟨hw.below.os, hw.below.tape, hw.below.output, hw.below.size, fun x hx _ => hw.below.block x hx (fun h => h), hw.below.frz, hw.below.drawn⟩, (h1 ▸ atup_rel h3 h4 h6).noB hn, fun b ⟨i, hi, hb⟩ => ?_⟩
   ·rw [results_eq, Sem.run_bind, h2]; rfl
   ·obtain ⟨id, hid⟩ := h5 i b hi hb
    exact ⟨(hw.fsz id b hid).1.elim (fun h => h) (fun h => h.elim), (hw.fsz id b hid).2⟩
  cases e with
  | normal => exact fin hK
  | ret => exact fin hK
  | exit id => exact hK.elim
 ·rw [List.getElem?_append] at hx
  split at hx
  ·rename_i hlt
   have := hr t x hx
   refine .pure _ _ ?_
   have e : (vs ++ Array.replicate (fn.ntmps - vs.size) undef).getD t undef = vs.getD t undef := by
    have h1 : t < vs.size := by omega
    rw [← toList_getD, ← toList_getD, List.getD_eq_getElem?_getD, List.getD_eq_getElem?_getD, Array.toList_append, List.getElem?_append_left (by simpa using h1)]
   rw [e]; exact this
  ·rename_i hlt
   rw [List.getElem?_replicate] at hx
   split at hx
   ·cases hx
    refine .pure _ _ ?_
    have e : (vs ++ Array.replicate (fn.ntmps - vs.size) undef).getD t undef = undef := by
     have h1 : ¬ t < vs.size := by omega
     simp [Array.getD, Array.getElem_append, h1]
    rw [e]; exact .und
   ·cases hx

theorem getD_app_left (vs : Array Value) (n t : Nat) (h : t < vs.size) : (vs ++ Array.replicate n undef).getD t undef = vs.getD t undef := by
 rw [← toList_getD, ← toList_getD, List.getD_eq_getElem?_getD, List.getD_eq_getElem?_getD, Array.toList_append, List.getElem?_append_left (by simpa using h)]

theorem allRow_spec : ∀ {l : List Obj} {i : Nat}, allRow l = true → i < l.length → ∃ k es, l[i]? = some (.row k es)
 | [], i, _, h => by simp at h
 | o :: l, i, h, hi => by
  cases o <;> simp only [allRow] at h <;> first | cases h | skip
  cases i with
  | zero => exact ⟨_, _, rfl⟩
  | succ i => simpa using allRow_spec h (by simpa using hi)

theorem ACM_of_ax [St] (hL : L.ty = layOf P) (hm : P.follows .mixedOrders = true) {f : FuncId} {fn : Func} {c : Code} (hf : P.funcs[f]? = some fn) (hname : (fn.name == "runtime.NumGoroutine") = false) (hb : fn.body = some c)
  {args : List AV} {Qc : AV → List AV → Prop} (hnb : ∀ r ys, Qc r ys → NoB r ∧ ∀ y ∈ ys, NoB y) (h : afunM (stdE np P) L np fn args Qc) : ACM P f args Qc := by
 refine ⟨fun xs w => enters_go hf hname hb xs w, fun w A vs F hg hX hA hF hNG => calls_of_wp hf hb ?_⟩
 unfold afunM at h
 rw [hb] at h
 simp only at h
 cases hX with
 | pure _ _ _ h ho _ => simp [AV.isOwn] at ho
 | tup _ _ _ Gx hsz hc hFx hdx =>
  let W0 : WM := ⟨w, F, [], fun _ => True⟩
  have hw0 : CW W0 w A ([] : List Obj) (fun _ => undef) (fun _ _ => False) := ⟨⟨rfl, rfl, rfl, Nat.le_refl _, fun _ _ _ => rfl, fun _ _ => rfl, DrawLe.refl _, hg, hNG⟩, fun y hy => ⟨(hA y hy).1, fun _ h => h⟩, fun _ _ h => h.elim, fun _ _ _ h => h.elim, fun id k es ho => by simp at ho, fun id cs ho => by simp at ho, fun id s p ho => by simp at ho, fun p hp => by simp [W0] at hp, fun _ _ _ => trivial⟩
  obtain ⟨s0, hd0, F0, e1, hw1, _, hF0, args0, hk, hl0, hc0⟩ := enterL (step := fun s x K => s.in2 x K) (all := fun s l K => s.in2L l K) (W := W0) (w := w) (A := A) (fun s K h => h) (fun s x l K h => h) (fun s hd F x v G K h1 h2 h3 h4 => in2_sound h1 h2 h3 h4)
   args vs.toList Gx (AS.mk [] []) (fun _ => undef) (fun _ _ => False) _ hw0 (by simpa using hsz) (fun i x hx => by rw [toList_getD]; exact hc i x hx) (fun i y hi hy => by
    have := (hFx y).2 ⟨i, hi, hy⟩
    exact ⟨.inr this, hF y this, fun h => (hA y h).2 this, fun _ h => h⟩) hdx h
  split at hk
  ·rename_i hlen hrows hnod
   replace hlen : s0.os.length = np := by simpa using hlen
   have hwp : CW ⟨w, F, (List.range np).map fun i => (i, hd0 i), fun _ => True⟩ w A s0.os hd0 F0 := ⟨⟨hw1.below.os, hw1.below.tape, hw1.below.output, hw1.below.size, hw1.below.block, hw1.below.frz, hw1.below.drawn, hw1.below.glob⟩, hw1.hA, fun id x hx => hw1.fsz id x hx, hw1.disj, hw1.rows, hw1.boxes, hw1.iters, fun p hp => by
    obtain ⟨i, hi, rfl⟩ := List.mem_map.1 hp
    exact ⟨by simpa [hlen] using List.mem_range.1 hi, rfl⟩, fun _ _ _ => trivial⟩
   have hsz0 : args0.length = vs.size := by simpa using hl0
   refine ax_sound hL hm (fun p hp => by
    obtain ⟨i, hi, rfl⟩ := List.mem_map.1 hp
    exact List.mem_range.1 hi) c ⟨args0 ++ List.replicate (fn.ntmps - args.length) .und, s0.os⟩ _ _ w A hd0 F0 _ (fun e s' a' w' A' hd' F' hK hw hfr => ?_) hwp ⟨rfl, by simp [hsz0, hsz], fun t y hy => ?_⟩ hk
   ·have fin : (aretM (stdE np P) L fn.results.toList s' fun us s'' => Qc (atup us) (args0.map s''.fin)) → a'.defers = [] ∧ ∃ v, (results fn a'.tmps).run P w' = .ok v w' ∧ ∃ u G r args', Qc r args' ∧ Ending.returned v = .returned u ∧ Keeps F w w' ∧ XRel w' (fun _ => False) (.tup (r :: args')) (.tuple (#[u] ++ vs)) G ∧ ∀ b, G b → F b ∨ w.heap.size ≤ b ∧ b < w'.heap.size := fun hk => by
     obtain ⟨us, l, G, s'', F'', hq, hw2, hF2, h2, h3, h4, h5, h6⟩ := aretM_sound hL _ s' F' _ hw hfr hk
     have hold : ∀ b, (∃ id, F' id b) → F b ∨ w.heap.size ≤ b ∧ b < w'.heap.size := fun b ⟨id, hid⟩ => by
      obtain ⟨g1, g2⟩ := hw.fsz id b hid
      rcases g1 with g1 | g1
      ·exact .inr ⟨g1, g2⟩
      ·exact .inl g1
     obtain ⟨hn, hn'⟩ := hnb _ _ hq
     have R0 : XRel w' (fun _ => False) (atup l) (tupV us) fun b => ∃ i, i < us.length ∧ G i b := (atup_rel h3 h4 h6).noB hn
     let Gi : Nat → Nat → Prop := fun i b => match i with
      | 0 => ∃ i, i < us.length ∧ G i b
      | i + 1 => ∃ id k es, args0[i]? = some (.ob id) ∧ s''.os[id]? = some (.row k es) ∧ F'' id b
     refine ⟨hfr.nodef, tupV us, ?_, tupV us, fun b => ∃ i, i < (atup l :: args0.map s''.fin).length ∧ Gi i b, _, _, hq, rfl, ⟨hw.below.os, hw.below.tape, hw.below.output, hw.below.size, fun b hb hnF => hw.below.block b hb hnF, hw.below.frz, hw.below.drawn⟩, .tup _ _ _ Gi ?_ (fun i y hy => ?_) (fun b => Iff.rfl) (fun i j b hi hj hbi hbj => ?_), fun b ⟨i, hi, hb⟩ => ?_⟩
     ·rw [results_eq, Sem.run_bind, h2]; rfl
     ·simp [hsz0]; omega
     ·cases i with
      | zero =>
       simp at hy; subst hy
       have e : (#[tupV us] ++ vs).getD 0 undef = tupV us := by rw [← toList_getD]; simp
       rw [e]; exact R0
      | succ i =>
       have e : (#[tupV us] ++ vs).getD (i + 1) undef = vs.getD i undef := by rw [← toList_getD, ← toList_getD]; simp [List.getD_eq_getElem?_getD]
       rw [e]
       have hy' : (args0.map s''.fin)[i]? = some y := by simpa using hy
       have hno := hn' y (List.mem_of_getElem? hy')
       rw [List.getElem?_map] at hy'
       cases h7 : args0[i]? with
       | none => rw [h7] at hy'; cases hy'
       | some z =>
        rw [h7] at hy'
        cases hy'
        have hdead : s''.fin z = .any → XRel w' (fun _ => False) (s''.fin z) (vs.getD i undef) (Gi (i + 1)) ∨ ∃ id k es, z = .ob id ∧ s''.os[id]? = some (.row k es) := fun he => by
         by_cases hex : ∃ id k es, z = .ob id ∧ s''.os[id]? = some (.row k es)
         ·exact .inr hex
         ·refine .inl ?_
          rw [he]
          exact .pure _ _ _ (.any _) rfl (fun b ⟨id, k, es, g1, g2, _⟩ => hex ⟨id, k, es, by rw [h7] at g1; exact Option.some.inj g1, g2⟩)
        by_cases hex : ∃ id k es, z = .ob id ∧ s''.os[id]? = some (.row k es)
        ·obtain ⟨id, k, es, rfl, ho⟩ := hex
         have hfin : s''.fin (.ob id) = .sl true k es := by simp [AS.fin, ho]
         rw [hfin] at hno ⊢
         have hid : id < s0.os.length := by
          have := hc0 i _ h7
          cases this with
          | pure _ _ h => cases h
          | ob _ _ hi _ => exact hi
         have hpin := hw2.pin (id, hd0 id) (List.mem_map.2 ⟨id, List.mem_range.2 (by omega), rfl⟩)
         have hval : vs.getD i undef = hd0 id := by
          have g1 := hc0 i _ h7
          rw [toList_getD] at g1
          obtain ⟨k0, es0, ho0⟩ := allRow_spec hrows hid
          exact g1.ob_inv ho0
         have hp2 : hd' id = hd0 id := hpin.2
         rw [hval, ← hp2]
         refine ((hw2.rows id k es ho).noB hno).congr fun b => ⟨fun ⟨id', k', es', g1, g2, g3⟩ => by rw [h7] at g1; cases g1; exact g3, fun g => ⟨id, k, es, h7, ho, g⟩⟩
        ·have hany : s''.fin z = .any := by
          unfold AS.fin
          split
          ·split
           ·rename_i id _ k es ho; exact (hex ⟨_, _, _, rfl, ho⟩).elim
           ·rfl
          ·rfl
         rcases hdead hany with g | g
         ·exact g
         ·exact (hex g).elim
     ·cases i with
      | zero =>
       cases j with
       | zero => rfl
       | succ j =>
        obtain ⟨i, hi, hb⟩ := hbi
        obtain ⟨id, k, es, _, _, g⟩ := hbj
        exact ((h5 i b hi hb).2 id g).elim
      | succ i =>
       cases j with
       | zero =>
        obtain ⟨j, hj, hb⟩ := hbj
        obtain ⟨id, k, es, _, _, g⟩ := hbi
        exact ((h5 j b hj hb).2 id g).elim
       | succ j =>
        obtain ⟨id, k, es, g1, _, g⟩ := hbi
        obtain ⟨id', k', es', g1', _, g'⟩ := hbj
        have := hw2.disj _ _ _ g g'
        subst this
        rw [idsL_inj (nodupB_spec hnod) g1 g1']
     ·cases i with
      | zero =>
       obtain ⟨i, hi, hb⟩ := hb
       exact hold b (h5 i b hi hb).1
      | succ i =>
       obtain ⟨id, k, es, _, _, g⟩ := hb
       exact hold b ⟨id, hF2 id b g⟩
    cases e with
    | normal => exact fin hK
    | ret => exact fin hK
    | exit id => exact hK.elim
   ·rw [List.getElem?_append] at hy
    split at hy
    ·rename_i hlt
     rw [getD_app_left _ _ _ (by omega), ← toList_getD]
     exact hc0 t y hy
    ·rename_i hlt
     rw [List.getElem?_replicate] at hy
     split at hy
     ·cases hy
      refine .pure _ _ ?_
      have e : (vs ++ Array.replicate (fn.ntmps - vs.size) undef).getD t undef = undef := by
       have h1 : ¬ t < vs.size := by omega
       simp [Array.getD, Array.getElem_append, h1]
      rw [e]; exact .und
     ·cases hy
  ·exact hk.elim
theorem okArgs_spec : ∀ {l : List AV} {i : Nat} {x : AV}, s.okArgs l = true → l[i]? = some x → (∀ id, x = .ob id → ∃ k es, s.os[id]? = some (.row k es)) ∧ ∀ id off, x = .pb id off → ∃ cs, s.os[id]? = some (.box cs)
 | [], i, x, _, h => by simp at h
 | y :: l, i, x, h, hi => by
  have rest : s.okArgs l = true := by
   unfold AS.okArgs at h
   split at h
   ·rename_i e; cases e
   ·rename_i e; cases e
    split at h
    ·exact h
    ·cases h
   ·rename_i e; cases e
    split at h
    ·exact h
    ·cases h
   ·rename_i e; cases e; exact h
  cases i with
  | succ i => exact okArgs_spec rest (by simpa using hi)
  | zero =>
   simp at hi; subst hi
   refine ⟨fun id e => ?_, fun id off e => ?_⟩
   ·subst e
    simp only [AS.okArgs] at h
    split at h
    ·exact ⟨_, _, ‹_›⟩
    ·cases h
   ·subst e
    simp only [AS.okArgs] at h
    split at h
    ·exact ⟨_, ‹_›⟩
    ·cases h
theorem finS_cases (s : AS) (z : AV) : s.finS z = .any ∨ (∃ id k es, z = .ob id ∧ s.os[id]? = some (.row k es) ∧ s.finS z = .sl true k es) ∨ ∃ id cs, z = .pb id 0 ∧ s.os[id]? = some (.box cs) ∧ AV.allPure cs = true ∧ s.finS z = .bx cs := by
 unfold AS.finS
 split
 ·split
  ·exact .inr (.inl ⟨_, _, _, rfl, ‹_›, rfl⟩)
  ·exact .inl rfl
 ·split
  ·split
   ·exact .inr (.inr ⟨_, _, rfl, ‹_›, ‹_›, rfl⟩)
   ·exact .inl rfl
  ·exact .inl rfl
 ·exact .inl rfl

theorem ACS_of_ax [St] (hL : L.ty = layOf P) (hm : P.follows .mixedOrders = true) {f : FuncId} {fn : Func} {c : Code} (hf : P.funcs[f]? = some fn) (hname : (fn.name == "runtime.NumGoroutine") = false) (hb : fn.body = some c)
  {args : List AV} {Qc : AV → List AV → Prop} (h : afunS (stdE np P) L np fn args Qc) : ACS P f args Qc := by
 refine ⟨fun xs w => enters_go hf hname hb xs w, fun w A vs F hg hX hA hF hNG => calls_of_wp hf hb ?_⟩
 unfold afunS at h
 rw [hb] at h
 simp only at h
 cases hX with
 | pure _ _ _ h ho _ => simp [AV.isOwn] at ho
 | tup _ _ _ Gx hsz hc hFx hdx =>
  let W0 : WM := ⟨w, F, [], A⟩
  have hw0 : CW W0 w A ([] : List Obj) (fun _ => undef) (fun _ _ => False) := ⟨⟨rfl, rfl, rfl, Nat.le_refl _, fun _ _ _ => rfl, fun _ _ => rfl, DrawLe.refl _, hg, hNG⟩, fun y hy => ⟨(hA y hy).1, fun _ h => h⟩, fun _ _ h => h.elim, fun _ _ _ h => h.elim, fun id k es ho => by simp at ho, fun id cs ho => by simp at ho, fun id s p ho => by simp at ho, fun p hp => by simp [W0] at hp, fun _ h _ => h⟩
  obtain ⟨s0, hd0, F0, e1, hw1, _, hF0, args0, hk, hl0, hc0⟩ := enterL (step := fun s x K => s.in2 x K) (all := fun s l K => s.in2L l K) (W := W0) (w := w) (A := A) (fun s K h => h) (fun s x l K h => h) (fun s hd F x v G K h1 h2 h3 h4 => in2_sound h1 h2 h3 h4)
   args vs.toList Gx (AS.mk [] []) (fun _ => undef) (fun _ _ => False) _ hw0 (by simpa using hsz) (fun i x hx => by rw [toList_getD]; exact hc i x hx) (fun i y hi hy => by
    have := (hFx y).2 ⟨i, hi, hy⟩
    exact ⟨.inr this, hF y this, fun h => (hA y h).2 this, fun _ h => h⟩) hdx h
  split at hk
  ·rename_i hlen hrows hnod
   replace hlen : s0.os.length = np := by simpa using hlen
   have hwp : CW ⟨w, F, (List.range np).map fun i => (i, hd0 i), A⟩ w A s0.os hd0 F0 := ⟨⟨hw1.below.os, hw1.below.tape, hw1.below.output, hw1.below.size, hw1.below.block, hw1.below.frz, hw1.below.drawn, hw1.below.glob⟩, hw1.hA, fun id x hx => hw1.fsz id x hx, hw1.disj, hw1.rows, hw1.boxes, hw1.iters, fun p hp => by
    obtain ⟨i, hi, rfl⟩ := List.mem_map.1 hp
    exact ⟨by simpa [hlen] using List.mem_range.1 hi, rfl⟩, fun _ h _ => h⟩
   have hsz0 : args0.length = vs.size := by simpa using hl0
   refine ax_sound hL hm (fun p hp => by
    obtain ⟨i, hi, rfl⟩ := List.mem_map.1 hp
    exact List.mem_range.1 hi) c ⟨args0 ++ List.replicate (fn.ntmps - args.length) .und, s0.os⟩ _ _ w A hd0 F0 _ (fun e s' a' w' A' hd' F' hK hw hfr => ?_) hwp ⟨rfl, by simp [hsz0, hsz], fun t y hy => ?_⟩ hk
   ·have fin : (aretM (stdE np P) L fn.results.toList s' fun us s'' => Qc (atup us) (args0.map s''.finS)) → a'.defers = [] ∧ ∃ v, (results fn a'.tmps).run P w' = .ok v w' ∧ ∃ u G A1 r args', Qc r args' ∧ Ending.returned v = .returned u ∧ Keeps F w w' ∧ XRel w' A1 (.tup (r :: args')) (.tuple (#[u] ++ vs)) G ∧ (∀ b, G b → F b ∨ w.heap.size ≤ b ∧ b < w'.heap.size) ∧ ∀ b, A1 b → b < w'.heap.size ∧ ¬ G b ∧ (A b ∨ w.heap.size ≤ b) := fun hk => by
     obtain ⟨us, l, G, s'', F'', hq, hw2, hF2, h2, h3, h4, h5, h6⟩ := aretM_sound hL _ s' F' _ hw hfr hk
     have hold : ∀ b, (∃ id, F' id b) → F b ∨ w.heap.size ≤ b ∧ b < w'.heap.size := fun b ⟨id, hid⟩ => by
      obtain ⟨g1, g2⟩ := hw.fsz id b hid
      rcases g1 with g1 | g1
      ·exact .inr ⟨g1, g2⟩
      ·exact .inl g1
     have R0 : XRel w' A' (atup l) (tupV us) fun b => ∃ i, i < us.length ∧ G i b := atup_rel h3 h4 h6
     let Gi : Nat → Nat → Prop := fun i b => match i with
      | 0 => ∃ i, i < us.length ∧ G i b
      | i + 1 => ∃ id z, args0[i]? = some z ∧ id ∈ idsOfS z ∧ s''.finS z ≠ .any ∧ LF s''.os hd' F'' id b
     have hinF : ∀ i b, i < (atup l :: args0.map s''.finS).length → Gi i b → ∃ id, F' id b := fun i b hi hb => by
      cases i with
      | zero => obtain ⟨i, hi, hb⟩ := hb; exact (h5 i b hi hb).1
      | succ i => obtain ⟨id, z, _, _, _, g⟩ := hb; exact ⟨id, hF2 id b g.1⟩
     refine ⟨hfr.nodef, tupV us, ?_, tupV us, fun b => ∃ i, i < (atup l :: args0.map s''.finS).length ∧ Gi i b, A', _, _, hq, rfl, ⟨hw.below.os, hw.below.tape, hw.below.output, hw.below.size, fun b hb hnF => hw.below.block b hb hnF, hw.below.frz, hw.below.drawn⟩, .tup _ _ _ Gi ?_ (fun i y hy => ?_) (fun b => Iff.rfl) (fun i j b hi hj hbi hbj => ?_), fun b ⟨i, hi, hb⟩ => hold b (hinF i b hi hb), fun b hb => ⟨(hw.hA b hb).1, fun ⟨i, hi, h⟩ => ?_, ?_⟩⟩
     ·rw [results_eq, Sem.run_bind, h2]; rfl
     ·simp [hsz0]; omega
     ·cases i with
      | zero =>
       simp at hy; subst hy
       have e : (#[tupV us] ++ vs).getD 0 undef = tupV us := by rw [← toList_getD]; simp
       rw [e]; exact R0
      | succ i =>
       have e : (#[tupV us] ++ vs).getD (i + 1) undef = vs.getD i undef := by rw [← toList_getD, ← toList_getD]; simp [List.getD_eq_getElem?_getD]
       rw [e]
       have hy' : (args0.map s''.finS)[i]? = some y := by simpa using hy
       rw [List.getElem?_map] at hy'
       cases h7 : args0[i]? with
       | none => rw [h7] at hy'; cases hy'
       | some z =>
        rw [h7] at hy'
        cases hy'
        have hz := hc0 i _ h7
        rw [toList_getD] at hz
        have pinv : ∀ id, id < s0.os.length → hd' id = hd0 id := fun id hid => (hw2.pin (id, hd0 id) (List.mem_map.2 ⟨id, List.mem_range.2 (by omega), rfl⟩)).2
        rcases finS_cases s'' z with hany | ⟨id, k, es, rfl, ho, hfin⟩ | ⟨id, cs, rfl, ho, hp, hfin⟩
        ·rw [hany]
         exact .pure _ _ _ (.any _) rfl (fun b ⟨id, z', g1, _, g2, _⟩ => by rw [h7] at g1; cases g1; exact g2 hany)
        ·have hid : id < s0.os.length := hz.ob_lt
         obtain ⟨k0, es0, ho0⟩ := (okArgs_spec hrows h7).1 id rfl
         rw [hfin, hz.ob_inv ho0, ← pinv id hid]
         refine (hw2.rows id k es ho).congr fun b => ⟨fun ⟨id', z', g1, g2, _, g3⟩ => by
          rw [h7] at g1; cases g1
          simp [idsOfS] at g2; subst g2; exact g3.1, fun g => ⟨id, .ob id, h7, by simp [idsOfS], by rw [hfin]; simp, g, fun cs hcs => by rw [ho] at hcs; cases hcs⟩⟩
        ·obtain ⟨b, T, c, e1, e2, e3, e4, e5⟩ := hw2.boxes id cs ho
         have hid : id < s0.os.length := hz.pb_lt
         obtain ⟨cs0, ho0⟩ := (okArgs_spec hrows h7).2 id 0 rfl
         obtain ⟨b0, q1, q2⟩ := hz.pb_inv ho0
         rw [hfin, q2, ← q1, ← pinv id hid, e1]
         refine .bx cs b T c _ e2 e3 (fun j x hx => ?_) (fun y => ⟨fun ⟨id', z', g1, g2, _, g3⟩ => ?_, fun h => ?_⟩)
         ·have := e4 j x hx
          have hpx := allPure_get' hp hx
          cases x <;> first | exact this.pure_inv trivial | cases hpx
         ·rw [h7] at g1; cases g1
          simp [idsOfS] at g2; subst g2
          have := g3.2 cs ho
          rw [e1] at this; cases this; rfl
         ·subst h
          exact ⟨id, .pb id 0, h7, by simp [idsOfS], by rw [hfin]; simp, e5, fun _ _ => e1⟩
     ·cases i with
      | zero =>
       cases j with
       | zero => rfl
       | succ j =>
        obtain ⟨i, hi, hb⟩ := hbi
        obtain ⟨id, z, _, _, _, g⟩ := hbj
        exact ((h5 i b hi hb).2 id g.1).elim
      | succ i =>
       cases j with
       | zero =>
        obtain ⟨j, hj, hb⟩ := hbj
        obtain ⟨id, z, _, _, _, g⟩ := hbi
        exact ((h5 j b hj hb).2 id g.1).elim
       | succ j =>
        obtain ⟨id, z, g1, g2, _, g⟩ := hbi
        obtain ⟨id', z', g1', g2', _, g'⟩ := hbj
        have := hw2.disj _ _ _ g.1 g'.1
        subst this
        rw [idsSL_inj (nodupB_spec hnod) g1 g2 g1' g2']
     ·obtain ⟨id, g⟩ := hinF i b hi h
      exact (hw.hA b hb).2 id g
     ·by_cases hlt : b < w.heap.size
      ·exact .inl (hw.old b hb hlt)
      ·exact .inr (by omega)
    cases e with
    | normal => exact fin hK
    | ret => exact fin hK
    | exit id => exact hK.elim
   ·rw [List.getElem?_append] at hy
    split at hy
    ·rename_i hlt
     rw [getD_app_left _ _ _ (by omega), ← toList_getD]
     exact hc0 t y hy
    ·rename_i hlt
     rw [List.getElem?_replicate] at hy
     split at hy
     ·cases hy
      refine .pure _ _ ?_
      have e : (vs ++ Array.replicate (fn.ntmps - vs.size) undef).getD t undef = undef := by
       have h1 : ¬ t < vs.size := by omega
       simp [Array.getD, Array.getElem_append, h1]
      rw [e]; exact .und
     ·cases hy
  ·exact hk.elim
end
end Go.Proofs.YtlemeenicaidfaaGreatDoor

/- From a contract to a walk; the tables of this program. -/
namespace Go.Proofs.YtlemeenicaidfaaGreatDoor
set_option linter.unusedVariables false
set_option linter.unusedSimpArgs false
open Go Go.RowKit

theorem Keeps.kept [St] {w w' : World} (h : Keeps (fun _ => False) w w') : w.keptBut w' (fun _ => False) :=
 ⟨h.os, h.output, fun i hi => by rw [h.block i hi (fun h => h)]; exact (World.keptBut_refl w (fun _ => False)).2.2 i hi⟩

theorem RelL.nil {w : World} {A : Nat → Prop} : RelL w A [] #[] := ⟨rfl, fun i a h => by simp at h⟩
theorem RelL.cons {w : World} {A : Nat → Prop} {a : AV} {v : Value} {us : List AV} {vs : Array Value} (h : Rel w A a v) (hr : RelL w A us vs) : RelL w A (a :: us) (#[v] ++ vs) := by
 refine ⟨by simp [hr.1]; omega, fun i x hx => ?_⟩
 cases i with
 | zero => simp at hx; subst hx; rw [← toList_getD]; simpa using h
 | succ i =>
  simp at hx
  have := hr.2 i x hx
  rw [← toList_getD, List.getD_eq_getElem?_getD] at this ⊢
  simpa using this

theorem wide : Tryz.prog.follows .mixedOrders = true := by kernel_rfl
end Go.Proofs.YtlemeenicaidfaaGreatDoor
