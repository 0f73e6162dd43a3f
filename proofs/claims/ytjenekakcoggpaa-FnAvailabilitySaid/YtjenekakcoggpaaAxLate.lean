/- Drawn regions with operations that change memory, some reads of which come late. -/
import Derived.Test.YtjenekakcoggpaaAxDraw
namespace Go.Proofs.Ytjenekakcoggpaa
set_option linter.unusedVariables false
set_option linter.unusedSimpArgs false
open Go Go.RowKit

section
variable {P : Program} {np : Nat} {L : Lay} {W : WM} {w w' : World} {A : Nat → Prop} {os os' : List Obj} {hd hd' : Nat → Value} {F F' : Nat → Nat → Prop} {s s1 : AS} {a : Act}

theorem aval_late {E : Env} {o : Oper} {K : AV → Prop} (hl : lateOp o = true) (hg : ∀ y ∈ o.op.operands, s1.get y = s.get y) (hp : isMove o.op = true ∨ ∀ y ∈ o.op.operands, (s.get y).isPure = true) (hk : aval E L s o.op K) : aval E L s1 o.op K := by
  obtain ⟨dst, op, ty, pos, af, g⟩ := o
  replace hl : lateOp ⟨dst, op, ty, pos, af, g⟩ = true := hl
  have hl2 : g = none := by
    unfold lateOp at hl
    split at hl
    · assumption
    · cases hl
  subst hl2
  replace hg : ∀ y ∈ op.operands, s1.get y = s.get y := hg
  replace hp : isMove op = true ∨ ∀ y ∈ op.operands, (s.get y).isPure = true := hp
  replace hk : aval E L s op K := hk
  show aval E L s1 op K
  revert hl hg hp hk
  · cases op
    case move x =>
      intro hl hg hp hk
      simp only [aval] at *; rw [hg x (by simp [Op.operands])]; exact hk
    case assign x =>
      intro hl hg hp hk
      simp only [aval] at *; rw [hg x (by simp [Op.operands])]; exact hk
    case load t x =>
      intro hl hg hp hk
      have h1 := hg x (by simp [Op.operands])
      have h2 := hp.elim (fun h => absurd h (by simp [isMove])) (fun h => h) x (by simp [Op.operands])
      simp only [aval] at hk ⊢
      rw [h1]
      generalize s.get x = v at *
      cases v <;> first | exact hk | exact hk.elim | (simp [AV.isPure] at h2)
    case fieldAddr t x f =>
      intro hl hg hp hk
      have h1 := hg x (by simp [Op.operands])
      have h2 := hp.elim (fun h => absurd h (by simp [isMove])) (fun h => h) x (by simp [Op.operands])
      simp only [aval] at hk ⊢
      rw [h1]
      generalize s.get x = v at *
      cases v <;> first
        | (simp [AV.isPure] at h2; done)
        | (cases hfo : fieldOf L t f <;> simp only [hfo] at hk ⊢ <;> first | exact hk | exact hk.elim)
    case indexAddr t x i =>
      intro hl hg hp hk
      have h1 := hg x (by simp [Op.operands])
      have h2 := hp.elim (fun h => absurd h (by simp [isMove])) (fun h => h) x (by simp [Op.operands])
      have h3 := hg i (by simp [Op.operands])
      simp only [aval] at hk ⊢
      rw [h1, h3]
      generalize s.get x = v at *
      generalize s.get i = u at *
      cases v <;> first
        | (simp [AV.isPure] at h2; done)
        | (cases u <;> first | exact hk | exact hk.elim)
    case binOp q t x y m =>
      intro hl hg hp hk
      have h1 := hg x (by simp [Op.operands])
      have h3 := hg y (by simp [Op.operands])
      simp only [aval] at hk ⊢
      rw [h1, h3]
      exact hk
    all_goals (intro hl; cases hl)

theorem isBit_spec {m j : Nat} : isBit m j = m.testBit j := by
  rw [Nat.testBit_eq_decide_div_mod_eq, isBit, Nat.shiftRight_eq_div_pow]
  rfl

theorem setSame {l : List AV} {i : Nat} {x : AV} (h : ∀ z, l[i]? = some z → z = x) : l.set i x = l := by
  cases hz : l[i]? with
  | none => exact List.set_eq_of_length_le (List.getElem?_eq_none_iff.1 hz)
  | some z => rw [← h z hz]; exact setSelf hz

/-- A late operation: what it will yield stands in the frame already. -/
def LV (np : Nat) (P : Program) (L : Lay) (s : AS) (o : Oper) : Prop :=
  lateOp o = true ∧ ∃ d x, o.dst = some d ∧ (∀ z, s.fr[d]? = some z → z = x) ∧ aval (stdE np P) L s o.op (· = x) ∧ (isMove o.op = true ∨ ∀ y ∈ o.op.operands, (s.get y).isPure = true)
/-- The slots that are still open. -/
def Unl (ops : List Oper) (n : Nat) (listed : Array Bool) (t : Nat) : Prop := ∃ j o, j < n ∧ listed.getD j false = false ∧ ops[j]? = some o ∧ o.dst = some t

structure Agree (U : Nat → Prop) (a az : Act) : Prop where
  defs : a.defers = az.defers
  size : a.tmps.size = az.tmps.size
  tmps : ∀ t, ¬ U t → a.tmps.getD t undef = az.tmps.getD t undef

theorem Agree.eval {U : Nat → Prop} {a az : Act} (h : Agree U a az) {y : Operand} (hy : ∀ t, y = .tmp t → ¬ U t) : a.eval y = az.eval y := by
  cases y with
  | tmp t => exact h.tmps t (hy t rfl)
  | _ => rfl

theorem act_ext {x y : Act} (h1 : x.defers = y.defers) (h2 : x.tmps.size = y.tmps.size) (h3 : ∀ t, x.tmps.getD t undef = y.tmps.getD t undef) : x = y := by
  obtain ⟨xt, xd⟩ := x
  obtain ⟨yt, yd⟩ := y
  cases h1
  have : xt = yt := Array.ext h2 fun i hi hj => by
    have := h3 i
    simpa [Array.getD, hi, show i < yt.size from hj] using this
  rw [this]

theorem put_getD (a : Act) (dst : Option Nat) (v : Value) (t : Nat) : (a.put dst v).tmps.getD t undef = if dst = some t ∧ t < a.tmps.size then v else a.tmps.getD t undef := by
  cases dst with
  | none => simp [Act.put]
  | some d =>
    simp only [Act.put, Option.some.injEq]
    by_cases e : d = t
    · subst e
      by_cases h : d < a.tmps.size
      · simp [Array.getD, h]
      · simp [Array.getD, h]
    · rw [if_neg (fun h => e h.1)]
      by_cases h : t < a.tmps.size
      · simp [Array.getD, h, Array.getElem_setIfInBounds, e]
      · simp [Array.getD, h]
theorem put_size (a : Act) (dst : Option Nat) (v : Value) : (a.put dst v).tmps.size = a.tmps.size := by cases dst <;> simp [Act.put]
theorem put_defs (a : Act) (dst : Option Nat) (v : Value) : (a.put dst v).defers = a.defers := by cases dst <;> rfl

open Classical in
noncomputable def patch (U : Nat → Prop) (a x : Act) : Act := ⟨Array.ofFn (n := x.tmps.size) fun t => if U t then a.tmps.getD t undef else x.tmps.getD t undef, x.defers⟩
theorem patch_size (U : Nat → Prop) (a x : Act) : (patch U a x).tmps.size = x.tmps.size := by simp [patch]
open Classical in
theorem patch_getD (U : Nat → Prop) (a x : Act) (t : Nat) : (patch U a x).tmps.getD t undef = if U t ∧ t < x.tmps.size then a.tmps.getD t undef else x.tmps.getD t undef := by
  by_cases h : t < x.tmps.size
  · have h' : t < (patch U a x).tmps.size := by rw [patch_size]; exact h
    simp [patch, Array.getD, h]
  · have h' : ¬ t < (patch U a x).tmps.size := by rw [patch_size]; exact h
    rw [Array.getD, dif_neg h', if_neg (fun e => h e.2), Array.getD, dif_neg h]
theorem patch_agree (U : Nat → Prop) (a x : Act) : Agree U (patch U a x) x :=
  ⟨rfl, patch_size U a x, fun t ht => by rw [patch_getD, if_neg (fun e => ht e.1)]⟩
theorem patch_put {U : Nat → Prop} {a az : Act} (h : Agree U a az) {dst : Option Nat} (hd : ∀ t, dst = some t → ¬ U t) (v : Value) : patch U a (az.put dst v) = a.put dst v := by
  refine act_ext (by show (az.put dst v).defers = _; rw [put_defs, put_defs, h.defs]) (by rw [patch_size, put_size, put_size, h.size]) fun t => ?_
  rw [patch_getD, put_getD, put_getD, put_size, h.size]
  by_cases hu : U t
  · rw [if_neg (c := dst = some t ∧ t < az.tmps.size) (fun e => hd t e.1 hu), if_neg (c := dst = some t ∧ t < az.tmps.size) (fun e => hd t e.1 hu)]
    split
    · rfl
    · rename_i hn
      have h1 : ¬ t < az.tmps.size := fun h2 => hn ⟨hu, h2⟩
      have h2 : ¬ t < a.tmps.size := by rw [h.size]; exact h1
      rw [Array.getD, dif_neg h1, Array.getD, dif_neg h2]
  · rw [if_neg (fun e => hu e.1), h.tmps t hu]
theorem patch_self {U : Nat → Prop} {a az : Act} (h : Agree U a az) : patch U a az = a := patch_put h (dst := none) (fun t e => by cases e) undef

theorem wp_patch {o : Oper} {a az : Act} {U : Nat → Prop} {next : Act → World → Prop} {Q : Exit → Act → World → Prop} (hex : execOp a.eval o = execOp az.eval o) (hag : Agree U a az) (hd : ∀ t, o.dst = some t → ¬ U t)
    (h : o.wp P az w (fun x w' => next (patch U a x) w') (fun e x w' => Q e (patch U a x) w')) : o.wp P a w next Q := by
  unfold Oper.wp at *
  rw [hex]
  generalize (execOp az.eval o).run P w = r at *
  have hput : ∀ v, patch U a (az.put o.dst v) = a.put o.dst v := patch_put hag hd
  have hself := patch_self hag
  cases r with
  | ok n w' =>
    cases n <;> simp only [Oper.upon] at h ⊢
    case value v => rw [hput] at h; exact h
    case skip => rw [hput] at h; exact h
    case defer d =>
      have : patch U a (Act.put { az with defers := d :: az.defers } o.dst undef) = Act.put { a with defers := d :: a.defers } o.dst undef := by
        have e0 : Act.put { az with defers := d :: az.defers } o.dst undef = { az.put o.dst undef with defers := d :: az.defers } := by generalize o.dst = q; cases q <;> rfl
        have e1 : Act.put { a with defers := d :: a.defers } o.dst undef = { a.put o.dst undef with defers := d :: a.defers } := by generalize o.dst = q; cases q <;> rfl
        rw [e0, e1]
        have e2 : patch U a { az.put o.dst undef with defers := d :: az.defers } = { patch U a (az.put o.dst undef) with defers := d :: az.defers } := rfl
        rw [e2, hput, hag.defs]
      rw [this] at h
      exact h
    case enter f args => exact Calls.mono h (fun e w'' he => by
      cases e with
      | returned v => simp only at he ⊢; rw [hput] at he; exact he
      | panicked c => simp only at he ⊢; rw [hself] at he; exact he
      | outgrown => obtain ⟨x, w0, h0⟩ := he; exact ⟨_, w0, h0⟩)
    case row row args => exact Rows.mono h (fun v w'' he => by rw [hput] at he; exact he)
  | halt x w' =>
    cases x <;> simp only [Oper.upon] at h ⊢ <;> first | exact h | (rw [hself] at h; exact h)

theorem stTmps_spec {o : Op} {ts : List Nat} {t : Nat} (h : stTmps o = some ts) (ht : Operand.tmp t ∈ o.operands) : t ∈ ts := by
  unfold stTmps at h
  split at h
  · simp only [Option.some.injEq] at h
    subst h
    exact tmpsOf_spec (by simpa [Op.operands] using ht)
  · exact opTmps_spec h ht

theorem alate_any (hL : L.ty = layOf P) {ops : Array Oper} {n : Nat} {Q : Exit → Act → World → Prop} {K : AS → Prop} {miss : Nat → Nat → Prop}
    (hpre : ∀ (j : Nat) o, j < n → ops.toList[j]? = some o → OpOK (ops.toList.take n) j o)
    (hsuf : ∀ (i : Nat) o, n ≤ i → ops.toList[i]? = some o → (∀ e ∈ o.after, bnd e = true → e.on < i) ∧
      (∀ S : Nat → Prop, Closed ops.toList S → (∀ e ∈ o.after, bnd e = true → S e.on) → ∀ j, j < i → ¬ S j → miss i j) ∧
      ∃ ts, stTmps o.op = some ts ∧ ∀ j oj, miss i j → ops.toList[j]? = some oj → j < n ∧ ∃ d tj, oj.dst = some d ∧ opTmps oj.op = some tj ∧ d ∉ ts ++ guardTmps ops.toList o.guard ∧ o.dst ≠ some d ∧ ∀ t ∈ tj, o.dst ≠ some t)
    (hQ : ∀ s' a' w' A' hd' F', K s' → CW W w' A' s'.os hd' F' → FR w' A' s'.os hd' s'.fr a' → Q .normal a' w') :
    ∀ (fuel m : Nat) (listed : Array Bool) (s : AS) (a az : Act) (w : World) (A : Nat → Prop) (hd : Nat → Value) (F : Nat → Nat → Prop), n ≤ m → m ≤ ops.size → listed.size = ops.size → (∀ j, n ≤ j → j < ops.size → listed.getD j false = decide (j < m)) →
      ((List.range ops.size).filter fun i => !listed.getD i true).length ≤ fuel → Closed ops.toList (fun j => listed.getD j false = true) → CW W w A s.os hd F → FR w A s.os hd s.fr az → Agree (Unl ops.toList n listed) a az →
      (∀ j o, j < n → listed.getD j false = false → ops.toList[j]? = some o → LV np P L s o) → aops (stdE np P) L false ops.toList (ops.toList.drop m) s K → wpAny P .any ops Q fuel listed a w := by
  have getD_tf : ∀ (listed : Array Bool) i, listed.size = ops.size → i < ops.size → listed.getD i true = listed.getD i false := fun listed i hs hi => by
    have : i < listed.size := by omega
    simp [Array.getD, this]
  have fin : ∀ (m : Nat) (listed : Array Bool) (s : AS) (a az : Act) (w : World) (A : Nat → Prop) (hd : Nat → Value) (F : Nat → Nat → Prop), n ≤ m → m ≤ ops.size → (∀ j, n ≤ j → j < ops.size → listed.getD j false = decide (j < m)) →
      (∀ j, j < ops.size → listed.getD j false = true) → CW W w A s.os hd F → FR w A s.os hd s.fr az → Agree (Unl ops.toList n listed) a az → aops (stdE np P) L false ops.toList (ops.toList.drop m) s K → Q .normal a w := by
    intro m listed s a az w A hd F hnm hms hl hall hw hf hag hk
    have e : m = ops.size := by
      apply Classical.byContradiction
      intro hne
      have h1 := hl m hnm (by omega)
      rw [hall m (by omega)] at h1
      simp at h1
    subst e
    rw [List.drop_eq_nil_of_le (by simp)] at hk
    have : a = az := act_ext hag.defs hag.size fun t => hag.tmps t fun ⟨j, o, h1, h2, h3, _⟩ => by
      have := (List.getElem?_eq_some_iff.1 h3).1
      rw [hall j (by simpa using this)] at h2; cases h2
    subst this
    exact hQ s a w A hd F hk hw hf
  have allrdy : ∀ (listed : Array Bool), listed.size = ops.size → Region.ready .any ops listed = [] → ∀ i, i < ops.size → listed.getD i false = true := by
    intro listed hs h0 i
    induction i using Nat.strongRecOn with
    | _ i ih =>
      intro hio
      apply Classical.byContradiction
      intro hn
      have ho : ops[i]? = some ops[i] := Array.getElem?_eq_getElem hio
      have hol : ops.toList[i]? = some ops[i] := by rw [Array.getElem?_toList]; exact ho
      have : i ∈ Region.ready .any ops listed := mem_ready.2 ⟨by rw [getD_tf listed i hs hio]; simpa using hn, _, ho, fun e he hb => by
        rw [bnd_spec] at hb
        have h1 : e.on < i := by
          by_cases hin : i < n
          · exact (hpre i _ hin hol).edges e he hb
          · exact (hsuf i _ (by omega) hol).1 e he hb
        exact ih e.on h1 (by omega)⟩
      rw [h0] at this
      cases this
  intro fuel
  induction fuel with
  | zero =>
    intro m listed s a az w A hd F hnm hms hs hl hc hcl hw hf hag hlv hk
    have hall : ∀ j, j < ops.size → listed.getD j false = true := fun i hi => by
      have hnil : ((List.range ops.size).filter fun i => !listed.getD i true) = [] := List.length_eq_zero_iff.1 (Nat.le_zero.1 hc)
      have := List.filter_eq_nil_iff.1 hnil i (List.mem_range.2 (by omega))
      rw [← getD_tf listed i hs hi]
      simpa using this
    refine ⟨?_, fin m listed s a az w A hd F hnm hms hl hall hw hf hag hk⟩
    apply List.eq_nil_iff_forall_not_mem.2
    intro i hi
    obtain ⟨h1, o, h2, _⟩ := mem_ready.1 hi
    have hi' := (Array.getElem?_eq_some_iff.1 h2).1
    rw [getD_tf listed i hs hi', hall i hi'] at h1
    cases h1
  | succ fuel ih =>
    intro m listed s a az w A hd F hnm hms hs hl hc hcl hw hf hag hlv hk
    refine ⟨fun h0 => fin m listed s a az w A hd F hnm hms hl (allrdy listed hs h0) hw hf hag hk, fun i hi => ?_⟩
    obtain ⟨h1, o, h2, h3⟩ := mem_ready.1 hi
    have hi' : i < ops.size := (Array.getElem?_eq_some_iff.1 h2).1
    have h2f : ops.toList[i]? = some o := by rw [Array.getElem?_toList]; exact h2
    rw [getD_tf listed i hs hi'] at h1
    have hdep : ∀ e ∈ o.after, bnd e = true → listed.getD e.on false = true := fun e he hb => h3 e he (by rw [bnd_spec]; exact hb)
    have hcnt : ((List.range ops.size).filter fun j => !(listed.setIfInBounds i true).getD j true).length ≤ fuel := by
      have hsub : ((List.range ops.size).filter fun j => !(listed.setIfInBounds i true).getD j true) = ((List.range ops.size).filter fun j => !listed.getD j true).filter fun j => decide (j ≠ i) := by
        rw [List.filter_filter]
        refine List.filter_congr fun j hj => ?_
        by_cases e : j = i
        · subst e
          have : j < listed.size := by omega
          simp [this]
        · rw [getD_set_ne true (Ne.symm e)]; simp [e]
      have hlt : (((List.range ops.size).filter fun j => !listed.getD j true).filter fun j => decide (j ≠ i)).length < ((List.range ops.size).filter fun j => !listed.getD j true).length :=
        List.length_filter_lt_length_iff_exists.2 ⟨i, List.mem_filter.2 ⟨List.mem_range.2 hi', by rw [getD_tf listed i hs hi']; simp [h1]⟩, by simp⟩
      rw [hsub]
      omega
    have hself : (listed.setIfInBounds i true).getD i false = true := by
      have : i < listed.size := by omega
      simp [this]
    have hcl' : Closed ops.toList (fun j => (listed.setIfInBounds i true).getD j false = true) := fun q o' ho' hq e he hb => by
      show (listed.setIfInBounds i true).getD e.on false = true
      replace hq : (listed.setIfInBounds i true).getD q false = true := hq
      have key : listed.getD e.on false = true := by
        by_cases hqi : q = i
        · subst hqi
          rw [h2f] at ho'; cases ho'
          exact hdep e he hb
        · rw [getD_set_ne false (Ne.symm hqi)] at hq
          exact hcl q o' ho' hq e he hb
      by_cases hei : i = e.on
      · rw [← hei]; exact hself
      · rw [getD_set_ne false hei]; exact key
    by_cases hin : i < n
    · obtain ⟨hlo, d, x, hdst, hx, hval, hpure⟩ := hlv i o hin (by simpa using h1) h2f
      have hg : o.guard = none := by
        unfold lateOp at hlo
        split at hlo
        · assumption
        · cases hlo
      have hop : ∀ y ∈ o.op.operands, ∀ t, y = .tmp t → ¬ Unl ops.toList n listed t := fun y hy t ht => by
        rintro ⟨j', o', q1, q2, q3, q4⟩
        subst ht
        obtain ⟨ts, hts, hr⟩ := (hpre i o hin h2f).reads
        obtain ⟨_, e, q5, q6, q7⟩ := hr t (List.mem_append_left _ (opTmps_spec hts hy)) j' o' (by rw [List.getElem?_take, if_pos q1]; exact q3) q4
        have := hdep e q5 q6
        rw [q7, q2] at this
        cases this
      have hex : execOp a.eval o = execOp az.eval o := execOp_congr o (fun cs b e => by unfold lateOp at hlo; rw [hg, e] at hlo; cases hlo) (fun y hy => hag.eval (hop y hy))
      obtain ⟨y, v, k1, k2, k3⟩ := aval_sound (dst := o.dst) (ty := o.type) (pos := o.pos) (af := o.after) (g := o.guard) hL hw (fun y _ => hf.get y) hval
      subst k1
      unfold wpOp
      simp only [h2]
      rw [if_pos (by simp [Region.wanted, hg])]
      refine .inl (wp_value (v := v) (w' := w) (by rw [hex]; exact k3) ?_)
      have hset : s.fr.set d y = s.fr := setSame hx
      refine ih m _ s (a.put o.dst v) (az.put o.dst v) w A hd F hnm hms (by simpa using hs) (fun j hj hjs => by rw [getD_set_ne false (by omega)]; exact hl j hj hjs) hcnt hcl' hw ?_ ⟨?_, ?_, fun t ht => ?_⟩ (fun j oj hj hjl hoj => ?_) hk
      · have := FR.put (s := s) hf k2 o.dst
        rw [hdst] at this ⊢
        simp only [AS.put, hset] at this
        exact this
      · rw [put_defs, put_defs]; exact hag.defs
      · rw [put_size, put_size]; exact hag.size
      · rw [put_getD, put_getD, hag.size]
        split
        · rfl
        · rename_i hne
          by_cases e : o.dst = some t
          · have h5 : ¬ t < az.tmps.size := fun h => hne ⟨e, h⟩
            have h6 : ¬ t < a.tmps.size := by rw [hag.size]; exact h5
            simp [Array.getD, h5, h6]
          · refine hag.tmps t fun ⟨j', o', q1, q2, q3, q4⟩ => ht ⟨j', o', q1, ?_, q3, q4⟩
            rw [getD_set_ne false (fun e2 => by subst e2; rw [h2f] at q3; cases q3; exact e q4)]
            exact q2
      · refine hlv j oj hj ?_ hoj
        by_cases e : i = j
        · subst e; rw [hself] at hjl; cases hjl
        · rwa [getD_set_ne false e] at hjl
    · have hge : i ≥ m := by
        apply Classical.byContradiction
        intro hlt
        rw [hl i (by omega) hi'] at h1
        simp at h1; omega
      have him : i = m := by
        apply Classical.byContradiction
        intro hne
        have hml : m < ops.size := by omega
        obtain ⟨_, q2, ts, _, q3⟩ := hsuf i o (by omega) h2f
        have q4 := q2 (fun j => listed.getD j false = true) hcl hdep m (by omega) (by simp [hl m hnm hml])
        have := (q3 m ops[m] q4 (by rw [Array.getElem?_toList]; exact Array.getElem?_eq_getElem hml)).1
        omega
      subst him
      obtain ⟨c1, c2, ts, hts, c3⟩ := hsuf i o (by omega) h2f
      have hmiss : ∀ j, j < n → listed.getD j false = false → miss i j := fun j hj hjl => c2 (fun j => listed.getD j false = true) hcl hdep j (by omega) (by simp [hjl])
      have hU : ∀ t, Unl ops.toList n listed t → t ∉ ts ++ guardTmps ops.toList o.guard ∧ o.dst ≠ some t := by
        rintro t ⟨j, oj, q1, q2, q3, q4⟩
        obtain ⟨_, d, tj, e1, e2, e3, e4, e5⟩ := c3 j oj (hmiss j q1 q2) q3
        rw [q4] at e1; cases e1; exact ⟨e3, e4⟩
      have hUd : ∀ t, o.dst = some t → ¬ Unl ops.toList n listed t := fun t ht hu => (hU t hu).2 ht
      have hex : execOp a.eval o = execOp az.eval o := execOp_congr o (fun cs b e => by rw [e] at hts; cases hts) (fun y hy => hag.eval fun t ht hu => (hU t hu).1 (List.mem_append_left _ (stTmps_spec hts (ht ▸ hy))))
      have hnext : ∀ (s' : AS) (a' az' : Act) (w' : World) (A' : Nat → Prop) (hd' : Nat → Value) (F' : Nat → Nat → Prop), (∀ t, o.dst ≠ some t → s'.fr[t]? = s.fr[t]?) → CW W w' A' s'.os hd' F' → FR w' A' s'.os hd' s'.fr az' → Agree (Unl ops.toList n listed) a' az' →
          aops (stdE np P) L false ops.toList (ops.toList.drop (i + 1)) s' K → wpAny P .any ops Q fuel (listed.setIfInBounds i true) a' w' := fun s' a' az' w' A' hd' F' q0 q1 q2 q3 q4 =>
        ih (i + 1) _ s' a' az' w' A' hd' F' (by omega) (by omega) (by simpa using hs) (fun j hj hjs => by
          by_cases hji : j = i
          · subst hji; rw [hself]; simp
          · rw [getD_set_ne false (Ne.symm hji), hl j hj hjs]
            exact decide_eq_decide.2 (by omega)) hcnt hcl' q1 q2 ⟨q3.defs, q3.size, fun t ht => q3.tmps t fun ⟨j, oj, r1, r2, r3, r4⟩ => ht ⟨j, oj, r1, by rw [getD_set_ne false (by omega)]; exact r2, r3, r4⟩⟩
          (fun j oj hj hjl hoj => by
            rw [getD_set_ne false (by omega)] at hjl
            obtain ⟨r1, d, x, r2, r3, r4, r5⟩ := hlv j oj hj hjl hoj
            obtain ⟨_, d', tj, e1, e2, e3, e4, e5⟩ := c3 j oj (hmiss j hj hjl) hoj
            rw [r2] at e1; cases e1
            have hget : ∀ y ∈ oj.op.operands, s'.get y = s.get y := fun y hy => by
              cases y with
              | tmp t => simp only [AS.get, List.getD_eq_getElem?_getD]; rw [q0 t (e5 t (opTmps_spec e2 hy))]
              | _ => rfl
            exact ⟨r1, d, x, r2, by rw [q0 d e4]; exact r3, aval_late r1 hget r5 r4, r5.imp (fun h => h) (fun h y hy => by rw [hget y hy]; exact h y hy)⟩) q4
      have hfr0 : ∀ (fr : List AV) (os : List Obj) (x : AV), ∀ t, o.dst ≠ some t → (AS.put ⟨fr, os⟩ o.dst x).fr[t]? = fr[t]? := fun fr os x t ht => by
        cases hdst : o.dst with
        | none => rfl
        | some d =>
          simp only [AS.put]
          rw [List.getElem?_set_ne (fun e => ht (by rw [hdst, e]))]
      rw [List.drop_eq_getElem_cons (by simpa using hi')] at hk
      have hoe : o = ops[i] := by
        rw [Array.getElem?_eq_getElem hi'] at h2; cases h2; rfl
      have hog : ops.toList[i]'(by simpa using hi') = o := by rw [hoe]; simp
      rw [hog] at hk
      have hstep : (astep (stdE np P) L s o fun v s' => aops (stdE np P) L false ops.toList (ops.toList.drop (i + 1)) (s'.put o.dst v) K) → o.wp P a w (wpAny P .any ops Q fuel (listed.setIfInBounds i true)) Q := fun h =>
        wp_patch hex hag hUd (astep_sound hL hw hf h _ _ fun x s' v w' A' hd' F' hk' hfr' hw' hf' hx => by
          rw [← hfr'] at hf'
          exact hnext (s'.put o.dst x) _ (az.put o.dst v) w' A' hd' F' (fun t ht => by rw [← hfr']; exact hfr0 s'.fr s'.os x t ht) (by rw [AS.put_os]; exact hw') (hf'.put hx o.dst) (patch_agree _ a _) hk')
      have hskip : aops (stdE np P) L false ops.toList (ops.toList.drop (i + 1)) (s.put o.dst .und) K → wpAny P .any ops Q fuel (listed.setIfInBounds i true) (a.put o.dst undef) w := fun h =>
        hnext (s.put o.dst .und) _ (az.put o.dst undef) w A hd F (fun t ht => hfr0 s.fr s.os .und t ht) (by rw [AS.put_os]; exact hw) (hf.put .und o.dst) ⟨by rw [put_defs, put_defs]; exact hag.defs, by rw [put_size, put_size]; exact hag.size, fun t ht => by rw [put_getD, put_getD, hag.size, hag.tmps t ht]⟩ h
      have hyl : ∀ j want, o.guard = some (j, want) → yielded ops a.tmps j = yielded ops az.tmps j := fun j want hg => by
        unfold yielded
        cases hb : (ops[j]?).bind (·.dst) with
        | none => rfl
        | some d =>
          have hd0 : ¬ Unl ops.toList n listed d := fun hu => (hU d hu).1 (List.mem_append_right _ (by
            cases hj : ops[j]? with
            | none => rw [hj] at hb; cases hb
            | some oj =>
              rw [hj] at hb
              have hb : oj.dst = some d := hb
              have hj' : ops.toList[j]? = some oj := by rw [Array.getElem?_toList]; exact hj
              simp [guardTmps, hg, hj', hb]))
          have h5 := hag.tmps d hd0
          have h6 : a.tmps.size = az.tmps.size := hag.size
          have : a.tmps[d]? = az.tmps[d]? := by
            by_cases h : d < az.tmps.size
            · have h' : d < a.tmps.size := by rw [h6]; exact h
              rw [Array.getElem?_eq_getElem h, Array.getElem?_eq_getElem h']
              simpa [Array.getD, h, h'] using h5
            · have h' : ¬ d < a.tmps.size := by rw [h6]; exact h
              rw [Array.getElem?_eq_none (Nat.le_of_not_lt h), Array.getElem?_eq_none (Nat.le_of_not_lt h')]
          simp only [Option.bind_some, this]
      unfold wpOp
      simp only [h2]
      unfold aops at hk
      split at hk
      · rename_i hg
        rw [if_pos (by simp [Region.wanted, hg])]
        exact .inl (hstep hk)
      · rename_i j want hg
        split at hk
        · exact hk.elim
        · rename_i hy
          have := yield_sound hf hy
          rw [← hyl j want hg] at this
          rw [if_neg (by simp [Region.wanted, hg, this])]
          exact hskip hk
        · rename_i b hy
          have := yield_sound hf hy
          rw [← hyl j want hg] at this
          split at hk
          · rename_i e
            subst e
            rw [if_pos (by simp [Region.wanted, hg, this])]
            exact .inl (hstep hk)
          · rename_i e
            rw [if_neg (by simp [Region.wanted, hg, this, e])]
            exact hskip hk

theorem memB_spec {t : Nat} : ∀ {l : List Nat}, memB t l = false → t ∉ l
  | [], _ => by simp
  | m :: l, h => by
    unfold memB at h
    split at h
    · cases h
    · rename_i hne
      have := memB_spec h
      simp only [List.mem_cons, not_or]
      exact ⟨fun e => hne e.symm, this⟩
theorem bitsFrom_spec {m : Nat} : ∀ (k n : Nat), bitsFrom m n k = true → ∀ j, n ≤ j → j < n + k → m.testBit j = true
  | 0, n, _, j, h1, h2 => by omega
  | k + 1, n, h, j, h1, h2 => by
    unfold bitsFrom at h
    split at h
    · rename_i hb
      by_cases e : j = n
      · subst e; rw [← isBit_spec]; exact hb
      · exact bitsFrom_spec k (n + 1) h j (by omega) (by omega)
    · cases h
theorem lateRow_spec {m : Nat} {rd : List Nat} {od : Option Nat} : ∀ (l : List Oper) (i : Nat), lateRow m rd od i l = true → ∀ (q : Nat) o, l[q]? = some o → m.testBit (i + q) = false →
    lateOp o = true ∧ ∃ d tj, o.dst = some d ∧ opTmps o.op = some tj ∧ d ∉ rd ∧ od ≠ some d ∧ ∀ t ∈ tj, od ≠ some t
  | [], i, _, q, o, h, _ => by simp at h
  | p :: l, i, h, q, o, ho, hb => by
    have tail : lateRow m rd od (i + 1) l = true → ∀ q', q = q' + 1 → lateOp o = true ∧ ∃ d tj, o.dst = some d ∧ opTmps o.op = some tj ∧ d ∉ rd ∧ od ≠ some d ∧ ∀ t ∈ tj, od ≠ some t := fun h' q' e => by
      subst e
      exact lateRow_spec l (i + 1) h' q' o (by simpa using ho) (by rw [show i + 1 + q' = i + (q' + 1) by omega]; exact hb)
    unfold lateRow at h
    split at h
    · rename_i h1
      cases q with
      | zero => rw [isBit_spec, ← Nat.add_zero i, hb] at h1; cases h1
      | succ q' => exact tail h q' rfl
    · split at h
      · rename_i d ts h1 h2 h3
        split at h
        · rename_i h4 h5
          cases q with
          | zero =>
            simp at ho; subst ho
            refine ⟨h1, d, ts, h2, h3, memB_spec h4, fun e => ?_, fun t ht e => ?_⟩
            · rw [e] at h5
              simp only at h5
              exact memB_spec h5 (by simp)
            · rw [e] at h5
              simp only at h5
              exact memB_spec h5 (by simp [ht])
          | succ q' => exact tail h q' rfl
        · cases h
      · cases h
theorem sufOK_spec {ops : List Oper} {n : Nat} : ∀ (l : List Oper) (ms : List Nat) (i : Nat), sufOK ops n i ms l = true → ∀ (q : Nat) o, l[q]? = some o → ∃ m, ms[q]? = some m ∧ (∀ e ∈ o.after, bnd e = true → e.on < i + q) ∧ (∀ j, n ≤ j → j < i + q → n ≤ i + q → m.testBit j = true) ∧
    ∃ ts, stTmps o.op = some ts ∧ lateRow m (ts ++ guardTmps ops o.guard) o.dst 0 (ops.take n) = true
  | [], _, _, _, q, o, h => by simp at h
  | _ :: _, [], _, h, _, _, _ => by simp [sufOK] at h
  | p :: l, m :: ms, i, h, q, o, ho => by
    unfold sufOK at h
    split at h
    · cases h
    · rename_i ts hts
      split at h
      · rename_i h1 h2 h3
        cases q with
        | zero =>
          simp at ho; subst ho
          exact ⟨m, rfl, fun e he => edgesOK_spec h1 e (Array.mem_toList_iff.2 he), fun j g1 g2 g3 => bitsFrom_spec _ _ h3 j g1 (by omega), ts, hts, h2⟩
        | succ q =>
          have := sufOK_spec l ms (i + 1) h q o (by simpa using ho)
          rw [show i + 1 + q = i + (q + 1) by omega] at this
          simpa using this
      · cases h
theorem lateOK_spec {ops : List Oper} {n : Nat} (h : lateOK ops n = true) : drawOK (ops.take n) 0 (ops.take n) = true ∧ ∀ (i : Nat) o, n ≤ i → ops[i]? = some o → ∃ m, (masks [] ops)[i]? = some m ∧ (∀ e ∈ o.after, bnd e = true → e.on < i) ∧ (∀ j, n ≤ j → j < i → m.testBit j = true) ∧
    ∃ ts, stTmps o.op = some ts ∧ lateRow m (ts ++ guardTmps ops o.guard) o.dst 0 (ops.take n) = true := by
  unfold lateOK at h
  split at h
  · rename_i h1
    refine ⟨h1, fun i o hi ho => ?_⟩
    obtain ⟨m, g1, g2, g3, g4⟩ := sufOK_spec _ _ _ h (i - n) o (by rw [List.getElem?_drop]; rw [show n + (i - n) = i by omega]; exact ho)
    rw [show n + (i - n) = i by omega] at g2 g3
    rw [List.getElem?_drop, show n + (i - n) = i by omega] at g1
    exact ⟨m, g1, g2, fun j q1 q2 => g3 j q1 q2 hi, g4⟩
  · cases h

theorem anyMiss_spec {j : Nat} : ∀ {l : List Nat}, anyMiss j l = false → ∀ m ∈ l, m.testBit j = true
  | [], _, m, h => by simp at h
  | p :: l, h, m, hm => by
    unfold anyMiss at h
    split at h
    · rename_i hb
      rcases List.mem_cons.1 hm with rfl | hm
      · rw [← isBit_spec]; exact hb
      · exact anyMiss_spec h m hm
    · cases h
theorem latePure_spec {ms : List Nat} : ∀ (l : List Oper) (i : Nat), latePure s ms i l = true → ∀ (q : Nat) o, l[q]? = some o → (∃ m ∈ ms, m.testBit (i + q) = false) → (isMove o.op = true ∨ ∀ y ∈ o.op.operands, (s.get y).isPure = true)
  | [], _, _, q, o, h, _ => by simp at h
  | p :: l, i, h, q, o, ho, ⟨m, hm, hb⟩ => by
    have tail : latePure s ms (i + 1) l = true → ∀ q', q = q' + 1 → (isMove o.op = true ∨ ∀ y ∈ o.op.operands, (s.get y).isPure = true) := fun h' q' e => by
      subst e
      exact latePure_spec l (i + 1) h' q' o (by simpa using ho) ⟨m, hm, by rw [show i + 1 + q' = i + (q' + 1) by omega]; exact hb⟩
    unfold latePure at h
    split at h
    · split at h
      · rename_i h1
        cases q with
        | zero => simp at ho; subst ho; exact .inl h1
        | succ q' => exact tail h q' rfl
      · split at h
        · rename_i h1
          cases q with
          | zero =>
            simp at ho; subst ho
            refine .inr fun y hy => ?_
            obtain ⟨i', hi'⟩ := List.getElem?_of_mem (List.mem_map.2 ⟨y, Array.mem_toList_iff.2 hy, rfl⟩)
            exact allPure_get h1 hi'
          | succ q' => exact tail h q' rfl
        · cases h
    · rename_i h1
      cases q with
      | zero => have := anyMiss_spec h1 m hm; rw [Nat.add_zero] at hb; rw [hb] at this; cases this
      | succ q' => exact tail h q' rfl
theorem aread_of_late {E : Env} {o : Oper} {K : AV → Prop} (hl : lateOp o = true) : aread E L s o K = aval E L s o.op K := by
  unfold lateOp at hl
  split at hl
  · split at hl <;> first | (rename_i e; simp only [aread, e, isBuild]; done) | cases hl
  · cases hl

/-- A region that draws its order and changes memory at its end. -/
theorem alate_sound (hL : L.ty = layOf P) (hm : P.follows .mixedOrders = true) {id : Nat} {ops : Array Oper} {n : Nat} (hok : lateOK ops.toList n = true) (hnle : n ≤ ops.size) {Q : Exit → Act → World → Prop} {K : AS → Prop} (hQ : ∀ s' a' w' A' hd' F', K s' → CW W w' A' s'.os hd' F' → FR w' A' s'.os hd' s'.fr a' → Q .normal a' w')
    (hw : CW W w A s.os hd F) (hf : FR w A s.os hd s.fr a) (hk : aops (stdE np P) L true (ops.toList.take n) (ops.toList.take n) s fun s' => match latePure s' ((masks [] ops.toList).drop n) 0 (ops.toList.take n) with
      | true => aops (stdE np P) L false ops.toList (ops.toList.drop n) s' K
      | false => False) : (Code.region id ops true).wp P Q a w := by
  have hkp := Keeps.drew w
  have hw' := hw.keep hkp
  have hf' : FR w.drew A s.os hd s.fr a := hf.to fun y u hy => hy.keep (fun b hb => (hw.hA b hb).1) hkp
  obtain ⟨xs, sf, ht, hK⟩ := txt_sim hL (ops.toList.take n) s a w.drew A hw' hf' hk
  obtain ⟨hdr, hsf⟩ := lateOK_spec hok
  obtain ⟨hlen, hos, hfr, hdoes⟩ := txt_at (ops.toList.take n) s xs sf ht 0
  obtain ⟨hopok, huniq⟩ := drawOK_spec hdr
  split at hK
  case h_2 => exact hK.elim
  rename_i hpu
  have pre : ∀ {i : Nat} {o : Oper}, i < n → ops.toList[i]? = some o → (ops.toList.take n)[i]? = some o := fun {i o} hi ho => by
    rw [List.getElem?_take, if_pos hi]; exact ho
  let miss : Nat → Nat → Prop := fun i j => ∃ m, (masks [] ops.toList)[i]? = some m ∧ m.testBit j = false ∧ j < i
  have hwait : ∀ (i : Nat) o, n ≤ i → ops.toList[i]? = some o → ∀ S : Nat → Prop, Closed ops.toList S → (∀ e ∈ o.after, bnd e = true → S e.on) → ∀ j, j < i → ¬ S j → miss i j := fun i o hi ho S hS he j hj hns => by
    obtain ⟨m, h1, _⟩ := hsf i o hi ho
    refine ⟨m, h1, ?_, hj⟩
    cases hb : m.testBit j with
    | false => rfl
    | true =>
      rcases (masks_spec hS ops.toList [] (fun m _ => by simp) (fun i j m h => by simp at h) (fun i j m o h => by simp at h)).2 i j m o h1 ho hb he with h | h
      · omega
      · exact (hns h).elim
  have hmiss : ∀ (i : Nat) o, n ≤ i → ops.toList[i]? = some o → ∀ j oj, miss i j → ops.toList[j]? = some oj → j < n ∧ lateOp oj = true ∧ ∃ ts, stTmps o.op = some ts ∧ ∃ d tj, oj.dst = some d ∧ opTmps oj.op = some tj ∧ d ∉ ts ++ guardTmps ops.toList o.guard ∧ o.dst ≠ some d ∧ ∀ t ∈ tj, o.dst ≠ some t := fun i o hi ho j oj ⟨m, h1, h2, h3⟩ hoj => by
    obtain ⟨m', g1, g2, g3, ts, g4, g5⟩ := hsf i o hi ho
    rw [h1] at g1; cases g1
    have hjn : j < n := by
      apply Classical.byContradiction
      intro hge
      rw [g3 j (by omega) h3] at h2; cases h2
    obtain ⟨q1, d, tj, q2⟩ := lateRow_spec _ _ g5 j oj (pre hjn hoj) (by rw [Nat.zero_add]; exact h2)
    exact ⟨hjn, q1, ts, g4, d, tj, q2⟩
  have hlatemiss : ∀ j, (∃ i, n ≤ i ∧ i < ops.size ∧ miss i j) → ∀ oj, ops.toList[j]? = some oj → lateOp oj = true ∧ (∃ d, oj.dst = some d) ∧ ∃ m ∈ (masks [] ops.toList).drop n, m.testBit (0 + j) = false := fun j ⟨i, h1, h2, h3⟩ oj hoj => by
    have ho : ops.toList[i]? = some (ops.toList[i]'(by simpa using h2)) := List.getElem?_eq_getElem _
    obtain ⟨_, q1, ts, _, d, tj, q2, _⟩ := hmiss i _ h1 ho j oj h3 hoj
    obtain ⟨m, g1, g2, _⟩ := h3
    exact ⟨q1, ⟨d, q2⟩, m, List.mem_of_getElem? (i := i - n) (by rw [List.getElem?_drop, show n + (i - n) = i by omega]; exact g1), by rw [Nat.zero_add]; exact g2⟩
  refine wp_region_any hm (adraw_any hL (fun j => ∃ i, n ≤ i ∧ i < ops.size ∧ miss i j) hdr ht hnle (fun i o hi ho S hS he j hj hnl => ?_) (fun fuel listed a' w' A' g1 gc gge g2 gcl h1 h2 => ?_) ops.size (Array.replicate ops.size false) a w.drew A (by simp) ?_ ?_ ?_ hw' ?_)
  · apply Classical.byContradiction
    intro hns
    exact hnl ⟨i, hi, by simpa using (List.getElem?_eq_some_iff.1 ho).1, hwait i o hi ho S hS he j (by omega) hns⟩
  · obtain ⟨az, h3, h4⟩ : ∃ az, FR w' A' s.os hd (puts (fun j => listed.getD j false || decide (j < n)) 0 (ops.toList.take n) xs s.fr) az ∧ Agree (Unl ops.toList n listed) a' az := by
      have key : ∀ k, k ≤ n → ∃ az, FR w' A' s.os hd (puts (fun j => listed.getD j false || decide (j < k)) 0 (ops.toList.take n) xs s.fr) az ∧ Agree (Unl ops.toList n listed) a' az := by
        intro k
        induction k with
        | zero => intro _; exact ⟨a', by simpa using h2, rfl, rfl, fun _ _ => rfl⟩
        | succ k ih =>
          intro hkn
          obtain ⟨az, q1, q2⟩ := ih (by omega)
          have hks : k < ops.toList.length := by simp; omega
          obtain ⟨o, ho⟩ : ∃ o, ops.toList[k]? = some o := ⟨_, List.getElem?_eq_getElem hks⟩
          by_cases hl : listed.getD k false = true
          · refine ⟨az, ?_, q2⟩
            rwa [show (fun j => listed.getD j false || decide (j < k + 1)) = fun j => listed.getD j false || decide (j < k) from funext fun j => by
              by_cases e : j = k
              · subst e; rw [hl]; rfl
              · rw [show decide (j < k + 1) = decide (j < k) from decide_eq_decide.2 (by omega)]]
          · have hlf : listed.getD k false = false := by simpa using hl
            obtain ⟨r1, ⟨d, r2⟩, r3⟩ := hlatemiss k (g2 k (by omega) hlf) o ho
            obtain ⟨x, hx, hd1⟩ := hdoes k o (pre (by omega) ho)
            have hg : o.guard = none := by
              unfold lateOp at r1
              split at r1
              · assumption
              · cases r1
            have hd2 : aval (stdE np P) L ⟨puts (fun j => decide (j < 0 + k)) 0 (ops.toList.take n) xs s.fr, s.os⟩ o.op (· = x) := by
              unfold Does at hd1
              rw [hg] at hd1
              simp only at hd1
              rwa [aread_of_late r1] at hd1
            have hokk := hopok k o (pre (by omega) ho)
            rw [Nat.zero_add] at hokk
            obtain ⟨ts, hts, _⟩ := hokk.reads
            have same : ∀ t, t ∈ ts ++ guardTmps (ops.toList.take n) o.guard → _ := fun t ht => look_same (xs := xs) (fr := s.fr) hokk (lst := fun j => listed.getD j false || decide (j < k)) (fun e he hb => by simp [hokk.edges e he hb]) hts ht
            obtain ⟨y, v, k1, k2, k3⟩ := aval_sound (s := ⟨puts (fun j => decide (j < 0 + k)) 0 (ops.toList.take n) xs s.fr, s.os⟩) (a := az) (dst := o.dst) (ty := o.type) (pos := o.pos) (af := o.after) (g := o.guard) hL h1 (fun y hy => by
              have g := FR.get (s := ⟨puts (fun j => listed.getD j false || decide (j < k)) 0 (ops.toList.take n) xs s.fr, s.os⟩) q1 y
              cases y with
              | tmp t =>
                have := same t (List.mem_append_left _ (opTmps_spec hts hy))
                simp only [AS.get, List.getD_eq_getElem?_getD] at g ⊢
                rw [← this]; exact g
              | _ => exact g) hd2
            subst k1
            refine ⟨az.put o.dst v, ?_, by rw [put_defs]; exact q2.defs, by rw [put_size]; exact q2.size, fun t ht => ?_⟩
            · have f2 := FR.put (s := ⟨puts (fun j => listed.getD j false || decide (j < k)) 0 (ops.toList.take n) xs s.fr, s.os⟩) q1 k2 o.dst
              have e : (AS.put ⟨puts (fun j => listed.getD j false || decide (j < k)) 0 (ops.toList.take n) xs s.fr, s.os⟩ o.dst y).fr = puts (fun j => listed.getD j false || decide (j < k + 1)) 0 (ops.toList.take n) xs s.fr := by
                refine List.ext_getElem? fun t => ?_
                rw [r2]
                simp only [AS.put]
                by_cases e : d = t
                · subst e
                  rw [List.getElem?_set_self']
                  rcases Nat.lt_or_ge d s.fr.length with hlt | hge
                  · rw [List.getElem?_eq_getElem (by rw [puts_len]; exact hlt)]
                    exact (puts_hit (lst := fun j => listed.getD j false || decide (j < k + 1)) (ops.toList.take n) 0 xs s.fr k o (pre (by omega) ho) r2 hx (by simp) (fun m' o' g1 g2 => huniq m' k o' o d g1 (pre (by omega) ho) g2 r2) hlt).symm
                  · rw [List.getElem?_eq_none (by rw [puts_len]; exact hge), List.getElem?_eq_none (by rw [puts_len]; exact hge)]
                    rfl
                · rw [List.getElem?_set_ne e]
                  exact puts_agree _ _ _ _ _ (fun m o' ho' hd' => by
                    rw [Nat.zero_add]
                    have hne : m ≠ k := fun e2 => by
                      subst e2
                      rw [pre (by omega) ho] at ho'; cases ho'
                      rw [r2] at hd'; cases hd'; exact e rfl
                    rw [show decide (m < k + 1) = decide (m < k) from decide_eq_decide.2 (by omega)]) rfl
              rw [← e]; simpa [AS.put_os] using f2
            · rw [put_getD, if_neg (fun h => ht ⟨k, o, by omega, hlf, ho, h.1⟩)]
              exact q2.tmps t ht
      exact key n (Nat.le_refl _)
    have e : puts (fun j => listed.getD j false || decide (j < n)) 0 (ops.toList.take n) xs s.fr = sf.fr := by
      rw [hfr]
      refine List.ext_getElem? fun t => puts_agree _ _ _ _ _ (fun m o ho _ => ?_) rfl
      have : m < n := by have := (List.getElem?_eq_some_iff.1 ho).1; simp at this; omega
      simp [this]
    rw [e] at h3
    refine alate_any hL (miss := miss) (fun j o hj ho => by have := hopok j o (pre hj ho); rwa [Nat.zero_add] at this) (fun i o hi ho => ⟨(hsf i o hi ho).elim fun m h => h.2.1, fun S hS he j hj hns => hwait i o hi ho S hS he j hj hns, ?_⟩) hQ fuel n listed sf a' az w' A' hd F (Nat.le_refl _) hnle g1 (fun j hj hjs => by rw [gge j hj hjs]; simp; omega) gc gcl (by rw [hos]; exact h1) (by rw [hos]; exact h3) h4 (fun j o hj hjl ho => ?_) hK
    · obtain ⟨m, _, _, _, ts, g4, _⟩ := hsf i o hi ho
      refine ⟨ts, g4, fun j oj hmi hoj => ?_⟩
      obtain ⟨q1, _, ts', q2, d, tj, q3⟩ := hmiss i o hi ho j oj hmi hoj
      rw [g4] at q2; cases q2
      exact ⟨q1, d, tj, q3⟩
    · obtain ⟨r1, ⟨d, r2⟩, r3⟩ := hlatemiss j (g2 j hj hjl) o ho
      obtain ⟨x, hx, hd1⟩ := hdoes j o (pre hj ho)
      have hg : o.guard = none := by
        unfold lateOp at r1
        split at r1
        · assumption
        · cases r1
      have hd2 : aval (stdE np P) L ⟨puts (fun q => decide (q < 0 + j)) 0 (ops.toList.take n) xs s.fr, s.os⟩ o.op (· = x) := by
        unfold Does at hd1
        rw [hg] at hd1
        simp only at hd1
        rwa [aread_of_late r1] at hd1
      have hokk := hopok j o (pre hj ho)
      rw [Nat.zero_add] at hokk
      obtain ⟨ts, hts, _⟩ := hokk.reads
      have hpp := latePure_spec _ _ hpu j o (pre hj ho) r3
      have hget : ∀ y ∈ o.op.operands, sf.get y = AS.get ⟨puts (fun q => decide (q < 0 + j)) 0 (ops.toList.take n) xs s.fr, s.os⟩ y := fun y hy => by
        cases y with
        | tmp t =>
          have := look_same (xs := xs) (fr := s.fr) hokk (lst := fun _ => true) (fun _ _ _ => rfl) hts (List.mem_append_left _ (opTmps_spec hts hy))
          simp only [AS.get, List.getD_eq_getElem?_getD]
          rw [hfr, this]
        | _ => rfl
      refine ⟨r1, d, x, r2, fun z hz => ?_, aval_late r1 hget (hpp.imp (fun h => h) (fun h y hy => by rw [← hget y hy]; exact h y hy)) hd2, hpp⟩
      have hlt : d < s.fr.length := by
        have := (List.getElem?_eq_some_iff.1 hz).1
        rw [hfr, puts_len] at this; exact this
      rw [hfr, puts_hit (lst := fun _ => true) (ops.toList.take n) 0 xs s.fr j o (pre hj ho) r2 hx rfl (fun m' o' g1 g2 => huniq m' j o' o d g1 (pre hj ho) g2 r2) hlt] at hz
      cases hz; rfl
  · exact Nat.le_trans (List.length_filter_le _ _) (by simp)
  · intro j _ hj; simp [hj]
  · intro i o ho hi
    exfalso
    have : i < ops.size := by simpa using (List.getElem?_eq_some_iff.1 ho).1
    simp [this] at hi
  · have e : puts (fun j => (Array.replicate ops.size false).getD j false) 0 (ops.toList.take n) xs s.fr = s.fr := by
      have h0 : (fun j => (Array.replicate ops.size false).getD j false) = fun _ => false := by
        funext j
        by_cases h : j < ops.size <;> simp [h]
      rw [h0]
      have e2 : ∀ (l : List Oper) (i : Nat) (xs fr : List AV), puts (fun _ => false) i l xs fr = fr := by
        intro l
        induction l with
        | nil => intro i xs fr; simp [puts]
        | cons o l ih => intro i xs fr; cases xs with | nil => simp [puts] | cons x xs => simp [puts, put1, ih]
      exact e2 _ _ _ _
    rw [e]; exact hf'
end
end Go.Proofs.Ytjenekakcoggpaa
