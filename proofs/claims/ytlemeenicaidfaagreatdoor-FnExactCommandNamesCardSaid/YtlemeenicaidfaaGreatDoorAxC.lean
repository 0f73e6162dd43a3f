/- Soundness of the operations that make or change memory: one operation. -/
import Derived.Test.YtlemeenicaidfaaGreatDoorAxB
namespace Go.Proofs.YtlemeenicaidfaaGreatDoor
set_option linter.unusedVariables false
set_option linter.unusedSimpArgs false
open Go Go.RowKit

section
variable {P : Program} {np : Nat} {L : Lay} {W : WM} {w w' : World} {A : Nat → Prop} {os os' : List Obj} {hd hd' : Nat → Value} {F F' : Nat → Nat → Prop} {s : AS} {a : Act}

/-- The frame. -/
structure FR (w : World) (A : Nat → Prop) (os : List Obj) (hd : Nat → Value) (fr : List AV) (a : Act) : Prop where
 nodef : a.defers = []
 size : a.tmps.size = fr.length
 slots : ∀ (t : Nat) x, fr[t]? = some x → SRel w A os hd x (a.tmps.getD t undef)

theorem FR.get (h : FR w A s.os hd s.fr a) (y : Operand) : SRel w A s.os hd (s.get y) (a.eval y) := by
 cases y with
 | tmp t =>
  simp only [AS.get, Act.eval]
  by_cases ht : t < s.fr.length
  ·rw [show s.fr.getD t .any = s.fr[t] from by simp [List.getD, ht]]
   exact h.slots t _ (List.getElem?_eq_getElem ht)
  ·rw [show s.fr.getD t .any = .any from by simp [List.getD, ht]]
   exact .pure _ _ (.any _)
 | const v => exact .of_value v
 | global g => exact .pure _ _ (.any _)
 | func f => exact .pure _ _ (.fn f [] #[] rfl (fun i x hx => by simp at hx))

theorem FR.put (h : FR w A s.os hd s.fr a) {x v} (hx : SRel w A s.os hd x v) (d : Option Tmp) : FR w A (s.put d x).os hd (s.put d x).fr (a.put d v) := by
 cases d with
 | none => exact h
 | some d =>
  refine ⟨h.nodef, by simp [AS.put, Act.put, h.size], fun t y hy => ?_⟩
  simp only [AS.put] at hy ⊢
  simp only [Act.put]
  rw [List.getElem?_set] at hy
  split at hy
  ·rename_i e
   subst e
   split at hy
   ·rename_i hlt
    cases hy
    have : d < a.tmps.size := by rw [h.size]; exact hlt
    simpa [Array.getD, this] using hx
   ·cases hy
  ·rename_i e
   have := h.slots t y hy
   rw [Array.getD_eq_getD_getElem?] at this ⊢
   rw [Array.getElem?_setIfInBounds_ne e]
   exact this

theorem FR.os_mono {fr : List AV} (h : FR w A os hd fr a) (hm : ∀ y u, SRel w A os hd y u → SRel w' A os' hd' y u) : FR w' A os' hd' fr a :=
 ⟨h.nodef, h.size, fun t x hx => hm _ _ (h.slots t x hx)⟩

theorem wp_value {o : Oper} {next : Act → World → Prop} {Q : Exit → Act → World → Prop} {v : Value} (h : (execOp a.eval o).run P w = .ok (.value v) w') (hn : next (a.put o.dst v) w') : o.wp P a w next Q := by
 unfold Oper.wp
 rw [h]
 exact hn

/-- What has to be shown of an operation. -/
def StepOK [St] (P : Program) (W : WM) (w : World) (s : AS) (a : Act) (o : Oper) (K : AV → AS → Prop) : Prop :=
 ∀ (next : Act → World → Prop) (Q : Exit → Act → World → Prop), (∀ x s' v w' A' hd' F', K x s' → s'.fr = s.fr → CW W w' A' s'.os hd' F' → FR w' A' s'.os hd' s.fr a → SRel w' A' s'.os hd' x v → next (a.put o.dst v) w') → o.wp P a w next Q

/-- A new box. -/
theorem push_box [St] (hw : CW W w A s.os hd F) (hf : FR w A s.os hd s.fr a) {o : Oper} {K : AV → AS → Prop} {cs : List AV} {c : Array Value} {T : TypeId} (hc : c.size = cs.length) (hs : ∀ (i : Nat) x, cs[i]? = some x → SRel w A s.os hd x (c.getD i undef))
  (hr : (execOp a.eval o).run P w = .ok (.value (.pointer (some ⟨w.heap.size, 0, none⟩))) (w.alloc (.cells c T))) (hk : K (.pb s.os.length 0) ⟨s.fr, s.os ++ [.box cs]⟩) : StepOK P W w s a o K := by
 intro next Q hn
 have hkp := Keeps.alloc w c T
 have hA : ∀ y, A y → y < w.heap.size := fun y hy => (hw.hA y hy).1
 refine wp_value hr (hn _ ⟨s.fr, s.os ++ [.box cs]⟩ _ _ A _ _ hk rfl ((hw.keep hkp).push (.box cs) (.pointer (some ⟨w.heap.size, 0, none⟩)) (fun x => x = w.heap.size) (fun x hx => ?_) (fun k es e => by cases e) (fun cs' e => ?_)) (hf.os_mono fun y u h => (h.keep hA hkp).push _ _) (.pb _ _ _ (by simp) fun cs' ho => ?_))
 ·subst hx
  refine ⟨hw.below.new (Nat.le_refl _), by simp, fun h => Nat.lt_irrefl _ (hA _ h), fun id h => Nat.lt_irrefl _ (hw.fsz id _ h).2⟩
 ·cases e
  exact ⟨w.heap.size, T, c, rfl, heap_alloc_new w _, hc, fun i x hx => (hs i x hx).keep hA hkp, rfl⟩
 ·exact ⟨w.heap.size, updN_eq _ _ _, rfl⟩

theorem Z.of_av (c : Value) : SRel w A os hd (Z.of c).av c := by
 unfold Z.of
 split
 ·split
  ·rename_i h; subst h; exact .pure _ _ (.int _ _)
  ·exact .pure _ _ (.any _)
 ·split
  ·rename_i h; subst h; exact .pure _ _ (.bool _)
  ·exact .pure _ _ (.any _)
 ·rename_i b
  split
  ·rename_i h
   have : b = ⟨#[]⟩ := by
    cases b with | mk d => congr 1; exact Array.toList_inj.1 (by simpa using h)
   subst this
   exact .pure _ _ (.str _ (by simp [ByteArray.size]))
  ·exact .pure _ _ (.any _)
 ·split
  ·rename_i h; obtain ⟨rfl, rfl⟩ := h; exact .pure _ _ .nils
  ·exact .pure _ _ (.any _)
 ·exact .pure _ _ .nilp
 ·exact .pure _ _ (.any _)

/-- A type's zero value. -/
theorem lay_zero (hL : L.ty = layOf P) {t : TypeId} (h : (L.ty t).zero ≠ []) : ∃ i z, P.info? t = some i ∧ i.zero = some z ∧ (L.ty t).zero = z.cells.toList.map Z.of ∧ (L.ty t).n = i.size ∧ (L.ty t).bytes = i.bytes := by
 rw [hL] at *
 unfold layOf TyI.of at *
 cases hi : P.info? t with
 | none => simp [hi] at h
 | some i =>
  simp only [hi] at h ⊢
  cases hz : i.zero with
  | none => simp [hz, Z.ofAll] at h
  | some z => exact ⟨i, z, rfl, hz, by simp [Z.ofAll], rfl, rfl⟩
theorem zero_rel {z : Value} {i : Nat} {x : AV} (hx : ((z.cells.toList.map Z.of).map Z.av)[i]? = some x) : SRel w A os hd x (z.cells.getD i undef) := by
 rw [List.getElem?_map, List.getElem?_map, Array.getElem?_toList] at hx
 cases hc : z.cells[i]? with
 | none => simp [hc] at hx
 | some c =>
  simp [hc] at hx
  subst hx
  have h4 := (Array.getElem?_eq_some_iff.1 hc).1
  have h5 := (Array.getElem?_eq_some_iff.1 hc).2
  simpa [Array.getD, h4, h5] using Z.of_av c

theorem okCell_spec {x : AV} {v : Value} (h : s.okCell x = true) (hx : SRel w A s.os hd x v) (hrow : ∀ (id : Nat) k es, s.os[id]? = some (.row k es) → ∃ p n c, hd id = .slice p n c) : v.oneCell' = true := by
 unfold AS.okCell at h
 split at h
 case h_1 => cases hx.int_inv; rfl
 case h_2 => cases hx.bool_inv; rfl
 case h_3 => obtain ⟨rfl, _⟩ := hx.str_inv; rfl
 case h_4 => cases hx.nils_inv; rfl
 case h_5 => cases hx with | pure _ _ h => cases h; rfl
 case h_6 => obtain ⟨_, rfl, _⟩ := hx.fn_inv; rfl
 case h_7 => obtain ⟨_, _, rfl, _⟩ := hx.sl_inv.sl_len; rfl
 case h_8 => obtain ⟨_, _, rfl, _⟩ := hx.pp_inv.pp_inv; rfl
 case h_9 =>
  split at h
  ·rename_i ho
   rw [hx.ob_inv ho]
   obtain ⟨p, n, c, e⟩ := hrow _ _ _ ho
   rw [e]; rfl
  ·cases h
 case h_10 => cases h

theorem CW.row_hd [St] (hw : CW W w A os hd F) (id : Nat) k es (ho : os[id]? = some (.row k es)) : ∃ p n c, hd id = .slice p n c :=
 let ⟨p, c, h, _⟩ := (hw.rel_row ho).sl_len; ⟨p, _, c, h⟩

theorem okCells_get {l : List AV} (h : s.okCells l = true) {i : Nat} {x : AV} (hx : l[i]? = some x) : s.okCell x = true := by
 induction l generalizing i with
 | nil => simp at hx
 | cons y l ih =>
  unfold AS.okCells at h
  split at h
  ·cases i with
   | zero => simp at hx; subst hx; assumption
   | succ i => simp at hx; exact ih h hx
  ·cases h

/-- A value's cells. -/
theorem cl_spec [St] (hw : CW W w A s.os hd F) {x v cs} (h : s.cl x = some cs) (hx : SRel w A s.os hd x v) :
  v.cells.size = cs.length ∧ (∀ (i : Nat) y, cs[i]? = some y → SRel w A s.os hd y (v.cells.getD i undef)) ∧ ∀ u ∈ v.cells.toList, u.oneCell' = true := by
 unfold AS.cl at h
 split at h
 ·split at h
  ·rename_i hok
   cases h
   obtain ⟨vs, rfl, hn, hc⟩ := hx.agg_inv
   refine ⟨hn, hc, fun u hu => ?_⟩
   obtain ⟨i, hi, rfl⟩ := List.getElem_of_mem hu
   simp [Value.cells] at hi
   have h1 := hc i _ (List.getElem?_eq_getElem (by omega))
   have h2 := okCell_spec (okCells_get hok (List.getElem?_eq_getElem (by omega))) h1 hw.row_hd
   simpa [Array.getD, hi, Value.cells] using h2
  ·cases h
 ·split at h
  ·rename_i hok
   cases h
   have h2 := okCell_spec hok hx hw.row_hd
   have e : v.cells = #[v] := by
    cases v <;> first | rfl | (simp [Value.oneCell'] at h2)
   rw [e]
   refine ⟨rfl, fun i y hy => ?_, fun u hu => by simp at hu; rw [hu]; exact h2⟩
   cases i with
   | zero => simp at hy; subst hy; simpa using hx
   | succ i => simp at hy
  ·cases h

theorem step_alloc [St] (hL : L.ty = layOf P) (hw : CW W w A s.os hd F) (hf : FR w A s.os hd s.fr a) {dst ty pos af g} {t : TypeId} {K : AV → AS → Prop} (hk : astep (stdE np P) L s ⟨dst, .alloc t, ty, pos, af, g⟩ K) : StepOK P W w s a ⟨dst, .alloc t, ty, pos, af, g⟩ K := by
 simp only [astep] at hk
 split at hk
 ·exact hk.elim
 ·rename_i z zs hz
  obtain ⟨i, zv, h1, h2, h3, h4, _⟩ := lay_zero hL (t := t) (by rw [hz]; simp)
  refine push_box hw hf (c := zv.cells) (T := t) (cs := (z :: zs).map Z.av) ?_ (fun j x hx => ?_) ?_ (by simpa using hk)
  ·rw [← hz, h3]; simp
  ·rw [← hz, h3] at hx; exact zero_rel hx
  ·simp [execOp, Instr.alloc, zeroValue, typeInfo, h1, h2, newVar, newRow, go_sem]

theorem step_box [St] (hw : CW W w A s.os hd F) (hf : FR w A s.os hd s.fr a) {dst ty pos af g} {t : TypeId} {x : Operand} {K : AV → AS → Prop} (hk : astep (stdE np P) L s ⟨dst, .box t x, ty, pos, af, g⟩ K) : StepOK P W w s a ⟨dst, .box t x, ty, pos, af, g⟩ K := by
 simp only [astep] at hk
 split at hk
 ·rename_i cs hcs
  obtain ⟨h1, h2, _⟩ := cl_spec hw hcs (hf.get x)
  refine push_box hw hf (c := (a.eval x).cells) (T := t) h1 h2 ?_ hk
  simp only [execOp, Instr.box]
  rfl
 ·exact hk.elim

/-- An object's cells are written: the world. -/
theorem setRow_keeps [St] {b : Nat} {c' : Array Value} (G : Nat → Prop) (hG : G b) : Keeps G w (w.setRow b c') := by
 refine ⟨rfl, rfl, rfl, by simp [World.setRow], fun x _ hx => ?_, fun x _ => ?_, DrawLe.of (Nat.le_refl _)⟩
 case refine_2 =>
  simp only [World.frozen?, World.setRow, Array.getElem?_modify]
  by_cases e : b = x.block
  ·rw [if_pos e]
   generalize w.heap[x.block]? = o
   cases o with
   | none => rfl
   | some o => cases o <;> rfl
  ·rw [if_neg e]
 have : b ≠ x := fun e => hx (e ▸ hG)
 simp [World.setRow, Array.getElem?_modify, this]

theorem SRel.keepG [St] {x v} {G : Nat → Prop} (h : SRel w A os hd x v) (hA : ∀ y, A y → y < w.heap.size ∧ ¬ G y) (hk : Keeps G w w') : SRel w' A os hd x v :=
 h.mono (fun y hy => hk.block y (hA y hy).1 (hA y hy).2) (fun _ h => h)

/-- An object changes in place: its number and its header stay. -/
theorem CW.setAt [St] (h : CW W w A os hd F) {id : Nat} {o o' : Obj} (ho : os[id]? = some o) (hk : Keeps (F id) w w')
  (hkind : ∀ k es', o' = .row k es' → ∃ es, o = .row k es ∧ es.length = es'.length) (hkind' : ∀ cs', o' = .box cs' → ∃ cs, o = .box cs)
  (hrow : ∀ k es, o' = .row k es → XRel w' A (.sl true k es) (hd id) (F id))
  (hbox : (∀ y u, SRel w A os hd y u → SRel w' A (os.set id o') hd y u) → ∀ cs, o' = .box cs → ∃ b T c, hd id = .pointer (some ⟨b, 0, none⟩) ∧ w'.heap[b]? = some (.cells c T (0, 0)) ∧ c.size = cs.length ∧ (∀ (i : Nat) x, cs[i]? = some x → SRel w' A (os.set id o') hd x (c.getD i undef)) ∧ F id b)
  (hkindI : ∀ s p, o' = .iter s p → ∃ s0 p0, o = .iter s0 p0 := by intro s p h; cases h)
  (hit : ∀ s p, o' = .iter s p → ∃ b, hd id = .pointer (some ⟨b, 0, none⟩) ∧ w'.heap[b]? = some (.stringIter s p) ∧ F id b := by intro s p h; cases h) :
  CW W w' A (os.set id o') hd F ∧ ∀ y u, SRel w A os hd y u → SRel w' A (os.set id o') hd y u := by
 have hA : ∀ y, A y → y < w.heap.size ∧ ¬ F id y := fun y hy => ⟨(h.hA y hy).1, (h.hA y hy).2 id⟩
 have hlt := (List.getElem?_eq_some_iff.1 ho).1
 have hm : ∀ y u, SRel w A os hd y u → SRel w' A (os.set id o') hd y u := fun y u hy => by
  refine (hy.keepG hA hk).os_mono (by simp) (fun i k es' hi h' => ?_) (fun i cs' hi h' => ?_) (fun i s' p' hi h' => ?_)
  ·rw [List.getElem?_set] at h'
   split at h'
   ·rename_i e
    subst e
    simp at h'
    obtain ⟨es, e1, e2⟩ := hkind k es' h'
    exact ⟨es, by rw [ho, e1], e2, rfl⟩
   ·exact ⟨es', h', rfl, rfl⟩
  ·rw [List.getElem?_set] at h'
   split at h'
   ·rename_i e
    subst e
    simp at h'
    obtain ⟨cs, e1⟩ := hkind' cs' h'
    exact ⟨cs, by rw [ho, e1], rfl⟩
   ·exact ⟨cs', h', rfl⟩
  ·rw [List.getElem?_set] at h'
   split at h'
   ·rename_i e
    subst e
    simp at h'
    obtain ⟨s0, p0, e1⟩ := hkindI s' p' h'
    exact ⟨s0, p0, by rw [ho, e1], rfl⟩
   ·exact ⟨s', p', h', rfl⟩
 have hF : ∀ j, j ≠ id → ∀ x, F j x → x < w.heap.size ∧ ¬ F id x := fun j hj x hx => ⟨(h.fsz j x hx).2, fun h' => hj (h.disj _ _ _ hx h')⟩
 refine ⟨⟨?_, fun x hx => ⟨Nat.lt_of_lt_of_le (hA x hx).1 hk.size, (h.hA x hx).2⟩, fun i x hx => ⟨(h.fsz i x hx).1, Nat.lt_of_lt_of_le (h.fsz i x hx).2 hk.size⟩, h.disj, fun i k es h' => ?_, fun i cs h' => ?_, fun i s' p' h' => ?_, fun p hp => ⟨by simpa using (h.pin p hp).1, (h.pin p hp).2⟩, h.old⟩, hm⟩
 ·exact h.below.keep hk (fun x h' => (h.fsz id x h').1)
 ·rw [List.getElem?_set] at h'
  split at h'
  ·rename_i e
   subst e
   simp at h'
   exact hrow k es h'
  ·rename_i e
   exact (h.rows i k es h').mono (fun _ h => h) (fun x hx => hx.elim (fun hx => hk.block x (hA x hx).1 (hA x hx).2) (fun hx => hk.block x (hF i (Ne.symm e) x hx).1 (hF i (Ne.symm e) x hx).2))
 ·rw [List.getElem?_set] at h'
  split at h'
  ·rename_i e
   subst e
   simp at h'
   exact hbox hm cs h'
  ·rename_i e
   obtain ⟨b, T, c, e1, e2, e3, e4, e5⟩ := h.boxes i cs h'
   exact ⟨b, T, c, e1, by rw [hk.block b (hF i (Ne.symm e) b e5).1 (hF i (Ne.symm e) b e5).2]; exact e2, e3, fun j x hx => hm _ _ (e4 j x hx), e5⟩
 ·rw [List.getElem?_set] at h'
  split at h'
  ·rename_i e
   subst e
   simp at h'
   exact hit s' p' h'
  ·rename_i e
   obtain ⟨b, e1, e2, e3⟩ := h.iters i s' p' h'
   exact ⟨b, e1, by rw [hk.block b (hF i (Ne.symm e) b e3).1 (hF i (Ne.symm e) b e3).2]; exact e2, e3⟩

theorem splice_get {cs new : List AV} {off : Nat} (h : off + new.length ≤ cs.length) (i : Nat) :
  (splice cs off new)[i]? = if i < off then cs[i]? else if i < off + new.length then new[i - off]? else cs[i]? := by
 unfold splice
 rw [List.getElem?_append]
 simp only [List.length_take, Nat.min_eq_left (by omega : off ≤ cs.length)]
 split
 ·rw [List.getElem?_take, if_pos (by assumption)]
 ·rw [List.getElem?_append]
  split
  ·rw [if_pos (by omega)]
  ·rw [if_neg (by omega), List.getElem?_drop]
   congr 1
   omega
theorem splice_len {cs new : List AV} {off : Nat} (h : off + new.length ≤ cs.length) : (splice cs off new).length = cs.length := by
 simp [splice]; omega
/-- What a row of cells is behind a store. -/
def spliceV (c : Array Value) (off : Nat) (new : List Value) : Array Value := (c.toList.take off ++ new ++ c.toList.drop (off + new.length)).toArray
theorem spliceV_size {c : Array Value} {off : Nat} {new : List Value} (h : off + new.length ≤ c.size) : (spliceV c off new).size = c.size := by
 simp [spliceV]; omega
theorem spliceV_getD {c : Array Value} {off : Nat} {new : List Value} (h : off + new.length ≤ c.size) (i : Nat) :
  (spliceV c off new).getD i undef = if i < off then c.getD i undef else if i < off + new.length then new.getD (i - off) undef else c.getD i undef := by
 rw [← toList_getD]
 unfold spliceV
 simp only [List.append_assoc, List.getD_eq_getElem?_getD]
 rw [List.getElem?_append]
 simp only [List.length_take, Array.length_toList, Nat.min_eq_left (by omega : off ≤ c.size)]
 split
 ·rw [List.getElem?_take, if_pos (by assumption), ← toList_getD, List.getD_eq_getElem?_getD]
 ·rw [List.getElem?_append]
  split
  ·rw [if_pos (by omega)]
  ·rw [if_neg (by omega), List.getElem?_drop, ← toList_getD, List.getD_eq_getElem?_getD]
   congr 2
   omega

theorem run_storeVar (hL : L.ty = layOf P) {t : TypeId} (hd' : (L.ty t).d ≠ .other) {b off : Nat} {c : Array Value} {T : TypeId} {v : Value} (hb : w.heap[b]? = some (.cells c T (0, 0))) (hn : v.cells.size = (L.ty t).n)
  (hl : off + v.cells.size ≤ c.size) (h1 : ∀ u ∈ v.cells.toList, u.oneCell' = true) :
  (storeVar t ⟨b, off, none⟩ v).run P w = .ok () (w.setRow b (spliceV c off v.cells.toList)) := by
 unfold storeVar
 rw [Sem.run_bind, run_sizeOf hL hd']
 simp only [Result.andThen_ok]
 rw [if_neg (by simp [hn])]
 have := run_storeCells_at P b off T v.cells.toList 0 c w hb (by simpa using hl) h1
 simp only [Nat.add_zero] at this
 exact this
end
end Go.Proofs.YtlemeenicaidfaaGreatDoor

/- Soundness of stores, of built values and of appends. -/
namespace Go.Proofs.YtlemeenicaidfaaGreatDoor
set_option linter.unusedVariables false
set_option linter.unusedSimpArgs false
open Go Go.RowKit

section
variable {P : Program} {np : Nat} {L : Lay} {W : WM} {w w' : World} {A : Nat → Prop} {os os' : List Obj} {hd hd' : Nat → Value} {F F' : Nat → Nat → Prop} {s : AS} {a : Act}

theorem wp_skip' {o : Oper} {next : Act → World → Prop} {Q : Exit → Act → World → Prop} (h : (execOp a.eval o).run P w = .ok .skip w') (hn : next (a.put o.dst undef) w') : o.wp P a w next Q := by
 unfold Oper.wp
 rw [h]
 exact hn

theorem run_store_op {t : TypeId} {x y : Operand} {Ad : Addr} {dst : Option Tmp} {ty : TypeId} {pos : String} {af : Array Edge} {g : Option (Nat × Bool)}
  (hp : a.eval x = .pointer (some Ad)) (h : (storeVar t Ad (a.eval y)).run P w = .ok () w') : (execOp a.eval ⟨dst, .store t x y, ty, pos, af, g⟩).run P w = .ok .skip w' := by
 simp only [execOp, hp, Instr.storeAt, Instr.sureAddr]
 rw [Sem.run_bind]
 have h1 : (do storeVar t (← (pure Ad : Sem Addr)) (a.eval y) : Sem Unit).run P w = .ok () w' := h
 rw [h1]
 rfl

theorem step_store_box [St] (hL : L.ty = layOf P) (hw : CW W w A s.os hd F) (hf : FR w A s.os hd s.fr a) {dst ty pos af g} {t : TypeId} {x y : Operand} {K : AV → AS → Prop} {id off : Nat} {cs new : List AV}
  (hx : s.get x = .pb id off) (ho : s.os[id]? = some (.box cs)) (hcl : s.cl (s.get y) = some new) (hd0 : (L.ty t).d ≠ .other) (hl : off + new.length ≤ cs.length) (hn : new.length = (L.ty t).n)
  (hk : K .und ⟨s.fr, s.os.set id (.box (splice cs off new))⟩) : StepOK P W w s a ⟨dst, .store t x y, ty, pos, af, g⟩ K := by
 intro next Q hnx
 have h1 := hf.get x
 rw [hx] at h1
 obtain ⟨b, T, c, e1, e2, e3, e4, hp, hc⟩ := box_pt hw ho
 obtain ⟨b', e5, e6⟩ := h1.pb_inv ho
 rw [e1] at e5
 cases e5
 obtain ⟨h2, h3, h4⟩ := cl_spec hw hcl (hf.get y)
 have hr := run_storeVar (P := P) (w := w) hL hd0 (off := off) e2 (by rw [h2]; exact hn) (by rw [h2, e3]; exact hl) h4
 have hl' : off + (a.eval y).cells.toList.length ≤ c.size := by rw [e3, Array.length_toList, h2]; exact hl
 obtain ⟨hw', hm⟩ := hw.setAt (o' := .box (splice cs off new)) ho (setRow_keeps (c' := spliceV c off (a.eval y).cells.toList) (F id) e4) (fun k es' e => by cases e) (fun cs' e => ⟨cs, rfl⟩) (fun k es e => by cases e) (fun hm cs' e => by
  cases e
  refine ⟨b, T, _, e1, setRow_heap w b c _ T _ e2, by rw [spliceV_size hl', splice_len hl, e3], fun i z hz => ?_, e4⟩
  rw [splice_get hl] at hz
  rw [spliceV_getD hl', Array.length_toList, h2]
  split
  ·rename_i h5
   rw [if_pos h5] at hz
   exact hm _ _ (hc i z hz)
  ·rename_i h5
   rw [if_neg h5] at hz
   split
   ·rename_i h6
    rw [if_pos h6] at hz
    rw [toList_getD]
    exact hm _ _ (h3 (i - off) z hz)
   ·rename_i h6
    rw [if_neg h6] at hz
    exact hm _ _ (hc i z hz))
 exact wp_skip' (run_store_op e6 hr) (hnx _ _ _ _ A hd F hk rfl hw' (hf.os_mono hm) (.pure _ _ .und))

/-- An object is given up: what it owned is free. -/
theorem CW.kill [St] (h : CW W w A os hd F) (id : Nat) : CW W w A (os.set id .dead) hd (updN F id fun _ => False) ∧ ∀ y u, SRel w A os hd y u → SRel w A (os.set id .dead) hd y u := by
 have hm : ∀ y u, SRel w A os hd y u → SRel w A (os.set id .dead) hd y u := fun y u hy => by
  refine hy.os_mono (by simp) (fun i k es' hi h' => ?_) (fun i cs' hi h' => ?_) (fun i s' p' hi h' => ?_)
  ·rw [List.getElem?_set] at h'
   split at h'
   ·split at h' <;> simp at h'
   ·exact ⟨es', h', rfl, rfl⟩
  ·rw [List.getElem?_set] at h'
   split at h'
   ·split at h' <;> simp at h'
   ·exact ⟨cs', h', rfl⟩
  ·rw [List.getElem?_set] at h'
   split at h'
   ·split at h' <;> simp at h'
   ·exact ⟨s', p', h', rfl⟩
 have hsub : ∀ i x, updN F id (fun _ => False) i x → F i x ∧ i ≠ id := fun i x hx => by
  unfold updN at hx
  split at hx
  ·exact hx.elim
  ·exact ⟨hx, by assumption⟩
 refine ⟨⟨h.below, fun x hx => ⟨(h.hA x hx).1, fun i hi => (h.hA x hx).2 i (hsub i x hi).1⟩, fun i x hx => h.fsz i x (hsub i x hx).1, fun i j x hi hj => h.disj i j x (hsub i x hi).1 (hsub j x hj).1, fun i k es h' => ?_, fun i cs h' => ?_, fun i s' p' h' => ?_, fun p hp => ⟨by simpa using (h.pin p hp).1, (h.pin p hp).2⟩, h.old⟩, hm⟩
 ·rw [List.getElem?_set] at h'
  split at h'
  ·split at h' <;> simp at h'
  ·rename_i e
   rw [updN_ne _ _ _ (Ne.symm e)]
   exact h.rows i k es h'
 ·rw [List.getElem?_set] at h'
  split at h'
  ·split at h' <;> simp at h'
  ·rename_i e
   rw [updN_ne _ _ _ (Ne.symm e)]
   obtain ⟨b, T, c, e1, e2, e3, e4, e5⟩ := h.boxes i cs h'
   exact ⟨b, T, c, e1, e2, e3, fun j x hx => hm _ _ (e4 j x hx), e5⟩
 ·rw [List.getElem?_set] at h'
  split at h'
  ·split at h' <;> simp at h'
  ·rename_i e
   rw [updN_ne _ _ _ (Ne.symm e)]
   exact h.iters i s' p' h'

/-- What has come of a value that goes into an own row: 'G' is its memory, taken out of the objects. -/
def Leave [St] (W : WM) (w : World) (A : Nat → Prop) (s : AS) (hd : Nat → Value) (F : Nat → Nat → Prop) (K : AS → (Nat → Nat → Prop) → Prop) : Prop :=
 ∃ s' F', s'.fr = s.fr ∧ s'.os.length = s.os.length ∧ CW W w A s'.os hd F' ∧ (∀ y u, SRel w A s.os hd y u → SRel w A s'.os hd y u) ∧ (∀ id y, F' id y → F id y) ∧ K s' F'

theorem own1_sound [St] (hw : CW W w A s.os hd F) {x v} {K : AV → AS → Prop} (hx : SRel w A s.os hd x v) (hk : s.own1 x K) :
  Leave W w A s hd F fun s' F' => ∃ x' G, K x' s' ∧ XRel w A x' v G ∧ (∀ y, G y → (∃ id, F id y) ∧ ∀ id, ¬ F' id y) ∧ v.oneCell' = true := by
 have flat : ∀ x', Rel w A x' v → x'.isOwn = false → v.oneCell' = true → K x' s → Leave W w A s hd F fun s' F' => ∃ x' G, K x' s' ∧ XRel w A x' v G ∧ (∀ y, G y → (∃ id, F id y) ∧ ∀ id, ¬ F' id y) ∧ v.oneCell' = true :=
  fun x' h1 h2 h3 h4 => ⟨s, F, rfl, rfl, hw, fun _ _ h => h, fun _ _ h => h, x', fun _ => False, h4, .pure _ _ _ h1 h2 (fun _ h => h), fun y h => h.elim, h3⟩
 unfold AS.own1 at hk
 split at hk
 ·cases hx.int_inv; exact flat _ (.int _ _) rfl rfl hk
 ·cases hx.bool_inv; exact flat _ (.bool _) rfl rfl hk
 ·obtain ⟨rfl, h⟩ := hx.str_inv; exact flat _ (.str _ h) rfl rfl hk
 ·cases hx.nils_inv
  exact ⟨s, F, rfl, rfl, hw, fun _ _ h => h, fun _ _ h => h, _, fun _ => False, hk, .nil _ _ (fun _ h => h), fun y h => h.elim, rfl⟩
 ·cases hx with | pure _ _ h => cases h; exact flat _ .nilp rfl rfl hk
 ·obtain ⟨p, cap, rfl, _⟩ := hx.sl_inv.sl_len
  refine flat _ ?_ rfl rfl hk
  have := hx.sl_inv
  cases this with
  | sl _ _ _ _ _ b off val hl hcap hp hk' hc h1c hr => exact .sl _ _ _ _ _ b off val hl hcap hp hk' hc h1c hr
 ·cases hx with
  | pure _ _ h => cases h with
   | hd _ _ h1 h => exact flat _ (.hd _ _ h1 h) rfl h1 hk
 ·split at hk
  ·rename_i id _ k es ho
   obtain ⟨hw', hm⟩ := hw.kill id
   refine ⟨⟨s.fr, s.os.set id .dead⟩, _, rfl, by simp, hw', hm, fun i y h => ?_, _, F id, hk, by rw [hx.ob_inv ho]; exact hw.rows id k es ho, fun y hy => ⟨⟨id, hy⟩, fun i h => ?_⟩, ?_⟩
   ·unfold updN at h
    split at h
    ·exact h.elim
    ·exact h
   ·unfold updN at h
    split at h
    ·exact h
    ·rename_i hne
     exact hne (hw.disj _ _ _ h hy)
   ·rw [hx.ob_inv ho]
    obtain ⟨p, n, c, e⟩ := hw.row_hd id k es ho
    rw [e]; rfl
  ·exact hk.elim
 ·exact hk.elim

theorem ownL_sound [St] : ∀ (l : List AV) (vs : List Value) (s : AS) (F : Nat → Nat → Prop) (K : List AV → AS → Prop), CW W w A s.os hd F → vs.length = l.length →
  (∀ (i : Nat) x, l[i]? = some x → SRel w A s.os hd x (vs.getD i undef)) → s.ownL l K →
  Leave W w A s hd F fun s' F' => ∃ (l' : List AV) (G : Nat → Nat → Prop), K l' s' ∧ l'.length = vs.length ∧ (∀ (i : Nat) x, l'[i]? = some x → XRel w A x (vs.getD i undef) (G i)) ∧
   (∀ i y, i < vs.length → G i y → (∃ id, F id y) ∧ ∀ id, ¬ F' id y) ∧ (∀ i j y, i < vs.length → j < vs.length → G i y → G j y → i = j) ∧ ∀ u ∈ vs, u.oneCell' = true
 | [], [], s, F, K, hw, _, _, hk => ⟨s, F, rfl, rfl, hw, fun _ _ h => h, fun _ _ h => h, [], fun _ _ => False, hk, rfl, fun i x hx => by simp at hx, fun i y hi => by simp at hi, fun i j y hi => by simp at hi, fun u hu => by simp at hu⟩
 | [], _ :: _, _, _, _, _, hn, _, _ => by simp at hn
 | _ :: _, [], _, _, _, _, hn, _, _ => by simp at hn
 | x :: l, v :: vs, s, F, K, hw, hn, hc, hk => by
  unfold AS.ownL at hk
  obtain ⟨s1, F1, e1, l1, hw1, hm1, hF1, x', G0, hk1, hx', hG0, h1⟩ := own1_sound hw (by simpa using hc 0 x (by simp)) hk
  obtain ⟨s2, F2, e2, l2, hw2, hm2, hF2, l', G, hk2, hl2, hc2, hG, hdj, h2⟩ := ownL_sound l vs s1 F1 _ hw1 (by simpa using hn) (fun i y hy => hm1 _ _ (by simpa using hc (i + 1) y (by simpa using hy))) hk1
  refine ⟨s2, F2, e2.trans e1, l2.trans l1, hw2, fun y u h => hm2 y u (hm1 y u h), fun id y h => hF1 id y (hF2 id y h), x' :: l', fun i => match i with | 0 => G0 | i + 1 => G i, hk2, by simp [hl2], fun i y hy => ?_, fun i y hi hy => ?_, fun i j y hi hj h3 h4 => ?_, fun u hu => ?_⟩
  ·cases i with
   | zero => simp at hy; subst hy; simpa using hx'
   | succ i => simp at hy; simpa using hc2 i y hy
  ·cases i with
   | zero => exact ⟨(hG0 y hy).1, fun id h => (hG0 y hy).2 id (hF2 id y h)⟩
   | succ i =>
    obtain ⟨⟨id, h5⟩, h6⟩ := hG i y (by simpa using hi) hy
    exact ⟨⟨id, hF1 id y h5⟩, h6⟩
  ·cases i with
   | zero =>
    cases j with
    | zero => rfl
    | succ j =>
     obtain ⟨⟨id, h5⟩, _⟩ := hG j y (by simpa using hj) h4
     exact ((hG0 y h3).2 id h5).elim
   | succ i =>
    cases j with
    | zero =>
     obtain ⟨⟨id, h5⟩, _⟩ := hG i y (by simpa using hi) h3
     exact ((hG0 y h4).2 id h5).elim
    | succ j => rw [hdj i j y (by simpa using hi) (by simpa using hj) h3 h4]
  ·rcases List.mem_cons.1 hu with rfl | hu
   ·exact h1
   ·exact h2 u hu

theorem foldl_set (off : Nat) : ∀ (l : List Value) (j : Nat) (c : Array Value), off + j + l.length ≤ c.size →
  ((l.zipIdx j).foldl (fun cs (x : Value × Nat) => cs.setIfInBounds (off + x.2) x.1) c).size = c.size ∧
  ∀ i, ((l.zipIdx j).foldl (fun cs (x : Value × Nat) => cs.setIfInBounds (off + x.2) x.1) c).getD i undef = if off + j ≤ i ∧ i < off + j + l.length then l.getD (i - (off + j)) undef else c.getD i undef
 | [], j, c, _ => by simp; omega
 | v :: l, j, c, h => by
  simp only [List.length_cons] at h
  obtain ⟨h1, h2⟩ := foldl_set off l (j + 1) (c.setIfInBounds (off + j) v) (by simp; omega)
  simp only [List.zipIdx_cons, List.foldl_cons]
  refine ⟨by rw [h1]; simp, fun i => ?_⟩
  rw [h2]
  have hs : (c.setIfInBounds (off + j) v).getD i undef = if i = off + j then v else c.getD i undef := by
   rw [Array.getD_eq_getD_getElem?, Array.getElem?_setIfInBounds]
   have : off + j < c.size := by omega
   split
   ·rename_i e; subst e; simp
   ·rename_i e; rw [if_neg (Ne.symm e), ← Array.getD_eq_getD_getElem?]
  rw [hs]
  by_cases e : i = off + j
  ·subst e
   rw [if_neg (by omega), if_pos rfl, if_pos ⟨by omega, by simp only [List.length_cons]; omega⟩]
   simp
  ·by_cases e2 : off + j ≤ i ∧ i < off + j + (l.length + 1)
   ·rw [if_pos (by omega), if_pos (by simpa using e2)]
    obtain ⟨m, hm⟩ : ∃ m, i - (off + j) = m + 1 := ⟨i - (off + j) - 1, by omega⟩
    rw [hm, show i - (off + (j + 1)) = m from by omega]
    simp
   ·rw [if_neg (by omega), if_neg e, if_neg (by simpa using e2)]

theorem fill_sound [St] (hw : CW W w A s.os hd F) (place : Nat → Option (Nat × Nat)) : ∀ (parts : List (Nat × Operand)) (cells : List AV) (c : Array Value) (cs : List AV), (∀ p ∈ parts, SRel w A s.os hd (s.get p.2) (a.eval p.2)) →
  c.size = cells.length → (∀ (i : Nat) x, cells[i]? = some x → SRel w A s.os hd x (c.getD i undef)) → s.fill place cells parts = some cs →
  ∃ c', Instr.fill place c (parts.map fun p => (p.1, a.eval p.2)) = some c' ∧ c'.size = cs.length ∧ ∀ (i : Nat) x, cs[i]? = some x → SRel w A s.os hd x (c'.getD i undef)
 | [], cells, c, cs, _, hn, hc, hk => by
  unfold AS.fill at hk
  cases hk
  exact ⟨c, rfl, hn, hc⟩
 | (i, x) :: rest, cells, c, cs, hx, hn, hc, hk => by
  unfold AS.fill at hk
  split at hk
  ·rename_i off size new hp hcl
   split at hk
   ·rename_i hsz
    obtain ⟨h1, h2, _⟩ := cl_spec hw hcl (hx (i, x) (by simp))
    obtain ⟨h3, h4⟩ := foldl_set off (a.eval x).cells.toList 0 c (by rw [Array.length_toList, h1, hn]; simpa using hsz.2)
    obtain ⟨c', e1, e2, e3⟩ := fill_sound hw place rest (splice cells off new) ((a.eval x).cells.toList.zipIdx.foldl (fun cs (x : Value × Nat) => cs.setIfInBounds (off + x.2) x.1) c) cs (fun p hp => hx p (by simp [hp])) (by rw [h3, hn, splice_len hsz.2]) (fun j y hy => by
     rw [h4]
     rw [splice_get hsz.2] at hy
     simp only [Nat.add_zero, Array.length_toList, h1]
     split at hy
     ·rw [if_neg (by omega)]; exact hc j y hy
     ·split at hy
      ·rw [if_pos (by omega), toList_getD]; exact h2 _ y hy
      ·rw [if_neg (by omega)]; exact hc j y hy) hk
    refine ⟨c', ?_, e2, e3⟩
    simp only [List.map_cons, Instr.fill, hp]
    rw [if_neg (by simp [h1, hsz.1, hn]; omega)]
    rw [← e1]
    congr 1
    rw [← Array.foldl_toList, Array.toList_zipIdx]
   ·cases hk
  ·cases hk

/-- The world changes in memory that is nobody's. -/
theorem CW.keepG [St] (h : CW W w A os hd F) {G : Nat → Prop} (hk : Keeps G w w') (hG : ∀ x, G x → W.new x ∧ ¬ A x ∧ ∀ id, ¬ F id x) : CW W w' A os hd F ∧ ∀ y u, SRel w A os hd y u → SRel w' A os hd y u := by
 have hA : ∀ y, A y → y < w.heap.size ∧ ¬ G y := fun y hy => ⟨(h.hA y hy).1, fun hg => (hG y hg).2.1 hy⟩
 have hF : ∀ i y, F i y → y < w.heap.size ∧ ¬ G y := fun i y hy => ⟨(h.fsz i y hy).2, fun hg => (hG y hg).2.2 i hy⟩
 have hm : ∀ y u, SRel w A os hd y u → SRel w' A os hd y u := fun y u hy => hy.keepG hA hk
 refine ⟨⟨?_, fun x hx => ⟨Nat.lt_of_lt_of_le (hA x hx).1 hk.size, (h.hA x hx).2⟩, fun i x hx => ⟨(h.fsz i x hx).1, Nat.lt_of_lt_of_le (h.fsz i x hx).2 hk.size⟩, h.disj, fun i k es h' => ?_, fun i cs h' => ?_, fun i s' p' h' => ?_, h.pin, h.old⟩, hm⟩
 ·exact h.below.keep hk (fun x h' => (hG x h').1)
 ·exact (h.rows i k es h').mono (fun _ h => h) (fun x hx => hx.elim (fun hx => hk.block x (hA x hx).1 (hA x hx).2) (fun hx => hk.block x (hF i x hx).1 (hF i x hx).2))
 ·obtain ⟨b, T, c, e1, e2, e3, e4, e5⟩ := h.boxes i cs h'
  exact ⟨b, T, c, e1, by rw [hk.block b (hF i b e5).1 (hF i b e5).2]; exact e2, e3, fun j x hx => hm _ _ (e4 j x hx), e5⟩
 ·obtain ⟨b, e1, e2, e3⟩ := h.iters i s' p' h'
  exact ⟨b, e1, by rw [hk.block b (hF i b e3).1 (hF i b e3).2]; exact e2, e3⟩

/-- A new row in a block of its own. -/
theorem push_new [St] (hw : CW W w A os hd F) {w' : World} (hk : Keeps (fun _ => False) w w') {b : Nat} {c : Array Value} {T : TypeId} (hb : w'.heap[b]? = some (.cells c T (0, 0))) (hb0 : w.heap.size ≤ b)
  {k cap : Nat} {es : List (List AV)} {G : Nat → Nat → Nat → Prop} (hl : es.length ≤ maxLen) (hcap : es.length ≤ cap) (hsz : cap * k ≤ c.size) (hke : ∀ e ∈ es, e.length = k)
  (h1 : ∀ i j, i < es.length → j < k → (c.getD (i * k + j) undef).oneCell' = true)
  (hr : ∀ (i j : Nat) e x, es[i]? = some e → e[j]? = some x → XRel w A x (c.getD (i * k + j) undef) (G i j))
  (hG : ∀ i j y, i < es.length → j < k → G i j y → W.new y ∧ y < w.heap.size ∧ ¬ A y ∧ ∀ id, ¬ F id y)
  (hdj : ∀ i j i' j' x, i < es.length → j < k → i' < es.length → j' < k → G i j x → G i' j' x → i = i' ∧ j = j') :
  CW W w' A (os ++ [.row k es]) (updN hd os.length (.slice (some ⟨b, 0, none⟩) es.length cap)) (updN F os.length fun x => x = b ∨ ∃ i j, i < es.length ∧ j < k ∧ G i j x) ∧
  ∀ y u, SRel w A os hd y u → SRel w' A (os ++ [.row k es]) (updN hd os.length (.slice (some ⟨b, 0, none⟩) es.length cap)) y u := by
 have hA : ∀ y, A y → y < w.heap.size := fun y hy => (hw.hA y hy).1
 have hb1 : b < w'.heap.size := (Array.getElem?_eq_some_iff.1 hb).1
 refine ⟨(hw.keep hk).push _ _ _ (fun x hx => ?_) (fun k' es' e => ?_) (fun cs e => by cases e), fun y u hy => (hy.keep hA hk).push _ _⟩
 ·rcases hx with rfl | ⟨i, j, hi, hj, hx⟩
  ·exact ⟨hw.below.new hb0, hb1, fun h => by have := hA _ h; omega, fun id h => by have := (hw.fsz id _ h).2; omega⟩
  ·obtain ⟨g1, g2, g3, g4⟩ := hG i j x hi hj hx
   exact ⟨g1, Nat.lt_of_lt_of_le g2 hk.size, g3, g4⟩
 ·cases e
  refine .sl k es cap b T c _ G hb hl hcap hsz hke h1 (fun i j e x he hx => ?_) (fun _ => Iff.rfl) (fun i j hi hj h => ?_) hdj
  ·have hi := (List.getElem?_eq_some_iff.1 he).1
   have hj := (List.getElem?_eq_some_iff.1 hx).1
   rw [hke e (List.mem_of_getElem? he)] at hj
   exact (hr i j e x he hx).mono (fun _ h => h) (fun y hy => hk.block y (hy.elim (fun h => hA y h) (fun h => (hG i j y hi hj h).2.1)) (fun h => h))
  ·have := (hG i j b hi hj h).2.1
   omega

theorem rowsOf_length (k : Nat) : ∀ (n : Nat) (cs : List AV), (rowsOf k n cs).length = n
 | 0, _ => rfl
 | n + 1, cs => by simp [rowsOf, rowsOf_length k n]
theorem rowsOf_get (k : Nat) : ∀ (n : Nat) (cs : List AV) (i : Nat) e, (rowsOf k n cs)[i]? = some e → e = (cs.drop (i * k)).take k
 | 0, cs, i, e, h => by simp [rowsOf] at h
 | n + 1, cs, i, e, h => by
  cases i with
  | zero => simp [rowsOf] at h; simp [h]
  | succ i =>
   simp only [rowsOf, List.getElem?_cons_succ] at h
   rw [rowsOf_get k n _ i e h, List.drop_drop, Nat.add_mul]
   congr 2
   omega
theorem zeros_length (z : List AV) : ∀ n, (zeros z n).length = n * z.length
 | 0 => by simp [zeros]
 | n + 1 => by simp [zeros, zeros_length z n, Nat.add_mul]; omega
theorem zeros_get (z : List AV) (hz : 0 < z.length) : ∀ n i, i < n * z.length → (zeros z n)[i]? = z[i % z.length]?
 | 0, i, h => by simp at h
 | n + 1, i, h => by
  unfold zeros
  rw [List.getElem?_append]
  split
  ·rename_i hi; rw [Nat.mod_eq_of_lt hi]
  ·rename_i hi
   rw [zeros_get z hz n _ (by rw [Nat.add_mul] at h; omega)]
   congr 1
   rw [Nat.mod_eq_sub_mod (by omega : i ≥ z.length)]

theorem madeZero (z : Array Value) (n i : Nat) (hi : i < n) : ((Array.range n).map fun j => z[j % z.size]!).getD i undef = z[i % z.size]! := by
 rw [Array.getD_eq_getD_getElem?]
 simp [hi]
theorem getElem!_getD (z : Array Value) (i : Nat) (h : i < z.size) : z[i]! = z.getD i undef := by
 simp [Array.getD, h]

theorem known_get {fs : List (Nat × TypeId)} (h : known L fs = true) {i : Nat} {f : Nat × TypeId} (hf : fs[i]? = some f) : (L.ty f.2).d ≠ .other := by
 induction fs generalizing i with
 | nil => simp at hf
 | cons g fs ih =>
  unfold known at h
  split at h
  ·cases h
  ·cases i with
   | zero => simp at hf; subst hf; assumption
   | succ i => simp at hf; exact ih h hf

theorem built_struct [St] (hL : L.ty = layOf P) (hw : CW W w A s.os hd F) {dst ty pos af g} {t : TypeId} {parts : Array (Nat × Operand)} {fs : List (Nat × TypeId)} {cs : List AV}
  (hd0 : (L.ty t).d = .struct fs) (hz : (L.ty t).zero ≠ []) (hkn : known L fs = true) (hcs : s.fill (fun i => (fs[i]?).map fun f => (f.1, (L.ty f.2).n)) ((L.ty t).zero.map Z.av) parts.toList = some cs) (hx : ∀ p ∈ parts.toList, SRel w A s.os hd (s.get p.2) (a.eval p.2)) :
  ∃ v, (execOp a.eval ⟨dst, .build t parts, ty, pos, af, g⟩).run P w = .ok (.value v) w ∧ SRel w A s.os hd (.agg cs) v := by
 obtain ⟨gs, hu, hfs⟩ := lay_struct hL hd0
 obtain ⟨i, z, h1, h2, h3, _, _⟩ := lay_zero hL hz
 have hpl : gs.toList.mapM (fun f => (P.info? f.type).map fun i => (f.offset, i.size)) = some (gs.toList.map fun f => (f.offset, (L.ty f.type).n)) := by
  have : ∀ l : List Field, (∀ f ∈ l, (L.ty f.type).d ≠ .other) → l.mapM (fun f => (P.info? f.type).map fun i => (f.offset, i.size)) = some (l.map fun f => (f.offset, (L.ty f.type).n)) := by
   intro l
   induction l with
   | nil => intro _; rfl
   | cons f l ih =>
    intro h
    obtain ⟨i, e1, e2, _⟩ := lay_info hL (h f (by simp))
    simp [List.mapM_cons, e1, e2, ih (fun f hf => h f (by simp [hf]))]
  refine this _ (fun f hf => ?_)
  obtain ⟨j, hj⟩ := List.getElem?_of_mem hf
  exact known_get hkn (i := j) (f := (f.offset, f.type)) (by rw [hfs, List.getElem?_map, hj]; rfl)
 have hplace : (fun i : Nat => (gs.toList.map fun f => (f.offset, (L.ty f.type).n)).toArray[i]?) = fun i => (fs[i]?).map fun f => (f.1, (L.ty f.2).n) := by
  funext i
  rw [hfs]
  simp only [List.getElem?_toArray, List.getElem?_map]
  cases gs.toList[i]? <;> rfl
 obtain ⟨c', e1, e2, e3⟩ := fill_sound hw _ parts.toList _ z.cells cs hx (by rw [h3]; simp) (fun i x hx => by rw [h3] at hx; exact zero_rel hx) hcs
 refine ⟨.agg c', ?_, .agg _ _ e2 e3⟩
 have hr : (Instr.build t (parts.map fun (i, x) => (i, a.eval x))).run P w = .ok (.agg c') w := by
  rw [← hplace] at e1
  simp only [List.getElem?_toArray, List.getElem?_map, Array.getElem?_toList] at e1
  simp only [Instr.build, Sem.run_bind, zeroValue, typeInfo]
  simp [run_underlying hu, h1, h2, Array.mapM_eq_mapM_toList, run_places w _ _ hpl, e1]
 simp only [execOp]
 rw [Sem.run_bind, hr]
 rfl

theorem built_array [St] (hL : L.ty = layOf P) (hw : CW W w A s.os hd F) {dst ty pos af g} {t e : TypeId} {len : Nat} {parts : Array (Nat × Operand)} {cs : List AV}
  (hd0 : (L.ty t).d = .array len e) (hz : (L.ty t).zero ≠ []) (hne : (L.ty e).d ≠ .other) (hcs : s.fill (fun i => some (i * (L.ty e).n, (L.ty e).n)) ((L.ty t).zero.map Z.av) parts.toList = some cs) (hx : ∀ p ∈ parts.toList, SRel w A s.os hd (s.get p.2) (a.eval p.2)) :
  ∃ v, (execOp a.eval ⟨dst, .build t parts, ty, pos, af, g⟩).run P w = .ok (.value v) w ∧ SRel w A s.os hd (.agg cs) v := by
 have hu := lay_array hL hd0
 obtain ⟨i, z, h1, h2, h3, _, _⟩ := lay_zero hL hz
 have hsz := run_sizeOf (w := w) hL hne
 obtain ⟨c', e1, e2, e3⟩ := fill_sound hw _ parts.toList _ z.cells cs hx (by rw [h3]; simp) (fun i x hx => by rw [h3] at hx; exact zero_rel hx) hcs
 refine ⟨.agg c', ?_, .agg _ _ e2 e3⟩
 have hr : (Instr.build t (parts.map fun (i, x) => (i, a.eval x))).run P w = .ok (.agg c') w := by
  simp only [Instr.build, Sem.run_bind, zeroValue, typeInfo]
  simp [run_underlying hu, h1, h2, hsz, e1]
 simp only [execOp]
 rw [Sem.run_bind, hr]
 rfl
theorem step_build_array [St] (hL : L.ty = layOf P) (hw : CW W w A s.os hd F) (hf : FR w A s.os hd s.fr a) {dst ty pos af g} {t e : TypeId} {len : Nat} {parts : Array (Nat × Operand)} {K : AV → AS → Prop} {cs : List AV}
  (hd0 : (L.ty t).d = .array len e) (hz : (L.ty t).zero ≠ []) (hne : (L.ty e).d ≠ .other) (hcs : s.fill (fun i => some (i * (L.ty e).n, (L.ty e).n)) ((L.ty t).zero.map Z.av) parts.toList = some cs) (hk : K (.agg cs) s) :
  StepOK P W w s a ⟨dst, .build t parts, ty, pos, af, g⟩ K := by
 intro next Q hn
 obtain ⟨v, h1, h2⟩ := built_array (dst := dst) (ty := ty) (pos := pos) (af := af) (g := g) hL hw hd0 hz hne hcs (fun p _ => hf.get p.2)
 exact wp_value h1 (hn _ s v w A hd F hk rfl hw hf h2)
theorem step_build_struct [St] (hL : L.ty = layOf P) (hw : CW W w A s.os hd F) (hf : FR w A s.os hd s.fr a) {dst ty pos af g} {t : TypeId} {parts : Array (Nat × Operand)} {K : AV → AS → Prop} {fs : List (Nat × TypeId)} {cs : List AV}
  (hd0 : (L.ty t).d = .struct fs) (hz : (L.ty t).zero ≠ []) (hkn : known L fs = true) (hcs : s.fill (fun i => (fs[i]?).map fun f => (f.1, (L.ty f.2).n)) ((L.ty t).zero.map Z.av) parts.toList = some cs) (hk : K (.agg cs) s) :
  StepOK P W w s a ⟨dst, .build t parts, ty, pos, af, g⟩ K := by
 intro next Q hn
 obtain ⟨v, h1, h2⟩ := built_struct (dst := dst) (ty := ty) (pos := pos) (af := af) (g := g) hL hw hd0 hz hkn hcs (fun p _ => hf.get p.2)
 exact wp_value h1 (hn _ _ _ _ A hd F hk rfl hw hf h2)

theorem built_slice [St] (hL : L.ty = layOf P) (hw : CW W w A s.os hd F) {dst ty pos af g} {t e : TypeId} {len : Nat} {parts : Array (Nat × Operand)} {cs : List AV}
  (hd0 : (L.ty t).d = .slice e) (hd1 : (L.ty e).d ≠ .other) (hz : (L.ty e).zero ≠ []) (hzn : (L.ty e).zero.length = (L.ty e).n) (hsz : len * (L.ty e).n ≤ 16777216)
  (hcs : s.fill (fun i => some (i * (L.ty e).n, (L.ty e).n)) (zeros ((L.ty e).zero.map Z.av) len) parts.toList = some cs)
  (hx : ∀ p ∈ parts.toList, SRel w A s.os hd (s.get p.2) (a.eval p.2)) :
  ∃ c : Array Value, c.size = cs.length ∧ cs.length = len * (L.ty e).n ∧ (∀ (i : Nat) x, cs[i]? = some x → SRel w A s.os hd x (c.getD i undef)) ∧ 0 < (L.ty e).n ∧
   (execOp a.eval ⟨dst, .buildSlice t len parts, ty, pos, af, g⟩).run P w = .ok (.value (.slice (some ⟨w.heap.size, 0, none⟩) len len)) (w.alloc (.cells c e)) := by
 obtain ⟨i, z, h1, h2, h3, h4, _⟩ := lay_zero hL hz
 generalize hkn : (L.ty e).n = n at *
 have hzs : z.cells.size = n := by rw [h3] at hzn; simpa using hzn
 have hn0 : 0 < n := by
  rw [← hzn]
  exact List.length_pos_iff.2 hz
 have hlenZ : (zeros ((L.ty e).zero.map Z.av) len).length = len * n := by rw [zeros_length, List.length_map, hzn]
 obtain ⟨c, e1, e2, e3⟩ := fill_sound hw _ parts.toList _ ((Array.range (len * n)).map fun j => z.cells[j % z.cells.size]!) cs hx (by simp [hlenZ]) (fun j x hx => by
  have hj := (List.getElem?_eq_some_iff.1 hx).1
  rw [hlenZ] at hj
  rw [madeZero _ _ _ hj, getElem!_getD _ _ (Nat.mod_lt _ (by omega))]
  rw [zeros_get _ (by rw [List.length_map]; omega) _ _ (by rw [List.length_map, hzn]; exact hj), List.length_map, hzn] at hx
  rw [h3] at hx
  rw [hzs]
  exact zero_rel hx) hcs
 have hcsl : cs.length = len * n := by
  have : ∀ (parts : List (Nat × Operand)) (cells cs : List AV), s.fill (fun i => some (i * n, n)) cells parts = some cs → cs.length = cells.length := by
   intro parts
   induction parts with
   | nil => intro cells cs h; unfold AS.fill at h; cases h; rfl
   | cons p rest ih =>
    intro cells cs h
    obtain ⟨i, x⟩ := p
    unfold AS.fill at h
    split at h
    ·split at h
     ·rename_i hh
      rw [ih _ _ h, splice_len hh.2]
     ·cases h
    ·cases h
  rw [this _ _ _ hcs, hlenZ]
 refine ⟨c, e2, hcsl, e3, hn0, ?_⟩
 have hr : (Instr.buildSlice t len (parts.map fun (i, x) => (i, a.eval x))).run P w = .ok (.slice (some ⟨w.heap.size, 0, none⟩) len len) (w.alloc (.cells c e)) := by
  have h5 : ¬ (16777216 < len * i.size) := by rw [← h4]; omega
  have e4 : (parts.map fun (x : Nat × Operand) => (x.1, a.eval x.2)).toList = parts.toList.map fun p => (p.1, a.eval p.2) := by simp
  unfold Instr.buildSlice
  rw [Sem.run_bind, run_underlying (lay_slice hL hd0)]
  simp only [Result.andThen_ok]
  rw [Sem.run_bind, run_sizeOf hL hd1, hkn]
  simp only [Result.andThen_ok]
  rw [if_neg (by omega)]
  by_cases h0 : len * n = 0
  ·have hr0 : ∀ f : Nat → Value, (Array.range 0).map f = #[] := fun f => by apply Array.ext' ; simp
   rw [h0, hr0] at e1
   simp only [h0, if_true, Sem.run_bind, hr0]
   simp [e1, newRow]
  ·simp only [if_neg h0, Sem.run_bind, zeroValue, typeInfo]
   simp [h1, h2, e1, newRow]
 simp only [execOp]
 rw [Sem.run_bind, hr]
 rfl

theorem step_buildSlice [St] (hL : L.ty = layOf P) (hw : CW W w A s.os hd F) (hf : FR w A s.os hd s.fr a) {dst ty pos af g} {t e : TypeId} {len : Nat} {parts : Array (Nat × Operand)} {K : AV → AS → Prop} {cs : List AV}
  (hd0 : (L.ty t).d = .slice e) (hd1 : (L.ty e).d ≠ .other) (hz : (L.ty e).zero ≠ []) (hzn : (L.ty e).zero.length = (L.ty e).n) (hsz : len * (L.ty e).n ≤ 16777216)
  (hcs : s.fill (fun i => some (i * (L.ty e).n, (L.ty e).n)) (zeros ((L.ty e).zero.map Z.av) len) parts.toList = some cs)
  (hk : s.ownL cs fun cs' s' => K (.ob s'.os.length) ⟨s'.fr, s'.os ++ [.row (L.ty e).n (rowsOf (L.ty e).n len cs')]⟩) : StepOK P W w s a ⟨dst, .buildSlice t len parts, ty, pos, af, g⟩ K := by
 intro next Q hn
 obtain ⟨c, e2, hcsl, e3, hn0, hr0⟩ := built_slice (dst := dst) (ty := ty) (pos := pos) (af := af) (g := g) hL hw hd0 hd1 hz hzn hsz hcs (fun p _ => hf.get p.2)
 generalize hkn : (L.ty e).n = n at *
 obtain ⟨s', F', g1, g2, hw', hm', hF', l', G, hk, hl', hcl, hG, hdj, hone⟩ := ownL_sound cs c.toList s F _ hw (by rw [Array.length_toList, e2]) (fun j x hx => by rw [toList_getD]; exact e3 j x hx) hk
 have hl2 : l'.length = len * n := by rw [hl', Array.length_toList, e2, hcsl]
 have hes : (rowsOf n len l').length = len := rowsOf_length _ _ _
 have idx : ∀ i j, i < len → j < n → i * n + j < len * n := fun i j hi hj => by
  have : (i + 1) * n ≤ len * n := Nat.mul_le_mul_right n hi
  rw [Nat.add_mul] at this
  omega
 have hcn : c.toList.length = len * n := by rw [Array.length_toList, e2, hcsl]
 obtain ⟨hw2, hm2⟩ := push_new hw' (Keeps.alloc w c e) (heap_alloc_new w _) (Nat.le_refl _) (k := n) (cap := len) (es := rowsOf n len l') (G := fun i j => G (i * n + j)) (by rw [hes]; have := Nat.le_mul_of_pos_right len hn0; unfold maxLen; omega) (by rw [hes]; exact Nat.le_refl _)
  (by rw [e2, hcsl]; exact Nat.le_refl _) (fun r hr => by
   obtain ⟨i, hi⟩ := List.getElem?_of_mem hr
   have hi' := (List.getElem?_eq_some_iff.1 hi).1
   rw [hes] at hi'
   rw [rowsOf_get _ _ _ _ _ hi, List.length_take, List.length_drop, hl2]
   have := idx i (n - 1) hi' (by omega)
   omega) (fun i j hi hj => by
   rw [hes] at hi
   have h5 := idx i j hi hj
   refine hone _ ?_
   rw [← toList_getD, List.getD_eq_getElem?_getD, List.getElem?_eq_getElem (by omega)]
   exact List.getElem_mem _) (fun i j r x hr hx => by
   rw [rowsOf_get _ _ _ _ _ hr] at hx
   rw [List.getElem?_take] at hx
   split at hx
   ·rw [List.getElem?_drop] at hx
    have := hcl (i * n + j) x hx
    rwa [toList_getD] at this
   ·cases hx) (fun i j y hi hj hy => by
   rw [hes] at hi
   obtain ⟨⟨id, h6⟩, h7⟩ := hG (i * n + j) y (by rw [hcn]; exact idx i j hi hj) hy
   have h8 := hw.fsz id y h6
   exact ⟨h8.1, h8.2, fun h => (hw.hA y h).2 id h6, h7⟩) (fun i j i' j' x hi hj hi' hj' h6 h7 => by
   rw [hes] at hi hi'
   have := hdj _ _ x (by rw [hcn]; exact idx i j hi hj) (by rw [hcn]; exact idx i' j' hi' hj') h6 h7
   have hi2 : (i * n + j) / n = i := by rw [Nat.mul_comm, Nat.mul_add_div hn0, Nat.div_eq_of_lt hj]; rfl
   have hi3 : (i' * n + j') / n = i' := by rw [Nat.mul_comm, Nat.mul_add_div hn0, Nat.div_eq_of_lt hj']; rfl
   have : i = i' := by rw [← hi2, this, hi3]
   subst this
   exact ⟨rfl, by omega⟩)
 rw [hes] at hw2 hm2
 exact wp_value hr0 (hn _ _ _ _ A _ _ hk g1 hw2 (hf.os_mono fun y u h => hm2 _ _ (hm' _ _ h)) (.ob _ _ (by simp) fun k es ho => by rw [updN_eq]))
end
end Go.Proofs.YtlemeenicaidfaaGreatDoor

/- Soundness of make, append, stores into own rows, and calls. -/
namespace Go.Proofs.YtlemeenicaidfaaGreatDoor
set_option linter.unusedVariables false
set_option linter.unusedSimpArgs false
open Go Go.RowKit

section
variable {P : Program} {np : Nat} {L : Lay} {W : WM} {w w' : World} {A : Nat → Prop} {os os' : List Obj} {hd hd' : Nat → Value} {F F' : Nat → Nat → Prop} {s : AS} {a : Act}

theorem zok_get {z : List Z} (h : zok z = true) {i : Nat} {x : Z} (hx : z[i]? = some x) : x ≠ .other := by
 induction z generalizing i with
 | nil => simp at hx
 | cons y l ih =>
  unfold zok at h
  split at h
  ·rename_i e; cases e
  ·cases h
  ·rename_i e
   cases e
   cases i with
   | zero => simp at hx; subst hx; rintro rfl; rename_i h2; exact h2 rfl
   | succ i => simp at hx; exact ih h hx
theorem Z.of_one {c : Value} (h : Z.of c ≠ .other) {G : Nat → Prop} (hG : ∀ x, ¬ G x) : XRel w A (Z.of c).av c G ∧ c.oneCell' = true := by
 unfold Z.of at *
 split at h
 ·split at h
  ·rename_i e; subst e; exact ⟨.pure _ _ _ (.int _ _) rfl hG, rfl⟩
  ·exact (h rfl).elim
 ·split at h
  ·rename_i e; subst e; exact ⟨.pure _ _ _ (.bool _) rfl hG, rfl⟩
  ·exact (h rfl).elim
 ·rename_i b
  split at h
  ·rename_i e
   have : b = ⟨#[]⟩ := by
    cases b with | mk d => congr 1; exact Array.toList_inj.1 (by simpa using e)
   subst this
   exact ⟨.pure _ _ _ (.str _ (by simp [ByteArray.size])) rfl hG, rfl⟩
  ·exact (h rfl).elim
 ·split at h
  ·rename_i e; obtain ⟨rfl, rfl⟩ := e; exact ⟨.pure _ _ _ .nils rfl hG, rfl⟩
  ·exact (h rfl).elim
 ·exact ⟨.pure _ _ _ .nilp rfl hG, rfl⟩
 ·exact (h rfl).elim

theorem step_make [St] (hL : L.ty = layOf P) (hw : CW W w A s.os hd F) (hf : FR w A s.os hd s.fr a) {dst ty pos af g} {t e : TypeId} {xl xc : Operand} {kl kc : IntKind} {l c : Int} {K : AV → AS → Prop}
  (hd0 : (L.ty t).d = .slice e) (hz : (L.ty e).zero ≠ []) (hzn : (L.ty e).zero.length = (L.ty e).n) (hzo : zok (L.ty e).zero = true) (hl : s.get xl = .int kl l) (hc : s.get xc = .int kc c)
  (hk : (stdE np P).make (L.ty e).bytes ((L.ty e).zero.map Z.av) l c fun es => K (.ob s.os.length) ⟨s.fr, s.os ++ [.row (L.ty e).n es]⟩) : StepOK P W w s a ⟨dst, .makeSlice t xl xc, ty, pos, af, g⟩ K := by
 intro next Q hn
 obtain ⟨i, z, h1, h2, h3, h4, h5⟩ := lay_zero hL hz
 obtain ⟨h6, h7, h8, h9, hk⟩ := hk
 have e1 := hf.get xl
 have e2 := hf.get xc
 rw [hl] at e1
 rw [hc] at e2
 generalize hkn : (L.ty e).n = n at *
 have hzs : z.cells.size = n := by rw [h3] at hzn; simpa using hzn
 have hn0 : 0 < n := by rw [← hzn]; exact List.length_pos_iff.2 hz
 have hr := run_make (P := P) w t e i z (lay_slice hL hd0) h1 h2 kl kc l c h6 h7 (by rw [h5] at h8; rw [Int.mul_comm]; exact h8) (by omega)
 rw [← h4] at hr
 have hcell : ∀ q, q < c.toNat * n → (madeCells z.cells (c.toNat * n)).getD q undef = z.cells.getD (q % n) undef := fun q hq => by
  unfold madeCells
  rw [madeZero _ _ _ hq, hzs, getElem!_getD _ _ (by rw [hzs]; exact Nat.mod_lt _ hn0)]
 have idx : ∀ i j, i < l.toNat → j < n → i * n + j < c.toNat * n ∧ (i * n + j) % n = j := fun i j hi hj => by
  have : (i + 1) * n ≤ c.toNat * n := Nat.mul_le_mul_right n (by omega)
  rw [Nat.add_mul] at this
  exact ⟨by omega, by rw [Nat.mul_comm, Nat.mul_add_mod, Nat.mod_eq_of_lt hj]⟩
 have hzj : ∀ j, j < n → ∃ zj, (L.ty e).zero[j]? = some zj ∧ zj = Z.of (z.cells.getD j undef) ∧ zj ≠ .other := fun j hj => by
  have hj' : j < z.cells.size := by omega
  refine ⟨Z.of (z.cells.getD j undef), ?_, rfl, ?_⟩
  ·rw [h3, List.getElem?_map, Array.getElem?_toList]
   simp [Array.getD, hj']
  ·refine zok_get hzo (i := j) ?_
   rw [h3, List.getElem?_map, Array.getElem?_toList]
   simp [Array.getD, hj']
 obtain ⟨hw2, hm2⟩ := push_new hw (Keeps.alloc w (madeCells z.cells (c.toNat * n)) e) (heap_alloc_new w _) (Nat.le_refl _) (k := n) (cap := c.toNat) (es := List.replicate l.toNat ((L.ty e).zero.map Z.av)) (G := fun _ _ _ => False)
  (by simp; unfold maxLen; omega) (by simp; omega) (by rw [size_madeCells]; exact Nat.le_refl _) (fun r hr => by rw [List.eq_of_mem_replicate hr, List.length_map, hzn])
  (fun i j hi hj => by
   rw [List.length_replicate] at hi
   rw [hcell _ (idx i j hi hj).1, (idx i j hi hj).2]
   obtain ⟨zj, _, g2, g3⟩ := hzj j hj
   exact (Z.of_one (w := w) (A := A) (G := fun _ => False) (g2 ▸ g3) (fun _ h => h)).2)
  (fun i j r x hr hx => by
   have hi := (List.getElem?_eq_some_iff.1 hr).1
   rw [List.length_replicate] at hi
   rw [List.getElem?_replicate, if_pos hi] at hr
   cases hr
   have hj := (List.getElem?_eq_some_iff.1 hx).1
   rw [List.length_map, hzn] at hj
   rw [hcell _ (idx i j hi hj).1, (idx i j hi hj).2]
   obtain ⟨zj, g1, g2, g3⟩ := hzj j hj
   rw [List.getElem?_map, g1] at hx
   cases hx
   rw [g2]
   exact (Z.of_one (g2 ▸ g3) (fun _ h => h)).1)
  (fun i j y _ _ h => h.elim) (fun i j i' j' x _ _ _ _ h => h.elim)
 rw [List.length_replicate] at hw2 hm2
 refine wp_value (w' := w.alloc (.cells (madeCells z.cells (c.toNat * n)) e)) ?_ (hn _ _ _ _ A _ _ hk rfl hw2 (hf.os_mono hm2) (.ob _ _ (by simp) fun k es ho => by rw [updN_eq]))
 simp only [execOp, e1.int_inv, e2.int_inv]
 rw [Sem.run_bind, hr]
 rfl

/-- What an append is given: the cells in memory. -/
structure Src (w : World) (A : Nat → Prop) (k : Nat) (v : Value) (fs : List (List AV)) (H : Nat → Nat → Nat → Prop) where
 p : Option Addr
 cap : Nat
 eq : v = .slice p fs.length cap
 nil : fs = [] ∨ ∃ b off, p = some ⟨b, off, none⟩ ∧ ∀ i j, i < fs.length → j < k → ∃ u, w.cell? ⟨b, off + (i * k + j), none⟩ = some u ∧ u.oneCell' = true ∧ ∀ e x, fs[i]? = some e → e[j]? = some x → XRel w A x u (H i j)
 len : ∀ e ∈ fs, e.length = k

theorem run_append_zero {t ty e : TypeId} {k : Nat} (ht : P.underlying t = some (.slice e)) (hn : ∀ w, (sizeOf e).run P w = .ok k w) (p : Option Addr) (n c : Nat) (hnc : n ≤ c) (q : Option Addr) (d : Nat) :
  (Builtin.append_ #[t, t] ty #[.slice p n c, .slice q 0 d]).run P w = .ok (.slice p n c) w := by
 have hf : (Builtin.firstCells k 0 (.slice q 0 d)).run P w = .ok #[] w := by
  cases q <;> simp [Builtin.firstCells, loadCells, loadCellsFrom]
 cases p with
 | none => simp [Builtin.append_, run_underlying ht, hn, Builtin.lenOf, hf, hnc]
 | some x => simp [Builtin.append_, run_underlying ht, hn, Builtin.lenOf, hf, hnc, storeCells]

theorem run_append_room' {t ty e T : TypeId} (i : TypeInfo) (ht : P.underlying t = some (.slice e)) (hi : P.info? e = some i)
  (g sLen sCap : Nat) (cur : Array Value) (hg : w.heap[g]? = some (.cells cur T (0, 0)))
  (a : Addr) (m c : Nat) (news : List Value) (hl : news.length = m * i.size) (hnews : ∀ j u, news[j]? = some u → w.cell? (a.add j) = some u) (h1 : ∀ u ∈ news, u.oneCell' = true)
  (hroom : sLen + m ≤ sCap) (hfit : sLen * i.size + news.length ≤ cur.size) :
  (Builtin.append_ #[t, t] ty #[.slice (some ⟨g, 0, none⟩) sLen sCap, .slice (some a) m c]).run P w =
   .ok (.slice (some ⟨g, 0, none⟩) (sLen + m) sCap) (w.setRow g (spliceV cur (sLen * i.size) news)) := by
 have hf := run_firstCells_some (P := P) w i.size m a m c news hl hnews
 have hst := run_storeCells_at P g (sLen * i.size) T news 0 cur w hg (by simpa using hfit) h1
 simp only [Nat.add_zero] at hst
 simp [Builtin.append_, run_underlying ht, sizeOf, typeInfo, hi, Builtin.lenOf, hroom, hf, Addr.add_lit, hst, spliceV]

theorem Rel.src {k : Nat} {own fs v} (h : Rel w A (.sl own k fs) v) (hno : ∀ e ∈ fs, ∀ c ∈ e, c.isOwn = false) : Nonempty (Src w A k v fs fun _ _ _ => False) := by
 cases h with
 | sl _ _ _ p cap b off val hl hcap hp hk hc h1c hr =>
  refine ⟨⟨p, cap, rfl, ?_, hk⟩⟩
  by_cases hne : fs = []
  ·exact .inl hne
  ·refine .inr ⟨b, off, (hp hne).1, fun i j hi hj => ⟨_, hc i j hi hj, h1c i j hi hj, fun e x he hx => .pure _ _ _ (hr i j e x he hx) (hno e (List.mem_of_getElem? he) x (List.mem_of_getElem? hx)) (fun _ h => h)⟩⟩

theorem XRel.src {k : Nat} {fs v} {G : Nat → Prop} (h : XRel w A (.sl true k fs) v G) : ∃ H, Nonempty (Src w A k v fs H) ∧ (∀ i j y, i < fs.length → j < k → H i j y → G y) ∧ (∀ i j i' j' x, i < fs.length → j < k → i' < fs.length → j' < k → H i j x → H i' j' x → i = i' ∧ j = j') := by
 cases h with
 | pure _ _ _ h ho hF => simp [AV.isOwn] at ho
 | nil => exact ⟨fun _ _ _ => False, ⟨⟨none, 0, rfl, .inl rfl, by simp⟩⟩, fun _ _ _ _ _ h => h.elim, fun _ _ _ _ _ _ _ _ _ h => h.elim⟩
 | sl _ _ cap b T c F G hb hl hcap hsz hk h1c hr hF h0 hd =>
  refine ⟨G, ⟨⟨_, cap, rfl, .inr ⟨b, 0, rfl, fun i j hi hj => ⟨c.getD (i * k + j) undef, ?_, h1c i j hi hj, fun e x he hx => hr i j e x he hx⟩⟩, hk⟩⟩, fun i j y hi hj hy => (hF y).2 (.inr ⟨i, j, hi, hj, hy⟩), hd⟩
  have h1 : i * k + j < c.size := by
   have : (i + 1) * k ≤ cap * k := Nat.mul_le_mul_right k (by omega)
   rw [Nat.add_mul] at this; omega
  simp [World.cell?, hb, h1]

/-- An append, one object behind the other. 'hw': the state in which the old row has been given up. -/
theorem app_core [St] (hL : L.ty = layOf P) {A' : Nat → Prop} (hw : CW W w A os hd F) {t ty e : TypeId} (hd0 : (L.ty t).d = .slice e) (hd1 : (L.ty e).d ≠ .other) (hz : (L.ty e).zero ≠ []) (hzn : (L.ty e).zero.length = (L.ty e).n) (hn0 : (L.ty e).n ≠ 0)
  {es fs : List (List AV)} {v y : Value} {G : Nat → Prop} {H : Nat → Nat → Nat → Prop} (hx : XRel w A (.sl true (L.ty e).n es) v G) (hs : Src w A' (L.ty e).n y fs H) (hsA : ∀ i j u x e', fs[i]? = some e' → e'[j]? = some x → XRel w A' x u (H i j) → XRel w A x u (H i j))
  (hG : ∀ x, G x → W.new x ∧ x < w.heap.size ∧ ¬ A x ∧ ∀ id, ¬ F id x)
  (hH : ∀ i j x, i < fs.length → j < (L.ty e).n → H i j x → W.new x ∧ x < w.heap.size ∧ ¬ A x ∧ (∀ id, ¬ F id x) ∧ ¬ G x)
  (hHd : ∀ i j i' j' x, i < fs.length → j < (L.ty e).n → i' < fs.length → j' < (L.ty e).n → H i j x → H i' j' x → i = i' ∧ j = j')
  (hb : (es.length + fs.length) * (L.ty e).bytes ≤ 140737488355328) (hlen : es.length + fs.length ≤ 140737488355328) :
  ∃ v' w' F', (Builtin.append_ #[t, t] ty #[v, y]).run P w = .ok v' w' ∧ CW W w' A (os ++ [.row (L.ty e).n (es ++ fs)]) (updN hd os.length v') F' ∧
   ∀ z u, SRel w A os hd z u → SRel w' A (os ++ [.row (L.ty e).n (es ++ fs)]) (updN hd os.length v') z u := by
 obtain ⟨i, z, h1, h2, h3, h4, h5⟩ := lay_zero hL hz
 generalize hkn : (L.ty e).n = k at *
 have hk0 : 0 < k := by omega
 have ht := lay_slice hL hd0
 have hso : ∀ w, (sizeOf e).run P w = .ok k w := fun w => by rw [run_sizeOf hL hd1, hkn]
 have hA : ∀ x, A x → x < w.heap.size := fun x h => (hw.hA x h).1
 obtain ⟨p, cap, rfl, hnil, hfl⟩ := hs
 -- what is taken over unchanged
 have same : fs = [] → ∃ v' w' F', (Builtin.append_ #[t, t] ty #[v, .slice p fs.length cap]).run P w = .ok v' w' ∧ CW W w' A (os ++ [.row k (es ++ fs)]) (updN hd os.length v') F' ∧
   ∀ z u, SRel w A os hd z u → SRel w' A (os ++ [.row k (es ++ fs)]) (updN hd os.length v') z u := by
  rintro rfl
  obtain ⟨p0, c0, e1, _, e2⟩ := (hx.rel (B := fun _ => True) (fun _ _ => trivial) (fun _ _ => trivial)).sl_len
  refine ⟨v, w, _, by rw [e1]; exact run_append_zero ht hso p0 _ _ e2 p cap, hw.push (.row k (es ++ [])) v G hG (fun k' es' e => ?_) (fun cs e => by cases e), fun z u h => h.push _ _⟩
  cases e
  rw [List.append_nil]
  exact hx
 rcases hnil with hfs | ⟨b, off, rfl, hcell⟩
 ·exact same hfs
 by_cases hfs : fs = []
 ·exact same hfs
 have hm0 : 0 < fs.length := List.length_pos_iff.2 hfs
 -- the new cells
 obtain ⟨news, hnews⟩ : ∃ news : List Value, news = (List.range (fs.length * k)).map fun q => (w.cell? ⟨b, off + q, none⟩).getD undef := ⟨_, rfl⟩
 have hnl : news.length = fs.length * k := by rw [hnews]; simp
 have hq : ∀ q, q < fs.length * k → q / k < fs.length ∧ q % k < k ∧ q / k * k + q % k = q := fun q hq => ⟨(Nat.div_lt_iff_lt_mul hk0).2 hq, Nat.mod_lt _ hk0, by rw [Nat.mul_comm]; exact Nat.div_add_mod q k⟩
 have hnc : ∀ q u, news[q]? = some u → w.cell? ((⟨b, off, none⟩ : Addr).add q) = some u := fun q u hu => by
  have h6 := (List.getElem?_eq_some_iff.1 hu).1
  rw [hnl] at h6
  obtain ⟨g1, g2, g3⟩ := hq q h6
  obtain ⟨u', e1, _⟩ := hcell _ _ g1 g2
  rw [g3] at e1
  rw [hnews] at hu
  simp [h6, e1] at hu
  subst hu
  rw [addr_add, e1]
 have hnD : ∀ i j, i < fs.length → j < k → i * k + j < fs.length * k ∧ w.cell? ⟨b, off + (i * k + j), none⟩ = some (news.getD (i * k + j) undef) := fun i j hi hj => by
  have h6 : i * k + j < fs.length * k := by
   have : (i + 1) * k ≤ fs.length * k := Nat.mul_le_mul_right k (by omega)
   rw [Nat.add_mul] at this; omega
  refine ⟨h6, ?_⟩
  obtain ⟨u', e1, _⟩ := hcell i j hi hj
  rw [hnews, e1]
  simp [List.getD, h6, e1]
 have hone : ∀ u ∈ news, u.oneCell' = true := fun u hu => by
  obtain ⟨q, hq1, rfl⟩ := List.getElem_of_mem hu
  rw [hnl] at hq1
  obtain ⟨g1, g2, g3⟩ := hq q hq1
  obtain ⟨u', e1, e2, _⟩ := hcell _ _ g1 g2
  rw [g3] at e1
  have := hnc q _ (List.getElem?_eq_getElem (by rw [hnl]; exact hq1))
  rw [addr_add, e1] at this
  injection this with this
  rw [← this]
  exact e2
 have hrel : ∀ i j e' x, fs[i]? = some e' → e'[j]? = some x → XRel w A x (news.getD (i * k + j) undef) (H i j) := fun i j e' x he hx => by
  have hi := (List.getElem?_eq_some_iff.1 he).1
  have hj := (List.getElem?_eq_some_iff.1 hx).1
  rw [hfl e' (List.mem_of_getElem? he)] at hj
  obtain ⟨u', e1, _, e3⟩ := hcell i j hi hj
  obtain ⟨_, e4⟩ := hnD i j hi hj
  rw [e1] at e4
  injection e4 with e4
  rw [← e4]
  exact hsA i j u' x e' he hx (e3 e' x he hx)
 have hnl' : news.length = fs.length * i.size := by rw [hnl, h4]
 -- the new row's cells
 have core : ∀ (w' : World) (b' cap' : Nat) (c : Array Value) (T : TypeId) (G0 : Nat → Nat → Nat → Prop) (Ex : Nat → Prop), Keeps Ex w w' → (∀ x, Ex x → W.new x ∧ ¬ A x ∧ (∀ id, ¬ F id x) ∧ (∀ i j, i < es.length → j < k → ¬ G0 i j x) ∧ ∀ i j, i < fs.length → j < k → ¬ H i j x) →
   w'.heap[b']? = some (.cells c T (0, 0)) → (w.heap.size ≤ b' ∨ Ex b') → W.new b' → es.length + fs.length ≤ cap' → cap' * k ≤ c.size → (∀ e ∈ es, e.length = k) →
   (∀ i j, i < es.length → j < k → (c.getD (i * k + j) undef).oneCell' = true ∧ ∀ e' x, es[i]? = some e' → e'[j]? = some x → XRel w A x (c.getD (i * k + j) undef) (G0 i j)) →
   (∀ i j, i < fs.length → j < k → c.getD ((es.length + i) * k + j) undef = news.getD (i * k + j) undef) →
   (∀ i j x, i < es.length → j < k → G0 i j x → G x) → (∀ i j i' j' x, i < es.length → j < k → i' < es.length → j' < k → G0 i j x → G0 i' j' x → i = i' ∧ j = j') →
   CW W w' A (os ++ [.row k (es ++ fs)]) (updN hd os.length (.slice (some ⟨b', 0, none⟩) (es.length + fs.length) cap')) (updN F os.length fun x => x = b' ∨ ∃ i j, i < (es ++ fs).length ∧ j < k ∧ (if i < es.length then G0 i j x else H (i - es.length) j x)) ∧
   ∀ z u, SRel w A os hd z u → SRel w' A (os ++ [.row k (es ++ fs)]) (updN hd os.length (.slice (some ⟨b', 0, none⟩) (es.length + fs.length) cap')) z u := by
  intro w' b' cap' c T G0 Ex hkp hEx hbc hb0 hbW hcap' hsz' hel hold hnew hG0 hG0d
  obtain ⟨hw', hm'⟩ := hw.keepG hkp (fun x hx => ⟨(hEx x hx).1, (hEx x hx).2.1, (hEx x hx).2.2.1⟩)
  have hb1 : b' < w'.heap.size := (Array.getElem?_eq_some_iff.1 hbc).1
  have hg : ∀ i j x, i < (es ++ fs).length → j < k → (if i < es.length then G0 i j x else H (i - es.length) j x) → W.new x ∧ x < w.heap.size ∧ ¬ A x ∧ (∀ id, ¬ F id x) ∧ ¬ Ex x := fun i j x hi hj hx => by
   split at hx
   ·rename_i h6
    obtain ⟨g1, g2, g3, g4⟩ := hG x (hG0 i j x h6 hj hx)
    exact ⟨g1, g2, g3, g4, fun h => (hEx x h).2.2.2.1 i j h6 hj hx⟩
   ·rename_i h6
    have h7 : i - es.length < fs.length := by simp at hi; omega
    obtain ⟨g1, g2, g3, g4, _⟩ := hH _ j x h7 hj hx
    exact ⟨g1, g2, g3, g4, fun h => (hEx x h).2.2.2.2 _ j h7 hj hx⟩
  have hbn : ¬ A b' ∧ ∀ id, ¬ F id b' := by
   rcases hb0 with h | h
   ·exact ⟨fun h' => by have := hA _ h'; omega, fun id h' => by have := (hw.fsz id _ h').2; omega⟩
   ·exact ⟨(hEx _ h).2.1, (hEx _ h).2.2.1⟩
  refine ⟨hw'.push _ _ _ (fun x hx => ?_) (fun k' es' e' => ?_) (fun cs e' => by cases e'), fun z u h => (hm' z u h).push _ _⟩
  ·rcases hx with rfl | ⟨i, j, hi, hj, hx⟩
   ·exact ⟨hbW, hb1, hbn.1, hbn.2⟩
   ·obtain ⟨g1, g2, g3, g4, _⟩ := hg i j x hi hj hx
    exact ⟨g1, Nat.lt_of_lt_of_le g2 hkp.size, g3, g4⟩
  ·cases e'
   have hll : (es ++ fs).length = es.length + fs.length := List.length_append
   rw [← hll]
   refine .sl k (es ++ fs) cap' b' T c _ (fun i j x => if i < es.length then G0 i j x else H (i - es.length) j x) hbc (by rw [hll]; unfold maxLen; omega) (by rw [hll]; exact hcap') hsz' (fun e' he => ?_) (fun i j hi hj => ?_) (fun i j e' x he hx => ?_) (fun _ => Iff.rfl) (fun i j hi hj h => ?_) (fun i j i' j' x hi hj hi' hj' h6 h7 => ?_)
   ·rcases List.mem_append.1 he with h | h
    ·exact hel e' h
    ·exact hfl e' h
   ·by_cases h6 : i < es.length
    ·exact (hold i j h6 hj).1
    ·have h7 : i - es.length < fs.length := by omega
     have := hnew (i - es.length) j h7 hj
     rw [show es.length + (i - es.length) = i from by omega] at this
     rw [this]
     refine hone _ ?_
     rw [List.getD_eq_getElem?_getD, List.getElem?_eq_getElem (by rw [hnl]; exact (hnD _ j h7 hj).1)]
     exact List.getElem_mem _
   ·have hj := (List.getElem?_eq_some_iff.1 hx).1
    have hi := (List.getElem?_eq_some_iff.1 he).1
    have hjk : j < k := by
     rcases List.mem_append.1 (List.mem_of_getElem? he) with h | h
     ·rwa [hel e' h] at hj
     ·rwa [hfl e' h] at hj
    have mono : ∀ u, XRel w A x u (fun x => if i < es.length then G0 i j x else H (i - es.length) j x) → XRel w' A x u (fun x => if i < es.length then G0 i j x else H (i - es.length) j x) := fun u h => by
     refine h.mono (fun _ h => h) (fun y hy => ?_)
     rcases hy with hy | hy
     ·exact hkp.block y (hA y hy) (fun h => (hEx y h).2.1 hy)
     ·obtain ⟨_, g2, _, _, g5⟩ := hg i j y hi hjk hy
      exact hkp.block y g2 g5
    refine mono _ ?_
    by_cases h6 : i < es.length
    ·rw [List.getElem?_append_left h6] at he
     exact ((hold i j h6 hjk).2 e' x he hx).congr (fun y => by rw [if_pos h6])
    ·rw [List.getElem?_append_right (by omega)] at he
     have := hrel (i - es.length) j e' x he hx
     rw [← hnew (i - es.length) j (by rw [hll] at hi; omega) hjk, show es.length + (i - es.length) = i from by omega] at this
     exact this.congr (fun y => by rw [if_neg h6])
   ·obtain ⟨_, g2, _, _, g5⟩ := hg i j b' hi hj h
    rcases hb0 with h8 | h8
    ·omega
    ·exact g5 h8
   ·split at h6 <;> split at h7
    ·rename_i a1 a2
     exact hG0d i j i' j' x a1 hj a2 hj' h6 h7
    ·rename_i a1 a2
     exact ((hH _ j' x (by rw [hll] at hi'; omega) hj' h7).2.2.2.2 (hG0 i j x a1 hj h6)).elim
    ·rename_i a1 a2
     exact ((hH _ j x (by rw [hll] at hi; omega) hj h6).2.2.2.2 (hG0 i' j' x a2 hj' h7)).elim
    ·rename_i a1 a2
     have := hHd _ j _ j' x (by rw [hll] at hi; omega) hj (by rw [hll] at hi'; omega) hj' h6 h7
     omega
 have hzs : z.cells.size = k := by rw [h3] at hzn; simpa using hzn
 cases hx with
 | pure _ _ _ h ho hF => simp [AV.isOwn] at ho
 | nil =>
  have hr := run_append_nil (P := P) w t ty e i z ht h1 h2 ⟨b, off, none⟩ fs.length cap news hnl' hnc hm0 (by omega) (by rw [← h5]; simp at hb; omega)
  obtain ⟨g1, g2⟩ := core (w.drew.alloc (.cells (news.toArray ++ Builtin.zeroCells z.cells (grownCap w fs.length 0 e - fs.length)) e)) w.heap.size (grownCap w fs.length 0 e) _ e (fun _ _ _ => False) (fun _ => False)
   ((Keeps.drew w).trans (Keeps.alloc w.drew _ _)) (fun x h => h.elim) (heap_alloc_new w.drew _) (.inl (Nat.le_refl _)) (hw.below.new (Nat.le_refl _)) (by simpa using grownCap_ge w fs.length 0 e)
   (by
    have := grownCap_ge w fs.length 0 e
    simp only [Array.size_append, List.size_toArray, size_zeroCells, hzs, hnl, ← Nat.add_mul]
    exact Nat.mul_le_mul_right k (by omega)) (by simp) (fun i j hi => by simp at hi) (fun i j hi hj => by
    have := (hnD i j hi hj).1
    have e9 : ([] : List (List AV)).length + i = i := by simp
    rw [e9]
    rw [← toList_getD, Array.toList_append, List.getD_eq_getElem?_getD, List.getElem?_append_left (by simpa [hnl] using this), List.getD_eq_getElem?_getD]) (fun i j x hi => by simp at hi) (fun i j i' j' x hi => by simp at hi)
  simp only [List.length_nil, Nat.zero_add] at g1 g2
  exact ⟨_, _, _, hr, g1, g2⟩
 | sl _ _ cap0 bb T cur _ G0 hbb hl hcap0 hsz hk h1c hr0 hF h0 hd0' =>
  have hGbb : G bb := (hF bb).2 (.inl rfl)
  obtain ⟨q1, q2, q3, q4⟩ := hG bb hGbb
  have idx : ∀ i j, i < es.length → j < k → i * k + j < es.length * k := fun i j hi hj => by
   have : (i + 1) * k ≤ es.length * k := Nat.mul_le_mul_right k (by omega)
   rw [Nat.add_mul] at this; omega
  have hG0 : ∀ i j x, i < es.length → j < k → G0 i j x → G x := fun i j x hi hj hx => (hF x).2 (.inr ⟨i, j, hi, hj, hx⟩)
  have hszl : es.length * k ≤ cur.size := Nat.le_trans (Nat.mul_le_mul_right k hcap0) hsz
  by_cases hroom : es.length + fs.length ≤ cap0
  ·have hfit : es.length * k + news.length ≤ cur.size := by rw [hnl, ← Nat.add_mul]; exact Nat.le_trans (Nat.mul_le_mul_right k hroom) hsz
   have hr := run_append_room' (P := P) (ty := ty) i ht h1 bb es.length cap0 cur hbb ⟨b, off, none⟩ fs.length cap news hnl' hnc hone hroom (by rw [← h4]; exact hfit)
   rw [← h4] at hr
   obtain ⟨g1, g2⟩ := core (w.setRow bb (spliceV cur (es.length * k) news)) bb cap0 _ T G0 (fun x => x = bb) (setRow_keeps _ rfl) (fun x hx => by
     subst hx
     exact ⟨q1, q3, q4, h0, fun i j hi hj h => (hH i j x hi hj h).2.2.2.2 hGbb⟩) (setRow_heap w bb cur _ T _ hbb) (.inr rfl) q1 hroom (by rw [spliceV_size hfit]; exact hsz) hk
    (fun i j hi hj => by
     have := idx i j hi hj
     rw [spliceV_getD hfit, if_pos this]
     exact ⟨h1c i j hi hj, fun e' x he hx => hr0 i j e' x he hx⟩)
    (fun i j hi hj => by
     have := (hnD i j hi hj).1
     rw [spliceV_getD hfit, Nat.add_mul, if_neg (by omega), if_pos (by rw [hnl]; omega)]
     congr 1
     omega) hG0 hd0'
   exact ⟨_, _, _, hr, g1, g2⟩
  ·have hol : (cur.toList.take (es.length * k)).length = es.length * k := by rw [List.length_take, Array.length_toList]; exact Nat.min_eq_left hszl
   have hr := run_append_grow (P := P) w t ty e i z ht h1 h2 ⟨bb, 0, none⟩ es.length cap0 (cur.toList.take (es.length * k)) (by rw [hol, h4]) (fun j u hu => by
     rw [addr_add, Nat.zero_add]
     rw [List.getElem?_take] at hu
     split at hu
     ·simp [World.cell?, hbb]; simpa using hu
     ·cases hu) ⟨b, off, none⟩ fs.length cap news hnl' hnc (by omega) (by omega) (growslice_fits (by omega) (by rw [← h5]; exact hb))
   have hge := grownCap_ge w (es.length + fs.length) cap0 e
   obtain ⟨g1, g2⟩ := core (w.drew.alloc (.cells ((cur.toList.take (es.length * k)).toArray ++ news.toArray ++ Builtin.zeroCells z.cells (grownCap w (es.length + fs.length) cap0 e - (es.length + fs.length))) e)) w.heap.size (grownCap w (es.length + fs.length) cap0 e) _ e G0 (fun _ => False) ((Keeps.drew w).trans (Keeps.alloc w.drew _ _)) (fun x h => h.elim) (heap_alloc_new w.drew _) (.inl (Nat.le_refl _)) (hw.below.new (Nat.le_refl _)) hge
    (by
     simp only [Array.size_append, List.size_toArray, size_zeroCells, hzs, hnl, hol, ← Nat.add_mul]
     exact Nat.mul_le_mul_right k (by omega)) hk
    (fun i j hi hj => by
     have := idx i j hi hj
     have e0 : ((cur.toList.take (es.length * k)).toArray ++ news.toArray ++ Builtin.zeroCells z.cells (grownCap w (es.length + fs.length) cap0 e - (es.length + fs.length))).getD (i * k + j) undef = cur.getD (i * k + j) undef := by
      rw [← toList_getD, ← toList_getD]
      simp only [Array.toList_append, List.append_assoc, List.getD_eq_getElem?_getD]
      rw [List.getElem?_append_left (by rw [hol]; exact this), List.getElem?_take, if_pos this]
     rw [e0]
     exact ⟨h1c i j hi hj, fun e' x he hx => hr0 i j e' x he hx⟩)
    (fun i j hi hj => by
     have := (hnD i j hi hj).1
     rw [← toList_getD]
     simp only [Array.toList_append, List.append_assoc, List.getD_eq_getElem?_getD]
     rw [List.getElem?_append_right (by rw [hol, Nat.add_mul]; omega), hol, Nat.add_mul, List.getElem?_append_left (by rw [hnl]; omega)]
     congr 2
     omega) hG0 hd0'
   exact ⟨_, _, _, hr, g1, g2⟩
end
end Go.Proofs.YtlemeenicaidfaaGreatDoor

/- Soundness of one operation. -/
namespace Go.Proofs.YtlemeenicaidfaaGreatDoor
set_option linter.unusedVariables false
set_option linter.unusedSimpArgs false
open Go Go.RowKit

section
variable {P : Program} {np : Nat} {L : Lay} {W : WM} {w w' : World} {A : Nat → Prop} {os os' : List Obj} {hd hd' : Nat → Value} {F F' : Nat → Nat → Prop} {s : AS} {a : Act}

theorem Rel.flatA {A' : Nat → Prop} {x v} (h : Rel w A x v) (hx : x.flat = true) : Rel w A' x v := by
 cases h with
 | int k n => exact .int k n
 | bool b => exact .bool b
 | str s h => exact .str s h
 | _ => simp [AV.flat] at hx
theorem flat_noown {x : AV} (hx : x.flat = true) : x.isOwn = false := by
 cases x <;> simp_all [AV.flat, AV.isOwn]

theorem src_sound [St] (hw : CW W w A s.os hd F) {k : Nat} {y : AV} {v : Value} {K : List (List AV) → AS → Prop} (hy : SRel w A s.os hd y v) (hk : s.src (stdE np P) k y K) :
  ∃ fs s1 F1 A' H, K fs s1 ∧ s1.fr = s.fr ∧ CW W w A s1.os hd F1 ∧ (∀ z u, SRel w A s.os hd z u → SRel w A s1.os hd z u) ∧ (∀ id x, F1 id x → F id x) ∧ Nonempty (Src w A' k v fs H) ∧
   (∀ i j u x e', fs[i]? = some e' → e'[j]? = some x → XRel w A' x u (H i j) → XRel w A x u (H i j)) ∧ (∀ i j x, i < fs.length → j < k → H i j x → (∃ id, F id x) ∧ ∀ id, ¬ F1 id x) ∧
   (∀ i j i' j' x, i < fs.length → j < k → i' < fs.length → j' < k → H i j x → H i' j' x → i = i' ∧ j = j') := by
 unfold AS.src at hk
 split at hk
 ·rename_i own k' fs
  split at hk
  ·rename_i e; subst e
   obtain ⟨hno, hk⟩ := hk
   exact ⟨fs, s, F, A, fun _ _ _ => False, hk, rfl, hw, fun _ _ h => h, fun _ _ h => h, hy.sl_inv.src hno, fun _ _ _ _ _ _ _ h => h, fun _ _ _ _ _ h => h.elim, fun _ _ _ _ _ _ _ _ _ h => h.elim⟩
  ·exact hk.elim
 ·rename_i id lo hi
  split at hk
  ·rename_i _ k' es ho
   split at hk
   ·rename_i e; subst e
    obtain ⟨fs, ⟨hfl, hk⟩, hr⟩ : ∃ fs, ((∀ e ∈ fs, ∀ c ∈ e, c.flat = true) ∧ K fs s) ∧ Rel w (· < w.heap.size) (.sl false k fs) v := by
     have h1 : s.r1 (stdE np P) (.vs id lo hi) fun x => ∃ fs, x = .sl false k fs ∧ ((∀ e ∈ fs, ∀ c ∈ e, c.flat = true) ∧ K fs s) := by
      unfold AS.r1
      simp only [ho]
      obtain ⟨g1, g2, g3, g4⟩ := hk
      exact ⟨g1, g2, g3, _, rfl, g4⟩
     obtain ⟨x', ⟨fs, rfl, h2⟩, h3⟩ := r1_sound hw hy h1
     exact ⟨fs, h2, h3⟩
    exact ⟨fs, s, F, _, fun _ _ _ => False, hk, rfl, hw, fun _ _ h => h, fun _ _ h => h, hr.src (fun e he c hc => flat_noown (hfl e he c hc)), fun i j u x e' he hx h =>
     .pure _ _ _ ((h.flat (hfl e' (List.mem_of_getElem? he) x (List.mem_of_getElem? hx))).flatA (hfl e' (List.mem_of_getElem? he) x (List.mem_of_getElem? hx))) (flat_noown (hfl e' (List.mem_of_getElem? he) x (List.mem_of_getElem? hx))) (fun _ h => h),
     fun _ _ _ _ _ h => h.elim, fun _ _ _ _ _ _ _ _ _ h => h.elim⟩
   ·exact hk.elim
  ·exact hk.elim
 ·rename_i id
  split at hk
  ·rename_i _ k' es ho
   split at hk
   ·rename_i e; subst e
    obtain ⟨hw1, hm1⟩ := hw.kill id
    obtain ⟨H, h1, h2, h3⟩ := (hw.rows id k es ho).src
    refine ⟨es, ⟨s.fr, s.os.set id .dead⟩, _, A, H, hk, rfl, hw1, hm1, fun i x h => ?_, by rw [hy.ob_inv ho]; exact h1, fun _ _ _ _ _ _ _ h => h, fun i j x hi hj hx => ⟨⟨id, h2 i j x hi hj hx⟩, fun i' h => ?_⟩, h3⟩
    ·unfold updN at h
     split at h
     ·exact h.elim
     ·exact h
    ·unfold updN at h
     split at h
     ·exact h
     ·rename_i hne
      exact hne (hw.disj _ _ _ h (h2 i j x hi hj hx))
   ·exact hk.elim
  ·exact hk.elim
 ·exact hk.elim

theorem XRel.pre {k es} {p : Option Addr} {n c : Nat} {G : Nat → Prop} (h : XRel w A (.sl true k es) (.slice p n c) G) {m : Nat} (hm : m ≤ es.length) : ∃ G', XRel w A (.sl true k (es.take m)) (.slice p m c) G' ∧ ∀ y, G' y → G y := by
 cases h with
 | pure _ _ _ h ho hF => simp [AV.isOwn] at ho
 | nil =>
  simp at hm
  subst hm
  exact ⟨_, .nil _ (fun _ => False) (fun _ h => h), fun y h => h.elim⟩
 | sl _ _ cap b T c F G0 hb hl hcap hsz hk h1c hr hF h0 hd =>
  have hlen : (es.take m).length = m := by simp; omega
  refine ⟨fun x => x = b ∨ ∃ i j, i < (es.take m).length ∧ j < k ∧ G0 i j x, ?_, fun y hy => (hF y).2 (hy.imp (fun h => h) fun ⟨i, j, g1, g2, g3⟩ => ⟨i, j, by omega, g2, g3⟩)⟩
  have := XRel.sl (w := w) (A := A) k (es.take m) _ b T c (fun x => x = b ∨ ∃ i j, i < (es.take m).length ∧ j < k ∧ G0 i j x) G0 hb (by omega) (show (es.take m).length ≤ _ by omega) hsz (fun e he => hk e (List.mem_of_mem_take he))
   (fun i j hi hj => h1c i j (by omega) hj) (fun i j e a he ha => hr i j e a (by
    rw [List.getElem?_take] at he
    split at he
    ·exact he
    ·cases he) ha) (fun x => Iff.rfl) (fun i j hi hj => h0 i j (by omega) hj) (fun i j i' j' x h1 h2 h3 h4 => hd i j i' j' x (by omega) h2 (by omega) h4)
  simp only [hlen] at this ⊢
  exact this

theorem run_append_op {c : Call} {x y : Operand} {t ty : TypeId} {v : Value} {dst : Option Tmp} {pos : String} {af : Array Edge} {g : Option (Nat × Bool)} (hc : c.callee = .builtin .append) (ha : c.args.toList = [x, y]) (ht : c.argTypes.toList = [t, t])
  (h : (Builtin.append_ #[t, t] ty #[a.eval x, a.eval y]).run P w = .ok v w') : (execOp a.eval ⟨dst, .call c, ty, pos, af, g⟩).run P w = .ok (.value v) w' := by
 obtain ⟨ce, as', ts⟩ := c
 cases hc
 have ha' : as' = #[x, y] := by rw [← Array.toArray_toList (xs := as')]; rw [show as'.toList = [x, y] from ha]
 have ht' : ts = #[t, t] := by rw [← Array.toArray_toList (xs := ts)]; rw [show ts.toList = [t, t] from ht]
 subst ha' ht'
 show (Builtin.append_ #[t, t] ty _ >>= _).run P w = _
 rw [show (#[x, y] : Array Operand).map a.eval = #[a.eval x, a.eval y] from by simp, Sem.run_bind, h]
 rfl

theorem step_append [St] (hL : L.ty = layOf P) (hw : CW W w A s.os hd F) (hf : FR w A s.os hd s.fr a) {dst ty pos af g} {c : Call} {x y : Operand} {t e : TypeId} {K : AV → AS → Prop} (hc : c.callee = .builtin .append) (ha : c.args.toList = [x, y]) (ht : c.argTypes.toList = [t, t])
  (hd0 : (L.ty t).d = .slice e) (hd1 : (L.ty e).d ≠ .other) (hz : (L.ty e).zero ≠ []) (hzn : (L.ty e).zero.length = (L.ty e).n) (hn0 : (L.ty e).n ≠ 0) (hnv : ¬ ((∃ id z hi, s.get x = .vs id z hi) ∧ ∃ id z hi, s.get y = .vs id z hi))
  (hk : s.app (stdE np P) (L.ty e).n (L.ty e).bytes (s.get x) (s.get y) K) : StepOK P W w s a ⟨dst, .call c, ty, pos, af, g⟩ K := by
 intro next Q hn
 have hx := hf.get x
 have hy := hf.get y
 have hts := lay_slice hL hd0
 have hso : ∀ w, (sizeOf e).run P w = .ok (L.ty e).n w := fun w => run_sizeOf hL hd1
 generalize s.get x = xv at *
 generalize s.get y = yv at *
 -- one object behind the other
 have main : ∀ {s1 : AS} {F1 : Nat → Nat → Prop} {es fs : List (List AV)} {G : Nat → Prop} {H : Nat → Nat → Nat → Prop} {A' : Nat → Prop} {osd : List Obj} {F2 : Nat → Nat → Prop}, s1.fr = s.fr → osd.length = s1.os.length → CW W w A osd hd F2 → (∀ z u, SRel w A s.os hd z u → SRel w A osd hd z u) →
   XRel w A (.sl true (L.ty e).n es) (a.eval x) G → Nonempty (Src w A' (L.ty e).n (a.eval y) fs H) → (∀ i j u x e', fs[i]? = some e' → e'[j]? = some x → XRel w A' x u (H i j) → XRel w A x u (H i j)) →
   (∀ x, G x → W.new x ∧ x < w.heap.size ∧ ¬ A x ∧ ∀ id, ¬ F2 id x) → (∀ i j x, i < fs.length → j < (L.ty e).n → H i j x → W.new x ∧ x < w.heap.size ∧ ¬ A x ∧ (∀ id, ¬ F2 id x) ∧ ¬ G x) →
   (∀ i j i' j' x, i < fs.length → j < (L.ty e).n → i' < fs.length → j' < (L.ty e).n → H i j x → H i' j' x → i = i' ∧ j = j') → (stdE np P).cat (L.ty e).bytes es fs (fun es' => K (.ob s1.os.length) ⟨s1.fr, osd ++ [.row (L.ty e).n es']⟩) →
   (Oper.wp P ⟨dst, .call c, ty, pos, af, g⟩ a w next Q) := by
  intro s1 F1 es fs G H A' osd F2 e1 e2 hw2 hm2 hxr ⟨hs⟩ hsA hG hH hHd hcat
  obtain ⟨g1, g2, hK⟩ := hcat
  obtain ⟨v', w', F', r1, r2, r3⟩ := app_core (ty := ty) hL hw2 hd0 hd1 hz hzn hn0 hxr hs hsA hG hH hHd g1 g2
  exact wp_value (run_append_op hc ha ht r1) (hn _ _ _ _ A _ _ hK e1 r2 (hf.os_mono fun z u h => r3 z u (hm2 z u h)) (.ob _ _ (by simp [e2]) fun k es ho => by rw [← e2, updN_eq]))
 unfold AS.app at hk
 split at hk
 ·have e1 := hx.nils_inv
  have e2 := hy.nils_inv
  refine wp_value (v := .slice none 0 0) (w' := w) (run_append_op hc ha ht ?_) (hn _ _ _ _ A hd F hk rfl hw hf (.pure _ _ .nils))
  rw [e1, e2]
  exact run_append_zero hts hso none 0 0 (Nat.le_refl _) none 0
 ·rename_i id
  split at hk
  ·rename_i ho
   have e2 := hy.nils_inv
   have e1 := hx.ob_inv ho
   obtain ⟨p, c0, e3, _, e4⟩ := (hw.rel_row ho).sl_len
   refine wp_value (v := a.eval x) (w' := w) (run_append_op hc ha ht ?_) (hn _ _ _ _ A hd F hk rfl hw hf hx)
   rw [e1, e3, e2]
   exact run_append_zero hts hso p _ c0 e4 none 0
  ·exact hk.elim
 ·obtain ⟨fs, s1, F1, A', H, hk, h1, hw1, hm1, hF1, hs, hsA, hH, hHd⟩ := src_sound hw hy hk
  have e1 := hx.nils_inv
  refine main (s1 := s1) (F1 := F1) (es := []) (G := fun _ => False) h1 rfl hw1 hm1 (by rw [e1]; exact .nil _ _ (fun _ h => h)) hs hsA (fun _ h => h.elim) (fun i j x hi hj hx => ?_) hHd hk
  obtain ⟨⟨id, g1⟩, g2⟩ := hH i j x hi hj hx
  exact ⟨(hw.fsz id x g1).1, (hw.fsz id x g1).2, fun h => (hw.hA x h).2 id g1, g2, fun h => h⟩
 ·rename_i id _
  obtain ⟨fs, s1, F1, A', H, hk, h1, hw1, hm1, hF1, hs, hsA, hH, hHd⟩ := src_sound hw hy hk
  split at hk
  ·rename_i _ k' es ho
   split at hk
   ·rename_i e0; subst e0
    obtain ⟨hw2, hm2⟩ := hw1.kill id
    have hsub : ∀ i x, updN F1 id (fun _ => False) i x → F1 i x ∧ i ≠ id := fun i x hx => by
     unfold updN at hx
     split at hx
     ·exact hx.elim
     ·exact ⟨hx, by assumption⟩
    refine main (s1 := s1) (F1 := F1) (es := es) (G := F1 id) h1 (by simp) hw2 (fun z u h => hm2 z u (hm1 z u h)) (by rw [(hm1 _ _ hx).ob_inv ho]; exact hw1.rows id _ es ho) hs hsA (fun x hx => ⟨(hw1.fsz id x hx).1, (hw1.fsz id x hx).2, fun h => (hw1.hA x h).2 id hx, fun i hi => (hsub i x hi).2 (hw1.disj _ _ _ (hsub i x hi).1 hx)⟩) (fun i j x hi hj hx => ?_) hHd hk
    obtain ⟨⟨id', g1⟩, g2⟩ := hH i j x hi hj hx
    exact ⟨(hw.fsz id' x g1).1, (hw.fsz id' x g1).2, fun h => (hw.hA x h).2 id' g1, fun i' h => g2 i' (hsub i' x h).1, g2 id⟩
   ·exact hk.elim
  ·exact hk.elim
 ·exact (hnv ⟨⟨_, _, _, rfl⟩, _, _, _, rfl⟩).elim
 ·rename_i id z hi _
  obtain ⟨fs, s1, F1, A', H, hk2, h1, hw1, hm1, hF1, hs, hsA, hH, hHd⟩ := src_sound hw hy hk
  split at hk2
  ·rename_i _ k' es ho
   split at hk2
   ·rename_i e0
    obtain ⟨e0, rfl⟩ := e0
    subst e0
    obtain ⟨q1, q2, q3, hk2⟩ := hk2
    simp only [Option.getD_some] at q1 q2 q3 hk2
    obtain ⟨e1, e2, e3, p, cap, e4, e5, e6, e7⟩ := (hm1 _ _ hx).vs_inv ho
    obtain ⟨n, e7⟩ := e7 rfl
    have hr := hw1.rows id _ es ho
    rw [e7] at hr
    obtain ⟨G', hp, hG'⟩ := hr.pre (m := hi.toNat) (by omega)
    obtain ⟨hw2, hm2⟩ := hw1.kill id
    have hsub : ∀ i x, updN F1 id (fun _ => False) i x → F1 i x ∧ i ≠ id := fun i x hx => by
     unfold updN at hx
     split at hx
     ·exact hx.elim
     ·exact ⟨hx, by assumption⟩
    rw [Int.toNat_zero, List.drop_zero] at hk2
    refine main (s1 := s1) (F1 := F1) (es := es.take hi.toNat) (G := G') h1 (by simp) hw2 (fun z u h => hm2 z u (hm1 z u h)) (by rw [e4, show (hi - 0).toNat = hi.toNat by omega]; exact hp) hs hsA (fun x hx => ⟨(hw1.fsz id x (hG' x hx)).1, (hw1.fsz id x (hG' x hx)).2, fun h => (hw1.hA x h).2 id (hG' x hx), fun i hi => (hsub i x hi).2 (hw1.disj _ _ _ (hsub i x hi).1 (hG' x hx))⟩) (fun i j x hi hj hx => ?_) hHd hk2
    obtain ⟨⟨id', g1⟩, g2⟩ := hH i j x hi hj hx
    exact ⟨(hw.fsz id' x g1).1, (hw.fsz id' x g1).2, fun h => (hw.hA x h).2 id' g1, fun i' h => g2 i' (hsub i' x h).1, fun h => g2 id (hG' x h)⟩
   ·exact hk2.elim
  ·exact hk2.elim
 ·exact hk.elim
end
end Go.Proofs.YtlemeenicaidfaaGreatDoor

/- Soundness of one operation, the whole. -/
namespace Go.Proofs.YtlemeenicaidfaaGreatDoor
set_option linter.unusedVariables false
set_option linter.unusedSimpArgs false
open Go Go.RowKit

section
variable {P : Program} {np : Nat} {L : Lay} {W : WM} {w w' : World} {A : Nat → Prop} {os os' : List Obj} {hd hd' : Nat → Value} {F F' : Nat → Nat → Prop} {s : AS} {a : Act}

/-- A row changes in place, and what it owns with it. -/
theorem CW.setRowF [St] (h : CW W w A os hd F) {id k : Nat} {es es' : List (List AV)} (ho : os[id]? = some (.row k es)) (hlen : es.length = es'.length) {G' : Nat → Prop} (hk : Keeps (F id) w w')
  (hG' : ∀ x, G' x → F id x ∨ (W.new x ∧ x < w.heap.size ∧ ¬ A x ∧ ∀ i, ¬ F i x)) (hrow : XRel w' A (.sl true k es') (hd id) G') :
  CW W w' A (os.set id (.row k es')) hd (updN F id G') ∧ ∀ y u, SRel w A os hd y u → SRel w' A (os.set id (.row k es')) hd y u := by
 have hA : ∀ y, A y → y < w.heap.size ∧ ¬ F id y := fun y hy => ⟨(h.hA y hy).1, (h.hA y hy).2 id⟩
 have hlt := (List.getElem?_eq_some_iff.1 ho).1
 have hm : ∀ y u, SRel w A os hd y u → SRel w' A (os.set id (.row k es')) hd y u := fun y u hy => by
  refine (hy.keepG hA hk).os_mono (by simp) (fun i k' es'' hi h' => ?_) (fun i cs' hi h' => ?_) (fun i s' p' hi h' => ?_)
  ·rw [List.getElem?_set] at h'
   split at h'
   ·rename_i e
    subst e
    cases h'
    exact ⟨es, ho, hlen, rfl⟩
   ·exact ⟨es'', h', rfl, rfl⟩
  ·rw [List.getElem?_set] at h'
   split at h'
   ·cases h'
   ·exact ⟨cs', h', rfl⟩
  ·rw [List.getElem?_set] at h'
   split at h'
   ·cases h'
   ·exact ⟨s', p', h', rfl⟩
 have hF : ∀ j, j ≠ id → ∀ x, F j x → x < w.heap.size ∧ ¬ F id x := fun j hj x hx => ⟨(h.fsz j x hx).2, fun h' => hj (h.disj _ _ _ hx h')⟩
 refine ⟨⟨?_, fun x hx => ⟨Nat.lt_of_lt_of_le (hA x hx).1 hk.size, fun i hi => ?_⟩, fun i x hx => ?_, fun i j x hi hj => ?_, fun i k' es'' h' => ?_, fun i cs h' => ?_, fun i s' p' h' => ?_, fun p hp => ⟨by simpa using (h.pin p hp).1, (h.pin p hp).2⟩, h.old⟩, hm⟩
 ·exact h.below.keep hk (fun x h' => (h.fsz id x h').1)
 ·unfold updN at hi
  split at hi
  ·rcases hG' x hi with h1 | h1
   ·exact (hA x hx).2 h1
   ·exact h1.2.2.1 hx
  ·exact (h.hA x hx).2 i hi
 ·unfold updN at hx
  split at hx
  ·rcases hG' x hx with h1 | h1
   ·exact ⟨(h.fsz id x h1).1, Nat.lt_of_lt_of_le (h.fsz id x h1).2 hk.size⟩
   ·exact ⟨h1.1, Nat.lt_of_lt_of_le h1.2.1 hk.size⟩
  ·exact ⟨(h.fsz i x hx).1, Nat.lt_of_lt_of_le (h.fsz i x hx).2 hk.size⟩
 ·unfold updN at hi hj
  split at hi <;> split at hj
  ·omega
  ·rename_i e1 e2
   rcases hG' x hi with h1 | h1
   ·exact (e2 (h.disj _ _ _ hj h1)).elim
   ·exact (h1.2.2.2 j hj).elim
  ·rename_i e1 e2
   rcases hG' x hj with h1 | h1
   ·exact (e1 (h.disj _ _ _ hi h1)).elim
   ·exact (h1.2.2.2 i hi).elim
  ·exact h.disj i j x hi hj
 ·rw [List.getElem?_set] at h'
  split at h'
  ·rename_i e
   subst e
   cases h'
   rw [updN_eq]
   exact hrow
  ·rename_i e
   rw [updN_ne _ _ _ (Ne.symm e)]
   exact (h.rows i k' es'' h').mono (fun _ h => h) (fun x hx => hx.elim (fun hx => hk.block x (hA x hx).1 (hA x hx).2) (fun hx => hk.block x (hF i (Ne.symm e) x hx).1 (hF i (Ne.symm e) x hx).2))
 ·rw [List.getElem?_set] at h'
  split at h'
  ·cases h'
  ·rename_i e
   rw [updN_ne _ _ _ (Ne.symm e)]
   obtain ⟨b, T, c, e1, e2, e3, e4, e5⟩ := h.boxes i cs h'
   exact ⟨b, T, c, e1, by rw [hk.block b (hF i (Ne.symm e) b e5).1 (hF i (Ne.symm e) b e5).2]; exact e2, e3, fun j x hx => hm _ _ (e4 j x hx), e5⟩
 ·rw [List.getElem?_set] at h'
  split at h'
  ·cases h'
  ·rename_i e
   rw [updN_ne _ _ _ (Ne.symm e)]
   obtain ⟨b, e1, e2, e3⟩ := h.iters i s' p' h'
   exact ⟨b, e1, by rw [hk.block b (hF i (Ne.symm e) b e3).1 (hF i (Ne.symm e) b e3).2]; exact e2, e3⟩

theorem getD_mem' {l : List Value} {i : Nat} (h : i < l.length) : l.getD i undef ∈ l := by
 rw [List.getD_eq_getElem?_getD, List.getElem?_eq_getElem h]
 exact List.getElem_mem _

/-- A store into an own row. -/
theorem step_store_row [St] (hL : L.ty = layOf P) (hw : CW W w A s.os hd F) (hf : FR w A s.os hd s.fr a) {dst ty pos af g} {t : TypeId} {x y : Operand} {K : AV → AS → Prop} {id j : Nat} {i : Int} {vsl : List Value}
  (hx : s.get x = .pe id i j) (hd0 : (L.ty t).d ≠ .other) {cl : List AV} (hcl : (a.eval y).cells.toList = vsl) (hcn : vsl.length = cl.length) (hcr : ∀ (q : Nat) z, cl[q]? = some z → SRel w A s.os hd z (vsl.getD q undef)) (hn : cl.length = (L.ty t).n)
  (hk : s.ownL cl fun cs s' => match s'.os[id]? with
    | some (.row k es) => (stdE np P).upd es i j cs fun es' => K .und ⟨s'.fr, s'.os.set id (.row k es')⟩
    | _ => False) : StepOK P W w s a ⟨dst, .store t x y, ty, pos, af, g⟩ K := by
 intro next Q hnx
 have h1 := hf.get x
 rw [hx] at h1
 obtain ⟨s', F1, g1, g2, hw1, hm1, hF1, cs, Gn, hk, hcsl, hcs, hGn, hGd, hone⟩ := ownL_sound cl vsl s F _ hw hcn hcr hk
 split at hk
 ·rename_i k es ho
  obtain ⟨h0, e, he, hje, hk⟩ := hk
  have hi := (List.getElem?_eq_some_iff.1 he).1
  obtain ⟨bb, n, c0, q1, _, _, q2⟩ := (hm1 _ _ h1).pe_inv ho
  have hrow := hw1.rows id k es ho
  rw [q1] at hrow
  generalize hhd : Value.slice (some ⟨bb, 0, none⟩) n c0 = hv at hrow
  cases hrow with
  | pure _ _ _ h ho hF => simp [AV.isOwn] at ho
  | nil => simp at hi
  | sl _ _ cap b0 T c _ G hb hl hcap hsz hke h1c hr hF h00 hdj =>
   cases hhd
   obtain ⟨b, hbdef⟩ : ∃ b, b = bb := ⟨_, rfl⟩
   subst hbdef
   have hek := hke e (List.mem_of_getElem? he)
   have idx : ∀ i' j', i' < es.length → j' < k → i' * k + j' < c.size := fun i' j' hi' hj' => by
    have h5 : (i' + 1) * k ≤ c0 * k := Nat.mul_le_mul_right k (by omega)
    rw [Nat.add_mul] at h5; omega
   have hvl : vsl.length = cs.length := hcsl.symm
   have hfit : (i.toNat * k + j) + vsl.length ≤ c.size := by
    have h5 : (i.toNat + 1) * k ≤ c0 * k := Nat.mul_le_mul_right k (by omega)
    rw [Nat.add_mul] at h5; omega
   have hr0 := run_storeVar (P := P) (w := w) hL hd0 (off := i.toNat * k + j) (v := a.eval y) hb (by rw [← Array.length_toList, hcl, hcn]; exact hn) (by rw [← Array.length_toList, hcl]; exact hfit) (by rw [hcl]; exact hone)
   rw [hcl] at hr0
   -- what is new at place (i', j')
   let here : Nat → Nat → Prop := fun i' j' => i' = i.toNat ∧ j ≤ j' ∧ j' < j + cs.length
   have dec : ∀ i' j', Decidable (here i' j') := fun i' j' => inferInstanceAs (Decidable (_ ∧ _ ∧ _))
   have pos : ∀ i' j', i' < es.length → j' < k → (here i' j' ↔ (i.toNat * k + j ≤ i' * k + j' ∧ i' * k + j' < i.toNat * k + j + vsl.length)) := fun i' j' hi' hj' => by
    rw [hvl]
    constructor
    ·rintro ⟨rfl, h5, h6⟩; omega
    ·rintro ⟨h5, h6⟩
     have : i' = i.toNat := by
      rcases Nat.lt_trichotomy i' i.toNat with h7 | h7 | h7
      ·have : (i' + 1) * k ≤ i.toNat * k := Nat.mul_le_mul_right k h7
       rw [Nat.add_mul] at this; omega
      ·exact h7
      ·have : (i.toNat + 1) * k ≤ i' * k := Nat.mul_le_mul_right k h7
       rw [Nat.add_mul] at this; omega
     subst this
     exact ⟨rfl, by omega, by omega⟩
   let G2 : Nat → Nat → Nat → Prop := fun i' j' => if here i' j' then Gn (j' - j) else G i' j'
   have hGnew : ∀ i' j' x, here i' j' → Gn (j' - j) x → W.new x ∧ x < w.heap.size ∧ ¬ A x ∧ ∀ id, ¬ F1 id x := fun i' j' x hh hx => by
    obtain ⟨⟨id', h5⟩, h6⟩ := hGn (j' - j) x (by rw [hvl]; have := hh.2; omega) hx
    exact ⟨(hw.fsz id' x h5).1, (hw.fsz id' x h5).2, fun h => (hw.hA x h).2 id' h5, h6⟩
   have hcell : ∀ i' j', i' < es.length → j' < k → (spliceV c (i.toNat * k + j) vsl).getD (i' * k + j') undef = if here i' j' then vsl.getD (j' - j) undef else c.getD (i' * k + j') undef := fun i' j' hi' hj' => by
    rw [spliceV_getD hfit]
    have hp := pos i' j' hi' hj'
    by_cases hh : here i' j'
    ·rw [if_pos hh]
     obtain ⟨h5, h6⟩ := hp.1 hh
     rw [if_neg (by omega), if_pos h6]
     obtain ⟨rfl, h7, h8⟩ := hh
     congr 1
     omega
    ·rw [if_neg hh]
     split
     ·rfl
     ·split
      ·rename_i h5 h6
       exact (hh (hp.2 ⟨by omega, h6⟩)).elim
      ·rfl
   have hkp := setRow_keeps (w := w) (c' := spliceV c (i.toNat * k + j) vsl) (F1 id) ((hF b).2 (.inl rfl))
   have hne : ∀ i' j' x, i' < es.length → j' < k → G2 i' j' x → x ≠ b := fun i' j' x hi' hj' hx hxb => by
    subst hxb
    simp only [G2] at hx
    split at hx
    ·rename_i hh
     exact (hGnew i' j' x hh hx).2.2.2 id ((hF x).2 (.inl rfl))
    ·exact h00 i' j' hi' hj' hx
   have hkb : ∀ x, x ≠ b → (w.setRow b (spliceV c (i.toNat * k + j) vsl)).heap[x]? = w.heap[x]? := fun x hx => by
    simp [World.setRow, Array.getElem?_modify, Ne.symm hx]
   have hespl : ∀ i', (es.set i.toNat (splice e j cs))[i']? = if i' = i.toNat then some (splice e j cs) else es[i']? := fun i' => by
    rw [List.getElem?_set]
    by_cases h5 : i.toNat = i'
    ·subst h5; simp [hi]
    ·rw [if_neg h5, if_neg (Ne.symm h5)]
   obtain ⟨hw2, hm2⟩ := hw1.setRowF (es' := es.set i.toNat (splice e j cs)) ho (by simp) hkp (G' := fun x => x = b ∨ ∃ i' j', i' < es.length ∧ j' < k ∧ G2 i' j' x) (fun x hx => by
     rcases hx with rfl | ⟨i', j', hi', hj', hx⟩
     ·exact .inl ((hF x).2 (.inl rfl))
     ·simp only [G2] at hx
      split at hx
      ·rename_i hh
       exact .inr (hGnew i' j' x hh hx)
      ·exact .inl ((hF x).2 (.inr ⟨i', j', hi', hj', hx⟩))) (by
     rw [q1]
     have hlen : (es.set i.toNat (splice e j cs)).length = es.length := by simp
     have key := XRel.sl (w := w.setRow b (spliceV c (i.toNat * k + j) vsl)) (A := A) k (es.set i.toNat (splice e j cs)) c0 b T (spliceV c (i.toNat * k + j) vsl) (fun x => x = b ∨ ∃ i' j', i' < es.length ∧ j' < k ∧ G2 i' j' x) G2 (setRow_heap w b c _ T _ hb)
      (by rw [hlen]; exact hl) (by rw [hlen]; exact hcap) (by rw [spliceV_size hfit]; exact hsz) (fun e' he' => by
       rcases List.mem_or_eq_of_mem_set he' with h5 | h5
       ·exact hke e' h5
       ·rw [h5, splice_len hje, hek]) (fun i' j' hi' hj' => by
       rw [hlen] at hi'
       rw [hcell i' j' hi' hj']
       split
       ·rename_i hh
        refine hone _ (getD_mem' ?_)
        rw [hvl]; have := hh.2; omega
       ·exact h1c i' j' hi' hj') (fun i' j' e' x he' hx => by
       have hi' := (List.getElem?_eq_some_iff.1 he').1
       rw [hlen] at hi'
       have hj' := (List.getElem?_eq_some_iff.1 hx).1
       rw [hespl] at he'
       have hjk : j' < k := by
        split at he'
        ·cases he'; rw [splice_len hje, hek] at hj'; exact hj'
        ·rw [hke e' (List.mem_of_getElem? he')] at hj'; exact hj'
       rw [hcell i' j' hi' hjk]
       have mono : ∀ u, XRel w A x u (G2 i' j') → XRel (w.setRow b (spliceV c (i.toNat * k + j) vsl)) A x u (G2 i' j') := fun u h => h.mono (fun _ h => h) (fun z hz => hkb z (by
        rcases hz with hz | hz
        ·rintro rfl; exact (hw1.hA z hz).2 id ((hF z).2 (.inl rfl))
        ·exact hne i' j' z hi' hjk hz))
       by_cases hh : here i' j'
       ·rw [if_pos hh]
        refine mono _ ?_
        rw [if_pos hh.1] at he'
        cases he'
        rw [splice_get hje, if_neg (by have := hh.2; omega), if_pos hh.2.2] at hx
        exact (hcs (j' - j) x hx).congr (fun z => by simp only [G2]; rw [if_pos hh])
       ·rw [if_neg hh]
        refine mono _ ?_
        have hex : ∃ e0, es[i']? = some e0 ∧ e0[j']? = some x := by
         split at he'
         ·rename_i h5
          subst h5
          cases he'
          refine ⟨e, he, ?_⟩
          rw [splice_get hje] at hx
          split at hx
          ·exact hx
          ·split at hx
           ·rename_i h6 h7
            exact (hh ⟨rfl, by omega, h7⟩).elim
           ·exact hx
         ·exact ⟨e', he', hx⟩
        obtain ⟨e0, h5, h6⟩ := hex
        exact (hr i' j' e0 x h5 h6).congr (fun z => by simp only [G2]; rw [if_neg hh])) (fun x => by rw [hlen]) (fun i' j' hi' hj' h5 => by rw [hlen] at hi'; exact hne i' j' b hi' hj' h5 rfl) (fun i1 j1 i2 j2 x hi1 hj1 hi2 hj2 h5 h6 => by
       rw [hlen] at hi1 hi2
       simp only [G2] at h5 h6
       split at h5 <;> split at h6
       ·rename_i a1 a2
        have := hGd _ _ x (by rw [hvl]; have := a1.2; omega) (by rw [hvl]; have := a2.2; omega) h5 h6
        exact ⟨a1.1.trans a2.1.symm, by have := a1.2; have := a2.2; omega⟩
       ·rename_i a1 a2
        exact ((hGnew i1 j1 x a1 h5).2.2.2 id ((hF x).2 (.inr ⟨i2, j2, hi2, hj2, h6⟩))).elim
       ·rename_i a1 a2
        exact ((hGnew i2 j2 x a2 h6).2.2.2 id ((hF x).2 (.inr ⟨i1, j1, hi1, hj1, h5⟩))).elim
       ·exact hdj i1 j1 i2 j2 x hi1 hj1 hi2 hj2 h5 h6)
     rw [hlen] at key
     exact key)
   exact wp_skip' (run_store_op q2 hr0) (hnx _ _ _ _ A hd _ hk g1 hw2 (hf.os_mono fun z u h => hm2 z u (hm1 z u h)) (.pure _ _ .und))
 ·exact hk.elim

theorem run_clear_op {c : Call} {x : Operand} {t ty : TypeId} {dst : Option Tmp} {pos : String} {af : Array Edge} {g : Option (Nat × Bool)} (hc : c.callee = .builtin .clear) (ha : c.args.toList = [x]) (ht : c.argTypes.toList = [t]) {v : Value}
  (h : (Builtin.clear_ #[t] ty #[a.eval x]).run P w = .ok v w') : (execOp a.eval ⟨dst, .call c, ty, pos, af, g⟩).run P w = .ok (.value v) w' := by
 obtain ⟨ce, as', ts⟩ := c
 cases hc
 have ha' : as' = #[x] := by rw [← Array.toArray_toList (xs := as')]; rw [show as'.toList = [x] from ha]
 have ht' : ts = #[t] := by rw [← Array.toArray_toList (xs := ts)]; rw [show ts.toList = [t] from ht]
 subst ha' ht'
 show (Builtin.clear_ #[t] ty _ >>= _).run P w = _
 rw [show (#[x] : Array Operand).map a.eval = #[a.eval x] from by simp, Sem.run_bind, h]
 rfl

theorem setSelf {α : Type} {l : List α} {i : Nat} {x : α} (h : l[i]? = some x) : l.set i x = l := by
 refine List.ext_getElem? fun j => ?_
 rw [List.getElem?_set]
 split
 ·rename_i e; subst e
  rw [if_pos (List.getElem?_eq_some_iff.1 h).1, h]
 ·rfl

/-- A part of an own row is set to zeros. -/
theorem step_clear [St] (hL : L.ty = layOf P) (hw : CW W w A s.os hd F) (hf : FR w A s.os hd s.fr a) {dst ty pos af g} {c : Call} {x : Operand} {t e : TypeId} {id : Nat} {lo hi : Int} {es : List (List AV)} {K : AV → AS → Prop} (hc : c.callee = .builtin .clear) (ha : c.args.toList = [x]) (ht : c.argTypes.toList = [t])
  (hd0 : (L.ty t).d = .slice e) (hz : (L.ty e).zero ≠ []) (hzn : (L.ty e).zero.length = (L.ty e).n) (hzo : zok (L.ty e).zero = true) (hx : s.get x = .vs id lo hi) (ho : s.os[id]? = some (.row (L.ty e).n es))
  (hk : (stdE np P).clr es lo hi ((L.ty e).zero.map Z.av) fun es' => K .any ⟨s.fr, s.os.set id (.row (L.ty e).n es')⟩) : StepOK P W w s a ⟨dst, .call c, ty, pos, af, g⟩ K := by
 intro next Q hnx
 have hk : K .any ⟨s.fr, s.os.set id (.row (L.ty e).n (es.take lo.toNat ++ (List.replicate (hi - lo).toNat ((L.ty e).zero.map Z.av) ++ es.drop hi.toNat)))⟩ := hk
 have h1 := hf.get x
 rw [hx] at h1
 obtain ⟨e1, e2, e3, p, cap, e4, e5, e6, _⟩ := h1.vs_inv ho
 obtain ⟨i, z, h2, h3, h4, h5, h6⟩ := lay_zero hL hz
 by_cases hlt : lo < hi
 ·obtain ⟨b, n, c0, q1, q2⟩ := e6 hlt
  subst q2
  generalize hkn : (L.ty e).n = k at *
  have hzs : z.cells.size = k := by rw [h4] at hzn; simpa using hzn
  have hk0 : 0 < k := by rw [← hzn]; exact List.length_pos_iff.2 hz
  have hrow := hw.rows id k es ho
  rw [q1] at hrow
  generalize hhd : Value.slice (some ⟨b, 0, none⟩) n c0 = hv at hrow
  cases hrow with
  | pure _ _ _ h ho hF => simp [AV.isOwn] at ho
  | nil => simp at e3; omega
  | sl _ _ cap1 b0 T cs _ G hb hl hcap hsz hke h1c hr hF h00 hdj =>
   cases hhd
   generalize hm : (hi - lo).toNat = m at *
   have hlo : hi.toNat = lo.toNat + m := by omega
   have hmle : lo.toNat + m ≤ es.length := by omega
   let zs : List Value := (Builtin.zeroCells z.cells m).toList
   have hzl : zs.length = m * k := by simp [zs, Builtin.zeroCells, hzs]
   have hzget : ∀ q, q < m * k → zs.getD q undef = z.cells.getD (q % k) undef := fun q hq => by
    have hq' : q < (Builtin.zeroCells z.cells m).size := by simp [Builtin.zeroCells, hzs]; exact hq
    rw [List.getD_eq_getElem?_getD]
    simp only [zs, Array.getElem?_toList]
    rw [Array.getElem?_eq_getElem hq']
    simp only [Builtin.zeroCells, Array.getElem_map, Array.getElem_range, Option.getD_some, hzs]
    exact getElem!_getD _ _ (by rw [hzs]; exact Nat.mod_lt _ hk0)
   have hzj : ∀ j, j < k → ∃ zj, (L.ty e).zero[j]? = some zj ∧ zj = Z.of (z.cells.getD j undef) ∧ zj ≠ .other := fun j hj => by
    have hj' : j < z.cells.size := by omega
    refine ⟨Z.of (z.cells.getD j undef), ?_, rfl, ?_⟩
    ·rw [h4, List.getElem?_map, Array.getElem?_toList]
     simp [Array.getD, hj']
    ·refine zok_get hzo (i := j) ?_
     rw [h4, List.getElem?_map, Array.getElem?_toList]
     simp [Array.getD, hj']
   have hone : ∀ u ∈ zs, u.oneCell' = true := fun u hu => by
    obtain ⟨q, hq⟩ := List.getElem?_of_mem hu
    have hq' : q < m * k := by rw [← hzl]; exact (List.getElem?_eq_some_iff.1 hq).1
    have : u = zs.getD q undef := by rw [List.getD_eq_getElem?_getD, hq]; rfl
    rw [this, hzget q hq']
    obtain ⟨zj, _, g2, g3⟩ := hzj (q % k) (Nat.mod_lt _ hk0)
    exact (Z.of_one (w := w) (A := A) (G := fun _ => False) (g2 ▸ g3) (fun _ h => h)).2
   have hfit : lo.toNat * k + zs.length ≤ cs.size := by
    rw [hzl, ← Nat.add_mul]
    exact Nat.le_trans (Nat.mul_le_mul_right k (by omega)) hsz
   have hr0 := run_storeCells_at P b (lo.toNat * k) T zs 0 cs w hb (by simpa using hfit) hone
   simp only [Nat.add_zero] at hr0
   let here : Nat → Prop := fun i' => lo.toNat ≤ i' ∧ i' < lo.toNat + m
   have pos : ∀ i' j', j' < k → (here i' ↔ (lo.toNat * k ≤ i' * k + j' ∧ i' * k + j' < lo.toNat * k + zs.length)) := fun i' j' hj' => by
    rw [hzl, ← Nat.add_mul]
    constructor
    ·rintro ⟨g1, g2⟩
     have g3 : lo.toNat * k ≤ i' * k := Nat.mul_le_mul_right k g1
     have g4 : (i' + 1) * k ≤ (lo.toNat + m) * k := Nat.mul_le_mul_right k g2
     rw [Nat.add_mul] at g4
     omega
    ·rintro ⟨g1, g2⟩
     constructor
     ·apply Classical.byContradiction
      intro g3
      have : (i' + 1) * k ≤ lo.toNat * k := Nat.mul_le_mul_right k (by omega)
      rw [Nat.add_mul] at this; omega
     ·apply Classical.byContradiction
      intro g3
      have : (lo.toNat + m) * k ≤ i' * k := Nat.mul_le_mul_right k (by omega)
      omega
   have dec : ∀ i', Decidable (here i') := fun i' => inferInstanceAs (Decidable (_ ∧ _))
   let G2 : Nat → Nat → Nat → Prop := fun i' j' => if here i' then (fun _ => False) else G i' j'
   have hcell : ∀ i' j', j' < k → (spliceV cs (lo.toNat * k) zs).getD (i' * k + j') undef = if here i' then z.cells.getD j' undef else cs.getD (i' * k + j') undef := fun i' j' hj' => by
    rw [spliceV_getD hfit]
    have hp := pos i' j' hj'
    by_cases hh : here i'
    ·rw [if_pos hh]
     obtain ⟨g1, g2⟩ := hp.1 hh
     rw [if_neg (by omega), if_pos g2, hzget _ (by rw [hzl] at g2; omega)]
     congr 1
     have : i' * k + j' - lo.toNat * k = (i' - lo.toNat) * k + j' := by rw [Nat.sub_mul]; have := Nat.mul_le_mul_right k hh.1; omega
     rw [this, Nat.mul_comm, Nat.mul_add_mod, Nat.mod_eq_of_lt hj']
    ·rw [if_neg hh]
     split
     ·rfl
     ·split
      ·rename_i g1 g2
       exact (hh (hp.2 ⟨by omega, g2⟩)).elim
      ·rfl
   have hkp := setRow_keeps (w := w) (c' := spliceV cs (lo.toNat * k) zs) (F id) ((hF b).2 (.inl rfl))
   have hkb : ∀ x, x ≠ b → (w.setRow b (spliceV cs (lo.toNat * k) zs)).heap[x]? = w.heap[x]? := fun x hx => by
    simp [World.setRow, Array.getElem?_modify, Ne.symm hx]
   have hsub : ∀ i' j' x, G2 i' j' x → G i' j' x ∧ ¬ here i' := fun i' j' x hx => by
    simp only [G2] at hx
    split at hx
    ·exact hx.elim
    ·exact ⟨hx, by assumption⟩
   have hlen : (es.take lo.toNat ++ (List.replicate m ((L.ty e).zero.map Z.av) ++ es.drop hi.toNat)).length = es.length := by simp; omega
   have hget : ∀ i', i' < es.length → (es.take lo.toNat ++ (List.replicate m ((L.ty e).zero.map Z.av) ++ es.drop hi.toNat))[i']? = if here i' then some ((L.ty e).zero.map Z.av) else es[i']? := fun i' hi' => by
    have htl : (es.take lo.toNat).length = lo.toNat := by simp; omega
    by_cases g1 : i' < lo.toNat
    ·rw [List.getElem?_append_left (by omega), List.getElem?_take, if_pos g1, if_neg (fun h => by have := h.1; omega)]
    ·rw [List.getElem?_append_right (by omega), htl]
     by_cases g2 : i' < lo.toNat + m
     ·rw [List.getElem?_append_left (by simp; omega), List.getElem?_replicate, if_pos (by omega), if_pos ⟨by omega, g2⟩]
     ·rw [List.getElem?_append_right (by simp; omega), List.length_replicate, List.getElem?_drop, if_neg (fun h => by have := h.2; omega)]
      congr 1; omega
   obtain ⟨hw2, hm2⟩ := hw.setRowF (es' := es.take lo.toNat ++ (List.replicate m ((L.ty e).zero.map Z.av) ++ es.drop hi.toNat)) ho hlen.symm hkp (G' := fun x => x = b ∨ ∃ i' j', i' < es.length ∧ j' < k ∧ G2 i' j' x) (fun x hx => by
     rcases hx with rfl | ⟨i', j', hi', hj', hx⟩
     ·exact .inl ((hF x).2 (.inl rfl))
     ·exact .inl ((hF x).2 (.inr ⟨i', j', hi', hj', (hsub _ _ _ hx).1⟩))) (by
     rw [q1]
     have key := XRel.sl (w := w.setRow b (spliceV cs (lo.toNat * k) zs)) (A := A) k _ c0 b T (spliceV cs (lo.toNat * k) zs) (fun x => x = b ∨ ∃ i' j', i' < es.length ∧ j' < k ∧ G2 i' j' x) G2 (setRow_heap w b cs _ T _ hb)
      (by rw [hlen]; exact hl) (by rw [hlen]; exact hcap) (by rw [spliceV_size hfit]; exact hsz) (fun e' he' => by
       obtain ⟨i', g1⟩ := List.getElem?_of_mem he'
       have g2 := (List.getElem?_eq_some_iff.1 g1).1
       rw [hlen] at g2
       rw [hget i' g2] at g1
       split at g1
       ·cases g1; rw [List.length_map, hzn]
       ·exact hke e' (List.mem_of_getElem? g1)) (fun i' j' hi' hj' => by
       rw [hlen] at hi'
       rw [hcell i' j' hj']
       split
       ·obtain ⟨zj, _, g2, g3⟩ := hzj j' hj'
        exact (Z.of_one (w := w) (A := A) (G := fun _ => False) (g2 ▸ g3) (fun _ h => h)).2
       ·exact h1c i' j' hi' hj') (fun i' j' e' x he' hx => by
       have hi' := (List.getElem?_eq_some_iff.1 he').1
       rw [hlen] at hi'
       rw [hget i' hi'] at he'
       by_cases hh : here i'
       ·rw [if_pos hh] at he'
        cases he'
        have hj' := (List.getElem?_eq_some_iff.1 hx).1
        rw [List.length_map, hzn] at hj'
        rw [hcell i' j' hj', if_pos hh]
        obtain ⟨zj, g1, g2, g3⟩ := hzj j' hj'
        rw [List.getElem?_map, g1] at hx
        cases hx
        rw [g2]
        exact (Z.of_one (g2 ▸ g3) (fun _ h => h)).1.congr (fun y => by simp only [G2]; rw [if_pos hh])
       ·rw [if_neg hh] at he'
        have hj' := (List.getElem?_eq_some_iff.1 hx).1
        rw [hke e' (List.mem_of_getElem? he')] at hj'
        rw [hcell i' j' hj', if_neg hh]
        refine ((hr i' j' e' x he' hx).mono (fun _ h => h) (fun y hy => hkb y ?_)).congr (fun y => by simp only [G2]; rw [if_neg hh])
        rcases hy with hy | hy
        ·rintro rfl; exact (hw.hA y hy).2 id ((hF y).2 (.inl rfl))
        ·rintro rfl; exact h00 i' j' hi' hj' hy) (fun x => by rw [hlen]) (fun i' j' hi' hj' h5 => by rw [hlen] at hi'; exact h00 i' j' hi' hj' (hsub _ _ _ h5).1) (fun i1 j1 i2 j2 x hi1 hj1 hi2 hj2 g1 g2 => by
       rw [hlen] at hi1 hi2
       exact hdj i1 j1 i2 j2 x hi1 hj1 hi2 hj2 (hsub _ _ _ g1).1 (hsub _ _ _ g2).1)
     rw [hlen] at key
     exact key)
   refine wp_value (run_clear_op hc ha ht (v := .tuple #[]) ?_) (hnx _ _ _ _ A hd _ hk rfl hw2 (hf.os_mono fun z u h => hm2 z u h) (.pure _ _ (.any _)))
   rw [e4]
   obtain ⟨m', hm'⟩ : ∃ m', m = m' + 1 := ⟨m - 1, by omega⟩
   have hr1 : (storeCells ⟨b, lo.toNat * k, none⟩ (Builtin.zeroCells z.cells m).toList).run P w = .ok () (w.setRow b (spliceV cs (lo.toNat * k) zs)) := hr0
   subst hm'
   simp [Builtin.clear_, run_underlying (lay_slice hL hd0), zeroValue, typeInfo, h2, h3, hr1]
 ·have e0 : hi - lo = 0 := by omega
  have hes : es.take lo.toNat ++ (List.replicate (hi - lo).toNat ((L.ty e).zero.map Z.av) ++ es.drop hi.toNat) = es := by
   rw [e0, show hi.toNat = lo.toNat by omega]
   simp
  rw [hes, setSelf ho] at hk
  refine wp_value (run_clear_op hc ha ht (v := .tuple #[]) (w' := w) ?_) (hnx _ s _ _ A hd F hk rfl hw hf (.pure _ _ (.any _)))
  rw [e4, e0]
  cases p <;> simp [Builtin.clear_, run_underlying (lay_slice hL hd0)]
/-- Some rows of an own row are overwritten by flat ones. -/
theorem CW.rowOver [St] (hw : CW W w A os hd F) {id k lo m b n c0 : Nat} {es fs : List (List AV)} {zs : List Value} (ho : os[id]? = some (.row k es)) (q1 : hd id = .slice (some ⟨b, 0, none⟩) n c0) (hk0 : 0 < k) (hm : fs.length = m) (hmle : lo + m ≤ es.length) (hzl : zs.length = m * k) (hfl : ∀ e ∈ fs, e.length = k)
  (hone : ∀ u ∈ zs, u.oneCell' = true) (hrel : ∀ (w' : World) (i j : Nat) e x, fs[i]? = some e → e[j]? = some x → XRel w' A x (zs.getD (i * k + j) undef) (fun _ => False)) :
  ∃ cs T, w.heap[b]? = some (.cells cs T (0, 0)) ∧ lo * k + zs.length ≤ cs.size ∧ es.length ≤ c0 ∧
   ∃ F', CW W (w.setRow b (spliceV cs (lo * k) zs)) A (os.set id (.row k (es.take lo ++ (fs ++ es.drop (lo + m))))) hd F' ∧ ∀ y u, SRel w A os hd y u → SRel (w.setRow b (spliceV cs (lo * k) zs)) A (os.set id (.row k (es.take lo ++ (fs ++ es.drop (lo + m))))) hd y u := by
 have hrow := hw.rows id k es ho
 rw [q1] at hrow
 generalize hhd : Value.slice (some ⟨b, 0, none⟩) n c0 = hv at hrow
 cases hrow with
 | pure _ _ _ h ho hF => simp [AV.isOwn] at ho
 | nil => cases hhd
 | sl _ _ cap1 b0 T cs _ G hb hl hcap hsz hke h1c hr hF h00 hdj =>
  cases hhd
  have hfit : lo * k + zs.length ≤ cs.size := by
   rw [hzl, ← Nat.add_mul]
   exact Nat.le_trans (Nat.mul_le_mul_right k (by omega)) hsz
  let here : Nat → Prop := fun i' => lo ≤ i' ∧ i' < lo + m
  have pos : ∀ i' j', j' < k → (here i' ↔ (lo * k ≤ i' * k + j' ∧ i' * k + j' < lo * k + zs.length)) := fun i' j' hj' => by
   rw [hzl, ← Nat.add_mul]
   constructor
   ·rintro ⟨g1, g2⟩
    have g3 : lo * k ≤ i' * k := Nat.mul_le_mul_right k g1
    have g4 : (i' + 1) * k ≤ (lo + m) * k := Nat.mul_le_mul_right k g2
    rw [Nat.add_mul] at g4
    omega
   ·rintro ⟨g1, g2⟩
    constructor
    ·apply Classical.byContradiction
     intro g3
     have : (i' + 1) * k ≤ lo * k := Nat.mul_le_mul_right k (by omega)
     rw [Nat.add_mul] at this; omega
    ·apply Classical.byContradiction
     intro g3
     have : (lo + m) * k ≤ i' * k := Nat.mul_le_mul_right k (by omega)
     omega
  have dec : ∀ i', Decidable (here i') := fun i' => inferInstanceAs (Decidable (_ ∧ _))
  let G2 : Nat → Nat → Nat → Prop := fun i' j' => if here i' then (fun _ => False) else G i' j'
  have hcell : ∀ i' j', j' < k → (spliceV cs (lo * k) zs).getD (i' * k + j') undef = if here i' then zs.getD ((i' - lo) * k + j') undef else cs.getD (i' * k + j') undef := fun i' j' hj' => by
   rw [spliceV_getD hfit]
   have hp := pos i' j' hj'
   by_cases hh : here i'
   ·rw [if_pos hh]
    obtain ⟨g1, g2⟩ := hp.1 hh
    rw [if_neg (by omega), if_pos g2]
    congr 1
    rw [Nat.sub_mul]; have := Nat.mul_le_mul_right k hh.1; omega
   ·rw [if_neg hh]
    split
    ·rfl
    ·split
     ·rename_i g1 g2
      exact (hh (hp.2 ⟨by omega, g2⟩)).elim
     ·rfl
  have hkp := setRow_keeps (w := w) (c' := spliceV cs (lo * k) zs) (F id) ((hF b).2 (.inl rfl))
  have hkb : ∀ x, x ≠ b → (w.setRow b (spliceV cs (lo * k) zs)).heap[x]? = w.heap[x]? := fun x hx => by
   simp [World.setRow, Array.getElem?_modify, Ne.symm hx]
  have hsub : ∀ i' j' x, G2 i' j' x → G i' j' x ∧ ¬ here i' := fun i' j' x hx => by
   simp only [G2] at hx
   split at hx
   ·exact hx.elim
   ·exact ⟨hx, by assumption⟩
  have hlen : (es.take lo ++ (fs ++ es.drop (lo + m))).length = es.length := by simp; omega
  have hget : ∀ i', i' < es.length → (es.take lo ++ (fs ++ es.drop (lo + m)))[i']? = if here i' then fs[i' - lo]? else es[i']? := fun i' hi' => by
   have htl : (es.take lo).length = lo := by simp; omega
   by_cases g1 : i' < lo
   ·rw [List.getElem?_append_left (by omega), List.getElem?_take, if_pos g1, if_neg (fun h => by have := h.1; omega)]
   ·rw [List.getElem?_append_right (by omega), htl]
    by_cases g2 : i' < lo + m
    ·rw [List.getElem?_append_left (by omega), if_pos ⟨by omega, g2⟩]
    ·rw [List.getElem?_append_right (by omega), hm, List.getElem?_drop, if_neg (fun h => by have := h.2; omega)]
     congr 1; omega
  obtain ⟨hw2, hm2⟩ := hw.setRowF (es' := es.take lo ++ (fs ++ es.drop (lo + m))) ho hlen.symm hkp (G' := fun x => x = b ∨ ∃ i' j', i' < es.length ∧ j' < k ∧ G2 i' j' x) (fun x hx => by
    rcases hx with rfl | ⟨i', j', hi', hj', hx⟩
    ·exact .inl ((hF x).2 (.inl rfl))
    ·exact .inl ((hF x).2 (.inr ⟨i', j', hi', hj', (hsub _ _ _ hx).1⟩))) (by
    rw [q1]
    have key := XRel.sl (w := w.setRow b (spliceV cs (lo * k) zs)) (A := A) k (es.take lo ++ (fs ++ es.drop (lo + m))) c0 b T (spliceV cs (lo * k) zs) (fun x => x = b ∨ ∃ i' j', i' < es.length ∧ j' < k ∧ G2 i' j' x) G2 (setRow_heap w b cs _ T _ hb)
     (by rw [hlen]; exact hl) (by rw [hlen]; exact hcap) (by rw [spliceV_size hfit]; exact hsz) (fun e' he' => by
      rcases List.mem_append.1 he' with h | h
      ·exact hke e' (List.mem_of_mem_take h)
      ·rcases List.mem_append.1 h with h | h
       ·exact hfl e' h
       ·exact hke e' (List.mem_of_mem_drop h)) (fun i' j' hi' hj' => by
      rw [hlen] at hi'
      rw [hcell i' j' hj']
      split
      ·rename_i hh
       have g1 := hh.1
       have g2 := hh.2
       have g3 : (i' - lo) * k + j' < zs.length := by
        rw [hzl]
        have : (i' - lo + 1) * k ≤ m * k := Nat.mul_le_mul_right k (by omega)
        rw [Nat.add_mul] at this; omega
       refine hone _ ?_
       rw [List.getD_eq_getElem?_getD, List.getElem?_eq_getElem g3]
       exact List.getElem_mem _
      ·exact h1c i' j' hi' hj') (fun i' j' e' x he' hx => by
      have hi' := (List.getElem?_eq_some_iff.1 he').1
      rw [hlen] at hi'
      rw [hget i' hi'] at he'
      by_cases hh : here i'
      ·rw [if_pos hh] at he'
       have hj' := (List.getElem?_eq_some_iff.1 hx).1
       rw [hfl e' (List.mem_of_getElem? he')] at hj'
       rw [hcell i' j' hj', if_pos hh]
       exact (hrel _ _ _ _ _ he' hx).congr (fun y => by simp only [G2]; rw [if_pos hh])
      ·rw [if_neg hh] at he'
       have hj' := (List.getElem?_eq_some_iff.1 hx).1
       rw [hke e' (List.mem_of_getElem? he')] at hj'
       rw [hcell i' j' hj', if_neg hh]
       refine ((hr i' j' e' x he' hx).mono (fun _ h => h) (fun y hy => hkb y ?_)).congr (fun y => by simp only [G2]; rw [if_neg hh])
       rcases hy with hy | hy
       ·rintro rfl; exact (hw.hA y hy).2 id ((hF y).2 (.inl rfl))
       ·rintro rfl; exact h00 i' j' hi' hj' hy) (fun x => by rw [hlen]) (fun i' j' hi' hj' h5 => by rw [hlen] at hi'; exact h00 i' j' hi' hj' (hsub _ _ _ h5).1) (fun i1 j1 i2 j2 x hi1 hj1 hi2 hj2 g1 g2 => by
      rw [hlen] at hi1 hi2
      exact hdj i1 j1 i2 j2 x hi1 hj1 hi2 hj2 (hsub _ _ _ g1).1 (hsub _ _ _ g2).1)
    rw [hlen] at key
    exact key)
  exact ⟨cs, T, hb, hfit, hcap, _, hw2, hm2⟩
theorem XRel.flatH {A : Nat → Prop} {x v} {G : Nat → Prop} (h : XRel w A x v G) (hx : x.flatH = true) : Rel w A x v := by
 cases h with
 | pure _ _ _ h _ _ => exact h
 | nil => simp [AV.flatH] at hx
 | sl => simp [AV.flatH] at hx
 | bx => simp [AV.flatH] at hx
 | agg => simp [AV.flatH] at hx
 | tup => simp [AV.flatH] at hx
theorem Rel.flatHW {w w' : World} {A A' : Nat → Prop} {x v} (h : Rel w A x v) (hx : x.flatH = true) : Rel w' A' x v := by
 cases h with
 | int k n => exact .int k n
 | bool b => exact .bool b
 | str s h => exact .str s h
 | hd x v h1 h2 => cases x <;> first | exact .hd _ _ h1 (.any _) | simp [AV.flatH] at hx
 | _ => simp [AV.flatH] at hx
theorem Rel.flatHA {A' : Nat → Prop} {x v} (h : Rel w A x v) (hx : x.flatH = true) : Rel w A' x v := h.flatHW hx
theorem flatH_noown {x : AV} (hx : x.flatH = true) : x.isOwn = false := by
 cases x <;> simp_all [AV.flatH, AV.isOwn]
/-- An append in place: a part of an own row goes behind an earlier one. -/
theorem step_appV [St] (hL : L.ty = layOf P) (hw : CW W w A s.os hd F) (hf : FR w A s.os hd s.fr a) {dst ty pos af g} {c : Call} {x y : Operand} {t e : TypeId} {id : Nat} {hi lo' hi' : Int} {es : List (List AV)} {K : AV → AS → Prop} (hc : c.callee = .builtin .append) (ha : c.args.toList = [x, y]) (ht : c.argTypes.toList = [t, t])
  (hd0 : (L.ty t).d = .slice e) (hd1 : (L.ty e).d ≠ .other) (hz : (L.ty e).zero ≠ []) (hn0 : (L.ty e).n ≠ 0) (hx : s.get x = .vs id 0 hi) (hy : s.get y = .vs id lo' hi') (ho : s.os[id]? = some (.row (L.ty e).n es))
  (hk : (stdE np P).mv es hi lo' hi' fun es' m => K (.vs id 0 m) ⟨s.fr, s.os.set id (.row (L.ty e).n es')⟩) : StepOK P W w s a ⟨dst, .call c, ty, pos, af, g⟩ K := by
 intro next Q hnx
 obtain ⟨hle, hflat, hk⟩ := hk
 have h1 := hf.get x
 have h2 := hf.get y
 rw [hx] at h1
 rw [hy] at h2
 obtain ⟨_, a2, a3, p, cap, a4, a5, a6, a7⟩ := h1.vs_inv ho
 obtain ⟨b1, b2, b3, p', cap', b4, b5, b6, _⟩ := h2.vs_inv ho
 obtain ⟨nv, a8⟩ := a7 rfl
 have hts := lay_slice hL hd0
 have hso : ∀ w, (sizeOf e).run P w = .ok (L.ty e).n w := fun w => run_sizeOf hL hd1
 obtain ⟨i, z, g1, g2, g3, g4, g5⟩ := lay_zero hL hz
 by_cases hlt : lo' < hi'
 ·obtain ⟨b, n, c0, q1, q2⟩ := b6 hlt
  rw [a8] at q1
  cases q1
  subst q2
  generalize hkn : (L.ty e).n = k at *
  have hk0 : 0 < k := by omega
  obtain ⟨m, hmm⟩ : ∃ m, m = (hi' - lo').toNat := ⟨_, rfl⟩
  have hrow := hw.rows id k es ho
  rw [a8] at hrow
  generalize hhd : Value.slice (some ⟨b, 0, none⟩) nv cap = hv at hrow
  cases hrow with
  | pure _ _ _ h ho hF => simp [AV.isOwn] at ho
  | nil => cases hhd
  | sl _ _ cap1 b0 T cs _ G hb hl hcap hsz hke h1c hr hF h00 hdj =>
   cases hhd
   have hfsl : ((es.take hi'.toNat).drop lo'.toNat).length = m := by simp; omega
   have hfsg : ∀ i', i' < m → ((es.take hi'.toNat).drop lo'.toNat)[i']? = es[lo'.toNat + i']? := fun i' hi2 => by
    rw [List.getElem?_drop, List.getElem?_take, if_pos (by omega)]
   obtain ⟨zs, hzs⟩ : ∃ zs : List Value, zs = (List.range (m * k)).map fun q => cs.getD (lo'.toNat * k + q) undef := ⟨_, rfl⟩
   have hzl : zs.length = m * k := by rw [hzs]; simp
   have hidx : ∀ q, q < m * k → q / k < m ∧ q % k < k ∧ q / k * k + q % k = q := fun q hq => ⟨(Nat.div_lt_iff_lt_mul hk0).2 hq, Nat.mod_lt _ hk0, by rw [Nat.mul_comm]; exact Nat.div_add_mod q k⟩
   have hzg : ∀ q, q < m * k → zs[q]? = some (cs.getD (lo'.toNat * k + q) undef) := fun q hq => by
    rw [hzs, List.getElem?_map, List.getElem?_range hq]; rfl
   have hin : lo'.toNat * k + m * k ≤ cs.size := by
    rw [← Nat.add_mul]
    exact Nat.le_trans (Nat.mul_le_mul_right k (by omega)) hsz
   have hone : ∀ u ∈ zs, u.oneCell' = true := fun u hu => by
    obtain ⟨q, hq⟩ := List.getElem?_of_mem hu
    have hq' : q < m * k := by rw [← hzl]; exact (List.getElem?_eq_some_iff.1 hq).1
    rw [hzg q hq'] at hq
    cases hq
    obtain ⟨r1, r2, r3⟩ := hidx q hq'
    have := h1c (lo'.toNat + q / k) (q % k) (by omega) r2
    rwa [Nat.add_mul, Nat.add_assoc, r3] at this
   have hnews : ∀ j u, zs[j]? = some u → w.cell? ((⟨b, lo'.toNat * k, none⟩ : Addr).add j) = some u := fun j u hu => by
    have hq' : j < m * k := by rw [← hzl]; exact (List.getElem?_eq_some_iff.1 hu).1
    rw [hzg j hq'] at hu
    cases hu
    rw [addr_add]
    have : lo'.toNat * k + j < cs.size := by omega
    simp [World.cell?, hb, Array.getD, this]
   have hrel : ∀ (w' : World) (i j : Nat) e x, ((es.take hi'.toNat).drop lo'.toNat)[i]? = some e → e[j]? = some x → XRel w' A x (zs.getD (i * k + j) undef) (fun _ => False) := fun w' i' j' e' x' he hx' => by
    have hi2 : i' < m := by rw [← hfsl]; exact (List.getElem?_eq_some_iff.1 he).1
    have hfl' := hflat e' (List.mem_of_getElem? he) x' (List.mem_of_getElem? hx')
    rw [hfsg i' hi2] at he
    have hj2 : j' < k := by
     have := (List.getElem?_eq_some_iff.1 hx').1
     rwa [hke e' (List.mem_of_getElem? he)] at this
    have h5 := hr (lo'.toNat + i') j' e' x' he hx'
    have hq : i' * k + j' < m * k := by
     have : (i' + 1) * k ≤ m * k := Nat.mul_le_mul_right k hi2
     rw [Nat.add_mul] at this; omega
    have e5 : zs.getD (i' * k + j') undef = cs.getD ((lo'.toNat + i') * k + j') undef := by
     rw [List.getD_eq_getElem?_getD, hzg _ hq, Nat.add_mul, Nat.add_assoc]; rfl
    rw [e5]
    have h6 := (h5.flatH hfl').flatHA (A' := A) hfl'
    have h7 : Rel w' A x' (cs.getD ((lo'.toNat + i') * k + j') undef) := by
     generalize cs.getD ((lo'.toNat + i') * k + j') undef = u0 at h6 ⊢
     exact h6.flatHW hfl'
    exact .pure _ _ _ h7 (flatH_noown hfl') (fun _ h => h)
   obtain ⟨cs', T', r1, r2, r3, F', r4, r5⟩ := hw.rowOver (lo := hi.toNat) ho a8 hk0 hfsl (by omega) hzl (fun e' he => hke e' (List.mem_of_mem_take (List.mem_of_mem_drop he))) hone hrel
   rw [hb] at r1
   cases r1
   have hi4 : i.size = k := by omega
   have hrun := run_append_room' (P := P) (w := w) (ty := ty) i hts g1 b hi.toNat cap cs hb ⟨b, lo'.toNat * k, none⟩ m cap' zs (by rw [hi4]; exact hzl) hnews hone (by omega) (by rw [hi4]; exact r2)
   rw [hi4] at hrun
   have e7 : (hi + (hi' - lo')).toNat = hi.toNat + m := by omega
   rw [e7] at hk
   refine wp_value (run_append_op hc ha ht (v := .slice (some ⟨b, 0, none⟩) (hi.toNat + m) cap) ?_) (hnx _ _ _ _ A hd F' hk rfl r4 (hf.os_mono fun z u h => r5 z u h) (.vs _ _ _ _ (by simpa using h1.vs_lt) fun k' es' h' => ?_))
   ·rw [a4, b4]
    have e8 : (hi - 0).toNat = hi.toNat := by omega
    rw [e8, ← hmm]
    exact hrun
   ·have hlen := h1.vs_lt
    rw [List.getElem?_set, if_pos rfl, if_pos hlen] at h'
    cases h'
    have hll : (es.take hi.toNat ++ ((es.take hi'.toNat).drop lo'.toNat ++ es.drop (hi.toNat + m))).length = es.length := by simp; omega
    rw [hll]
    refine ⟨Int.le_refl _, by omega, by omega, some ⟨b, 0, none⟩, cap, ?_, by omega, fun _ => ⟨b, _, _, a8, by simp⟩, fun _ => ⟨_, a8⟩⟩
    congr 1; omega
 ·have e0 : hi' = lo' := by omega
  subst e0
  have hes : es.take hi.toNat ++ ((es.take hi'.toNat).drop hi'.toNat ++ es.drop (hi + (hi' - hi')).toNat) = es := by
   rw [List.drop_eq_nil_of_le (by simp; omega), show (hi + (hi' - hi')).toNat = hi.toNat by omega]
   simp
  rw [hes, setSelf ho, show hi + (hi' - hi') = hi by omega] at hk
  refine wp_value (v := a.eval x) (w' := w) (run_append_op hc ha ht ?_) (hnx _ s _ _ A hd F hk rfl hw hf h1)
  rw [a4, b4, show (hi' - hi').toNat = 0 by omega]
  exact run_append_zero hts hso p _ cap (by omega) p' cap'
theorem step_app [St] (hL : L.ty = layOf P) (hw : CW W w A s.os hd F) (hf : FR w A s.os hd s.fr a) {dst ty pos af g} {c : Call} {x y : Operand} {t e : TypeId} {K : AV → AS → Prop} (hc : c.callee = .builtin .append) (ha : c.args.toList = [x, y]) (ht : c.argTypes.toList = [t, t])
  (hd0 : (L.ty t).d = .slice e) (hd1 : (L.ty e).d ≠ .other) (hz : (L.ty e).zero ≠ []) (hzn : (L.ty e).zero.length = (L.ty e).n) (hn0 : (L.ty e).n ≠ 0)
  (hk : s.app (stdE np P) (L.ty e).n (L.ty e).bytes (s.get x) (s.get y) K) : StepOK P W w s a ⟨dst, .call c, ty, pos, af, g⟩ K := by
 by_cases hv : (∃ id z hi, s.get x = .vs id z hi) ∧ ∃ id z hi, s.get y = .vs id z hi
 ·obtain ⟨⟨id, z, hi, hx⟩, id', lo', hi', hy⟩ := hv
  rw [hx, hy] at hk
  simp only [AS.app] at hk
  split at hk
  ·rename_i k' es ho
   split at hk
   ·rename_i hh
    obtain ⟨⟨rfl, rfl⟩, rfl⟩ := hh
    exact step_appV hL hw hf hc ha ht hd0 hd1 hz hn0 hx hy ho hk
   ·exact hk.elim
  ·exact hk.elim
 ·exact step_append hL hw hf hc ha ht hd0 hd1 hz hzn hn0 (fun h => hv h) hk
end
end Go.Proofs.YtlemeenicaidfaaGreatDoor
