/- Soundness of the operations that make or change memory: one operation. -/
import Derived.Test.YtjenekakcoggpaaAxStep
namespace Go.Proofs.Ytjenekakcoggpaa
set_option linter.unusedVariables false
set_option linter.unusedSimpArgs false
open Go Go.RowKit

section
variable {P : Program} {np : Nat} {L : Lay} {W : WM} {w w' : World} {A : Nat → Prop} {os os' : List Obj} {hd hd' : Nat → Value} {F F' : Nat → Nat → Prop} {s : AS} {a : Act}

/-- The frame. -/
structure FR (w : World) (A : Nat → Prop) (os : List Obj) (hd : Nat → Value) (fr : List AV) (a : Act) : Prop where
  nodef : a.defers = []
  size : a.tmps.size = fr.length
  slots : ∀ (t : Nat) x, fr[t]? = some x → SRel w A os hd x (a.tmps.getD t undef)

theorem FR.get (h : FR w A s.os hd s.fr a) (y : Operand) : SRel w A s.os hd (s.get y) (a.eval y) := by
  cases y with
  | tmp t =>
    simp only [AS.get, Act.eval]
    by_cases ht : t < s.fr.length
    · rw [show s.fr.getD t .any = s.fr[t] from by simp [List.getD, ht]]
      exact h.slots t _ (List.getElem?_eq_getElem ht)
    · rw [show s.fr.getD t .any = .any from by simp [List.getD, ht]]
      exact .pure _ _ (.any _)
  | const v => exact .of_value v
  | global g => exact .pure _ _ (.any _)
  | func f => exact .pure _ _ (.fn f [] #[] rfl (fun i x hx => by simp at hx))

theorem FR.put (h : FR w A s.os hd s.fr a) {x v} (hx : SRel w A s.os hd x v) (d : Option Tmp) : FR w A (s.put d x).os hd (s.put d x).fr (a.put d v) := by
  cases d with
  | none => exact h
  | some d =>
    refine ⟨h.nodef, by simp [AS.put, Act.put, h.size], fun t y hy => ?_⟩
    simp only [AS.put] at hy ⊢
    simp only [Act.put]
    rw [List.getElem?_set] at hy
    split at hy
    · rename_i e
      subst e
      split at hy
      · rename_i hlt
        cases hy
        have : d < a.tmps.size := by rw [h.size]; exact hlt
        simpa [Array.getD, this] using hx
      · cases hy
    · rename_i e
      have := h.slots t y hy
      rw [Array.getD_eq_getD_getElem?] at this ⊢
      rw [Array.getElem?_setIfInBounds_ne e]
      exact this

theorem FR.os_mono {fr : List AV} (h : FR w A os hd fr a) (hm : ∀ y u, SRel w A os hd y u → SRel w' A os' hd' y u) : FR w' A os' hd' fr a :=
  ⟨h.nodef, h.size, fun t x hx => hm _ _ (h.slots t x hx)⟩

theorem wp_value {o : Oper} {next : Act → World → Prop} {Q : Exit → Act → World → Prop} {v : Value} (h : (execOp a.eval o).run P w = .ok (.value v) w') (hn : next (a.put o.dst v) w') : o.wp P a w next Q := by
  unfold Oper.wp
  rw [h]
  exact hn

/-- What has to be shown of an operation. -/
def StepOK (P : Program) (W : WM) (w : World) (s : AS) (a : Act) (o : Oper) (K : AV → AS → Prop) : Prop :=
  ∀ (next : Act → World → Prop) (Q : Exit → Act → World → Prop), (∀ x s' v w' A' hd' F', K x s' → s'.fr = s.fr → CW W w' A' s'.os hd' F' → FR w' A' s'.os hd' s.fr a → SRel w' A' s'.os hd' x v → next (a.put o.dst v) w') → o.wp P a w next Q

/-- A new box. -/
theorem push_box (hw : CW W w A s.os hd F) (hf : FR w A s.os hd s.fr a) {o : Oper} {K : AV → AS → Prop} {cs : List AV} {c : Array Value} {T : TypeId} (hc : c.size = cs.length) (hs : ∀ (i : Nat) x, cs[i]? = some x → SRel w A s.os hd x (c.getD i undef))
    (hr : (execOp a.eval o).run P w = .ok (.value (.pointer (some ⟨w.heap.size, 0, none⟩))) (w.alloc (.cells c T))) (hk : K (.pb s.os.length 0) ⟨s.fr, s.os ++ [.box cs]⟩) : StepOK P W w s a o K := by
  intro next Q hn
  have hkp := Keeps.alloc w c T
  have hA : ∀ y, A y → y < w.heap.size := fun y hy => (hw.hA y hy).1
  refine wp_value hr (hn _ ⟨s.fr, s.os ++ [.box cs]⟩ _ _ A _ _ hk rfl ((hw.keep hkp).push (.box cs) (.pointer (some ⟨w.heap.size, 0, none⟩)) (fun x => x = w.heap.size) (fun x hx => ?_) (fun k es e => by cases e) (fun cs' e => ?_)) (hf.os_mono fun y u h => (h.keep hA hkp).push _ _) (.pb _ _ _ (by simp) fun cs' ho => ?_))
  · subst hx
    refine ⟨hw.below.new (Nat.le_refl _), by simp, fun h => Nat.lt_irrefl _ (hA _ h), fun id h => Nat.lt_irrefl _ (hw.fsz id _ h).2⟩
  · cases e
    exact ⟨w.heap.size, T, c, rfl, heap_alloc_new w _, hc, fun i x hx => (hs i x hx).keep hA hkp, rfl⟩
  · exact ⟨w.heap.size, updN_eq _ _ _, rfl⟩

theorem Z.of_av (c : Value) : SRel w A os hd (Z.of c).av c := by
  unfold Z.of
  split
  · split
    · rename_i h; subst h; exact .pure _ _ (.int _ _)
    · exact .pure _ _ (.any _)
  · split
    · rename_i h; subst h; exact .pure _ _ (.bool _)
    · exact .pure _ _ (.any _)
  · rename_i b
    split
    · rename_i h
      have : b = ⟨#[]⟩ := by
        cases b with | mk d => congr 1; exact Array.toList_inj.1 (by simpa using h)
      subst this
      exact .pure _ _ (.str _ (by simp [ByteArray.size]))
    · exact .pure _ _ (.any _)
  · split
    · rename_i h; obtain ⟨rfl, rfl⟩ := h; exact .pure _ _ .nils
    · exact .pure _ _ (.any _)
  · exact .pure _ _ .nilp
  · exact .pure _ _ (.any _)

/-- A type's zero value. -/
theorem lay_zero (hL : L.ty = layOf P) {t : TypeId} (h : (L.ty t).zero ≠ []) : ∃ i z, P.info? t = some i ∧ i.zero = some z ∧ (L.ty t).zero = z.cells.toList.map Z.of ∧ (L.ty t).n = i.size ∧ (L.ty t).bytes = i.bytes := by
  rw [hL] at *
  unfold layOf TyI.of at *
  cases hi : P.info? t with
  | none => simp [hi] at h
  | some i =>
    simp only [hi] at h ⊢
    cases hz : i.zero with
    | none => simp [hz, Z.ofAll] at h
    | some z => exact ⟨i, z, rfl, hz, by simp [Z.ofAll], rfl, rfl⟩
theorem zero_rel {z : Value} {i : Nat} {x : AV} (hx : ((z.cells.toList.map Z.of).map Z.av)[i]? = some x) : SRel w A os hd x (z.cells.getD i undef) := by
  rw [List.getElem?_map, List.getElem?_map, Array.getElem?_toList] at hx
  cases hc : z.cells[i]? with
  | none => simp [hc] at hx
  | some c =>
    simp [hc] at hx
    subst hx
    have h4 := (Array.getElem?_eq_some_iff.1 hc).1
    have h5 := (Array.getElem?_eq_some_iff.1 hc).2
    simpa [Array.getD, h4, h5] using Z.of_av c

theorem okCell_spec {x : AV} {v : Value} (h : s.okCell x = true) (hx : SRel w A s.os hd x v) (hrow : ∀ (id : Nat) k es, s.os[id]? = some (.row k es) → ∃ p n c, hd id = .slice p n c) : v.oneCell' = true := by
  unfold AS.okCell at h
  split at h
  case h_1 => cases hx.int_inv; rfl
  case h_2 => cases hx.bool_inv; rfl
  case h_3 => obtain ⟨rfl, _⟩ := hx.str_inv; rfl
  case h_4 => cases hx.nils_inv; rfl
  case h_5 => cases hx with | pure _ _ h => cases h; rfl
  case h_6 => obtain ⟨_, rfl, _⟩ := hx.fn_inv; rfl
  case h_7 => obtain ⟨_, _, rfl, _⟩ := hx.sl_inv.sl_len; rfl
  case h_8 => obtain ⟨_, _, rfl, _⟩ := hx.pp_inv.pp_inv; rfl
  case h_9 =>
    split at h
    · rename_i ho
      rw [hx.ob_inv ho]
      obtain ⟨p, n, c, e⟩ := hrow _ _ _ ho
      rw [e]; rfl
    · cases h
  case h_10 => cases h

theorem CW.row_hd (hw : CW W w A os hd F) (id : Nat) k es (ho : os[id]? = some (.row k es)) : ∃ p n c, hd id = .slice p n c :=
  let ⟨p, c, h, _⟩ := (hw.rel_row ho).sl_len; ⟨p, _, c, h⟩

theorem okCells_get {l : List AV} (h : s.okCells l = true) {i : Nat} {x : AV} (hx : l[i]? = some x) : s.okCell x = true := by
  induction l generalizing i with
  | nil => simp at hx
  | cons y l ih =>
    unfold AS.okCells at h
    split at h
    · cases i with
      | zero => simp at hx; subst hx; assumption
      | succ i => simp at hx; exact ih h hx
    · cases h

/-- A value's cells. -/
theorem cl_spec (hw : CW W w A s.os hd F) {x v cs} (h : s.cl x = some cs) (hx : SRel w A s.os hd x v) :
    v.cells.size = cs.length ∧ (∀ (i : Nat) y, cs[i]? = some y → SRel w A s.os hd y (v.cells.getD i undef)) ∧ ∀ u ∈ v.cells.toList, u.oneCell' = true := by
  unfold AS.cl at h
  split at h
  · split at h
    · rename_i hok
      cases h
      obtain ⟨vs, rfl, hn, hc⟩ := hx.agg_inv
      refine ⟨hn, hc, fun u hu => ?_⟩
      obtain ⟨i, hi, rfl⟩ := List.getElem_of_mem hu
      simp [Value.cells] at hi
      have h1 := hc i _ (List.getElem?_eq_getElem (by omega))
      have h2 := okCell_spec (okCells_get hok (List.getElem?_eq_getElem (by omega))) h1 hw.row_hd
      simpa [Array.getD, hi, Value.cells] using h2
    · cases h
  · split at h
    · rename_i hok
      cases h
      have h2 := okCell_spec hok hx hw.row_hd
      have e : v.cells = #[v] := by
        cases v <;> first | rfl | (simp [Value.oneCell'] at h2)
      rw [e]
      refine ⟨rfl, fun i y hy => ?_, fun u hu => by simp at hu; rw [hu]; exact h2⟩
      cases i with
      | zero => simp at hy; subst hy; simpa using hx
      | succ i => simp at hy
    · cases h

theorem step_alloc (hL : L.ty = layOf P) (hw : CW W w A s.os hd F) (hf : FR w A s.os hd s.fr a) {dst ty pos af g} {t : TypeId} {K : AV → AS → Prop} (hk : astep (stdE np P) L s ⟨dst, .alloc t, ty, pos, af, g⟩ K) : StepOK P W w s a ⟨dst, .alloc t, ty, pos, af, g⟩ K := by
  simp only [astep] at hk
  split at hk
  · exact hk.elim
  · rename_i z zs hz
    obtain ⟨i, zv, h1, h2, h3, h4, _⟩ := lay_zero hL (t := t) (by rw [hz]; simp)
    refine push_box hw hf (c := zv.cells) (T := t) (cs := (z :: zs).map Z.av) ?_ (fun j x hx => ?_) ?_ (by simpa using hk)
    · rw [← hz, h3]; simp
    · rw [← hz, h3] at hx; exact zero_rel hx
    · simp [execOp, Instr.alloc, zeroValue, typeInfo, h1, h2, newVar, newRow, go_sem]

theorem step_box (hw : CW W w A s.os hd F) (hf : FR w A s.os hd s.fr a) {dst ty pos af g} {t : TypeId} {x : Operand} {K : AV → AS → Prop} (hk : astep (stdE np P) L s ⟨dst, .box t x, ty, pos, af, g⟩ K) : StepOK P W w s a ⟨dst, .box t x, ty, pos, af, g⟩ K := by
  simp only [astep] at hk
  split at hk
  · rename_i cs hcs
    obtain ⟨h1, h2, _⟩ := cl_spec hw hcs (hf.get x)
    refine push_box hw hf (c := (a.eval x).cells) (T := t) h1 h2 ?_ hk
    simp only [execOp, Instr.box]
    rfl
  · exact hk.elim

/-- An object's cells are written: the world. -/
theorem setRow_keeps {b : Nat} {c' : Array Value} (G : Nat → Prop) (hG : G b) : Keeps G w (w.setRow b c') := by
  refine ⟨rfl, rfl, rfl, by simp [World.setRow], fun x _ hx => ?_, fun x _ => ?_, Nat.le_refl _⟩
  case refine_2 =>
    simp only [World.frozen?, World.setRow, Array.getElem?_modify]
    by_cases e : b = x.block
    · rw [if_pos e]
      generalize w.heap[x.block]? = o
      cases o with
      | none => rfl
      | some o => cases o <;> rfl
    · rw [if_neg e]
  have : b ≠ x := fun e => hx (e ▸ hG)
  simp [World.setRow, Array.getElem?_modify, this]

theorem SRel.keepG {x v} {G : Nat → Prop} (h : SRel w A os hd x v) (hA : ∀ y, A y → y < w.heap.size ∧ ¬ G y) (hk : Keeps G w w') : SRel w' A os hd x v :=
  h.mono (fun y hy => hk.block y (hA y hy).1 (hA y hy).2) (fun _ h => h)

/-- An object changes in place: its number and its header stay. -/
theorem CW.setAt (h : CW W w A os hd F) {id : Nat} {o o' : Obj} (ho : os[id]? = some o) (hk : Keeps (F id) w w')
    (hkind : ∀ k es', o' = .row k es' → ∃ es, o = .row k es ∧ es.length = es'.length) (hkind' : ∀ cs', o' = .box cs' → ∃ cs, o = .box cs)
    (hrow : ∀ k es, o' = .row k es → XRel w' A (.sl true k es) (hd id) (F id))
    (hbox : (∀ y u, SRel w A os hd y u → SRel w' A (os.set id o') hd y u) → ∀ cs, o' = .box cs → ∃ b T c, hd id = .pointer (some ⟨b, 0, none⟩) ∧ w'.heap[b]? = some (.cells c T (0, 0)) ∧ c.size = cs.length ∧ (∀ (i : Nat) x, cs[i]? = some x → SRel w' A (os.set id o') hd x (c.getD i undef)) ∧ F id b) :
    CW W w' A (os.set id o') hd F ∧ ∀ y u, SRel w A os hd y u → SRel w' A (os.set id o') hd y u := by
  have hA : ∀ y, A y → y < w.heap.size ∧ ¬ F id y := fun y hy => ⟨(h.hA y hy).1, (h.hA y hy).2 id⟩
  have hlt := (List.getElem?_eq_some_iff.1 ho).1
  have hm : ∀ y u, SRel w A os hd y u → SRel w' A (os.set id o') hd y u := fun y u hy => by
    refine (hy.keepG hA hk).os_mono (by simp) (fun i k es' hi h' => ?_) (fun i cs' hi h' => ?_)
    · rw [List.getElem?_set] at h'
      split at h'
      · rename_i e
        subst e
        simp at h'
        obtain ⟨es, e1, e2⟩ := hkind k es' h'
        exact ⟨es, by rw [ho, e1], e2, rfl⟩
      · exact ⟨es', h', rfl, rfl⟩
    · rw [List.getElem?_set] at h'
      split at h'
      · rename_i e
        subst e
        simp at h'
        obtain ⟨cs, e1⟩ := hkind' cs' h'
        exact ⟨cs, by rw [ho, e1], rfl⟩
      · exact ⟨cs', h', rfl⟩
  have hF : ∀ j, j ≠ id → ∀ x, F j x → x < w.heap.size ∧ ¬ F id x := fun j hj x hx => ⟨(h.fsz j x hx).2, fun h' => hj (h.disj _ _ _ hx h')⟩
  refine ⟨⟨?_, fun x hx => ⟨Nat.lt_of_lt_of_le (hA x hx).1 hk.size, (h.hA x hx).2⟩, fun i x hx => ⟨(h.fsz i x hx).1, Nat.lt_of_lt_of_le (h.fsz i x hx).2 hk.size⟩, h.disj, fun i k es h' => ?_, fun i cs h' => ?_, fun p hp => ⟨by simpa using (h.pin p hp).1, (h.pin p hp).2⟩, h.old⟩, hm⟩
  · exact h.below.keep hk (fun x h' => (h.fsz id x h').1)
  · rw [List.getElem?_set] at h'
    split at h'
    · rename_i e
      subst e
      simp at h'
      exact hrow k es h'
    · rename_i e
      exact (h.rows i k es h').mono (fun _ h => h) (fun x hx => hx.elim (fun hx => hk.block x (hA x hx).1 (hA x hx).2) (fun hx => hk.block x (hF i (Ne.symm e) x hx).1 (hF i (Ne.symm e) x hx).2))
  · rw [List.getElem?_set] at h'
    split at h'
    · rename_i e
      subst e
      simp at h'
      exact hbox hm cs h'
    · rename_i e
      obtain ⟨b, T, c, e1, e2, e3, e4, e5⟩ := h.boxes i cs h'
      exact ⟨b, T, c, e1, by rw [hk.block b (hF i (Ne.symm e) b e5).1 (hF i (Ne.symm e) b e5).2]; exact e2, e3, fun j x hx => hm _ _ (e4 j x hx), e5⟩

theorem splice_get {cs new : List AV} {off : Nat} (h : off + new.length ≤ cs.length) (i : Nat) :
    (splice cs off new)[i]? = if i < off then cs[i]? else if i < off + new.length then new[i - off]? else cs[i]? := by
  unfold splice
  rw [List.getElem?_append]
  simp only [List.length_take, Nat.min_eq_left (by omega : off ≤ cs.length)]
  split
  · rw [List.getElem?_take, if_pos (by assumption)]
  · rw [List.getElem?_append]
    split
    · rw [if_pos (by omega)]
    · rw [if_neg (by omega), List.getElem?_drop]
      congr 1
      omega
theorem splice_len {cs new : List AV} {off : Nat} (h : off + new.length ≤ cs.length) : (splice cs off new).length = cs.length := by
  simp [splice]; omega
/-- What a row of cells is behind a store. -/
def spliceV (c : Array Value) (off : Nat) (new : List Value) : Array Value := (c.toList.take off ++ new ++ c.toList.drop (off + new.length)).toArray
theorem spliceV_size {c : Array Value} {off : Nat} {new : List Value} (h : off + new.length ≤ c.size) : (spliceV c off new).size = c.size := by
  simp [spliceV]; omega
theorem spliceV_getD {c : Array Value} {off : Nat} {new : List Value} (h : off + new.length ≤ c.size) (i : Nat) :
    (spliceV c off new).getD i undef = if i < off then c.getD i undef else if i < off + new.length then new.getD (i - off) undef else c.getD i undef := by
  rw [← toList_getD]
  unfold spliceV
  simp only [List.append_assoc, List.getD_eq_getElem?_getD]
  rw [List.getElem?_append]
  simp only [List.length_take, Array.length_toList, Nat.min_eq_left (by omega : off ≤ c.size)]
  split
  · rw [List.getElem?_take, if_pos (by assumption), ← toList_getD, List.getD_eq_getElem?_getD]
  · rw [List.getElem?_append]
    split
    · rw [if_pos (by omega)]
    · rw [if_neg (by omega), List.getElem?_drop, ← toList_getD, List.getD_eq_getElem?_getD]
      congr 2
      omega

theorem run_storeVar (hL : L.ty = layOf P) {t : TypeId} (hd' : (L.ty t).d ≠ .other) {b off : Nat} {c : Array Value} {T : TypeId} {v : Value} (hb : w.heap[b]? = some (.cells c T (0, 0))) (hn : v.cells.size = (L.ty t).n)
    (hl : off + v.cells.size ≤ c.size) (h1 : ∀ u ∈ v.cells.toList, u.oneCell' = true) :
    (storeVar t ⟨b, off, none⟩ v).run P w = .ok () (w.setRow b (spliceV c off v.cells.toList)) := by
  unfold storeVar
  rw [Sem.run_bind, run_sizeOf hL hd']
  simp only [Result.andThen_ok]
  rw [if_neg (by simp [hn])]
  have := run_storeCells_at P b off T v.cells.toList 0 c w hb (by simpa using hl) h1
  simp only [Nat.add_zero] at this
  exact this
end
end Go.Proofs.Ytjenekakcoggpaa
