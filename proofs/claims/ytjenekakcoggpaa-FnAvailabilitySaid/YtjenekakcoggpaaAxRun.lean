/- Soundness of regions, of control and of functions. -/
import Derived.Test.YtjenekakcoggpaaAxSr
namespace Go.Proofs.Ytjenekakcoggpaa
set_option linter.unusedVariables false
set_option linter.unusedSimpArgs false
open Go Go.RowKit

section
variable {P : Program} {np : Nat} {L : Lay} {W : WM} {w w' : World} {A : Nat → Prop} {os os' : List Obj} {hd hd' : Nat → Value} {F F' : Nat → Nat → Prop} {s : AS} {a : Act}

theorem run_call {c : Call} {fo : Operand} {f : FuncId} {vs : Array Value} {dst : Option Tmp} {ty : TypeId} {pos : String} {af : Array Edge} {g : Option (Nat × Bool)} (hc : c.callee = .value fo) (hf : a.eval fo = .func (.func f) #[] vs) (he : Enters P f) :
    (execOp a.eval ⟨dst, .call c, ty, pos, af, g⟩).run P w = .ok (.enter f (c.args.map a.eval ++ vs)) w := by
  obtain ⟨ce, as', ts⟩ := c
  cases hc
  have h1 : (resolve a.eval ⟨.value fo, as', ts⟩ ty).run P w = .ok { target := .fn (.func f) vs, args := #[] ++ as'.map a.eval } w := by
    simp only [resolve, hf]
    rfl
  show (resolve a.eval ⟨.value fo, as', ts⟩ ty >>= fun d => invoke d.target d.args).run P w = _
  rw [Sem.run_bind, h1]
  simp only [Result.andThen_ok, invoke]
  rw [he]
  simp

/-- The arguments of a call, met by a contract. -/
theorem call_core {c : Call} (hw : CW W w A s.os hd F) (hsl : ∀ y ∈ c.operands, SRel w A s.os hd (s.get y) (a.eval y)) {f : FuncId} {caps : List AV} (hcal : s.callee c = some (f, caps)) {K : AV → Prop}
    (hk : s.resL (stdE np P) (c.args.toList.map s.get ++ caps) fun args => (stdE np P).call f args K) :
    ∃ r vs, K r ∧ (∃ fo, c.callee = .value fo ∧ a.eval fo = .func (.func f) #[] vs) ∧ Enters P f ∧
      Calls P f (c.args.map a.eval ++ vs) w fun e w' => ∃ v G, e = .returned v ∧ Keeps (fun _ => False) w w' ∧ XRel w' (fun _ => False) r v G ∧ ∀ b, G b → w.heap.size ≤ b ∧ b < w'.heap.size := by
  unfold AS.callee at hcal
  split at hcal
  · rename_i fo hce
    split at hcal
    · rename_i f' caps' hg
      cases hcal
      have h1 := hsl fo (by simp [Call.operands, hce])
      rw [hg] at h1
      obtain ⟨vs, e1, e2, e3⟩ := h1.fn_inv
      obtain ⟨args, ⟨r, hac, hk⟩, hl, hr⟩ := resL_sound hw (c.args.toList.map s.get ++ caps) (c.args.toList.map a.eval ++ vs.toList) _ (by simp [e2]) (fun i x hx => by
        rw [List.getElem?_append] at hx
        rw [List.getD_eq_getElem?_getD, List.getElem?_append]
        simp only [List.length_map] at hx ⊢
        split
        · rename_i hi
          rw [if_pos hi, List.getElem?_map] at hx
          rw [List.getElem?_map]
          cases hc : c.args.toList[i]? with
          | none => simp [hc] at hx
          | some y =>
            simp [hc] at hx
            subst hx
            simpa using hsl y (by simp [Call.operands]; exact .inr (Array.mem_toList_iff.1 (List.mem_of_getElem? hc)))
        · rename_i hi
          rw [if_neg hi] at hx
          rw [← List.getD_eq_getElem?_getD, toList_getD]
          exact e3 _ x hx) hk
      refine ⟨r, vs, hk, ⟨fo, hce, e1⟩, hac.1, ?_⟩
      refine hac.2 w _ ⟨?_, fun i x hx => ?_⟩
      · rw [hl]; simp
      · have := hr i x hx
        rwa [← toList_getD, Array.toList_append, Array.toList_map]
    · cases hcal
  · cases hcal

theorem run_callB {c : Call} {fo : Operand} {f : FuncId} {vs : Array Value} {dst : Option Tmp} {ty : TypeId} {pos : String} {af : Array Edge} {g : Option (Nat × Bool)} (hc : c.callee = .value fo) (hf : a.eval fo = .func (.func f) #[.agg vs] #[]) (he : Enters P f) :
    (execOp a.eval ⟨dst, .call c, ty, pos, af, g⟩).run P w = .ok (.enter f (#[.agg vs] ++ c.args.map a.eval)) w := by
  obtain ⟨ce, as', ts⟩ := c
  cases hc
  have h1 : (resolve a.eval ⟨.value fo, as', ts⟩ ty).run P w = .ok { target := .fn (.func f) #[], args := #[.agg vs] ++ as'.map a.eval } w := by
    simp only [resolve, hf]
    rfl
  show (resolve a.eval ⟨.value fo, as', ts⟩ ty >>= fun d => invoke d.target d.args).run P w = _
  rw [Sem.run_bind, h1]
  simp only [Result.andThen_ok, invoke]
  rw [he]
  simp
theorem call_coreB {c : Call} (hw : CW W w A s.os hd F) (hsl : ∀ y ∈ c.operands, SRel w A s.os hd (s.get y) (a.eval y)) {f : FuncId} {cs : List AV} (hcal : s.calleeB c = some (f, cs)) {K : AV → Prop}
    (hk : s.resL (stdE np P) (c.args.toList.map s.get) fun args => (stdE np P).call f (.agg cs :: args) K) :
    ∃ r vs, K r ∧ (∃ fo, c.callee = .value fo ∧ a.eval fo = .func (.func f) #[.agg vs] #[]) ∧ Enters P f ∧
      Calls P f (#[.agg vs] ++ c.args.map a.eval) w fun e w' => ∃ v G, e = .returned v ∧ Keeps (fun _ => False) w w' ∧ XRel w' (fun _ => False) r v G ∧ ∀ b, G b → w.heap.size ≤ b ∧ b < w'.heap.size := by
  unfold AS.calleeB at hcal
  split at hcal
  · rename_i fo hce
    split at hcal
    · rename_i f' cs' hg
      cases hcal
      have h1 := hsl fo (by simp [Call.operands, hce])
      rw [hg] at h1
      have h1 := h1.pure_inv trivial
      generalize hv : a.eval fo = v0 at h1
      cases h1 with
      | fb _ _ vs hn hc =>
        obtain ⟨args, ⟨r, hac, hk⟩, hl, hr⟩ := resL_sound hw (c.args.toList.map s.get) (c.args.toList.map a.eval) _ (by simp) (fun i x hx => by
          rw [List.getElem?_map] at hx
          rw [List.getD_eq_getElem?_getD, List.getElem?_map]
          cases hc : c.args.toList[i]? with
          | none => simp [hc] at hx
          | some y =>
            simp [hc] at hx
            subst hx
            simpa using hsl y (by simp [Call.operands]; exact .inr (Array.mem_toList_iff.1 (List.mem_of_getElem? hc)))) hk
        refine ⟨r, vs, hk, ⟨fo, hce, hv⟩, hac.1, ?_⟩
        refine hac.2 w _ ⟨?_, fun i x hx => ?_⟩
        · simp [hl]; omega
        · rw [← toList_getD, Array.toList_append, Array.toList_map]
          cases i with
          | zero =>
            simp at hx; subst hx
            simp only [List.cons_append, List.nil_append, List.getD_cons_zero]
            exact Rel.wide hw (.agg _ _ hn hc)
          | succ i =>
            simp only [List.getElem?_cons_succ] at hx
            simpa using hr i x hx
    · cases hcal
  · cases hcal

theorem wp_enter {o : Oper} {next : Act → World → Prop} {Q : Exit → Act → World → Prop} {f : FuncId} {args : Array Value} {R : Value → World → Prop} (h : (execOp a.eval o).run P w = .ok (.enter f args) w) (hc : Calls P f args w fun e w' => ∃ v, e = .returned v ∧ R v w') (hn : ∀ v w', R v w' → next (a.put o.dst v) w') : o.wp P a w next Q := by
  unfold Oper.wp
  rw [h, Oper.upon_enter]
  exact hc.mono fun e w' ⟨v, he, hR⟩ => by subst he; exact hn v w' hR

theorem step_call (hw : CW W w A s.os hd F) (hf : FR w A s.os hd s.fr a) {dst ty pos af g} {c : Call} {f : FuncId} {caps : List AV} {K : AV → AS → Prop} (hcal : s.callee c = some (f, caps))
    (hk : s.resL (stdE np P) (c.args.toList.map s.get ++ caps) fun args => (stdE np P).call f args fun r => s.take r K) : StepOK P W w s a ⟨dst, .call c, ty, pos, af, g⟩ K := by
  intro next Q hn
  obtain ⟨r, vs, hk, ⟨fo, h1, h2⟩, h3, h4⟩ := call_core hw (fun y _ => hf.get y) hcal hk
  refine wp_enter (run_call h1 h2 h3) (R := fun v w' => ∃ G, Keeps (fun _ => False) w w' ∧ XRel w' (fun _ => False) r v G ∧ ∀ b, G b → w.heap.size ≤ b ∧ b < w'.heap.size) (h4.mono fun e w' ⟨v, G, g1, g2⟩ => ⟨v, g1, G, g2⟩) fun v w' ⟨G, g1, g2, g3⟩ => ?_
  have hw' := hw.keep g1
  obtain ⟨s', hd', F', e1, e2, e3, e4, x', e5, e6⟩ := take_sound hw' (g2.mono (A' := A) (fun _ h => h.elim) (fun _ _ => rfl)) (fun y hy => by
    obtain ⟨q1, q2⟩ := g3 y hy
    exact ⟨hw.below.new q1, q2, fun h => by have := (hw.hA y h).1; omega, fun id h => by have := (hw.fsz id y h).2; omega⟩) hk
  exact hn x' s' v w' A hd' F' e5 e1 e2 (hf.os_mono fun z u h => e3 _ _ (h.keep (fun y hy => (hw.hA y hy).1) g1)) e6

theorem CW.grow (hw : CW W w A os hd F) {G : Nat → Prop} (hG : ∀ y, G y → y < w.heap.size ∧ ∀ id, ¬ F id y) (hN : ∀ y, G y → W.w.heap.size ≤ y) : CW W w (fun b => A b ∨ G b) os hd F where
  below := hw.below
  pin := hw.pin
  old x hx hlt := hx.elim (fun h => hw.old x h hlt) (fun h => by have := hN x h; omega)
  hA x hx := hx.elim (hw.hA x) (hG x)
  fsz := hw.fsz
  disj := hw.disj
  rows id k es ho := (hw.rows id k es ho).mono (fun _ h => .inl h) (fun _ _ => rfl)
  boxes id cs ho := by
    obtain ⟨b, T, c, e1, e2, e3, e4, e5⟩ := hw.boxes id cs ho
    exact ⟨b, T, c, e1, e2, e3, fun i x hx => (e4 i x hx).mono (fun _ _ => rfl) (fun _ h => .inl h), e5⟩

/-- A call whose result is only read. -/
theorem step_callF (hw : CW W w A s.os hd F) (hf : FR w A s.os hd s.fr a) {dst ty pos af g} {c : Call} {f : FuncId} {caps : List AV} {K : AV → AS → Prop} (hcal : s.callee c = some (f, caps))
    (hk : s.resL (stdE np P) (c.args.toList.map s.get ++ caps) fun args => (stdE np P).call f args fun r => K r s) : StepOK P W w s a ⟨dst, .call c, ty, pos, af, g⟩ K := by
  intro next Q hn
  obtain ⟨r, vs, hk, ⟨fo, h1, h2⟩, h3, h4⟩ := call_core hw (fun y _ => hf.get y) hcal hk
  refine wp_enter (run_call h1 h2 h3) (R := fun v w' => ∃ G, Keeps (fun _ => False) w w' ∧ XRel w' (fun _ => False) r v G ∧ ∀ b, G b → w.heap.size ≤ b ∧ b < w'.heap.size) (h4.mono fun e w' ⟨v, G, g1, g2⟩ => ⟨v, g1, G, g2⟩) fun v w' ⟨G, g1, g2, g3⟩ => ?_
  exact hn r s v w' (fun b => A b ∨ G b) hd F hk rfl
    ((hw.keep g1).grow (fun y hy => ⟨(g3 y hy).2, fun id h => by have := (hw.fsz id y h).2; have := (g3 y hy).1; omega⟩) (fun y hy => Nat.le_trans hw.below.size (g3 y hy).1))
    ⟨hf.nodef, hf.size, fun t z hz => ((hf.slots t z hz).keep (fun y hy => (hw.hA y hy).1) g1).mono (fun _ _ => rfl) (fun _ h => .inl h)⟩
    (.pure _ _ (g2.rel (fun _ h => h.elim) (fun _ h => .inr h)))

theorem step_callB (hw : CW W w A s.os hd F) (hf : FR w A s.os hd s.fr a) {dst ty pos af g} {c : Call} {f : FuncId} {cs : List AV} {K : AV → AS → Prop} (hcal : s.calleeB c = some (f, cs))
    (hk : s.resL (stdE np P) (c.args.toList.map s.get) fun args => (stdE np P).call f (.agg cs :: args) fun r => s.take r K) : StepOK P W w s a ⟨dst, .call c, ty, pos, af, g⟩ K := by
  intro next Q hn
  obtain ⟨r, vs, hk, ⟨fo, h1, h2⟩, h3, h4⟩ := call_coreB hw (fun y _ => hf.get y) hcal hk
  refine wp_enter (run_callB h1 h2 h3) (R := fun v w' => ∃ G, Keeps (fun _ => False) w w' ∧ XRel w' (fun _ => False) r v G ∧ ∀ b, G b → w.heap.size ≤ b ∧ b < w'.heap.size) (h4.mono fun e w' ⟨v, G, g1, g2⟩ => ⟨v, g1, G, g2⟩) fun v w' ⟨G, g1, g2, g3⟩ => ?_
  have hw' := hw.keep g1
  obtain ⟨s', hd', F', e1, e2, e3, e4, x', e5, e6⟩ := take_sound hw' (g2.mono (A' := A) (fun _ h => h.elim) (fun _ _ => rfl)) (fun y hy => by
    obtain ⟨q1, q2⟩ := g3 y hy
    exact ⟨hw.below.new q1, q2, fun h => by have := (hw.hA y h).1; omega, fun id h => by have := (hw.fsz id y h).2; omega⟩) hk
  exact hn x' s' v w' A hd' F' e5 e1 e2 (hf.os_mono fun z u h => e3 _ _ (h.keep (fun y hy => (hw.hA y hy).1) g1)) e6

theorem step_val (hL : L.ty = layOf P) (hw : CW W w A s.os hd F) (hf : FR w A s.os hd s.fr a) {dst op ty pos af g} {K : AV → AS → Prop} (hk : aval (stdE np P) L s op fun v => K v s) : StepOK P W w s a ⟨dst, op, ty, pos, af, g⟩ K := by
  intro next Q hn
  obtain ⟨x, v, h1, h2, h3⟩ := aval_sound (dst := dst) (ty := ty) (pos := pos) (af := af) (g := g) hL hw (fun y _ => hf.get y) hk
  exact wp_value h3 (hn x s v w A hd F h1 rfl hw hf h2)

theorem AV.cells_spec (x : AV) : (∃ cs, x = .agg cs) ∨ x.cells = [x] := by
  cases x <;> first | exact .inl ⟨_, rfl⟩ | exact .inr rfl

theorem astep_sound (hL : L.ty = layOf P) (hw : CW W w A s.os hd F) (hf : FR w A s.os hd s.fr a) {o : Oper} {K : AV → AS → Prop} (hk : astep (stdE np P) L s o K) : StepOK P W w s a o K := by
  obtain ⟨dst, op, ty, pos, af, g⟩ := o
  cases op
  case alloc t => exact step_alloc hL hw hf hk
  case box t x => exact step_box hw hf hk
  case store t x y =>
    simp only [astep] at hk
    split at hk
    · rename_i id off hx
      split at hk
      · rename_i cs ho
        split at hk
        · exact hk.elim
        · rename_i new hcl hne
          split at hk
          · rename_i hh
            exact step_store_box hL hw hf hx ho hcl (by intro e; simp_all) hh.1 hh.2 hk
          · exact hk.elim
        · exact hk.elim
      · exact hk.elim
    · rename_i id i j hx
      split at hk
      · exact hk.elim
      · rename_i hne
        split at hk
        · rename_i hn
          have hy := hf.get y
          have hcells : ∃ vsl, (a.eval y).cells.toList = vsl ∧ vsl.length = (s.get y).cells.length ∧ ∀ (q : Nat) z, (s.get y).cells[q]? = some z → SRel w A s.os hd z (vsl.getD q undef) := by
            rcases AV.cells_spec (s.get y) with ⟨cs, e⟩ | e
            · rw [e] at hy ⊢
              obtain ⟨vs, e1, e2, e3⟩ := hy.agg_inv
              exact ⟨vs.toList, by rw [e1]; rfl, by rw [Array.length_toList, e2]; rfl, fun q z hz => by rw [toList_getD]; exact e3 q z hz⟩
            · rw [e] at hk ⊢
              have h1 := hk
              unfold AS.ownL at h1
              obtain ⟨_, _, _, _, _, _, _, _, _, _, _, _, hone⟩ := own1_sound hw hy h1
              refine ⟨[a.eval y], ?_, rfl, fun q z hz => ?_⟩
              · generalize a.eval y = v at *
                cases v <;> first | rfl | (simp [Value.oneCell'] at hone)
              · cases q with
                | zero => simp at hz; subst hz; simpa using hy
                | succ q => simp at hz
          obtain ⟨vsl, e1, e2, e3⟩ := hcells
          exact step_store_row hL hw hf hx (by intro e; simp_all) e1 e2 e3 hn hk
        · exact hk.elim
    · exact hk.elim
  case build t parts =>
    simp only [astep] at hk
    split at hk
    · exact hk.elim
    · rename_i fs z hd0 hz
      split at hk
      · rename_i cs hkn hcs
        exact step_build_struct hL hw hf hd0 (by intro e; simp_all) hkn hcs hk
      · exact hk.elim
    · exact hk.elim
  case buildSlice t len parts =>
    simp only [astep] at hk
    split at hk
    · rename_i e hd0
      split at hk
      · exact hk.elim
      · exact hk.elim
      · rename_i z hne hz
        split at hk
        · rename_i hh
          split at hk
          · rename_i cs hcs
            exact step_buildSlice hL hw hf hd0 (by intro e; simp_all) (by intro e; simp_all) hh.1 hh.2 hcs hk
          · exact hk.elim
        · exact hk.elim
    · exact hk.elim
  case makeSlice t l c =>
    simp only [astep] at hk
    split at hk
    · rename_i e _ l' _ c' hd0 hl hc
      split at hk
      · exact hk.elim
      · exact hk.elim
      · rename_i z hne hz
        split at hk
        · rename_i hh
          exact step_make hL hw hf hd0 (by intro e; simp_all) hh.1 hh.2 hl hc hk
        · exact hk.elim
    · exact hk.elim
  case call c =>
    simp only [astep] at hk
    split at hk
    · rename_i hce
      split at hk
      · rename_i x y t t' ha ht
        split at hk
        · rename_i e; subst e
          split at hk
          · rename_i e hd0
            split at hk
            · exact hk.elim
            · exact hk.elim
            · rename_i z hne hz
              split at hk
              · rename_i hh
                exact step_app hL hw hf hce ha ht hd0 (by intro e; simp_all) (by intro e; simp_all) hh.1 hh.2 hk
              · exact hk.elim
          · exact hk.elim
        · exact hk.elim
      · exact hk.elim
    · rename_i hce
      split at hk
      · rename_i x t ha ht
        split at hk
        · rename_i e id lo hi hd0 hx
          split at hk
          · exact hk.elim
          · rename_i z k es ho hne
            split at hk
            · rename_i hh
              obtain ⟨⟨h1, h2⟩, h3⟩ := hh
              subst h3
              exact step_clear hL hw hf hce ha ht hd0 hne h1 h2 hx ho hk
            · exact hk.elim
          · exact hk.elim
        · exact hk.elim
      · exact hk.elim
    · split at hk
      · rename_i f caps hcal
        split at hk
        · split at hk
          · exact step_call hw hf hcal hk
          · exact step_callF hw hf hcal hk
        · split at hk
          · split at hk
            · rename_i args hl hnd
              exact step_callM hw hf hcal hl hnd (fun h1 h2 h3 => run_call h1 h2 h3) wp_enter hk
            · exact hk.elim
          · split at hk
            · rename_i args hl hnd
              exact step_callS hw hf hcal hl hnd (fun h1 h2 h3 => run_call h1 h2 h3) wp_enter hk
            · exact hk.elim
      · split at hk
        · rename_i hcal
          exact step_callB hw hf hcal hk
        · exact hk.elim
    · exact step_val (np := np) hL hw hf hk
  all_goals exact step_val (np := np) hL hw hf hk

theorem yield_sound (hf : FR w A s.os hd s.fr a) {ops : Array Oper} {j : Nat} {r : Option Bool} (h : s.yield ops.toList j = some r) : yielded ops a.tmps j = r := by
  unfold AS.yield at h
  split at h
  · rename_i o ho
    split at h
    · rename_i d hd0
      have e : (ops[j]?).bind (·.dst) = some d := by
        rw [Array.getElem?_toList] at ho
        rw [ho]; exact hd0
      have slot : ∀ x, s.fr.getD d .any = x → x ≠ .any → ∃ v, a.tmps[d]? = some v ∧ SRel w A s.os hd x v := fun x hx hne => by
        have hlt : d < s.fr.length := by
          apply Classical.byContradiction
          intro hn
          rw [List.getD_eq_getElem?_getD, List.getElem?_eq_none (Nat.le_of_not_lt hn)] at hx
          exact hne hx.symm
        rw [List.getD_eq_getElem?_getD, List.getElem?_eq_getElem hlt] at hx
        have h1 := hf.slots d x (by rw [List.getElem?_eq_getElem hlt]; exact congrArg some hx)
        have h2 : d < a.tmps.size := by rw [hf.size]; exact hlt
        exact ⟨_, Array.getElem?_eq_getElem h2, by simpa [Array.getD, h2] using h1⟩
      unfold yielded
      rw [e]
      simp only [Option.bind_some]
      split at h
      · rename_i b hb
        cases h
        obtain ⟨v, e1, e2⟩ := slot _ hb (by simp)
        rw [e1, e2.bool_inv]
      · rename_i hb
        cases h
        obtain ⟨v, e1, e2⟩ := slot _ hb (by simp)
        rw [e1, e2.und_inv]
        rfl
      · cases h
    · cases h
  · cases h

theorem SRel.und : SRel w A os hd .und undef := .pure _ _ .und

theorem AS.put_os (s : AS) (d : Option Nat) (x : AV) : (s.put d x).os = s.os := by cases d <;> rfl

/-- A region in the text's order. -/
theorem aops_sound (hL : L.ty = layOf P) {ops : Array Oper} {Q : Exit → Act → World → Prop} {K : AS → Prop} (hQ : ∀ s' a' w' A' hd' F', K s' → CW W w' A' s'.os hd' F' → FR w' A' s'.os hd' s'.fr a' → Q .normal a' w') :
    ∀ (l : List Oper) (s : AS) (a : Act) (w : World) (A : Nat → Prop) (hd : Nat → Value) (F : Nat → Nat → Prop), CW W w A s.os hd F → FR w A s.os hd s.fr a → aops (stdE np P) L false ops.toList l s K → wpList P ops Q l a w
  | [], s, a, w, A, hd, F, hw, hf, hk => hQ s a w A hd F hk hw hf
  | o :: rest, s, a, w, A, hd, F, hw, hf, hk => by
    have step : astep (stdE np P) L s o (fun v s' => aops (stdE np P) L false ops.toList rest (s'.put o.dst v) K) → o.wp P a w (wpList P ops Q rest) Q := fun h =>
      astep_sound hL hw hf h (wpList P ops Q rest) Q fun x s' v w' A' hd' F' hk' hfr hw' hf' hx => by
        rw [← hfr] at hf'
        exact aops_sound hL hQ rest _ _ w' A' hd' F' (by rw [AS.put_os]; exact hw') (hf'.put hx o.dst) hk'
    have skip : aops (stdE np P) L false ops.toList rest (s.put o.dst .und) K → wpList P ops Q rest (a.put o.dst undef) w := fun h =>
      aops_sound hL hQ rest _ _ w A hd F (by rw [AS.put_os]; exact hw) (hf.put .und o.dst) h
    unfold aops at hk
    unfold wpList
    split at hk
    · rename_i hg
      rw [if_pos (by simp [Region.wanted, hg])]
      exact .inl (step hk)
    · rename_i j want hg
      split at hk
      · exact hk.elim
      · rename_i hy
        have := yield_sound hf hy
        rw [if_neg (by simp [Region.wanted, hg, this])]
        exact skip hk
      · rename_i b hy
        have := yield_sound hf hy
        split at hk
        · rename_i e
          subst e
          rw [if_pos (by simp [Region.wanted, hg, this])]
          exact .inl (step hk)
        · rename_i e
          rw [if_neg (by simp [Region.wanted, hg, this, e])]
          exact skip hk

end
end Go.Proofs.Ytjenekakcoggpaa
