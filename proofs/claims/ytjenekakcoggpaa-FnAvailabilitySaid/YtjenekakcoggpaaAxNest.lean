/- A nested own row that a changing call is lent: soundness. -/
import Derived.Test.YtjenekakcoggpaaAxRun
namespace Go.Proofs.Ytjenekakcoggpaa
set_option linter.unusedVariables false
set_option linter.unusedSimpArgs false
open Go Go.RowKit

section
variable {P : Program} {np : Nat} {L : Lay} {W : WM} {w w' : World} {A : Nat → Prop} {os os' : List Obj} {hd hd' : Nat → Value} {F F' : Nat → Nat → Prop} {s : AS} {a : Act}

theorem Keeps.weaken {G G' : Nat → Prop} (h : Keeps G w w') (hG : ∀ x, G x → G' x) : Keeps G' w w' :=
  ⟨h.os, h.tape, h.output, h.size, fun x hx hn => h.block x hx (fun hg => hn (hG x hg)), h.frz, h.drawn⟩
def Moves (d : Nat) (mv : List Oper) : Prop := ∀ o ∈ mv, o.guard = none ∧ ∃ x e, o.op = .move x ∧ o.dst = some e ∧ e ≠ d
theorem moves_os : ∀ (mv : List Oper) (s : AS), (s.moves mv).os = s.os
  | [], s => rfl
  | o :: mv, s => by
    unfold AS.moves
    split
    · rw [moves_os mv, AS.put_os]
    · exact moves_os mv s
theorem moves_sound (hL : L.ty = layOf P) {ops : Array Oper} {Q : Exit → Act → World → Prop} {d : Nat} {v : Value} {l : List Oper} : ∀ (mv : List Oper) (s : AS) (a : Act), Moves d mv → CW W w A s.os hd F → FR w A s.os hd s.fr a → a.tmps.getD d undef = v →
    (∀ a', FR w A s.os hd (s.moves mv).fr a' → a'.tmps.getD d undef = v → wpList P ops Q l a' w) → wpList P ops Q (mv ++ l) a w
  | [], s, a, _, _, hf, hv, h => h a hf hv
  | o :: mv, s, a, hm, hw, hf, hv, h => by
    obtain ⟨hg, x, e, hop, hdst, hne⟩ := hm o (List.mem_cons_self ..)
    show wpList P ops Q (o :: (mv ++ l)) a w
    obtain ⟨dst, op, ty, pos, af, g⟩ := o
    simp only at hg hop hdst
    subst hg hop hdst
    unfold wpList
    rw [if_pos (by simp [Region.wanted])]
    obtain ⟨y, u, h1, h2, h3⟩ := aval_sound (np := 0) (dst := some e) (ty := ty) (pos := pos) (af := af) (g := none) hL hw (fun y _ => hf.get y) (show aval (stdE 0 P) L s (.move x) (· = s.get x) from rfl)
    subst h1
    refine .inl (wp_value h3 ?_)
    refine moves_sound hL mv (s.put (some e) (s.get x)) _ (fun o ho => hm o (List.mem_cons_of_mem _ ho)) (by rw [AS.put_os]; exact hw) (hf.put h2 (some e)) ?_ (fun a' hf' hv' => h a' (by rw [AS.put_os] at hf'; exact hf') hv')
    rw [← hv]
    simp [Act.put, Array.getD_eq_getD_getElem?, Array.getElem?_setIfInBounds, hne]

theorem anest_sound (hL : L.ty = layOf P) {ops : Array Oper} {Q : Exit → Act → World → Prop} {id d : Nat} {i : Int} {j : Nat} {mv rest : List Oper} {o oc : Oper} {c : Call} {t : TypeId} {x : Operand} {f : FuncId} {xs : List Operand} {K : AS → Prop}
    (hog : o.guard = none) (hoo : o.op = .load t x) (hod : o.dst = some d) (hd1 : (L.ty t).d ≠ .other) (hagg : (L.ty t).agg = false) (hx : s.get x = .pe id i j) (hm : Moves d mv) (hcg : oc.guard = none) (hco : oc.op = .call c) (hce : c.callee = .value (.func f)) (hca : c.args.toList = .tmp d :: xs)
    (hw : CW W w A s.os hd F) (hf : FR w A s.os hd s.fr a) (hk : anest (stdE np P) s id i j d mv oc c K)
    (hQ : ∀ s' a' w' A' hd' F', K s' → CW W w' A' s'.os hd' F' → FR w' A' s'.os hd' s'.fr a' → wpList P ops Q rest a' w') : wpList P ops Q (o :: (mv ++ oc :: rest)) a w := by
  have hpe := hf.get x
  rw [hx] at hpe
  unfold anest at hk
  split at hk
  · rename_i hdl
    split at hk
    · rename_i k es ho
      obtain ⟨hi0, e, he, hk⟩ := hk
      split at hk
      · rename_i k' es' tl hdrop
        rw [hce] at hk
        simp only at hk
        split at hk
        · rename_i rs hlc
          obtain ⟨Qc, hac, hk⟩ := hk
          obtain ⟨b0, n0, c0, q1, _, q3, q4⟩ := hpe.pe_inv ho
          have hrow := hw.rows id k es ho
          rw [q1] at hrow
          generalize hhd : Value.slice (some ⟨b0, 0, none⟩) n0 c0 = hv at hrow
          cases hrow with
          | pure _ _ _ h ho hF => simp [AV.isOwn] at ho
          | nil => cases hhd
          | sl _ _ cap b T cs _ G hb hl hcap hsz hke h1c hr hF h00 hdj =>
            cases hhd
            have hej : e[j]? = some (.sl true k' es') := by
              have := congrArg (fun q => q[0]?) hdrop
              simpa using this
            have hjk : j < k := by
              have := (List.getElem?_eq_some_iff.1 hej).1
              rwa [hke e (List.mem_of_getElem? he)] at this
            have hil : i.toNat < es.length := q3
            have hrc := hr i.toNat j e _ he hej
            obtain ⟨v, hv⟩ : ∃ v, v = cs.getD (i.toNat * k + j) undef := ⟨_, rfl⟩
            rw [← hv] at hrc
            have hin : i.toNat * k + j < cs.size := by
              have : (i.toNat + 1) * k ≤ c0 * k := Nat.mul_le_mul_right k (by omega)
              rw [Nat.add_mul] at this; omega
            have hcell : w.cell? ⟨b0, i.toNat * k + j, none⟩ = some v := by
              rw [hv]; simp [World.cell?, hb, Array.getD, hin]
            have hGF : ∀ i' j' y, i' < es.length → j' < k → G i' j' y → F id y := fun i' j' y g1 g2 g3 => (hF y).2 (.inr ⟨i', j', g1, g2, g3⟩)
            have hbF : F id b0 := (hF b0).2 (.inl rfl)
            have hbs : b0 < w.heap.size := (hw.fsz id b0 hbF).2
            obtain ⟨dst, op, ty, pos, af, g⟩ := o
            simp only at hog hoo hod
            subst hog hoo hod
            unfold wpList
            rw [if_pos (by simp [Region.wanted])]
            have hload : (loadVar t ⟨b0, i.toNat * k + j, none⟩).run P w = .ok v w := by
              have h1 := run_isAgg (w := w) hL hd1
              rw [hagg] at h1
              simp [loadVar, go_sem, h1, hcell]
            refine .inl (wp_value (run_load_op q4 hload) ?_)
            have hf0 := FR.put hf (x := .any) (v := v) (.pure _ _ (.any v)) (some d)
            have hsz0 := hf.size
            refine moves_sound hL mv (s.put (some d) .any) _ hm (by rw [AS.put_os]; exact hw) hf0 (v := v) (by
              simp [Act.put, Array.getD_eq_getD_getElem?, Array.getElem?_setIfInBounds, hsz0, hdl]) fun a1 hf1 hv1 => ?_
            have hos1 : ((s.put (some d) .any).moves mv).os = s.os := by rw [moves_os, AS.put_os]
            obtain ⟨s1, hs1⟩ : ∃ s1, s1 = (s.put (some d) .any).moves mv := ⟨_, rfl⟩
            have hk1 : s1.lendC (c.args.toList.tail.map s1.get) = some rs := by rw [hs1]; exact hlc
            rw [show (⟨s.fr.set d .any, s.os⟩ : AS) = s.put (some d) .any from rfl, ← hs1] at hk
            rw [← hs1] at hf1 hos1
            rw [AS.put_os, ← hos1] at hf1
            have hw1 : CW W w A s1.os hd F := by rw [hos1]; exact hw
            obtain ⟨dst', op', ty', pos', af', g'⟩ := oc
            simp only at hcg hco
            subst hcg hco
            unfold wpList
            rw [if_pos (by simp [Region.wanted])]
            refine .inl ?_
            rw [hca] at hk1
            obtain ⟨g1, g2⟩ := lendC_sound hw1 (ids := [id]) (fun id' h => by rw [List.mem_singleton.1 h, hos1]; exact ⟨k, es, ho⟩) (xs.map s1.get) (xs.map a1.eval) rs (by simp) (fun q y hy => by
              rw [List.getElem?_map] at hy
              rw [List.getD_eq_getElem?_getD, List.getElem?_map]
              cases hc : xs[q]? with
              | none => simp [hc] at hy
              | some z =>
                simp [hc] at hy
                subst hy
                simpa using hf1.get z) (by simpa using hk1)
            have hvals : c.args.map a1.eval = (v :: xs.map a1.eval).toArray := by
              rw [← Array.toArray_toList (xs := c.args), hca]
              simp only [List.map_toArray, List.map_cons]
              rw [show a1.eval (.tmp d) = v from hv1]
            have hA0 : ∀ y, A y → y < w.heap.size ∧ ¬ G i.toNat j y := fun y hy => ⟨(hw.hA y hy).1, fun h => (hw.hA y hy).2 id (hGF _ _ y hil hjk h)⟩
            have hX : XRel w (fun y => y < w.heap.size ∧ ¬ G i.toNat j y) (.tup (.sl true k' es' :: rs)) (.tuple (c.args.map a1.eval)) (G i.toNat j) := by
              rw [hvals]
              refine .tup _ _ _ (fun q y => q = 0 ∧ G i.toNat j y) (by simp [g1]) (fun q y hy => ?_) (fun y => ⟨fun h => ⟨0, by simp, rfl, h⟩, fun ⟨_, _, _, h⟩ => h⟩) (fun q q' y _ _ h1 h2 => by rw [h1.1, h2.1])
              cases q with
              | zero =>
                simp at hy; subst hy
                exact (hrc.mono hA0 (fun _ _ => rfl)).congr (fun y => ⟨fun h => h.2, fun h => ⟨rfl, h⟩⟩)
              | succ q =>
                simp only [List.getElem?_cons_succ] at hy
                obtain ⟨h3, h4⟩ := g2 q y hy
                have e5 : (v :: xs.map a1.eval).toArray.getD (q + 1) undef = (xs.map a1.eval).getD q undef := by
                  rw [← toList_getD]; rfl
                rw [e5]
                exact .pure _ _ _ (h3.mono (fun _ _ => rfl) fun y ⟨hy1, hy2⟩ => ⟨hy1, fun h => hy2 ⟨id, List.mem_singleton.2 rfl, hGF _ _ y hil hjk h⟩⟩) h4 (fun y h => absurd h.1 (by omega))
            refine wp_enter (f := f) (args := c.args.map a1.eval) ?_ (R := fun u w' => ∃ Gr r args', Qc r args' ∧ Keeps (G i.toNat j) w w' ∧ XRel w' (fun _ => False) (.tup (r :: args')) (.tuple (#[u] ++ c.args.map a1.eval)) Gr ∧ ∀ y, Gr y → G i.toNat j y ∨ w.heap.size ≤ y ∧ y < w'.heap.size)
              ((hac.2 w _ _ _ hX (fun y hy => hy) (fun y hy => (hw.fsz id y (hGF _ _ y hil hjk hy)).2)).mono fun e w' ⟨u, Gr, r, args', g0, g1, g2, g3, g4⟩ => ⟨u, g1, Gr, r, args', g0, g2, g3, g4⟩) fun u w' ⟨Gr, r, args', hq, k1, k2, k3⟩ => ?_
            · have := run_call (P := P) (w := w) (a := a1) (c := c) (fo := .func f) (f := f) (vs := #[]) (dst := dst') (ty := ty') (pos := pos') (af := af') (g := none) hce rfl hac.1
              simpa using this
            · replace hk := hk r args' hq
              dsimp only at hk
              cases k2 with
              | pure _ _ _ h ho _ => simp [AV.isOwn] at ho
              | tup _ _ _ Gi hn' hc hFi hdi =>
                split at hk
                · rename_i k2' es'' tl'
                  split at hk
                  · rename_i ek
                    have ek2 := ek.symm
                    clear ek
                    subst ek2
                    obtain ⟨_, e', he', hjl, hk⟩ := hk
                    rw [he] at he'
                    cases he'
                    have hy1 : XRel w' (fun _ => False) (.sl true k' es'') v (Gi 1) := by
                      have := hc 1 (.sl true k' es'') rfl
                      rw [← toList_getD, Array.toList_append, hvals] at this
                      exact this
                    have sub : ∀ (q : Nat) y, q < (r :: AV.sl true k' es'' :: tl').length → Gi q y → G i.toNat j y ∨ w.heap.size ≤ y ∧ y < w'.heap.size := fun q y hq h => k3 y ((hFi y).2 ⟨q, hq, h⟩)
                    have hb' : w'.heap[b0]? = some (.cells cs T (0, 0)) := by rw [k1.block b0 hbs (h00 _ _ hil hjk)]; exact hb
                    let G2 : Nat → Nat → Nat → Prop := fun i' j' => if i' = i.toNat ∧ j' = j then Gi 1 else G i' j'
                    have hG2 : ∀ i' j', ¬ (i' = i.toNat ∧ j' = j) → G2 i' j' = G i' j' := fun i' j' h => if_neg h
                    have hG2' : G2 i.toNat j = Gi 1 := if_pos ⟨rfl, rfl⟩
                    have hlen : (es.set i.toNat (splice e j [.sl true k' es''])).length = es.length := by simp
                    have hel : e.length = k := hke e (List.mem_of_getElem? he)
                    have hkeep : ∀ i' j' y, i' < es.length → j' < k → ¬ (i' = i.toNat ∧ j' = j) → A y ∨ G i' j' y → w'.heap[y]? = w.heap[y]? := fun i' j' y h1 h2 h3 h4 => by
                      rcases h4 with h4 | h4
                      · exact k1.block y (hA0 y h4).1 (hA0 y h4).2
                      · exact k1.block y (hw.fsz id y (hGF _ _ y h1 h2 h4)).2 fun h5 => h3 (hdj i' j' i.toNat j y h1 h2 hil hjk h4 h5)
                    have hrow' : XRel w' A (.sl true k (es.set i.toNat (splice e j [.sl true k' es'']))) (.slice (some ⟨b0, 0, none⟩) es.length c0) (fun y => y = b0 ∨ ∃ i' j', i' < es.length ∧ j' < k ∧ G2 i' j' y) := by
                      have key := XRel.sl (w := w') (A := A) k (es.set i.toNat (splice e j [.sl true k' es''])) c0 b0 T cs (fun y => y = b0 ∨ ∃ i' j', i' < es.length ∧ j' < k ∧ G2 i' j' y) G2 hb'
                        (by rw [hlen]; exact hl) (by rw [hlen]; exact hcap) hsz (fun e' he' => by
                          rcases List.mem_or_eq_of_mem_set he' with h | h
                          · exact hke e' h
                          · rw [h, splice_len hjl]; exact hel) (fun i' j' hi' hj' => h1c i' j' (by rw [← hlen]; exact hi') hj') (fun i' j' e' y he' hy => by
                          have hi' : i' < es.length := by rw [← hlen]; exact (List.getElem?_eq_some_iff.1 he').1
                          rw [List.getElem?_set] at he'
                          split at he'
                          · rename_i ei
                            subst ei
                            (try rw [if_pos hil] at he')
                            cases he'
                            rw [splice_get hjl] at hy
                            split at hy
                            · rename_i hlt
                              have hn : ¬ (i.toNat = i.toNat ∧ j' = j) := by omega
                              rw [hG2 _ _ hn]
                              have hj' : j' < k := by omega
                              exact (hr i.toNat j' e y he hy).mono (fun _ h => h) (fun z hz => hkeep _ _ z hil hj' hn hz)
                            · split at hy
                              · rename_i h5 h6
                                simp only [List.length_cons, List.length_nil] at h6
                                have : j' = j := by omega
                                subst this
                                simp at hy; subst hy
                                rw [hG2', ← hv]
                                exact hy1.mono (fun _ h => h.elim) (fun _ _ => rfl)
                              · rename_i h5 h6
                                simp only [List.length_cons, List.length_nil] at h6
                                have hn : ¬ (i.toNat = i.toNat ∧ j' = j) := by omega
                                rw [hG2 _ _ hn]
                                have hj' : j' < k := by
                                  have := (List.getElem?_eq_some_iff.1 hy).1
                                  omega
                                exact (hr i.toNat j' e y he hy).mono (fun _ h => h) (fun z hz => hkeep _ _ z hil hj' hn hz)
                          · rename_i ei
                            have hn : ¬ (i' = i.toNat ∧ j' = j) := fun h => ei h.1.symm
                            rw [hG2 _ _ hn]
                            have hj' : j' < k := by
                              have := (List.getElem?_eq_some_iff.1 hy).1
                              rwa [hke e' (List.mem_of_getElem? he')] at this
                            exact (hr i' j' e' y he' hy).mono (fun _ h => h) (fun z hz => hkeep _ _ z hi' hj' hn hz)) (fun y => by rw [hlen]) (fun i' j' hi' hj' h5 => by
                          rw [hlen] at hi'
                          by_cases hn : i' = i.toNat ∧ j' = j
                          · obtain ⟨rfl, rfl⟩ := hn
                            rw [hG2'] at h5
                            rcases sub 1 b0 (by simp) h5 with h6 | h6
                            · exact h00 _ _ hil hjk h6
                            · omega
                          · rw [hG2 _ _ hn] at h5
                            exact h00 i' j' hi' hj' h5) (fun i1 j1 i2 j2 y hi1 hj1 hi2 hj2 h5 h6 => by
                          rw [hlen] at hi1 hi2
                          by_cases n1 : i1 = i.toNat ∧ j1 = j <;> by_cases n2 : i2 = i.toNat ∧ j2 = j
                          · omega
                          · exfalso
                            obtain ⟨rfl, rfl⟩ := n1
                            rw [hG2'] at h5
                            rw [hG2 _ _ n2] at h6
                            rcases sub 1 y (by simp) h5 with h7 | h7
                            · have := hdj _ _ _ _ y hi1 hj1 hi2 hj2 h7 h6
                              exact n2 ⟨this.1.symm, this.2.symm⟩
                            · have := (hw.fsz id y (hGF _ _ y hi2 hj2 h6)).2; omega
                          · exfalso
                            obtain ⟨rfl, rfl⟩ := n2
                            rw [hG2'] at h6
                            rw [hG2 _ _ n1] at h5
                            rcases sub 1 y (by simp) h6 with h7 | h7
                            · have := hdj _ _ _ _ y hi1 hj1 hi2 hj2 h5 h7
                              exact n1 this
                            · have := (hw.fsz id y (hGF _ _ y hi1 hj1 h5)).2; omega
                          · rw [hG2 _ _ n1] at h5
                            rw [hG2 _ _ n2] at h6
                            exact hdj i1 j1 i2 j2 y hi1 hj1 hi2 hj2 h5 h6)
                      rw [hlen] at key
                      exact key
                    have hlt : id < s1.os.length := by rw [hos1]; exact (List.getElem?_eq_some_iff.1 ho).1
                    obtain ⟨hw2, hm2⟩ := hw1.setMany [id] (os' := s1.os.set id (.row k (es.set i.toNat (splice e j [.sl true k' es''])))) (fun _ y => y = b0 ∨ ∃ i' j', i' < es.length ∧ j' < k ∧ G2 i' j' y) (by simp) (k1.weaken fun y hy => ⟨id, List.mem_singleton.2 rfl, hGF _ _ y hil hjk hy⟩) (fun id' h => by
                        rw [List.getElem?_set, if_neg (fun e => h (by rw [e]; exact List.mem_singleton.2 rfl))]) (fun id' h => by
                        rw [List.mem_singleton.1 h]
                        refine .inr ⟨k, es, _, by rw [hos1]; exact ho, by rw [List.getElem?_set, if_pos rfl, if_pos hlt], by simp, ?_⟩
                        rw [q1]; exact hrow') (fun id' h y hy => by
                        rcases hy with rfl | ⟨i', j', h1, h2, h3⟩
                        · exact .inl ⟨id, List.mem_singleton.2 rfl, hbF⟩
                        · by_cases hn : i' = i.toNat ∧ j' = j
                          · obtain ⟨rfl, rfl⟩ := hn
                            rw [hG2'] at h3
                            rcases sub 1 y (by simp) h3 with h6 | h6
                            · exact .inl ⟨id, List.mem_singleton.2 rfl, hGF _ _ y hil hjk h6⟩
                            · exact .inr h6
                          · rw [hG2 _ _ hn] at h3
                            exact .inl ⟨id, List.mem_singleton.2 rfl, hGF _ _ y h1 h2 h3⟩) (fun id1 h1 id2 h2 y _ _ => by rw [List.mem_singleton.1 h1, List.mem_singleton.1 h2])
                    have h0 : XRel w' A r u (Gi 0) := by
                      have := hc 0 r rfl
                      rw [← toList_getD, Array.toList_append] at this
                      have e6 : ((#[u] : Array Value).toList ++ (c.args.map a1.eval).toList).getD 0 undef = u := by simp [List.getD_eq_getElem?_getD]
                      rw [e6] at this
                      exact this.mono (fun _ h => h.elim) (fun _ _ => rfl)
                    obtain ⟨s', hd', F', p1, p2, p3, p4, x', p5, p6⟩ := take_sound (s := ⟨s1.fr, s1.os.set id (.row k (es.set i.toNat (splice e j [.sl true k' es''])))⟩) hw2 h0 (fun y hy => by
                      have h5 := sub 0 y (by simp) hy
                      refine ⟨?_, ?_, fun hA => ?_, fun id' hid => ?_⟩
                      · rcases h5 with h | h
                        · exact (hw.fsz id y (hGF _ _ y hil hjk h)).1
                        · exact hw.below.new h.1
                      · rcases h5 with h | h
                        · exact Nat.lt_of_lt_of_le (hw.fsz id y (hGF _ _ y hil hjk h)).2 k1.size
                        · exact h.2
                      · rcases h5 with h | h
                        · exact (hA0 y hA).2 h
                        · have := (hA0 y hA).1; omega
                      · rcases hid with ⟨_, h6⟩ | ⟨h6, h7⟩
                        · rcases h6 with rfl | ⟨i', j', r1, r2, r3⟩
                          · rcases h5 with h | h
                            · exact h00 _ _ hil hjk h
                            · omega
                          · by_cases hn : i' = i.toNat ∧ j' = j
                            · obtain ⟨rfl, rfl⟩ := hn
                              rw [hG2'] at r3
                              have := hdi 0 1 y (by simp) (by simp) hy r3; omega
                            · rw [hG2 _ _ hn] at r3
                              rcases h5 with h | h
                              · exact hn (hdj _ _ _ _ y r1 r2 hil hjk r3 h)
                              · have := (hw.fsz id y (hGF _ _ y r1 r2 r3)).2; omega
                        · rcases h5 with h | h
                          · have := hw.disj _ _ _ h7 (hGF _ _ y hil hjk h)
                            exact h6 (List.mem_singleton.2 this)
                          · have := (hw.fsz id' y h7).2; omega) hk
                    have hf2 : FR w' A s'.os hd' s1.fr a1 := hf1.os_mono fun z u h => p3 _ _ (hm2 _ _ h)
                    refine hQ (s'.put dst' x') _ w' A hd' F' p5 (by rw [AS.put_os]; exact p2) ?_
                    have hfr : s'.fr = s1.fr := p1
                    rw [← hfr] at hf2
                    exact hf2.put p6 dst'
                  · exact hk.elim
                · exact hk.elim
        · exact hk.elim
      · exact hk.elim
    · exact hk.elim
  · exact hk.elim
theorem aops_soundT (hL : L.ty = layOf P) {ops : Array Oper} {Q : Exit → Act → World → Prop} {K : AS → Prop} {tl : List Oper} (hQ : ∀ s' a' w' A' hd' F', K s' → CW W w' A' s'.os hd' F' → FR w' A' s'.os hd' s'.fr a' → wpList P ops Q tl a' w') :
    ∀ (l : List Oper) (s : AS) (a : Act) (w : World) (A : Nat → Prop) (hd : Nat → Value) (F : Nat → Nat → Prop), CW W w A s.os hd F → FR w A s.os hd s.fr a → aops (stdE np P) L false ops.toList l s K → wpList P ops Q (l ++ tl) a w
  | [], s, a, w, A, hd, F, hw, hf, hk => hQ s a w A hd F hk hw hf
  | o :: rest, s, a, w, A, hd, F, hw, hf, hk => by
    have step : astep (stdE np P) L s o (fun v s' => aops (stdE np P) L false ops.toList rest (s'.put o.dst v) K) → o.wp P a w (wpList P ops Q (rest ++ tl)) Q := fun h =>
      astep_sound hL hw hf h (wpList P ops Q (rest ++ tl)) Q fun x s' v w' A' hd' F' hk' hfr hw' hf' hx => by
        rw [← hfr] at hf'
        exact aops_soundT hL hQ rest _ _ w' A' hd' F' (by rw [AS.put_os]; exact hw') (hf'.put hx o.dst) hk'
    have skip : aops (stdE np P) L false ops.toList rest (s.put o.dst .und) K → wpList P ops Q (rest ++ tl) (a.put o.dst undef) w := fun h =>
      aops_soundT hL hQ rest _ _ w A hd F (by rw [AS.put_os]; exact hw) (hf.put .und o.dst) h
    show wpList P ops Q (o :: (rest ++ tl)) a w
    unfold aops at hk
    unfold wpList
    split at hk
    · rename_i hg
      rw [if_pos (by simp [Region.wanted, hg])]
      exact .inl (step hk)
    · rename_i j want hg
      split at hk
      · exact hk.elim
      · rename_i hy
        have := yield_sound hf hy
        rw [if_neg (by simp [Region.wanted, hg, this])]
        exact skip hk
      · rename_i b hy
        have := yield_sound hf hy
        split at hk
        · rename_i e
          subst e
          rw [if_pos (by simp [Region.wanted, hg, this])]
          exact .inl (step hk)
        · rename_i e
          rw [if_neg (by simp [Region.wanted, hg, this, e])]
          exact skip hk
def Grp.ops : Grp → List Oper
  | .one o => [o]
  | .nest o mv oc => o :: (mv ++ [oc])
theorem grab_spec {d : Nat} : ∀ {l acc mv : List Oper} {oc : Oper} {l' : List Oper}, grab L d acc l = some (mv, oc, l') → acc ++ l = mv ++ oc :: l'
  | [], acc, mv, oc, l', h => by cases h
  | o :: l, acc, mv, oc, l', h => by
    unfold grab at h
    split at h
    · have := grab_spec h
      rw [List.append_assoc] at this
      exact this
    · split at h
      · split at h
        · cases h; rfl
        · cases h
      · cases h
    · cases h
theorem groups_spec : ∀ (n : Nat) (l : List Oper), (groups L n l).flatMap Grp.ops = l
  | 0, l => by
    unfold groups
    induction l with
    | nil => rfl
    | cons o l ih => simp [Grp.ops] at ih ⊢; exact ih
  | n + 1, [] => by unfold groups; rfl
  | n + 1, o :: l => by
    have one : (Grp.one o :: groups L n l).flatMap Grp.ops = o :: l := by
      rw [List.flatMap_cons, groups_spec n l]; rfl
    unfold groups
    split
    · split
      · split
        · rename_i hg
          have := grab_spec hg
          rw [List.flatMap_cons, groups_spec n]
          show (o :: (_ ++ [_])) ++ _ = _
          rw [List.cons_append, List.append_assoc]
          rw [List.nil_append] at this
          rw [this]; rfl
        · exact one
      · exact one
    · exact one
theorem movesB_spec {d : Nat} : ∀ {l : List Oper}, movesB d l = true → Moves d l
  | [], _ => fun o h => by cases h
  | o :: l, h => by
    unfold movesB at h
    split at h
    · rename_i x e hg hop hdst
      split at h
      · cases h
      · rename_i hne
        intro o' ho'
        rcases List.mem_cons.1 ho' with rfl | ho'
        · exact ⟨hg, x, e, hop, hdst, hne⟩
        · exact movesB_spec h o' ho'
    · cases h
theorem agrps_sound (hL : L.ty = layOf P) {ops : Array Oper} {Q : Exit → Act → World → Prop} {K : AS → Prop} (hQ : ∀ s' a' w' A' hd' F', K s' → CW W w' A' s'.os hd' F' → FR w' A' s'.os hd' s'.fr a' → Q .normal a' w') :
    ∀ (l : List Grp) (s : AS) (a : Act) (w : World) (A : Nat → Prop) (hd : Nat → Value) (F : Nat → Nat → Prop), CW W w A s.os hd F → FR w A s.os hd s.fr a → agrps (stdE np P) L ops.toList l s K → wpList P ops Q (l.flatMap Grp.ops) a w
  | [], s, a, w, A, hd, F, hw, hf, hk => hQ s a w A hd F hk hw hf
  | .one o :: l, s, a, w, A, hd, F, hw, hf, hk => by
    rw [List.flatMap_cons]
    exact aops_soundT hL (fun s' a' w' A' hd' F' h1 h2 h3 => agrps_sound hL hQ l s' a' w' A' hd' F' h2 h3 h1) [o] s a w A hd F hw hf hk
  | .nest o mv oc :: l, s, a, w, A, hd, F, hw, hf, hk => by
    rw [List.flatMap_cons]
    unfold agrps at hk
    split at hk
    · rename_i t x d hog hoo hod
      split at hk
      · rename_i c hcg hco
        split at hk
        · rename_i hsl hmv
          split at hk
          · rename_i f d' xs hce hca
            split at hk
            · rename_i hd'
              subst hd'
              split at hk
              · rename_i id i j hx
                show wpList P ops Q (o :: (mv ++ [oc]) ++ _) a w
                rw [List.cons_append, List.append_assoc]
                have hs : (L.ty t).d ≠ .other ∧ (L.ty t).agg = false := by
                  unfold isSl at hsl
                  split at hsl
                  · rename_i e1 e2; exact ⟨by rw [e1]; simp, e2⟩
                  · cases hsl
                exact anest_sound hL hog hoo hod hs.1 hs.2 hx (movesB_spec hmv) hcg hco hce hca hw hf hk (fun s' a' w' A' hd' F' h1 h2 h3 => agrps_sound hL hQ l s' a' w' A' hd' F' h2 h3 h1)
              · exact aops_soundT hL (fun s' a' w' A' hd' F' h1 h2 h3 => agrps_sound hL hQ l s' a' w' A' hd' F' h2 h3 h1) (o :: (mv ++ [oc])) s a w A hd F hw hf hk
            · exact hk.elim
          · exact hk.elim
        · exact hk.elim
      · exact hk.elim
    · exact hk.elim
end
end Go.Proofs.Ytjenekakcoggpaa
