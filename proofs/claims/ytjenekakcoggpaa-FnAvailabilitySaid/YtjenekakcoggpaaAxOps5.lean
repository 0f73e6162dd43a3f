/- Soundness of one operation, the whole. -/
import Derived.Test.YtjenekakcoggpaaAxOps4
namespace Go.Proofs.Ytjenekakcoggpaa
set_option linter.unusedVariables false
set_option linter.unusedSimpArgs false
open Go Go.RowKit

section
variable {P : Program} {np : Nat} {L : Lay} {W : WM} {w w' : World} {A : Nat → Prop} {os os' : List Obj} {hd hd' : Nat → Value} {F F' : Nat → Nat → Prop} {s : AS} {a : Act}

/-- A row changes in place, and what it owns with it. -/
theorem CW.setRowF (h : CW W w A os hd F) {id k : Nat} {es es' : List (List AV)} (ho : os[id]? = some (.row k es)) (hlen : es.length = es'.length) {G' : Nat → Prop} (hk : Keeps (F id) w w')
    (hG' : ∀ x, G' x → F id x ∨ (W.new x ∧ x < w.heap.size ∧ ¬ A x ∧ ∀ i, ¬ F i x)) (hrow : XRel w' A (.sl true k es') (hd id) G') :
    CW W w' A (os.set id (.row k es')) hd (updN F id G') ∧ ∀ y u, SRel w A os hd y u → SRel w' A (os.set id (.row k es')) hd y u := by
  have hA : ∀ y, A y → y < w.heap.size ∧ ¬ F id y := fun y hy => ⟨(h.hA y hy).1, (h.hA y hy).2 id⟩
  have hlt := (List.getElem?_eq_some_iff.1 ho).1
  have hm : ∀ y u, SRel w A os hd y u → SRel w' A (os.set id (.row k es')) hd y u := fun y u hy => by
    refine (hy.keepG hA hk).os_mono (by simp) (fun i k' es'' hi h' => ?_) (fun i cs' hi h' => ?_)
    · rw [List.getElem?_set] at h'
      split at h'
      · rename_i e
        subst e
        cases h'
        exact ⟨es, ho, hlen, rfl⟩
      · exact ⟨es'', h', rfl, rfl⟩
    · rw [List.getElem?_set] at h'
      split at h'
      · cases h'
      · exact ⟨cs', h', rfl⟩
  have hF : ∀ j, j ≠ id → ∀ x, F j x → x < w.heap.size ∧ ¬ F id x := fun j hj x hx => ⟨(h.fsz j x hx).2, fun h' => hj (h.disj _ _ _ hx h')⟩
  refine ⟨⟨?_, fun x hx => ⟨Nat.lt_of_lt_of_le (hA x hx).1 hk.size, fun i hi => ?_⟩, fun i x hx => ?_, fun i j x hi hj => ?_, fun i k' es'' h' => ?_, fun i cs h' => ?_, fun p hp => ⟨by simpa using (h.pin p hp).1, (h.pin p hp).2⟩, h.old⟩, hm⟩
  · exact h.below.keep hk (fun x h' => (h.fsz id x h').1)
  · unfold updN at hi
    split at hi
    · rcases hG' x hi with h1 | h1
      · exact (hA x hx).2 h1
      · exact h1.2.2.1 hx
    · exact (h.hA x hx).2 i hi
  · unfold updN at hx
    split at hx
    · rcases hG' x hx with h1 | h1
      · exact ⟨(h.fsz id x h1).1, Nat.lt_of_lt_of_le (h.fsz id x h1).2 hk.size⟩
      · exact ⟨h1.1, Nat.lt_of_lt_of_le h1.2.1 hk.size⟩
    · exact ⟨(h.fsz i x hx).1, Nat.lt_of_lt_of_le (h.fsz i x hx).2 hk.size⟩
  · unfold updN at hi hj
    split at hi <;> split at hj
    · omega
    · rename_i e1 e2
      rcases hG' x hi with h1 | h1
      · exact (e2 (h.disj _ _ _ hj h1)).elim
      · exact (h1.2.2.2 j hj).elim
    · rename_i e1 e2
      rcases hG' x hj with h1 | h1
      · exact (e1 (h.disj _ _ _ hi h1)).elim
      · exact (h1.2.2.2 i hi).elim
    · exact h.disj i j x hi hj
  · rw [List.getElem?_set] at h'
    split at h'
    · rename_i e
      subst e
      cases h'
      rw [updN_eq]
      exact hrow
    · rename_i e
      rw [updN_ne _ _ _ (Ne.symm e)]
      exact (h.rows i k' es'' h').mono (fun _ h => h) (fun x hx => hx.elim (fun hx => hk.block x (hA x hx).1 (hA x hx).2) (fun hx => hk.block x (hF i (Ne.symm e) x hx).1 (hF i (Ne.symm e) x hx).2))
  · rw [List.getElem?_set] at h'
    split at h'
    · cases h'
    · rename_i e
      rw [updN_ne _ _ _ (Ne.symm e)]
      obtain ⟨b, T, c, e1, e2, e3, e4, e5⟩ := h.boxes i cs h'
      exact ⟨b, T, c, e1, by rw [hk.block b (hF i (Ne.symm e) b e5).1 (hF i (Ne.symm e) b e5).2]; exact e2, e3, fun j x hx => hm _ _ (e4 j x hx), e5⟩

theorem getD_mem' {l : List Value} {i : Nat} (h : i < l.length) : l.getD i undef ∈ l := by
  rw [List.getD_eq_getElem?_getD, List.getElem?_eq_getElem h]
  exact List.getElem_mem _

/-- A store into an own row. -/
theorem step_store_row (hL : L.ty = layOf P) (hw : CW W w A s.os hd F) (hf : FR w A s.os hd s.fr a) {dst ty pos af g} {t : TypeId} {x y : Operand} {K : AV → AS → Prop} {id j : Nat} {i : Int} {vsl : List Value}
    (hx : s.get x = .pe id i j) (hd0 : (L.ty t).d ≠ .other) {cl : List AV} (hcl : (a.eval y).cells.toList = vsl) (hcn : vsl.length = cl.length) (hcr : ∀ (q : Nat) z, cl[q]? = some z → SRel w A s.os hd z (vsl.getD q undef)) (hn : cl.length = (L.ty t).n)
    (hk : s.ownL cl fun cs s' => match s'.os[id]? with
        | some (.row k es) => (stdE np P).upd es i j cs fun es' => K .und ⟨s'.fr, s'.os.set id (.row k es')⟩
        | _ => False) : StepOK P W w s a ⟨dst, .store t x y, ty, pos, af, g⟩ K := by
  intro next Q hnx
  have h1 := hf.get x
  rw [hx] at h1
  obtain ⟨s', F1, g1, g2, hw1, hm1, hF1, cs, Gn, hk, hcsl, hcs, hGn, hGd, hone⟩ := ownL_sound cl vsl s F _ hw hcn hcr hk
  split at hk
  · rename_i k es ho
    obtain ⟨h0, e, he, hje, hk⟩ := hk
    have hi := (List.getElem?_eq_some_iff.1 he).1
    obtain ⟨bb, n, c0, q1, _, _, q2⟩ := (hm1 _ _ h1).pe_inv ho
    have hrow := hw1.rows id k es ho
    rw [q1] at hrow
    generalize hhd : Value.slice (some ⟨bb, 0, none⟩) n c0 = hv at hrow
    cases hrow with
    | pure _ _ _ h ho hF => simp [AV.isOwn] at ho
    | nil => simp at hi
    | sl _ _ cap b0 T c _ G hb hl hcap hsz hke h1c hr hF h00 hdj =>
      cases hhd
      obtain ⟨b, hbdef⟩ : ∃ b, b = bb := ⟨_, rfl⟩
      subst hbdef
      have hek := hke e (List.mem_of_getElem? he)
      have idx : ∀ i' j', i' < es.length → j' < k → i' * k + j' < c.size := fun i' j' hi' hj' => by
        have h5 : (i' + 1) * k ≤ c0 * k := Nat.mul_le_mul_right k (by omega)
        rw [Nat.add_mul] at h5; omega
      have hvl : vsl.length = cs.length := hcsl.symm
      have hfit : (i.toNat * k + j) + vsl.length ≤ c.size := by
        have h5 : (i.toNat + 1) * k ≤ c0 * k := Nat.mul_le_mul_right k (by omega)
        rw [Nat.add_mul] at h5; omega
      have hr0 := run_storeVar (P := P) (w := w) hL hd0 (off := i.toNat * k + j) (v := a.eval y) hb (by rw [← Array.length_toList, hcl, hcn]; exact hn) (by rw [← Array.length_toList, hcl]; exact hfit) (by rw [hcl]; exact hone)
      rw [hcl] at hr0
      -- what is new at place (i', j')
      let here : Nat → Nat → Prop := fun i' j' => i' = i.toNat ∧ j ≤ j' ∧ j' < j + cs.length
      have dec : ∀ i' j', Decidable (here i' j') := fun i' j' => inferInstanceAs (Decidable (_ ∧ _ ∧ _))
      have pos : ∀ i' j', i' < es.length → j' < k → (here i' j' ↔ (i.toNat * k + j ≤ i' * k + j' ∧ i' * k + j' < i.toNat * k + j + vsl.length)) := fun i' j' hi' hj' => by
        rw [hvl]
        constructor
        · rintro ⟨rfl, h5, h6⟩; omega
        · rintro ⟨h5, h6⟩
          have : i' = i.toNat := by
            rcases Nat.lt_trichotomy i' i.toNat with h7 | h7 | h7
            · have : (i' + 1) * k ≤ i.toNat * k := Nat.mul_le_mul_right k h7
              rw [Nat.add_mul] at this; omega
            · exact h7
            · have : (i.toNat + 1) * k ≤ i' * k := Nat.mul_le_mul_right k h7
              rw [Nat.add_mul] at this; omega
          subst this
          exact ⟨rfl, by omega, by omega⟩
      let G2 : Nat → Nat → Nat → Prop := fun i' j' => if here i' j' then Gn (j' - j) else G i' j'
      have hGnew : ∀ i' j' x, here i' j' → Gn (j' - j) x → W.new x ∧ x < w.heap.size ∧ ¬ A x ∧ ∀ id, ¬ F1 id x := fun i' j' x hh hx => by
        obtain ⟨⟨id', h5⟩, h6⟩ := hGn (j' - j) x (by rw [hvl]; have := hh.2; omega) hx
        exact ⟨(hw.fsz id' x h5).1, (hw.fsz id' x h5).2, fun h => (hw.hA x h).2 id' h5, h6⟩
      have hcell : ∀ i' j', i' < es.length → j' < k → (spliceV c (i.toNat * k + j) vsl).getD (i' * k + j') undef = if here i' j' then vsl.getD (j' - j) undef else c.getD (i' * k + j') undef := fun i' j' hi' hj' => by
        rw [spliceV_getD hfit]
        have hp := pos i' j' hi' hj'
        by_cases hh : here i' j'
        · rw [if_pos hh]
          obtain ⟨h5, h6⟩ := hp.1 hh
          rw [if_neg (by omega), if_pos h6]
          obtain ⟨rfl, h7, h8⟩ := hh
          congr 1
          omega
        · rw [if_neg hh]
          split
          · rfl
          · split
            · rename_i h5 h6
              exact (hh (hp.2 ⟨by omega, h6⟩)).elim
            · rfl
      have hkp := setRow_keeps (w := w) (c' := spliceV c (i.toNat * k + j) vsl) (F1 id) ((hF b).2 (.inl rfl))
      have hne : ∀ i' j' x, i' < es.length → j' < k → G2 i' j' x → x ≠ b := fun i' j' x hi' hj' hx hxb => by
        subst hxb
        simp only [G2] at hx
        split at hx
        · rename_i hh
          exact (hGnew i' j' x hh hx).2.2.2 id ((hF x).2 (.inl rfl))
        · exact h00 i' j' hi' hj' hx
      have hkb : ∀ x, x ≠ b → (w.setRow b (spliceV c (i.toNat * k + j) vsl)).heap[x]? = w.heap[x]? := fun x hx => by
        simp [World.setRow, Array.getElem?_modify, Ne.symm hx]
      have hespl : ∀ i', (es.set i.toNat (splice e j cs))[i']? = if i' = i.toNat then some (splice e j cs) else es[i']? := fun i' => by
        rw [List.getElem?_set]
        by_cases h5 : i.toNat = i'
        · subst h5; simp [hi]
        · rw [if_neg h5, if_neg (Ne.symm h5)]
      obtain ⟨hw2, hm2⟩ := hw1.setRowF (es' := es.set i.toNat (splice e j cs)) ho (by simp) hkp (G' := fun x => x = b ∨ ∃ i' j', i' < es.length ∧ j' < k ∧ G2 i' j' x) (fun x hx => by
          rcases hx with rfl | ⟨i', j', hi', hj', hx⟩
          · exact .inl ((hF x).2 (.inl rfl))
          · simp only [G2] at hx
            split at hx
            · rename_i hh
              exact .inr (hGnew i' j' x hh hx)
            · exact .inl ((hF x).2 (.inr ⟨i', j', hi', hj', hx⟩))) (by
          rw [q1]
          have hlen : (es.set i.toNat (splice e j cs)).length = es.length := by simp
          have key := XRel.sl (w := w.setRow b (spliceV c (i.toNat * k + j) vsl)) (A := A) k (es.set i.toNat (splice e j cs)) c0 b T (spliceV c (i.toNat * k + j) vsl) (fun x => x = b ∨ ∃ i' j', i' < es.length ∧ j' < k ∧ G2 i' j' x) G2 (setRow_heap w b c _ T _ hb)
            (by rw [hlen]; exact hl) (by rw [hlen]; exact hcap) (by rw [spliceV_size hfit]; exact hsz) (fun e' he' => by
              rcases List.mem_or_eq_of_mem_set he' with h5 | h5
              · exact hke e' h5
              · rw [h5, splice_len hje, hek]) (fun i' j' hi' hj' => by
              rw [hlen] at hi'
              rw [hcell i' j' hi' hj']
              split
              · rename_i hh
                refine hone _ (getD_mem' ?_)
                rw [hvl]; have := hh.2; omega
              · exact h1c i' j' hi' hj') (fun i' j' e' x he' hx => by
              have hi' := (List.getElem?_eq_some_iff.1 he').1
              rw [hlen] at hi'
              have hj' := (List.getElem?_eq_some_iff.1 hx).1
              rw [hespl] at he'
              have hjk : j' < k := by
                split at he'
                · cases he'; rw [splice_len hje, hek] at hj'; exact hj'
                · rw [hke e' (List.mem_of_getElem? he')] at hj'; exact hj'
              rw [hcell i' j' hi' hjk]
              have mono : ∀ u, XRel w A x u (G2 i' j') → XRel (w.setRow b (spliceV c (i.toNat * k + j) vsl)) A x u (G2 i' j') := fun u h => h.mono (fun _ h => h) (fun z hz => hkb z (by
                rcases hz with hz | hz
                · rintro rfl; exact (hw1.hA z hz).2 id ((hF z).2 (.inl rfl))
                · exact hne i' j' z hi' hjk hz))
              by_cases hh : here i' j'
              · rw [if_pos hh]
                refine mono _ ?_
                rw [if_pos hh.1] at he'
                cases he'
                rw [splice_get hje, if_neg (by have := hh.2; omega), if_pos hh.2.2] at hx
                exact (hcs (j' - j) x hx).congr (fun z => by simp only [G2]; rw [if_pos hh])
              · rw [if_neg hh]
                refine mono _ ?_
                have hex : ∃ e0, es[i']? = some e0 ∧ e0[j']? = some x := by
                  split at he'
                  · rename_i h5
                    subst h5
                    cases he'
                    refine ⟨e, he, ?_⟩
                    rw [splice_get hje] at hx
                    split at hx
                    · exact hx
                    · split at hx
                      · rename_i h6 h7
                        exact (hh ⟨rfl, by omega, h7⟩).elim
                      · exact hx
                  · exact ⟨e', he', hx⟩
                obtain ⟨e0, h5, h6⟩ := hex
                exact (hr i' j' e0 x h5 h6).congr (fun z => by simp only [G2]; rw [if_neg hh])) (fun x => by rw [hlen]) (fun i' j' hi' hj' h5 => by rw [hlen] at hi'; exact hne i' j' b hi' hj' h5 rfl) (fun i1 j1 i2 j2 x hi1 hj1 hi2 hj2 h5 h6 => by
              rw [hlen] at hi1 hi2
              simp only [G2] at h5 h6
              split at h5 <;> split at h6
              · rename_i a1 a2
                have := hGd _ _ x (by rw [hvl]; have := a1.2; omega) (by rw [hvl]; have := a2.2; omega) h5 h6
                exact ⟨a1.1.trans a2.1.symm, by have := a1.2; have := a2.2; omega⟩
              · rename_i a1 a2
                exact ((hGnew i1 j1 x a1 h5).2.2.2 id ((hF x).2 (.inr ⟨i2, j2, hi2, hj2, h6⟩))).elim
              · rename_i a1 a2
                exact ((hGnew i2 j2 x a2 h6).2.2.2 id ((hF x).2 (.inr ⟨i1, j1, hi1, hj1, h5⟩))).elim
              · exact hdj i1 j1 i2 j2 x hi1 hj1 hi2 hj2 h5 h6)
          rw [hlen] at key
          exact key)
      exact wp_skip' (run_store_op q2 hr0) (hnx _ _ _ _ A hd _ hk g1 hw2 (hf.os_mono fun z u h => hm2 z u (hm1 z u h)) (.pure _ _ .und))
  · exact hk.elim

theorem run_clear_op {c : Call} {x : Operand} {t ty : TypeId} {dst : Option Tmp} {pos : String} {af : Array Edge} {g : Option (Nat × Bool)} (hc : c.callee = .builtin .clear) (ha : c.args.toList = [x]) (ht : c.argTypes.toList = [t]) {v : Value}
    (h : (Builtin.clear_ #[t] ty #[a.eval x]).run P w = .ok v w') : (execOp a.eval ⟨dst, .call c, ty, pos, af, g⟩).run P w = .ok (.value v) w' := by
  obtain ⟨ce, as', ts⟩ := c
  cases hc
  have ha' : as' = #[x] := by rw [← Array.toArray_toList (xs := as')]; rw [show as'.toList = [x] from ha]
  have ht' : ts = #[t] := by rw [← Array.toArray_toList (xs := ts)]; rw [show ts.toList = [t] from ht]
  subst ha' ht'
  show (Builtin.clear_ #[t] ty _ >>= _).run P w = _
  rw [show (#[x] : Array Operand).map a.eval = #[a.eval x] from by simp, Sem.run_bind, h]
  rfl

theorem setSelf {α : Type} {l : List α} {i : Nat} {x : α} (h : l[i]? = some x) : l.set i x = l := by
  refine List.ext_getElem? fun j => ?_
  rw [List.getElem?_set]
  split
  · rename_i e; subst e
    rw [if_pos (List.getElem?_eq_some_iff.1 h).1, h]
  · rfl

/-- A part of an own row is set to zeros. -/
theorem step_clear (hL : L.ty = layOf P) (hw : CW W w A s.os hd F) (hf : FR w A s.os hd s.fr a) {dst ty pos af g} {c : Call} {x : Operand} {t e : TypeId} {id : Nat} {lo hi : Int} {es : List (List AV)} {K : AV → AS → Prop} (hc : c.callee = .builtin .clear) (ha : c.args.toList = [x]) (ht : c.argTypes.toList = [t])
    (hd0 : (L.ty t).d = .slice e) (hz : (L.ty e).zero ≠ []) (hzn : (L.ty e).zero.length = (L.ty e).n) (hzo : zok (L.ty e).zero = true) (hx : s.get x = .vs id lo hi) (ho : s.os[id]? = some (.row (L.ty e).n es))
    (hk : (stdE np P).clr es lo hi ((L.ty e).zero.map Z.av) fun es' => K .any ⟨s.fr, s.os.set id (.row (L.ty e).n es')⟩) : StepOK P W w s a ⟨dst, .call c, ty, pos, af, g⟩ K := by
  intro next Q hnx
  have hk : K .any ⟨s.fr, s.os.set id (.row (L.ty e).n (es.take lo.toNat ++ (List.replicate (hi - lo).toNat ((L.ty e).zero.map Z.av) ++ es.drop hi.toNat)))⟩ := hk
  have h1 := hf.get x
  rw [hx] at h1
  obtain ⟨e1, e2, e3, p, cap, e4, e5, e6, _⟩ := h1.vs_inv ho
  obtain ⟨i, z, h2, h3, h4, h5, h6⟩ := lay_zero hL hz
  by_cases hlt : lo < hi
  · obtain ⟨b, n, c0, q1, q2⟩ := e6 hlt
    subst q2
    generalize hkn : (L.ty e).n = k at *
    have hzs : z.cells.size = k := by rw [h4] at hzn; simpa using hzn
    have hk0 : 0 < k := by rw [← hzn]; exact List.length_pos_iff.2 hz
    have hrow := hw.rows id k es ho
    rw [q1] at hrow
    generalize hhd : Value.slice (some ⟨b, 0, none⟩) n c0 = hv at hrow
    cases hrow with
    | pure _ _ _ h ho hF => simp [AV.isOwn] at ho
    | nil => simp at e3; omega
    | sl _ _ cap1 b0 T cs _ G hb hl hcap hsz hke h1c hr hF h00 hdj =>
      cases hhd
      generalize hm : (hi - lo).toNat = m at *
      have hlo : hi.toNat = lo.toNat + m := by omega
      have hmle : lo.toNat + m ≤ es.length := by omega
      let zs : List Value := (Builtin.zeroCells z.cells m).toList
      have hzl : zs.length = m * k := by simp [zs, Builtin.zeroCells, hzs]
      have hzget : ∀ q, q < m * k → zs.getD q undef = z.cells.getD (q % k) undef := fun q hq => by
        have hq' : q < (Builtin.zeroCells z.cells m).size := by simp [Builtin.zeroCells, hzs]; exact hq
        rw [List.getD_eq_getElem?_getD]
        simp only [zs, Array.getElem?_toList]
        rw [Array.getElem?_eq_getElem hq']
        simp only [Builtin.zeroCells, Array.getElem_map, Array.getElem_range, Option.getD_some, hzs]
        exact getElem!_getD _ _ (by rw [hzs]; exact Nat.mod_lt _ hk0)
      have hzj : ∀ j, j < k → ∃ zj, (L.ty e).zero[j]? = some zj ∧ zj = Z.of (z.cells.getD j undef) ∧ zj ≠ .other := fun j hj => by
        have hj' : j < z.cells.size := by omega
        refine ⟨Z.of (z.cells.getD j undef), ?_, rfl, ?_⟩
        · rw [h4, List.getElem?_map, Array.getElem?_toList]
          simp [Array.getD, hj']
        · refine zok_get hzo (i := j) ?_
          rw [h4, List.getElem?_map, Array.getElem?_toList]
          simp [Array.getD, hj']
      have hone : ∀ u ∈ zs, u.oneCell' = true := fun u hu => by
        obtain ⟨q, hq⟩ := List.getElem?_of_mem hu
        have hq' : q < m * k := by rw [← hzl]; exact (List.getElem?_eq_some_iff.1 hq).1
        have : u = zs.getD q undef := by rw [List.getD_eq_getElem?_getD, hq]; rfl
        rw [this, hzget q hq']
        obtain ⟨zj, _, g2, g3⟩ := hzj (q % k) (Nat.mod_lt _ hk0)
        exact (Z.of_one (w := w) (A := A) (G := fun _ => False) (g2 ▸ g3) (fun _ h => h)).2
      have hfit : lo.toNat * k + zs.length ≤ cs.size := by
        rw [hzl, ← Nat.add_mul]
        exact Nat.le_trans (Nat.mul_le_mul_right k (by omega)) hsz
      have hr0 := run_storeCells_at P b (lo.toNat * k) T zs 0 cs w hb (by simpa using hfit) hone
      simp only [Nat.add_zero] at hr0
      let here : Nat → Prop := fun i' => lo.toNat ≤ i' ∧ i' < lo.toNat + m
      have pos : ∀ i' j', j' < k → (here i' ↔ (lo.toNat * k ≤ i' * k + j' ∧ i' * k + j' < lo.toNat * k + zs.length)) := fun i' j' hj' => by
        rw [hzl, ← Nat.add_mul]
        constructor
        · rintro ⟨g1, g2⟩
          have g3 : lo.toNat * k ≤ i' * k := Nat.mul_le_mul_right k g1
          have g4 : (i' + 1) * k ≤ (lo.toNat + m) * k := Nat.mul_le_mul_right k g2
          rw [Nat.add_mul] at g4
          omega
        · rintro ⟨g1, g2⟩
          constructor
          · apply Classical.byContradiction
            intro g3
            have : (i' + 1) * k ≤ lo.toNat * k := Nat.mul_le_mul_right k (by omega)
            rw [Nat.add_mul] at this; omega
          · apply Classical.byContradiction
            intro g3
            have : (lo.toNat + m) * k ≤ i' * k := Nat.mul_le_mul_right k (by omega)
            omega
      have dec : ∀ i', Decidable (here i') := fun i' => inferInstanceAs (Decidable (_ ∧ _))
      let G2 : Nat → Nat → Nat → Prop := fun i' j' => if here i' then (fun _ => False) else G i' j'
      have hcell : ∀ i' j', j' < k → (spliceV cs (lo.toNat * k) zs).getD (i' * k + j') undef = if here i' then z.cells.getD j' undef else cs.getD (i' * k + j') undef := fun i' j' hj' => by
        rw [spliceV_getD hfit]
        have hp := pos i' j' hj'
        by_cases hh : here i'
        · rw [if_pos hh]
          obtain ⟨g1, g2⟩ := hp.1 hh
          rw [if_neg (by omega), if_pos g2, hzget _ (by rw [hzl] at g2; omega)]
          congr 1
          have : i' * k + j' - lo.toNat * k = (i' - lo.toNat) * k + j' := by rw [Nat.sub_mul]; have := Nat.mul_le_mul_right k hh.1; omega
          rw [this, Nat.mul_comm, Nat.mul_add_mod, Nat.mod_eq_of_lt hj']
        · rw [if_neg hh]
          split
          · rfl
          · split
            · rename_i g1 g2
              exact (hh (hp.2 ⟨by omega, g2⟩)).elim
            · rfl
      have hkp := setRow_keeps (w := w) (c' := spliceV cs (lo.toNat * k) zs) (F id) ((hF b).2 (.inl rfl))
      have hkb : ∀ x, x ≠ b → (w.setRow b (spliceV cs (lo.toNat * k) zs)).heap[x]? = w.heap[x]? := fun x hx => by
        simp [World.setRow, Array.getElem?_modify, Ne.symm hx]
      have hsub : ∀ i' j' x, G2 i' j' x → G i' j' x ∧ ¬ here i' := fun i' j' x hx => by
        simp only [G2] at hx
        split at hx
        · exact hx.elim
        · exact ⟨hx, by assumption⟩
      have hlen : (es.take lo.toNat ++ (List.replicate m ((L.ty e).zero.map Z.av) ++ es.drop hi.toNat)).length = es.length := by simp; omega
      have hget : ∀ i', i' < es.length → (es.take lo.toNat ++ (List.replicate m ((L.ty e).zero.map Z.av) ++ es.drop hi.toNat))[i']? = if here i' then some ((L.ty e).zero.map Z.av) else es[i']? := fun i' hi' => by
        have htl : (es.take lo.toNat).length = lo.toNat := by simp; omega
        by_cases g1 : i' < lo.toNat
        · rw [List.getElem?_append_left (by omega), List.getElem?_take, if_pos g1, if_neg (fun h => by have := h.1; omega)]
        · rw [List.getElem?_append_right (by omega), htl]
          by_cases g2 : i' < lo.toNat + m
          · rw [List.getElem?_append_left (by simp; omega), List.getElem?_replicate, if_pos (by omega), if_pos ⟨by omega, g2⟩]
          · rw [List.getElem?_append_right (by simp; omega), List.length_replicate, List.getElem?_drop, if_neg (fun h => by have := h.2; omega)]
            congr 1; omega
      obtain ⟨hw2, hm2⟩ := hw.setRowF (es' := es.take lo.toNat ++ (List.replicate m ((L.ty e).zero.map Z.av) ++ es.drop hi.toNat)) ho hlen.symm hkp (G' := fun x => x = b ∨ ∃ i' j', i' < es.length ∧ j' < k ∧ G2 i' j' x) (fun x hx => by
          rcases hx with rfl | ⟨i', j', hi', hj', hx⟩
          · exact .inl ((hF x).2 (.inl rfl))
          · exact .inl ((hF x).2 (.inr ⟨i', j', hi', hj', (hsub _ _ _ hx).1⟩))) (by
          rw [q1]
          have key := XRel.sl (w := w.setRow b (spliceV cs (lo.toNat * k) zs)) (A := A) k _ c0 b T (spliceV cs (lo.toNat * k) zs) (fun x => x = b ∨ ∃ i' j', i' < es.length ∧ j' < k ∧ G2 i' j' x) G2 (setRow_heap w b cs _ T _ hb)
            (by rw [hlen]; exact hl) (by rw [hlen]; exact hcap) (by rw [spliceV_size hfit]; exact hsz) (fun e' he' => by
              obtain ⟨i', g1⟩ := List.getElem?_of_mem he'
              have g2 := (List.getElem?_eq_some_iff.1 g1).1
              rw [hlen] at g2
              rw [hget i' g2] at g1
              split at g1
              · cases g1; rw [List.length_map, hzn]
              · exact hke e' (List.mem_of_getElem? g1)) (fun i' j' hi' hj' => by
              rw [hlen] at hi'
              rw [hcell i' j' hj']
              split
              · obtain ⟨zj, _, g2, g3⟩ := hzj j' hj'
                exact (Z.of_one (w := w) (A := A) (G := fun _ => False) (g2 ▸ g3) (fun _ h => h)).2
              · exact h1c i' j' hi' hj') (fun i' j' e' x he' hx => by
              have hi' := (List.getElem?_eq_some_iff.1 he').1
              rw [hlen] at hi'
              rw [hget i' hi'] at he'
              by_cases hh : here i'
              · rw [if_pos hh] at he'
                cases he'
                have hj' := (List.getElem?_eq_some_iff.1 hx).1
                rw [List.length_map, hzn] at hj'
                rw [hcell i' j' hj', if_pos hh]
                obtain ⟨zj, g1, g2, g3⟩ := hzj j' hj'
                rw [List.getElem?_map, g1] at hx
                cases hx
                rw [g2]
                exact (Z.of_one (g2 ▸ g3) (fun _ h => h)).1.congr (fun y => by simp only [G2]; rw [if_pos hh])
              · rw [if_neg hh] at he'
                have hj' := (List.getElem?_eq_some_iff.1 hx).1
                rw [hke e' (List.mem_of_getElem? he')] at hj'
                rw [hcell i' j' hj', if_neg hh]
                refine ((hr i' j' e' x he' hx).mono (fun _ h => h) (fun y hy => hkb y ?_)).congr (fun y => by simp only [G2]; rw [if_neg hh])
                rcases hy with hy | hy
                · rintro rfl; exact (hw.hA y hy).2 id ((hF y).2 (.inl rfl))
                · rintro rfl; exact h00 i' j' hi' hj' hy) (fun x => by rw [hlen]) (fun i' j' hi' hj' h5 => by rw [hlen] at hi'; exact h00 i' j' hi' hj' (hsub _ _ _ h5).1) (fun i1 j1 i2 j2 x hi1 hj1 hi2 hj2 g1 g2 => by
              rw [hlen] at hi1 hi2
              exact hdj i1 j1 i2 j2 x hi1 hj1 hi2 hj2 (hsub _ _ _ g1).1 (hsub _ _ _ g2).1)
          rw [hlen] at key
          exact key)
      refine wp_value (run_clear_op hc ha ht (v := .tuple #[]) ?_) (hnx _ _ _ _ A hd _ hk rfl hw2 (hf.os_mono fun z u h => hm2 z u h) (.pure _ _ (.any _)))
      rw [e4]
      obtain ⟨m', hm'⟩ : ∃ m', m = m' + 1 := ⟨m - 1, by omega⟩
      have hr1 : (storeCells ⟨b, lo.toNat * k, none⟩ (Builtin.zeroCells z.cells m).toList).run P w = .ok () (w.setRow b (spliceV cs (lo.toNat * k) zs)) := hr0
      subst hm'
      simp [Builtin.clear_, run_underlying (lay_slice hL hd0), zeroValue, typeInfo, h2, h3, hr1]
  · have e0 : hi - lo = 0 := by omega
    have hes : es.take lo.toNat ++ (List.replicate (hi - lo).toNat ((L.ty e).zero.map Z.av) ++ es.drop hi.toNat) = es := by
      rw [e0, show hi.toNat = lo.toNat by omega]
      simp
    rw [hes, setSelf ho] at hk
    refine wp_value (run_clear_op hc ha ht (v := .tuple #[]) (w' := w) ?_) (hnx _ s _ _ A hd F hk rfl hw hf (.pure _ _ (.any _)))
    rw [e4, e0]
    cases p <;> simp [Builtin.clear_, run_underlying (lay_slice hL hd0)]
/-- Some rows of an own row are overwritten by flat ones. -/
theorem CW.rowOver (hw : CW W w A os hd F) {id k lo m b n c0 : Nat} {es fs : List (List AV)} {zs : List Value} (ho : os[id]? = some (.row k es)) (q1 : hd id = .slice (some ⟨b, 0, none⟩) n c0) (hk0 : 0 < k) (hm : fs.length = m) (hmle : lo + m ≤ es.length) (hzl : zs.length = m * k) (hfl : ∀ e ∈ fs, e.length = k)
    (hone : ∀ u ∈ zs, u.oneCell' = true) (hrel : ∀ (w' : World) (i j : Nat) e x, fs[i]? = some e → e[j]? = some x → XRel w' A x (zs.getD (i * k + j) undef) (fun _ => False)) :
    ∃ cs T, w.heap[b]? = some (.cells cs T (0, 0)) ∧ lo * k + zs.length ≤ cs.size ∧ es.length ≤ c0 ∧
      ∃ F', CW W (w.setRow b (spliceV cs (lo * k) zs)) A (os.set id (.row k (es.take lo ++ (fs ++ es.drop (lo + m))))) hd F' ∧ ∀ y u, SRel w A os hd y u → SRel (w.setRow b (spliceV cs (lo * k) zs)) A (os.set id (.row k (es.take lo ++ (fs ++ es.drop (lo + m))))) hd y u := by
  have hrow := hw.rows id k es ho
  rw [q1] at hrow
  generalize hhd : Value.slice (some ⟨b, 0, none⟩) n c0 = hv at hrow
  cases hrow with
  | pure _ _ _ h ho hF => simp [AV.isOwn] at ho
  | nil => cases hhd
  | sl _ _ cap1 b0 T cs _ G hb hl hcap hsz hke h1c hr hF h00 hdj =>
    cases hhd
    have hfit : lo * k + zs.length ≤ cs.size := by
      rw [hzl, ← Nat.add_mul]
      exact Nat.le_trans (Nat.mul_le_mul_right k (by omega)) hsz
    let here : Nat → Prop := fun i' => lo ≤ i' ∧ i' < lo + m
    have pos : ∀ i' j', j' < k → (here i' ↔ (lo * k ≤ i' * k + j' ∧ i' * k + j' < lo * k + zs.length)) := fun i' j' hj' => by
      rw [hzl, ← Nat.add_mul]
      constructor
      · rintro ⟨g1, g2⟩
        have g3 : lo * k ≤ i' * k := Nat.mul_le_mul_right k g1
        have g4 : (i' + 1) * k ≤ (lo + m) * k := Nat.mul_le_mul_right k g2
        rw [Nat.add_mul] at g4
        omega
      · rintro ⟨g1, g2⟩
        constructor
        · apply Classical.byContradiction
          intro g3
          have : (i' + 1) * k ≤ lo * k := Nat.mul_le_mul_right k (by omega)
          rw [Nat.add_mul] at this; omega
        · apply Classical.byContradiction
          intro g3
          have : (lo + m) * k ≤ i' * k := Nat.mul_le_mul_right k (by omega)
          omega
    have dec : ∀ i', Decidable (here i') := fun i' => inferInstanceAs (Decidable (_ ∧ _))
    let G2 : Nat → Nat → Nat → Prop := fun i' j' => if here i' then (fun _ => False) else G i' j'
    have hcell : ∀ i' j', j' < k → (spliceV cs (lo * k) zs).getD (i' * k + j') undef = if here i' then zs.getD ((i' - lo) * k + j') undef else cs.getD (i' * k + j') undef := fun i' j' hj' => by
      rw [spliceV_getD hfit]
      have hp := pos i' j' hj'
      by_cases hh : here i'
      · rw [if_pos hh]
        obtain ⟨g1, g2⟩ := hp.1 hh
        rw [if_neg (by omega), if_pos g2]
        congr 1
        rw [Nat.sub_mul]; have := Nat.mul_le_mul_right k hh.1; omega
      · rw [if_neg hh]
        split
        · rfl
        · split
          · rename_i g1 g2
            exact (hh (hp.2 ⟨by omega, g2⟩)).elim
          · rfl
    have hkp := setRow_keeps (w := w) (c' := spliceV cs (lo * k) zs) (F id) ((hF b).2 (.inl rfl))
    have hkb : ∀ x, x ≠ b → (w.setRow b (spliceV cs (lo * k) zs)).heap[x]? = w.heap[x]? := fun x hx => by
      simp [World.setRow, Array.getElem?_modify, Ne.symm hx]
    have hsub : ∀ i' j' x, G2 i' j' x → G i' j' x ∧ ¬ here i' := fun i' j' x hx => by
      simp only [G2] at hx
      split at hx
      · exact hx.elim
      · exact ⟨hx, by assumption⟩
    have hlen : (es.take lo ++ (fs ++ es.drop (lo + m))).length = es.length := by simp; omega
    have hget : ∀ i', i' < es.length → (es.take lo ++ (fs ++ es.drop (lo + m)))[i']? = if here i' then fs[i' - lo]? else es[i']? := fun i' hi' => by
      have htl : (es.take lo).length = lo := by simp; omega
      by_cases g1 : i' < lo
      · rw [List.getElem?_append_left (by omega), List.getElem?_take, if_pos g1, if_neg (fun h => by have := h.1; omega)]
      · rw [List.getElem?_append_right (by omega), htl]
        by_cases g2 : i' < lo + m
        · rw [List.getElem?_append_left (by omega), if_pos ⟨by omega, g2⟩]
        · rw [List.getElem?_append_right (by omega), hm, List.getElem?_drop, if_neg (fun h => by have := h.2; omega)]
          congr 1; omega
    obtain ⟨hw2, hm2⟩ := hw.setRowF (es' := es.take lo ++ (fs ++ es.drop (lo + m))) ho hlen.symm hkp (G' := fun x => x = b ∨ ∃ i' j', i' < es.length ∧ j' < k ∧ G2 i' j' x) (fun x hx => by
        rcases hx with rfl | ⟨i', j', hi', hj', hx⟩
        · exact .inl ((hF x).2 (.inl rfl))
        · exact .inl ((hF x).2 (.inr ⟨i', j', hi', hj', (hsub _ _ _ hx).1⟩))) (by
        rw [q1]
        have key := XRel.sl (w := w.setRow b (spliceV cs (lo * k) zs)) (A := A) k (es.take lo ++ (fs ++ es.drop (lo + m))) c0 b T (spliceV cs (lo * k) zs) (fun x => x = b ∨ ∃ i' j', i' < es.length ∧ j' < k ∧ G2 i' j' x) G2 (setRow_heap w b cs _ T _ hb)
          (by rw [hlen]; exact hl) (by rw [hlen]; exact hcap) (by rw [spliceV_size hfit]; exact hsz) (fun e' he' => by
            rcases List.mem_append.1 he' with h | h
            · exact hke e' (List.mem_of_mem_take h)
            · rcases List.mem_append.1 h with h | h
              · exact hfl e' h
              · exact hke e' (List.mem_of_mem_drop h)) (fun i' j' hi' hj' => by
            rw [hlen] at hi'
            rw [hcell i' j' hj']
            split
            · rename_i hh
              have g1 := hh.1
              have g2 := hh.2
              have g3 : (i' - lo) * k + j' < zs.length := by
                rw [hzl]
                have : (i' - lo + 1) * k ≤ m * k := Nat.mul_le_mul_right k (by omega)
                rw [Nat.add_mul] at this; omega
              refine hone _ ?_
              rw [List.getD_eq_getElem?_getD, List.getElem?_eq_getElem g3]
              exact List.getElem_mem _
            · exact h1c i' j' hi' hj') (fun i' j' e' x he' hx => by
            have hi' := (List.getElem?_eq_some_iff.1 he').1
            rw [hlen] at hi'
            rw [hget i' hi'] at he'
            by_cases hh : here i'
            · rw [if_pos hh] at he'
              have hj' := (List.getElem?_eq_some_iff.1 hx).1
              rw [hfl e' (List.mem_of_getElem? he')] at hj'
              rw [hcell i' j' hj', if_pos hh]
              exact (hrel _ _ _ _ _ he' hx).congr (fun y => by simp only [G2]; rw [if_pos hh])
            · rw [if_neg hh] at he'
              have hj' := (List.getElem?_eq_some_iff.1 hx).1
              rw [hke e' (List.mem_of_getElem? he')] at hj'
              rw [hcell i' j' hj', if_neg hh]
              refine ((hr i' j' e' x he' hx).mono (fun _ h => h) (fun y hy => hkb y ?_)).congr (fun y => by simp only [G2]; rw [if_neg hh])
              rcases hy with hy | hy
              · rintro rfl; exact (hw.hA y hy).2 id ((hF y).2 (.inl rfl))
              · rintro rfl; exact h00 i' j' hi' hj' hy) (fun x => by rw [hlen]) (fun i' j' hi' hj' h5 => by rw [hlen] at hi'; exact h00 i' j' hi' hj' (hsub _ _ _ h5).1) (fun i1 j1 i2 j2 x hi1 hj1 hi2 hj2 g1 g2 => by
            rw [hlen] at hi1 hi2
            exact hdj i1 j1 i2 j2 x hi1 hj1 hi2 hj2 (hsub _ _ _ g1).1 (hsub _ _ _ g2).1)
        rw [hlen] at key
        exact key)
    exact ⟨cs, T, hb, hfit, hcap, _, hw2, hm2⟩
/-- An append in place: a part of an own row goes behind an earlier one. -/
theorem step_appV (hL : L.ty = layOf P) (hw : CW W w A s.os hd F) (hf : FR w A s.os hd s.fr a) {dst ty pos af g} {c : Call} {x y : Operand} {t e : TypeId} {id : Nat} {hi lo' hi' : Int} {es : List (List AV)} {K : AV → AS → Prop} (hc : c.callee = .builtin .append) (ha : c.args.toList = [x, y]) (ht : c.argTypes.toList = [t, t])
    (hd0 : (L.ty t).d = .slice e) (hd1 : (L.ty e).d ≠ .other) (hz : (L.ty e).zero ≠ []) (hn0 : (L.ty e).n ≠ 0) (hx : s.get x = .vs id 0 hi) (hy : s.get y = .vs id lo' hi') (ho : s.os[id]? = some (.row (L.ty e).n es))
    (hk : (stdE np P).mv es hi lo' hi' fun es' m => K (.vs id 0 m) ⟨s.fr, s.os.set id (.row (L.ty e).n es')⟩) : StepOK P W w s a ⟨dst, .call c, ty, pos, af, g⟩ K := by
  intro next Q hnx
  obtain ⟨hle, hflat, hk⟩ := hk
  have h1 := hf.get x
  have h2 := hf.get y
  rw [hx] at h1
  rw [hy] at h2
  obtain ⟨_, a2, a3, p, cap, a4, a5, a6, a7⟩ := h1.vs_inv ho
  obtain ⟨b1, b2, b3, p', cap', b4, b5, b6, _⟩ := h2.vs_inv ho
  obtain ⟨nv, a8⟩ := a7 rfl
  have hts := lay_slice hL hd0
  have hso : ∀ w, (sizeOf e).run P w = .ok (L.ty e).n w := fun w => run_sizeOf hL hd1
  obtain ⟨i, z, g1, g2, g3, g4, g5⟩ := lay_zero hL hz
  by_cases hlt : lo' < hi'
  · obtain ⟨b, n, c0, q1, q2⟩ := b6 hlt
    rw [a8] at q1
    cases q1
    subst q2
    generalize hkn : (L.ty e).n = k at *
    have hk0 : 0 < k := by omega
    obtain ⟨m, hmm⟩ : ∃ m, m = (hi' - lo').toNat := ⟨_, rfl⟩
    have hrow := hw.rows id k es ho
    rw [a8] at hrow
    generalize hhd : Value.slice (some ⟨b, 0, none⟩) nv cap = hv at hrow
    cases hrow with
    | pure _ _ _ h ho hF => simp [AV.isOwn] at ho
    | nil => cases hhd
    | sl _ _ cap1 b0 T cs _ G hb hl hcap hsz hke h1c hr hF h00 hdj =>
      cases hhd
      have hfsl : ((es.take hi'.toNat).drop lo'.toNat).length = m := by simp; omega
      have hfsg : ∀ i', i' < m → ((es.take hi'.toNat).drop lo'.toNat)[i']? = es[lo'.toNat + i']? := fun i' hi2 => by
        rw [List.getElem?_drop, List.getElem?_take, if_pos (by omega)]
      obtain ⟨zs, hzs⟩ : ∃ zs : List Value, zs = (List.range (m * k)).map fun q => cs.getD (lo'.toNat * k + q) undef := ⟨_, rfl⟩
      have hzl : zs.length = m * k := by rw [hzs]; simp
      have hidx : ∀ q, q < m * k → q / k < m ∧ q % k < k ∧ q / k * k + q % k = q := fun q hq => ⟨(Nat.div_lt_iff_lt_mul hk0).2 hq, Nat.mod_lt _ hk0, by rw [Nat.mul_comm]; exact Nat.div_add_mod q k⟩
      have hzg : ∀ q, q < m * k → zs[q]? = some (cs.getD (lo'.toNat * k + q) undef) := fun q hq => by
        rw [hzs, List.getElem?_map, List.getElem?_range hq]; rfl
      have hin : lo'.toNat * k + m * k ≤ cs.size := by
        rw [← Nat.add_mul]
        exact Nat.le_trans (Nat.mul_le_mul_right k (by omega)) hsz
      have hone : ∀ u ∈ zs, u.oneCell' = true := fun u hu => by
        obtain ⟨q, hq⟩ := List.getElem?_of_mem hu
        have hq' : q < m * k := by rw [← hzl]; exact (List.getElem?_eq_some_iff.1 hq).1
        rw [hzg q hq'] at hq
        cases hq
        obtain ⟨r1, r2, r3⟩ := hidx q hq'
        have := h1c (lo'.toNat + q / k) (q % k) (by omega) r2
        rwa [Nat.add_mul, Nat.add_assoc, r3] at this
      have hnews : ∀ j u, zs[j]? = some u → w.cell? ((⟨b, lo'.toNat * k, none⟩ : Addr).add j) = some u := fun j u hu => by
        have hq' : j < m * k := by rw [← hzl]; exact (List.getElem?_eq_some_iff.1 hu).1
        rw [hzg j hq'] at hu
        cases hu
        rw [addr_add]
        have : lo'.toNat * k + j < cs.size := by omega
        simp [World.cell?, hb, Array.getD, this]
      have hrel : ∀ (w' : World) (i j : Nat) e x, ((es.take hi'.toNat).drop lo'.toNat)[i]? = some e → e[j]? = some x → XRel w' A x (zs.getD (i * k + j) undef) (fun _ => False) := fun w' i' j' e' x' he hx' => by
        have hi2 : i' < m := by rw [← hfsl]; exact (List.getElem?_eq_some_iff.1 he).1
        have hfl' := hflat e' (List.mem_of_getElem? he) x' (List.mem_of_getElem? hx')
        rw [hfsg i' hi2] at he
        have hj2 : j' < k := by
          have := (List.getElem?_eq_some_iff.1 hx').1
          rwa [hke e' (List.mem_of_getElem? he)] at this
        have h5 := hr (lo'.toNat + i') j' e' x' he hx'
        have hq : i' * k + j' < m * k := by
          have : (i' + 1) * k ≤ m * k := Nat.mul_le_mul_right k hi2
          rw [Nat.add_mul] at this; omega
        have e5 : zs.getD (i' * k + j') undef = cs.getD ((lo'.toNat + i') * k + j') undef := by
          rw [List.getD_eq_getElem?_getD, hzg _ hq, Nat.add_mul, Nat.add_assoc]; rfl
        rw [e5]
        have h6 := (h5.flat hfl').flatA (A' := A) hfl'
        have h7 : Rel w' A x' (cs.getD ((lo'.toNat + i') * k + j') undef) := by
          generalize cs.getD ((lo'.toNat + i') * k + j') undef = u0 at h6 ⊢
          cases h6 <;> first | exact .int _ _ | exact .bool _ | exact .str _ (by assumption) | cases hfl'
        exact .pure _ _ _ h7 (flat_noown hfl') (fun _ h => h)
      obtain ⟨cs', T', r1, r2, r3, F', r4, r5⟩ := hw.rowOver (lo := hi.toNat) ho a8 hk0 hfsl (by omega) hzl (fun e' he => hke e' (List.mem_of_mem_take (List.mem_of_mem_drop he))) hone hrel
      rw [hb] at r1
      cases r1
      have hi4 : i.size = k := by omega
      have hrun := run_append_room' (P := P) (w := w) (ty := ty) i hts g1 b hi.toNat cap cs hb ⟨b, lo'.toNat * k, none⟩ m cap' zs (by rw [hi4]; exact hzl) hnews hone (by omega) (by rw [hi4]; exact r2)
      rw [hi4] at hrun
      have e7 : (hi + (hi' - lo')).toNat = hi.toNat + m := by omega
      rw [e7] at hk
      refine wp_value (run_append_op hc ha ht (v := .slice (some ⟨b, 0, none⟩) (hi.toNat + m) cap) ?_) (hnx _ _ _ _ A hd F' hk rfl r4 (hf.os_mono fun z u h => r5 z u h) (.vs _ _ _ _ (by simpa using h1.vs_lt) fun k' es' h' => ?_))
      · rw [a4, b4]
        have e8 : (hi - 0).toNat = hi.toNat := by omega
        rw [e8, ← hmm]
        exact hrun
      · have hlen := h1.vs_lt
        rw [List.getElem?_set, if_pos rfl, if_pos hlen] at h'
        cases h'
        have hll : (es.take hi.toNat ++ ((es.take hi'.toNat).drop lo'.toNat ++ es.drop (hi.toNat + m))).length = es.length := by simp; omega
        rw [hll]
        refine ⟨Int.le_refl _, by omega, by omega, some ⟨b, 0, none⟩, cap, ?_, by omega, fun _ => ⟨b, _, _, a8, by simp⟩, fun _ => ⟨_, a8⟩⟩
        congr 1; omega
  · have e0 : hi' = lo' := by omega
    subst e0
    have hes : es.take hi.toNat ++ ((es.take hi'.toNat).drop hi'.toNat ++ es.drop (hi + (hi' - hi')).toNat) = es := by
      rw [List.drop_eq_nil_of_le (by simp; omega), show (hi + (hi' - hi')).toNat = hi.toNat by omega]
      simp
    rw [hes, setSelf ho, show hi + (hi' - hi') = hi by omega] at hk
    refine wp_value (v := a.eval x) (w' := w) (run_append_op hc ha ht ?_) (hnx _ s _ _ A hd F hk rfl hw hf h1)
    rw [a4, b4, show (hi' - hi').toNat = 0 by omega]
    exact run_append_zero hts hso p _ cap (by omega) p' cap'
theorem step_app (hL : L.ty = layOf P) (hw : CW W w A s.os hd F) (hf : FR w A s.os hd s.fr a) {dst ty pos af g} {c : Call} {x y : Operand} {t e : TypeId} {K : AV → AS → Prop} (hc : c.callee = .builtin .append) (ha : c.args.toList = [x, y]) (ht : c.argTypes.toList = [t, t])
    (hd0 : (L.ty t).d = .slice e) (hd1 : (L.ty e).d ≠ .other) (hz : (L.ty e).zero ≠ []) (hzn : (L.ty e).zero.length = (L.ty e).n) (hn0 : (L.ty e).n ≠ 0)
    (hk : s.app (stdE np P) (L.ty e).n (L.ty e).bytes (s.get x) (s.get y) K) : StepOK P W w s a ⟨dst, .call c, ty, pos, af, g⟩ K := by
  by_cases hv : (∃ id z hi, s.get x = .vs id z hi) ∧ ∃ id z hi, s.get y = .vs id z hi
  · obtain ⟨⟨id, z, hi, hx⟩, id', lo', hi', hy⟩ := hv
    rw [hx, hy] at hk
    simp only [AS.app] at hk
    split at hk
    · rename_i k' es ho
      split at hk
      · rename_i hh
        obtain ⟨⟨rfl, rfl⟩, rfl⟩ := hh
        exact step_appV hL hw hf hc ha ht hd0 hd1 hz hn0 hx hy ho hk
      · exact hk.elim
    · exact hk.elim
  · exact step_append hL hw hf hc ha ht hd0 hd1 hz hzn hn0 (fun h => hv h) hk
end
end Go.Proofs.Ytjenekakcoggpaa
