/- Soundness of one operation, the whole. -/
import Derived.Test.YtdmckfdecbhalaaAxOps4
namespace Go.Proofs.Ytdmckfdecbhalaa
open Go Go.RowKit

section
variable {P : Program} {np : Nat} {L : Lay} {W : WM} {w w' : World} {A : Nat → Prop} {os os' : List Obj} {hd hd' : Nat → Value} {F F' : Nat → Nat → Prop} {s : AS} {a : Act}

/-- A row changes in place, and what it owns with it. -/
theorem CW.setRowF (h : CW W w A os hd F) {id k : Nat} {es es' : List (List AV)} (ho : os[id]? = some (.row k es)) (hlen : es.length = es'.length) {G' : Nat → Prop} (hk : Keeps (F id) w w')
    (hG' : ∀ x, G' x → F id x ∨ (W.new x ∧ x < w.heap.size ∧ ¬ A x ∧ ∀ i, ¬ F i x)) (hrow : XRel w' A (.sl true k es') (hd id) G') :
    CW W w' A (os.set id (.row k es')) hd (updN F id G') ∧ ∀ y u, SRel w A os hd y u → SRel w' A (os.set id (.row k es')) hd y u := by
  have hA : ∀ y, A y → y < w.heap.size ∧ ¬ F id y := fun y hy => ⟨(h.hA y hy).1, (h.hA y hy).2 id⟩
  have hlt := (List.getElem?_eq_some_iff.1 ho).1
  have hm : ∀ y u, SRel w A os hd y u → SRel w' A (os.set id (.row k es')) hd y u := fun y u hy => by
    refine (hy.keepG hA hk).os_mono (by simp) (fun i k' es'' hi h' => ?_) (fun i cs' hi h' => ?_)
    · rw [List.getElem?_set] at h'
      split at h'
      · rename_i e
        subst e
        cases h'
        exact ⟨es, ho, hlen, rfl⟩
      · exact ⟨es'', h', rfl, rfl⟩
    · rw [List.getElem?_set] at h'
      split at h'
      · cases h'
      · exact ⟨cs', h', rfl⟩
  have hF : ∀ j, j ≠ id → ∀ x, F j x → x < w.heap.size ∧ ¬ F id x := fun j hj x hx => ⟨(h.fsz j x hx).2, fun h' => hj (h.disj _ _ _ hx h')⟩
  refine ⟨⟨?_, fun x hx => ⟨Nat.lt_of_lt_of_le (hA x hx).1 hk.size, fun i hi => ?_⟩, fun i x hx => ?_, fun i j x hi hj => ?_, fun i k' es'' h' => ?_, fun i cs h' => ?_, fun p hp => ⟨by simpa using (h.pin p hp).1, (h.pin p hp).2⟩⟩, hm⟩
  · exact h.below.keep hk (fun x h' => (h.fsz id x h').1)
  · unfold updN at hi
    split at hi
    · rcases hG' x hi with h1 | h1
      · exact (hA x hx).2 h1
      · exact h1.2.2.1 hx
    · exact (h.hA x hx).2 i hi
  · unfold updN at hx
    split at hx
    · rcases hG' x hx with h1 | h1
      · exact ⟨(h.fsz id x h1).1, Nat.lt_of_lt_of_le (h.fsz id x h1).2 hk.size⟩
      · exact ⟨h1.1, Nat.lt_of_lt_of_le h1.2.1 hk.size⟩
    · exact ⟨(h.fsz i x hx).1, Nat.lt_of_lt_of_le (h.fsz i x hx).2 hk.size⟩
  · unfold updN at hi hj
    split at hi <;> split at hj
    · omega
    · rename_i e1 e2
      rcases hG' x hi with h1 | h1
      · exact (e2 (h.disj _ _ _ hj h1)).elim
      · exact (h1.2.2.2 j hj).elim
    · rename_i e1 e2
      rcases hG' x hj with h1 | h1
      · exact (e1 (h.disj _ _ _ hi h1)).elim
      · exact (h1.2.2.2 i hi).elim
    · exact h.disj i j x hi hj
  · rw [List.getElem?_set] at h'
    split at h'
    · rename_i e
      subst e
      cases h'
      rw [updN_eq]
      exact hrow
    · rename_i e
      rw [updN_ne _ _ _ (Ne.symm e)]
      exact (h.rows i k' es'' h').mono (fun _ h => h) (fun x hx => hx.elim (fun hx => hk.block x (hA x hx).1 (hA x hx).2) (fun hx => hk.block x (hF i (Ne.symm e) x hx).1 (hF i (Ne.symm e) x hx).2))
  · rw [List.getElem?_set] at h'
    split at h'
    · cases h'
    · rename_i e
      rw [updN_ne _ _ _ (Ne.symm e)]
      obtain ⟨b, T, c, e1, e2, e3, e4, e5⟩ := h.boxes i cs h'
      exact ⟨b, T, c, e1, by rw [hk.block b (hF i (Ne.symm e) b e5).1 (hF i (Ne.symm e) b e5).2]; exact e2, e3, fun j x hx => hm _ _ (e4 j x hx), e5⟩

theorem getD_mem' {l : List Value} {i : Nat} (h : i < l.length) : l.getD i undef ∈ l := by
  rw [List.getD_eq_getElem?_getD, List.getElem?_eq_getElem h]
  exact List.getElem_mem _

/-- A store into an own row. -/
theorem step_store_row (hL : L.ty = layOf P) (hw : CW W w A s.os hd F) (hf : FR w A s.os hd s.fr a) {dst ty pos af g} {t : TypeId} {x y : Operand} {K : AV → AS → Prop} {id j : Nat} {i : Int} {vsl : List Value}
    (hx : s.get x = .pe id i j) (hd0 : (L.ty t).d ≠ .other) {cl : List AV} (hcl : (a.eval y).cells.toList = vsl) (hcn : vsl.length = cl.length) (hcr : ∀ (q : Nat) z, cl[q]? = some z → SRel w A s.os hd z (vsl.getD q undef)) (hn : cl.length = (L.ty t).n)
    (hk : s.ownL cl fun cs s' => match s'.os[id]? with
        | some (.row k es) => (stdE np P).upd es i j cs fun es' => K .und ⟨s'.fr, s'.os.set id (.row k es')⟩
        | _ => False) : StepOK P W w s a ⟨dst, .store t x y, ty, pos, af, g⟩ K := by
  intro next Q hnx
  have h1 := hf.get x
  rw [hx] at h1
  obtain ⟨s', F1, g1, g2, hw1, hm1, hF1, cs, Gn, hk, hcsl, hcs, hGn, hGd, hone⟩ := ownL_sound cl vsl s F _ hw hcn hcr hk
  split at hk
  · rename_i k es ho
    obtain ⟨h0, e, he, hje, hk⟩ := hk
    have hi := (List.getElem?_eq_some_iff.1 he).1
    obtain ⟨bb, n, c0, q1, _, _, q2⟩ := (hm1 _ _ h1).pe_inv ho
    have hrow := hw1.rows id k es ho
    rw [q1] at hrow
    generalize hhd : Value.slice (some ⟨bb, 0, none⟩) n c0 = hv at hrow
    cases hrow with
    | pure _ _ _ h ho hF => simp [AV.isOwn] at ho
    | nil => simp at hi
    | sl _ _ cap b0 T c _ G hb hl hcap hsz hke h1c hr hF h00 hdj =>
      cases hhd
      obtain ⟨b, hbdef⟩ : ∃ b, b = bb := ⟨_, rfl⟩
      subst hbdef
      have hek := hke e (List.mem_of_getElem? he)
      have idx : ∀ i' j', i' < es.length → j' < k → i' * k + j' < c.size := fun i' j' hi' hj' => by
        have h5 : (i' + 1) * k ≤ c0 * k := Nat.mul_le_mul_right k (by omega)
        rw [Nat.add_mul] at h5; omega
      have hvl : vsl.length = cs.length := hcsl.symm
      have hfit : (i.toNat * k + j) + vsl.length ≤ c.size := by
        have h5 : (i.toNat + 1) * k ≤ c0 * k := Nat.mul_le_mul_right k (by omega)
        rw [Nat.add_mul] at h5; omega
      have hr0 := run_storeVar (P := P) (w := w) hL hd0 (off := i.toNat * k + j) (v := a.eval y) hb (by rw [← Array.length_toList, hcl, hcn]; exact hn) (by rw [← Array.length_toList, hcl]; exact hfit) (by rw [hcl]; exact hone)
      rw [hcl] at hr0
      -- what is new at place (i', j')
      let here : Nat → Nat → Prop := fun i' j' => i' = i.toNat ∧ j ≤ j' ∧ j' < j + cs.length
      have dec : ∀ i' j', Decidable (here i' j') := fun i' j' => inferInstanceAs (Decidable (_ ∧ _ ∧ _))
      have pos : ∀ i' j', i' < es.length → j' < k → (here i' j' ↔ (i.toNat * k + j ≤ i' * k + j' ∧ i' * k + j' < i.toNat * k + j + vsl.length)) := fun i' j' hi' hj' => by
        rw [hvl]
        constructor
        · rintro ⟨rfl, h5, h6⟩; omega
        · rintro ⟨h5, h6⟩
          have : i' = i.toNat := by
            rcases Nat.lt_trichotomy i' i.toNat with h7 | h7 | h7
            · have : (i' + 1) * k ≤ i.toNat * k := Nat.mul_le_mul_right k h7
              rw [Nat.add_mul] at this; omega
            · exact h7
            · have : (i.toNat + 1) * k ≤ i' * k := Nat.mul_le_mul_right k h7
              rw [Nat.add_mul] at this; omega
          subst this
          exact ⟨rfl, by omega, by omega⟩
      let G2 : Nat → Nat → Nat → Prop := fun i' j' => if here i' j' then Gn (j' - j) else G i' j'
      have hGnew : ∀ i' j' x, here i' j' → Gn (j' - j) x → W.new x ∧ x < w.heap.size ∧ ¬ A x ∧ ∀ id, ¬ F1 id x := fun i' j' x hh hx => by
        obtain ⟨⟨id', h5⟩, h6⟩ := hGn (j' - j) x (by rw [hvl]; have := hh.2; omega) hx
        exact ⟨(hw.fsz id' x h5).1, (hw.fsz id' x h5).2, fun h => (hw.hA x h).2 id' h5, h6⟩
      have hcell : ∀ i' j', i' < es.length → j' < k → (spliceV c (i.toNat * k + j) vsl).getD (i' * k + j') undef = if here i' j' then vsl.getD (j' - j) undef else c.getD (i' * k + j') undef := fun i' j' hi' hj' => by
        rw [spliceV_getD hfit]
        have hp := pos i' j' hi' hj'
        by_cases hh : here i' j'
        · rw [if_pos hh]
          obtain ⟨h5, h6⟩ := hp.1 hh
          rw [if_neg (by omega), if_pos h6]
          obtain ⟨rfl, h7, h8⟩ := hh
          congr 1
          omega
        · rw [if_neg hh]
          split
          · rfl
          · split
            · rename_i h5 h6
              exact (hh (hp.2 ⟨by omega, h6⟩)).elim
            · rfl
      have hkp := setRow_keeps (w := w) (c' := spliceV c (i.toNat * k + j) vsl) (F1 id) ((hF b).2 (.inl rfl))
      have hne : ∀ i' j' x, i' < es.length → j' < k → G2 i' j' x → x ≠ b := fun i' j' x hi' hj' hx hxb => by
        subst hxb
        simp only [G2] at hx
        split at hx
        · rename_i hh
          exact (hGnew i' j' x hh hx).2.2.2 id ((hF x).2 (.inl rfl))
        · exact h00 i' j' hi' hj' hx
      have hkb : ∀ x, x ≠ b → (w.setRow b (spliceV c (i.toNat * k + j) vsl)).heap[x]? = w.heap[x]? := fun x hx => by
        simp [World.setRow, Array.getElem?_modify, Ne.symm hx]
      have hespl : ∀ i', (es.set i.toNat (splice e j cs))[i']? = if i' = i.toNat then some (splice e j cs) else es[i']? := fun i' => by
        rw [List.getElem?_set]
        by_cases h5 : i.toNat = i'
        · subst h5; simp [hi]
        · rw [if_neg h5, if_neg (Ne.symm h5)]
      obtain ⟨hw2, hm2⟩ := hw1.setRowF (es' := es.set i.toNat (splice e j cs)) ho (by simp) hkp (G' := fun x => x = b ∨ ∃ i' j', i' < es.length ∧ j' < k ∧ G2 i' j' x) (fun x hx => by
          rcases hx with rfl | ⟨i', j', hi', hj', hx⟩
          · exact .inl ((hF x).2 (.inl rfl))
          · simp only [G2] at hx
            split at hx
            · rename_i hh
              exact .inr (hGnew i' j' x hh hx)
            · exact .inl ((hF x).2 (.inr ⟨i', j', hi', hj', hx⟩))) (by
          rw [q1]
          have hlen : (es.set i.toNat (splice e j cs)).length = es.length := by simp
          have key := XRel.sl (w := w.setRow b (spliceV c (i.toNat * k + j) vsl)) (A := A) k (es.set i.toNat (splice e j cs)) c0 b T (spliceV c (i.toNat * k + j) vsl) (fun x => x = b ∨ ∃ i' j', i' < es.length ∧ j' < k ∧ G2 i' j' x) G2 (setRow_heap w b c _ T _ hb)
            (by rw [hlen]; exact hl) (by rw [hlen]; exact hcap) (by rw [spliceV_size hfit]; exact hsz) (fun e' he' => by
              rcases List.mem_or_eq_of_mem_set he' with h5 | h5
              · exact hke e' h5
              · rw [h5, splice_len hje, hek]) (fun i' j' hi' hj' => by
              rw [hlen] at hi'
              rw [hcell i' j' hi' hj']
              split
              · rename_i hh
                refine hone _ (getD_mem' ?_)
                rw [hvl]; have := hh.2; omega
              · exact h1c i' j' hi' hj') (fun i' j' e' x he' hx => by
              have hi' := (List.getElem?_eq_some_iff.1 he').1
              rw [hlen] at hi'
              have hj' := (List.getElem?_eq_some_iff.1 hx).1
              rw [hespl] at he'
              have hjk : j' < k := by
                split at he'
                · cases he'; rw [splice_len hje, hek] at hj'; exact hj'
                · rw [hke e' (List.mem_of_getElem? he')] at hj'; exact hj'
              rw [hcell i' j' hi' hjk]
              have mono : ∀ u, XRel w A x u (G2 i' j') → XRel (w.setRow b (spliceV c (i.toNat * k + j) vsl)) A x u (G2 i' j') := fun u h => h.mono (fun _ h => h) (fun z hz => hkb z (by
                rcases hz with hz | hz
                · rintro rfl; exact (hw1.hA z hz).2 id ((hF z).2 (.inl rfl))
                · exact hne i' j' z hi' hjk hz))
              by_cases hh : here i' j'
              · rw [if_pos hh]
                refine mono _ ?_
                rw [if_pos hh.1] at he'
                cases he'
                rw [splice_get hje, if_neg (by have := hh.2; omega), if_pos hh.2.2] at hx
                exact (hcs (j' - j) x hx).congr (fun z => by simp only [G2]; rw [if_pos hh])
              · rw [if_neg hh]
                refine mono _ ?_
                have hex : ∃ e0, es[i']? = some e0 ∧ e0[j']? = some x := by
                  split at he'
                  · rename_i h5
                    subst h5
                    cases he'
                    refine ⟨e, he, ?_⟩
                    rw [splice_get hje] at hx
                    split at hx
                    · exact hx
                    · split at hx
                      · rename_i h6 h7
                        exact (hh ⟨rfl, by omega, h7⟩).elim
                      · exact hx
                  · exact ⟨e', he', hx⟩
                obtain ⟨e0, h5, h6⟩ := hex
                exact (hr i' j' e0 x h5 h6).congr (fun z => by simp only [G2]; rw [if_neg hh])) (fun x => by rw [hlen]) (fun i' j' hi' hj' h5 => by rw [hlen] at hi'; exact hne i' j' b hi' hj' h5 rfl) (fun i1 j1 i2 j2 x hi1 hj1 hi2 hj2 h5 h6 => by
              rw [hlen] at hi1 hi2
              simp only [G2] at h5 h6
              split at h5 <;> split at h6
              · rename_i a1 a2
                have := hGd _ _ x (by rw [hvl]; have := a1.2; omega) (by rw [hvl]; have := a2.2; omega) h5 h6
                exact ⟨a1.1.trans a2.1.symm, by have := a1.2; have := a2.2; omega⟩
              · rename_i a1 a2
                exact ((hGnew i1 j1 x a1 h5).2.2.2 id ((hF x).2 (.inr ⟨i2, j2, hi2, hj2, h6⟩))).elim
              · rename_i a1 a2
                exact ((hGnew i2 j2 x a2 h6).2.2.2 id ((hF x).2 (.inr ⟨i1, j1, hi1, hj1, h5⟩))).elim
              · exact hdj i1 j1 i2 j2 x hi1 hj1 hi2 hj2 h5 h6)
          rw [hlen] at key
          exact key)
      exact wp_skip' (run_store_op q2 hr0) (hnx _ _ _ _ A hd _ hk g1 hw2 (hf.os_mono fun z u h => hm2 z u (hm1 z u h)) (.pure _ _ .und))
  · exact hk.elim
end
end Go.Proofs.Ytdmckfdecbhalaa
