/- Soundness of control. -/
import Derived.Test.YtjenekakcoggpaaAxLate
import Derived.Test.YtjenekakcoggpaaAxNest
import Derived.LoopN
namespace Go.Proofs.Ytjenekakcoggpaa
set_option linter.unusedVariables false
set_option linter.unusedSimpArgs false
open Go Go.RowKit

section
variable {P : Program} {np : Nat} {L : Lay} {W : WM} {w w' : World} {A : Nat → Prop} {os os' : List Obj} {hd hd' : Nat → Value} {F F' : Nat → Nat → Prop} {s : AS} {a : Act}

def XE.ex : XE → Exit
  | .normal => .normal
  | .exit id => .exit id
  | .ret => .ret

theorem idxOf_spec : ∀ {ids : List Nat} {i j : Nat}, idxOf ids i = some j → ids[j]? = some i
  | [], i, j, h => by simp [idxOf] at h
  | k :: l, i, j, h => by
    unfold idxOf at h
    split at h
    · rename_i e; cases h; subst e; rfl
    · cases hl : idxOf l i with
      | none => simp [hl] at h
      | some m => simp [hl] at h; subst h; simpa using idxOf_spec hl

theorem wk_obj {ids : List Nat} {os : List Obj} {id j : Nat} (hj : ids[j]? = some id) {o : Obj} (ho : (ids.map fun i => (os.getD i .dead).ren ids)[j]? = some o) : o = (os.getD id .dead).ren ids := by
  rw [List.getElem?_map, hj] at ho
  exact (Option.some.inj ho).symm
theorem wk_row {ids : List Nat} {os : List Obj} {id j : Nat} (hj : ids[j]? = some id) {k es} (ho : (ids.map fun i => (os.getD i .dead).ren ids)[j]? = some (.row k es)) : os[id]? = some (.row k es) := by
  have h := wk_obj hj ho
  rw [List.getD_eq_getElem?_getD] at h
  cases hq : os[id]? with
  | none => rw [hq] at h; cases h
  | some q => rw [hq] at h; cases q <;> simp [Obj.ren] at h; obtain ⟨rfl, rfl⟩ := h; rfl
theorem wk_box {ids : List Nat} {os : List Obj} {id j : Nat} (hj : ids[j]? = some id) {cs} (ho : (ids.map fun i => (os.getD i .dead).ren ids)[j]? = some (.box cs)) : ∃ ds, os[id]? = some (.box ds) ∧ cs = ds.map (AV.ren1 ids) := by
  have h := wk_obj hj ho
  rw [List.getD_eq_getElem?_getD] at h
  cases hq : os[id]? with
  | none => rw [hq] at h; cases h
  | some q => rw [hq] at h; cases q <;> simp [Obj.ren] at h; exact ⟨_, rfl, h⟩

theorem idx_lt {ids : List Nat} {j i : Nat} (h : ids[j]? = some i) : j < ids.length := (List.getElem?_eq_some_iff.1 h).1

theorem ren1_rel {ids : List Nat} {x v} (h : SRel w A os hd x v) : SRel w A (ids.map fun i => (os.getD i .dead).ren ids) (fun j => hd (ids.getD j 0)) (x.ren1 ids) v := by
  have hh : ∀ {j i : Nat}, ids[j]? = some i → hd (ids.getD j 0) = hd i := fun h => by rw [List.getD_eq_getElem?_getD, h]; rfl
  have any : ∀ v, SRel w A (ids.map fun i => (os.getD i .dead).ren ids) (fun j => hd (ids.getD j 0)) .any v := fun v => .pure _ _ (.any v)
  cases h with
  | pure _ _ h =>
    cases h with
    | fn f caps vs hn hc =>
      cases caps with
      | nil => exact .pure _ _ (.fn f [] vs hn hc)
      | cons => exact any _
    | agg => exact any _
    | tup => exact any _
    | int k n => exact .pure _ _ (.int k n)
    | bool b => exact .pure _ _ (.bool b)
    | str s h => exact .pure _ _ (.str s h)
    | nils => exact .pure _ _ .nils
    | nilp => exact .pure _ _ .nilp
    | sl t k es p cap b off val hl hcap hp hk hc h1 hr => exact .pure _ _ (.sl t k es p cap b off val hl hcap hp hk hc h1 hr)
    | pp cs b off val hb hc hr => exact .pure _ _ (.pp cs b off val hb hc hr)
    | bx cs b off val hb hc hr => exact .pure _ _ (.bx cs b off val hb hc hr)
    | fb f cs vs hn hc => exact .pure _ _ (.fb f cs vs hn hc)
    | und => exact .pure _ _ .und
    | any v => exact any _
  | ob id v hi h =>
    simp only [AV.ren1]
    split
    · rename_i j hj
      have h1 := idxOf_spec hj
      exact .ob j _ (by rw [List.length_map]; exact idx_lt h1) fun k es ho => by rw [hh h1]; exact h k es (wk_row h1 ho)
    · exact any _
  | vs id lo hi v hi' h =>
    simp only [AV.ren1]
    split
    · rename_i j hj
      have h1 := idxOf_spec hj
      refine .vs j lo hi _ (by rw [List.length_map]; exact idx_lt h1) fun k es ho => ?_
      rw [hh h1]; exact h k es (wk_row h1 ho)
    · exact any _
  | pb id off v hi h =>
    simp only [AV.ren1]
    split
    · rename_i j hj
      have h1 := idxOf_spec hj
      refine .pb j off _ (by rw [List.length_map]; exact idx_lt h1) fun cs ho => ?_
      obtain ⟨ds, e, _⟩ := wk_box h1 ho
      rw [hh h1]; exact h ds e
    · exact any _
  | pe id i m v hi h =>
    simp only [AV.ren1]
    split
    · rename_i j hj
      have h1 := idxOf_spec hj
      refine .pe j i m _ (by rw [List.length_map]; exact idx_lt h1) fun k es ho => ?_
      rw [hh h1]; exact h k es (wk_row h1 ho)
    · exact any _
  | agg => exact any _
  | tup => exact any _
  | fn f caps vs hn hc =>
    cases caps with
    | nil => exact .fn f [] vs hn (by simp)
    | cons => exact any _

theorem ren_rel {ids : List Nat} {x v} (h : SRel w A os hd x v) : SRel w A (ids.map fun i => (os.getD i .dead).ren ids) (fun j => hd (ids.getD j 0)) (x.ren ids) v := by
  have mp : ∀ {cs : List AV} {vs : Array Value}, (∀ (i : Nat) a, cs[i]? = some a → SRel w A os hd a (vs.getD i undef)) → ∀ (i : Nat) a, (cs.map (AV.ren1 ids))[i]? = some a → SRel w A (ids.map fun i => (os.getD i .dead).ren ids) (fun j => hd (ids.getD j 0)) a (vs.getD i undef) := fun {cs vs} hc i a ha => by
    rw [List.getElem?_map] at ha
    cases hq : cs[i]? with
    | none => rw [hq] at ha; cases ha
    | some q => rw [hq] at ha; cases ha; exact ren1_rel (hc i q hq)
  cases x with
  | agg cs => obtain ⟨vs, e1, e2, e3⟩ := h.agg_inv; subst e1; exact SRel.agg (w := w) (cs.map (AV.ren1 ids)) vs (by rw [e2, List.length_map]) (mp e3)
  | fn f cs => obtain ⟨vs, e1, e2, e3⟩ := h.fn_inv; subst e1; exact SRel.fn (w := w) f (cs.map (AV.ren1 ids)) vs (by rw [e2, List.length_map]) (mp e3)
  | _ => exact ren1_rel h

theorem wkF_spec (hv ids : List Nat) : ∀ (fr : List AV) (t : Nat), (wkF hv ids t fr).length = fr.length ∧ ∀ (i : Nat) x, (wkF hv ids t fr)[i]? = some x → ∃ y, fr[i]? = some y ∧ (x = .any ∨ x = y.ren ids)
  | [], t => ⟨rfl, fun i x h => by simp [wkF] at h⟩
  | y :: l, t => by
    obtain ⟨h1, h2⟩ := wkF_spec hv ids l (t + 1)
    refine ⟨by simp [wkF, h1], fun i x h => ?_⟩
    cases i with
    | zero =>
      simp only [wkF, List.getElem?_cons_zero, Option.some.injEq] at h
      refine ⟨y, rfl, ?_⟩
      split at h
      · exact .inl h.symm
      · exact .inr h.symm
    | succ i => simp only [wkF, List.getElem?_cons_succ] at h ⊢; exact h2 i x h

/-- A weaker state. -/
theorem wk_sound (hw : CW W w A s.os hd F) (hf : FR w A s.os hd s.fr a) (hv ids : List Nat) (hids : ids.Nodup) (hpin : pinB np ids = true) (hnp : ∀ p ∈ W.pin, p.1 < np) : ∃ hd' F', CW W w A (wk hv ids s).os hd' F' ∧ FR w A (wk hv ids s).os hd' (wk hv ids s).fr a := by
  refine ⟨fun j => hd (ids.getD j 0), fun j x => ∃ i, ids[j]? = some i ∧ F i x, ⟨hw.below, fun x hx => ⟨(hw.hA x hx).1, fun id ⟨i, _, h⟩ => (hw.hA x hx).2 i h⟩, fun id x ⟨i, _, h⟩ => hw.fsz i x h, fun i j x ⟨p, hp, h1⟩ ⟨q, hq, h2⟩ => ?_, fun id k es ho => ?_, fun id cs ho => ?_, fun p hp => ?_, hw.old⟩, hf.nodef, ?_, fun t x hx => ?_⟩
  · have := hw.disj p q x h1 h2
    subst this
    exact (List.getElem?_inj (idx_lt hp) hids).1 (hp.trans hq.symm)
  · have hl : id < ids.length := by
      have := (List.getElem?_eq_some_iff.1 ho).1
      simpa [wk] using this
    have h1 : ids[id]? = some ids[id] := List.getElem?_eq_getElem hl
    have h2 := hw.rows _ k es (wk_row h1 ho)
    have e0 : ids.getD id 0 = ids[id] := by rw [List.getD_eq_getElem?_getD, h1]; rfl
    show XRel w A _ (hd (ids.getD id 0)) _
    rw [e0]
    exact h2.congr fun x => ⟨fun ⟨i, e, h⟩ => by rw [h1] at e; cases e; exact h, fun h => ⟨_, h1, h⟩⟩
  · have hl : id < ids.length := by
      have := (List.getElem?_eq_some_iff.1 ho).1
      simpa [wk] using this
    have h1 : ids[id]? = some ids[id] := List.getElem?_eq_getElem hl
    obtain ⟨ds, e1, e2⟩ := wk_box h1 ho
    obtain ⟨b, T, c, g1, g2, g3, g4, g5⟩ := hw.boxes _ ds e1
    have e0 : ids.getD id 0 = ids[id] := by rw [List.getD_eq_getElem?_getD, h1]; rfl
    refine ⟨b, T, c, (congrArg hd e0).trans g1, g2, by rw [g3, e2, List.length_map], fun i x hx => ?_, _, h1, g5⟩
    rw [e2, List.getElem?_map] at hx
    cases hq : ds[i]? with
    | none => rw [hq] at hx; cases hx
    | some q => rw [hq] at hx; cases hx; exact ren1_rel (g4 i q hq)
  · have h0 : ids.take np = List.range np := by simpa [pinB] using hpin
    have h1 := hnp p hp
    have h2 : ids[p.1]? = some p.1 := by
      have h3 : (ids.take np)[p.1]? = some p.1 := by rw [h0, List.getElem?_range h1]
      rwa [List.getElem?_take, if_pos h1] at h3
    refine ⟨by have := (List.getElem?_eq_some_iff.1 h2).1; simpa [wk] using this, ?_⟩
    have e0 : ids.getD p.1 0 = p.1 := by rw [List.getD_eq_getElem?_getD, h2]; rfl
    exact (congrArg hd e0).trans (hw.pin p hp).2
  · rw [hf.size]; exact (wkF_spec hv ids s.fr 0).1.symm
  · obtain ⟨y, h1, h2⟩ := (wkF_spec hv ids s.fr 0).2 t x hx
    rcases h2 with rfl | rfl
    · exact .pure _ _ (.any _)
    · exact ren_rel (hf.slots t y h1)

theorem firstChg_le : ∀ (l : List Oper) (n : Nat), firstChg L n l ≤ n + l.length
  | [], n => by simp [firstChg]
  | o :: l, n => by
    unfold firstChg
    split
    · simp
    · have := firstChg_le l (n + 1)
      simp only [List.length_cons]; omega

theorem ax_sound (hL : L.ty = layOf P) (hm : P.follows .mixedOrders = true) (hnp : ∀ p ∈ W.pin, p.1 < np) : ∀ (c : Code) (s : AS) (K : XE → AS → Prop) (a : Act) (w : World) (A : Nat → Prop) (hd : Nat → Value) (F : Nat → Nat → Prop) (Q : Exit → Act → World → Prop),
    (∀ e s' a' w' A' hd' F', K e s' → CW W w' A' s'.os hd' F' → FR w' A' s'.os hd' s'.fr a' → Q e.ex a' w') → CW W w A s.os hd F → FR w A s.os hd s.fr a → ax (stdE np P) L c s K → c.wp P Q a w
  | .skip, s, K, a, w, A, hd, F, Q, hQ, hw, hf, hk => wp_skip (hQ .normal s a w A hd F hk hw hf)
  | .region id ops draw, s, K, a, w, A, hd, F, Q, hQ, hw, hf, hk => by
    cases draw with
    | false =>
      simp only [ax] at hk
      split at hk
      · exact wp_region_list (aops_sound hL (fun s' a' w' A' hd' F' h1 h2 h3 => hQ .normal s' a' w' A' hd' F' h1 h2 h3) ops.toList s a w A hd F hw hf hk)
      · have := agrps_sound hL (fun s' a' w' A' hd' F' h1 h2 h3 => hQ .normal s' a' w' A' hd' F' h1 h2 h3) (groups L ops.toList.length ops.toList) s a w A hd F hw hf hk
        rw [groups_spec] at this
        exact wp_region_list this
    | true =>
      simp only [ax] at hk
      split at hk
      · split at hk
        · rename_i hok
          split at hk
          · exact adraw_sound hL hm hok (fun s' a' w' A' hd' F' h1 h2 h3 => hQ .normal s' a' w' A' hd' F' h1 h2 h3) hw hf hk
          · rename_i hsl
            exact adraw_ownS hL hm hok hsl (fun s' a' w' A' hd' F' h1 h2 h3 => hQ .normal s' a' w' A' hd' F' h1 h2 h3) hw hf hk
        · exact hk.elim
      · split at hk
        · rename_i hok
          exact alate_sound hL hm hok (by simpa using firstChg_le (L := L) ops.toList 0) (fun s' a' w' A' hd' F' h1 h2 h3 => hQ .normal s' a' w' A' hd' F' h1 h2 h3) hw hf hk
        · exact hk.elim
  | .seq x y, s, K, a, w, A, hd, F, Q, hQ, hw, hf, hk => by
    refine wp_seq (ax_sound hL hm hnp x s _ a w A hd F _ (fun e s' a' w' A' hd' F' h1 h2 h3 => ?_) hw hf hk)
    cases e with
    | normal => exact ax_sound hL hm hnp y s' K a' w' A' hd' F' Q hQ h2 h3 h1
    | exit id => exact hQ (.exit id) s' a' w' A' hd' F' h1 h2 h3
    | ret => exact hQ .ret s' a' w' A' hd' F' h1 h2 h3
  | .cond c x y, s, K, a, w, A, hd, F, Q, hQ, hw, hf, hk => by
    unfold ax at hk
    split at hk
    · rename_i b hb
      have h1 := hf.get c
      rw [hb] at h1
      refine wp_cond h1.bool_inv ?_
      split at hk
      · rename_i e; rw [if_pos e]; exact ax_sound hL hm hnp x s K a w A hd F Q hQ hw hf hk
      · rename_i e; rw [if_neg e]; exact ax_sound hL hm hnp y s K a w A hd F Q hQ hw hf hk
    · exact hk.elim
  | .block id c, s, K, a, w, A, hd, F, Q, hQ, hw, hf, hk => by
    refine wp_block (ax_sound hL hm hnp c s _ a w A hd F _ (fun e s' a' w' A' hd' F' h1 h2 h3 => ?_) hw hf hk)
    cases e with
    | normal => exact hQ .normal s' a' w' A' hd' F' h1 h2 h3
    | exit i =>
      simp only [XE.ex, Exit.inBlock]
      simp only at h1
      split at h1
      · rename_i e; rw [if_pos e]; exact hQ .normal s' a' w' A' hd' F' h1 h2 h3
      · rename_i e; rw [if_neg e]; exact hQ (.exit i) s' a' w' A' hd' F' h1 h2 h3
    | ret => exact hQ .ret s' a' w' A' hd' F' h1 h2 h3
  | .loop c, s, K, a, w, A, hd, F, Q, hQ, hw, hf, hk => by
    obtain ⟨n, hn⟩ := hk
    refine wp_loop_rounds n ?_
    have main : ∀ n s a w A hd F, iterL np (ax (stdE np P) L c) n s K → CW W w A s.os hd F → FR w A s.os hd s.fr a → Code.rounds P c Q n a w := by
      intro n
      induction n with
      | zero => intro s a w A hd F h _ _; exact h.elim
      | succ n ih =>
        intro s a w A hd F ⟨hv, ids, ⟨hnd, hpi⟩, hb⟩ hw hf
        obtain ⟨hd', F', hw', hf'⟩ := wk_sound hw hf hv ids hnd hpi hnp
        rw [rounds_succ]
        refine ax_sound hL hm hnp c (wk hv ids s) _ a w A hd' F' _ (fun e s' a' w' A' hd' F' h1 h2 h3 => ?_) hw' hf' hb
        cases e with
        | normal => exact ih s' a' w' A' hd' F' h1 h2 h3
        | exit id => exact hQ (.exit id) s' a' w' A' hd' F' h1 h2 h3
        | ret => exact hQ .ret s' a' w' A' hd' F' h1 h2 h3
    exact main n s a w A hd F hn hw hf
  | .exit id, s, K, a, w, A, hd, F, Q, hQ, hw, hf, hk => wp_exit (hQ (.exit id) s a w A hd F hk hw hf)
  | .ret, s, K, a, w, A, hd, F, Q, hQ, hw, hf, hk => wp_ret (hQ .ret s a w A hd F hk hw hf)
  | .rangeFunc .., _, _, _, _, _, _, _, _, _, _, _, hk => hk.elim
  | .scope _, _, _, _, _, _, _, _, _, _, _, _, hk => hk.elim
  | .label _, _, _, _, _, _, _, _, _, _, _, _, hk => hk.elim
  | .goto _, _, _, _, _, _, _, _, _, _, _, _, hk => hk.elim
  | .refuse _, _, _, _, _, _, _, _, _, _, _, _, hk => hk.elim
end
end Go.Proofs.Ytjenekakcoggpaa
