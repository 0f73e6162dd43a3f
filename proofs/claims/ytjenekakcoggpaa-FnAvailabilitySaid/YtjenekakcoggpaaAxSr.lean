/- Soundness of calls that are lent own boxes. -/
import Derived.Test.YtjenekakcoggpaaAxMu
namespace Go.Proofs.Ytjenekakcoggpaa
set_option linter.unusedVariables false
set_option linter.unusedSimpArgs false
open Go Go.RowKit

section
variable {P : Program} {np : Nat} {L : Lay} {W : WM} {w w' : World} {A : Nat → Prop} {os os' : List Obj} {hd hd' : Nat → Value} {F F' : Nat → Nat → Prop} {s : AS} {a : Act}

theorem XRel.bx_inv {cs v} {G : Nat → Prop} (h : XRel w A (.bx cs) v G) : ∃ b T c, v = .pointer (some ⟨b, 0, none⟩) ∧ w.heap[b]? = some (.cells c T (0, 0)) ∧ c.size = cs.length ∧ (∀ (i : Nat) a, cs[i]? = some a → Rel w A a (c.getD i undef)) ∧ ∀ x, G x ↔ x = b := by
  cases h with
  | pure _ _ _ _ ho _ => simp [AV.isOwn] at ho
  | bx _ b T c _ hb hn hr hF => exact ⟨b, T, c, rfl, hb, hn, hr, hF⟩

/-- Several objects change in place at once, boxes among them; more can be read than before. -/
theorem CW.setManyS (h : CW W w A os hd F) (ids : List Nat) {os' : List Obj} (Gn : Nat → Nat → Prop) {A' : Nat → Prop} (hAA : ∀ b, A b → A' b)
    (hA' : ∀ b, A' b → b < w'.heap.size ∧ (A b ∨ w.heap.size ≤ b)) (hAG : ∀ b, A' b → ∀ id ∈ ids, ¬ Gn id b) (hlen : os'.length = os.length)
    (hk : Keeps (fun x => ∃ id ∈ ids, F id x) w w') (hout : ∀ id, id ∉ ids → os'[id]? = os[id]?)
    (hin : ∀ id ∈ ids, os'[id]? = some .dead ∨ (∃ k es es', os[id]? = some (.row k es) ∧ os'[id]? = some (.row k es') ∧ es'.length = es.length ∧ XRel w' A' (.sl true k es') (hd id) (Gn id)) ∨
      ∃ cs cs', os[id]? = some (.box cs) ∧ os'[id]? = some (.box cs') ∧ XRel w' A' (.bx cs') (hd id) (Gn id))
    (hG : ∀ id ∈ ids, ∀ x, Gn id x → (∃ j ∈ ids, F j x) ∨ w.heap.size ≤ x ∧ x < w'.heap.size)
    (hdj : ∀ id ∈ ids, ∀ j ∈ ids, ∀ x, Gn id x → Gn j x → id = j) :
    CW W w' A' os' hd (fun id x => (id ∈ ids ∧ Gn id x) ∨ (id ∉ ids ∧ F id x)) ∧ ∀ y u, SRel w A os hd y u → SRel w' A' os' hd y u := by
  have hA : ∀ y, A y → y < w.heap.size ∧ ¬ ∃ id ∈ ids, F id y := fun y hy => ⟨(h.hA y hy).1, fun ⟨id, _, h'⟩ => (h.hA y hy).2 id h'⟩
  have hm : ∀ y u, SRel w A os hd y u → SRel w' A' os' hd y u := fun y u hy => by
    refine ((hy.keepG hA hk).os_mono (by omega) (fun i k es'' hi h' => ?_) (fun i cs' hi h' => ?_)).mono (fun _ _ => rfl) hAA
    · by_cases hmem : i ∈ ids
      · rcases hin i hmem with h1 | ⟨k0, es, es', h1, h2, h3, _⟩ | ⟨cs, cs', h1, h2, _⟩
        · rw [h1] at h'; cases h'
        · rw [h2] at h'; cases h'; exact ⟨es, h1, h3.symm, rfl⟩
        · rw [h2] at h'; cases h'
      · rw [hout i hmem] at h'; exact ⟨es'', h', rfl, rfl⟩
    · by_cases hmem : i ∈ ids
      · rcases hin i hmem with h1 | ⟨k0, es, es', h1, h2, h3, _⟩ | ⟨cs, cs', h1, h2, _⟩
        · rw [h1] at h'; cases h'
        · rw [h2] at h'; cases h'
        · exact ⟨cs, h1, rfl⟩
      · rw [hout i hmem] at h'; exact ⟨cs', h', rfl⟩
  have hF : ∀ j, j ∉ ids → ∀ x, F j x → x < w.heap.size ∧ ¬ ∃ id ∈ ids, F id x := fun j hj x hx => ⟨(h.fsz j x hx).2, fun ⟨id, h1, h2⟩ => hj (by rw [h.disj _ _ _ hx h2]; exact h1)⟩
  refine ⟨⟨h.below.keep hk (fun x ⟨id, _, h'⟩ => (h.fsz id x h').1), fun x hx => ⟨(hA' x hx).1, fun i hi => ?_⟩, fun i x hx => ?_, fun i j x hi hj => ?_, fun i k es h' => ?_, fun i cs h' => ?_, fun p hp => ⟨by rw [hlen]; exact (h.pin p hp).1, (h.pin p hp).2⟩, fun x hx hlt => ?_⟩, hm⟩
  · rcases hi with ⟨h1, h2⟩ | ⟨_, h2⟩
    · exact hAG x hx i h1 h2
    · rcases (hA' x hx).2 with h3 | h3
      · exact (h.hA x h3).2 i h2
      · have := (h.fsz i x h2).2; omega
  · rcases hx with ⟨h1, h2⟩ | ⟨_, h2⟩
    · rcases hG i h1 x h2 with ⟨j, _, h3⟩ | h3
      · exact ⟨(h.fsz j x h3).1, Nat.lt_of_lt_of_le (h.fsz j x h3).2 hk.size⟩
      · exact ⟨h.below.new h3.1, h3.2⟩
    · exact ⟨(h.fsz i x h2).1, Nat.lt_of_lt_of_le (h.fsz i x h2).2 hk.size⟩
  · rcases hi with ⟨h1, h2⟩ | ⟨h1, h2⟩ <;> rcases hj with ⟨k1, k2⟩ | ⟨k1, k2⟩
    · exact hdj i h1 j k1 x h2 k2
    · exfalso
      rcases hG i h1 x h2 with h3 | h3
      · exact (hF j k1 x k2).2 h3
      · have := (hF j k1 x k2).1; omega
    · exfalso
      rcases hG j k1 x k2 with h3 | h3
      · exact (hF i h1 x h2).2 h3
      · have := (hF i h1 x h2).1; omega
    · exact h.disj i j x h2 k2
  · by_cases hmem : i ∈ ids
    · rcases hin i hmem with h1 | ⟨k0, es0, es', h1, h2, h3, h4⟩ | ⟨cs, cs', h1, h2, _⟩
      · rw [h1] at h'; cases h'
      · rw [h2] at h'; cases h'
        exact h4.congr (fun x => ⟨fun h => h.elim (fun h => h.2) (fun h => (h.1 hmem).elim), fun h => .inl ⟨hmem, h⟩⟩)
      · rw [h2] at h'; cases h'
    · rw [hout i hmem] at h'
      exact ((h.rows i k es h').mono hAA (fun x hx => hx.elim (fun hx => hk.block x (hA x hx).1 (hA x hx).2) (fun hx => hk.block x (hF i hmem x hx).1 (hF i hmem x hx).2))).congr
        (fun x => ⟨fun h => h.elim (fun h => (hmem h.1).elim) (fun h => h.2), fun h => .inr ⟨hmem, h⟩⟩)
  · by_cases hmem : i ∈ ids
    · rcases hin i hmem with h1 | ⟨k0, es0, es', h1, h2, h3, h4⟩ | ⟨cs0, cs', h1, h2, h3⟩
      · rw [h1] at h'; cases h'
      · rw [h2] at h'; cases h'
      · rw [h2] at h'; cases h'
        obtain ⟨b, T, c, e1, e2, e3, e4, e5⟩ := h3.bx_inv
        exact ⟨b, T, c, e1, e2, e3, fun j x hx => .pure _ _ (e4 j x hx), .inl ⟨hmem, (e5 b).2 rfl⟩⟩
    · rw [hout i hmem] at h'
      obtain ⟨b, T, c, e1, e2, e3, e4, e5⟩ := h.boxes i cs h'
      exact ⟨b, T, c, e1, by rw [hk.block b (hF i hmem b e5).1 (hF i hmem b e5).2]; exact e2, e3, fun j x hx => hm _ _ (e4 j x hx), .inr ⟨hmem, e5⟩⟩
  · rcases (hA' x hx).2 with h1 | h1
    · exact h.old x h1 hlt
    · have := h.below.size; omega

/-- What of an object's memory is lent: of a box only its own block. -/
def LF (os : List Obj) (hd : Nat → Value) (F : Nat → Nat → Prop) (id b : Nat) : Prop := F id b ∧ ∀ cs, os[id]? = some (.box cs) → hd id = .pointer (some ⟨b, 0, none⟩)

theorem lendS_sound (hw : CW W w A s.os hd F) {x v y} (hx : SRel w A s.os hd x v) (hl : s.lendS x = some y) : XRel w A y v (fun b => ∃ id ∈ idsOfS x, LF s.os hd F id b) := by
  have pure : ∀ {z : AV}, Rel w A z v → z.isOwn = false → idsOfS x = [] → XRel w A z v (fun b => ∃ id ∈ idsOfS x, LF s.os hd F id b) := fun h1 h2 h3 => .pure _ _ _ h1 h2 (fun b ⟨id, h, _⟩ => by rw [h3] at h; cases h)
  unfold AS.lendS at hl
  split at hl
  · rename_i id
    split at hl
    · rename_i k es ho
      cases hl
      rw [hx.ob_inv ho]
      refine (hw.rows id k es ho).congr fun b => ?_
      simp [idsOfS, LF, ho]
    · cases hl
  · rename_i id off
    split at hl
    · rename_i cs ho
      split at hl
      · rename_i hp
        cases hl
        obtain ⟨b, T, c, e1, e2, e3, e4, e5⟩ := hw.boxes id cs ho
        obtain ⟨b', g1, g2⟩ := hx.pb_inv ho
        rw [e1] at g1
        cases g1
        subst g2
        refine .bx cs b T c _ e2 e3 (fun i x hx => ?_) (fun y => ?_)
        · have := e4 i x hx
          have hpx := allPure_get' hp hx
          cases x <;> first | exact this.pure_inv trivial | cases hpx
        · simp only [idsOfS, List.mem_singleton, exists_eq_left, LF]
          constructor
          · intro h
            have := h.2 cs ho
            rw [e1] at this
            cases this; rfl
          · intro h
            subst h
            exact ⟨e5, fun _ _ => e1⟩
      · cases hl
    · cases hl
  · cases hl; exact pure (hx.pure_inv trivial) rfl rfl
  · cases hl; exact pure (hx.pure_inv trivial) rfl rfl
  · cases hl; exact pure (hx.pure_inv trivial) rfl rfl
  · cases hl; exact pure (hx.pure_inv trivial) rfl rfl
  · cases hl; exact pure (hx.pure_inv trivial) rfl rfl
  · cases hl; exact pure hx.sl_inv.unown rfl rfl
  · cases hl; exact pure (hx.pure_inv trivial) rfl rfl
  · cases hl; exact pure (hx.pure_inv trivial) rfl rfl
  · rename_i cs
    split at hl
    · rename_i hp
      cases hl
      obtain ⟨vs, rfl, hn, hc⟩ := hx.agg_inv
      refine .agg cs vs _ (fun _ _ => False) hn (fun i x hx => ?_) (fun b => ⟨fun ⟨id, h, _⟩ => by simp [idsOfS] at h, fun ⟨i, _, h⟩ => h.elim⟩) (fun i i' b _ _ h => h.elim)
      have h1 := hc i x hx
      have hpx := allFlat_get hp hx
      have h2 : Rel w A x (vs.getD i undef) := by cases x <;> first | exact h1.pure_inv trivial | cases hpx
      exact .pure _ _ _ h2 (by cases x <;> first | rfl | cases hpx) (fun _ h => h)
    · cases hl
  · cases hl

theorem lendSL_sound (hw : CW W w A s.os hd F) : ∀ (cs : List AV) (vs : List Value) (ys : List AV), vs.length = cs.length → (∀ (i : Nat) x, cs[i]? = some x → SRel w A s.os hd x (vs.getD i undef)) → s.lendSL cs = some ys →
    ys.length = vs.length ∧ ∀ (i : Nat) y, ys[i]? = some y → XRel w A y (vs.getD i undef) (fun b => ∃ x, cs[i]? = some x ∧ ∃ id ∈ idsOfS x, LF s.os hd F id b)
  | [], vs, ys, hn, _, hk => by
    unfold AS.lendSL at hk; cases hk
    exact ⟨by simpa using hn.symm, fun i x hx => by simp at hx⟩
  | _ :: _, [], _, hn, _, _ => by simp at hn
  | x :: cs, v :: vs, ys, hn, hc, hk => by
    unfold AS.lendSL at hk
    split at hk
    · rename_i y m h1 h2
      cases hk
      have hx' := lendS_sound hw (by simpa using hc 0 x (by simp)) h1
      obtain ⟨hl, hcs⟩ := lendSL_sound hw cs vs m (by simpa using hn) (fun i y hy => by simpa using hc (i + 1) y (by simpa using hy)) h2
      refine ⟨by simp [hl], fun i y hy => ?_⟩
      cases i with
      | zero => simp at hy; subst hy; simpa using hx'
      | succ i => simp at hy; simpa using hcs i y hy
    · cases hk

theorem mem_idsSL {cs : List AV} {i id : Nat} {x : AV} (h : cs[i]? = some x) (hx : id ∈ idsOfS x) : id ∈ idsSL cs := by
  induction cs generalizing i with
  | nil => simp at h
  | cons y cs ih =>
    unfold idsSL
    cases i with
    | zero => simp at h; subst h; exact List.mem_append_left _ hx
    | succ i => exact List.mem_append_right _ (ih (by simpa using h))
theorem idsSL_mem {cs : List AV} {id : Nat} (h : id ∈ idsSL cs) : ∃ (i : Nat) (x : AV), cs[i]? = some x ∧ id ∈ idsOfS x := by
  induction cs with
  | nil => simp [idsSL] at h
  | cons x cs ih =>
    unfold idsSL at h
    rcases List.mem_append.1 h with h | h
    · exact ⟨0, x, rfl, h⟩
    · obtain ⟨i, y, hi, hy⟩ := ih h; exact ⟨i + 1, y, by simpa using hi, hy⟩
theorem idsSL_inj {cs : List AV} (hn : (idsSL cs).Nodup) {i j id : Nat} {x y : AV} (hi : cs[i]? = some x) (hx : id ∈ idsOfS x) (hj : cs[j]? = some y) (hy : id ∈ idsOfS y) : i = j := by
  induction cs generalizing i j with
  | nil => simp at hi
  | cons z cs ih =>
    unfold idsSL at hn
    rw [List.nodup_append] at hn
    cases i with
    | zero =>
      cases j with
      | zero => rfl
      | succ j =>
        simp at hi hj; subst hi
        exact (hn.2.2 id hx id (mem_idsSL hj hy) rfl).elim
    | succ i =>
      cases j with
      | zero =>
        simp at hi hj; subst hj
        exact (hn.2.2 id hy id (mem_idsSL hi hx) rfl).elim
      | succ j => exact congrArg (· + 1) (ih hn.2.1 (i := i) (j := j) (by simpa using hi) (by simpa using hj))

/-- What an argument that has been lent has become. -/
def Back (os os' : List Obj) (id : Nat) (y : Option AV) : Prop :=
  os'[id]? = some .dead ∨ (∃ k es es', os[id]? = some (.row k es) ∧ os'[id]? = some (.row k es') ∧ es'.length = es.length ∧ y = some (.sl true k es')) ∨
    ∃ cs cs', os[id]? = some (.box cs) ∧ os'[id]? = some (.box cs') ∧ y = some (.bx cs')

theorem wbsS_spec : ∀ (xs ys : List AV) (os : List Obj) (K : List Obj → Prop), wbsS (stdE np P) os xs ys K → (idsSL xs).Nodup → (∀ id ∈ idsSL xs, id < os.length) →
    ∃ os', K os' ∧ os'.length = os.length ∧ (∀ id, id ∉ idsSL xs → os'[id]? = os[id]?) ∧
      ∀ (i id : Nat) (x : AV), xs[i]? = some x → id ∈ idsOfS x → Back os os' id ys[i]?
  | [], ys, os, K, hk, _, _ => ⟨os, by unfold wbsS at hk; exact hk, rfl, fun _ _ => rfl, fun i id x h => by simp at h⟩
  | x :: xs, [], os, K, hk, _, _ => by unfold wbsS at hk; exact hk.elim
  | x :: xs, y :: ys, os, K, hk, hn, hlt => by
    unfold wbsS at hk
    unfold idsSL at hn hlt
    have hn2 := (List.nodup_append.1 hn).2.1
    have go : ∀ id o, idsOfS x = [id] → wbsS (stdE np P) (os.set id o) xs ys K → (o = .dead ∨ (∃ k es es', os[id]? = some (.row k es) ∧ o = .row k es' ∧ es'.length = es.length ∧ y = .sl true k es') ∨ ∃ cs cs', os[id]? = some (.box cs) ∧ o = .box cs' ∧ y = .bx cs') →
        ∃ os', K os' ∧ os'.length = os.length ∧ (∀ id', id' ∉ idsSL (x :: xs) → os'[id']? = os[id']?) ∧ ∀ (i id' : Nat) (x' : AV), (x :: xs)[i]? = some x' → id' ∈ idsOfS x' → Back os os' id' (y :: ys)[i]? := fun id o hid0 hk ho => by
      have hid : id < os.length := hlt id (by simp [hid0])
      have hnot : id ∉ idsSL xs := fun h => (List.nodup_append.1 hn).2.2 id (by simp [hid0]) id h rfl
      obtain ⟨os', h1, h2, h3, h4⟩ := wbsS_spec xs ys (os.set id o) K hk hn2 (fun id h => by simpa using hlt id (List.mem_append_right _ h))
      have hs : os'[id]? = some o := by rw [h3 id hnot]; simp [hid]
      refine ⟨os', h1, by simpa using h2, fun id' h => ?_, fun i id' x' hi hx' => ?_⟩
      · unfold idsSL at h
        have h5 : id' ≠ id := fun e => h (by subst e; simp [hid0])
        rw [h3 id' (fun h' => h (List.mem_append_right _ h')), List.getElem?_set, if_neg (Ne.symm h5)]
      · cases i with
        | zero =>
          simp at hi; subst hi
          rw [hid0] at hx'
          simp at hx'; subst hx'
          rcases ho with rfl | ⟨k, es, es', g1, rfl, g2, rfl⟩ | ⟨cs, cs', g1, rfl, rfl⟩
          · exact .inl hs
          · exact .inr (.inl ⟨k, es, es', g1, hs, g2, rfl⟩)
          · exact .inr (.inr ⟨cs, cs', g1, hs, rfl⟩)
        | succ i =>
          have hi' : xs[i]? = some x' := by simpa using hi
          have h5 : id' ≠ id := fun e => hnot (by rw [← e]; exact mem_idsSL hi' hx')
          have e5 : (os.set id o)[id']? = os[id']? := by rw [List.getElem?_set, if_neg (Ne.symm h5)]
          rcases h4 i id' x' hi' hx' with g | ⟨k, es, es', g1, g2, g3, g4⟩ | ⟨cs, cs', g1, g2, g3⟩
          · exact .inl g
          · exact .inr (.inl ⟨k, es, es', by rw [← e5]; exact g1, g2, g3, by simpa using g4⟩)
          · exact .inr (.inr ⟨cs, cs', by rw [← e5]; exact g1, g2, by simpa using g3⟩)
    unfold wbS1 at hk
    split at hk
    · rename_i id
      split at hk
      · rename_i k es'
        split at hk
        · rename_i k0 es ho
          split at hk
          · rename_i e
            subst e
            obtain ⟨g1, hk⟩ := hk
            exact go id _ rfl hk (.inr (.inl ⟨_, es, es', ho, rfl, g1, rfl⟩))
          · exact hk.elim
        · exact hk.elim
      · exact go id _ rfl hk (.inl rfl)
    · rename_i id off
      split at hk
      · rename_i cs'
        split at hk
        · rename_i cs ho
          split at hk
          · exact go id _ rfl hk (.inr (.inr ⟨cs, cs', ho, rfl, rfl⟩))
          · exact hk.elim
        · exact hk.elim
      · exact go id _ rfl hk (.inl rfl)
    · rename_i h1 h2
      have hno : idsOfS x = [] := by cases x <;> first | rfl | exact (h1 _ rfl).elim | exact (h2 _ _ rfl).elim
      obtain ⟨os', h1, h2, h3, h4⟩ := wbsS_spec xs ys os K hk hn2 (fun id h => hlt id (List.mem_append_right _ h))
      refine ⟨os', h1, h2, fun id h => h3 id (fun h' => h (by unfold idsSL; exact List.mem_append_right _ h')), fun i id x' hi hx' => ?_⟩
      cases i with
      | zero => simp at hi; subst hi; rw [hno] at hx'; cases hx'
      | succ i => simpa using h4 i id x' (by simpa using hi) hx'

theorem lendSL_ids : ∀ {cs ys : List AV}, s.lendSL cs = some ys → ∀ (i : Nat) (x : AV), cs[i]? = some x → ∀ id ∈ idsOfS x, (x = .ob id ∧ ∃ k es, s.os[id]? = some (.row k es)) ∨ (x = .pb id 0 ∧ ∃ cs, s.os[id]? = some (.box cs))
  | [], _, _, i, x, h => by simp at h
  | z :: cs, ys, hk, i, x, h => by
    unfold AS.lendSL at hk
    split at hk
    · rename_i y m h1 h2
      cases i with
      | zero =>
        simp at h; subst h
        intro id hid
        cases z <;> simp [idsOfS] at hid
        · subst hid
          unfold AS.lendS at h1
          simp only at h1
          split at h1
          · rename_i k es ho; exact .inl ⟨rfl, k, es, ho⟩
          · cases h1
        · subst hid
          unfold AS.lendS at h1
          simp only at h1
          split at h1
          · rename_i cs' ho; exact .inr ⟨rfl, cs', ho⟩
          · cases h1
      | succ i => exact lendSL_ids h2 i x (by simpa using h)
    · cases hk

/-- A call that is lent own boxes. -/
theorem step_callS (hw : CW W w A s.os hd F) (hf : FR w A s.os hd s.fr a) {dst ty pos af g} {c : Call} {f : FuncId} {caps args : List AV} {K : AV → AS → Prop} (hcal : s.callee c = some (f, caps))
    (hl : s.lendSL (c.args.toList.map s.get ++ caps) = some args) (hnd : nodupB (idsSL (c.args.toList.map s.get ++ caps)) = true)
    (run : ∀ {fo : Operand} {vs : Array Value}, c.callee = .value fo → a.eval fo = .func (.func f) #[] vs → Enters P f → (execOp a.eval ⟨dst, .call c, ty, pos, af, g⟩).run P w = .ok (.enter f (c.args.map a.eval ++ vs)) w)
    (enter : ∀ {o : Oper} {next : Act → World → Prop} {Q : Exit → Act → World → Prop} {f : FuncId} {args : Array Value} {R : Value → World → Prop}, (execOp a.eval o).run P w = .ok (.enter f args) w → (Calls P f args w fun e w' => ∃ v, e = .returned v ∧ R v w') → (∀ v w', R v w' → next (a.put o.dst v) w') → o.wp P a w next Q)
    (hk : (stdE np P).callS f args fun r args' => wbsS (stdE np P) s.os (c.args.toList.map s.get ++ caps) args' fun os' => (AS.mk s.fr os').take r K) : StepOK P W w s a ⟨dst, .call c, ty, pos, af, g⟩ K := by
  intro next Q hn
  have hnd' := nodupB_spec hnd
  generalize hids : idsSL (c.args.toList.map s.get ++ caps) = ids at *
  have hrow := lendSL_ids hl
  unfold AS.callee at hcal
  split at hcal
  · rename_i fo hce
    split at hcal
    · rename_i f' caps' hg
      cases hcal
      have h1 := hf.get fo
      rw [hg] at h1
      obtain ⟨vs, e1, e2, e3⟩ := h1.fn_inv
      have hargs : ∀ (i : Nat) x, (c.args.toList.map s.get ++ caps)[i]? = some x → SRel w A s.os hd x ((c.args.toList.map a.eval ++ vs.toList).getD i undef) := fun i x hx => by
        rw [List.getElem?_append] at hx
        rw [List.getD_eq_getElem?_getD, List.getElem?_append]
        simp only [List.length_map] at hx ⊢
        split
        · rename_i hi
          rw [if_pos hi, List.getElem?_map] at hx
          rw [List.getElem?_map]
          cases hc : c.args.toList[i]? with
          | none => simp [hc] at hx
          | some y =>
            simp [hc] at hx
            subst hx
            simpa using hf.get y
        · rename_i hi
          rw [if_neg hi] at hx
          rw [← List.getD_eq_getElem?_getD, toList_getD]
          exact e3 _ x hx
      generalize hxs : c.args.toList.map s.get ++ caps = xs at *
      obtain ⟨Qc, hac, hk⟩ := hk
      obtain ⟨h3, h4⟩ := lendSL_sound hw xs (c.args.toList.map a.eval ++ vs.toList) args (by rw [← hxs]; simp [e2]) hargs hl
      have hlen : xs.length = args.length := by rw [h3, ← hxs]; simp [e2]
      have hX : XRel w A (.tup args) (.tuple (c.args.map a.eval ++ vs)) (fun b => ∃ id ∈ ids, LF s.os hd F id b) := by
        refine .tup _ _ _ (fun i b => ∃ x, xs[i]? = some x ∧ ∃ id ∈ idsOfS x, LF s.os hd F id b) (by rw [h3]; simp) (fun i x hx => ?_) (fun b => ⟨fun ⟨id, g1, g2⟩ => ?_, fun ⟨i, _, x, g1, id, g2, g3⟩ => ?_⟩) (fun i j b hi hj ⟨x, g1, id, g2, g3⟩ ⟨x', g1', id', g2', g3'⟩ => ?_)
        · have := h4 i x hx
          rwa [← toList_getD, Array.toList_append, Array.toList_map]
        · rw [← hids] at g1
          obtain ⟨i, x, hi, hx⟩ := idsSL_mem g1
          exact ⟨i, by rw [← hlen]; exact (List.getElem?_eq_some_iff.1 hi).1, x, hi, id, hx, g2⟩
        · exact ⟨id, by rw [← hids]; exact mem_idsSL g1 g2, g3⟩
        · have := hw.disj _ _ _ g3.1 g3'.1
          subst this
          exact idsSL_inj (by rw [hids]; exact hnd') g1 g2 g1' g2'
      refine enter (run hce e1 hac.1) (R := fun v w' => ∃ G A1 r args', Qc r args' ∧ Keeps (fun b => ∃ id ∈ ids, LF s.os hd F id b) w w' ∧ XRel w' A1 (.tup (r :: args')) (.tuple (#[v] ++ (c.args.map a.eval ++ vs))) G ∧ (∀ b, G b → (∃ id ∈ ids, LF s.os hd F id b) ∨ w.heap.size ≤ b ∧ b < w'.heap.size) ∧ ∀ b, A1 b → b < w'.heap.size ∧ ¬ G b ∧ (A b ∨ w.heap.size ≤ b))
        ((hac.2 w A _ _ hX (fun b hb => ⟨(hw.hA b hb).1, fun ⟨id, _, h⟩ => (hw.hA b hb).2 id h.1⟩) (fun b ⟨id, _, h⟩ => (hw.fsz id b h.1).2)).mono fun e w' ⟨v, G, A1, r, args', g0, g1, g2, g3, g4, g5⟩ => ⟨v, g1, G, A1, r, args', g0, g2, g3, g4, g5⟩) fun v w' ⟨G, A1, r, args', hq, g1, g2, g3, g4⟩ => ?_
      replace hk := hk r args' hq
      cases g2 with
      | pure _ _ _ h ho _ => simp [AV.isOwn] at ho
      | tup _ _ _ Gi hn' hc hF hd0 =>
        obtain ⟨os', hk, k1, k2, k3⟩ := wbsS_spec xs args' s.os _ hk (by rw [hids]; exact hnd') (fun id h => by
          obtain ⟨i, x, hi, hx⟩ := idsSL_mem h
          rcases hrow i x hi id hx with ⟨_, k, es, ho⟩ | ⟨_, cs, ho⟩ <;> exact (List.getElem?_eq_some_iff.1 ho).1)
        have val : ∀ (i id : Nat) (x : AV), xs[i]? = some x → id ∈ idsOfS x → (#[v] ++ (c.args.map a.eval ++ vs)).getD (i + 1) undef = hd id := fun i id x hi hx => by
          have e4 : (#[v] ++ (c.args.map a.eval ++ vs)).getD (i + 1) undef = (c.args.toList.map a.eval ++ vs.toList).getD i undef := by
            rw [← toList_getD, Array.toList_append, Array.toList_append, Array.toList_map]
            simp [List.getD_eq_getElem?_getD]
          rw [e4]
          rcases hrow i x hi id hx with ⟨rfl, k, es, ho⟩ | ⟨rfl, cs, ho⟩
          · exact (hargs i _ hi).ob_inv ho
          · obtain ⟨b, q1, q2⟩ := (hargs i _ hi).pb_inv ho
            rw [q1, q2]
        have sub : ∀ (i : Nat) b, i < (r :: args').length → Gi i b → (∃ id ∈ ids, F id b) ∨ w.heap.size ≤ b ∧ b < w'.heap.size := fun i b hi h => (g3 b ((hF b).2 ⟨i, hi, h⟩)).imp (fun ⟨id, h1, h2⟩ => ⟨id, h1, h2.1⟩) (fun h => h)
        have inl : ∀ {i : Nat} {y : AV}, args'[i]? = some y → i + 1 < (r :: args').length := fun {i y} h => by have := (List.getElem?_eq_some_iff.1 h).1; simpa using this
        have g1' : Keeps (fun b => ∃ id ∈ ids, F id b) w w' := ⟨g1.os, g1.tape, g1.output, g1.size, fun x hx hn => g1.block x hx (fun ⟨id, h1, h2⟩ => hn ⟨id, h1, h2.1⟩), g1.frz, g1.drawn⟩
        let A' : Nat → Prop := fun b => A b ∨ A1 b
        let Gn : Nat → Nat → Prop := fun id b => ∃ i x y, xs[i]? = some x ∧ id ∈ idsOfS x ∧ args'[i]? = some y ∧ Gi (i + 1) b
        have hAG : ∀ b, A' b → ∀ i, i < (r :: args').length → ¬ Gi i b := fun b hb i hi h => by
          rcases hb with hb | hb
          · rcases sub i b hi h with ⟨id, _, h5⟩ | h5
            · exact (hw.hA b hb).2 id h5
            · have := (hw.hA b hb).1; omega
          · exact (g4 b hb).2.1 ((hF b).2 ⟨i, hi, h⟩)
        have cong : ∀ (i id : Nat) (x y : AV), xs[i]? = some x → id ∈ idsOfS x → args'[i]? = some y → XRel w' A' y (hd id) (Gn id) := fun i id x y hi hx hy => by
          have := hc (i + 1) y (by simpa using hy)
          rw [val i id x hi hx] at this
          exact (this.mono (fun _ h => .inr h) (fun _ _ => rfl)).congr (fun b => ⟨fun ⟨j, x', y', r1, r2, r3, r4⟩ => by
            have := idsSL_inj (by rw [hids]; exact hnd') r1 r2 hi hx
            subst this; exact r4, fun h => ⟨i, x, y, hi, hx, hy, h⟩⟩)
        obtain ⟨hw2, hm2⟩ := hw.setManyS ids Gn (A' := A') (fun _ h => .inl h) (fun b hb => hb.elim (fun h => ⟨Nat.lt_of_lt_of_le (hw.hA b h).1 g1.size, .inl h⟩) (fun h => ⟨(g4 b h).1, (g4 b h).2.2⟩))
          (fun b hb id h ⟨i, x, y, r1, r2, r3, r4⟩ => hAG b hb (i + 1) (inl r3) r4) k1 g1' (fun id h => k2 id (by rw [hids]; exact h)) (fun id h => by
            rw [← hids] at h
            obtain ⟨i, x, hi, hx⟩ := idsSL_mem h
            rcases k3 i id x hi hx with q | ⟨k, es, es', q1, q2, q3, q4⟩ | ⟨cs, cs', q1, q2, q3⟩
            · exact .inl q
            · exact .inr (.inl ⟨k, es, es', q1, q2, q3, cong i id x _ hi hx q4⟩)
            · exact .inr (.inr ⟨cs, cs', q1, q2, cong i id x _ hi hx q3⟩)) (fun id h b ⟨i, x, y, r1, r2, r3, r4⟩ => sub (i + 1) b (inl r3) r4)
          (fun id h j hj b ⟨i, x, y, r1, r2, r3, r4⟩ ⟨i', x', y', r1', r2', r3', r4'⟩ => by
            have := hd0 _ _ b (inl r3) (inl r3') r4 r4'
            have : i = i' := by omega
            subst this
            rw [r1] at r1'; cases r1'
            cases x <;> simp [idsOfS] at r2 r2' <;> omega)
        have h0 : XRel w' A' r v (Gi 0) := by
          have := hc 0 r (by simp)
          rw [← toList_getD] at this
          have e : (#[v] ++ (c.args.map a.eval ++ vs)).toList.getD 0 undef = v := by simp [List.getD_eq_getElem?_getD]
          rw [e] at this
          exact this.mono (fun _ h => .inr h) (fun _ _ => rfl)
        obtain ⟨s', hd', F', q1, q2, q3, q4, x', q5, q6⟩ := take_sound (s := ⟨s.fr, os'⟩) hw2 h0 (fun b hb => by
          have h5 := sub 0 b (by simp) hb
          refine ⟨?_, ?_, fun hA => hAG b hA 0 (by simp) hb, fun id hid => ?_⟩
          · rcases h5 with ⟨id, _, h⟩ | h
            · exact (hw.fsz id b h).1
            · exact hw.below.new h.1
          · rcases h5 with ⟨id, _, h⟩ | h
            · exact Nat.lt_of_lt_of_le (hw.fsz id b h).2 g1.size
            · exact h.2
          · rcases hid with ⟨_, i, x, y, r1, r2, r3, r4⟩ | ⟨h6, h7⟩
            · have := hd0 _ _ b (by simp) (inl r3) hb r4; omega
            · rcases h5 with ⟨id', h8, h⟩ | h
              · have := hw.disj _ _ _ h7 h; subst this; exact h6 h8
              · have := (hw.fsz id b h7).2; omega) hk
        exact hn x' s' v w' A' hd' F' q5 q1 q2 ⟨hf.nodef, hf.size, fun t z hz => q3 _ _ (hm2 _ _ (hf.slots t z hz))⟩ q6
    · cases hcal
  · cases hcal
end
end Go.Proofs.Ytjenekakcoggpaa
