/- Soundness of the operations that make or change memory, and of calls. -/
import Derived.Test.YtjenekakcoggpaaAxVal
namespace Go.Proofs.Ytjenekakcoggpaa
set_option linter.unusedVariables false
set_option linter.unusedSimpArgs false
open Go Go.RowKit

section res
variable {P : Program} {np : Nat} {W : WM} {w : World} {A : Nat → Prop} {os : List Obj} {hd : Nat → Value} {F : Nat → Nat → Prop} {s : AS}

theorem CW.rel_row (hw : CW W w A os hd F) {id k es} (ho : os[id]? = some (.row k es)) : Rel w (· < w.heap.size) (.sl true k es) (hd id) :=
  (hw.rows id k es ho).rel (fun x hx => (hw.hA x hx).1) (fun x hx => (hw.fsz id x hx).2)

theorem Rel.wide (hw : CW W w A os hd F) {x v} (h : Rel w A x v) : Rel w (· < w.heap.size) x v :=
  h.mono (fun _ _ => rfl) (fun x hx => (hw.hA x hx).1)

theorem SRel.pure_inv {x v} (h : SRel w A os hd x v) (hx : match x with | .ob _ | .vs .. | .pb .. | .pe .. | .agg _ | .tup _ | .fn .. => False | _ => True) : Rel w A x v := by
  cases h with
  | pure _ _ h => exact h
  | _ => exact hx.elim

theorem Rel.sl_recap {w : World} {A : Nat → Prop} {own k es} {v : Value} (h : Rel w A (.sl own k es) v) {p n c} (hv : v = .slice p n c) {c' : Nat} (hc' : es.length ≤ c') : Rel w A (.sl own k es) (.slice p n c') := by
  cases h with
  | sl _ _ _ _ _ b off val hl hcap hp hk hc h1c hr =>
    cases hv
    exact .sl _ _ _ _ _ b off val hl hc' hp hk hc h1c hr

theorem r1_sound (hw : CW W w A s.os hd F) {x v} {K : AV → Prop} (h : SRel w A s.os hd x v) (hk : s.r1 (stdE np P) x K) : ∃ x', K x' ∧ Rel w (· < w.heap.size) x' v := by
  unfold AS.r1 at hk
  split at hk
  · split at hk
    · rename_i id k es ho
      rw [h.ob_inv ho]
      exact ⟨_, hk, hw.rel_row ho⟩
    · exact hk.elim
  · split at hk
    · rename_i id lo hi _ k es ho
      obtain ⟨h1, h2, h3, hk⟩ := hk
      simp only [Option.getD_some] at h1 h2 h3 hk
      obtain ⟨e1, e2, e3, p, cap, e4, e5, e6, _⟩ := h.vs_inv ho
      subst e4
      refine ⟨_, hk, ?_⟩
      have hr := hw.rel_row ho
      have hlen : ((es.take hi.toNat).drop lo.toNat).length = (hi - lo).toNat := by simp; omega
      rw [← hlen]
      by_cases hlt : lo < hi
      · obtain ⟨b, n, c, e7, e8⟩ := e6 hlt
        obtain ⟨p0, c0, e9, e10, e11⟩ := hr.sl_len
        rw [e9] at hr e7
        have hs := hr.sl_sub (l := lo.toNat) (m := hi.toNat) (by omega) (by omega)
        cases e7
        subst e8
        have e12 : c ≠ lo.toNat := by omega
        rw [if_neg e12] at hs
        simp only [Option.map_some, addr_add, Nat.zero_add] at hs
        have h13 : (hi - lo).toNat = hi.toNat - lo.toNat := by omega
        rw [hlen, h13]
        exact hs.sl_recap rfl (by omega)
      · have hnil : (es.take hi.toNat).drop lo.toNat = [] := by
          apply List.eq_nil_of_length_eq_zero; omega
        rw [hnil]
        exact .sl false k [] p cap 0 0 (fun _ _ => undef) (by simp) (by simp) (by simp) (by simp) (by simp) (by simp) (by simp)
    · exact hk.elim
  all_goals first
    | exact ⟨_, hk, (h.pure_inv trivial).wide hw⟩
    | exact hk.elim

theorem rL_sound (hw : CW W w A s.os hd F) : ∀ (cs : List AV) (vs : List Value) (K : List AV → Prop), vs.length = cs.length → (∀ (i : Nat) x, cs[i]? = some x → SRel w A s.os hd x (vs.getD i undef)) → s.rL (stdE np P) cs K →
    ∃ cs', K cs' ∧ cs'.length = vs.length ∧ ∀ (i : Nat) x, cs'[i]? = some x → Rel w (· < w.heap.size) x (vs.getD i undef)
  | [], [], K, _, _, hk => ⟨[], hk, rfl, fun i x hx => by simp at hx⟩
  | [], _ :: _, _, hn, _, _ => by simp at hn
  | _ :: _, [], _, hn, _, _ => by simp at hn
  | x :: cs, v :: vs, K, hn, hc, hk => by
    unfold AS.rL at hk
    obtain ⟨x', hk, hx'⟩ := r1_sound hw (hc 0 x (by simp)) hk
    obtain ⟨cs', hk, hl, hcs⟩ := rL_sound hw cs vs _ (by simpa using hn) (fun i y hy => by simpa using hc (i + 1) y (by simpa using hy)) hk
    refine ⟨_, hk, by simp [hl], fun i y hy => ?_⟩
    cases i with
    | zero => simp at hy; subst hy; simpa using hx'
    | succ i => simp at hy; simpa using hcs i y hy

theorem toList_getD (vs : Array Value) (i : Nat) : vs.toList.getD i undef = vs.getD i undef := by
  by_cases h : i < vs.size
  · simp [Array.getD, h, List.getD]
  · simp [Array.getD, h, List.getD]

theorem box_pt (hw : CW W w A s.os hd F) {id cs} (ho : s.os[id]? = some (.box cs)) :
    ∃ b T c, hd id = .pointer (some ⟨b, 0, none⟩) ∧ w.heap[b]? = some (.cells c T (0, 0)) ∧ c.size = cs.length ∧ F id b ∧ Pt w A s.os hd b 0 cs ∧ ∀ (i : Nat) x, cs[i]? = some x → SRel w A s.os hd x (c.getD i undef) := by
  obtain ⟨b, T, c, e1, e2, e3, e4, e5⟩ := hw.boxes id cs ho
  refine ⟨b, T, c, e1, e2, e3, e5, fun j y hy => ?_, e4⟩
  have hj := (List.getElem?_eq_some_iff.1 hy).1
  refine ⟨c.getD j undef, ?_, e4 j y hy⟩
  have h5 : j < c.size := by omega
  simp [World.cell?, e2, h5]

theorem getElem?_getD {l : List Value} {i : Nat} (h : i < l.length) : l[i]? = some (l.getD i undef) := by
  simp [h, List.getD]

/-- A pointer to a box, as what it points to. -/
theorem pp_sound (hw : CW W w A s.os hd F) {id off cs v} {K : List AV → Prop} (ho : s.os[id]? = some (.box cs)) (h : SRel w A s.os hd (.pb id off) v) (hk : s.rL (stdE np P) (cs.drop off) K) :
    ∃ cs', K cs' ∧ Rel w (· < w.heap.size) (.pp cs') v := by
  obtain ⟨b, T, c, e1, e2, e3, e4, hp, hc⟩ := box_pt hw ho
  obtain ⟨b', e5, e6⟩ := h.pb_inv ho
  rw [e1] at e5
  cases e5
  subst e6
  obtain ⟨cs', hk, hl, hcs⟩ := rL_sound (P := P) hw (cs.drop off) (c.toList.drop off) K (by simp [e3]) (fun i x hx => by
    rw [List.getElem?_drop] at hx
    have := hc (off + i) x hx
    rw [← toList_getD] at this
    simpa [List.getD] using this) hk
  refine ⟨cs', hk, Rel.pp_of (hw.fsz id b e4).2 (fun j x hx => ?_)⟩
  have hj := (List.getElem?_eq_some_iff.1 hx).1
  have h1 := hcs j x hx
  have h2 : off + j < c.size := by rw [hl] at hj; simp at hj; omega
  refine ⟨_, ?_, h1⟩
  simp [World.cell?, e2, h2, List.getD]

theorem rC_sound (hw : CW W w A s.os hd F) : ∀ (cs : List AV) (vs : List Value) (K : List AV → Prop), vs.length = cs.length → (∀ (i : Nat) x, cs[i]? = some x → SRel w A s.os hd x (vs.getD i undef)) → s.rC (stdE np P) cs K →
    ∃ cs', K cs' ∧ cs'.length = vs.length ∧ ∀ (i : Nat) x, cs'[i]? = some x → Rel w (· < w.heap.size) x (vs.getD i undef)
  | [], [], K, _, _, hk => ⟨[], by simpa [AS.rC] using hk, rfl, fun i x hx => by simp at hx⟩
  | [], _ :: _, _, hn, _, _ => by simp at hn
  | _ :: _, [], _, hn, _, _ => by simp at hn
  | x :: cs, v :: vs, K, hn, hc, hk => by
    have h0 := hc 0 x (by simp)
    have main : ∀ x', Rel w (· < w.heap.size) x' v → s.rC (stdE np P) cs (fun l' => K (x' :: l')) → ∃ cs', K cs' ∧ cs'.length = (v :: vs).length ∧ ∀ (i : Nat) x, cs'[i]? = some x → Rel w (· < w.heap.size) x ((v :: vs).getD i undef) := fun x' hx' hk => by
      obtain ⟨cs', hk, hl, hcs⟩ := rC_sound hw cs vs _ (by simpa using hn) (fun i y hy => by simpa using hc (i + 1) y (by simpa using hy)) hk
      refine ⟨_, hk, by simp [hl], fun i y hy => ?_⟩
      cases i with
      | zero => simp at hy; subst hy; simpa using hx'
      | succ i => simp at hy; simpa using hcs i y hy
    unfold AS.rC at hk
    split at hk
    · rename_i e; cases e
    · rename_i id off l K' e
      injection e with e1 e2
      subst e1 e2
      split at hk
      · rename_i bs ho
        obtain ⟨bs', hk, hb⟩ := pp_sound hw ho h0 hk
        exact main _ hb hk
      · exact hk.elim
    · rename_i y l K' _ e
      injection e with e1 e2
      subst e1 e2
      obtain ⟨x', hk, hx'⟩ := r1_sound hw h0 hk
      exact main _ hx' hk

theorem res_sound (hw : CW W w A s.os hd F) {x v} {K : AV → Prop} (h : SRel w A s.os hd x v) (hk : s.res (stdE np P) x K) : ∃ x', K x' ∧ Rel w (· < w.heap.size) x' v := by
  unfold AS.res at hk
  split at hk
  · obtain ⟨vs, rfl, hn, hc⟩ := h.agg_inv
    obtain ⟨cs', hk, hl, hcs⟩ := rL_sound hw _ vs.toList _ (by simpa using hn) (fun i x hx => by rw [toList_getD]; exact hc i x hx) hk
    exact ⟨_, hk, .agg _ _ (by simpa using hl.symm) (fun i x hx => by rw [← toList_getD]; exact hcs i x hx)⟩
  · obtain ⟨vs, rfl, hn, hc⟩ := h.fn_inv
    obtain ⟨cs', hk, hl, hcs⟩ := rC_sound hw _ vs.toList _ (by simpa using hn) (fun i x hx => by rw [toList_getD]; exact hc i x hx) hk
    exact ⟨_, hk, .fn _ _ _ (by simpa using hl.symm) (fun i x hx => by rw [← toList_getD]; exact hcs i x hx)⟩
  · split at hk
    · rename_i id off _ cs ho
      obtain ⟨cs', hk, hb⟩ := pp_sound hw ho h hk
      exact ⟨_, hk, hb⟩
    · exact hk.elim
  · split at hk
    · rename_i id i j _ k es ho
      obtain ⟨h0, e, he, hk⟩ := hk
      refine ⟨_, hk, ?_⟩
      obtain ⟨b, n, c, e1, e2, e3, e4⟩ := h.pe_inv ho
      subst e4
      obtain ⟨b', off', cap, e5, hb, hp⟩ := (hw.rel_row ho).sl_elem he
      rw [e1] at e5
      injection e5 with e5 _ _
      injection e5 with e5
      injection e5 with e5 e6 _
      subst e5 e6
      have := hp.drop j
      rw [Nat.zero_add] at this
      exact Rel.pp_of hb this
    · exact hk.elim
  · exact r1_sound hw h hk

theorem resL_sound (hw : CW W w A s.os hd F) : ∀ (cs : List AV) (vs : List Value) (K : List AV → Prop), vs.length = cs.length → (∀ (i : Nat) x, cs[i]? = some x → SRel w A s.os hd x (vs.getD i undef)) → s.resL (stdE np P) cs K →
    ∃ cs', K cs' ∧ cs'.length = vs.length ∧ ∀ (i : Nat) x, cs'[i]? = some x → Rel w (· < w.heap.size) x (vs.getD i undef)
  | [], [], K, _, _, hk => ⟨[], hk, rfl, fun i x hx => by simp at hx⟩
  | [], _ :: _, _, hn, _, _ => by simp at hn
  | _ :: _, [], _, hn, _, _ => by simp at hn
  | x :: cs, v :: vs, K, hn, hc, hk => by
    unfold AS.resL at hk
    obtain ⟨x', hk, hx'⟩ := res_sound hw (hc 0 x (by simp)) hk
    obtain ⟨cs', hk, hl, hcs⟩ := resL_sound hw cs vs _ (by simpa using hn) (fun i y hy => by simpa using hc (i + 1) y (by simpa using hy)) hk
    refine ⟨_, hk, by simp [hl], fun i y hy => ?_⟩
    cases i with
    | zero => simp at hy; subst hy; simpa using hx'
    | succ i => simp at hy; simpa using hcs i y hy
end res

section trans
variable {P : Program} {np : Nat} {W : WM} {w w' : World} {A : Nat → Prop} {os os' : List Obj} {hd hd' : Nat → Value} {F F' : Nat → Nat → Prop} {s : AS}

theorem Keeps.refl (G : Nat → Prop) (w : World) : Keeps G w w := ⟨rfl, rfl, rfl, Nat.le_refl _, fun _ _ _ => rfl, fun _ _ => rfl, Nat.le_refl _⟩
theorem Keeps.alloc (w : World) (c : Array Value) (T : TypeId) : Keeps (fun _ => False) w (w.alloc (.cells c T)) :=
  ⟨rfl, rfl, rfl, by simp, fun x hx _ => Below.heap_alloc _ _ _ hx, fun a _ => frozen?_alloc_cells w c T a, Nat.le_refl _⟩
theorem Keeps.trans {G : Nat → Prop} {a b c : World} (h : Keeps G a b) (k : Keeps G b c) : Keeps G a c :=
  ⟨k.os.trans h.os, k.tape.trans h.tape, k.output.trans h.output, Nat.le_trans h.size k.size, fun x hx hG => (k.block x (Nat.lt_of_lt_of_le hx h.size) hG).trans (h.block x hx hG), fun x hx => (k.frz x (Nat.lt_of_lt_of_le hx h.size)).trans (h.frz x hx), Nat.le_trans h.drawn k.drawn⟩
theorem Keeps.drew (w : World) : Keeps (fun _ => False) w w.drew := ⟨rfl, rfl, rfl, Nat.le_refl _, fun _ _ _ => rfl, fun _ _ => rfl, Nat.le_succ _⟩

theorem SRel.keep {x v} (h : SRel w A os hd x v) (hA : ∀ y, A y → y < w.heap.size) (hk : Keeps (fun _ => False) w w') : SRel w' A os hd x v :=
  h.mono (fun y hy => hk.block y (hA y hy) (fun h => h)) (fun _ h => h)

theorem CW.keep (h : CW W w A os hd F) (hk : Keeps (fun _ => False) w w') : CW W w' A os hd F where
  pin := h.pin
  old := h.old
  below := h.below.keep hk (fun _ h => h.elim)
  hA x hx := ⟨Nat.lt_of_lt_of_le (h.hA x hx).1 hk.size, (h.hA x hx).2⟩
  fsz id x hx := ⟨(h.fsz id x hx).1, Nat.lt_of_lt_of_le (h.fsz id x hx).2 hk.size⟩
  disj := h.disj
  rows id k es ho := (h.rows id k es ho).mono (fun _ h => h) (fun x hx => hk.block x (hx.elim (fun hx => (h.hA x hx).1) (fun hx => (h.fsz id x hx).2)) (fun h => h))
  boxes id cs ho := by
    obtain ⟨b, T, c, e1, e2, e3, e4, e5⟩ := h.boxes id cs ho
    exact ⟨b, T, c, e1, by rw [hk.block b (h.fsz id b e5).2 (fun h => h)]; exact e2, e3, fun i a ha => (e4 i a ha).keep (fun y hy => (h.hA y hy).1) hk, e5⟩

/-- References go over to another list of objects, as long as what is still alive there was alive, with the same header. -/
theorem SRel.os_mono (hl : os.length ≤ os'.length) (hr : ∀ (id : Nat) k es', id < os.length → os'[id]? = some (.row k es') → ∃ es, os[id]? = some (.row k es) ∧ es.length = es'.length ∧ hd' id = hd id)
    (hb : ∀ (id : Nat) cs', id < os.length → os'[id]? = some (.box cs') → ∃ cs, os[id]? = some (.box cs) ∧ hd' id = hd id) {x v} (h : SRel w A os hd x v) : SRel w A os' hd' x v := by
  induction h with
  | pure a v h => exact .pure a v h
  | ob id v hi h =>
    exact .ob id v (by omega) fun k es' ho => let ⟨es, h1, _, h3⟩ := hr id k es' hi ho; by rw [h3]; exact h k es h1
  | vs id lo hi v hi' h =>
    refine .vs id lo hi v (by omega) fun k es' ho => ?_
    obtain ⟨es, h1, h2, h3⟩ := hr id k es' hi' ho
    have := h k es h1
    rwa [h2, ← h3] at this
  | pb id off v hi h =>
    exact .pb id off v (by omega) fun cs' ho => let ⟨cs, h1, h3⟩ := hb id cs' hi ho; by rw [h3]; exact h cs h1
  | pe id i j v hi h =>
    refine .pe id i j v (by omega) fun k es' ho => ?_
    obtain ⟨es, h1, h2, h3⟩ := hr id k es' hi ho
    have := h k es h1
    rwa [h2, ← h3] at this
  | agg cs vs hn _ ih => exact .agg cs vs hn ih
  | tup cs vs hn _ ih => exact .tup cs vs hn ih
  | fn f cs vs hn _ ih => exact .fn f cs vs hn ih

def updN {α : Type} (f : Nat → α) (n : Nat) (x : α) : Nat → α := fun i => if i = n then x else f i
theorem updN_eq {α : Type} (f : Nat → α) (n : Nat) (x : α) : updN f n x n = x := if_pos rfl
theorem updN_ne {α : Type} (f : Nat → α) (n : Nat) (x : α) {i : Nat} (h : i ≠ n) : updN f n x i = f i := if_neg h

theorem SRel.push (o : Obj) (hv : Value) {x v} (h : SRel w A os hd x v) : SRel w A (os ++ [o]) (updN hd os.length hv) x v :=
  h.os_mono (by simp) (fun id k es' hi ho => by
      rw [List.getElem?_append_left hi] at ho
      exact ⟨es', ho, rfl, updN_ne _ _ _ (by omega)⟩) (fun id cs' hi ho => by
      rw [List.getElem?_append_left hi] at ho
      exact ⟨cs', ho, updN_ne _ _ _ (by omega)⟩)

/-- A new object. -/
theorem CW.push (h : CW W w A os hd F) (o : Obj) (hv : Value) (G : Nat → Prop) (hG : ∀ x, G x → W.new x ∧ x < w.heap.size ∧ ¬ A x ∧ ∀ id, ¬ F id x)
    (hrow : ∀ k es, o = .row k es → XRel w A (.sl true k es) hv G)
    (hbox : ∀ cs, o = .box cs → ∃ b T c, hv = .pointer (some ⟨b, 0, none⟩) ∧ w.heap[b]? = some (.cells c T (0, 0)) ∧ c.size = cs.length ∧ (∀ (i : Nat) a, cs[i]? = some a → SRel w A os hd a (c.getD i undef)) ∧ G b) :
    CW W w A (os ++ [o]) (updN hd os.length hv) (updN F os.length G) where
  old := h.old
  pin p hp := ⟨by have := (h.pin p hp).1; simp; omega, by have := (h.pin p hp).1; rw [updN_ne _ _ _ (by omega)]; exact (h.pin p hp).2⟩
  below := h.below
  hA x hx := ⟨(h.hA x hx).1, fun id hid => by
    unfold updN at hid
    split at hid
    · exact (hG x hid).2.2.1 hx
    · exact (h.hA x hx).2 id hid⟩
  fsz id x hx := by
    unfold updN at hx
    split at hx
    · exact ⟨(hG x hx).1, (hG x hx).2.1⟩
    · exact h.fsz id x hx
  disj i j x hi hj := by
    unfold updN at hi hj
    split at hi <;> split at hj
    · omega
    · exact ((hG x hi).2.2.2 j hj).elim
    · exact ((hG x hj).2.2.2 i hi).elim
    · exact h.disj i j x hi hj
  rows id k es ho := by
    by_cases hlt : id < os.length
    · rw [List.getElem?_append_left hlt] at ho
      rw [updN_ne _ _ _ (by omega), updN_ne _ _ _ (by omega)]
      exact h.rows id k es ho
    · have : id = os.length := by
        have := (List.getElem?_eq_some_iff.1 ho).1
        simp at this
        omega
      subst this
      simp at ho
      rw [updN_eq, updN_eq]
      exact hrow k es ho
  boxes id cs ho := by
    by_cases hlt : id < os.length
    · rw [List.getElem?_append_left hlt] at ho
      rw [updN_ne _ _ _ (by omega), updN_ne _ _ _ (by omega)]
      obtain ⟨b, T, c, e1, e2, e3, e4, e5⟩ := h.boxes id cs ho
      exact ⟨b, T, c, e1, e2, e3, fun i a ha => (e4 i a ha).push o hv, e5⟩
    · have : id = os.length := by
        have := (List.getElem?_eq_some_iff.1 ho).1
        simp at this
        omega
      subst this
      simp at ho
      rw [updN_eq, updN_eq]
      obtain ⟨b, T, c, e1, e2, e3, e4, e5⟩ := hbox cs ho
      exact ⟨b, T, c, e1, e2, e3, fun i a ha => (e4 i a ha).push o hv, e5⟩

/-- What has come of a value that enters the frame. -/
def Enter (W : WM) (w : World) (A : Nat → Prop) (s : AS) (hd : Nat → Value) (F : Nat → Nat → Prop) (G : Nat → Prop) (K : AS → (Nat → Value) → List Obj → Prop) : Prop :=
  ∃ s' hd' F', s'.fr = s.fr ∧ CW W w A s'.os hd' F' ∧ (∀ y u, SRel w A s.os hd y u → SRel w A s'.os hd' y u) ∧ (∀ id y, F' id y → F id y ∨ G y) ∧ K s' hd' s'.os

theorem in1_sound (hw : CW W w A s.os hd F) {x v} {G : Nat → Prop} {K : AV → AS → Prop} (hx : XRel w A x v G) (hG : ∀ y, G y → W.new y ∧ y < w.heap.size ∧ ¬ A y ∧ ∀ id, ¬ F id y)
    (hk : s.in1 x K) : Enter W w A s hd F G fun s' hd' os' => ∃ x', K x' s' ∧ SRel w A os' hd' x' v := by
  unfold AS.in1 at hk
  split at hk
  · rename_i k es
    refine ⟨⟨s.fr, s.os ++ [.row k es]⟩, _, _, rfl, hw.push (.row k es) v G hG (fun k' es' e => by cases e; exact hx) (fun cs e => by cases e), fun y u h => h.push _ _, fun id y h => ?_, _, hk, .ob _ _ (by simp) (fun k' es' ho => ?_)⟩
    · unfold updN at h
      split at h
      · exact .inr h
      · exact .inl h
    · rw [updN_eq]
  · rename_i cs
    cases hx with
    | pure _ _ _ _ ho _ => simp [AV.isOwn] at ho
    | bx _ b T c _ hb hn hr hF =>
      refine ⟨⟨s.fr, s.os ++ [.box cs]⟩, _, _, rfl, hw.push (.box cs) (.pointer (some ⟨b, 0, none⟩)) G hG (fun k' es' e => by cases e) (fun cs' e => by cases e; exact ⟨b, T, c, rfl, hb, hn, fun i a ha => .pure _ _ (hr i a ha), (hF b).2 rfl⟩), fun y u h => h.push _ _, fun id y h => ?_, _, hk, .pb _ _ _ (by simp) (fun cs' ho => ?_)⟩
      · unfold updN at h
        split at h
        · exact .inr h
        · exact .inl h
      · rw [updN_eq]; exact ⟨b, rfl, rfl⟩
  · exact hk.elim
  · exact hk.elim
  · rename_i h1 h4 h2 h3
    refine ⟨s, hd, F, rfl, hw, fun _ _ h => h, fun _ _ h => .inl h, x, hk, ?_⟩
    cases hx with
    | pure _ _ _ h _ _ => exact .pure _ _ h
    | nil => exact (h1 _ _ rfl).elim
    | sl => exact (h1 _ _ rfl).elim
    | bx => exact (h4 _ rfl).elim
    | agg => exact (h2 _ rfl).elim
    | tup => exact (h3 _ rfl).elim

theorem Enter.mono {hd : Nat → Value} {F : Nat → Nat → Prop} {G G' : Nat → Prop} {K K' : AS → (Nat → Value) → List Obj → Prop} (h : Enter W w A s hd F G K) (hG : ∀ y, G y → G' y) (hK : ∀ s' hd' os', K s' hd' os' → K' s' hd' os') : Enter W w A s hd F G' K' := by
  obtain ⟨s', hd', F', h1, h2, h3, h4, h5⟩ := h
  exact ⟨s', hd', F', h1, h2, h3, fun id y h => (h4 id y h).imp (fun h => h) (hG y), hK _ _ _ h5⟩

/-- One after the other. -/
theorem enterL {step : AS → AV → (AV → AS → Prop) → Prop} {all : AS → List AV → (List AV → AS → Prop) → Prop} (h0 : ∀ s K, all s [] K → K [] s) (h1 : ∀ s x l K, all s (x :: l) K → step s x fun x' s' => all s' l fun l' s'' => K (x' :: l') s'')
    (hs : ∀ (s : AS) (hd : Nat → Value) (F : Nat → Nat → Prop) x v (G : Nat → Prop) (K : AV → AS → Prop), CW W w A s.os hd F → XRel w A x v G → (∀ y, G y → W.new y ∧ y < w.heap.size ∧ ¬ A y ∧ ∀ id, ¬ F id y) → step s x K → Enter W w A s hd F G fun s' hd' os' => ∃ x', K x' s' ∧ SRel w A os' hd' x' v) :
    ∀ (l : List AV) (vs : List Value) (G : Nat → Nat → Prop) (s : AS) (hd : Nat → Value) (F : Nat → Nat → Prop) (K : List AV → AS → Prop), CW W w A s.os hd F → vs.length = l.length →
      (∀ (i : Nat) x, l[i]? = some x → XRel w A x (vs.getD i undef) (G i)) → (∀ i y, i < l.length → G i y → W.new y ∧ y < w.heap.size ∧ ¬ A y ∧ ∀ id, ¬ F id y) →
      (∀ i j y, i < l.length → j < l.length → G i y → G j y → i = j) → all s l K →
      Enter W w A s hd F (fun y => ∃ i, i < l.length ∧ G i y) fun s' hd' os' => ∃ l', K l' s' ∧ l'.length = vs.length ∧ ∀ (i : Nat) x, l'[i]? = some x → SRel w A os' hd' x (vs.getD i undef)
  | [], [], G, s, hd, F, K, hw, _, _, _, _, hk => ⟨s, hd, F, rfl, hw, fun _ _ h => h, fun _ _ h => .inl h, [], h0 _ _ hk, rfl, fun i x hx => by simp at hx⟩
  | [], _ :: _, _, _, _, _, _, _, hn, _, _, _, _ => by simp at hn
  | _ :: _, [], _, _, _, _, _, _, hn, _, _, _, _ => by simp at hn
  | x :: l, v :: vs, G, s, hd, F, K, hw, hn, hc, hG, hd', hk => by
    obtain ⟨s1, hd1, F1, e1, hw1, hm1, hF1, x', hk1, hx'⟩ := hs s hd F x v (G 0) _ hw (by simpa using hc 0 x (by simp)) (fun y hy => hG 0 y (by simp) hy) (h1 _ _ _ _ hk)
    obtain ⟨s2, hd2, F2, e2, hw2, hm2, hF2, l', hk2, hl2, hc2⟩ := enterL h0 h1 hs l vs (fun i => G (i + 1)) s1 hd1 F1 _ hw1 (by simpa using hn) (fun i y hy => by simpa using hc (i + 1) y (by simpa using hy))
      (fun i y hi hy => by
        obtain ⟨g1, g2, g3, g4⟩ := hG (i + 1) y (by simp; omega) hy
        refine ⟨g1, g2, g3, fun id hid => ?_⟩
        rcases hF1 id y hid with h | h
        · exact g4 id h
        · have := hd' (i + 1) 0 y (by simp; omega) (by simp) hy h
          omega)
      (fun i j y hi hj h2 h3 => by have := hd' (i + 1) (j + 1) y (by simp; omega) (by simp; omega) h2 h3; omega) hk1
    refine ⟨s2, hd2, F2, e2.trans e1, hw2, fun y u h => hm2 y u (hm1 y u h), fun id y h => ?_, x' :: l', hk2, by simp [hl2], fun i y hy => ?_⟩
    · rcases hF2 id y h with h | ⟨i, hi, h⟩
      · rcases hF1 id y h with h | h
        · exact .inl h
        · exact .inr ⟨0, by simp, h⟩
      · exact .inr ⟨i + 1, by simp; omega, h⟩
    · cases i with
      | zero => simp at hy; subst hy; simpa using hm2 _ _ hx'
      | succ i => simp at hy; simpa using hc2 i y hy

theorem in2_sound (hw : CW W w A s.os hd F) {x v} {G : Nat → Prop} {K : AV → AS → Prop} (hx : XRel w A x v G) (hG : ∀ y, G y → W.new y ∧ y < w.heap.size ∧ ¬ A y ∧ ∀ id, ¬ F id y)
    (hk : s.in2 x K) : Enter W w A s hd F G fun s' hd' os' => ∃ x', K x' s' ∧ SRel w A os' hd' x' v := by
  unfold AS.in2 at hk
  split at hk
  · rename_i cs
    cases hx with
    | pure _ _ _ h ho _ => simp [AV.isOwn] at ho
    | agg _ vs _ g hn hc hF hd0 =>
      have := enterL (step := fun s x K => s.in1 x K) (all := fun s l K => s.inL l K) (W := W) (w := w) (A := A) (fun s K h => h) (fun s x l K h => h) (fun s hd F x v G K h1 h2 h3 h4 => in1_sound h1 h2 h3 h4)
        cs vs.toList g s hd F _ hw (by simpa using hn) (fun i x hx => by rw [toList_getD]; exact hc i x hx) (fun i y hi hy => hG y ((hF y).2 ⟨i, hi, hy⟩)) (fun i j y hi hj h1 h2 => hd0 i j y hi hj h1 h2) hk
      exact this.mono (fun y hy => (hF y).2 hy) fun s' hd' os' ⟨l', h1, h2, h3⟩ => ⟨_, h1, .agg _ _ (by simpa using h2.symm) (fun i x hx => by rw [← toList_getD]; exact h3 i x hx)⟩
  · exact in1_sound hw hx hG hk

theorem take_sound (hw : CW W w A s.os hd F) {x v} {G : Nat → Prop} {K : AV → AS → Prop} (hx : XRel w A x v G) (hG : ∀ y, G y → W.new y ∧ y < w.heap.size ∧ ¬ A y ∧ ∀ id, ¬ F id y)
    (hk : s.take x K) : Enter W w A s hd F G fun s' hd' os' => ∃ x', K x' s' ∧ SRel w A os' hd' x' v := by
  unfold AS.take at hk
  split at hk
  · rename_i cs
    cases hx with
    | pure _ _ _ h ho _ => simp [AV.isOwn] at ho
    | tup _ vs _ g hn hc hF hd0 =>
      have := enterL (step := fun s x K => s.in2 x K) (all := fun s l K => s.in2L l K) (W := W) (w := w) (A := A) (fun s K h => h) (fun s x l K h => h) (fun s hd F x v G K h1 h2 h3 h4 => in2_sound h1 h2 h3 h4)
        cs vs.toList g s hd F _ hw (by simpa using hn) (fun i x hx => by rw [toList_getD]; exact hc i x hx) (fun i y hi hy => hG y ((hF y).2 ⟨i, hi, hy⟩)) (fun i j y hi hj h1 h2 => hd0 i j y hi hj h1 h2) hk
      exact this.mono (fun y hy => (hF y).2 hy) fun s' hd' os' ⟨l', h1, h2, h3⟩ => ⟨_, h1, .tup _ _ (by simpa using h2.symm) (fun i x hx => by rw [← toList_getD]; exact h3 i x hx)⟩
  · exact in2_sound hw hx hG hk
end trans
end Go.Proofs.Ytjenekakcoggpaa
