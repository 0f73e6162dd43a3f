/- Soundness of calls that change what they are lent. -/
import Derived.Test.YtjenekakcoggpaaAxOps5
namespace Go.Proofs.Ytjenekakcoggpaa
set_option linter.unusedVariables false
set_option linter.unusedSimpArgs false
open Go Go.RowKit

section
variable {P : Program} {np : Nat} {L : Lay} {W : WM} {w w' : World} {A : Nat → Prop} {os os' : List Obj} {hd hd' : Nat → Value} {F F' : Nat → Nat → Prop} {s : AS} {a : Act}

theorem memB_iff (n : Nat) : ∀ l : List Nat, memB n l = true ↔ n ∈ l
  | [] => by simp [memB]
  | m :: l => by
    unfold memB
    split
    · rename_i h; subst h; simp
    · rename_i h; rw [memB_iff n l]; simp [Ne.symm h]
theorem nodupB_spec : ∀ {l : List Nat}, nodupB l = true → l.Nodup
  | [], _ => List.nodup_nil
  | n :: l, h => by
    unfold nodupB at h
    split at h
    · cases h
    · rename_i h1
      refine List.nodup_cons.2 ⟨fun h2 => ?_, nodupB_spec h⟩
      rw [(memB_iff n l).2 h2] at h1; cases h1

/-- Several objects change in place at once. -/
theorem CW.setMany (h : CW W w A os hd F) (ids : List Nat) {os' : List Obj} (Gn : Nat → Nat → Prop) (hlen : os'.length = os.length)
    (hk : Keeps (fun x => ∃ id ∈ ids, F id x) w w') (hout : ∀ id, id ∉ ids → os'[id]? = os[id]?)
    (hin : ∀ id ∈ ids, os'[id]? = some .dead ∨ ∃ k es es', os[id]? = some (.row k es) ∧ os'[id]? = some (.row k es') ∧ es'.length = es.length ∧ XRel w' A (.sl true k es') (hd id) (Gn id))
    (hG : ∀ id ∈ ids, ∀ x, Gn id x → (∃ j ∈ ids, F j x) ∨ w.heap.size ≤ x ∧ x < w'.heap.size)
    (hdj : ∀ id ∈ ids, ∀ j ∈ ids, ∀ x, Gn id x → Gn j x → id = j) :
    CW W w' A os' hd (fun id x => (id ∈ ids ∧ Gn id x) ∨ (id ∉ ids ∧ F id x)) ∧ ∀ y u, SRel w A os hd y u → SRel w' A os' hd y u := by
  have hA : ∀ y, A y → y < w.heap.size ∧ ¬ ∃ id ∈ ids, F id y := fun y hy => ⟨(h.hA y hy).1, fun ⟨id, _, h'⟩ => (h.hA y hy).2 id h'⟩
  have hm : ∀ y u, SRel w A os hd y u → SRel w' A os' hd y u := fun y u hy => by
    refine (hy.keepG hA hk).os_mono (by omega) (fun i k es'' hi h' => ?_) (fun i cs' hi h' => ?_)
    · by_cases hmem : i ∈ ids
      · rcases hin i hmem with h1 | ⟨k0, es, es', h1, h2, h3, _⟩
        · rw [h1] at h'; cases h'
        · rw [h2] at h'; cases h'; exact ⟨es, h1, h3.symm, rfl⟩
      · rw [hout i hmem] at h'; exact ⟨es'', h', rfl, rfl⟩
    · by_cases hmem : i ∈ ids
      · rcases hin i hmem with h1 | ⟨k0, es, es', h1, h2, h3, _⟩
        · rw [h1] at h'; cases h'
        · rw [h2] at h'; cases h'
      · rw [hout i hmem] at h'; exact ⟨cs', h', rfl⟩
  have hF : ∀ j, j ∉ ids → ∀ x, F j x → x < w.heap.size ∧ ¬ ∃ id ∈ ids, F id x := fun j hj x hx => ⟨(h.fsz j x hx).2, fun ⟨id, h1, h2⟩ => hj (by rw [h.disj _ _ _ hx h2]; exact h1)⟩
  refine ⟨⟨h.below.keep hk (fun x ⟨id, _, h'⟩ => (h.fsz id x h').1), fun x hx => ⟨Nat.lt_of_lt_of_le (hA x hx).1 hk.size, fun i hi => ?_⟩, fun i x hx => ?_, fun i j x hi hj => ?_, fun i k es h' => ?_, fun i cs h' => ?_, fun p hp => ⟨by rw [hlen]; exact (h.pin p hp).1, (h.pin p hp).2⟩, h.old⟩, hm⟩
  · rcases hi with ⟨h1, h2⟩ | ⟨_, h2⟩
    · rcases hG i h1 x h2 with h3 | h3
      · exact (hA x hx).2 h3
      · have := (hA x hx).1; omega
    · exact (h.hA x hx).2 i h2
  · rcases hx with ⟨h1, h2⟩ | ⟨_, h2⟩
    · rcases hG i h1 x h2 with ⟨j, _, h3⟩ | h3
      · exact ⟨(h.fsz j x h3).1, Nat.lt_of_lt_of_le (h.fsz j x h3).2 hk.size⟩
      · exact ⟨h.below.new h3.1, h3.2⟩
    · exact ⟨(h.fsz i x h2).1, Nat.lt_of_lt_of_le (h.fsz i x h2).2 hk.size⟩
  · rcases hi with ⟨h1, h2⟩ | ⟨h1, h2⟩ <;> rcases hj with ⟨k1, k2⟩ | ⟨k1, k2⟩
    · exact hdj i h1 j k1 x h2 k2
    · exfalso
      rcases hG i h1 x h2 with h3 | h3
      · exact (hF j k1 x k2).2 h3
      · have := (hF j k1 x k2).1; omega
    · exfalso
      rcases hG j k1 x k2 with h3 | h3
      · exact (hF i h1 x h2).2 h3
      · have := (hF i h1 x h2).1; omega
    · exact h.disj i j x h2 k2
  · by_cases hmem : i ∈ ids
    · rcases hin i hmem with h1 | ⟨k0, es0, es', h1, h2, h3, h4⟩
      · rw [h1] at h'; cases h'
      · rw [h2] at h'; cases h'
        exact h4.congr (fun x => ⟨fun h => h.elim (fun h => h.2) (fun h => (h.1 hmem).elim), fun h => .inl ⟨hmem, h⟩⟩)
    · rw [hout i hmem] at h'
      exact ((h.rows i k es h').mono (fun _ h => h) (fun x hx => hx.elim (fun hx => hk.block x (hA x hx).1 (hA x hx).2) (fun hx => hk.block x (hF i hmem x hx).1 (hF i hmem x hx).2))).congr
        (fun x => ⟨fun h => h.elim (fun h => (hmem h.1).elim) (fun h => h.2), fun h => .inr ⟨hmem, h⟩⟩)
  · by_cases hmem : i ∈ ids
    · rcases hin i hmem with h1 | ⟨k0, es0, es', h1, h2, h3, h4⟩
      · rw [h1] at h'; cases h'
      · rw [h2] at h'; cases h'
    · rw [hout i hmem] at h'
      obtain ⟨b, T, c, e1, e2, e3, e4, e5⟩ := h.boxes i cs h'
      exact ⟨b, T, c, e1, by rw [hk.block b (hF i hmem b e5).1 (hF i hmem b e5).2]; exact e2, e3, fun j x hx => hm _ _ (e4 j x hx), .inr ⟨hmem, e5⟩⟩

/-- What the callee may read. -/
def Rd (w : World) (F : Nat → Nat → Prop) (ids : List Nat) (b : Nat) : Prop := b < w.heap.size ∧ ¬ ∃ id ∈ ids, F id b

theorem Rel.unown {w : World} {A : Nat → Prop} {t k es v} (h : Rel w A (.sl t k es) v) : Rel w A (.sl false k es) v := by
  cases h with
  | sl _ _ _ _ _ b off val hl hcap hp hk' hc h1c hr => exact .sl _ _ _ _ _ b off val hl hcap hp hk' hc h1c hr

theorem Rel.rd (hw : CW W w A os hd F) (ids : List Nat) {x v} (h : Rel w A x v) : Rel w (Rd w F ids) x v :=
  h.mono (fun _ _ => rfl) (fun y hy => ⟨(hw.hA y hy).1, fun ⟨id, _, h'⟩ => (hw.hA y hy).2 id h'⟩)

theorem lendA_sound (hw : CW W w A s.os hd F) {ids : List Nat} (hids : ∀ id ∈ ids, ∃ k es, s.os[id]? = some (.row k es)) {x v y} (hx : SRel w A s.os hd x v) (hl : s.lendA x = some y) : Rel w (Rd w F ids) y v ∧ y.isOwn = false := by
  unfold AS.lendA at hl
  split at hl
  case h_1 => cases hl; exact ⟨(hx.pure_inv trivial).rd hw ids, rfl⟩
  case h_2 => cases hl; exact ⟨(hx.pure_inv trivial).rd hw ids, rfl⟩
  case h_3 => cases hl; exact ⟨(hx.pure_inv trivial).rd hw ids, rfl⟩
  case h_4 => cases hl; exact ⟨(hx.pure_inv trivial).rd hw ids, rfl⟩
  case h_5 => cases hl; exact ⟨(hx.pure_inv trivial).rd hw ids, rfl⟩
  case h_6 => cases hl; exact ⟨(hx.sl_inv.unown).rd hw ids, rfl⟩
  case h_7 => cases hl; exact ⟨(hx.pure_inv trivial).rd hw ids, rfl⟩
  case h_8 => cases hl; exact ⟨(hx.pure_inv trivial).rd hw ids, rfl⟩
  case h_9 =>
    split at hl
    · rename_i id off _ cs ho
      split at hl
      · rename_i hp
        cases hl
        obtain ⟨b, T, c, e1, e2, e3, e4, hpt, hc⟩ := box_pt hw ho
        obtain ⟨b', e5, e6⟩ := hx.pb_inv ho
        rw [e1] at e5
        cases e5
        subst e6
        refine ⟨Rel.pp_of ⟨(hw.fsz id b e4).2, fun ⟨j, h1, h2⟩ => ?_⟩ (fun j x hx => ?_), rfl⟩
        · have := hw.disj _ _ _ e4 h2
          subst this
          obtain ⟨k, es, h3⟩ := hids _ h1
          rw [ho] at h3; cases h3
        · have hx0 := hx
          rw [List.getElem?_drop] at hx
          have h1 := hc (off + j) x hx
          have hj : off + j < c.size := by rw [e3]; exact (List.getElem?_eq_some_iff.1 hx).1
          refine ⟨c.getD (off + j) undef, by simp [World.cell?, e2, hj], ?_⟩
          have hpx : x.isPure = true := by
            have : ∀ (l : List AV), AV.allPure l = true → ∀ (i : Nat) x, l[i]? = some x → x.isPure = true := by
              intro l
              induction l with
              | nil => intro _ i x h; simp at h
              | cons y l ih =>
                intro h i x hx
                unfold AV.allPure at h
                split at h
                · cases i with
                  | zero => simp at hx; subst hx; assumption
                  | succ i => simp at hx; exact ih h i x hx
                · cases h
            exact this _ hp j x hx0
          have : Rel w A x (c.getD (off + j) undef) := by cases x <;> first | exact h1.pure_inv trivial | cases hpx
          exact this.rd hw ids
      · cases hl
    · cases hl
  case h_10 => cases hl

theorem lendCA_sound (hw : CW W w A s.os hd F) {ids : List Nat} (hids : ∀ id ∈ ids, ∃ k es, s.os[id]? = some (.row k es)) : ∀ (cs : List AV) (vs : List Value) (ys : List AV), vs.length = cs.length → (∀ (i : Nat) x, cs[i]? = some x → SRel w A s.os hd x (vs.getD i undef)) → s.lendCA cs = some ys →
    ys.length = vs.length ∧ ∀ (i : Nat) x, ys[i]? = some x → Rel w (Rd w F ids) x (vs.getD i undef) ∧ x.isOwn = false
  | [], vs, ys, hn, _, hk => by
    unfold AS.lendCA at hk; cases hk
    exact ⟨by simpa using hn.symm, fun i x hx => by simp at hx⟩
  | _ :: _, [], _, hn, _, _ => by simp at hn
  | x :: cs, v :: vs, ys, hn, hc, hk => by
    unfold AS.lendCA at hk
    split at hk
    · rename_i y m h1 h2
      cases hk
      have hx' := lendA_sound hw hids (by simpa using hc 0 x (by simp)) h1
      obtain ⟨hl, hcs⟩ := lendCA_sound hw hids cs vs m (by simpa using hn) (fun i y hy => by simpa using hc (i + 1) y (by simpa using hy)) h2
      refine ⟨by simp [hl], fun i y hy => ?_⟩
      cases i with
      | zero => simp at hy; subst hy; simpa using hx'
      | succ i => simp at hy; simpa using hcs i y hy
    · cases hk

theorem cellA_sound (hw : CW W w A s.os hd F) {ids : List Nat} (hids : ∀ id ∈ ids, ∃ k es, s.os[id]? = some (.row k es)) {x v y} (hx : SRel w A s.os hd x v) (hl : s.cellA x = some y) : Rel w (Rd w F ids) y v := by
  unfold AS.cellA at hl
  split at hl
  · rename_i f cs
    split at hl
    · rename_i cs' hc
      cases hl
      obtain ⟨vs, rfl, hn, hcs⟩ := hx.fn_inv
      obtain ⟨h1, h2⟩ := lendCA_sound hw hids cs vs.toList cs' (by simpa using hn) (fun i x hx => by rw [toList_getD]; exact hcs i x hx) hc
      exact .fn _ _ _ (by simpa using h1.symm) (fun i x hx => by rw [← toList_getD]; exact (h2 i x hx).1)
    · cases hl
  · split at hl
    · rename_i hp
      cases hl
      have : Rel w A x v := by cases x <;> first | exact hx.pure_inv trivial | cases hp
      exact this.rd hw ids
    · cases hl
theorem cellsA_get : ∀ {cs ys : List AV}, s.cellsA cs = some ys → ∀ {i : Nat} {y : AV}, ys[i]? = some y → ∃ x, cs[i]? = some x ∧ s.cellA x = some y
  | [], ys, h, i, y, hy => by unfold AS.cellsA at h; cases h; simp at hy
  | x :: cs, ys, h, i, y, hy => by
    unfold AS.cellsA at h
    split at h
    · rename_i z m h1 h2
      cases h
      cases i with
      | zero => simp at hy; subst hy; exact ⟨x, rfl, h1⟩
      | succ i => simp at hy; obtain ⟨x', g1, g2⟩ := cellsA_get h2 hy; exact ⟨x', by simpa using g1, g2⟩
    · cases h
theorem lend0_sound (hw : CW W w A s.os hd F) {ids : List Nat} (hids : ∀ id ∈ ids, ∃ k es, s.os[id]? = some (.row k es)) {x v y} (hx : SRel w A s.os hd x v) (hl : s.lend0 x = some y) : Rel w (Rd w F ids) y v ∧ y.isOwn = false := by
  unfold AS.lend0 at hl
  split at hl
  · rename_i id off
    split at hl
    · rename_i cs ho
      split at hl
      · rename_i cs' hcs
        cases hl
        obtain ⟨b, T, c, e1, e2, e3, e4, hpt, hc⟩ := box_pt hw ho
        obtain ⟨b', e5, e6⟩ := hx.pb_inv ho
        rw [e1] at e5
        cases e5
        subst e6
        refine ⟨Rel.pp_of ⟨(hw.fsz id b e4).2, fun ⟨j, h1, h2⟩ => ?_⟩ (fun j y hy => ?_), rfl⟩
        · have := hw.disj _ _ _ e4 h2
          subst this
          obtain ⟨k, es, h3⟩ := hids _ h1
          rw [ho] at h3; cases h3
        · obtain ⟨x, hx, hxy⟩ := cellsA_get hcs hy
          rw [List.getElem?_drop] at hx
          have h1 := hc (off + j) x hx
          have hj : off + j < c.size := by rw [e3]; exact (List.getElem?_eq_some_iff.1 hx).1
          exact ⟨c.getD (off + j) undef, by simp [World.cell?, e2, hj], cellA_sound hw hids h1 hxy⟩
      · cases hl
    · cases hl
  · exact lendA_sound hw hids hx hl

theorem lendC_sound (hw : CW W w A s.os hd F) {ids : List Nat} (hids : ∀ id ∈ ids, ∃ k es, s.os[id]? = some (.row k es)) : ∀ (cs : List AV) (vs : List Value) (ys : List AV), vs.length = cs.length → (∀ (i : Nat) x, cs[i]? = some x → SRel w A s.os hd x (vs.getD i undef)) → s.lendC cs = some ys →
    ys.length = vs.length ∧ ∀ (i : Nat) x, ys[i]? = some x → Rel w (Rd w F ids) x (vs.getD i undef) ∧ x.isOwn = false
  | [], vs, ys, hn, _, hk => by
    unfold AS.lendC at hk; cases hk
    exact ⟨by simpa using hn.symm, fun i x hx => by simp at hx⟩
  | _ :: _, [], _, hn, _, _ => by simp at hn
  | x :: cs, v :: vs, ys, hn, hc, hk => by
    unfold AS.lendC at hk
    split at hk
    · rename_i y m h1 h2
      cases hk
      have hx' := lend0_sound hw hids (by simpa using hc 0 x (by simp)) h1
      obtain ⟨hl, hcs⟩ := lendC_sound hw hids cs vs m (by simpa using hn) (fun i y hy => by simpa using hc (i + 1) y (by simpa using hy)) h2
      refine ⟨by simp [hl], fun i y hy => ?_⟩
      cases i with
      | zero => simp at hy; subst hy; simpa using hx'
      | succ i => simp at hy; simpa using hcs i y hy
    · cases hk

theorem lend_sound (hw : CW W w A s.os hd F) {ids : List Nat} (hids : ∀ id ∈ ids, ∃ k es, s.os[id]? = some (.row k es)) {x v y} (hx : SRel w A s.os hd x v) (hsub : ∀ id ∈ idsOf x, id ∈ ids) (hl : s.lend x = some y) : XRel w (Rd w F ids) y v (fun b => ∃ id ∈ idsOf x, F id b) := by
  unfold AS.lend at hl
  split at hl
  · rename_i id
    split at hl
    · rename_i k es ho
      cases hl
      rw [hx.ob_inv ho]
      refine ((hw.rows id k es ho).mono (A' := Rd w F ids) (fun y hy => ⟨(hw.hA y hy).1, fun ⟨id, _, h'⟩ => (hw.hA y hy).2 id h'⟩) (fun _ _ => rfl)).congr fun b => ?_
      simp [idsOf]
    · cases hl
  · rename_i f cs
    split at hl
    · rename_i cs' hc
      cases hl
      obtain ⟨vs, rfl, hn, hcs⟩ := hx.fn_inv
      obtain ⟨h1, h2⟩ := lendC_sound hw hids cs vs.toList cs' (by simpa using hn) (fun i x hx => by rw [toList_getD]; exact hcs i x hx) hc
      exact .pure _ _ _ (.fn _ _ _ (by simpa using h1.symm) (fun i x hx => by rw [← toList_getD]; exact (h2 i x hx).1)) rfl (fun b ⟨id, h, _⟩ => by simp [idsOf] at h)
    · cases hl
  · rename_i h1 h2
    obtain ⟨h3, h4⟩ := lend0_sound hw hids hx hl
    exact .pure _ _ _ h3 h4 (fun b ⟨id, h, _⟩ => by cases x <;> first | exact h1 _ rfl | simp [idsOf] at h)

theorem lendL_sound (hw : CW W w A s.os hd F) {ids : List Nat} (hids : ∀ id ∈ ids, ∃ k es, s.os[id]? = some (.row k es)) : ∀ (cs : List AV) (vs : List Value) (ys : List AV), vs.length = cs.length → (∀ (i : Nat) x, cs[i]? = some x → SRel w A s.os hd x (vs.getD i undef)) → (∀ id ∈ idsL cs, id ∈ ids) → s.lendL cs = some ys →
    ys.length = vs.length ∧ ∀ (i : Nat) y, ys[i]? = some y → XRel w (Rd w F ids) y (vs.getD i undef) (fun b => ∃ x, cs[i]? = some x ∧ ∃ id ∈ idsOf x, F id b)
  | [], vs, ys, hn, _, _, hk => by
    unfold AS.lendL at hk; cases hk
    exact ⟨by simpa using hn.symm, fun i x hx => by simp at hx⟩
  | _ :: _, [], _, hn, _, _, _ => by simp at hn
  | x :: cs, v :: vs, ys, hn, hc, hs, hk => by
    unfold AS.lendL at hk
    split at hk
    · rename_i y m h1 h2
      cases hk
      have hx' := lend_sound hw hids (by simpa using hc 0 x (by simp)) (fun id h => hs id (by unfold idsL; exact List.mem_append_left _ h)) h1
      obtain ⟨hl, hcs⟩ := lendL_sound hw hids cs vs m (by simpa using hn) (fun i y hy => by simpa using hc (i + 1) y (by simpa using hy)) (fun id h => hs id (by unfold idsL; exact List.mem_append_right _ h)) h2
      refine ⟨by simp [hl], fun i y hy => ?_⟩
      cases i with
      | zero => simp at hy; subst hy; simpa using hx'
      | succ i => simp at hy; simpa using hcs i y hy
    · cases hk

theorem lendL_ids : ∀ {cs ys : List AV}, s.lendL cs = some ys → ∀ id ∈ idsL cs, ∃ k es, s.os[id]? = some (.row k es)
  | [], _, _, id, h => by simp [idsL] at h
  | x :: cs, ys, hk, id, h => by
    unfold AS.lendL at hk
    split at hk
    · rename_i y m h1 h2
      unfold idsL at h
      rcases List.mem_append.1 h with h | h
      · cases x <;> simp [idsOf] at h
        subst h
        unfold AS.lend at h1
        simp only at h1
        split at h1
        · rename_i k es ho; exact ⟨k, es, ho⟩
        · cases h1
      · exact lendL_ids h2 id h
    · cases hk

theorem mem_idsL {cs : List AV} {i id : Nat} (h : cs[i]? = some (.ob id)) : id ∈ idsL cs := by
  induction cs generalizing i with
  | nil => simp at h
  | cons x cs ih =>
    unfold idsL
    cases i with
    | zero => simp at h; subst h; simp [idsOf]
    | succ i => exact List.mem_append_right _ (ih (by simpa using h))
theorem idsL_mem {cs : List AV} {id : Nat} (h : id ∈ idsL cs) : ∃ i : Nat, cs[i]? = some (AV.ob id) := by
  induction cs with
  | nil => simp [idsL] at h
  | cons x cs ih =>
    unfold idsL at h
    rcases List.mem_append.1 h with h | h
    · cases x <;> simp [idsOf] at h
      subst h; exact ⟨0, rfl⟩
    · obtain ⟨i, hi⟩ := ih h; exact ⟨i + 1, by simpa using hi⟩
theorem idsL_inj {cs : List AV} (hn : (idsL cs).Nodup) {i j id : Nat} (hi : cs[i]? = some (.ob id)) (hj : cs[j]? = some (.ob id)) : i = j := by
  induction cs generalizing i j with
  | nil => simp at hi
  | cons x cs ih =>
    unfold idsL at hn
    rw [List.nodup_append] at hn
    cases i with
    | zero =>
      cases j with
      | zero => rfl
      | succ j =>
        simp at hi hj; subst hi
        exact (hn.2.2 id (by simp [idsOf]) id (mem_idsL hj) rfl).elim
    | succ i =>
      cases j with
      | zero =>
        simp at hi hj; subst hj
        exact (hn.2.2 id (by simp [idsOf]) id (mem_idsL hi) rfl).elim
      | succ j => exact congrArg (· + 1) (ih hn.2.1 (i := i) (j := j) (by simpa using hi) (by simpa using hj))

theorem wbs_spec : ∀ (xs ys : List AV) (os : List Obj) (K : List Obj → Prop), wbs (stdE np P) os xs ys K → (idsL xs).Nodup → (∀ id ∈ idsL xs, id < os.length) →
    ∃ os', K os' ∧ os'.length = os.length ∧ (∀ id, id ∉ idsL xs → os'[id]? = os[id]?) ∧
      ∀ (i id : Nat), xs[i]? = some (.ob id) → os'[id]? = some .dead ∨ ∃ k es es', os[id]? = some (.row k es) ∧ os'[id]? = some (.row k es') ∧ es'.length = es.length ∧ ys[i]? = some (.sl true k es')
  | [], ys, os, K, hk, _, _ => ⟨os, by unfold wbs at hk; exact hk, rfl, fun _ _ => rfl, fun i id h => by simp at h⟩
  | x :: xs, [], os, K, hk, _, _ => by unfold wbs at hk; exact hk.elim
  | x :: xs, y :: ys, os, K, hk, hn, hlt => by
    unfold wbs at hk
    unfold idsL at hn hlt
    have hn2 := (List.nodup_append.1 hn).2.1
    have stay : (∀ id, x ≠ .ob id) → wbs (stdE np P) os xs ys K → ∃ os', K os' ∧ os'.length = os.length ∧ (∀ id, id ∉ idsL (x :: xs) → os'[id]? = os[id]?) ∧
        ∀ (i id : Nat), (x :: xs)[i]? = some (.ob id) → os'[id]? = some .dead ∨ ∃ k es es', os[id]? = some (.row k es) ∧ os'[id]? = some (.row k es') ∧ es'.length = es.length ∧ (y :: ys)[i]? = some (.sl true k es') := fun hno hk => by
      obtain ⟨os', h1, h2, h3, h4⟩ := wbs_spec xs ys os K hk hn2 (fun id h => hlt id (List.mem_append_right _ h))
      refine ⟨os', h1, h2, fun id h => h3 id (fun h' => h (by unfold idsL; exact List.mem_append_right _ h')), fun i id hi => ?_⟩
      cases i with
      | zero => simp at hi; exact (hno id hi).elim
      | succ i => exact h4 i id (by simpa using hi)
    unfold wb at hk
    split at hk
    · rename_i id
      have hid : id < os.length := hlt id (by simp [idsOf])
      have hnot : id ∉ idsL xs := fun h => (List.nodup_append.1 hn).2.2 id (by simp [idsOf]) id h rfl
      have go : ∀ o, wbs (stdE np P) (os.set id o) xs ys K → (o = .dead ∨ ∃ k es es', os[id]? = some (.row k es) ∧ o = .row k es' ∧ es'.length = es.length ∧ y = .sl true k es') →
          ∃ os', K os' ∧ os'.length = os.length ∧ (∀ id', id' ∉ idsL (.ob id :: xs) → os'[id']? = os[id']?) ∧ ∀ (i id' : Nat), (AV.ob id :: xs)[i]? = some (.ob id') → os'[id']? = some .dead ∨ ∃ k es es', os[id']? = some (.row k es) ∧ os'[id']? = some (.row k es') ∧ es'.length = es.length ∧ (y :: ys)[i]? = some (.sl true k es') := fun o hk ho => by
        obtain ⟨os', h1, h2, h3, h4⟩ := wbs_spec xs ys (os.set id o) K hk hn2 (fun id h => by simpa using hlt id (List.mem_append_right _ h))
        have hs : os'[id]? = some o := by rw [h3 id hnot]; simp [hid]
        refine ⟨os', h1, by simpa using h2, fun id' h => ?_, fun i id' hi => ?_⟩
        · unfold idsL at h
          have h5 : id' ≠ id := fun e => h (by subst e; simp [idsOf])
          rw [h3 id' (fun h' => h (List.mem_append_right _ h')), List.getElem?_set, if_neg (Ne.symm h5)]
        · cases i with
          | zero =>
            simp at hi; subst hi
            rcases ho with rfl | ⟨k, es, es', g1, rfl, g2, rfl⟩
            · exact .inl hs
            · exact .inr ⟨k, es, es', g1, hs, g2, rfl⟩
          | succ i =>
            have hi' : xs[i]? = some (.ob id') := by simpa using hi
            have h5 : id' ≠ id := fun e => hnot (by rw [← e]; exact mem_idsL hi')
            rcases h4 i id' hi' with g | ⟨k, es, es', g1, g2, g3, g4⟩
            · exact .inl g
            · rw [List.getElem?_set, if_neg (Ne.symm h5)] at g1
              exact .inr ⟨k, es, es', g1, g2, g3, by simpa using g4⟩
      split at hk
      · rename_i k es'
        split at hk
        · rename_i k0 es ho
          split at hk
          · rename_i e
            subst e
            obtain ⟨g1, hk⟩ := hk
            exact go _ hk (.inr ⟨_, es, es', ho, rfl, g1, rfl⟩)
          · exact hk.elim
        · exact hk.elim
      · exact go _ hk (.inl rfl)
    · rename_i h
      exact stay (fun id e => h id e) hk

/-- A call that changes what it is lent. -/
theorem step_callM (hw : CW W w A s.os hd F) (hf : FR w A s.os hd s.fr a) {dst ty pos af g} {c : Call} {f : FuncId} {caps args : List AV} {K : AV → AS → Prop} (hcal : s.callee c = some (f, caps))
    (hl : s.lendL (c.args.toList.map s.get ++ caps) = some args) (hnd : nodupB (idsL (c.args.toList.map s.get ++ caps)) = true)
    (run : ∀ {fo : Operand} {vs : Array Value}, c.callee = .value fo → a.eval fo = .func (.func f) #[] vs → Enters P f → (execOp a.eval ⟨dst, .call c, ty, pos, af, g⟩).run P w = .ok (.enter f (c.args.map a.eval ++ vs)) w)
    (enter : ∀ {o : Oper} {next : Act → World → Prop} {Q : Exit → Act → World → Prop} {f : FuncId} {args : Array Value} {R : Value → World → Prop}, (execOp a.eval o).run P w = .ok (.enter f args) w → (Calls P f args w fun e w' => ∃ v, e = .returned v ∧ R v w') → (∀ v w', R v w' → next (a.put o.dst v) w') → o.wp P a w next Q)
    (hk : (stdE np P).callM f args fun r args' => wbs (stdE np P) s.os (c.args.toList.map s.get ++ caps) args' fun os' => (AS.mk s.fr os').take r K) : StepOK P W w s a ⟨dst, .call c, ty, pos, af, g⟩ K := by
  intro next Q hn
  have hnd' := nodupB_spec hnd
  generalize hids : idsL (c.args.toList.map s.get ++ caps) = ids at *
  have hrow := lendL_ids hl
  rw [hids] at hrow
  unfold AS.callee at hcal
  split at hcal
  · rename_i fo hce
    split at hcal
    · rename_i f' caps' hg
      cases hcal
      have h1 := hf.get fo
      rw [hg] at h1
      obtain ⟨vs, e1, e2, e3⟩ := h1.fn_inv
      have hargs : ∀ (i : Nat) x, (c.args.toList.map s.get ++ caps)[i]? = some x → SRel w A s.os hd x ((c.args.toList.map a.eval ++ vs.toList).getD i undef) := fun i x hx => by
        rw [List.getElem?_append] at hx
        rw [List.getD_eq_getElem?_getD, List.getElem?_append]
        simp only [List.length_map] at hx ⊢
        split
        · rename_i hi
          rw [if_pos hi, List.getElem?_map] at hx
          rw [List.getElem?_map]
          cases hc : c.args.toList[i]? with
          | none => simp [hc] at hx
          | some y =>
            simp [hc] at hx
            subst hx
            simpa using hf.get y
        · rename_i hi
          rw [if_neg hi] at hx
          rw [← List.getD_eq_getElem?_getD, toList_getD]
          exact e3 _ x hx
      generalize hxs : c.args.toList.map s.get ++ caps = xs at *
      obtain ⟨Qc, hac, hk⟩ := hk
      obtain ⟨h3, h4⟩ := lendL_sound hw hrow xs (c.args.toList.map a.eval ++ vs.toList) args (by rw [← hxs]; simp [e2]) hargs (fun id h => by rw [← hids]; exact h) hl
      have hlen : xs.length = args.length := by rw [h3, ← hxs]; simp [e2]
      have hX : XRel w (Rd w F ids) (.tup args) (.tuple (c.args.map a.eval ++ vs)) (fun b => ∃ id ∈ ids, F id b) := by
        refine .tup _ _ _ (fun i b => ∃ x, xs[i]? = some x ∧ ∃ id ∈ idsOf x, F id b) (by rw [h3]; simp) (fun i x hx => ?_) (fun b => ⟨fun ⟨id, g1, g2⟩ => ?_, fun ⟨i, _, x, g1, id, g2, g3⟩ => ?_⟩) (fun i j b hi hj ⟨x, g1, id, g2, g3⟩ ⟨x', g1', id', g2', g3'⟩ => ?_)
        · have := h4 i x hx
          rwa [← toList_getD, Array.toList_append, Array.toList_map]
        · rw [← hids] at g1
          obtain ⟨i, hi⟩ := idsL_mem g1
          exact ⟨i, by rw [← hlen]; exact (List.getElem?_eq_some_iff.1 hi).1, _, hi, id, by simp [idsOf], g2⟩
        · have hx : x = .ob id := by cases x <;> simp [idsOf] at g2; rw [g2]
          subst hx
          exact ⟨id, by rw [← hids]; exact mem_idsL g1, g3⟩
        · have hx : x = .ob id := by cases x <;> simp [idsOf] at g2; rw [g2]
          have hx' : x' = .ob id' := by cases x' <;> simp [idsOf] at g2'; rw [g2']
          subst hx hx'
          have := hw.disj _ _ _ g3 g3'
          subst this
          exact idsL_inj (by rw [hids]; exact hnd') g1 g1'
      refine enter (run hce e1 hac.1) (R := fun v w' => ∃ G r args', Qc r args' ∧ Keeps (fun b => ∃ id ∈ ids, F id b) w w' ∧ XRel w' (fun _ => False) (.tup (r :: args')) (.tuple (#[v] ++ (c.args.map a.eval ++ vs))) G ∧ ∀ b, G b → (∃ id ∈ ids, F id b) ∨ w.heap.size ≤ b ∧ b < w'.heap.size)
        ((hac.2 w (Rd w F ids) _ _ hX (fun b hb => hb) (fun b ⟨id, _, h⟩ => (hw.fsz id b h).2)).mono fun e w' ⟨v, G, r, args', g0, g1, g2, g3, g4⟩ => ⟨v, g1, G, r, args', g0, g2, g3, g4⟩) fun v w' ⟨G, r, args', hq, g1, g2, g3⟩ => ?_
      replace hk := hk r args' hq
      cases g2 with
      | pure _ _ _ h ho _ => simp [AV.isOwn] at ho
      | tup _ _ _ Gi hn' hc hF hd0 =>
        obtain ⟨os', hk, k1, k2, k3⟩ := wbs_spec xs args' s.os _ hk (by rw [hids]; exact hnd') (fun id h => by
          rw [hids] at h; obtain ⟨k, es, ho⟩ := hrow id h; exact (List.getElem?_eq_some_iff.1 ho).1)
        have val : ∀ (i id : Nat), xs[i]? = some (.ob id) → ∀ k es, s.os[id]? = some (.row k es) → (#[v] ++ (c.args.map a.eval ++ vs)).getD (i + 1) undef = hd id := fun i id hi k es ho => by
          have := (hargs i _ hi).ob_inv ho
          rw [← this, ← toList_getD, Array.toList_append, Array.toList_append, Array.toList_map]
          simp [List.getD_eq_getElem?_getD]
        have sub : ∀ (i : Nat) b, i < (r :: args').length → Gi i b → (∃ id ∈ ids, F id b) ∨ w.heap.size ≤ b ∧ b < w'.heap.size := fun i b hi h => g3 b ((hF b).2 ⟨i, hi, h⟩)
        have inl : ∀ {i : Nat} {y : AV}, args'[i]? = some y → i + 1 < (r :: args').length := fun {i y} h => by have := (List.getElem?_eq_some_iff.1 h).1; simpa using this
        let Gn : Nat → Nat → Prop := fun id b => ∃ i k es, xs[i]? = some (.ob id) ∧ args'[i]? = some (.sl true k es) ∧ Gi (i + 1) b
        obtain ⟨hw2, hm2⟩ := hw.setMany ids Gn k1 g1 (fun id h => k2 id (by rw [hids]; exact h)) (fun id h => by
            rw [← hids] at h
            obtain ⟨i, hi⟩ := idsL_mem h
            rcases k3 i id hi with q | ⟨k, es, es', q1, q2, q3, q4⟩
            · exact .inl q
            · refine .inr ⟨k, es, es', q1, q2, q3, ?_⟩
              have := hc (i + 1) (.sl true k es') (by simpa using q4)
              rw [val i id hi k es q1] at this
              exact (this.mono (fun _ h => h.elim) (fun _ _ => rfl)).congr (fun b => ⟨fun ⟨j, k', es'', r1, r2, r3⟩ => by
                have := idsL_inj (by rw [hids]; exact hnd') r1 hi
                subst this; exact r3, fun h => ⟨i, k, es', hi, q4, h⟩⟩)) (fun id h b ⟨i, k, es, r1, r2, r3⟩ => sub (i + 1) b (inl r2) r3)
          (fun id h j hj b ⟨i, k, es, r1, r2, r3⟩ ⟨i', k', es', r1', r2', r3'⟩ => by
            have := hd0 _ _ b (inl r2) (inl r2') r3 r3'
            have : i = i' := by omega
            subst this
            rw [r1] at r1'; cases r1'; rfl)
        have h0 : XRel w' A r v (Gi 0) := by
          have := hc 0 r (by simp)
          rw [← toList_getD] at this
          have e : (#[v] ++ (c.args.map a.eval ++ vs)).toList.getD 0 undef = v := by simp [List.getD_eq_getElem?_getD]
          rw [e] at this
          exact this.mono (fun _ h => h.elim) (fun _ _ => rfl)
        obtain ⟨s', hd', F', q1, q2, q3, q4, x', q5, q6⟩ := take_sound (s := ⟨s.fr, os'⟩) hw2 h0 (fun b hb => by
          have h5 := sub 0 b (by simp) hb
          refine ⟨?_, ?_, fun hA => ?_, fun id hid => ?_⟩
          · rcases h5 with ⟨id, _, h⟩ | h
            · exact (hw.fsz id b h).1
            · exact hw.below.new h.1
          · rcases h5 with ⟨id, _, h⟩ | h
            · exact Nat.lt_of_lt_of_le (hw.fsz id b h).2 g1.size
            · exact h.2
          · rcases h5 with ⟨id, _, h⟩ | h
            · exact (hw.hA b hA).2 id h
            · have := (hw.hA b hA).1; omega
          · rcases hid with ⟨_, i, k, es, r1, r2, r3⟩ | ⟨h6, h7⟩
            · have := hd0 _ _ b (by simp) (inl r2) hb r3; omega
            · rcases h5 with ⟨id', h8, h⟩ | h
              · have := hw.disj _ _ _ h7 h; subst this; exact h6 h8
              · have := (hw.fsz id b h7).2; omega) hk
        exact hn x' s' v w' A hd' F' q5 q1 q2 (hf.os_mono fun z u h => q3 _ _ (hm2 _ _ h)) q6
    · cases hcal
  · cases hcal
end
end Go.Proofs.Ytjenekakcoggpaa
