/- Soundness of calls that change what they are lent. -/
import Derived.Test.YtlemeenicaidfaaGreatDoorAxC
namespace Go.Proofs.YtlemeenicaidfaaGreatDoor
set_option linter.unusedVariables false
set_option linter.unusedSimpArgs false
open Go Go.RowKit

section
variable {P : Program} {np : Nat} {L : Lay} {W : WM} {w w' : World} {A : Nat → Prop} {os os' : List Obj} {hd hd' : Nat → Value} {F F' : Nat → Nat → Prop} {s : AS} {a : Act}

theorem memB_iff (n : Nat) : ∀ l : List Nat, memB n l = true ↔ n ∈ l
 | [] => by simp [memB]
 | m :: l => by
  unfold memB
  split
  ·rename_i h; subst h; simp
  ·rename_i h; rw [memB_iff n l]; simp [Ne.symm h]
theorem nodupB_spec : ∀ {l : List Nat}, nodupB l = true → l.Nodup
 | [], _ => List.nodup_nil
 | n :: l, h => by
  unfold nodupB at h
  split at h
  ·cases h
  ·rename_i h1
   refine List.nodup_cons.2 ⟨fun h2 => ?_, nodupB_spec h⟩
   rw [(memB_iff n l).2 h2] at h1; cases h1

/-- Several objects change in place at once. -/
theorem CW.setMany [St] (h : CW W w A os hd F) (ids : List Nat) {os' : List Obj} (Gn : Nat → Nat → Prop) (hlen : os'.length = os.length)
  (hk : Keeps (fun x => ∃ id ∈ ids, F id x) w w') (hout : ∀ id, id ∉ ids → os'[id]? = os[id]?)
  (hin : ∀ id ∈ ids, os'[id]? = some .dead ∨ ∃ k es es', os[id]? = some (.row k es) ∧ os'[id]? = some (.row k es') ∧ es'.length = es.length ∧ XRel w' A (.sl true k es') (hd id) (Gn id))
  (hG : ∀ id ∈ ids, ∀ x, Gn id x → (∃ j ∈ ids, F j x) ∨ w.heap.size ≤ x ∧ x < w'.heap.size)
  (hdj : ∀ id ∈ ids, ∀ j ∈ ids, ∀ x, Gn id x → Gn j x → id = j) :
  CW W w' A os' hd (fun id x => (id ∈ ids ∧ Gn id x) ∨ (id ∉ ids ∧ F id x)) ∧ ∀ y u, SRel w A os hd y u → SRel w' A os' hd y u := by
 have hA : ∀ y, A y → y < w.heap.size ∧ ¬ ∃ id ∈ ids, F id y := fun y hy => ⟨(h.hA y hy).1, fun ⟨id, _, h'⟩ => (h.hA y hy).2 id h'⟩
 have hm : ∀ y u, SRel w A os hd y u → SRel w' A os' hd y u := fun y u hy => by
  refine (hy.keepG hA hk).os_mono (by omega) (fun i k es'' hi h' => ?_) (fun i cs' hi h' => ?_) (fun i s' p' hi h' => ?_)
  ·by_cases hmem : i ∈ ids
   ·rcases hin i hmem with h1 | ⟨k0, es, es', h1, h2, h3, _⟩
    ·rw [h1] at h'; cases h'
    ·rw [h2] at h'; cases h'; exact ⟨es, h1, h3.symm, rfl⟩
   ·rw [hout i hmem] at h'; exact ⟨es'', h', rfl, rfl⟩
  ·by_cases hmem : i ∈ ids
   ·rcases hin i hmem with h1 | ⟨k0, es, es', h1, h2, h3, _⟩
    ·rw [h1] at h'; cases h'
    ·rw [h2] at h'; cases h'
   ·rw [hout i hmem] at h'; exact ⟨cs', h', rfl⟩
  ·by_cases hmem : i ∈ ids
   ·rcases hin i hmem with h1 | ⟨k0, es, es', h1, h2, h3, _⟩
    ·rw [h1] at h'; cases h'
    ·rw [h2] at h'; cases h'
   ·rw [hout i hmem] at h'; exact ⟨s', p', h', rfl⟩
 have hF : ∀ j, j ∉ ids → ∀ x, F j x → x < w.heap.size ∧ ¬ ∃ id ∈ ids, F id x := fun j hj x hx => ⟨(h.fsz j x hx).2, fun ⟨id, h1, h2⟩ => hj (by rw [h.disj _ _ _ hx h2]; exact h1)⟩
 refine ⟨⟨h.below.keep hk (fun x ⟨id, _, h'⟩ => (h.fsz id x h').1), fun x hx => ⟨Nat.lt_of_lt_of_le (hA x hx).1 hk.size, fun i hi => ?_⟩, fun i x hx => ?_, fun i j x hi hj => ?_, fun i k es h' => ?_, fun i cs h' => ?_, fun i s' p' h' => ?_, fun p hp => ⟨by rw [hlen]; exact (h.pin p hp).1, (h.pin p hp).2⟩, h.old⟩, hm⟩
 ·rcases hi with ⟨h1, h2⟩ | ⟨_, h2⟩
  ·rcases hG i h1 x h2 with h3 | h3
   ·exact (hA x hx).2 h3
   ·have := (hA x hx).1; omega
  ·exact (h.hA x hx).2 i h2
 ·rcases hx with ⟨h1, h2⟩ | ⟨_, h2⟩
  ·rcases hG i h1 x h2 with ⟨j, _, h3⟩ | h3
   ·exact ⟨(h.fsz j x h3).1, Nat.lt_of_lt_of_le (h.fsz j x h3).2 hk.size⟩
   ·exact ⟨h.below.new h3.1, h3.2⟩
  ·exact ⟨(h.fsz i x h2).1, Nat.lt_of_lt_of_le (h.fsz i x h2).2 hk.size⟩
 ·rcases hi with ⟨h1, h2⟩ | ⟨h1, h2⟩ <;> rcases hj with ⟨k1, k2⟩ | ⟨k1, k2⟩
  ·exact hdj i h1 j k1 x h2 k2
  ·exfalso
   rcases hG i h1 x h2 with h3 | h3
   ·exact (hF j k1 x k2).2 h3
   ·have := (hF j k1 x k2).1; omega
  ·exfalso
   rcases hG j k1 x k2 with h3 | h3
   ·exact (hF i h1 x h2).2 h3
   ·have := (hF i h1 x h2).1; omega
  ·exact h.disj i j x h2 k2
 ·by_cases hmem : i ∈ ids
  ·rcases hin i hmem with h1 | ⟨k0, es0, es', h1, h2, h3, h4⟩
   ·rw [h1] at h'; cases h'
   ·rw [h2] at h'; cases h'
    exact h4.congr (fun x => ⟨fun h => h.elim (fun h => h.2) (fun h => (h.1 hmem).elim), fun h => .inl ⟨hmem, h⟩⟩)
  ·rw [hout i hmem] at h'
   exact ((h.rows i k es h').mono (fun _ h => h) (fun x hx => hx.elim (fun hx => hk.block x (hA x hx).1 (hA x hx).2) (fun hx => hk.block x (hF i hmem x hx).1 (hF i hmem x hx).2))).congr
    (fun x => ⟨fun h => h.elim (fun h => (hmem h.1).elim) (fun h => h.2), fun h => .inr ⟨hmem, h⟩⟩)
 ·by_cases hmem : i ∈ ids
  ·rcases hin i hmem with h1 | ⟨k0, es0, es', h1, h2, h3, h4⟩
   ·rw [h1] at h'; cases h'
   ·rw [h2] at h'; cases h'
  ·rw [hout i hmem] at h'
   obtain ⟨b, T, c, e1, e2, e3, e4, e5⟩ := h.boxes i cs h'
   exact ⟨b, T, c, e1, by rw [hk.block b (hF i hmem b e5).1 (hF i hmem b e5).2]; exact e2, e3, fun j x hx => hm _ _ (e4 j x hx), .inr ⟨hmem, e5⟩⟩
 ·by_cases hmem : i ∈ ids
  ·rcases hin i hmem with h1 | ⟨k0, es0, es', h1, h2, h3, h4⟩
   ·rw [h1] at h'; cases h'
   ·rw [h2] at h'; cases h'
  ·rw [hout i hmem] at h'
   obtain ⟨b, e1, e2, e3⟩ := h.iters i s' p' h'
   exact ⟨b, e1, by rw [hk.block b (hF i hmem b e3).1 (hF i hmem b e3).2]; exact e2, .inr ⟨hmem, e3⟩⟩

/-- What the callee may read. -/
def Rd (w : World) (F : Nat → Nat → Prop) (ids : List Nat) (b : Nat) : Prop := b < w.heap.size ∧ ¬ ∃ id ∈ ids, F id b

theorem Rel.unown {w : World} {A : Nat → Prop} {t k es v} (h : Rel w A (.sl t k es) v) : Rel w A (.sl false k es) v := by
 cases h with
 | sl _ _ _ _ _ b off val hl hcap hp hk' hc h1c hr => exact .sl _ _ _ _ _ b off val hl hcap hp hk' hc h1c hr

theorem Rel.rd [St] (hw : CW W w A os hd F) (ids : List Nat) {x v} (h : Rel w A x v) : Rel w (Rd w F ids) x v :=
 h.mono (fun _ _ => rfl) (fun y hy => ⟨(hw.hA y hy).1, fun ⟨id, _, h'⟩ => (hw.hA y hy).2 id h'⟩)

theorem lendA_sound [St] (hw : CW W w A s.os hd F) {ids : List Nat} (hids : ∀ id ∈ ids, ∃ k es, s.os[id]? = some (.row k es)) {x v y} (hx : SRel w A s.os hd x v) (hl : s.lendA x = some y) : Rel w (Rd w F ids) y v ∧ y.isOwn = false := by
 unfold AS.lendA at hl
 split at hl
 case h_1 => cases hl; exact ⟨(hx.pure_inv trivial).rd hw ids, rfl⟩
 case h_2 => cases hl; exact ⟨(hx.pure_inv trivial).rd hw ids, rfl⟩
 case h_3 => cases hl; exact ⟨(hx.pure_inv trivial).rd hw ids, rfl⟩
 case h_4 => cases hl; exact ⟨(hx.pure_inv trivial).rd hw ids, rfl⟩
 case h_5 => cases hl; exact ⟨(hx.pure_inv trivial).rd hw ids, rfl⟩
 case h_6 => cases hl; exact ⟨(hx.sl_inv.unown).rd hw ids, rfl⟩
 case h_7 => cases hl; exact ⟨(hx.pure_inv trivial).rd hw ids, rfl⟩
 case h_8 => cases hl; exact ⟨(hx.pure_inv trivial).rd hw ids, rfl⟩
 case h_9 =>
  split at hl
  ·rename_i id off _ cs ho
   split at hl
   ·rename_i hp
    cases hl
    obtain ⟨b, T, c, e1, e2, e3, e4, hpt, hc⟩ := box_pt hw ho
    obtain ⟨b', e5, e6⟩ := hx.pb_inv ho
    rw [e1] at e5
    cases e5
    subst e6
    refine ⟨Rel.pp_of ⟨(hw.fsz id b e4).2, fun ⟨j, h1, h2⟩ => ?_⟩ (fun j x hx => ?_), rfl⟩
    ·have := hw.disj _ _ _ e4 h2
     subst this
     obtain ⟨k, es, h3⟩ := hids _ h1
     rw [ho] at h3; cases h3
    ·have hx0 := hx
     rw [List.getElem?_drop] at hx
     have h1 := hc (off + j) x hx
     have hj : off + j < c.size := by rw [e3]; exact (List.getElem?_eq_some_iff.1 hx).1
     refine ⟨c.getD (off + j) undef, by simp [World.cell?, e2, hj], ?_⟩
     have hpx : x.isPure = true := by
      have : ∀ (l : List AV), AV.allPure l = true → ∀ (i : Nat) x, l[i]? = some x → x.isPure = true := by
       intro l
       induction l with
       | nil => intro _ i x h; simp at h
       | cons y l ih =>
        intro h i x hx
        unfold AV.allPure at h
        split at h
        ·cases i with
         | zero => simp at hx; subst hx; assumption
         | succ i => simp at hx; exact ih h i x hx
        ·cases h
      exact this _ hp j x hx0
     have : Rel w A x (c.getD (off + j) undef) := by cases x <;> first | exact h1.pure_inv trivial | cases hpx
     exact this.rd hw ids
   ·cases hl
  ·cases hl
 case h_10 => cases hl

theorem lendCA_sound [St] (hw : CW W w A s.os hd F) {ids : List Nat} (hids : ∀ id ∈ ids, ∃ k es, s.os[id]? = some (.row k es)) : ∀ (cs : List AV) (vs : List Value) (ys : List AV), vs.length = cs.length → (∀ (i : Nat) x, cs[i]? = some x → SRel w A s.os hd x (vs.getD i undef)) → s.lendCA cs = some ys →
  ys.length = vs.length ∧ ∀ (i : Nat) x, ys[i]? = some x → Rel w (Rd w F ids) x (vs.getD i undef) ∧ x.isOwn = false
 | [], vs, ys, hn, _, hk => by
  unfold AS.lendCA at hk; cases hk
  exact ⟨by simpa using hn.symm, fun i x hx => by simp at hx⟩
 | _ :: _, [], _, hn, _, _ => by simp at hn
 | x :: cs, v :: vs, ys, hn, hc, hk => by
  unfold AS.lendCA at hk
  split at hk
  ·rename_i y m h1 h2
   cases hk
   have hx' := lendA_sound hw hids (by simpa using hc 0 x (by simp)) h1
   obtain ⟨hl, hcs⟩ := lendCA_sound hw hids cs vs m (by simpa using hn) (fun i y hy => by simpa using hc (i + 1) y (by simpa using hy)) h2
   refine ⟨by simp [hl], fun i y hy => ?_⟩
   cases i with
   | zero => simp at hy; subst hy; simpa using hx'
   | succ i => simp at hy; simpa using hcs i y hy
  ·cases hk

theorem cellA_sound [St] (hw : CW W w A s.os hd F) {ids : List Nat} (hids : ∀ id ∈ ids, ∃ k es, s.os[id]? = some (.row k es)) {x v y} (hx : SRel w A s.os hd x v) (hl : s.cellA x = some y) : Rel w (Rd w F ids) y v := by
 unfold AS.cellA at hl
 split at hl
 ·rename_i f cs
  split at hl
  ·rename_i cs' hc
   cases hl
   obtain ⟨vs, rfl, hn, hcs⟩ := hx.fn_inv
   obtain ⟨h1, h2⟩ := lendCA_sound hw hids cs vs.toList cs' (by simpa using hn) (fun i x hx => by rw [toList_getD]; exact hcs i x hx) hc
   exact .fn _ _ _ (by simpa using h1.symm) (fun i x hx => by rw [← toList_getD]; exact (h2 i x hx).1)
  ·cases hl
 ·split at hl
  ·rename_i hp
   cases hl
   have : Rel w A x v := by cases x <;> first | exact hx.pure_inv trivial | cases hp
   exact this.rd hw ids
  ·cases hl
theorem cellsA_get : ∀ {cs ys : List AV}, s.cellsA cs = some ys → ∀ {i : Nat} {y : AV}, ys[i]? = some y → ∃ x, cs[i]? = some x ∧ s.cellA x = some y
 | [], ys, h, i, y, hy => by unfold AS.cellsA at h; cases h; simp at hy
 | x :: cs, ys, h, i, y, hy => by
  unfold AS.cellsA at h
  split at h
  ·rename_i z m h1 h2
   cases h
   cases i with
   | zero => simp at hy; subst hy; exact ⟨x, rfl, h1⟩
   | succ i => simp at hy; obtain ⟨x', g1, g2⟩ := cellsA_get h2 hy; exact ⟨x', by simpa using g1, g2⟩
  ·cases h
theorem lend0_sound [St] (hw : CW W w A s.os hd F) {ids : List Nat} (hids : ∀ id ∈ ids, ∃ k es, s.os[id]? = some (.row k es)) {x v y} (hx : SRel w A s.os hd x v) (hl : s.lend0 x = some y) : Rel w (Rd w F ids) y v ∧ y.isOwn = false := by
 unfold AS.lend0 at hl
 split at hl
 ·rename_i id off
  split at hl
  ·rename_i cs ho
   split at hl
   ·rename_i cs' hcs
    cases hl
    obtain ⟨b, T, c, e1, e2, e3, e4, hpt, hc⟩ := box_pt hw ho
    obtain ⟨b', e5, e6⟩ := hx.pb_inv ho
    rw [e1] at e5
    cases e5
    subst e6
    refine ⟨Rel.pp_of ⟨(hw.fsz id b e4).2, fun ⟨j, h1, h2⟩ => ?_⟩ (fun j y hy => ?_), rfl⟩
    ·have := hw.disj _ _ _ e4 h2
     subst this
     obtain ⟨k, es, h3⟩ := hids _ h1
     rw [ho] at h3; cases h3
    ·obtain ⟨x, hx, hxy⟩ := cellsA_get hcs hy
     rw [List.getElem?_drop] at hx
     have h1 := hc (off + j) x hx
     have hj : off + j < c.size := by rw [e3]; exact (List.getElem?_eq_some_iff.1 hx).1
     exact ⟨c.getD (off + j) undef, by simp [World.cell?, e2, hj], cellA_sound hw hids h1 hxy⟩
   ·cases hl
  ·cases hl
 ·exact lendA_sound hw hids hx hl

theorem lendC_sound [St] (hw : CW W w A s.os hd F) {ids : List Nat} (hids : ∀ id ∈ ids, ∃ k es, s.os[id]? = some (.row k es)) : ∀ (cs : List AV) (vs : List Value) (ys : List AV), vs.length = cs.length → (∀ (i : Nat) x, cs[i]? = some x → SRel w A s.os hd x (vs.getD i undef)) → s.lendC cs = some ys →
  ys.length = vs.length ∧ ∀ (i : Nat) x, ys[i]? = some x → Rel w (Rd w F ids) x (vs.getD i undef) ∧ x.isOwn = false
 | [], vs, ys, hn, _, hk => by
  unfold AS.lendC at hk; cases hk
  exact ⟨by simpa using hn.symm, fun i x hx => by simp at hx⟩
 | _ :: _, [], _, hn, _, _ => by simp at hn
 | x :: cs, v :: vs, ys, hn, hc, hk => by
  unfold AS.lendC at hk
  split at hk
  ·rename_i y m h1 h2
   cases hk
   have hx' := lend0_sound hw hids (by simpa using hc 0 x (by simp)) h1
   obtain ⟨hl, hcs⟩ := lendC_sound hw hids cs vs m (by simpa using hn) (fun i y hy => by simpa using hc (i + 1) y (by simpa using hy)) h2
   refine ⟨by simp [hl], fun i y hy => ?_⟩
   cases i with
   | zero => simp at hy; subst hy; simpa using hx'
   | succ i => simp at hy; simpa using hcs i y hy
  ·cases hk

theorem mem_idsA {cs : List AV} {i id : Nat} (h : cs[i]? = some (.ob id)) : id ∈ idsA cs := by
 induction cs generalizing i with
 | nil => simp at h
 | cons x cs ih =>
  cases i with
  | zero => simp at h; subst h; simp [idsA]
  | succ i =>
   have h1 := ih (i := i) (by simpa using h)
   cases x <;> simp [idsA, h1]
theorem idsA_mem {cs : List AV} {id : Nat} (h : id ∈ idsA cs) : ∃ i : Nat, cs[i]? = some (AV.ob id) := by
 induction cs with
 | nil => simp [idsA] at h
 | cons x cs ih =>
  have go : id ∈ idsA cs → ∃ i : Nat, (x :: cs)[i]? = some (AV.ob id) := fun h => by
   obtain ⟨i, hi⟩ := ih h; exact ⟨i + 1, by simpa using hi⟩
  cases x <;> simp only [idsA] at h <;> try exact go h
  rcases List.mem_cons.1 h with h | h
  ·subst h; exact ⟨0, rfl⟩
  ·exact go h
theorem idsA_inj {cs : List AV} (hn : (idsA cs).Nodup) {i j id : Nat} (hi : cs[i]? = some (.ob id)) (hj : cs[j]? = some (.ob id)) : i = j := by
 induction cs generalizing i j with
 | nil => simp at hi
 | cons x cs ih =>
  have hn2 : (idsA cs).Nodup := by
   cases x <;> simp only [idsA] at hn <;> first | exact hn | exact (List.nodup_cons.1 hn).2
  cases i with
  | zero =>
   cases j with
   | zero => rfl
   | succ j =>
    simp at hi hj; subst hi
    simp only [idsA] at hn
    exact ((List.nodup_cons.1 hn).1 (mem_idsA hj)).elim
  | succ i =>
   cases j with
   | zero =>
    simp at hi hj; subst hj
    simp only [idsA] at hn
    exact ((List.nodup_cons.1 hn).1 (mem_idsA hi)).elim
   | succ j => exact congrArg (· + 1) (ih hn2 (i := i) (j := j) (by simpa using hi) (by simpa using hj))
theorem lendP_sound [St] (hw : CW W w A s.os hd F) {ids : List Nat} {x v y} (hx : SRel w A s.os hd x v) (hl : s.lendP x = some y) : XRel w (Rd w F ids) y v (fun b => ∃ id, x = .ob id ∧ F id b) := by
 unfold AS.lendP at hl
 split at hl
 ·rename_i id
  split at hl
  ·rename_i k es ho
   cases hl
   rw [hx.ob_inv ho]
   refine ((hw.rows id k es ho).mono (A' := Rd w F ids) (fun y hy => ⟨(hw.hA y hy).1, fun ⟨id, _, h'⟩ => (hw.hA y hy).2 id h'⟩) (fun _ _ => rfl)).congr fun b => ?_
   simp
  ·cases hl
 ·cases hl; exact .pure _ _ _ ((hx.pure_inv trivial).rd hw ids) rfl (fun b ⟨id, h, _⟩ => by cases h)
 ·cases hl; exact .pure _ _ _ ((hx.pure_inv trivial).rd hw ids) rfl (fun b ⟨id, h, _⟩ => by cases h)
 ·cases hl; exact .pure _ _ _ ((hx.pure_inv trivial).rd hw ids) rfl (fun b ⟨id, h, _⟩ => by cases h)
 ·cases hl
theorem lendP_row {x y : AV} {id : Nat} (hl : s.lendP x = some y) (hx : x = .ob id) : ∃ k es, s.os[id]? = some (.row k es) := by
 subst hx
 unfold AS.lendP at hl
 simp only at hl
 split at hl
 ·rename_i k es ho; exact ⟨k, es, ho⟩
 ·cases hl
theorem lendPL_get : ∀ {cs ys : List AV}, s.lendPL cs = some ys → ys.length = cs.length ∧ (∀ {i : Nat} {y : AV}, ys[i]? = some y → ∃ x, cs[i]? = some x ∧ s.lendP x = some y) ∧ ∀ {i : Nat} {x : AV}, cs[i]? = some x → ∃ y, s.lendP x = some y
 | [], ys, h => by
  unfold AS.lendPL at h; cases h
  exact ⟨rfl, fun hy => by simp at hy, fun hx => by simp at hx⟩
 | x :: cs, ys, h => by
  unfold AS.lendPL at h
  split at h
  ·rename_i z m h1 h2
   cases h
   obtain ⟨g0, g1, g2⟩ := lendPL_get h2
   refine ⟨by simp [g0], fun {i y} hy => ?_, fun {i x'} hx => ?_⟩
   ·cases i with
    | zero => simp at hy; subst hy; exact ⟨x, rfl, h1⟩
    | succ i => simp at hy; obtain ⟨x', q1, q2⟩ := g1 hy; exact ⟨x', by simpa using q1, q2⟩
   ·cases i with
    | zero => simp at hx; subst hx; exact ⟨z, h1⟩
    | succ i => simp at hx; exact g2 hx
  ·cases h
theorem lend_sound [St] (hw : CW W w A s.os hd F) {ids : List Nat} (hids : ∀ id ∈ ids, ∃ k es, s.os[id]? = some (.row k es)) {x v y} (hx : SRel w A s.os hd x v) (hsub : ∀ id ∈ idsOf x, id ∈ ids) (hnd : (idsOf x).Nodup) (hl : s.lend x = some y) : XRel w (Rd w F ids) y v (fun b => ∃ id ∈ idsOf x, F id b) := by
 unfold AS.lend at hl
 split at hl
 ·rename_i id
  split at hl
  ·rename_i k es ho
   cases hl
   rw [hx.ob_inv ho]
   refine ((hw.rows id k es ho).mono (A' := Rd w F ids) (fun y hy => ⟨(hw.hA y hy).1, fun ⟨id, _, h'⟩ => (hw.hA y hy).2 id h'⟩) (fun _ _ => rfl)).congr fun b => ?_
   simp [idsOf]
  ·cases hl
 ·rename_i f cs
  split at hl
  ·rename_i cs' hc
   cases hl
   obtain ⟨vs, rfl, hn, hcs⟩ := hx.fn_inv
   obtain ⟨h1, h2⟩ := lendC_sound hw hids cs vs.toList cs' (by simpa using hn) (fun i x hx => by rw [toList_getD]; exact hcs i x hx) hc
   exact .pure _ _ _ (.fn _ _ _ (by simpa using h1.symm) (fun i x hx => by rw [← toList_getD]; exact (h2 i x hx).1)) rfl (fun b ⟨id, h, _⟩ => by simp [idsOf] at h)
  ·cases hl
 ·rename_i cs
  split at hl
  ·rename_i cs' hc
   cases hl
   obtain ⟨vs, rfl, hn, hcs⟩ := hx.agg_inv
   obtain ⟨g0, g1, g2⟩ := lendPL_get hc
   simp only [idsOf] at hnd hsub ⊢
   refine .agg _ _ _ (fun i b => ∃ id, cs[i]? = some (.ob id) ∧ F id b) (by rw [g0]; exact hn) (fun i y hy => ?_) (fun b => ⟨fun ⟨id, h1, h2⟩ => ?_, fun ⟨i, _, id, h1, h2⟩ => ⟨id, mem_idsA h1, h2⟩⟩) (fun i i' b _ _ ⟨id, h1, h2⟩ ⟨id', h1', h2'⟩ => ?_)
   ·obtain ⟨x', q1, q2⟩ := g1 hy
    refine (lendP_sound hw (hcs i x' q1) q2).congr fun b => ?_
    rw [q1]
    simp
   ·obtain ⟨i, hi⟩ := idsA_mem h1
    exact ⟨i, by rw [g0]; exact (List.getElem?_eq_some_iff.1 hi).1, id, hi, h2⟩
   ·have := hw.disj _ _ _ h2 h2'
    subst this
    exact idsA_inj hnd h1 h1'
  ·cases hl
 ·rename_i h1 h2 h5
  obtain ⟨h3, h4⟩ := lend0_sound hw hids hx hl
  exact .pure _ _ _ h3 h4 (fun b ⟨id, h, _⟩ => by cases x <;> first | exact h1 _ rfl | exact h5 _ rfl | simp [idsOf] at h)

theorem lendL_sound [St] (hw : CW W w A s.os hd F) {ids : List Nat} (hids : ∀ id ∈ ids, ∃ k es, s.os[id]? = some (.row k es)) : ∀ (cs : List AV) (vs : List Value) (ys : List AV), vs.length = cs.length → (∀ (i : Nat) x, cs[i]? = some x → SRel w A s.os hd x (vs.getD i undef)) → (∀ id ∈ idsL cs, id ∈ ids) → (idsL cs).Nodup → s.lendL cs = some ys →
  ys.length = vs.length ∧ ∀ (i : Nat) y, ys[i]? = some y → XRel w (Rd w F ids) y (vs.getD i undef) (fun b => ∃ x, cs[i]? = some x ∧ ∃ id ∈ idsOf x, F id b)
 | [], vs, ys, hn, _, _, _, hk => by
  unfold AS.lendL at hk; cases hk
  exact ⟨by simpa using hn.symm, fun i x hx => by simp at hx⟩
 | _ :: _, [], _, hn, _, _, _, _ => by simp at hn
 | x :: cs, v :: vs, ys, hn, hc, hs, hnd, hk => by
  unfold AS.lendL at hk
  unfold idsL at hnd
  have hnd2 := List.nodup_append.1 hnd
  split at hk
  ·rename_i y m h1 h2
   cases hk
   have hx' := lend_sound hw hids (by simpa using hc 0 x (by simp)) (fun id h => hs id (by unfold idsL; exact List.mem_append_left _ h)) hnd2.1 h1
   obtain ⟨hl, hcs⟩ := lendL_sound hw hids cs vs m (by simpa using hn) (fun i y hy => by simpa using hc (i + 1) y (by simpa using hy)) (fun id h => hs id (by unfold idsL; exact List.mem_append_right _ h)) hnd2.2.1 h2
   refine ⟨by simp [hl], fun i y hy => ?_⟩
   cases i with
   | zero => simp at hy; subst hy; simpa using hx'
   | succ i => simp at hy; simpa using hcs i y hy
  ·cases hk

theorem lendL_ids : ∀ {cs ys : List AV}, s.lendL cs = some ys → ∀ id ∈ idsL cs, ∃ k es, s.os[id]? = some (.row k es)
 | [], _, _, id, h => by simp [idsL] at h
 | x :: cs, ys, hk, id, h => by
  unfold AS.lendL at hk
  split at hk
  ·rename_i y m h1 h2
   unfold idsL at h
   rcases List.mem_append.1 h with h | h
   ·cases x <;> simp [idsOf] at h
    ·unfold AS.lend at h1
     simp only at h1
     split at h1
     ·rename_i cs' hc
      obtain ⟨i, hi⟩ := idsA_mem h
      obtain ⟨y', hy'⟩ := (lendPL_get hc).2.2 hi
      exact lendP_row hy' rfl
     ·cases h1
    ·subst h
     unfold AS.lend at h1
     simp only at h1
     split at h1
     ·rename_i k es ho; exact ⟨k, es, ho⟩
     ·cases h1
   ·exact lendL_ids h2 id h
  ·cases hk

theorem mem_idsL' {cs : List AV} {i id : Nat} {x : AV} (h : cs[i]? = some x) (hx : id ∈ idsOf x) : id ∈ idsL cs := by
 induction cs generalizing i with
 | nil => simp at h
 | cons x cs ih =>
  unfold idsL
  cases i with
  | zero => simp at h; subst h; exact List.mem_append_left _ hx
  | succ i => exact List.mem_append_right _ (ih (by simpa using h))
theorem mem_idsL {cs : List AV} {i id : Nat} (h : cs[i]? = some (.ob id)) : id ∈ idsL cs := mem_idsL' h (by simp [idsOf])
theorem idsL_mem {cs : List AV} {id : Nat} (h : id ∈ idsL cs) : ∃ (i : Nat) (x : AV), cs[i]? = some x ∧ id ∈ idsOf x := by
 induction cs with
 | nil => simp [idsL] at h
 | cons x cs ih =>
  unfold idsL at h
  rcases List.mem_append.1 h with h | h
  ·exact ⟨0, x, rfl, h⟩
  ·obtain ⟨i, y, hi, hy⟩ := ih h; exact ⟨i + 1, y, by simpa using hi, hy⟩
theorem idsL_inj' {cs : List AV} (hn : (idsL cs).Nodup) {i j id : Nat} {x y : AV} (hi : cs[i]? = some x) (hx : id ∈ idsOf x) (hj : cs[j]? = some y) (hy : id ∈ idsOf y) : i = j := by
 induction cs generalizing i j with
 | nil => simp at hi
 | cons z cs ih =>
  unfold idsL at hn
  rw [List.nodup_append] at hn
  cases i with
  | zero =>
   cases j with
   | zero => rfl
   | succ j =>
    simp at hi hj; subst hi
    exact (hn.2.2 id hx id (mem_idsL' hj hy) rfl).elim
  | succ i =>
   cases j with
   | zero =>
    simp at hi hj; subst hj
    exact (hn.2.2 id hy id (mem_idsL' hi hx) rfl).elim
   | succ j => exact congrArg (· + 1) (ih hn.2.1 (i := i) (j := j) (by simpa using hi) (by simpa using hj))
theorem idsL_inj {cs : List AV} (hn : (idsL cs).Nodup) {i j id : Nat} (hi : cs[i]? = some (.ob id)) (hj : cs[j]? = some (.ob id)) : i = j :=
 idsL_inj' (id := id) hn hi (by simp [idsOf]) hj (by simp [idsOf])
theorem kill_spec : ∀ (ids : List Nat) (os : List Obj), (kill os ids).length = os.length ∧ (∀ id, id ∉ ids → (kill os ids)[id]? = os[id]?) ∧ ∀ id ∈ ids, id < os.length → (kill os ids)[id]? = some .dead
 | [], os => ⟨rfl, fun _ _ => rfl, fun _ h => by simp at h⟩
 | i :: ids, os => by
  obtain ⟨h1, h2, h3⟩ := kill_spec ids (os.set i .dead)
  unfold kill
  refine ⟨by rw [h1, List.length_set], fun id h => ?_, fun id h hl => ?_⟩
  ·rw [List.mem_cons, not_or] at h
   rw [h2 id h.2, List.getElem?_set, if_neg (Ne.symm h.1)]
  ·by_cases hm : id ∈ ids
   ·exact h3 id hm (by rw [List.length_set]; exact hl)
   ·rcases List.mem_cons.1 h with h | h
    ·subst h; rw [h2 id hm]; simp [hl]
    ·exact (hm h).elim

theorem wbs_spec [St] : ∀ (xs ys : List AV) (os : List Obj) (K : List Obj → Prop), wbs (stdE np P) os xs ys K → (idsL xs).Nodup → (∀ id ∈ idsL xs, id < os.length) →
  ∃ os', K os' ∧ os'.length = os.length ∧ (∀ id, id ∉ idsL xs → os'[id]? = os[id]?) ∧
   ∀ (i id : Nat) (x : AV), xs[i]? = some x → id ∈ idsOf x → os'[id]? = some .dead ∨ ∃ k es es', x = .ob id ∧ os[id]? = some (.row k es) ∧ os'[id]? = some (.row k es') ∧ es'.length = es.length ∧ ys[i]? = some (.sl true k es')
 | [], ys, os, K, hk, _, _ => ⟨os, by unfold wbs at hk; exact hk, rfl, fun _ _ => rfl, fun i id x h => by simp at h⟩
 | x :: xs, [], os, K, hk, _, _ => by unfold wbs at hk; exact hk.elim
 | x :: xs, y :: ys, os, K, hk, hn, hlt => by
  unfold wbs at hk
  unfold idsL at hn hlt
  have hn2 := (List.nodup_append.1 hn).2.1
  have hnot : ∀ id ∈ idsOf x, id ∉ idsL xs := fun id h1 h2 => (List.nodup_append.1 hn).2.2 id h1 id h2 rfl
  have go : ∀ os1, wbs (stdE np P) os1 xs ys K → os1.length = os.length → (∀ id, id ∉ idsOf x → os1[id]? = os[id]?) →
    (∀ id ∈ idsOf x, os1[id]? = some .dead ∨ ∃ k es es', x = .ob id ∧ os[id]? = some (.row k es) ∧ os1[id]? = some (.row k es') ∧ es'.length = es.length ∧ y = .sl true k es') →
    ∃ os', K os' ∧ os'.length = os.length ∧ (∀ id', id' ∉ idsL (x :: xs) → os'[id']? = os[id']?) ∧ ∀ (i id' : Nat) (z : AV), (x :: xs)[i]? = some z → id' ∈ idsOf z → os'[id']? = some .dead ∨ ∃ k es es', z = .ob id' ∧ os[id']? = some (.row k es) ∧ os'[id']? = some (.row k es') ∧ es'.length = es.length ∧ (y :: ys)[i]? = some (.sl true k es') := fun os1 hk hl1 hout hin => by
   obtain ⟨os', h1, h2, h3, h4⟩ := wbs_spec xs ys os1 K hk hn2 (fun id h => by rw [hl1]; exact hlt id (List.mem_append_right _ h))
   refine ⟨os', h1, by rw [h2, hl1], fun id' h => ?_, fun i id' z hi hz => ?_⟩
   ·unfold idsL at h
    rw [h3 id' (fun h' => h (List.mem_append_right _ h')), hout id' (fun h' => h (List.mem_append_left _ h'))]
   ·cases i with
    | zero =>
     simp at hi; subst hi
     rw [h3 id' (hnot id' hz)]
     simpa using hin id' hz
    | succ i =>
     have hi' : xs[i]? = some z := by simpa using hi
     have h5 : id' ∉ idsOf x := fun e => hnot id' e (mem_idsL' hi' hz)
     rw [← hout id' h5]
     simpa using h4 i id' z hi' hz
  unfold wb at hk
  split at hk
  ·rename_i id
   have hid : id < os.length := hlt id (by simp [idsOf])
   have go1 : ∀ o, wbs (stdE np P) (os.set id o) xs ys K → (o = .dead ∨ ∃ k es es', os[id]? = some (.row k es) ∧ o = .row k es' ∧ es'.length = es.length ∧ y = .sl true k es') → _ := fun o hk ho =>
    go (os.set id o) hk (by rw [List.length_set]) (fun id' h => by
     rw [List.getElem?_set, if_neg (fun e => h (by subst e; simp [idsOf]))]) (fun id' h => by
     simp only [idsOf, List.mem_singleton] at h
     subst h
     have hs : (os.set id' o)[id']? = some o := by simp [hid]
     rcases ho with rfl | ⟨k, es, es', g1, rfl, g2, rfl⟩
     ·exact .inl hs
     ·exact .inr ⟨k, es, es', rfl, g1, hs, g2, rfl⟩)
   split at hk
   ·rename_i k es'
    split at hk
    ·rename_i k0 es ho
     split at hk
     ·rename_i e
      subst e
      obtain ⟨g1, hk⟩ := hk
      exact go1 _ hk (.inr ⟨_, es, es', ho, rfl, g1, rfl⟩)
     ·exact hk.elim
    ·exact hk.elim
   ·exact go1 _ hk (.inl rfl)
  ·rename_i cs
   obtain ⟨g1, g2, g3⟩ := kill_spec (idsA cs) os
   exact go _ hk g1 g2 (fun id h => .inl (g3 id h (hlt id (List.mem_append_left _ h))))
  ·rename_i h h5
   have h0 : idsOf x = [] := by cases x <;> first | exact (h _ rfl).elim | exact (h5 _ rfl).elim | rfl
   exact go os hk rfl (fun _ _ => rfl) (fun id h => by rw [h0] at h; simp at h)

/-- A call that changes what it is lent. -/
theorem step_callM [St] (hw : CW W w A s.os hd F) (hf : FR w A s.os hd s.fr a) {dst ty pos af g} {c : Call} {f : FuncId} {caps args : List AV} {K : AV → AS → Prop} (hcal : s.callee c = some (f, caps))
  (hl : s.lendL (c.args.toList.map s.get ++ caps) = some args) (hnd : nodupB (idsL (c.args.toList.map s.get ++ caps)) = true)
  (run : ∀ {fo : Operand} {vs : Array Value}, c.callee = .value fo → a.eval fo = .func (.func f) #[] vs → Enters P f → (execOp a.eval ⟨dst, .call c, ty, pos, af, g⟩).run P w = .ok (.enter f (c.args.map a.eval ++ vs)) w)
  (enter : ∀ {o : Oper} {next : Act → World → Prop} {Q : Exit → Act → World → Prop} {f : FuncId} {args : Array Value} {R : Value → World → Prop}, (execOp a.eval o).run P w = .ok (.enter f args) w → (Calls P f args w fun e w' => ∃ v, e = .returned v ∧ R v w') → (∀ v w', R v w' → next (a.put o.dst v) w') → o.wp P a w next Q)
  (hk : (stdE np P).callM f args fun r args' => wbs (stdE np P) s.os (c.args.toList.map s.get ++ caps) args' fun os' => (AS.mk s.fr os').take r K) : StepOK P W w s a ⟨dst, .call c, ty, pos, af, g⟩ K := by
 intro next Q hn
 have hnd' := nodupB_spec hnd
 generalize hids : idsL (c.args.toList.map s.get ++ caps) = ids at *
 have hrow := lendL_ids hl
 rw [hids] at hrow
 unfold AS.callee at hcal
 split at hcal
 ·rename_i fo hce
  split at hcal
  ·rename_i f' caps' hg
   cases hcal
   have h1 := hf.get fo
   rw [hg] at h1
   obtain ⟨vs, e1, e2, e3⟩ := h1.fn_inv
   have hargs : ∀ (i : Nat) x, (c.args.toList.map s.get ++ caps)[i]? = some x → SRel w A s.os hd x ((c.args.toList.map a.eval ++ vs.toList).getD i undef) := fun i x hx => by
    rw [List.getElem?_append] at hx
    rw [List.getD_eq_getElem?_getD, List.getElem?_append]
    simp only [List.length_map] at hx ⊢
    split
    ·rename_i hi
     rw [if_pos hi, List.getElem?_map] at hx
     rw [List.getElem?_map]
     cases hc : c.args.toList[i]? with
     | none => simp [hc] at hx
     | some y =>
      simp [hc] at hx
      subst hx
      simpa using hf.get y
    ·rename_i hi
     rw [if_neg hi] at hx
     rw [← List.getD_eq_getElem?_getD, toList_getD]
     exact e3 _ x hx
   generalize hxs : c.args.toList.map s.get ++ caps = xs at *
   obtain ⟨Qc, hac, hk⟩ := hk
   obtain ⟨h3, h4⟩ := lendL_sound hw hrow xs (c.args.toList.map a.eval ++ vs.toList) args (by rw [← hxs]; simp [e2]) hargs (fun id h => by rw [← hids]; exact h) (by rw [hids]; exact hnd') hl
   have hlen : xs.length = args.length := by rw [h3, ← hxs]; simp [e2]
   have hX : XRel w (Rd w F ids) (.tup args) (.tuple (c.args.map a.eval ++ vs)) (fun b => ∃ id ∈ ids, F id b) := by
    refine .tup _ _ _ (fun i b => ∃ x, xs[i]? = some x ∧ ∃ id ∈ idsOf x, F id b) (by rw [h3]; simp) (fun i x hx => ?_) (fun b => ⟨fun ⟨id, g1, g2⟩ => ?_, fun ⟨i, _, x, g1, id, g2, g3⟩ => ?_⟩) (fun i j b hi hj ⟨x, g1, id, g2, g3⟩ ⟨x', g1', id', g2', g3'⟩ => ?_)
    ·have := h4 i x hx
     rwa [← toList_getD, Array.toList_append, Array.toList_map]
    ·rw [← hids] at g1
     obtain ⟨i, x, hi, hx⟩ := idsL_mem g1
     exact ⟨i, by rw [← hlen]; exact (List.getElem?_eq_some_iff.1 hi).1, _, hi, id, hx, g2⟩
    ·exact ⟨id, by rw [← hids]; exact mem_idsL' g1 g2, g3⟩
    ·have := hw.disj _ _ _ g3 g3'
     subst this
     exact idsL_inj' (by rw [hids]; exact hnd') g1 g2 g1' g2'
   refine enter (run hce e1 hac.1) (R := fun v w' => ∃ G r args', Qc r args' ∧ Keeps (fun b => ∃ id ∈ ids, F id b) w w' ∧ XRel w' (fun _ => False) (.tup (r :: args')) (.tuple (#[v] ++ (c.args.map a.eval ++ vs))) G ∧ ∀ b, G b → (∃ id ∈ ids, F id b) ∨ w.heap.size ≤ b ∧ b < w'.heap.size)
    ((hac.2 w (Rd w F ids) _ _ hw.below.gok hX (fun b hb => hb) (fun b ⟨id, _, h⟩ => (hw.fsz id b h).2) (fun b ⟨id, _, h⟩ => hw.below.ng (hw.fsz id b h).1)).mono fun e w' ⟨v, G, r, args', g0, g1, g2, g3, g4⟩ => ⟨v, g1, G, r, args', g0, g2, g3, g4⟩) fun v w' ⟨G, r, args', hq, g1, g2, g3⟩ => ?_
   replace hk := hk r args' hq
   cases g2 with
   | pure _ _ _ h ho _ => simp [AV.isOwn] at ho
   | tup _ _ _ Gi hn' hc hF hd0 =>
    obtain ⟨os', hk, k1, k2, k3⟩ := wbs_spec xs args' s.os _ hk (by rw [hids]; exact hnd') (fun id h => by
     rw [hids] at h; obtain ⟨k, es, ho⟩ := hrow id h; exact (List.getElem?_eq_some_iff.1 ho).1)
    have val : ∀ (i id : Nat), xs[i]? = some (.ob id) → ∀ k es, s.os[id]? = some (.row k es) → (#[v] ++ (c.args.map a.eval ++ vs)).getD (i + 1) undef = hd id := fun i id hi k es ho => by
     have := (hargs i _ hi).ob_inv ho
     rw [← this, ← toList_getD, Array.toList_append, Array.toList_append, Array.toList_map]
     simp [List.getD_eq_getElem?_getD]
    have sub : ∀ (i : Nat) b, i < (r :: args').length → Gi i b → (∃ id ∈ ids, F id b) ∨ w.heap.size ≤ b ∧ b < w'.heap.size := fun i b hi h => g3 b ((hF b).2 ⟨i, hi, h⟩)
    have inl : ∀ {i : Nat} {y : AV}, args'[i]? = some y → i + 1 < (r :: args').length := fun {i y} h => by have := (List.getElem?_eq_some_iff.1 h).1; simpa using this
    let Gn : Nat → Nat → Prop := fun id b => ∃ i k es, xs[i]? = some (.ob id) ∧ args'[i]? = some (.sl true k es) ∧ Gi (i + 1) b
    obtain ⟨hw2, hm2⟩ := hw.setMany ids Gn k1 g1 (fun id h => k2 id (by rw [hids]; exact h)) (fun id h => by
      rw [← hids] at h
      obtain ⟨i, x, hi, hix⟩ := idsL_mem h
      rcases k3 i id x hi hix with q | ⟨k, es, es', q0, q1, q2, q3, q4⟩
      ·exact .inl q
      ·subst q0
       refine .inr ⟨k, es, es', q1, q2, q3, ?_⟩
       have := hc (i + 1) (.sl true k es') (by simpa using q4)
       rw [val i id hi k es q1] at this
       exact (this.mono (fun _ h => h.elim) (fun _ _ => rfl)).congr (fun b => ⟨fun ⟨j, k', es'', r1, r2, r3⟩ => by
        have := idsL_inj (by rw [hids]; exact hnd') r1 hi
        subst this; exact r3, fun h => ⟨i, k, es', hi, q4, h⟩⟩)) (fun id h b ⟨i, k, es, r1, r2, r3⟩ => sub (i + 1) b (inl r2) r3)
     (fun id h j hj b ⟨i, k, es, r1, r2, r3⟩ ⟨i', k', es', r1', r2', r3'⟩ => by
      have := hd0 _ _ b (inl r2) (inl r2') r3 r3'
      have : i = i' := by omega
      subst this
      rw [r1] at r1'; cases r1'; rfl)
    have h0 : XRel w' A r v (Gi 0) := by
     have := hc 0 r (by simp)
     rw [← toList_getD] at this
     have e : (#[v] ++ (c.args.map a.eval ++ vs)).toList.getD 0 undef = v := by simp [List.getD_eq_getElem?_getD]
     rw [e] at this
     exact this.mono (fun _ h => h.elim) (fun _ _ => rfl)
    obtain ⟨s', hd', F', q1, q2, q3, q4, x', q5, q6⟩ := take_sound (s := ⟨s.fr, os'⟩) hw2 h0 (fun b hb => by
     have h5 := sub 0 b (by simp) hb
     refine ⟨?_, ?_, fun hA => ?_, fun id hid => ?_⟩
     ·rcases h5 with ⟨id, _, h⟩ | h
      ·exact (hw.fsz id b h).1
      ·exact hw.below.new h.1
     ·rcases h5 with ⟨id, _, h⟩ | h
      ·exact Nat.lt_of_lt_of_le (hw.fsz id b h).2 g1.size
      ·exact h.2
     ·rcases h5 with ⟨id, _, h⟩ | h
      ·exact (hw.hA b hA).2 id h
      ·have := (hw.hA b hA).1; omega
     ·rcases hid with ⟨_, i, k, es, r1, r2, r3⟩ | ⟨h6, h7⟩
      ·have := hd0 _ _ b (by simp) (inl r2) hb r3; omega
      ·rcases h5 with ⟨id', h8, h⟩ | h
       ·have := hw.disj _ _ _ h7 h; subst this; exact h6 h8
       ·have := (hw.fsz id b h7).2; omega) hk
    exact hn x' s' v w' A hd' F' q5 q1 q2 (hf.os_mono fun z u h => q3 _ _ (hm2 _ _ h)) q6
  ·cases hcal
 ·cases hcal
end
end Go.Proofs.YtlemeenicaidfaaGreatDoor

/- Soundness of calls that are lent own boxes. -/
namespace Go.Proofs.YtlemeenicaidfaaGreatDoor
set_option linter.unusedVariables false
set_option linter.unusedSimpArgs false
open Go Go.RowKit

section
variable {P : Program} {np : Nat} {L : Lay} {W : WM} {w w' : World} {A : Nat → Prop} {os os' : List Obj} {hd hd' : Nat → Value} {F F' : Nat → Nat → Prop} {s : AS} {a : Act}

theorem XRel.bx_inv {cs v} {G : Nat → Prop} (h : XRel w A (.bx cs) v G) : ∃ b T c, v = .pointer (some ⟨b, 0, none⟩) ∧ w.heap[b]? = some (.cells c T (0, 0)) ∧ c.size = cs.length ∧ (∀ (i : Nat) a, cs[i]? = some a → Rel w A a (c.getD i undef)) ∧ ∀ x, G x ↔ x = b := by
 cases h with
 | pure _ _ _ _ ho _ => simp [AV.isOwn] at ho
 | bx _ b T c _ hb hn hr hF => exact ⟨b, T, c, rfl, hb, hn, hr, hF⟩

/-- Several objects change in place at once, boxes among them; more can be read than before. -/
theorem CW.setManyS [St] (h : CW W w A os hd F) (ids : List Nat) {os' : List Obj} (Gn : Nat → Nat → Prop) {A' : Nat → Prop} (hAA : ∀ b, A b → A' b)
  (hA' : ∀ b, A' b → b < w'.heap.size ∧ (A b ∨ w.heap.size ≤ b)) (hAG : ∀ b, A' b → ∀ id ∈ ids, ¬ Gn id b) (hlen : os'.length = os.length)
  (hk : Keeps (fun x => ∃ id ∈ ids, F id x) w w') (hout : ∀ id, id ∉ ids → os'[id]? = os[id]?)
  (hin : ∀ id ∈ ids, os'[id]? = some .dead ∨ (∃ k es es', os[id]? = some (.row k es) ∧ os'[id]? = some (.row k es') ∧ es'.length = es.length ∧ XRel w' A' (.sl true k es') (hd id) (Gn id)) ∨
   ∃ cs cs', os[id]? = some (.box cs) ∧ os'[id]? = some (.box cs') ∧ XRel w' A' (.bx cs') (hd id) (Gn id))
  (hG : ∀ id ∈ ids, ∀ x, Gn id x → (∃ j ∈ ids, F j x) ∨ w.heap.size ≤ x ∧ x < w'.heap.size)
  (hdj : ∀ id ∈ ids, ∀ j ∈ ids, ∀ x, Gn id x → Gn j x → id = j) :
  CW W w' A' os' hd (fun id x => (id ∈ ids ∧ Gn id x) ∨ (id ∉ ids ∧ F id x)) ∧ ∀ y u, SRel w A os hd y u → SRel w' A' os' hd y u := by
 have hA : ∀ y, A y → y < w.heap.size ∧ ¬ ∃ id ∈ ids, F id y := fun y hy => ⟨(h.hA y hy).1, fun ⟨id, _, h'⟩ => (h.hA y hy).2 id h'⟩
 have hm : ∀ y u, SRel w A os hd y u → SRel w' A' os' hd y u := fun y u hy => by
  refine ((hy.keepG hA hk).os_mono (by omega) (fun i k es'' hi h' => ?_) (fun i cs' hi h' => ?_) (fun i s' p' hi h' => ?_)).mono (fun _ _ => rfl) hAA
  ·by_cases hmem : i ∈ ids
   ·rcases hin i hmem with h1 | ⟨k0, es, es', h1, h2, h3, _⟩ | ⟨cs, cs', h1, h2, _⟩
    ·rw [h1] at h'; cases h'
    ·rw [h2] at h'; cases h'; exact ⟨es, h1, h3.symm, rfl⟩
    ·rw [h2] at h'; cases h'
   ·rw [hout i hmem] at h'; exact ⟨es'', h', rfl, rfl⟩
  ·by_cases hmem : i ∈ ids
   ·rcases hin i hmem with h1 | ⟨k0, es, es', h1, h2, h3, _⟩ | ⟨cs, cs', h1, h2, _⟩
    ·rw [h1] at h'; cases h'
    ·rw [h2] at h'; cases h'
    ·exact ⟨cs, h1, rfl⟩
   ·rw [hout i hmem] at h'; exact ⟨cs', h', rfl⟩
  ·by_cases hmem : i ∈ ids
   ·rcases hin i hmem with h1 | ⟨k0, es, es', h1, h2, h3, _⟩ | ⟨cs, cs', h1, h2, _⟩
    ·rw [h1] at h'; cases h'
    ·rw [h2] at h'; cases h'
    ·rw [h2] at h'; cases h'
   ·rw [hout i hmem] at h'; exact ⟨s', p', h', rfl⟩
 have hF : ∀ j, j ∉ ids → ∀ x, F j x → x < w.heap.size ∧ ¬ ∃ id ∈ ids, F id x := fun j hj x hx => ⟨(h.fsz j x hx).2, fun ⟨id, h1, h2⟩ => hj (by rw [h.disj _ _ _ hx h2]; exact h1)⟩
 refine ⟨⟨h.below.keep hk (fun x ⟨id, _, h'⟩ => (h.fsz id x h').1), fun x hx => ⟨(hA' x hx).1, fun i hi => ?_⟩, fun i x hx => ?_, fun i j x hi hj => ?_, fun i k es h' => ?_, fun i cs h' => ?_, fun i s' p' h' => ?_, fun p hp => ⟨by rw [hlen]; exact (h.pin p hp).1, (h.pin p hp).2⟩, fun x hx hlt => ?_⟩, hm⟩
 ·rcases hi with ⟨h1, h2⟩ | ⟨_, h2⟩
  ·exact hAG x hx i h1 h2
  ·rcases (hA' x hx).2 with h3 | h3
   ·exact (h.hA x h3).2 i h2
   ·have := (h.fsz i x h2).2; omega
 ·rcases hx with ⟨h1, h2⟩ | ⟨_, h2⟩
  ·rcases hG i h1 x h2 with ⟨j, _, h3⟩ | h3
   ·exact ⟨(h.fsz j x h3).1, Nat.lt_of_lt_of_le (h.fsz j x h3).2 hk.size⟩
   ·exact ⟨h.below.new h3.1, h3.2⟩
  ·exact ⟨(h.fsz i x h2).1, Nat.lt_of_lt_of_le (h.fsz i x h2).2 hk.size⟩
 ·rcases hi with ⟨h1, h2⟩ | ⟨h1, h2⟩ <;> rcases hj with ⟨k1, k2⟩ | ⟨k1, k2⟩
  ·exact hdj i h1 j k1 x h2 k2
  ·exfalso
   rcases hG i h1 x h2 with h3 | h3
   ·exact (hF j k1 x k2).2 h3
   ·have := (hF j k1 x k2).1; omega
  ·exfalso
   rcases hG j k1 x k2 with h3 | h3
   ·exact (hF i h1 x h2).2 h3
   ·have := (hF i h1 x h2).1; omega
  ·exact h.disj i j x h2 k2
 ·by_cases hmem : i ∈ ids
  ·rcases hin i hmem with h1 | ⟨k0, es0, es', h1, h2, h3, h4⟩ | ⟨cs, cs', h1, h2, _⟩
   ·rw [h1] at h'; cases h'
   ·rw [h2] at h'; cases h'
    exact h4.congr (fun x => ⟨fun h => h.elim (fun h => h.2) (fun h => (h.1 hmem).elim), fun h => .inl ⟨hmem, h⟩⟩)
   ·rw [h2] at h'; cases h'
  ·rw [hout i hmem] at h'
   exact ((h.rows i k es h').mono hAA (fun x hx => hx.elim (fun hx => hk.block x (hA x hx).1 (hA x hx).2) (fun hx => hk.block x (hF i hmem x hx).1 (hF i hmem x hx).2))).congr
    (fun x => ⟨fun h => h.elim (fun h => (hmem h.1).elim) (fun h => h.2), fun h => .inr ⟨hmem, h⟩⟩)
 ·by_cases hmem : i ∈ ids
  ·rcases hin i hmem with h1 | ⟨k0, es0, es', h1, h2, h3, h4⟩ | ⟨cs0, cs', h1, h2, h3⟩
   ·rw [h1] at h'; cases h'
   ·rw [h2] at h'; cases h'
   ·rw [h2] at h'; cases h'
    obtain ⟨b, T, c, e1, e2, e3, e4, e5⟩ := h3.bx_inv
    exact ⟨b, T, c, e1, e2, e3, fun j x hx => .pure _ _ (e4 j x hx), .inl ⟨hmem, (e5 b).2 rfl⟩⟩
  ·rw [hout i hmem] at h'
   obtain ⟨b, T, c, e1, e2, e3, e4, e5⟩ := h.boxes i cs h'
   exact ⟨b, T, c, e1, by rw [hk.block b (hF i hmem b e5).1 (hF i hmem b e5).2]; exact e2, e3, fun j x hx => hm _ _ (e4 j x hx), .inr ⟨hmem, e5⟩⟩
 ·by_cases hmem : i ∈ ids
  ·rcases hin i hmem with h1 | ⟨k0, es0, es', h1, h2, h3, h4⟩ | ⟨cs0, cs', h1, h2, h3⟩
   ·rw [h1] at h'; cases h'
   ·rw [h2] at h'; cases h'
   ·rw [h2] at h'; cases h'
  ·rw [hout i hmem] at h'
   obtain ⟨b, e1, e2, e3⟩ := h.iters i s' p' h'
   exact ⟨b, e1, by rw [hk.block b (hF i hmem b e3).1 (hF i hmem b e3).2]; exact e2, .inr ⟨hmem, e3⟩⟩
 ·rcases (hA' x hx).2 with h1 | h1
  ·exact h.old x h1 hlt
  ·have := h.below.size; omega

/-- What of an object's memory is lent: of a box only its own block. -/
def LF (os : List Obj) (hd : Nat → Value) (F : Nat → Nat → Prop) (id b : Nat) : Prop := F id b ∧ ∀ cs, os[id]? = some (.box cs) → hd id = .pointer (some ⟨b, 0, none⟩)

theorem rdPL_spec : ∀ {cs m : List AV}, AV.rdPL cs = some m → m.length = cs.length ∧ ∀ (i : Nat) y, m[i]? = some y → ∃ x, cs[i]? = some x ∧ x.rdP = some y
 | [], m, h => by cases h; exact ⟨rfl, fun i y hy => by simp at hy⟩
 | z :: cs, m, h => by
  unfold AV.rdPL at h
  split at h
  ·rename_i y' m' h1 h2
   cases h
   obtain ⟨e1, e2⟩ := rdPL_spec h2
   refine ⟨by simp [e1], fun i y hy => ?_⟩
   cases i with
   | zero => simp at hy; subst hy; exact ⟨z, by simp, h1⟩
   | succ i => obtain ⟨x, hx, hp⟩ := e2 i y (by simpa using hy); exact ⟨x, by simpa using hx, hp⟩
  ·cases h
theorem lendS_sound [St] (hw : CW W w A s.os hd F) {x v y} (hx : SRel w A s.os hd x v) (hl : s.lendS x = some y) : XRel w A y v (fun b => ∃ id ∈ idsOfS x, LF s.os hd F id b) := by
 have pure : ∀ {z : AV}, Rel w A z v → z.isOwn = false → idsOfS x = [] → XRel w A z v (fun b => ∃ id ∈ idsOfS x, LF s.os hd F id b) := fun h1 h2 h3 => .pure _ _ _ h1 h2 (fun b ⟨id, h, _⟩ => by rw [h3] at h; cases h)
 unfold AS.lendS at hl
 split at hl
 ·rename_i id
  split at hl
  ·rename_i k es ho
   cases hl
   rw [hx.ob_inv ho]
   refine (hw.rows id k es ho).congr fun b => ?_
   simp [idsOfS, LF, ho]
  ·cases hl
 ·rename_i id off
  split at hl
  ·rename_i cs ho
   split at hl
   ·rename_i hp
    cases hl
    obtain ⟨b, T, c, e1, e2, e3, e4, e5⟩ := hw.boxes id cs ho
    obtain ⟨b', g1, g2⟩ := hx.pb_inv ho
    rw [e1] at g1
    cases g1
    subst g2
    refine .bx cs b T c _ e2 e3 (fun i x hx => ?_) (fun y => ?_)
    ·have := e4 i x hx
     have hpx := allPure_get' hp hx
     cases x <;> first | exact this.pure_inv trivial | cases hpx
    ·simp only [idsOfS, List.mem_singleton, exists_eq_left, LF]
     constructor
     ·intro h
      have := h.2 cs ho
      rw [e1] at this
      cases this; rfl
     ·intro h
      subst h
      exact ⟨e5, fun _ _ => e1⟩
   ·cases hl
  ·cases hl
 ·cases hl; exact pure (hx.pure_inv trivial) rfl rfl
 ·cases hl; exact pure (hx.pure_inv trivial) rfl rfl
 ·cases hl; exact pure (hx.pure_inv trivial) rfl rfl
 ·cases hl; exact pure (hx.pure_inv trivial) rfl rfl
 ·cases hl; exact pure (hx.pure_inv trivial) rfl rfl
 ·cases hl; exact pure hx.sl_inv.unown rfl rfl
 ·cases hl; exact pure (hx.pure_inv trivial) rfl rfl
 ·cases hl; exact pure (hx.pure_inv trivial) rfl rfl
 ·rename_i cs
  split at hl
  ·rename_i hp
   cases hl
   obtain ⟨vs, rfl, hn, hc⟩ := hx.agg_inv
   refine .agg cs vs _ (fun _ _ => False) hn (fun i x hx => ?_) (fun b => ⟨fun ⟨id, h, _⟩ => by simp [idsOfS] at h, fun ⟨i, _, h⟩ => h.elim⟩) (fun i i' b _ _ h => h.elim)
   have h1 := hc i x hx
   have hpx := allFlat_get hp hx
   have h2 : Rel w A x (vs.getD i undef) := by cases x <;> first | exact h1.pure_inv trivial | cases hpx
   exact .pure _ _ _ h2 (by cases x <;> first | rfl | cases hpx) (fun _ h => h)
  ·split at hl
   ·rename_i m hm
    cases hl
    obtain ⟨vs, rfl, hn, hc⟩ := hx.agg_inv
    obtain ⟨hl1, hl2⟩ := rdPL_spec hm
    refine .agg m vs _ (fun _ _ => False) (hn.trans hl1.symm) (fun i y hy => ?_) (fun b => ⟨fun ⟨id, h, _⟩ => by simp [idsOfS] at h, fun ⟨i, _, h⟩ => h.elim⟩) (fun i i' b _ _ h => h.elim)
    obtain ⟨x, hx, hp⟩ := hl2 i y hy
    have h1 := hc i x hx
    have h2 : Rel w A y (vs.getD i undef) := by
     cases x <;> simp only [AV.rdP] at hp <;> cases hp <;> first | exact h1.pure_inv trivial | exact h1.sl_inv.unown
    exact .pure _ _ _ h2 (by cases x <;> simp only [AV.rdP] at hp <;> cases hp <;> rfl) (fun _ h => h)
   ·cases hl
 ·cases hl

theorem lendSL_sound [St] (hw : CW W w A s.os hd F) : ∀ (cs : List AV) (vs : List Value) (ys : List AV), vs.length = cs.length → (∀ (i : Nat) x, cs[i]? = some x → SRel w A s.os hd x (vs.getD i undef)) → s.lendSL cs = some ys →
  ys.length = vs.length ∧ ∀ (i : Nat) y, ys[i]? = some y → XRel w A y (vs.getD i undef) (fun b => ∃ x, cs[i]? = some x ∧ ∃ id ∈ idsOfS x, LF s.os hd F id b)
 | [], vs, ys, hn, _, hk => by
  unfold AS.lendSL at hk; cases hk
  exact ⟨by simpa using hn.symm, fun i x hx => by simp at hx⟩
 | _ :: _, [], _, hn, _, _ => by simp at hn
 | x :: cs, v :: vs, ys, hn, hc, hk => by
  unfold AS.lendSL at hk
  split at hk
  ·rename_i y m h1 h2
   cases hk
   have hx' := lendS_sound hw (by simpa using hc 0 x (by simp)) h1
   obtain ⟨hl, hcs⟩ := lendSL_sound hw cs vs m (by simpa using hn) (fun i y hy => by simpa using hc (i + 1) y (by simpa using hy)) h2
   refine ⟨by simp [hl], fun i y hy => ?_⟩
   cases i with
   | zero => simp at hy; subst hy; simpa using hx'
   | succ i => simp at hy; simpa using hcs i y hy
  ·cases hk

theorem mem_idsSL {cs : List AV} {i id : Nat} {x : AV} (h : cs[i]? = some x) (hx : id ∈ idsOfS x) : id ∈ idsSL cs := by
 induction cs generalizing i with
 | nil => simp at h
 | cons y cs ih =>
  unfold idsSL
  cases i with
  | zero => simp at h; subst h; exact List.mem_append_left _ hx
  | succ i => exact List.mem_append_right _ (ih (by simpa using h))
theorem idsSL_mem {cs : List AV} {id : Nat} (h : id ∈ idsSL cs) : ∃ (i : Nat) (x : AV), cs[i]? = some x ∧ id ∈ idsOfS x := by
 induction cs with
 | nil => simp [idsSL] at h
 | cons x cs ih =>
  unfold idsSL at h
  rcases List.mem_append.1 h with h | h
  ·exact ⟨0, x, rfl, h⟩
  ·obtain ⟨i, y, hi, hy⟩ := ih h; exact ⟨i + 1, y, by simpa using hi, hy⟩
theorem idsSL_inj {cs : List AV} (hn : (idsSL cs).Nodup) {i j id : Nat} {x y : AV} (hi : cs[i]? = some x) (hx : id ∈ idsOfS x) (hj : cs[j]? = some y) (hy : id ∈ idsOfS y) : i = j := by
 induction cs generalizing i j with
 | nil => simp at hi
 | cons z cs ih =>
  unfold idsSL at hn
  rw [List.nodup_append] at hn
  cases i with
  | zero =>
   cases j with
   | zero => rfl
   | succ j =>
    simp at hi hj; subst hi
    exact (hn.2.2 id hx id (mem_idsSL hj hy) rfl).elim
  | succ i =>
   cases j with
   | zero =>
    simp at hi hj; subst hj
    exact (hn.2.2 id hy id (mem_idsSL hi hx) rfl).elim
   | succ j => exact congrArg (· + 1) (ih hn.2.1 (i := i) (j := j) (by simpa using hi) (by simpa using hj))

/-- What an argument that has been lent has become. -/
def Back (os os' : List Obj) (id : Nat) (y : Option AV) : Prop :=
 os'[id]? = some .dead ∨ (∃ k es es', os[id]? = some (.row k es) ∧ os'[id]? = some (.row k es') ∧ es'.length = es.length ∧ y = some (.sl true k es')) ∨
  ∃ cs cs', os[id]? = some (.box cs) ∧ os'[id]? = some (.box cs') ∧ y = some (.bx cs')

theorem wbsS_spec [St] : ∀ (xs ys : List AV) (os : List Obj) (K : List Obj → Prop), wbsS (stdE np P) os xs ys K → (idsSL xs).Nodup → (∀ id ∈ idsSL xs, id < os.length) →
  ∃ os', K os' ∧ os'.length = os.length ∧ (∀ id, id ∉ idsSL xs → os'[id]? = os[id]?) ∧
   ∀ (i id : Nat) (x : AV), xs[i]? = some x → id ∈ idsOfS x → Back os os' id ys[i]?
 | [], ys, os, K, hk, _, _ => ⟨os, by unfold wbsS at hk; exact hk, rfl, fun _ _ => rfl, fun i id x h => by simp at h⟩
 | x :: xs, [], os, K, hk, _, _ => by unfold wbsS at hk; exact hk.elim
 | x :: xs, y :: ys, os, K, hk, hn, hlt => by
  unfold wbsS at hk
  unfold idsSL at hn hlt
  have hn2 := (List.nodup_append.1 hn).2.1
  have go : ∀ id o, idsOfS x = [id] → wbsS (stdE np P) (os.set id o) xs ys K → (o = .dead ∨ (∃ k es es', os[id]? = some (.row k es) ∧ o = .row k es' ∧ es'.length = es.length ∧ y = .sl true k es') ∨ ∃ cs cs', os[id]? = some (.box cs) ∧ o = .box cs' ∧ y = .bx cs') →
    ∃ os', K os' ∧ os'.length = os.length ∧ (∀ id', id' ∉ idsSL (x :: xs) → os'[id']? = os[id']?) ∧ ∀ (i id' : Nat) (x' : AV), (x :: xs)[i]? = some x' → id' ∈ idsOfS x' → Back os os' id' (y :: ys)[i]? := fun id o hid0 hk ho => by
   have hid : id < os.length := hlt id (by simp [hid0])
   have hnot : id ∉ idsSL xs := fun h => (List.nodup_append.1 hn).2.2 id (by simp [hid0]) id h rfl
   obtain ⟨os', h1, h2, h3, h4⟩ := wbsS_spec xs ys (os.set id o) K hk hn2 (fun id h => by simpa using hlt id (List.mem_append_right _ h))
   have hs : os'[id]? = some o := by rw [h3 id hnot]; simp [hid]
   refine ⟨os', h1, by simpa using h2, fun id' h => ?_, fun i id' x' hi hx' => ?_⟩
   ·unfold idsSL at h
    have h5 : id' ≠ id := fun e => h (by subst e; simp [hid0])
    rw [h3 id' (fun h' => h (List.mem_append_right _ h')), List.getElem?_set, if_neg (Ne.symm h5)]
   ·cases i with
    | zero =>
     simp at hi; subst hi
     rw [hid0] at hx'
     simp at hx'; subst hx'
     rcases ho with rfl | ⟨k, es, es', g1, rfl, g2, rfl⟩ | ⟨cs, cs', g1, rfl, rfl⟩
     ·exact .inl hs
     ·exact .inr (.inl ⟨k, es, es', g1, hs, g2, rfl⟩)
     ·exact .inr (.inr ⟨cs, cs', g1, hs, rfl⟩)
    | succ i =>
     have hi' : xs[i]? = some x' := by simpa using hi
     have h5 : id' ≠ id := fun e => hnot (by rw [← e]; exact mem_idsSL hi' hx')
     have e5 : (os.set id o)[id']? = os[id']? := by rw [List.getElem?_set, if_neg (Ne.symm h5)]
     rcases h4 i id' x' hi' hx' with g | ⟨k, es, es', g1, g2, g3, g4⟩ | ⟨cs, cs', g1, g2, g3⟩
     ·exact .inl g
     ·exact .inr (.inl ⟨k, es, es', by rw [← e5]; exact g1, g2, g3, by simpa using g4⟩)
     ·exact .inr (.inr ⟨cs, cs', by rw [← e5]; exact g1, g2, by simpa using g3⟩)
  unfold wbS1 at hk
  split at hk
  ·rename_i id
   split at hk
   ·rename_i k es'
    split at hk
    ·rename_i k0 es ho
     split at hk
     ·rename_i e
      subst e
      obtain ⟨g1, hk⟩ := hk
      exact go id _ rfl hk (.inr (.inl ⟨_, es, es', ho, rfl, g1, rfl⟩))
     ·exact hk.elim
    ·exact hk.elim
   ·exact go id _ rfl hk (.inl rfl)
  ·rename_i id off
   split at hk
   ·rename_i cs'
    split at hk
    ·rename_i cs ho
     split at hk
     ·exact go id _ rfl hk (.inr (.inr ⟨cs, cs', ho, rfl, rfl⟩))
     ·exact hk.elim
    ·exact hk.elim
   ·exact go id _ rfl hk (.inl rfl)
  ·rename_i h1 h2
   have hno : idsOfS x = [] := by cases x <;> first | rfl | exact (h1 _ rfl).elim | exact (h2 _ _ rfl).elim
   obtain ⟨os', h1, h2, h3, h4⟩ := wbsS_spec xs ys os K hk hn2 (fun id h => hlt id (List.mem_append_right _ h))
   refine ⟨os', h1, h2, fun id h => h3 id (fun h' => h (by unfold idsSL; exact List.mem_append_right _ h')), fun i id x' hi hx' => ?_⟩
   cases i with
   | zero => simp at hi; subst hi; rw [hno] at hx'; cases hx'
   | succ i => simpa using h4 i id x' (by simpa using hi) hx'

theorem lendSL_ids : ∀ {cs ys : List AV}, s.lendSL cs = some ys → ∀ (i : Nat) (x : AV), cs[i]? = some x → ∀ id ∈ idsOfS x, (x = .ob id ∧ ∃ k es, s.os[id]? = some (.row k es)) ∨ (x = .pb id 0 ∧ ∃ cs, s.os[id]? = some (.box cs))
 | [], _, _, i, x, h => by simp at h
 | z :: cs, ys, hk, i, x, h => by
  unfold AS.lendSL at hk
  split at hk
  ·rename_i y m h1 h2
   cases i with
   | zero =>
    simp at h; subst h
    intro id hid
    cases z <;> simp [idsOfS] at hid
    ·subst hid
     unfold AS.lendS at h1
     simp only at h1
     split at h1
     ·rename_i k es ho; exact .inl ⟨rfl, k, es, ho⟩
     ·cases h1
    ·subst hid
     unfold AS.lendS at h1
     simp only at h1
     split at h1
     ·rename_i cs' ho; exact .inr ⟨rfl, cs', ho⟩
     ·cases h1
   | succ i => exact lendSL_ids h2 i x (by simpa using h)
  ·cases hk

/-- A call that is lent own boxes. -/
theorem step_callS [St] (hw : CW W w A s.os hd F) (hf : FR w A s.os hd s.fr a) {dst ty pos af g} {c : Call} {f : FuncId} {caps args : List AV} {K : AV → AS → Prop} (hcal : s.callee c = some (f, caps))
  (hl : s.lendSL (c.args.toList.map s.get ++ caps) = some args) (hnd : nodupB (idsSL (c.args.toList.map s.get ++ caps)) = true)
  (run : ∀ {fo : Operand} {vs : Array Value}, c.callee = .value fo → a.eval fo = .func (.func f) #[] vs → Enters P f → (execOp a.eval ⟨dst, .call c, ty, pos, af, g⟩).run P w = .ok (.enter f (c.args.map a.eval ++ vs)) w)
  (enter : ∀ {o : Oper} {next : Act → World → Prop} {Q : Exit → Act → World → Prop} {f : FuncId} {args : Array Value} {R : Value → World → Prop}, (execOp a.eval o).run P w = .ok (.enter f args) w → (Calls P f args w fun e w' => ∃ v, e = .returned v ∧ R v w') → (∀ v w', R v w' → next (a.put o.dst v) w') → o.wp P a w next Q)
  (hk : (stdE np P).callS f args fun r args' => wbsS (stdE np P) s.os (c.args.toList.map s.get ++ caps) args' fun os' => (AS.mk s.fr os').take r K) : StepOK P W w s a ⟨dst, .call c, ty, pos, af, g⟩ K := by
 intro next Q hn
 have hnd' := nodupB_spec hnd
 generalize hids : idsSL (c.args.toList.map s.get ++ caps) = ids at *
 have hrow := lendSL_ids hl
 unfold AS.callee at hcal
 split at hcal
 ·rename_i fo hce
  split at hcal
  ·rename_i f' caps' hg
   cases hcal
   have h1 := hf.get fo
   rw [hg] at h1
   obtain ⟨vs, e1, e2, e3⟩ := h1.fn_inv
   have hargs : ∀ (i : Nat) x, (c.args.toList.map s.get ++ caps)[i]? = some x → SRel w A s.os hd x ((c.args.toList.map a.eval ++ vs.toList).getD i undef) := fun i x hx => by
    rw [List.getElem?_append] at hx
    rw [List.getD_eq_getElem?_getD, List.getElem?_append]
    simp only [List.length_map] at hx ⊢
    split
    ·rename_i hi
     rw [if_pos hi, List.getElem?_map] at hx
     rw [List.getElem?_map]
     cases hc : c.args.toList[i]? with
     | none => simp [hc] at hx
     | some y =>
      simp [hc] at hx
      subst hx
      simpa using hf.get y
    ·rename_i hi
     rw [if_neg hi] at hx
     rw [← List.getD_eq_getElem?_getD, toList_getD]
     exact e3 _ x hx
   generalize hxs : c.args.toList.map s.get ++ caps = xs at *
   obtain ⟨Qc, hac, hk⟩ := hk
   obtain ⟨h3, h4⟩ := lendSL_sound hw xs (c.args.toList.map a.eval ++ vs.toList) args (by rw [← hxs]; simp [e2]) hargs hl
   have hlen : xs.length = args.length := by rw [h3, ← hxs]; simp [e2]
   have hX : XRel w A (.tup args) (.tuple (c.args.map a.eval ++ vs)) (fun b => ∃ id ∈ ids, LF s.os hd F id b) := by
    refine .tup _ _ _ (fun i b => ∃ x, xs[i]? = some x ∧ ∃ id ∈ idsOfS x, LF s.os hd F id b) (by rw [h3]; simp) (fun i x hx => ?_) (fun b => ⟨fun ⟨id, g1, g2⟩ => ?_, fun ⟨i, _, x, g1, id, g2, g3⟩ => ?_⟩) (fun i j b hi hj ⟨x, g1, id, g2, g3⟩ ⟨x', g1', id', g2', g3'⟩ => ?_)
    ·have := h4 i x hx
     rwa [← toList_getD, Array.toList_append, Array.toList_map]
    ·rw [← hids] at g1
     obtain ⟨i, x, hi, hx⟩ := idsSL_mem g1
     exact ⟨i, by rw [← hlen]; exact (List.getElem?_eq_some_iff.1 hi).1, x, hi, id, hx, g2⟩
    ·exact ⟨id, by rw [← hids]; exact mem_idsSL g1 g2, g3⟩
    ·have := hw.disj _ _ _ g3.1 g3'.1
     subst this
     exact idsSL_inj (by rw [hids]; exact hnd') g1 g2 g1' g2'
   refine enter (run hce e1 hac.1) (R := fun v w' => ∃ G A1 r args', Qc r args' ∧ Keeps (fun b => ∃ id ∈ ids, LF s.os hd F id b) w w' ∧ XRel w' A1 (.tup (r :: args')) (.tuple (#[v] ++ (c.args.map a.eval ++ vs))) G ∧ (∀ b, G b → (∃ id ∈ ids, LF s.os hd F id b) ∨ w.heap.size ≤ b ∧ b < w'.heap.size) ∧ ∀ b, A1 b → b < w'.heap.size ∧ ¬ G b ∧ (A b ∨ w.heap.size ≤ b))
    ((hac.2 w A _ _ hw.below.gok hX (fun b hb => ⟨(hw.hA b hb).1, fun ⟨id, _, h⟩ => (hw.hA b hb).2 id h.1⟩) (fun b ⟨id, _, h⟩ => (hw.fsz id b h.1).2) (fun b ⟨id, _, h⟩ => hw.below.ng (hw.fsz id b h.1).1)).mono fun e w' ⟨v, G, A1, r, args', g0, g1, g2, g3, g4, g5⟩ => ⟨v, g1, G, A1, r, args', g0, g2, g3, g4, g5⟩) fun v w' ⟨G, A1, r, args', hq, g1, g2, g3, g4⟩ => ?_
   replace hk := hk r args' hq
   cases g2 with
   | pure _ _ _ h ho _ => simp [AV.isOwn] at ho
   | tup _ _ _ Gi hn' hc hF hd0 =>
    obtain ⟨os', hk, k1, k2, k3⟩ := wbsS_spec xs args' s.os _ hk (by rw [hids]; exact hnd') (fun id h => by
     obtain ⟨i, x, hi, hx⟩ := idsSL_mem h
     rcases hrow i x hi id hx with ⟨_, k, es, ho⟩ | ⟨_, cs, ho⟩ <;> exact (List.getElem?_eq_some_iff.1 ho).1)
    have val : ∀ (i id : Nat) (x : AV), xs[i]? = some x → id ∈ idsOfS x → (#[v] ++ (c.args.map a.eval ++ vs)).getD (i + 1) undef = hd id := fun i id x hi hx => by
     have e4 : (#[v] ++ (c.args.map a.eval ++ vs)).getD (i + 1) undef = (c.args.toList.map a.eval ++ vs.toList).getD i undef := by
      rw [← toList_getD, Array.toList_append, Array.toList_append, Array.toList_map]
      simp [List.getD_eq_getElem?_getD]
     rw [e4]
     rcases hrow i x hi id hx with ⟨rfl, k, es, ho⟩ | ⟨rfl, cs, ho⟩
     ·exact (hargs i _ hi).ob_inv ho
     ·obtain ⟨b, q1, q2⟩ := (hargs i _ hi).pb_inv ho
      rw [q1, q2]
    have sub : ∀ (i : Nat) b, i < (r :: args').length → Gi i b → (∃ id ∈ ids, F id b) ∨ w.heap.size ≤ b ∧ b < w'.heap.size := fun i b hi h => (g3 b ((hF b).2 ⟨i, hi, h⟩)).imp (fun ⟨id, h1, h2⟩ => ⟨id, h1, h2.1⟩) (fun h => h)
    have inl : ∀ {i : Nat} {y : AV}, args'[i]? = some y → i + 1 < (r :: args').length := fun {i y} h => by have := (List.getElem?_eq_some_iff.1 h).1; simpa using this
    have g1' : Keeps (fun b => ∃ id ∈ ids, F id b) w w' := ⟨g1.os, g1.tape, g1.output, g1.size, fun x hx hn => g1.block x hx (fun ⟨id, h1, h2⟩ => hn ⟨id, h1, h2.1⟩), g1.frz, g1.drawn⟩
    let A' : Nat → Prop := fun b => A b ∨ A1 b
    let Gn : Nat → Nat → Prop := fun id b => ∃ i x y, xs[i]? = some x ∧ id ∈ idsOfS x ∧ args'[i]? = some y ∧ Gi (i + 1) b
    have hAG : ∀ b, A' b → ∀ i, i < (r :: args').length → ¬ Gi i b := fun b hb i hi h => by
     rcases hb with hb | hb
     ·rcases sub i b hi h with ⟨id, _, h5⟩ | h5
      ·exact (hw.hA b hb).2 id h5
      ·have := (hw.hA b hb).1; omega
     ·exact (g4 b hb).2.1 ((hF b).2 ⟨i, hi, h⟩)
    have cong : ∀ (i id : Nat) (x y : AV), xs[i]? = some x → id ∈ idsOfS x → args'[i]? = some y → XRel w' A' y (hd id) (Gn id) := fun i id x y hi hx hy => by
     have := hc (i + 1) y (by simpa using hy)
     rw [val i id x hi hx] at this
     exact (this.mono (fun _ h => .inr h) (fun _ _ => rfl)).congr (fun b => ⟨fun ⟨j, x', y', r1, r2, r3, r4⟩ => by
      have := idsSL_inj (by rw [hids]; exact hnd') r1 r2 hi hx
      subst this; exact r4, fun h => ⟨i, x, y, hi, hx, hy, h⟩⟩)
    obtain ⟨hw2, hm2⟩ := hw.setManyS ids Gn (A' := A') (fun _ h => .inl h) (fun b hb => hb.elim (fun h => ⟨Nat.lt_of_lt_of_le (hw.hA b h).1 g1.size, .inl h⟩) (fun h => ⟨(g4 b h).1, (g4 b h).2.2⟩))
     (fun b hb id h ⟨i, x, y, r1, r2, r3, r4⟩ => hAG b hb (i + 1) (inl r3) r4) k1 g1' (fun id h => k2 id (by rw [hids]; exact h)) (fun id h => by
      rw [← hids] at h
      obtain ⟨i, x, hi, hx⟩ := idsSL_mem h
      rcases k3 i id x hi hx with q | ⟨k, es, es', q1, q2, q3, q4⟩ | ⟨cs, cs', q1, q2, q3⟩
      ·exact .inl q
      ·exact .inr (.inl ⟨k, es, es', q1, q2, q3, cong i id x _ hi hx q4⟩)
      ·exact .inr (.inr ⟨cs, cs', q1, q2, cong i id x _ hi hx q3⟩)) (fun id h b ⟨i, x, y, r1, r2, r3, r4⟩ => sub (i + 1) b (inl r3) r4)
     (fun id h j hj b ⟨i, x, y, r1, r2, r3, r4⟩ ⟨i', x', y', r1', r2', r3', r4'⟩ => by
      have := hd0 _ _ b (inl r3) (inl r3') r4 r4'
      have : i = i' := by omega
      subst this
      rw [r1] at r1'; cases r1'
      cases x <;> simp [idsOfS] at r2 r2' <;> omega)
    have h0 : XRel w' A' r v (Gi 0) := by
     have := hc 0 r (by simp)
     rw [← toList_getD] at this
     have e : (#[v] ++ (c.args.map a.eval ++ vs)).toList.getD 0 undef = v := by simp [List.getD_eq_getElem?_getD]
     rw [e] at this
     exact this.mono (fun _ h => .inr h) (fun _ _ => rfl)
    obtain ⟨s', hd', F', q1, q2, q3, q4, x', q5, q6⟩ := take_sound (s := ⟨s.fr, os'⟩) hw2 h0 (fun b hb => by
     have h5 := sub 0 b (by simp) hb
     refine ⟨?_, ?_, fun hA => hAG b hA 0 (by simp) hb, fun id hid => ?_⟩
     ·rcases h5 with ⟨id, _, h⟩ | h
      ·exact (hw.fsz id b h).1
      ·exact hw.below.new h.1
     ·rcases h5 with ⟨id, _, h⟩ | h
      ·exact Nat.lt_of_lt_of_le (hw.fsz id b h).2 g1.size
      ·exact h.2
     ·rcases hid with ⟨_, i, x, y, r1, r2, r3, r4⟩ | ⟨h6, h7⟩
      ·have := hd0 _ _ b (by simp) (inl r3) hb r4; omega
      ·rcases h5 with ⟨id', h8, h⟩ | h
       ·have := hw.disj _ _ _ h7 h; subst this; exact h6 h8
       ·have := (hw.fsz id b h7).2; omega) hk
    exact hn x' s' v w' A' hd' F' q5 q1 q2 ⟨hf.nodef, hf.size, fun t z hz => q3 _ _ (hm2 _ _ (hf.slots t z hz))⟩ q6
  ·cases hcal
 ·cases hcal
end
end Go.Proofs.YtlemeenicaidfaaGreatDoor

/- Soundness of regions, of control and of functions. -/
namespace Go.Proofs.YtlemeenicaidfaaGreatDoor
set_option linter.unusedVariables false
set_option linter.unusedSimpArgs false
open Go Go.RowKit

section
variable {P : Program} {np : Nat} {L : Lay} {W : WM} {w w' : World} {A : Nat → Prop} {os os' : List Obj} {hd hd' : Nat → Value} {F F' : Nat → Nat → Prop} {s : AS} {a : Act}

theorem run_call {c : Call} {fo : Operand} {f : FuncId} {vs : Array Value} {dst : Option Tmp} {ty : TypeId} {pos : String} {af : Array Edge} {g : Option (Nat × Bool)} (hc : c.callee = .value fo) (hf : a.eval fo = .func (.func f) #[] vs) (he : Enters P f) :
  (execOp a.eval ⟨dst, .call c, ty, pos, af, g⟩).run P w = .ok (.enter f (c.args.map a.eval ++ vs)) w := by
 obtain ⟨ce, as', ts⟩ := c
 cases hc
 have h1 : (resolve a.eval ⟨.value fo, as', ts⟩ ty).run P w = .ok { target := .fn (.func f) vs, args := #[] ++ as'.map a.eval } w := by
  simp only [resolve, hf]
  rfl
 show (resolve a.eval ⟨.value fo, as', ts⟩ ty >>= fun d => invoke d.target d.args).run P w = _
 rw [Sem.run_bind, h1]
 simp only [Result.andThen_ok, invoke]
 rw [he]
 simp

/-- The arguments of a call, met by a contract. -/
theorem call_core [St] {c : Call} (hw : CW W w A s.os hd F) (hsl : ∀ y ∈ c.operands, SRel w A s.os hd (s.get y) (a.eval y)) {f : FuncId} {caps : List AV} (hcal : s.callee c = some (f, caps)) {K : AV → Prop}
  (hk : s.resL (stdE np P) (c.args.toList.map s.get ++ caps) fun args => (stdE np P).call f args K) :
  ∃ r vs, K r ∧ (∃ fo, c.callee = .value fo ∧ a.eval fo = .func (.func f) #[] vs) ∧ Enters P f ∧
   Calls P f (c.args.map a.eval ++ vs) w fun e w' => ∃ v G, e = .returned v ∧ Keeps (fun _ => False) w w' ∧ XRel w' (fun _ => False) r v G ∧ ∀ b, G b → w.heap.size ≤ b ∧ b < w'.heap.size := by
 unfold AS.callee at hcal
 split at hcal
 ·rename_i fo hce
  split at hcal
  ·rename_i f' caps' hg
   cases hcal
   have h1 := hsl fo (by simp [Call.operands, hce])
   rw [hg] at h1
   obtain ⟨vs, e1, e2, e3⟩ := h1.fn_inv
   obtain ⟨args, ⟨r, hac, hk⟩, hl, hr⟩ := resL_sound hw (c.args.toList.map s.get ++ caps) (c.args.toList.map a.eval ++ vs.toList) _ (by simp [e2]) (fun i x hx => by
    rw [List.getElem?_append] at hx
    rw [List.getD_eq_getElem?_getD, List.getElem?_append]
    simp only [List.length_map] at hx ⊢
    split
    ·rename_i hi
     rw [if_pos hi, List.getElem?_map] at hx
     rw [List.getElem?_map]
     cases hc : c.args.toList[i]? with
     | none => simp [hc] at hx
     | some y =>
      simp [hc] at hx
      subst hx
      simpa using hsl y (by simp [Call.operands]; exact .inr (Array.mem_toList_iff.1 (List.mem_of_getElem? hc)))
    ·rename_i hi
     rw [if_neg hi] at hx
     rw [← List.getD_eq_getElem?_getD, toList_getD]
     exact e3 _ x hx) hk
   refine ⟨r, vs, hk, ⟨fo, hce, e1⟩, hac.1, ?_⟩
   refine hac.2 w _ hw.below.gok ⟨?_, fun i x hx => ?_⟩
   ·rw [hl]; simp
   ·have := hr i x hx
    rwa [← toList_getD, Array.toList_append, Array.toList_map]
  ·cases hcal
 ·cases hcal

theorem run_callB {c : Call} {fo : Operand} {f : FuncId} {vs : Array Value} {dst : Option Tmp} {ty : TypeId} {pos : String} {af : Array Edge} {g : Option (Nat × Bool)} (hc : c.callee = .value fo) (hf : a.eval fo = .func (.func f) #[.agg vs] #[]) (he : Enters P f) :
  (execOp a.eval ⟨dst, .call c, ty, pos, af, g⟩).run P w = .ok (.enter f (#[.agg vs] ++ c.args.map a.eval)) w := by
 obtain ⟨ce, as', ts⟩ := c
 cases hc
 have h1 : (resolve a.eval ⟨.value fo, as', ts⟩ ty).run P w = .ok { target := .fn (.func f) #[], args := #[.agg vs] ++ as'.map a.eval } w := by
  simp only [resolve, hf]
  rfl
 show (resolve a.eval ⟨.value fo, as', ts⟩ ty >>= fun d => invoke d.target d.args).run P w = _
 rw [Sem.run_bind, h1]
 simp only [Result.andThen_ok, invoke]
 rw [he]
 simp
theorem call_coreB [St] {c : Call} (hw : CW W w A s.os hd F) (hsl : ∀ y ∈ c.operands, SRel w A s.os hd (s.get y) (a.eval y)) {f : FuncId} {cs : List AV} (hcal : s.calleeB c = some (f, cs)) {K : AV → Prop}
  (hk : s.resL (stdE np P) (c.args.toList.map s.get) fun args => (stdE np P).call f (.agg cs :: args) K) :
  ∃ r vs, K r ∧ (∃ fo, c.callee = .value fo ∧ a.eval fo = .func (.func f) #[.agg vs] #[]) ∧ Enters P f ∧
   Calls P f (#[.agg vs] ++ c.args.map a.eval) w fun e w' => ∃ v G, e = .returned v ∧ Keeps (fun _ => False) w w' ∧ XRel w' (fun _ => False) r v G ∧ ∀ b, G b → w.heap.size ≤ b ∧ b < w'.heap.size := by
 unfold AS.calleeB at hcal
 split at hcal
 ·rename_i fo hce
  split at hcal
  ·rename_i f' cs' hg
   cases hcal
   have h1 := hsl fo (by simp [Call.operands, hce])
   rw [hg] at h1
   have h1 := h1.pure_inv trivial
   generalize hv : a.eval fo = v0 at h1
   cases h1 with
   | fb _ _ vs hn hc =>
    obtain ⟨args, ⟨r, hac, hk⟩, hl, hr⟩ := resL_sound hw (c.args.toList.map s.get) (c.args.toList.map a.eval) _ (by simp) (fun i x hx => by
     rw [List.getElem?_map] at hx
     rw [List.getD_eq_getElem?_getD, List.getElem?_map]
     cases hc : c.args.toList[i]? with
     | none => simp [hc] at hx
     | some y =>
      simp [hc] at hx
      subst hx
      simpa using hsl y (by simp [Call.operands]; exact .inr (Array.mem_toList_iff.1 (List.mem_of_getElem? hc)))) hk
    refine ⟨r, vs, hk, ⟨fo, hce, hv⟩, hac.1, ?_⟩
    refine hac.2 w _ hw.below.gok ⟨?_, fun i x hx => ?_⟩
    ·simp [hl]; omega
    ·rw [← toList_getD, Array.toList_append, Array.toList_map]
     cases i with
     | zero =>
      simp at hx; subst hx
      simp only [List.cons_append, List.nil_append, List.getD_cons_zero]
      exact Rel.wide hw (.agg _ _ hn hc)
     | succ i =>
      simp only [List.getElem?_cons_succ] at hx
      simpa using hr i x hx
  ·cases hcal
 ·cases hcal

theorem wp_enter {o : Oper} {next : Act → World → Prop} {Q : Exit → Act → World → Prop} {f : FuncId} {args : Array Value} {R : Value → World → Prop} (h : (execOp a.eval o).run P w = .ok (.enter f args) w) (hc : Calls P f args w fun e w' => ∃ v, e = .returned v ∧ R v w') (hn : ∀ v w', R v w' → next (a.put o.dst v) w') : o.wp P a w next Q := by
 unfold Oper.wp
 rw [h, Oper.upon_enter]
 exact hc.mono fun e w' ⟨v, he, hR⟩ => by subst he; exact hn v w' hR

theorem step_call [St] (hw : CW W w A s.os hd F) (hf : FR w A s.os hd s.fr a) {dst ty pos af g} {c : Call} {f : FuncId} {caps : List AV} {K : AV → AS → Prop} (hcal : s.callee c = some (f, caps))
  (hk : s.resL (stdE np P) (c.args.toList.map s.get ++ caps) fun args => (stdE np P).call f args fun r => s.take r K) : StepOK P W w s a ⟨dst, .call c, ty, pos, af, g⟩ K := by
 intro next Q hn
 obtain ⟨r, vs, hk, ⟨fo, h1, h2⟩, h3, h4⟩ := call_core hw (fun y _ => hf.get y) hcal hk
 refine wp_enter (run_call h1 h2 h3) (R := fun v w' => ∃ G, Keeps (fun _ => False) w w' ∧ XRel w' (fun _ => False) r v G ∧ ∀ b, G b → w.heap.size ≤ b ∧ b < w'.heap.size) (h4.mono fun e w' ⟨v, G, g1, g2⟩ => ⟨v, g1, G, g2⟩) fun v w' ⟨G, g1, g2, g3⟩ => ?_
 have hw' := hw.keep g1
 obtain ⟨s', hd', F', e1, e2, e3, e4, x', e5, e6⟩ := take_sound hw' (g2.mono (A' := A) (fun _ h => h.elim) (fun _ _ => rfl)) (fun y hy => by
  obtain ⟨q1, q2⟩ := g3 y hy
  exact ⟨hw.below.new q1, q2, fun h => by have := (hw.hA y h).1; omega, fun id h => by have := (hw.fsz id y h).2; omega⟩) hk
 exact hn x' s' v w' A hd' F' e5 e1 e2 (hf.os_mono fun z u h => e3 _ _ (h.keep (fun y hy => (hw.hA y hy).1) g1)) e6

theorem CW.grow [St] (hw : CW W w A os hd F) {G : Nat → Prop} (hG : ∀ y, G y → y < w.heap.size ∧ ∀ id, ¬ F id y) (hN : ∀ y, G y → W.w.heap.size ≤ y) : CW W w (fun b => A b ∨ G b) os hd F where
 below := hw.below
 pin := hw.pin
 old x hx hlt := hx.elim (fun h => hw.old x h hlt) (fun h => by have := hN x h; omega)
 hA x hx := hx.elim (hw.hA x) (hG x)
 fsz := hw.fsz
 disj := hw.disj
 rows id k es ho := (hw.rows id k es ho).mono (fun _ h => .inl h) (fun _ _ => rfl)
 boxes id cs ho := by
  obtain ⟨b, T, c, e1, e2, e3, e4, e5⟩ := hw.boxes id cs ho
  exact ⟨b, T, c, e1, e2, e3, fun i x hx => (e4 i x hx).mono (fun _ _ => rfl) (fun _ h => .inl h), e5⟩
 iters := hw.iters

/-- A call whose result is only read. -/
theorem step_callF [St] (hw : CW W w A s.os hd F) (hf : FR w A s.os hd s.fr a) {dst ty pos af g} {c : Call} {f : FuncId} {caps : List AV} {K : AV → AS → Prop} (hcal : s.callee c = some (f, caps))
  (hk : s.resL (stdE np P) (c.args.toList.map s.get ++ caps) fun args => (stdE np P).call f args fun r => K r s) : StepOK P W w s a ⟨dst, .call c, ty, pos, af, g⟩ K := by
 intro next Q hn
 obtain ⟨r, vs, hk, ⟨fo, h1, h2⟩, h3, h4⟩ := call_core hw (fun y _ => hf.get y) hcal hk
 refine wp_enter (run_call h1 h2 h3) (R := fun v w' => ∃ G, Keeps (fun _ => False) w w' ∧ XRel w' (fun _ => False) r v G ∧ ∀ b, G b → w.heap.size ≤ b ∧ b < w'.heap.size) (h4.mono fun e w' ⟨v, G, g1, g2⟩ => ⟨v, g1, G, g2⟩) fun v w' ⟨G, g1, g2, g3⟩ => ?_
 exact hn r s v w' (fun b => A b ∨ G b) hd F hk rfl
  ((hw.keep g1).grow (fun y hy => ⟨(g3 y hy).2, fun id h => by have := (hw.fsz id y h).2; have := (g3 y hy).1; omega⟩) (fun y hy => Nat.le_trans hw.below.size (g3 y hy).1))
  ⟨hf.nodef, hf.size, fun t z hz => ((hf.slots t z hz).keep (fun y hy => (hw.hA y hy).1) g1).mono (fun _ _ => rfl) (fun _ h => .inl h)⟩
  (.pure _ _ (g2.rel (fun _ h => h.elim) (fun _ h => .inr h)))

theorem step_callB [St] (hw : CW W w A s.os hd F) (hf : FR w A s.os hd s.fr a) {dst ty pos af g} {c : Call} {f : FuncId} {cs : List AV} {K : AV → AS → Prop} (hcal : s.calleeB c = some (f, cs))
  (hk : s.resL (stdE np P) (c.args.toList.map s.get) fun args => (stdE np P).call f (.agg cs :: args) fun r => s.take r K) : StepOK P W w s a ⟨dst, .call c, ty, pos, af, g⟩ K := by
 intro next Q hn
 obtain ⟨r, vs, hk, ⟨fo, h1, h2⟩, h3, h4⟩ := call_coreB hw (fun y _ => hf.get y) hcal hk
 refine wp_enter (run_callB h1 h2 h3) (R := fun v w' => ∃ G, Keeps (fun _ => False) w w' ∧ XRel w' (fun _ => False) r v G ∧ ∀ b, G b → w.heap.size ≤ b ∧ b < w'.heap.size) (h4.mono fun e w' ⟨v, G, g1, g2⟩ => ⟨v, g1, G, g2⟩) fun v w' ⟨G, g1, g2, g3⟩ => ?_
 have hw' := hw.keep g1
 obtain ⟨s', hd', F', e1, e2, e3, e4, x', e5, e6⟩ := take_sound hw' (g2.mono (A' := A) (fun _ h => h.elim) (fun _ _ => rfl)) (fun y hy => by
  obtain ⟨q1, q2⟩ := g3 y hy
  exact ⟨hw.below.new q1, q2, fun h => by have := (hw.hA y h).1; omega, fun id h => by have := (hw.fsz id y h).2; omega⟩) hk
 exact hn x' s' v w' A hd' F' e5 e1 e2 (hf.os_mono fun z u h => e3 _ _ (h.keep (fun y hy => (hw.hA y hy).1) g1)) e6

theorem step_val [St] (hL : L.ty = layOf P) (hw : CW W w A s.os hd F) (hf : FR w A s.os hd s.fr a) {dst op ty pos af g} {K : AV → AS → Prop} (hk : aval (stdE np P) L s op fun v => K v s) : StepOK P W w s a ⟨dst, op, ty, pos, af, g⟩ K := by
 intro next Q hn
 obtain ⟨x, v, h1, h2, h3⟩ := aval_sound (dst := dst) (ty := ty) (pos := pos) (af := af) (g := g) hL hw (fun y _ => hf.get y) hk
 exact wp_value h3 (hn x s v w A hd F h1 rfl hw hf h2)

theorem AV.cells_spec (x : AV) : (∃ cs, x = .agg cs) ∨ x.cells = [x] := by
 cases x <;> first | exact .inl ⟨_, rfl⟩ | exact .inr rfl

/-- The texts' iterators. -/
theorem Keeps.allocO [St] (w : World) (o : Go.Obj) : Keeps (fun _ => False) w (w.alloc o) :=
 ⟨rfl, rfl, rfl, by simp, fun x hx _ => Below.heap_alloc _ _ _ hx, fun a ha => by
  have : (w.alloc o).heap[a.block]? = w.heap[a.block]? := Below.heap_alloc _ _ _ ha
  simp [World.frozen?, this], DrawLe.of (Nat.le_refl _)⟩
theorem Keeps.setBlk [St] (w : World) {b : Nat} {o o' : Go.Obj} (G : Nat → Prop) (hG : G b) (hb : w.heap[b]? = some o) (h0 : ∀ off : Nat, w.frozen? ⟨b, off, none⟩ = false) (h1 : match o' with | .cells .. => False | _ => True) : Keeps G w { w with heap := w.heap.setIfInBounds b o' } := by
 refine ⟨rfl, rfl, rfl, by simp, fun x _ hx => ?_, fun a ha => ?_, DrawLe.of (Nat.le_refl _)⟩
 ·have : b ≠ x := fun e => hx (e ▸ hG)
  simp [Array.getElem?_setIfInBounds, this]
 ·by_cases e : b = a.block
  ·have h2 := h0 a.off
   have h3 : w.frozen? a = false := by
    rw [e] at h2
    simpa [World.frozen?] using h2
   rw [h3]
   simp only [World.frozen?, ← e, Array.getElem?_setIfInBounds, if_true]
   split
   ·rename_i h4
    split at h4
    ·cases h4; exact h1.elim
    ·cases h4
   ·rfl
  ·simp [World.frozen?, Array.getElem?_setIfInBounds, e]
theorem step_range [St] (hL : L.ty = layOf P) (hw : CW W w A s.os hd F) (hf : FR w A s.os hd s.fr a) {dst ty pos af g} {t : TypeId} {x : Operand} {b : ByteArray} {K : AV → AS → Prop} (hs : isStr L t = true) (hx : s.get x = .str b)
  (hk : K (.it s.os.length) ⟨s.fr, s.os ++ [.iter b 0]⟩) : StepOK P W w s a ⟨dst, .range t x, ty, pos, af, g⟩ K := by
 intro next Q hn
 have h1 := hf.get x
 rw [hx] at h1
 have e := h1.str_inv.1
 have ht := isStr_spec hL hs
 have hr : (execOp a.eval ⟨dst, .range t x, ty, pos, af, g⟩).run P w = .ok (.value (.pointer (some ⟨w.heap.size, 0, none⟩))) (w.alloc (.stringIter b 0)) := by
  simp only [execOp, e]
  simp [Instr.range, run_underlying ht, go_sem]
 have hkp := Keeps.allocO w (.stringIter b 0)
 have hA : ∀ y, A y → y < w.heap.size := fun y hy => (hw.hA y hy).1
 have hnew : (w.alloc (.stringIter b 0)).heap[w.heap.size]? = some (.stringIter b 0) := by
  show (w.heap.push _)[w.heap.size]? = _
  simp
 refine wp_value hr (hn _ ⟨s.fr, s.os ++ [.iter b 0]⟩ _ _ A _ _ hk rfl ((hw.keep hkp).push (.iter b 0) (.pointer (some ⟨w.heap.size, 0, none⟩)) (fun x => x = w.heap.size) (fun x hx => ?_) (fun k es e => by cases e) (fun cs' e => by cases e) (fun s' p' e => ?_)) (hf.os_mono fun y u h => (h.keep hA hkp).push _ _) (.it _ _ (by simp) fun s' p' ho => ?_))
 ·subst hx
  refine ⟨hw.below.new (Nat.le_refl _), by simp, fun h => Nat.lt_irrefl _ (hA _ h), fun id h => Nat.lt_irrefl _ (hw.fsz id _ h).2⟩
 ·cases e
  exact ⟨w.heap.size, rfl, hnew, rfl⟩
 ·exact (updN_eq _ _ _).symm
theorem step_next [St] (hw : CW W w A s.os hd F) (hf : FR w A s.os hd s.fr a) {dst ty pos af g} {x : Operand} {id p : Nat} {b : ByteArray} {K : AV → AS → Prop} (hx : s.get x = .it id) (ho : s.os[id]? = some (.iter b p))
  (hk : (stdE np P).nxt b p (fun q r n => K (.tup [.bool true, .int .i64 q, .int .i32 r]) ⟨s.fr, s.os.set id (.iter b n)⟩) (K (.tup [.bool false]) s)) : StepOK P W w s a ⟨dst, .next x true, ty, pos, af, g⟩ K := by
 intro next Q hn
 have h1 := hf.get x
 rw [hx] at h1
 have e := h1.it_inv ho
 obtain ⟨r, e1, e2, e3⟩ := hw.iters id b p ho
 rw [e1] at e
 have hg : (getObj r).run P w = .ok (.stringIter b p) w := by simp [getObj, Sem.run, e2]
 have hlt : r < w.heap.size := (Array.getElem?_eq_some_iff.1 e2).1
 change (if p < b.size then _ else _) at hk
 split at hk
 ·rename_i hp
  have hset : ∀ o, (setObj r o).run P w = .ok () { w with heap := w.heap.setIfInBounds r o } := fun o => by simp [setObj, Sem.run, e2]
  have hr : (execOp a.eval ⟨dst, .next x true, ty, pos, af, g⟩).run P w = .ok (.value (.tuple #[.bool true, .int .i64 p, .int .i32 (Utf8.decode b p).1])) { w with heap := w.heap.setIfInBounds r (.stringIter b (p + (Utf8.decode b p).2)) } := by
   simp only [execOp, e]
   simp [Instr.next, hg, hp, hset, go_sem]
  have hkp := Keeps.setBlk w (o' := .stringIter b (p + (Utf8.decode b p).2)) (F id) e3 e2 (fun off => by simp [World.frozen?, e2]) trivial
  obtain ⟨hw', hm⟩ := hw.setAt (o' := .iter b (p + (Utf8.decode b p).2)) ho hkp (fun k es' e => by cases e) (fun cs' e => by cases e) (fun k es e => by cases e) (fun hm cs' e => by cases e) (fun s' p' e => ⟨b, p, rfl⟩) (fun s' p' e => by
   cases e
   exact ⟨r, e1, by simp [Array.getElem?_setIfInBounds, hlt], e3⟩)
  refine wp_value hr (hn _ _ _ _ A hd F hk rfl hw' (hf.os_mono hm) (.pure _ _ (.tup _ _ rfl fun i y hy => ?_)))
  match i, hy with
  | 0, hy => simp at hy; subst hy; exact .bool _
  | 1, hy => simp at hy; subst hy; exact .int _ _
  | 2, hy => simp at hy; subst hy; exact .int _ _
  | n + 3, hy => simp at hy
 ·rename_i hp
  have hr : (execOp a.eval ⟨dst, .next x true, ty, pos, af, g⟩).run P w = .ok (.value (.tuple #[.bool false])) w := by
   simp only [execOp, e]
   simp [Instr.next, hg, hp, go_sem]
  refine wp_value hr (hn _ _ _ _ A hd F hk rfl hw hf (.pure _ _ (.tup _ _ rfl fun i y hy => ?_)))
  match i, hy with
  | 0, hy => simp at hy; subst hy; exact .bool _
  | n + 1, hy => simp at hy
theorem astep_sound [St] (hL : L.ty = layOf P) (hw : CW W w A s.os hd F) (hf : FR w A s.os hd s.fr a) {o : Oper} {K : AV → AS → Prop} (hk : astep (stdE np P) L s o K) : StepOK P W w s a o K := by
 obtain ⟨dst, op, ty, pos, af, g⟩ := o
 cases op
 case alloc t => exact step_alloc hL hw hf hk
 case box t x => exact step_box hw hf hk
 case range t x =>
  simp only [astep] at hk
  split at hk
  ·rename_i b hs hx
   exact step_range hL hw hf hs hx hk
  ·exact hk.elim
 case next x st =>
  cases st
  ·simp only [astep, aval] at hk
  ·simp only [astep] at hk
   split at hk
   ·rename_i id hx
    split at hk
    ·rename_i b p ho
     exact step_next hw hf hx ho hk
    ·exact hk.elim
   ·exact hk.elim
 case store t x y =>
  simp only [astep] at hk
  split at hk
  ·rename_i id off hx
   split at hk
   ·rename_i cs ho
    split at hk
    ·exact hk.elim
    ·rename_i new hcl hne
     split at hk
     ·rename_i hh
      exact step_store_box hL hw hf hx ho hcl (by intro e; simp_all) hh.1 hh.2 hk
     ·exact hk.elim
    ·exact hk.elim
   ·exact hk.elim
  ·rename_i id i j hx
   split at hk
   ·exact hk.elim
   ·rename_i hne
    split at hk
    ·rename_i hn
     have hy := hf.get y
     have hcells : ∃ vsl, (a.eval y).cells.toList = vsl ∧ vsl.length = (s.get y).cells.length ∧ ∀ (q : Nat) z, (s.get y).cells[q]? = some z → SRel w A s.os hd z (vsl.getD q undef) := by
      rcases AV.cells_spec (s.get y) with ⟨cs, e⟩ | e
      ·rw [e] at hy ⊢
       obtain ⟨vs, e1, e2, e3⟩ := hy.agg_inv
       exact ⟨vs.toList, by rw [e1]; rfl, by rw [Array.length_toList, e2]; rfl, fun q z hz => by rw [toList_getD]; exact e3 q z hz⟩
      ·rw [e] at hk ⊢
       have h1 := hk
       unfold AS.ownL at h1
       obtain ⟨_, _, _, _, _, _, _, _, _, _, _, _, hone⟩ := own1_sound hw hy h1
       refine ⟨[a.eval y], ?_, rfl, fun q z hz => ?_⟩
       ·generalize a.eval y = v at *
        cases v <;> first | rfl | (simp [Value.oneCell'] at hone)
       ·cases q with
        | zero => simp at hz; subst hz; simpa using hy
        | succ q => simp at hz
     obtain ⟨vsl, e1, e2, e3⟩ := hcells
     exact step_store_row hL hw hf hx (by intro e; simp_all) e1 e2 e3 hn hk
    ·exact hk.elim
  ·exact hk.elim
 case build t parts =>
  simp only [astep] at hk
  split at hk
  ·exact hk.elim
  ·rename_i fs z hd0 hz
   split at hk
   ·rename_i cs hkn hcs
    exact step_build_struct hL hw hf hd0 (by intro e; simp_all) hkn hcs hk
   ·exact hk.elim
  ·rename_i len e hd0 hz
   split at hk
   ·exact hk.elim
   ·rename_i cs hcs hne
    exact step_build_array hL hw hf hd0 (by intro e; simp_all) (by intro e; simp_all) hcs hk
   ·exact hk.elim
  ·exact hk.elim
 case buildSlice t len parts =>
  simp only [astep] at hk
  split at hk
  ·rename_i e hd0
   split at hk
   ·exact hk.elim
   ·exact hk.elim
   ·rename_i z hne hz
    split at hk
    ·rename_i hh
     split at hk
     ·rename_i cs hcs
      exact step_buildSlice hL hw hf hd0 (by intro e; simp_all) (by intro e; simp_all) hh.1 hh.2 hcs hk
     ·exact hk.elim
    ·exact hk.elim
  ·exact hk.elim
 case makeSlice t l c =>
  simp only [astep] at hk
  split at hk
  ·rename_i e _ l' _ c' hd0 hl hc
   split at hk
   ·exact hk.elim
   ·exact hk.elim
   ·rename_i z hne hz
    split at hk
    ·rename_i hh
     exact step_make hL hw hf hd0 (by intro e; simp_all) hh.1 hh.2 hl hc hk
    ·exact hk.elim
  ·exact hk.elim
 case call c =>
  simp only [astep] at hk
  split at hk
  ·rename_i hce
   split at hk
   ·rename_i x y t t' ha ht
    split at hk
    ·rename_i e; subst e
     split at hk
     ·rename_i e hd0
      split at hk
      ·exact hk.elim
      ·exact hk.elim
      ·rename_i z hne hz
       split at hk
       ·rename_i hh
        exact step_app hL hw hf hce ha ht hd0 (by intro e; simp_all) (by intro e; simp_all) hh.1 hh.2 hk
       ·exact hk.elim
     ·exact hk.elim
    ·exact hk.elim
   ·exact hk.elim
  ·rename_i hce
   split at hk
   ·rename_i x t ha ht
    split at hk
    ·rename_i e id lo hi hd0 hx
     split at hk
     ·exact hk.elim
     ·rename_i z k es ho hne
      split at hk
      ·rename_i hh
       obtain ⟨⟨h1, h2⟩, h3⟩ := hh
       subst h3
       exact step_clear hL hw hf hce ha ht hd0 hne h1 h2 hx ho hk
      ·exact hk.elim
     ·exact hk.elim
    ·exact hk.elim
   ·exact hk.elim
  ·split at hk
   ·rename_i f caps hcal
    split at hk
    ·split at hk
     ·exact step_call hw hf hcal hk
     ·exact step_callF hw hf hcal hk
    ·split at hk
     ·split at hk
      ·rename_i args hl hnd
       exact step_callM hw hf hcal hl hnd (fun h1 h2 h3 => run_call h1 h2 h3) wp_enter hk
      ·exact hk.elim
     ·split at hk
      ·rename_i args hl hnd
       exact step_callS hw hf hcal hl hnd (fun h1 h2 h3 => run_call h1 h2 h3) wp_enter hk
      ·exact hk.elim
   ·split at hk
    ·rename_i hcal
     exact step_callB hw hf hcal hk
    ·exact hk.elim
  ·exact step_val (np := np) hL hw hf hk
 all_goals exact step_val (np := np) hL hw hf hk

theorem yield_sound (hf : FR w A s.os hd s.fr a) {ops : Array Oper} {j : Nat} {r : Option Bool} (h : s.yield ops.toList j = some r) : yielded ops a.tmps j = r := by
 unfold AS.yield at h
 split at h
 ·rename_i o ho
  split at h
  ·rename_i d hd0
   have e : (ops[j]?).bind (·.dst) = some d := by
    rw [Array.getElem?_toList] at ho
    rw [ho]; exact hd0
   have slot : ∀ x, s.fr.getD d .any = x → x ≠ .any → ∃ v, a.tmps[d]? = some v ∧ SRel w A s.os hd x v := fun x hx hne => by
    have hlt : d < s.fr.length := by
     apply Classical.byContradiction
     intro hn
     rw [List.getD_eq_getElem?_getD, List.getElem?_eq_none (Nat.le_of_not_lt hn)] at hx
     exact hne hx.symm
    rw [List.getD_eq_getElem?_getD, List.getElem?_eq_getElem hlt] at hx
    have h1 := hf.slots d x (by rw [List.getElem?_eq_getElem hlt]; exact congrArg some hx)
    have h2 : d < a.tmps.size := by rw [hf.size]; exact hlt
    exact ⟨_, Array.getElem?_eq_getElem h2, by simpa [Array.getD, h2] using h1⟩
   unfold yielded
   rw [e]
   simp only [Option.bind_some]
   split at h
   ·rename_i b hb
    cases h
    obtain ⟨v, e1, e2⟩ := slot _ hb (by simp)
    rw [e1, e2.bool_inv]
   ·rename_i hb
    cases h
    obtain ⟨v, e1, e2⟩ := slot _ hb (by simp)
    rw [e1, e2.und_inv]
    rfl
   ·cases h
  ·cases h
 ·cases h

theorem SRel.und : SRel w A os hd .und undef := .pure _ _ .und

theorem AS.put_os (s : AS) (d : Option Nat) (x : AV) : (s.put d x).os = s.os := by cases d <;> rfl

/-- A region in the text's order. -/
theorem aops_sound [St] (hL : L.ty = layOf P) {ops : Array Oper} {Q : Exit → Act → World → Prop} {K : AS → Prop} (hQ : ∀ s' a' w' A' hd' F', K s' → CW W w' A' s'.os hd' F' → FR w' A' s'.os hd' s'.fr a' → Q .normal a' w') :
  ∀ (l : List Oper) (s : AS) (a : Act) (w : World) (A : Nat → Prop) (hd : Nat → Value) (F : Nat → Nat → Prop), CW W w A s.os hd F → FR w A s.os hd s.fr a → aops (stdE np P) L false ops.toList l s K → wpList P ops Q l a w
 | [], s, a, w, A, hd, F, hw, hf, hk => hQ s a w A hd F hk hw hf
 | o :: rest, s, a, w, A, hd, F, hw, hf, hk => by
  have step : astep (stdE np P) L s o (fun v s' => aops (stdE np P) L false ops.toList rest (s'.put o.dst v) K) → o.wp P a w (wpList P ops Q rest) Q := fun h =>
   astep_sound hL hw hf h (wpList P ops Q rest) Q fun x s' v w' A' hd' F' hk' hfr hw' hf' hx => by
    rw [← hfr] at hf'
    exact aops_sound hL hQ rest _ _ w' A' hd' F' (by rw [AS.put_os]; exact hw') (hf'.put hx o.dst) hk'
  have skip : aops (stdE np P) L false ops.toList rest (s.put o.dst .und) K → wpList P ops Q rest (a.put o.dst undef) w := fun h =>
   aops_sound hL hQ rest _ _ w A hd F (by rw [AS.put_os]; exact hw) (hf.put .und o.dst) h
  unfold aops at hk
  unfold wpList
  split at hk
  ·rename_i hg
   rw [if_pos (by simp [Region.wanted, hg])]
   exact .inl (step hk)
  ·rename_i j want hg
   split at hk
   ·exact hk.elim
   ·rename_i hy
    have := yield_sound hf hy
    rw [if_neg (by simp [Region.wanted, hg, this])]
    exact skip hk
   ·rename_i b hy
    have := yield_sound hf hy
    split at hk
    ·rename_i e
     subst e
     rw [if_pos (by simp [Region.wanted, hg, this])]
     exact .inl (step hk)
    ·rename_i e
     rw [if_neg (by simp [Region.wanted, hg, this, e])]
     exact skip hk

end
end Go.Proofs.YtlemeenicaidfaaGreatDoor

/- A nested own row that a changing call is lent: soundness. -/
namespace Go.Proofs.YtlemeenicaidfaaGreatDoor
set_option linter.unusedVariables false
set_option linter.unusedSimpArgs false
open Go Go.RowKit

section
variable {P : Program} {np : Nat} {L : Lay} {W : WM} {w w' : World} {A : Nat → Prop} {os os' : List Obj} {hd hd' : Nat → Value} {F F' : Nat → Nat → Prop} {s : AS} {a : Act}

theorem Keeps.weaken [St] {G G' : Nat → Prop} (h : Keeps G w w') (hG : ∀ x, G x → G' x) : Keeps G' w w' :=
 ⟨h.os, h.tape, h.output, h.size, fun x hx hn => h.block x hx (fun hg => hn (hG x hg)), h.frz, h.drawn⟩
def Moves (d : Nat) (mv : List Oper) : Prop := ∀ o ∈ mv, o.guard = none ∧ ∃ x e, o.op = .move x ∧ o.dst = some e ∧ e ≠ d
theorem moves_os : ∀ (mv : List Oper) (s : AS), (s.moves mv).os = s.os
 | [], s => rfl
 | o :: mv, s => by
  unfold AS.moves
  split
  ·rw [moves_os mv, AS.put_os]
  ·exact moves_os mv s
theorem moves_sound [St] (hL : L.ty = layOf P) {ops : Array Oper} {Q : Exit → Act → World → Prop} {d : Nat} {v : Value} {l : List Oper} : ∀ (mv : List Oper) (s : AS) (a : Act), Moves d mv → CW W w A s.os hd F → FR w A s.os hd s.fr a → a.tmps.getD d undef = v →
  (∀ a', FR w A s.os hd (s.moves mv).fr a' → a'.tmps.getD d undef = v → wpList P ops Q l a' w) → wpList P ops Q (mv ++ l) a w
 | [], s, a, _, _, hf, hv, h => h a hf hv
 | o :: mv, s, a, hm, hw, hf, hv, h => by
  obtain ⟨hg, x, e, hop, hdst, hne⟩ := hm o (List.mem_cons_self ..)
  show wpList P ops Q (o :: (mv ++ l)) a w
  obtain ⟨dst, op, ty, pos, af, g⟩ := o
  simp only at hg hop hdst
  subst hg hop hdst
  unfold wpList
  rw [if_pos (by simp [Region.wanted])]
  obtain ⟨y, u, h1, h2, h3⟩ := aval_sound (np := 0) (dst := some e) (ty := ty) (pos := pos) (af := af) (g := none) hL hw (fun y _ => hf.get y) (show aval (stdE 0 P) L s (.move x) (· = s.get x) from rfl)
  subst h1
  refine .inl (wp_value h3 ?_)
  refine moves_sound hL mv (s.put (some e) (s.get x)) _ (fun o ho => hm o (List.mem_cons_of_mem _ ho)) (by rw [AS.put_os]; exact hw) (hf.put h2 (some e)) ?_ (fun a' hf' hv' => h a' (by rw [AS.put_os] at hf'; exact hf') hv')
  rw [← hv]
  simp [Act.put, Array.getD_eq_getD_getElem?, Array.getElem?_setIfInBounds, hne]

theorem anest_sound [St] (hL : L.ty = layOf P) {ops : Array Oper} {Q : Exit → Act → World → Prop} {id d : Nat} {i : Int} {j : Nat} {mv rest : List Oper} {o oc : Oper} {c : Call} {t : TypeId} {x : Operand} {f : FuncId} {xs : List Operand} {K : AS → Prop}
  (hog : o.guard = none) (hoo : o.op = .load t x) (hod : o.dst = some d) (hd1 : (L.ty t).d ≠ .other) (hagg : (L.ty t).agg = false) (hx : s.get x = .pe id i j) (hm : Moves d mv) (hcg : oc.guard = none) (hco : oc.op = .call c) (hce : c.callee = .value (.func f)) (hca : c.args.toList = .tmp d :: xs)
  (hw : CW W w A s.os hd F) (hf : FR w A s.os hd s.fr a) (hk : anest (stdE np P) s id i j d mv oc c K)
  (hQ : ∀ s' a' w' A' hd' F', K s' → CW W w' A' s'.os hd' F' → FR w' A' s'.os hd' s'.fr a' → wpList P ops Q rest a' w') : wpList P ops Q (o :: (mv ++ oc :: rest)) a w := by
 have hpe := hf.get x
 rw [hx] at hpe
 unfold anest at hk
 split at hk
 ·rename_i hdl
  split at hk
  ·rename_i k es ho
   obtain ⟨hi0, e, he, hk⟩ := hk
   split at hk
   ·rename_i k' es' tl hdrop
    rw [hce] at hk
    simp only at hk
    split at hk
    ·rename_i rs hlc
     obtain ⟨Qc, hac, hk⟩ := hk
     obtain ⟨b0, n0, c0, q1, _, q3, q4⟩ := hpe.pe_inv ho
     have hrow := hw.rows id k es ho
     rw [q1] at hrow
     generalize hhd : Value.slice (some ⟨b0, 0, none⟩) n0 c0 = hv at hrow
     cases hrow with
     | pure _ _ _ h ho hF => simp [AV.isOwn] at ho
     | nil => cases hhd
     | sl _ _ cap b T cs _ G hb hl hcap hsz hke h1c hr hF h00 hdj =>
      cases hhd
      have hej : e[j]? = some (.sl true k' es') := by
       have := congrArg (fun q => q[0]?) hdrop
       simpa using this
      have hjk : j < k := by
       have := (List.getElem?_eq_some_iff.1 hej).1
       rwa [hke e (List.mem_of_getElem? he)] at this
      have hil : i.toNat < es.length := q3
      have hrc := hr i.toNat j e _ he hej
      obtain ⟨v, hv⟩ : ∃ v, v = cs.getD (i.toNat * k + j) undef := ⟨_, rfl⟩
      rw [← hv] at hrc
      have hin : i.toNat * k + j < cs.size := by
       have : (i.toNat + 1) * k ≤ c0 * k := Nat.mul_le_mul_right k (by omega)
       rw [Nat.add_mul] at this; omega
      have hcell : w.cell? ⟨b0, i.toNat * k + j, none⟩ = some v := by
       rw [hv]; simp [World.cell?, hb, Array.getD, hin]
      have hGF : ∀ i' j' y, i' < es.length → j' < k → G i' j' y → F id y := fun i' j' y g1 g2 g3 => (hF y).2 (.inr ⟨i', j', g1, g2, g3⟩)
      have hbF : F id b0 := (hF b0).2 (.inl rfl)
      have hbs : b0 < w.heap.size := (hw.fsz id b0 hbF).2
      obtain ⟨dst, op, ty, pos, af, g⟩ := o
      simp only at hog hoo hod
      subst hog hoo hod
      unfold wpList
      rw [if_pos (by simp [Region.wanted])]
      have hload : (loadVar t ⟨b0, i.toNat * k + j, none⟩).run P w = .ok v w := by
       have h1 := run_isAgg (w := w) hL hd1
       rw [hagg] at h1
       simp [loadVar, go_sem, h1, hcell]
      refine .inl (wp_value (run_load_op q4 hload) ?_)
      have hf0 := FR.put hf (x := .any) (v := v) (.pure _ _ (.any v)) (some d)
      have hsz0 := hf.size
      refine moves_sound hL mv (s.put (some d) .any) _ hm (by rw [AS.put_os]; exact hw) hf0 (v := v) (by
       simp [Act.put, Array.getD_eq_getD_getElem?, Array.getElem?_setIfInBounds, hsz0, hdl]) fun a1 hf1 hv1 => ?_
      have hos1 : ((s.put (some d) .any).moves mv).os = s.os := by rw [moves_os, AS.put_os]
      obtain ⟨s1, hs1⟩ : ∃ s1, s1 = (s.put (some d) .any).moves mv := ⟨_, rfl⟩
      have hk1 : s1.lendC (c.args.toList.tail.map s1.get) = some rs := by rw [hs1]; exact hlc
      rw [show (⟨s.fr.set d .any, s.os⟩ : AS) = s.put (some d) .any from rfl, ← hs1] at hk
      rw [← hs1] at hf1 hos1
      rw [AS.put_os, ← hos1] at hf1
      have hw1 : CW W w A s1.os hd F := by rw [hos1]; exact hw
      obtain ⟨dst', op', ty', pos', af', g'⟩ := oc
      simp only at hcg hco
      subst hcg hco
      unfold wpList
      rw [if_pos (by simp [Region.wanted])]
      refine .inl ?_
      rw [hca] at hk1
      obtain ⟨g1, g2⟩ := lendC_sound hw1 (ids := [id]) (fun id' h => by rw [List.mem_singleton.1 h, hos1]; exact ⟨k, es, ho⟩) (xs.map s1.get) (xs.map a1.eval) rs (by simp) (fun q y hy => by
       rw [List.getElem?_map] at hy
       rw [List.getD_eq_getElem?_getD, List.getElem?_map]
       cases hc : xs[q]? with
       | none => simp [hc] at hy
       | some z =>
        simp [hc] at hy
        subst hy
        simpa using hf1.get z) (by simpa using hk1)
      have hvals : c.args.map a1.eval = (v :: xs.map a1.eval).toArray := by
       rw [← Array.toArray_toList (xs := c.args), hca]
       simp only [List.map_toArray, List.map_cons]
       rw [show a1.eval (.tmp d) = v from hv1]
      have hA0 : ∀ y, A y → y < w.heap.size ∧ ¬ G i.toNat j y := fun y hy => ⟨(hw.hA y hy).1, fun h => (hw.hA y hy).2 id (hGF _ _ y hil hjk h)⟩
      have hX : XRel w (fun y => y < w.heap.size ∧ ¬ G i.toNat j y) (.tup (.sl true k' es' :: rs)) (.tuple (c.args.map a1.eval)) (G i.toNat j) := by
       rw [hvals]
       refine .tup _ _ _ (fun q y => q = 0 ∧ G i.toNat j y) (by simp [g1]) (fun q y hy => ?_) (fun y => ⟨fun h => ⟨0, by simp, rfl, h⟩, fun ⟨_, _, _, h⟩ => h⟩) (fun q q' y _ _ h1 h2 => by rw [h1.1, h2.1])
       cases q with
       | zero =>
        simp at hy; subst hy
        exact (hrc.mono hA0 (fun _ _ => rfl)).congr (fun y => ⟨fun h => h.2, fun h => ⟨rfl, h⟩⟩)
       | succ q =>
        simp only [List.getElem?_cons_succ] at hy
        obtain ⟨h3, h4⟩ := g2 q y hy
        have e5 : (v :: xs.map a1.eval).toArray.getD (q + 1) undef = (xs.map a1.eval).getD q undef := by
         rw [← toList_getD]; rfl
        rw [e5]
        exact .pure _ _ _ (h3.mono (fun _ _ => rfl) fun y ⟨hy1, hy2⟩ => ⟨hy1, fun h => hy2 ⟨id, List.mem_singleton.2 rfl, hGF _ _ y hil hjk h⟩⟩) h4 (fun y h => absurd h.1 (by omega))
      refine wp_enter (f := f) (args := c.args.map a1.eval) ?_ (R := fun u w' => ∃ Gr r args', Qc r args' ∧ Keeps (G i.toNat j) w w' ∧ XRel w' (fun _ => False) (.tup (r :: args')) (.tuple (#[u] ++ c.args.map a1.eval)) Gr ∧ ∀ y, Gr y → G i.toNat j y ∨ w.heap.size ≤ y ∧ y < w'.heap.size)
       ((hac.2 w _ _ _ hw.below.gok hX (fun y hy => hy) (fun y hy => (hw.fsz id y (hGF _ _ y hil hjk hy)).2) (fun y hy => hw.below.ng (hw.fsz id y (hGF _ _ y hil hjk hy)).1)).mono fun e w' ⟨u, Gr, r, args', g0, g1, g2, g3, g4⟩ => ⟨u, g1, Gr, r, args', g0, g2, g3, g4⟩) fun u w' ⟨Gr, r, args', hq, k1, k2, k3⟩ => ?_
      ·have := run_call (P := P) (w := w) (a := a1) (c := c) (fo := .func f) (f := f) (vs := #[]) (dst := dst') (ty := ty') (pos := pos') (af := af') (g := none) hce rfl hac.1
       simpa using this
      ·replace hk := hk r args' hq
       dsimp only at hk
       cases k2 with
       | pure _ _ _ h ho _ => simp [AV.isOwn] at ho
       | tup _ _ _ Gi hn' hc hFi hdi =>
        split at hk
        ·rename_i k2' es'' tl'
         split at hk
         ·rename_i ek
          have ek2 := ek.symm
          clear ek
          subst ek2
          obtain ⟨_, e', he', hjl, hk⟩ := hk
          rw [he] at he'
          cases he'
          have hy1 : XRel w' (fun _ => False) (.sl true k' es'') v (Gi 1) := by
           have := hc 1 (.sl true k' es'') rfl
           rw [← toList_getD, Array.toList_append, hvals] at this
           exact this
          have sub : ∀ (q : Nat) y, q < (r :: AV.sl true k' es'' :: tl').length → Gi q y → G i.toNat j y ∨ w.heap.size ≤ y ∧ y < w'.heap.size := fun q y hq h => k3 y ((hFi y).2 ⟨q, hq, h⟩)
          have hb' : w'.heap[b0]? = some (.cells cs T (0, 0)) := by rw [k1.block b0 hbs (h00 _ _ hil hjk)]; exact hb
          let G2 : Nat → Nat → Nat → Prop := fun i' j' => if i' = i.toNat ∧ j' = j then Gi 1 else G i' j'
          have hG2 : ∀ i' j', ¬ (i' = i.toNat ∧ j' = j) → G2 i' j' = G i' j' := fun i' j' h => if_neg h
          have hG2' : G2 i.toNat j = Gi 1 := if_pos ⟨rfl, rfl⟩
          have hlen : (es.set i.toNat (splice e j [.sl true k' es''])).length = es.length := by simp
          have hel : e.length = k := hke e (List.mem_of_getElem? he)
          have hkeep : ∀ i' j' y, i' < es.length → j' < k → ¬ (i' = i.toNat ∧ j' = j) → A y ∨ G i' j' y → w'.heap[y]? = w.heap[y]? := fun i' j' y h1 h2 h3 h4 => by
           rcases h4 with h4 | h4
           ·exact k1.block y (hA0 y h4).1 (hA0 y h4).2
           ·exact k1.block y (hw.fsz id y (hGF _ _ y h1 h2 h4)).2 fun h5 => h3 (hdj i' j' i.toNat j y h1 h2 hil hjk h4 h5)
          have hrow' : XRel w' A (.sl true k (es.set i.toNat (splice e j [.sl true k' es'']))) (.slice (some ⟨b0, 0, none⟩) es.length c0) (fun y => y = b0 ∨ ∃ i' j', i' < es.length ∧ j' < k ∧ G2 i' j' y) := by
           have key := XRel.sl (w := w') (A := A) k (es.set i.toNat (splice e j [.sl true k' es''])) c0 b0 T cs (fun y => y = b0 ∨ ∃ i' j', i' < es.length ∧ j' < k ∧ G2 i' j' y) G2 hb'
            (by rw [hlen]; exact hl) (by rw [hlen]; exact hcap) hsz (fun e' he' => by
             rcases List.mem_or_eq_of_mem_set he' with h | h
             ·exact hke e' h
             ·rw [h, splice_len hjl]; exact hel) (fun i' j' hi' hj' => h1c i' j' (by rw [← hlen]; exact hi') hj') (fun i' j' e' y he' hy => by
             have hi' : i' < es.length := by rw [← hlen]; exact (List.getElem?_eq_some_iff.1 he').1
             rw [List.getElem?_set] at he'
             split at he'
             ·rename_i ei
              subst ei
              (try rw [if_pos hil] at he')
              cases he'
              rw [splice_get hjl] at hy
              split at hy
              ·rename_i hlt
               have hn : ¬ (i.toNat = i.toNat ∧ j' = j) := by omega
               rw [hG2 _ _ hn]
               have hj' : j' < k := by omega
               exact (hr i.toNat j' e y he hy).mono (fun _ h => h) (fun z hz => hkeep _ _ z hil hj' hn hz)
              ·split at hy
               ·rename_i h5 h6
                simp only [List.length_cons, List.length_nil] at h6
                have : j' = j := by omega
                subst this
                simp at hy; subst hy
                rw [hG2', ← hv]
                exact hy1.mono (fun _ h => h.elim) (fun _ _ => rfl)
               ·rename_i h5 h6
                simp only [List.length_cons, List.length_nil] at h6
                have hn : ¬ (i.toNat = i.toNat ∧ j' = j) := by omega
                rw [hG2 _ _ hn]
                have hj' : j' < k := by
                 have := (List.getElem?_eq_some_iff.1 hy).1
                 omega
                exact (hr i.toNat j' e y he hy).mono (fun _ h => h) (fun z hz => hkeep _ _ z hil hj' hn hz)
             ·rename_i ei
              have hn : ¬ (i' = i.toNat ∧ j' = j) := fun h => ei h.1.symm
              rw [hG2 _ _ hn]
              have hj' : j' < k := by
               have := (List.getElem?_eq_some_iff.1 hy).1
               rwa [hke e' (List.mem_of_getElem? he')] at this
              exact (hr i' j' e' y he' hy).mono (fun _ h => h) (fun z hz => hkeep _ _ z hi' hj' hn hz)) (fun y => by rw [hlen]) (fun i' j' hi' hj' h5 => by
             rw [hlen] at hi'
             by_cases hn : i' = i.toNat ∧ j' = j
             ·obtain ⟨rfl, rfl⟩ := hn
              rw [hG2'] at h5
              rcases sub 1 b0 (by simp) h5 with h6 | h6
              ·exact h00 _ _ hil hjk h6
              ·omega
             ·rw [hG2 _ _ hn] at h5
              exact h00 i' j' hi' hj' h5) (fun i1 j1 i2 j2 y hi1 hj1 hi2 hj2 h5 h6 => by
             rw [hlen] at hi1 hi2
             by_cases n1 : i1 = i.toNat ∧ j1 = j <;> by_cases n2 : i2 = i.toNat ∧ j2 = j
             ·omega
             ·exfalso
              obtain ⟨rfl, rfl⟩ := n1
              rw [hG2'] at h5
              rw [hG2 _ _ n2] at h6
              rcases sub 1 y (by simp) h5 with h7 | h7
              ·have := hdj _ _ _ _ y hi1 hj1 hi2 hj2 h7 h6
               exact n2 ⟨this.1.symm, this.2.symm⟩
              ·have := (hw.fsz id y (hGF _ _ y hi2 hj2 h6)).2; omega
             ·exfalso
              obtain ⟨rfl, rfl⟩ := n2
              rw [hG2'] at h6
              rw [hG2 _ _ n1] at h5
              rcases sub 1 y (by simp) h6 with h7 | h7
              ·have := hdj _ _ _ _ y hi1 hj1 hi2 hj2 h5 h7
               exact n1 this
              ·have := (hw.fsz id y (hGF _ _ y hi1 hj1 h5)).2; omega
             ·rw [hG2 _ _ n1] at h5
              rw [hG2 _ _ n2] at h6
              exact hdj i1 j1 i2 j2 y hi1 hj1 hi2 hj2 h5 h6)
           rw [hlen] at key
           exact key
          have hlt : id < s1.os.length := by rw [hos1]; exact (List.getElem?_eq_some_iff.1 ho).1
          obtain ⟨hw2, hm2⟩ := hw1.setMany [id] (os' := s1.os.set id (.row k (es.set i.toNat (splice e j [.sl true k' es''])))) (fun _ y => y = b0 ∨ ∃ i' j', i' < es.length ∧ j' < k ∧ G2 i' j' y) (by simp) (k1.weaken fun y hy => ⟨id, List.mem_singleton.2 rfl, hGF _ _ y hil hjk hy⟩) (fun id' h => by
            rw [List.getElem?_set, if_neg (fun e => h (by rw [e]; exact List.mem_singleton.2 rfl))]) (fun id' h => by
            rw [List.mem_singleton.1 h]
            refine .inr ⟨k, es, _, by rw [hos1]; exact ho, by rw [List.getElem?_set, if_pos rfl, if_pos hlt], by simp, ?_⟩
            rw [q1]; exact hrow') (fun id' h y hy => by
            rcases hy with rfl | ⟨i', j', h1, h2, h3⟩
            ·exact .inl ⟨id, List.mem_singleton.2 rfl, hbF⟩
            ·by_cases hn : i' = i.toNat ∧ j' = j
             ·obtain ⟨rfl, rfl⟩ := hn
              rw [hG2'] at h3
              rcases sub 1 y (by simp) h3 with h6 | h6
              ·exact .inl ⟨id, List.mem_singleton.2 rfl, hGF _ _ y hil hjk h6⟩
              ·exact .inr h6
             ·rw [hG2 _ _ hn] at h3
              exact .inl ⟨id, List.mem_singleton.2 rfl, hGF _ _ y h1 h2 h3⟩) (fun id1 h1 id2 h2 y _ _ => by rw [List.mem_singleton.1 h1, List.mem_singleton.1 h2])
          have h0 : XRel w' A r u (Gi 0) := by
           have := hc 0 r rfl
           rw [← toList_getD, Array.toList_append] at this
           have e6 : ((#[u] : Array Value).toList ++ (c.args.map a1.eval).toList).getD 0 undef = u := by simp [List.getD_eq_getElem?_getD]
           rw [e6] at this
           exact this.mono (fun _ h => h.elim) (fun _ _ => rfl)
          obtain ⟨s', hd', F', p1, p2, p3, p4, x', p5, p6⟩ := take_sound (s := ⟨s1.fr, s1.os.set id (.row k (es.set i.toNat (splice e j [.sl true k' es''])))⟩) hw2 h0 (fun y hy => by
           have h5 := sub 0 y (by simp) hy
           refine ⟨?_, ?_, fun hA => ?_, fun id' hid => ?_⟩
           ·rcases h5 with h | h
            ·exact (hw.fsz id y (hGF _ _ y hil hjk h)).1
            ·exact hw.below.new h.1
           ·rcases h5 with h | h
            ·exact Nat.lt_of_lt_of_le (hw.fsz id y (hGF _ _ y hil hjk h)).2 k1.size
            ·exact h.2
           ·rcases h5 with h | h
            ·exact (hA0 y hA).2 h
            ·have := (hA0 y hA).1; omega
           ·rcases hid with ⟨_, h6⟩ | ⟨h6, h7⟩
            ·rcases h6 with rfl | ⟨i', j', r1, r2, r3⟩
             ·rcases h5 with h | h
              ·exact h00 _ _ hil hjk h
              ·omega
             ·by_cases hn : i' = i.toNat ∧ j' = j
              ·obtain ⟨rfl, rfl⟩ := hn
               rw [hG2'] at r3
               have := hdi 0 1 y (by simp) (by simp) hy r3; omega
              ·rw [hG2 _ _ hn] at r3
               rcases h5 with h | h
               ·exact hn (hdj _ _ _ _ y r1 r2 hil hjk r3 h)
               ·have := (hw.fsz id y (hGF _ _ y r1 r2 r3)).2; omega
            ·rcases h5 with h | h
             ·have := hw.disj _ _ _ h7 (hGF _ _ y hil hjk h)
              exact h6 (List.mem_singleton.2 this)
             ·have := (hw.fsz id' y h7).2; omega) hk
          have hf2 : FR w' A s'.os hd' s1.fr a1 := hf1.os_mono fun z u h => p3 _ _ (hm2 _ _ h)
          refine hQ (s'.put dst' x') _ w' A hd' F' p5 (by rw [AS.put_os]; exact p2) ?_
          have hfr : s'.fr = s1.fr := p1
          rw [← hfr] at hf2
          exact hf2.put p6 dst'
         ·exact hk.elim
        ·exact hk.elim
    ·exact hk.elim
   ·exact hk.elim
  ·exact hk.elim
 ·exact hk.elim
theorem aops_soundT [St] (hL : L.ty = layOf P) {ops : Array Oper} {Q : Exit → Act → World → Prop} {K : AS → Prop} {tl : List Oper} (hQ : ∀ s' a' w' A' hd' F', K s' → CW W w' A' s'.os hd' F' → FR w' A' s'.os hd' s'.fr a' → wpList P ops Q tl a' w') :
  ∀ (l : List Oper) (s : AS) (a : Act) (w : World) (A : Nat → Prop) (hd : Nat → Value) (F : Nat → Nat → Prop), CW W w A s.os hd F → FR w A s.os hd s.fr a → aops (stdE np P) L false ops.toList l s K → wpList P ops Q (l ++ tl) a w
 | [], s, a, w, A, hd, F, hw, hf, hk => hQ s a w A hd F hk hw hf
 | o :: rest, s, a, w, A, hd, F, hw, hf, hk => by
  have step : astep (stdE np P) L s o (fun v s' => aops (stdE np P) L false ops.toList rest (s'.put o.dst v) K) → o.wp P a w (wpList P ops Q (rest ++ tl)) Q := fun h =>
   astep_sound hL hw hf h (wpList P ops Q (rest ++ tl)) Q fun x s' v w' A' hd' F' hk' hfr hw' hf' hx => by
    rw [← hfr] at hf'
    exact aops_soundT hL hQ rest _ _ w' A' hd' F' (by rw [AS.put_os]; exact hw') (hf'.put hx o.dst) hk'
  have skip : aops (stdE np P) L false ops.toList rest (s.put o.dst .und) K → wpList P ops Q (rest ++ tl) (a.put o.dst undef) w := fun h =>
   aops_soundT hL hQ rest _ _ w A hd F (by rw [AS.put_os]; exact hw) (hf.put .und o.dst) h
  show wpList P ops Q (o :: (rest ++ tl)) a w
  unfold aops at hk
  unfold wpList
  split at hk
  ·rename_i hg
   rw [if_pos (by simp [Region.wanted, hg])]
   exact .inl (step hk)
  ·rename_i j want hg
   split at hk
   ·exact hk.elim
   ·rename_i hy
    have := yield_sound hf hy
    rw [if_neg (by simp [Region.wanted, hg, this])]
    exact skip hk
   ·rename_i b hy
    have := yield_sound hf hy
    split at hk
    ·rename_i e
     subst e
     rw [if_pos (by simp [Region.wanted, hg, this])]
     exact .inl (step hk)
    ·rename_i e
     rw [if_neg (by simp [Region.wanted, hg, this, e])]
     exact skip hk
def Grp.ops : Grp → List Oper
 | .one o => [o]
 | .nest o mv oc => o :: (mv ++ [oc])
theorem grab_spec {d : Nat} : ∀ {l acc mv : List Oper} {oc : Oper} {l' : List Oper}, grab L d acc l = some (mv, oc, l') → acc ++ l = mv ++ oc :: l'
 | [], acc, mv, oc, l', h => by cases h
 | o :: l, acc, mv, oc, l', h => by
  unfold grab at h
  split at h
  ·have := grab_spec h
   rw [List.append_assoc] at this
   exact this
  ·split at h
   ·split at h
    ·cases h; rfl
    ·cases h
   ·cases h
  ·cases h
theorem groups_spec : ∀ (n : Nat) (l : List Oper), (groups L n l).flatMap Grp.ops = l
 | 0, l => by
  unfold groups
  induction l with
  | nil => rfl
  | cons o l ih => simp [Grp.ops] at ih ⊢; exact ih
 | n + 1, [] => by unfold groups; rfl
 | n + 1, o :: l => by
  have one : (Grp.one o :: groups L n l).flatMap Grp.ops = o :: l := by
   rw [List.flatMap_cons, groups_spec n l]; rfl
  unfold groups
  split
  ·split
   ·split
    ·rename_i hg
     have := grab_spec hg
     rw [List.flatMap_cons, groups_spec n]
     show (o :: (_ ++ [_])) ++ _ = _
     rw [List.cons_append, List.append_assoc]
     rw [List.nil_append] at this
     rw [this]; rfl
    ·exact one
   ·exact one
  ·exact one
theorem movesB_spec {d : Nat} : ∀ {l : List Oper}, movesB d l = true → Moves d l
 | [], _ => fun o h => by cases h
 | o :: l, h => by
  unfold movesB at h
  split at h
  ·rename_i x e hg hop hdst
   split at h
   ·cases h
   ·rename_i hne
    intro o' ho'
    rcases List.mem_cons.1 ho' with rfl | ho'
    ·exact ⟨hg, x, e, hop, hdst, hne⟩
    ·exact movesB_spec h o' ho'
  ·cases h
theorem agrps_sound [St] (hL : L.ty = layOf P) {ops : Array Oper} {Q : Exit → Act → World → Prop} {K : AS → Prop} (hQ : ∀ s' a' w' A' hd' F', K s' → CW W w' A' s'.os hd' F' → FR w' A' s'.os hd' s'.fr a' → Q .normal a' w') :
  ∀ (l : List Grp) (s : AS) (a : Act) (w : World) (A : Nat → Prop) (hd : Nat → Value) (F : Nat → Nat → Prop), CW W w A s.os hd F → FR w A s.os hd s.fr a → agrps (stdE np P) L ops.toList l s K → wpList P ops Q (l.flatMap Grp.ops) a w
 | [], s, a, w, A, hd, F, hw, hf, hk => hQ s a w A hd F hk hw hf
 | .one o :: l, s, a, w, A, hd, F, hw, hf, hk => by
  rw [List.flatMap_cons]
  exact aops_soundT hL (fun s' a' w' A' hd' F' h1 h2 h3 => agrps_sound hL hQ l s' a' w' A' hd' F' h2 h3 h1) [o] s a w A hd F hw hf hk
 | .nest o mv oc :: l, s, a, w, A, hd, F, hw, hf, hk => by
  rw [List.flatMap_cons]
  unfold agrps at hk
  split at hk
  ·rename_i t x d hog hoo hod
   split at hk
   ·rename_i c hcg hco
    split at hk
    ·rename_i hsl hmv
     split at hk
     ·rename_i f d' xs hce hca
      split at hk
      ·rename_i hd'
       subst hd'
       split at hk
       ·rename_i id i j hx
        show wpList P ops Q (o :: (mv ++ [oc]) ++ _) a w
        rw [List.cons_append, List.append_assoc]
        have hs : (L.ty t).d ≠ .other ∧ (L.ty t).agg = false := by
         unfold isSl at hsl
         split at hsl
         ·rename_i e1 e2; exact ⟨by rw [e1]; simp, e2⟩
         ·cases hsl
        exact anest_sound hL hog hoo hod hs.1 hs.2 hx (movesB_spec hmv) hcg hco hce hca hw hf hk (fun s' a' w' A' hd' F' h1 h2 h3 => agrps_sound hL hQ l s' a' w' A' hd' F' h2 h3 h1)
       ·exact aops_soundT hL (fun s' a' w' A' hd' F' h1 h2 h3 => agrps_sound hL hQ l s' a' w' A' hd' F' h2 h3 h1) (o :: (mv ++ [oc])) s a w A hd F hw hf hk
      ·exact hk.elim
     ·exact hk.elim
    ·exact hk.elim
   ·exact hk.elim
  ·exact hk.elim
end
end Go.Proofs.YtlemeenicaidfaaGreatDoor
