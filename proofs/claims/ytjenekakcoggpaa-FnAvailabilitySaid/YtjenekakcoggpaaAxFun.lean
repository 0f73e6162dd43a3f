/- Soundness of functions: a body that computes 'R x' meets its contract. -/
import Derived.Test.YtjenekakcoggpaaAxCtl
import Derived.Laws.Sem
namespace Go.Proofs.Ytjenekakcoggpaa
set_option linter.unusedVariables false
set_option linter.unusedSimpArgs false
open Go Go.RowKit

section
variable {P : Program} {np : Nat} {L : Lay} {W : WM} {w w' : World} {A : Nat → Prop} {os os' : List Obj} {hd hd' : Nat → Value} {F F' : Nat → Nat → Prop} {s : AS} {a : Act}

def Out (W : WM) (w : World) (A : Nat → Prop) (s : AS) (hd : Nat → Value) (F : Nat → Nat → Prop) (v : Value) (K : AV → AS → Prop) : Prop :=
  Leave W w A s hd F fun s' F' => ∃ x' G, K x' s' ∧ XRel w A x' v G ∧ ∀ y, G y → (∃ id, F id y) ∧ ∀ id, ¬ F' id y

theorem XRel.pre {k es} {p : Option Addr} {n c : Nat} {G : Nat → Prop} (h : XRel w A (.sl true k es) (.slice p n c) G) {m : Nat} (hm : m ≤ es.length) : ∃ G', XRel w A (.sl true k (es.take m)) (.slice p m c) G' ∧ ∀ y, G' y → G y := by
  cases h with
  | pure _ _ _ h ho hF => simp [AV.isOwn] at ho
  | nil =>
    simp at hm
    subst hm
    exact ⟨_, .nil _ (fun _ => False) (fun _ h => h), fun y h => h.elim⟩
  | sl _ _ cap b T c F G0 hb hl hcap hsz hk h1c hr hF h0 hd =>
    have hlen : (es.take m).length = m := by simp; omega
    refine ⟨fun x => x = b ∨ ∃ i j, i < (es.take m).length ∧ j < k ∧ G0 i j x, ?_, fun y hy => (hF y).2 (hy.imp (fun h => h) fun ⟨i, j, g1, g2, g3⟩ => ⟨i, j, by omega, g2, g3⟩)⟩
    have := XRel.sl (w := w) (A := A) k (es.take m) _ b T c (fun x => x = b ∨ ∃ i j, i < (es.take m).length ∧ j < k ∧ G0 i j x) G0 hb (by omega) (show (es.take m).length ≤ _ by omega) hsz (fun e he => hk e (List.mem_of_mem_take he))
      (fun i j hi hj => h1c i j (by omega) hj) (fun i j e a he ha => hr i j e a (by
        rw [List.getElem?_take] at he
        split at he
        · exact he
        · cases he) ha) (fun x => Iff.rfl) (fun i j hi hj => h0 i j (by omega) hj) (fun i j i' j' x h1 h2 h3 h4 => hd i j i' j' x (by omega) h2 (by omega) h4)
    simp only [hlen] at this ⊢
    exact this

theorem out1_sound (hw : CW W w A s.os hd F) {x v} {K : AV → AS → Prop} (hx : SRel w A s.os hd x v) (hk : s.out1 (stdE np P) x K) : Out W w A s hd F v K := by
  unfold AS.out1 at hk
  split at hk
  · exact hk.elim
  · cases hx.nils_inv
    rcases hk with hk | ⟨k, hk⟩
    · exact ⟨s, F, rfl, rfl, hw, fun _ _ h => h, fun _ _ h => h, _, fun _ => False, hk, .pure _ _ _ .nils rfl (fun _ h => h), fun y h => h.elim⟩
    · exact ⟨s, F, rfl, rfl, hw, fun _ _ h => h, fun _ _ h => h, _, fun _ => False, hk, .nil _ _ (fun _ h => h), fun y h => h.elim⟩
  · split at hk
    · rename_i id lo hi _ k es ho
      split at hk
      · rename_i h0
        subst h0
        obtain ⟨g1, g2, g3, hk⟩ := hk
        simp only [Option.getD_some] at g1 g2 g3 hk
        obtain ⟨e1, e2, e3, p, cap, e4, e5, e6, e7⟩ := hx.vs_inv ho
        obtain ⟨n, e7⟩ := e7 rfl
        have hr := hw.rows id k es ho
        rw [e7] at hr
        obtain ⟨G', hp, hG'⟩ := hr.pre (m := hi.toNat) (by omega)
        obtain ⟨hw', hm⟩ := hw.kill id
        refine ⟨⟨s.fr, s.os.set id .dead⟩, _, rfl, by simp, hw', hm, fun i y h => ?_, _, G', hk, ?_, fun y hy => ⟨⟨id, hG' y hy⟩, fun i h => ?_⟩⟩
        · unfold updN at h
          split at h
          · exact h.elim
          · exact h
        · rw [e4, show (hi - 0).toNat = hi.toNat by omega, Int.toNat_zero, List.drop_zero]; exact hp
        · unfold updN at h
          split at h
          · exact h
          · rename_i hne
            exact hne (hw.disj _ _ _ h (hG' y hy))
      · exact hk.elim
    · exact hk.elim
  · rename_i id off
    split at hk
    · rename_i cs ho
      split at hk
      · rename_i hp
        obtain ⟨b, T, c, e1, e2, e3, e4, e5⟩ := hw.boxes id cs ho
        obtain ⟨b', g1, g2⟩ := hx.pb_inv ho
        rw [e1] at g1
        cases g1
        subst g2
        obtain ⟨hw', hm⟩ := hw.kill id
        refine ⟨⟨s.fr, s.os.set id .dead⟩, _, rfl, by simp, hw', hm, fun i y h => ?_, _, (fun y => y = b), hk, .bx cs b T c _ e2 e3 (fun i x hx => ?_) (fun _ => Iff.rfl), fun y hy => ⟨⟨id, by rw [hy]; exact e5⟩, fun i h => ?_⟩⟩
        · unfold updN at h
          split at h
          · exact h.elim
          · exact h
        · have := e4 i x hx
          have hpx := allPure_get' hp hx
          cases x <;> first | exact this.pure_inv trivial | cases hpx
        · subst hy
          unfold updN at h
          split at h
          · exact h
          · rename_i hne
            exact hne (hw.disj _ _ _ h e5)
      · exact hk.elim
    · exact hk.elim
  · obtain ⟨s', F', e, l, h1, h2, h3, x', G, h4, h5, h6, _⟩ := own1_sound hw hx hk
    exact ⟨s', F', e, l, h1, h2, h3, x', G, h4, h5, h6⟩

theorem outL_sound : ∀ (l : List AV) (vs : List Value) (s : AS) (F : Nat → Nat → Prop) (K : List AV → AS → Prop), CW W w A s.os hd F → vs.length = l.length →
    (∀ (i : Nat) x, l[i]? = some x → SRel w A s.os hd x (vs.getD i undef)) → s.outL (stdE np P) l K →
    Leave W w A s hd F fun s' F' => ∃ (l' : List AV) (G : Nat → Nat → Prop), K l' s' ∧ l'.length = vs.length ∧ (∀ (i : Nat) x, l'[i]? = some x → XRel w A x (vs.getD i undef) (G i)) ∧
      (∀ i y, i < vs.length → G i y → (∃ id, F id y) ∧ ∀ id, ¬ F' id y) ∧ (∀ i j y, i < vs.length → j < vs.length → G i y → G j y → i = j)
  | [], [], s, F, K, hw, _, _, hk => ⟨s, F, rfl, rfl, hw, fun _ _ h => h, fun _ _ h => h, [], fun _ _ => False, hk, rfl, fun i x hx => by simp at hx, fun i y hi => by simp at hi, fun i j y hi => by simp at hi⟩
  | [], _ :: _, _, _, _, _, hn, _, _ => by simp at hn
  | _ :: _, [], _, _, _, _, hn, _, _ => by simp at hn
  | x :: l, v :: vs, s, F, K, hw, hn, hc, hk => by
    unfold AS.outL at hk
    obtain ⟨s1, F1, e1, l1, hw1, hm1, hF1, x', G0, hk1, hx', hG0⟩ := out1_sound hw (by simpa using hc 0 x (by simp)) hk
    obtain ⟨s2, F2, e2, l2, hw2, hm2, hF2, l', G, hk2, hl2, hc2, hG, hdj⟩ := outL_sound l vs s1 F1 _ hw1 (by simpa using hn) (fun i y hy => hm1 _ _ (by simpa using hc (i + 1) y (by simpa using hy))) hk1
    refine ⟨s2, F2, e2.trans e1, l2.trans l1, hw2, fun y u h => hm2 y u (hm1 y u h), fun id y h => hF1 id y (hF2 id y h), x' :: l', fun i => match i with | 0 => G0 | i + 1 => G i, hk2, by simp [hl2], fun i y hy => ?_, fun i y hi hy => ?_, fun i j y hi hj h3 h4 => ?_⟩
    · cases i with
      | zero => simp at hy; subst hy; simpa using hx'
      | succ i => simp at hy; simpa using hc2 i y hy
    · cases i with
      | zero => exact ⟨(hG0 y hy).1, fun id h => (hG0 y hy).2 id (hF2 id y h)⟩
      | succ i =>
        obtain ⟨⟨id, h5⟩, h6⟩ := hG i y (by simpa using hi) hy
        exact ⟨⟨id, hF1 id y h5⟩, h6⟩
    · cases i with
      | zero =>
        cases j with
        | zero => rfl
        | succ j =>
          obtain ⟨⟨id, h5⟩, _⟩ := hG j y (by simpa using hj) h4
          exact ((hG0 y h3).2 id h5).elim
      | succ i =>
        cases j with
        | zero =>
          obtain ⟨⟨id, h5⟩, _⟩ := hG i y (by simpa using hi) h3
          exact ((hG0 y h4).2 id h5).elim
        | succ j => rw [hdj i j y (by simpa using hi) (by simpa using hj) h3 h4]

theorem out_sound (hw : CW W w A s.os hd F) {x v} {K : AV → AS → Prop} (hx : SRel w A s.os hd x v) (hk : s.out (stdE np P) x K) : Out W w A s hd F v K := by
  unfold AS.out at hk
  split at hk
  · obtain ⟨vs, rfl, e2, e3⟩ := hx.agg_inv
    obtain ⟨s', F', e, l, h1, h2, h3, l', G, h4, h5, h6, h7, h8⟩ := outL_sound _ vs.toList s F _ hw (by simpa using e2) (fun i x hx => by rw [toList_getD]; exact e3 i x hx) hk
    refine ⟨s', F', e, l, h1, h2, h3, _, fun y => ∃ i, i < l'.length ∧ G i y, h4, .agg l' vs _ G (by simpa using h5.symm) (fun i x hx => by rw [← toList_getD]; exact h6 i x hx) (fun y => Iff.rfl) (fun i j y hi hj => h8 i j y (by rwa [← h5]) (by rwa [← h5])), fun y ⟨i, hi, hy⟩ => h7 i y (by rwa [← h5]) hy⟩
  · exact out1_sound hw hx hk

def resVar (tmps : Array Value) : ResultVar → Sem Value
  | .tmp t => pure (tmps.getD t undef)
  | .cell a t => do loadVar t (← asAddr (tmps.getD a undef))

theorem FR.slot (hf : FR w A s.os hd s.fr a) (t : Nat) : SRel w A s.os hd (s.fr.getD t .any) (a.tmps.getD t undef) := by
  rw [List.getD_eq_getElem?_getD]
  cases h : s.fr[t]? with
  | none => exact .pure _ _ (.any _)
  | some x => exact hf.slots t x h

theorem aret_sound (hL : L.ty = layOf P) : ∀ (rs : List ResultVar) (s : AS) (F : Nat → Nat → Prop) (K : List AV → Prop), CW W w A s.os hd F → FR w A s.os hd s.fr a → aret (stdE np P) L rs s K →
    ∃ (vs : List Value) (l : List AV) (G : Nat → Nat → Prop), K l ∧ (rs.mapM (resVar a.tmps)).run P w = .ok vs w ∧ l.length = vs.length ∧ (∀ (i : Nat) x, l[i]? = some x → XRel w A x (vs.getD i undef) (G i)) ∧
      (∀ i y, i < vs.length → G i y → ∃ id, F id y) ∧ (∀ i j y, i < vs.length → j < vs.length → G i y → G j y → i = j)
  | [], s, F, K, hw, hf, hk => ⟨[], [], fun _ _ => False, hk, rfl, rfl, fun i x hx => by simp at hx, fun i y hi => by simp at hi, fun i j y hi => by simp at hi⟩
  | r :: rs, s, F, K, hw, hf, hk => by
    have main : ∀ v x, SRel w A s.os hd x v → (resVar a.tmps r).run P w = .ok v w → (s.out (stdE np P) x fun x' s' => aret (stdE np P) L rs s' fun vs => K (x' :: vs)) → ∃ (vs : List Value) (l : List AV) (G : Nat → Nat → Prop), K l ∧ ((r :: rs).mapM (resVar a.tmps)).run P w = .ok vs w ∧ l.length = vs.length ∧ (∀ (i : Nat) x, l[i]? = some x → XRel w A x (vs.getD i undef) (G i)) ∧
      (∀ i y, i < vs.length → G i y → ∃ id, F id y) ∧ (∀ i j y, i < vs.length → j < vs.length → G i y → G j y → i = j) := fun v x hx hr hk => by
      obtain ⟨s1, F1, e1, l1, hw1, hm1, hF1, x', G0, hk1, hx', hG0⟩ := out_sound hw hx hk
      obtain ⟨vs, l', G, hk2, hr2, hl2, hc2, hG, hdj⟩ := aret_sound hL rs s1 F1 _ hw1 (by rw [e1]; exact hf.os_mono hm1) hk1
      refine ⟨v :: vs, x' :: l', fun i => match i with | 0 => G0 | i + 1 => G i, hk2, ?_, by simp [hl2], fun i y hy => ?_, fun i y hi hy => ?_, fun i j y hi hj h3 h4 => ?_⟩
      · rw [List.mapM_cons, Sem.run_bind, hr]
        simp only [Result.andThen_ok]
        rw [Sem.run_bind, hr2]
        rfl
      · cases i with
        | zero => simp at hy; subst hy; simpa using hx'
        | succ i => simp at hy; simpa using hc2 i y hy
      · cases i with
        | zero => exact (hG0 y hy).1
        | succ i =>
          obtain ⟨id, h5⟩ := hG i y (by simpa using hi) hy
          exact ⟨id, hF1 id y h5⟩
      · cases i with
        | zero =>
          cases j with
          | zero => rfl
          | succ j =>
            obtain ⟨id, h5⟩ := hG j y (by simpa using hj) h4
            exact ((hG0 y h3).2 id h5).elim
        | succ i =>
          cases j with
          | zero =>
            obtain ⟨id, h5⟩ := hG i y (by simpa using hi) h3
            exact ((hG0 y h4).2 id h5).elim
          | succ j => rw [hdj i j y (by simpa using hi) (by simpa using hj) h3 h4]
    cases r with
    | tmp t => exact main _ _ (hf.slot t) rfl hk
    | cell t ty =>
      unfold aret at hk
      split at hk
      · rename_i id off hx
        split at hk
        · rename_i cs ho
          have h1 := hf.slot t
          rw [hx] at h1
          obtain ⟨b, e1, e2⟩ := h1.pb_inv ho
          obtain ⟨b', _, _, g1, _, _, _, g2, _⟩ := box_pt hw ho
          rw [g1] at e1
          cases e1
          have g3 := g2.drop off
          rw [Nat.zero_add] at g3
          obtain ⟨x, v, h2, h3, h4⟩ := run_loadVar hL g3 hk
          refine main v x h3 ?_ h2
          show (asAddr (a.tmps.getD t undef) >>= loadVar ty).run P w = _
          rw [e2, Sem.run_bind]
          simpa [asAddr] using h4
        · exact hk.elim
      · exact hk.elim

theorem aretM_sound (hL : L.ty = layOf P) : ∀ (rs : List ResultVar) (s : AS) (F : Nat → Nat → Prop) (K : List AV → AS → Prop), CW W w A s.os hd F → FR w A s.os hd s.fr a → aretM (stdE np P) L rs s K →
    ∃ (vs : List Value) (l : List AV) (G : Nat → Nat → Prop) (s' : AS) (F' : Nat → Nat → Prop), K l s' ∧ CW W w A s'.os hd F' ∧ (∀ id y, F' id y → F id y) ∧ (rs.mapM (resVar a.tmps)).run P w = .ok vs w ∧ l.length = vs.length ∧ (∀ (i : Nat) x, l[i]? = some x → XRel w A x (vs.getD i undef) (G i)) ∧
      (∀ i y, i < vs.length → G i y → (∃ id, F id y) ∧ ∀ id, ¬ F' id y) ∧ (∀ i j y, i < vs.length → j < vs.length → G i y → G j y → i = j)
  | [], s, F, K, hw, hf, hk => ⟨[], [], fun _ _ => False, s, F, hk, hw, fun _ _ h => h, rfl, rfl, fun i x hx => by simp at hx, fun i y hi => by simp at hi, fun i j y hi => by simp at hi⟩
  | r :: rs, s, F, K, hw, hf, hk => by
    have main : ∀ v x, SRel w A s.os hd x v → (resVar a.tmps r).run P w = .ok v w → (s.out (stdE np P) x fun x' s' => aretM (stdE np P) L rs s' fun vs => K (x' :: vs)) → ∃ (vs : List Value) (l : List AV) (G : Nat → Nat → Prop) (s' : AS) (F' : Nat → Nat → Prop), K l s' ∧ CW W w A s'.os hd F' ∧ (∀ id y, F' id y → F id y) ∧ ((r :: rs).mapM (resVar a.tmps)).run P w = .ok vs w ∧ l.length = vs.length ∧ (∀ (i : Nat) x, l[i]? = some x → XRel w A x (vs.getD i undef) (G i)) ∧
      (∀ i y, i < vs.length → G i y → (∃ id, F id y) ∧ ∀ id, ¬ F' id y) ∧ (∀ i j y, i < vs.length → j < vs.length → G i y → G j y → i = j) := fun v x hx hr hk => by
      obtain ⟨s1, F1, e1, l1, hw1, hm1, hF1, x', G0, hk1, hx', hG0⟩ := out_sound hw hx hk
      obtain ⟨vs, l', G, s2, F2, hk2, hw2, hF2, hr2, hl2, hc2, hG, hdj⟩ := aretM_sound hL rs s1 F1 _ hw1 (by rw [e1]; exact hf.os_mono hm1) hk1
      refine ⟨v :: vs, x' :: l', fun i => match i with | 0 => G0 | i + 1 => G i, s2, F2, hk2, hw2, fun id y h => hF1 id y (hF2 id y h), ?_, by simp [hl2], fun i y hy => ?_, fun i y hi hy => ?_, fun i j y hi hj h3 h4 => ?_⟩
      · rw [List.mapM_cons, Sem.run_bind, hr]
        simp only [Result.andThen_ok]
        rw [Sem.run_bind, hr2]
        rfl
      · cases i with
        | zero => simp at hy; subst hy; simpa using hx'
        | succ i => simp at hy; simpa using hc2 i y hy
      · cases i with
        | zero => exact ⟨(hG0 y hy).1, fun id h => (hG0 y hy).2 id (hF2 id y h)⟩
        | succ i =>
          obtain ⟨⟨id, h5⟩, h6⟩ := hG i y (by simpa using hi) hy
          exact ⟨⟨id, hF1 id y h5⟩, h6⟩
      · cases i with
        | zero =>
          cases j with
          | zero => rfl
          | succ j =>
            obtain ⟨⟨id, h5⟩, _⟩ := hG j y (by simpa using hj) h4
            exact ((hG0 y h3).2 id h5).elim
        | succ i =>
          cases j with
          | zero =>
            obtain ⟨⟨id, h5⟩, _⟩ := hG i y (by simpa using hi) h3
            exact ((hG0 y h4).2 id h5).elim
          | succ j => rw [hdj i j y (by simpa using hi) (by simpa using hj) h3 h4]
    cases r with
    | tmp t => exact main _ _ (hf.slot t) rfl hk
    | cell t ty =>
      unfold aretM at hk
      split at hk
      · rename_i id off hx
        split at hk
        · rename_i cs ho
          have h1 := hf.slot t
          rw [hx] at h1
          obtain ⟨b, e1, e2⟩ := h1.pb_inv ho
          obtain ⟨b', _, _, g1, _, _, _, g2, _⟩ := box_pt hw ho
          rw [g1] at e1
          cases e1
          have g3 := g2.drop off
          rw [Nat.zero_add] at g3
          obtain ⟨x, v, h2, h3, h4⟩ := run_loadVar hL g3 hk
          refine main v x h3 ?_ h2
          show (asAddr (a.tmps.getD t undef) >>= loadVar ty).run P w = _
          rw [e2, Sem.run_bind]
          simpa [asAddr] using h4
        · exact hk.elim
      · exact hk.elim

/-- No borrowed memory. -/
inductive NoB : AV → Prop
  | int (k n) : NoB (.int k n)
  | bool (b) : NoB (.bool b)
  | str (b) : NoB (.str b)
  | nils : NoB .nils
  | nilp : NoB .nilp
  | any : NoB .any
  | sl (k es) (h : ∀ (i j : Nat) e c, es[i]? = some e → e[j]? = some c → NoB c) : NoB (.sl true k es)
  | agg (cs) (h : ∀ (i : Nat) c, cs[i]? = some c → NoB c) : NoB (.agg cs)
  | tup (cs) (h : ∀ (i : Nat) c, cs[i]? = some c → NoB c) : NoB (.tup cs)

theorem XRel.noB {x v} {G : Nat → Prop} (h : XRel w A x v G) (hx : NoB x) : XRel w (fun _ => False) x v G := by
  induction h with
  | pure x v G h ho hG =>
    refine .pure _ _ _ ?_ ho hG
    cases hx with
    | int => cases h; exact .int _ _
    | bool => cases h; exact .bool _
    | str => cases h; exact .str _ ‹_›
    | nils => cases h; exact .nils
    | nilp => cases h; exact .nilp
    | any => exact .any _
    | sl => simp [AV.isOwn] at ho
    | agg => simp [AV.isOwn] at ho
    | tup => simp [AV.isOwn] at ho
  | nil k G hG => exact .nil k G hG
  | sl k es cap b T c F G hb hl hcap hsz hk h1 _ hF h0 hd ih =>
    cases hx with
    | sl _ _ h => exact .sl k es cap b T c F G hb hl hcap hsz hk h1 (fun i j e a he ha => ih i j e a he ha (h i j e a he ha)) hF h0 hd
  | bx => cases hx
  | agg cs vs F G hn _ hF hd ih =>
    cases hx with
    | agg _ h => exact .agg cs vs F G hn (fun i a ha => ih i a ha (h i a ha)) hF hd
  | tup cs vs F G hn _ hF hd ih =>
    cases hx with
    | tup _ h => exact .tup cs vs F G hn (fun i a ha => ih i a ha (h i a ha)) hF hd

def tupV (vs : List Value) : Value := match vs with
  | [v] => v
  | vs => .tuple vs.toArray
theorem enters_go {f : FuncId} {fn : Func} {c : Code} (hf : P.funcs[f]? = some fn) (hname : (fn.name == "runtime.NumGoroutine") = false) (hb : fn.body = some c) (args : Array Value) (w : World) :
    (callFunc f args).run P w = .ok (.enter f args) w := by
  have h1 : fn.name ≠ "runtime.NumGoroutine" := by simpa using hname
  simp [callFunc, hf, h1, hb]
theorem results_eq (fn : Func) (tmps : Array Value) : results fn tmps = (fn.results.toList.mapM (resVar tmps)) >>= fun vs => pure (tupV vs) := by
  unfold results
  rw [Array.mapM_eq_mapM_toList]
  simp only [bind_map_left]
  have e : (fun r : ResultVar => (match r with
    | .tmp t => pure (tmps.getD t undef)
    | .cell a t => do loadVar t (← asAddr (tmps.getD a undef)) : Sem Value)) = resVar tmps := by
    funext r; cases r <;> rfl
  show (fn.results.toList.mapM _ >>= _) = _
  refine congrArg (fn.results.toList.mapM (resVar tmps) >>= ·) ?_
  funext vs
  match vs with
  | [] => rfl
  | [v] => rfl
  | v :: u :: l => simp [tupV]

theorem atup_rel {vs : List Value} {l : List AV} {G : Nat → Nat → Prop} (hl : l.length = vs.length) (hc : ∀ (i : Nat) x, l[i]? = some x → XRel w A x (vs.getD i undef) (G i)) (hd : ∀ i j y, i < vs.length → j < vs.length → G i y → G j y → i = j) :
    XRel w A (atup l) (tupV vs) fun y => ∃ i, i < vs.length ∧ G i y := by
  have gen : XRel w A (.tup l) (.tuple vs.toArray) fun y => ∃ i, i < vs.length ∧ G i y :=
    .tup l vs.toArray _ G (by simp [hl]) (fun i x hx => by rw [← toList_getD]; simpa using hc i x hx) (fun y => by rw [hl]) (fun i j y hi hj => hd i j y (by rwa [← hl]) (by rwa [← hl]))
  match l, vs, hl with
  | [], [], _ => exact gen
  | [x], [v], _ => exact (hc 0 x rfl).congr fun y => ⟨fun ⟨i, hi, h⟩ => by simp at hi; subst hi; exact h, fun h => ⟨0, by simp, h⟩⟩
  | x :: y :: l, v :: u :: vs, _ => exact gen

theorem AC_of_ax (hL : L.ty = layOf P) (hm : P.follows .mixedOrders = true) {f : FuncId} {fn : Func} {c : Code} (hf : P.funcs[f]? = some fn) (hname : (fn.name == "runtime.NumGoroutine") = false) (hb : fn.body = some c)
    {α : Type} {args : List AV} {R : α → AV} {x : α} (hn : NoB (R x)) (h : afun (stdE np P) L fn args fun r => r = R x) : AC P f args R x := by
  refine ⟨fun xs w => enters_go hf hname hb xs w, fun w vs ⟨hsz, hr⟩ => calls_of_wp hf hb ?_⟩
  unfold afun at h
  rw [hb] at h
  simp only at h
  refine ax_sound (W := ⟨w, fun _ => False, [], fun _ => True⟩) hL hm (fun p hp => by simp at hp) c _ _ _ w (fun b => b < w.heap.size) (fun _ => undef) (fun _ _ => False) _ (fun e s' a' w' A' hd' F' hK hw hfr => ?_) ⟨⟨rfl, rfl, rfl, Nat.le_refl _, fun _ _ _ => rfl, fun _ _ => rfl, Nat.le_refl _⟩, fun x hx => ⟨hx, fun _ h => h⟩, fun _ _ h => h.elim, fun _ _ _ h => h.elim, fun id k es ho => by simp at ho, fun id cs ho => by simp at ho, fun p hp => by simp at hp, fun _ _ _ => trivial⟩ ⟨rfl, by simp [hsz], fun t x hx => ?_⟩ h
  · have fin : aret (stdE np P) L fn.results.toList s' (fun vs => atup vs = R x) → a'.defers = [] ∧ ∃ v, (results fn a'.tmps).run P w' = .ok v w' ∧ ∃ u F, Ending.returned v = .returned u ∧ Keeps (fun _ => False) w w' ∧ XRel w' (fun _ => False) (R x) u F ∧ ∀ b, F b → w.heap.size ≤ b ∧ b < w'.heap.size := fun hk => by
      obtain ⟨vs, l, G, h1, h2, h3, h4, h5, h6⟩ := aret_sound hL _ s' F' _ hw hfr hk
      refine ⟨hfr.nodef, _, ?_, _, _, rfl, ⟨hw.below.os, hw.below.tape, hw.below.output, hw.below.size, fun x hx _ => hw.below.block x hx (fun h => h), hw.below.frz, hw.below.drawn⟩, (h1 ▸ atup_rel h3 h4 h6).noB hn, fun b ⟨i, hi, hb⟩ => ?_⟩
      · rw [results_eq, Sem.run_bind, h2]; rfl
      · obtain ⟨id, hid⟩ := h5 i b hi hb
        exact ⟨(hw.fsz id b hid).1.elim (fun h => h) (fun h => h.elim), (hw.fsz id b hid).2⟩
    cases e with
    | normal => exact fin hK
    | ret => exact fin hK
    | exit id => exact hK.elim
  · rw [List.getElem?_append] at hx
    split at hx
    · rename_i hlt
      have := hr t x hx
      refine .pure _ _ ?_
      have e : (vs ++ Array.replicate (fn.ntmps - vs.size) undef).getD t undef = vs.getD t undef := by
        have h1 : t < vs.size := by omega
        rw [← toList_getD, ← toList_getD, List.getD_eq_getElem?_getD, List.getD_eq_getElem?_getD, Array.toList_append, List.getElem?_append_left (by simpa using h1)]
      rw [e]; exact this
    · rename_i hlt
      rw [List.getElem?_replicate] at hx
      split at hx
      · cases hx
        refine .pure _ _ ?_
        have e : (vs ++ Array.replicate (fn.ntmps - vs.size) undef).getD t undef = undef := by
          have h1 : ¬ t < vs.size := by omega
          simp [Array.getD, Array.getElem_append, h1]
        rw [e]; exact .und
      · cases hx

theorem getD_app_left (vs : Array Value) (n t : Nat) (h : t < vs.size) : (vs ++ Array.replicate n undef).getD t undef = vs.getD t undef := by
  rw [← toList_getD, ← toList_getD, List.getD_eq_getElem?_getD, List.getD_eq_getElem?_getD, Array.toList_append, List.getElem?_append_left (by simpa using h)]

theorem allRow_spec : ∀ {l : List Obj} {i : Nat}, allRow l = true → i < l.length → ∃ k es, l[i]? = some (.row k es)
  | [], i, _, h => by simp at h
  | o :: l, i, h, hi => by
    cases o <;> simp only [allRow] at h <;> first | cases h | skip
    cases i with
    | zero => exact ⟨_, _, rfl⟩
    | succ i => simpa using allRow_spec h (by simpa using hi)

theorem ACM_of_ax (hL : L.ty = layOf P) (hm : P.follows .mixedOrders = true) {f : FuncId} {fn : Func} {c : Code} (hf : P.funcs[f]? = some fn) (hname : (fn.name == "runtime.NumGoroutine") = false) (hb : fn.body = some c)
    {args : List AV} {Qc : AV → List AV → Prop} (hnb : ∀ r ys, Qc r ys → NoB r ∧ ∀ y ∈ ys, NoB y) (h : afunM (stdE np P) L np fn args Qc) : ACM P f args Qc := by
  refine ⟨fun xs w => enters_go hf hname hb xs w, fun w A vs F hX hA hF => calls_of_wp hf hb ?_⟩
  unfold afunM at h
  rw [hb] at h
  simp only at h
  cases hX with
  | pure _ _ _ h ho _ => simp [AV.isOwn] at ho
  | tup _ _ _ Gx hsz hc hFx hdx =>
    let W0 : WM := ⟨w, F, [], fun _ => True⟩
    have hw0 : CW W0 w A ([] : List Obj) (fun _ => undef) (fun _ _ => False) := ⟨⟨rfl, rfl, rfl, Nat.le_refl _, fun _ _ _ => rfl, fun _ _ => rfl, Nat.le_refl _⟩, fun y hy => ⟨(hA y hy).1, fun _ h => h⟩, fun _ _ h => h.elim, fun _ _ _ h => h.elim, fun id k es ho => by simp at ho, fun id cs ho => by simp at ho, fun p hp => by simp [W0] at hp, fun _ _ _ => trivial⟩
    obtain ⟨s0, hd0, F0, e1, hw1, _, hF0, args0, hk, hl0, hc0⟩ := enterL (step := fun s x K => s.in2 x K) (all := fun s l K => s.in2L l K) (W := W0) (w := w) (A := A) (fun s K h => h) (fun s x l K h => h) (fun s hd F x v G K h1 h2 h3 h4 => in2_sound h1 h2 h3 h4)
      args vs.toList Gx (AS.mk [] []) (fun _ => undef) (fun _ _ => False) _ hw0 (by simpa using hsz) (fun i x hx => by rw [toList_getD]; exact hc i x hx) (fun i y hi hy => by
        have := (hFx y).2 ⟨i, hi, hy⟩
        exact ⟨.inr this, hF y this, fun h => (hA y h).2 this, fun _ h => h⟩) hdx h
    split at hk
    · rename_i hlen hrows hnod
      replace hlen : s0.os.length = np := by simpa using hlen
      have hwp : CW ⟨w, F, (List.range np).map fun i => (i, hd0 i), fun _ => True⟩ w A s0.os hd0 F0 := ⟨⟨hw1.below.os, hw1.below.tape, hw1.below.output, hw1.below.size, hw1.below.block, hw1.below.frz, hw1.below.drawn⟩, hw1.hA, fun id x hx => hw1.fsz id x hx, hw1.disj, hw1.rows, hw1.boxes, fun p hp => by
        obtain ⟨i, hi, rfl⟩ := List.mem_map.1 hp
        exact ⟨by simpa [hlen] using List.mem_range.1 hi, rfl⟩, fun _ _ _ => trivial⟩
      have hsz0 : args0.length = vs.size := by simpa using hl0
      refine ax_sound hL hm (fun p hp => by
        obtain ⟨i, hi, rfl⟩ := List.mem_map.1 hp
        exact List.mem_range.1 hi) c ⟨args0 ++ List.replicate (fn.ntmps - args.length) .und, s0.os⟩ _ _ w A hd0 F0 _ (fun e s' a' w' A' hd' F' hK hw hfr => ?_) hwp ⟨rfl, by simp [hsz0, hsz], fun t y hy => ?_⟩ hk
      · have fin : (aretM (stdE np P) L fn.results.toList s' fun us s'' => Qc (atup us) (args0.map s''.fin)) → a'.defers = [] ∧ ∃ v, (results fn a'.tmps).run P w' = .ok v w' ∧ ∃ u G r args', Qc r args' ∧ Ending.returned v = .returned u ∧ Keeps F w w' ∧ XRel w' (fun _ => False) (.tup (r :: args')) (.tuple (#[u] ++ vs)) G ∧ ∀ b, G b → F b ∨ w.heap.size ≤ b ∧ b < w'.heap.size := fun hk => by
          obtain ⟨us, l, G, s'', F'', hq, hw2, hF2, h2, h3, h4, h5, h6⟩ := aretM_sound hL _ s' F' _ hw hfr hk
          have hold : ∀ b, (∃ id, F' id b) → F b ∨ w.heap.size ≤ b ∧ b < w'.heap.size := fun b ⟨id, hid⟩ => by
            obtain ⟨g1, g2⟩ := hw.fsz id b hid
            rcases g1 with g1 | g1
            · exact .inr ⟨g1, g2⟩
            · exact .inl g1
          obtain ⟨hn, hn'⟩ := hnb _ _ hq
          have R0 : XRel w' (fun _ => False) (atup l) (tupV us) fun b => ∃ i, i < us.length ∧ G i b := (atup_rel h3 h4 h6).noB hn
          let Gi : Nat → Nat → Prop := fun i b => match i with
            | 0 => ∃ i, i < us.length ∧ G i b
            | i + 1 => ∃ id k es, args0[i]? = some (.ob id) ∧ s''.os[id]? = some (.row k es) ∧ F'' id b
          refine ⟨hfr.nodef, tupV us, ?_, tupV us, fun b => ∃ i, i < (atup l :: args0.map s''.fin).length ∧ Gi i b, _, _, hq, rfl, ⟨hw.below.os, hw.below.tape, hw.below.output, hw.below.size, fun b hb hnF => hw.below.block b hb hnF, hw.below.frz, hw.below.drawn⟩, .tup _ _ _ Gi ?_ (fun i y hy => ?_) (fun b => Iff.rfl) (fun i j b hi hj hbi hbj => ?_), fun b ⟨i, hi, hb⟩ => ?_⟩
          · rw [results_eq, Sem.run_bind, h2]; rfl
          · simp [hsz0]; omega
          · cases i with
            | zero =>
              simp at hy; subst hy
              have e : (#[tupV us] ++ vs).getD 0 undef = tupV us := by rw [← toList_getD]; simp
              rw [e]; exact R0
            | succ i =>
              have e : (#[tupV us] ++ vs).getD (i + 1) undef = vs.getD i undef := by rw [← toList_getD, ← toList_getD]; simp [List.getD_eq_getElem?_getD]
              rw [e]
              have hy' : (args0.map s''.fin)[i]? = some y := by simpa using hy
              have hno := hn' y (List.mem_of_getElem? hy')
              rw [List.getElem?_map] at hy'
              cases h7 : args0[i]? with
              | none => rw [h7] at hy'; cases hy'
              | some z =>
                rw [h7] at hy'
                cases hy'
                have hdead : s''.fin z = .any → XRel w' (fun _ => False) (s''.fin z) (vs.getD i undef) (Gi (i + 1)) ∨ ∃ id k es, z = .ob id ∧ s''.os[id]? = some (.row k es) := fun he => by
                  by_cases hex : ∃ id k es, z = .ob id ∧ s''.os[id]? = some (.row k es)
                  · exact .inr hex
                  · refine .inl ?_
                    rw [he]
                    exact .pure _ _ _ (.any _) rfl (fun b ⟨id, k, es, g1, g2, _⟩ => hex ⟨id, k, es, by rw [h7] at g1; exact Option.some.inj g1, g2⟩)
                by_cases hex : ∃ id k es, z = .ob id ∧ s''.os[id]? = some (.row k es)
                · obtain ⟨id, k, es, rfl, ho⟩ := hex
                  have hfin : s''.fin (.ob id) = .sl true k es := by simp [AS.fin, ho]
                  rw [hfin] at hno ⊢
                  have hid : id < s0.os.length := by
                    have := hc0 i _ h7
                    cases this with
                    | pure _ _ h => cases h
                    | ob _ _ hi _ => exact hi
                  have hpin := hw2.pin (id, hd0 id) (List.mem_map.2 ⟨id, List.mem_range.2 (by omega), rfl⟩)
                  have hval : vs.getD i undef = hd0 id := by
                    have g1 := hc0 i _ h7
                    rw [toList_getD] at g1
                    obtain ⟨k0, es0, ho0⟩ := allRow_spec hrows hid
                    exact g1.ob_inv ho0
                  have hp2 : hd' id = hd0 id := hpin.2
                  rw [hval, ← hp2]
                  refine ((hw2.rows id k es ho).noB hno).congr fun b => ⟨fun ⟨id', k', es', g1, g2, g3⟩ => by rw [h7] at g1; cases g1; exact g3, fun g => ⟨id, k, es, h7, ho, g⟩⟩
                · have hany : s''.fin z = .any := by
                    unfold AS.fin
                    split
                    · split
                      · rename_i id _ k es ho; exact (hex ⟨_, _, _, rfl, ho⟩).elim
                      · rfl
                    · rfl
                  rcases hdead hany with g | g
                  · exact g
                  · exact (hex g).elim
          · cases i with
            | zero =>
              cases j with
              | zero => rfl
              | succ j =>
                obtain ⟨i, hi, hb⟩ := hbi
                obtain ⟨id, k, es, _, _, g⟩ := hbj
                exact ((h5 i b hi hb).2 id g).elim
            | succ i =>
              cases j with
              | zero =>
                obtain ⟨j, hj, hb⟩ := hbj
                obtain ⟨id, k, es, _, _, g⟩ := hbi
                exact ((h5 j b hj hb).2 id g).elim
              | succ j =>
                obtain ⟨id, k, es, g1, _, g⟩ := hbi
                obtain ⟨id', k', es', g1', _, g'⟩ := hbj
                have := hw2.disj _ _ _ g g'
                subst this
                rw [idsL_inj (nodupB_spec hnod) g1 g1']
          · cases i with
            | zero =>
              obtain ⟨i, hi, hb⟩ := hb
              exact hold b (h5 i b hi hb).1
            | succ i =>
              obtain ⟨id, k, es, _, _, g⟩ := hb
              exact hold b ⟨id, hF2 id b g⟩
        cases e with
        | normal => exact fin hK
        | ret => exact fin hK
        | exit id => exact hK.elim
      · rw [List.getElem?_append] at hy
        split at hy
        · rename_i hlt
          rw [getD_app_left _ _ _ (by omega), ← toList_getD]
          exact hc0 t y hy
        · rename_i hlt
          rw [List.getElem?_replicate] at hy
          split at hy
          · cases hy
            refine .pure _ _ ?_
            have e : (vs ++ Array.replicate (fn.ntmps - vs.size) undef).getD t undef = undef := by
              have h1 : ¬ t < vs.size := by omega
              simp [Array.getD, Array.getElem_append, h1]
            rw [e]; exact .und
          · cases hy
    · exact hk.elim
theorem okArgs_spec : ∀ {l : List AV} {i : Nat} {x : AV}, s.okArgs l = true → l[i]? = some x → (∀ id, x = .ob id → ∃ k es, s.os[id]? = some (.row k es)) ∧ ∀ id off, x = .pb id off → ∃ cs, s.os[id]? = some (.box cs)
  | [], i, x, _, h => by simp at h
  | y :: l, i, x, h, hi => by
    have rest : s.okArgs l = true := by
      unfold AS.okArgs at h
      split at h
      · rename_i e; cases e
      · rename_i e; cases e
        split at h
        · exact h
        · cases h
      · rename_i e; cases e
        split at h
        · exact h
        · cases h
      · rename_i e; cases e; exact h
    cases i with
    | succ i => exact okArgs_spec rest (by simpa using hi)
    | zero =>
      simp at hi; subst hi
      refine ⟨fun id e => ?_, fun id off e => ?_⟩
      · subst e
        simp only [AS.okArgs] at h
        split at h
        · exact ⟨_, _, ‹_›⟩
        · cases h
      · subst e
        simp only [AS.okArgs] at h
        split at h
        · exact ⟨_, ‹_›⟩
        · cases h
theorem finS_cases (s : AS) (z : AV) : s.finS z = .any ∨ (∃ id k es, z = .ob id ∧ s.os[id]? = some (.row k es) ∧ s.finS z = .sl true k es) ∨ ∃ id cs, z = .pb id 0 ∧ s.os[id]? = some (.box cs) ∧ AV.allPure cs = true ∧ s.finS z = .bx cs := by
  unfold AS.finS
  split
  · split
    · exact .inr (.inl ⟨_, _, _, rfl, ‹_›, rfl⟩)
    · exact .inl rfl
  · split
    · split
      · exact .inr (.inr ⟨_, _, rfl, ‹_›, ‹_›, rfl⟩)
      · exact .inl rfl
    · exact .inl rfl
  · exact .inl rfl

theorem ACS_of_ax (hL : L.ty = layOf P) (hm : P.follows .mixedOrders = true) {f : FuncId} {fn : Func} {c : Code} (hf : P.funcs[f]? = some fn) (hname : (fn.name == "runtime.NumGoroutine") = false) (hb : fn.body = some c)
    {args : List AV} {Qc : AV → List AV → Prop} (h : afunS (stdE np P) L np fn args Qc) : ACS P f args Qc := by
  refine ⟨fun xs w => enters_go hf hname hb xs w, fun w A vs F hX hA hF => calls_of_wp hf hb ?_⟩
  unfold afunS at h
  rw [hb] at h
  simp only at h
  cases hX with
  | pure _ _ _ h ho _ => simp [AV.isOwn] at ho
  | tup _ _ _ Gx hsz hc hFx hdx =>
    let W0 : WM := ⟨w, F, [], A⟩
    have hw0 : CW W0 w A ([] : List Obj) (fun _ => undef) (fun _ _ => False) := ⟨⟨rfl, rfl, rfl, Nat.le_refl _, fun _ _ _ => rfl, fun _ _ => rfl, Nat.le_refl _⟩, fun y hy => ⟨(hA y hy).1, fun _ h => h⟩, fun _ _ h => h.elim, fun _ _ _ h => h.elim, fun id k es ho => by simp at ho, fun id cs ho => by simp at ho, fun p hp => by simp [W0] at hp, fun _ h _ => h⟩
    obtain ⟨s0, hd0, F0, e1, hw1, _, hF0, args0, hk, hl0, hc0⟩ := enterL (step := fun s x K => s.in2 x K) (all := fun s l K => s.in2L l K) (W := W0) (w := w) (A := A) (fun s K h => h) (fun s x l K h => h) (fun s hd F x v G K h1 h2 h3 h4 => in2_sound h1 h2 h3 h4)
      args vs.toList Gx (AS.mk [] []) (fun _ => undef) (fun _ _ => False) _ hw0 (by simpa using hsz) (fun i x hx => by rw [toList_getD]; exact hc i x hx) (fun i y hi hy => by
        have := (hFx y).2 ⟨i, hi, hy⟩
        exact ⟨.inr this, hF y this, fun h => (hA y h).2 this, fun _ h => h⟩) hdx h
    split at hk
    · rename_i hlen hrows hnod
      replace hlen : s0.os.length = np := by simpa using hlen
      have hwp : CW ⟨w, F, (List.range np).map fun i => (i, hd0 i), A⟩ w A s0.os hd0 F0 := ⟨⟨hw1.below.os, hw1.below.tape, hw1.below.output, hw1.below.size, hw1.below.block, hw1.below.frz, hw1.below.drawn⟩, hw1.hA, fun id x hx => hw1.fsz id x hx, hw1.disj, hw1.rows, hw1.boxes, fun p hp => by
        obtain ⟨i, hi, rfl⟩ := List.mem_map.1 hp
        exact ⟨by simpa [hlen] using List.mem_range.1 hi, rfl⟩, fun _ h _ => h⟩
      have hsz0 : args0.length = vs.size := by simpa using hl0
      refine ax_sound hL hm (fun p hp => by
        obtain ⟨i, hi, rfl⟩ := List.mem_map.1 hp
        exact List.mem_range.1 hi) c ⟨args0 ++ List.replicate (fn.ntmps - args.length) .und, s0.os⟩ _ _ w A hd0 F0 _ (fun e s' a' w' A' hd' F' hK hw hfr => ?_) hwp ⟨rfl, by simp [hsz0, hsz], fun t y hy => ?_⟩ hk
      · have fin : (aretM (stdE np P) L fn.results.toList s' fun us s'' => Qc (atup us) (args0.map s''.finS)) → a'.defers = [] ∧ ∃ v, (results fn a'.tmps).run P w' = .ok v w' ∧ ∃ u G A1 r args', Qc r args' ∧ Ending.returned v = .returned u ∧ Keeps F w w' ∧ XRel w' A1 (.tup (r :: args')) (.tuple (#[u] ++ vs)) G ∧ (∀ b, G b → F b ∨ w.heap.size ≤ b ∧ b < w'.heap.size) ∧ ∀ b, A1 b → b < w'.heap.size ∧ ¬ G b ∧ (A b ∨ w.heap.size ≤ b) := fun hk => by
          obtain ⟨us, l, G, s'', F'', hq, hw2, hF2, h2, h3, h4, h5, h6⟩ := aretM_sound hL _ s' F' _ hw hfr hk
          have hold : ∀ b, (∃ id, F' id b) → F b ∨ w.heap.size ≤ b ∧ b < w'.heap.size := fun b ⟨id, hid⟩ => by
            obtain ⟨g1, g2⟩ := hw.fsz id b hid
            rcases g1 with g1 | g1
            · exact .inr ⟨g1, g2⟩
            · exact .inl g1
          have R0 : XRel w' A' (atup l) (tupV us) fun b => ∃ i, i < us.length ∧ G i b := atup_rel h3 h4 h6
          let Gi : Nat → Nat → Prop := fun i b => match i with
            | 0 => ∃ i, i < us.length ∧ G i b
            | i + 1 => ∃ id z, args0[i]? = some z ∧ id ∈ idsOfS z ∧ s''.finS z ≠ .any ∧ LF s''.os hd' F'' id b
          have hinF : ∀ i b, i < (atup l :: args0.map s''.finS).length → Gi i b → ∃ id, F' id b := fun i b hi hb => by
            cases i with
            | zero => obtain ⟨i, hi, hb⟩ := hb; exact (h5 i b hi hb).1
            | succ i => obtain ⟨id, z, _, _, _, g⟩ := hb; exact ⟨id, hF2 id b g.1⟩
          refine ⟨hfr.nodef, tupV us, ?_, tupV us, fun b => ∃ i, i < (atup l :: args0.map s''.finS).length ∧ Gi i b, A', _, _, hq, rfl, ⟨hw.below.os, hw.below.tape, hw.below.output, hw.below.size, fun b hb hnF => hw.below.block b hb hnF, hw.below.frz, hw.below.drawn⟩, .tup _ _ _ Gi ?_ (fun i y hy => ?_) (fun b => Iff.rfl) (fun i j b hi hj hbi hbj => ?_), fun b ⟨i, hi, hb⟩ => hold b (hinF i b hi hb), fun b hb => ⟨(hw.hA b hb).1, fun ⟨i, hi, h⟩ => ?_, ?_⟩⟩
          · rw [results_eq, Sem.run_bind, h2]; rfl
          · simp [hsz0]; omega
          · cases i with
            | zero =>
              simp at hy; subst hy
              have e : (#[tupV us] ++ vs).getD 0 undef = tupV us := by rw [← toList_getD]; simp
              rw [e]; exact R0
            | succ i =>
              have e : (#[tupV us] ++ vs).getD (i + 1) undef = vs.getD i undef := by rw [← toList_getD, ← toList_getD]; simp [List.getD_eq_getElem?_getD]
              rw [e]
              have hy' : (args0.map s''.finS)[i]? = some y := by simpa using hy
              rw [List.getElem?_map] at hy'
              cases h7 : args0[i]? with
              | none => rw [h7] at hy'; cases hy'
              | some z =>
                rw [h7] at hy'
                cases hy'
                have hz := hc0 i _ h7
                rw [toList_getD] at hz
                have pinv : ∀ id, id < s0.os.length → hd' id = hd0 id := fun id hid => (hw2.pin (id, hd0 id) (List.mem_map.2 ⟨id, List.mem_range.2 (by omega), rfl⟩)).2
                rcases finS_cases s'' z with hany | ⟨id, k, es, rfl, ho, hfin⟩ | ⟨id, cs, rfl, ho, hp, hfin⟩
                · rw [hany]
                  exact .pure _ _ _ (.any _) rfl (fun b ⟨id, z', g1, _, g2, _⟩ => by rw [h7] at g1; cases g1; exact g2 hany)
                · have hid : id < s0.os.length := hz.ob_lt
                  obtain ⟨k0, es0, ho0⟩ := (okArgs_spec hrows h7).1 id rfl
                  rw [hfin, hz.ob_inv ho0, ← pinv id hid]
                  refine (hw2.rows id k es ho).congr fun b => ⟨fun ⟨id', z', g1, g2, _, g3⟩ => by
                    rw [h7] at g1; cases g1
                    simp [idsOfS] at g2; subst g2; exact g3.1, fun g => ⟨id, .ob id, h7, by simp [idsOfS], by rw [hfin]; simp, g, fun cs hcs => by rw [ho] at hcs; cases hcs⟩⟩
                · obtain ⟨b, T, c, e1, e2, e3, e4, e5⟩ := hw2.boxes id cs ho
                  have hid : id < s0.os.length := hz.pb_lt
                  obtain ⟨cs0, ho0⟩ := (okArgs_spec hrows h7).2 id 0 rfl
                  obtain ⟨b0, q1, q2⟩ := hz.pb_inv ho0
                  rw [hfin, q2, ← q1, ← pinv id hid, e1]
                  refine .bx cs b T c _ e2 e3 (fun j x hx => ?_) (fun y => ⟨fun ⟨id', z', g1, g2, _, g3⟩ => ?_, fun h => ?_⟩)
                  · have := e4 j x hx
                    have hpx := allPure_get' hp hx
                    cases x <;> first | exact this.pure_inv trivial | cases hpx
                  · rw [h7] at g1; cases g1
                    simp [idsOfS] at g2; subst g2
                    have := g3.2 cs ho
                    rw [e1] at this; cases this; rfl
                  · subst h
                    exact ⟨id, .pb id 0, h7, by simp [idsOfS], by rw [hfin]; simp, e5, fun _ _ => e1⟩
          · cases i with
            | zero =>
              cases j with
              | zero => rfl
              | succ j =>
                obtain ⟨i, hi, hb⟩ := hbi
                obtain ⟨id, z, _, _, _, g⟩ := hbj
                exact ((h5 i b hi hb).2 id g.1).elim
            | succ i =>
              cases j with
              | zero =>
                obtain ⟨j, hj, hb⟩ := hbj
                obtain ⟨id, z, _, _, _, g⟩ := hbi
                exact ((h5 j b hj hb).2 id g.1).elim
              | succ j =>
                obtain ⟨id, z, g1, g2, _, g⟩ := hbi
                obtain ⟨id', z', g1', g2', _, g'⟩ := hbj
                have := hw2.disj _ _ _ g.1 g'.1
                subst this
                rw [idsSL_inj (nodupB_spec hnod) g1 g2 g1' g2']
          · obtain ⟨id, g⟩ := hinF i b hi h
            exact (hw.hA b hb).2 id g
          · by_cases hlt : b < w.heap.size
            · exact .inl (hw.old b hb hlt)
            · exact .inr (by omega)
        cases e with
        | normal => exact fin hK
        | ret => exact fin hK
        | exit id => exact hK.elim
      · rw [List.getElem?_append] at hy
        split at hy
        · rename_i hlt
          rw [getD_app_left _ _ _ (by omega), ← toList_getD]
          exact hc0 t y hy
        · rename_i hlt
          rw [List.getElem?_replicate] at hy
          split at hy
          · cases hy
            refine .pure _ _ ?_
            have e : (vs ++ Array.replicate (fn.ntmps - vs.size) undef).getD t undef = undef := by
              have h1 : ¬ t < vs.size := by omega
              simp [Array.getD, Array.getElem_append, h1]
            rw [e]; exact .und
          · cases hy
    · exact hk.elim
end
end Go.Proofs.Ytjenekakcoggpaa
