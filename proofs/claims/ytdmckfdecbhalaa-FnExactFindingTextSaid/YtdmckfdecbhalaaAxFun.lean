/- Soundness of functions: a body that computes 'R x' meets its contract. -/
import Derived.Test.YtdmckfdecbhalaaAxCtl
import Derived.Laws.Sem
namespace Go.Proofs.Ytdmckfdecbhalaa
open Go Go.RowKit

section
variable {P : Program} {L : Lay} {W w w' : World} {A : Nat → Prop} {os os' : List Obj} {hd hd' : Nat → Value} {F F' : Nat → Nat → Prop} {s : AS} {a : Act}

def Out (W w : World) (A : Nat → Prop) (s : AS) (hd : Nat → Value) (F : Nat → Nat → Prop) (v : Value) (K : AV → AS → Prop) : Prop :=
  Leave W w A s hd F fun s' F' => ∃ x' G, K x' s' ∧ XRel w A x' v G ∧ ∀ y, G y → (∃ id, F id y) ∧ ∀ id, ¬ F' id y

theorem out1_sound (hw : CW W w A s.os hd F) {x v} {K : AV → AS → Prop} (hx : SRel w A s.os hd x v) (hk : s.out1 (stdE P) x K) : Out W w A s hd F v K := by
  unfold AS.out1 at hk
  split at hk
  · exact hk.elim
  · cases hx.nils_inv
    rcases hk with hk | ⟨k, hk⟩
    · exact ⟨s, F, rfl, rfl, hw, fun _ _ h => h, fun _ _ h => h, _, fun _ => False, hk, .pure _ _ _ .nils rfl (fun _ h => h), fun y h => h.elim⟩
    · exact ⟨s, F, rfl, rfl, hw, fun _ _ h => h, fun _ _ h => h, _, fun _ => False, hk, .nil _ _ (fun _ h => h), fun y h => h.elim⟩
  · obtain ⟨s', F', e, l, h1, h2, h3, x', G, h4, h5, h6, _⟩ := own1_sound hw hx hk
    exact ⟨s', F', e, l, h1, h2, h3, x', G, h4, h5, h6⟩

theorem outL_sound : ∀ (l : List AV) (vs : List Value) (s : AS) (F : Nat → Nat → Prop) (K : List AV → AS → Prop), CW W w A s.os hd F → vs.length = l.length →
    (∀ (i : Nat) x, l[i]? = some x → SRel w A s.os hd x (vs.getD i undef)) → s.outL (stdE P) l K →
    Leave W w A s hd F fun s' F' => ∃ (l' : List AV) (G : Nat → Nat → Prop), K l' s' ∧ l'.length = vs.length ∧ (∀ (i : Nat) x, l'[i]? = some x → XRel w A x (vs.getD i undef) (G i)) ∧
      (∀ i y, i < vs.length → G i y → (∃ id, F id y) ∧ ∀ id, ¬ F' id y) ∧ (∀ i j y, i < vs.length → j < vs.length → G i y → G j y → i = j)
  | [], [], s, F, K, hw, _, _, hk => ⟨s, F, rfl, rfl, hw, fun _ _ h => h, fun _ _ h => h, [], fun _ _ => False, hk, rfl, fun i x hx => by simp at hx, fun i y hi => by simp at hi, fun i j y hi => by simp at hi⟩
  | [], _ :: _, _, _, _, _, hn, _, _ => by simp at hn
  | _ :: _, [], _, _, _, _, hn, _, _ => by simp at hn
  | x :: l, v :: vs, s, F, K, hw, hn, hc, hk => by
    unfold AS.outL at hk
    obtain ⟨s1, F1, e1, l1, hw1, hm1, hF1, x', G0, hk1, hx', hG0⟩ := out1_sound hw (by simpa using hc 0 x (by simp)) hk
    obtain ⟨s2, F2, e2, l2, hw2, hm2, hF2, l', G, hk2, hl2, hc2, hG, hdj⟩ := outL_sound l vs s1 F1 _ hw1 (by simpa using hn) (fun i y hy => hm1 _ _ (by simpa using hc (i + 1) y (by simpa using hy))) hk1
    refine ⟨s2, F2, e2.trans e1, l2.trans l1, hw2, fun y u h => hm2 y u (hm1 y u h), fun id y h => hF1 id y (hF2 id y h), x' :: l', fun i => match i with | 0 => G0 | i + 1 => G i, hk2, by simp [hl2], fun i y hy => ?_, fun i y hi hy => ?_, fun i j y hi hj h3 h4 => ?_⟩
    · cases i with
      | zero => simp at hy; subst hy; simpa using hx'
      | succ i => simp at hy; simpa using hc2 i y hy
    · cases i with
      | zero => exact ⟨(hG0 y hy).1, fun id h => (hG0 y hy).2 id (hF2 id y h)⟩
      | succ i =>
        obtain ⟨⟨id, h5⟩, h6⟩ := hG i y (by simpa using hi) hy
        exact ⟨⟨id, hF1 id y h5⟩, h6⟩
    · cases i with
      | zero =>
        cases j with
        | zero => rfl
        | succ j =>
          obtain ⟨⟨id, h5⟩, _⟩ := hG j y (by simpa using hj) h4
          exact ((hG0 y h3).2 id h5).elim
      | succ i =>
        cases j with
        | zero =>
          obtain ⟨⟨id, h5⟩, _⟩ := hG i y (by simpa using hi) h3
          exact ((hG0 y h4).2 id h5).elim
        | succ j => rw [hdj i j y (by simpa using hi) (by simpa using hj) h3 h4]

theorem out_sound (hw : CW W w A s.os hd F) {x v} {K : AV → AS → Prop} (hx : SRel w A s.os hd x v) (hk : s.out (stdE P) x K) : Out W w A s hd F v K := by
  unfold AS.out at hk
  split at hk
  · obtain ⟨vs, rfl, e2, e3⟩ := hx.agg_inv
    obtain ⟨s', F', e, l, h1, h2, h3, l', G, h4, h5, h6, h7, h8⟩ := outL_sound _ vs.toList s F _ hw (by simpa using e2) (fun i x hx => by rw [toList_getD]; exact e3 i x hx) hk
    refine ⟨s', F', e, l, h1, h2, h3, _, fun y => ∃ i, i < l'.length ∧ G i y, h4, .agg l' vs _ G (by simpa using h5.symm) (fun i x hx => by rw [← toList_getD]; exact h6 i x hx) (fun y => Iff.rfl) (fun i j y hi hj => h8 i j y (by rwa [← h5]) (by rwa [← h5])), fun y ⟨i, hi, hy⟩ => h7 i y (by rwa [← h5]) hy⟩
  · exact out1_sound hw hx hk

def resVar (tmps : Array Value) : ResultVar → Sem Value
  | .tmp t => pure (tmps.getD t undef)
  | .cell a t => do loadVar t (← asAddr (tmps.getD a undef))

theorem FR.slot (hf : FR w A s.os hd s.fr a) (t : Nat) : SRel w A s.os hd (s.fr.getD t .any) (a.tmps.getD t undef) := by
  rw [List.getD_eq_getElem?_getD]
  cases h : s.fr[t]? with
  | none => exact .pure _ _ (.any _)
  | some x => exact hf.slots t x h

theorem aret_sound (hL : L.ty = layOf P) : ∀ (rs : List ResultVar) (s : AS) (F : Nat → Nat → Prop) (K : List AV → Prop), CW W w A s.os hd F → FR w A s.os hd s.fr a → aret (stdE P) L rs s K →
    ∃ (vs : List Value) (l : List AV) (G : Nat → Nat → Prop), K l ∧ (rs.mapM (resVar a.tmps)).run P w = .ok vs w ∧ l.length = vs.length ∧ (∀ (i : Nat) x, l[i]? = some x → XRel w A x (vs.getD i undef) (G i)) ∧
      (∀ i y, i < vs.length → G i y → ∃ id, F id y) ∧ (∀ i j y, i < vs.length → j < vs.length → G i y → G j y → i = j)
  | [], s, F, K, hw, hf, hk => ⟨[], [], fun _ _ => False, hk, rfl, rfl, fun i x hx => by simp at hx, fun i y hi => by simp at hi, fun i j y hi => by simp at hi⟩
  | r :: rs, s, F, K, hw, hf, hk => by
    have main : ∀ v x, SRel w A s.os hd x v → (resVar a.tmps r).run P w = .ok v w → (s.out (stdE P) x fun x' s' => aret (stdE P) L rs s' fun vs => K (x' :: vs)) → ∃ (vs : List Value) (l : List AV) (G : Nat → Nat → Prop), K l ∧ ((r :: rs).mapM (resVar a.tmps)).run P w = .ok vs w ∧ l.length = vs.length ∧ (∀ (i : Nat) x, l[i]? = some x → XRel w A x (vs.getD i undef) (G i)) ∧
      (∀ i y, i < vs.length → G i y → ∃ id, F id y) ∧ (∀ i j y, i < vs.length → j < vs.length → G i y → G j y → i = j) := fun v x hx hr hk => by
      obtain ⟨s1, F1, e1, l1, hw1, hm1, hF1, x', G0, hk1, hx', hG0⟩ := out_sound hw hx hk
      obtain ⟨vs, l', G, hk2, hr2, hl2, hc2, hG, hdj⟩ := aret_sound hL rs s1 F1 _ hw1 (by rw [e1]; exact hf.os_mono hm1) hk1
      refine ⟨v :: vs, x' :: l', fun i => match i with | 0 => G0 | i + 1 => G i, hk2, ?_, by simp [hl2], fun i y hy => ?_, fun i y hi hy => ?_, fun i j y hi hj h3 h4 => ?_⟩
      · rw [List.mapM_cons, Sem.run_bind, hr]
        simp only [Result.andThen_ok]
        rw [Sem.run_bind, hr2]
        rfl
      · cases i with
        | zero => simp at hy; subst hy; simpa using hx'
        | succ i => simp at hy; simpa using hc2 i y hy
      · cases i with
        | zero => exact (hG0 y hy).1
        | succ i =>
          obtain ⟨id, h5⟩ := hG i y (by simpa using hi) hy
          exact ⟨id, hF1 id y h5⟩
      · cases i with
        | zero =>
          cases j with
          | zero => rfl
          | succ j =>
            obtain ⟨id, h5⟩ := hG j y (by simpa using hj) h4
            exact ((hG0 y h3).2 id h5).elim
        | succ i =>
          cases j with
          | zero =>
            obtain ⟨id, h5⟩ := hG i y (by simpa using hi) h3
            exact ((hG0 y h4).2 id h5).elim
          | succ j => rw [hdj i j y (by simpa using hi) (by simpa using hj) h3 h4]
    cases r with
    | tmp t => exact main _ _ (hf.slot t) rfl hk
    | cell t ty =>
      unfold aret at hk
      split at hk
      · rename_i id off hx
        split at hk
        · rename_i cs ho
          have h1 := hf.slot t
          rw [hx] at h1
          obtain ⟨b, e1, e2⟩ := h1.pb_inv ho
          obtain ⟨b', _, _, g1, _, _, _, g2, _⟩ := box_pt hw ho
          rw [g1] at e1
          cases e1
          have g3 := g2.drop off
          rw [Nat.zero_add] at g3
          obtain ⟨x, v, h2, h3, h4⟩ := run_loadVar hL g3 hk
          refine main v x h3 ?_ h2
          show (asAddr (a.tmps.getD t undef) >>= loadVar ty).run P w = _
          rw [e2, Sem.run_bind]
          simpa [asAddr] using h4
        · exact hk.elim
      · exact hk.elim

/-- No borrowed memory. -/
inductive NoB : AV → Prop
  | int (k n) : NoB (.int k n)
  | bool (b) : NoB (.bool b)
  | str (b) : NoB (.str b)
  | nils : NoB .nils
  | nilp : NoB .nilp
  | sl (k es) (h : ∀ (i j : Nat) e c, es[i]? = some e → e[j]? = some c → NoB c) : NoB (.sl true k es)
  | agg (cs) (h : ∀ (i : Nat) c, cs[i]? = some c → NoB c) : NoB (.agg cs)
  | tup (cs) (h : ∀ (i : Nat) c, cs[i]? = some c → NoB c) : NoB (.tup cs)

theorem XRel.noB {x v} {G : Nat → Prop} (h : XRel w A x v G) (hx : NoB x) : XRel w (fun _ => False) x v G := by
  induction h with
  | pure x v G h ho hG =>
    refine .pure _ _ _ ?_ ho hG
    cases hx with
    | int => cases h; exact .int _ _
    | bool => cases h; exact .bool _
    | str => cases h; exact .str _ ‹_›
    | nils => cases h; exact .nils
    | nilp => cases h; exact .nilp
    | sl => simp [AV.isOwn] at ho
    | agg => simp [AV.isOwn] at ho
    | tup => simp [AV.isOwn] at ho
  | nil k G hG => exact .nil k G hG
  | sl k es cap b T c F G hb hl hcap hsz hk h1 _ hF h0 hd ih =>
    cases hx with
    | sl _ _ h => exact .sl k es cap b T c F G hb hl hcap hsz hk h1 (fun i j e a he ha => ih i j e a he ha (h i j e a he ha)) hF h0 hd
  | agg cs vs F G hn _ hF hd ih =>
    cases hx with
    | agg _ h => exact .agg cs vs F G hn (fun i a ha => ih i a ha (h i a ha)) hF hd
  | tup cs vs F G hn _ hF hd ih =>
    cases hx with
    | tup _ h => exact .tup cs vs F G hn (fun i a ha => ih i a ha (h i a ha)) hF hd

def tupV (vs : List Value) : Value := match vs with
  | [v] => v
  | vs => .tuple vs.toArray
theorem enters_go {f : FuncId} {fn : Func} {c : Code} (hf : P.funcs[f]? = some fn) (hname : (fn.name == "runtime.NumGoroutine") = false) (hb : fn.body = some c) (args : Array Value) (w : World) :
    (callFunc f args).run P w = .ok (.enter f args) w := by
  have h1 : fn.name ≠ "runtime.NumGoroutine" := by simpa using hname
  simp [callFunc, hf, h1, hb]
theorem results_eq (fn : Func) (tmps : Array Value) : results fn tmps = (fn.results.toList.mapM (resVar tmps)) >>= fun vs => pure (tupV vs) := by
  unfold results
  rw [Array.mapM_eq_mapM_toList]
  simp only [bind_map_left]
  have e : (fun r : ResultVar => (match r with
    | .tmp t => pure (tmps.getD t undef)
    | .cell a t => do loadVar t (← asAddr (tmps.getD a undef)) : Sem Value)) = resVar tmps := by
    funext r; cases r <;> rfl
  show (fn.results.toList.mapM _ >>= _) = _
  refine congrArg (fn.results.toList.mapM (resVar tmps) >>= ·) ?_
  funext vs
  match vs with
  | [] => rfl
  | [v] => rfl
  | v :: u :: l => simp [tupV]

theorem atup_rel {vs : List Value} {l : List AV} {G : Nat → Nat → Prop} (hl : l.length = vs.length) (hc : ∀ (i : Nat) x, l[i]? = some x → XRel w A x (vs.getD i undef) (G i)) (hd : ∀ i j y, i < vs.length → j < vs.length → G i y → G j y → i = j) :
    XRel w A (atup l) (tupV vs) fun y => ∃ i, i < vs.length ∧ G i y := by
  have gen : XRel w A (.tup l) (.tuple vs.toArray) fun y => ∃ i, i < vs.length ∧ G i y :=
    .tup l vs.toArray _ G (by simp [hl]) (fun i x hx => by rw [← toList_getD]; simpa using hc i x hx) (fun y => by rw [hl]) (fun i j y hi hj => hd i j y (by rwa [← hl]) (by rwa [← hl]))
  match l, vs, hl with
  | [], [], _ => exact gen
  | [x], [v], _ => exact (hc 0 x rfl).congr fun y => ⟨fun ⟨i, hi, h⟩ => by simp at hi; subst hi; exact h, fun h => ⟨0, by simp, h⟩⟩
  | x :: y :: l, v :: u :: vs, _ => exact gen

theorem AC_of_ax (hL : L.ty = layOf P) (hm : P.follows .mixedOrders = true) {f : FuncId} {fn : Func} {c : Code} (hf : P.funcs[f]? = some fn) (hname : (fn.name == "runtime.NumGoroutine") = false) (hb : fn.body = some c)
    {α : Type} {args : List AV} {R : α → AV} {x : α} (hn : NoB (R x)) (h : afun (stdE P) L fn args fun r => r = R x) : AC P f args R x := by
  refine ⟨fun xs w => enters_go hf hname hb xs w, fun w vs ⟨hsz, hr⟩ => calls_of_wp hf hb ?_⟩
  unfold afun at h
  rw [hb] at h
  simp only at h
  refine ax_sound hL hm c _ _ _ w (fun b => b < w.heap.size) (fun _ => undef) (fun _ _ => False) _ (fun e s' a' w' A' hd' F' hK hw hfr => ?_) ⟨⟨Below.refl _ _, fun _ => rfl⟩, fun x hx => ⟨hx, fun _ h => h⟩, fun _ _ h => h.elim, fun _ _ _ h => h.elim, fun id k es ho => by simp at ho, fun id cs ho => by simp at ho⟩ ⟨rfl, by simp [hsz], fun t x hx => ?_⟩ h
  · have fin : aret (stdE P) L fn.results.toList s' (fun vs => atup vs = R x) → a'.defers = [] ∧ ∃ v, (results fn a'.tmps).run P w' = .ok v w' ∧ ∃ u F, Ending.returned v = .returned u ∧ Keeps (fun _ => False) w w' ∧ XRel w' (fun _ => False) (R x) u F ∧ ∀ b, F b → w.heap.size ≤ b ∧ b < w'.heap.size := fun hk => by
      obtain ⟨vs, l, G, h1, h2, h3, h4, h5, h6⟩ := aret_sound hL _ s' F' _ hw hfr hk
      refine ⟨hfr.nodef, _, ?_, _, _, rfl, ⟨hw.below.os, hw.below.tape, hw.below.output, hw.below.size, fun x hx _ => hw.below.block x hx, hw.below.frz⟩, (h1 ▸ atup_rel h3 h4 h6).noB hn, fun b ⟨i, hi, hb⟩ => ?_⟩
      · rw [results_eq, Sem.run_bind, h2]; rfl
      · obtain ⟨id, hid⟩ := h5 i b hi hb
        exact hw.fsz id b hid
    cases e with
    | normal => exact fin hK
    | ret => exact fin hK
    | exit id => exact hK.elim
  · rw [List.getElem?_append] at hx
    split at hx
    · rename_i hlt
      have := hr t x hx
      refine .pure _ _ ?_
      have e : (vs ++ Array.replicate (fn.ntmps - vs.size) undef).getD t undef = vs.getD t undef := by
        have h1 : t < vs.size := by omega
        rw [← toList_getD, ← toList_getD, List.getD_eq_getElem?_getD, List.getD_eq_getElem?_getD, Array.toList_append, List.getElem?_append_left (by simpa using h1)]
      rw [e]; exact this
    · rename_i hlt
      rw [List.getElem?_replicate] at hx
      split at hx
      · cases hx
        refine .pure _ _ ?_
        have e : (vs ++ Array.replicate (fn.ntmps - vs.size) undef).getD t undef = undef := by
          have h1 : ¬ t < vs.size := by omega
          simp [Array.getD, Array.getElem_append, h1]
        rw [e]; exact .und
      · cases hx
end
end Go.Proofs.Ytdmckfdecbhalaa
