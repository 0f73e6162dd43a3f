/- Soundness of stores, of built values and of appends. -/
import Derived.Test.YtjenekakcoggpaaAxOps
namespace Go.Proofs.Ytjenekakcoggpaa
set_option linter.unusedVariables false
set_option linter.unusedSimpArgs false
open Go Go.RowKit

section
variable {P : Program} {np : Nat} {L : Lay} {W : WM} {w w' : World} {A : Nat → Prop} {os os' : List Obj} {hd hd' : Nat → Value} {F F' : Nat → Nat → Prop} {s : AS} {a : Act}

theorem wp_skip' {o : Oper} {next : Act → World → Prop} {Q : Exit → Act → World → Prop} (h : (execOp a.eval o).run P w = .ok .skip w') (hn : next (a.put o.dst undef) w') : o.wp P a w next Q := by
  unfold Oper.wp
  rw [h]
  exact hn

theorem run_store_op {t : TypeId} {x y : Operand} {Ad : Addr} {dst : Option Tmp} {ty : TypeId} {pos : String} {af : Array Edge} {g : Option (Nat × Bool)}
    (hp : a.eval x = .pointer (some Ad)) (h : (storeVar t Ad (a.eval y)).run P w = .ok () w') : (execOp a.eval ⟨dst, .store t x y, ty, pos, af, g⟩).run P w = .ok .skip w' := by
  simp only [execOp, hp, Instr.storeAt, Instr.sureAddr]
  rw [Sem.run_bind]
  have h1 : (do storeVar t (← (pure Ad : Sem Addr)) (a.eval y) : Sem Unit).run P w = .ok () w' := h
  rw [h1]
  rfl

theorem step_store_box (hL : L.ty = layOf P) (hw : CW W w A s.os hd F) (hf : FR w A s.os hd s.fr a) {dst ty pos af g} {t : TypeId} {x y : Operand} {K : AV → AS → Prop} {id off : Nat} {cs new : List AV}
    (hx : s.get x = .pb id off) (ho : s.os[id]? = some (.box cs)) (hcl : s.cl (s.get y) = some new) (hd0 : (L.ty t).d ≠ .other) (hl : off + new.length ≤ cs.length) (hn : new.length = (L.ty t).n)
    (hk : K .und ⟨s.fr, s.os.set id (.box (splice cs off new))⟩) : StepOK P W w s a ⟨dst, .store t x y, ty, pos, af, g⟩ K := by
  intro next Q hnx
  have h1 := hf.get x
  rw [hx] at h1
  obtain ⟨b, T, c, e1, e2, e3, e4, hp, hc⟩ := box_pt hw ho
  obtain ⟨b', e5, e6⟩ := h1.pb_inv ho
  rw [e1] at e5
  cases e5
  obtain ⟨h2, h3, h4⟩ := cl_spec hw hcl (hf.get y)
  have hr := run_storeVar (P := P) (w := w) hL hd0 (off := off) e2 (by rw [h2]; exact hn) (by rw [h2, e3]; exact hl) h4
  have hl' : off + (a.eval y).cells.toList.length ≤ c.size := by rw [e3, Array.length_toList, h2]; exact hl
  obtain ⟨hw', hm⟩ := hw.setAt (o' := .box (splice cs off new)) ho (setRow_keeps (c' := spliceV c off (a.eval y).cells.toList) (F id) e4) (fun k es' e => by cases e) (fun cs' e => ⟨cs, rfl⟩) (fun k es e => by cases e) (fun hm cs' e => by
    cases e
    refine ⟨b, T, _, e1, setRow_heap w b c _ T _ e2, by rw [spliceV_size hl', splice_len hl, e3], fun i z hz => ?_, e4⟩
    rw [splice_get hl] at hz
    rw [spliceV_getD hl', Array.length_toList, h2]
    split
    · rename_i h5
      rw [if_pos h5] at hz
      exact hm _ _ (hc i z hz)
    · rename_i h5
      rw [if_neg h5] at hz
      split
      · rename_i h6
        rw [if_pos h6] at hz
        rw [toList_getD]
        exact hm _ _ (h3 (i - off) z hz)
      · rename_i h6
        rw [if_neg h6] at hz
        exact hm _ _ (hc i z hz))
  exact wp_skip' (run_store_op e6 hr) (hnx _ _ _ _ A hd F hk rfl hw' (hf.os_mono hm) (.pure _ _ .und))

/-- An object is given up: what it owned is free. -/
theorem CW.kill (h : CW W w A os hd F) (id : Nat) : CW W w A (os.set id .dead) hd (updN F id fun _ => False) ∧ ∀ y u, SRel w A os hd y u → SRel w A (os.set id .dead) hd y u := by
  have hm : ∀ y u, SRel w A os hd y u → SRel w A (os.set id .dead) hd y u := fun y u hy => by
    refine hy.os_mono (by simp) (fun i k es' hi h' => ?_) (fun i cs' hi h' => ?_)
    · rw [List.getElem?_set] at h'
      split at h'
      · split at h' <;> simp at h'
      · exact ⟨es', h', rfl, rfl⟩
    · rw [List.getElem?_set] at h'
      split at h'
      · split at h' <;> simp at h'
      · exact ⟨cs', h', rfl⟩
  have hsub : ∀ i x, updN F id (fun _ => False) i x → F i x ∧ i ≠ id := fun i x hx => by
    unfold updN at hx
    split at hx
    · exact hx.elim
    · exact ⟨hx, by assumption⟩
  refine ⟨⟨h.below, fun x hx => ⟨(h.hA x hx).1, fun i hi => (h.hA x hx).2 i (hsub i x hi).1⟩, fun i x hx => h.fsz i x (hsub i x hx).1, fun i j x hi hj => h.disj i j x (hsub i x hi).1 (hsub j x hj).1, fun i k es h' => ?_, fun i cs h' => ?_, fun p hp => ⟨by simpa using (h.pin p hp).1, (h.pin p hp).2⟩, h.old⟩, hm⟩
  · rw [List.getElem?_set] at h'
    split at h'
    · split at h' <;> simp at h'
    · rename_i e
      rw [updN_ne _ _ _ (Ne.symm e)]
      exact h.rows i k es h'
  · rw [List.getElem?_set] at h'
    split at h'
    · split at h' <;> simp at h'
    · rename_i e
      rw [updN_ne _ _ _ (Ne.symm e)]
      obtain ⟨b, T, c, e1, e2, e3, e4, e5⟩ := h.boxes i cs h'
      exact ⟨b, T, c, e1, e2, e3, fun j x hx => hm _ _ (e4 j x hx), e5⟩

/-- What has come of a value that goes into an own row: 'G' is its memory, taken out of the objects. -/
def Leave (W : WM) (w : World) (A : Nat → Prop) (s : AS) (hd : Nat → Value) (F : Nat → Nat → Prop) (K : AS → (Nat → Nat → Prop) → Prop) : Prop :=
  ∃ s' F', s'.fr = s.fr ∧ s'.os.length = s.os.length ∧ CW W w A s'.os hd F' ∧ (∀ y u, SRel w A s.os hd y u → SRel w A s'.os hd y u) ∧ (∀ id y, F' id y → F id y) ∧ K s' F'

theorem own1_sound (hw : CW W w A s.os hd F) {x v} {K : AV → AS → Prop} (hx : SRel w A s.os hd x v) (hk : s.own1 x K) :
    Leave W w A s hd F fun s' F' => ∃ x' G, K x' s' ∧ XRel w A x' v G ∧ (∀ y, G y → (∃ id, F id y) ∧ ∀ id, ¬ F' id y) ∧ v.oneCell' = true := by
  have flat : ∀ x', Rel w A x' v → x'.isOwn = false → v.oneCell' = true → K x' s → Leave W w A s hd F fun s' F' => ∃ x' G, K x' s' ∧ XRel w A x' v G ∧ (∀ y, G y → (∃ id, F id y) ∧ ∀ id, ¬ F' id y) ∧ v.oneCell' = true :=
    fun x' h1 h2 h3 h4 => ⟨s, F, rfl, rfl, hw, fun _ _ h => h, fun _ _ h => h, x', fun _ => False, h4, .pure _ _ _ h1 h2 (fun _ h => h), fun y h => h.elim, h3⟩
  unfold AS.own1 at hk
  split at hk
  · cases hx.int_inv; exact flat _ (.int _ _) rfl rfl hk
  · cases hx.bool_inv; exact flat _ (.bool _) rfl rfl hk
  · obtain ⟨rfl, h⟩ := hx.str_inv; exact flat _ (.str _ h) rfl rfl hk
  · cases hx.nils_inv
    exact ⟨s, F, rfl, rfl, hw, fun _ _ h => h, fun _ _ h => h, _, fun _ => False, hk, .nil _ _ (fun _ h => h), fun y h => h.elim, rfl⟩
  · cases hx with | pure _ _ h => cases h; exact flat _ .nilp rfl rfl hk
  · obtain ⟨p, cap, rfl, _⟩ := hx.sl_inv.sl_len
    refine flat _ ?_ rfl rfl hk
    have := hx.sl_inv
    cases this with
    | sl _ _ _ _ _ b off val hl hcap hp hk' hc h1c hr => exact .sl _ _ _ _ _ b off val hl hcap hp hk' hc h1c hr
  · split at hk
    · rename_i id _ k es ho
      obtain ⟨hw', hm⟩ := hw.kill id
      refine ⟨⟨s.fr, s.os.set id .dead⟩, _, rfl, by simp, hw', hm, fun i y h => ?_, _, F id, hk, by rw [hx.ob_inv ho]; exact hw.rows id k es ho, fun y hy => ⟨⟨id, hy⟩, fun i h => ?_⟩, ?_⟩
      · unfold updN at h
        split at h
        · exact h.elim
        · exact h
      · unfold updN at h
        split at h
        · exact h
        · rename_i hne
          exact hne (hw.disj _ _ _ h hy)
      · rw [hx.ob_inv ho]
        obtain ⟨p, n, c, e⟩ := hw.row_hd id k es ho
        rw [e]; rfl
    · exact hk.elim
  · exact hk.elim

theorem ownL_sound : ∀ (l : List AV) (vs : List Value) (s : AS) (F : Nat → Nat → Prop) (K : List AV → AS → Prop), CW W w A s.os hd F → vs.length = l.length →
    (∀ (i : Nat) x, l[i]? = some x → SRel w A s.os hd x (vs.getD i undef)) → s.ownL l K →
    Leave W w A s hd F fun s' F' => ∃ (l' : List AV) (G : Nat → Nat → Prop), K l' s' ∧ l'.length = vs.length ∧ (∀ (i : Nat) x, l'[i]? = some x → XRel w A x (vs.getD i undef) (G i)) ∧
      (∀ i y, i < vs.length → G i y → (∃ id, F id y) ∧ ∀ id, ¬ F' id y) ∧ (∀ i j y, i < vs.length → j < vs.length → G i y → G j y → i = j) ∧ ∀ u ∈ vs, u.oneCell' = true
  | [], [], s, F, K, hw, _, _, hk => ⟨s, F, rfl, rfl, hw, fun _ _ h => h, fun _ _ h => h, [], fun _ _ => False, hk, rfl, fun i x hx => by simp at hx, fun i y hi => by simp at hi, fun i j y hi => by simp at hi, fun u hu => by simp at hu⟩
  | [], _ :: _, _, _, _, _, hn, _, _ => by simp at hn
  | _ :: _, [], _, _, _, _, hn, _, _ => by simp at hn
  | x :: l, v :: vs, s, F, K, hw, hn, hc, hk => by
    unfold AS.ownL at hk
    obtain ⟨s1, F1, e1, l1, hw1, hm1, hF1, x', G0, hk1, hx', hG0, h1⟩ := own1_sound hw (by simpa using hc 0 x (by simp)) hk
    obtain ⟨s2, F2, e2, l2, hw2, hm2, hF2, l', G, hk2, hl2, hc2, hG, hdj, h2⟩ := ownL_sound l vs s1 F1 _ hw1 (by simpa using hn) (fun i y hy => hm1 _ _ (by simpa using hc (i + 1) y (by simpa using hy))) hk1
    refine ⟨s2, F2, e2.trans e1, l2.trans l1, hw2, fun y u h => hm2 y u (hm1 y u h), fun id y h => hF1 id y (hF2 id y h), x' :: l', fun i => match i with | 0 => G0 | i + 1 => G i, hk2, by simp [hl2], fun i y hy => ?_, fun i y hi hy => ?_, fun i j y hi hj h3 h4 => ?_, fun u hu => ?_⟩
    · cases i with
      | zero => simp at hy; subst hy; simpa using hx'
      | succ i => simp at hy; simpa using hc2 i y hy
    · cases i with
      | zero => exact ⟨(hG0 y hy).1, fun id h => (hG0 y hy).2 id (hF2 id y h)⟩
      | succ i =>
        obtain ⟨⟨id, h5⟩, h6⟩ := hG i y (by simpa using hi) hy
        exact ⟨⟨id, hF1 id y h5⟩, h6⟩
    · cases i with
      | zero =>
        cases j with
        | zero => rfl
        | succ j =>
          obtain ⟨⟨id, h5⟩, _⟩ := hG j y (by simpa using hj) h4
          exact ((hG0 y h3).2 id h5).elim
      | succ i =>
        cases j with
        | zero =>
          obtain ⟨⟨id, h5⟩, _⟩ := hG i y (by simpa using hi) h3
          exact ((hG0 y h4).2 id h5).elim
        | succ j => rw [hdj i j y (by simpa using hi) (by simpa using hj) h3 h4]
    · rcases List.mem_cons.1 hu with rfl | hu
      · exact h1
      · exact h2 u hu

theorem foldl_set (off : Nat) : ∀ (l : List Value) (j : Nat) (c : Array Value), off + j + l.length ≤ c.size →
    ((l.zipIdx j).foldl (fun cs (x : Value × Nat) => cs.setIfInBounds (off + x.2) x.1) c).size = c.size ∧
    ∀ i, ((l.zipIdx j).foldl (fun cs (x : Value × Nat) => cs.setIfInBounds (off + x.2) x.1) c).getD i undef = if off + j ≤ i ∧ i < off + j + l.length then l.getD (i - (off + j)) undef else c.getD i undef
  | [], j, c, _ => by simp; omega
  | v :: l, j, c, h => by
    simp only [List.length_cons] at h
    obtain ⟨h1, h2⟩ := foldl_set off l (j + 1) (c.setIfInBounds (off + j) v) (by simp; omega)
    simp only [List.zipIdx_cons, List.foldl_cons]
    refine ⟨by rw [h1]; simp, fun i => ?_⟩
    rw [h2]
    have hs : (c.setIfInBounds (off + j) v).getD i undef = if i = off + j then v else c.getD i undef := by
      rw [Array.getD_eq_getD_getElem?, Array.getElem?_setIfInBounds]
      have : off + j < c.size := by omega
      split
      · rename_i e; subst e; simp
      · rename_i e; rw [if_neg (Ne.symm e), ← Array.getD_eq_getD_getElem?]
    rw [hs]
    by_cases e : i = off + j
    · subst e
      rw [if_neg (by omega), if_pos rfl, if_pos ⟨by omega, by simp only [List.length_cons]; omega⟩]
      simp
    · by_cases e2 : off + j ≤ i ∧ i < off + j + (l.length + 1)
      · rw [if_pos (by omega), if_pos (by simpa using e2)]
        obtain ⟨m, hm⟩ : ∃ m, i - (off + j) = m + 1 := ⟨i - (off + j) - 1, by omega⟩
        rw [hm, show i - (off + (j + 1)) = m from by omega]
        simp
      · rw [if_neg (by omega), if_neg e, if_neg (by simpa using e2)]

theorem fill_sound (hw : CW W w A s.os hd F) (place : Nat → Option (Nat × Nat)) : ∀ (parts : List (Nat × Operand)) (cells : List AV) (c : Array Value) (cs : List AV), (∀ p ∈ parts, SRel w A s.os hd (s.get p.2) (a.eval p.2)) →
    c.size = cells.length → (∀ (i : Nat) x, cells[i]? = some x → SRel w A s.os hd x (c.getD i undef)) → s.fill place cells parts = some cs →
    ∃ c', Instr.fill place c (parts.map fun p => (p.1, a.eval p.2)) = some c' ∧ c'.size = cs.length ∧ ∀ (i : Nat) x, cs[i]? = some x → SRel w A s.os hd x (c'.getD i undef)
  | [], cells, c, cs, _, hn, hc, hk => by
    unfold AS.fill at hk
    cases hk
    exact ⟨c, rfl, hn, hc⟩
  | (i, x) :: rest, cells, c, cs, hx, hn, hc, hk => by
    unfold AS.fill at hk
    split at hk
    · rename_i off size new hp hcl
      split at hk
      · rename_i hsz
        obtain ⟨h1, h2, _⟩ := cl_spec hw hcl (hx (i, x) (by simp))
        obtain ⟨h3, h4⟩ := foldl_set off (a.eval x).cells.toList 0 c (by rw [Array.length_toList, h1, hn]; simpa using hsz.2)
        obtain ⟨c', e1, e2, e3⟩ := fill_sound hw place rest (splice cells off new) ((a.eval x).cells.toList.zipIdx.foldl (fun cs (x : Value × Nat) => cs.setIfInBounds (off + x.2) x.1) c) cs (fun p hp => hx p (by simp [hp])) (by rw [h3, hn, splice_len hsz.2]) (fun j y hy => by
          rw [h4]
          rw [splice_get hsz.2] at hy
          simp only [Nat.add_zero, Array.length_toList, h1]
          split at hy
          · rw [if_neg (by omega)]; exact hc j y hy
          · split at hy
            · rw [if_pos (by omega), toList_getD]; exact h2 _ y hy
            · rw [if_neg (by omega)]; exact hc j y hy) hk
        refine ⟨c', ?_, e2, e3⟩
        simp only [List.map_cons, Instr.fill, hp]
        rw [if_neg (by simp [h1, hsz.1, hn]; omega)]
        rw [← e1]
        congr 1
        rw [← Array.foldl_toList, Array.toList_zipIdx]
      · cases hk
    · cases hk

/-- The world changes in memory that is nobody's. -/
theorem CW.keepG (h : CW W w A os hd F) {G : Nat → Prop} (hk : Keeps G w w') (hG : ∀ x, G x → W.new x ∧ ¬ A x ∧ ∀ id, ¬ F id x) : CW W w' A os hd F ∧ ∀ y u, SRel w A os hd y u → SRel w' A os hd y u := by
  have hA : ∀ y, A y → y < w.heap.size ∧ ¬ G y := fun y hy => ⟨(h.hA y hy).1, fun hg => (hG y hg).2.1 hy⟩
  have hF : ∀ i y, F i y → y < w.heap.size ∧ ¬ G y := fun i y hy => ⟨(h.fsz i y hy).2, fun hg => (hG y hg).2.2 i hy⟩
  have hm : ∀ y u, SRel w A os hd y u → SRel w' A os hd y u := fun y u hy => hy.keepG hA hk
  refine ⟨⟨?_, fun x hx => ⟨Nat.lt_of_lt_of_le (hA x hx).1 hk.size, (h.hA x hx).2⟩, fun i x hx => ⟨(h.fsz i x hx).1, Nat.lt_of_lt_of_le (h.fsz i x hx).2 hk.size⟩, h.disj, fun i k es h' => ?_, fun i cs h' => ?_, h.pin, h.old⟩, hm⟩
  · exact h.below.keep hk (fun x h' => (hG x h').1)
  · exact (h.rows i k es h').mono (fun _ h => h) (fun x hx => hx.elim (fun hx => hk.block x (hA x hx).1 (hA x hx).2) (fun hx => hk.block x (hF i x hx).1 (hF i x hx).2))
  · obtain ⟨b, T, c, e1, e2, e3, e4, e5⟩ := h.boxes i cs h'
    exact ⟨b, T, c, e1, by rw [hk.block b (hF i b e5).1 (hF i b e5).2]; exact e2, e3, fun j x hx => hm _ _ (e4 j x hx), e5⟩

/-- A new row in a block of its own. -/
theorem push_new (hw : CW W w A os hd F) {w' : World} (hk : Keeps (fun _ => False) w w') {b : Nat} {c : Array Value} {T : TypeId} (hb : w'.heap[b]? = some (.cells c T (0, 0))) (hb0 : w.heap.size ≤ b)
    {k cap : Nat} {es : List (List AV)} {G : Nat → Nat → Nat → Prop} (hl : es.length ≤ maxLen) (hcap : es.length ≤ cap) (hsz : cap * k ≤ c.size) (hke : ∀ e ∈ es, e.length = k)
    (h1 : ∀ i j, i < es.length → j < k → (c.getD (i * k + j) undef).oneCell' = true)
    (hr : ∀ (i j : Nat) e x, es[i]? = some e → e[j]? = some x → XRel w A x (c.getD (i * k + j) undef) (G i j))
    (hG : ∀ i j y, i < es.length → j < k → G i j y → W.new y ∧ y < w.heap.size ∧ ¬ A y ∧ ∀ id, ¬ F id y)
    (hdj : ∀ i j i' j' x, i < es.length → j < k → i' < es.length → j' < k → G i j x → G i' j' x → i = i' ∧ j = j') :
    CW W w' A (os ++ [.row k es]) (updN hd os.length (.slice (some ⟨b, 0, none⟩) es.length cap)) (updN F os.length fun x => x = b ∨ ∃ i j, i < es.length ∧ j < k ∧ G i j x) ∧
    ∀ y u, SRel w A os hd y u → SRel w' A (os ++ [.row k es]) (updN hd os.length (.slice (some ⟨b, 0, none⟩) es.length cap)) y u := by
  have hA : ∀ y, A y → y < w.heap.size := fun y hy => (hw.hA y hy).1
  have hb1 : b < w'.heap.size := (Array.getElem?_eq_some_iff.1 hb).1
  refine ⟨(hw.keep hk).push _ _ _ (fun x hx => ?_) (fun k' es' e => ?_) (fun cs e => by cases e), fun y u hy => (hy.keep hA hk).push _ _⟩
  · rcases hx with rfl | ⟨i, j, hi, hj, hx⟩
    · exact ⟨hw.below.new hb0, hb1, fun h => by have := hA _ h; omega, fun id h => by have := (hw.fsz id _ h).2; omega⟩
    · obtain ⟨g1, g2, g3, g4⟩ := hG i j x hi hj hx
      exact ⟨g1, Nat.lt_of_lt_of_le g2 hk.size, g3, g4⟩
  · cases e
    refine .sl k es cap b T c _ G hb hl hcap hsz hke h1 (fun i j e x he hx => ?_) (fun _ => Iff.rfl) (fun i j hi hj h => ?_) hdj
    · have hi := (List.getElem?_eq_some_iff.1 he).1
      have hj := (List.getElem?_eq_some_iff.1 hx).1
      rw [hke e (List.mem_of_getElem? he)] at hj
      exact (hr i j e x he hx).mono (fun _ h => h) (fun y hy => hk.block y (hy.elim (fun h => hA y h) (fun h => (hG i j y hi hj h).2.1)) (fun h => h))
    · have := (hG i j b hi hj h).2.1
      omega

theorem rowsOf_length (k : Nat) : ∀ (n : Nat) (cs : List AV), (rowsOf k n cs).length = n
  | 0, _ => rfl
  | n + 1, cs => by simp [rowsOf, rowsOf_length k n]
theorem rowsOf_get (k : Nat) : ∀ (n : Nat) (cs : List AV) (i : Nat) e, (rowsOf k n cs)[i]? = some e → e = (cs.drop (i * k)).take k
  | 0, cs, i, e, h => by simp [rowsOf] at h
  | n + 1, cs, i, e, h => by
    cases i with
    | zero => simp [rowsOf] at h; simp [h]
    | succ i =>
      simp only [rowsOf, List.getElem?_cons_succ] at h
      rw [rowsOf_get k n _ i e h, List.drop_drop, Nat.add_mul]
      congr 2
      omega
theorem zeros_length (z : List AV) : ∀ n, (zeros z n).length = n * z.length
  | 0 => by simp [zeros]
  | n + 1 => by simp [zeros, zeros_length z n, Nat.add_mul]; omega
theorem zeros_get (z : List AV) (hz : 0 < z.length) : ∀ n i, i < n * z.length → (zeros z n)[i]? = z[i % z.length]?
  | 0, i, h => by simp at h
  | n + 1, i, h => by
    unfold zeros
    rw [List.getElem?_append]
    split
    · rename_i hi; rw [Nat.mod_eq_of_lt hi]
    · rename_i hi
      rw [zeros_get z hz n _ (by rw [Nat.add_mul] at h; omega)]
      congr 1
      rw [Nat.mod_eq_sub_mod (by omega : i ≥ z.length)]

theorem madeZero (z : Array Value) (n i : Nat) (hi : i < n) : ((Array.range n).map fun j => z[j % z.size]!).getD i undef = z[i % z.size]! := by
  rw [Array.getD_eq_getD_getElem?]
  simp [hi]
theorem getElem!_getD (z : Array Value) (i : Nat) (h : i < z.size) : z[i]! = z.getD i undef := by
  simp [Array.getD, h]

theorem known_get {fs : List (Nat × TypeId)} (h : known L fs = true) {i : Nat} {f : Nat × TypeId} (hf : fs[i]? = some f) : (L.ty f.2).d ≠ .other := by
  induction fs generalizing i with
  | nil => simp at hf
  | cons g fs ih =>
    unfold known at h
    split at h
    · cases h
    · cases i with
      | zero => simp at hf; subst hf; assumption
      | succ i => simp at hf; exact ih h hf

theorem built_struct (hL : L.ty = layOf P) (hw : CW W w A s.os hd F) {dst ty pos af g} {t : TypeId} {parts : Array (Nat × Operand)} {fs : List (Nat × TypeId)} {cs : List AV}
    (hd0 : (L.ty t).d = .struct fs) (hz : (L.ty t).zero ≠ []) (hkn : known L fs = true) (hcs : s.fill (fun i => (fs[i]?).map fun f => (f.1, (L.ty f.2).n)) ((L.ty t).zero.map Z.av) parts.toList = some cs) (hx : ∀ p ∈ parts.toList, SRel w A s.os hd (s.get p.2) (a.eval p.2)) :
    ∃ v, (execOp a.eval ⟨dst, .build t parts, ty, pos, af, g⟩).run P w = .ok (.value v) w ∧ SRel w A s.os hd (.agg cs) v := by
  obtain ⟨gs, hu, hfs⟩ := lay_struct hL hd0
  obtain ⟨i, z, h1, h2, h3, _, _⟩ := lay_zero hL hz
  have hpl : gs.toList.mapM (fun f => (P.info? f.type).map fun i => (f.offset, i.size)) = some (gs.toList.map fun f => (f.offset, (L.ty f.type).n)) := by
    have : ∀ l : List Field, (∀ f ∈ l, (L.ty f.type).d ≠ .other) → l.mapM (fun f => (P.info? f.type).map fun i => (f.offset, i.size)) = some (l.map fun f => (f.offset, (L.ty f.type).n)) := by
      intro l
      induction l with
      | nil => intro _; rfl
      | cons f l ih =>
        intro h
        obtain ⟨i, e1, e2, _⟩ := lay_info hL (h f (by simp))
        simp [List.mapM_cons, e1, e2, ih (fun f hf => h f (by simp [hf]))]
    refine this _ (fun f hf => ?_)
    obtain ⟨j, hj⟩ := List.getElem?_of_mem hf
    exact known_get hkn (i := j) (f := (f.offset, f.type)) (by rw [hfs, List.getElem?_map, hj]; rfl)
  have hplace : (fun i : Nat => (gs.toList.map fun f => (f.offset, (L.ty f.type).n)).toArray[i]?) = fun i => (fs[i]?).map fun f => (f.1, (L.ty f.2).n) := by
    funext i
    rw [hfs]
    simp only [List.getElem?_toArray, List.getElem?_map]
    cases gs.toList[i]? <;> rfl
  obtain ⟨c', e1, e2, e3⟩ := fill_sound hw _ parts.toList _ z.cells cs hx (by rw [h3]; simp) (fun i x hx => by rw [h3] at hx; exact zero_rel hx) hcs
  refine ⟨.agg c', ?_, .agg _ _ e2 e3⟩
  have hr : (Instr.build t (parts.map fun (i, x) => (i, a.eval x))).run P w = .ok (.agg c') w := by
    rw [← hplace] at e1
    simp only [List.getElem?_toArray, List.getElem?_map, Array.getElem?_toList] at e1
    simp only [Instr.build, Sem.run_bind, zeroValue, typeInfo]
    simp [run_underlying hu, h1, h2, Array.mapM_eq_mapM_toList, run_places w _ _ hpl, e1]
  simp only [execOp]
  rw [Sem.run_bind, hr]
  rfl

theorem step_build_struct (hL : L.ty = layOf P) (hw : CW W w A s.os hd F) (hf : FR w A s.os hd s.fr a) {dst ty pos af g} {t : TypeId} {parts : Array (Nat × Operand)} {K : AV → AS → Prop} {fs : List (Nat × TypeId)} {cs : List AV}
    (hd0 : (L.ty t).d = .struct fs) (hz : (L.ty t).zero ≠ []) (hkn : known L fs = true) (hcs : s.fill (fun i => (fs[i]?).map fun f => (f.1, (L.ty f.2).n)) ((L.ty t).zero.map Z.av) parts.toList = some cs) (hk : K (.agg cs) s) :
    StepOK P W w s a ⟨dst, .build t parts, ty, pos, af, g⟩ K := by
  intro next Q hn
  obtain ⟨v, h1, h2⟩ := built_struct (dst := dst) (ty := ty) (pos := pos) (af := af) (g := g) hL hw hd0 hz hkn hcs (fun p _ => hf.get p.2)
  exact wp_value h1 (hn _ _ _ _ A hd F hk rfl hw hf h2)

theorem built_slice (hL : L.ty = layOf P) (hw : CW W w A s.os hd F) {dst ty pos af g} {t e : TypeId} {len : Nat} {parts : Array (Nat × Operand)} {cs : List AV}
    (hd0 : (L.ty t).d = .slice e) (hd1 : (L.ty e).d ≠ .other) (hz : (L.ty e).zero ≠ []) (hzn : (L.ty e).zero.length = (L.ty e).n) (hsz : len * (L.ty e).n ≤ 16777216)
    (hcs : s.fill (fun i => some (i * (L.ty e).n, (L.ty e).n)) (zeros ((L.ty e).zero.map Z.av) len) parts.toList = some cs)
    (hx : ∀ p ∈ parts.toList, SRel w A s.os hd (s.get p.2) (a.eval p.2)) :
    ∃ c : Array Value, c.size = cs.length ∧ cs.length = len * (L.ty e).n ∧ (∀ (i : Nat) x, cs[i]? = some x → SRel w A s.os hd x (c.getD i undef)) ∧ 0 < (L.ty e).n ∧
      (execOp a.eval ⟨dst, .buildSlice t len parts, ty, pos, af, g⟩).run P w = .ok (.value (.slice (some ⟨w.heap.size, 0, none⟩) len len)) (w.alloc (.cells c e)) := by
  obtain ⟨i, z, h1, h2, h3, h4, _⟩ := lay_zero hL hz
  generalize hkn : (L.ty e).n = n at *
  have hzs : z.cells.size = n := by rw [h3] at hzn; simpa using hzn
  have hn0 : 0 < n := by
    rw [← hzn]
    exact List.length_pos_iff.2 hz
  have hlenZ : (zeros ((L.ty e).zero.map Z.av) len).length = len * n := by rw [zeros_length, List.length_map, hzn]
  obtain ⟨c, e1, e2, e3⟩ := fill_sound hw _ parts.toList _ ((Array.range (len * n)).map fun j => z.cells[j % z.cells.size]!) cs hx (by simp [hlenZ]) (fun j x hx => by
    have hj := (List.getElem?_eq_some_iff.1 hx).1
    rw [hlenZ] at hj
    rw [madeZero _ _ _ hj, getElem!_getD _ _ (Nat.mod_lt _ (by omega))]
    rw [zeros_get _ (by rw [List.length_map]; omega) _ _ (by rw [List.length_map, hzn]; exact hj), List.length_map, hzn] at hx
    rw [h3] at hx
    rw [hzs]
    exact zero_rel hx) hcs
  have hcsl : cs.length = len * n := by
    have : ∀ (parts : List (Nat × Operand)) (cells cs : List AV), s.fill (fun i => some (i * n, n)) cells parts = some cs → cs.length = cells.length := by
      intro parts
      induction parts with
      | nil => intro cells cs h; unfold AS.fill at h; cases h; rfl
      | cons p rest ih =>
        intro cells cs h
        obtain ⟨i, x⟩ := p
        unfold AS.fill at h
        split at h
        · split at h
          · rename_i hh
            rw [ih _ _ h, splice_len hh.2]
          · cases h
        · cases h
    rw [this _ _ _ hcs, hlenZ]
  refine ⟨c, e2, hcsl, e3, hn0, ?_⟩
  have hr : (Instr.buildSlice t len (parts.map fun (i, x) => (i, a.eval x))).run P w = .ok (.slice (some ⟨w.heap.size, 0, none⟩) len len) (w.alloc (.cells c e)) := by
    have h5 : ¬ (16777216 < len * i.size) := by rw [← h4]; omega
    have e4 : (parts.map fun (x : Nat × Operand) => (x.1, a.eval x.2)).toList = parts.toList.map fun p => (p.1, a.eval p.2) := by simp
    unfold Instr.buildSlice
    rw [Sem.run_bind, run_underlying (lay_slice hL hd0)]
    simp only [Result.andThen_ok]
    rw [Sem.run_bind, run_sizeOf hL hd1, hkn]
    simp only [Result.andThen_ok]
    rw [if_neg (by omega)]
    by_cases h0 : len * n = 0
    · have hr0 : ∀ f : Nat → Value, (Array.range 0).map f = #[] := fun f => by apply Array.ext' ; simp
      rw [h0, hr0] at e1
      simp only [h0, if_true, Sem.run_bind, hr0]
      simp [e1, newRow]
    · simp only [if_neg h0, Sem.run_bind, zeroValue, typeInfo]
      simp [h1, h2, e1, newRow]
  simp only [execOp]
  rw [Sem.run_bind, hr]
  rfl

theorem step_buildSlice (hL : L.ty = layOf P) (hw : CW W w A s.os hd F) (hf : FR w A s.os hd s.fr a) {dst ty pos af g} {t e : TypeId} {len : Nat} {parts : Array (Nat × Operand)} {K : AV → AS → Prop} {cs : List AV}
    (hd0 : (L.ty t).d = .slice e) (hd1 : (L.ty e).d ≠ .other) (hz : (L.ty e).zero ≠ []) (hzn : (L.ty e).zero.length = (L.ty e).n) (hsz : len * (L.ty e).n ≤ 16777216)
    (hcs : s.fill (fun i => some (i * (L.ty e).n, (L.ty e).n)) (zeros ((L.ty e).zero.map Z.av) len) parts.toList = some cs)
    (hk : s.ownL cs fun cs' s' => K (.ob s'.os.length) ⟨s'.fr, s'.os ++ [.row (L.ty e).n (rowsOf (L.ty e).n len cs')]⟩) : StepOK P W w s a ⟨dst, .buildSlice t len parts, ty, pos, af, g⟩ K := by
  intro next Q hn
  obtain ⟨c, e2, hcsl, e3, hn0, hr0⟩ := built_slice (dst := dst) (ty := ty) (pos := pos) (af := af) (g := g) hL hw hd0 hd1 hz hzn hsz hcs (fun p _ => hf.get p.2)
  generalize hkn : (L.ty e).n = n at *
  obtain ⟨s', F', g1, g2, hw', hm', hF', l', G, hk, hl', hcl, hG, hdj, hone⟩ := ownL_sound cs c.toList s F _ hw (by rw [Array.length_toList, e2]) (fun j x hx => by rw [toList_getD]; exact e3 j x hx) hk
  have hl2 : l'.length = len * n := by rw [hl', Array.length_toList, e2, hcsl]
  have hes : (rowsOf n len l').length = len := rowsOf_length _ _ _
  have idx : ∀ i j, i < len → j < n → i * n + j < len * n := fun i j hi hj => by
    have : (i + 1) * n ≤ len * n := Nat.mul_le_mul_right n hi
    rw [Nat.add_mul] at this
    omega
  have hcn : c.toList.length = len * n := by rw [Array.length_toList, e2, hcsl]
  obtain ⟨hw2, hm2⟩ := push_new hw' (Keeps.alloc w c e) (heap_alloc_new w _) (Nat.le_refl _) (k := n) (cap := len) (es := rowsOf n len l') (G := fun i j => G (i * n + j)) (by rw [hes]; have := Nat.le_mul_of_pos_right len hn0; unfold maxLen; omega) (by rw [hes]; exact Nat.le_refl _)
    (by rw [e2, hcsl]; exact Nat.le_refl _) (fun r hr => by
      obtain ⟨i, hi⟩ := List.getElem?_of_mem hr
      have hi' := (List.getElem?_eq_some_iff.1 hi).1
      rw [hes] at hi'
      rw [rowsOf_get _ _ _ _ _ hi, List.length_take, List.length_drop, hl2]
      have := idx i (n - 1) hi' (by omega)
      omega) (fun i j hi hj => by
      rw [hes] at hi
      have h5 := idx i j hi hj
      refine hone _ ?_
      rw [← toList_getD, List.getD_eq_getElem?_getD, List.getElem?_eq_getElem (by omega)]
      exact List.getElem_mem _) (fun i j r x hr hx => by
      rw [rowsOf_get _ _ _ _ _ hr] at hx
      rw [List.getElem?_take] at hx
      split at hx
      · rw [List.getElem?_drop] at hx
        have := hcl (i * n + j) x hx
        rwa [toList_getD] at this
      · cases hx) (fun i j y hi hj hy => by
      rw [hes] at hi
      obtain ⟨⟨id, h6⟩, h7⟩ := hG (i * n + j) y (by rw [hcn]; exact idx i j hi hj) hy
      have h8 := hw.fsz id y h6
      exact ⟨h8.1, h8.2, fun h => (hw.hA y h).2 id h6, h7⟩) (fun i j i' j' x hi hj hi' hj' h6 h7 => by
      rw [hes] at hi hi'
      have := hdj _ _ x (by rw [hcn]; exact idx i j hi hj) (by rw [hcn]; exact idx i' j' hi' hj') h6 h7
      have hi2 : (i * n + j) / n = i := by rw [Nat.mul_comm, Nat.mul_add_div hn0, Nat.div_eq_of_lt hj]; rfl
      have hi3 : (i' * n + j') / n = i' := by rw [Nat.mul_comm, Nat.mul_add_div hn0, Nat.div_eq_of_lt hj']; rfl
      have : i = i' := by rw [← hi2, this, hi3]
      subst this
      exact ⟨rfl, by omega⟩)
  rw [hes] at hw2 hm2
  exact wp_value hr0 (hn _ _ _ _ A _ _ hk g1 hw2 (hf.os_mono fun y u h => hm2 _ _ (hm' _ _ h)) (.ob _ _ (by simp) fun k es ho => by rw [updN_eq]))
end
end Go.Proofs.Ytjenekakcoggpaa
