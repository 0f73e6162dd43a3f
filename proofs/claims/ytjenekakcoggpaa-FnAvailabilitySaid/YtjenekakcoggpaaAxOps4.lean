/- Soundness of one operation. -/
import Derived.Test.YtjenekakcoggpaaAxOps3
namespace Go.Proofs.Ytjenekakcoggpaa
set_option linter.unusedVariables false
set_option linter.unusedSimpArgs false
open Go Go.RowKit

section
variable {P : Program} {np : Nat} {L : Lay} {W : WM} {w w' : World} {A : Nat → Prop} {os os' : List Obj} {hd hd' : Nat → Value} {F F' : Nat → Nat → Prop} {s : AS} {a : Act}

theorem Rel.flatA {A' : Nat → Prop} {x v} (h : Rel w A x v) (hx : x.flat = true) : Rel w A' x v := by
  cases h with
  | int k n => exact .int k n
  | bool b => exact .bool b
  | str s h => exact .str s h
  | _ => simp [AV.flat] at hx
theorem flat_noown {x : AV} (hx : x.flat = true) : x.isOwn = false := by
  cases x <;> simp_all [AV.flat, AV.isOwn]

theorem src_sound (hw : CW W w A s.os hd F) {k : Nat} {y : AV} {v : Value} {K : List (List AV) → AS → Prop} (hy : SRel w A s.os hd y v) (hk : s.src (stdE np P) k y K) :
    ∃ fs s1 F1 A' H, K fs s1 ∧ s1.fr = s.fr ∧ CW W w A s1.os hd F1 ∧ (∀ z u, SRel w A s.os hd z u → SRel w A s1.os hd z u) ∧ (∀ id x, F1 id x → F id x) ∧ Nonempty (Src w A' k v fs H) ∧
      (∀ i j u x e', fs[i]? = some e' → e'[j]? = some x → XRel w A' x u (H i j) → XRel w A x u (H i j)) ∧ (∀ i j x, i < fs.length → j < k → H i j x → (∃ id, F id x) ∧ ∀ id, ¬ F1 id x) ∧
      (∀ i j i' j' x, i < fs.length → j < k → i' < fs.length → j' < k → H i j x → H i' j' x → i = i' ∧ j = j') := by
  unfold AS.src at hk
  split at hk
  · rename_i own k' fs
    split at hk
    · rename_i e; subst e
      obtain ⟨hno, hk⟩ := hk
      exact ⟨fs, s, F, A, fun _ _ _ => False, hk, rfl, hw, fun _ _ h => h, fun _ _ h => h, hy.sl_inv.src hno, fun _ _ _ _ _ _ _ h => h, fun _ _ _ _ _ h => h.elim, fun _ _ _ _ _ _ _ _ _ h => h.elim⟩
    · exact hk.elim
  · rename_i id lo hi
    split at hk
    · rename_i _ k' es ho
      split at hk
      · rename_i e; subst e
        obtain ⟨fs, ⟨hfl, hk⟩, hr⟩ : ∃ fs, ((∀ e ∈ fs, ∀ c ∈ e, c.flat = true) ∧ K fs s) ∧ Rel w (· < w.heap.size) (.sl false k fs) v := by
          have h1 : s.r1 (stdE np P) (.vs id lo hi) fun x => ∃ fs, x = .sl false k fs ∧ ((∀ e ∈ fs, ∀ c ∈ e, c.flat = true) ∧ K fs s) := by
            unfold AS.r1
            simp only [ho]
            obtain ⟨g1, g2, g3, g4⟩ := hk
            exact ⟨g1, g2, g3, _, rfl, g4⟩
          obtain ⟨x', ⟨fs, rfl, h2⟩, h3⟩ := r1_sound hw hy h1
          exact ⟨fs, h2, h3⟩
        exact ⟨fs, s, F, _, fun _ _ _ => False, hk, rfl, hw, fun _ _ h => h, fun _ _ h => h, hr.src (fun e he c hc => flat_noown (hfl e he c hc)), fun i j u x e' he hx h =>
          .pure _ _ _ ((h.flat (hfl e' (List.mem_of_getElem? he) x (List.mem_of_getElem? hx))).flatA (hfl e' (List.mem_of_getElem? he) x (List.mem_of_getElem? hx))) (flat_noown (hfl e' (List.mem_of_getElem? he) x (List.mem_of_getElem? hx))) (fun _ h => h),
          fun _ _ _ _ _ h => h.elim, fun _ _ _ _ _ _ _ _ _ h => h.elim⟩
      · exact hk.elim
    · exact hk.elim
  · rename_i id
    split at hk
    · rename_i _ k' es ho
      split at hk
      · rename_i e; subst e
        obtain ⟨hw1, hm1⟩ := hw.kill id
        obtain ⟨H, h1, h2, h3⟩ := (hw.rows id k es ho).src
        refine ⟨es, ⟨s.fr, s.os.set id .dead⟩, _, A, H, hk, rfl, hw1, hm1, fun i x h => ?_, by rw [hy.ob_inv ho]; exact h1, fun _ _ _ _ _ _ _ h => h, fun i j x hi hj hx => ⟨⟨id, h2 i j x hi hj hx⟩, fun i' h => ?_⟩, h3⟩
        · unfold updN at h
          split at h
          · exact h.elim
          · exact h
        · unfold updN at h
          split at h
          · exact h
          · rename_i hne
            exact hne (hw.disj _ _ _ h (h2 i j x hi hj hx))
      · exact hk.elim
    · exact hk.elim
  · exact hk.elim

theorem run_append_op {c : Call} {x y : Operand} {t ty : TypeId} {v : Value} {dst : Option Tmp} {pos : String} {af : Array Edge} {g : Option (Nat × Bool)} (hc : c.callee = .builtin .append) (ha : c.args.toList = [x, y]) (ht : c.argTypes.toList = [t, t])
    (h : (Builtin.append_ #[t, t] ty #[a.eval x, a.eval y]).run P w = .ok v w') : (execOp a.eval ⟨dst, .call c, ty, pos, af, g⟩).run P w = .ok (.value v) w' := by
  obtain ⟨ce, as', ts⟩ := c
  cases hc
  have ha' : as' = #[x, y] := by rw [← Array.toArray_toList (xs := as')]; rw [show as'.toList = [x, y] from ha]
  have ht' : ts = #[t, t] := by rw [← Array.toArray_toList (xs := ts)]; rw [show ts.toList = [t, t] from ht]
  subst ha' ht'
  show (Builtin.append_ #[t, t] ty _ >>= _).run P w = _
  rw [show (#[x, y] : Array Operand).map a.eval = #[a.eval x, a.eval y] from by simp, Sem.run_bind, h]
  rfl

theorem step_append (hL : L.ty = layOf P) (hw : CW W w A s.os hd F) (hf : FR w A s.os hd s.fr a) {dst ty pos af g} {c : Call} {x y : Operand} {t e : TypeId} {K : AV → AS → Prop} (hc : c.callee = .builtin .append) (ha : c.args.toList = [x, y]) (ht : c.argTypes.toList = [t, t])
    (hd0 : (L.ty t).d = .slice e) (hd1 : (L.ty e).d ≠ .other) (hz : (L.ty e).zero ≠ []) (hzn : (L.ty e).zero.length = (L.ty e).n) (hn0 : (L.ty e).n ≠ 0) (hnv : ¬ ((∃ id z hi, s.get x = .vs id z hi) ∧ ∃ id z hi, s.get y = .vs id z hi))
    (hk : s.app (stdE np P) (L.ty e).n (L.ty e).bytes (s.get x) (s.get y) K) : StepOK P W w s a ⟨dst, .call c, ty, pos, af, g⟩ K := by
  intro next Q hn
  have hx := hf.get x
  have hy := hf.get y
  have hts := lay_slice hL hd0
  have hso : ∀ w, (sizeOf e).run P w = .ok (L.ty e).n w := fun w => run_sizeOf hL hd1
  generalize s.get x = xv at *
  generalize s.get y = yv at *
  -- one object behind the other
  have main : ∀ {s1 : AS} {F1 : Nat → Nat → Prop} {es fs : List (List AV)} {G : Nat → Prop} {H : Nat → Nat → Nat → Prop} {A' : Nat → Prop} {osd : List Obj} {F2 : Nat → Nat → Prop}, s1.fr = s.fr → osd.length = s1.os.length → CW W w A osd hd F2 → (∀ z u, SRel w A s.os hd z u → SRel w A osd hd z u) →
      XRel w A (.sl true (L.ty e).n es) (a.eval x) G → Nonempty (Src w A' (L.ty e).n (a.eval y) fs H) → (∀ i j u x e', fs[i]? = some e' → e'[j]? = some x → XRel w A' x u (H i j) → XRel w A x u (H i j)) →
      (∀ x, G x → W.new x ∧ x < w.heap.size ∧ ¬ A x ∧ ∀ id, ¬ F2 id x) → (∀ i j x, i < fs.length → j < (L.ty e).n → H i j x → W.new x ∧ x < w.heap.size ∧ ¬ A x ∧ (∀ id, ¬ F2 id x) ∧ ¬ G x) →
      (∀ i j i' j' x, i < fs.length → j < (L.ty e).n → i' < fs.length → j' < (L.ty e).n → H i j x → H i' j' x → i = i' ∧ j = j') → (stdE np P).cat (L.ty e).bytes es fs (fun es' => K (.ob s1.os.length) ⟨s1.fr, osd ++ [.row (L.ty e).n es']⟩) →
      (Oper.wp P ⟨dst, .call c, ty, pos, af, g⟩ a w next Q) := by
    intro s1 F1 es fs G H A' osd F2 e1 e2 hw2 hm2 hxr ⟨hs⟩ hsA hG hH hHd hcat
    obtain ⟨g1, g2, hK⟩ := hcat
    obtain ⟨v', w', F', r1, r2, r3⟩ := app_core (ty := ty) hL hw2 hd0 hd1 hz hzn hn0 hxr hs hsA hG hH hHd g1 g2
    exact wp_value (run_append_op hc ha ht r1) (hn _ _ _ _ A _ _ hK e1 r2 (hf.os_mono fun z u h => r3 z u (hm2 z u h)) (.ob _ _ (by simp [e2]) fun k es ho => by rw [← e2, updN_eq]))
  unfold AS.app at hk
  split at hk
  · have e1 := hx.nils_inv
    have e2 := hy.nils_inv
    refine wp_value (v := .slice none 0 0) (w' := w) (run_append_op hc ha ht ?_) (hn _ _ _ _ A hd F hk rfl hw hf (.pure _ _ .nils))
    rw [e1, e2]
    exact run_append_zero hts hso none 0 0 (Nat.le_refl _) none 0
  · rename_i id
    split at hk
    · rename_i ho
      have e2 := hy.nils_inv
      have e1 := hx.ob_inv ho
      obtain ⟨p, c0, e3, _, e4⟩ := (hw.rel_row ho).sl_len
      refine wp_value (v := a.eval x) (w' := w) (run_append_op hc ha ht ?_) (hn _ _ _ _ A hd F hk rfl hw hf hx)
      rw [e1, e3, e2]
      exact run_append_zero hts hso p _ c0 e4 none 0
    · exact hk.elim
  · obtain ⟨fs, s1, F1, A', H, hk, h1, hw1, hm1, hF1, hs, hsA, hH, hHd⟩ := src_sound hw hy hk
    have e1 := hx.nils_inv
    refine main (s1 := s1) (F1 := F1) (es := []) (G := fun _ => False) h1 rfl hw1 hm1 (by rw [e1]; exact .nil _ _ (fun _ h => h)) hs hsA (fun _ h => h.elim) (fun i j x hi hj hx => ?_) hHd hk
    obtain ⟨⟨id, g1⟩, g2⟩ := hH i j x hi hj hx
    exact ⟨(hw.fsz id x g1).1, (hw.fsz id x g1).2, fun h => (hw.hA x h).2 id g1, g2, fun h => h⟩
  · rename_i id _
    obtain ⟨fs, s1, F1, A', H, hk, h1, hw1, hm1, hF1, hs, hsA, hH, hHd⟩ := src_sound hw hy hk
    split at hk
    · rename_i _ k' es ho
      split at hk
      · rename_i e0; subst e0
        obtain ⟨hw2, hm2⟩ := hw1.kill id
        have hsub : ∀ i x, updN F1 id (fun _ => False) i x → F1 i x ∧ i ≠ id := fun i x hx => by
          unfold updN at hx
          split at hx
          · exact hx.elim
          · exact ⟨hx, by assumption⟩
        refine main (s1 := s1) (F1 := F1) (es := es) (G := F1 id) h1 (by simp) hw2 (fun z u h => hm2 z u (hm1 z u h)) (by rw [(hm1 _ _ hx).ob_inv ho]; exact hw1.rows id _ es ho) hs hsA (fun x hx => ⟨(hw1.fsz id x hx).1, (hw1.fsz id x hx).2, fun h => (hw1.hA x h).2 id hx, fun i hi => (hsub i x hi).2 (hw1.disj _ _ _ (hsub i x hi).1 hx)⟩) (fun i j x hi hj hx => ?_) hHd hk
        obtain ⟨⟨id', g1⟩, g2⟩ := hH i j x hi hj hx
        exact ⟨(hw.fsz id' x g1).1, (hw.fsz id' x g1).2, fun h => (hw.hA x h).2 id' g1, fun i' h => g2 i' (hsub i' x h).1, g2 id⟩
      · exact hk.elim
    · exact hk.elim
  · exact (hnv ⟨⟨_, _, _, rfl⟩, _, _, _, rfl⟩).elim
  · exact hk.elim
end
end Go.Proofs.Ytjenekakcoggpaa
