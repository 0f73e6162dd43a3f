/- A row into which an element is put: what it owns. -/
import Derived.Test.YtddcngekejlfbaaGreatDoorAxU
import Derived.Shelf.Spec.SlicesInsertGrow
namespace Go.Proofs.YtddcngekejlfbaaGreatDoor
set_option linter.unusedVariables false
set_option linter.unusedSimpArgs false
open Go Go.RowKit Go.Shelf Go.Lib
/-- 'copy' at elements of k cells, into a row that nothing freezes. -/
theorem run_copyK {P : Program} (w : World) {dT sT ty elem T : TypeId} {k : Nat} (hu : P.underlying dT = some (.slice elem)) (hn : ∀ w, (sizeOf elem).run P w = .ok k w)
    (b o dLen dCap : Nat) (cur : Array Value) (hb : w.heap[b]? = some (.cells cur T (0, 0))) (a : Addr) (sLen sCap m : Nat) (cs : List Value) (hm : Nat.min sLen dLen = m) (hl : cs.length = m * k)
    (hsrc : ∀ j v, cs[j]? = some v → w.cell? (a.add j) = some v) (hfit : o + cs.length ≤ cur.size) (h1 : ∀ v ∈ cs, v.oneCell' = true) :
    (Builtin.copy_ #[dT, sT] ty #[.slice (some ⟨b, o, none⟩) dLen dCap, .slice (some a) sLen sCap]).run P w = .ok (goInt m) (w.setRow b (spliceV cur o cs)) := by
  have hf := run_firstCells_some (P := P) w k m a sLen sCap cs hl hsrc
  have hst := run_storeCells_at P b o T cs 0 cur w hb (by simpa using hfit) h1
  simp only [Nat.add_zero] at hst
  simp [Builtin.copy_, run_underlying hu, hn, Builtin.lenOf, hm, hf, hst, spliceV]
theorem cell_of_row {w : World} {b : Nat} {T : TypeId} {cur : Array Value} (hb : w.heap[b]? = some (.cells cur T (0, 0))) {j : Nat} (hj : j < cur.size) : w.cell? ⟨b, j, none⟩ = some (cur.getD j undef) := by
  simp [World.cell?, hb, hj]
theorem part_at {cur : Array Value} {o len j : Nat} {v : Value} (h : ((cur.toList.drop o).take len)[j]? = some v) : j < len ∧ o + j < cur.size ∧ v = cur.getD (o + j) undef := by
  rw [List.getElem?_take] at h
  split at h
  · rename_i hj
    rw [List.getElem?_drop] at h
    obtain ⟨h2, h3⟩ := List.getElem?_eq_some_iff.1 h
    have h4 : o + j < cur.size := by simpa using h2
    exact ⟨hj, h4, by rw [← h3]; simp [h4]⟩
  · cases h
theorem mixedP : Tryz.prog.follows .mixedOrders = true := by kernel_rfl

theorem own_row {w : World} {A : Nat → Prop} {k : Nat} {es : List (List AV)} {v : Value} {F : Nat → Prop} (h : XRel w A (.sl true k es) v F) : (es = [] ∧ v = .slice none 0 0 ∧ ∀ x, ¬ F x) ∨ ∃ (cap b : Nat) (T : TypeId) (c : Array Value) (G : Nat → Nat → Nat → Prop), v = .slice (some ⟨b, 0, none⟩) es.length cap ∧ w.heap[b]? = some (.cells c T (0, 0)) ∧ es.length ≤ maxLen ∧ es.length ≤ cap ∧ cap * k ≤ c.size ∧ (∀ e ∈ es, e.length = k) ∧
    (∀ i j, i < es.length → j < k → (c.getD (i * k + j) undef).oneCell' = true) ∧ (∀ (i j : Nat) e a, es[i]? = some e → e[j]? = some a → XRel w A a (c.getD (i * k + j) undef) (G i j)) ∧ (∀ x, F x ↔ x = b ∨ ∃ i j, i < es.length ∧ j < k ∧ G i j x) ∧ (∀ i j, i < es.length → j < k → ¬ G i j b) ∧
    (∀ i j i' j' x, i < es.length → j < k → i' < es.length → j' < k → G i j x → G i' j' x → i = i' ∧ j = j') := by
  cases h with
  | pure _ _ _ _ ho _ => simp [AV.isOwn] at ho
  | nil _ _ hF => exact .inl ⟨rfl, rfl, hF⟩
  | sl _ _ cap b T c _ G hb hl hcap hsz hk h1 hr hF h0 hd => exact .inr ⟨cap, b, T, c, G, rfl, hb, hl, hcap, hsz, hk, h1, hr, hF, h0, hd⟩
theorem ins_at {α : Type} {l : List α} {x : α} {i m : Nat} (hi : i ≤ l.length) : (l.take i ++ x :: l.drop i)[m]? = if m < i then l[m]? else if m = i then some x else l[m - 1]? := by
  have hl : (l.take i).length = i := by rw [List.length_take]; omega
  by_cases h1 : m < i
  · rw [if_pos h1, List.getElem?_append_left (by omega), List.getElem?_take, if_pos h1]
  · rw [if_neg h1, List.getElem?_append_right (by omega), hl]
    by_cases h2 : m = i
    · rw [if_pos h2, h2, Nat.sub_self]; rfl
    · rw [if_neg h2, show m - i = (m - i - 1) + 1 by omega, List.getElem?_cons_succ, List.getElem?_drop]
      congr 1; omega
theorem XRel.ins {w w' : World} {A : Nat → Prop} {k : Nat} {es : List (List AV)} {e : List AV} {i : Nat} {cur cv c' : Array Value} {G0 : Nat → Nat → Nat → Prop} {H : Nat → Nat → Prop} {b' cap' : Nat} {T : TypeId} (hi : i ≤ es.length)
    (hk : ∀ x ∈ es, x.length = k) (he : e.length = k) (hr0 : ∀ (i j : Nat) x a, es[i]? = some x → x[j]? = some a → XRel w A a (cur.getD (i * k + j) undef) (G0 i j)) (hrv : ∀ (j : Nat) a, e[j]? = some a → XRel w A a (cv.getD j undef) (H j))
    (h1 : ∀ i j, i < es.length → j < k → (cur.getD (i * k + j) undef).oneCell' = true) (h1v : ∀ j, j < k → (cv.getD j undef).oneCell' = true)
    (hd0 : ∀ i j i' j' x, i < es.length → j < k → i' < es.length → j' < k → G0 i j x → G0 i' j' x → i = i' ∧ j = j') (hdv : ∀ j j' x, j < k → j' < k → H j x → H j' x → j = j') (hdd : ∀ i j j' x, i < es.length → j < k → j' < k → G0 i j x → ¬ H j' x)
    (hb : w'.heap[b']? = some (.cells c' T (0, 0))) (hl : es.length + 1 ≤ maxLen) (hcap : es.length + 1 ≤ cap') (hsz : cap' * k ≤ c'.size)
    (hc : ∀ m j, m < es.length + 1 → j < k → c'.getD (m * k + j) undef = if m < i then cur.getD (m * k + j) undef else if m = i then cv.getD j undef else cur.getD ((m - 1) * k + j) undef)
    (hbl : ∀ x, A x ∨ (∃ i j, i < es.length ∧ j < k ∧ G0 i j x) ∨ (∃ j, j < k ∧ H j x) → w'.heap[x]? = w.heap[x]?) (hb0 : ∀ i j, i < es.length → j < k → ¬ G0 i j b') (hbv : ∀ j, j < k → ¬ H j b') :
    XRel w' A (.sl true k (es.take i ++ e :: es.drop i)) (.slice (some ⟨b', 0, none⟩) (es.length + 1) cap') (fun x => x = b' ∨ (∃ i j, i < es.length ∧ j < k ∧ G0 i j x) ∨ ∃ j, j < k ∧ H j x) := by
  have hll : (es.take i ++ e :: es.drop i).length = es.length + 1 := by rw [List.length_append, List.length_cons, List.length_take, List.length_drop]; omega
  obtain ⟨G, hG⟩ : ∃ G : Nat → Nat → Nat → Prop, G = fun m j => if m < i then G0 m j else if m = i then H j else G0 (m - 1) j := ⟨_, rfl⟩
  have hGl : ∀ m j, m < i → G m j = G0 m j := fun m j h => by rw [hG]; simp only [if_pos h]
  have hGe : ∀ j, G i j = H j := fun j => by rw [hG]; simp
  have hGr : ∀ m j, i < m → G m j = G0 (m - 1) j := fun m j h => by rw [hG]; simp only [if_neg (show ¬ m < i by omega), if_neg (show ¬ m = i by omega)]
  have hx : XRel w' A (.sl true k (es.take i ++ e :: es.drop i)) (.slice (some ⟨b', 0, none⟩) (es.take i ++ e :: es.drop i).length cap') (fun x => x = b' ∨ ∃ m j, m < (es.take i ++ e :: es.drop i).length ∧ j < k ∧ G m j x) := by
    refine .sl k _ cap' b' T c' _ G hb (by rw [hll]; exact hl) (by rw [hll]; exact hcap) hsz (fun x hx => ?_) (fun m j hm hj => ?_) (fun m j x a hx ha => ?_) (fun _ => Iff.rfl) (fun m j hm hj h => ?_) (fun m j m' j' x hm hj hm' hj' h h' => ?_)
    · rcases List.mem_append.1 hx with h | h
      · exact hk x (List.mem_of_mem_take h)
      · rcases List.mem_cons.1 h with rfl | h
        · exact he
        · exact hk x (List.mem_of_mem_drop h)
    · rw [hll] at hm
      rw [hc m j hm hj]
      split
      · exact h1 m j (by omega) hj
      · split
        · exact h1v j hj
        · exact h1 (m - 1) j (by omega) hj
    · have hm := (List.getElem?_eq_some_iff.1 hx).1
      rw [hll] at hm
      rw [ins_at hi] at hx
      rcases Nat.lt_trichotomy m i with h | h | h
      · rw [if_pos h] at hx
        have hj : j < k := by rw [← hk x (List.mem_of_getElem? hx)]; exact (List.getElem?_eq_some_iff.1 ha).1
        rw [hc m j hm hj, if_pos h, hGl m j h]
        exact (hr0 m j x a hx ha).mono (fun _ h => h) fun y hy => hbl y (hy.imp id fun hy => .inl ⟨m, j, by omega, hj, hy⟩)
      · subst h
        rw [if_neg (by omega), if_pos rfl] at hx
        cases hx
        have hj : j < k := by rw [← he]; exact (List.getElem?_eq_some_iff.1 ha).1
        rw [hc m j hm hj, if_neg (by omega), if_pos rfl, hGe]
        exact (hrv j a ha).mono (fun _ h => h) fun y hy => hbl y (hy.imp id fun hy => .inr ⟨j, hj, hy⟩)
      · rw [if_neg (by omega), if_neg (by omega)] at hx
        have hj : j < k := by rw [← hk x (List.mem_of_getElem? hx)]; exact (List.getElem?_eq_some_iff.1 ha).1
        rw [hc m j hm hj, if_neg (by omega), if_neg (by omega), hGr m j h]
        exact (hr0 (m - 1) j x a hx ha).mono (fun _ h => h) fun y hy => hbl y (hy.imp id fun hy => .inl ⟨m - 1, j, by omega, hj, hy⟩)
    · rw [hll] at hm
      rcases Nat.lt_trichotomy m i with g | g | g
      · rw [hGl m j g] at h; exact hb0 m j (by omega) hj h
      · subst g; rw [hGe] at h; exact hbv j hj h
      · rw [hGr m j g] at h; exact hb0 (m - 1) j (by omega) hj h
    · rw [hll] at hm hm'
      rcases Nat.lt_trichotomy m i with g | g | g <;> rcases Nat.lt_trichotomy m' i with g' | g' | g'
      · rw [hGl m j g] at h; rw [hGl m' j' g'] at h'; exact hd0 m j m' j' x (by omega) hj (by omega) hj' h h'
      · subst g'; rw [hGl m j g] at h; rw [hGe] at h'; exact (hdd m j j' x (by omega) hj hj' h h').elim
      · rw [hGl m j g] at h; rw [hGr m' j' g'] at h'; have := hd0 m j (m' - 1) j' x (by omega) hj (by omega) hj' h h'; omega
      · subst g; rw [hGe] at h; rw [hGl m' j' g'] at h'; exact (hdd m' j' j x (by omega) hj' hj h' h).elim
      · subst g; subst g'; rw [hGe] at h h'; exact ⟨rfl, hdv j j' x hj hj' h h'⟩
      · subst g; rw [hGe] at h; rw [hGr m' j' g'] at h'; exact (hdd (m' - 1) j' j x (by omega) hj' hj h' h).elim
      · rw [hGr m j g] at h; rw [hGl m' j' g'] at h'; have := hd0 (m - 1) j m' j' x (by omega) hj (by omega) hj' h h'; omega
      · subst g'; rw [hGr m j g] at h; rw [hGe] at h'; exact (hdd (m - 1) j j' x (by omega) hj hj' h h').elim
      · rw [hGr m j g] at h; rw [hGr m' j' g'] at h'; have := hd0 (m - 1) j (m' - 1) j' x (by omega) hj (by omega) hj' h h'; omega
  rw [hll] at hx
  refine hx.congr fun x => ?_
  constructor
  · rintro (h | ⟨m, j, hm, hj, h⟩ | ⟨j, hj, h⟩)
    · exact .inl h
    · rcases Nat.lt_or_ge m i with g | g
      · exact .inr ⟨m, j, by omega, hj, by rw [hGl m j g]; exact h⟩
      · exact .inr ⟨m + 1, j, by omega, hj, by rw [hGr (m + 1) j (by omega)]; exact h⟩
    · exact .inr ⟨i, j, by omega, hj, by rw [hGe]; exact h⟩
  · rintro (h | ⟨m, j, hm, hj, h⟩)
    · exact .inl h
    · rcases Nat.lt_trichotomy m i with g | g | g
      · rw [hGl m j g] at h; exact .inr (.inl ⟨m, j, by omega, hj, h⟩)
      · subst g; rw [hGe] at h; exact .inr (.inr ⟨j, hj, h⟩)
      · rw [hGr m j g] at h; exact .inr (.inl ⟨m - 1, j, by omega, hj, h⟩)
end Go.Proofs.YtddcngekejlfbaaGreatDoor
