/- What the abstract values mean in a world; the interpreter's environment; contracts. -/
import Derived.Test.YtjenekakcoggpaaAxDef
namespace Go.Proofs.Ytjenekakcoggpaa
set_option linter.unusedVariables false
set_option linter.unusedSimpArgs false
open Go Go.RowKit

/-- A value that only reads: its memory lies in blocks of A. -/
inductive Rel (w : World) (A : Nat → Prop) : AV → Value → Prop
  | int (k : IntKind) (n : Int) : Rel w A (.int k n) (.int k n)
  | bool (b : Bool) : Rel w A (.bool b) (.bool b)
  | str (s : ByteArray) (h : s.size ≤ maxLen) : Rel w A (.str s) (.string s)
  | agg (cs : List AV) (vs : Array Value) (hn : vs.size = cs.length) (hc : ∀ (i : Nat) a, cs[i]? = some a → Rel w A a (vs.getD i undef)) : Rel w A (.agg cs) (.agg vs)
  | tup (cs : List AV) (vs : Array Value) (hn : vs.size = cs.length) (hc : ∀ (i : Nat) a, cs[i]? = some a → Rel w A a (vs.getD i undef)) : Rel w A (.tup cs) (.tuple vs)
  | nils : Rel w A .nils (.slice none 0 0)
  | nilp : Rel w A .nilp (.pointer none)
  | sl (t : Bool) (k : Nat) (es : List (List AV)) (p : Option Addr) (cap b off : Nat) (val : Nat → Nat → Value)
      (hl : es.length ≤ maxLen) (hcap : es.length ≤ cap)
      (hp : es ≠ [] → p = some ⟨b, off, none⟩ ∧ A b)
      (hk : ∀ e ∈ es, e.length = k)
      (hc : ∀ i j, i < es.length → j < k → w.cell? ⟨b, off + (i * k + j), none⟩ = some (val i j))
      (h1 : ∀ i j, i < es.length → j < k → (val i j).oneCell' = true)
      (hr : ∀ (i j : Nat) e a, es[i]? = some e → e[j]? = some a → Rel w A a (val i j)) : Rel w A (.sl t k es) (.slice p es.length cap)
  | pp (cs : List AV) (b off : Nat) (val : Nat → Value) (hb : A b)
      (hc : ∀ j, j < cs.length → w.cell? ⟨b, off + j, none⟩ = some (val j))
      (hr : ∀ (j : Nat) a, cs[j]? = some a → Rel w A a (val j)) : Rel w A (.pp cs) (.pointer (some ⟨b, off, none⟩))
  | fn (f : FuncId) (caps : List AV) (vs : Array Value) (hn : vs.size = caps.length) (hc : ∀ (i : Nat) a, caps[i]? = some a → Rel w A a (vs.getD i undef)) : Rel w A (.fn f caps) (.func (.func f) #[] vs)
  | fb (f : FuncId) (cs : List AV) (vs : Array Value) (hn : vs.size = cs.length) (hc : ∀ (i : Nat) a, cs[i]? = some a → Rel w A a (vs.getD i undef)) : Rel w A (.fb f cs) (.func (.func f) #[.agg vs] #[])
  | bx (cs : List AV) (b off : Nat) (val : Nat → Value) (hb : A b)
      (hc : ∀ j, j < cs.length → w.cell? ⟨b, off + j, none⟩ = some (val j))
      (hr : ∀ (j : Nat) a, cs[j]? = some a → Rel w A a (val j)) : Rel w A (.bx cs) (.pointer (some ⟨b, off, none⟩))
  | und : Rel w A .und undef
  | any (v : Value) : Rel w A .any v

/-- A value that owns its memory: the blocks of F, each once; what it only reads lies in A. -/
inductive XRel (w : World) (A : Nat → Prop) : AV → Value → (Nat → Prop) → Prop
  | pure (a : AV) (v : Value) (F : Nat → Prop) (h : Rel w A a v) (ho : a.isOwn = false) (hF : ∀ x, ¬ F x) : XRel w A a v F
  | nil (k : Nat) (F : Nat → Prop) (hF : ∀ x, ¬ F x) : XRel w A (.sl true k []) (.slice none 0 0) F
  | sl (k : Nat) (es : List (List AV)) (cap b : Nat) (T : TypeId) (c : Array Value) (F : Nat → Prop) (G : Nat → Nat → Nat → Prop)
      (hb : w.heap[b]? = some (.cells c T (0, 0)))
      (hl : es.length ≤ maxLen) (hcap : es.length ≤ cap) (hsz : cap * k ≤ c.size)
      (hk : ∀ e ∈ es, e.length = k)
      (h1 : ∀ i j, i < es.length → j < k → (c.getD (i * k + j) undef).oneCell' = true)
      (hr : ∀ (i j : Nat) e a, es[i]? = some e → e[j]? = some a → XRel w A a (c.getD (i * k + j) undef) (G i j))
      (hF : ∀ x, F x ↔ x = b ∨ ∃ i j, i < es.length ∧ j < k ∧ G i j x)
      (h0 : ∀ i j, i < es.length → j < k → ¬ G i j b)
      (hd : ∀ i j i' j' x, i < es.length → j < k → i' < es.length → j' < k → G i j x → G i' j' x → i = i' ∧ j = j') :
      XRel w A (.sl true k es) (.slice (some ⟨b, 0, none⟩) es.length cap) F
  | bx (cs : List AV) (b : Nat) (T : TypeId) (c : Array Value) (F : Nat → Prop)
      (hb : w.heap[b]? = some (.cells c T (0, 0))) (hn : c.size = cs.length)
      (hr : ∀ (i : Nat) a, cs[i]? = some a → Rel w A a (c.getD i undef))
      (hF : ∀ x, F x ↔ x = b) : XRel w A (.bx cs) (.pointer (some ⟨b, 0, none⟩)) F
  | agg (cs : List AV) (vs : Array Value) (F : Nat → Prop) (G : Nat → Nat → Prop) (hn : vs.size = cs.length)
      (hc : ∀ (i : Nat) a, cs[i]? = some a → XRel w A a (vs.getD i undef) (G i))
      (hF : ∀ x, F x ↔ ∃ i, i < cs.length ∧ G i x)
      (hd : ∀ i i' x, i < cs.length → i' < cs.length → G i x → G i' x → i = i') : XRel w A (.agg cs) (.agg vs) F
  | tup (cs : List AV) (vs : Array Value) (F : Nat → Prop) (G : Nat → Nat → Prop) (hn : vs.size = cs.length)
      (hc : ∀ (i : Nat) a, cs[i]? = some a → XRel w A a (vs.getD i undef) (G i))
      (hF : ∀ x, F x ↔ ∃ i, i < cs.length ∧ G i x)
      (hd : ∀ i i' x, i < cs.length → i' < cs.length → G i x → G i' x → i = i') : XRel w A (.tup cs) (.tuple vs) F

/-- A value of the frame: own objects are spoken of by their number; 'hd' gives each object's header. -/
inductive SRel (w : World) (A : Nat → Prop) (os : List Obj) (hd : Nat → Value) : AV → Value → Prop
  | pure (a : AV) (v : Value) (h : Rel w A a v) : SRel w A os hd a v
  | ob (id : Nat) (v : Value) (hi : id < os.length) (h : ∀ k es, os[id]? = some (.row k es) → v = hd id) : SRel w A os hd (.ob id) v
  | vs (id : Nat) (lo hi : Int) (v : Value) (hi' : id < os.length) (h : ∀ k es, os[id]? = some (.row k es) → 0 ≤ lo ∧ lo ≤ hi ∧ hi ≤ es.length ∧ ∃ p cap, v = .slice p (hi - lo).toNat cap ∧ (hi - lo).toNat ≤ cap ∧ (lo < hi → ∃ b n c, hd id = .slice (some ⟨b, 0, none⟩) n c ∧ p = some ⟨b, lo.toNat * k, none⟩) ∧ (lo = 0 → ∃ n, hd id = .slice p n cap)) : SRel w A os hd (.vs id lo hi) v
  | pb (id off : Nat) (v : Value) (hi : id < os.length) (h : ∀ cs, os[id]? = some (.box cs) → ∃ b, hd id = .pointer (some ⟨b, 0, none⟩) ∧ v = .pointer (some ⟨b, off, none⟩)) : SRel w A os hd (.pb id off) v
  | pe (id : Nat) (i : Int) (j : Nat) (v : Value) (hi : id < os.length) (h : ∀ k es, os[id]? = some (.row k es) → ∃ b n c, hd id = .slice (some ⟨b, 0, none⟩) n c ∧ 0 ≤ i ∧ i.toNat < es.length ∧ v = .pointer (some ⟨b, i.toNat * k + j, none⟩)) : SRel w A os hd (.pe id i j) v
  | agg (cs : List AV) (vs : Array Value) (hn : vs.size = cs.length) (hc : ∀ (i : Nat) a, cs[i]? = some a → SRel w A os hd a (vs.getD i undef)) : SRel w A os hd (.agg cs) (.agg vs)
  | tup (cs : List AV) (vs : Array Value) (hn : vs.size = cs.length) (hc : ∀ (i : Nat) a, cs[i]? = some a → SRel w A os hd a (vs.getD i undef)) : SRel w A os hd (.tup cs) (.tuple vs)
  | fn (f : FuncId) (cs : List AV) (vs : Array Value) (hn : vs.size = cs.length) (hc : ∀ (i : Nat) a, cs[i]? = some a → SRel w A os hd a (vs.getD i undef)) : SRel w A os hd (.fn f cs) (.func (.func f) #[] vs)

theorem cell_of_block {w w' : World} {b o : Nat} (h : w'.heap[b]? = w.heap[b]?) : w'.cell? ⟨b, o, none⟩ = w.cell? ⟨b, o, none⟩ :=
  World.cell?_of_block (w := w) (a := ⟨b, o, none⟩) h

theorem Rel.mono {w w' : World} {A A' : Nat → Prop} (hw : ∀ x, A x → w'.heap[x]? = w.heap[x]?) (hA : ∀ x, A x → A' x) {a : AV} {v : Value} (h : Rel w A a v) : Rel w' A' a v := by
  induction h with
  | int k n => exact .int k n
  | bool b => exact .bool b
  | str s h => exact .str s h
  | agg cs vs hn _ ih => exact .agg cs vs hn ih
  | tup cs vs hn _ ih => exact .tup cs vs hn ih
  | nils => exact .nils
  | nilp => exact .nilp
  | sl t k es p cap b off val hl hcap hp hk hc h1 _ ih =>
    refine .sl t k es p cap b off val hl hcap (fun h => ⟨(hp h).1, hA _ (hp h).2⟩) hk (fun i j hi hj => ?_) h1 ih
    have hne : es ≠ [] := by rintro rfl; simp at hi
    rw [cell_of_block (hw b (hp hne).2)]; exact hc i j hi hj
  | pp cs b off val hb hc _ ih =>
    exact .pp cs b off val (hA _ hb) (fun j hj => by rw [cell_of_block (hw b hb)]; exact hc j hj) ih
  | fn f caps vs hn _ ih => exact .fn f caps vs hn ih
  | fb f cs vs hn _ ih => exact .fb f cs vs hn ih
  | bx cs b off val hb hc _ ih =>
    exact .bx cs b off val (hA _ hb) (fun j hj => by rw [cell_of_block (hw b hb)]; exact hc j hj) ih
  | und => exact .und
  | any v => exact .any v

theorem XRel.mono {w w' : World} {A A' : Nat → Prop} (hA : ∀ x, A x → A' x) {a : AV} {v : Value} {F : Nat → Prop} (h : XRel w A a v F)
    (hw : ∀ x, A x ∨ F x → w'.heap[x]? = w.heap[x]?) : XRel w' A' a v F := by
  induction h with
  | pure a v F h ho hF => exact .pure a v F (h.mono (fun x hx => hw x (.inl hx)) hA) ho hF
  | nil k F hF => exact .nil k F hF
  | sl k es cap b T c F G hb hl hcap hsz hk h1c _ hF h0 hd ih =>
    refine .sl k es cap b T c F G (by rw [hw b (.inr ((hF b).2 (.inl rfl)))]; exact hb) hl hcap hsz hk h1c (fun i j e a he ha => ih i j e a he ha (fun x hx => hw x ?_)) hF h0 hd
    rcases hx with hx | hx
    · exact .inl hx
    · refine .inr ((hF x).2 (.inr ⟨i, j, ?_, ?_, hx⟩))
      · exact (List.getElem?_eq_some_iff.1 he).1
      · have h1 := hk e (List.mem_of_getElem? he)
        have h2 := (List.getElem?_eq_some_iff.1 ha).1
        omega
  | bx cs b T c F hb hn hr hF =>
    exact .bx cs b T c F (by rw [hw b (.inr ((hF b).2 rfl))]; exact hb) hn (fun i a ha => (hr i a ha).mono (fun x hx => hw x (.inl hx)) hA) hF
  | agg cs vs F G hn _ hF hd ih =>
    refine .agg cs vs F G hn (fun i a ha => ih i a ha (fun x hx => hw x ?_)) hF hd
    rcases hx with hx | hx
    · exact .inl hx
    · exact .inr ((hF x).2 ⟨i, (List.getElem?_eq_some_iff.1 ha).1, hx⟩)
  | tup cs vs F G hn _ hF hd ih =>
    refine .tup cs vs F G hn (fun i a ha => ih i a ha (fun x hx => hw x ?_)) hF hd
    rcases hx with hx | hx
    · exact .inl hx
    · exact .inr ((hF x).2 ⟨i, (List.getElem?_eq_some_iff.1 ha).1, hx⟩)

/-- The footprint matters up to its members. -/
theorem XRel.congr {w : World} {A : Nat → Prop} {a : AV} {v : Value} {F F' : Nat → Prop} (h : XRel w A a v F) (hF' : ∀ x, F' x ↔ F x) : XRel w A a v F' := by
  cases h with
  | pure a v F h ho hF => exact .pure a v F' h ho (fun x => by rw [hF']; exact hF x)
  | nil k F hF => exact .nil k F' (fun x => by rw [hF']; exact hF x)
  | sl k es cap b T c F G hb hl hcap hsz hk h1 hr hF h0 hd => exact .sl k es cap b T c F' G hb hl hcap hsz hk h1 hr (fun x => by rw [hF']; exact hF x) h0 hd
  | bx cs b T c F hb hn hr hF => exact .bx cs b T c F' hb hn hr (fun x => by rw [hF']; exact hF x)
  | agg cs vs F G hn hc hF hd => exact .agg cs vs F' G hn hc (fun x => by rw [hF']; exact hF x) hd
  | tup cs vs F G hn hc hF hd => exact .tup cs vs F' G hn hc (fun x => by rw [hF']; exact hF x) hd

/-- What is owned can be read. -/
theorem XRel.rel {w : World} {A B : Nat → Prop} {a : AV} {v : Value} {F : Nat → Prop} (h : XRel w A a v F) (hA : ∀ x, A x → B x) (hB : ∀ x, F x → B x) : Rel w B a v := by
  induction h with
  | pure a v F h ho hF => exact h.mono (fun _ _ => rfl) hA
  | nil k F hF => exact .sl true k [] none 0 0 0 (fun _ _ => undef) (by simp) (by simp) (by simp) (by simp) (by simp) (by simp) (by simp)
  | sl k es cap b T c F G hb hl hcap hsz hk h1c _ hF h0 hd ih =>
    refine .sl true k es _ cap b 0 (fun i j => c.getD (i * k + j) undef) hl hcap (fun _ => ⟨rfl, hB b ((hF b).2 (.inl rfl))⟩) hk (fun i j hi hj => ?_) h1c
      (fun i j e a he ha => ih i j e a he ha (fun x hx => hB x ((hF x).2 (.inr ⟨i, j, (List.getElem?_eq_some_iff.1 he).1, ?_, hx⟩))))
    · have h1 : i * k + j < c.size := by
        have : (i + 1) * k ≤ cap * k := Nat.mul_le_mul_right k (by omega)
        rw [Nat.add_mul] at this; omega
      simp [World.cell?, hb, h1]
    · have h1 := hk e (List.mem_of_getElem? he)
      have h2 := (List.getElem?_eq_some_iff.1 ha).1
      omega
  | bx cs b T c F hb hn hr hF =>
    refine .bx cs b 0 (fun j => c.getD j undef) (hB b ((hF b).2 rfl)) (fun j hj => ?_) (fun j a ha => (hr j a ha).mono (fun _ _ => rfl) hA)
    have h1 : j < c.size := by omega
    simp [World.cell?, hb, h1]
  | agg cs vs F G hn _ hF hd ih =>
    exact .agg cs vs hn (fun i a ha => ih i a ha (fun x hx => hB x ((hF x).2 ⟨i, (List.getElem?_eq_some_iff.1 ha).1, hx⟩)))
  | tup cs vs F G hn _ hF hd ih =>
    exact .tup cs vs hn (fun i a ha => ih i a ha (fun x hx => hB x ((hF x).2 ⟨i, (List.getElem?_eq_some_iff.1 ha).1, hx⟩)))

theorem SRel.mono {w w' : World} {A A' : Nat → Prop} {os : List Obj} {hd : Nat → Value} (hw : ∀ x, A x → w'.heap[x]? = w.heap[x]?) (hA : ∀ x, A x → A' x) {a : AV} {v : Value} (h : SRel w A os hd a v) : SRel w' A' os hd a v := by
  induction h with
  | pure a v h => exact .pure a v (h.mono hw hA)
  | ob id v hi' h => exact .ob id v hi' h
  | vs id lo hi v hi' h => exact .vs id lo hi v hi' h
  | pb id off v hi' h => exact .pb id off v hi' h
  | pe id i j v hi' h => exact .pe id i j v hi' h
  | agg cs vs hn _ ih => exact .agg cs vs hn ih
  | tup cs vs hn _ ih => exact .tup cs vs hn ih
  | fn f cs vs hn _ ih => exact .fn f cs vs hn ih

end Go.Proofs.Ytjenekakcoggpaa
