/- How a law's arguments read: from the row's reading to the interpreter's values. -/
import Derived.Test.YtjenekakcoggpaaAxUse
import Derived.Deep.Slices
import Derived.ChangeArms
import Derived.Carry
import Derived.WideKeyArgs
import Derived.ProofKit
namespace Go.Proofs.Ytjenekakcoggpaa
set_option linter.unusedVariables false
set_option linter.unusedSimpArgs false
open Go Go.RowKit Go.ChangeShapes Go.WideShapes Go.Deep

/-- Values of type t read as R of something that is ok: k cells. -/
def Reads (P : Program) (t : TypeId) {α : Type} (R : α → List AV) (ok : α → Prop) (k : Nat) : Prop :=
  ∀ (H : Type) (enc : TypeId × Value → H) (W : World) (n : Nat) (cs : List Value) (x : DataW H × List MemPlace), DataW.trod enc P W 0 (fun _ => true) true n t cs = some x →
    ∃ a, ok a ∧ (R a).length = k ∧ cs.length = k ∧ (∀ i, i < k → (cs.getD i undef).oneCell' = true) ∧ ∀ (i : Nat) y, (R a)[i]? = some y → Rel W (fun b => b < W.heap.size) y (cs.getD i undef)

section
variable {P : Program} {t : TypeId}

theorem one_reads {α : Type} {R : α → AV} {ok : α → Prop} (h : ∀ (H : Type) (enc : TypeId × Value → H) (W : World) (n : Nat) (cs : List Value) (x : DataW H × List MemPlace), DataW.trod enc P W 0 (fun _ => true) true n t cs = some x →
    ∃ a v, ok a ∧ cs = [v] ∧ v.oneCell' = true ∧ Rel W (fun b => b < W.heap.size) (R a) v) : Reads P t (fun a => [R a]) ok 1 := fun H enc W n cs x hx => by
  obtain ⟨a, v, h1, rfl, h3, h4⟩ := h H enc W n cs x hx
  refine ⟨a, h1, rfl, rfl, fun i hi => ?_, fun i y hy => ?_⟩
  · have : i = 0 := by omega
    subst this; exact h3
  · cases i with
    | zero => simp at hy; subst hy; exact h4
    | succ i => simp at hy

theorem Reads.int {k : IntKind} (ht : P.underlying t = some (.int k)) : Reads P t (fun n : Int => [.int k n]) (fun n => (Lit.int k n).wf = true) 1 :=
  one_reads fun H enc W n cs x hx => by
    obtain ⟨m, rfl, _, h⟩ := DataW.trod_int ht hx
    exact ⟨m, _, h, rfl, rfl, .int _ _⟩
theorem Reads.bool (ht : P.underlying t = some .bool) : Reads P t (fun b : Bool => [.bool b]) (fun _ => True) 1 :=
  one_reads fun H enc W n cs x hx => by
    obtain ⟨m, rfl, _⟩ := DataW.trod_bool ht hx
    exact ⟨m, _, trivial, rfl, rfl, .bool _⟩
theorem Reads.str (ht : P.underlying t = some .string) : Reads P t (fun s : ByteArray => [.str s]) (fun s => s.size ≤ maxLen) 1 :=
  one_reads fun H enc W n cs x hx => by
    obtain ⟨m, rfl, _, h⟩ := DataW.trod_string ht hx
    exact ⟨m, _, h, rfl, rfl, .str _ h⟩

theorem Reads.slice {e : TypeId} {α : Type} {R : α → List AV} {ok : α → Prop} {k : Nat} (ht : P.underlying t = some (.slice e)) (hk : P.cellsOf e = k) (h0 : k ≠ 0) (he : Reads P e R ok k) :
    Reads P t (fun l : List α => [.sl false k (l.map R)]) (fun l => (∀ a ∈ l, ok a) ∧ l.length ≤ maxLen) 1 :=
  one_reads fun H enc W n cs x hx => by
    rcases open_slice ht hx with ⟨rfl, _⟩ | ⟨a, len, cap, m, n', D, Pl, rfl, _, hl, hm, hmm, _, hi⟩
    · exact ⟨[], _, ⟨fun a h => (by simp at h), by simp⟩, rfl, rfl, .sl false k [] none 0 0 0 (fun _ _ => undef) (by simp) (by simp) (by simp) (by simp) (by simp) (by simp) (by simp)⟩
    · have hmm' : m = cap := by simpa using hmm
      have each : ∀ i : Fin len, ∃ (y : α) (cs' : List Value), ok y ∧ (R y).length = k ∧ W.cells? 0 (a.add (i * k)) k = some cs' ∧ (∀ j, j < k → (cs'.getD j undef).oneCell' = true) ∧ ∀ (j : Nat) z, (R y)[j]? = some z → Rel W (fun b => b < W.heap.size) z (cs'.getD j undef) := fun i => by
        obtain ⟨cs', h1, h2⟩ := hi i (by have := i.2; omega)
        rw [hk] at h1
        obtain ⟨y, g1, g2, g3, g4, g5⟩ := he H enc W n' cs' _ h2
        exact ⟨y, cs', g1, g2, h1, g4, g5⟩
      let f := fun i => (each i).choose
      let c := fun i => (each i).choose_spec.choose
      have hf : ∀ i, ok (f i) ∧ (R (f i)).length = k ∧ W.cells? 0 (a.add (i * k)) k = some (c i) ∧ (∀ j, j < k → ((c i).getD j undef).oneCell' = true) ∧ ∀ (j : Nat) z, (R (f i))[j]? = some z → Rel W (fun b => b < W.heap.size) z ((c i).getD j undef) := fun i => (each i).choose_spec.choose_spec
      have hcell : ∀ (i : Fin len) j, j < k → a.spot = none ∧ a.block < W.heap.size ∧ W.cell? ⟨a.block, a.off + (i * k + j), none⟩ = some ((c i).getD j undef) := fun i j hj => by
        obtain ⟨_, h2, h3⟩ := World.cells?_some (hf i).2.2.1
        have h4 := h3 j hj
        have h5 : (c i)[j]? = some ((c i).getD j undef) := by
          rw [List.getD_eq_getElem?_getD, List.getElem?_eq_getElem (by omega)]; rfl
        rw [h5, Go.Deep.add_add] at h4
        have hsp : a.spot = none := by
          have h6 := (World.cells?_some (hf ⟨0, by have := i.2; omega⟩).2.2.1).2.2 0 (by omega)
          simp only [Nat.zero_mul, Addr.add, if_true] at h6
          have h7 : (c ⟨0, by have := i.2; omega⟩)[0]? = some ((c ⟨0, by have := i.2; omega⟩).getD 0 undef) := by
            have := (World.cells?_some (hf ⟨0, by have := i.2; omega⟩).2.2.1).2.1
            rw [List.getD_eq_getElem?_getD, List.getElem?_eq_getElem (by omega)]; rfl
          rw [h7] at h6
          unfold World.cell? at h6
          split at h6
          · split at h6
            · cases h6
            · rename_i hs; simpa using hs
          · cases h6
        have hadd : a.add (i * k + j) = ⟨a.block, a.off + (i * k + j), none⟩ := by
          unfold Addr.add
          split
          · rename_i h0; rw [h0]; cases a; simp_all
          · rfl
        rw [hadd] at h4
        refine ⟨hsp, ?_, h4⟩
        unfold World.cell? at h4
        split at h4
        · rename_i hb; exact (Array.getElem?_eq_some_iff.1 hb).1
        · cases h4
      have hget : ∀ (i : Nat) e, ((List.ofFn f).map R)[i]? = some e → ∃ h : i < len, e = R (f ⟨i, h⟩) := fun i e he => by
        rw [List.getElem?_map] at he
        have hlt : i < len := by
          apply Classical.byContradiction
          intro hn
          rw [List.getElem?_eq_none (by simpa using hn)] at he
          cases he
        rw [List.getElem?_eq_getElem (by simpa using hlt)] at he
        simp at he
        exact ⟨hlt, he.symm⟩
      have hlen : ((List.ofFn f).map R).length = len := by simp
      refine ⟨List.ofFn f, _, ⟨fun y hy => ?_, by simp; omega⟩, rfl, rfl, ?_⟩
      · obtain ⟨i, rfl⟩ := List.mem_ofFn.1 hy
        exact (hf i).1
      · have main := Rel.sl (w := W) (A := fun b => b < W.heap.size) false k ((List.ofFn f).map R) (some a) cap a.block a.off (fun i j => if h : i < len then (c ⟨i, h⟩).getD j undef else undef)
          (by rw [hlen]; omega) (by rw [hlen]; exact hl) (fun hne => ?_) (fun e he => ?_) (fun i j hi hj => ?_) (fun i j hi hj => ?_) (fun i j e z he hz => ?_)
        · rw [hlen] at main; exact main
        · have hpos : 0 < len := by
            apply Classical.byContradiction
            intro hn
            apply hne
            exact List.eq_nil_of_length_eq_zero (by rw [hlen]; omega)
          obtain ⟨h1, h2, _⟩ := hcell ⟨0, hpos⟩ 0 (by omega)
          refine ⟨?_, h2⟩
          cases a; simp_all
        · obtain ⟨i, hi⟩ := List.getElem?_of_mem he
          obtain ⟨h, e1⟩ := hget i e hi
          rw [e1]; exact (hf _).2.1
        · rw [hlen] at hi
          simp only [hi, dif_pos]
          exact (hcell ⟨i, hi⟩ j hj).2.2
        · rw [hlen] at hi
          simp only [hi, dif_pos]
          exact (hf ⟨i, hi⟩).2.2.2.1 j hj
        · obtain ⟨h, e1⟩ := hget i e he
          subst e1
          simp only [h, dif_pos]
          exact (hf ⟨i, h⟩).2.2.2.2 j z hz

/-- The fields of a struct from cell 'off' on. -/
def RF (P : Program) (fs : List Field) (off : Nat) {α : Type} (R : α → List AV) (ok : α → Prop) (k : Nat) : Prop :=
  ∀ (H : Type) (enc : TypeId × Value → H) (W : World) (n : Nat) (cs : List Value), (∀ f ∈ fs, ∃ x, DataW.trod enc P W 0 (fun _ => true) true n f.type ((cs.drop f.offset).take (P.cellsOf f.type)) = some x) →
    ∃ a, ok a ∧ (R a).length = k ∧ (∀ i, i < k → (cs.getD (off + i) undef).oneCell' = true) ∧ ∀ (i : Nat) y, (R a)[i]? = some y → Rel W (fun b => b < W.heap.size) y (cs.getD (off + i) undef)

theorem RF.nil {off : Nat} : RF P [] off (fun _ : Unit => []) (fun _ => True) 0 := fun H enc W n cs _ =>
  ⟨(), trivial, rfl, fun i hi => absurd hi (Nat.not_lt_zero i), fun i y hy => by simp at hy⟩
theorem RF.cons {f : Field} {fs : List Field} {off k1 k2 : Nat} {α β : Type} {R1 : α → List AV} {R2 : β → List AV} {ok1 : α → Prop} {ok2 : β → Prop} (h1 : Reads P f.type R1 ok1 k1) (ho : f.offset = off) (hk : P.cellsOf f.type = k1) (h2 : RF P fs (off + k1) R2 ok2 k2) :
    RF P (f :: fs) off (fun p : α × β => R1 p.1 ++ R2 p.2) (fun p => ok1 p.1 ∧ ok2 p.2) (k1 + k2) := fun H enc W n cs h => by
  obtain ⟨x, hx⟩ := h f (by simp)
  rw [ho, hk] at hx
  obtain ⟨a, g1, g2, g3, g4, g5⟩ := h1 H enc W n _ x hx
  obtain ⟨b, e1, e2, e3, e4⟩ := h2 H enc W n cs (fun f' hf' => h f' (by simp [hf']))
  have get : ∀ i, i < k1 → ((cs.drop off).take k1).getD i undef = cs.getD (off + i) undef := fun i hi => by
    rw [List.getD_eq_getElem?_getD, List.getD_eq_getElem?_getD, List.getElem?_take, if_pos hi, List.getElem?_drop]
  refine ⟨(a, b), ⟨g1, e1⟩, by simp [g2, e2], fun i hi => ?_, fun i y hy => ?_⟩
  · rcases Nat.lt_or_ge i k1 with h | h
    · rw [← get i h]; exact g4 i h
    · have := e3 (i - k1) (by omega)
      rwa [show off + k1 + (i - k1) = off + i by omega] at this
  · rcases Nat.lt_or_ge i k1 with h | h
    · have g2' : (R1 (a, b).fst).length = k1 := g2
      rw [List.getElem?_append_left (by omega)] at hy
      rw [← get i h]; exact g5 i y hy
    · have g2' : (R1 (a, b).fst).length = k1 := g2
      rw [List.getElem?_append_right (by omega), g2'] at hy
      have := e4 (i - k1) y hy
      rwa [show off + k1 + (i - k1) = off + i by omega] at this

theorem Reads.struct {fs : Array Field} {α : Type} {R : α → List AV} {ok : α → Prop} {k : Nat} (ht : P.underlying t = some (.struct fs)) (hk : P.cellsOf t = k) (h : RF P fs.toList 0 R ok k) : Reads P t R ok k := fun H enc W n cs x hx => by
  obtain ⟨xs, m, rfl, _, hlen, hxl, hf⟩ := DataW.trod_struct ht hx
  obtain ⟨a, g1, g2, g3, g4⟩ := h H enc W m cs (fun f hfm => by
    obtain ⟨i, hi⟩ := List.getElem?_of_mem hfm
    rw [Array.getElem?_toList] at hi
    have h1 := hf i f hi
    have h2 : i < xs.length := by rw [hxl]; exact (Array.getElem?_eq_some_iff.1 hi).1
    rw [List.getElem?_eq_getElem h2] at h1
    exact ⟨_, h1⟩)
  exact ⟨a, g1, g2, hlen.trans hk, fun i hi => by simpa using g3 i hi, fun i y hy => by simpa using g4 i y hy⟩

theorem Reads.map {α β : Type} {R : α → List AV} {ok : α → Prop} {k : Nat} (h : Reads P t R ok k) {R' : β → List AV} {ok' : β → Prop} (g : α → β) (hR : ∀ a, R' (g a) = R a) (hok : ∀ a, ok a → ok' (g a)) : Reads P t R' ok' k := fun H enc W n cs x hx => by
  obtain ⟨a, g1, g2, g3, g4, g5⟩ := h H enc W n cs x hx
  exact ⟨g a, hok a g1, by rw [hR]; exact g2, g3, g4, fun i y hy => g5 i y (by rw [← hR]; exact hy)⟩

/-- An argument of type t reads as R. -/
def ArgR (P : Program) (t : TypeId) {α : Type} (R : α → AV) (ok : α → Prop) : Prop :=
  ∀ (H : Type) (enc : TypeId × Value → H) (W : World) (v : Value) (d : DataW H) (p : List MemPlace) (base : Nat), DataW.Trod enc P W 0 (fun _ => true) true t v d p → Value.okWide P W .any base t v → ∃ a, ok a ∧ Rel W (fun b => b < W.heap.size) (R a) v

theorem Reads.agg {fs : Array Field} {α : Type} {R : α → List AV} {ok : α → Prop} {k : Nat} (h : Reads P t R ok k) (ht : P.underlying t = some (.struct fs)) : ArgR P t (fun a => .agg (R a)) ok := fun H enc W v d p base ⟨n, hx⟩ hv => by
  unfold Value.okWide at hv
  rw [ht] at hv
  obtain ⟨cs, rfl, _, _⟩ := hv
  obtain ⟨a, g1, g2, g3, _, g5⟩ := h H enc W n _ _ hx
  have g3' : cs.toList.length = k := g3
  exact ⟨a, g1, .agg _ _ (by rw [g2, ← g3']; simp) fun i y hy => by rw [← toList_getD]; exact g5 i y hy⟩

theorem Reads.cell {α : Type} {R : α → AV} {ok : α → Prop} (h : Reads P t (fun a => [R a]) ok 1) (ht : (match P.underlying t with | some (.struct _) | some (.array _ _) => false | _ => true) = true) : ArgR P t R ok := fun H enc W v d p base ⟨n, hx⟩ hv => by
  obtain ⟨a, g1, g2, g3, _, g5⟩ := h H enc W n _ _ hx
  have hcells : v.cells = #[v] := by
    cases v with
    | agg cs =>
      exfalso
      unfold Value.okWide at hv
      cases hu : P.underlying t with
      | none => simp only [hu, Cell.okWide, Cell.ok] at hv
      | some u => cases u <;> simp only [hu, Cell.okWide, Cell.ok] at hv ht <;> first | exact hv.elim | cases ht
    | _ => rfl
  refine ⟨a, g1, ?_⟩
  have := g5 0 _ rfl
  rw [hcells] at this
  exact this
end
end Go.Proofs.Ytjenekakcoggpaa
