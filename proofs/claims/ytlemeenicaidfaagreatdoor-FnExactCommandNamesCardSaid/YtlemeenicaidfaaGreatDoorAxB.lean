/- Soundness of the operations that only read. -/
import Derived.Test.YtlemeenicaidfaaGreatDoorAxA
import Derived.RowKit3
import Derived.Laws.BytesString
import Derived.Laws.StructEq
import Derived.ChangeKeysEq
namespace Go.Proofs.YtlemeenicaidfaaGreatDoor
set_option linter.unusedVariables false
set_option linter.unusedSimpArgs false
open Go Go.RowKit

/-- The world at the entry; the blocks that were there and may be changed; the objects whose headers stay; the blocks that may be read. -/
structure WM where
 w : World
 ch : Nat → Prop
 pin : List (Nat × Value)
 rd : Nat → Prop
def WM.new (W : WM) (x : Nat) : Prop := W.w.heap.size ≤ x ∨ W.ch x
/-- Other blocks that were there have not changed; nothing has been frozen. -/
structure BelM [St] (W : WM) (w' : World) : Prop where
 os : w'.os = W.w.os
 tape : w'.tape = W.w.tape
 output : w'.output = W.w.output
 size : W.w.heap.size ≤ w'.heap.size
 block : ∀ x, x < W.w.heap.size → ¬ W.ch x → w'.heap[x]? = W.w.heap[x]?
 frz : ∀ a : Addr, a.block < W.w.heap.size → w'.frozen? a = W.w.frozen? a
 drawn : DrawLe W.w w'
 glob : GOK W.w ∧ ∀ x, W.ch x → NG ≤ x
theorem BelM.keep [St] {W : WM} {w w' : World} {G : Nat → Prop} (h : BelM W w) (hk : Keeps G w w') (hG : ∀ x, G x → W.new x) : BelM W w' :=
 ⟨hk.os.trans h.os, hk.tape.trans h.tape, hk.output.trans h.output, Nat.le_trans h.size hk.size, fun x hx hm => (hk.block x (Nat.lt_of_lt_of_le hx h.size) (fun hg => (hG x hg).elim (fun h' => by omega) hm)).trans (h.block x hx hm), fun a ha => (hk.frz a (Nat.lt_of_lt_of_le ha h.size)).trans (h.frz a ha), DrawLe.trans h.drawn hk.drawn, h.glob⟩
theorem BelM.gok [St] {W : WM} {w : World} (h : BelM W w) : GOK w := h.glob.1.of h.size fun x hx => h.block x (Nat.lt_of_lt_of_le hx h.glob.1.sz) fun hc => by have := h.glob.2 x hc; omega
theorem BelM.ng [St] {W : WM} {w : World} (h : BelM W w) {x : Nat} (hx : W.new x) : NG ≤ x := hx.elim (fun h' => Nat.le_trans h.glob.1.sz h') (h.glob.2 x)
theorem BelM.new [St] {W : WM} {w : World} (h : BelM W w) {x : Nat} (hx : w.heap.size ≤ x) : W.new x := .inl (Nat.le_trans h.size hx)

/-- The own objects in the world. -/
structure CW [St] (W : WM) (w : World) (A : Nat → Prop) (os : List Obj) (hd : Nat → Value) (F : Nat → Nat → Prop) : Prop where
 below : BelM W w
 hA : ∀ x, A x → x < w.heap.size ∧ ∀ id, ¬ F id x
 fsz : ∀ id x, F id x → W.new x ∧ x < w.heap.size
 disj : ∀ i j x, F i x → F j x → i = j
 rows : ∀ (id : Nat) k es, os[id]? = some (.row k es) → XRel w A (.sl true k es) (hd id) (F id)
 boxes : ∀ (id : Nat) cs, os[id]? = some (.box cs) → ∃ b T c, hd id = .pointer (some ⟨b, 0, none⟩) ∧ w.heap[b]? = some (.cells c T (0, 0)) ∧ c.size = cs.length ∧
  (∀ (i : Nat) a, cs[i]? = some a → SRel w A os hd a (c.getD i undef)) ∧ F id b
 iters : ∀ (id : Nat) s p, os[id]? = some (.iter s p) → ∃ b, hd id = .pointer (some ⟨b, 0, none⟩) ∧ w.heap[b]? = some (.stringIter s p) ∧ F id b
 pin : ∀ p ∈ W.pin, p.1 < os.length ∧ hd p.1 = p.2
 old : ∀ x, A x → x < W.w.heap.size → W.rd x

section inv
variable {w : World} {A : Nat → Prop} {os : List Obj} {hd : Nat → Value} {v : Value}
theorem SRel.int_inv {k n} (h : SRel w A os hd (.int k n) v) : v = .int k n := by
 cases h with | pure _ _ h => cases h; rfl
theorem SRel.bool_inv {b} (h : SRel w A os hd (.bool b) v) : v = .bool b := by
 cases h with | pure _ _ h => cases h; rfl
theorem SRel.str_inv {b} (h : SRel w A os hd (.str b) v) : v = .string b ∧ b.size ≤ maxLen := by
 cases h with | pure _ _ h => cases h; exact ⟨rfl, ‹_›⟩
theorem SRel.nils_inv (h : SRel w A os hd .nils v) : v = .slice none 0 0 := by
 cases h with | pure _ _ h => cases h; rfl
theorem SRel.und_inv (h : SRel w A os hd .und v) : v = undef := by
 cases h with | pure _ _ h => cases h; rfl
theorem SRel.sl_inv {t k es} (h : SRel w A os hd (.sl t k es) v) : Rel w A (.sl t k es) v := by
 cases h with | pure _ _ h => exact h
theorem SRel.pp_inv {cs} (h : SRel w A os hd (.pp cs) v) : Rel w A (.pp cs) v := by
 cases h with | pure _ _ h => exact h
theorem SRel.fn_inv {f cs} (h : SRel w A os hd (.fn f cs) v) : ∃ vs, v = .func (.func f) #[] vs ∧ vs.size = cs.length ∧ ∀ (i : Nat) a, cs[i]? = some a → SRel w A os hd a (vs.getD i undef) := by
 cases h with
 | pure _ _ h => cases h with | fn _ _ vs hn hc => exact ⟨vs, rfl, hn, fun i a ha => .pure _ _ (hc i a ha)⟩
 | fn _ _ vs hn hc => exact ⟨vs, rfl, hn, hc⟩
theorem SRel.pb_lt {id off} (h : SRel w A os hd (.pb id off) v) : id < os.length := by
 cases h with
 | pure _ _ h => cases h
 | pb => assumption
theorem SRel.pb_inv {id off cs} (h : SRel w A os hd (.pb id off) v) (ho : os[id]? = some (.box cs)) : ∃ b, hd id = .pointer (some ⟨b, 0, none⟩) ∧ v = .pointer (some ⟨b, off, none⟩) := by
 cases h with
 | pure _ _ h => cases h
 | pb _ _ _ _ h => exact h cs ho
theorem SRel.pe_lt {id i j} (h : SRel w A os hd (.pe id i j) v) : id < os.length := by
 cases h with
 | pure _ _ h => cases h
 | pe => assumption
theorem SRel.pe_inv {id i j k es} (h : SRel w A os hd (.pe id i j) v) (ho : os[id]? = some (.row k es)) :
  ∃ b n c, hd id = .slice (some ⟨b, 0, none⟩) n c ∧ 0 ≤ i ∧ i.toNat < es.length ∧ v = .pointer (some ⟨b, i.toNat * k + j, none⟩) := by
 cases h with
 | pure _ _ h => cases h
 | pe _ _ _ _ _ h => exact h k es ho
theorem SRel.it_inv {id s p} (h : SRel w A os hd (.it id) v) (ho : os[id]? = some (.iter s p)) : v = hd id := by
 cases h with
 | pure _ _ h => cases h
 | it _ _ _ h => exact h s p ho
theorem SRel.ob_lt {id} (h : SRel w A os hd (.ob id) v) : id < os.length := by
 cases h with
 | pure _ _ h => cases h
 | ob => assumption
theorem SRel.ob_inv {id k es} (h : SRel w A os hd (.ob id) v) (ho : os[id]? = some (.row k es)) : v = hd id := by
 cases h with
 | pure _ _ h => cases h
 | ob _ _ _ h => exact h k es ho
theorem SRel.vs_lt {id lo hi} (h : SRel w A os hd (.vs id lo hi) v) : id < os.length := by
 cases h with
 | pure _ _ h => cases h
 | vs => assumption
theorem SRel.vs_inv {id lo hi k es} (h : SRel w A os hd (.vs id lo hi) v) (ho : os[id]? = some (.row k es)) : 0 ≤ lo ∧ lo ≤ hi ∧ hi ≤ es.length ∧ ∃ p cap, v = .slice p (hi - lo).toNat cap ∧ (hi - lo).toNat ≤ cap ∧ (lo < hi → ∃ b n c, hd id = .slice (some ⟨b, 0, none⟩) n c ∧ p = some ⟨b, lo.toNat * k, none⟩)  ∧ (lo = 0 → ∃ n, hd id = .slice p n cap) := by
 cases h with
 | pure _ _ h => cases h
 | vs _ _ _ _ _ h => exact h k es ho
theorem SRel.agg_inv {cs} (h : SRel w A os hd (.agg cs) v) : ∃ vs, v = .agg vs ∧ vs.size = cs.length ∧ ∀ (i : Nat) a, cs[i]? = some a → SRel w A os hd a (vs.getD i undef) := by
 cases h with
 | pure _ _ h => cases h with | agg _ vs hn hc => exact ⟨vs, rfl, hn, fun i a ha => .pure _ _ (hc i a ha)⟩
 | agg _ vs hn hc => exact ⟨vs, rfl, hn, hc⟩
theorem SRel.tup_inv {cs} (h : SRel w A os hd (.tup cs) v) : ∃ vs, v = .tuple vs ∧ vs.size = cs.length ∧ ∀ (i : Nat) a, cs[i]? = some a → SRel w A os hd a (vs.getD i undef) := by
 cases h with
 | pure _ _ h => cases h with | tup _ vs hn hc => exact ⟨vs, rfl, hn, fun i a ha => .pure _ _ (hc i a ha)⟩
 | tup _ vs hn hc => exact ⟨vs, rfl, hn, hc⟩
theorem SRel.of_value (x : Value) : SRel w A os hd (AV.ofValue x) x := by
 unfold AV.ofValue
 split
 ·exact .pure _ _ (.int _ _)
 ·exact .pure _ _ (.bool _)
 ·split
  ·exact .pure _ _ (.str _ (by unfold maxLen; omega))
  ·exact .pure _ _ (.any _)
 ·exact .pure _ _ .nils
 ·exact .pure _ _ .nilp
 ·exact .pure _ _ (.any _)
end inv

theorem allPure_get' {l : List AV} (h : AV.allPure l = true) {i : Nat} {x : AV} (hx : l[i]? = some x) : x.isPure = true := by
 induction l generalizing i with
 | nil => simp at hx
 | cons y l ih =>
  unfold AV.allPure at h
  split at h
  ·cases i with
   | zero => simp at hx; subst hx; assumption
   | succ i => simp at hx; exact ih h hx
  ·cases h
theorem SRel.pure_inv' {w : World} {A : Nat → Prop} {os : List Obj} {hd : Nat → Value} {x : AV} {v : Value} (h : SRel w A os hd x v) (hx : match x with | .ob _ | .vs .. | .pb .. | .pe .. | .it _ | .agg _ | .tup _ | .fn .. => False | _ => True) : Rel w A x v := by
 cases h with
 | pure _ _ h => exact h
 | _ => exact hx.elim

theorem str_tot : ∀ l m : List UInt8, (!Op.bytesLess m l) = (Op.bytesLess l m || l == m)
 | [], [] => rfl
 | [], _ :: _ => rfl
 | _ :: _, [] => rfl
 | a :: l, b :: m => by
  have ih := str_tot l m
  simp only [Op.bytesLess]
  by_cases h : a = b
  ·subst h
   have h1 : ¬ a < a := UInt8.lt_irrefl a
   simp [h1, ih]
  ·have h2 : (a == b) = false := by simpa using h
   have h3 : (b == a) = false := by simpa using Ne.symm h
   rcases UInt8.lt_or_lt_of_ne h with h4 | h4
   ·have h5 : ¬ b < a := UInt8.lt_asymm h4
    simp [h2, h3, h4, h5]
   ·have h5 : ¬ a < b := UInt8.lt_asymm h4
    simp [h2, h3, h4, h5]

theorem bnot_eq (b : Bool) : bnot b = !b := by cases b <;> rfl

section lay
variable {P : Program} {L : Lay} (hL : L.ty = layOf P) {t : TypeId}
include hL
theorem lay_info (h : (L.ty t).d ≠ .other) : ∃ i, P.info? t = some i ∧ (L.ty t).n = i.size ∧ (L.ty t).bytes = i.bytes ∧ (L.ty t).zero = Z.ofAll i.zero := by
 rw [hL] at *
 unfold layOf TyI.of at *
 cases hi : P.info? t with
 | none => simp [hi] at h
 | some i => exact ⟨i, rfl, rfl, rfl, rfl⟩
theorem lay_d (h : (L.ty t).d ≠ .other) : (L.ty t).d = D.of (P.underlying t) ∧ (L.ty t).agg = (D.of (P.underlying t)).isAgg := by
 rw [hL] at *
 unfold layOf TyI.of at *
 cases hi : P.info? t with
 | none => simp [hi] at h
 | some i => exact ⟨rfl, rfl⟩
theorem lay_bool (h : (L.ty t).d = .bool) : P.underlying t = some .bool := by
 have h1 := (lay_d hL (by rw [h]; simp)).1
 rw [h] at h1
 unfold D.of at h1
 split at h1 <;> simp_all
theorem lay_int {k} (h : (L.ty t).d = .int k) : P.underlying t = some (.int k) := by
 have h1 := (lay_d hL (by rw [h]; simp)).1
 rw [h] at h1
 unfold D.of at h1
 split at h1 <;> simp_all
theorem lay_str (h : (L.ty t).d = .str) : P.underlying t = some .string := by
 have h1 := (lay_d hL (by rw [h]; simp)).1
 rw [h] at h1
 unfold D.of at h1
 split at h1 <;> simp_all
theorem lay_slice {e} (h : (L.ty t).d = .slice e) : P.underlying t = some (.slice e) := by
 have h1 := (lay_d hL (by rw [h]; simp)).1
 rw [h] at h1
 unfold D.of at h1
 split at h1 <;> simp_all
theorem lay_struct {fs} (h : (L.ty t).d = .struct fs) : ∃ gs, P.underlying t = some (.struct gs) ∧ fs = gs.toList.map fun f => (f.offset, f.type) := by
 have h1 := (lay_d hL (by rw [h]; simp)).1
 rw [h] at h1
 unfold D.of at h1
 split at h1 <;> simp_all
theorem lay_array {n e} (h : (L.ty t).d = .array n e) : P.underlying t = some (.array n e) := by
 have h1 := (lay_d hL (by rw [h]; simp)).1
 rw [h] at h1
 unfold D.of at h1
 split at h1 <;> simp_all
end lay

section ops
variable {P : Program} {np : Nat} {L : Lay} {W : WM} {w : World} {os : List Obj} {hd : Nat → Value} {F : Nat → Nat → Prop} {s : AS} {a : Act}

/-- What is said of an operation that reads. -/
def Yields (P : Program) (w : World) (A : Nat → Prop) (os : List Obj) (hd : Nat → Value) (a : Act) (o : Oper) (K : AV → Prop) : Prop :=
 ∃ x v, K x ∧ SRel w A os hd x v ∧ (execOp a.eval o).run P w = .ok (.value v) w

theorem addr_add (b off n : Nat) : (⟨b, off, none⟩ : Addr).add n = ⟨b, off + n, none⟩ := by
 unfold Addr.add; split <;> simp_all

/-- Cells that lie one behind the other. -/
def Pt (w : World) (A : Nat → Prop) (os : List Obj) (hd : Nat → Value) (b off : Nat) (cs : List AV) : Prop :=
 ∀ (j : Nat) x, cs[j]? = some x → ∃ v, w.cell? ⟨b, off + j, none⟩ = some v ∧ SRel w A os hd x v
def PtR (w : World) (A : Nat → Prop) (b off : Nat) (cs : List AV) : Prop :=
 ∀ (j : Nat) x, cs[j]? = some x → ∃ v, w.cell? ⟨b, off + j, none⟩ = some v ∧ Rel w A x v
theorem Pt.drop {A b off cs} (h : Pt w A os hd b off cs) (n : Nat) : Pt w A os hd b (off + n) (cs.drop n) := fun j x hx => by
 rw [List.getElem?_drop] at hx
 have := h (n + j) x hx
 rwa [← Nat.add_assoc] at this
theorem PtR.drop {A b off cs} (h : PtR w A b off cs) (n : Nat) : PtR w A b (off + n) (cs.drop n) := fun j x hx => by
 rw [List.getElem?_drop] at hx
 have := h (n + j) x hx
 rwa [← Nat.add_assoc] at this
theorem PtR.pt {A b off cs} (h : PtR w A b off cs) : Pt w A os hd b off cs := fun j x hx => let ⟨v, h1, h2⟩ := h j x hx; ⟨v, h1, .pure _ _ h2⟩
theorem Rel.pp_of {A : Nat → Prop} {b off cs} (hb : A b) (h : PtR w A b off cs) : Rel w A (.pp cs) (.pointer (some ⟨b, off, none⟩)) := by
 refine .pp cs b off (fun j => (w.cell? ⟨b, off + j, none⟩).getD undef) hb (fun j hj => ?_) (fun j x hx => ?_)
 ·obtain ⟨v, h1, _⟩ := h j _ (List.getElem?_eq_getElem hj); rw [h1]; rfl
 ·obtain ⟨v, h1, h2⟩ := h j x hx; rw [h1]; exact h2
theorem Rel.pp_inv {A : Nat → Prop} {cs v} (h : Rel w A (.pp cs) v) : ∃ b off, v = .pointer (some ⟨b, off, none⟩) ∧ A b ∧ PtR w A b off cs := by
 cases h with
 | pp _ b off val hb hc hr => exact ⟨b, off, rfl, hb, fun j x hx => ⟨val j, hc j (List.getElem?_eq_some_iff.1 hx).1, hr j x hx⟩⟩
/-- An element of a slice. -/
theorem Rel.sl_elem {A : Nat → Prop} {t k es v} (h : Rel w A (.sl t k es) v) {i : Nat} {e : List AV} (he : es[i]? = some e) :
  ∃ b off cap, v = .slice (some ⟨b, off, none⟩) es.length cap ∧ A b ∧ PtR w A b (off + i * k) e := by
 cases h with
 | sl _ _ _ p cap b off val hl hcap hp hk hc h1c hr =>
  have hi := (List.getElem?_eq_some_iff.1 he).1
  have hne : es ≠ [] := by rintro rfl; simp at hi
  obtain ⟨rfl, hA⟩ := hp hne
  refine ⟨b, off, cap, rfl, hA, fun j x hx => ⟨val i j, ?_, hr i j e x he hx⟩⟩
  have hj := (List.getElem?_eq_some_iff.1 hx).1
  rw [hk e (List.mem_of_getElem? he)] at hj
  rw [Nat.add_assoc]
  exact hc i j hi hj
theorem Rel.sl_len {A : Nat → Prop} {t k es v} (h : Rel w A (.sl t k es) v) : ∃ p cap, v = .slice p es.length cap ∧ es.length ≤ maxLen ∧ es.length ≤ cap := by
 cases h with
 | sl _ _ _ p cap b off val hl hcap hp hk hc h1c hr => exact ⟨p, cap, rfl, hl, hcap⟩
theorem XRel.flat {A : Nat → Prop} {x v} {G : Nat → Prop} (h : XRel w A x v G) (hx : x.flat = true) : Rel w A x v := by
 cases h with
 | pure _ _ _ h _ _ => exact h
 | nil => simp [AV.flat] at hx
 | sl => simp [AV.flat] at hx
 | bx => simp [AV.flat] at hx
 | agg => simp [AV.flat] at hx
 | tup => simp [AV.flat] at hx
theorem allFlat_get {l : List AV} (h : AV.allFlat l = true) {i : Nat} {x : AV} (hx : l[i]? = some x) : x.flat = true := by
 induction l generalizing i with
 | nil => simp at hx
 | cons y l ih =>
  unfold AV.allFlat at h
  split at h
  ·cases i with
   | zero => simp at hx; subst hx; assumption
   | succ i => simp at hx; exact ih h hx
  ·cases h
theorem allNO_get {l : List AV} (h : AV.allNO l = true) {i : Nat} {x : AV} (hx : l[i]? = some x) : x.isOwn = false := by
 induction l generalizing i with
 | nil => simp at hx
 | cons y l ih =>
  unfold AV.allNO at h
  split at h
  ·cases i with
   | zero => simp at hx; subst hx; assumption
   | succ i => simp at hx; exact ih h hx
  ·cases h
theorem XRel.noown {A : Nat → Prop} {x v} {G : Nat → Prop} (h : XRel w A x v G) (hx : x.isOwn = false) : Rel w A x v := by
 cases h with
 | pure _ _ _ h _ _ => exact h
 | nil => simp [AV.isOwn] at hx
 | sl => simp [AV.isOwn] at hx
 | bx => simp [AV.isOwn] at hx
 | agg => simp [AV.isOwn] at hx
 | tup => simp [AV.isOwn] at hx
/-- An element of an own row. -/
theorem XRel.row_elem {A : Nat → Prop} {k es v} {G : Nat → Prop} (h : XRel w A (.sl true k es) v G) {i : Nat} {e : List AV} (he : es[i]? = some e) :
  ∃ b T c cap, v = .slice (some ⟨b, 0, none⟩) es.length cap ∧ G b ∧ w.heap[b]? = some (.cells c T (0, 0)) ∧ e.length = k ∧ i * k + k ≤ c.size ∧
   ∀ (j : Nat) x, e[j]? = some x → w.cell? ⟨b, i * k + j, none⟩ = some (c.getD (i * k + j) undef) ∧ ∃ G', XRel w A x (c.getD (i * k + j) undef) G' := by
 cases h with
 | pure _ _ _ h ho hF => simp [AV.isOwn] at ho
 | nil => simp at he
 | sl _ _ cap b T c F G hb hl hcap hsz hk h1c hr hF h0 hd =>
  have hi := (List.getElem?_eq_some_iff.1 he).1
  have hke := hk e (List.mem_of_getElem? he)
  have h1 : i * k + k ≤ c.size := by
   have : (i + 1) * k ≤ cap * k := Nat.mul_le_mul_right k (by omega)
   rw [Nat.add_mul] at this; omega
  refine ⟨b, T, c, cap, rfl, (hF b).2 (.inl rfl), hb, hke, h1, fun j x hx => ⟨?_, _, hr i j e x he hx⟩⟩
  have hj := (List.getElem?_eq_some_iff.1 hx).1
  have h2 : i * k + j < c.size := by omega
  simp [World.cell?, hb, h2]

theorem run_loadCellsFrom {a : Addr} {f : Nat → Value} : ∀ (n i : Nat) (acc : Array Value), (∀ j, i ≤ j → j < i + n → w.cell? (a.add j) = some (f j)) →
  (loadCellsFrom a i n acc).run P w = .ok (acc ++ ((List.range' i n).map f).toArray) w
 | 0, i, acc, _ => by simp [loadCellsFrom, go_sem]
 | n + 1, i, acc, h => by
  have h0 := h i (Nat.le_refl _) (by omega)
  have ih := run_loadCellsFrom n (i + 1) (acc.push (f i)) (fun j h1 h2 => h j (by omega) (by omega))
  simp only [loadCellsFrom, List.range'_succ]
  simp [go_sem, h0, ih]

theorem run_isAgg (hL : L.ty = layOf P) {t : TypeId} (h : (L.ty t).d ≠ .other) : (isAgg t).run P w = .ok (L.ty t).agg w := by
 obtain ⟨h1, h2⟩ := lay_d hL h
 rw [h2]
 rw [h1] at h
 unfold isAgg
 cases hu : P.underlying t with
 | none => simp [hu, D.of] at h
 | some d => cases d <;> simp [go_sem, hu, D.of, D.isAgg, underlying]

theorem run_sizeOf (hL : L.ty = layOf P) {t : TypeId} (h : (L.ty t).d ≠ .other) : (sizeOf t).run P w = .ok (L.ty t).n w := by
 obtain ⟨i, h1, h2, _⟩ := lay_info hL h
 rw [h2]
 simp [sizeOf, typeInfo, go_sem, h1]

theorem bytesOf_size (ns : List Int) : (bytesOf ns).size = ns.length := by
 have : ∀ (ns : List Int) (r : ByteArray), (ns.foldl (fun r n => r.push (UInt8.ofNat n.toNat)) r).size = r.size + ns.length := by
  intro ns
  induction ns with
  | nil => intro r; rfl
  | cons n ns ih => intro r; simp only [List.foldl_cons, ih, List.length_cons]; rw [ByteArray.size_push]; omega
 simpa [bytesOf] using this ns ByteArray.empty

/-- Bytes as a string. -/
theorem run_toStr {A : Nat → Prop} {t k v} {ns : List Int} (h : Rel w A (.sl t k (ns.map fun n => [AV.int .u8 n])) v) : (Conv.bytesToString v).run P w = .ok (.string (bytesOf ns)) w ∧ (bytesOf ns).size ≤ maxLen := by
 rw [bytesOf_size]
 cases h with
 | sl _ _ _ p cap b off val hl hcap hp hk hc h1c hr =>
  refine ⟨?_, by simpa using hl⟩
  cases ns with
  | nil =>
   cases p with
   | none => rfl
   | some a =>
    refine run_bytesToString w a _ cap [] ?_
    rfl
  | cons n ns =>
   obtain ⟨rfl, _⟩ := hp (by simp)
   have hk1 : k = 1 := by have := hk [AV.int .u8 n] (by simp); simpa using this.symm
   subst hk1
   have hv : ∀ i m, (n :: ns)[i]? = some m → val i 0 = .int .u8 m := fun i m hm => by
    have := hr i 0 [AV.int .u8 m] (.int .u8 m) (by rw [List.getElem?_map, hm]; rfl) rfl
    generalize val i 0 = q at this
    cases this; rfl
   refine run_bytesToString w _ _ cap (n :: ns) ?_
   unfold loadCells
   rw [run_loadCellsFrom (f := fun i => val i 0) _ 0 #[] (fun j _ hj => by
    rw [addr_add]
    have := hc j 0 (by simpa using hj) (by omega)
    simpa using this)]
   congr 1
   simp only [List.length_map]
   rw [Array.empty_append, ← List.range_eq_range']
   congr 1
   refine List.ext_getElem? fun i => ?_
   rw [List.getElem?_map, List.getElem?_map]
   by_cases hi : i < (n :: ns).length
   ·rw [List.getElem?_range hi, List.getElem?_eq_getElem hi]
    simp only [Option.map_some]
    rw [hv i _ (List.getElem?_eq_getElem hi)]
   ·rw [List.getElem?_eq_none (by simpa using Nat.le_of_not_lt hi), List.getElem?_eq_none (by omega)]; rfl

/-- A load out of cells that are known. -/
theorem run_loadVar (hL : L.ty = layOf P) {A : Nat → Prop} {t : TypeId} {b off : Nat} {cs : List AV} {K : AV → Prop} (hp : Pt w A os hd b off cs) (hk : ofCells L t cs K) :
  ∃ x v, K x ∧ SRel w A os hd x v ∧ (loadVar t ⟨b, off, none⟩).run P w = .ok v w := by
 unfold ofCells at hk
 split at hk
 ·exact hk.elim
 ·have ha : (L.ty t).agg = true := by assumption
  have hd' : (L.ty t).d ≠ .other := by intro e; simp_all
  split at hk
  ·rename_i hn
   have h1 := run_isAgg (w := w) hL hd'
   rw [ha] at h1
   have h2 : (loadCellsFrom ⟨b, off, none⟩ 0 (L.ty t).n #[]).run P w = .ok ((List.range (L.ty t).n).map fun j => (w.cell? ⟨b, off + j, none⟩).getD undef).toArray w := by
    rw [run_loadCellsFrom (f := fun j => (w.cell? ⟨b, off + j, none⟩).getD undef)]
    ·simp [List.range_eq_range']
    ·intro j _ hj
     obtain ⟨v, hv, _⟩ := hp j _ (List.getElem?_eq_getElem (by omega : j < cs.length))
     rw [addr_add, hv]; rfl
   refine ⟨_, _, hk, .agg _ ((List.range (L.ty t).n).map fun j => (w.cell? ⟨b, off + j, none⟩).getD undef).toArray (by simp; omega) (fun i x hx => ?_), ?_⟩
   ·rw [List.getElem?_take] at hx
    split at hx
    ·rename_i hi
     obtain ⟨v, hv, hr⟩ := hp i x hx
     simpa [Array.getD, hi, hv] using hr
    ·cases hx
   ·simp [loadVar, go_sem, h1, h2, run_sizeOf hL hd']
  ·exact hk.elim
 ·have ha : (L.ty t).agg = false := by assumption
  have hd' : (L.ty t).d ≠ .other := by intro e; simp_all
  split at hk
  ·rename_i c _
   obtain ⟨v, hv, hr⟩ := hp 0 c (by simp)
   have h1 := run_isAgg (w := w) hL hd'
   rw [ha] at h1
   refine ⟨_, v, hk, hr, ?_⟩
   simp only [Nat.add_zero] at hv
   simp [loadVar, go_sem, h1, hv]
  ·exact hk.elim

theorem run_v {α : Type} {x : Sem α} {v : α} (h : x.run P w = .ok v w) (f : α → Sem Next) : (x >>= f).run P w = (f v).run P w := by
 rw [Sem.run_bind, h]; rfl
theorem run_load_op {t : TypeId} {x : Operand} {A : Addr} {v : Value} {dst : Option Tmp} {ty : TypeId} {pos : String} {af : Array Edge} {g : Option (Nat × Bool)}
  (hp : a.eval x = .pointer (some A)) (h : (loadVar t A).run P w = .ok v w) : (execOp a.eval ⟨dst, .load t x, ty, pos, af, g⟩).run P w = .ok (.value v) w := by
 simp only [execOp, hp, Instr.loadAt, Instr.sureAddr]
 rw [Sem.run_bind]
 have h1 : (do loadVar t (← (pure A : Sem Addr)) : Sem Value).run P w = .ok v w := h
 rw [h1]
 rfl
theorem lay_field (hL : L.ty = layOf P) {t f off ft} (h : fieldOf L t f = some (off, ft)) :
  ∃ gs g, P.underlying t = some (.struct gs) ∧ gs[f]? = some g ∧ g.offset = off ∧ g.type = ft ∧ (L.ty ft).n ≠ 0 := by
 unfold fieldOf at h
 split at h
 ·rename_i fs hd'
  obtain ⟨gs, h1, h2⟩ := lay_struct hL hd'
  subst h2
  split at h
  ·rename_i o t' hf
   rw [List.getElem?_map] at hf
   rw [Array.getElem?_toList] at hf
   cases hg : gs[f]? with
   | none => simp [hg] at hf
   | some g =>
    simp [hg] at hf
    split at h
    ·cases h
    ·cases h
     obtain ⟨h3, h4⟩ := hf
     exact ⟨gs, g, h1, hg, h3, h4, by assumption⟩
  ·cases h
 ·cases h
theorem lay_n_other (hL : L.ty = layOf P) {t : TypeId} (h : (L.ty t).n ≠ 0) : ∃ i, P.info? t = some i ∧ (L.ty t).n = i.size := by
 rw [hL] at *
 unfold layOf TyI.of at *
 cases hi : P.info? t with
 | none => simp [hi] at h
 | some i => exact ⟨i, rfl, rfl⟩
theorem run_fieldAt (hL : L.ty = layOf P) {t f off ft b o} (h : fieldOf L t f = some (off, ft)) :
  (Instr.fieldAt t (.pointer (some ⟨b, o, none⟩)) f).run P w = .ok (.pointer (some ⟨b, o + off, none⟩)) w := by
 obtain ⟨gs, g, h1, h2, h3, h4, h5⟩ := lay_field hL h
 obtain ⟨i, h6, h7⟩ := lay_n_other hL h5
 subst h3 h4
 have h8 : i.size ≠ 0 := by omega
 have hg : ⟨b, o, none⟩ = (⟨b, o, none⟩ : Addr) := rfl
 simp [Instr.fieldAt, underlying, go_sem, h1, h2, Instr.sureAddr, fieldPlace, sizeOf, typeInfo, h6, h8, addr_add]
theorem elemK_spec (hL : L.ty = layOf P) {t k} (h : elemK L t = some k) : ∃ e, P.underlying t = some (.slice e) ∧ ∀ w, (sizeOf e).run P w = .ok k w := by
 unfold elemK at h
 split at h
 ·rename_i e hd'
  split at h
  ·cases h
  ·cases h
   exact ⟨e, lay_slice hL hd', fun w => run_sizeOf hL (by assumption)⟩
 ·cases h
theorem run_part (hL : L.ty = layOf P) {A : Nat → Prop} {t : TypeId} {off : Nat} {cs : List AV} {vs : Array Value} {K : AV → Prop} (hn : vs.size = cs.length)
  (hc : ∀ (i : Nat) x, cs[i]? = some x → SRel w A os hd x (vs.getD i undef)) (hk : ofCells L t (cs.drop off) K) :
  ∃ x v, K x ∧ SRel w A os hd x v ∧ (part t vs off).run P w = .ok v w := by
 unfold ofCells at hk
 split at hk
 ·exact hk.elim
 ·have ha : (L.ty t).agg = true := by assumption
  have hd' : (L.ty t).d ≠ .other := by intro e; simp_all
  split at hk
  ·rename_i hl
   rw [List.length_drop] at hl
   have h1 := run_isAgg (w := w) hL hd'
   rw [ha] at h1
   have h2 := run_sizeOf (w := w) hL hd'
   refine ⟨_, .agg (vs.extract off (off + (L.ty t).n)), hk, .agg _ _ (by simp; omega) (fun i x hx => ?_), ?_⟩
   ·rw [List.getElem?_take] at hx
    split at hx
    ·rw [List.getElem?_drop] at hx
     have := hc (off + i) x hx
     have h3 := (List.getElem?_eq_some_iff.1 hx).1
     have h4 : off + i < vs.size := by omega
     have h5 : i < min (off + (L.ty t).n) vs.size - off := by omega
     simpa [Array.getD, h4, h5] using this
    ·cases hx
   ·unfold part
    rw [Sem.run_bind, h1]
    simp only [Result.andThen_ok, if_true]
    rw [Sem.run_bind, h2]
    rfl
  ·exact hk.elim
 ·have ha : (L.ty t).agg = false := by assumption
  have hd' : (L.ty t).d ≠ .other := by intro e; simp_all
  split at hk
  ·rename_i c l hcl
   have h0 : cs[off]? = some c := by
    have : (cs.drop off)[0]? = some c := by rw [hcl]; rfl
    rwa [List.getElem?_drop] at this
   have h3 := (List.getElem?_eq_some_iff.1 h0).1
   have h4 : off < vs.size := by omega
   have h1 := run_isAgg (w := w) hL hd'
   rw [ha] at h1
   refine ⟨_, _, hk, hc off c h0, ?_⟩
   unfold part
   rw [Sem.run_bind, h1]
   have h5 : vs[off]? = some (vs.getD off undef) := by simp [Array.getD, h4]
   simp only [Result.andThen_ok, Bool.false_eq_true, if_false]
   rw [h5]
   rfl
  ·exact hk.elim
theorem rowsOf_at (k : Nat) : ∀ (n : Nat) (cs : List AV) (i : Nat) (e : List AV), (rowsOf k n cs)[i]? = some e → i < n ∧ e = (cs.drop (i * k)).take k
 | 0, cs, i, e, h => by simp [rowsOf] at h
 | n + 1, cs, i, e, h => by
  unfold rowsOf at h
  cases i with
  | zero => simp at h; subst h; simp
  | succ i =>
   simp only [List.getElem?_cons_succ] at h
   obtain ⟨h1, h2⟩ := rowsOf_at k n _ i e h
   refine ⟨by omega, ?_⟩
   rw [h2, List.drop_drop, Nat.add_mul, Nat.one_mul, Nat.add_comm]
theorem ofCells_take {t : TypeId} {cs : List AV} {K : AV → Prop} (h : ofCells L t (cs.take (L.ty t).n) K) : ofCells L t cs K := by
 unfold ofCells at h ⊢
 generalize (L.ty t).d = d at h ⊢
 generalize (L.ty t).agg = g at h ⊢
 cases g
 ·cases d <;> first
   | exact h.elim
   | (cases cs with
    | nil => simp at h
    | cons c l => cases hn : (L.ty t).n with
     | zero => rw [hn] at h; simp at h
     | succ n => rw [hn] at h; simpa using h)
 ·cases d <;> first
   | exact h.elim
   | (simp only at h ⊢
      split at h
      ·rename_i hl
       rw [List.length_take] at hl
       rw [if_pos (by omega)]
       rw [List.take_take, Nat.min_self] at h
       exact h
      ·exact h.elim)
theorem lay_eqA (hL : L.ty = layOf P) {t e : TypeId} {len : Nat} (h : (L.ty t).eq = true) (hu : P.underlying t = some (.array len e)) : P.eqGuardType P.depth t = false := by
 rw [hL] at h
 have h2 : eqOK P t = true := by
  unfold layOf TyI.of at h
  split at h
  ·cases h
  ·exact h
 unfold eqOK at h2
 rw [hu] at h2
 simpa using h2
theorem lay_eq (hL : L.ty = layOf P) {t : TypeId} {gs0 : Array Field} (hs : P.underlying t = some (.struct gs0)) (h : (L.ty t).eq = true) : P.underlying t = some (.struct (P.fieldsOf t)) ∧ P.stoodInHeld t = false ∧ P.eqGuardType P.depth t = false ∧ ∀ g ∈ (P.fieldsOf t).toList, g.name ≠ "_" := by
 rw [hL] at h
 have h2 : eqOK P t = true := by
  unfold layOf TyI.of at h
  split at h
  ·cases h
  ·exact h
 unfold eqOK at h2
 split at h2
 ·rename_i gs hgs
  have e : P.fieldsOf t = gs := by unfold Program.fieldsOf; rw [hgs]
  rw [e]
  simp only [Bool.and_eq_true, Bool.not_eq_true', List.all_eq_true] at h2
  exact ⟨hgs, h2.1.1, h2.1.2, fun g hg => by simpa using h2.2 g hg⟩
 ·rename_i hu; rw [hs] at hu; cases hu
 ·cases h2
theorem run_cellO (hL : L.ty = layOf P) {A : Nat → Prop} {t : TypeId} {off : Nat} {cs : List AV} {vs : Array Value} {x : AV} (hn : vs.size = cs.length)
  (hc : ∀ (i : Nat) x, cs[i]? = some x → SRel w A os hd x (vs.getD i undef)) (hk : cellO L t (cs.drop off) = some x) :
  ∃ v, SRel w A os hd x v ∧ (part t vs off).run P w = .ok v w := by
 have h2 : ofCells L t (cs.drop off) (· = x) := by
  unfold cellO at hk
  unfold ofCells
  generalize (L.ty t).d = d at hk ⊢
  generalize (L.ty t).agg = g at hk ⊢
  cases g
  ·generalize cs.drop off = l at hk ⊢
   cases d <;> cases l <;> first | (cases hk; done) | (simp only [Option.some.injEq] at hk; exact hk) | (cases hk; rfl)
  ·cases d <;> simp only at hk ⊢ <;> first | cases hk | (split at hk <;> first | (rename_i h; rw [if_pos h]; simpa using hk) | cases hk)
 obtain ⟨y, v, h3, h4, h5⟩ := run_part hL hn hc h2
 subst h3
 exact ⟨v, h4, h5⟩
theorem eqFs_sound (hL : L.ty = layOf P) {A : Nat → Prop} {f : TypeId → AV → AV → Option (List (AV × AV))} {d : Nat} {cs ds : List AV} {xs ys : Array Value} (n1 : xs.size = cs.length) (n2 : ys.size = ds.length)
  (c1 : ∀ (i : Nat) x, cs[i]? = some x → SRel w A os hd x (xs.getD i undef)) (c2 : ∀ (i : Nat) x, ds[i]? = some x → SRel w A os hd x (ys.getD i undef))
  (hf : ∀ t x y u v ps, SRel w A os hd x u → SRel w A os hd y v → f t x y = some ps → (Op.equalIn d t u v).run P w = .ok (ps.all pairEq) w) :
  ∀ (gs : List Field) (ps : List (AV × AV)), (∀ g ∈ gs, g.name ≠ "_") → eqFs L f (gs.map fun f => (f.offset, f.type)) cs ds = some ps → (Op.eqFields d xs ys gs).run P w = .ok (ps.all pairEq) w
 | [], ps, _, h => by
  simp only [List.map_nil, eqFs, Option.some.injEq] at h
  subst h
  simp [Op.eqFields]
 | g :: gs, ps, hg, h => by
  simp only [List.map_cons, eqFs] at h
  split at h
  ·rename_i x y hx hy
   split at h
   ·rename_i a b ha hb
    cases h
    obtain ⟨u, h1, h2⟩ := run_cellO (w := w) hL n1 c1 hx
    obtain ⟨v, h3, h4⟩ := run_cellO (w := w) hL n2 c2 hy
    have h5 := hf _ _ _ _ _ _ h1 h3 ha
    have ih := eqFs_sound hL n1 n2 c1 c2 hf gs b (fun g hg' => hg g (List.mem_cons_of_mem _ hg')) hb
    simp only [Op.eqFields]
    rw [if_pos (hg g (List.mem_cons_self ..))]
    simp only [Sem.run_bind, h2, h4, h5, Result.andThen_ok]
    cases he : a.all pairEq
    ·simp [he]
    ·simp only [Bool.not_true, Bool.false_eq_true, if_false, ih, List.all_append, he, Bool.true_and]
   ·cases h
  ·cases h
theorem eqItems_sound (hL : L.ty = layOf P) {A : Nat → Prop} {f : TypeId → AV → AV → Option (List (AV × AV))} {d n : Nat} {e : TypeId} {cs ds : List AV} {xs ys : Array Value} (n1 : xs.size = cs.length) (n2 : ys.size = ds.length)
  (c1 : ∀ (i : Nat) x, cs[i]? = some x → SRel w A os hd x (xs.getD i undef)) (c2 : ∀ (i : Nat) x, ds[i]? = some x → SRel w A os hd x (ys.getD i undef))
  (hf : ∀ t x y u v ps, SRel w A os hd x u → SRel w A os hd y v → f t x y = some ps → (Op.equalIn d t u v).run P w = .ok (ps.all pairEq) w) :
  ∀ (is : List Nat) (ps : List (AV × AV)), eqFs L f (is.map fun i => (i * n, e)) cs ds = some ps → (Op.eqItems d e n xs ys is).run P w = .ok (ps.all pairEq) w
 | [], ps, h => by
  simp only [List.map_nil, eqFs, Option.some.injEq] at h
  subst h
  simp [Op.eqItems]
 | i :: is, ps, h => by
  simp only [List.map_cons, eqFs] at h
  split at h
  ·rename_i x y hx hy
   split at h
   ·rename_i a b ha hb
    cases h
    obtain ⟨u, h1, h2⟩ := run_cellO (w := w) hL n1 c1 hx
    obtain ⟨v, h3, h4⟩ := run_cellO (w := w) hL n2 c2 hy
    have h5 := hf _ _ _ _ _ _ h1 h3 ha
    have ih := eqItems_sound hL n1 n2 c1 c2 hf is b hb
    simp only [Op.eqItems, Sem.run_bind, h2, h4, h5, Result.andThen_ok]
    cases he : a.all pairEq
    ·simp [he]
    ·simp only [Bool.not_true, Bool.false_eq_true, if_false, ih, List.all_append, he, Bool.true_and]
   ·cases h
  ·cases h
theorem eqL_sound (hL : L.ty = layOf P) {A : Nat → Prop} : ∀ (d : Nat) (t : TypeId) (x y : AV) (u v : Value) (ps : List (AV × AV)), d ≤ 8 → SRel w A os hd x u → SRel w A os hd y v → eqL L d t x y = some ps →
  (∀ D, d ≤ D → (Op.equalIn D t u v).run P w = .ok (ps.all pairEq) w) ∧ (x = x → (∃ cs, x = .agg cs) → P.eqGuardType P.depth t = false)
 | 0, t, x, y, u, v, ps, _, hx, hy, h => by simp [eqL] at h
 | d + 1, t, x, y, u, v, ps, hd8, hx, hy, h => by
  unfold eqL at h
  split at h
  ·rename_i k0 k a k' b ht
   split at h
   ·rename_i e
    subst e
    cases h
    refine ⟨fun D hD => ?_, fun _ ⟨cs, e⟩ => by cases e⟩
    obtain ⟨D, rfl⟩ : ∃ D', D = D' + 1 := ⟨D - 1, by omega⟩
    rw [hx.int_inv, hy.int_inv, run_equalIn_int w D t k k0 a b (lay_int hL ht)]
    simp [pairEq]
   ·cases h
  ·rename_i a b ht
   cases h
   refine ⟨fun D hD => ?_, fun _ ⟨cs, e⟩ => by cases e⟩
   obtain ⟨D, rfl⟩ : ∃ D', D = D' + 1 := ⟨D - 1, by omega⟩
   rw [hx.bool_inv, hy.bool_inv, run_equalIn_bool' w D t a b (lay_bool hL ht)]
   simp [pairEq]
  ·rename_i a b ht
   cases h
   refine ⟨fun D hD => ?_, fun _ ⟨cs, e⟩ => by cases e⟩
   obtain ⟨D, rfl⟩ : ∃ D', D = D' + 1 := ⟨D - 1, by omega⟩
   rw [hx.str_inv.1, hy.str_inv.1, run_equalIn_string w D t a b (lay_str hL ht)]
   simp [pairEq]
  ·rename_i fs cs ds ht
   split at h
   ·rename_i heq
    obtain ⟨xs, rfl, n1, c1⟩ := hx.agg_inv
    obtain ⟨ys, rfl, n2, c2⟩ := hy.agg_inv
    obtain ⟨gs, g1, g2⟩ := lay_struct hL ht
    obtain ⟨h1, h2, h3, h4⟩ := lay_eq hL g1 heq
    have e : P.fieldsOf t = gs := by unfold Program.fieldsOf; rw [g1]
    refine ⟨fun D hD => ?_, fun _ _ => h3⟩
    obtain ⟨D, rfl⟩ : ∃ D', D = D' + 1 := ⟨D - 1, by omega⟩
    rw [run_equalIn_agg w D t xs ys h1 h2]
    rw [g2] at h
    rw [e] at h4 ⊢
    exact eqFs_sound hL n1 n2 c1 c2 (fun t x y u v ps hx hy hf => (eqL_sound hL d t x y u v ps (by omega) hx hy hf).1 D (by omega)) gs.toList ps h4 h
   ·cases h
  ·rename_i len e cs ds ht
   split at h
   ·cases h
   ·rename_i heq hne
    obtain ⟨xs, rfl, n1, c1⟩ := hx.agg_inv
    obtain ⟨ys, rfl, n2, c2⟩ := hy.agg_inv
    have hu := lay_array hL ht
    obtain ⟨i, h1, h2, _⟩ := lay_info hL (t := e) hne
    have hco : P.cellsOf e = (L.ty e).n := by rw [h2]; simp [Program.cellsOf, h1]
    refine ⟨fun D hD => ?_, fun _ _ => lay_eqA hL heq hu⟩
    obtain ⟨D, rfl⟩ : ∃ D', D = D' + 1 := ⟨D - 1, by omega⟩
    rw [run_equalIn_array w D xs ys hu h1, hco]
    exact eqItems_sound hL n1 n2 c1 c2 (fun t x y u v ps hx hy hf => (eqL_sound hL d t x y u v ps (by omega) hx hy hf).1 D (by omega)) _ ps h
   ·cases h
  ·cases h
theorem execBin_agg {op : BinOp} {dst : Option Tmp} {ty : TypeId} {pos : String} {af : Array Edge} {g : Option (Nat × Bool)} {t t' : TypeId} {x y : Operand} {xs ys : Array Value} (hx : a.eval x = .agg xs) (hy : a.eval y = .agg ys) (h : P.eqGuardType P.depth t = false) {b : Value} (hb : (binOp op t (.agg xs) (.agg ys)).run P w = .ok b w) :
  (execOp a.eval ⟨dst, .binOp op t x y t', ty, pos, af, g⟩).run P w = .ok (.value b) w := by
 simp only [execOp, hx, hy]
 simp [Sem.run_bind, run_eqGuard_agg w op t x y xs ys h, hb]
theorem val_binOp [St] (hL : L.ty = layOf P) {A : Nat → Prop} (d : Option Tmp) (ty : TypeId) (pos : String) (af : Array Edge) (g : Option (Nat × Bool)) (op : BinOp) (t t' : TypeId) (x y : Operand) (K : AV → Prop)
  (hx : SRel w A os hd (s.get x) (a.eval x)) (hy : SRel w A os hd (s.get y) (a.eval y)) (hk : abin (stdE np P) L op t (s.get x) (s.get y) K) :
  Yields P w A os hd a ⟨d, .binOp op t x y t', ty, pos, af, g⟩ K := by
 generalize s.get x = p at *
 generalize s.get y = q at *
 unfold abin at hk
 split at hk
 ·rename_i k m k' n
  have e1 := hx.int_inv
  have e2 := hy.int_inv
  split at hk
  ·obtain ⟨hz, hk⟩ := hk
   exact ⟨_, _, hk, .pure _ _ (.int _ _), by
    simp only [execOp, e1, e2]
    simp [go_sem, eqGuard, binOp, Op.shift, Int.not_lt.2 hz, Nat.min]⟩
  split at hk
  ·subst k'
   unfold abinInt at hk
   unfold Yields
   cases op <;> simp only [stdE] at hk
   case add | sub | mul => exact ⟨_, _, hk, .pure _ _ (.int _ _), by simp only [execOp, e1, e2]; simp [go_sem, eqGuard, binOp, Op.intArith]⟩
   case and | or | xor => exact ⟨_, _, hk, .pure _ _ (.int _ _), by simp only [execOp, e1, e2]; simp [go_sem, eqGuard, binOp, Op.intBits, bitsOf]⟩
   case quo | rem => obtain ⟨hz, hk⟩ := hk; exact ⟨_, _, hk, .pure _ _ (.int _ _), by
    simp only [execOp, e1, e2]
    simp [go_sem, eqGuard, binOp, Op.intDiv, hz]⟩
   case lss | leq | gtr | geq | eql | neq => exact ⟨_, _, hk, .pure _ _ (.bool _), by simp only [execOp, e1, e2]; simp [go_sem, eqGuard, binOp, Op.intCmp, bne, bnot_eq]⟩
   all_goals exact hk.elim
  ·exact hk.elim
 ·rename_i u v'
  obtain ⟨e1, h1⟩ := hx.str_inv
  obtain ⟨e2, h2⟩ := hy.str_inv
  unfold abinStr at hk
  unfold Yields
  cases op <;> simp only [stdE] at hk
  case add => exact ⟨_, _, hk.2, .pure _ _ (.str _ (by rw [ByteArray.size_append]; exact hk.1)), by
   have hm := hk.1
   unfold maxLen at hm
   simp only [execOp, e1, e2]
   simp [go_sem, eqGuard, binOp, Op.stringOp, IntKind.max, IntKind.signed, IntKind.bits]; omega⟩
  case lss | geq | eql | neq => exact ⟨_, _, hk, .pure _ _ (.bool _), by
   simp only [execOp, e1, e2]; simp [go_sem, eqGuard, binOp, Op.stringOp, bnot_eq]⟩
  case leq => exact ⟨_, _, hk, .pure _ _ (.bool _), by
   simp only [execOp, e1, e2]; simp only [bnot_eq, str_tot]; simp [go_sem, eqGuard, binOp, Op.stringOp]⟩
  case gtr =>
   have e3 : Op.bytesLess v'.toList u.toList = !(Op.bytesLess u.toList v'.toList || u.toList == v'.toList) := by rw [← str_tot]; simp
   exact ⟨_, _, hk, .pure _ _ (.bool _), by
    simp only [execOp, e1, e2]; rw [e3]; simp [go_sem, eqGuard, binOp, Op.stringOp]⟩
  all_goals exact hk.elim
 ·rename_i b c
  have e1 := hx.bool_inv
  have e2 := hy.bool_inv
  unfold Yields
  split at hk
  ·have ht := lay_bool hL (by assumption)
   exact ⟨_, _, hk, .pure _ _ (.bool _), by simp only [execOp, e1, e2]; cases b <;> cases c <;> simp [go_sem, eqGuard, beqB, bnot, run_eql_bool, ht]⟩
  ·have ht := lay_bool hL (by assumption)
   exact ⟨_, _, hk, .pure _ _ (.bool _), by simp only [execOp, e1, e2]; cases b <;> cases c <;> simp [go_sem, eqGuard, beqB, bnot, binOp, run_equal_bool, ht]⟩
  ·exact hk.elim
 ·rename_i cs ds
  obtain ⟨xs, e1, n1, c1⟩ := hx.agg_inv
  obtain ⟨ys, e2, n2, c2⟩ := hy.agg_inv
  unfold Yields
  split at hk
  ·rename_i ps hps
   obtain ⟨h1, h2⟩ := eqL_sound (w := w) (A := A) (os := os) (hd := hd) hL 8 t _ _ _ _ _ (by omega) hx hy hps
   rw [e1, e2] at h1
   exact ⟨_, _, hk, .pure _ _ (.bool _), execBin_agg e1 e2 (h2 rfl ⟨_, rfl⟩) (by rw [run_eql_struct, h1 10000 (by omega)]; rfl)⟩
  ·rename_i ps hps
   obtain ⟨h1, h2⟩ := eqL_sound (w := w) (A := A) (os := os) (hd := hd) hL 8 t _ _ _ _ _ (by omega) hx hy hps
   rw [e1, e2] at h1
   exact ⟨_, _, hk, .pure _ _ (.bool _), execBin_agg e1 e2 (h2 rfl ⟨_, rfl⟩) (by rw [run_neq_struct, h1 10000 (by omega), bnot_eq]; rfl)⟩
  ·exact hk.elim
 ·exact hk.elim

theorem run_indexAt {t e k : Nat} {b off len cap : Nat} {kk : IntKind} {i : Int} (he : P.underlying t = some (.slice e)) (hn : ∀ w, (sizeOf e).run P w = .ok k w) (h0 : 0 ≤ i) (hlt : i.toNat < len) :
  (Instr.indexAt t (.slice (some ⟨b, off, none⟩) len cap) (.int kk i)).run P w = .ok (.pointer (some ⟨b, off + i.toNat * k, none⟩)) w := by
 have hlt' : i < (len : Int) := by omega
 have h1 := fun w => run_underlying (P := P) he w
 unfold Instr.indexAt
 simp only [asIntOf, pure_bind]
 simp [h1, hn, h0, hlt', addr_add]
theorem XRel.len_le {A : Nat → Prop} {k : Nat} {es : List (List AV)} {v : Value} {G : Nat → Prop} (h : XRel w A (.sl true k es) v G) : es.length ≤ maxLen := by
 cases h with
 | pure _ _ _ _ ho _ => simp [AV.isOwn] at ho
 | nil => simp
 | sl _ _ cap b T c _ G hb hl => exact hl
theorem inArr_spec {i : Int} {len : Nat} {d : D} (h : inArr i len d = true) : 0 ≤ i ∧ i < (len : Int) ∧ d ≠ .other := by
 unfold inArr at h
 split at h
 ·cases h
 ·rename_i n hd
  refine ⟨Int.natCast_nonneg _, ?_, hd⟩
  have : n < len := by simpa [Nat.blt_eq] using h
  show (n : Int) < len
  omega
 ·cases h
theorem run_indexArr {t e k : Nat} {b off len : Nat} {kk : IntKind} {i : Int} (he : P.underlying t = some (.array len e)) (hn : (sizeOf e).run P w = .ok k w) (h0 : 0 ≤ i) (hlt : i < (len : Int)) :
  (Instr.indexAt t (.pointer (some ⟨b, off, none⟩)) (.int kk i)).run P w = .ok (.pointer (some ⟨b, off + i.toNat * k, none⟩)) w := by
 have h1 := fun w => run_underlying (P := P) he w
 unfold Instr.indexAt
 simp only [asIntOf, pure_bind]
 simp [h1, hn, h0, hlt, addr_add, Instr.sureAddr]
theorem isStr_spec (hL : L.ty = layOf P) {t} (h : isStr L t = true) : P.underlying t = some .string := by
 unfold isStr at h
 split at h
 ·exact lay_str hL (by assumption)
 ·cases h
theorem run_builtin {c : Call} {b : Builtin} {v : Value} {dst : Option Tmp} {ty : TypeId} {pos : String} {af : Array Edge} {g : Option (Nat × Bool)} (hc : c.callee = .builtin b)
  (h : (builtin b c.argTypes ty (c.args.map fun | .const _ => true | _ => false) (c.args.map a.eval)).run P w = .ok (.value v) w) :
  (execOp a.eval ⟨dst, .call c, ty, pos, af, g⟩).run P w = .ok (.value v) w := by
 obtain ⟨ce, as', ts⟩ := c
 cases hc
 exact h
theorem run_sliceBound {k : IntKind} {i : Int} {y : Nat} {code : BoundsCode} (h0 : 0 ≤ i) (h1 : i ≤ y) : (Instr.sliceBound (.int k i) y code).run P w = .ok i.toNat w := by
 simp [Instr.sliceBound, asIntOf, go_sem, h0, h1]
theorem run_sliceBounds {kl kh : IntKind} {lo hi : Option Int} {b : Bool} {len cap : Nat} (h0 : 0 ≤ lo.getD 0) (h1 : lo.getD 0 ≤ hi.getD len) (h2 : hi.getD len ≤ len) (h3 : len ≤ cap) :
  (Instr.sliceBounds b len cap (lo.map (.int kl)) (hi.map (.int kh)) none).run P w = .ok ((lo.getD 0).toNat, (hi.getD len).toNat, cap) w := by
 unfold Instr.sliceBounds
 cases lo with
 | none =>
  cases hi with
  | none => simp [go_sem]
  | some h =>
   simp at h1 h2
   have e := fun c => run_sliceBound (P := P) (w := w) (k := kh) (code := c) h1 (by omega : h ≤ cap)
   simp [e, go_sem]
 | some l =>
  cases hi with
  | none =>
   simp at h0 h1
   have e := fun c => run_sliceBound (P := P) (w := w) (k := kl) (code := c) h0 h1
   simp [e, go_sem]
  | some h =>
   simp at h0 h1 h2
   have e1 := fun c => run_sliceBound (P := P) (w := w) (k := kh) (code := c) (by omega : 0 ≤ h) (by omega : h ≤ cap)
   have e2 := fun c => run_sliceBound (P := P) (w := w) (k := kl) (y := h.toNat) (code := c) h0 (by omega)
   simp only [Option.map_some, Sem.run_bind]
   rw [show Sem.run P (pure cap) w = .ok cap w from rfl]
   simp only [Result.andThen_ok]
   rw [e1]
   simp only [Result.andThen_ok]
   rw [e2]
   rfl
theorem optInt_spec {A : Nat → Prop} {lo : Option Operand} {lo' : Option Int} (h : optInt s lo = some lo') (hx : ∀ y ∈ lo, SRel w A s.os hd (s.get y) (a.eval y)) : ∃ k, lo.map a.eval = lo'.map (.int k) := by
 unfold optInt at h
 split at h
 ·cases h; exact ⟨.i64, rfl⟩
 ·rename_i x
  split at h
  ·rename_i k n hg
   cases h
   have := hx x rfl
   rw [hg] at this
   exact ⟨k, by simp [this.int_inv]⟩
  ·cases h
theorem Rel.sl_sub {A : Nat → Prop} {own k es p cap} (h : Rel w A (.sl own k es) (.slice p es.length cap)) {l m : Nat} (h1 : l ≤ m) (h2 : m ≤ es.length) :
  Rel w A (.sl false k ((es.take m).drop l)) (.slice (if cap = l then p else p.map (·.add (l * k))) (m - l) (cap - l)) := by
 have hlen : ((es.take m).drop l).length = m - l := by simp; omega
 rw [← hlen]
 cases h with
 | sl _ _ _ _ _ b off val hl hcap hp hk hc h1c hr =>
  refine .sl false k _ _ _ b (off + l * k) (fun i j => val (l + i) j) (by omega) (by omega) (fun hne => ?_) (fun e he => hk e (List.mem_of_mem_take (List.mem_of_mem_drop he))) (fun i j hi hj => ?_) (fun i j hi hj => ?_) (fun i j e a he ha => ?_)
  ·have h3 : 0 < m - l := by rw [← hlen]; exact List.length_pos_iff.2 hne
   have hne' : es ≠ [] := by rintro rfl; simp at h2; omega
   obtain ⟨rfl, hA⟩ := hp hne'
   rw [if_neg (by omega)]
   exact ⟨by simp [addr_add], hA⟩
  ·rw [hlen] at hi
   have := hc (l + i) j (by omega) hj
   rw [← this, Nat.add_mul]
   congr 2
   omega
  ·rw [hlen] at hi; exact h1c (l + i) j (by omega) hj
  ·rw [List.getElem?_drop, List.getElem?_take] at he
   split at he
   ·exact hr (l + i) j e a he ha
   ·cases he
theorem vs_of_row {A : Nat → Prop} {k es} {v : Value} {G : Nat → Prop} (h : XRel w A (.sl true k es) v G) :
  ∃ p cap, v = .slice p es.length cap ∧ es.length ≤ cap ∧ (∀ l m : Nat, l ≤ m → m ≤ es.length → l < m → ∃ b, v = .slice (some ⟨b, 0, none⟩) es.length cap ∧ (if cap = l then p else p.map (·.add (l * k))) = some ⟨b, l * k, none⟩) ∧ p.map (·.add (0 * k)) = p := by
 cases h with
 | pure _ _ _ h ho hF => simp [AV.isOwn] at ho
 | nil => exact ⟨none, 0, rfl, by simp, fun l m h1 h2 h3 => by simp at h2; omega, rfl⟩
 | sl _ _ cap b T c F G hb hl hcap hsz hk h1c hr hF h0 hd =>
  refine ⟨_, cap, rfl, hcap, fun l m h1 h2 h3 => ⟨b, rfl, ?_⟩, by simp [addr_add]⟩
  rw [if_neg (by omega)]
  simp [addr_add]
theorem run_sliceAt_sl {t e k len cap l h : Nat} {p : Option Addr} {lo hi : Option Value} (he : P.underlying t = some (.slice e)) (hn : ∀ w, (sizeOf e).run P w = .ok k w)
  (hb : (Instr.sliceBounds true len cap lo hi none).run P w = .ok (l, h, cap) w) :
  (Instr.sliceAt t (.slice p len cap) lo hi none).run P w = .ok (.slice (if cap = l then p else p.map (·.add (l * k))) (h - l) (cap - l)) w := by
 unfold Instr.sliceAt
 rw [Sem.run_bind, run_underlying he]
 show (Instr.slice t _ lo hi none).run P w = _
 unfold Instr.slice
 rw [Sem.run_bind, run_underlying he]
 show ((Instr.sliceBounds true len cap lo hi none) >>= _).run P w = _
 rw [Sem.run_bind, hb]
 show ((sizeOf e) >>= _).run P w = _
 rw [Sem.run_bind, hn]
 rfl
theorem run_sliceBounds3 {kl kh km : IntKind} {l h m : Int} {len cap : Nat} (h0 : 0 ≤ l) (h1 : l ≤ h) (h2 : h ≤ m) (h3 : m ≤ cap) :
  (Instr.sliceBounds true len cap (some (.int kl l)) (some (.int kh h)) (some (.int km m))).run P w = .ok (l.toNat, h.toNat, m.toNat) w := by
 unfold Instr.sliceBounds
 have e0 := fun c => run_sliceBound (P := P) (w := w) (k := km) (y := cap) (code := c) (by omega : 0 ≤ m) h3
 have e1 := fun c => run_sliceBound (P := P) (w := w) (k := kh) (y := m.toNat) (code := c) (by omega : 0 ≤ h) (by omega)
 have e2 := fun c => run_sliceBound (P := P) (w := w) (k := kl) (y := h.toNat) (code := c) h0 (by omega)
 simp only [Sem.run_bind]
 rw [e0]
 simp only [Result.andThen_ok]
 rw [e1]
 simp only [Result.andThen_ok]
 rw [e2]
 rfl
theorem run_sliceAt_sl3 {t e k len cap l h m : Nat} {p : Option Addr} {lo hi mx : Option Value} (he : P.underlying t = some (.slice e)) (hn : ∀ w, (sizeOf e).run P w = .ok k w)
  (hb : (Instr.sliceBounds true len cap lo hi mx).run P w = .ok (l, h, m) w) :
  (Instr.sliceAt t (.slice p len cap) lo hi mx).run P w = .ok (.slice (if m = l then p else p.map (·.add (l * k))) (h - l) (m - l)) w := by
 unfold Instr.sliceAt
 rw [Sem.run_bind, run_underlying he]
 show (Instr.slice t _ lo hi mx).run P w = _
 unfold Instr.slice
 rw [Sem.run_bind, run_underlying he]
 show ((Instr.sliceBounds true len cap lo hi mx) >>= _).run P w = _
 rw [Sem.run_bind, hb]
 show ((sizeOf e) >>= _).run P w = _
 rw [Sem.run_bind, hn]
 rfl
theorem run_sliceAt_str {t l h : Nat} {b : ByteArray} {lo hi : Option Value} (he : P.underlying t = some .string)
  (hb : (Instr.sliceBounds false b.size b.size lo hi none).run P w = .ok (l, h, b.size) w) :
  (Instr.sliceAt t (.string b) lo hi none).run P w = .ok (.string (b.extract l h)) w := by
 unfold Instr.sliceAt
 rw [Sem.run_bind, run_underlying he]
 show (Instr.slice t _ lo hi none).run P w = _
 unfold Instr.slice
 rw [Sem.run_bind, run_underlying he]
 show ((Instr.sliceBounds false b.size b.size lo hi none) >>= _).run P w = _
 rw [Sem.run_bind, hb]
 rfl
/-- The whole of 'aval'. -/
theorem aval_sound [St] {A : Nat → Prop} (hL : L.ty = layOf P) (hw : CW W w A s.os hd F) {dst : Option Tmp} {op : Op} {ty : TypeId} {pos : String} {af : Array Edge} {g : Option (Nat × Bool)} {K : AV → Prop}
  (hx : ∀ y ∈ op.operands, SRel w A s.os hd (s.get y) (a.eval y)) (hk : aval (stdE np P) L s op K) :
  Yields P w A s.os hd a ⟨dst, op, ty, pos, af, g⟩ K := by
 unfold Yields
 cases op
 case move x => exact ⟨_, _, hk, hx x (by simp [Op.operands]), by simp only [execOp]; rfl⟩
 case assign x => exact ⟨_, _, hk, hx x (by simp [Op.operands]), by simp only [execOp]; rfl⟩
 case pick c x y =>
  simp only [aval] at hk
  have hc := hx c (by simp [Op.operands])
  split at hk
  ·rename_i b hb
   rw [hb] at hc
   have ec := hc.bool_inv
   split at hk
   ·exact ⟨_, _, hk, hx x (by simp [Op.operands]), by simp only [execOp, ec]; simp [go_sem, asBool, *]⟩
   ·exact ⟨_, _, hk, hx y (by simp [Op.operands]), by simp only [execOp, ec]; simp [go_sem, asBool, *]⟩
  ·exact hk.elim
 case binOp op t x y t' => exact val_binOp hL dst ty pos af g op t t' x y K (hx x (by simp [Op.operands])) (hx y (by simp [Op.operands])) hk
 case unOp op t x =>
  have h1 := hx x (by simp [Op.operands])
  cases op <;> simp only [aval] at hk
  case not =>
   split at hk
   ·rename_i b hb
    rw [hb] at h1
    exact ⟨_, _, hk, .pure _ _ (.bool _), by simp only [execOp, h1.bool_inv]; cases b <;> simp [go_sem, Op.unary, bnot]⟩
   ·exact hk.elim
  case neg =>
   split at hk
   ·rename_i k n hb
    rw [hb] at h1
    exact ⟨_, _, hk, .pure _ _ (.int _ _), by simp only [execOp, h1.int_inv]; simp [go_sem, Op.unary, stdE, Op.intArith]⟩
   ·exact hk.elim
 case nilCheck x =>
  have h1 := hx x (by simp [Op.operands])
  simp only [aval] at hk
  split at hk
  ·rename_i cs hb
   rw [hb] at h1
   obtain ⟨b, off, e, _, _⟩ := h1.pp_inv.pp_inv
   exact ⟨_, _, hk, h1, by simp only [execOp, e]; simp [go_sem]⟩
  ·rename_i id off hb
   rw [hb] at h1
   split at hk
   ·rename_i cs ho
    obtain ⟨b, e, e'⟩ := h1.pb_inv ho
    exact ⟨_, _, hk, h1, by simp only [execOp, e']; rfl⟩
   ·exact hk.elim
  ·rename_i id i j hb
   rw [hb] at h1
   split at hk
   ·rename_i k es ho
    obtain ⟨b, n, c, e, _, _, e'⟩ := h1.pe_inv ho
    exact ⟨_, _, hk, h1, by simp only [execOp, e']; rfl⟩
   ·exact hk.elim
  ·exact hk.elim
 case load t x =>
  have h1 := hx x (by simp [Op.operands])
  simp only [aval] at hk
  split at hk
  ·rename_i cs hb
   rw [hb] at h1
   obtain ⟨b, off, e, _, hp⟩ := h1.pp_inv.pp_inv
   obtain ⟨x', v, h2, h3, h4⟩ := run_loadVar hL (hp.pt (os := s.os) (hd := hd)) hk
   exact ⟨x', v, h2, h3, run_load_op e h4⟩
  ·rename_i id off hb
   rw [hb] at h1
   split at hk
   ·rename_i cs ho
    obtain ⟨b, T, c, e1, e2, e3, e4, _⟩ := hw.boxes id cs ho
    have hp : Pt w A s.os hd b 0 cs := fun j y hy => by
     have hj := (List.getElem?_eq_some_iff.1 hy).1
     refine ⟨c.getD j undef, ?_, e4 j y hy⟩
     have h5 : j < c.size := by omega
     simp [World.cell?, e2, h5]
    have hp' := hp.drop off
    obtain ⟨x', v, h2, h3, h4⟩ := run_loadVar hL hp' hk
    cases h1 with
    | pure _ _ h => cases h
    | pb _ _ _ _ h =>
     obtain ⟨b', e5, e6⟩ := h cs ho
     rw [e1] at e5
     cases e5
     rw [Nat.zero_add] at h4
     exact ⟨x', v, h2, h3, run_load_op e6 h4⟩
   ·exact hk.elim
  ·rename_i id i j hb
   rw [hb] at h1
   split at hk
   ·rename_i k es ho
    obtain ⟨hi, e, he, hk⟩ := hk
    split at hk
    ·rename_i hfl
     obtain ⟨b, T, c, cap, e1, e2, e3, e4, e5, e6⟩ := (hw.rows id k es ho).row_elem he
     have hp : Pt w A s.os hd b (i.toNat * k + j) ((e.drop j).take (L.ty t).n) := fun m y hy => by
      have hy0 := hy
      rw [List.getElem?_take] at hy
      split at hy
      ·rw [List.getElem?_drop] at hy
       obtain ⟨h7, G', h8⟩ := e6 (j + m) y hy
       rw [← Nat.add_assoc] at h7 h8
       exact ⟨_, h7, .pure _ _ (h8.noown (allNO_get hfl hy0))⟩
      ·cases hy
     obtain ⟨x', v, h2, h3, h4⟩ := run_loadVar hL hp hk
     cases h1 with
     | pure _ _ h => cases h
     | pe _ _ _ _ _ h =>
      obtain ⟨b', n', c', e7, _, _, e8⟩ := h k es ho
      rw [e1] at e7
      cases e7
      exact ⟨x', v, h2, h3, run_load_op e8 h4⟩
    ·exact hk.elim
   ·exact hk.elim
  ·exact hk.elim
 case fieldAddr t x f =>
  have h1 := hx x (by simp [Op.operands])
  simp only [aval] at hk
  split at hk
  ·rename_i off ft cs hf hb
   rw [hb] at h1
   obtain ⟨b, o, e, hA, hp⟩ := h1.pp_inv.pp_inv
   exact ⟨_, _, hk, .pure _ _ (Rel.pp_of hA (hp.drop off)), by simp only [execOp, e]; rw [Sem.run_bind, run_fieldAt hL hf]; rfl⟩
  ·rename_i off ft id o hf hb
   rw [hb] at h1
   split at hk
   ·rename_i cs ho
    obtain ⟨b, e, e'⟩ := h1.pb_inv ho
    refine ⟨_, _, hk, .pb _ _ _ h1.pb_lt (fun cs' h' => ⟨b, e, rfl⟩), by simp only [execOp, e']; rw [Sem.run_bind, run_fieldAt hL hf]; rfl⟩
   ·exact hk.elim
  ·rename_i off ft id i j hf hb
   rw [hb] at h1
   split at hk
   ·rename_i k es ho
    obtain ⟨b, n, c, e, e1, e2, e'⟩ := h1.pe_inv ho
    refine ⟨_, .pointer (some ⟨b, i.toNat * k + j + off, none⟩), hk, .pe _ _ _ _ h1.pe_lt (fun k' es' h' => ?_), by simp only [execOp, e']; rw [Sem.run_bind, run_fieldAt hL hf]; rfl⟩
    rw [ho] at h'
    cases h'
    exact ⟨b, n, c, e, e1, e2, by rw [Nat.add_assoc]⟩
   ·exact hk.elim
  ·exact hk.elim
 case field t x f =>
  have h1 := hx x (by simp [Op.operands])
  simp only [aval] at hk
  split at hk
  ·rename_i off ft cs hf hb
   rw [hb] at h1
   obtain ⟨vs, e, hn, hc⟩ := h1.agg_inv
   obtain ⟨gs, g, h2, h3, h4, h5, h6⟩ := lay_field hL hf
   obtain ⟨x', v, h7, h8, h9⟩ := run_part hL hn hc hk
   refine ⟨x', v, h7, h8, ?_⟩
   simp only [execOp, e]
   subst h4 h5
   have h10 : (Instr.field t (.agg vs) f).run P w = .ok v w := by
    unfold Instr.field
    rw [Sem.run_bind, run_underlying h2]
    simp only [Result.andThen_ok, h3]
    exact h9
   rw [Sem.run_bind, h10]
   rfl
  ·exact hk.elim
 case indexAddr t x ix =>
  have h1 := hx x (by simp [Op.operands])
  have h2 := hx ix (by simp [Op.operands])
  simp only [aval] at hk
  split at hk
  ·rename_i own k es kk i hb hi
   rw [hb] at h1
   rw [hi] at h2
   have e2 := h2.int_inv
   split at hk
   ·rename_i hk'
    obtain ⟨e, he, hn⟩ := elemK_spec hL hk'
    obtain ⟨h0, c, hc, hk⟩ := hk
    obtain ⟨b, off, cap, e1, hA, hp⟩ := h1.sl_inv.sl_elem hc
    refine ⟨_, _, hk, .pure _ _ (Rel.pp_of hA hp), ?_⟩
    have hlt := (List.getElem?_eq_some_iff.1 hc).1
    simp only [execOp, e1, e2]
    rw [Sem.run_bind, run_indexAt he hn h0 hlt]
    rfl
   ·exact hk.elim
  ·rename_i id kk i hb hi
   rw [hb] at h1
   rw [hi] at h2
   have e2 := h2.int_inv
   split at hk
   ·rename_i k es ho
    split at hk
    ·rename_i hk'
     obtain ⟨e, he, hn⟩ := elemK_spec hL hk'
     obtain ⟨h0, c, hc, hk⟩ := hk
     have e1 := h1.ob_inv ho
     obtain ⟨b, T, cc, cap, e3, e4, e5, e6, e7, e8⟩ := (hw.rows id k es ho).row_elem hc
     have hlt := (List.getElem?_eq_some_iff.1 hc).1
     refine ⟨_, .pointer (some ⟨b, i.toNat * k, none⟩), hk, .pe _ _ _ _ h1.ob_lt (fun k' es' h' => ?_), ?_⟩
     ·rw [ho] at h'
      cases h'
      exact ⟨b, _, _, e3, h0, hlt, by simp⟩
     ·rw [e3] at e1
      simp only [execOp, e1, e2]
      rw [Sem.run_bind, run_indexAt he hn h0 hlt]
      simp [go_sem]
    ·exact hk.elim
   ·exact hk.elim
  ·rename_i id lo hi kk i hb hi'
   rw [hb] at h1
   rw [hi'] at h2
   have e2 := h2.int_inv
   split at hk
   ·rename_i k es ho
    split at hk
    ·rename_i hk'
     obtain ⟨e, he, hn⟩ := elemK_spec hL hk'
     obtain ⟨⟨h0, hlt⟩, hk⟩ := hk
     obtain ⟨e3, e4, e5, p, cap, e6, e7, e8, _⟩ := h1.vs_inv ho
     obtain ⟨b, n, c, e9, e10⟩ := e8 (by omega)
     have e11 := (hw.rows id k es ho).len_le
     have hwr : IntKind.i64.wrap (lo + i) = lo + i := IntWalk.i64_in _ (by unfold maxLen at e11; constructor <;> omega)
     replace hk : K (.pe id (IntKind.i64.wrap (lo + i)) 0) := hk
     rw [hwr] at hk
     have hnat : (lo + i).toNat = lo.toNat + i.toNat := by omega
     refine ⟨_, .pointer (some ⟨b, (lo + i).toNat * k, none⟩), hk, .pe _ _ _ _ h1.vs_lt (fun k' es' h' => ?_), ?_⟩
     ·rw [ho] at h'
      cases h'
      exact ⟨b, n, c, e9, by omega, by omega, by simp⟩
     ·subst e10
      simp only [execOp, e6, e2]
      rw [Sem.run_bind, run_indexAt he hn h0 (by omega), hnat, Nat.add_mul]
      simp [go_sem]
    ·exact hk.elim
   ·exact hk.elim
  ·rename_i id o kk i hb hi
   rw [hb] at h1
   rw [hi] at h2
   have e2 := h2.int_inv
   split at hk
   ·rename_i len e cs hd' ho
    split at hk
    ·rename_i hin
     have ht := lay_array hL hd'
     obtain ⟨h0, hlt, hne⟩ := inArr_spec hin
     obtain ⟨b, e1, e'⟩ := h1.pb_inv ho
     refine ⟨_, .pointer (some ⟨b, o + i.toNat * (L.ty e).n, none⟩), hk, .pb _ _ _ h1.pb_lt (fun cs' h' => ⟨b, e1, rfl⟩), ?_⟩
     simp only [execOp, e', e2]
     rw [Sem.run_bind, run_indexArr ht (run_sizeOf (w := w) hL hne) h0 hlt]
     simp [go_sem]
    ·exact hk.elim
   ·exact hk.elim
  ·exact hk.elim
 case index t x ix =>
  have h1 := hx x (by simp [Op.operands])
  have h2 := hx ix (by simp [Op.operands])
  simp only [aval] at hk
  split at hk
  ·rename_i b kk i hb hi
   rw [hb] at h1
   rw [hi] at h2
   have e2 := h2.int_inv
   have e1 := h1.str_inv.1
   split at hk
   ·rename_i hs
    have ht := isStr_spec hL hs
    obtain ⟨h0, hlt, hk⟩ := hk
    refine ⟨_, _, hk, .pure _ _ (.int _ _), ?_⟩
    simp only [execOp, e1, e2]
    have h3 : b[i.toNat]? = some (b[i.toNat]'hlt) := by simp [hlt]
    simp [go_sem, Instr.index, asIntOf, underlying, ht, h0, h3]
   ·exact hk.elim
  ·rename_i cs kk i hb hi
   rw [hb] at h1
   rw [hi] at h2
   have e2 := h2.int_inv
   obtain ⟨vs, e1, n1, c1⟩ := h1.agg_inv
   split at hk
   ·rename_i len e hd'
    have ht := lay_array hL hd'
    obtain ⟨h0, c, hc, hk⟩ := hk
    obtain ⟨hlt, rfl⟩ := rowsOf_at _ _ _ _ _ hc
    have hne : (L.ty e).d ≠ .other := by
     intro e0
     unfold ofCells at hk
     rw [e0] at hk
     exact hk
    obtain ⟨x', v, g1, g2, g3⟩ := run_part (w := w) hL n1 c1 (ofCells_take hk)
    have hsz := run_sizeOf (w := w) hL hne
    refine ⟨_, _, g1, g2, ?_⟩
    have hb1 : i < (len : Int) := by omega
    have hr : (Instr.index t (.agg vs) (.int kk i)).run P w = .ok v w := by
     simp only [Instr.index, asIntOf, pure_bind, Sem.run_bind, run_underlying ht, Result.andThen_ok]
     rw [if_pos ⟨h0, hb1⟩]
     simp only [Sem.run_bind, hsz, Result.andThen_ok, g3]
    simp only [execOp, e1, e2]
    rw [Sem.run_bind, hr]
    rfl
   ·exact hk.elim
  ·exact hk.elim
 case convert src dst' x =>
  have h1 := hx x (by simp [Op.operands])
  simp only [aval] at hk
  split at hk
  ·rename_i k0 k k1 n hs hd' hb
   rw [hb] at h1
   have e1 := h1.int_inv
   refine ⟨_, _, hk, .pure _ _ (.int _ _), ?_⟩
   simp only [execOp, e1]
   simp [go_sem, convert, underlying, lay_int hL hs, lay_int hL hd', Conv.intToInt, stdE]
  ·rename_i e t0 k0 es hs hd' hb
   rw [hb] at h1
   split at hk
   ·rename_i hu
    obtain ⟨ns, rfl, hk⟩ := hk
    obtain ⟨r1, r2⟩ := run_toStr (P := P) h1.sl_inv
    obtain ⟨p, cap, e1, _⟩ := h1.sl_inv.sl_len
    refine ⟨_, _, hk, .pure _ _ (.str _ r2), ?_⟩
    have hu8 : P.underlying e = some (.int .u8) := by
     unfold isU8 at hu
     split at hu
     ·exact lay_int hL (by assumption)
     ·cases hu
    simp only [execOp]
    rw [e1] at r1 ⊢
    rw [Sem.run_bind, run_convert_bytes_string w src dst' e _ _ _ (lay_slice hL hs) hu8 (lay_str hL hd'), r1]
    rfl
   ·exact hk.elim
  ·rename_i e id hs hd' hb
   rw [hb] at h1
   split at hk
   ·rename_i k0 es ho
    split at hk
    ·rename_i hu
     obtain ⟨ns, rfl, hk⟩ := hk
     have hr := (hw.rows id _ _ ho).rel (B := fun _ => True) (fun _ _ => trivial) (fun _ _ => trivial)
     obtain ⟨r1, r2⟩ := run_toStr (P := P) hr
     obtain ⟨p, cap, e1, _⟩ := hr.sl_len
     refine ⟨_, _, hk, .pure _ _ (.str _ r2), ?_⟩
     have hu8 : P.underlying e = some (.int .u8) := by
      unfold isU8 at hu
      split at hu
      ·exact lay_int hL (by assumption)
      ·cases hu
     simp only [execOp]
     rw [h1.ob_inv ho]
     rw [e1] at r1 ⊢
     rw [Sem.run_bind, run_convert_bytes_string w src dst' e _ _ _ (lay_slice hL hs) hu8 (lay_str hL hd'), r1]
     rfl
    ·exact hk.elim
   ·exact hk.elim
  ·exact hk.elim
 case extract x i =>
  have h1 := hx x (by simp [Op.operands])
  simp only [aval] at hk
  split at hk
  ·rename_i vs hb
   rw [hb] at h1
   obtain ⟨us, e, hn, hc⟩ := h1.tup_inv
   split at hk
   ·rename_i v hv
    have h2 := hc i v hv
    have hlt := (List.getElem?_eq_some_iff.1 hv).1
    refine ⟨_, _, hk, h2, ?_⟩
    simp only [execOp, e]
    have h3 : us[i]? = some (us.getD i undef) := by
     have : i < us.size := by omega
     simp [Array.getD, this]
    rw [Sem.run_bind]
    unfold Instr.extract
    simp only [h3]
    rfl
   ·exact hk.elim
  ·exact hk.elim
 case call c =>
  simp only [aval] at hk
  split at hk
  ·rename_i hce
   split at hk
   ·rename_i x t ha ht
    have ha' : c.args = #[x] := by rw [← Array.toArray_toList (xs := c.args), ha]
    have ht' : c.argTypes = #[t] := by rw [← Array.toArray_toList (xs := c.argTypes), ht]
    have h1 := hx x (by simp [Op.operands, Call.operands, ha'])
    have run : ∀ n : Int, (Builtin.len_ #[t] ty #[a.eval x]).run P w = .ok (.int .i64 n) w → (execOp a.eval ⟨dst, .call c, ty, pos, af, g⟩).run P w = .ok (.value (.int .i64 n)) w := fun n h => by
     refine run_builtin hce ?_
     rw [ha', ht', show (#[x] : Array Operand).map a.eval = #[a.eval x] from by simp]
     simp only [builtin]
     exact run_v h _
    split at hk
    ·rename_i e _ _ es hd' hb
     rw [hb] at h1
     obtain ⟨p, cap, e1, hl, _⟩ := h1.sl_inv.sl_len
     exact ⟨_, _, hk hl, .pure _ _ (.int _ _), run _ (by rw [e1]; simp [Builtin.len_, go_sem, run_underlying (lay_slice hL hd'), goInt])⟩
    ·rename_i e hd' hb
     rw [hb] at h1
     exact ⟨_, _, hk, .pure _ _ (.int _ _), run _ (by rw [h1.nils_inv]; simp [Builtin.len_, go_sem, run_underlying (lay_slice hL hd'), goInt])⟩
    ·rename_i e id hd' hb
     rw [hb] at h1
     split at hk
     ·rename_i k es ho
      have e1 := h1.ob_inv ho
      obtain ⟨p, cap, e2, hl, _⟩ := ((hw.rows id k es ho).rel (B := fun _ => True) (fun _ _ => trivial) (fun _ _ => trivial)).sl_len
      exact ⟨_, _, hk hl, .pure _ _ (.int _ _), run _ (by rw [e1, e2]; simp [Builtin.len_, go_sem, run_underlying (lay_slice hL hd'), goInt])⟩
     ·exact hk.elim
    ·rename_i e id lo hi hd' hb
     rw [hb] at h1
     split at hk
     ·rename_i k es ho
      obtain ⟨e1, e2, e3, p, cap, e4, _, _, _⟩ := h1.vs_inv ho
      obtain ⟨_, _, _, hl, _⟩ := ((hw.rows id k es ho).rel (B := fun _ => True) (fun _ _ => trivial) (fun _ _ => trivial)).sl_len
      refine ⟨_, _, hk, .pure _ _ (.int _ _), run _ ?_⟩
      have e5 : IntKind.i64.wrap (hi - lo) = ((hi - lo).toNat : Int) := by
       unfold maxLen at hl
       rw [IntWalk.i64_in _ ⟨by omega, by omega⟩]
       omega
      rw [e5, e4]
      simp [Builtin.len_, go_sem, run_underlying (lay_slice hL hd'), goInt]
     ·exact hk.elim
    ·rename_i b hd' hb
     rw [hb] at h1
     obtain ⟨e1, hl⟩ := h1.str_inv
     exact ⟨_, _, hk hl, .pure _ _ (.int _ _), run _ (by rw [e1]; simp [Builtin.len_, go_sem, run_underlying (lay_str hL hd'), goInt])⟩
    ·exact hk.elim
   ·exact hk.elim
  ·rename_i hce
   split at hk
   ·rename_i x y ha
    have ha' : c.args = #[x, y] := by rw [← Array.toArray_toList (xs := c.args), ha]
    have h1 := hx x (by simp [Op.operands, Call.operands, ha'])
    have h2 := hx y (by simp [Op.operands, Call.operands, ha'])
    split at hk
    ·rename_i hb1 hb2
     rw [hb1] at h1
     rw [hb2] at h2
     refine ⟨_, _, hk, .pure _ _ (.int _ _), run_builtin hce ?_⟩
     rw [ha']
     simp only [builtin]
     refine run_v ?_ _
     simp [h1.int_inv, h2.int_inv, Builtin.max_, Builtin.max2, stdE]
    ·exact hk.elim
   ·exact hk.elim
  ·rename_i hce
   split at hk
   ·rename_i x y ha
    have ha' : c.args = #[x, y] := by rw [← Array.toArray_toList (xs := c.args), ha]
    have h1 := hx x (by simp [Op.operands, Call.operands, ha'])
    have h2 := hx y (by simp [Op.operands, Call.operands, ha'])
    split at hk
    ·rename_i hb1 hb2
     rw [hb1] at h1
     rw [hb2] at h2
     refine ⟨_, _, hk, .pure _ _ (.int _ _), run_builtin hce ?_⟩
     rw [ha']
     simp only [builtin]
     refine run_v ?_ _
     simp [h1.int_inv, h2.int_inv, Builtin.min_, Builtin.min2, stdE]
    ·exact hk.elim
   ·exact hk.elim
  ·exact hk.elim
 case makeFunc fn first captured =>
  cases fn <;> simp only [aval] at hk
  case func f =>
   split at hk
   ·rename_i hf
    have hf' : first = #[] := by rw [← Array.toArray_toList (xs := first), hf]
    refine ⟨_, .func (.func f) #[] (captured.map a.eval), hk, ?_, by simp [execOp, hf', Instr.makeFunc, go_sem]⟩
    refine .fn f _ _ (by simp) (fun i x hx' => ?_)
    rw [List.getElem?_map, Array.getElem?_toList] at hx'
    cases hc : captured[i]? with
    | none => simp [hc] at hx'
    | some y =>
     simp [hc] at hx'
     subst hx'
     have h3 := hx y (by simp [Op.operands]; exact .inr (Array.mem_of_getElem? hc))
     have h4 : i < captured.size := (Array.getElem?_eq_some_iff.1 hc).1
     have h5 := (Array.getElem?_eq_some_iff.1 hc).2
     simpa [Array.getD, h4, h5] using h3
   ·rename_i y hf
    have hf' : first = #[y] := by rw [← Array.toArray_toList (xs := first), hf]
    split at hk
    ·rename_i cs hcap hcs
     have hcap' : captured = #[] := by rw [← Array.toArray_toList (xs := captured), hcap]
     split at hk
     ·rename_i hp
      have h1 := hx y (by simp [Op.operands, hf'])
      rw [hcs] at h1
      obtain ⟨vs, e1, e2, e3⟩ := h1.agg_inv
      refine ⟨_, .func (.func f) #[.agg vs] #[], hk, .pure _ _ (.fb f cs vs e2 fun i x hx' => ?_), by generalize a.eval = ρ at e1 ⊢; simp [execOp, hf', hcap', e1, Instr.makeFunc, go_sem]⟩
      have h2 := e3 i x hx'
      have h3 := allPure_get' hp hx'
      cases x <;> first | exact h2.pure_inv' trivial | cases h3
     ·exact hk.elim
    ·exact hk.elim
   ·exact hk.elim
  all_goals exact hk.elim
 case slice t x lo hi mx =>
  have h1 := hx x (by simp [Op.operands])
  cases mx with
  | some m =>
   simp only [aval] at hk
   have hlo' : ∀ y ∈ lo, SRel w A s.os hd (s.get y) (a.eval y) := fun y hy => hx y (by simp [Op.operands, Option.mem_def.1 hy])
   have hhi' : ∀ y ∈ hi, SRel w A s.os hd (s.get y) (a.eval y) := fun y hy => hx y (by simp [Op.operands, Option.mem_def.1 hy])
   have hm := hx m (by simp [Op.operands])
   split at hk
   ·rename_i l h km m' id hl hh hmm hb
    rw [hb] at h1
    rw [hmm] at hm
    obtain ⟨kl, e1⟩ := optInt_spec hl hlo'
    obtain ⟨kh, e2⟩ := optInt_spec hh hhi'
    have e3 := hm.int_inv
    split at hk
    ·rename_i k es ho
     split at hk
     ·rename_i ht
      obtain ⟨e, he, hn⟩ := elemK_spec hL ht
      have e0 := h1.ob_inv ho
      obtain ⟨p, cap, h7, h9, _, _⟩ := vs_of_row (hw.rows id k es ho)
      obtain ⟨h4, h5, h6, h4', h5', h6', hk⟩ := hk
      simp only [Option.getD_some] at h4 h5 h6 h4' h5' h6'
      have hbd := run_sliceBounds3 (P := P) (w := w) (kl := kl) (kh := kh) (km := km) (len := es.length) h4 h5 h5' (show m' ≤ (cap : Int) by omega)
      refine ⟨_, .slice (if m'.toNat = l.toNat then p else p.map (·.add (l.toNat * k))) (h.toNat - l.toNat) (m'.toNat - l.toNat), hk, .pure _ _ (.any _), ?_⟩
      simp only [execOp, e1, e2, e3, e0, h7, Option.map_some]
      exact run_v (run_sliceAt_sl3 he hn hbd) _
     ·exact hk.elim
    ·exact hk.elim
   ·exact hk.elim
  | none =>
  simp only [aval] at hk
  have hlo' : ∀ y ∈ lo, SRel w A s.os hd (s.get y) (a.eval y) := fun y hy => hx y (by simp [Op.operands, Option.mem_def.1 hy])
  have hhi' : ∀ y ∈ hi, SRel w A s.os hd (s.get y) (a.eval y) := fun y hy => hx y (by simp [Op.operands, Option.mem_def.1 hy])
  split at hk
  ·rename_i l h b hl hh hb
   rw [hb] at h1
   obtain ⟨kl, e1⟩ := optInt_spec hl hlo'
   obtain ⟨kh, e2⟩ := optInt_spec hh hhi'
   obtain ⟨e3, hsz⟩ := h1.str_inv
   split at hk
   ·rename_i ht
    have ht' := isStr_spec hL ht
    obtain ⟨h4, h5, h6, hk⟩ := hk
    refine ⟨_, _, hk, .pure _ _ (.str _ (by rw [ByteArray.size_extract]; omega)), ?_⟩
    simp only [execOp, e1, e2, e3]
    refine run_v (v := Value.string _) ?_ _
    exact run_sliceAt_str ht' (run_sliceBounds h4 h5 h6 (Nat.le_refl _))
   ·exact hk.elim
  ·rename_i l h own k es hl hh hb
   rw [hb] at h1
   obtain ⟨kl, e1⟩ := optInt_spec hl hlo'
   obtain ⟨kh, e2⟩ := optInt_spec hh hhi'
   split at hk
   ·rename_i ht
    obtain ⟨e, he, hn⟩ := elemK_spec hL ht
    obtain ⟨h4, h5, h6, hk⟩ := hk
    obtain ⟨p, cap, h7, h8, h9⟩ := h1.sl_inv.sl_len
    have := run_sliceBounds (P := P) (w := w) (kl := kl) (kh := kh) (b := true) h4 h5 h6 h9
    refine ⟨_, .slice (if cap = (l.getD 0).toNat then p else p.map (·.add ((l.getD 0).toNat * k))) ((h.getD es.length).toNat - (l.getD 0).toNat) (cap - (l.getD 0).toNat), hk, .pure _ _ ?_, ?_⟩
    ·have hr := h1.sl_inv
     rw [h7] at hr
     have hs := hr.sl_sub (l := (l.getD 0).toNat) (m := (h.getD es.length).toNat) (by omega) (by omega)
     exact hs
    ·simp only [execOp, e1, e2, h7]
     refine run_v (v := Value.slice _ _ _) ?_ _
     exact run_sliceAt_sl he hn this
   ·exact hk.elim
  ·rename_i l h id hl hh hb
   rw [hb] at h1
   obtain ⟨kl, e1⟩ := optInt_spec hl hlo'
   obtain ⟨kh, e2⟩ := optInt_spec hh hhi'
   split at hk
   ·rename_i k es ho
    split at hk
    ·rename_i ht
     obtain ⟨e, he, hn⟩ := elemK_spec hL ht
     have e0 := h1.ob_inv ho
     obtain ⟨p, cap, h7, h9, h10, h10z⟩ := vs_of_row (hw.rows id k es ho)
     obtain ⟨h4, h5, h6, hk⟩ := hk
     simp only [Option.getD_some] at h4 h5 h6
     have := run_sliceBounds (P := P) (w := w) (kl := kl) (kh := kh) (b := true) (lo := some l) (hi := some h) (len := es.length) (cap := cap) (by simp; try omega) (by simp; try omega) (by simp; try omega) h9
     refine ⟨_, .slice (if cap = l.toNat then p else p.map (·.add (l.toNat * k))) (h - l).toNat (cap - l.toNat), hk, .vs _ _ _ _ h1.ob_lt (fun k' es' h' => ?_), ?_⟩
     ·rw [ho] at h'
      cases h'
      refine ⟨h4, h5, h6, _, _, rfl, by omega, fun hlt => ?_, fun h0 => ⟨es.length, ?_⟩⟩
      ·obtain ⟨b, h11, h12⟩ := h10 l.toNat h.toNat (by omega) (by omega) (by omega)
       exact ⟨b, _, _, by rw [h7, ← h11, h7], h12⟩
      ·rw [h7]
       try subst h0
       simp only [Int.toNat_zero, h10z, ite_self, Nat.sub_zero]
     ·simp only [execOp, e1, e2, e0, h7]
      refine run_v (v := Value.slice _ _ _) ?_ _
      have h13 : (h - l).toNat = h.toNat - l.toNat := by omega
      rw [h13]
      exact run_sliceAt_sl he hn this
    ·exact hk.elim
   ·exact hk.elim
  ·rename_i h id hl hh hb
   rw [hb] at h1
   obtain ⟨kl, e1⟩ := optInt_spec hl hlo'
   obtain ⟨kh, e2⟩ := optInt_spec hh hhi'
   split at hk
   ·rename_i k es ho
    split at hk
    ·rename_i ht
     obtain ⟨e, he, hn⟩ := elemK_spec hL ht
     have e0 := h1.ob_inv ho
     obtain ⟨p, cap, h7, h9, h10, h10z⟩ := vs_of_row (hw.rows id k es ho)
     obtain ⟨h4, h5, h6, hk⟩ := hk
     simp only [Option.getD_some] at h4 h5 h6
     have := run_sliceBounds (P := P) (w := w) (kl := kl) (kh := kh) (b := true) (lo := none) (hi := some h) (len := es.length) (cap := cap) (by simp; try omega) (by simp; try omega) (by simp; try omega) h9
     refine ⟨_, .slice (if cap = (0 : Int).toNat then p else p.map (·.add ((0 : Int).toNat * k))) (h - (0 : Int)).toNat (cap - (0 : Int).toNat), hk, .vs _ _ _ _ h1.ob_lt (fun k' es' h' => ?_), ?_⟩
     ·rw [ho] at h'
      cases h'
      refine ⟨h4, h5, h6, _, _, rfl, by omega, fun hlt => ?_, fun h0 => ⟨es.length, ?_⟩⟩
      ·obtain ⟨b, h11, h12⟩ := h10 (0 : Int).toNat h.toNat (by omega) (by omega) (by omega)
       exact ⟨b, _, _, by rw [h7, ← h11, h7], h12⟩
      ·rw [h7]
       try subst h0
       simp only [Int.toNat_zero, h10z, ite_self, Nat.sub_zero]
     ·simp only [execOp, e1, e2, e0, h7]
      refine run_v (v := Value.slice _ _ _) ?_ _
      have h13 : (h - (0 : Int)).toNat = h.toNat - (0 : Int).toNat := by omega
      rw [h13]
      exact run_sliceAt_sl he hn this
    ·exact hk.elim
   ·exact hk.elim
  ·rename_i l id hl hh hb
   rw [hb] at h1
   obtain ⟨kl, e1⟩ := optInt_spec hl hlo'
   obtain ⟨kh, e2⟩ := optInt_spec hh hhi'
   split at hk
   ·rename_i k es ho
    split at hk
    ·rename_i ht
     obtain ⟨e, he, hn⟩ := elemK_spec hL ht
     have e0 := h1.ob_inv ho
     obtain ⟨p, cap, h7, h9, h10, h10z⟩ := vs_of_row (hw.rows id k es ho)
     obtain ⟨_, _, h14, h15, _⟩ := ((hw.rows id k es ho).rel (B := fun _ => True) (fun _ _ => trivial) (fun _ _ => trivial)).sl_len
     obtain ⟨h4, h5, h6, hk⟩ := hk h15
     simp only [Option.getD_some] at h4 h5 h6
     have := run_sliceBounds (P := P) (w := w) (kl := kl) (kh := kh) (b := true) (lo := some l) (hi := none) (len := es.length) (cap := cap) (by simp; try omega) (by simp; try omega) (by simp; try omega) h9
     refine ⟨_, .slice (if cap = l.toNat then p else p.map (·.add (l.toNat * k))) ((es.length : Int) - l).toNat (cap - l.toNat), hk, .vs _ _ _ _ h1.ob_lt (fun k' es' h' => ?_), ?_⟩
     ·rw [ho] at h'
      cases h'
      refine ⟨h4, h5, h6, _, _, rfl, by omega, fun hlt => ?_, fun h0 => ⟨es.length, ?_⟩⟩
      ·obtain ⟨b, h11, h12⟩ := h10 l.toNat (es.length : Int).toNat (by omega) (by omega) (by omega)
       exact ⟨b, _, _, by rw [h7, ← h11, h7], h12⟩
      ·rw [h7]
       try subst h0
       simp only [Int.toNat_zero, h10z, ite_self, Nat.sub_zero]
     ·simp only [execOp, e1, e2, e0, h7]
      refine run_v (v := Value.slice _ _ _) ?_ _
      have h13 : ((es.length : Int) - l).toNat = (es.length : Int).toNat - l.toNat := by omega
      rw [h13]
      exact run_sliceAt_sl he hn this
    ·exact hk.elim
   ·exact hk.elim
  ·rename_i l h id z hh0 hl hh hb
   rw [hb] at h1
   obtain ⟨kl, e1⟩ := optInt_spec hl hlo'
   obtain ⟨kh, e2⟩ := optInt_spec hh hhi'
   split at hk
   ·rename_i k es ho
    split at hk
    ·rename_i hz0
     subst hz0
     split at hk
     ·rename_i ht
      obtain ⟨e, he, hn⟩ := elemK_spec hL ht
      obtain ⟨_, g2, g3, pv, capv, e0, g5, g6, g7⟩ := h1.vs_inv ho
      obtain ⟨nv, g8⟩ := g7 rfl
      obtain ⟨p, cap, h7, h9, h10, h10z⟩ := vs_of_row (hw.rows id k es ho)
      rw [g8] at h7 h10
      cases h7
      obtain ⟨h4, h5, h6, hk⟩ := hk
      simp only [Option.getD_some] at h4 h5 h6
      have hbd := run_sliceBounds (P := P) (w := w) (kl := kl) (kh := kh) (b := true) (lo := some l) (hi := some h) (len := es.length) (cap := capv) (by simp; try omega) (by simp; try omega) (by simp; try omega) h9
      refine ⟨_, .slice (if capv = l.toNat then pv else pv.map (·.add (l.toNat * k))) (h - l).toNat (capv - l.toNat), hk, .vs _ _ _ _ h1.vs_lt (fun k' es' h' => ?_), ?_⟩
      ·rw [ho] at h'
       cases h'
       refine ⟨h4, h5, h6, _, _, rfl, by omega, fun hlt => ?_, fun h0 => ⟨es.length, ?_⟩⟩
       ·obtain ⟨b, h11, h12⟩ := h10 l.toNat h.toNat (by omega) (by omega) (by omega)
        exact ⟨b, _, _, by rw [g8, ← h11], h12⟩
       ·rw [g8]
        try subst h0
        simp only [Int.toNat_zero, h10z, ite_self, Nat.sub_zero]
      ·simp only [execOp, e1, e2, e0]
       refine run_v (v := Value.slice _ _ _) ?_ _
       have h13 : (h - l).toNat = h.toNat - l.toNat := by omega
       rw [h13]
       exact run_sliceAt_sl he hn hbd
     ·exact hk.elim
    ·exact hk.elim
   ·exact hk.elim
  ·exact hk.elim
 all_goals (simp [aval] at hk)
end ops



end Go.Proofs.YtlemeenicaidfaaGreatDoor

/- Soundness of the operations that make or change memory, and of calls. -/
namespace Go.Proofs.YtlemeenicaidfaaGreatDoor
set_option linter.unusedVariables false
set_option linter.unusedSimpArgs false
open Go Go.RowKit

section res
variable {P : Program} {np : Nat} {W : WM} {w : World} {A : Nat → Prop} {os : List Obj} {hd : Nat → Value} {F : Nat → Nat → Prop} {s : AS}

theorem CW.rel_row [St] (hw : CW W w A os hd F) {id k es} (ho : os[id]? = some (.row k es)) : Rel w (· < w.heap.size) (.sl true k es) (hd id) :=
 (hw.rows id k es ho).rel (fun x hx => (hw.hA x hx).1) (fun x hx => (hw.fsz id x hx).2)

theorem Rel.wide [St] (hw : CW W w A os hd F) {x v} (h : Rel w A x v) : Rel w (· < w.heap.size) x v :=
 h.mono (fun _ _ => rfl) (fun x hx => (hw.hA x hx).1)

theorem SRel.pure_inv {x v} (h : SRel w A os hd x v) (hx : match x with | .ob _ | .vs .. | .pb .. | .pe .. | .it _ | .agg _ | .tup _ | .fn .. => False | _ => True) : Rel w A x v := by
 cases h with
 | pure _ _ h => exact h
 | _ => exact hx.elim

theorem Rel.sl_recap {w : World} {A : Nat → Prop} {own k es} {v : Value} (h : Rel w A (.sl own k es) v) {p n c} (hv : v = .slice p n c) {c' : Nat} (hc' : es.length ≤ c') : Rel w A (.sl own k es) (.slice p n c') := by
 cases h with
 | sl _ _ _ _ _ b off val hl hcap hp hk hc h1c hr =>
  cases hv
  exact .sl _ _ _ _ _ b off val hl hc' hp hk hc h1c hr

theorem r1_sound [St] (hw : CW W w A s.os hd F) {x v} {K : AV → Prop} (h : SRel w A s.os hd x v) (hk : s.r1 (stdE np P) x K) : ∃ x', K x' ∧ Rel w (· < w.heap.size) x' v := by
 unfold AS.r1 at hk
 split at hk
 ·split at hk
  ·rename_i id k es ho
   rw [h.ob_inv ho]
   exact ⟨_, hk, hw.rel_row ho⟩
  ·exact hk.elim
 ·split at hk
  ·rename_i id lo hi _ k es ho
   obtain ⟨h1, h2, h3, hk⟩ := hk
   simp only [Option.getD_some] at h1 h2 h3 hk
   obtain ⟨e1, e2, e3, p, cap, e4, e5, e6, _⟩ := h.vs_inv ho
   subst e4
   refine ⟨_, hk, ?_⟩
   have hr := hw.rel_row ho
   have hlen : ((es.take hi.toNat).drop lo.toNat).length = (hi - lo).toNat := by simp; omega
   rw [← hlen]
   by_cases hlt : lo < hi
   ·obtain ⟨b, n, c, e7, e8⟩ := e6 hlt
    obtain ⟨p0, c0, e9, e10, e11⟩ := hr.sl_len
    rw [e9] at hr e7
    have hs := hr.sl_sub (l := lo.toNat) (m := hi.toNat) (by omega) (by omega)
    cases e7
    subst e8
    have e12 : c ≠ lo.toNat := by omega
    rw [if_neg e12] at hs
    simp only [Option.map_some, addr_add, Nat.zero_add] at hs
    have h13 : (hi - lo).toNat = hi.toNat - lo.toNat := by omega
    rw [hlen, h13]
    exact hs.sl_recap rfl (by omega)
   ·have hnil : (es.take hi.toNat).drop lo.toNat = [] := by
     apply List.eq_nil_of_length_eq_zero; omega
    rw [hnil]
    exact .sl false k [] p cap 0 0 (fun _ _ => undef) (by simp) (by simp) (by simp) (by simp) (by simp) (by simp) (by simp)
  ·exact hk.elim
 all_goals first
  | exact ⟨_, hk, (h.pure_inv trivial).wide hw⟩
  | exact hk.elim

theorem rL_sound [St] (hw : CW W w A s.os hd F) : ∀ (cs : List AV) (vs : List Value) (K : List AV → Prop), vs.length = cs.length → (∀ (i : Nat) x, cs[i]? = some x → SRel w A s.os hd x (vs.getD i undef)) → s.rL (stdE np P) cs K →
  ∃ cs', K cs' ∧ cs'.length = vs.length ∧ ∀ (i : Nat) x, cs'[i]? = some x → Rel w (· < w.heap.size) x (vs.getD i undef)
 | [], [], K, _, _, hk => ⟨[], hk, rfl, fun i x hx => by simp at hx⟩
 | [], _ :: _, _, hn, _, _ => by simp at hn
 | _ :: _, [], _, hn, _, _ => by simp at hn
 | x :: cs, v :: vs, K, hn, hc, hk => by
  unfold AS.rL at hk
  obtain ⟨x', hk, hx'⟩ := r1_sound hw (hc 0 x (by simp)) hk
  obtain ⟨cs', hk, hl, hcs⟩ := rL_sound hw cs vs _ (by simpa using hn) (fun i y hy => by simpa using hc (i + 1) y (by simpa using hy)) hk
  refine ⟨_, hk, by simp [hl], fun i y hy => ?_⟩
  cases i with
  | zero => simp at hy; subst hy; simpa using hx'
  | succ i => simp at hy; simpa using hcs i y hy

theorem toList_getD (vs : Array Value) (i : Nat) : vs.toList.getD i undef = vs.getD i undef := by
 by_cases h : i < vs.size
 ·simp [Array.getD, h, List.getD]
 ·simp [Array.getD, h, List.getD]

theorem box_pt [St] (hw : CW W w A s.os hd F) {id cs} (ho : s.os[id]? = some (.box cs)) :
  ∃ b T c, hd id = .pointer (some ⟨b, 0, none⟩) ∧ w.heap[b]? = some (.cells c T (0, 0)) ∧ c.size = cs.length ∧ F id b ∧ Pt w A s.os hd b 0 cs ∧ ∀ (i : Nat) x, cs[i]? = some x → SRel w A s.os hd x (c.getD i undef) := by
 obtain ⟨b, T, c, e1, e2, e3, e4, e5⟩ := hw.boxes id cs ho
 refine ⟨b, T, c, e1, e2, e3, e5, fun j y hy => ?_, e4⟩
 have hj := (List.getElem?_eq_some_iff.1 hy).1
 refine ⟨c.getD j undef, ?_, e4 j y hy⟩
 have h5 : j < c.size := by omega
 simp [World.cell?, e2, h5]

theorem getElem?_getD {l : List Value} {i : Nat} (h : i < l.length) : l[i]? = some (l.getD i undef) := by
 simp [h, List.getD]

/-- A pointer to a box, as what it points to. -/
theorem pp_sound [St] (hw : CW W w A s.os hd F) {id off cs v} {K : List AV → Prop} (ho : s.os[id]? = some (.box cs)) (h : SRel w A s.os hd (.pb id off) v) (hk : s.rL (stdE np P) (cs.drop off) K) :
  ∃ cs', K cs' ∧ Rel w (· < w.heap.size) (.pp cs') v := by
 obtain ⟨b, T, c, e1, e2, e3, e4, hp, hc⟩ := box_pt hw ho
 obtain ⟨b', e5, e6⟩ := h.pb_inv ho
 rw [e1] at e5
 cases e5
 subst e6
 obtain ⟨cs', hk, hl, hcs⟩ := rL_sound (P := P) hw (cs.drop off) (c.toList.drop off) K (by simp [e3]) (fun i x hx => by
  rw [List.getElem?_drop] at hx
  have := hc (off + i) x hx
  rw [← toList_getD] at this
  simpa [List.getD] using this) hk
 refine ⟨cs', hk, Rel.pp_of (hw.fsz id b e4).2 (fun j x hx => ?_)⟩
 have hj := (List.getElem?_eq_some_iff.1 hx).1
 have h1 := hcs j x hx
 have h2 : off + j < c.size := by rw [hl] at hj; simp at hj; omega
 refine ⟨_, ?_, h1⟩
 simp [World.cell?, e2, h2, List.getD]

theorem rC_sound [St] (hw : CW W w A s.os hd F) : ∀ (cs : List AV) (vs : List Value) (K : List AV → Prop), vs.length = cs.length → (∀ (i : Nat) x, cs[i]? = some x → SRel w A s.os hd x (vs.getD i undef)) → s.rC (stdE np P) cs K →
  ∃ cs', K cs' ∧ cs'.length = vs.length ∧ ∀ (i : Nat) x, cs'[i]? = some x → Rel w (· < w.heap.size) x (vs.getD i undef)
 | [], [], K, _, _, hk => ⟨[], by simpa [AS.rC] using hk, rfl, fun i x hx => by simp at hx⟩
 | [], _ :: _, _, hn, _, _ => by simp at hn
 | _ :: _, [], _, hn, _, _ => by simp at hn
 | x :: cs, v :: vs, K, hn, hc, hk => by
  have h0 := hc 0 x (by simp)
  have main : ∀ x', Rel w (· < w.heap.size) x' v → s.rC (stdE np P) cs (fun l' => K (x' :: l')) → ∃ cs', K cs' ∧ cs'.length = (v :: vs).length ∧ ∀ (i : Nat) x, cs'[i]? = some x → Rel w (· < w.heap.size) x ((v :: vs).getD i undef) := fun x' hx' hk => by
   obtain ⟨cs', hk, hl, hcs⟩ := rC_sound hw cs vs _ (by simpa using hn) (fun i y hy => by simpa using hc (i + 1) y (by simpa using hy)) hk
   refine ⟨_, hk, by simp [hl], fun i y hy => ?_⟩
   cases i with
   | zero => simp at hy; subst hy; simpa using hx'
   | succ i => simp at hy; simpa using hcs i y hy
  unfold AS.rC at hk
  split at hk
  ·rename_i e; cases e
  ·rename_i id off l K' e
   injection e with e1 e2
   subst e1 e2
   split at hk
   ·rename_i bs ho
    obtain ⟨bs', hk, hb⟩ := pp_sound hw ho h0 hk
    exact main _ hb hk
   ·exact hk.elim
  ·rename_i y l K' _ e
   injection e with e1 e2
   subst e1 e2
   obtain ⟨x', hk, hx'⟩ := r1_sound hw h0 hk
   exact main _ hx' hk

theorem res_sound [St] (hw : CW W w A s.os hd F) {x v} {K : AV → Prop} (h : SRel w A s.os hd x v) (hk : s.res (stdE np P) x K) : ∃ x', K x' ∧ Rel w (· < w.heap.size) x' v := by
 unfold AS.res at hk
 split at hk
 ·obtain ⟨vs, rfl, hn, hc⟩ := h.agg_inv
  obtain ⟨cs', hk, hl, hcs⟩ := rL_sound hw _ vs.toList _ (by simpa using hn) (fun i x hx => by rw [toList_getD]; exact hc i x hx) hk
  exact ⟨_, hk, .agg _ _ (by simpa using hl.symm) (fun i x hx => by rw [← toList_getD]; exact hcs i x hx)⟩
 ·obtain ⟨vs, rfl, hn, hc⟩ := h.fn_inv
  obtain ⟨cs', hk, hl, hcs⟩ := rC_sound hw _ vs.toList _ (by simpa using hn) (fun i x hx => by rw [toList_getD]; exact hc i x hx) hk
  exact ⟨_, hk, .fn _ _ _ (by simpa using hl.symm) (fun i x hx => by rw [← toList_getD]; exact hcs i x hx)⟩
 ·split at hk
  ·rename_i id off _ cs ho
   obtain ⟨cs', hk, hb⟩ := pp_sound hw ho h hk
   exact ⟨_, hk, hb⟩
  ·exact hk.elim
 ·split at hk
  ·rename_i id i j _ k es ho
   obtain ⟨h0, e, he, hk⟩ := hk
   refine ⟨_, hk, ?_⟩
   obtain ⟨b, n, c, e1, e2, e3, e4⟩ := h.pe_inv ho
   subst e4
   obtain ⟨b', off', cap, e5, hb, hp⟩ := (hw.rel_row ho).sl_elem he
   rw [e1] at e5
   injection e5 with e5 _ _
   injection e5 with e5
   injection e5 with e5 e6 _
   subst e5 e6
   have := hp.drop j
   rw [Nat.zero_add] at this
   exact Rel.pp_of hb this
  ·exact hk.elim
 ·exact r1_sound hw h hk

theorem resL_sound [St] (hw : CW W w A s.os hd F) : ∀ (cs : List AV) (vs : List Value) (K : List AV → Prop), vs.length = cs.length → (∀ (i : Nat) x, cs[i]? = some x → SRel w A s.os hd x (vs.getD i undef)) → s.resL (stdE np P) cs K →
  ∃ cs', K cs' ∧ cs'.length = vs.length ∧ ∀ (i : Nat) x, cs'[i]? = some x → Rel w (· < w.heap.size) x (vs.getD i undef)
 | [], [], K, _, _, hk => ⟨[], hk, rfl, fun i x hx => by simp at hx⟩
 | [], _ :: _, _, hn, _, _ => by simp at hn
 | _ :: _, [], _, hn, _, _ => by simp at hn
 | x :: cs, v :: vs, K, hn, hc, hk => by
  unfold AS.resL at hk
  obtain ⟨x', hk, hx'⟩ := res_sound hw (hc 0 x (by simp)) hk
  obtain ⟨cs', hk, hl, hcs⟩ := resL_sound hw cs vs _ (by simpa using hn) (fun i y hy => by simpa using hc (i + 1) y (by simpa using hy)) hk
  refine ⟨_, hk, by simp [hl], fun i y hy => ?_⟩
  cases i with
  | zero => simp at hy; subst hy; simpa using hx'
  | succ i => simp at hy; simpa using hcs i y hy
end res

section trans
variable {P : Program} {np : Nat} {W : WM} {w w' : World} {A : Nat → Prop} {os os' : List Obj} {hd hd' : Nat → Value} {F F' : Nat → Nat → Prop} {s : AS}

theorem Keeps.refl [St] (G : Nat → Prop) (w : World) : Keeps G w w := ⟨rfl, rfl, rfl, Nat.le_refl _, fun _ _ _ => rfl, fun _ _ => rfl, DrawLe.refl _⟩
theorem Keeps.alloc [St] (w : World) (c : Array Value) (T : TypeId) : Keeps (fun _ => False) w (w.alloc (.cells c T)) :=
 ⟨rfl, rfl, rfl, by simp, fun x hx _ => Below.heap_alloc _ _ _ hx, fun a _ => frozen?_alloc_cells w c T a, DrawLe.of (Nat.le_refl _)⟩
theorem Keeps.trans [St] {G : Nat → Prop} {a b c : World} (h : Keeps G a b) (k : Keeps G b c) : Keeps G a c :=
 ⟨k.os.trans h.os, k.tape.trans h.tape, k.output.trans h.output, Nat.le_trans h.size k.size, fun x hx hG => (k.block x (Nat.lt_of_lt_of_le hx h.size) hG).trans (h.block x hx hG), fun x hx => (k.frz x (Nat.lt_of_lt_of_le hx h.size)).trans (h.frz x hx), DrawLe.trans h.drawn k.drawn⟩
theorem Keeps.drew [St] (w : World) : Keeps (fun _ => False) w w.drew := ⟨rfl, rfl, rfl, Nat.le_refl _, fun _ _ _ => rfl, fun _ _ => rfl, DrawLe.of (Nat.le_succ _)⟩

theorem SRel.keep [St] {x v} (h : SRel w A os hd x v) (hA : ∀ y, A y → y < w.heap.size) (hk : Keeps (fun _ => False) w w') : SRel w' A os hd x v :=
 h.mono (fun y hy => hk.block y (hA y hy) (fun h => h)) (fun _ h => h)

theorem CW.keep [St] (h : CW W w A os hd F) (hk : Keeps (fun _ => False) w w') : CW W w' A os hd F where
 pin := h.pin
 old := h.old
 below := h.below.keep hk (fun _ h => h.elim)
 hA x hx := ⟨Nat.lt_of_lt_of_le (h.hA x hx).1 hk.size, (h.hA x hx).2⟩
 fsz id x hx := ⟨(h.fsz id x hx).1, Nat.lt_of_lt_of_le (h.fsz id x hx).2 hk.size⟩
 disj := h.disj
 rows id k es ho := (h.rows id k es ho).mono (fun _ h => h) (fun x hx => hk.block x (hx.elim (fun hx => (h.hA x hx).1) (fun hx => (h.fsz id x hx).2)) (fun h => h))
 boxes id cs ho := by
  obtain ⟨b, T, c, e1, e2, e3, e4, e5⟩ := h.boxes id cs ho
  exact ⟨b, T, c, e1, by rw [hk.block b (h.fsz id b e5).2 (fun h => h)]; exact e2, e3, fun i a ha => (e4 i a ha).keep (fun y hy => (h.hA y hy).1) hk, e5⟩
 iters id s p ho := by
  obtain ⟨b, e1, e2, e3⟩ := h.iters id s p ho
  exact ⟨b, e1, by rw [hk.block b (h.fsz id b e3).2 (fun h => h)]; exact e2, e3⟩

/-- References go over to another list of objects, as long as what is still alive there was alive, with the same header. -/
theorem SRel.os_mono (hl : os.length ≤ os'.length) (hr : ∀ (id : Nat) k es', id < os.length → os'[id]? = some (.row k es') → ∃ es, os[id]? = some (.row k es) ∧ es.length = es'.length ∧ hd' id = hd id)
  (hb : ∀ (id : Nat) cs', id < os.length → os'[id]? = some (.box cs') → ∃ cs, os[id]? = some (.box cs) ∧ hd' id = hd id)
  (ht : ∀ (id : Nat) s p, id < os.length → os'[id]? = some (.iter s p) → ∃ s' p', os[id]? = some (.iter s' p') ∧ hd' id = hd id) {x v} (h : SRel w A os hd x v) : SRel w A os' hd' x v := by
 induction h with
 | pure a v h => exact .pure a v h
 | ob id v hi h =>
  exact .ob id v (by omega) fun k es' ho => let ⟨es, h1, _, h3⟩ := hr id k es' hi ho; by rw [h3]; exact h k es h1
 | vs id lo hi v hi' h =>
  refine .vs id lo hi v (by omega) fun k es' ho => ?_
  obtain ⟨es, h1, h2, h3⟩ := hr id k es' hi' ho
  have := h k es h1
  rwa [h2, ← h3] at this
 | pb id off v hi h =>
  exact .pb id off v (by omega) fun cs' ho => let ⟨cs, h1, h3⟩ := hb id cs' hi ho; by rw [h3]; exact h cs h1
 | pe id i j v hi h =>
  refine .pe id i j v (by omega) fun k es' ho => ?_
  obtain ⟨es, h1, h2, h3⟩ := hr id k es' hi ho
  have := h k es h1
  rwa [h2, ← h3] at this
 | it id v hi h => exact .it id v (by omega) fun s p ho => let ⟨s', p', h1, h3⟩ := ht id s p hi ho; by rw [h3]; exact h s' p' h1
 | agg cs vs hn _ ih => exact .agg cs vs hn ih
 | tup cs vs hn _ ih => exact .tup cs vs hn ih
 | fn f cs vs hn _ ih => exact .fn f cs vs hn ih

def updN {α : Type} (f : Nat → α) (n : Nat) (x : α) : Nat → α := fun i => if i = n then x else f i
theorem updN_eq {α : Type} (f : Nat → α) (n : Nat) (x : α) : updN f n x n = x := if_pos rfl
theorem updN_ne {α : Type} (f : Nat → α) (n : Nat) (x : α) {i : Nat} (h : i ≠ n) : updN f n x i = f i := if_neg h

theorem SRel.push (o : Obj) (hv : Value) {x v} (h : SRel w A os hd x v) : SRel w A (os ++ [o]) (updN hd os.length hv) x v :=
 h.os_mono (by simp) (fun id k es' hi ho => by
   rw [List.getElem?_append_left hi] at ho
   exact ⟨es', ho, rfl, updN_ne _ _ _ (by omega)⟩) (fun id cs' hi ho => by
   rw [List.getElem?_append_left hi] at ho
   exact ⟨cs', ho, updN_ne _ _ _ (by omega)⟩) (fun id s' p' hi ho => by
   rw [List.getElem?_append_left hi] at ho
   exact ⟨s', p', ho, updN_ne _ _ _ (by omega)⟩)

/-- A new object. -/
theorem CW.push [St] (h : CW W w A os hd F) (o : Obj) (hv : Value) (G : Nat → Prop) (hG : ∀ x, G x → W.new x ∧ x < w.heap.size ∧ ¬ A x ∧ ∀ id, ¬ F id x)
  (hrow : ∀ k es, o = .row k es → XRel w A (.sl true k es) hv G)
  (hbox : ∀ cs, o = .box cs → ∃ b T c, hv = .pointer (some ⟨b, 0, none⟩) ∧ w.heap[b]? = some (.cells c T (0, 0)) ∧ c.size = cs.length ∧ (∀ (i : Nat) a, cs[i]? = some a → SRel w A os hd a (c.getD i undef)) ∧ G b)
  (hit : ∀ s p, o = .iter s p → ∃ b, hv = .pointer (some ⟨b, 0, none⟩) ∧ w.heap[b]? = some (.stringIter s p) ∧ G b := by intro s p h; cases h) :
  CW W w A (os ++ [o]) (updN hd os.length hv) (updN F os.length G) where
 old := h.old
 pin p hp := ⟨by have := (h.pin p hp).1; simp; omega, by have := (h.pin p hp).1; rw [updN_ne _ _ _ (by omega)]; exact (h.pin p hp).2⟩
 below := h.below
 hA x hx := ⟨(h.hA x hx).1, fun id hid => by
  unfold updN at hid
  split at hid
  ·exact (hG x hid).2.2.1 hx
  ·exact (h.hA x hx).2 id hid⟩
 fsz id x hx := by
  unfold updN at hx
  split at hx
  ·exact ⟨(hG x hx).1, (hG x hx).2.1⟩
  ·exact h.fsz id x hx
 disj i j x hi hj := by
  unfold updN at hi hj
  split at hi <;> split at hj
  ·omega
  ·exact ((hG x hi).2.2.2 j hj).elim
  ·exact ((hG x hj).2.2.2 i hi).elim
  ·exact h.disj i j x hi hj
 rows id k es ho := by
  by_cases hlt : id < os.length
  ·rw [List.getElem?_append_left hlt] at ho
   rw [updN_ne _ _ _ (by omega), updN_ne _ _ _ (by omega)]
   exact h.rows id k es ho
  ·have : id = os.length := by
    have := (List.getElem?_eq_some_iff.1 ho).1
    simp at this
    omega
   subst this
   simp at ho
   rw [updN_eq, updN_eq]
   exact hrow k es ho
 boxes id cs ho := by
  by_cases hlt : id < os.length
  ·rw [List.getElem?_append_left hlt] at ho
   rw [updN_ne _ _ _ (by omega), updN_ne _ _ _ (by omega)]
   obtain ⟨b, T, c, e1, e2, e3, e4, e5⟩ := h.boxes id cs ho
   exact ⟨b, T, c, e1, e2, e3, fun i a ha => (e4 i a ha).push o hv, e5⟩
  ·have : id = os.length := by
    have := (List.getElem?_eq_some_iff.1 ho).1
    simp at this
    omega
   subst this
   simp at ho
   rw [updN_eq, updN_eq]
   obtain ⟨b, T, c, e1, e2, e3, e4, e5⟩ := hbox cs ho
   exact ⟨b, T, c, e1, e2, e3, fun i a ha => (e4 i a ha).push o hv, e5⟩
 iters id s p ho := by
  by_cases hlt : id < os.length
  ·rw [List.getElem?_append_left hlt] at ho
   rw [updN_ne _ _ _ (by omega), updN_ne _ _ _ (by omega)]
   exact h.iters id s p ho
  ·have : id = os.length := by
    have := (List.getElem?_eq_some_iff.1 ho).1
    simp at this
    omega
   subst this
   simp at ho
   rw [updN_eq, updN_eq]
   exact hit s p ho

/-- What has come of a value that enters the frame. -/
def Enter [St] (W : WM) (w : World) (A : Nat → Prop) (s : AS) (hd : Nat → Value) (F : Nat → Nat → Prop) (G : Nat → Prop) (K : AS → (Nat → Value) → List Obj → Prop) : Prop :=
 ∃ s' hd' F', s'.fr = s.fr ∧ CW W w A s'.os hd' F' ∧ (∀ y u, SRel w A s.os hd y u → SRel w A s'.os hd' y u) ∧ (∀ id y, F' id y → F id y ∨ G y) ∧ K s' hd' s'.os

theorem in1_sound [St] (hw : CW W w A s.os hd F) {x v} {G : Nat → Prop} {K : AV → AS → Prop} (hx : XRel w A x v G) (hG : ∀ y, G y → W.new y ∧ y < w.heap.size ∧ ¬ A y ∧ ∀ id, ¬ F id y)
  (hk : s.in1 x K) : Enter W w A s hd F G fun s' hd' os' => ∃ x', K x' s' ∧ SRel w A os' hd' x' v := by
 unfold AS.in1 at hk
 split at hk
 ·rename_i k es
  refine ⟨⟨s.fr, s.os ++ [.row k es]⟩, _, _, rfl, hw.push (.row k es) v G hG (fun k' es' e => by cases e; exact hx) (fun cs e => by cases e), fun y u h => h.push _ _, fun id y h => ?_, _, hk, .ob _ _ (by simp) (fun k' es' ho => ?_)⟩
  ·unfold updN at h
   split at h
   ·exact .inr h
   ·exact .inl h
  ·rw [updN_eq]
 ·rename_i cs
  cases hx with
  | pure _ _ _ _ ho _ => simp [AV.isOwn] at ho
  | bx _ b T c _ hb hn hr hF =>
   refine ⟨⟨s.fr, s.os ++ [.box cs]⟩, _, _, rfl, hw.push (.box cs) (.pointer (some ⟨b, 0, none⟩)) G hG (fun k' es' e => by cases e) (fun cs' e => by cases e; exact ⟨b, T, c, rfl, hb, hn, fun i a ha => .pure _ _ (hr i a ha), (hF b).2 rfl⟩), fun y u h => h.push _ _, fun id y h => ?_, _, hk, .pb _ _ _ (by simp) (fun cs' ho => ?_)⟩
   ·unfold updN at h
    split at h
    ·exact .inr h
    ·exact .inl h
   ·rw [updN_eq]; exact ⟨b, rfl, rfl⟩
 ·exact hk.elim
 ·exact hk.elim
 ·rename_i h1 h4 h2 h3
  refine ⟨s, hd, F, rfl, hw, fun _ _ h => h, fun _ _ h => .inl h, x, hk, ?_⟩
  cases hx with
  | pure _ _ _ h _ _ => exact .pure _ _ h
  | nil => exact (h1 _ _ rfl).elim
  | sl => exact (h1 _ _ rfl).elim
  | bx => exact (h4 _ rfl).elim
  | agg => exact (h2 _ rfl).elim
  | tup => exact (h3 _ rfl).elim

theorem Enter.mono [St] {hd : Nat → Value} {F : Nat → Nat → Prop} {G G' : Nat → Prop} {K K' : AS → (Nat → Value) → List Obj → Prop} (h : Enter W w A s hd F G K) (hG : ∀ y, G y → G' y) (hK : ∀ s' hd' os', K s' hd' os' → K' s' hd' os') : Enter W w A s hd F G' K' := by
 obtain ⟨s', hd', F', h1, h2, h3, h4, h5⟩ := h
 exact ⟨s', hd', F', h1, h2, h3, fun id y h => (h4 id y h).imp (fun h => h) (hG y), hK _ _ _ h5⟩

/-- One after the other. -/
theorem enterL [St] {step : AS → AV → (AV → AS → Prop) → Prop} {all : AS → List AV → (List AV → AS → Prop) → Prop} (h0 : ∀ s K, all s [] K → K [] s) (h1 : ∀ s x l K, all s (x :: l) K → step s x fun x' s' => all s' l fun l' s'' => K (x' :: l') s'')
  (hs : ∀ (s : AS) (hd : Nat → Value) (F : Nat → Nat → Prop) x v (G : Nat → Prop) (K : AV → AS → Prop), CW W w A s.os hd F → XRel w A x v G → (∀ y, G y → W.new y ∧ y < w.heap.size ∧ ¬ A y ∧ ∀ id, ¬ F id y) → step s x K → Enter W w A s hd F G fun s' hd' os' => ∃ x', K x' s' ∧ SRel w A os' hd' x' v) :
  ∀ (l : List AV) (vs : List Value) (G : Nat → Nat → Prop) (s : AS) (hd : Nat → Value) (F : Nat → Nat → Prop) (K : List AV → AS → Prop), CW W w A s.os hd F → vs.length = l.length →
   (∀ (i : Nat) x, l[i]? = some x → XRel w A x (vs.getD i undef) (G i)) → (∀ i y, i < l.length → G i y → W.new y ∧ y < w.heap.size ∧ ¬ A y ∧ ∀ id, ¬ F id y) →
   (∀ i j y, i < l.length → j < l.length → G i y → G j y → i = j) → all s l K →
   Enter W w A s hd F (fun y => ∃ i, i < l.length ∧ G i y) fun s' hd' os' => ∃ l', K l' s' ∧ l'.length = vs.length ∧ ∀ (i : Nat) x, l'[i]? = some x → SRel w A os' hd' x (vs.getD i undef)
 | [], [], G, s, hd, F, K, hw, _, _, _, _, hk => ⟨s, hd, F, rfl, hw, fun _ _ h => h, fun _ _ h => .inl h, [], h0 _ _ hk, rfl, fun i x hx => by simp at hx⟩
 | [], _ :: _, _, _, _, _, _, _, hn, _, _, _, _ => by simp at hn
 | _ :: _, [], _, _, _, _, _, _, hn, _, _, _, _ => by simp at hn
 | x :: l, v :: vs, G, s, hd, F, K, hw, hn, hc, hG, hd', hk => by
  obtain ⟨s1, hd1, F1, e1, hw1, hm1, hF1, x', hk1, hx'⟩ := hs s hd F x v (G 0) _ hw (by simpa using hc 0 x (by simp)) (fun y hy => hG 0 y (by simp) hy) (h1 _ _ _ _ hk)
  obtain ⟨s2, hd2, F2, e2, hw2, hm2, hF2, l', hk2, hl2, hc2⟩ := enterL h0 h1 hs l vs (fun i => G (i + 1)) s1 hd1 F1 _ hw1 (by simpa using hn) (fun i y hy => by simpa using hc (i + 1) y (by simpa using hy))
   (fun i y hi hy => by
    obtain ⟨g1, g2, g3, g4⟩ := hG (i + 1) y (by simp; omega) hy
    refine ⟨g1, g2, g3, fun id hid => ?_⟩
    rcases hF1 id y hid with h | h
    ·exact g4 id h
    ·have := hd' (i + 1) 0 y (by simp; omega) (by simp) hy h
     omega)
   (fun i j y hi hj h2 h3 => by have := hd' (i + 1) (j + 1) y (by simp; omega) (by simp; omega) h2 h3; omega) hk1
  refine ⟨s2, hd2, F2, e2.trans e1, hw2, fun y u h => hm2 y u (hm1 y u h), fun id y h => ?_, x' :: l', hk2, by simp [hl2], fun i y hy => ?_⟩
  ·rcases hF2 id y h with h | ⟨i, hi, h⟩
   ·rcases hF1 id y h with h | h
    ·exact .inl h
    ·exact .inr ⟨0, by simp, h⟩
   ·exact .inr ⟨i + 1, by simp; omega, h⟩
  ·cases i with
   | zero => simp at hy; subst hy; simpa using hm2 _ _ hx'
   | succ i => simp at hy; simpa using hc2 i y hy

theorem in2_sound [St] (hw : CW W w A s.os hd F) {x v} {G : Nat → Prop} {K : AV → AS → Prop} (hx : XRel w A x v G) (hG : ∀ y, G y → W.new y ∧ y < w.heap.size ∧ ¬ A y ∧ ∀ id, ¬ F id y)
  (hk : s.in2 x K) : Enter W w A s hd F G fun s' hd' os' => ∃ x', K x' s' ∧ SRel w A os' hd' x' v := by
 unfold AS.in2 at hk
 split at hk
 ·rename_i cs
  cases hx with
  | pure _ _ _ h ho _ => simp [AV.isOwn] at ho
  | agg _ vs _ g hn hc hF hd0 =>
   have := enterL (step := fun s x K => s.in1 x K) (all := fun s l K => s.inL l K) (W := W) (w := w) (A := A) (fun s K h => h) (fun s x l K h => h) (fun s hd F x v G K h1 h2 h3 h4 => in1_sound h1 h2 h3 h4)
    cs vs.toList g s hd F _ hw (by simpa using hn) (fun i x hx => by rw [toList_getD]; exact hc i x hx) (fun i y hi hy => hG y ((hF y).2 ⟨i, hi, hy⟩)) (fun i j y hi hj h1 h2 => hd0 i j y hi hj h1 h2) hk
   exact this.mono (fun y hy => (hF y).2 hy) fun s' hd' os' ⟨l', h1, h2, h3⟩ => ⟨_, h1, .agg _ _ (by simpa using h2.symm) (fun i x hx => by rw [← toList_getD]; exact h3 i x hx)⟩
 ·exact in1_sound hw hx hG hk

theorem take_sound [St] (hw : CW W w A s.os hd F) {x v} {G : Nat → Prop} {K : AV → AS → Prop} (hx : XRel w A x v G) (hG : ∀ y, G y → W.new y ∧ y < w.heap.size ∧ ¬ A y ∧ ∀ id, ¬ F id y)
  (hk : s.take x K) : Enter W w A s hd F G fun s' hd' os' => ∃ x', K x' s' ∧ SRel w A os' hd' x' v := by
 unfold AS.take at hk
 split at hk
 ·rename_i cs
  cases hx with
  | pure _ _ _ h ho _ => simp [AV.isOwn] at ho
  | tup _ vs _ g hn hc hF hd0 =>
   have := enterL (step := fun s x K => s.in2 x K) (all := fun s l K => s.in2L l K) (W := W) (w := w) (A := A) (fun s K h => h) (fun s x l K h => h) (fun s hd F x v G K h1 h2 h3 h4 => in2_sound h1 h2 h3 h4)
    cs vs.toList g s hd F _ hw (by simpa using hn) (fun i x hx => by rw [toList_getD]; exact hc i x hx) (fun i y hi hy => hG y ((hF y).2 ⟨i, hi, hy⟩)) (fun i j y hi hj h1 h2 => hd0 i j y hi hj h1 h2) hk
   exact this.mono (fun y hy => (hF y).2 hy) fun s' hd' os' ⟨l', h1, h2, h3⟩ => ⟨_, h1, .tup _ _ (by simpa using h2.symm) (fun i x hx => by rw [← toList_getD]; exact h3 i x hx)⟩
 ·exact in2_sound hw hx hG hk
end trans
end Go.Proofs.YtlemeenicaidfaaGreatDoor
