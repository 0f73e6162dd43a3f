/- Soundness of the operations that only read. -/
import Derived.Test.YtjenekakcoggpaaAxEnv
import Derived.RowKit3
import Derived.Laws.BytesString
namespace Go.Proofs.Ytjenekakcoggpaa
set_option linter.unusedVariables false
set_option linter.unusedSimpArgs false
open Go Go.RowKit

/-- The world at the entry; the blocks that were there and may be changed; the objects whose headers stay; the blocks that may be read. -/
structure WM where
  w : World
  ch : Nat → Prop
  pin : List (Nat × Value)
  rd : Nat → Prop
def WM.new (W : WM) (x : Nat) : Prop := W.w.heap.size ≤ x ∨ W.ch x
/-- Other blocks that were there have not changed; nothing has been frozen. -/
structure BelM (W : WM) (w' : World) : Prop where
  os : w'.os = W.w.os
  tape : w'.tape = W.w.tape
  output : w'.output = W.w.output
  size : W.w.heap.size ≤ w'.heap.size
  block : ∀ x, x < W.w.heap.size → ¬ W.ch x → w'.heap[x]? = W.w.heap[x]?
  frz : ∀ a : Addr, a.block < W.w.heap.size → w'.frozen? a = W.w.frozen? a
  drawn : W.w.drawn ≤ w'.drawn
theorem BelM.keep {W : WM} {w w' : World} {G : Nat → Prop} (h : BelM W w) (hk : Keeps G w w') (hG : ∀ x, G x → W.new x) : BelM W w' :=
  ⟨hk.os.trans h.os, hk.tape.trans h.tape, hk.output.trans h.output, Nat.le_trans h.size hk.size, fun x hx hm => (hk.block x (Nat.lt_of_lt_of_le hx h.size) (fun hg => (hG x hg).elim (fun h' => by omega) hm)).trans (h.block x hx hm), fun a ha => (hk.frz a (Nat.lt_of_lt_of_le ha h.size)).trans (h.frz a ha), Nat.le_trans h.drawn hk.drawn⟩
theorem BelM.new {W : WM} {w : World} (h : BelM W w) {x : Nat} (hx : w.heap.size ≤ x) : W.new x := .inl (Nat.le_trans h.size hx)

/-- The own objects in the world. -/
structure CW (W : WM) (w : World) (A : Nat → Prop) (os : List Obj) (hd : Nat → Value) (F : Nat → Nat → Prop) : Prop where
  below : BelM W w
  hA : ∀ x, A x → x < w.heap.size ∧ ∀ id, ¬ F id x
  fsz : ∀ id x, F id x → W.new x ∧ x < w.heap.size
  disj : ∀ i j x, F i x → F j x → i = j
  rows : ∀ (id : Nat) k es, os[id]? = some (.row k es) → XRel w A (.sl true k es) (hd id) (F id)
  boxes : ∀ (id : Nat) cs, os[id]? = some (.box cs) → ∃ b T c, hd id = .pointer (some ⟨b, 0, none⟩) ∧ w.heap[b]? = some (.cells c T (0, 0)) ∧ c.size = cs.length ∧
    (∀ (i : Nat) a, cs[i]? = some a → SRel w A os hd a (c.getD i undef)) ∧ F id b
  pin : ∀ p ∈ W.pin, p.1 < os.length ∧ hd p.1 = p.2
  old : ∀ x, A x → x < W.w.heap.size → W.rd x

section inv
variable {w : World} {A : Nat → Prop} {os : List Obj} {hd : Nat → Value} {v : Value}
theorem SRel.int_inv {k n} (h : SRel w A os hd (.int k n) v) : v = .int k n := by
  cases h with | pure _ _ h => cases h; rfl
theorem SRel.bool_inv {b} (h : SRel w A os hd (.bool b) v) : v = .bool b := by
  cases h with | pure _ _ h => cases h; rfl
theorem SRel.str_inv {b} (h : SRel w A os hd (.str b) v) : v = .string b ∧ b.size ≤ maxLen := by
  cases h with | pure _ _ h => cases h; exact ⟨rfl, ‹_›⟩
theorem SRel.nils_inv (h : SRel w A os hd .nils v) : v = .slice none 0 0 := by
  cases h with | pure _ _ h => cases h; rfl
theorem SRel.und_inv (h : SRel w A os hd .und v) : v = undef := by
  cases h with | pure _ _ h => cases h; rfl
theorem SRel.sl_inv {t k es} (h : SRel w A os hd (.sl t k es) v) : Rel w A (.sl t k es) v := by
  cases h with | pure _ _ h => exact h
theorem SRel.pp_inv {cs} (h : SRel w A os hd (.pp cs) v) : Rel w A (.pp cs) v := by
  cases h with | pure _ _ h => exact h
theorem SRel.fn_inv {f cs} (h : SRel w A os hd (.fn f cs) v) : ∃ vs, v = .func (.func f) #[] vs ∧ vs.size = cs.length ∧ ∀ (i : Nat) a, cs[i]? = some a → SRel w A os hd a (vs.getD i undef) := by
  cases h with
  | pure _ _ h => cases h with | fn _ _ vs hn hc => exact ⟨vs, rfl, hn, fun i a ha => .pure _ _ (hc i a ha)⟩
  | fn _ _ vs hn hc => exact ⟨vs, rfl, hn, hc⟩
theorem SRel.pb_lt {id off} (h : SRel w A os hd (.pb id off) v) : id < os.length := by
  cases h with
  | pure _ _ h => cases h
  | pb => assumption
theorem SRel.pb_inv {id off cs} (h : SRel w A os hd (.pb id off) v) (ho : os[id]? = some (.box cs)) : ∃ b, hd id = .pointer (some ⟨b, 0, none⟩) ∧ v = .pointer (some ⟨b, off, none⟩) := by
  cases h with
  | pure _ _ h => cases h
  | pb _ _ _ _ h => exact h cs ho
theorem SRel.pe_lt {id i j} (h : SRel w A os hd (.pe id i j) v) : id < os.length := by
  cases h with
  | pure _ _ h => cases h
  | pe => assumption
theorem SRel.pe_inv {id i j k es} (h : SRel w A os hd (.pe id i j) v) (ho : os[id]? = some (.row k es)) :
    ∃ b n c, hd id = .slice (some ⟨b, 0, none⟩) n c ∧ 0 ≤ i ∧ i.toNat < es.length ∧ v = .pointer (some ⟨b, i.toNat * k + j, none⟩) := by
  cases h with
  | pure _ _ h => cases h
  | pe _ _ _ _ _ h => exact h k es ho
theorem SRel.ob_lt {id} (h : SRel w A os hd (.ob id) v) : id < os.length := by
  cases h with
  | pure _ _ h => cases h
  | ob => assumption
theorem SRel.ob_inv {id k es} (h : SRel w A os hd (.ob id) v) (ho : os[id]? = some (.row k es)) : v = hd id := by
  cases h with
  | pure _ _ h => cases h
  | ob _ _ _ h => exact h k es ho
theorem SRel.vs_lt {id lo hi} (h : SRel w A os hd (.vs id lo hi) v) : id < os.length := by
  cases h with
  | pure _ _ h => cases h
  | vs => assumption
theorem SRel.vs_inv {id lo hi k es} (h : SRel w A os hd (.vs id lo hi) v) (ho : os[id]? = some (.row k es)) : 0 ≤ lo ∧ lo ≤ hi ∧ hi ≤ es.length ∧ ∃ p cap, v = .slice p (hi - lo).toNat cap ∧ (hi - lo).toNat ≤ cap ∧ (lo < hi → ∃ b n c, hd id = .slice (some ⟨b, 0, none⟩) n c ∧ p = some ⟨b, lo.toNat * k, none⟩)  ∧ (lo = 0 → ∃ n, hd id = .slice p n cap) := by
  cases h with
  | pure _ _ h => cases h
  | vs _ _ _ _ _ h => exact h k es ho
theorem SRel.agg_inv {cs} (h : SRel w A os hd (.agg cs) v) : ∃ vs, v = .agg vs ∧ vs.size = cs.length ∧ ∀ (i : Nat) a, cs[i]? = some a → SRel w A os hd a (vs.getD i undef) := by
  cases h with
  | pure _ _ h => cases h with | agg _ vs hn hc => exact ⟨vs, rfl, hn, fun i a ha => .pure _ _ (hc i a ha)⟩
  | agg _ vs hn hc => exact ⟨vs, rfl, hn, hc⟩
theorem SRel.tup_inv {cs} (h : SRel w A os hd (.tup cs) v) : ∃ vs, v = .tuple vs ∧ vs.size = cs.length ∧ ∀ (i : Nat) a, cs[i]? = some a → SRel w A os hd a (vs.getD i undef) := by
  cases h with
  | pure _ _ h => cases h with | tup _ vs hn hc => exact ⟨vs, rfl, hn, fun i a ha => .pure _ _ (hc i a ha)⟩
  | tup _ vs hn hc => exact ⟨vs, rfl, hn, hc⟩
theorem SRel.of_value (x : Value) : SRel w A os hd (AV.ofValue x) x := by
  unfold AV.ofValue
  split
  · exact .pure _ _ (.int _ _)
  · exact .pure _ _ (.bool _)
  · split
    · exact .pure _ _ (.str _ (by unfold maxLen; omega))
    · exact .pure _ _ (.any _)
  · exact .pure _ _ .nils
  · exact .pure _ _ .nilp
  · exact .pure _ _ (.any _)
end inv

theorem allPure_get' {l : List AV} (h : AV.allPure l = true) {i : Nat} {x : AV} (hx : l[i]? = some x) : x.isPure = true := by
  induction l generalizing i with
  | nil => simp at hx
  | cons y l ih =>
    unfold AV.allPure at h
    split at h
    · cases i with
      | zero => simp at hx; subst hx; assumption
      | succ i => simp at hx; exact ih h hx
    · cases h
theorem SRel.pure_inv' {w : World} {A : Nat → Prop} {os : List Obj} {hd : Nat → Value} {x : AV} {v : Value} (h : SRel w A os hd x v) (hx : match x with | .ob _ | .vs .. | .pb .. | .pe .. | .agg _ | .tup _ | .fn .. => False | _ => True) : Rel w A x v := by
  cases h with
  | pure _ _ h => exact h
  | _ => exact hx.elim

theorem str_tot : ∀ l m : List UInt8, (!Op.bytesLess m l) = (Op.bytesLess l m || l == m)
  | [], [] => rfl
  | [], _ :: _ => rfl
  | _ :: _, [] => rfl
  | a :: l, b :: m => by
    have ih := str_tot l m
    simp only [Op.bytesLess]
    by_cases h : a = b
    · subst h
      have h1 : ¬ a < a := UInt8.lt_irrefl a
      simp [h1, ih]
    · have h2 : (a == b) = false := by simpa using h
      have h3 : (b == a) = false := by simpa using Ne.symm h
      rcases UInt8.lt_or_lt_of_ne h with h4 | h4
      · have h5 : ¬ b < a := UInt8.lt_asymm h4
        simp [h2, h3, h4, h5]
      · have h5 : ¬ a < b := UInt8.lt_asymm h4
        simp [h2, h3, h4, h5]

theorem bnot_eq (b : Bool) : bnot b = !b := by cases b <;> rfl

section lay
variable {P : Program} {L : Lay} (hL : L.ty = layOf P) {t : TypeId}
include hL
theorem lay_info (h : (L.ty t).d ≠ .other) : ∃ i, P.info? t = some i ∧ (L.ty t).n = i.size ∧ (L.ty t).bytes = i.bytes ∧ (L.ty t).zero = Z.ofAll i.zero := by
  rw [hL] at *
  unfold layOf TyI.of at *
  cases hi : P.info? t with
  | none => simp [hi] at h
  | some i => exact ⟨i, rfl, rfl, rfl, rfl⟩
theorem lay_d (h : (L.ty t).d ≠ .other) : (L.ty t).d = D.of (P.underlying t) ∧ (L.ty t).agg = (D.of (P.underlying t)).isAgg := by
  rw [hL] at *
  unfold layOf TyI.of at *
  cases hi : P.info? t with
  | none => simp [hi] at h
  | some i => exact ⟨rfl, rfl⟩
theorem lay_bool (h : (L.ty t).d = .bool) : P.underlying t = some .bool := by
  have h1 := (lay_d hL (by rw [h]; simp)).1
  rw [h] at h1
  unfold D.of at h1
  split at h1 <;> simp_all
theorem lay_int {k} (h : (L.ty t).d = .int k) : P.underlying t = some (.int k) := by
  have h1 := (lay_d hL (by rw [h]; simp)).1
  rw [h] at h1
  unfold D.of at h1
  split at h1 <;> simp_all
theorem lay_str (h : (L.ty t).d = .str) : P.underlying t = some .string := by
  have h1 := (lay_d hL (by rw [h]; simp)).1
  rw [h] at h1
  unfold D.of at h1
  split at h1 <;> simp_all
theorem lay_slice {e} (h : (L.ty t).d = .slice e) : P.underlying t = some (.slice e) := by
  have h1 := (lay_d hL (by rw [h]; simp)).1
  rw [h] at h1
  unfold D.of at h1
  split at h1 <;> simp_all
theorem lay_struct {fs} (h : (L.ty t).d = .struct fs) : ∃ gs, P.underlying t = some (.struct gs) ∧ fs = gs.toList.map fun f => (f.offset, f.type) := by
  have h1 := (lay_d hL (by rw [h]; simp)).1
  rw [h] at h1
  unfold D.of at h1
  split at h1 <;> simp_all
theorem lay_array {n e} (h : (L.ty t).d = .array n e) : P.underlying t = some (.array n e) := by
  have h1 := (lay_d hL (by rw [h]; simp)).1
  rw [h] at h1
  unfold D.of at h1
  split at h1 <;> simp_all
end lay

section ops
variable {P : Program} {np : Nat} {L : Lay} {W : WM} {w : World} {os : List Obj} {hd : Nat → Value} {F : Nat → Nat → Prop} {s : AS} {a : Act}

/-- What is said of an operation that reads. -/
def Yields (P : Program) (w : World) (A : Nat → Prop) (os : List Obj) (hd : Nat → Value) (a : Act) (o : Oper) (K : AV → Prop) : Prop :=
  ∃ x v, K x ∧ SRel w A os hd x v ∧ (execOp a.eval o).run P w = .ok (.value v) w

theorem val_binOp (hL : L.ty = layOf P) {A : Nat → Prop} (d : Option Tmp) (ty : TypeId) (pos : String) (af : Array Edge) (g : Option (Nat × Bool)) (op : BinOp) (t t' : TypeId) (x y : Operand) (K : AV → Prop)
    (hx : SRel w A os hd (s.get x) (a.eval x)) (hy : SRel w A os hd (s.get y) (a.eval y)) (hk : abin (stdE np P) L op t (s.get x) (s.get y) K) :
    Yields P w A os hd a ⟨d, .binOp op t x y t', ty, pos, af, g⟩ K := by
  generalize s.get x = p at *
  generalize s.get y = q at *
  unfold abin at hk
  split at hk
  · rename_i k m k' n
    have e1 := hx.int_inv
    have e2 := hy.int_inv
    split at hk
    · obtain ⟨hz, hk⟩ := hk
      exact ⟨_, _, hk, .pure _ _ (.int _ _), by
        simp only [execOp, e1, e2]
        simp [go_sem, eqGuard, binOp, Op.shift, Int.not_lt.2 hz, Nat.min]⟩
    split at hk
    · subst k'
      unfold abinInt at hk
      unfold Yields
      cases op <;> simp only [stdE] at hk
      case add | sub | mul => exact ⟨_, _, hk, .pure _ _ (.int _ _), by simp only [execOp, e1, e2]; simp [go_sem, eqGuard, binOp, Op.intArith]⟩
      case and | or | xor => exact ⟨_, _, hk, .pure _ _ (.int _ _), by simp only [execOp, e1, e2]; simp [go_sem, eqGuard, binOp, Op.intBits, bitsOf]⟩
      case quo | rem => obtain ⟨hz, hk⟩ := hk; exact ⟨_, _, hk, .pure _ _ (.int _ _), by
        simp only [execOp, e1, e2]
        simp [go_sem, eqGuard, binOp, Op.intDiv, hz]⟩
      case lss | leq | gtr | geq | eql | neq => exact ⟨_, _, hk, .pure _ _ (.bool _), by simp only [execOp, e1, e2]; simp [go_sem, eqGuard, binOp, Op.intCmp, bne, bnot_eq]⟩
      all_goals exact hk.elim
    · exact hk.elim
  · rename_i u v'
    obtain ⟨e1, h1⟩ := hx.str_inv
    obtain ⟨e2, h2⟩ := hy.str_inv
    unfold abinStr at hk
    unfold Yields
    cases op <;> simp only [stdE] at hk
    case add => exact ⟨_, _, hk.2, .pure _ _ (.str _ (by rw [ByteArray.size_append]; exact hk.1)), by
      have hm := hk.1
      unfold maxLen at hm
      simp only [execOp, e1, e2]
      simp [go_sem, eqGuard, binOp, Op.stringOp, IntKind.max, IntKind.signed, IntKind.bits]; omega⟩
    case lss | geq | eql | neq => exact ⟨_, _, hk, .pure _ _ (.bool _), by
      simp only [execOp, e1, e2]; simp [go_sem, eqGuard, binOp, Op.stringOp, bnot_eq]⟩
    case leq => exact ⟨_, _, hk, .pure _ _ (.bool _), by
      simp only [execOp, e1, e2]; simp only [bnot_eq, str_tot]; simp [go_sem, eqGuard, binOp, Op.stringOp]⟩
    case gtr =>
      have e3 : Op.bytesLess v'.toList u.toList = !(Op.bytesLess u.toList v'.toList || u.toList == v'.toList) := by rw [← str_tot]; simp
      exact ⟨_, _, hk, .pure _ _ (.bool _), by
        simp only [execOp, e1, e2]; rw [e3]; simp [go_sem, eqGuard, binOp, Op.stringOp]⟩
    all_goals exact hk.elim
  · rename_i b c
    have e1 := hx.bool_inv
    have e2 := hy.bool_inv
    unfold Yields
    split at hk
    · have ht := lay_bool hL (by assumption)
      exact ⟨_, _, hk, .pure _ _ (.bool _), by simp only [execOp, e1, e2]; cases b <;> cases c <;> simp [go_sem, eqGuard, beqB, bnot, run_eql_bool, ht]⟩
    · have ht := lay_bool hL (by assumption)
      exact ⟨_, _, hk, .pure _ _ (.bool _), by simp only [execOp, e1, e2]; cases b <;> cases c <;> simp [go_sem, eqGuard, beqB, bnot, binOp, run_equal_bool, ht]⟩
    · exact hk.elim
  · exact hk.elim

theorem addr_add (b off n : Nat) : (⟨b, off, none⟩ : Addr).add n = ⟨b, off + n, none⟩ := by
  unfold Addr.add; split <;> simp_all

/-- Cells that lie one behind the other. -/
def Pt (w : World) (A : Nat → Prop) (os : List Obj) (hd : Nat → Value) (b off : Nat) (cs : List AV) : Prop :=
  ∀ (j : Nat) x, cs[j]? = some x → ∃ v, w.cell? ⟨b, off + j, none⟩ = some v ∧ SRel w A os hd x v
def PtR (w : World) (A : Nat → Prop) (b off : Nat) (cs : List AV) : Prop :=
  ∀ (j : Nat) x, cs[j]? = some x → ∃ v, w.cell? ⟨b, off + j, none⟩ = some v ∧ Rel w A x v
theorem Pt.drop {A b off cs} (h : Pt w A os hd b off cs) (n : Nat) : Pt w A os hd b (off + n) (cs.drop n) := fun j x hx => by
  rw [List.getElem?_drop] at hx
  have := h (n + j) x hx
  rwa [← Nat.add_assoc] at this
theorem PtR.drop {A b off cs} (h : PtR w A b off cs) (n : Nat) : PtR w A b (off + n) (cs.drop n) := fun j x hx => by
  rw [List.getElem?_drop] at hx
  have := h (n + j) x hx
  rwa [← Nat.add_assoc] at this
theorem PtR.pt {A b off cs} (h : PtR w A b off cs) : Pt w A os hd b off cs := fun j x hx => let ⟨v, h1, h2⟩ := h j x hx; ⟨v, h1, .pure _ _ h2⟩
theorem Rel.pp_of {A : Nat → Prop} {b off cs} (hb : A b) (h : PtR w A b off cs) : Rel w A (.pp cs) (.pointer (some ⟨b, off, none⟩)) := by
  refine .pp cs b off (fun j => (w.cell? ⟨b, off + j, none⟩).getD undef) hb (fun j hj => ?_) (fun j x hx => ?_)
  · obtain ⟨v, h1, _⟩ := h j _ (List.getElem?_eq_getElem hj); rw [h1]; rfl
  · obtain ⟨v, h1, h2⟩ := h j x hx; rw [h1]; exact h2
theorem Rel.pp_inv {A : Nat → Prop} {cs v} (h : Rel w A (.pp cs) v) : ∃ b off, v = .pointer (some ⟨b, off, none⟩) ∧ A b ∧ PtR w A b off cs := by
  cases h with
  | pp _ b off val hb hc hr => exact ⟨b, off, rfl, hb, fun j x hx => ⟨val j, hc j (List.getElem?_eq_some_iff.1 hx).1, hr j x hx⟩⟩
/-- An element of a slice. -/
theorem Rel.sl_elem {A : Nat → Prop} {t k es v} (h : Rel w A (.sl t k es) v) {i : Nat} {e : List AV} (he : es[i]? = some e) :
    ∃ b off cap, v = .slice (some ⟨b, off, none⟩) es.length cap ∧ A b ∧ PtR w A b (off + i * k) e := by
  cases h with
  | sl _ _ _ p cap b off val hl hcap hp hk hc h1c hr =>
    have hi := (List.getElem?_eq_some_iff.1 he).1
    have hne : es ≠ [] := by rintro rfl; simp at hi
    obtain ⟨rfl, hA⟩ := hp hne
    refine ⟨b, off, cap, rfl, hA, fun j x hx => ⟨val i j, ?_, hr i j e x he hx⟩⟩
    have hj := (List.getElem?_eq_some_iff.1 hx).1
    rw [hk e (List.mem_of_getElem? he)] at hj
    rw [Nat.add_assoc]
    exact hc i j hi hj
theorem Rel.sl_len {A : Nat → Prop} {t k es v} (h : Rel w A (.sl t k es) v) : ∃ p cap, v = .slice p es.length cap ∧ es.length ≤ maxLen ∧ es.length ≤ cap := by
  cases h with
  | sl _ _ _ p cap b off val hl hcap hp hk hc h1c hr => exact ⟨p, cap, rfl, hl, hcap⟩
theorem XRel.flat {A : Nat → Prop} {x v} {G : Nat → Prop} (h : XRel w A x v G) (hx : x.flat = true) : Rel w A x v := by
  cases h with
  | pure _ _ _ h _ _ => exact h
  | nil => simp [AV.flat] at hx
  | sl => simp [AV.flat] at hx
  | bx => simp [AV.flat] at hx
  | agg => simp [AV.flat] at hx
  | tup => simp [AV.flat] at hx
theorem allFlat_get {l : List AV} (h : AV.allFlat l = true) {i : Nat} {x : AV} (hx : l[i]? = some x) : x.flat = true := by
  induction l generalizing i with
  | nil => simp at hx
  | cons y l ih =>
    unfold AV.allFlat at h
    split at h
    · cases i with
      | zero => simp at hx; subst hx; assumption
      | succ i => simp at hx; exact ih h hx
    · cases h
/-- An element of an own row. -/
theorem XRel.row_elem {A : Nat → Prop} {k es v} {G : Nat → Prop} (h : XRel w A (.sl true k es) v G) {i : Nat} {e : List AV} (he : es[i]? = some e) :
    ∃ b T c cap, v = .slice (some ⟨b, 0, none⟩) es.length cap ∧ G b ∧ w.heap[b]? = some (.cells c T (0, 0)) ∧ e.length = k ∧ i * k + k ≤ c.size ∧
      ∀ (j : Nat) x, e[j]? = some x → w.cell? ⟨b, i * k + j, none⟩ = some (c.getD (i * k + j) undef) ∧ ∃ G', XRel w A x (c.getD (i * k + j) undef) G' := by
  cases h with
  | pure _ _ _ h ho hF => simp [AV.isOwn] at ho
  | nil => simp at he
  | sl _ _ cap b T c F G hb hl hcap hsz hk h1c hr hF h0 hd =>
    have hi := (List.getElem?_eq_some_iff.1 he).1
    have hke := hk e (List.mem_of_getElem? he)
    have h1 : i * k + k ≤ c.size := by
      have : (i + 1) * k ≤ cap * k := Nat.mul_le_mul_right k (by omega)
      rw [Nat.add_mul] at this; omega
    refine ⟨b, T, c, cap, rfl, (hF b).2 (.inl rfl), hb, hke, h1, fun j x hx => ⟨?_, _, hr i j e x he hx⟩⟩
    have hj := (List.getElem?_eq_some_iff.1 hx).1
    have h2 : i * k + j < c.size := by omega
    simp [World.cell?, hb, h2]

theorem run_loadCellsFrom {a : Addr} {f : Nat → Value} : ∀ (n i : Nat) (acc : Array Value), (∀ j, i ≤ j → j < i + n → w.cell? (a.add j) = some (f j)) →
    (loadCellsFrom a i n acc).run P w = .ok (acc ++ ((List.range' i n).map f).toArray) w
  | 0, i, acc, _ => by simp [loadCellsFrom, go_sem]
  | n + 1, i, acc, h => by
    have h0 := h i (Nat.le_refl _) (by omega)
    have ih := run_loadCellsFrom n (i + 1) (acc.push (f i)) (fun j h1 h2 => h j (by omega) (by omega))
    simp only [loadCellsFrom, List.range'_succ]
    simp [go_sem, h0, ih]

theorem run_isAgg (hL : L.ty = layOf P) {t : TypeId} (h : (L.ty t).d ≠ .other) : (isAgg t).run P w = .ok (L.ty t).agg w := by
  obtain ⟨h1, h2⟩ := lay_d hL h
  rw [h2]
  rw [h1] at h
  unfold isAgg
  cases hu : P.underlying t with
  | none => simp [hu, D.of] at h
  | some d => cases d <;> simp [go_sem, hu, D.of, D.isAgg, underlying]

theorem run_sizeOf (hL : L.ty = layOf P) {t : TypeId} (h : (L.ty t).d ≠ .other) : (sizeOf t).run P w = .ok (L.ty t).n w := by
  obtain ⟨i, h1, h2, _⟩ := lay_info hL h
  rw [h2]
  simp [sizeOf, typeInfo, go_sem, h1]

theorem bytesOf_size (ns : List Int) : (bytesOf ns).size = ns.length := by
  have : ∀ (ns : List Int) (r : ByteArray), (ns.foldl (fun r n => r.push (UInt8.ofNat n.toNat)) r).size = r.size + ns.length := by
    intro ns
    induction ns with
    | nil => intro r; rfl
    | cons n ns ih => intro r; simp only [List.foldl_cons, ih, List.length_cons]; rw [ByteArray.size_push]; omega
  simpa [bytesOf] using this ns ByteArray.empty

/-- Bytes as a string. -/
theorem run_toStr {A : Nat → Prop} {t k v} {ns : List Int} (h : Rel w A (.sl t k (ns.map fun n => [AV.int .u8 n])) v) : (Conv.bytesToString v).run P w = .ok (.string (bytesOf ns)) w ∧ (bytesOf ns).size ≤ maxLen := by
  rw [bytesOf_size]
  cases h with
  | sl _ _ _ p cap b off val hl hcap hp hk hc h1c hr =>
    refine ⟨?_, by simpa using hl⟩
    cases ns with
    | nil =>
      cases p with
      | none => rfl
      | some a =>
        refine run_bytesToString w a _ cap [] ?_
        rfl
    | cons n ns =>
      obtain ⟨rfl, _⟩ := hp (by simp)
      have hk1 : k = 1 := by have := hk [AV.int .u8 n] (by simp); simpa using this.symm
      subst hk1
      have hv : ∀ i m, (n :: ns)[i]? = some m → val i 0 = .int .u8 m := fun i m hm => by
        have := hr i 0 [AV.int .u8 m] (.int .u8 m) (by rw [List.getElem?_map, hm]; rfl) rfl
        generalize val i 0 = q at this
        cases this; rfl
      refine run_bytesToString w _ _ cap (n :: ns) ?_
      unfold loadCells
      rw [run_loadCellsFrom (f := fun i => val i 0) _ 0 #[] (fun j _ hj => by
        rw [addr_add]
        have := hc j 0 (by simpa using hj) (by omega)
        simpa using this)]
      congr 1
      simp only [List.length_map]
      rw [Array.empty_append, ← List.range_eq_range']
      congr 1
      refine List.ext_getElem? fun i => ?_
      rw [List.getElem?_map, List.getElem?_map]
      by_cases hi : i < (n :: ns).length
      · rw [List.getElem?_range hi, List.getElem?_eq_getElem hi]
        simp only [Option.map_some]
        rw [hv i _ (List.getElem?_eq_getElem hi)]
      · rw [List.getElem?_eq_none (by simpa using Nat.le_of_not_lt hi), List.getElem?_eq_none (by omega)]; rfl

/-- A load out of cells that are known. -/
theorem run_loadVar (hL : L.ty = layOf P) {A : Nat → Prop} {t : TypeId} {b off : Nat} {cs : List AV} {K : AV → Prop} (hp : Pt w A os hd b off cs) (hk : ofCells L t cs K) :
    ∃ x v, K x ∧ SRel w A os hd x v ∧ (loadVar t ⟨b, off, none⟩).run P w = .ok v w := by
  unfold ofCells at hk
  split at hk
  · exact hk.elim
  · have ha : (L.ty t).agg = true := by assumption
    have hd' : (L.ty t).d ≠ .other := by intro e; simp_all
    split at hk
    · rename_i hn
      have h1 := run_isAgg (w := w) hL hd'
      rw [ha] at h1
      have h2 : (loadCellsFrom ⟨b, off, none⟩ 0 (L.ty t).n #[]).run P w = .ok ((List.range (L.ty t).n).map fun j => (w.cell? ⟨b, off + j, none⟩).getD undef).toArray w := by
        rw [run_loadCellsFrom (f := fun j => (w.cell? ⟨b, off + j, none⟩).getD undef)]
        · simp [List.range_eq_range']
        · intro j _ hj
          obtain ⟨v, hv, _⟩ := hp j _ (List.getElem?_eq_getElem (by omega : j < cs.length))
          rw [addr_add, hv]; rfl
      refine ⟨_, _, hk, .agg _ ((List.range (L.ty t).n).map fun j => (w.cell? ⟨b, off + j, none⟩).getD undef).toArray (by simp; omega) (fun i x hx => ?_), ?_⟩
      · rw [List.getElem?_take] at hx
        split at hx
        · rename_i hi
          obtain ⟨v, hv, hr⟩ := hp i x hx
          simpa [Array.getD, hi, hv] using hr
        · cases hx
      · simp [loadVar, go_sem, h1, h2, run_sizeOf hL hd']
    · exact hk.elim
  · have ha : (L.ty t).agg = false := by assumption
    have hd' : (L.ty t).d ≠ .other := by intro e; simp_all
    split at hk
    · rename_i c _
      obtain ⟨v, hv, hr⟩ := hp 0 c (by simp)
      have h1 := run_isAgg (w := w) hL hd'
      rw [ha] at h1
      refine ⟨_, v, hk, hr, ?_⟩
      simp only [Nat.add_zero] at hv
      simp [loadVar, go_sem, h1, hv]
    · exact hk.elim

theorem run_v {α : Type} {x : Sem α} {v : α} (h : x.run P w = .ok v w) (f : α → Sem Next) : (x >>= f).run P w = (f v).run P w := by
  rw [Sem.run_bind, h]; rfl
theorem run_load_op {t : TypeId} {x : Operand} {A : Addr} {v : Value} {dst : Option Tmp} {ty : TypeId} {pos : String} {af : Array Edge} {g : Option (Nat × Bool)}
    (hp : a.eval x = .pointer (some A)) (h : (loadVar t A).run P w = .ok v w) : (execOp a.eval ⟨dst, .load t x, ty, pos, af, g⟩).run P w = .ok (.value v) w := by
  simp only [execOp, hp, Instr.loadAt, Instr.sureAddr]
  rw [Sem.run_bind]
  have h1 : (do loadVar t (← (pure A : Sem Addr)) : Sem Value).run P w = .ok v w := h
  rw [h1]
  rfl
theorem lay_field (hL : L.ty = layOf P) {t f off ft} (h : fieldOf L t f = some (off, ft)) :
    ∃ gs g, P.underlying t = some (.struct gs) ∧ gs[f]? = some g ∧ g.offset = off ∧ g.type = ft ∧ (L.ty ft).n ≠ 0 := by
  unfold fieldOf at h
  split at h
  · rename_i fs hd'
    obtain ⟨gs, h1, h2⟩ := lay_struct hL hd'
    subst h2
    split at h
    · rename_i o t' hf
      rw [List.getElem?_map] at hf
      rw [Array.getElem?_toList] at hf
      cases hg : gs[f]? with
      | none => simp [hg] at hf
      | some g =>
        simp [hg] at hf
        split at h
        · cases h
        · cases h
          obtain ⟨h3, h4⟩ := hf
          exact ⟨gs, g, h1, hg, h3, h4, by assumption⟩
    · cases h
  · cases h
theorem lay_n_other (hL : L.ty = layOf P) {t : TypeId} (h : (L.ty t).n ≠ 0) : ∃ i, P.info? t = some i ∧ (L.ty t).n = i.size := by
  rw [hL] at *
  unfold layOf TyI.of at *
  cases hi : P.info? t with
  | none => simp [hi] at h
  | some i => exact ⟨i, rfl, rfl⟩
theorem run_fieldAt (hL : L.ty = layOf P) {t f off ft b o} (h : fieldOf L t f = some (off, ft)) :
    (Instr.fieldAt t (.pointer (some ⟨b, o, none⟩)) f).run P w = .ok (.pointer (some ⟨b, o + off, none⟩)) w := by
  obtain ⟨gs, g, h1, h2, h3, h4, h5⟩ := lay_field hL h
  obtain ⟨i, h6, h7⟩ := lay_n_other hL h5
  subst h3 h4
  have h8 : i.size ≠ 0 := by omega
  have hg : ⟨b, o, none⟩ = (⟨b, o, none⟩ : Addr) := rfl
  simp [Instr.fieldAt, underlying, go_sem, h1, h2, Instr.sureAddr, fieldPlace, sizeOf, typeInfo, h6, h8, addr_add]
theorem elemK_spec (hL : L.ty = layOf P) {t k} (h : elemK L t = some k) : ∃ e, P.underlying t = some (.slice e) ∧ ∀ w, (sizeOf e).run P w = .ok k w := by
  unfold elemK at h
  split at h
  · rename_i e hd'
    split at h
    · cases h
    · cases h
      exact ⟨e, lay_slice hL hd', fun w => run_sizeOf hL (by assumption)⟩
  · cases h
theorem run_part (hL : L.ty = layOf P) {A : Nat → Prop} {t : TypeId} {off : Nat} {cs : List AV} {vs : Array Value} {K : AV → Prop} (hn : vs.size = cs.length)
    (hc : ∀ (i : Nat) x, cs[i]? = some x → SRel w A os hd x (vs.getD i undef)) (hk : ofCells L t (cs.drop off) K) :
    ∃ x v, K x ∧ SRel w A os hd x v ∧ (part t vs off).run P w = .ok v w := by
  unfold ofCells at hk
  split at hk
  · exact hk.elim
  · have ha : (L.ty t).agg = true := by assumption
    have hd' : (L.ty t).d ≠ .other := by intro e; simp_all
    split at hk
    · rename_i hl
      rw [List.length_drop] at hl
      have h1 := run_isAgg (w := w) hL hd'
      rw [ha] at h1
      have h2 := run_sizeOf (w := w) hL hd'
      refine ⟨_, .agg (vs.extract off (off + (L.ty t).n)), hk, .agg _ _ (by simp; omega) (fun i x hx => ?_), ?_⟩
      · rw [List.getElem?_take] at hx
        split at hx
        · rw [List.getElem?_drop] at hx
          have := hc (off + i) x hx
          have h3 := (List.getElem?_eq_some_iff.1 hx).1
          have h4 : off + i < vs.size := by omega
          have h5 : i < min (off + (L.ty t).n) vs.size - off := by omega
          simpa [Array.getD, h4, h5] using this
        · cases hx
      · unfold part
        rw [Sem.run_bind, h1]
        simp only [Result.andThen_ok, if_true]
        rw [Sem.run_bind, h2]
        rfl
    · exact hk.elim
  · have ha : (L.ty t).agg = false := by assumption
    have hd' : (L.ty t).d ≠ .other := by intro e; simp_all
    split at hk
    · rename_i c l hcl
      have h0 : cs[off]? = some c := by
        have : (cs.drop off)[0]? = some c := by rw [hcl]; rfl
        rwa [List.getElem?_drop] at this
      have h3 := (List.getElem?_eq_some_iff.1 h0).1
      have h4 : off < vs.size := by omega
      have h1 := run_isAgg (w := w) hL hd'
      rw [ha] at h1
      refine ⟨_, _, hk, hc off c h0, ?_⟩
      unfold part
      rw [Sem.run_bind, h1]
      have h5 : vs[off]? = some (vs.getD off undef) := by simp [Array.getD, h4]
      simp only [Result.andThen_ok, Bool.false_eq_true, if_false]
      rw [h5]
      rfl
    · exact hk.elim
theorem run_indexAt {t e k : Nat} {b off len cap : Nat} {kk : IntKind} {i : Int} (he : P.underlying t = some (.slice e)) (hn : ∀ w, (sizeOf e).run P w = .ok k w) (h0 : 0 ≤ i) (hlt : i.toNat < len) :
    (Instr.indexAt t (.slice (some ⟨b, off, none⟩) len cap) (.int kk i)).run P w = .ok (.pointer (some ⟨b, off + i.toNat * k, none⟩)) w := by
  have hlt' : i < (len : Int) := by omega
  have h1 := fun w => run_underlying (P := P) he w
  unfold Instr.indexAt
  simp only [asIntOf, pure_bind]
  simp [h1, hn, h0, hlt', addr_add]
theorem isStr_spec (hL : L.ty = layOf P) {t} (h : isStr L t = true) : P.underlying t = some .string := by
  unfold isStr at h
  split at h
  · exact lay_str hL (by assumption)
  · cases h
theorem run_builtin {c : Call} {b : Builtin} {v : Value} {dst : Option Tmp} {ty : TypeId} {pos : String} {af : Array Edge} {g : Option (Nat × Bool)} (hc : c.callee = .builtin b)
    (h : (builtin b c.argTypes ty (c.args.map fun | .const _ => true | _ => false) (c.args.map a.eval)).run P w = .ok (.value v) w) :
    (execOp a.eval ⟨dst, .call c, ty, pos, af, g⟩).run P w = .ok (.value v) w := by
  obtain ⟨ce, as', ts⟩ := c
  cases hc
  exact h
theorem run_sliceBound {k : IntKind} {i : Int} {y : Nat} {code : BoundsCode} (h0 : 0 ≤ i) (h1 : i ≤ y) : (Instr.sliceBound (.int k i) y code).run P w = .ok i.toNat w := by
  simp [Instr.sliceBound, asIntOf, go_sem, h0, h1]
theorem run_sliceBounds {kl kh : IntKind} {lo hi : Option Int} {b : Bool} {len cap : Nat} (h0 : 0 ≤ lo.getD 0) (h1 : lo.getD 0 ≤ hi.getD len) (h2 : hi.getD len ≤ len) (h3 : len ≤ cap) :
    (Instr.sliceBounds b len cap (lo.map (.int kl)) (hi.map (.int kh)) none).run P w = .ok ((lo.getD 0).toNat, (hi.getD len).toNat, cap) w := by
  unfold Instr.sliceBounds
  cases lo with
  | none =>
    cases hi with
    | none => simp [go_sem]
    | some h =>
      simp at h1 h2
      have e := fun c => run_sliceBound (P := P) (w := w) (k := kh) (code := c) h1 (by omega : h ≤ cap)
      simp [e, go_sem]
  | some l =>
    cases hi with
    | none =>
      simp at h0 h1
      have e := fun c => run_sliceBound (P := P) (w := w) (k := kl) (code := c) h0 h1
      simp [e, go_sem]
    | some h =>
      simp at h0 h1 h2
      have e1 := fun c => run_sliceBound (P := P) (w := w) (k := kh) (code := c) (by omega : 0 ≤ h) (by omega : h ≤ cap)
      have e2 := fun c => run_sliceBound (P := P) (w := w) (k := kl) (y := h.toNat) (code := c) h0 (by omega)
      simp only [Option.map_some, Sem.run_bind]
      rw [show Sem.run P (pure cap) w = .ok cap w from rfl]
      simp only [Result.andThen_ok]
      rw [e1]
      simp only [Result.andThen_ok]
      rw [e2]
      rfl
theorem optInt_spec {A : Nat → Prop} {lo : Option Operand} {lo' : Option Int} (h : optInt s lo = some lo') (hx : ∀ y ∈ lo, SRel w A s.os hd (s.get y) (a.eval y)) : ∃ k, lo.map a.eval = lo'.map (.int k) := by
  unfold optInt at h
  split at h
  · cases h; exact ⟨.i64, rfl⟩
  · rename_i x
    split at h
    · rename_i k n hg
      cases h
      have := hx x rfl
      rw [hg] at this
      exact ⟨k, by simp [this.int_inv]⟩
    · cases h
theorem Rel.sl_sub {A : Nat → Prop} {own k es p cap} (h : Rel w A (.sl own k es) (.slice p es.length cap)) {l m : Nat} (h1 : l ≤ m) (h2 : m ≤ es.length) :
    Rel w A (.sl false k ((es.take m).drop l)) (.slice (if cap = l then p else p.map (·.add (l * k))) (m - l) (cap - l)) := by
  have hlen : ((es.take m).drop l).length = m - l := by simp; omega
  rw [← hlen]
  cases h with
  | sl _ _ _ _ _ b off val hl hcap hp hk hc h1c hr =>
    refine .sl false k _ _ _ b (off + l * k) (fun i j => val (l + i) j) (by omega) (by omega) (fun hne => ?_) (fun e he => hk e (List.mem_of_mem_take (List.mem_of_mem_drop he))) (fun i j hi hj => ?_) (fun i j hi hj => ?_) (fun i j e a he ha => ?_)
    · have h3 : 0 < m - l := by rw [← hlen]; exact List.length_pos_iff.2 hne
      have hne' : es ≠ [] := by rintro rfl; simp at h2; omega
      obtain ⟨rfl, hA⟩ := hp hne'
      rw [if_neg (by omega)]
      exact ⟨by simp [addr_add], hA⟩
    · rw [hlen] at hi
      have := hc (l + i) j (by omega) hj
      rw [← this, Nat.add_mul]
      congr 2
      omega
    · rw [hlen] at hi; exact h1c (l + i) j (by omega) hj
    · rw [List.getElem?_drop, List.getElem?_take] at he
      split at he
      · exact hr (l + i) j e a he ha
      · cases he
theorem vs_of_row {A : Nat → Prop} {k es} {v : Value} {G : Nat → Prop} (h : XRel w A (.sl true k es) v G) :
    ∃ p cap, v = .slice p es.length cap ∧ es.length ≤ cap ∧ (∀ l m : Nat, l ≤ m → m ≤ es.length → l < m → ∃ b, v = .slice (some ⟨b, 0, none⟩) es.length cap ∧ (if cap = l then p else p.map (·.add (l * k))) = some ⟨b, l * k, none⟩) ∧ p.map (·.add (0 * k)) = p := by
  cases h with
  | pure _ _ _ h ho hF => simp [AV.isOwn] at ho
  | nil => exact ⟨none, 0, rfl, by simp, fun l m h1 h2 h3 => by simp at h2; omega, rfl⟩
  | sl _ _ cap b T c F G hb hl hcap hsz hk h1c hr hF h0 hd =>
    refine ⟨_, cap, rfl, hcap, fun l m h1 h2 h3 => ⟨b, rfl, ?_⟩, by simp [addr_add]⟩
    rw [if_neg (by omega)]
    simp [addr_add]
theorem run_sliceAt_sl {t e k len cap l h : Nat} {p : Option Addr} {lo hi : Option Value} (he : P.underlying t = some (.slice e)) (hn : ∀ w, (sizeOf e).run P w = .ok k w)
    (hb : (Instr.sliceBounds true len cap lo hi none).run P w = .ok (l, h, cap) w) :
    (Instr.sliceAt t (.slice p len cap) lo hi none).run P w = .ok (.slice (if cap = l then p else p.map (·.add (l * k))) (h - l) (cap - l)) w := by
  unfold Instr.sliceAt
  rw [Sem.run_bind, run_underlying he]
  show (Instr.slice t _ lo hi none).run P w = _
  unfold Instr.slice
  rw [Sem.run_bind, run_underlying he]
  show ((Instr.sliceBounds true len cap lo hi none) >>= _).run P w = _
  rw [Sem.run_bind, hb]
  show ((sizeOf e) >>= _).run P w = _
  rw [Sem.run_bind, hn]
  rfl
theorem run_sliceBounds3 {kl kh km : IntKind} {l h m : Int} {len cap : Nat} (h0 : 0 ≤ l) (h1 : l ≤ h) (h2 : h ≤ m) (h3 : m ≤ cap) :
    (Instr.sliceBounds true len cap (some (.int kl l)) (some (.int kh h)) (some (.int km m))).run P w = .ok (l.toNat, h.toNat, m.toNat) w := by
  unfold Instr.sliceBounds
  have e0 := fun c => run_sliceBound (P := P) (w := w) (k := km) (y := cap) (code := c) (by omega : 0 ≤ m) h3
  have e1 := fun c => run_sliceBound (P := P) (w := w) (k := kh) (y := m.toNat) (code := c) (by omega : 0 ≤ h) (by omega)
  have e2 := fun c => run_sliceBound (P := P) (w := w) (k := kl) (y := h.toNat) (code := c) h0 (by omega)
  simp only [Sem.run_bind]
  rw [e0]
  simp only [Result.andThen_ok]
  rw [e1]
  simp only [Result.andThen_ok]
  rw [e2]
  rfl
theorem run_sliceAt_sl3 {t e k len cap l h m : Nat} {p : Option Addr} {lo hi mx : Option Value} (he : P.underlying t = some (.slice e)) (hn : ∀ w, (sizeOf e).run P w = .ok k w)
    (hb : (Instr.sliceBounds true len cap lo hi mx).run P w = .ok (l, h, m) w) :
    (Instr.sliceAt t (.slice p len cap) lo hi mx).run P w = .ok (.slice (if m = l then p else p.map (·.add (l * k))) (h - l) (m - l)) w := by
  unfold Instr.sliceAt
  rw [Sem.run_bind, run_underlying he]
  show (Instr.slice t _ lo hi mx).run P w = _
  unfold Instr.slice
  rw [Sem.run_bind, run_underlying he]
  show ((Instr.sliceBounds true len cap lo hi mx) >>= _).run P w = _
  rw [Sem.run_bind, hb]
  show ((sizeOf e) >>= _).run P w = _
  rw [Sem.run_bind, hn]
  rfl
theorem run_sliceAt_str {t l h : Nat} {b : ByteArray} {lo hi : Option Value} (he : P.underlying t = some .string)
    (hb : (Instr.sliceBounds false b.size b.size lo hi none).run P w = .ok (l, h, b.size) w) :
    (Instr.sliceAt t (.string b) lo hi none).run P w = .ok (.string (b.extract l h)) w := by
  unfold Instr.sliceAt
  rw [Sem.run_bind, run_underlying he]
  show (Instr.slice t _ lo hi none).run P w = _
  unfold Instr.slice
  rw [Sem.run_bind, run_underlying he]
  show ((Instr.sliceBounds false b.size b.size lo hi none) >>= _).run P w = _
  rw [Sem.run_bind, hb]
  rfl
/-- The whole of 'aval'. -/
theorem aval_sound {A : Nat → Prop} (hL : L.ty = layOf P) (hw : CW W w A s.os hd F) {dst : Option Tmp} {op : Op} {ty : TypeId} {pos : String} {af : Array Edge} {g : Option (Nat × Bool)} {K : AV → Prop}
    (hx : ∀ y ∈ op.operands, SRel w A s.os hd (s.get y) (a.eval y)) (hk : aval (stdE np P) L s op K) :
    Yields P w A s.os hd a ⟨dst, op, ty, pos, af, g⟩ K := by
  unfold Yields
  cases op
  case move x => exact ⟨_, _, hk, hx x (by simp [Op.operands]), by simp only [execOp]; rfl⟩
  case assign x => exact ⟨_, _, hk, hx x (by simp [Op.operands]), by simp only [execOp]; rfl⟩
  case pick c x y =>
    simp only [aval] at hk
    have hc := hx c (by simp [Op.operands])
    split at hk
    · rename_i b hb
      rw [hb] at hc
      have ec := hc.bool_inv
      split at hk
      · exact ⟨_, _, hk, hx x (by simp [Op.operands]), by simp only [execOp, ec]; simp [go_sem, asBool, *]⟩
      · exact ⟨_, _, hk, hx y (by simp [Op.operands]), by simp only [execOp, ec]; simp [go_sem, asBool, *]⟩
    · exact hk.elim
  case binOp op t x y t' => exact val_binOp hL dst ty pos af g op t t' x y K (hx x (by simp [Op.operands])) (hx y (by simp [Op.operands])) hk
  case unOp op t x =>
    have h1 := hx x (by simp [Op.operands])
    cases op <;> simp only [aval] at hk
    case not =>
      split at hk
      · rename_i b hb
        rw [hb] at h1
        exact ⟨_, _, hk, .pure _ _ (.bool _), by simp only [execOp, h1.bool_inv]; cases b <;> simp [go_sem, Op.unary, bnot]⟩
      · exact hk.elim
    case neg =>
      split at hk
      · rename_i k n hb
        rw [hb] at h1
        exact ⟨_, _, hk, .pure _ _ (.int _ _), by simp only [execOp, h1.int_inv]; simp [go_sem, Op.unary, stdE, Op.intArith]⟩
      · exact hk.elim
  case nilCheck x =>
    have h1 := hx x (by simp [Op.operands])
    simp only [aval] at hk
    split at hk
    · rename_i cs hb
      rw [hb] at h1
      obtain ⟨b, off, e, _, _⟩ := h1.pp_inv.pp_inv
      exact ⟨_, _, hk, h1, by simp only [execOp, e]; simp [go_sem]⟩
    · rename_i id off hb
      rw [hb] at h1
      split at hk
      · rename_i cs ho
        obtain ⟨b, e, e'⟩ := h1.pb_inv ho
        exact ⟨_, _, hk, h1, by simp only [execOp, e']; rfl⟩
      · exact hk.elim
    · rename_i id i j hb
      rw [hb] at h1
      split at hk
      · rename_i k es ho
        obtain ⟨b, n, c, e, _, _, e'⟩ := h1.pe_inv ho
        exact ⟨_, _, hk, h1, by simp only [execOp, e']; rfl⟩
      · exact hk.elim
    · exact hk.elim
  case load t x =>
    have h1 := hx x (by simp [Op.operands])
    simp only [aval] at hk
    split at hk
    · rename_i cs hb
      rw [hb] at h1
      obtain ⟨b, off, e, _, hp⟩ := h1.pp_inv.pp_inv
      obtain ⟨x', v, h2, h3, h4⟩ := run_loadVar hL (hp.pt (os := s.os) (hd := hd)) hk
      exact ⟨x', v, h2, h3, run_load_op e h4⟩
    · rename_i id off hb
      rw [hb] at h1
      split at hk
      · rename_i cs ho
        obtain ⟨b, T, c, e1, e2, e3, e4, _⟩ := hw.boxes id cs ho
        have hp : Pt w A s.os hd b 0 cs := fun j y hy => by
          have hj := (List.getElem?_eq_some_iff.1 hy).1
          refine ⟨c.getD j undef, ?_, e4 j y hy⟩
          have h5 : j < c.size := by omega
          simp [World.cell?, e2, h5]
        have hp' := hp.drop off
        obtain ⟨x', v, h2, h3, h4⟩ := run_loadVar hL hp' hk
        cases h1 with
        | pure _ _ h => cases h
        | pb _ _ _ _ h =>
          obtain ⟨b', e5, e6⟩ := h cs ho
          rw [e1] at e5
          cases e5
          rw [Nat.zero_add] at h4
          exact ⟨x', v, h2, h3, run_load_op e6 h4⟩
      · exact hk.elim
    · rename_i id i j hb
      rw [hb] at h1
      split at hk
      · rename_i k es ho
        obtain ⟨hi, e, he, hk⟩ := hk
        split at hk
        · rename_i hfl
          obtain ⟨b, T, c, cap, e1, e2, e3, e4, e5, e6⟩ := (hw.rows id k es ho).row_elem he
          have hp : Pt w A s.os hd b (i.toNat * k) e := fun j y hy => by
            obtain ⟨h7, G', h8⟩ := e6 j y hy
            exact ⟨_, h7, .pure _ _ (h8.flat (allFlat_get hfl hy))⟩
          obtain ⟨x', v, h2, h3, h4⟩ := run_loadVar hL (hp.drop j) hk
          cases h1 with
          | pure _ _ h => cases h
          | pe _ _ _ _ _ h =>
            obtain ⟨b', n', c', e7, _, _, e8⟩ := h k es ho
            rw [e1] at e7
            cases e7
            exact ⟨x', v, h2, h3, run_load_op e8 h4⟩
        · exact hk.elim
      · exact hk.elim
    · exact hk.elim
  case fieldAddr t x f =>
    have h1 := hx x (by simp [Op.operands])
    simp only [aval] at hk
    split at hk
    · rename_i off ft cs hf hb
      rw [hb] at h1
      obtain ⟨b, o, e, hA, hp⟩ := h1.pp_inv.pp_inv
      exact ⟨_, _, hk, .pure _ _ (Rel.pp_of hA (hp.drop off)), by simp only [execOp, e]; rw [Sem.run_bind, run_fieldAt hL hf]; rfl⟩
    · rename_i off ft id o hf hb
      rw [hb] at h1
      split at hk
      · rename_i cs ho
        obtain ⟨b, e, e'⟩ := h1.pb_inv ho
        refine ⟨_, _, hk, .pb _ _ _ h1.pb_lt (fun cs' h' => ⟨b, e, rfl⟩), by simp only [execOp, e']; rw [Sem.run_bind, run_fieldAt hL hf]; rfl⟩
      · exact hk.elim
    · rename_i off ft id i j hf hb
      rw [hb] at h1
      split at hk
      · rename_i k es ho
        obtain ⟨b, n, c, e, e1, e2, e'⟩ := h1.pe_inv ho
        refine ⟨_, .pointer (some ⟨b, i.toNat * k + j + off, none⟩), hk, .pe _ _ _ _ h1.pe_lt (fun k' es' h' => ?_), by simp only [execOp, e']; rw [Sem.run_bind, run_fieldAt hL hf]; rfl⟩
        rw [ho] at h'
        cases h'
        exact ⟨b, n, c, e, e1, e2, by rw [Nat.add_assoc]⟩
      · exact hk.elim
    · exact hk.elim
  case field t x f =>
    have h1 := hx x (by simp [Op.operands])
    simp only [aval] at hk
    split at hk
    · rename_i off ft cs hf hb
      rw [hb] at h1
      obtain ⟨vs, e, hn, hc⟩ := h1.agg_inv
      obtain ⟨gs, g, h2, h3, h4, h5, h6⟩ := lay_field hL hf
      obtain ⟨x', v, h7, h8, h9⟩ := run_part hL hn hc hk
      refine ⟨x', v, h7, h8, ?_⟩
      simp only [execOp, e]
      subst h4 h5
      have h10 : (Instr.field t (.agg vs) f).run P w = .ok v w := by
        unfold Instr.field
        rw [Sem.run_bind, run_underlying h2]
        simp only [Result.andThen_ok, h3]
        exact h9
      rw [Sem.run_bind, h10]
      rfl
    · exact hk.elim
  case indexAddr t x ix =>
    have h1 := hx x (by simp [Op.operands])
    have h2 := hx ix (by simp [Op.operands])
    simp only [aval] at hk
    split at hk
    · rename_i own k es kk i hb hi
      rw [hb] at h1
      rw [hi] at h2
      have e2 := h2.int_inv
      split at hk
      · rename_i hk'
        obtain ⟨e, he, hn⟩ := elemK_spec hL hk'
        obtain ⟨h0, c, hc, hk⟩ := hk
        obtain ⟨b, off, cap, e1, hA, hp⟩ := h1.sl_inv.sl_elem hc
        refine ⟨_, _, hk, .pure _ _ (Rel.pp_of hA hp), ?_⟩
        have hlt := (List.getElem?_eq_some_iff.1 hc).1
        simp only [execOp, e1, e2]
        rw [Sem.run_bind, run_indexAt he hn h0 hlt]
        rfl
      · exact hk.elim
    · rename_i id kk i hb hi
      rw [hb] at h1
      rw [hi] at h2
      have e2 := h2.int_inv
      split at hk
      · rename_i k es ho
        split at hk
        · rename_i hk'
          obtain ⟨e, he, hn⟩ := elemK_spec hL hk'
          obtain ⟨h0, c, hc, hk⟩ := hk
          have e1 := h1.ob_inv ho
          obtain ⟨b, T, cc, cap, e3, e4, e5, e6, e7, e8⟩ := (hw.rows id k es ho).row_elem hc
          have hlt := (List.getElem?_eq_some_iff.1 hc).1
          refine ⟨_, .pointer (some ⟨b, i.toNat * k, none⟩), hk, .pe _ _ _ _ h1.ob_lt (fun k' es' h' => ?_), ?_⟩
          · rw [ho] at h'
            cases h'
            exact ⟨b, _, _, e3, h0, hlt, by simp⟩
          · rw [e3] at e1
            simp only [execOp, e1, e2]
            rw [Sem.run_bind, run_indexAt he hn h0 hlt]
            simp [go_sem]
        · exact hk.elim
      · exact hk.elim
    · exact hk.elim
  case index t x ix =>
    have h1 := hx x (by simp [Op.operands])
    have h2 := hx ix (by simp [Op.operands])
    simp only [aval] at hk
    split at hk
    · rename_i b kk i hb hi
      rw [hb] at h1
      rw [hi] at h2
      have e2 := h2.int_inv
      have e1 := h1.str_inv.1
      split at hk
      · rename_i hs
        have ht := isStr_spec hL hs
        obtain ⟨h0, hlt, hk⟩ := hk
        refine ⟨_, _, hk, .pure _ _ (.int _ _), ?_⟩
        simp only [execOp, e1, e2]
        have h3 : b[i.toNat]? = some (b[i.toNat]'hlt) := by simp [hlt]
        simp [go_sem, Instr.index, asIntOf, underlying, ht, h0, h3]
      · exact hk.elim
    · exact hk.elim
  case convert src dst' x =>
    have h1 := hx x (by simp [Op.operands])
    simp only [aval] at hk
    split at hk
    · rename_i k0 k k1 n hs hd' hb
      rw [hb] at h1
      have e1 := h1.int_inv
      refine ⟨_, _, hk, .pure _ _ (.int _ _), ?_⟩
      simp only [execOp, e1]
      simp [go_sem, convert, underlying, lay_int hL hs, lay_int hL hd', Conv.intToInt, stdE]
    · rename_i e t0 k0 es hs hd' hb
      rw [hb] at h1
      split at hk
      · rename_i hu
        obtain ⟨ns, rfl, hk⟩ := hk
        obtain ⟨r1, r2⟩ := run_toStr (P := P) h1.sl_inv
        obtain ⟨p, cap, e1, _⟩ := h1.sl_inv.sl_len
        refine ⟨_, _, hk, .pure _ _ (.str _ r2), ?_⟩
        have hu8 : P.underlying e = some (.int .u8) := by
          unfold isU8 at hu
          split at hu
          · exact lay_int hL (by assumption)
          · cases hu
        simp only [execOp]
        rw [e1] at r1 ⊢
        rw [Sem.run_bind, run_convert_bytes_string w src dst' e _ _ _ (lay_slice hL hs) hu8 (lay_str hL hd'), r1]
        rfl
      · exact hk.elim
    · rename_i e id hs hd' hb
      rw [hb] at h1
      split at hk
      · rename_i k0 es ho
        split at hk
        · rename_i hu
          obtain ⟨ns, rfl, hk⟩ := hk
          have hr := (hw.rows id _ _ ho).rel (B := fun _ => True) (fun _ _ => trivial) (fun _ _ => trivial)
          obtain ⟨r1, r2⟩ := run_toStr (P := P) hr
          obtain ⟨p, cap, e1, _⟩ := hr.sl_len
          refine ⟨_, _, hk, .pure _ _ (.str _ r2), ?_⟩
          have hu8 : P.underlying e = some (.int .u8) := by
            unfold isU8 at hu
            split at hu
            · exact lay_int hL (by assumption)
            · cases hu
          simp only [execOp]
          rw [h1.ob_inv ho]
          rw [e1] at r1 ⊢
          rw [Sem.run_bind, run_convert_bytes_string w src dst' e _ _ _ (lay_slice hL hs) hu8 (lay_str hL hd'), r1]
          rfl
        · exact hk.elim
      · exact hk.elim
    · exact hk.elim
  case extract x i =>
    have h1 := hx x (by simp [Op.operands])
    simp only [aval] at hk
    split at hk
    · rename_i vs hb
      rw [hb] at h1
      obtain ⟨us, e, hn, hc⟩ := h1.tup_inv
      split at hk
      · rename_i v hv
        have h2 := hc i v hv
        have hlt := (List.getElem?_eq_some_iff.1 hv).1
        refine ⟨_, _, hk, h2, ?_⟩
        simp only [execOp, e]
        have h3 : us[i]? = some (us.getD i undef) := by
          have : i < us.size := by omega
          simp [Array.getD, this]
        rw [Sem.run_bind]
        unfold Instr.extract
        simp only [h3]
        rfl
      · exact hk.elim
    · exact hk.elim
  case call c =>
    simp only [aval] at hk
    split at hk
    · rename_i hce
      split at hk
      · rename_i x t ha ht
        have ha' : c.args = #[x] := by rw [← Array.toArray_toList (xs := c.args), ha]
        have ht' : c.argTypes = #[t] := by rw [← Array.toArray_toList (xs := c.argTypes), ht]
        have h1 := hx x (by simp [Op.operands, Call.operands, ha'])
        have run : ∀ n : Int, (Builtin.len_ #[t] ty #[a.eval x]).run P w = .ok (.int .i64 n) w → (execOp a.eval ⟨dst, .call c, ty, pos, af, g⟩).run P w = .ok (.value (.int .i64 n)) w := fun n h => by
          refine run_builtin hce ?_
          rw [ha', ht', show (#[x] : Array Operand).map a.eval = #[a.eval x] from by simp]
          simp only [builtin]
          exact run_v h _
        split at hk
        · rename_i e _ _ es hd' hb
          rw [hb] at h1
          obtain ⟨p, cap, e1, hl, _⟩ := h1.sl_inv.sl_len
          exact ⟨_, _, hk hl, .pure _ _ (.int _ _), run _ (by rw [e1]; simp [Builtin.len_, go_sem, run_underlying (lay_slice hL hd'), goInt])⟩
        · rename_i e hd' hb
          rw [hb] at h1
          exact ⟨_, _, hk, .pure _ _ (.int _ _), run _ (by rw [h1.nils_inv]; simp [Builtin.len_, go_sem, run_underlying (lay_slice hL hd'), goInt])⟩
        · rename_i e id hd' hb
          rw [hb] at h1
          split at hk
          · rename_i k es ho
            have e1 := h1.ob_inv ho
            obtain ⟨p, cap, e2, hl, _⟩ := ((hw.rows id k es ho).rel (B := fun _ => True) (fun _ _ => trivial) (fun _ _ => trivial)).sl_len
            exact ⟨_, _, hk hl, .pure _ _ (.int _ _), run _ (by rw [e1, e2]; simp [Builtin.len_, go_sem, run_underlying (lay_slice hL hd'), goInt])⟩
          · exact hk.elim
        · rename_i e id lo hi hd' hb
          rw [hb] at h1
          split at hk
          · rename_i k es ho
            obtain ⟨e1, e2, e3, p, cap, e4, _, _, _⟩ := h1.vs_inv ho
            obtain ⟨_, _, _, hl, _⟩ := ((hw.rows id k es ho).rel (B := fun _ => True) (fun _ _ => trivial) (fun _ _ => trivial)).sl_len
            refine ⟨_, _, hk, .pure _ _ (.int _ _), run _ ?_⟩
            have e5 : IntKind.i64.wrap (hi - lo) = ((hi - lo).toNat : Int) := by
              unfold maxLen at hl
              rw [IntWalk.i64_in _ ⟨by omega, by omega⟩]
              omega
            rw [e5, e4]
            simp [Builtin.len_, go_sem, run_underlying (lay_slice hL hd'), goInt]
          · exact hk.elim
        · rename_i b hd' hb
          rw [hb] at h1
          obtain ⟨e1, hl⟩ := h1.str_inv
          exact ⟨_, _, hk hl, .pure _ _ (.int _ _), run _ (by rw [e1]; simp [Builtin.len_, go_sem, run_underlying (lay_str hL hd'), goInt])⟩
        · exact hk.elim
      · exact hk.elim
    · rename_i hce
      split at hk
      · rename_i x y ha
        have ha' : c.args = #[x, y] := by rw [← Array.toArray_toList (xs := c.args), ha]
        have h1 := hx x (by simp [Op.operands, Call.operands, ha'])
        have h2 := hx y (by simp [Op.operands, Call.operands, ha'])
        split at hk
        · rename_i hb1 hb2
          rw [hb1] at h1
          rw [hb2] at h2
          refine ⟨_, _, hk, .pure _ _ (.int _ _), run_builtin hce ?_⟩
          rw [ha']
          simp only [builtin]
          refine run_v ?_ _
          simp [h1.int_inv, h2.int_inv, Builtin.max_, Builtin.max2, stdE]
        · exact hk.elim
      · exact hk.elim
    · rename_i hce
      split at hk
      · rename_i x y ha
        have ha' : c.args = #[x, y] := by rw [← Array.toArray_toList (xs := c.args), ha]
        have h1 := hx x (by simp [Op.operands, Call.operands, ha'])
        have h2 := hx y (by simp [Op.operands, Call.operands, ha'])
        split at hk
        · rename_i hb1 hb2
          rw [hb1] at h1
          rw [hb2] at h2
          refine ⟨_, _, hk, .pure _ _ (.int _ _), run_builtin hce ?_⟩
          rw [ha']
          simp only [builtin]
          refine run_v ?_ _
          simp [h1.int_inv, h2.int_inv, Builtin.min_, Builtin.min2, stdE]
        · exact hk.elim
      · exact hk.elim
    · exact hk.elim
  case makeFunc fn first captured =>
    cases fn <;> simp only [aval] at hk
    case func f =>
      split at hk
      · rename_i hf
        have hf' : first = #[] := by rw [← Array.toArray_toList (xs := first), hf]
        refine ⟨_, .func (.func f) #[] (captured.map a.eval), hk, ?_, by simp [execOp, hf', Instr.makeFunc, go_sem]⟩
        refine .fn f _ _ (by simp) (fun i x hx' => ?_)
        rw [List.getElem?_map, Array.getElem?_toList] at hx'
        cases hc : captured[i]? with
        | none => simp [hc] at hx'
        | some y =>
          simp [hc] at hx'
          subst hx'
          have h3 := hx y (by simp [Op.operands]; exact .inr (Array.mem_of_getElem? hc))
          have h4 : i < captured.size := (Array.getElem?_eq_some_iff.1 hc).1
          have h5 := (Array.getElem?_eq_some_iff.1 hc).2
          simpa [Array.getD, h4, h5] using h3
      · rename_i y hf
        have hf' : first = #[y] := by rw [← Array.toArray_toList (xs := first), hf]
        split at hk
        · rename_i cs hcap hcs
          have hcap' : captured = #[] := by rw [← Array.toArray_toList (xs := captured), hcap]
          split at hk
          · rename_i hp
            have h1 := hx y (by simp [Op.operands, hf'])
            rw [hcs] at h1
            obtain ⟨vs, e1, e2, e3⟩ := h1.agg_inv
            refine ⟨_, .func (.func f) #[.agg vs] #[], hk, .pure _ _ (.fb f cs vs e2 fun i x hx' => ?_), by generalize a.eval = ρ at e1 ⊢; simp [execOp, hf', hcap', e1, Instr.makeFunc, go_sem]⟩
            have h2 := e3 i x hx'
            have h3 := allPure_get' hp hx'
            cases x <;> first | exact h2.pure_inv' trivial | cases h3
          · exact hk.elim
        · exact hk.elim
      · exact hk.elim
    all_goals exact hk.elim
  case slice t x lo hi mx =>
    have h1 := hx x (by simp [Op.operands])
    cases mx with
    | some m =>
      simp only [aval] at hk
      have hlo' : ∀ y ∈ lo, SRel w A s.os hd (s.get y) (a.eval y) := fun y hy => hx y (by simp [Op.operands, Option.mem_def.1 hy])
      have hhi' : ∀ y ∈ hi, SRel w A s.os hd (s.get y) (a.eval y) := fun y hy => hx y (by simp [Op.operands, Option.mem_def.1 hy])
      have hm := hx m (by simp [Op.operands])
      split at hk
      · rename_i l h km m' id hl hh hmm hb
        rw [hb] at h1
        rw [hmm] at hm
        obtain ⟨kl, e1⟩ := optInt_spec hl hlo'
        obtain ⟨kh, e2⟩ := optInt_spec hh hhi'
        have e3 := hm.int_inv
        split at hk
        · rename_i k es ho
          split at hk
          · rename_i ht
            obtain ⟨e, he, hn⟩ := elemK_spec hL ht
            have e0 := h1.ob_inv ho
            obtain ⟨p, cap, h7, h9, _, _⟩ := vs_of_row (hw.rows id k es ho)
            obtain ⟨h4, h5, h6, h4', h5', h6', hk⟩ := hk
            simp only [Option.getD_some] at h4 h5 h6 h4' h5' h6'
            have hbd := run_sliceBounds3 (P := P) (w := w) (kl := kl) (kh := kh) (km := km) (len := es.length) h4 h5 h5' (show m' ≤ (cap : Int) by omega)
            refine ⟨_, .slice (if m'.toNat = l.toNat then p else p.map (·.add (l.toNat * k))) (h.toNat - l.toNat) (m'.toNat - l.toNat), hk, .pure _ _ (.any _), ?_⟩
            simp only [execOp, e1, e2, e3, e0, h7, Option.map_some]
            exact run_v (run_sliceAt_sl3 he hn hbd) _
          · exact hk.elim
        · exact hk.elim
      · exact hk.elim
    | none =>
    simp only [aval] at hk
    have hlo' : ∀ y ∈ lo, SRel w A s.os hd (s.get y) (a.eval y) := fun y hy => hx y (by simp [Op.operands, Option.mem_def.1 hy])
    have hhi' : ∀ y ∈ hi, SRel w A s.os hd (s.get y) (a.eval y) := fun y hy => hx y (by simp [Op.operands, Option.mem_def.1 hy])
    split at hk
    · rename_i l h b hl hh hb
      rw [hb] at h1
      obtain ⟨kl, e1⟩ := optInt_spec hl hlo'
      obtain ⟨kh, e2⟩ := optInt_spec hh hhi'
      obtain ⟨e3, hsz⟩ := h1.str_inv
      split at hk
      · rename_i ht
        have ht' := isStr_spec hL ht
        obtain ⟨h4, h5, h6, hk⟩ := hk
        refine ⟨_, _, hk, .pure _ _ (.str _ (by rw [ByteArray.size_extract]; omega)), ?_⟩
        simp only [execOp, e1, e2, e3]
        refine run_v (v := Value.string _) ?_ _
        exact run_sliceAt_str ht' (run_sliceBounds h4 h5 h6 (Nat.le_refl _))
      · exact hk.elim
    · rename_i l h own k es hl hh hb
      rw [hb] at h1
      obtain ⟨kl, e1⟩ := optInt_spec hl hlo'
      obtain ⟨kh, e2⟩ := optInt_spec hh hhi'
      split at hk
      · rename_i ht
        obtain ⟨e, he, hn⟩ := elemK_spec hL ht
        obtain ⟨h4, h5, h6, hk⟩ := hk
        obtain ⟨p, cap, h7, h8, h9⟩ := h1.sl_inv.sl_len
        have := run_sliceBounds (P := P) (w := w) (kl := kl) (kh := kh) (b := true) h4 h5 h6 h9
        refine ⟨_, .slice (if cap = (l.getD 0).toNat then p else p.map (·.add ((l.getD 0).toNat * k))) ((h.getD es.length).toNat - (l.getD 0).toNat) (cap - (l.getD 0).toNat), hk, .pure _ _ ?_, ?_⟩
        · have hr := h1.sl_inv
          rw [h7] at hr
          have hs := hr.sl_sub (l := (l.getD 0).toNat) (m := (h.getD es.length).toNat) (by omega) (by omega)
          exact hs
        · simp only [execOp, e1, e2, h7]
          refine run_v (v := Value.slice _ _ _) ?_ _
          exact run_sliceAt_sl he hn this
      · exact hk.elim
    · rename_i l h id hl hh hb
      rw [hb] at h1
      obtain ⟨kl, e1⟩ := optInt_spec hl hlo'
      obtain ⟨kh, e2⟩ := optInt_spec hh hhi'
      split at hk
      · rename_i k es ho
        split at hk
        · rename_i ht
          obtain ⟨e, he, hn⟩ := elemK_spec hL ht
          have e0 := h1.ob_inv ho
          obtain ⟨p, cap, h7, h9, h10, h10z⟩ := vs_of_row (hw.rows id k es ho)
          obtain ⟨h4, h5, h6, hk⟩ := hk
          simp only [Option.getD_some] at h4 h5 h6
          have := run_sliceBounds (P := P) (w := w) (kl := kl) (kh := kh) (b := true) (lo := some l) (hi := some h) (len := es.length) (cap := cap) (by simp; try omega) (by simp; try omega) (by simp; try omega) h9
          refine ⟨_, .slice (if cap = l.toNat then p else p.map (·.add (l.toNat * k))) (h - l).toNat (cap - l.toNat), hk, .vs _ _ _ _ h1.ob_lt (fun k' es' h' => ?_), ?_⟩
          · rw [ho] at h'
            cases h'
            refine ⟨h4, h5, h6, _, _, rfl, by omega, fun hlt => ?_, fun h0 => ⟨es.length, ?_⟩⟩
            · obtain ⟨b, h11, h12⟩ := h10 l.toNat h.toNat (by omega) (by omega) (by omega)
              exact ⟨b, _, _, by rw [h7, ← h11, h7], h12⟩
            · rw [h7]
              try subst h0
              simp only [Int.toNat_zero, h10z, ite_self, Nat.sub_zero]
          · simp only [execOp, e1, e2, e0, h7]
            refine run_v (v := Value.slice _ _ _) ?_ _
            have h13 : (h - l).toNat = h.toNat - l.toNat := by omega
            rw [h13]
            exact run_sliceAt_sl he hn this
        · exact hk.elim
      · exact hk.elim
    · rename_i h id hl hh hb
      rw [hb] at h1
      obtain ⟨kl, e1⟩ := optInt_spec hl hlo'
      obtain ⟨kh, e2⟩ := optInt_spec hh hhi'
      split at hk
      · rename_i k es ho
        split at hk
        · rename_i ht
          obtain ⟨e, he, hn⟩ := elemK_spec hL ht
          have e0 := h1.ob_inv ho
          obtain ⟨p, cap, h7, h9, h10, h10z⟩ := vs_of_row (hw.rows id k es ho)
          obtain ⟨h4, h5, h6, hk⟩ := hk
          simp only [Option.getD_some] at h4 h5 h6
          have := run_sliceBounds (P := P) (w := w) (kl := kl) (kh := kh) (b := true) (lo := none) (hi := some h) (len := es.length) (cap := cap) (by simp; try omega) (by simp; try omega) (by simp; try omega) h9
          refine ⟨_, .slice (if cap = (0 : Int).toNat then p else p.map (·.add ((0 : Int).toNat * k))) (h - (0 : Int)).toNat (cap - (0 : Int).toNat), hk, .vs _ _ _ _ h1.ob_lt (fun k' es' h' => ?_), ?_⟩
          · rw [ho] at h'
            cases h'
            refine ⟨h4, h5, h6, _, _, rfl, by omega, fun hlt => ?_, fun h0 => ⟨es.length, ?_⟩⟩
            · obtain ⟨b, h11, h12⟩ := h10 (0 : Int).toNat h.toNat (by omega) (by omega) (by omega)
              exact ⟨b, _, _, by rw [h7, ← h11, h7], h12⟩
            · rw [h7]
              try subst h0
              simp only [Int.toNat_zero, h10z, ite_self, Nat.sub_zero]
          · simp only [execOp, e1, e2, e0, h7]
            refine run_v (v := Value.slice _ _ _) ?_ _
            have h13 : (h - (0 : Int)).toNat = h.toNat - (0 : Int).toNat := by omega
            rw [h13]
            exact run_sliceAt_sl he hn this
        · exact hk.elim
      · exact hk.elim
    · rename_i l id hl hh hb
      rw [hb] at h1
      obtain ⟨kl, e1⟩ := optInt_spec hl hlo'
      obtain ⟨kh, e2⟩ := optInt_spec hh hhi'
      split at hk
      · rename_i k es ho
        split at hk
        · rename_i ht
          obtain ⟨e, he, hn⟩ := elemK_spec hL ht
          have e0 := h1.ob_inv ho
          obtain ⟨p, cap, h7, h9, h10, h10z⟩ := vs_of_row (hw.rows id k es ho)
          obtain ⟨_, _, h14, h15, _⟩ := ((hw.rows id k es ho).rel (B := fun _ => True) (fun _ _ => trivial) (fun _ _ => trivial)).sl_len
          obtain ⟨h4, h5, h6, hk⟩ := hk h15
          simp only [Option.getD_some] at h4 h5 h6
          have := run_sliceBounds (P := P) (w := w) (kl := kl) (kh := kh) (b := true) (lo := some l) (hi := none) (len := es.length) (cap := cap) (by simp; try omega) (by simp; try omega) (by simp; try omega) h9
          refine ⟨_, .slice (if cap = l.toNat then p else p.map (·.add (l.toNat * k))) ((es.length : Int) - l).toNat (cap - l.toNat), hk, .vs _ _ _ _ h1.ob_lt (fun k' es' h' => ?_), ?_⟩
          · rw [ho] at h'
            cases h'
            refine ⟨h4, h5, h6, _, _, rfl, by omega, fun hlt => ?_, fun h0 => ⟨es.length, ?_⟩⟩
            · obtain ⟨b, h11, h12⟩ := h10 l.toNat (es.length : Int).toNat (by omega) (by omega) (by omega)
              exact ⟨b, _, _, by rw [h7, ← h11, h7], h12⟩
            · rw [h7]
              try subst h0
              simp only [Int.toNat_zero, h10z, ite_self, Nat.sub_zero]
          · simp only [execOp, e1, e2, e0, h7]
            refine run_v (v := Value.slice _ _ _) ?_ _
            have h13 : ((es.length : Int) - l).toNat = (es.length : Int).toNat - l.toNat := by omega
            rw [h13]
            exact run_sliceAt_sl he hn this
        · exact hk.elim
      · exact hk.elim
    · rename_i l h id z hh0 hl hh hb
      rw [hb] at h1
      obtain ⟨kl, e1⟩ := optInt_spec hl hlo'
      obtain ⟨kh, e2⟩ := optInt_spec hh hhi'
      split at hk
      · rename_i k es ho
        split at hk
        · rename_i hz0
          subst hz0
          split at hk
          · rename_i ht
            obtain ⟨e, he, hn⟩ := elemK_spec hL ht
            obtain ⟨_, g2, g3, pv, capv, e0, g5, g6, g7⟩ := h1.vs_inv ho
            obtain ⟨nv, g8⟩ := g7 rfl
            obtain ⟨p, cap, h7, h9, h10, h10z⟩ := vs_of_row (hw.rows id k es ho)
            rw [g8] at h7 h10
            cases h7
            obtain ⟨h4, h5, h6, hk⟩ := hk
            simp only [Option.getD_some] at h4 h5 h6
            have hbd := run_sliceBounds (P := P) (w := w) (kl := kl) (kh := kh) (b := true) (lo := some l) (hi := some h) (len := es.length) (cap := capv) (by simp; try omega) (by simp; try omega) (by simp; try omega) h9
            refine ⟨_, .slice (if capv = l.toNat then pv else pv.map (·.add (l.toNat * k))) (h - l).toNat (capv - l.toNat), hk, .vs _ _ _ _ h1.vs_lt (fun k' es' h' => ?_), ?_⟩
            · rw [ho] at h'
              cases h'
              refine ⟨h4, h5, h6, _, _, rfl, by omega, fun hlt => ?_, fun h0 => ⟨es.length, ?_⟩⟩
              · obtain ⟨b, h11, h12⟩ := h10 l.toNat h.toNat (by omega) (by omega) (by omega)
                exact ⟨b, _, _, by rw [g8, ← h11], h12⟩
              · rw [g8]
                try subst h0
                simp only [Int.toNat_zero, h10z, ite_self, Nat.sub_zero]
            · simp only [execOp, e1, e2, e0]
              refine run_v (v := Value.slice _ _ _) ?_ _
              have h13 : (h - l).toNat = h.toNat - l.toNat := by omega
              rw [h13]
              exact run_sliceAt_sl he hn hbd
          · exact hk.elim
        · exact hk.elim
      · exact hk.elim
    · exact hk.elim
  all_goals (simp [aval] at hk)
end ops



end Go.Proofs.Ytjenekakcoggpaa
