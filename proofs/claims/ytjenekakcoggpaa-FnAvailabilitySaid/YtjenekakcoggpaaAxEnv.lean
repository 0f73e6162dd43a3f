/- The interpreter's standard environment; contracts. -/
import Derived.Test.YtjenekakcoggpaaAxRel
namespace Go.Proofs.Ytjenekakcoggpaa
set_option linter.unusedVariables false
set_option linter.unusedSimpArgs false
open Go Go.RowKit

def RelL (w : World) (A : Nat → Prop) (us : List AV) (vs : Array Value) : Prop :=
  vs.size = us.length ∧ ∀ (i : Nat) a, us[i]? = some a → Rel w A a (vs.getD i undef)

/-- Outside the blocks of F nothing that was there has changed. -/
structure Keeps (F : Nat → Prop) (w w' : World) : Prop where
  os : w'.os = w.os
  tape : w'.tape = w.tape
  output : w'.output = w.output
  size : w.heap.size ≤ w'.heap.size
  block : ∀ x, x < w.heap.size → ¬ F x → w'.heap[x]? = w.heap[x]?
  frz : ∀ a : Addr, a.block < w.heap.size → w'.frozen? a = w.frozen? a
  drawn : w.drawn ≤ w'.drawn

def Enters (P : Program) (f : FuncId) : Prop := ∀ args w, (callFunc f args).run P w = .ok (.enter f args) w

/-- THE CONTRACT of a function that changes nothing: at arguments that read as 'args' the call returns a value that reads as 'R x', all of it flat or new. -/
def AC {α : Type} (P : Program) (f : FuncId) (args : List AV) (R : α → AV) (x : α) : Prop :=
  Enters P f ∧ ∀ (w : World) (vs : Array Value), RelL w (fun b => b < w.heap.size) args vs →
    Calls P f vs w fun e w' => ∃ v F, e = .returned v ∧ Keeps (fun _ => False) w w' ∧ XRel w' (fun _ => False) (R x) v F ∧ ∀ b, F b → w.heap.size ≤ b ∧ b < w'.heap.size

/-- THE CONTRACT of a function that changes arguments that it is handed as owned: the result and what is left of the arguments are as 'Q' says ('.any': it has taken them, or they were not owned). -/
def ACM (P : Program) (f : FuncId) (args : List AV) (Q : AV → List AV → Prop) : Prop :=
  Enters P f ∧ ∀ (w : World) (A : Nat → Prop) (vs : Array Value) (F : Nat → Prop), XRel w A (.tup args) (.tuple vs) F → (∀ b, A b → b < w.heap.size ∧ ¬ F b) → (∀ b, F b → b < w.heap.size) →
    Calls P f vs w fun e w' => ∃ v G r args', Q r args' ∧ e = .returned v ∧ Keeps F w w' ∧ XRel w' (fun _ => False) (.tup (r :: args')) (.tuple (#[v] ++ vs)) G ∧ ∀ b, G b → F b ∨ w.heap.size ≤ b ∧ b < w'.heap.size

/-- THE CONTRACT of a function that is lent owned boxes or makes one: what it hands back may speak of the memory that it was allowed to read. -/
def ACS (P : Program) (f : FuncId) (args : List AV) (Q : AV → List AV → Prop) : Prop :=
  Enters P f ∧ ∀ (w : World) (A : Nat → Prop) (vs : Array Value) (F : Nat → Prop), XRel w A (.tup args) (.tuple vs) F → (∀ b, A b → b < w.heap.size ∧ ¬ F b) → (∀ b, F b → b < w.heap.size) →
    Calls P f vs w fun e w' => ∃ v G A' r args', Q r args' ∧ e = .returned v ∧ Keeps F w w' ∧ XRel w' A' (.tup (r :: args')) (.tuple (#[v] ++ vs)) G ∧ (∀ b, G b → F b ∨ w.heap.size ≤ b ∧ b < w'.heap.size) ∧
      ∀ b, A' b → b < w'.heap.size ∧ ¬ G b ∧ (A b ∨ w.heap.size ≤ b)

/-! ### Weakening a state: slots are forgotten, objects renumbered. -/
def idxOf (ids : List Nat) (i : Nat) : Option Nat := match ids with
  | [] => none
  | j :: l => if i = j then some 0 else (idxOf l i).map (· + 1)
noncomputable def AV.ren1 (ids : List Nat) (x : AV) : AV := match x with
  | .ob id => match idxOf ids id with
    | some j => .ob j
    | none => .any
  | .vs id lo hi => match idxOf ids id with
    | some j => .vs j lo hi
    | none => .any
  | .pb id off => match idxOf ids id with
    | some j => .pb j off
    | none => .any
  | .pe id i j => match idxOf ids id with
    | some m => .pe m i j
    | none => .any
  | .agg _ => .any
  | .tup _ => .any
  | .fn f cs => match cs with
    | [] => .fn f []
    | _ => .any
  | x => x
noncomputable def AV.ren (ids : List Nat) (x : AV) : AV := match x with
  | .agg cs => .agg (cs.map (AV.ren1 ids))
  | .fn f cs => .fn f (cs.map (AV.ren1 ids))
  | x => x.ren1 ids
noncomputable def Obj.ren (ids : List Nat) (o : Obj) : Obj := match o with
  | .box cs => .box (cs.map (AV.ren1 ids))
  | o => o
def inL (l : List Nat) (t : Nat) : Bool := match l with
  | [] => false
  | x :: l => if x = t then true else inL l t
noncomputable def wkF (hv ids : List Nat) : Nat → List AV → List AV
  | _, [] => []
  | t, x :: l => (match inL hv t with
    | true => .any
    | false => x.ren ids) :: wkF hv ids (t + 1) l
noncomputable def wk (hv ids : List Nat) (s : AS) : AS := ⟨wkF hv ids 0 s.fr, ids.map fun i => (s.os.getD i .dead).ren ids⟩

/-- The first objects stay where they are. -/
def pinB (np : Nat) (ids : List Nat) : Bool := ids.take np == List.range np
def iterL (np : Nat) (body : AS → (XE → AS → Prop) → Prop) : Nat → AS → (XE → AS → Prop) → Prop
  | 0, _, _ => False
  | n + 1, s, K => ∃ hv ids, (ids.Nodup ∧ pinB np ids = true) ∧ body (wk hv ids s) fun e s' => match e with
    | .normal => iterL np body n s' K
    | e => K e s'

noncomputable def bitsOf (op : BinOp) (k : IntKind) (x y : Int) : Int :=
  k.wrap (match op with
    | .and => (BitVec.ofInt k.bits x &&& BitVec.ofInt k.bits y)
    | .or => (BitVec.ofInt k.bits x ||| BitVec.ofInt k.bits y)
    | _ => (BitVec.ofInt k.bits x ^^^ BitVec.ofInt k.bits y)).toNat

def bytesOf (ns : List Int) : ByteArray := ns.foldl (fun r n => r.push (UInt8.ofNat n.toNat)) ByteArray.empty
noncomputable def stdE (np : Nat) (P : Program) : Env where
  add k a b K := K (k.wrap (a + b))
  sub k a b K := K (k.wrap (a - b))
  mul k a b K := K (k.wrap (a * b))
  quo k a b K := K (k.wrap (a.tdiv b))
  rem a b K := K (a.tmod b)
  bits op k a b K := K (bitsOf op k a b)
  shr k a b K := K (a.fdiv (2 ^ (Nat.min b.toNat k.bits)))
  wrap k n K := K (k.wrap n)
  max a b K := K (if b > a then b else a)
  min a b K := K (if b < a then b else a)
  lt a b K := K (decide (a < b))
  le a b K := K (decide (a ≤ b))
  eq a b K := K (a == b)
  seq a b K := K (a.toList == b.toList)
  slt a b K := K (Op.bytesLess a.toList b.toList)
  need p K := p ∧ K
  same a b K := a.length = b.length ∧ K
  scat a b K := a.size + b.size ≤ maxLen ∧ K (a ++ b)
  slen s K := s.size ≤ maxLen → K s.size
  sidx s i K := 0 ≤ i ∧ ∃ h : i.toNat < s.size, K ((s[i.toNat]'h).toNat : Int)
  ssub s lo hi K := 0 ≤ lo.getD 0 ∧ lo.getD 0 ≤ hi.getD s.size ∧ hi.getD s.size ≤ s.size ∧ K (s.extract (lo.getD 0).toNat (hi.getD s.size).toNat)
  toStr es K := ∃ ns : List Int, es = ns.map (fun n => [AV.int .u8 n]) ∧ K (bytesOf ns)
  len es K := es.length ≤ maxLen → K es.length
  idx es i K := 0 ≤ i ∧ ∃ e, es[i.toNat]? = some e ∧ K e
  sub_ es lo hi K := 0 ≤ lo.getD 0 ∧ lo.getD 0 ≤ hi.getD es.length ∧ hi.getD es.length ≤ es.length ∧ K ((es.take (hi.getD es.length).toNat).drop (lo.getD 0).toNat)
  mv es hi lo hi' K := hi ≤ lo ∧ (∀ e ∈ (es.take hi'.toNat).drop lo.toNat, ∀ c ∈ e, c.flat = true) ∧ K (es.take hi.toNat ++ ((es.take hi'.toNat).drop lo.toNat ++ es.drop (hi + (hi' - lo)).toNat)) (hi + (hi' - lo))
  clr es lo hi z K := K (es.take lo.toNat ++ (List.replicate (hi - lo).toNat z ++ es.drop hi.toNat))
  upd es i j cs K := 0 ≤ i ∧ ∃ e, es[i.toNat]? = some e ∧ j + cs.length ≤ e.length ∧ K (es.set i.toNat (splice e j cs))
  flat fs K := (∀ e ∈ fs, ∀ c ∈ e, c.flat = true) ∧ K
  noown fs K := (∀ e ∈ fs, ∀ c ∈ e, c.isOwn = false) ∧ K
  cat bytes es fs K := (es.length + fs.length) * bytes ≤ 140737488355328 ∧ es.length + fs.length ≤ 140737488355328 ∧ K (es ++ fs)
  nil K := K .nils ∨ ∃ k, K (.sl true k [])
  make bytes zero l c K := 0 ≤ l ∧ l ≤ c ∧ c * bytes ≤ 281474976710656 ∧ c ≤ 281474976710656 ∧ K (List.replicate l.toNat zero)
  call f args K := ∃ r, AC P f args id r ∧ K r
  callM f args K := ∃ Q, ACM P f args Q ∧ ∀ r args', Q r args' → K r args'
  callS f args K := ∃ Q, ACS P f args Q ∧ ∀ r args', Q r args' → K r args'
  loop _ body s K := ∃ n, iterL np body n s K

end Go.Proofs.Ytjenekakcoggpaa
