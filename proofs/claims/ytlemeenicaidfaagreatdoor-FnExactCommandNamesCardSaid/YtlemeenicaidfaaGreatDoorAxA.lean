/- An abstract interpreter of the model's code over pure data: definitions. -/
import Derived.Test.YtlemeenicaidfaaGreatDoorAxGlob
namespace Go.Proofs.YtlemeenicaidfaaGreatDoor
set_option linter.unusedVariables false
set_option linter.unusedSimpArgs false
open Go

/-- Abstract values. 'sl own k es': a slice whose elements (k cells each) are es; 'pp': a pointer to readable cells; 'bx': a pointer that owns its cells; 'ob', 'vs', 'pb', 'pe', 'it' speak of the frame's own objects. -/
inductive AV where
 | int (k : IntKind) (n : Int)
 | bool (b : Bool)
 | str (s : ByteArray)
 | agg (cs : List AV)
 | tup (vs : List AV)
 | sl (own : Bool) (k : Nat) (es : List (List AV))
 | nils
 | nilp
 | pp (cs : List AV)
 | fn (f : FuncId) (caps : List AV)
 | fb (f : FuncId) (cs : List AV)
 | ob (id : Nat)
 | vs (id : Nat) (lo hi : Int)
 | pb (id off : Nat)
 | pe (id : Nat) (i : Int) (j : Nat)
 | bx (cs : List AV)
 | it (id : Nat)
 | und
 | any
 | hd (v : Value) (x : AV)

/-- The frame's own objects. -/
inductive Obj where
 | dead
 | box (cs : List AV)
 | row (k : Nat) (es : List (List AV))
 | iter (s : ByteArray) (pos : Nat)

structure AS where
 fr : List AV
 os : List Obj

inductive XE where
 | normal
 | exit (id : Nat)
 | ret

/-- What a cell of a zero value is. -/
inductive Z where
 | int (k : IntKind) | bool | str | slice | ptr | other
 deriving DecidableEq

def Z.av : Z → AV
 | .int k => .int k 0
 | .bool => .bool false
 | .str => .str ⟨#[]⟩
 | .slice => .nils
 | .ptr => .nilp
 | .other => .any

def zok : List Z → Bool
 | [] => true
 | .other :: _ => false
 | _ :: l => zok l

/-- The shape of a type. -/
inductive D where
 | int (k : IntKind) | bool | str
 | slice (e : TypeId)
 | struct (fs : List (Nat × TypeId))
 | array (len : Nat) (e : TypeId)
 | ptr (e : TypeId)
 | misc
 | other
 deriving DecidableEq

structure TyI where
 d : D
 agg : Bool
 n : Nat
 zero : List Z
 bytes : Nat
 eq : Bool
 deriving DecidableEq

/-- The tables of a program that the interpreter reads: types; the functions that change their arguments ('sr': those that are lent owned boxes; 'fz': those whose results are only read). -/
structure Lay where
 ty : TypeId → TyI
 mu : FuncId → Bool
 sr : FuncId → Bool
 fz : FuncId → Bool

/-- What the interpreter leaves open while it runs ('cbv' does not look into it): arithmetic, and the questions that want a proof. -/
structure Env where
 add : IntKind → Int → Int → (Int → Prop) → Prop
 sub : IntKind → Int → Int → (Int → Prop) → Prop
 mul : IntKind → Int → Int → (Int → Prop) → Prop
 quo : IntKind → Int → Int → (Int → Prop) → Prop
 rem : Int → Int → (Int → Prop) → Prop
 bits : BinOp → IntKind → Int → Int → (Int → Prop) → Prop
 shr : IntKind → Int → Int → (Int → Prop) → Prop
 wrap : IntKind → Int → (Int → Prop) → Prop
 max : Int → Int → (Int → Prop) → Prop
 min : Int → Int → (Int → Prop) → Prop
 lt : Int → Int → (Bool → Prop) → Prop
 le : Int → Int → (Bool → Prop) → Prop
 eq : Int → Int → (Bool → Prop) → Prop
 seq : ByteArray → ByteArray → (Bool → Prop) → Prop
 aeq : List (AV × AV) → (Bool → Prop) → Prop
 slt : ByteArray → ByteArray → (Bool → Prop) → Prop
 need : Prop → Prop → Prop
 same : List (List AV) → List (List AV) → Prop → Prop
 scat : ByteArray → ByteArray → (ByteArray → Prop) → Prop
 slen : ByteArray → (Int → Prop) → Prop
 sidx : ByteArray → Int → (Int → Prop) → Prop
 nxt : ByteArray → Nat → (Int → Int → Nat → Prop) → Prop → Prop
 ssub : ByteArray → Option Int → Option Int → (ByteArray → Prop) → Prop
 toStr : List (List AV) → (ByteArray → Prop) → Prop
 len : List (List AV) → (Int → Prop) → Prop
 idx : List (List AV) → Int → (List AV → Prop) → Prop
 sub_ : List (List AV) → Option Int → Option Int → (List (List AV) → Prop) → Prop
 clr : List (List AV) → Int → Int → List AV → (List (List AV) → Prop) → Prop
 mv : List (List AV) → Int → Int → Int → (List (List AV) → Int → Prop) → Prop
 upd : List (List AV) → Int → Nat → List AV → (List (List AV) → Prop) → Prop
 flat : List (List AV) → Prop → Prop
 noown : List (List AV) → Prop → Prop
 cat : (bytes : Nat) → List (List AV) → List (List AV) → (List (List AV) → Prop) → Prop
 nil : (AV → Prop) → Prop
 make : (bytes : Nat) → List AV → Int → Int → (List (List AV) → Prop) → Prop
 call : FuncId → List AV → (AV → Prop) → Prop
 callM : FuncId → List AV → (AV → List AV → Prop) → Prop
 callS : FuncId → List AV → (AV → List AV → Prop) → Prop
 loop : Code → (AS → (XE → AS → Prop) → Prop) → AS → (XE → AS → Prop) → Prop

def AV.flat : AV → Bool
 | .int .. | .bool _ | .str _ => true
 | _ => false
/-- Cells that may be moved within an own row: flat ones, exact values of which nothing more is said. -/
def AV.flatH : AV → Bool
 | .int .. | .bool _ | .str _ | .hd _ .any => true
 | _ => false
def AV.isOwn : AV → Bool
 | .sl true _ _ => true
 | .agg _ => true
 | .tup _ => true
 | .bx _ => true
 | _ => false
def AV.allNO : List AV → Bool
 | [] => true
 | a :: l => match a.isOwn with
  | false => AV.allNO l
  | true => false
def AV.allFlat : List AV → Bool
 | [] => true
 | a :: l => match a.flat with
  | true => AV.allFlat l
  | false => false

def AV.isPure : AV → Bool
 | .int .. | .bool _ | .str _ | .nils | .nilp | .sl .. | .pp _ => true
 | _ => false
def AV.allPure : List AV → Bool
 | [] => true
 | a :: l => match a.isPure with
  | true => AV.allPure l
  | false => false
noncomputable def AV.ofValue : Value → AV
 | .int k n => .int k n
 | .bool b => .bool b
 | .string s => if s.size ≤ 9223372036854775807 then .str s else .any
 | .slice none 0 0 => .nils
 | .pointer none => .nilp
 | _ => .any

noncomputable def AS.get (s : AS) : Operand → AV
 | .tmp t => s.fr.getD t .any
 | .const v => AV.ofValue v
 | .func f => .fn f []
 | .global _ => .any

noncomputable def AS.put (s : AS) (d : Option Nat) (v : AV) : AS := match d with
 | some d => ⟨s.fr.set d v, s.os⟩
 | none => s

/-- A value's cells. -/
def AV.cells : AV → List AV
 | .agg cs => cs
 | v => [v]

/-- Read n cells as a value. -/
noncomputable def ofCells (L : Lay) (t : TypeId) (cs : List AV) (K : AV → Prop) : Prop := match (L.ty t).d, (L.ty t).agg with
 | .other, _ => False
 | _, true => if (L.ty t).n ≤ cs.length then K (.agg (cs.take (L.ty t).n)) else False
 | _, false => match cs with
  | c :: _ => K c
  | [] => False

def bnot (a : Bool) : Bool := match a with
 | true => false
 | false => true
def beqB (a b : Bool) : Bool := match a with
 | true => b
 | false => bnot b
noncomputable def abinInt (E : Env) (op : BinOp) (k : IntKind) (a b : Int) (K : AV → Prop) : Prop :=
 match op with
 | .add => E.add k a b fun n => K (.int k n)
 | .sub => E.sub k a b fun n => K (.int k n)
 | .mul => E.mul k a b fun n => K (.int k n)
 | .quo => E.need (b ≠ 0) (E.quo k a b fun n => K (.int k n))
 | .rem => E.need (b ≠ 0) (E.rem a b fun n => K (.int k n))
 | .and => E.bits .and k a b fun n => K (.int k n)
 | .or => E.bits .or k a b fun n => K (.int k n)
 | .xor => E.bits .xor k a b fun n => K (.int k n)
 | .lss => E.lt a b fun c => K (.bool c)
 | .leq => E.le a b fun c => K (.bool c)
 | .gtr => E.lt b a fun c => K (.bool c)
 | .geq => E.le b a fun c => K (.bool c)
 | .eql => E.eq a b fun c => K (.bool c)
 | .neq => E.eq a b fun c => K (.bool (bnot c))
 | _ => False

noncomputable def abinStr (E : Env) (op : BinOp) (a b : ByteArray) (K : AV → Prop) : Prop :=
 match op with
 | .add => E.scat a b fun s => K (.str s)
 | .eql => E.seq a b fun c => K (.bool c)
 | .neq => E.seq a b fun c => K (.bool (bnot c))
 | .lss => E.slt a b fun c => K (.bool c)
 | .gtr => E.slt b a fun c => K (.bool c)
 | .leq => E.slt b a fun c => K (.bool (bnot c))
 | .geq => E.slt a b fun c => K (.bool (bnot c))
 | _ => False

/-- A part of a value's cells. -/
noncomputable def cellO (L : Lay) (t : TypeId) (cs : List AV) : Option AV := match (L.ty t).d, (L.ty t).agg with
 | .other, _ => none
 | _, true => if (L.ty t).n ≤ cs.length then some (.agg (cs.take (L.ty t).n)) else none
 | _, false => match cs with
  | c :: _ => some c
  | [] => none
/-- The pairs of flat cells that are compared where two structs are. -/
noncomputable def eqFs (L : Lay) (f : TypeId → AV → AV → Option (List (AV × AV))) : List (Nat × TypeId) → List AV → List AV → Option (List (AV × AV))
 | [], _, _ => some []
 | (off, t) :: l, cs, ds => match cellO L t (cs.drop off), cellO L t (ds.drop off) with
  | some x, some y => match f t x y, eqFs L f l cs ds with
   | some a, some b => some (a ++ b)
   | _, _ => none
  | _, _ => none
noncomputable def eqL (L : Lay) : Nat → TypeId → AV → AV → Option (List (AV × AV))
 | 0, _, _, _ => none
 | d + 1, t, x, y => match (L.ty t).d, x, y with
  | .int _, .int k a, .int k' b => if k = k' then some [(.int k a, .int k' b)] else none
  | .bool, .bool a, .bool b => some [(.bool a, .bool b)]
  | .str, .str a, .str b => some [(.str a, .str b)]
  | .struct fs, .agg cs, .agg ds => match (L.ty t).eq with
   | true => eqFs L (eqL L d) fs cs ds
   | false => none
  | .array len e, .agg cs, .agg ds => match (L.ty t).eq, (L.ty e).d with
   | _, .other => none
   | true, _ => eqFs L (eqL L d) ((List.range len).map fun i => (i * (L.ty e).n, e)) cs ds
   | false, _ => none
  | _, _, _ => none

noncomputable def abin (E : Env) (L : Lay) (op : BinOp) (t : TypeId) (x y : AV) (K : AV → Prop) : Prop :=
 match x, y with
 | .int k a, .int k' b => match op with
  | .shr => E.need (0 ≤ b) (E.shr k a b fun n => K (.int k n))
  | op => if k = k' then abinInt E op k a b K else False
 | .str a, .str b => abinStr E op a b K
 | .bool a, .bool b => match (L.ty t).d, op with
  | .bool, .eql => K (.bool (beqB a b))
  | .bool, .neq => K (.bool (bnot (beqB a b)))
  | _, _ => False
 | .agg cs, .agg ds => match op, eqL L 8 t (.agg cs) (.agg ds) with
  | .eql, some ps => E.aeq ps fun c => K (.bool c)
  | .neq, some ps => E.aeq ps fun c => K (.bool (bnot c))
  | _, _ => False
 | _, _ => False

/-- A cell that goes into a call or a result: an own object is given by its content. -/
noncomputable def AS.r1 (E : Env) (s : AS) (x : AV) (K : AV → Prop) : Prop := match x with
 | .ob id => match s.os[id]? with
  | some (.row k es) => K (.sl true k es)
  | _ => False
 | .vs id lo hi => match s.os[id]? with
  | some (.row k es) => E.sub_ es (some lo) (some hi) fun es' => K (.sl false k es')
  | _ => False
 | .int k n => K (.int k n)
 | .bool b => K (.bool b)
 | .str b => K (.str b)
 | .sl own k es => K (.sl own k es)
 | .nils => K .nils
 | .nilp => K .nilp
 | .pp cs => K (.pp cs)
 | .fb f cs => K (.fb f cs)
 | .any => K .any
 | .hd v x => K (.hd v x)
 | _ => False
noncomputable def AS.rL (E : Env) (s : AS) : List AV → (List AV → Prop) → Prop
 | [], K => K []
 | x :: l, K => s.r1 E x fun x' => s.rL E l fun l' => K (x' :: l')
/-- What a closure has captured. -/
noncomputable def AS.rC (E : Env) (s : AS) : List AV → (List AV → Prop) → Prop
 | [], K => K []
 | .pb id off :: l, K => match s.os[id]? with
  | some (.box cs) => s.rL E (cs.drop off) fun cs' => s.rC E l fun l' => K (.pp cs' :: l')
  | _ => False
 | x :: l, K => s.r1 E x fun x' => s.rC E l fun l' => K (x' :: l')
/-- A value that goes into a call or a result. -/
noncomputable def AS.res (E : Env) (s : AS) (x : AV) (K : AV → Prop) : Prop := match x with
 | .agg cs => s.rL E cs fun cs' => K (.agg cs')
 | .fn f cs => s.rC E cs fun cs' => K (.fn f cs')
 | .pb id off => match s.os[id]? with
  | some (.box cs) => s.rL E (cs.drop off) fun cs' => K (.pp cs')
  | _ => False
 | .pe id i j => match s.os[id]? with
  | some (.row _ es) => E.idx es i fun e => K (.pp (e.drop j))
  | _ => False
 | x => s.r1 E x K
noncomputable def AS.resL (E : Env) (s : AS) : List AV → (List AV → Prop) → Prop
 | [], K => K []
 | x :: l, K => s.res E x fun x' => s.resL E l fun l' => K (x' :: l')

noncomputable def optInt (s : AS) : Option Operand → Option (Option Int)
 | none => some none
 | some x => match s.get x with
  | .int _ n => some (some n)
  | _ => none

def fieldOf (L : Lay) (t : TypeId) (f : Nat) : Option (Nat × TypeId) := match (L.ty t).d with
 | .struct fs => match fs[f]? with
  | some (off, ft) => if (L.ty ft).n = 0 then none else some (off, ft)
  | none => none
 | _ => none
def elemK (L : Lay) (t : TypeId) : Option Nat := match (L.ty t).d with
 | .slice e => match (L.ty e).d with
  | .other => none
  | _ => some (L.ty e).n
 | _ => none

def isStr (L : Lay) (t : TypeId) : Bool := match (L.ty t).d with
 | .str => true
 | _ => false

/-- Does the call name a function that changes its arguments? -/
def muC (L : Lay) (c : Call) : Bool := match c.callee with
 | .value (.func f) => L.mu f
 | _ => false
/-- Is it one that is lent owned boxes? -/
def srC (L : Lay) (c : Call) : Bool := match c.callee with
 | .value (.func f) => L.sr f
 | _ => false
def fzC (L : Lay) (c : Call) : Bool := match c.callee with
 | .value (.func f) => L.fz f
 | _ => false
def isU8 (L : Lay) (t : TypeId) : Bool := match (L.ty t).d with
 | .int .u8 => true
 | _ => false
/-- A call's callee and captured values. -/
noncomputable def AS.callee (s : AS) (c : Call) : Option (FuncId × List AV) := match c.callee with
 | .value f => match s.get f with
  | .fn f caps => some (f, caps)
  | _ => none
 | _ => none

/-- A bound method's callee and its receiver's cells. -/
noncomputable def AS.calleeB (s : AS) (c : Call) : Option (FuncId × List AV) := match c.callee with
 | .value f => match s.get f with
  | .fb f cs => some (f, cs)
  | _ => none
 | _ => none

def rowsOf (k : Nat) : Nat → List AV → List (List AV)
 | 0, _ => []
 | n + 1, cs => cs.take k :: rowsOf k n (cs.drop k)

/-- A constant index of an array. -/
def inArr (i : Int) (len : Nat) (d : D) : Bool := match i, d with
 | _, .other => false
 | .ofNat n, _ => Nat.blt n len
 | _, _ => false
/-- Operations that only read. -/
noncomputable def aval (E : Env) (L : Lay) (s : AS) (op : Op) (K : AV → Prop) : Prop := match op with
 | .move x => K (s.get x)
 | .assign x => K (s.get x)
 | .pick c a b => match s.get c with
  | .bool c => if c = true then K (s.get a) else K (s.get b)
  | _ => False
 | .binOp op t x y _ => abin E L op t (s.get x) (s.get y) K
 | .unOp .not _ x => match s.get x with
  | .bool b => K (.bool (bnot b))
  | _ => False
 | .unOp .neg _ x => match s.get x with
  | .int k n => E.sub k 0 n fun m => K (.int k m)
  | _ => False
 | .nilCheck x => match s.get x with
  | .pp cs => K (.pp cs)
  | .pb id off => match s.os[id]? with
   | some (.box _) => K (.pb id off)
   | _ => False
  | .pe id i j => match s.os[id]? with
   | some (.row ..) => K (.pe id i j)
   | _ => False
  | _ => False
 | .load t x => match s.get x with
  | .pp cs => ofCells L t cs K
  | .pb id off => match s.os[id]? with
   | some (.box cs) => ofCells L t (cs.drop off) K
   | _ => False
  | .pe id i j => match s.os[id]? with
   | some (.row _ es) => E.idx es i fun e => if AV.allNO ((e.drop j).take (L.ty t).n) = true then ofCells L t ((e.drop j).take (L.ty t).n) K else False
   | _ => False
  | _ => False
 | .fieldAddr t x f => match fieldOf L t f, s.get x with
  | some (off, _), .pp cs => K (.pp (cs.drop off))
  | some (off, _), .pb id o => match s.os[id]? with
   | some (.box _) => K (.pb id (o + off))
   | _ => False
  | some (off, _), .pe id i j => match s.os[id]? with
   | some (.row ..) => K (.pe id i (j + off))
   | _ => False
  | _, _ => False
 | .field t x f => match fieldOf L t f, s.get x with
  | some (off, ft), .agg cs => ofCells L ft (cs.drop off) K
  | _, _ => False
 | .indexAddr t x ix => match s.get x, s.get ix with
  | .sl _ k es, .int _ i => if elemK L t = some k then E.idx es i fun e => K (.pp e) else False
  | .ob id, .int _ i => match s.os[id]? with
   | some (.row k es) => if elemK L t = some k then E.idx es i fun _ => K (.pe id i 0) else False
   | _ => False
  | .vs id lo hi, .int _ i => match s.os[id]? with
   | some (.row k _) => if elemK L t = some k then E.need (0 ≤ i ∧ i < hi - lo) (E.add .i64 lo i fun m => K (.pe id m 0)) else False
   | _ => False
  | .pb id o, .int _ i => match (L.ty t).d, s.os[id]? with
   | .array len e, some (.box _) => if inArr i len (L.ty e).d = true then K (.pb id (o + i.toNat * (L.ty e).n)) else False
   | _, _ => False
  | _, _ => False
 | .index t x ix => match s.get x, s.get ix with
  | .str b, .int _ i => if isStr L t = true then E.sidx b i fun n => K (.int .u8 n) else False
  | .agg cs, .int _ i => match (L.ty t).d with
   | .array len e => E.idx (rowsOf (L.ty e).n len cs) i fun c => ofCells L e c K
   | _ => False
  | _, _ => False
 | .call c => match c.callee with
  | .builtin .len => match c.args.toList, c.argTypes.toList with
   | [x], [t] => match (L.ty t).d, s.get x with
    | .slice _, .sl _ _ es => E.len es fun n => K (.int .i64 n)
    | .slice _, .nils => K (.int .i64 0)
    | .slice _, .ob id => match s.os[id]? with
     | some (.row _ es) => E.len es fun n => K (.int .i64 n)
     | _ => False
    | .slice _, .vs id lo hi => match s.os[id]? with
     | some (.row _ _) => E.sub .i64 hi lo fun n => K (.int .i64 n)
     | _ => False
    | .str, .str b => E.slen b fun n => K (.int .i64 n)
    | _, _ => False
   | _, _ => False
  | .builtin .max => match c.args.toList with
   | [x, y] => match s.get x, s.get y with
    | .int k a, .int _ b => E.max a b fun n => K (.int k n)
    | _, _ => False
   | _ => False
  | .builtin .min => match c.args.toList with
   | [x, y] => match s.get x, s.get y with
    | .int k a, .int _ b => E.min a b fun n => K (.int k n)
    | _, _ => False
   | _ => False
  | _ => False
 | .slice t x lo hi none => match optInt s lo, optInt s hi, s.get x with
  | some lo, some hi, .str b => if isStr L t = true then E.ssub b lo hi fun r => K (.str r) else False
  | some lo, some hi, .sl _ k es => if elemK L t = some k then E.sub_ es lo hi fun r => K (.sl false k r) else False
  | some (some lo), some (some hi), .ob id => match s.os[id]? with
   | some (.row k es) => if elemK L t = some k then E.sub_ es (some lo) (some hi) fun _ => K (.vs id lo hi) else False
   | _ => False
  | some none, some (some hi), .ob id => match s.os[id]? with
   | some (.row k es) => if elemK L t = some k then E.sub_ es (some 0) (some hi) fun _ => K (.vs id 0 hi) else False
   | _ => False
  | some (some lo), some none, .ob id => match s.os[id]? with
   | some (.row k es) => if elemK L t = some k then E.len es fun hi => E.sub_ es (some lo) (some hi) fun _ => K (.vs id lo hi) else False
   | _ => False
  | some (some lo), some (some hi), .vs id z _ => match s.os[id]? with
   | some (.row k es) => if z = 0 then (if elemK L t = some k then E.sub_ es (some lo) (some hi) fun _ => K (.vs id lo hi) else False) else False
   | _ => False
  | _, _, _ => False
 | .slice t x lo hi (some m) => match optInt s lo, optInt s hi, s.get m, s.get x with
  | some (some lo), some (some hi), .int _ m, .ob id => match s.os[id]? with
   | some (.row k es) => if elemK L t = some k then E.sub_ es (some lo) (some hi) fun _ => E.sub_ es (some hi) (some m) fun _ => K .any else False
   | _ => False
  | _, _, _, _ => False
 | .convert src dst x => match (L.ty src).d, (L.ty dst).d, s.get x with
  | .int _, .int k, .int _ n => E.wrap k n fun m => K (.int k m)
  | .slice e, .str, .sl _ _ es => if isU8 L e = true then E.toStr es fun b => K (.str b) else False
  | .slice e, .str, .ob id => match s.os[id]? with
   | some (.row _ es) => if isU8 L e = true then E.toStr es fun b => K (.str b) else False
   | _ => False
  | _, _, _ => False
 | .extract x i => match s.get x with
  | .tup vs => match vs[i]? with
   | some v => K v
   | none => False
  | _ => False
 | .makeFunc (.func f) first captured => match first.toList with
  | [] => K (.fn f (captured.toList.map s.get))
  | [x] => match captured.toList, s.get x with
   | [], .agg cs => match AV.allPure cs with
    | true => K (.fb f cs)
    | false => False
   | _, _ => False
  | _ => False
 | _ => False

/-- A result of a call comes into the frame: what is owned becomes an object. -/
noncomputable def AS.in1 (s : AS) (x : AV) (K : AV → AS → Prop) : Prop := match x with
 | .sl true k es => K (.ob s.os.length) ⟨s.fr, s.os ++ [.row k es]⟩
 | .bx cs => K (.pb s.os.length 0) ⟨s.fr, s.os ++ [.box cs]⟩
 | .agg _ => False
 | .tup _ => False
 | x => K x s
noncomputable def AS.inL (s : AS) : List AV → (List AV → AS → Prop) → Prop
 | [], K => K [] s
 | x :: l, K => s.in1 x fun x' s' => s'.inL l fun l' s'' => K (x' :: l') s''
noncomputable def AS.in2 (s : AS) (x : AV) (K : AV → AS → Prop) : Prop := match x with
 | .agg cs => s.inL cs fun cs' s' => K (.agg cs') s'
 | x => s.in1 x K
noncomputable def AS.in2L (s : AS) : List AV → (List AV → AS → Prop) → Prop
 | [], K => K [] s
 | x :: l, K => s.in2 x fun x' s' => s'.in2L l fun l' s'' => K (x' :: l') s''
noncomputable def AS.take (s : AS) (x : AV) (K : AV → AS → Prop) : Prop := match x with
 | .tup vs => s.in2L vs fun vs' s' => K (.tup vs') s'
 | x => s.in2 x K

noncomputable def splice (cs : List AV) (off : Nat) (new : List AV) : List AV := cs.take off ++ (new ++ cs.drop (off + new.length))
/-- Lending own objects to a call that may change them. -/
def idsA : List AV → List Nat
 | [] => []
 | x :: l => match x with
  | .ob id => id :: idsA l
  | _ => idsA l
def idsOf : AV → List Nat
 | .ob id => [id]
 | .agg cs => idsA cs
 | _ => []
def idsL : List AV → List Nat
 | [] => []
 | x :: l => idsOf x ++ idsL l
def memB (n : Nat) : List Nat → Bool
 | [] => false
 | m :: l => if m = n then true else memB n l
def nodupB : List Nat → Bool
 | [] => true
 | n :: l => match memB n l with
  | true => false
  | false => nodupB l
noncomputable def AS.lendA (s : AS) (x : AV) : Option AV := match x with
 | .int k n => some (.int k n)
 | .bool b => some (.bool b)
 | .str b => some (.str b)
 | .nils => some .nils
 | .nilp => some .nilp
 | .sl _ k es => some (.sl false k es)
 | .pp cs => some (.pp cs)
 | .fb f cs => some (.fb f cs)
 | .pb id off => match s.os[id]? with
  | some (.box cs) => match AV.allPure (cs.drop off) with
   | true => some (.pp (cs.drop off))
   | false => none
  | _ => none
 | _ => none
noncomputable def AS.lendCA (s : AS) : List AV → Option (List AV)
 | [] => some []
 | x :: l => match s.lendA x, s.lendCA l with
  | some y, some m => some (y :: m)
  | _, _ => none
/-- Cells of a box that a closure has captured: closures among them. -/
noncomputable def AS.cellA (s : AS) (x : AV) : Option AV := match x with
 | .fn f cs => match s.lendCA cs with
  | some cs' => some (.fn f cs')
  | none => none
 | x => match x.isPure with
  | true => some x
  | false => none
noncomputable def AS.cellsA (s : AS) : List AV → Option (List AV)
 | [] => some []
 | x :: l => match s.cellA x, s.cellsA l with
  | some y, some m => some (y :: m)
  | _, _ => none
noncomputable def AS.lend0 (s : AS) (x : AV) : Option AV := match x with
 | .pb id off => match s.os[id]? with
  | some (.box cs) => match s.cellsA (cs.drop off) with
   | some cs' => some (.pp cs')
   | none => none
  | _ => none
 | x => s.lendA x
noncomputable def AS.lendC (s : AS) : List AV → Option (List AV)
 | [] => some []
 | x :: l => match s.lend0 x, s.lendC l with
  | some y, some m => some (y :: m)
  | _, _ => none
/-- A cell of a struct that is lent as a whole; its own rows are lost then. -/
noncomputable def AS.lendP (s : AS) (x : AV) : Option AV := match x with
 | .ob id => match s.os[id]? with
  | some (.row k es) => some (.sl true k es)
  | _ => none
 | .int k n => some (.int k n)
 | .bool b => some (.bool b)
 | .str b => some (.str b)
 | _ => none
noncomputable def AS.lendPL (s : AS) : List AV → Option (List AV)
 | [] => some []
 | x :: l => match s.lendP x, s.lendPL l with
  | some y, some m => some (y :: m)
  | _, _ => none
noncomputable def AS.lend (s : AS) (x : AV) : Option AV := match x with
 | .ob id => match s.os[id]? with
  | some (.row k es) => some (.sl true k es)
  | _ => none
 | .fn f cs => match s.lendC cs with
  | some cs' => some (.fn f cs')
  | none => none
 | .agg cs => match s.lendPL cs with
  | some cs' => some (.agg cs')
  | none => none
 | x => s.lend0 x
noncomputable def AS.lendL (s : AS) : List AV → Option (List AV)
 | [] => some []
 | x :: l => match s.lend x, s.lendL l with
  | some y, some m => some (y :: m)
  | _, _ => none
def kill (os : List Obj) : List Nat → List Obj
 | [] => os
 | id :: l => kill (os.set id .dead) l
/-- What a changing call has made of an own argument: as long a row as before, or it has taken it. -/
noncomputable def wb (E : Env) (os : List Obj) (x y : AV) (K : List Obj → Prop) : Prop := match x with
 | .ob id => match y with
  | .sl true k es' => match os[id]? with
   | some (.row k0 es) => if k = k0 then E.same es' es (K (os.set id (.row k es'))) else False
   | _ => False
  | _ => K (os.set id .dead)
 | .agg cs => K (kill os (idsA cs))
 | _ => K os
noncomputable def wbs (E : Env) (os : List Obj) (xs ys : List AV) (K : List Obj → Prop) : Prop := match xs, ys with
 | [], _ => K os
 | _ :: _, [] => False
 | x :: l, y :: m => wb E os x y fun os' => wbs E os' l m K
/-! ### Calls that are lent own boxes. -/
def idsOfS : AV → List Nat
 | .ob id => [id]
 | .pb id _ => [id]
 | _ => []
def idsSL : List AV → List Nat
 | [] => []
 | x :: l => idsOfS x ++ idsSL l
/-- A struct's cells that a call reads: its rows among them. -/
def AV.rdP : AV → Option AV
 | .int k n => some (.int k n)
 | .bool b => some (.bool b)
 | .str s => some (.str s)
 | .nils => some .nils
 | .sl _ k es => some (.sl false k es)
 | _ => none
def AV.rdPL : List AV → Option (List AV)
 | [] => some []
 | x :: l => match x.rdP, AV.rdPL l with
  | some y, some m => some (y :: m)
  | _, _ => none
noncomputable def AS.lendS (s : AS) (x : AV) : Option AV := match x with
 | .ob id => match s.os[id]? with
  | some (.row k es) => some (.sl true k es)
  | _ => none
 | .pb id off => match off, s.os[id]? with
  | 0, some (.box cs) => match AV.allPure cs with
   | true => some (.bx cs)
   | false => none
  | _, _ => none
 | .int k n => some (.int k n)
 | .bool b => some (.bool b)
 | .str b => some (.str b)
 | .nils => some .nils
 | .nilp => some .nilp
 | .sl _ k es => some (.sl false k es)
 | .pp cs => some (.pp cs)
 | .fb f cs => some (.fb f cs)
 | .agg cs => match AV.allFlat cs with
  | true => some (.agg cs)
  | false => match AV.rdPL cs with
   | some m => some (.agg m)
   | none => none
 | _ => none
noncomputable def AS.lendSL (s : AS) : List AV → Option (List AV)
 | [] => some []
 | x :: l => match s.lendS x, s.lendSL l with
  | some y, some m => some (y :: m)
  | _, _ => none
def lenB : List AV → List AV → Bool
 | [], [] => true
 | _ :: l, _ :: m => lenB l m
 | _, _ => false
noncomputable def wbS1 (E : Env) (os : List Obj) (x y : AV) (K : List Obj → Prop) : Prop := match x with
 | .ob id => match y with
  | .sl true k es' => match os[id]? with
   | some (.row k0 es) => if k = k0 then E.same es' es (K (os.set id (.row k es'))) else False
   | _ => False
  | _ => K (os.set id .dead)
 | .pb id _ => match y with
  | .bx cs' => match os[id]? with
   | some (.box cs) => match lenB cs' cs with
    | true => K (os.set id (.box cs'))
    | false => False
   | _ => False
  | _ => K (os.set id .dead)
 | _ => K os
noncomputable def wbsS (E : Env) (os : List Obj) (xs ys : List AV) (K : List Obj → Prop) : Prop := match xs, ys with
 | [], _ => K os
 | _ :: _, [] => False
 | x :: l, y :: m => wbS1 E os x y fun os' => wbsS E os' l m K

def zeros (zero : List AV) : Nat → List AV
 | 0 => []
 | n + 1 => zero ++ zeros zero n

/-- Cells that may go into an own row: flat ones; own rows are taken over by their content. -/
noncomputable def AS.own1 (s : AS) (x : AV) (K : AV → AS → Prop) : Prop := match x with
 | .int k n => K (.int k n) s
 | .bool b => K (.bool b) s
 | .str b => K (.str b) s
 | .nils => K (.sl true 0 []) s
 | .nilp => K .nilp s
 | .sl _ k es => K (.sl false k es) s
 | .hd v x => K (.hd v x) s
 | .ob id => match s.os[id]? with
  | some (.row k es) => K (.sl true k es) ⟨s.fr, s.os.set id .dead⟩
  | _ => False
 | _ => False
noncomputable def AS.ownL (s : AS) : List AV → (List AV → AS → Prop) → Prop
 | [], K => K [] s
 | x :: l, K => s.own1 x fun x' s' => s'.ownL l fun l' s'' => K (x' :: l') s''

/-- What may be stored into a cell of a box. -/
noncomputable def AS.okCell (s : AS) (x : AV) : Bool := match x with
 | .int .. | .bool _ | .str _ | .nils | .nilp | .fn .. | .sl .. | .pp _ => true
 | .ob id => match s.os[id]? with
  | some (.row ..) => true
  | _ => false
 | _ => false
noncomputable def AS.okCells (s : AS) : List AV → Bool
 | [] => true
 | x :: l => match s.okCell x with
  | true => s.okCells l
  | false => false
/-- A value's cells, if each may be stored. -/
noncomputable def AS.cl (s : AS) (x : AV) : Option (List AV) := match x with
 | .agg cs => match s.okCells cs with
  | true => some cs
  | false => none
 | x => match s.okCell x with
  | true => some [x]
  | false => none

/-- The cells of a built value. -/
noncomputable def AS.fill (s : AS) (place : Nat → Option (Nat × Nat)) : List AV → List (Nat × Operand) → Option (List AV)
 | cells, [] => some cells
 | cells, (i, x) :: rest => match place i, s.cl (s.get x) with
  | some (off, size), some new => if new.length = size ∧ off + new.length ≤ cells.length then s.fill place (splice cells off new) rest else none
  | _, _ => none
def known (L : Lay) : List (Nat × TypeId) → Bool
 | [] => true
 | f :: fs => match (L.ty f.2).d with
  | .other => false
  | _ => known L fs

/-- The rows of what an append is given. -/
noncomputable def AS.src (E : Env) (s : AS) (k : Nat) (y : AV) (K : List (List AV) → AS → Prop) : Prop := match y with
 | .sl _ k' fs => if k = k' then E.noown fs (K fs s) else False
 | .vs id lo hi => match s.os[id]? with
  | some (.row k' es) => if k = k' then E.sub_ es (some lo) (some hi) fun fs => E.flat fs (K fs s) else False
  | _ => False
 | .ob id => match s.os[id]? with
  | some (.row k' es) => if k = k' then K es ⟨s.fr, s.os.set id .dead⟩ else False
  | _ => False
 | _ => False
/-- An append. -/
noncomputable def AS.app (E : Env) (s : AS) (k bytes : Nat) (x y : AV) (K : AV → AS → Prop) : Prop := match x, y with
 | .nils, .nils => K .nils s
 | .ob id, .nils => match s.os[id]? with
  | some (.row ..) => K (.ob id) s
  | _ => False
 | .nils, y => s.src E k y fun fs s' => E.cat bytes [] fs fun es => K (.ob s'.os.length) ⟨s'.fr, s'.os ++ [.row k es]⟩
 | .ob id, y => s.src E k y fun fs s' => match s'.os[id]? with
  | some (.row k' es) => if k = k' then E.cat bytes es fs fun es' => K (.ob s'.os.length) ⟨s'.fr, s'.os.set id .dead ++ [.row k es']⟩ else False
  | _ => False
 | .vs id z hi, .vs id' lo' hi' => match s.os[id]? with
  | some (.row k' es) => if (k' = k ∧ id' = id) ∧ z = 0 then E.mv es hi lo' hi' fun es' m => K (.vs id 0 m) ⟨s.fr, s.os.set id (.row k es')⟩ else False
  | _ => False
 | .vs id z hi, y => s.src E k y fun fs s' => match s'.os[id]? with
  | some (.row k' es) => if k = k' ∧ z = 0 then E.sub_ es (some 0) (some hi) fun es0 => E.cat bytes es0 fs fun es' => K (.ob s'.os.length) ⟨s'.fr, s'.os.set id .dead ++ [.row k es']⟩ else False
  | _ => False
 | _, _ => False

/-- Operations that make or change memory, in the text's order. -/
noncomputable def astep (E : Env) (L : Lay) (s : AS) (o : Oper) (K : AV → AS → Prop) : Prop := match o.op with
 | .alloc t => match (L.ty t).zero with
  | [] => False
  | z :: zs => K (.pb s.os.length 0) ⟨s.fr, s.os ++ [.box (z.av :: zs.map Z.av)]⟩
 | .range t x => match isStr L t, s.get x with
  | true, .str b => K (.it s.os.length) ⟨s.fr, s.os ++ [.iter b 0]⟩
  | _, _ => False
 | .next x true => match s.get x with
  | .it id => match s.os[id]? with
   | some (.iter b p) => E.nxt b p (fun q r n => K (.tup [.bool true, .int .i64 q, .int .i32 r]) ⟨s.fr, s.os.set id (.iter b n)⟩) (K (.tup [.bool false]) s)
   | _ => False
  | _ => False
 | .box _ x => match s.cl (s.get x) with
  | some cs => K (.pb s.os.length 0) ⟨s.fr, s.os ++ [.box cs]⟩
  | none => False
 | .store t a x => match s.get a with
  | .pb id off => match s.os[id]? with
   | some (.box cs) => match s.cl (s.get x), (L.ty t).d with
    | _, .other => False
    | some new, _ => if off + new.length ≤ cs.length ∧ new.length = (L.ty t).n then K .und ⟨s.fr, s.os.set id (.box (splice cs off new))⟩ else False
    | none, _ => False
   | _ => False
  | .pe id i j => match (L.ty t).d with
   | .other => False
   | _ => if (s.get x).cells.length = (L.ty t).n then s.ownL (s.get x).cells fun cs s' => match s'.os[id]? with
    | some (.row k es) => E.upd es i j cs fun es' => K .und ⟨s'.fr, s'.os.set id (.row k es')⟩
    | _ => False
    else False
  | _ => False
 | .build t parts => match (L.ty t).d, (L.ty t).zero with
  | _, [] => False
  | .struct fs, z => match known L fs, s.fill (fun i => (fs[i]?).map fun f => (f.1, (L.ty f.2).n)) (z.map Z.av) parts.toList with
   | true, some cs => K (.agg cs) s
   | _, _ => False
  | .array _ e, z => match (L.ty e).d, s.fill (fun i => some (i * (L.ty e).n, (L.ty e).n)) (z.map Z.av) parts.toList with
   | .other, _ => False
   | _, some cs => K (.agg cs) s
   | _, none => False
  | _, _ => False
 | .buildSlice t len parts => match (L.ty t).d with
  | .slice e => match (L.ty e).d, (L.ty e).zero with
   | .other, _ => False
   | _, [] => False
   | _, z => if z.length = (L.ty e).n ∧ len * (L.ty e).n ≤ 16777216 then (match s.fill (fun i => some (i * (L.ty e).n, (L.ty e).n)) (zeros (z.map Z.av) len) parts.toList with
    | some cs => s.ownL cs fun cs' s' => K (.ob s'.os.length) ⟨s'.fr, s'.os ++ [.row (L.ty e).n (rowsOf (L.ty e).n len cs')]⟩
    | none => False) else False
  | _ => False
 | .makeSlice t l c => match (L.ty t).d, s.get l, s.get c with
  | .slice e, .int _ l, .int _ c => match (L.ty e).d, (L.ty e).zero with
   | .other, _ => False
   | _, [] => False
   | _, z => if z.length = (L.ty e).n ∧ zok z = true then E.make (L.ty e).bytes (z.map Z.av) l c fun es => K (.ob s.os.length) ⟨s.fr, s.os ++ [.row (L.ty e).n es]⟩ else False
  | _, _, _ => False
 | .call c => match c.callee with
  | .builtin .append => match c.args.toList, c.argTypes.toList with
   | [x, y], [t, t'] => if t = t' then (match (L.ty t).d with
    | .slice e => match (L.ty e).d, (L.ty e).zero with
     | .other, _ => False
     | _, [] => False
     | _, z => if z.length = (L.ty e).n ∧ (L.ty e).n ≠ 0 then s.app E (L.ty e).n (L.ty e).bytes (s.get x) (s.get y) K else False
    | _ => False) else False
   | _, _ => False
  | .builtin .clear => match c.args.toList, c.argTypes.toList with
   | [x], [t] => match (L.ty t).d, s.get x with
    | .slice e, .vs id lo hi => match (L.ty e).zero, s.os[id]? with
     | [], _ => False
     | z, some (.row k es) => if (z.length = (L.ty e).n ∧ zok z = true) ∧ k = (L.ty e).n then E.clr es lo hi (z.map Z.av) fun es' => K .any ⟨s.fr, s.os.set id (.row k es')⟩ else False
     | _, _ => False
    | _, _ => False
   | _, _ => False
  | .value _ => match s.callee c with
   | some (f, caps) => match muC L c with
    | false => match fzC L c with
     | false => s.resL E (c.args.toList.map s.get ++ caps) fun args => E.call f args fun r => s.take r K
     | true => s.resL E (c.args.toList.map s.get ++ caps) fun args => E.call f args fun r => K r s
    | true => match srC L c with
     | false => match s.lendL (c.args.toList.map s.get ++ caps), nodupB (idsL (c.args.toList.map s.get ++ caps)) with
      | some args, true => E.callM f args fun r args' => wbs E s.os (c.args.toList.map s.get ++ caps) args' fun os' => (AS.mk s.fr os').take r K
      | _, _ => False
     | true => match s.lendSL (c.args.toList.map s.get ++ caps), nodupB (idsSL (c.args.toList.map s.get ++ caps)) with
      | some args, true => E.callS f args fun r args' => wbsS E s.os (c.args.toList.map s.get ++ caps) args' fun os' => (AS.mk s.fr os').take r K
      | _, _ => False
   | none => match s.calleeB c with
    | some (f, cs) => s.resL E (c.args.toList.map s.get) fun args => E.call f (.agg cs :: args) fun r => s.take r K
    | none => False
  | _ => aval E L s o.op fun v => K v s
 | _ => aval E L s o.op fun v => K v s

/-- What a 'build' of a region that draws its order makes. -/
noncomputable def abuilt (L : Lay) (s : AS) (op : Op) : Option AV := match op with
 | .build t parts => match (L.ty t).d, (L.ty t).zero with
  | _, [] => none
  | .struct fs, z => match known L fs, s.fill (fun i => (fs[i]?).map fun f => (f.1, (L.ty f.2).n)) (z.map Z.av) parts.toList with
   | true, some cs => some (.agg cs)
   | _, _ => none
  | .array _ e, z => match (L.ty e).d, s.fill (fun i => some (i * (L.ty e).n, (L.ty e).n)) (z.map Z.av) parts.toList with
   | .other, _ => none
   | _, some cs => some (.agg cs)
   | _, none => none
  | _, _ => none
 | .buildSlice t len parts => match (L.ty t).d with
  | .slice e => match (L.ty e).d, (L.ty e).zero with
   | .other, _ => none
   | _, [] => none
   | _, z => if z.length = (L.ty e).n ∧ len * (L.ty e).n ≤ 16777216 then (match s.fill (fun i => some (i * (L.ty e).n, (L.ty e).n)) (zeros (z.map Z.av) len) parts.toList with
    | some cs => match AV.allPure cs with
     | true => some (.sl false (L.ty e).n (rowsOf (L.ty e).n len cs))
     | false => none
    | none => none) else none
  | _ => none
 | _ => none
def isBuild (op : Op) : Bool := match op with
 | .build .. => true
 | .buildSlice .. => true
 | _ => false
/-- Operations of a region that draws its order: those that read, and calls. -/
noncomputable def aread (E : Env) (L : Lay) (s : AS) (o : Oper) (K : AV → Prop) : Prop := match o.op with
 | .call c => match c.callee with
  | .value _ => match s.callee c with
   | some (f, caps) => match muC L c with
    | false => s.resL E (c.args.toList.map s.get ++ caps) fun args => E.call f args K
    | true => False
   | none => match s.calleeB c with
    | some (f, cs) => s.resL E (c.args.toList.map s.get) fun args => E.call f (.agg cs :: args) K
    | none => False
  | _ => aval E L s o.op K
 | .alloc t => match (L.ty t).zero with
  | [] => False
  | _ :: _ => K .any
 | _ => match isBuild o.op with
  | true => match abuilt L s o.op with
   | some v => K v
   | none => False
  | false => aval E L s o.op K

/-- What the operation that a guard names has yielded: 'some none': nothing. -/
noncomputable def AS.yield (s : AS) (ops : List Oper) (j : Nat) : Option (Option Bool) := match ops[j]? with
 | some o => match o.dst with
  | some d => match s.fr.getD d .any with
   | .bool b => some (some b)
   | .und => some none
   | _ => none
  | none => none
 | none => none

noncomputable def aops (E : Env) (L : Lay) (draw : Bool) (ops : List Oper) : List Oper → AS → (AS → Prop) → Prop
 | [], s, K => K s
 | o :: rest, s, K => match o.guard with
  | none => match draw with
   | false => astep E L s o fun v s' => aops E L draw ops rest (s'.put o.dst v) K
   | true => aread E L s o fun v => aops E L draw ops rest (s.put o.dst v) K
  | some (j, want) => match s.yield ops j with
   | none => False
   | some none => aops E L draw ops rest (s.put o.dst .und) K
   | some (some b) => if b = want then
     (match draw with
     | false => astep E L s o fun v s' => aops E L draw ops rest (s'.put o.dst v) K
     | true => aread E L s o fun v => aops E L draw ops rest (s.put o.dst v) K)
    else aops E L draw ops rest (s.put o.dst .und) K

/-! ### A nested own row that a changing call is lent: a load, moves, the call. -/
noncomputable def AS.moves (s : AS) : List Oper → AS
 | [] => s
 | o :: l => match o.op with
  | .move x => (s.put o.dst (s.get x)).moves l
  | _ => s.moves l
/-- The row lends one of its own rows (cell j of element i of object 'id'); it takes it back, changed. -/
noncomputable def anest (E : Env) (s : AS) (id : Nat) (i : Int) (j d : Nat) (mv : List Oper) (oc : Oper) (c : Call) (K : AS → Prop) : Prop :=
 if d < s.fr.length then (match s.os[id]? with
 | some (.row k es) => E.idx es i fun e => match e.drop j with
  | .sl true k' es' :: _ => match c.callee with
   | .value (.func f) => match ((AS.mk (s.fr.set d .any) s.os).moves mv).lendC (c.args.toList.tail.map ((AS.mk (s.fr.set d .any) s.os).moves mv).get) with
    | some rest => E.callM f (.sl true k' es' :: rest) fun r args' => match args' with
     | .sl true k'' es'' :: _ => if k'' = k' then E.upd es i j [.sl true k' es''] fun es2 => (AS.mk ((AS.mk (s.fr.set d .any) s.os).moves mv).fr (((AS.mk (s.fr.set d .any) s.os).moves mv).os.set id (.row k es2))).take r fun v s2 => K (s2.put oc.dst v) else False
     | _ => False
    | none => False
   | _ => False
  | _ => False
 | _ => False) else False

/-! ### Which drawn regions one walk in the text's order serves. -/
def tmpsOf : List Operand → List Nat
 | [] => []
 | .tmp t :: l => t :: tmpsOf l
 | _ :: l => tmpsOf l
def optTmps (x : Option Operand) : List Nat := match x with
 | some (.tmp t) => [t]
 | _ => []
def opTmps (o : Op) : Option (List Nat) := match o with
 | .move x => some (tmpsOf [x])
 | .assign x => some (tmpsOf [x])
 | .load _ x => some (tmpsOf [x])
 | .nilCheck x => some (tmpsOf [x])
 | .unOp _ _ x => some (tmpsOf [x])
 | .convert _ _ x => some (tmpsOf [x])
 | .fieldAddr _ x _ => some (tmpsOf [x])
 | .field _ x _ => some (tmpsOf [x])
 | .extract x _ => some (tmpsOf [x])
 | .pick c x y => some (tmpsOf [c, x, y])
 | .binOp _ _ x y _ => some (tmpsOf [x, y])
 | .indexAddr _ x y => some (tmpsOf [x, y])
 | .index _ x y => some (tmpsOf [x, y])
 | .slice _ x lo hi none => some (tmpsOf [x] ++ (optTmps lo ++ optTmps hi))
 | .makeFunc _ x y => some (tmpsOf x.toList ++ tmpsOf y.toList)
 | .build _ ps => some (tmpsOf (ps.toList.map (·.2)))
 | .buildSlice _ _ ps => some (tmpsOf (ps.toList.map (·.2)))
 | .call c => match c.callee with
  | .value f => some (tmpsOf [f] ++ tmpsOf c.args.toList)
  | .builtin _ => some (tmpsOf c.args.toList)
  | _ => none
 | .alloc _ => some []
 | _ => none
def guardTmps (ops : List Oper) (g : Option (Nat × Bool)) : List Nat := match g with
 | none => []
 | some (j, _) => match ops[j]? with
  | some o => match o.dst with
   | some d => [d]
   | none => []
  | none => []
def bnd (e : Edge) : Bool := match e.ground with
 | .textOnly _ => false
 | .gcOnly _ => false
 | _ => true
def hasEdge (j : Nat) : List Edge → Bool
 | [] => false
 | e :: l => match bnd e with
  | true => if e.on = j then true else hasEdge j l
  | false => hasEdge j l
def edgesOK (i : Nat) : List Edge → Bool
 | [] => true
 | e :: l => match bnd e with
  | true => if e.on < i then edgesOK i l else false
  | false => edgesOK i l
/-- Whoever writes slot t comes before operation i and is waited for. -/
def readOK (i t : Nat) (af : List Edge) : Nat → List Oper → Bool
 | _, [] => true
 | j, o :: l => match o.dst with
  | some d => if d = t then (if j < i then (match hasEdge j af with
    | true => readOK i t af (j + 1) l
    | false => false) else false) else readOK i t af (j + 1) l
  | none => readOK i t af (j + 1) l
def readsOK (i : Nat) (af : List Edge) (ops : List Oper) : List Nat → Bool
 | [] => true
 | t :: l => match readOK i t af 0 ops with
  | true => readsOK i af ops l
  | false => false
def noWriter (d : Nat) : List Oper → Bool
 | [] => true
 | o :: l => match o.dst with
  | some e => if e = d then false else noWriter d l
  | none => noWriter d l
def drawOK (ops : List Oper) : Nat → List Oper → Bool
 | _, [] => true
 | i, o :: l => match opTmps o.op with
  | none => false
  | some ts => match readsOK i o.after.toList ops (ts ++ guardTmps ops o.guard), edgesOK i o.after.toList, (match o.dst with
    | some d => noWriter d l
    | none => true) with
   | true, true, true => drawOK ops (i + 1) l
   | _, _, _ => false

def isBit (m j : Nat) : Bool := (m >>> j) % 2 == 1
/-! ### The same, reckoned fast: who writes which slot stands in one number. -/
def dstC (o : Oper) : Nat := match o.dst with
 | some d => d + 1
 | none => 0
def mkD : List Oper → Nat
 | [] => 0
 | o :: l => dstC o + 1048576 * mkD l
def mkW : List Oper → Nat
 | [] => 0
 | o :: l => (match o.dst with
  | some d => 1 <<< d
  | none => 0) ||| mkW l
def atD (D j : Nat) : Nat := (D >>> (20 * j)) % 1048576
def edgeW (D t i : Nat) : List Edge → Bool
 | [] => false
 | e :: l => match bnd e with
  | true => if e.on < i then (if atD D e.on = t + 1 then true else edgeW D t i l) else edgeW D t i l
  | false => edgeW D t i l
def readsW (D W i : Nat) (af : List Edge) : List Nat → Bool
 | [] => true
 | t :: l => match isBit W t with
  | false => readsW D W i af l
  | true => match edgeW D t i af with
   | true => readsW D W i af l
   | false => false
def guardC (D : Nat) (g : Option (Nat × Bool)) : List Nat := match g with
 | none => []
 | some (j, _) => match atD D j with
  | 0 => []
  | d + 1 => [d]
def dOK (D W : Nat) : Nat → Nat → List Oper → Bool
 | _, _, [] => true
 | i, M, o :: l => match opTmps o.op with
  | none => false
  | some ts => match readsW D W i o.after.toList (ts ++ guardC D o.guard), edgesOK i o.after.toList with
   | true, true => match o.dst with
    | none => dOK D W (i + 1) M l
    | some d => if d < 1048575 then (match isBit M d with
     | true => false
     | false => dOK D W (i + 1) (M ||| (1 <<< d)) l) else false
   | _, _ => false
def drawOK2 (ops : List Oper) : Bool := dOK (mkD ops) (mkW ops) 0 0 ops

/-- For each operation the set (as bits) of those that it waits for, itself among them. -/
def edgeMask (ms : List Nat) : List Edge → Nat
 | [] => 0
 | e :: l => match bnd e with
  | true => ms.getD e.on 0 ||| edgeMask ms l
  | false => edgeMask ms l
def masks : List Nat → List Oper → List Nat
 | ms, [] => ms
 | ms, o :: l => masks (ms ++ [edgeMask ms o.after.toList ||| (1 <<< ms.length)]) l
/-- From which operation on each waits for all the earlier ones. -/
def cutF : Nat → List Nat → List Oper → Nat → Nat
 | i, m :: ms, o :: l, n => match m == (1 <<< (i + 1)) - 1, edgesOK i o.after.toList with
  | true, true => cutF (i + 1) ms l n
  | _, _ => cutF (i + 1) ms l (i + 1)
 | i, [], _ :: _, _ => i
 | _, _, [], n => n
def cutN (ops : List Oper) : Nat := cutF 0 (masks [] ops) ops 0

/-- A list that a call of the first part has made and the rest appends to: the call's index and slot; nothing of the first part reads it. -/
def appArg : List Oper → Option Nat
 | [] => none
 | o :: l => match o.op with
  | .call c => match c.callee, c.args.toList with
   | .builtin .append, .tmp t :: _ => some t
   | _, _ => appArg l
  | _ => appArg l
def madeBy (t : Nat) : Nat → List Oper → Option Nat
 | _, [] => none
 | i, o :: l => match o.dst with
  | some d => if d = t then (match o.guard, o.op with
   | none, .call c => match c.callee with
    | .value (.func _) => some i
    | _ => none
   | _, _ => none) else madeBy t (i + 1) l
  | none => madeBy t (i + 1) l
def unread (t : Nat) (ops : List Oper) : List Oper → Bool
 | [] => true
 | o :: l => match opTmps o.op with
  | none => false
  | some ts => match memB t (ts ++ guardTmps ops o.guard) with
   | true => false
   | false => unread t ops l
def ownSlot (pre suf : List Oper) : Option (Nat × Nat) := match appArg suf with
 | none => none
 | some t => match madeBy t 0 pre with
  | none => none
  | some i => match unread t pre pre with
   | true => some (i, t)
   | false => none

/-! ### Drawn regions with operations that change memory: those wait for all the earlier ones but some that only read what does not change. -/
def lateOp (o : Oper) : Bool := match o.guard with
 | none => match o.op with
  | .move _ => true
  | .assign _ => true
  | .extract _ _ => true
  | .nilCheck _ => true
  | .load _ _ => true
  | .fieldAddr _ _ _ => true
  | .indexAddr _ _ _ => true
  | .binOp _ _ _ _ _ => true
  | _ => false
 | some _ => false
def chgOp (L : Lay) (o : Oper) : Bool := match o.op with
 | .store _ _ _ => true
 | .alloc _ => true
 | .box _ _ => true
 | .makeSlice _ _ _ => true
 | .call c => match c.callee with
  | .builtin .len => false
  | .builtin .max => false
  | .builtin .min => false
  | .builtin _ => true
  | .value (.func f) => L.sr f
  | _ => false
 | _ => false
def anyChg (L : Lay) : List Oper → Bool
 | [] => false
 | o :: l => match chgOp L o with
  | true => true
  | false => anyChg L l
def firstChg (L : Lay) : Nat → List Oper → Nat
 | n, [] => n
 | n, o :: l => match chgOp L o with
  | true => n
  | false => firstChg L (n + 1) l
def stTmps (o : Op) : Option (List Nat) := match o with
 | .store _ x y => some (tmpsOf [x, y])
 | o => opTmps o
/-- Each operation of the first part is waited for (mask 'm'), or may come late beside an operation that reads the slots 'rd' and writes 'od'. -/
def lateRow (m : Nat) (rd : List Nat) (od : Option Nat) : Nat → List Oper → Bool
 | _, [] => true
 | j, o :: l => match isBit m j with
  | true => lateRow m rd od (j + 1) l
  | false => match lateOp o, o.dst, opTmps o.op with
   | true, some d, some ts => match memB d rd, (match od with
     | none => false
     | some e => memB e (d :: ts)) with
    | false, false => lateRow m rd od (j + 1) l
    | _, _ => false
   | _, _, _ => false
def bitsFrom (m : Nat) : Nat → Nat → Bool
 | _, 0 => true
 | n, k + 1 => match isBit m n with
  | true => bitsFrom m (n + 1) k
  | false => false
def sufOK (ops : List Oper) (n : Nat) : Nat → List Nat → List Oper → Bool
 | _, _, [] => true
 | _, [], _ :: _ => false
 | i, m :: ms, o :: l => match stTmps o.op with
  | none => false
  | some ts => match edgesOK i o.after.toList, lateRow m (ts ++ guardTmps ops o.guard) o.dst 0 (ops.take n), bitsFrom m n (i - n) with
   | true, true, true => sufOK ops n (i + 1) ms l
   | _, _, _ => false
def lateOK (ops : List Oper) (n : Nat) : Bool := match drawOK (ops.take n) 0 (ops.take n) with
 | true => sufOK ops n n ((masks [] ops).drop n) (ops.drop n)
 | false => false
def anyMiss (j : Nat) : List Nat → Bool
 | [] => false
 | m :: ms => match isBit m j with
  | true => anyMiss j ms
  | false => true
/-- What comes late reads pure values. -/
def isMove (o : Op) : Bool := match o with
 | .move _ => true
 | .assign _ => true
 | .extract _ _ => true
 | _ => false
/-- A load of an own box, which may come late as long as the box stays. -/
def isLd (o : Op) : Bool := match o with
 | .load _ _ => true
 | .nilCheck _ => true
 | .fieldAddr _ _ _ => true
 | _ => false
def pbIds : List AV → List Nat
 | [] => []
 | .pb id _ :: l => id :: pbIds l
 | _ :: l => pbIds l
def allPB : List AV → Bool
 | [] => true
 | .pb _ _ :: l => allPB l
 | x :: l => match x.isPure with
  | true => allPB l
  | false => false
noncomputable def lateIds (s : AS) (ms : List Nat) : Nat → List Oper → List Nat
 | _, [] => []
 | j, o :: l => match anyMiss j ms, isLd o.op with
  | true, true => pbIds (o.op.operands.toList.map s.get) ++ lateIds s ms (j + 1) l
  | _, _ => lateIds s ms (j + 1) l
/-- These boxes have stayed. -/
def chkE (E : Env) (os0 os : List Obj) : List Nat → Prop → Prop
 | [], K => K
 | id :: l, K => E.need (os[id]? = os0[id]?) (chkE E os0 os l K)
noncomputable def aopsC (E : Env) (L : Lay) (os0 : List Obj) (ids : List Nat) (fl : Nat → Bool) (ops : List Oper) : Nat → List Oper → AS → (AS → Prop) → Prop
 | _, [], s, K => K s
 | i, o :: rest, s, K => match o.guard with
  | none => astep E L s o fun v s' => match fl i with
   | true => chkE E os0 s'.os ids (aopsC E L os0 ids fl ops (i + 1) rest (s'.put o.dst v) K)
   | false => aopsC E L os0 ids fl ops (i + 1) rest (s'.put o.dst v) K
  | some (j, want) => match s.yield ops j with
   | none => False
   | some none => aopsC E L os0 ids fl ops (i + 1) rest (s.put o.dst .und) K
   | some (some b) => if b = want then astep E L s o fun v s' => match fl i with
     | true => chkE E os0 s'.os ids (aopsC E L os0 ids fl ops (i + 1) rest (s'.put o.dst v) K)
     | false => aopsC E L os0 ids fl ops (i + 1) rest (s'.put o.dst v) K
    else aopsC E L os0 ids fl ops (i + 1) rest (s.put o.dst .und) K
/-- Does an operation leave some of the first part open? -/
def missB (ops : List Oper) (n i : Nat) : Bool := match (masks [] ops)[i]? with
 | some m => match bitsFrom m 0 n with
  | true => false
  | false => true
 | none => true
noncomputable def latePure (s : AS) (ms : List Nat) : Nat → List Oper → Bool
 | _, [] => true
 | j, o :: l => match anyMiss j ms with
  | true => match isMove o.op with
   | true => latePure s ms (j + 1) l
   | false => match AV.allPure (o.op.operands.toList.map s.get) with
    | true => latePure s ms (j + 1) l
    | false => match isLd o.op, allPB (o.op.operands.toList.map s.get) with
     | true, true => latePure s ms (j + 1) l
     | _, _ => false
  | false => latePure s ms (j + 1) l

/-! ### Regions in the text's order, in groups: a load of a nested own row goes with the changing call behind it. -/
inductive Grp where
 | one (o : Oper)
 | nest (o : Oper) (mv : List Oper) (oc : Oper)
def isSl (L : Lay) (t : TypeId) : Bool := match (L.ty t).d, (L.ty t).agg with
 | .slice _, false => true
 | _, _ => false
def grab (L : Lay) (d : Nat) : List Oper → List Oper → Option (List Oper × Oper × List Oper)
 | acc, o :: l => match o.op with
  | .move _ => grab L d (acc ++ [o]) l
  | .call c => match muC L c, c.args.toList with
   | true, .tmp t :: _ => if t = d then some (acc, o, l) else none
   | _, _ => none
  | _ => none
 | _, [] => none
def groups (L : Lay) : Nat → List Oper → List Grp
 | 0, l => l.map Grp.one
 | _, [] => []
 | n + 1, o :: l => match o.op, o.dst with
  | .load t _, some d => match isSl L t with
   | true => match grab L d [] l with
    | some (mv, oc, l') => .nest o mv oc :: groups L n l'
    | none => .one o :: groups L n l
   | false => .one o :: groups L n l
  | _, _ => .one o :: groups L n l
def hasNest : List Grp → Bool
 | [] => false
 | .one _ :: l => hasNest l
 | .nest .. :: _ => true
def movesB (d : Nat) : List Oper → Bool
 | [] => true
 | o :: l => match o.guard, o.op, o.dst with
  | none, .move _, some e => if e = d then false else movesB d l
  | _, _, _ => false
noncomputable def agrps (E : Env) (L : Lay) (ops : List Oper) : List Grp → AS → (AS → Prop) → Prop
 | [], s, K => K s
 | .one o :: l, s, K => aops E L false ops [o] s fun s' => agrps E L ops l s' K
 | .nest o mv oc :: l, s, K => match o.guard, o.op, o.dst with
  | none, .load t x, some d => match oc.guard, oc.op with
   | none, .call c => match isSl L t, movesB d mv with
    | true, true => match c.callee, c.args.toList with
     | .value (.func _), .tmp d' :: _ => if d' = d then (match s.get x with
      | .pe id i j => anest E s id i j d mv oc c fun s' => agrps E L ops l s' K
      | _ => aops E L false ops (o :: (mv ++ [oc])) s fun s' => agrps E L ops l s' K) else False
     | _, _ => False
    | _, _ => False
   | _, _ => False
  | _, _, _ => False

/-- Operations that only read or call. -/
def pureO (L : Lay) (o : Oper) : Bool := match chgOp L o with
 | true => false
 | false => match o.op with
  | .move _ | .assign _ | .load _ _ | .nilCheck _ | .unOp _ _ _ | .convert _ _ _ | .fieldAddr _ _ _ | .field _ _ _ | .extract _ _ | .pick _ _ _ | .binOp _ _ _ _ _ | .indexAddr _ _ _ | .index _ _ _ | .makeFunc _ _ _ | .build _ _ | .buildSlice _ _ _ => true
  | .slice _ _ _ _ none => true
  | .call c => match c.callee with
   | .value _ => true
   | .builtin .len => true
   | .builtin .max => true
   | .builtin .min => true
   | _ => false
  | _ => false
def pureR (L : Lay) : List Oper → Bool
 | [] => true
 | o :: l => match pureO L o with
  | true => pureR L l
  | false => false
/-- Is a slice built of parts of slices (the lists that slices.Concat is handed)? Then the call stays in the text's order, so its result is own. -/
def slMade (d : Nat) : List Oper → Bool
 | [] => false
 | o :: l => match o.op, o.dst with
  | .slice _ _ _ _ _, some e => if e = d then true else slMade d l
  | _, _ => slMade d l
def anySl (ops : List Oper) : List Nat → Bool
 | [] => false
 | d :: l => match slMade d ops with
  | true => true
  | false => anySl ops l
def bdMade (d : Nat) : List Oper → Bool
 | [] => false
 | o :: l => match o.op, o.dst with
  | .build _ _, some e => if e = d then true else bdMade d l
  | _, _ => bdMade d l
def anyBd (ops : List Oper) : List Nat → Bool
 | [] => false
 | d :: l => match bdMade d ops with
  | true => true
  | false => anyBd ops l
/-- The slot that the region's last operation assigns. -/
def lastAsg : List Oper → Option Nat
 | [] => none
 | o :: l => match l with
  | [] => match o.op with
   | .assign x => match x with
    | .tmp t => some t
    | _ => none
   | _ => none
  | _ :: _ => lastAsg l
def conB (ops : List Oper) : List Oper → Bool
 | [] => false
 | o :: l => match o.op with
  | .buildSlice _ _ ps => match anySl ops (tmpsOf (ps.toList.map (·.2))) with
   | true => true
   | false => match lastAsg ops, o.dst with
    | some t, some d => match Nat.beq t d, anyBd ops (tmpsOf (ps.toList.map (·.2))) with
     | true, true => true
     | _, _ => conB ops l
    | _, _ => conB ops l
  | _ => conB ops l
def cutK (L : Lay) (ops : List Oper) : Nat := match conB ops ops with
 | true => cutN ops
 | false => match pureR L ops, drawOK2 ops with
  | true, true => ops.length
  | _, _ => cutN ops
noncomputable def axLate (E : Env) (L : Lay) (ops : List Oper) (n : Nat) (s : AS) (K : AS → Prop) : Prop := match lateOK ops n with
 | true => aops E L true (ops.take n) (ops.take n) s fun s' => match latePure s' ((masks [] ops).drop n) 0 (ops.take n) with
  | true => aopsC E L s'.os (lateIds s' ((masks [] ops).drop n) 0 (ops.take n)) (missB ops n) ops n (ops.drop n) s' K
  | false => False
 | false => False
/-- Boxes that the first part of a drawn region makes, in whatever order: their slots hold nothing known until all of them lie there. -/
def isAl (o : Oper) : Bool := match o.op with
 | .alloc _ => match o.guard, o.dst with
  | none, some _ => true
  | _, _ => false
 | _ => false
def firstChgA (L : Lay) : Nat → List Oper → Nat
 | n, [] => n
 | n, o :: l => match chgOp L o, isAl o with
  | true, false => n
  | _, _ => firstChgA L (n + 1) l
def alSl : List Oper → List (Nat × TypeId)
 | [] => []
 | o :: l => match o.op, o.dst with
  | .alloc t, some d => (d, t) :: alSl l
  | _, _ => alSl l
def alsOK (ops : List Oper) : List Oper → Bool
 | [] => true
 | o :: l => match o.op with
  | .alloc _ => match o.guard, o.dst with
   | none, some d => match unread d ops ops with
    | true => alsOK ops l
    | false => false
   | _, _ => false
  | _ => alsOK ops l
noncomputable def alsS (L : Lay) : List (Nat × TypeId) → AS → AS
 | [], s => s
 | (d, t) :: l, s => alsS L l ⟨s.fr.set d (.pb s.os.length 0), s.os ++ [.box ((L.ty t).zero.map Z.av)]⟩
def ltAll (n : Nat) : List (Nat × TypeId) → Bool
 | [] => true
 | q :: l => if q.1 < n then ltAll n l else false
def ltIds (n : Nat) : List Nat → Bool
 | [] => true
 | i :: l => if i < n then ltIds n l else false
noncomputable def axLateA (E : Env) (L : Lay) (ops : List Oper) (n : Nat) (s : AS) (K : AS → Prop) : Prop := match lateOK ops n, alsOK (ops.take n) (ops.take n) with
 | true, true => aops E L true (ops.take n) (ops.take n) s fun s' => match latePure s' ((masks [] ops).drop n) 0 (ops.take n), ltAll s'.fr.length (alSl (ops.take n)), ltIds s'.os.length (lateIds s' ((masks [] ops).drop n) 0 (ops.take n)) with
  | true, true, true => aopsC E L s'.os (lateIds s' ((masks [] ops).drop n) 0 (ops.take n)) (missB ops n) ops n (ops.drop n) (alsS L (alSl (ops.take n)) s') K
  | _, _, _ => False
 | _, _ => False
/-- A region that draws its order: 'pre' in any order, then 'suf'. -/
noncomputable def axD0 (E : Env) (L : Lay) (ops pre suf : List Oper) (s : AS) (K : AS → Prop) : Prop := match anyChg L pre with
 | false => match drawOK2 pre with
  | true => match ownSlot pre suf with
   | none => aops E L true pre pre s fun s' => aops E L false ops suf s' K
   | some (_, d) => aops E L true pre pre s fun s' => match s'.fr.getD d .any with
    | .sl true k es => aops E L false ops suf ⟨s'.fr.set d (.ob s'.os.length), s'.os ++ [.row k es]⟩ K
    | _ => False
  | false => False
 | true => match alSl (ops.take (firstChgA L 0 ops)) with
  | [] => axLate E L ops (firstChg L 0 ops) s K
  | _ :: _ => axLateA E L ops (firstChgA L 0 ops) s K
/-- A slice that is built to be a part of another one that is built later: from there on the region goes in the text's order, if it may. -/
def usesB (d : Nat) : List Oper → Bool
 | [] => false
 | o :: l => match o.op with
  | .buildSlice _ _ ps => match memB d (tmpsOf (ps.toList.map (·.2))) with
   | true => true
   | false => usesB d l
  | _ => usesB d l
def nestAt : Nat → List Oper → Option Nat
 | _, [] => none
 | n, o :: l => match o.op, o.dst with
  | .buildSlice _ _ _, some d => match usesB d l with
   | true => some n
   | false => nestAt (n + 1) l
  | _, _ => nestAt (n + 1) l
def nestCut (ops : List Oper) : Option Nat := match nestAt 0 ops with
 | none => none
 | some n => match lateOK ops n with
  | true => some n
  | false => none
/-! A region with a changing call that is lent a slice built beside other operations: every order is walked. -/
def madeB (d : Nat) : List Oper → Bool
 | [] => false
 | o :: l => match o.op, o.dst with
  | .buildSlice _ _ _, some e => if e = d then true else madeB d l
  | _, _ => madeB d l
def anyMade (ops : List Oper) : List Nat → Bool
 | [] => false
 | d :: l => match madeB d ops with
  | true => true
  | false => anyMade ops l
def insB (L : Lay) (ops : List Oper) : List Oper → Bool
 | [] => false
 | o :: l => match o.op with
  | .call c => match muC L c, srC L c with
   | true, false => match anyMade ops (tmpsOf c.args.toList) with
    | true => true
    | false => insB L ops l
   | _, _ => insB L ops l
  | _ => insB L ops l
/-! Two stores of what calls of the region have made: every order is walked too, so each result stays own. -/
def callMade (d : Nat) : List Oper → Bool
 | [] => false
 | o :: l => match o.op, o.dst with
  | .call c, some e => match c.callee with
   | .value (.func _) => if e = d then true else callMade d l
   | _ => callMade d l
  | _, _ => callMade d l
def stCalls (ops : List Oper) : List Oper → Nat
 | [] => 0
 | o :: l => match o.op with
  | .store _ _ (.tmp d) => match callMade d ops with
   | true => stCalls ops l + 1
   | false => stCalls ops l
  | _ => stCalls ops l
def insB2 (L : Lay) (ops : List Oper) : Bool := match insB L ops ops with
 | true => true
 | false => Nat.ble 2 (stCalls ops ops)
def edgesIn (done : List Nat) : List Edge → Bool
 | [] => true
 | e :: l => match bnd e with
  | true => match memB e.on done with
   | true => edgesIn done l
   | false => false
  | false => edgesIn done l
def readyL (done : List Nat) : Nat → List Oper → List Nat
 | _, [] => []
 | i, o :: l => match memB i done with
  | true => readyL done (i + 1) l
  | false => match edgesIn done o.after.toList with
   | true => i :: readyL done (i + 1) l
   | false => readyL done (i + 1) l
def eachP (E : Env) (p : Nat → Prop) : List Nat → Prop
 | [] => True
 | [i] => p i
 | i :: j :: l => E.need (p i) (eachP E p (j :: l))
noncomputable def astepI (E : Env) (L : Lay) (ops : List Oper) (i : Nat) (s : AS) (K : AS → Prop) : Prop := match ops[i]? with
 | none => False
 | some o => match o.guard with
  | none => astep E L s o fun v s' => K (s'.put o.dst v)
  | some (j, want) => match s.yield ops j with
   | none => False
   | some none => K (s.put o.dst .und)
   | some (some b) => if b = want then astep E L s o fun v s' => K (s'.put o.dst v) else K (s.put o.dst .und)
noncomputable def aany (E : Env) (L : Lay) (ops : List Oper) : Nat → List Nat → AS → (AS → Prop) → Prop
 | 0, _, _, _ => False
 | f + 1, done, s, K => match readyL done 0 ops with
  | [] => K s
  | i :: is => eachP E (fun i => astepI E L ops i s fun s' => aany E L ops f (i :: done) s' K) (i :: is)
noncomputable def axD (E : Env) (L : Lay) (ops pre suf : List Oper) (s : AS) (K : AS → Prop) : Prop := match insB2 L ops with
 | true => aany E L ops (ops.length + 1) [] s K
 | false => match nestCut ops with
  | some n => axLate E L ops n s K
  | none => axD0 E L ops pre suf s K
noncomputable def axN (E : Env) (L : Lay) (ops : List Oper) (n : Nat) (s : AS) (K : AS → Prop) : Prop := axD E L ops (ops.take n) (ops.drop n) s K

noncomputable def ax (E : Env) (L : Lay) : Code → AS → (XE → AS → Prop) → Prop
 | .skip, s, K => K .normal s
 | .region _ ops draw, s, K => match draw with
  | false => match hasNest (groups L ops.toList.length ops.toList) with
   | false => aops E L false ops.toList ops.toList s (K .normal)
   | true => agrps E L ops.toList (groups L ops.toList.length ops.toList) s (K .normal)
  | true => axN E L ops.toList (cutK L ops.toList) s (K .normal)
 | .seq a b, s, K => ax E L a s fun e s' => match e with
  | .normal => ax E L b s' K
  | e => K e s'
 | .cond c a b, s, K => match s.get c with
  | .bool c => if c = true then ax E L a s K else ax E L b s K
  | _ => False
 | .block id c, s, K => ax E L c s fun e s' => match e with
  | .exit i => if i = id then K .normal s' else K (.exit i) s'
  | e => K e s'
 | .loop c, s, K => E.loop c (ax E L c) s K
 | .exit id, s, K => K (.exit id) s
 | .ret, s, K => K .ret s
 | _, _, _ => False

/-- What leaves a frame for good: flat cells, own rows (each once); nil stands for an empty own row too. -/
noncomputable def AS.out1 (E : Env) (s : AS) (x : AV) (K : AV → AS → Prop) : Prop := match x with
 | .nils => E.nil fun v => K v s
 | .vs id lo hi => match s.os[id]? with
  | some (.row k es) => if lo = 0 then E.sub_ es (some lo) (some hi) fun es' => K (.sl true k es') ⟨s.fr, s.os.set id .dead⟩ else False
  | _ => False
 | .pb id off => match off, s.os[id]? with
  | 0, some (.box cs) => match AV.allPure cs with
   | true => K (.bx cs) ⟨s.fr, s.os.set id .dead⟩
   | false => False
  | _, _ => False
 | x => s.own1 x K
noncomputable def AS.outL (E : Env) (s : AS) : List AV → (List AV → AS → Prop) → Prop
 | [], K => K [] s
 | x :: l, K => s.out1 E x fun x' s' => s'.outL E l fun l' s'' => K (x' :: l') s''
noncomputable def AS.out (E : Env) (s : AS) (x : AV) (K : AV → AS → Prop) : Prop := match x with
 | .agg cs => s.outL E cs fun cs' s' => K (.agg cs') s'
 | x => s.out1 E x K
/-- The result of a body. -/
noncomputable def aret (E : Env) (L : Lay) : List ResultVar → AS → (List AV → Prop) → Prop
 | [], _, K => K []
 | .tmp t :: rest, s, K => s.out E (s.fr.getD t .any) fun v s' => aret E L rest s' fun vs => K (v :: vs)
 | .cell t ty :: rest, s, K => match s.fr.getD t .any with
  | .pb id off => match s.os[id]? with
   | some (.box cs) => ofCells L ty (cs.drop off) fun v => s.out E v fun v' s' => aret E L rest s' fun vs => K (v' :: vs)
   | _ => False
  | _ => False
def atup (vs : List AV) : AV := match vs with
 | [v] => v
 | vs => .tup vs

/-- A function's body, from its arguments to its result. -/
noncomputable def afun (E : Env) (L : Lay) (fn : Func) (args : List AV) (K : AV → Prop) : Prop := match fn.body with
 | some c => ax E L c ⟨args ++ List.replicate (fn.ntmps - args.length) .und, []⟩ fun e s => match e with
  | .ret => aret E L fn.results.toList s fun vs => K (atup vs)
  | .normal => aret E L fn.results.toList s fun vs => K (atup vs)
  | _ => False
 | none => False

/-- The same, with the state that is left. -/
noncomputable def aretM (E : Env) (L : Lay) : List ResultVar → AS → (List AV → AS → Prop) → Prop
 | [], s, K => K [] s
 | .tmp t :: rest, s, K => s.out E (s.fr.getD t .any) fun v s' => aretM E L rest s' fun vs => K (v :: vs)
 | .cell t ty :: rest, s, K => match s.fr.getD t .any with
  | .pb id off => match s.os[id]? with
   | some (.box cs) => ofCells L ty (cs.drop off) fun v => s.out E v fun v' s' => aretM E L rest s' fun vs => K (v' :: vs)
   | _ => False
  | _ => False
/-- What is left of an argument. -/
noncomputable def AS.fin (s : AS) (x : AV) : AV := match x with
 | .ob id => match s.os[id]? with
  | some (.row k es) => .sl true k es
  | _ => .any
 | _ => .any
def allRow : List Obj → Bool
 | [] => true
 | .row .. :: l => allRow l
 | _ :: _ => false
/-- A function that changes what it is lent: 'np' own arguments. -/
noncomputable def afunM (E : Env) (L : Lay) (np : Nat) (fn : Func) (args : List AV) (K : AV → List AV → Prop) : Prop := match fn.body with
 | some c => (AS.mk [] []).in2L args fun args0 s0 => match s0.os.length == np, allRow s0.os, nodupB (idsL args0) with
  | true, true, true => ax E L c ⟨args0 ++ List.replicate (fn.ntmps - args.length) .und, s0.os⟩ fun e s => match e with
   | .ret => aretM E L fn.results.toList s fun vs s' => K (atup vs) (args0.map s'.fin)
   | .normal => aretM E L fn.results.toList s fun vs s' => K (atup vs) (args0.map s'.fin)
   | _ => False
  | _, _, _ => False
 | none => False

/-- What is left of an argument, boxes too. -/
noncomputable def AS.finS (s : AS) (x : AV) : AV := match x with
 | .ob id => match s.os[id]? with
  | some (.row k es) => .sl true k es
  | _ => .any
 | .pb id off => match off, s.os[id]? with
  | 0, some (.box cs) => match AV.allPure cs with
   | true => .bx cs
   | false => .any
  | _, _ => .any
 | _ => .any
noncomputable def AS.okArgs (s : AS) : List AV → Bool
 | [] => true
 | .ob id :: l => match s.os[id]? with
  | some (.row ..) => s.okArgs l
  | _ => false
 | .pb id _ :: l => match s.os[id]? with
  | some (.box _) => s.okArgs l
  | _ => false
 | _ :: l => s.okArgs l
/-- A function that is lent owned boxes: 'np' own arguments. -/
noncomputable def afunS (E : Env) (L : Lay) (np : Nat) (fn : Func) (args : List AV) (K : AV → List AV → Prop) : Prop := match fn.body with
 | some c => (AS.mk [] []).in2L args fun args0 s0 => match s0.os.length == np, s0.okArgs args0, nodupB (idsSL args0) with
  | true, true, true => ax E L c ⟨args0 ++ List.replicate (fn.ntmps - args.length) .und, s0.os⟩ fun e s => match e with
   | .ret => aretM E L fn.results.toList s fun vs s' => K (atup vs) (args0.map s'.finS)
   | .normal => aretM E L fn.results.toList s fun vs s' => K (atup vs) (args0.map s'.finS)
   | _ => False
  | _, _, _ => False
 | none => False

noncomputable def Z.of (v : Value) : Z := match v with
 | .int k n => if n = 0 then .int k else .other
 | .bool b => if b = false then .bool else .other
 | .string s => if s.data.toList = [] then .str else .other
 | .slice none n m => if n = 0 ∧ m = 0 then .slice else .other
 | .pointer none => .ptr
 | _ => .other
noncomputable def D.of (d : Option TypeDesc) : D := match d with
 | some (.int k) => .int k
 | some .bool => .bool
 | some .string => .str
 | some (.slice e) => .slice e
 | some (.struct fs) => .struct (fs.toList.map fun f => (f.offset, f.type))
 | some (.array n e) => .array n e
 | some (.pointer e) => .ptr e
 | some _ => .misc
 | none => .other
def D.isAgg (d : D) : Bool := match d with
 | .struct _ => true
 | .array _ _ => true
 | _ => false
noncomputable def Z.ofAll (z : Option Value) : List Z := match z with
 | none => []
 | some z => z.cells.toList.map Z.of
noncomputable def TyI.of (d : Option TypeDesc) (i : Option TypeInfo) (e : Bool) : TyI := match i with
 | none => ⟨.other, false, 0, [], 0, false⟩
 | some i => ⟨D.of d, (D.of d).isAgg, i.size, Z.ofAll i.zero, i.bytes, e⟩
/-- May structs of a type be compared field by field? -/
def eqOK (P : Program) (t : TypeId) : Bool := match P.underlying t with
 | some (.struct gs) => !(P.stoodInHeld t) && !(P.eqGuardType P.depth t) && gs.toList.all fun g => g.name != "_"
 | some (.array _ _) => !(P.eqGuardType P.depth t)
 | _ => false
/-- The shape of a type, off the program's table. -/
noncomputable def layOf (P : Program) (t : TypeId) : TyI := TyI.of (P.underlying t) (P.info? t) (eqOK P t)

end Go.Proofs.YtlemeenicaidfaaGreatDoor

/- What the abstract values mean in a world; the interpreter's environment; contracts. -/
namespace Go.Proofs.YtlemeenicaidfaaGreatDoor
set_option linter.unusedVariables false
set_option linter.unusedSimpArgs false
open Go Go.RowKit

/-- A value that only reads: its memory lies in blocks of A. -/
inductive Rel (w : World) (A : Nat → Prop) : AV → Value → Prop
 | int (k : IntKind) (n : Int) : Rel w A (.int k n) (.int k n)
 | bool (b : Bool) : Rel w A (.bool b) (.bool b)
 | str (s : ByteArray) (h : s.size ≤ maxLen) : Rel w A (.str s) (.string s)
 | agg (cs : List AV) (vs : Array Value) (hn : vs.size = cs.length) (hc : ∀ (i : Nat) a, cs[i]? = some a → Rel w A a (vs.getD i undef)) : Rel w A (.agg cs) (.agg vs)
 | tup (cs : List AV) (vs : Array Value) (hn : vs.size = cs.length) (hc : ∀ (i : Nat) a, cs[i]? = some a → Rel w A a (vs.getD i undef)) : Rel w A (.tup cs) (.tuple vs)
 | nils : Rel w A .nils (.slice none 0 0)
 | nilp : Rel w A .nilp (.pointer none)
 | sl (t : Bool) (k : Nat) (es : List (List AV)) (p : Option Addr) (cap b off : Nat) (val : Nat → Nat → Value)
   (hl : es.length ≤ maxLen) (hcap : es.length ≤ cap)
   (hp : es ≠ [] → p = some ⟨b, off, none⟩ ∧ A b)
   (hk : ∀ e ∈ es, e.length = k)
   (hc : ∀ i j, i < es.length → j < k → w.cell? ⟨b, off + (i * k + j), none⟩ = some (val i j))
   (h1 : ∀ i j, i < es.length → j < k → (val i j).oneCell' = true)
   (hr : ∀ (i j : Nat) e a, es[i]? = some e → e[j]? = some a → Rel w A a (val i j)) : Rel w A (.sl t k es) (.slice p es.length cap)
 | pp (cs : List AV) (b off : Nat) (val : Nat → Value) (hb : A b)
   (hc : ∀ j, j < cs.length → w.cell? ⟨b, off + j, none⟩ = some (val j))
   (hr : ∀ (j : Nat) a, cs[j]? = some a → Rel w A a (val j)) : Rel w A (.pp cs) (.pointer (some ⟨b, off, none⟩))
 | fn (f : FuncId) (caps : List AV) (vs : Array Value) (hn : vs.size = caps.length) (hc : ∀ (i : Nat) a, caps[i]? = some a → Rel w A a (vs.getD i undef)) : Rel w A (.fn f caps) (.func (.func f) #[] vs)
 | fb (f : FuncId) (cs : List AV) (vs : Array Value) (hn : vs.size = cs.length) (hc : ∀ (i : Nat) a, cs[i]? = some a → Rel w A a (vs.getD i undef)) : Rel w A (.fb f cs) (.func (.func f) #[.agg vs] #[])
 | bx (cs : List AV) (b off : Nat) (val : Nat → Value) (hb : A b)
   (hc : ∀ j, j < cs.length → w.cell? ⟨b, off + j, none⟩ = some (val j))
   (hr : ∀ (j : Nat) a, cs[j]? = some a → Rel w A a (val j)) : Rel w A (.bx cs) (.pointer (some ⟨b, off, none⟩))
 | und : Rel w A .und undef
 | any (v : Value) : Rel w A .any v
 | hd (x : AV) (v : Value) (h1 : v.oneCell' = true) (h : Rel w A x v) : Rel w A (.hd v x) v

/-- A value that owns its memory: the blocks of F, each once; what it only reads lies in A. -/
inductive XRel (w : World) (A : Nat → Prop) : AV → Value → (Nat → Prop) → Prop
 | pure (a : AV) (v : Value) (F : Nat → Prop) (h : Rel w A a v) (ho : a.isOwn = false) (hF : ∀ x, ¬ F x) : XRel w A a v F
 | nil (k : Nat) (F : Nat → Prop) (hF : ∀ x, ¬ F x) : XRel w A (.sl true k []) (.slice none 0 0) F
 | sl (k : Nat) (es : List (List AV)) (cap b : Nat) (T : TypeId) (c : Array Value) (F : Nat → Prop) (G : Nat → Nat → Nat → Prop)
   (hb : w.heap[b]? = some (.cells c T (0, 0)))
   (hl : es.length ≤ maxLen) (hcap : es.length ≤ cap) (hsz : cap * k ≤ c.size)
   (hk : ∀ e ∈ es, e.length = k)
   (h1 : ∀ i j, i < es.length → j < k → (c.getD (i * k + j) undef).oneCell' = true)
   (hr : ∀ (i j : Nat) e a, es[i]? = some e → e[j]? = some a → XRel w A a (c.getD (i * k + j) undef) (G i j))
   (hF : ∀ x, F x ↔ x = b ∨ ∃ i j, i < es.length ∧ j < k ∧ G i j x)
   (h0 : ∀ i j, i < es.length → j < k → ¬ G i j b)
   (hd : ∀ i j i' j' x, i < es.length → j < k → i' < es.length → j' < k → G i j x → G i' j' x → i = i' ∧ j = j') :
   XRel w A (.sl true k es) (.slice (some ⟨b, 0, none⟩) es.length cap) F
 | bx (cs : List AV) (b : Nat) (T : TypeId) (c : Array Value) (F : Nat → Prop)
   (hb : w.heap[b]? = some (.cells c T (0, 0))) (hn : c.size = cs.length)
   (hr : ∀ (i : Nat) a, cs[i]? = some a → Rel w A a (c.getD i undef))
   (hF : ∀ x, F x ↔ x = b) : XRel w A (.bx cs) (.pointer (some ⟨b, 0, none⟩)) F
 | agg (cs : List AV) (vs : Array Value) (F : Nat → Prop) (G : Nat → Nat → Prop) (hn : vs.size = cs.length)
   (hc : ∀ (i : Nat) a, cs[i]? = some a → XRel w A a (vs.getD i undef) (G i))
   (hF : ∀ x, F x ↔ ∃ i, i < cs.length ∧ G i x)
   (hd : ∀ i i' x, i < cs.length → i' < cs.length → G i x → G i' x → i = i') : XRel w A (.agg cs) (.agg vs) F
 | tup (cs : List AV) (vs : Array Value) (F : Nat → Prop) (G : Nat → Nat → Prop) (hn : vs.size = cs.length)
   (hc : ∀ (i : Nat) a, cs[i]? = some a → XRel w A a (vs.getD i undef) (G i))
   (hF : ∀ x, F x ↔ ∃ i, i < cs.length ∧ G i x)
   (hd : ∀ i i' x, i < cs.length → i' < cs.length → G i x → G i' x → i = i') : XRel w A (.tup cs) (.tuple vs) F

/-- A value of the frame: own objects are spoken of by their number; 'hd' gives each object's header. -/
inductive SRel (w : World) (A : Nat → Prop) (os : List Obj) (hd : Nat → Value) : AV → Value → Prop
 | pure (a : AV) (v : Value) (h : Rel w A a v) : SRel w A os hd a v
 | ob (id : Nat) (v : Value) (hi : id < os.length) (h : ∀ k es, os[id]? = some (.row k es) → v = hd id) : SRel w A os hd (.ob id) v
 | vs (id : Nat) (lo hi : Int) (v : Value) (hi' : id < os.length) (h : ∀ k es, os[id]? = some (.row k es) → 0 ≤ lo ∧ lo ≤ hi ∧ hi ≤ es.length ∧ ∃ p cap, v = .slice p (hi - lo).toNat cap ∧ (hi - lo).toNat ≤ cap ∧ (lo < hi → ∃ b n c, hd id = .slice (some ⟨b, 0, none⟩) n c ∧ p = some ⟨b, lo.toNat * k, none⟩) ∧ (lo = 0 → ∃ n, hd id = .slice p n cap)) : SRel w A os hd (.vs id lo hi) v
 | pb (id off : Nat) (v : Value) (hi : id < os.length) (h : ∀ cs, os[id]? = some (.box cs) → ∃ b, hd id = .pointer (some ⟨b, 0, none⟩) ∧ v = .pointer (some ⟨b, off, none⟩)) : SRel w A os hd (.pb id off) v
 | pe (id : Nat) (i : Int) (j : Nat) (v : Value) (hi : id < os.length) (h : ∀ k es, os[id]? = some (.row k es) → ∃ b n c, hd id = .slice (some ⟨b, 0, none⟩) n c ∧ 0 ≤ i ∧ i.toNat < es.length ∧ v = .pointer (some ⟨b, i.toNat * k + j, none⟩)) : SRel w A os hd (.pe id i j) v
 | it (id : Nat) (v : Value) (hi : id < os.length) (h : ∀ s p, os[id]? = some (.iter s p) → v = hd id) : SRel w A os hd (.it id) v
 | agg (cs : List AV) (vs : Array Value) (hn : vs.size = cs.length) (hc : ∀ (i : Nat) a, cs[i]? = some a → SRel w A os hd a (vs.getD i undef)) : SRel w A os hd (.agg cs) (.agg vs)
 | tup (cs : List AV) (vs : Array Value) (hn : vs.size = cs.length) (hc : ∀ (i : Nat) a, cs[i]? = some a → SRel w A os hd a (vs.getD i undef)) : SRel w A os hd (.tup cs) (.tuple vs)
 | fn (f : FuncId) (cs : List AV) (vs : Array Value) (hn : vs.size = cs.length) (hc : ∀ (i : Nat) a, cs[i]? = some a → SRel w A os hd a (vs.getD i undef)) : SRel w A os hd (.fn f cs) (.func (.func f) #[] vs)

theorem cell_of_block {w w' : World} {b o : Nat} (h : w'.heap[b]? = w.heap[b]?) : w'.cell? ⟨b, o, none⟩ = w.cell? ⟨b, o, none⟩ :=
 World.cell?_of_block (w := w) (a := ⟨b, o, none⟩) h

theorem Rel.mono {w w' : World} {A A' : Nat → Prop} (hw : ∀ x, A x → w'.heap[x]? = w.heap[x]?) (hA : ∀ x, A x → A' x) {a : AV} {v : Value} (h : Rel w A a v) : Rel w' A' a v := by
 induction h with
 | int k n => exact .int k n
 | bool b => exact .bool b
 | str s h => exact .str s h
 | agg cs vs hn _ ih => exact .agg cs vs hn ih
 | tup cs vs hn _ ih => exact .tup cs vs hn ih
 | nils => exact .nils
 | nilp => exact .nilp
 | sl t k es p cap b off val hl hcap hp hk hc h1 _ ih =>
  refine .sl t k es p cap b off val hl hcap (fun h => ⟨(hp h).1, hA _ (hp h).2⟩) hk (fun i j hi hj => ?_) h1 ih
  have hne : es ≠ [] := by rintro rfl; simp at hi
  rw [cell_of_block (hw b (hp hne).2)]; exact hc i j hi hj
 | pp cs b off val hb hc _ ih =>
  exact .pp cs b off val (hA _ hb) (fun j hj => by rw [cell_of_block (hw b hb)]; exact hc j hj) ih
 | fn f caps vs hn _ ih => exact .fn f caps vs hn ih
 | fb f cs vs hn _ ih => exact .fb f cs vs hn ih
 | bx cs b off val hb hc _ ih =>
  exact .bx cs b off val (hA _ hb) (fun j hj => by rw [cell_of_block (hw b hb)]; exact hc j hj) ih
 | und => exact .und
 | any v => exact .any v
 | hd x v h1 _ ih => exact .hd x v h1 ih

theorem XRel.mono {w w' : World} {A A' : Nat → Prop} (hA : ∀ x, A x → A' x) {a : AV} {v : Value} {F : Nat → Prop} (h : XRel w A a v F)
  (hw : ∀ x, A x ∨ F x → w'.heap[x]? = w.heap[x]?) : XRel w' A' a v F := by
 induction h with
 | pure a v F h ho hF => exact .pure a v F (h.mono (fun x hx => hw x (.inl hx)) hA) ho hF
 | nil k F hF => exact .nil k F hF
 | sl k es cap b T c F G hb hl hcap hsz hk h1c _ hF h0 hd ih =>
  refine .sl k es cap b T c F G (by rw [hw b (.inr ((hF b).2 (.inl rfl)))]; exact hb) hl hcap hsz hk h1c (fun i j e a he ha => ih i j e a he ha (fun x hx => hw x ?_)) hF h0 hd
  rcases hx with hx | hx
  ·exact .inl hx
  ·refine .inr ((hF x).2 (.inr ⟨i, j, ?_, ?_, hx⟩))
   ·exact (List.getElem?_eq_some_iff.1 he).1
   ·have h1 := hk e (List.mem_of_getElem? he)
    have h2 := (List.getElem?_eq_some_iff.1 ha).1
    omega
 | bx cs b T c F hb hn hr hF =>
  exact .bx cs b T c F (by rw [hw b (.inr ((hF b).2 rfl))]; exact hb) hn (fun i a ha => (hr i a ha).mono (fun x hx => hw x (.inl hx)) hA) hF
 | agg cs vs F G hn _ hF hd ih =>
  refine .agg cs vs F G hn (fun i a ha => ih i a ha (fun x hx => hw x ?_)) hF hd
  rcases hx with hx | hx
  ·exact .inl hx
  ·exact .inr ((hF x).2 ⟨i, (List.getElem?_eq_some_iff.1 ha).1, hx⟩)
 | tup cs vs F G hn _ hF hd ih =>
  refine .tup cs vs F G hn (fun i a ha => ih i a ha (fun x hx => hw x ?_)) hF hd
  rcases hx with hx | hx
  ·exact .inl hx
  ·exact .inr ((hF x).2 ⟨i, (List.getElem?_eq_some_iff.1 ha).1, hx⟩)

/-- The footprint matters up to its members. -/
theorem XRel.congr {w : World} {A : Nat → Prop} {a : AV} {v : Value} {F F' : Nat → Prop} (h : XRel w A a v F) (hF' : ∀ x, F' x ↔ F x) : XRel w A a v F' := by
 cases h with
 | pure a v F h ho hF => exact .pure a v F' h ho (fun x => by rw [hF']; exact hF x)
 | nil k F hF => exact .nil k F' (fun x => by rw [hF']; exact hF x)
 | sl k es cap b T c F G hb hl hcap hsz hk h1 hr hF h0 hd => exact .sl k es cap b T c F' G hb hl hcap hsz hk h1 hr (fun x => by rw [hF']; exact hF x) h0 hd
 | bx cs b T c F hb hn hr hF => exact .bx cs b T c F' hb hn hr (fun x => by rw [hF']; exact hF x)
 | agg cs vs F G hn hc hF hd => exact .agg cs vs F' G hn hc (fun x => by rw [hF']; exact hF x) hd
 | tup cs vs F G hn hc hF hd => exact .tup cs vs F' G hn hc (fun x => by rw [hF']; exact hF x) hd

/-- What is owned can be read. -/
theorem XRel.rel {w : World} {A B : Nat → Prop} {a : AV} {v : Value} {F : Nat → Prop} (h : XRel w A a v F) (hA : ∀ x, A x → B x) (hB : ∀ x, F x → B x) : Rel w B a v := by
 induction h with
 | pure a v F h ho hF => exact h.mono (fun _ _ => rfl) hA
 | nil k F hF => exact .sl true k [] none 0 0 0 (fun _ _ => undef) (by simp) (by simp) (by simp) (by simp) (by simp) (by simp) (by simp)
 | sl k es cap b T c F G hb hl hcap hsz hk h1c _ hF h0 hd ih =>
  refine .sl true k es _ cap b 0 (fun i j => c.getD (i * k + j) undef) hl hcap (fun _ => ⟨rfl, hB b ((hF b).2 (.inl rfl))⟩) hk (fun i j hi hj => ?_) h1c
   (fun i j e a he ha => ih i j e a he ha (fun x hx => hB x ((hF x).2 (.inr ⟨i, j, (List.getElem?_eq_some_iff.1 he).1, ?_, hx⟩))))
  ·have h1 : i * k + j < c.size := by
    have : (i + 1) * k ≤ cap * k := Nat.mul_le_mul_right k (by omega)
    rw [Nat.add_mul] at this; omega
   simp [World.cell?, hb, h1]
  ·have h1 := hk e (List.mem_of_getElem? he)
   have h2 := (List.getElem?_eq_some_iff.1 ha).1
   omega
 | bx cs b T c F hb hn hr hF =>
  refine .bx cs b 0 (fun j => c.getD j undef) (hB b ((hF b).2 rfl)) (fun j hj => ?_) (fun j a ha => (hr j a ha).mono (fun _ _ => rfl) hA)
  have h1 : j < c.size := by omega
  simp [World.cell?, hb, h1]
 | agg cs vs F G hn _ hF hd ih =>
  exact .agg cs vs hn (fun i a ha => ih i a ha (fun x hx => hB x ((hF x).2 ⟨i, (List.getElem?_eq_some_iff.1 ha).1, hx⟩)))
 | tup cs vs F G hn _ hF hd ih =>
  exact .tup cs vs hn (fun i a ha => ih i a ha (fun x hx => hB x ((hF x).2 ⟨i, (List.getElem?_eq_some_iff.1 ha).1, hx⟩)))

theorem SRel.mono {w w' : World} {A A' : Nat → Prop} {os : List Obj} {hd : Nat → Value} (hw : ∀ x, A x → w'.heap[x]? = w.heap[x]?) (hA : ∀ x, A x → A' x) {a : AV} {v : Value} (h : SRel w A os hd a v) : SRel w' A' os hd a v := by
 induction h with
 | pure a v h => exact .pure a v (h.mono hw hA)
 | ob id v hi' h => exact .ob id v hi' h
 | vs id lo hi v hi' h => exact .vs id lo hi v hi' h
 | pb id off v hi' h => exact .pb id off v hi' h
 | pe id i j v hi' h => exact .pe id i j v hi' h
 | it id v hi' h => exact .it id v hi' h
 | agg cs vs hn _ ih => exact .agg cs vs hn ih
 | tup cs vs hn _ ih => exact .tup cs vs hn ih
 | fn f cs vs hn _ ih => exact .fn f cs vs hn ih

end Go.Proofs.YtlemeenicaidfaaGreatDoor

/- The interpreter's standard environment; contracts. -/
namespace Go.Proofs.YtlemeenicaidfaaGreatDoor
set_option linter.unusedVariables false
set_option linter.unusedSimpArgs false
open Go Go.RowKit

def RelL (w : World) (A : Nat → Prop) (us : List AV) (vs : Array Value) : Prop :=
 vs.size = us.length ∧ ∀ (i : Nat) a, us[i]? = some a → Rel w A a (vs.getD i undef)

/-- Whether the contracts of a claim say that the count of draws never goes back. -/
class St where
 S : Prop
/-- The count of draws has not gone back (where the claim's contracts say so). -/
def DrawLe [St] (w w' : World) : Prop := St.S → w.drawn ≤ w'.drawn
theorem DrawLe.of [St] {w w' : World} (h : w.drawn ≤ w'.drawn) : DrawLe w w' := fun _ => h
theorem DrawLe.refl [St] (w : World) : DrawLe w w := .of (Nat.le_refl _)
theorem DrawLe.trans [St] {a b c : World} (h : DrawLe a b) (k : DrawLe b c) : DrawLe a c := fun s => Nat.le_trans (h s) (k s)
theorem dle [St] (h : ¬ St.S) (w w' : World) : DrawLe w w' := fun s => absurd s h
/-- Outside the blocks of F nothing that was there has changed. -/
structure Keeps [St] (F : Nat → Prop) (w w' : World) : Prop where
 os : w'.os = w.os
 tape : w'.tape = w.tape
 output : w'.output = w.output
 size : w.heap.size ≤ w'.heap.size
 block : ∀ x, x < w.heap.size → ¬ F x → w'.heap[x]? = w.heap[x]?
 frz : ∀ a : Addr, a.block < w.heap.size → w'.frozen? a = w.frozen? a
 drawn : DrawLe w w'

def Enters (P : Program) (f : FuncId) : Prop := ∀ args w, (callFunc f args).run P w = .ok (.enter f args) w

/-- The blocks of the package variables hold what they held. -/
def gl (w : World) : Nat → Option Go.Obj := fun g => if g < NG then w.heap[g]? else none
structure GOK (w : World) : Prop where
 sz : NG ≤ w.heap.size
 gf : GF (gl w)
theorem GOK.of {w w' : World} (h : GOK w) (hs : w.heap.size ≤ w'.heap.size) (hb : ∀ x, x < NG → w'.heap[x]? = w.heap[x]?) : GOK w' := by
 refine ⟨Nat.le_trans h.sz hs, ?_⟩
 have e : gl w' = gl w := funext fun x => by
  unfold gl
  split
  ·rename_i hx; exact hb x hx
  ·rfl
 rw [e]; exact h.gf
theorem GOK.keeps [St] {w w' : World} {F : Nat → Prop} (h : GOK w) (hk : Keeps F w w') (hF : ∀ x, F x → NG ≤ x) : GOK w' :=
 h.of hk.size fun x hx => hk.block x (Nat.lt_of_lt_of_le hx h.sz) fun hf => by have := hF x hf; omega

/-- THE CONTRACT of a function that changes nothing: at arguments that read as 'args' the call returns a value that reads as 'R x', all of it flat or new. -/
def AC [St] {α : Type} (P : Program) (f : FuncId) (args : List AV) (R : α → AV) (x : α) : Prop :=
 Enters P f ∧ ∀ (w : World) (vs : Array Value), GOK w → RelL w (fun b => b < w.heap.size) args vs →
  Calls P f vs w fun e w' => ∃ v F, e = .returned v ∧ Keeps (fun _ => False) w w' ∧ XRel w' (fun _ => False) (R x) v F ∧ ∀ b, F b → w.heap.size ≤ b ∧ b < w'.heap.size

/-- THE CONTRACT of a function that changes arguments that it is handed as owned: the result and what is left of the arguments are as 'Q' says ('.any': it has taken them, or they were not owned). -/
def ACM [St] (P : Program) (f : FuncId) (args : List AV) (Q : AV → List AV → Prop) : Prop :=
 Enters P f ∧ ∀ (w : World) (A : Nat → Prop) (vs : Array Value) (F : Nat → Prop), GOK w → XRel w A (.tup args) (.tuple vs) F → (∀ b, A b → b < w.heap.size ∧ ¬ F b) → (∀ b, F b → b < w.heap.size) → (∀ b, F b → NG ≤ b) →
  Calls P f vs w fun e w' => ∃ v G r args', Q r args' ∧ e = .returned v ∧ Keeps F w w' ∧ XRel w' (fun _ => False) (.tup (r :: args')) (.tuple (#[v] ++ vs)) G ∧ ∀ b, G b → F b ∨ w.heap.size ≤ b ∧ b < w'.heap.size

/-- THE CONTRACT of a function that is lent owned boxes or makes one: what it hands back may speak of the memory that it was allowed to read. -/
def ACS [St] (P : Program) (f : FuncId) (args : List AV) (Q : AV → List AV → Prop) : Prop :=
 Enters P f ∧ ∀ (w : World) (A : Nat → Prop) (vs : Array Value) (F : Nat → Prop), GOK w → XRel w A (.tup args) (.tuple vs) F → (∀ b, A b → b < w.heap.size ∧ ¬ F b) → (∀ b, F b → b < w.heap.size) → (∀ b, F b → NG ≤ b) →
  Calls P f vs w fun e w' => ∃ v G A' r args', Q r args' ∧ e = .returned v ∧ Keeps F w w' ∧ XRel w' A' (.tup (r :: args')) (.tuple (#[v] ++ vs)) G ∧ (∀ b, G b → F b ∨ w.heap.size ≤ b ∧ b < w'.heap.size) ∧
   ∀ b, A' b → b < w'.heap.size ∧ ¬ G b ∧ (A b ∨ w.heap.size ≤ b)

/-! ### Weakening a state: slots are forgotten, objects renumbered. -/
def idxOf (ids : List Nat) (i : Nat) : Option Nat := match ids with
 | [] => none
 | j :: l => if i = j then some 0 else (idxOf l i).map (· + 1)
noncomputable def AV.ren1 (ids : List Nat) (x : AV) : AV := match x with
 | .ob id => match idxOf ids id with
  | some j => .ob j
  | none => .any
 | .vs id lo hi => match idxOf ids id with
  | some j => .vs j lo hi
  | none => .any
 | .pb id off => match idxOf ids id with
  | some j => .pb j off
  | none => .any
 | .pe id i j => match idxOf ids id with
  | some m => .pe m i j
  | none => .any
 | .it id => match idxOf ids id with
  | some j => .it j
  | none => .any
 | .agg _ => .any
 | .tup _ => .any
 | .fn f cs => match cs with
  | [] => .fn f []
  | _ => .any
 | x => x
noncomputable def AV.ren (ids : List Nat) (x : AV) : AV := match x with
 | .agg cs => .agg (cs.map (AV.ren1 ids))
 | .fn f cs => .fn f (cs.map (AV.ren1 ids))
 | x => x.ren1 ids
noncomputable def Obj.ren (ids : List Nat) (o : Obj) : Obj := match o with
 | .box cs => .box (cs.map (AV.ren1 ids))
 | o => o
def inL (l : List Nat) (t : Nat) : Bool := match l with
 | [] => false
 | x :: l => if x = t then true else inL l t
noncomputable def wkF (hv ids : List Nat) : Nat → List AV → List AV
 | _, [] => []
 | t, x :: l => (match inL hv t with
  | true => .any
  | false => x.ren ids) :: wkF hv ids (t + 1) l
noncomputable def wk (hv ids : List Nat) (s : AS) : AS := ⟨wkF hv ids 0 s.fr, ids.map fun i => (s.os.getD i .dead).ren ids⟩

/-- The first objects stay where they are. -/
def pinB (np : Nat) (ids : List Nat) : Bool := ids.take np == List.range np
def iterL (np : Nat) (body : AS → (XE → AS → Prop) → Prop) : Nat → AS → (XE → AS → Prop) → Prop
 | 0, _, _ => False
 | n + 1, s, K => ∃ hv ids, (ids.Nodup ∧ pinB np ids = true) ∧ body (wk hv ids s) fun e s' => match e with
  | .normal => iterL np body n s' K
  | e => K e s'

noncomputable def bitsOf (op : BinOp) (k : IntKind) (x y : Int) : Int :=
 k.wrap (match op with
  | .and => (BitVec.ofInt k.bits x &&& BitVec.ofInt k.bits y)
  | .or => (BitVec.ofInt k.bits x ||| BitVec.ofInt k.bits y)
  | _ => (BitVec.ofInt k.bits x ^^^ BitVec.ofInt k.bits y)).toNat

noncomputable def pairEq (p : AV × AV) : Bool := match p.1, p.2 with
 | .int _ a, .int _ b => a == b
 | .bool a, .bool b => a == b
 | .str a, .str b => a.toList == b.toList
 | _, _ => false
def bytesOf (ns : List Int) : ByteArray := ns.foldl (fun r n => r.push (UInt8.ofNat n.toNat)) ByteArray.empty
noncomputable def stdE [St] (np : Nat) (P : Program) : Env where
 add k a b K := K (k.wrap (a + b))
 sub k a b K := K (k.wrap (a - b))
 mul k a b K := K (k.wrap (a * b))
 quo k a b K := K (k.wrap (a.tdiv b))
 rem a b K := K (a.tmod b)
 bits op k a b K := K (bitsOf op k a b)
 shr k a b K := K (a.fdiv (2 ^ (Nat.min b.toNat k.bits)))
 wrap k n K := K (k.wrap n)
 max a b K := K (if b > a then b else a)
 min a b K := K (if b < a then b else a)
 lt a b K := K (decide (a < b))
 le a b K := K (decide (a ≤ b))
 eq a b K := K (a == b)
 seq a b K := K (a.toList == b.toList)
 aeq ps K := K (ps.all pairEq)
 slt a b K := K (Op.bytesLess a.toList b.toList)
 need p K := p ∧ K
 same a b K := a.length = b.length ∧ K
 scat a b K := a.size + b.size ≤ maxLen ∧ K (a ++ b)
 slen s K := s.size ≤ maxLen → K s.size
 sidx s i K := 0 ≤ i ∧ ∃ h : i.toNat < s.size, K ((s[i.toNat]'h).toNat : Int)
 nxt s p K K0 := if p < s.size then K (p : Nat) ((Utf8.decode s p).1 : Nat) (p + (Utf8.decode s p).2) else K0
 ssub s lo hi K := 0 ≤ lo.getD 0 ∧ lo.getD 0 ≤ hi.getD s.size ∧ hi.getD s.size ≤ s.size ∧ K (s.extract (lo.getD 0).toNat (hi.getD s.size).toNat)
 toStr es K := ∃ ns : List Int, es = ns.map (fun n => [AV.int .u8 n]) ∧ K (bytesOf ns)
 len es K := es.length ≤ maxLen → K es.length
 idx es i K := 0 ≤ i ∧ ∃ e, es[i.toNat]? = some e ∧ K e
 sub_ es lo hi K := 0 ≤ lo.getD 0 ∧ lo.getD 0 ≤ hi.getD es.length ∧ hi.getD es.length ≤ es.length ∧ K ((es.take (hi.getD es.length).toNat).drop (lo.getD 0).toNat)
 mv es hi lo hi' K := hi ≤ lo ∧ (∀ e ∈ (es.take hi'.toNat).drop lo.toNat, ∀ c ∈ e, c.flatH = true) ∧ K (es.take hi.toNat ++ ((es.take hi'.toNat).drop lo.toNat ++ es.drop (hi + (hi' - lo)).toNat)) (hi + (hi' - lo))
 clr es lo hi z K := K (es.take lo.toNat ++ (List.replicate (hi - lo).toNat z ++ es.drop hi.toNat))
 upd es i j cs K := 0 ≤ i ∧ ∃ e, es[i.toNat]? = some e ∧ j + cs.length ≤ e.length ∧ K (es.set i.toNat (splice e j cs))
 flat fs K := (∀ e ∈ fs, ∀ c ∈ e, c.flat = true) ∧ K
 noown fs K := (∀ e ∈ fs, ∀ c ∈ e, c.isOwn = false) ∧ K
 cat bytes es fs K := (es.length + fs.length) * bytes ≤ 140737488355328 ∧ es.length + fs.length ≤ 140737488355328 ∧ K (es ++ fs)
 nil K := K .nils ∨ (∃ k, K (.sl true k [])) ∨ ∃ k, K (.sl false k [])
 make bytes zero l c K := 0 ≤ l ∧ l ≤ c ∧ c * bytes ≤ 281474976710656 ∧ c ≤ 281474976710656 ∧ K (List.replicate l.toNat zero)
 call f args K := ∃ r, AC P f args id r ∧ K r
 callM f args K := ∃ Q, ACM P f args Q ∧ ∀ r args', Q r args' → K r args'
 callS f args K := ∃ Q, ACS P f args Q ∧ ∀ r args', Q r args' → K r args'
 loop _ body s K := ∃ n, iterL np body n s K

end Go.Proofs.YtlemeenicaidfaaGreatDoor
