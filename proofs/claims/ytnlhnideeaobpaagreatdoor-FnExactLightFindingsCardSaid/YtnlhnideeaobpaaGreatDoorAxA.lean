/- An abstract interpreter of the model's code over pure data: definitions. -/
import Derived.Test.YtnlhnideeaobpaaGreatDoorAxGlob
namespace Go.Proofs.YtnlhnideeaobpaaGreatDoor
set_option linter.unusedVariables false
set_option linter.unusedSimpArgs false
open Go
inductive AV where
 |int (k:IntKind) (n:Int)
 |bool (b:Bool)
 |str (s:ByteArray)
 |agg (cs:List AV)
 |tup (vs:List AV)
 |sl (own:Bool) (k:Nat) (es:List (List AV))
 |fV
 |mR
 |pp (cs:List AV)
 |fn (f:FuncId) (caps:List AV)
 |fb (f:FuncId) (cs:List AV)
 |ob (id:Nat)
 |vs (id:Nat) (lo hi:Int)
 |pb (id off:Nat)
 |pe (id:Nat) (i:Int) (j:Nat)
 |bx (cs:List AV)
 |it (id:Nat)
 |und
 |any
 |hd (v:Value) (x:AV)
inductive Obj where
 |dead
 |box (cs:List AV)
 |row (k:Nat) (es:List (List AV))
 |iter (s:ByteArray) (pos:Nat)
structure AS where
 fr:List AV
 os:List Obj
inductive XE where
 |normal
 |exit (id:Nat)
 |ret
inductive Z where
 |int (k:IntKind)|bool|str|slice|ptr|other
 deriving DecidableEq
def Z.av:Z->AV
 | .int k=> .int k 0
 | .bool=> .bool false
 | .str=> .str ⟨#[]⟩
 | .slice=> .fV
 | .ptr=> .mR
 | .other=> .any
def zok:List Z->Bool
 |[]=>true
 | .other::_=>false
 |_::l=>zok l
inductive D where
 |int (k:IntKind)|bool|str
 |slice (e:TypeId)
 |struct (fs:List (Nat×TypeId))
 |array (len:Nat) (e:TypeId)
 |ptr (e:TypeId)
 |RI
 |other
 deriving DecidableEq
structure TyI where
 d:D
 agg:Bool
 n:Nat
 zero:List Z
 bytes:Nat
 eq:Bool
 deriving DecidableEq
structure Lay where
 ty:TypeId->TyI
 mu:FuncId->Bool
 sr:FuncId->Bool
 fz:FuncId->Bool
structure Env where
 add:IntKind->Int->Int->(Int->Prop)->Prop
 sub:IntKind->Int->Int->(Int->Prop)->Prop
 mul:IntKind->Int->Int->(Int->Prop)->Prop
 quo:IntKind->Int->Int->(Int->Prop)->Prop
 rem:Int->Int->(Int->Prop)->Prop
 bits:BinOp->IntKind->Int->Int->(Int->Prop)->Prop
 shr:IntKind->Int->Int->(Int->Prop)->Prop
 wrap:IntKind->Int->(Int->Prop)->Prop
 max:Int->Int->(Int->Prop)->Prop
 min:Int->Int->(Int->Prop)->Prop
 lt:Int->Int->(Bool->Prop)->Prop
 le:Int->Int->(Bool->Prop)->Prop
 eq:Int->Int->(Bool->Prop)->Prop
 seq:ByteArray->ByteArray->(Bool->Prop)->Prop
 aeq:List (AV×AV)->(Bool->Prop)->Prop
 slt:ByteArray->ByteArray->(Bool->Prop)->Prop
 need:Prop->Prop->Prop
 same:List (List AV)->List (List AV)->Prop->Prop
 acN:ByteArray->ByteArray->(ByteArray->Prop)->Prop
 afw:ByteArray->(Int->Prop)->Prop
 acG:ByteArray->Int->(Int->Prop)->Prop
 nxt:ByteArray->Nat->(Int->Int->Nat->Prop)->Prop->Prop
 acE:ByteArray->Option Int->Option Int->(ByteArray->Prop)->Prop
 toStr:List (List AV)->(ByteArray->Prop)->Prop
 len:List (List AV)->(Int->Prop)->Prop
 idx:List (List AV)->Int->(List AV->Prop)->Prop
 Ab:List (List AV)->Option Int->Option Int->(List (List AV)->Prop)->Prop
 clr:List (List AV)->Int->Int->List AV->(List (List AV)->Prop)->Prop
 mv:List (List AV)->Int->Int->Int->(List (List AV)->Int->Prop)->Prop
 upd:List (List AV)->Int->Nat->List AV->(List (List AV)->Prop)->Prop
 flat:List (List AV)->Prop->Prop
 IJ:List (List AV)->Prop->Prop
 cat:(bytes:Nat)->List (List AV)->List (List AV)->(List (List AV)->Prop)->Prop
 nil:(AV->Prop)->Prop
 make:(bytes:Nat)->List AV->Int->Int->(List (List AV)->Prop)->Prop
 call:FuncId->List AV->(AV->Prop)->Prop
 Jw:FuncId->List AV->(AV->List AV->Prop)->Prop
 Vz:FuncId->List AV->(AV->List AV->Prop)->Prop
 loop:Code->(AS->(XE->AS->Prop)->Prop)->AS->(XE->AS->Prop)->Prop
def AV.flat:AV->Bool
 | .int .. | .bool _| .str _=>true
 |_=>false
def AV.mX:AV->Bool
 | .int .. | .bool _| .str _| .hd _ .any=>true
 |_=>false
def AV.dF:AV->Bool
 | .sl true _ _=>true
 | .agg _=>true
 | .tup _=>true
 | .bx _=>true
 |_=>false
def AV.VX:List AV->Bool
 |[]=>true
 | a::l=>match a.dF with
  |false=>AV.VX l
  |true=>false
def AV.D7:List AV->Bool
 |[]=>true
 | a::l=>match a.flat with
  |true=>AV.D7 l
  |false=>false
def AV.isPure:AV->Bool
 | .int .. | .bool _| .str _| .fV| .mR| .sl .. | .pp _=>true
 |_=>false
def AV.jv:List AV->Bool
 |[]=>true
 | a::l=>match a.isPure with
  |true=>AV.jv l
  |false=>false
noncomputable def AV.ofValue:Value->AV
 | .int k n=> .int k n
 | .bool b=> .bool b
 | .string s=>if s.size<=9223372036854775807 then .str s else .any
 | .slice none 0 0=> .fV
 | .pointer none=> .mR
 |_=> .any
noncomputable def AS.get (s:AS):Operand->AV
 | .tmp t=>s.fr.getD t .any
 | .const v=>AV.ofValue v
 | .func f=> .fn f []
 | .global _=> .any
noncomputable def AS.put (s:AS) (d:Option Nat) (v:AV):AS:=match d with
 |some d=>⟨s.fr.set d v,s.os⟩
 |none=>s
def AV.cells:AV->List AV
 | .agg cs=>cs
 |v=>[v]
noncomputable def gH (L:Lay) (t:TypeId) (cs:List AV) (K:AV->Prop):Prop:=match (L.ty t).d,(L.ty t).agg with
 | .other,_=>False
 |_,true=>if (L.ty t).n<=cs.length then K (.agg (cs.take (L.ty t).n)) else False
 | _,false=>match cs with
  |c::_=>K c
  |[]=>False
def Dm (a:Bool):Bool:=match a with
 |true=>false
 |false=>true
def aeH (a b:Bool):Bool:=match a with
 |true=>b
 |false=>Dm b
noncomputable def MF (E:Env) (op:BinOp) (k:IntKind) (a b:Int) (K:AV->Prop):Prop:=
 match op with
 | .add=>E.add k a b λn=>K (.int k n)
 | .sub=>E.sub k a b λn=>K (.int k n)
 | .mul=>E.mul k a b λn=>K (.int k n)
 | .quo=>E.need (b≠0) (E.quo k a b λn=>K (.int k n))
 | .rem=>E.need (b≠0) (E.rem a b λn=>K (.int k n))
 | .and=>E.bits .and k a b λn=>K (.int k n)
 | .or=>E.bits .or k a b λn=>K (.int k n)
 | .xor=>E.bits .xor k a b λn=>K (.int k n)
 | .lss=>E.lt a b λc=>K (.bool c)
 | .leq=>E.le a b λc=>K (.bool c)
 | .gtr=>E.lt b a λc=>K (.bool c)
 | .geq=>E.le b a λc=>K (.bool c)
 | .eql=>E.eq a b λc=>K (.bool c)
 | .neq=>E.eq a b λc=>K (.bool (Dm c))
 |_=>False
noncomputable def MC (E:Env) (op:BinOp) (a b:ByteArray) (K:AV->Prop):Prop:=
 match op with
 | .add=>E.acN a b λs=>K (.str s)
 | .eql=>E.seq a b λc=>K (.bool c)
 | .neq=>E.seq a b λc=>K (.bool (Dm c))
 | .lss=>E.slt a b λc=>K (.bool c)
 | .gtr=>E.slt b a λc=>K (.bool c)
 | .leq=>E.slt b a λc=>K (.bool (Dm c))
 | .geq=>E.slt a b λc=>K (.bool (Dm c))
 |_=>False
noncomputable def Vw (L:Lay) (t:TypeId) (cs:List AV):Option AV:=match (L.ty t).d,(L.ty t).agg with
 | .other,_=>none
 |_,true=>if (L.ty t).n<=cs.length then some (.agg (cs.take (L.ty t).n)) else none
 | _,false=>match cs with
  |c::_=>some c
  |[]=>none
noncomputable def Lx (L:Lay) (f:TypeId->AV->AV->Option (List (AV×AV))):List (Nat×TypeId)->List AV->List AV->Option (List (AV×AV))
 |[],_,_=>some []
 | (off,t)::l,cs,ds=>match Vw L t (cs.drop off),Vw L t (ds.drop off) with
  | some x,some y=>match f t x y,Lx L f l cs ds with
   |some a,some b=>some (a++b)
   |_,_=>none
  |_,_=>none
noncomputable def eqL (L:Lay):Nat->TypeId->AV->AV->Option (List (AV×AV))
 |0,_,_,_=>none
 | d+1,t,x,y=>match (L.ty t).d,x,y with
  | .int _,.int k a,.int k' b=>if k=k' then some [(.int k a,.int k' b)] else none
  | .bool,.bool a,.bool b=>some [(.bool a,.bool b)]
  | .str,.str a,.str b=>some [(.str a,.str b)]
  | .struct fs,.agg cs,.agg ds=>match (L.ty t).eq with
   |true=>Lx L (eqL L d) fs cs ds
   |false=>none
  | .array len e,.agg cs,.agg ds=>match (L.ty t).eq,(L.ty e).d with
   |_,.other=>none
   |true,_=>Lx L (eqL L d) ((List.range len).map λi=>(i*(L.ty e).n,e)) cs ds
   |false,_=>none
  |_,_,_=>none
noncomputable def Hz (E:Env) (L:Lay) (op:BinOp) (t:TypeId) (x y:AV) (K:AV->Prop):Prop:=
 match x,y with
 | .int k a,.int k' b=>match op with
  | .shr=>E.need (0<=b) (E.shr k a b λn=>K (.int k n))
  |op=>if k=k' then MF E op k a b K else False
 | .str a,.str b=>MC E op a b K
 | .bool a,.bool b=>match (L.ty t).d,op with
  | .bool,.eql=>K (.bool (aeH a b))
  | .bool,.neq=>K (.bool (Dm (aeH a b)))
  |_,_=>False
 | .agg cs,.agg ds=>match op,eqL L 8 t (.agg cs) (.agg ds) with
  | .eql,some ps=>E.aeq ps λc=>K (.bool c)
  | .neq,some ps=>E.aeq ps λc=>K (.bool (Dm c))
  |_,_=>False
 |_,_=>False
noncomputable def AS.r1 (E:Env) (s:AS) (x:AV) (K:AV->Prop):Prop:=match x with
 | .ob id=>match s.os[id]? with
  |some (.row k es)=>K (.sl true k es)
  |_=>False
 | .vs id lo hi=>match s.os[id]? with
  |some (.row k es)=>E.Ab es (some lo) (some hi) λes'=>K (.sl false k es')
  |_=>False
 | .int k n=>K (.int k n)
 | .bool b=>K (.bool b)
 | .str b=>K (.str b)
 | .sl own k es=>K (.sl own k es)
 | .fV=>K .fV
 | .mR=>K .mR
 | .pp cs=>K (.pp cs)
 | .fb f cs=>K (.fb f cs)
 | .any=>K .any
 | .hd v x=>K (.hd v x)
 |_=>False
noncomputable def AS.rL (E:Env) (s:AS):List AV->(List AV->Prop)->Prop
 |[],K=>K []
 |x::l,K=>s.r1 E x λx'=>s.rL E l λl'=>K (x'::l')
noncomputable def AS.rC (E:Env) (s:AS):List AV->(List AV->Prop)->Prop
 |[],K=>K []
 | .pb id off::l,K=>match s.os[id]? with
  |some (.box cs)=>s.rL E (cs.drop off) λcs'=>s.rC E l λl'=>K (.pp cs'::l')
  |_=>False
 |x::l,K=>s.r1 E x λx'=>s.rC E l λl'=>K (x'::l')
noncomputable def AS.res (E:Env) (s:AS) (x:AV) (K:AV->Prop):Prop:=match x with
 | .agg cs=>s.rL E cs λcs'=>K (.agg cs')
 | .fn f cs=>s.rC E cs λcs'=>K (.fn f cs')
 | .pb id off=>match s.os[id]? with
  |some (.box cs)=>s.rL E (cs.drop off) λcs'=>K (.pp cs')
  |_=>False
 | .pe id i j=>match s.os[id]? with
  |some (.row _ es)=>E.idx es i λe=>K (.pp (e.drop j))
  |_=>False
 |x=>s.r1 E x K
noncomputable def AS.tu (E:Env) (s:AS):List AV->(List AV->Prop)->Prop
 |[],K=>K []
 |x::l,K=>s.res E x λx'=>s.tu E l λl'=>K (x'::l')
noncomputable def AA (s:AS):Option Operand->Option (Option Int)
 |none=>some none
 | some x=>match s.get x with
  | .int _ n=>some (some n)
  |_=>none
def sK (L:Lay) (t:TypeId) (f:Nat):Option (Nat×TypeId):=match (L.ty t).d with
 | .struct fs=>match fs[f]? with
  |some (off,ft)=>if (L.ty ft).n=0 then none else some (off,ft)
  |none=>none
 |_=>none
def uQ (L:Lay) (t:TypeId):Option Nat:=match (L.ty t).d with
 | .slice e=>match (L.ty e).d with
  | .other=>none
  |_=>some (L.ty e).n
 |_=>none
def isStr (L:Lay) (t:TypeId):Bool:=match (L.ty t).d with
 | .str=>true
 |_=>false
def muC (L:Lay) (c:Call):Bool:=match c.callee with
 | .value (.func f)=>L.mu f
 |_=>false
def srC (L:Lay) (c:Call):Bool:=match c.callee with
 | .value (.func f)=>L.sr f
 |_=>false
def fzC (L:Lay) (c:Call):Bool:=match c.callee with
 | .value (.func f)=>L.fz f
 |_=>false
def adQ (L:Lay) (t:TypeId):Bool:=match (L.ty t).d with
 | .int .u8=>true
 |_=>false
noncomputable def AS.callee (s:AS) (c:Call):Option (FuncId×List AV):=match c.callee with
 | .value f=>match s.get f with
  | .fn f caps=>some (f,caps)
  |_=>none
 |_=>none
noncomputable def AS.zH (s:AS) (c:Call):Option (FuncId×List AV):=match c.callee with
 | .value f=>match s.get f with
  | .fb f cs=>some (f,cs)
  |_=>none
 |_=>none
def rowsOf (k:Nat):Nat->List AV->List (List AV)
 |0,_=>[]
 |n+1,cs=>cs.take k::rowsOf k n (cs.drop k)
def aaI (i:Int) (len:Nat) (d:D):Bool:=match i,d with
 |_,.other=>false
 | .ofNat n,_=>Nat.blt n len
 |_,_=>false
noncomputable def eT (E:Env) (L:Lay) (s:AS) (op:Op) (K:AV->Prop):Prop:=match op with
 | .move x=>K (s.get x)
 | .assign x=>K (s.get x)
 | .pick c a b=>match s.get c with
  | .bool c=>if c=true then K (s.get a) else K (s.get b)
  |_=>False
 | .binOp op t x y _=>Hz E L op t (s.get x) (s.get y) K
 | .unOp .not _ x=>match s.get x with
  | .bool b=>K (.bool (Dm b))
  |_=>False
 | .unOp .neg _ x=>match s.get x with
  | .int k n=>E.sub k 0 n λm=>K (.int k m)
  |_=>False
 | .nilCheck x=>match s.get x with
  | .pp cs=>K (.pp cs)
  | .pb id off=>match s.os[id]? with
   |some (.box _)=>K (.pb id off)
   |_=>False
  | .pe id i j=>match s.os[id]? with
   |some (.row ..)=>K (.pe id i j)
   |_=>False
  |_=>False
 | .load t x=>match s.get x with
  | .pp cs=>gH L t cs K
  | .pb id off=>match s.os[id]? with
   |some (.box cs)=>gH L t (cs.drop off) K
   |_=>False
  | .pe id i j=>match s.os[id]? with
   |some (.row _ es)=>E.idx es i λe=>if AV.VX ((e.drop j).take (L.ty t).n)=true then gH L t ((e.drop j).take (L.ty t).n) K else False
   |_=>False
  |_=>False
 | .fieldAddr t x f=>match sK L t f,s.get x with
  |some (off,_),.pp cs=>K (.pp (cs.drop off))
  | some (off,_),.pb id o=>match s.os[id]? with
   |some (.box _)=>K (.pb id (o+off))
   |_=>False
  | some (off,_),.pe id i j=>match s.os[id]? with
   |some (.row ..)=>K (.pe id i (j+off))
   |_=>False
  |_,_=>False
 | .field t x f=>match sK L t f,s.get x with
  |some (off,ft),.agg cs=>gH L ft (cs.drop off) K
  |_,_=>False
 | .indexAddr t x ix=>match s.get x,s.get ix with
  | .sl _ k es,.int _ i=>if uQ L t=some k then E.idx es i λe=>K (.pp e) else False
  | .ob id,.int _ i=>match s.os[id]? with
   |some (.row k es)=>if uQ L t=some k then E.idx es i λ_=>K (.pe id i 0) else False
   |_=>False
  | .vs id lo hi,.int _ i=>match s.os[id]? with
   |some (.row k _)=>if uQ L t=some k then E.need (0<=i/\i<hi - lo) (E.add .i64 lo i λm=>K (.pe id m 0)) else False
   |_=>False
  | .pb id o,.int _ i=>match (L.ty t).d,s.os[id]? with
   | .array len e,some (.box _)=>if aaI i len (L.ty e).d=true then K (.pb id (o+i.toNat*(L.ty e).n)) else False
   |_,_=>False
  |_,_=>False
 | .index t x ix=>match s.get x,s.get ix with
  | .str b,.int _ i=>if isStr L t=true then E.acG b i λn=>K (.int .u8 n) else False
  | .agg cs,.int _ i=>match (L.ty t).d with
   | .array len e=>E.idx (rowsOf (L.ty e).n len cs) i λc=>gH L e c K
   |_=>False
  |_,_=>False
 | .call c=>match c.callee with
  | .builtin .len=>match c.args.toList,c.argTypes.toList with
   | [x],[t]=>match (L.ty t).d,s.get x with
    | .slice _,.sl _ _ es=>E.len es λn=>K (.int .i64 n)
    | .slice _,.fV=>K (.int .i64 0)
    | .slice _,.ob id=>match s.os[id]? with
     |some (.row _ es)=>E.len es λn=>K (.int .i64 n)
     |_=>False
    | .slice _,.vs id lo hi=>match s.os[id]? with
     |some (.row _ _)=>E.sub .i64 hi lo λn=>K (.int .i64 n)
     |_=>False
    | .str,.str b=>E.afw b λn=>K (.int .i64 n)
    |_,_=>False
   |_,_=>False
  | .builtin .max=>match c.args.toList with
   | [x,y]=>match s.get x,s.get y with
    | .int k a,.int _ b=>E.max a b λn=>K (.int k n)
    |_,_=>False
   |_=>False
  | .builtin .min=>match c.args.toList with
   | [x,y]=>match s.get x,s.get y with
    | .int k a,.int _ b=>E.min a b λn=>K (.int k n)
    |_,_=>False
   |_=>False
  |_=>False
 | .slice t x lo hi none=>match AA s lo,AA s hi,s.get x with
  |some lo,some hi,.str b=>if isStr L t=true then E.acE b lo hi λr=>K (.str r) else False
  |some lo,some hi,.sl _ k es=>if uQ L t=some k then E.Ab es lo hi λr=>K (.sl false k r) else False
  | some (some lo),some (some hi),.ob id=>match s.os[id]? with
   |some (.row k es)=>if uQ L t=some k then E.Ab es (some lo) (some hi) λ_=>K (.vs id lo hi) else False
   |_=>False
  | some none,some (some hi),.ob id=>match s.os[id]? with
   |some (.row k es)=>if uQ L t=some k then E.Ab es (some 0) (some hi) λ_=>K (.vs id 0 hi) else False
   |_=>False
  | some (some lo),some none,.ob id=>match s.os[id]? with
   |some (.row k es)=>if uQ L t=some k then E.len es λhi=>E.Ab es (some lo) (some hi) λ_=>K (.vs id lo hi) else False
   |_=>False
  | some (some lo),some (some hi),.vs id z _=>match s.os[id]? with
   |some (.row k es)=>if z=0 then (if uQ L t=some k then E.Ab es (some lo) (some hi) λ_=>K (.vs id lo hi) else False) else False
   |_=>False
  |_,_,_=>False
 | .slice t x lo hi (some m)=>match AA s lo,AA s hi,s.get m,s.get x with
  | some (some lo),some (some hi),.int _ m,.ob id=>match s.os[id]? with
   |some (.row k es)=>if uQ L t=some k then E.Ab es (some lo) (some hi) λ_=>E.Ab es (some hi) (some m) λ_=>K .any else False
   |_=>False
  |_,_,_,_=>False
 | .convert src dst x=>match (L.ty src).d,(L.ty dst).d,s.get x with
  | .int _,.int k,.int _ n=>E.wrap k n λm=>K (.int k m)
  | .slice e,.str,.sl _ _ es=>if adQ L e=true then E.toStr es λb=>K (.str b) else False
  | .slice e,.str,.ob id=>match s.os[id]? with
   |some (.row _ es)=>if adQ L e=true then E.toStr es λb=>K (.str b) else False
   |_=>False
  |_,_,_=>False
 | .extract x i=>match s.get x with
  | .tup vs=>match vs[i]? with
   |some v=>K v
   |none=>False
  |_=>False
 | .makeFunc (.func f) first captured=>match first.toList with
  |[]=>K (.fn f (captured.toList.map s.get))
  | [x]=>match captured.toList,s.get x with
   | [],.agg cs=>match AV.jv cs with
    |true=>K (.fb f cs)
    |false=>False
   |_,_=>False
  |_=>False
 |_=>False
noncomputable def AS.in1 (s:AS) (x:AV) (K:AV->AS->Prop):Prop:=match x with
 | .sl true k es=>K (.ob s.os.length) ⟨s.fr,s.os++[.row k es]⟩
 | .bx cs=>K (.pb s.os.length 0) ⟨s.fr,s.os++[.box cs]⟩
 | .agg _=>False
 | .tup _=>False
 |x=>K x s
noncomputable def AS.inL (s:AS):List AV->(List AV->AS->Prop)->Prop
 |[],K=>K [] s
 |x::l,K=>s.in1 x λx' s'=>s'.inL l λl' s''=>K (x'::l') s''
noncomputable def AS.in2 (s:AS) (x:AV) (K:AV->AS->Prop):Prop:=match x with
 | .agg cs=>s.inL cs λcs' s'=>K (.agg cs') s'
 |x=>s.in1 x K
noncomputable def AS.Sr (s:AS):List AV->(List AV->AS->Prop)->Prop
 |[],K=>K [] s
 |x::l,K=>s.in2 x λx' s'=>s'.Sr l λl' s''=>K (x'::l') s''
noncomputable def AS.take (s:AS) (x:AV) (K:AV->AS->Prop):Prop:=match x with
 | .tup vs=>s.Sr vs λvs' s'=>K (.tup vs') s'
 |x=>s.in2 x K
noncomputable def splice (cs:List AV) (off:Nat) (new:List AV):List AV:=cs.take off++(new++cs.drop (off+new.length))
def uJ:List AV->List Nat
 |[]=>[]
 | x::l=>match x with
  | .ob id=>id::uJ l
  |_=>uJ l
def iV:AV->List Nat
 | .ob id=>[id]
 | .agg cs=>uJ cs
 |_=>[]
def lM:List AV->List Nat
 |[]=>[]
 |x::l=>iV x++lM l
def qo (n:Nat):List Nat->Bool
 |[]=>false
 |m::l=>if m=n then true else qo n l
def nodupB:List Nat->Bool
 |[]=>true
 | n::l=>match qo n l with
  |true=>false
  |false=>nodupB l
noncomputable def AS.U7 (s:AS) (x:AV):Option AV:=match x with
 | .int k n=>some (.int k n)
 | .bool b=>some (.bool b)
 | .str b=>some (.str b)
 | .fV=>some .fV
 | .mR=>some .mR
 | .sl _ k es=>some (.sl false k es)
 | .pp cs=>some (.pp cs)
 | .fb f cs=>some (.fb f cs)
 | .pb id off=>match s.os[id]? with
  | some (.box cs)=>match AV.jv (cs.drop off) with
   |true=>some (.pp (cs.drop off))
   |false=>none
  |_=>none
 |_=>none
noncomputable def AS.Fg (s:AS):List AV->Option (List AV)
 |[]=>some []
 | x::l=>match s.U7 x,s.Fg l with
  |some y,some m=>some (y::m)
  |_,_=>none
noncomputable def AS.Vx (s:AS) (x:AV):Option AV:=match x with
 | .fn f cs=>match s.Fg cs with
  |some cs'=>some (.fn f cs')
  |none=>none
 | x=>match x.isPure with
  |true=>some x
  |false=>none
noncomputable def AS.cellsA (s:AS):List AV->Option (List AV)
 |[]=>some []
 | x::l=>match s.Vx x,s.cellsA l with
  |some y,some m=>some (y::m)
  |_,_=>none
noncomputable def AS.U8 (s:AS) (x:AV):Option AV:=match x with
 | .pb id off=>match s.os[id]? with
  | some (.box cs)=>match s.cellsA (cs.drop off) with
   |some cs'=>some (.pp cs')
   |none=>none
  |_=>none
 |x=>s.U7 x
noncomputable def AS.Fh (s:AS):List AV->Option (List AV)
 |[]=>some []
 | x::l=>match s.U8 x,s.Fh l with
  |some y,some m=>some (y::m)
  |_,_=>none
noncomputable def AS.Fe (s:AS) (x:AV):Option AV:=match x with
 | .ob id=>match s.os[id]? with
  |some (.row k es)=>some (.sl true k es)
  |_=>none
 | .int k n=>some (.int k n)
 | .bool b=>some (.bool b)
 | .str b=>some (.str b)
 |_=>none
noncomputable def AS.Fb (s:AS):List AV->Option (List AV)
 |[]=>some []
 | x::l=>match s.Fe x,s.Fb l with
  |some y,some m=>some (y::m)
  |_,_=>none
noncomputable def AS.lend (s:AS) (x:AV):Option AV:=match x with
 | .ob id=>match s.os[id]? with
  |some (.row k es)=>some (.sl true k es)
  |_=>none
 | .fn f cs=>match s.Fh cs with
  |some cs'=>some (.fn f cs')
  |none=>none
 | .agg cs=>match s.Fb cs with
  |some cs'=>some (.agg cs')
  |none=>none
 |x=>s.U8 x
noncomputable def AS.BZ (s:AS):List AV->Option (List AV)
 |[]=>some []
 | x::l=>match s.lend x,s.BZ l with
  |some y,some m=>some (y::m)
  |_,_=>none
def kill (os:List Obj):List Nat->List Obj
 |[]=>os
 |id::l=>kill (os.set id .dead) l
noncomputable def wb (E:Env) (os:List Obj) (x y:AV) (K:List Obj->Prop):Prop:=match x with
 | .ob id=>match y with
  | .sl true k es'=>match os[id]? with
   |some (.row k0 es)=>if k=k0 then E.same es' es (K (os.set id (.row k es'))) else False
   |_=>False
  |_=>K (os.set id .dead)
 | .agg cs=>K (kill os (uJ cs))
 |_=>K os
noncomputable def wbs (E:Env) (os:List Obj) (xs ys:List AV) (K:List Obj->Prop):Prop:=match xs,ys with
 |[],_=>K os
 |_::_,[]=>False
 |x::l,y::m=>wb E os x y λos'=>wbs E os' l m K
def fH:AV->List Nat
 | .ob id=>[id]
 | .pb id _=>[id]
 |_=>[]
def kN:List AV->List Nat
 |[]=>[]
 |x::l=>fH x++kN l
noncomputable def AS.OI (s:AS) (x:AV):Option AV:=match x with
 | .ob id=>match s.os[id]? with
  |some (.row k es)=>some (.sl true k es)
  |_=>none
 | .pb id off=>match off,s.os[id]? with
  | 0,some (.box cs)=>match AV.jv cs with
   |true=>some (.bx cs)
   |false=>none
  |_,_=>none
 | .int k n=>some (.int k n)
 | .bool b=>some (.bool b)
 | .str b=>some (.str b)
 | .fV=>some .fV
 | .mR=>some .mR
 | .sl _ k es=>some (.sl false k es)
 | .pp cs=>some (.pp cs)
 | .fb f cs=>some (.fb f cs)
 | .agg cs=>match AV.D7 cs with
  |true=>some (.agg cs)
  |false=>none
 |_=>none
noncomputable def AS.uF (s:AS):List AV->Option (List AV)
 |[]=>some []
 | x::l=>match s.OI x,s.uF l with
  |some y,some m=>some (y::m)
  |_,_=>none
def ahy:List AV->List AV->Bool
 |[],[]=>true
 |_::l,_::m=>ahy l m
 |_,_=>false
noncomputable def ag3 (E:Env) (os:List Obj) (x y:AV) (K:List Obj->Prop):Prop:=match x with
 | .ob id=>match y with
  | .sl true k es'=>match os[id]? with
   |some (.row k0 es)=>if k=k0 then E.same es' es (K (os.set id (.row k es'))) else False
   |_=>False
  |_=>K (os.set id .dead)
 | .pb id _=>match y with
  | .bx cs'=>match os[id]? with
   | some (.box cs)=>match ahy cs' cs with
    |true=>K (os.set id (.box cs'))
    |false=>False
   |_=>False
  |_=>K (os.set id .dead)
 |_=>K os
noncomputable def MK (E:Env) (os:List Obj) (xs ys:List AV) (K:List Obj->Prop):Prop:=match xs,ys with
 |[],_=>K os
 |_::_,[]=>False
 |x::l,y::m=>ag3 E os x y λos'=>MK E os' l m K
def zeros (zero:List AV):Nat->List AV
 |0=>[]
 |n+1=>zero++zeros zero n
noncomputable def AS.ac6 (s:AS) (x:AV) (K:AV->AS->Prop):Prop:=match x with
 | .int k n=>K (.int k n) s
 | .bool b=>K (.bool b) s
 | .str b=>K (.str b) s
 | .fV=>K (.sl true 0 []) s
 | .mR=>K .mR s
 | .sl _ k es=>K (.sl false k es) s
 | .hd v x=>K (.hd v x) s
 | .ob id=>match s.os[id]? with
  |some (.row k es)=>K (.sl true k es) ⟨s.fr,s.os.set id .dead⟩
  |_=>False
 |_=>False
noncomputable def AS.NY (s:AS):List AV->(List AV->AS->Prop)->Prop
 |[],K=>K [] s
 |x::l,K=>s.ac6 x λx' s'=>s'.NY l λl' s''=>K (x'::l') s''
noncomputable def AS.EK (s:AS) (x:AV):Bool:=match x with
 | .int .. | .bool _| .str _| .fV| .mR| .fn .. | .sl .. | .pp _=>true
 | .ob id=>match s.os[id]? with
  |some (.row ..)=>true
  |_=>false
 |_=>false
noncomputable def AS.DK (s:AS):List AV->Bool
 |[]=>true
 | x::l=>match s.EK x with
  |true=>s.DK l
  |false=>false
noncomputable def AS.cl (s:AS) (x:AV):Option (List AV):=match x with
 | .agg cs=>match s.DK cs with
  |true=>some cs
  |false=>none
 | x=>match s.EK x with
  |true=>some [x]
  |false=>none
noncomputable def AS.fill (s:AS) (place:Nat->Option (Nat×Nat)):List AV->List (Nat×Operand)->Option (List AV)
 |cells,[]=>some cells
 | cells,(i,x)::rest=>match place i,s.cl (s.get x) with
  |some (off,size),some new=>if new.length=size/\off+new.length<=cells.length then s.fill place (splice cells off new) rest else none
  |_,_=>none
def known (L:Lay):List (Nat×TypeId)->Bool
 |[]=>true
 | f::fs=>match (L.ty f.2).d with
  | .other=>false
  |_=>known L fs
noncomputable def AS.src (E:Env) (s:AS) (k:Nat) (y:AV) (K:List (List AV)->AS->Prop):Prop:=match y with
 | .sl _ k' fs=>if k=k' then E.IJ fs (K fs s) else False
 | .vs id lo hi=>match s.os[id]? with
  |some (.row k' es)=>if k=k' then E.Ab es (some lo) (some hi) λfs=>E.flat fs (K fs s) else False
  |_=>False
 | .ob id=>match s.os[id]? with
  |some (.row k' es)=>if k=k' then K es ⟨s.fr,s.os.set id .dead⟩ else False
  |_=>False
 |_=>False
noncomputable def AS.app (E:Env) (s:AS) (k bytes:Nat) (x y:AV) (K:AV->AS->Prop):Prop:=match x,y with
 | .fV,.fV=>K .fV s
 | .ob id,.fV=>match s.os[id]? with
  |some (.row ..)=>K (.ob id) s
  |_=>False
 | .fV,y=>s.src E k y λfs s'=>E.cat bytes [] fs λes=>K (.ob s'.os.length) ⟨s'.fr,s'.os++[.row k es]⟩
 | .ob id,y=>s.src E k y λfs s'=>match s'.os[id]? with
  |some (.row k' es)=>if k=k' then E.cat bytes es fs λes'=>K (.ob s'.os.length) ⟨s'.fr,s'.os.set id .dead++[.row k es']⟩ else False
  |_=>False
 | .vs id z hi,.vs id' lo' hi'=>match s.os[id]? with
  |some (.row k' es)=>if (k'=k/\id'=id)/\z=0 then E.mv es hi lo' hi' λes' m=>K (.vs id 0 m) ⟨s.fr,s.os.set id (.row k es')⟩ else False
  |_=>False
 |_,_=>False
noncomputable def jF (E:Env) (L:Lay) (s:AS) (o:Oper) (K:AV->AS->Prop):Prop:=match o.op with
 | .alloc t=>match (L.ty t).zero with
  |[]=>False
  |z::zs=>K (.pb s.os.length 0) ⟨s.fr,s.os++[.box (z.av::zs.map Z.av)]⟩
 | .range t x=>match isStr L t,s.get x with
  |true,.str b=>K (.it s.os.length) ⟨s.fr,s.os++[.iter b 0]⟩
  |_,_=>False
 | .next x true=>match s.get x with
  | .it id=>match s.os[id]? with
   |some (.iter b p)=>E.nxt b p (λq r n=>K (.tup [.bool true,.int .i64 q,.int .i32 r]) ⟨s.fr,s.os.set id (.iter b n)⟩) (K (.tup [.bool false]) s)
   |_=>False
  |_=>False
 | .box _ x=>match s.cl (s.get x) with
  |some cs=>K (.pb s.os.length 0) ⟨s.fr,s.os++[.box cs]⟩
  |none=>False
 | .store t a x=>match s.get a with
  | .pb id off=>match s.os[id]? with
   | some (.box cs)=>match s.cl (s.get x),(L.ty t).d with
    |_,.other=>False
    |some new,_=>if off+new.length<=cs.length/\new.length=(L.ty t).n then K .und ⟨s.fr,s.os.set id (.box (splice cs off new))⟩ else False
    |none,_=>False
   |_=>False
  | .pe id i j=>match (L.ty t).d with
   | .other=>False
   | _=>if (s.get x).cells.length=(L.ty t).n then s.NY (s.get x).cells λcs s'=>match s'.os[id]? with
    |some (.row k es)=>E.upd es i j cs λes'=>K .und ⟨s'.fr,s'.os.set id (.row k es')⟩
    |_=>False
    else False
  |_=>False
 | .build t parts=>match (L.ty t).d,(L.ty t).zero with
  |_,[]=>False
  | .struct fs,z=>match known L fs,s.fill (λi=>(fs[i]?).map λf=>(f.1,(L.ty f.2).n)) (z.map Z.av) parts.toList with
   |true,some cs=>K (.agg cs) s
   |_,_=>False
  | .array _ e,z=>match (L.ty e).d,s.fill (λi=>some (i*(L.ty e).n,(L.ty e).n)) (z.map Z.av) parts.toList with
   | .other,_=>False
   |_,some cs=>K (.agg cs) s
   |_,none=>False
  |_,_=>False
 | .buildSlice t len parts=>match (L.ty t).d with
  | .slice e=>match (L.ty e).d,(L.ty e).zero with
   | .other,_=>False
   |_,[]=>False
   | _,z=>if z.length=(L.ty e).n/\len*(L.ty e).n<=16777216 then (match s.fill (λi=>some (i*(L.ty e).n,(L.ty e).n)) (zeros (z.map Z.av) len) parts.toList with
    |some cs=>s.NY cs λcs' s'=>K (.ob s'.os.length) ⟨s'.fr,s'.os++[.row (L.ty e).n (rowsOf (L.ty e).n len cs')]⟩
    |none=>False) else False
  |_=>False
 | .makeSlice t l c=>match (L.ty t).d,s.get l,s.get c with
  | .slice e,.int _ l,.int _ c=>match (L.ty e).d,(L.ty e).zero with
   | .other,_=>False
   |_,[]=>False
   |_,z=>if z.length=(L.ty e).n/\zok z=true then E.make (L.ty e).bytes (z.map Z.av) l c λes=>K (.ob s.os.length) ⟨s.fr,s.os++[.row (L.ty e).n es]⟩ else False
  |_,_,_=>False
 | .call c=>match c.callee with
  | .builtin .append=>match c.args.toList,c.argTypes.toList with
   | [x,y],[t,t']=>if t=t' then (match (L.ty t).d with
    | .slice e=>match (L.ty e).d,(L.ty e).zero with
     | .other,_=>False
     |_,[]=>False
     |_,z=>if z.length=(L.ty e).n/\(L.ty e).n≠0 then s.app E (L.ty e).n (L.ty e).bytes (s.get x) (s.get y) K else False
    |_=>False) else False
   |_,_=>False
  | .builtin .clear=>match c.args.toList,c.argTypes.toList with
   | [x],[t]=>match (L.ty t).d,s.get x with
    | .slice e,.vs id lo hi=>match (L.ty e).zero,s.os[id]? with
     |[],_=>False
     |z,some (.row k es)=>if (z.length=(L.ty e).n/\zok z=true)/\k=(L.ty e).n then E.clr es lo hi (z.map Z.av) λes'=>K .any ⟨s.fr,s.os.set id (.row k es')⟩ else False
     |_,_=>False
    |_,_=>False
   |_,_=>False
  | .value _=>match s.callee c with
   | some (f,caps)=>match muC L c with
    | false=>match fzC L c with
     |false=>s.tu E (c.args.toList.map s.get++caps) λargs=>E.call f args λr=>s.take r K
     |true=>s.tu E (c.args.toList.map s.get++caps) λargs=>E.call f args λr=>K r s
    | true=>match srC L c with
     | false=>match s.BZ (c.args.toList.map s.get++caps),nodupB (lM (c.args.toList.map s.get++caps)) with
      |some args,true=>E.Jw f args λr args'=>wbs E s.os (c.args.toList.map s.get++caps) args' λos'=>(AS.mk s.fr os').take r K
      |_,_=>False
     | true=>match s.uF (c.args.toList.map s.get++caps),nodupB (kN (c.args.toList.map s.get++caps)) with
      |some args,true=>E.Vz f args λr args'=>MK E s.os (c.args.toList.map s.get++caps) args' λos'=>(AS.mk s.fr os').take r K
      |_,_=>False
   | none=>match s.zH c with
    |some (f,cs)=>s.tu E (c.args.toList.map s.get) λargs=>E.call f (.agg cs::args) λr=>s.take r K
    |none=>False
  |_=>eT E L s o.op λv=>K v s
 |_=>eT E L s o.op λv=>K v s
noncomputable def BF (L:Lay) (s:AS) (op:Op):Option AV:=match op with
 | .build t parts=>match (L.ty t).d,(L.ty t).zero with
  |_,[]=>none
  | .struct fs,z=>match known L fs,s.fill (λi=>(fs[i]?).map λf=>(f.1,(L.ty f.2).n)) (z.map Z.av) parts.toList with
   |true,some cs=>some (.agg cs)
   |_,_=>none
  | .array _ e,z=>match (L.ty e).d,s.fill (λi=>some (i*(L.ty e).n,(L.ty e).n)) (z.map Z.av) parts.toList with
   | .other,_=>none
   |_,some cs=>some (.agg cs)
   |_,none=>none
  |_,_=>none
 | .buildSlice t len parts=>match (L.ty t).d with
  | .slice e=>match (L.ty e).d,(L.ty e).zero with
   | .other,_=>none
   |_,[]=>none
   | _,z=>if z.length=(L.ty e).n/\len*(L.ty e).n<=16777216 then (match s.fill (λi=>some (i*(L.ty e).n,(L.ty e).n)) (zeros (z.map Z.av) len) parts.toList with
    | some cs=>match AV.jv cs with
     |true=>some (.sl false (L.ty e).n (rowsOf (L.ty e).n len cs))
     |false=>none
    |none=>none) else none
  |_=>none
 |_=>none
def DV (op:Op):Bool:=match op with
 | .build .. =>true
 | .buildSlice .. =>true
 |_=>false
noncomputable def jc (E:Env) (L:Lay) (s:AS) (o:Oper) (K:AV->Prop):Prop:=match o.op with
 | .call c=>match c.callee with
  | .value _=>match s.callee c with
   | some (f,caps)=>match muC L c with
    |false=>s.tu E (c.args.toList.map s.get++caps) λargs=>E.call f args K
    |true=>False
   | none=>match s.zH c with
    |some (f,cs)=>s.tu E (c.args.toList.map s.get) λargs=>E.call f (.agg cs::args) K
    |none=>False
  |_=>eT E L s o.op K
 | .alloc t=>match (L.ty t).zero with
  |[]=>False
  |_::_=>K .any
 | _=>match DV o.op with
  | true=>match BF L s o.op with
   |some v=>K v
   |none=>False
  |false=>eT E L s o.op K
noncomputable def AS.yield (s:AS) (ops:List Oper) (j:Nat):Option (Option Bool):=match ops[j]? with
 | some o=>match o.dst with
  | some d=>match s.fr.getD d .any with
   | .bool b=>some (some b)
   | .und=>some none
   |_=>none
  |none=>none
 |none=>none
noncomputable def jr (E:Env) (L:Lay) (draw:Bool) (ops:List Oper):List Oper->AS->(AS->Prop)->Prop
 |[],s,K=>K s
 | o ::rest,s,K=>match o.guard with
  | none=>match draw with
   |false=>jF E L s o λv s'=>jr E L draw ops rest (s'.put o.dst v) K
   |true=>jc E L s o λv=>jr E L draw ops rest (s.put o.dst v) K
  | some (j,want)=>match s.yield ops j with
   |none=>False
   |some none=>jr E L draw ops rest (s.put o.dst .und) K
   | some (some b)=>if b=want then
     (match draw with
     |false=>jF E L s o λv s'=>jr E L draw ops rest (s'.put o.dst v) K
     |true=>jc E L s o λv=>jr E L draw ops rest (s.put o.dst v) K)
    else jr E L draw ops rest (s.put o.dst .und) K
noncomputable def AS.moves (s:AS):List Oper->AS
 |[]=>s
 | o::l=>match o.op with
  | .move x=>(s.put o.dst (s.get x)).moves l
  |_=>s.moves l
noncomputable def abR (E:Env) (s:AS) (id:Nat) (i:Int) (j d:Nat) (mv:List Oper) (oc:Oper) (c:Call) (K:AS->Prop):Prop:=
 if d<s.fr.length then (match s.os[id]? with
 | some (.row k es)=>E.idx es i λe=>match e.drop j with
  | .sl true k' es'::_=>match c.callee with
   | .value (.func f)=>match ((AS.mk (s.fr.set d .any) s.os).moves mv).Fh (c.args.toList.tail.map ((AS.mk (s.fr.set d .any) s.os).moves mv).get) with
    | some rest=>E.Jw f (.sl true k' es'::rest) λr args'=>match args' with
     | .sl true k'' es''::_=>if k''=k' then E.upd es i j [.sl true k' es''] λes2=>(AS.mk ((AS.mk (s.fr.set d .any) s.os).moves mv).fr (((AS.mk (s.fr.set d .any) s.os).moves mv).os.set id (.row k es2))).take r λv s2=>K (s2.put oc.dst v) else False
     |_=>False
    |none=>False
   |_=>False
  |_=>False
 |_=>False) else False
def tmpsOf:List Operand->List Nat
 |[]=>[]
 | .tmp t::l=>t::tmpsOf l
 |_::l=>tmpsOf l
def DJ (x:Option Operand):List Nat:=match x with
 |some (.tmp t)=>[t]
 |_=>[]
def jC (o:Op):Option (List Nat):=match o with
 | .move x=>some (tmpsOf [x])
 | .assign x=>some (tmpsOf [x])
 | .load _ x=>some (tmpsOf [x])
 | .nilCheck x=>some (tmpsOf [x])
 | .unOp _ _ x=>some (tmpsOf [x])
 | .convert _ _ x=>some (tmpsOf [x])
 | .fieldAddr _ x _=>some (tmpsOf [x])
 | .field _ x _=>some (tmpsOf [x])
 | .extract x _=>some (tmpsOf [x])
 | .pick c x y=>some (tmpsOf [c,x,y])
 | .binOp _ _ x y _=>some (tmpsOf [x,y])
 | .indexAddr _ x y=>some (tmpsOf [x,y])
 | .index _ x y=>some (tmpsOf [x,y])
 | .slice _ x lo hi none=>some (tmpsOf [x]++(DJ lo++DJ hi))
 | .makeFunc _ x y=>some (tmpsOf x.toList++tmpsOf y.toList)
 | .build _ ps=>some (tmpsOf (ps.toList.map (·.2)))
 | .buildSlice _ _ ps=>some (tmpsOf (ps.toList.map (·.2)))
 | .call c=>match c.callee with
  | .value f=>some (tmpsOf [f]++tmpsOf c.args.toList)
  | .builtin _=>some (tmpsOf c.args.toList)
  |_=>none
 | .alloc _=>some []
 |_=>none
def dI (ops:List Oper) (g:Option (Nat×Bool)):List Nat:=match g with
 |none=>[]
 | some (j,_)=>match ops[j]? with
  | some o=>match o.dst with
   |some d=>[d]
   |none=>[]
  |none=>[]
def bnd (e:Edge):Bool:=match e.ground with
 | .textOnly _=>false
 | .gcOnly _=>false
 |_=>true
def l8 (j:Nat):List Edge->Bool
 |[]=>false
 | e::l=>match bnd e with
  |true=>if e.on=j then true else l8 j l
  |false=>l8 j l
def nU (i:Nat):List Edge->Bool
 |[]=>true
 | e::l=>match bnd e with
  |true=>if e.on<i then nU i l else false
  |false=>nU i l
def nJ (i t:Nat) (af:List Edge):Nat->List Oper->Bool
 |_,[]=>true
 | j,o::l=>match o.dst with
  | some d=>if d=t then (if j<i then (match l8 j af with
    |true=>nJ i t af (j+1) l
    |false=>false) else false) else nJ i t af (j+1) l
  |none=>nJ i t af (j+1) l
def rR (i:Nat) (af:List Edge) (ops:List Oper):List Nat->Bool
 |[]=>true
 | t::l=>match nJ i t af 0 ops with
  |true=>rR i af ops l
  |false=>false
def j5 (d:Nat):List Oper->Bool
 |[]=>true
 | o::l=>match o.dst with
  |some e=>if e=d then false else j5 d l
  |none=>j5 d l
def jS (ops:List Oper):Nat->List Oper->Bool
 |_,[]=>true
 | i,o::l=>match jC o.op with
  |none=>false
  | some ts=>match rR i o.after.toList ops (ts++dI ops o.guard),nU i o.after.toList,(match o.dst with
    |some d=>j5 d l
    |none=>true) with
   |true,true,true=>jS ops (i+1) l
   |_,_,_=>false
def qU (m j:Nat):Bool:=(m >>> j) % 2 == 1
def Bd (o:Oper):Nat:=match o.dst with
 |some d=>d+1
 |none=>0
def mkD:List Oper->Nat
 |[]=>0
 |o::l=>Bd o+1048576*mkD l
def mkW:List Oper->Nat
 |[]=>0
 | o::l=>(match o.dst with
  |some d=>1 <<< d
  |none=>0) ||| mkW l
def atD (D j:Nat):Nat:=(D >>> (20*j)) % 1048576
def F7 (D t i:Nat):List Edge->Bool
 |[]=>false
 | e::l=>match bnd e with
  |true=>if e.on<i then (if atD D e.on=t+1 then true else F7 D t i l) else F7 D t i l
  |false=>F7 D t i l
def Eu (D W i:Nat) (af:List Edge):List Nat->Bool
 |[]=>true
 | t::l=>match qU W t with
  |false=>Eu D W i af l
  | true=>match F7 D t i af with
   |true=>Eu D W i af l
   |false=>false
def SF (D:Nat) (g:Option (Nat×Bool)):List Nat:=match g with
 |none=>[]
 | some (j,_)=>match atD D j with
  |0=>[]
  |d+1=>[d]
def dOK (D W:Nat):Nat->Nat->List Oper->Bool
 |_,_,[]=>true
 | i, M,o::l=>match jC o.op with
  |none=>false
  | some ts=>match Eu D W i o.after.toList (ts++SF D o.guard),nU i o.after.toList with
   | true,true=>match o.dst with
    |none=>dOK D W (i+1) M l
    | some d=>if d<1048575 then (match qU M d with
     |true=>false
     |false=>dOK D W (i+1) (M ||| (1 <<< d)) l) else false
   |_,_=>false
def DY (ops:List Oper):Bool:=dOK (mkD ops) (mkW ops) 0 0 ops
def ni (ms:List Nat):List Edge->Nat
 |[]=>0
 | e::l=>match bnd e with
  |true=>ms.getD e.on 0 ||| ni ms l
  |false=>ni ms l
def masks:List Nat->List Oper->List Nat
 |ms,[]=>ms
 |ms,o::l=>masks (ms++[ni ms o.after.toList ||| (1 <<< ms.length)]) l
def LG:Nat->List Nat->List Oper->Nat->Nat
 | i,m::ms,o::l,n=>match m == (1 <<< (i+1)) - 1,nU i o.after.toList with
  |true,true=>LG (i+1) ms l n
  |_,_=>LG (i+1) ms l (i+1)
 |i,[],_::_,_=>i
 |_,_,[],n=>n
def Yj (ops:List Oper):Nat:=LG 0 (masks [] ops) ops 0
def appArg:List Oper->Option Nat
 |[]=>none
 | o::l=>match o.op with
  | .call c=>match c.callee,c.args.toList with
   | .builtin .append,.tmp t::_=>some t
   |_,_=>appArg l
  |_=>appArg l
def madeBy (t:Nat):Nat->List Oper->Option Nat
 |_,[]=>none
 | i,o::l=>match o.dst with
  | some d=>if d=t then (match o.guard,o.op with
   | none,.call c=>match c.callee with
    | .value (.func _)=>some i
    |_=>none
   |_,_=>none) else madeBy t (i+1) l
  |none=>madeBy t (i+1) l
def unread (t:Nat) (ops:List Oper):List Oper->Bool
 |[]=>true
 | o::l=>match jC o.op with
  |none=>false
  | some ts=>match qo t (ts++dI ops o.guard) with
   |true=>false
   |false=>unread t ops l
def DI (pre suf:List Oper):Option (Nat×Nat):=match appArg suf with
 |none=>none
 | some t=>match madeBy t 0 pre with
  |none=>none
  | some i=>match unread t pre pre with
   |true=>some (i,t)
   |false=>none
def iJ (o:Oper):Bool:=match o.guard with
 | none=>match o.op with
  | .move _=>true
  | .assign _=>true
  | .extract _ _=>true
  | .nilCheck _=>true
  | .load _ _=>true
  | .fieldAddr _ _ _=>true
  | .indexAddr _ _ _=>true
  | .binOp _ _ _ _ _=>true
  |_=>false
 |some _=>false
def Vv (L:Lay) (o:Oper):Bool:=match o.op with
 | .store _ _ _=>true
 | .alloc _=>true
 | .box _ _=>true
 | .makeSlice _ _ _=>true
 | .call c=>match c.callee with
  | .builtin .len=>false
  | .builtin .max=>false
  | .builtin .min=>false
  | .builtin _=>true
  | .value (.func f)=>L.sr f
  |_=>false
 |_=>false
def abQ (L:Lay):List Oper->Bool
 |[]=>false
 | o::l=>match Vv L o with
  |true=>true
  |false=>abQ L l
def uP (L:Lay):Nat->List Oper->Nat
 |n,[]=>n
 | n,o::l=>match Vv L o with
  |true=>n
  |false=>uP L (n+1) l
def tV (o:Op):Option (List Nat):=match o with
 | .store _ x y=>some (tmpsOf [x,y])
 |o=>jC o
def pU (m:Nat) (rd:List Nat) (od:Option Nat):Nat->List Oper->Bool
 |_,[]=>true
 | j, o::l=>match qU m j with
  |true=>pU m rd od (j+1) l
  | false=>match iJ o,o.dst,jC o.op with
   | true,some d,some ts=>match qo d rd,(match od with
     |none=>false
     |some e=>qo e (d::ts)) with
    |false,false=>pU m rd od (j+1) l
    |_,_=>false
   |_,_,_=>false
def uV (m:Nat):Nat->Nat->Bool
 |_,0=>true
 | n,k+1=>match qU m n with
  |true=>uV m (n+1) k
  |false=>false
def MX (ops:List Oper) (n:Nat):Nat->List Nat->List Oper->Bool
 |_,_,[]=>true
 |_,[],_::_=>false
 | i,m::ms,o::l=>match tV o.op with
  |none=>false
  | some ts=>match nU i o.after.toList,pU m (ts++dI ops o.guard) o.dst 0 (ops.take n),uV m n (i - n) with
   |true,true,true=>MX ops n (i+1) ms l
   |_,_,_=>false
def xE (ops:List Oper) (n:Nat):Bool:=match jS (ops.take n) 0 (ops.take n) with
 |true=>MX ops n n ((masks [] ops).drop n) (ops.drop n)
 |false=>false
def zP (j:Nat):List Nat->Bool
 |[]=>false
 | m::ms=>match qU m j with
  |true=>zP j ms
  |false=>true
def xL (o:Op):Bool:=match o with
 | .move _=>true
 | .assign _=>true
 | .extract _ _=>true
 |_=>false
def aaC (o:Op):Bool:=match o with
 | .load _ _=>true
 | .nilCheck _=>true
 | .fieldAddr _ _ _=>true
 |_=>false
def IB:List AV->List Nat
 |[]=>[]
 | .pb id _::l=>id::IB l
 |_::l=>IB l
def JC:List AV->Bool
 |[]=>true
 | .pb _ _::l=>JC l
 | x::l=>match x.isPure with
  |true=>JC l
  |false=>false
noncomputable def jk (s:AS) (ms:List Nat):Nat->List Oper->List Nat
 |_,[]=>[]
 | j,o::l=>match zP j ms,aaC o.op with
  |true,true=>IB (o.op.operands.toList.map s.get)++jk s ms (j+1) l
  |_,_=>jk s ms (j+1) l
def abA (E:Env) (os0 os:List Obj):List Nat->Prop->Prop
 |[],K=>K
 |id::l,K=>E.need (os[id]? =os0[id]?) (abA E os0 os l K)
noncomputable def lQ (E:Env) (L:Lay) (os0:List Obj) (ids:List Nat) (fl:Nat->Bool) (ops:List Oper):Nat->List Oper->AS->(AS->Prop)->Prop
 |_,[],s,K=>K s
 | i, o::rest,s,K=>match o.guard with
  | none=>jF E L s o λv s'=>match fl i with
   |true=>abA E os0 s'.os ids (lQ E L os0 ids fl ops (i+1) rest (s'.put o.dst v) K)
   |false=>lQ E L os0 ids fl ops (i+1) rest (s'.put o.dst v) K
  | some (j,want)=>match s.yield ops j with
   |none=>False
   |some none=>lQ E L os0 ids fl ops (i+1) rest (s.put o.dst .und) K
   | some (some b)=>if b=want then jF E L s o λv s'=>match fl i with
     |true=>abA E os0 s'.os ids (lQ E L os0 ids fl ops (i+1) rest (s'.put o.dst v) K)
     |false=>lQ E L os0 ids fl ops (i+1) rest (s'.put o.dst v) K
    else lQ E L os0 ids fl ops (i+1) rest (s.put o.dst .und) K
def IU (ops:List Oper) (n i:Nat):Bool:=match (masks [] ops)[i]? with
 | some m=>match uV m 0 n with
  |true=>false
  |false=>true
 |none=>true
noncomputable def jP (s:AS) (ms:List Nat):Nat->List Oper->Bool
 |_,[]=>true
 | j, o::l=>match zP j ms with
  | true=>match xL o.op with
   |true=>jP s ms (j+1) l
   | false=>match AV.jv (o.op.operands.toList.map s.get) with
    |true=>jP s ms (j+1) l
    | false=>match aaC o.op,JC (o.op.operands.toList.map s.get) with
     |true,true=>jP s ms (j+1) l
     |_,_=>false
  |false=>jP s ms (j+1) l
inductive Grp where
 |one (o:Oper)
 |nest (o:Oper) (mv:List Oper) (oc:Oper)
def af0 (L:Lay) (t:TypeId):Bool:=match (L.ty t).d,(L.ty t).agg with
 | .slice _,false=>true
 |_,_=>false
def grab (L:Lay) (d:Nat):List Oper->List Oper->Option (List Oper×Oper×List Oper)
 | acc,o::l=>match o.op with
  | .move _=>grab L d (acc++[o]) l
  | .call c=>match muC L c,c.args.toList with
   |true,.tmp t::_=>if t=d then some (acc,o,l) else none
   |_,_=>none
  |_=>none
 |_,[]=>none
def groups (L:Lay):Nat->List Oper->List Grp
 |0,l=>l.map Grp.one
 |_,[]=>[]
 | n +1,o::l=>match o.op,o.dst with
  | .load t _,some d=>match af0 L t with
   | true=>match grab L d [] l with
    |some (mv,oc,l')=> .nest o mv oc::groups L n l'
    |none=> .one o::groups L n l
   |false=> .one o::groups L n l
  |_,_=> .one o::groups L n l
def Vm:List Grp->Bool
 |[]=>false
 | .one _::l=>Vm l
 | .nest .. ::_=>true
def KM (d:Nat):List Oper->Bool
 |[]=>true
 | o::l=>match o.guard,o.op,o.dst with
  |none,.move _,some e=>if e=d then false else KM d l
  |_,_,_=>false
noncomputable def JG (E:Env) (L:Lay) (ops:List Oper):List Grp->AS->(AS->Prop)->Prop
 |[],s,K=>K s
 | .one o::l,s,K=>jr E L false ops [o] s λs'=>JG E L ops l s' K
 | .nest o mv oc::l,s,K=>match o.guard,o.op,o.dst with
  | none,.load t x,some d=>match oc.guard,oc.op with
   | none,.call c=>match af0 L t,KM d mv with
    | true,true=>match c.callee,c.args.toList with
     | .value (.func _),.tmp d'::_=>if d'=d then (match s.get x with
      | .pe id i j=>abR E s id i j d mv oc c λs'=>JG E L ops l s' K
      |_=>jr E L false ops (o::(mv++[oc])) s λs'=>JG E L ops l s' K) else False
     |_,_=>False
    |_,_=>False
   |_,_=>False
  |_,_,_=>False
def ahh (L:Lay) (o:Oper):Bool:=match Vv L o with
 |true=>false
 | false=>match o.op with
  | .move _| .assign _| .load _ _| .nilCheck _| .unOp _ _ _| .convert _ _ _| .fieldAddr _ _ _| .field _ _ _| .extract _ _| .pick _ _ _| .binOp _ _ _ _ _| .indexAddr _ _ _| .index _ _ _| .makeFunc _ _ _| .build _ _| .buildSlice _ _ _=>true
  | .slice _ _ _ _ none=>true
  | .call c=>match c.callee with
   | .value _=>true
   | .builtin .len=>true
   | .builtin .max=>true
   | .builtin .min=>true
   |_=>false
  |_=>false
def aeW (L:Lay):List Oper->Bool
 |[]=>true
 | o::l=>match ahh L o with
  |true=>aeW L l
  |false=>false
def Rw (d:Nat):List Oper->Bool
 |[]=>false
 | o::l=>match o.op,o.dst with
  | .slice _ _ _ _ _,some e=>if e=d then true else Rw d l
  |_,_=>Rw d l
def afg (ops:List Oper):List Nat->Bool
 |[]=>false
 | d::l=>match Rw d ops with
  |true=>true
  |false=>afg ops l
def TP (d:Nat):List Oper->Bool
 |[]=>false
 | o::l=>match o.op,o.dst with
  | .build _ _,some e=>if e=d then true else TP d l
  |_,_=>TP d l
def afh (ops:List Oper):List Nat->Bool
 |[]=>false
 | d::l=>match TP d ops with
  |true=>true
  |false=>afh ops l
def U9:List Oper->Option Nat
 |[]=>none
 | o ::l=>match l with
  | []=>match o.op with
   | .assign x=>match x with
    | .tmp t=>some t
    |_=>none
   |_=>none
  |_::_=>U9 l
def aew (ops:List Oper):List Oper->Bool
 |[]=>false
 | o ::l=>match o.op with
  | .buildSlice _ _ ps=>match afg ops (tmpsOf (ps.toList.map (·.2))) with
   |true=>true
   | false=>match U9 ops,o.dst with
    | some t,some d=>match Nat.beq t d,afh ops (tmpsOf (ps.toList.map (·.2))) with
     |true,true=>true
     |_,_=>aew ops l
    |_,_=>aew ops l
  |_=>aew ops l
def iL (L:Lay) (ops:List Oper):Nat:=match aew ops ops with
 |true=>Yj ops
 | false=>match aeW L ops,DY ops with
  |true,true=>ops.length
  |_,_=>Yj ops
noncomputable def L9 (E:Env) (L:Lay) (ops:List Oper) (n:Nat) (s:AS) (K:AS->Prop):Prop:=match xE ops n with
 | true=>jr E L true (ops.take n) (ops.take n) s λs'=>match jP s' ((masks [] ops).drop n) 0 (ops.take n) with
  |true=>lQ E L s'.os (jk s' ((masks [] ops).drop n) 0 (ops.take n)) (IU ops n) ops n (ops.drop n) s' K
  |false=>False
 |false=>False
def aiX (o:Oper):Bool:=match o.op with
 | .alloc _=>match o.guard,o.dst with
  |none,some _=>true
  |_,_=>false
 |_=>false
def oF (L:Lay):Nat->List Oper->Nat
 |n,[]=>n
 | n,o::l=>match Vv L o,aiX o with
  |true,false=>n
  |_,_=>oF L (n+1) l
def o8:List Oper->List (Nat×TypeId)
 |[]=>[]
 | o::l=>match o.op,o.dst with
  | .alloc t,some d=>(d,t)::o8 l
  |_,_=>o8 l
def GI (ops:List Oper):List Oper->Bool
 |[]=>true
 | o ::l=>match o.op with
  | .alloc _=>match o.guard,o.dst with
   | none,some d=>match unread d ops ops with
    |true=>GI ops l
    |false=>false
   |_,_=>false
  |_=>GI ops l
noncomputable def x9 (L:Lay):List (Nat×TypeId)->AS->AS
 |[],s=>s
 |(d,t)::l,s=>x9 L l ⟨s.fr.set d (.pb s.os.length 0),s.os++[.box ((L.ty t).zero.map Z.av)]⟩
def OB (n:Nat):List (Nat×TypeId)->Bool
 |[]=>true
 |q::l=>if q.1<n then OB n l else false
def OA (n:Nat):List Nat->Bool
 |[]=>true
 |i::l=>if i<n then OA n l else false
noncomputable def VI (E:Env) (L:Lay) (ops:List Oper) (n:Nat) (s:AS) (K:AS->Prop):Prop:=match xE ops n,GI (ops.take n) (ops.take n) with
 | true,true=>jr E L true (ops.take n) (ops.take n) s λs'=>match jP s' ((masks [] ops).drop n) 0 (ops.take n),OB s'.fr.length (o8 (ops.take n)),OA s'.os.length (jk s' ((masks [] ops).drop n) 0 (ops.take n)) with
  |true,true,true=>lQ E L s'.os (jk s' ((masks [] ops).drop n) 0 (ops.take n)) (IU ops n) ops n (ops.drop n) (x9 L (o8 (ops.take n)) s') K
  |_,_,_=>False
 |_,_=>False
noncomputable def aiA (E:Env) (L:Lay) (ops pre suf:List Oper) (s:AS) (K:AS->Prop):Prop:=match abQ L pre with
 | false=>match DY pre with
  | true=>match DI pre suf with
   |none=>jr E L true pre pre s λs'=>jr E L false ops suf s' K
   | some (_,d)=>jr E L true pre pre s λs'=>match s'.fr.getD d .any with
    | .sl true k es=>jr E L false ops suf ⟨s'.fr.set d (.ob s'.os.length),s'.os++[.row k es]⟩ K
    |_=>False
  |false=>False
 | true=>match o8 (ops.take (oF L 0 ops)) with
  |[]=>L9 E L ops (uP L 0 ops) s K
  |_::_=>VI E L ops (oF L 0 ops) s K
def YO (d:Nat):List Oper->Bool
 |[]=>false
 | o::l=>match o.op with
  | .buildSlice _ _ ps=>match qo d (tmpsOf (ps.toList.map (·.2))) with
   |true=>true
   |false=>YO d l
  |_=>YO d l
def AJ:Nat->List Oper->Option Nat
 |_,[]=>none
 | n,o::l=>match o.op,o.dst with
  | .buildSlice _ _ _,some d=>match YO d l with
   |true=>some n
   |false=>AJ (n+1) l
  |_,_=>AJ (n+1) l
def KJ (ops:List Oper):Option Nat:=match AJ 0 ops with
 |none=>none
 | some n=>match xE ops n with
  |true=>some n
  |false=>none
def ZX (d:Nat):List Oper->Bool
 |[]=>false
 | o::l=>match o.op,o.dst with
  | .buildSlice _ _ _,some e=>if e=d then true else ZX d l
  |_,_=>ZX d l
def VP (ops:List Oper):List Nat->Bool
 |[]=>false
 | d::l=>match ZX d ops with
  |true=>true
  |false=>VP ops l
def adT (L:Lay) (ops:List Oper):List Oper->Bool
 |[]=>false
 | o ::l=>match o.op with
  | .call c=>match muC L c,srC L c with
   | true,false=>match VP ops (tmpsOf c.args.toList) with
    |true=>true
    |false=>adT L ops l
   |_,_=>adT L ops l
  |_=>adT L ops l
def zJ (d:Nat):List Oper->Bool
 |[]=>false
 | o::l=>match o.op,o.dst with
  | .call c,some e=>match c.callee with
   | .value (.func _)=>if e=d then true else zJ d l
   |_=>zJ d l
  |_,_=>zJ d l
def Dy (ops:List Oper):List Oper->Nat
 |[]=>0
 | o::l=>match o.op with
  | .store _ _ (.tmp d)=>match zJ d ops with
   |true=>Dy ops l+1
   |false=>Dy ops l
  |_=>Dy ops l
def ahC (L:Lay) (ops:List Oper):Bool:=match adT L ops ops with
 |true=>true
 |false=>Nat.ble 2 (Dy ops ops)
def vZ (done:List Nat):List Edge->Bool
 |[]=>true
 | e::l=>match bnd e with
  | true=>match qo e.on done with
   |true=>vZ done l
   |false=>false
  |false=>vZ done l
def rQ (done:List Nat):Nat->List Oper->List Nat
 |_,[]=>[]
 | i,o::l=>match qo i done with
  |true=>rQ done (i+1) l
  | false=>match vZ done o.after.toList with
   |true=>i::rQ done (i+1) l
   |false=>rQ done (i+1) l
def abd (E:Env) (p:Nat->Prop):List Nat->Prop
 |[]=>True
 |[i]=>p i
 |i::j::l=>E.need (p i) (abd E p (j::l))
noncomputable def abN (E:Env) (L:Lay) (ops:List Oper) (i:Nat) (s:AS) (K:AS->Prop):Prop:=match ops[i]? with
 |none=>False
 | some o=>match o.guard with
  |none=>jF E L s o λv s'=>K (s'.put o.dst v)
  | some (j,want)=>match s.yield ops j with
   |none=>False
   |some none=>K (s.put o.dst .und)
   |some (some b)=>if b=want then jF E L s o λv s'=>K (s'.put o.dst v) else K (s.put o.dst .und)
noncomputable def HV (E:Env) (L:Lay) (ops:List Oper):Nat->List Nat->AS->(AS->Prop)->Prop
 |0,_,_,_=>False
 | f+1,done,s,K=>match rQ done 0 ops with
  |[]=>K s
  |i::is=>abd E (λi=>abN E L ops i s λs'=>HV E L ops f (i::done) s' K) (i::is)
noncomputable def axD (E:Env) (L:Lay) (ops pre suf:List Oper) (s:AS) (K:AS->Prop):Prop:=match ahC L ops with
 |true=>HV E L ops (ops.length+1) [] s K
 | false=>match KJ ops with
  |some n=>L9 E L ops n s K
  |none=>aiA E L ops pre suf s K
noncomputable def axN (E:Env) (L:Lay) (ops:List Oper) (n:Nat) (s:AS) (K:AS->Prop):Prop:=axD E L ops (ops.take n) (ops.drop n) s K
noncomputable def ax (E:Env) (L:Lay):Code->AS->(XE->AS->Prop)->Prop
 | .skip,s,K=>K .normal s
 | .region _ ops draw,s,K=>match draw with
  | false=>match Vm (groups L ops.toList.length ops.toList) with
   |false=>jr E L false ops.toList ops.toList s (K .normal)
   |true=>JG E L ops.toList (groups L ops.toList.length ops.toList) s (K .normal)
  |true=>axN E L ops.toList (iL L ops.toList) s (K .normal)
 | .seq a b,s,K=>ax E L a s λe s'=>match e with
  | .normal=>ax E L b s' K
  |e=>K e s'
 | .cond c a b,s,K=>match s.get c with
  | .bool c=>if c=true then ax E L a s K else ax E L b s K
  |_=>False
 | .block id c,s,K=>ax E L c s λe s'=>match e with
  | .exit i=>if i=id then K .normal s' else K (.exit i) s'
  |e=>K e s'
 | .loop c,s,K=>E.loop c (ax E L c) s K
 | .exit id,s,K=>K (.exit id) s
 | .ret,s,K=>K .ret s
 |_,_,_=>False
noncomputable def AS.ac8 (E:Env) (s:AS) (x:AV) (K:AV->AS->Prop):Prop:=match x with
 | .fV=>E.nil λv=>K v s
 | .vs id lo hi=>match s.os[id]? with
  |some (.row k es)=>if lo=0 then E.Ab es (some lo) (some hi) λes'=>K (.sl true k es') ⟨s.fr,s.os.set id .dead⟩ else False
  |_=>False
 | .pb id off=>match off,s.os[id]? with
  | 0,some (.box cs)=>match AV.jv cs with
   |true=>K (.bx cs) ⟨s.fr,s.os.set id .dead⟩
   |false=>False
  |_,_=>False
 |x=>s.ac6 x K
noncomputable def AS.ac7 (E:Env) (s:AS):List AV->(List AV->AS->Prop)->Prop
 |[],K=>K [] s
 |x::l,K=>s.ac8 E x λx' s'=>s'.ac7 E l λl' s''=>K (x'::l') s''
noncomputable def AS.out (E:Env) (s:AS) (x:AV) (K:AV->AS->Prop):Prop:=match x with
 | .agg cs=>s.ac7 E cs λcs' s'=>K (.agg cs') s'
 |x=>s.ac8 E x K
noncomputable def Gz (E:Env) (L:Lay):List ResultVar->AS->(List AV->Prop)->Prop
 |[],_,K=>K []
 | .tmp t::rest,s,K=>s.out E (s.fr.getD t .any) λv s'=>Gz E L rest s' λvs=>K (v::vs)
 | .cell t ty::rest,s,K=>match s.fr.getD t .any with
  | .pb id off=>match s.os[id]? with
   |some (.box cs)=>gH L ty (cs.drop off) λv=>s.out E v λv' s'=>Gz E L rest s' λvs=>K (v'::vs)
   |_=>False
  |_=>False
def gP (vs:List AV):AV:=match vs with
 |[v]=>v
 |vs=> .tup vs
noncomputable def MB (E:Env) (L:Lay) (fn:Func) (args:List AV) (K:AV->Prop):Prop:=match fn.body with
 | some c=>ax E L c ⟨args++List.replicate (fn.ntmps - args.length) .und,[]⟩ λe s=>match e with
  | .ret=>Gz E L fn.results.toList s λvs=>K (gP vs)
  | .normal=>Gz E L fn.results.toList s λvs=>K (gP vs)
  |_=>False
 |none=>False
noncomputable def uY (E:Env) (L:Lay):List ResultVar->AS->(List AV->AS->Prop)->Prop
 |[],s,K=>K [] s
 | .tmp t::rest,s,K=>s.out E (s.fr.getD t .any) λv s'=>uY E L rest s' λvs=>K (v::vs)
 | .cell t ty::rest,s,K=>match s.fr.getD t .any with
  | .pb id off=>match s.os[id]? with
   |some (.box cs)=>gH L ty (cs.drop off) λv=>s.out E v λv' s'=>uY E L rest s' λvs=>K (v'::vs)
   |_=>False
  |_=>False
noncomputable def AS.fin (s:AS) (x:AV):AV:=match x with
 | .ob id=>match s.os[id]? with
  |some (.row k es)=> .sl true k es
  |_=> .any
 |_=> .any
def allRow:List Obj->Bool
 |[]=>true
 | .row .. ::l=>allRow l
 |_::_=>false
noncomputable def V3 (E:Env) (L:Lay) (np:Nat) (fn:Func) (args:List AV) (K:AV->List AV->Prop):Prop:=match fn.body with
 | some c=>(AS.mk [] []).Sr args λiZ s0=>match s0.os.length == np,allRow s0.os,nodupB (lM iZ) with
  | true,true,true=>ax E L c ⟨iZ++List.replicate (fn.ntmps - args.length) .und,s0.os⟩ λe s=>match e with
   | .ret=>uY E L fn.results.toList s λvs s'=>K (gP vs) (iZ.map s'.fin)
   | .normal=>uY E L fn.results.toList s λvs s'=>K (gP vs) (iZ.map s'.fin)
   |_=>False
  |_,_,_=>False
 |none=>False
noncomputable def AS.FZ (s:AS) (x:AV):AV:=match x with
 | .ob id=>match s.os[id]? with
  |some (.row k es)=> .sl true k es
  |_=> .any
 | .pb id off=>match off,s.os[id]? with
  | 0,some (.box cs)=>match AV.jv cs with
   |true=> .bx cs
   |false=> .any
  |_,_=> .any
 |_=> .any
noncomputable def AS.rW (s:AS):List AV->Bool
 |[]=>true
 | .ob id::l=>match s.os[id]? with
  |some (.row ..)=>s.rW l
  |_=>false
 | .pb id _::l=>match s.os[id]? with
  |some (.box _)=>s.rW l
  |_=>false
 |_::l=>s.rW l
noncomputable def VZ (E:Env) (L:Lay) (np:Nat) (fn:Func) (args:List AV) (K:AV->List AV->Prop):Prop:=match fn.body with
 | some c=>(AS.mk [] []).Sr args λiZ s0=>match s0.os.length == np,s0.rW iZ,nodupB (kN iZ) with
  | true,true,true=>ax E L c ⟨iZ++List.replicate (fn.ntmps - args.length) .und,s0.os⟩ λe s=>match e with
   | .ret=>uY E L fn.results.toList s λvs s'=>K (gP vs) (iZ.map s'.FZ)
   | .normal=>uY E L fn.results.toList s λvs s'=>K (gP vs) (iZ.map s'.FZ)
   |_=>False
  |_,_,_=>False
 |none=>False
noncomputable def Z.of (v:Value):Z:=match v with
 | .int k n=>if n=0 then .int k else .other
 | .bool b=>if b=false then .bool else .other
 | .string s=>if s.data.toList=[] then .str else .other
 | .slice none n m=>if n=0/\m=0 then .slice else .other
 | .pointer none=> .ptr
 |_=> .other
noncomputable def D.of (d:Option TypeDesc):D:=match d with
 |some (.int k)=> .int k
 |some .bool=> .bool
 |some .string=> .str
 |some (.slice e)=> .slice e
 |some (.struct fs)=> .struct (fs.toList.map λf=>(f.offset,f.type))
 |some (.array n e)=> .array n e
 |some (.pointer e)=> .ptr e
 |some _=> .RI
 |none=> .other
def D.isAgg (d:D):Bool:=match d with
 | .struct _=>true
 | .array _ _=>true
 |_=>false
noncomputable def Z.N7 (z:Option Value):List Z:=match z with
 |none=>[]
 |some z=>z.cells.toList.map Z.of
noncomputable def TyI.of (d:Option TypeDesc) (i:Option TypeInfo) (e:Bool):TyI:=match i with
 |none=>⟨.other,false,0,[],0,false⟩
 |some i=>⟨D.of d,(D.of d).isAgg,i.size,Z.N7 i.zero,i.bytes,e⟩
def S9 (P:Program) (t:TypeId):Bool:=match P.underlying t with
 |some (.struct gs)=> !(P.stoodInHeld t) && !(P.eqGuardType P.depth t) && gs.toList.all λg=>g.name != "_"
 |some (.array _ _)=> !(P.eqGuardType P.depth t)
 |_=>false
noncomputable def bR (P:Program) (t:TypeId):TyI:=TyI.of (P.underlying t) (P.info? t) (S9 P t)
open Go.RowKit
inductive Rel (w:World) (A:Nat->Prop):AV->Value->Prop
 |int (k:IntKind) (n:Int):Rel w A (.int k n) (.int k n)
 |bool (b:Bool):Rel w A (.bool b) (.bool b)
 |str (s:ByteArray) (h:s.size<=maxLen):Rel w A (.str s) (.string s)
 |agg (cs:List AV) (vs:Array Value) (hn:vs.size=cs.length) (hc:∀(i:Nat) a,cs[i]? =some a->Rel w A a (vs.getD i undef)):Rel w A (.agg cs) (.agg vs)
 |tup (cs:List AV) (vs:Array Value) (hn:vs.size=cs.length) (hc:∀(i:Nat) a,cs[i]? =some a->Rel w A a (vs.getD i undef)):Rel w A (.tup cs) (.tuple vs)
 |fV:Rel w A .fV (.slice none 0 0)
 |mR:Rel w A .mR (.pointer none)
 | sl (t:Bool) (k:Nat) (es:List (List AV)) (p:Option Addr) (cap b off:Nat) (val:Nat->Nat->Value)
   (hl:es.length<=maxLen) (hcap:es.length<=cap)
   (hp:es≠[]->p=some ⟨b,off,none⟩/\A b)
   (hk:∀e∈es,e.length=k)
   (hc:∀i j,i<es.length->j<k->w.cell? ⟨b,off+(i*k+j),none⟩=some (val i j))
   (h1:∀i j,i<es.length->j<k->(val i j).oneCell'=true)
   (hr:∀(i j:Nat) e a,es[i]? =some e->e[j]? =some a->Rel w A a (val i j)):Rel w A (.sl t k es) (.slice p es.length cap)
 | pp (cs:List AV) (b off:Nat) (val:Nat->Value) (hb:A b)
   (hc:∀j,j<cs.length->w.cell? ⟨b,off+j,none⟩=some (val j))
   (hr:∀(j:Nat) a,cs[j]? =some a->Rel w A a (val j)):Rel w A (.pp cs) (.pointer (some ⟨b,off,none⟩))
 |fn (f:FuncId) (caps:List AV) (vs:Array Value) (hn:vs.size=caps.length) (hc:∀(i:Nat) a,caps[i]? =some a->Rel w A a (vs.getD i undef)):Rel w A (.fn f caps) (.func (.func f) #[] vs)
 |fb (f:FuncId) (cs:List AV) (vs:Array Value) (hn:vs.size=cs.length) (hc:∀(i:Nat) a,cs[i]? =some a->Rel w A a (vs.getD i undef)):Rel w A (.fb f cs) (.func (.func f) #[.agg vs] #[])
 | bx (cs:List AV) (b off:Nat) (val:Nat->Value) (hb:A b)
   (hc:∀j,j<cs.length->w.cell? ⟨b,off+j,none⟩=some (val j))
   (hr:∀(j:Nat) a,cs[j]? =some a->Rel w A a (val j)):Rel w A (.bx cs) (.pointer (some ⟨b,off,none⟩))
 |und:Rel w A .und undef
 |any (v:Value):Rel w A .any v
 |hd (x:AV) (v:Value) (h1:v.oneCell'=true) (h:Rel w A x v):Rel w A (.hd v x) v
inductive bB (w:World) (A:Nat->Prop):AV->Value->(Nat->Prop)->Prop
 |pure (a:AV) (v:Value) (F:Nat->Prop) (h:Rel w A a v) (ho:a.dF=false) (hF:∀x,¬F x):bB w A a v F
 |nil (k:Nat) (F:Nat->Prop) (hF:∀x,¬F x):bB w A (.sl true k []) (.slice none 0 0) F
 | sl (k:Nat) (es:List (List AV)) (cap b:Nat) (T:TypeId) (c:Array Value) (F:Nat->Prop) (G:Nat->Nat->Nat->Prop)
   (hb:w.heap[b]? =some (.cells c T (0,0)))
   (hl:es.length<=maxLen) (hcap:es.length<=cap) (hsz:cap*k<=c.size)
   (hk:∀e∈es,e.length=k)
   (h1:∀i j,i<es.length->j<k->(c.getD (i*k+j) undef).oneCell'=true)
   (hr:∀(i j:Nat) e a,es[i]? =some e->e[j]? =some a->bB w A a (c.getD (i*k+j) undef) (G i j))
   (hF:∀x,F x↔x=b∨∃i j,i<es.length/\j<k/\G i j x)
   (h0:∀i j,i<es.length->j<k->¬G i j b)
   (hd:∀i j i' j' x,i<es.length->j<k->i'<es.length->j'<k->G i j x->G i' j' x->i=i'/\j=j'):
   bB w A (.sl true k es) (.slice (some ⟨b,0,none⟩) es.length cap) F
 | bx (cs:List AV) (b:Nat) (T:TypeId) (c:Array Value) (F:Nat->Prop)
   (hb:w.heap[b]? =some (.cells c T (0,0))) (hn:c.size=cs.length)
   (hr:∀(i:Nat) a,cs[i]? =some a->Rel w A a (c.getD i undef))
   (hF:∀x,F x↔x=b):bB w A (.bx cs) (.pointer (some ⟨b,0,none⟩)) F
 | agg (cs:List AV) (vs:Array Value) (F:Nat->Prop) (G:Nat->Nat->Prop) (hn:vs.size=cs.length)
   (hc:∀(i:Nat) a,cs[i]? =some a->bB w A a (vs.getD i undef) (G i))
   (hF:∀x,F x↔∃i,i<cs.length/\G i x)
   (hd:∀i i' x,i<cs.length->i'<cs.length->G i x->G i' x->i=i'):bB w A (.agg cs) (.agg vs) F
 | tup (cs:List AV) (vs:Array Value) (F:Nat->Prop) (G:Nat->Nat->Prop) (hn:vs.size=cs.length)
   (hc:∀(i:Nat) a,cs[i]? =some a->bB w A a (vs.getD i undef) (G i))
   (hF:∀x,F x↔∃i,i<cs.length/\G i x)
   (hd:∀i i' x,i<cs.length->i'<cs.length->G i x->G i' x->i=i'):bB w A (.tup cs) (.tuple vs) F
inductive aU (w:World) (A:Nat->Prop) (os:List Obj) (hd:Nat->Value):AV->Value->Prop
 |pure (a:AV) (v:Value) (h:Rel w A a v):aU w A os hd a v
 |ob (id:Nat) (v:Value) (hi:id<os.length) (h:∀k es,os[id]? =some (.row k es)->v=hd id):aU w A os hd (.ob id) v
 |vs (id:Nat) (lo hi:Int) (v:Value) (hi':id<os.length) (h:∀k es,os[id]? =some (.row k es)->0<=lo/\lo<=hi/\hi<=es.length/\∃p cap,v= .slice p (hi - lo).toNat cap/\(hi - lo).toNat<=cap/\(lo<hi->∃b n c,hd id= .slice (some ⟨b,0,none⟩) n c/\p=some ⟨b,lo.toNat*k,none⟩)/\(lo=0->∃n,hd id= .slice p n cap)):aU w A os hd (.vs id lo hi) v
 |pb (id off:Nat) (v:Value) (hi:id<os.length) (h:∀cs,os[id]? =some (.box cs)->∃b,hd id= .pointer (some ⟨b,0,none⟩)/\v= .pointer (some ⟨b,off,none⟩)):aU w A os hd (.pb id off) v
 |pe (id:Nat) (i:Int) (j:Nat) (v:Value) (hi:id<os.length) (h:∀k es,os[id]? =some (.row k es)->∃b n c,hd id= .slice (some ⟨b,0,none⟩) n c/\0<=i/\i.toNat<es.length/\v= .pointer (some ⟨b,i.toNat*k+j,none⟩)):aU w A os hd (.pe id i j) v
 |it (id:Nat) (v:Value) (hi:id<os.length) (h:∀s p,os[id]? =some (.iter s p)->v=hd id):aU w A os hd (.it id) v
 |agg (cs:List AV) (vs:Array Value) (hn:vs.size=cs.length) (hc:∀(i:Nat) a,cs[i]? =some a->aU w A os hd a (vs.getD i undef)):aU w A os hd (.agg cs) (.agg vs)
 |tup (cs:List AV) (vs:Array Value) (hn:vs.size=cs.length) (hc:∀(i:Nat) a,cs[i]? =some a->aU w A os hd a (vs.getD i undef)):aU w A os hd (.tup cs) (.tuple vs)
 |fn (f:FuncId) (cs:List AV) (vs:Array Value) (hn:vs.size=cs.length) (hc:∀(i:Nat) a,cs[i]? =some a->aU w A os hd a (vs.getD i undef)):aU w A os hd (.fn f cs) (.func (.func f) #[] vs)
theorem cell_of_block {w w':World} {b o:Nat} (h:w'.heap[b]? =w.heap[b]?):w'.cell? ⟨b,o,none⟩=w.cell? ⟨b,o,none⟩:=
 World.cell?_of_block (w:=w) (a:=⟨b,o,none⟩) h
theorem Rel.mono {w w':World} {A A':Nat->Prop} (hw:∀x,A x->w'.heap[x]? =w.heap[x]?) (hA:∀x,A x->A' x) {a:AV} {v:Value} (h:Rel w A a v):Rel w' A' a v:=by
 induction h with
 |int k n=>exact .int k n
 |bool b=>exact .bool b
 |str s h=>exact .str s h
 |agg cs vs hn _ ih=>exact .agg cs vs hn ih
 |tup cs vs hn _ ih=>exact .tup cs vs hn ih
 |fV=>exact .fV
 |mR=>exact .mR
 | sl t k es p cap b off val hl hcap hp hk hc h1 _ ih=>
  refine .sl t k es p cap b off val hl hcap (λh=>⟨(hp h).1,hA _ (hp h).2⟩) hk (λi j hi hj=>?_) h1 ih;have hne:es≠[]:=by rintro rfl;simp at hi
  rw [cell_of_block (hw b (hp hne).2)];exact hc i j hi hj
 | pp cs b off val hb hc _ ih=>
  exact .pp cs b off val (hA _ hb) (λj hj=>by rw [cell_of_block (hw b hb)];exact hc j hj) ih
 |fn f caps vs hn _ ih=>exact .fn f caps vs hn ih
 |fb f cs vs hn _ ih=>exact .fb f cs vs hn ih
 | bx cs b off val hb hc _ ih=>
  exact .bx cs b off val (hA _ hb) (λj hj=>by rw [cell_of_block (hw b hb)];exact hc j hj) ih
 |und=>exact .und
 |any v=>exact .any v
 |hd x v h1 _ ih=>exact .hd x v h1 ih
theorem bB.mono {w w':World} {A A':Nat->Prop} (hA:∀x,A x->A' x) {a:AV} {v:Value} {F:Nat->Prop} (h:bB w A a v F)
  (hw:∀x,A x∨F x->w'.heap[x]? =w.heap[x]?):bB w' A' a v F:=by
 induction h with
 |pure a v F h ho hF=>exact .pure a v F (h.mono (λx hx=>hw x (.inl hx)) hA) ho hF
 |nil k F hF=>exact .nil k F hF
 | sl k es cap b T c F G hb hl hcap hsz hk h1c _ hF h0 hd ih=>
  refine .sl k es cap b T c F G (by rw [hw b (.inr ((hF b).2 (.inl rfl)))];exact hb) hl hcap hsz hk h1c (λi j e a he ha=>ih i j e a he ha (λx hx=>hw x ?_)) hF h0 hd;rcases hx with hx|hx
  ·exact .inl hx
  ·refine .inr ((hF x).2 (.inr ⟨i,j,?_,?_,hx⟩))
   ·exact (aa.1 he).1
   ·have h1:=hk e (ae he);have h2:=(aa.1 ha).1;omega
 | bx cs b T c F hb hn hr hF=>
  exact .bx cs b T c F (by rw [hw b (.inr ((hF b).2 rfl))];exact hb) hn (λi a ha=>(hr i a ha).mono (λx hx=>hw x (.inl hx)) hA) hF
 | agg cs vs F G hn _ hF hd ih=>
  refine .agg cs vs F G hn (λi a ha=>ih i a ha (λx hx=>hw x ?_)) hF hd;rcases hx with hx|hx
  ·exact .inl hx
  ·exact .inr ((hF x).2 ⟨i,(aa.1 ha).1,hx⟩)
 | tup cs vs F G hn _ hF hd ih=>
  refine .tup cs vs F G hn (λi a ha=>ih i a ha (λx hx=>hw x ?_)) hF hd;rcases hx with hx|hx
  ·exact .inl hx
  ·exact .inr ((hF x).2 ⟨i,(aa.1 ha).1,hx⟩)
theorem bB.congr {w:World} {A:Nat->Prop} {a:AV} {v:Value} {F F':Nat->Prop} (h:bB w A a v F) (hF':∀x,F' x↔F x):bB w A a v F':=by
 cases h with
 |pure a v F h ho hF=>exact .pure a v F' h ho (λx=>by rw [hF'];exact hF x)
 |nil k F hF=>exact .nil k F' (λx=>by rw [hF'];exact hF x)
 |sl k es cap b T c F G hb hl hcap hsz hk h1 hr hF h0 hd=>exact .sl k es cap b T c F' G hb hl hcap hsz hk h1 hr (λx=>by rw [hF'];exact hF x) h0 hd
 |bx cs b T c F hb hn hr hF=>exact .bx cs b T c F' hb hn hr (λx=>by rw [hF'];exact hF x)
 |agg cs vs F G hn hc hF hd=>exact .agg cs vs F' G hn hc (λx=>by rw [hF'];exact hF x) hd
 |tup cs vs F G hn hc hF hd=>exact .tup cs vs F' G hn hc (λx=>by rw [hF'];exact hF x) hd
theorem bB.rel {w:World} {A B:Nat->Prop} {a:AV} {v:Value} {F:Nat->Prop} (h:bB w A a v F) (hA:∀x,A x->B x) (hB:∀x,F x->B x):Rel w B a v:=by
 induction h with
 |pure a v F h ho hF=>exact h.mono (λ_ _=>rfl) hA
 |nil k F hF=>exact .sl true k [] none 0 0 0 (λ_ _=>undef) (by simp) (by simp) (by simp) (by simp) (by simp) (by simp) (by simp)
 | sl k es cap b T c F G hb hl hcap hsz hk h1c _ hF h0 hd ih=>
  refine .sl true k es _ cap b 0 (λi j=>c.getD (i*k+j) undef) hl hcap (λ_=>⟨rfl,hB b ((hF b).2 (.inl rfl))⟩) hk (λi j hi hj=>?_) h1c
   (λi j e a he ha=>ih i j e a he ha (λx hx=>hB x ((hF x).2 (.inr ⟨i,j,(aa.1 he).1,?_,hx⟩))))
  ·have h1:i*k+j<c.size:=by
    have:(i+1)*k<=cap*k:=bc k (by omega);rw [bz] at this;omega
   simp [World.cell?,hb,h1]
  ·have h1:=hk e (ae he);have h2:=(aa.1 ha).1;omega
 | bx cs b T c F hb hn hr hF=>
  refine .bx cs b 0 (λj=>c.getD j undef) (hB b ((hF b).2 rfl)) (λj hj=>?_) (λj a ha=>(hr j a ha).mono (λ_ _=>rfl) hA);have h1:j<c.size:=by omega
  simp [World.cell?,hb,h1]
 | agg cs vs F G hn _ hF hd ih=>
  exact .agg cs vs hn (λi a ha=>ih i a ha (λx hx=>hB x ((hF x).2 ⟨i,(aa.1 ha).1,hx⟩)))
 | tup cs vs F G hn _ hF hd ih=>
  exact .tup cs vs hn (λi a ha=>ih i a ha (λx hx=>hB x ((hF x).2 ⟨i,(aa.1 ha).1,hx⟩)))
theorem aU.mono {w w':World} {A A':Nat->Prop} {os:List Obj} {hd:Nat->Value} (hw:∀x,A x->w'.heap[x]? =w.heap[x]?) (hA:∀x,A x->A' x) {a:AV} {v:Value} (h:aU w A os hd a v):aU w' A' os hd a v:=by
 induction h with
 |pure a v h=>exact .pure a v (h.mono hw hA)
 |ob id v hi' h=>exact .ob id v hi' h
 |vs id lo hi v hi' h=>exact .vs id lo hi v hi' h
 |pb id off v hi' h=>exact .pb id off v hi' h
 |pe id i j v hi' h=>exact .pe id i j v hi' h
 |it id v hi' h=>exact .it id v hi' h
 |agg cs vs hn _ ih=>exact .agg cs vs hn ih
 |tup cs vs hn _ ih=>exact .tup cs vs hn ih
 |fn f cs vs hn _ ih=>exact .fn f cs vs hn ih
def yh (w:World) (A:Nat->Prop) (us:List AV) (vs:Array Value):Prop:=
 vs.size=us.length/\∀(i:Nat) a,us[i]? =some a->Rel w A a (vs.getD i undef)
class St where
 S:Prop
def eu [St] (w w':World):Prop:=St.S->w.drawn<=w'.drawn
theorem eu.of [St] {w w':World} (h:w.drawn<=w'.drawn):eu w w':=λ_=>h
theorem eu.refl [St] (w:World):eu w w:= .of (aq _)
theorem eu.trans [St] {a b c:World} (h:eu a b) (k:eu b c):eu a c:=λs=>cE (h s) (k s)
theorem dle [St] (h:¬St.S) (w w':World):eu w w':=λs=>absurd s h
structure Keeps [St] (F:Nat->Prop) (w w':World):Prop where
 os:w'.os=w.os
 tape:w'.tape=w.tape
 output:w'.output=w.output
 size:w.heap.size<=w'.heap.size
 block:∀x,x<w.heap.size->¬F x->w'.heap[x]? =w.heap[x]?
 frz:∀a:Addr,a.block<w.heap.size->w'.frozen? a=w.frozen? a
 drawn:eu w w'
def Enters (P:Program) (f:FuncId):Prop:=∀args w,(callFunc f args).run P w= .ok (.enter f args) w
def gl (w:World):Nat->Option Go.Obj:=λg=>if g<NG then w.heap[g]? else none
structure GOK (w:World):Prop where
 sz:NG<=w.heap.size
 gf:GF (gl w)
theorem GOK.of {w w':World} (h:GOK w) (hs:w.heap.size<=w'.heap.size) (hb:∀x,x<NG->w'.heap[x]? =w.heap[x]?):GOK w':=by
 refine ⟨cE h.sz hs,?_⟩
 have e:gl w'=gl w:=funext λx=>by
  unfold gl;split
  ·rename_i hx;exact hb x hx
  ·rfl
 rw [e];exact h.gf
theorem GOK.keeps [St] {w w':World} {F:Nat->Prop} (h:GOK w) (hk:Keeps F w w') (hF:∀x,F x->NG<=x):GOK w':=
 h.of hk.size λx hx=>hk.block x (bu hx h.sz) λhf=>by have:=hF x hf;omega
def AC [St] {α:Type} (P:Program) (f:FuncId) (args:List AV) (R:α->AV) (x:α):Prop:=
 Enters P f/\∀(w:World) (vs:Array Value),GOK w->yh w (λb=>b<w.heap.size) args vs->
  Calls P f vs w λe w'=>∃v F,e= .returned v/\Keeps (λ_=>False) w w'/\bB w' (λ_=>False) (R x) v F/\∀b,F b->w.heap.size<=b/\b<w'.heap.size
def ACM [St] (P:Program) (f:FuncId) (args:List AV) (Q:AV->List AV->Prop):Prop:=
 Enters P f/\∀(w:World) (A:Nat->Prop) (vs:Array Value) (F:Nat->Prop),GOK w->bB w A (.tup args) (.tuple vs) F->(∀b,A b->b<w.heap.size/\¬F b)->(∀b,F b->b<w.heap.size)->(∀b,F b->NG<=b)->
  Calls P f vs w λe w'=>∃v G r args',Q r args'/\e= .returned v/\Keeps F w w'/\bB w' (λ_=>False) (.tup (r::args')) (.tuple (#[v]++vs)) G/\∀b,G b->F b∨w.heap.size<=b/\b<w'.heap.size
def ACS [St] (P:Program) (f:FuncId) (args:List AV) (Q:AV->List AV->Prop):Prop:=
 Enters P f/\∀(w:World) (A:Nat->Prop) (vs:Array Value) (F:Nat->Prop),GOK w->bB w A (.tup args) (.tuple vs) F->(∀b,A b->b<w.heap.size/\¬F b)->(∀b,F b->b<w.heap.size)->(∀b,F b->NG<=b)->
  Calls P f vs w λe w'=>∃v G A' r args',Q r args'/\e= .returned v/\Keeps F w w'/\bB w' A' (.tup (r::args')) (.tuple (#[v]++vs)) G/\(∀b,G b->F b∨w.heap.size<=b/\b<w'.heap.size)/\
   ∀b,A' b->b<w'.heap.size/\¬G b/\(A b∨w.heap.size<=b)
def idxOf (ids:List Nat) (i:Nat):Option Nat:=match ids with
 |[]=>none
 |j::l=>if i=j then some 0 else (idxOf l i).map (·+1)
noncomputable def AV.yK (ids:List Nat) (x:AV):AV:=match x with
 | .ob id=>match idxOf ids id with
  |some j=> .ob j
  |none=> .any
 | .vs id lo hi=>match idxOf ids id with
  |some j=> .vs j lo hi
  |none=> .any
 | .pb id off=>match idxOf ids id with
  |some j=> .pb j off
  |none=> .any
 | .pe id i j=>match idxOf ids id with
  |some m=> .pe m i j
  |none=> .any
 | .it id=>match idxOf ids id with
  |some j=> .it j
  |none=> .any
 | .agg _=> .any
 | .tup _=> .any
 | .fn f cs=>match cs with
  |[]=> .fn f []
  |_=> .any
 |x=>x
noncomputable def AV.ren (ids:List Nat) (x:AV):AV:=match x with
 | .agg cs=> .agg (cs.map (AV.yK ids))
 | .fn f cs=> .fn f (cs.map (AV.yK ids))
 |x=>x.yK ids
noncomputable def Obj.ren (ids:List Nat) (o:Obj):Obj:=match o with
 | .box cs=> .box (cs.map (AV.yK ids))
 |o=>o
def inL (l:List Nat) (t:Nat):Bool:=match l with
 |[]=>false
 |x::l=>if x=t then true else inL l t
noncomputable def wkF (hv ids:List Nat):Nat->List AV->List AV
 |_,[]=>[]
 | t,x::l=>(match inL hv t with
  |true=> .any
  |false=>x.ren ids)::wkF hv ids (t+1) l
noncomputable def wk (hv ids:List Nat) (s:AS):AS:=⟨wkF hv ids 0 s.fr,ids.map λi=>(s.os.getD i .dead).ren ids⟩
def wC (np:Nat) (ids:List Nat):Bool:=ids.take np == List.range np
def Vj (np:Nat) (body:AS->(XE->AS->Prop)->Prop):Nat->AS->(XE->AS->Prop)->Prop
 |0,_,_=>False
 | n+1,s,K=>∃hv ids,(ids.Nodup/\wC np ids=true)/\body (wk hv ids s) λe s'=>match e with
  | .normal=>Vj np body n s' K
  |e=>K e s'
noncomputable def bitsOf (op:BinOp) (k:IntKind) (x y:Int):Int:=
 k.wrap (match op with
  | .and=>(BitVec.ofInt k.bits x &&& BitVec.ofInt k.bits y)
  | .or=>(BitVec.ofInt k.bits x ||| BitVec.ofInt k.bits y)
  |_=>(BitVec.ofInt k.bits x ^^^ BitVec.ofInt k.bits y)).toNat
noncomputable def kY (p:AV×AV):Bool:=match p.1,p.2 with
 | .int _ a,.int _ b=>a == b
 | .bool a,.bool b=>a == b
 | .str a,.str b=>a.toList == b.toList
 |_,_=>false
def bytesOf (ns:List Int):ByteArray:=ns.foldl (λr n=>r.push (UInt8.ofNat n.toNat)) ByteArray.empty
noncomputable def bG [St] (np:Nat) (P:Program):Env where
 add k a b K:=K (k.wrap (a+b))
 sub k a b K:=K (k.wrap (a - b))
 mul k a b K:=K (k.wrap (a*b))
 quo k a b K:=K (k.wrap (a.tdiv b))
 rem a b K:=K (a.tmod b)
 bits op k a b K:=K (bitsOf op k a b)
 shr k a b K:=K (a.fdiv (2 ^ (Nat.min b.toNat k.bits)))
 wrap k n K:=K (k.wrap n)
 max a b K:=K (if b > a then b else a)
 min a b K:=K (if b<a then b else a)
 lt a b K:=K (decide (a<b))
 le a b K:=K (decide (a<=b))
 eq a b K:=K (a == b)
 seq a b K:=K (a.toList == b.toList)
 aeq ps K:=K (ps.all kY)
 slt a b K:=K (Op.bytesLess a.toList b.toList)
 need p K:=p/\K
 same a b K:=a.length=b.length/\K
 acN a b K:=a.size+b.size<=maxLen/\K (a++b)
 afw s K:=s.size<=maxLen->K s.size
 acG s i K:=0<=i/\∃h:i.toNat<s.size,K ((s[i.toNat]'h).toNat:Int)
 nxt s p K K0:=if p<s.size then K (p:Nat) ((Utf8.decode s p).1:Nat) (p+(Utf8.decode s p).2) else K0
 acE s lo hi K:=0<=lo.getD 0/\lo.getD 0<=hi.getD s.size/\hi.getD s.size<=s.size/\K (s.extract (lo.getD 0).toNat (hi.getD s.size).toNat)
 toStr es K:=∃ns:List Int,es=ns.map (λn=>[AV.int .u8 n])/\K (bytesOf ns)
 len es K:=es.length<=maxLen->K es.length
 idx es i K:=0<=i/\∃e,es[i.toNat]? =some e/\K e
 Ab es lo hi K:=0<=lo.getD 0/\lo.getD 0<=hi.getD es.length/\hi.getD es.length<=es.length/\K ((es.take (hi.getD es.length).toNat).drop (lo.getD 0).toNat)
 mv es hi lo hi' K:=hi<=lo/\(∀e∈(es.take hi'.toNat).drop lo.toNat,∀c∈e,c.mX=true)/\K (es.take hi.toNat++((es.take hi'.toNat).drop lo.toNat++es.drop (hi+(hi' - lo)).toNat)) (hi+(hi' - lo))
 clr es lo hi z K:=K (es.take lo.toNat++(List.replicate (hi - lo).toNat z++es.drop hi.toNat))
 upd es i j cs K:=0<=i/\∃e,es[i.toNat]? =some e/\j+cs.length<=e.length/\K (es.set i.toNat (splice e j cs))
 flat fs K:=(∀e∈fs,∀c∈e,c.flat=true)/\K
 IJ fs K:=(∀e∈fs,∀c∈e,c.dF=false)/\K
 cat bytes es fs K:=(es.length+fs.length)*bytes<=140737488355328/\es.length+fs.length<=140737488355328/\K (es++fs)
 nil K:=K .fV∨(∃k,K (.sl true k []))∨∃k,K (.sl false k [])
 make bytes zero l c K:=0<=l/\l<=c/\c*bytes<=281474976710656/\c<=281474976710656/\K (List.replicate l.toNat zero)
 call f args K:=∃r,AC P f args id r/\K r
 Jw f args K:=∃Q,ACM P f args Q/\∀r args',Q r args'->K r args'
 Vz f args K:=∃Q,ACS P f args Q/\∀r args',Q r args'->K r args'
 loop _ body s K:=∃n,Vj np body n s K
end Go.Proofs.YtnlhnideeaobpaaGreatDoor
