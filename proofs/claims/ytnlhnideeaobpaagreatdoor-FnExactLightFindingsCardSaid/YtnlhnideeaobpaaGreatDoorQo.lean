/- Characters as texts (plain): which character has a given text; Texts joined (over the shelf); Contracts: characters as texts; which characters fit a mark; Findings of lights: plain laws, gaps of sectors. -/
import Derived.Test.YtnlhnideeaobpaaGreatDoorFC
import Derived.Test.YtnlhnideeaobpaaGreatDoorQn
import Derived.Lib.Join
import Derived.Shelf.Strings.OnBuilder
import Derived.Test.YtnlhnideeaobpaaGreatDoorQk
import Derived.Test.YtnlhnideeaobpaaGreatDoorQe
import Derived.Test.YtnlhnideeaobpaaGreatDoorQl
import Derived.Test.YtnlhnideeaobpaaGreatDoorQd
import Derived.Test.YtnlhnideeaobpaaGreatDoorKD
import Derived.Test.YtnlhnideeaobpaaGreatDoorQf
namespace Go.Proofs.YtnlhnideeaobpaaGreatDoor
open Go Go.RowKit Classical
set_option maxRecDepth 100000
set_option maxHeartbeats 2000000
set_option linter.unusedVariables false
set_option linter.unusedSimpArgs false
def bL (s:ByteArray):List UInt8:=s.data.toList
theorem uW (a b:ByteArray):bL (a++b)=bL a++bL b:=by unfold bL;rw [ByteArray.data_append,cN]
theorem TS {a b:ByteArray} (h:bL a=bL b):a=b:=by
 cases a;cases b;exact congrArg _ (lP.1 h)
theorem abJ {a b:ByteArray}:a=b↔bL a=bL b:=⟨λh=>by rw [h],TS⟩
def wE:List ByteArray:=["", "F", "Oc", "Iso", "Fl", "LFl", "Q", "VQ", "Mo"].map String.toUTF8
def Cj (xs:List ByteArray) (sep:ByteArray):ByteArray:=⟨(Lib.join (xs.map (·.data.toList)) sep.data.toList).toArray⟩
def Nh (p:Int):ByteArray:=if p % 10=0 then lI (p / 10) else lI (p / 10)++⟨#[46]⟩++lI (p % 10)
noncomputable def uL (k:Int) (g:List Int) (t:ByteArray):ByteArray:=
 if k=8 then eG k wE++⟨#[40]⟩++t++⟨#[41]⟩ else
 (if g=[] then eG k wE else eG k wE++(⟨#[40]⟩++Cj (g.map lI) ⟨#[43]⟩++⟨#[41]⟩))++(if t=noS then ⟨#[]⟩ else ⟨#[43,76,70,108]⟩)
noncomputable def zF (k:Int) (g:List Int) (t c:ByteArray) (p:Int):ByteArray:=
 uL k g t++⟨#[32]⟩++c++(if p=0 then ⟨#[]⟩ else ⟨#[32]⟩++Nh p++⟨#[115]⟩)
theorem zx {p:UInt8->Prop}:∀{a b T R:List UInt8},(∀x∈a,¬p x)->(∀x∈b,¬p x)->(∀x l,T=x::l->p x)->(∀x l,R=x::l->p x)->a++T=b++R->a=b/\T=R
 |[],[],T,R,_,_,_,_,h=>⟨rfl,h⟩
 |[],y::b,T,R,_,hb,hT,_,h=>absurd (hT y (b++R) h) (hb y (by simp))
 |x::a,[],T,R,ha,_,_,hR,h=>absurd (hR x (a++T) h.symm) (ha x (by simp))
 | x::a,y::b,T,R,ha,hb,hT,hR,h=>by
   rw [fj,fj] at h;injection h with h1 h2;obtain ⟨e1,e2⟩:=zx (λz hz=>ha z (by simp [hz])) (λz hz=>hb z (by simp [hz])) hT hR h2;exact ⟨by rw [h1,e1],e2⟩
def dgF:Nat->Nat->List UInt8
 |0,_=>[]
 |f+1,u=>if u<10 then [UInt8.ofNat (48+u)] else dgF f (u / 10)++[UInt8.ofNat (48+u % 10)]
theorem abh:∀(f u:Nat),u<10 ^ f->Lib.decDigits u=dgF f u∨f=0
 |0,u,_=> .inr rfl
 | 1,u,h=>by
   left;rw [wm (by omega)];unfold dgF;rw [if_pos (by omega)]
 | f +2,u,h=>by
   left;unfold dgF;by_cases h1:u<10
   ·rw [if_pos h1,wm h1]
   ·rw [if_neg h1,Vt h1];have:=(abh (f+1) (u / 10) (by rw [Nat.pow_succ] at h;omega)).resolve_right (by omega);rw [this]
theorem L8 {n:Int} (h:0<=n/\n<1000):bL (lI n)=dgF 3 n.toNat:=by
 unfold bL lI;rw [DU h.1];exact (abh 3 n.toNat (by omega)).resolve_right (by omega)
def tlF (p:Nat):List UInt8:=if p=0 then [] else 32::((if p % 10=0 then dgF 3 (p / 10) else dgF 3 (p / 10)++46::dgF 3 (p % 10))++[115])
theorem aiz {p:Int} (h:0<=p/\p<=600):bL (if p=0 then (⟨#[]⟩:ByteArray) else ⟨#[32]⟩++Nh p++⟨#[115]⟩)=tlF p.toNat:=by
 unfold tlF;by_cases h0:p=0
 ·subst h0;rfl
 ·rw [if_neg h0,if_neg (by omega),uW,uW];unfold Nh;by_cases h1:p % 10=0
  ·rw [if_pos h1,if_pos (by omega),L8 (by omega),show (p / 10).toNat=p.toNat / 10 by omega];rfl
  ·rw [if_neg h1,if_neg (by omega),uW,uW,L8 (by omega),L8 (by omega),show (p / 10).toNat=p.toNat / 10 by omega,show (p % 10).toNat=p.toNat % 10 by omega];show [32]++(_++[46]++_)++[115]=_;simp
theorem acf:∀q∈[0,50,100,150],∀p∈List.range 601,tlF p=tlF q->p=q:=by decide +kernel
theorem ace {p:Int} {q:Nat} (h:0<=p/\p<=600) (hq:q∈[0,50,100,150]) (e:tlF p.toNat=tlF q):p=q:=by
 have:=acf q hq p.toNat (cL.2 (by omega)) e;omega
theorem agI {c:ByteArray} (h:JI c):∀x∈bL c,¬x=32:=λx hx e=>by
 obtain ⟨i,hi⟩:=ap hx;have hl:=(aa.1 hi).1;have h1:=(h.1 i (by simpa [bL] using hl)).1
 have:chr c i=32:=by
  unfold chr;rw [b9,←bd];rw [show c.data.toList[i]? =some x from hi,e];rfl
 rw [this] at h1;exact h1 (by decide)
theorem adO:∀a∈[1,2,3,4,5,6,7,8],∀b∈[1,2,3,4,5,6,7,8],bL (eG a wE)=bL (eG b wE)->a=(b:Int):=by decide +kernel
theorem Vf:∀a∈([1,2,3,4,5,6,7,8]:List Int),∀x∈bL (eG a wE),¬(x=32∨x=40∨x=43):=by decide +kernel
theorem in8 {k:Int} (h:1<=k/\k<=8):k∈([1,2,3,4,5,6,7,8]:List Int):=by
 simp only [bk,eR,or_false];omega
def xT (k:Int) (g:List Int) (t:ByteArray):List UInt8:=if k=8 then 40::(bL t++[41]) else (if g=[] then [] else 40::(bL (Cj (g.map lI) ⟨#[43]⟩)++[41]))++(if bL t=[] then [] else [43,76,70,108])
theorem aaT (k:Int) (g:List Int) (t:ByteArray):bL (uL k g t)=bL (eG k wE)++xT k g t:=by
 have e:(t=noS)=(bL t=[]):=propext ⟨λh=>by rw [h];rfl,λh=>TS h⟩;unfold uL xT;simp only [e];repeat' split
 all_goals (simp only [uW,cT];first|rfl|simp [bL])
theorem ab2 {k:Int} {g:List Int} {t:ByteArray} {x:UInt8} {l:List UInt8} (h:xT k g t=x::l):x=40∨x=43:=by
 unfold xT at h;repeat' split at h
 all_goals simp at h
 all_goals first
  |exact .inl h.1.symm
  |exact .inr h.1.symm
theorem Vu {k:Int} {g:List Int} {t c:ByteArray} {p:Int} (hp:0<=p/\p<=600):bL (zF k g t c p)=bL (eG k wE)++(xT k g t++32::(bL c++tlF p.toNat)):=by
 unfold zF;rw [uW,uW,uW,aiz hp,aaT];show _++_++[32]++_++_=_;simp
theorem gZ.per {k:Int} {g:List Int} {t c:ByteArray} {p:Int} (h:gZ k g t c p):0<=p/\p<=600:=by
 obtain ⟨_,h2,h3,h4⟩:=h;have:=ou h2;by_cases hs:jE k g
 ·have:=h3 hs;omega
 ·have:=h4 hs;omega
theorem Ud {p:Nat} {x:UInt8} {l:List UInt8} (h:tlF p=x::l):x=32:=by
 unfold tlF at h;split at h
 ·cases h
 ·injection h with h _;exact h.symm
theorem LU {k:Int} {g:List Int} {t c L:ByteArray} {p K:Int} {X:List UInt8} {q:Nat} (h:gZ k g t c p) (hK:1<=K/\K<=8) (hq:q∈[0,50,100,150]) (hX:∀x∈X,¬x=32) (hX0:∀x l,X=x::l->x=40∨x=43)
  (hL:bL L=bL (eG K wE)++(X++32::87::tlF q)) (hx:k=K->∀x∈xT k g t,¬x=32):zF k g t c p=L↔k=K/\xT k g t=X/\c=⟨#[87]⟩/\p=q:=by
 have hp:=h.per;have hk:=h.2.1.kind;rw [abJ,Vu hp,hL];constructor
 ·intro e
  obtain ⟨e1,e2⟩:=zx (p:=λx=>x=32∨x=40∨x=43) (Vf k (in8 hk)) (Vf K (in8 hK)) (λx l hl=>by
   cases hX1:xT k g t with
   |nil=>rw [hX1] at hl;injection hl with h1 _;exact .inl h1.symm
   |cons y m=>rw [hX1] at hl;injection hl with h1 _;subst h1;exact .inr (ab2 hX1)) (λx l hl=>by
   cases X with
   |nil=>injection hl with h1 _;exact .inl h1.symm
   |cons y m=>injection hl with h1 _;subst h1;exact .inr (hX0 _ _ rfl)) e
  have ek:=adO k (in8 hk) K (in8 hK) e1;obtain ⟨e3,e4⟩:=zx (p:=λx=>x=32) (hx ek) hX (λx l hl=>by injection hl with h1 _;exact h1.symm) (λx l hl=>by injection hl with h1 _;exact h1.symm) e2;injection e4 with _ e4;obtain ⟨e5,e6⟩:=zx (p:=λx=>x=32) (b:=[87]) (R:=tlF q) (agI h.1) (by decide) (λx l hl=>Ud hl) (λx l hl=>Ud hl) e4;exact ⟨ek,e3,TS e5,ace hp hq e6⟩
 ·rintro ⟨rfl,e1,rfl,rfl⟩;rw [e1];rfl
def GL (k:Int) (g:List Int) (t:ByteArray) (p n slow fast:Int):Prop:=t=(if n=6 then tL else noS)/\((k=6/\g=(if n=0 then [] else [n])/\p=slow)∨(k=7/\g=(if n=0 then [] else [n])/\p=fast))
def qX (n:Int):List UInt8:=if n=0 then [] else [40,UInt8.ofNat (48+n.toNat),41]++(if n=6 then [43,76,70,108] else [])
theorem ahA (n:Int):bL (Cj ([n].map lI) ⟨#[43]⟩)=bL (lI n):=by
 show (Lib.join [bL (lI n)] _).toArray.toList=_;rw [Lib.join_one]
theorem xq {k:Int} {g:List Int} {t:ByteArray} (hk:k=6∨k=7) (h:dS k g t):(∀x∈xT k g t,¬x=32)/\∀n∈([0,3,6,9]:List Int),(xT k g t=qX n↔t=(if n=6 then tL else noS)/\g=(if n=0 then [] else [n])):=by
 have h8:k≠8:=by omega
 have hs:(t=noS/\(g=[]∨∃x,g=[x]/\2<=x/\x<=9))∨t=tL/\g=[6]:=by
  rcases h with h|h|h|h
  ·omega
  ·omega
  ·exact h.2
  ·omega
 unfold xT;rw [if_neg h8]
 have one:∀x:Int,2<=x/\x<=9->bL (Cj ([x].map lI) ⟨#[43]⟩)=[UInt8.ofNat (48+x.toNat)]:=λx hx=>by
  rw [ahA,L8 (by omega)];unfold dgF;rw [if_pos (by omega)]
 rcases hs with ⟨rfl,rfl|⟨x,rfl,hx⟩⟩|⟨rfl,rfl⟩
 ·decide +kernel
 ·rw [if_neg (by simp),one x hx];(obtain rfl|rfl|rfl|rfl|rfl|rfl|rfl|rfl:x=2∨x=3∨x=4∨x=5∨x=6∨x=7∨x=8∨x=9:=by omega);all_goals decide +kernel
 ·rw [if_neg (by simp),one 6 (by decide)];decide +kernel
theorem vJ {k:Int} {g:List Int} {t c L M:ByteArray} {p n:Int} {q r:Nat} (h:gZ k g t c p) (hn:n∈([0,3,6,9]:List Int)) (hq:q∈[0,50,100,150]) (hr:r∈[0,50,100,150])
  (hL:bL L=bL (eG 6 wE)++(qX n++32::87::tlF q)) (hM:bL M=bL (eG 7 wE)++(qX n++32::87::tlF r)):zF k g t c p∈[L,M]↔c=⟨#[87]⟩/\GL k g t p n q r:=by
 have hX:∀n∈([0,3,6,9]:List Int),∀x∈qX n,¬x=32:=by decide +kernel
 have hX0:∀n∈([0,3,6,9]:List Int),∀x∈(qX n).head?,x=40∨x=43:=by decide +kernel
 have h0:∀x l,qX n=x::l->x=40∨x=43:=λx l e=>hX0 n hn x (by rw [e];rfl);simp only [bk,eR,or_false];rw [LU h (by decide) hq (hX n hn) h0 hL (λe=>(xq (.inl e) h.2.1).1),LU h (by decide) hr (hX n hn) h0 hM (λe=>(xq (.inr e) h.2.1).1)];unfold GL;constructor
 ·rintro (⟨e1,e2,e3,e4⟩|⟨e1,e2,e3,e4⟩)
  ·have:=((xq (.inl e1) h.2.1).2 n hn).1 e2;exact ⟨e3,this.1,.inl ⟨e1,this.2,e4⟩⟩
  ·have:=((xq (.inr e1) h.2.1).2 n hn).1 e2;exact ⟨e3,this.1,.inr ⟨e1,this.2,e4⟩⟩
 ·rintro ⟨e3,e2,⟨e1,e5,e4⟩|⟨e1,e5,e4⟩⟩
  ·exact .inl ⟨e1,((xq (.inl e1) h.2.1).2 n hn).2 ⟨e2,e5⟩,e3,e4⟩
  ·exact .inr ⟨e1,((xq (.inr e1) h.2.1).2 n hn).2 ⟨e2,e5⟩,e3,e4⟩
def aeZ:ByteArray:= "LFl W 10s".toUTF8
theorem Z4 {k:Int} {g:List Int} {t c:ByteArray} {p:Int} (h:gZ k g t c p):zF k g t c p=aeZ↔k=5/\g=[]/\c=⟨#[87]⟩/\p=100:=by
 by_cases h5:k=5/\g≠[]
 ·-- a group: its bracket stands where the blank should
  constructor
  ·intro e;exfalso;rw [abJ,Vu h.per] at e;obtain ⟨rfl,hg⟩:=h5;unfold xT at e;rw [if_neg (by decide),if_neg hg] at e;have:=congrArg (λl=>l[3]?) e;revert this;rw [show bL (eG 5 wE)=[76,70,108] by decide +kernel,show bL aeZ=[76,70,108,32,87,32,49,48,115] by decide +kernel];simp
  ·rintro ⟨_,hg,_⟩;exact absurd hg h5.2
 ·have hx:k=5->xT k g t=[]:=λe=>by
   have hg:g=[]:=aw λhg=>h5 ⟨e,hg⟩
   have ht:t=noS:=by
    rcases h.2.1 with h|h|h|h
    ·omega
    ·exact h.2.1
    ·omega
    ·omega
   unfold xT;rw [if_neg (by omega),if_pos hg,if_pos (by rw [ht];rfl)];rfl
  rw [LU (K:=5) (X:=[]) (q:=100) h (by decide) (by decide) (by simp) (by simp) (by decide +kernel) (λe=>by rw [hx e];simp)];constructor
  ·rintro ⟨e1,_,e3,e4⟩;exact ⟨e1,aw λhg=>h5 ⟨e1,hg⟩,e3,e4⟩
  ·rintro ⟨e1,_,e3,e4⟩;exact ⟨e1,hx e1,e3,e4⟩
noncomputable def GU (m k:Int) (g:List Int) (t c:ByteArray) (p:Int):Prop:=
 if m=0 then True else if m=1 then c=⟨#[82]⟩ else if m=2 then c=⟨#[71]⟩ else if m=9 then c=⟨#[89]⟩ else c=⟨#[87]⟩/\
 (if m=3 then GL k g t p 0 0 0 else if m=4 then GL k g t p 3 100 50 else if m=5 then GL k g t p 6 150 100 else if m=6 then GL k g t p 9 150 100
  else if m=7 then k=4/\g=[2] else k=3∨k=2∨(k=5/\g=[]/\p=100)∨k=8/\t=⟨#[65]⟩)
open Go.Sort Go.Shelf Go.Proofs
theorem Qq [St] {w w':World} (h:Below w.heap.size w w') (hd:eu w w'):Keeps (λ_=>False) w w':=
 ⟨h.os,h.tape,h.output,h.size,λx hx _=>h.block x hx,λa ha=>Vo h.block a ha,hd⟩
theorem AC.ahl [St] {P:Program} {f:FuncId} {us:List AV} {α:Type} {R:α->AV} {x:α} (hd:∀w w',eu w w') (hent:Enters P f) (h:∀w vs,GOK w->yh w (λb=>b<w.heap.size) us vs->∃v,(∀w',bB w' (λ_=>False) (R x) v (λ_=>False))/\Calls P f vs w λe w'=>e= .returned v/\Below w.heap.size w w'):AC P f us R x:=
 ⟨hent,λw vs hg hr=>by
  obtain ⟨v,h1,h3⟩:=h w vs hg hr;refine h3.mono ?_;rintro e w' ⟨rfl,hk⟩
  exact ⟨v,λ_=>False,rfl,Qq hk (hd _ _),h1 w',λ_ h=>h.elim⟩⟩
theorem L6:Builder.Extra Tryz.prog Tryz.join_ren where
 sizeBuilder:=by kernel_rfl
 liesBuilder:=by kernel_rfl
 t5:=Tryz.join.t5
 a5:=Tryz.join.a5
 z5:=Tryz.join.z5
 v5:=Tryz.join.v5
 infoByte:=by kernel_rfl
 cellsByte:=by kernel_rfl
 sizeByte:=by kernel_rfl
 neB5:=by decide
theorem afX [St] {rs:List (List AV)} {t:Bool} {xs:List ByteArray} (sep:ByteArray) (hd:∀w w',eu w w') (hl:rs=xs.map iQ) (hne:xs≠[]) (hxl:xs.length<=1000) (hz:(Cj xs sep).size<=1048576):AC Tryz.prog 297 [.sl t 1 rs,.str sep] AV.str (Cj xs sep):=
 AC.ahl hd (λxs w=>fF Tryz.func297 (by kernel_rfl) rfl xs w) λw vs hg hr=>by
  obtain ⟨u,v,rfl,h1,h2⟩:=ZC hr;cases h2;subst hl;clear hr
  cases h1 with
  | sl _ _ _ p cap b off val hlen hcap hp hk hc h1 hr=>
    (have hnil:xs.map iQ≠[]:=by simpa using hne);obtain ⟨rfl,hb⟩:=hp hnil;rw [al] at hlen hcap hc h1 ⊢;refine ⟨_,λw'=> .pure _ _ _ (.str _ (cE hz (by decide))) rfl (λ_ h=>h),?_⟩;refine Any.strings_Join { Tryz.join with } L6 b off cap xs sep w (λj x hx=>?_) hb (cE hxl (by decide)) hcap (cE (by show (Lib.join _ _).length<=1048576;have:=hz;unfold Cj at this;simpa [ByteArray.size] using this) (by decide));have hj:=(aa.1 hx).1;have h3:=hc j 0 hj (by omega);rw [k8,em] at h3;rw [h3];have h4:=hr j 0 (iQ x) (.str x) (by rw [ai,hx];rfl) rfl;generalize val j 0=y at h4 ⊢;cases h4;rfl
theorem aax {sep:List UInt8}:∀xs:List (List UInt8),(∀x∈xs,x.length<=21)->(Lib.join xs sep).length<=(21+sep.length)*xs.length:=λxs h=>by
 cases xs with
 |nil=>simp [Lib.join_nil]
 | cons x r=>
   rw [Lib.join_cons,am]
   have h1:∀r:List (List UInt8),(∀x∈r,x.length<=21)->(Lib.joinTail sep r).length<=(21+sep.length)*r.length:=λr=>by
    induction r with
    |nil=>intro _;simp [Lib.joinTail]
    | cons y r ih=>
      intro h;have h2:=ih λx hx=>h x (by simp [hx]);have h3:=h y (by simp);unfold Lib.joinTail at*;simp only [dj,List.flatten_cons,am,bi,ju] at*;omega
   have h2:=h1 r λx hx=>h x (by simp [hx]);have h3:=h x (by simp);simp only [bi,ju];omega
theorem FI {g:List Int} (h:∀x∈g,1<=x/\x<=9):(Cj (g.map lI) ⟨#[43]⟩).size<=22*g.length:=by
 have:=aax (sep:=[43]) ((g.map lI).map (·.data.toList)) λx hx=>by
  obtain ⟨y,hy,rfl⟩:=cA.1 hx;obtain ⟨n,hn,rfl⟩:=cA.1 hy;have:=h n hn;exact oG (n:=n) (by omega)
 show (Lib.join _ _).toArray.size<=_;simpa using this
theorem O3 (k:Int):(eG k wE).size<=3:=by
 unfold eG;split
 ·rename_i h;(have h1:∀s∈wE,s.size<=3:=by decide +kernel);rw [ad,ag (by omega)];exact h1 _ (er _)
 ·exact (by decide:(⟨#[]⟩:ByteArray).size<=3)
theorem XL [St] (k:Int):AP 296 [.int .i64 k] AV.str (eG k wE):=by
  refine a0 Tryz.func296 λE K hE hK=>?_
  repeat' first
    |((first
   |refine aQ (EO (es:=wE) k (by rfl)) (λ_ _=>?_)
   |refine B0 ?_|refine B1 ?_ ?_)<;>intros<;>(try conv=>cbv))
  exact hK _ (by simp_all [gP])
theorem Kq [St] (p:Int) (h:0<=p/\p<=600):AP 229 [.int .i64 p] AV.str (Nh p):=by
  refine a0 Tryz.func229 λE K hE hK=>?_;have z1:=oG (n:=p / 10) (by omega);have z2:=oG (n:=p % 10) (by omega);have z46:(⟨⟨[46]⟩⟩:ByteArray).size=1:=rfl
  repeat' first
    |((first
   |(refine BL (by subst_vars;(try simp only [dl]);omega) (λ_ _ _=>?_))
   |refine aQ (rz _ (by omega)) (λ_ _=>?_)
   |refine B0 ?_|refine B1 ?_ ?_)<;>intros<;>(try conv=>cbv))
  all_goals first
   |(refine hK _ (congrArg AV.str ?_);unfold Nh;rw [if_pos (by omega)];subst_vars;rfl)
   |(refine hK _ (congrArg AV.str ?_);unfold Nh;rw [if_neg (by omega)];subst_vars;rfl)
theorem Md (a:ByteArray):a++(⟨#[]⟩:ByteArray)=a:=by
 show a++ByteArray.empty=a;simp
theorem X0 [St] (k p:Int) (le co:ByteArray) {rg:List (List AV)} {t:Bool} {g:List Int} (hl:rg=g.map aN) (hd:∀w w',eu w w') (hs:dS k g le):AP 228 [.agg [.int .i64 k,.sl t 1 rg,.str le,.str co,.int .i64 p]] AV.str (uL k g le):=by
  refine a0 Tryz.func228 λE K hE hK=>?_;have hg:=hs.grp;have zk:=O3 k;have zj:=FI hg.1
  have zl:le.size<=1:=by
   rcases hs.letter with ⟨_,h⟩|⟨_,h|h⟩
   ·exact Nat.le_of_eq h.1
   ·rw [h];decide
   ·rw [h];decide
  have z40:(⟨⟨[40]⟩⟩:ByteArray).size=1:=rfl;have z41:(⟨⟨[41]⟩⟩:ByteArray).size=1:=rfl;have zL:(⟨⟨[43,76,70,108]⟩⟩:ByteArray).size=4:=rfl;have hdz:∀v∈g,0<=v/\v<=9:=λv hv=>by have:=hg.1 v hv;omega
  refine aQ (XL k) λs0 hs0=>?_;conv=>cbv
  refine eqI (λh8=>?_) (λh8=>?_)<;>conv=>cbv
  ·
    repeat' first
      |((first
     |(refine BL (by subst_vars;(try simp only [dl]);omega) (λ_ _ _=>?_))
     |refine B0 ?_|refine B1 ?_ ?_)<;>intros<;>(try conv=>cbv))
    refine hK _ (congrArg AV.str ?_);unfold uL;rw [if_pos h8];subst_vars;rfl
  ·refine bn hl λn hn _=>?_;(conv=>cbv);refine ltI (λhlt=>?_) (λhge=>?_)<;>conv=>cbv
   ·(have hgn:g≠[]:=λe=>by rw [e] at hn;simp at hn;omega);refine bn hl λn2 hn2 _=>?_;(conv=>cbv);(refine bO [1,3,25,26] [27,4] (λ(i:Int) (es:List (List AV))=>([(27,.int .i64 i),(4,.ob 0)],[.row 1 es,.box [.int .i64 k,.sl t 1 rg,.str le,.str co,.int .i64 p]],g.length - i,(0<=i/\i<=g.length)/\es=((g.take i.toNat).map lI).map iQ)) [1,0] ((0,[])) (by dsimp only;exact ⟨by omega,by rfl⟩) λi es hi2 Kn2 hN2=>?_);obtain ⟨⟨h0,h1⟩,h2⟩:=hi2;refine ltI (λhlt2=>?_) (λagt=>?_)<;>conv=>cbv
    ·refine bQ (R:=aN) hl (by omega) λv hv=>?_;have hvb:=hdz v (ae hv);(conv=>cbv);refine aQ (rz v (by omega)) λsd hsd=>?_;(conv=>cbv);refine jA (R:=iQ) (v:=sd) h2 rfl (by rw [al,ba];omega) λes3 xQ=>?_;conv=>cbv
     repeat' first
       |(refine hN2 _ _ [2,1] rfl ⟨?_,?_⟩)
       |(refine hN2 _ _ [3,1] rfl ⟨?_,?_⟩)
       |(refine hN2 _ _ [0,1] rfl ⟨?_,?_⟩)
       |((first
      |refine B0 ?_|refine B1 ?_ ?_)<;>intros<;>(try conv=>cbv))
     all_goals (try clear hN2)
     all_goals first
      |omega
      |(rename_i n3 hn3;rw [xQ,show n3.toNat=i.toNat+1 by omega,cq,hv];simp [hsd])
    ·clear hN2;have hgl:=hg.2;(have hes:es=(g.map lI).map iQ:=by rw [h2,bm (by omega)]);refine aQ (afX ⟨#[43]⟩ hd hes (by simpa using hgn) (by rw [al];omega) (by omega)) λsj hsj=>?_;conv=>cbv
     repeat' first
       |((first
      |(refine BL (by subst_vars;(try simp only [dl]);omega) (λ_ _ _=>?_))
      |refine B0 ?_|refine B1 ?_ ?_)<;>intros<;>(try conv=>cbv))
     all_goals first
      |(refine hK _ (congrArg AV.str ?_);unfold uL;rw [if_neg h8,if_neg hgn,if_pos (by assumption)];subst_vars;exact (Md _).symm)
      |(refine hK _ (congrArg AV.str ?_);unfold uL;rw [if_neg h8,if_neg hgn,if_neg (by assumption)];subst_vars;rfl)
   ·have hgn:g=[]:=by cases g with
     |nil=>rfl
     |cons a l=>simp at hn;omega
    repeat' first
      |((first
     |(refine BL (by subst_vars;(try simp only [dl]);omega) (λ_ _ _=>?_))
     |refine B0 ?_|refine B1 ?_ ?_)<;>intros<;>(try conv=>cbv))
    all_goals first
     |(refine hK _ (congrArg AV.str ?_);unfold uL;rw [if_neg h8,if_pos hgn,if_pos (by assumption)];subst_vars;exact (Md _).symm)
     |(refine hK _ (congrArg AV.str ?_);unfold uL;rw [if_neg h8,if_pos hgn,if_neg (by assumption)];subst_vars;rfl)
theorem WE {p:Int} (h:0<=p/\p<=600):(Nh p).size<=43:=by
 have z1:=oG (n:=p / 10) (by omega);have z2:=oG (n:=p % 10) (by omega);have z46:(⟨#[46]⟩:ByteArray).size=1:=rfl;unfold Nh;split
 ·omega
 ·simp only [dl];omega
theorem Sv {k:Int} {g:List Int} {le:ByteArray} (hs:dS k g le):(uL k g le).size<=120:=by
 have hg:=hs.grp;have zk:=O3 k;have zj:=FI hg.1
 have zl:le.size<=1:=by
  rcases hs.letter with ⟨_,h⟩|⟨_,h|h⟩
  ·exact Nat.le_of_eq h.1
  ·rw [h];decide
  ·rw [h];decide
 have z40:(⟨#[40]⟩:ByteArray).size=1:=rfl;have z41:(⟨#[41]⟩:ByteArray).size=1:=rfl;have zL:(⟨#[43,76,70,108]⟩:ByteArray).size=4:=rfl;have z0:(⟨#[]⟩:ByteArray).size=0:=rfl;unfold uL;repeat' split
 all_goals (simp only [dl];omega)
theorem Gs [St] (k p:Int) (le co:ByteArray) {rg:List (List AV)} {t:Bool} {g:List Int} (hl:rg=g.map aN) (hd:∀w w',eu w w') (hok:gZ k g le co p):AP 152 [.agg [.int .i64 k,.sl t 1 rg,.str le,.str co,.int .i64 p]] AV.str (zF k g le co p):=by
  refine a0 Tryz.func152 λE K hE hK=>?_;have hp:=hok.per;have zh:=Sv hok.2.1;have zs:=WE hp;have zc:=hok.1.2;have z32:(⟨⟨[32]⟩⟩:ByteArray).size=1:=rfl;have zS:(⟨⟨[115]⟩⟩:ByteArray).size=1:=rfl;refine qB (nG k p le co hl) hok ?_;conv=>cbv
  repeat' first
    |((first
   |(refine BL (by subst_vars;(try simp only [dl]);omega) (λ_ _ _=>?_))
   |refine aQ (X0 k p le co hl hd hok.2.1) (λ_ _=>?_)
   |refine aQ (Kq p hp) (λ_ _=>?_)
   |refine B0 ?_|refine B1 ?_ ?_)<;>intros<;>(try conv=>cbv))
  all_goals first
   |(refine hK _ (congrArg AV.str ?_);unfold zF;rw [if_pos (by omega)];subst_vars;exact (Md _).symm)
   |(refine hK _ (congrArg AV.str ?_);unfold zF;rw [if_neg (by omega)];subst_vars;rfl)
theorem O7 [St] (k p:Int) (le co:ByteArray) {rg rs:List (List AV)} {t t':Bool} {g:List Int} {xs:List ByteArray} (hd:∀w w',eu w w') (hl:rg=g.map aN) (hok:gZ k g le co p) (hx:rs=xs.map iQ):AP 79 [.agg [.int .i64 k,.sl t 1 rg,.str le,.str co,.int .i64 p],.sl t' 1 rs] AV.bool (bP (zF k g le co p∈xs)):=by
 refine a0 Tryz.func79 λE K hE hK=>?_;refine aQ (Gs k p le co hl hd hok) λs hs=>?_;conv=>cbv
 refine aF (zB s hx) (λh=>?_) (λh=>?_)<;>conv=>cbv
 ·exact aH hK (aG.2 (by rw [←hs];exact h))
 ·exact aH hK (ah.2 (by rw [←hs];exact h))
theorem aiq {k p:Int} {g:List Int} {le co:ByteArray} (h:gZ k g le co p):zF k g le co p∈["Q W".toUTF8, "VQ W".toUTF8]↔GU 3 k g le co p:=vJ (n:=0) (q:=0) (r:=0) h (by decide) (by decide) (by decide) (by decide +kernel) (by decide +kernel)
theorem aip {k p:Int} {g:List Int} {le co:ByteArray} (h:gZ k g le co p):zF k g le co p∈["Q(3) W 10s".toUTF8, "VQ(3) W 5s".toUTF8]↔GU 4 k g le co p:=vJ (n:=3) (q:=100) (r:=50) h (by decide) (by decide) (by decide) (by decide +kernel) (by decide +kernel)
theorem aio {k p:Int} {g:List Int} {le co:ByteArray} (h:gZ k g le co p):zF k g le co p∈["Q(6)+LFl W 15s".toUTF8, "VQ(6)+LFl W 10s".toUTF8]↔GU 5 k g le co p:=vJ (n:=6) (q:=150) (r:=100) h (by decide) (by decide) (by decide) (by decide +kernel) (by decide +kernel)
theorem ain {k p:Int} {g:List Int} {le co:ByteArray} (h:gZ k g le co p):zF k g le co p∈["Q(9) W 15s".toUTF8, "VQ(9) W 10s".toUTF8]↔GU 6 k g le co p:=vJ (n:=9) (q:=150) (r:=100) h (by decide) (by decide) (by decide) (by decide +kernel) (by decide +kernel)
theorem ail {k p:Int} {g:List Int} {le co:ByteArray} (h:gZ k g le co p):zF k g le co p∈["LFl W 10s".toUTF8]↔k=5/\g=[]/\co=⟨#[87]⟩/\p=100:=by
 rw [cg];exact Z4 h
theorem NC [St] (m k p:Int) (le co:ByteArray) {rg:List (List AV)} {t:Bool} {g:List Int} (hd:∀w w',eu w w') (hl:rg=g.map aN) (hok:gZ k g le co p) (hm:0<=m/\m<=9):AP 33 [.int .i64 m,.agg [.int .i64 k,.sl t 1 rg,.str le,.str co,.int .i64 p]] AV.bool (bP (GU m k g le co p)):=by
  refine a0 Tryz.func33 λE K hE hK=>?_;refine qB (nG k p le co hl) hok ?_;conv=>cbv
  obtain rfl|rfl|rfl|rfl|rfl|rfl|rfl|rfl|rfl|rfl:m=0∨m=1∨m=2∨m=3∨m=4∨m=5∨m=6∨m=7∨m=8∨m=9:=by omega
  all_goals
    repeat' first
      |((first
     |refine aF (O7 k p le co (xs:=[_,_]) hd hl hok rfl) (λ_=>?_) (λ_=>?_)
     |refine aF (O7 k p le co (xs:=[_]) hd hl hok rfl) (λ_=>?_) (λ_=>?_)
     |refine aF (PY (b:=[2]) hl rfl) (λ_=>?_) (λ_=>?_)
     |refine B0 ?_|refine B1 ?_ ?_)<;>intros<;>(try conv=>cbv))
  all_goals first
   |exact aH hK (aG.2 trivial)
   |exact aH hK (aG.2 ((aiq hok).1 (by assumption)))
   |exact aH hK (ah.2 λh=>absurd ((aiq hok).2 h) (by assumption))
   |exact aH hK (aG.2 ((aip hok).1 (by assumption)))
   |exact aH hK (ah.2 λh=>absurd ((aip hok).2 h) (by assumption))
   |exact aH hK (aG.2 ((aio hok).1 (by assumption)))
   |exact aH hK (ah.2 λh=>absurd ((aio hok).2 h) (by assumption))
   |exact aH hK (aG.2 ((ain hok).1 (by assumption)))
   |exact aH hK (ah.2 λh=>absurd ((ain hok).2 h) (by assumption))
   |(refine aH hK (aG.2 ?_);show co=_;assumption)
   |(refine aH hK (ah.2 ?_);show ¬co=_;assumption)
   |(refine aH hK (aG.2 (show co=⟨#[87]⟩/\k=4/\g=[2] from ⟨by assumption,by omega,by assumption⟩)))
   |(refine aH hK (ah.2 λh=>?_);have h:co=⟨#[87]⟩/\k=4/\g=[2]:=h;first|exact absurd h.1 (by assumption)|exact absurd h.2.2 (by assumption)|omega)
   |(have hl8:=ail hok;refine aH hK (aG.2 (show co=⟨#[87]⟩/\(k=3∨k=2∨(k=5/\g=[]/\p=100)∨k=8/\le=⟨#[65]⟩) from ⟨by assumption,?_⟩));first|omega|(have:=hl8.1 (by assumption);exact .inr (.inr (.inl ⟨this.1,this.2.1,this.2.2.2⟩)))|exact .inr (.inr (.inr ⟨by omega,by assumption⟩)))
   |(have hl8:=ail hok;refine aH hK (ah.2 λh=>?_);have h:co=⟨#[87]⟩/\(k=3∨k=2∨(k=5/\g=[]/\p=100)∨k=8/\le=⟨#[65]⟩):=h;first|exact absurd h.1 (by assumption)|(rcases h with ⟨hc,h|h|⟨h1,h2,h3⟩|⟨h1,h2⟩⟩<;>first|omega|exact absurd (hl8.2 ⟨h1,h2,hc,h3⟩) (by assumption)|exact absurd h2 (by assumption)))
theorem aaw [St] {rs rs':List (List AV)} {t t':Bool} {a b:List Int} (ha:rs=a.map aN) (hb:rs'=b.map aN):AP 272 [.sl t 1 rs,.sl t' 1 rs'] AV.bool (bP (a=b)):=by
  refine a0 Tryz.func272 λE K hE hK=>?_
  repeat' first
    |((refine cu [0,1] [5] (λ(i:Int)=>([(5,.int .i64 i)],[],a.length - i,0<=i/\Up (λj=>a[j]? =b[j]?) i)) [] (0) (by dsimp only;exact ⟨by omega,.zero (by omega)⟩) λi hi2 Kn2 hN2=>?_);obtain ⟨h0,hinv⟩:=hi2)
    |(refine hN2 _ [] rfl ⟨?_,?_⟩)
    |((first
   |refine bn ha (λn1 hn1 _=>?_)
   |refine bn hb (λn2 hn2 _=>?_)
   |refine bQ (R:=aN) ha (by omega) (λu hu=>?_)
   |refine bQ (R:=aN) hb (by omega) (λv hv=>?_)
   |refine B0 ?_|refine B1 ?_ ?_)<;>intros<;>(try conv=>cbv))
  all_goals (try clear hN2)
  all_goals first
   |omega
   |exact hinv.succ (show a[i.toNat]? =b[i.toNat]? from by rw [hu,hv];exact congrArg some (by omega)) (by assumption)
   |exact aH hK (aG.2 (ag5 hinv (by omega) (by omega)))
   |(refine aH hK (ah.2 λh=>?_);subst h;first|omega|(rw [hu] at hv;cases hv;omega))
theorem l5 [St] (k p q r:Int) (le co:ByteArray) {rg rs:List (List AV)} {t t':Bool} {g m:List Int} (hl:rg=g.map aN) (hm:rs=m.map aN):AP 193 [.pp [.int .i64 k,.sl t 1 rg,.str le,.str co,.int .i64 p],.int .i64 q,.sl t' 1 rs,.int .i64 r] AV.bool (bP (k=q/\g=m/\(r<0∨p=r))):=by
  refine a0 Tryz.func193 λE K hE hK=>?_
  repeat' first
    |((first
   |refine aF (aaw hl hm) (λ_=>?_) (λ_=>?_)
   |refine B0 ?_|refine B1 ?_ ?_)<;>intros<;>(try conv=>cbv))
  all_goals first
   |exact aH hK (aG.2 ⟨by omega,by assumption,by omega⟩)
   |(refine aH hK (ah.2 λh=>?_);obtain ⟨h1,h2,h3⟩:=h;first|omega|contradiction)
theorem Xv [St] (k p n slow fast:Int) (le co:ByteArray) {rg:List (List AV)} {t:Bool} {g:List Int} (hl:rg=g.map aN) (hn:0<=slow/\0<=fast):AP 192 [.pp [.int .i64 k,.sl t 1 rg,.str le,.str co,.int .i64 p],.int .i64 n,.int .i64 slow,.int .i64 fast] AV.bool (bP (GL k g le p n slow fast)):=by
  refine a0 Tryz.func192 λE K hE hK=>?_;refine eqI (λh0=>?_) (λh0=>?_)<;>conv=>cbv
  all_goals (refine eqI (λh6=>?_) (λh6=>?_)<;>conv=>cbv)
  all_goals (refine rJ (λhs=>?_) (λhs=>?_)<;>conv=>cbv)
  all_goals
    repeat' first
      |((first
     |refine aF (l5 k p 6 slow le co (m:=[]) hl rfl) (λ_=>?_) (λ_=>?_)
     |refine aF (l5 k p 7 fast le co (m:=[]) hl rfl) (λ_=>?_) (λ_=>?_)
     |refine aF (l5 k p 6 slow le co (m:=[n]) hl rfl) (λ_=>?_) (λ_=>?_)
     |refine aF (l5 k p 7 fast le co (m:=[n]) hl rfl) (λ_=>?_) (λ_=>?_)
     |refine B0 ?_|refine B1 ?_ ?_)<;>intros<;>(try conv=>cbv))
  all_goals first
   |(refine aH hK (aG.2 ?_);rename_i h;unfold GL;(first|rw [if_pos h6]|rw [if_neg h6]);refine ⟨hs,?_⟩;(first|rw [if_pos h0]|rw [if_neg h0]);first|exact .inl ⟨h.1,h.2.1,by omega⟩|exact .inr ⟨h.1,h.2.1,by omega⟩)
   |(refine aH hK (ah.2 λh=>?_);unfold GL at h;(first|rw [if_pos h6] at h|rw [if_neg h6] at h);first|exact absurd h.1 hs|(rename_i ha hb;(first|rw [if_pos h0] at h|rw [if_neg h0] at h);rcases h.2 with ⟨h1,h2,h3⟩|⟨h1,h2,h3⟩;exact ha ⟨h1,h2,.inr h3⟩;exact hb ⟨h1,h2,.inr h3⟩))
theorem aan [St] (m k p:Int) (le co:ByteArray) {rg:List (List AV)} {t:Bool} {g:List Int} (hl:rg=g.map aN) (hm:0<=m/\m<=9):AP 126 [.int .i64 m,.pp [.int .i64 k,.sl t 1 rg,.str le,.str co,.int .i64 p]] AV.bool (bP (GU m k g le co p)):=by
  refine a0 Tryz.func126 λE K hE hK=>?_;obtain rfl|rfl|rfl|rfl|rfl|rfl|rfl|rfl|rfl|rfl:m=0∨m=1∨m=2∨m=3∨m=4∨m=5∨m=6∨m=7∨m=8∨m=9:=by omega
  all_goals
    repeat' first
      |((first
     |refine aF (Xv k p _ _ _ le co hl (by decide)) (λ_=>?_) (λ_=>?_)
     |refine aF (l5 k p _ _ le co (m:=[2]) hl rfl) (λ_=>?_) (λ_=>?_)
     |refine aF (l5 k p _ _ le co (m:=[]) hl rfl) (λ_=>?_) (λ_=>?_)
     |refine B0 ?_|refine B1 ?_ ?_)<;>intros<;>(try conv=>cbv))
  all_goals first
   |exact aH hK (aG.2 trivial)
   |(refine aH hK (aG.2 ?_);show co=_;assumption)
   |(refine aH hK (ah.2 ?_);show ¬co=_;assumption)
   |(refine aH hK (ah.2 λh=>?_);have h:co=⟨#[87]⟩/\_:=h;exact absurd h.1 (by assumption))
   |(refine aH hK (aG.2 (show co=⟨#[87]⟩/\GL _ _ _ _ _ _ _ from ⟨by assumption,by assumption⟩)))
   |(refine aH hK (ah.2 λh=>?_);have h:co=⟨#[87]⟩/\GL _ _ _ _ _ _ _:=h;exact absurd h.2 (by assumption))
   |(refine aH hK (aG.2 (show co=⟨#[87]⟩/\k=4/\g=[2] from ⟨by assumption,?_⟩));rename_i h;exact ⟨h.1,h.2.1⟩)
   |(refine aH hK (ah.2 λh=>?_);have q:co=⟨#[87]⟩/\k=4/\g=[2]:=h;rename_i hn;exact hn ⟨q.2.1,q.2.2,.inl (by decide)⟩)
   |(refine aH hK (aG.2 (show co=⟨#[87]⟩/\(k=3∨k=2∨(k=5/\g=[]/\p=100)∨k=8/\le=⟨#[65]⟩) from ⟨by assumption,?_⟩));first|omega|(rename_i h;exact .inr (.inr (.inl ⟨h.1,h.2.1,by omega⟩)))|exact .inr (.inr (.inr ⟨by omega,by assumption⟩)))
   |(refine aH hK (ah.2 λh=>?_);have q:co=⟨#[87]⟩/\(k=3∨k=2∨(k=5/\g=[]/\p=100)∨k=8/\le=⟨#[65]⟩):=h;rcases q.2 with h|h|⟨h1,h2,h3⟩|⟨h1,h2⟩<;>first|omega|contradiction|(rename_i hn;exact hn ⟨h1,h2,.inr h3⟩)|(rename_i hn _;exact hn ⟨h1,h2,.inr h3⟩))
set_option maxHeartbeats 4000000
noncomputable section
def Aid.rhy (v:Aid):Prop:=v.aO≠0/\¬GU v.aP v.aO v.aM v.aB v.ak v.au
def nI (L:List Aid) (j:Int):List Fdg:=(tZ Aid.rhy L j).map λv=>⟨7,lI v.number,eG v.aP mkN⟩
def acw:ByteArray:= "unknown".toUTF8
def aha:ByteArray:= "dark".toUTF8
def aiJ:ByteArray:= "gap".toUTF8
def xY (l:List Scr) (i:Int):Int:=((l.take i.toNat).map λs=>pJ s.frm s.til).sum
def Hw (v:Aid):ByteArray:=if v.aO=0 then aha else if v.aD≠[]/\xY v.aD v.aD.length<360 then aiJ else noS
def ajs:Option Aid->ByteArray
 |some v=>Hw v
 |none=>acw
def Di (L:List Aid) (n:Int):ByteArray:=if nT L n then ajs L[gU L n]? else acw
def acJ (L:List Aid) (n:Int):Fdg:=⟨5,lI n,Di L n⟩
def pF (L:List Aid) (f:List Int) (j:Int):List Fdg:=(tZ (λn=>Di L n≠noS) f j).map (acJ L)
def aez (p:List Int):Fdg:=⟨4,lI (p.getD 0 0),lI (p.getD 1 0)⟩
def Dk (ps:List (List Int)) (j:Int):List Fdg:=(ps.take j.toNat).map aez
def Z7 (L:List Aid) (f:List Int) (ps:List (List Int)):List Fdg:=nI L L.length++pF L f f.length++Dk ps ps.length
end
theorem um (L:List Aid) (j:Int):(nI L j).length<=L.length:=by unfold nI;rw [al];exact tY _ _ _
theorem ug (L:List Aid) (f:List Int) (j:Int):(pF L f j).length<=f.length:=by unfold pF;rw [al];exact tY _ _ _
theorem Gm (ps:List (List Int)) (j:Int):(Dk ps j).length<=ps.length:=by unfold Dk;rw [al,ba];omega
theorem Iq {L:List Aid} {i n:Int} {v:Aid} (h0:0<=i) (hv:L[i.toNat]? =some v) (hn:n=i+1):(v.rhy->nI L n=nI L i++[⟨7,lI v.number,eG v.aP mkN⟩])/\(¬v.rhy->nI L n=nI L i):=by
 have h:=om Aid.rhy h0 hv hn;unfold nI;exact ⟨λhp=>by rw [h.1 hp];simp,λhp=>by rw [h.2 hp]⟩
theorem Ih {L:List Aid} {f:List Int} {i n:Int} {v:Int} (A:List Fdg) (h0:0<=i) (hv:f[i.toNat]? =some v) (hn:n=i+1):(Di L v≠noS->A++pF L f n=(A++pF L f i)++[acJ L v])/\(¬Di L v≠noS->A++pF L f n=A++pF L f i):=by
 have h:=om (λn=>Di L n≠noS) h0 hv hn;unfold pF;exact ⟨λhp=>by rw [h.1 hp];simp,λhp=>by rw [h.2 hp]⟩
theorem Jv {ps:List (List Int)} {i n:Int} {p:List Int} (A:List Fdg) (h0:0<=i) (hv:ps[i.toNat]? =some p) (hn:n=i+1):A++Dk ps n=(A++Dk ps i)++[aez p]:=by
 unfold Dk;rw [show n.toNat=i.toNat+1 by omega,cq,hv];simp
theorem NH {L:List Aid} {i:Int} (h:L.length<=i):nI L i=nI L L.length:=by unfold nI;rw [mF h,mF (by omega)]
theorem Ni {L:List Aid} {f:List Int} {i:Int} (h:f.length<=i):pF L f i=pF L f f.length:=by unfold pF;rw [mF h,mF (by omega)]
theorem Qf {ps:List (List Int)} {i:Int} (h:ps.length<=i):Dk ps i=Dk ps ps.length:=by
 unfold Dk;rw [bm (by omega),bm (by omega)]
theorem Ig (L:List Aid) (f:List Int):pF L f 0=[]:=rfl
theorem Ju (ps:List (List Int)):Dk ps 0=[]:=rfl
theorem JB {l:List Scr} {i n:Int} {v:Scr} (h0:0<=i) (hv:l[i.toNat]? =some v) (hn:n=i+1):xY l n=xY l i+pJ v.frm v.til:=by
 unfold xY;rw [show n.toNat=i.toNat+1 by omega,cq,hv];simp
theorem VO (l:List Scr) (i:Int):0<=xY l i/\xY l i<=360*l.length:=by
 have h:∀m:List Scr,0<=(m.map λs=>pJ s.frm s.til).sum/\(m.map λs=>pJ s.frm s.til).sum<=360*m.length:=λm=>by
  induction m with
  |nil=>simp
  | cons a m ih=>
    have:=sU a.frm a.til;simp only [dj,fS,bi];omega
 have:=h (l.take i.toNat);have h2:=na i.toNat l;rw [ba] at this;unfold xY;omega
theorem Qx {l:List Scr} {i:Int} (h:l.length<=i):xY l i=xY l l.length:=by
 unfold xY;rw [bm (by omega),bm (by omega)]
theorem Jj {L:List Aid} {n:Int} {v:Aid} (h:nT L n) (hv:L[gU L n]? =some v):Di L n=Hw v:=by rw [Di,if_pos h,hv];rfl
theorem Jl {L:List Aid} {n:Int} (h:¬nT L n):Di L n=acw:=if_neg h
theorem Jk (L:List Aid) (n:Int):(Di L n).size<=7:=by
 have h:∀v:Aid,(Hw v).size<=7:=λv=>by
  unfold Hw;(repeat' split);all_goals decide +kernel
 unfold Di;split
 ·cases L[gU L n]? with
  |none=>exact (by decide +kernel:acw.size<=7)
  |some v=>exact h v
 ·decide +kernel
theorem vP {v:Aid} (h:v.ok):v.lit↔v.aO≠0:=by
 rcases h.2.2.2.2.2 with h|h
 ·have:=wW.kind h;exact ⟨λ_=>by omega,λ_=>h⟩
 ·have h0:v.aO=0:=h.1.1;exact ⟨λhl=>by have:=wW.kind hl;omega,λhn=>absurd h0 hn⟩
theorem Ut {l:List Scr} (h:lS l) {s:Scr} (hs:s∈l):(0<=s.frm/\s.frm<=359)/\0<=s.til/\s.til<=359:=by
 obtain ⟨j,hj⟩:=ap hs;have:=jh h.1 hj;unfold kr at this;exact ⟨by omega,by omega,by omega⟩
end Go.Proofs.YtnlhnideeaobpaaGreatDoor
