/- Plain laws: rhythms as lists of lit and dark tenths. -/
import Derived.Test.YtnlhnideeaobpaaGreatDoorQe
import Derived.Test.YtnlhnideeaobpaaGreatDoorFC
import Derived.Test.YtnlhnideeaobpaaGreatDoorFA
import Derived.Test.YtnlhnideeaobpaaGreatDoorFB
import Derived.Test.YtnlhnideeaobpaaGreatDoorQi
import Derived.Lib.IndexLaws
import Derived.Test.YtnlhnideeaobpaaGreatDoorAxU
import Derived.Shelf.Spec.SlicesGrow
namespace Go.Proofs.YtnlhnideeaobpaaGreatDoor
open Go Go.RowKit Classical
set_option maxRecDepth 100000
set_option maxHeartbeats 2000000
set_option linter.unusedVariables false
set_option linter.unusedSimpArgs false
noncomputable section
def bI (b:Bool):Int:=if b then 1 else 0
theorem abK {a b:Bool} (h:bI a=bI b):a=b:=by cases a<;>cases b<;>simp [bI] at h ⊢
def fT:List Bool->Nat
 |[]=>0
 |b::l=>(if b then 2 ^ l.length else 0)+fT l
theorem qc:∀l:List Bool,fT l<2 ^ l.length
 |[]=>by simp [fT]
 | b::l=>by
   have:=qc l;rw [fT,bi,Nat.pow_succ];split<;>omega
theorem Qn:∀a b:List Bool,fT (a++b)=fT a*2 ^ b.length+fT b
 |[],b=>by simp [fT]
 | x::a,b=>by
   rw [fj,fT,Qn a b,fT,am,bz];split
   ·rw [Nat.pow_add];omega
   ·omega
theorem Jz:∀{l:List Bool},fT l=0->∀b∈l,b=false
 |[],_=>by simp
 | b ::l,h=>by
   rw [fT] at h;have hp:=qc l;intro x hx
   cases b with
   |true=>rw [if_pos rfl] at h;omega
   | false=>
     rcases bk.1 hx with e|e
     ·exact e
     ·exact Jz (by omega) x e
theorem AL:∀{a b:List Bool},a.length=b.length->(ig (a.map bI) (b.map bI)<0↔fT a<fT b)
 |[],[],_=>by simp [ig,fT]
 |[],_::_,h=>by simp at h
 |_::_,[],h=>by simp at h
 | x::a,y::b,h=>by
   (have hl:a.length=b.length:=by simpa using h);have ih:=AL hl;have h1:=qc a;have h2:=qc b;rw [hl] at h1;simp only [dj,ig,fT,hl];cases x<;>cases y<;>simp [bI]<;>first|exact ih|omega
theorem Qm:∀{a b:List Bool},a.length=b.length->fT a=fT b->a=b
 |[],[],_,_=>rfl
 |[],_::_,h,_=>by simp at h
 |_::_,[],h,_=>by simp at h
 | x::a,y::b,h,he=>by
   (have hl:a.length=b.length:=by simpa using h);have h1:=qc a;have h2:=qc b;rw [hl] at h1;simp only [fT,hl] at he;(have hxy:x=y:=by cases x<;>cases y<;>simp at he ⊢ <;>omega);subst hxy;rw [Qm hl (by split at he<;>omega)]
def rot {α:Type} (l:List α) (k:Nat):List α:=l.drop k++l.take k
theorem jV {α:Type} (l:List α) (k:Nat):(rot l k).length=l.length:=by
 unfold rot;rw [am,ct,ba];omega
theorem Ku {α:Type} (l:List α) {k i:Nat} (hk:k<=l.length) (hi:i<l.length):(rot l k)[i]? =l[(k+i) % l.length]?:=by
 unfold rot;rw [cw,ct];split
 ·rw [bv,dp (by omega)]
 ·rw [be,if_pos (by omega)];congr 1;rw [gw (by omega),dp (by omega)];omega
theorem yH {α:Type} (l:List α):rot l 0=l:=by simp [rot]
theorem Nw {α:Type} (l:List α):rot l l.length=l:=by simp [rot]
def qE (l r:List Bool):Prop:=(∃t,t<=l.length/\r=rot l t)/\∀t,t<=l.length->fT r<=fT (rot l t)
theorem qE.uniq {l r s:List Bool} (h:qE l r) (g:qE l s):r=s:=by
 obtain ⟨⟨t,ht,rfl⟩,h2⟩:=h;obtain ⟨⟨u,hu,rfl⟩,g2⟩:=g;refine Qm (by rw [jV,jV]) ?_;have:=h2 u hu;have:=g2 t ht;omega
def II (l:List Bool):List Bool:=Classical.epsilon (qE l)
theorem qE.eq {l r:List Bool} (h:qE l r):II l=r:=(mr ⟨r,h⟩:qE l (II l)).uniq h
theorem Zv {l:List Bool} {t:Nat} {b:Bool} (h0:0<t) (ht:t<=l.length) (hb:l[t - 1]? =some b):∃w,rot l t=w++[b]/\rot l (t - 1)=b::w:=by
 have hlt:t - 1<l.length:=by omega
 have hb':l[t - 1]=b:=by rw [ag hlt] at hb;exact ee hb
 refine ⟨l.drop t++l.take (t - 1),?_,?_⟩
 ·unfold rot;rw [cT];congr 1;(conv=>lhs;rw [show t=t - 1+1 by omega,cq,hb]);rfl
 ·unfold rot;rw [ck hlt,hb',show t - 1+1=t by omega];rfl
theorem G9 {l r:List Bool} (h1:∃t,t<=l.length/\r=rot l t) (h0:fT r<=fT l)
  (hb:∀t,t<l.length->l[t]?≠l[(t+l.length - 1) % l.length]?->fT r<=fT (rot l t)):qE l r:=by
 refine ⟨h1,?_⟩
 have hmin:∃t,t<=l.length/\∀u,u<=l.length->fT (rot l t)<=fT (rot l u):=by
  have key:∀n,∃t,t<=n/\∀u,u<=n->fT (rot l t)<=fT (rot l u):=by
   intro n
   induction n with
   |zero=>exact ⟨0,aq _,λu hu=>by rw [show u=0 by omega];exact aq _⟩
   | succ n ih=>
     obtain ⟨t,ht,h⟩:=ih;by_cases hc:fT (rot l t)<=fT (rot l (n+1))
     ·refine ⟨t,by omega,λu hu=>?_⟩;by_cases e:u=n+1
      ·rw [e];exact hc
      ·exact h u (by omega)
     ·refine ⟨n+1,aq _,λu hu=>?_⟩;by_cases e:u=n+1
      ·rw [e];exact aq _
      ·have:=h u (by omega);omega
  exact key _
 obtain ⟨t,ht,hm⟩:=hmin
 suffices h:fT r<=fT (rot l t) from λu hu=>cE h (hm u hu)
 by_cases hz:t=0∨t=l.length
 ·have:rot l t=l:=by
   rcases hz with e|e
   ·rw [e];exact yH l
   ·rw [e];exact Nw l
  rw [this];exact h0
 ·(have htl : t<l.length:=by omega);by_cases hbd:l[t]? =l[(t+l.length - 1) % l.length]?
  ·have e1 :(t+l.length - 1) % l.length=t - 1:=by
    rw [gw (by omega),show t+l.length - 1 - l.length=t - 1 by omega,dp (by omega)]
   rw [e1] at hbd;(obtain ⟨b,hb1⟩:∃b,l[t - 1]? =some b:=⟨_,ag (by omega)⟩);(have hb2:l[t]? =some b:=by rw [hbd,hb1]);obtain ⟨w,e2,e3⟩:=Zv (by omega) (by omega) hb1;have hle:=hm (t - 1) (by omega);rw [e2,e3,Qn] at hle;have hwl:=qc w
   have hal :∀x∈l,x=b:=by
    cases b with
    | false=>
      (have hw0:fT w=0:=by simp [fT] at hle;omega);intro x hx
      have hmem:x∈rot l t:=by
       unfold rot;rw [ca];rw [←eJ t l] at hx;rcases ca.1 hx with h|h
       ·exact .inr h
       ·exact .inl h
      rw [e2] at hmem;rcases ca.1 hmem with h|h
      ·exact Jz hw0 x h
      ·simpa using h
    | true =>
      intro x hx
      cases hxx:x with
      |true=>rfl
      | false=>
        rw [hxx] at hx;obtain ⟨u,hu⟩:=ap hx;have hul:=(aa.1 hu).1;have h3:=hm u (by omega)
        have f1:∀(v:Nat) (c:Bool),l[v]? =some c->v<l.length->rot l v=c::(l.drop (v+1)++l.take v):=by
         intro v c hv hvl;unfold rot;rw [ck hvl,(aa.1 hv).2];rfl
        rw [f1 u _ hu hul,f1 t _ hb2 htl] at h3;have h4:=qc (l.drop (u+1)++l.take u);(have e4:(l.drop (u+1)++l.take u).length=l.length - 1:=by rw [am,ct,ba];omega);(have e5:(l.drop (t+1)++l.take t).length=l.length - 1:=by rw [am,ct,ba];omega);rw [fT,fT,e4,e5] at h3;rw [e4] at h4;simp at h3;omega
   have hrep:∀(v:Nat),rot l v=l:=by
    intro v;have e:l=List.replicate l.length b:=m1.2 ⟨rfl,hal⟩;refine (m1.2 ⟨jV l v,λx hx=>?_⟩:rot l v=List.replicate l.length b).trans e.symm;unfold rot at hx;rcases ca.1 hx with h|h
    ·exact hal x (du h)
    ·exact hal x (dd h)
   rw [hrep];exact h0
  ·exact hb t htl hbd
def Rep (l:List Bool) (n:Nat):Prop:=∀t,t<l.length->l[t]? =l[(t+n) % l.length]?
def nE (l:List Bool) (n:Nat):Prop:=1<=n/\Rep l n/\∀m,1<=m->m<n->¬Rep l m
theorem nE.uniq {l:List Bool} {n m:Nat} (h:nE l n) (g:nE l m):n=m:=by
 rcases dq n m with e|e|e
 ·exact absurd h.2.1 (g.2.2 n h.1 e)
 ·exact e
 ·exact absurd g.2.1 (h.2.2 m g.1 e)
def WU (l:List Bool):Nat:=Classical.epsilon (nE l)
theorem nE.eq {l:List Bool} {n:Nat} (h:nE l n):WU l=n:=(mr ⟨n,h⟩:nE l (WU l)).uniq h
theorem Rep.all {l:List Bool} {n:Nat} (h:Rep l n) (t:Nat):l[t % l.length]? =l[(t+n) % l.length]?:=by
 rcases i7 l.length with e|e
 ·rw [cm e];simp
 ·rw [h _ (f8 t e),Nat.mod_add_mod]
theorem Rep.full (l:List Bool):Rep l l.length:=λt ht=>by rw [Nat.add_mod_right,dp ht]
theorem Rep.sub {l:List Bool} {a b:Nat} (h:Rep l a) (g:Rep l b) (hb:b<=a):Rep l (a - b):=λt ht=>by
 have h1:=h.all t;have h2:=g.all (t+(a - b));rw [show t+(a - b)+b=t+a by omega] at h2;rw [h2,←h1,dp ht]
theorem Rep.mod {l:List Bool} {a b:Nat} (h:Rep l a) (g:Rep l b):Rep l (a % b):=by
 induction a using Nat.strongRecOn with
 | _ a ih=>
   by_cases hb:b=0
   ·rw [hb,Nat.mod_zero];exact h
   ·by_cases hab:a<b
    ·rw [dp hab];exact h
    ·rw [gw (by omega)];exact ih (a - b) (by omega) (h.sub g (by omega))
theorem nE.dvd {l:List Bool} {n:Nat} (h:nE l n):l.length % n=0:=by
 have h1:=(Rep.full l).mod h.2.1;have h2:=f8 l.length (show 0<n from h.1);rcases i7 (l.length % n) with e|e
 ·exact e
 ·exact absurd h1 (h.2.2 _ e h2)
theorem nE.le {l:List Bool} {n:Nat} (h:nE l n) (hl:0<l.length):n<=l.length:=by
 refine jz λhlt=>?_;exact h.2.2 l.length hl hlt (Rep.full l)
def Lin (l:List Bool) (n:Nat):Prop:=∀t,t+n<l.length->l[t]? =l[t+n]?
theorem Rep.lin {l:List Bool} {n:Nat} (h:Rep l n):Lin l n:=λt ht=>by
 have:=h t (by omega);rw [this,dp ht]
theorem Lin.mul {l:List Bool} {n:Nat} (h:Lin l n) (t:Nat):∀k,t+k*n<l.length->l[t]? =l[t+k*n]?
 |0,_=>by simp
 | k+1,hk=>by
   rw [bz,nq,←fN] at hk ⊢;rw [h.mul t k (by omega),h _ hk]
theorem Lin.rep {l:List Bool} {n:Nat} (h:Lin l n) (hn:1<=n) (hd:l.length % n=0) (hle:n<=l.length):Rep l n:=λt ht=>by
 by_cases hc:t+n<l.length
 ·rw [h t hc,dp hc]
 ·rw [gw (by omega),dp (by omega)];have hk:l.length=l.length / n*n:=by have:=mi l.length n;rw [hd,fx] at this;omega
  obtain ⟨k,hk2⟩:∃k,l.length=(k+1)*n:=by
   refine ⟨l.length / n - 1,?_⟩;rw [Nat.sub_add_cancel (Nat.div_pos hle hn)];exact hk
  rw [bz,nq] at hk2;have:=h.mul (t+n - l.length) k (by omega);rw [this];congr 1;omega
theorem O6 {l:List Bool} {n:Nat} (hn:1<=n) (hle:n<=l.length) (hd:l.length % n=0) (hl:Lin l n) (hm:∀m,1<=m->m<n->l.length % m=0->¬Lin l m):nE l n:=by
 refine ⟨hn,hl.rep hn hd hle,λm h1 h2 hr=>?_⟩;by_cases hex:∃q,nE l q/\q<=m
 ·obtain ⟨q,hq,hqm⟩:=hex;exact hm q hq.1 (by omega) hq.dvd hq.2.1.lin
 ·apply hex
  have key:∀m,1<=m->Rep l m->∃q,nE l q/\q<=m:=by
   intro m
   induction m using Nat.strongRecOn with
   | _ m ih=>
     intro h1 hr;by_cases hp:∃m',1<=m'/\m'<m/\Rep l m'
     ·obtain ⟨m',a,b,c⟩:=hp;obtain ⟨q,hq,hle⟩:=ih m' b a c;exact ⟨q,hq,by omega⟩
     ·exact ⟨m,⟨h1,hr,λm' a b c=>hp ⟨m',a,b,c⟩⟩,aq _⟩
  exact key m h1 hr
def pQ (l:List Bool):List Bool:=l.take (WU l)
abbrev Ph:=Bool×Int
def kE (p:List Ph):List Bool:=p.flatMap λx=>List.replicate x.2.toNat x.1
def tT (acc:List Ph) (b:Bool):List Ph:=
 match acc.getLast? with
 |none=>acc++[(b,1)]
 |some (c,n)=>if c=b then acc.dropLast++[(c,n+1)] else acc++[(b,1)]
def oQ (l:List Bool):List Ph:=l.foldl tT []
def uy (p:List Ph):List Bool:=II (pQ (kE p))
def jnP (p:List Ph):List Ph:=oQ (uy p)
def wN (t:Int) (x y:Ph):Prop:=x.1=y.1/\ -t<=x.2 - y.2/\x.2 - y.2<=t
def Gq (t:Int) (a b:List Ph):Prop:=a.length=b.length/\∃f,f<b.length/\∀i,i<a.length->∃x y,a[i]? =some x/\b[(f+i) % b.length]? =some y/\wN t x y
def Bq (t:Int) (p q:List Ph):Prop:=Gq t (jnP p) (jnP q)
end
noncomputable section
def wD (k:Int) (i:Nat):Bool:=decide (i % 2=0↔k≠2)
def nW (k:Int) (l:List Int):Nat->List Ph
 |0=>[]
 |i+1=>nW k l i++[(wD k i,l.getD i 0)]
def Aw (k:Int) (g:List Int) (t:ByteArray) (p:Int):List Ph:=
 if k=1 then [(true,10)] else if k=3 then [(true,p / 2),(false,p / 2)]
 else if jE k g then [(true,lD k),(false,xR k)]
 else nW k (dM k g t) (dM k g t).length++[(decide (k=2),p - (dM k g t).sum)]
theorem zQ (k:Int) (l:List Int):∀i,(nW k l i).length=i
 |0=>rfl
 |i+1=>by rw [nW,am,zQ k l i];rfl
theorem Qz (k:Int) (l:List Int):∀i,i<=l.length->((nW k l i).map Prod.snd).sum=(l.take i).sum
 |0,_=>by simp [nW]
 | i+1,h=>by
   rw [nW,db,il,Qz k l i (by omega),cq,il,ad,ag (by omega)];simp
theorem QA (k:Int) (l:List Int):∀i,i<=l.length->∀x∈nW k l i,x.2∈l
 |0,_,x,h=>by simp [nW] at h
 | i +1,hl,x,h=>by
   rw [nW] at h;rcases ca.1 h with h|h
   ·exact QA k l i (by omega) x h
   ·rw [cg] at h;rw [h,ad,ag (by omega)];simp
theorem QB (k:Int) (l m:List Int):∀i,i<=l.length->nW k (l++m) i=nW k l i
 |0,_=>rfl
 | i+1,h=>by
   rw [nW,nW,QB k l m i (by omega),ad,ad,br (by omega)]
theorem FK (f g:Int) (b:Bool):∀k:Nat,(gB f g b k).length % 2=if b=true/\0<k then 1 else 0
 |0=>by simp [gB]
 | k +1=>by
   have ih:=FK f g b k;rw [gB,am,am];by_cases hk:k=0
   ·subst hk;cases b<;>simp [gB]
   ·cases b with
    |false=>simp [hk] at ih ⊢;omega
    |true=>rw [if_pos ⟨rfl,by omega⟩] at ih;simp [hk];omega
theorem EG {f g:Int} {l:List Int} (h:∀x∈l,1<=x):∀i:Nat,i<=l.length->(gW f g l i).length % 2=if 0<i then 1 else 0
 |0,_=>by simp [gW]
 | i +1,hi=>by
   have ih:=EG (f:=f) (g:=g) h i (by omega);have h1:=FK f g (i == 0) (l.getD i 0).toNat
   have h2:1<=l.getD i 0:=by
    rw [ad,ag (by omega)];exact h _ (er _)
   rw [gW,am,if_pos (by omega)];by_cases e:i=0
   ·subst e;rw [if_pos ⟨rfl,by omega⟩] at h1;rw [if_neg (by omega)] at ih;omega
   ·rw [if_neg (by simp [e])] at h1;rw [if_pos (by omega)] at ih;omega
theorem Og (s:ByteArray):∀j:Nat,(rY s j).length % 2=if 0<j then 1 else 0
 |0=>by simp [rY]
 | j +1=>by
   have ih:=Og s j;rw [rY,am,am];by_cases e:j=0
   ·subst e;simp [rY]
   ·rw [if_pos (by omega)] at ih;simp [e];omega
theorem QZ {k:Int} {g:List Int} {t:ByteArray} (h:dS k g t):(dM k g t).length % 2=1:=by
 unfold dM;split
 ·rename_i h8;rcases h.letter with ⟨_,h1⟩|⟨h1,_⟩
  ·have h2:=o7 _ (qI h1);rw [Og,if_pos];have:=h2.1;rw [Ne,Z8] at this;omega
  ·exact absurd h8 h1
 ·have h1:=qW h.grp;have h2:=EG (f:=lD k) (g:=xR k) (l:=mW g) (λx hx=>(h1.1 x hx).1) (mW g).length (aq _);rw [if_pos (by omega)] at h2;rw [am];split<;>simp<;>omega
theorem G6 {k:Int} {t:ByteArray} (hk:k=6∨k=7) (ht:t=noS):dM k [] t=[lD k]:=by
 unfold dM;rw [if_neg (by omega),if_pos ht];rfl
theorem dS.noL {k:Int} {t:ByteArray} (h:dS k [] t) (hk:k=6∨k=7):t=noS:=by
 rcases h with h|h|⟨_,⟨h,_⟩|⟨_,h⟩⟩|h
 ·omega
 ·omega
 ·exact h
 ·simp at h
 ·omega
def yj (p:List Ph):Prop:=p.length<=100/\(∀x∈p,0<=x.2)/\1<=(p.map Prod.snd).sum/\(p.map Prod.snd).sum<=1000
theorem DF {k:Int} {g:List Int} {t c:ByteArray} {p:Int} (h:gZ k g t c p):yj (Aw k g t p):=by
 obtain ⟨_,hs,h0,h1⟩:=h;have htb:=oh hs;have hsb:=wY htb.2;have hrb:=yJ k;have hfb:=oD k;have hgb:=sI k;unfold Aw;split
 ·exact ⟨by simp,by simp,by simp,by simp⟩
 ·rename_i hk1
  have hl3:k=3->20<=p/\p<=600:=λhk=>by
   (have hns:¬jE k g:=by rintro (h|h)<;>omega);have:=h1 hns;unfold kJ at this;rw [if_neg hns,if_pos hk] at this;omega
  split
  ·rename_i hk3;have:=hl3 hk3;refine ⟨by simp,λx hx=>?_,?_,?_⟩
   ·simp at hx;rcases hx with rfl|rfl<;>simp<;>omega
   ·simp;omega
   ·simp;omega
  ·rename_i hk3;split
   ·refine ⟨by simp,λx hx=>?_,?_,?_⟩
    ·simp at hx;rcases hx with rfl|rfl<;>simp<;>omega
    ·simp;omega
    ·simp;omega
   ·rename_i hns;have h2:=h1 hns
    have h3:(dM k g t).sum+qL k<=p:=by
     have:=h2.1;unfold kJ at this;rw [if_neg hns,if_neg hk3] at this;split at this<;>omega
    have h4:=Qz k (dM k g t) (dM k g t).length (aq _);rw [ka] at h4;refine ⟨by rw [am,zQ];simp;omega,λx hx=>?_,?_,?_⟩
    ·rcases ca.1 hx with hx|hx
     ·exact (htb.2 _ (QA _ _ _ (aq _) x hx)).1
     ·rw [cg] at hx;rw [hx];simp only;omega
    ·rw [db,il,h4];simp;omega
    ·rw [db,il,h4];simp;omega
theorem MP:∀{p:List Ph},(∀x∈p,0<=x.2)->((kE p).length:Int)=(p.map Prod.snd).sum
 |[],_=>rfl
 | x::p,h=>by
   have ih:=MP (p:=p) λy hy=>h y (by simp [hy]);have hx:=h x (by simp);rw [kE] at ih ⊢;rw [fX,am,eI,dj,fS,←ih];omega
theorem yj.ten {p:List Ph} (h:yj p):1<=(kE p).length/\(kE p).length<=1000:=by
 have:=MP h.2.1;obtain ⟨_,_,h1,h2⟩:=h;omega
theorem zY {p:List Ph} {i:Nat} {x:Ph} (hx:p[i]? =some x):kE (p.take (i+1))=kE (p.take i)++List.replicate x.2.toNat x.1:=by
 rw [cq,hx];simp [kE]
theorem acr (p:List Ph) (i:Nat):(kE (p.take i)).length<=(kE p).length:=by
 conv=>rhs;rw [←eJ i p]
 unfold kE;rw [List.flatMap_append,am];exact Nat.le_add_right _ _
theorem xJ {l:List Bool} {i:Nat} {b:Bool} (h:l[i]? =some b):oQ (l.take (i+1))=tT (oQ (l.take i)) b:=by
 unfold oQ;rw [cq,h,List.foldl_append];rfl
theorem Af {acc:List Ph} {b:Bool} (h:acc.length=0):tT acc b=acc++[(b,1)]:=by
 rw [cm h];rfl
theorem Ib {acc:List Ph} {b:Bool} {x:Ph} (h:acc[acc.length - 1]? =some x) (hne:x.1≠b):tT acc b=acc++[(b,1)]:=by
 unfold tT;rw [lL,h];exact if_neg hne
theorem Ia {acc:List Ph} {b:Bool} {x:Ph} (h:acc[acc.length - 1]? =some x) (he:x.1=b):tT acc b=acc.set (acc.length - 1) (x.1,x.2+1):=by
 have hl:=(aa.1 h).1;unfold tT;rw [lL,h];show (if x.1=b then acc.dropLast++[(x.1,x.2+1)] else _)=_;rw [if_pos he];refine cC λj=>?_;rw [cw,List.length_dropLast,bh];by_cases h1:j<acc.length - 1
 ·rw [if_pos h1,if_neg (by omega),List.getElem?_dropLast,if_pos h1]
 ·rw [if_neg h1];by_cases h2:j=acc.length - 1
  ·subst h2;rw [if_pos rfl,if_pos hl,kj];rfl
  ·rw [if_neg (by omega),ar (by simp;omega),ar (by omega)]
theorem Zc {acc:List Ph} {b:Bool} {n:Int} (h:∀x∈acc,1<=x.2/\x.2<=n) (h0:0<=n):(tT acc b).length<=acc.length+1/\∀x∈tT acc b,1<=x.2/\x.2<=n+1:=by
 rcases i7 acc.length with e|e
 ·rw [Af e];refine ⟨by simp,λx hx=>?_⟩;rcases ca.1 hx with hx|hx
  ·have:=h x hx;omega
  ·rw [cg] at hx;rw [hx];simp only;omega
 ·(obtain ⟨x,hx⟩:∃x,acc[acc.length - 1]? =some x:=⟨_,ag (by omega)⟩);have hxb:=h x (ae hx);by_cases he:x.1=b
  ·rw [Ia hx he];refine ⟨by simp,λy hy=>?_⟩;rcases f9 hy with hy|hy
   ·have:=h y hy;omega
   ·rw [hy];simp only;omega
  ·rw [Ib hx he];refine ⟨by simp,λy hy=>?_⟩;rcases ca.1 hy with hy|hy
   ·have:=h y hy;omega
   ·rw [cg] at hy;rw [hy];simp only;omega
theorem ze {l:List Bool}:∀i:Nat,i<=l.length->(oQ (l.take i)).length<=i/\∀x∈oQ (l.take i),1<=x.2/\x.2<=i
 |0,_=>by simp [oQ]
 | i+1,h=>by
   obtain ⟨h1,h2⟩:=ze (l:=l) i (by omega);(obtain ⟨b,hb⟩:∃b,l[i]? =some b:=⟨_,ag (by omega)⟩);rw [xJ hb];have:=Zc (b:=b) h2 (by omega);refine ⟨by omega,λx hx=>?_⟩;have:=this.2 x hx;omega
theorem XP (l:List Bool):(oQ l).length<=l.length/\∀x∈oQ l,1<=x.2/\x.2<=l.length:=by
 have:=ze (l:=l) l.length (aq _);rwa [ka] at this
end
noncomputable section
def iX (c:UInt8) (b:Bool):ByteArray:=if b then ⟨#[c]⟩ else noS
def byI (c:UInt8) (b:Bool):Int:=if b then (c.toNat:Int) else 0
def phR (c:UInt8) (x:Ph):List AV:=[.str (iX c x.1),.int .i64 x.2]
def tnR (c:UInt8) (b:Bool):List AV:=[.str (iX c b)]
def byR (c:UInt8) (b:Bool):List AV:=[.int .u8 (byI c b)]
theorem LK (c:UInt8):(⟨#[c]⟩:ByteArray)≠noS:=by unfold noS;simp
theorem iG {c:UInt8} {a b:Bool}:iX c a=iX c b↔a=b:=by
 cases a<;>cases b<;>simp [iX,LK,cI (LK c)]
theorem Yp {c:UInt8} {b:Bool}:iX c b=noS↔b=false:=by
 cases b<;>simp [iX,LK]
theorem D5 {c:UInt8} (hc:c≠0) {a b:Bool}:byI c a=byI c b↔a=b:=by
 have:c.toNat≠0:=λh=>hc (mn.1 h);cases a<;>cases b<;>simp [byI]<;>omega
theorem abG {c:UInt8} (hc:c≠0) {a b:Bool}:byI c a<byI c b↔bI a<bI b:=by
 have:c.toNat≠0:=λh=>hc (mn.1 h);cases a<;>cases b<;>simp [byI,bI]<;>omega
theorem abF {c:UInt8} (hc:c≠0) {b:Bool}:byI c b=0↔b=false:=by
 have:c.toNat≠0:=λh=>hc (mn.1 h);cases b<;>simp [byI]<;>omega
theorem Ws (c:UInt8) (a b:Bool):strLt (iX c a) (iX c b)↔bI a<bI b:=by
 unfold strLt;rw [jq,jq];cases a<;>cases b<;>simp [iX,noS,bI,Op.bytesLess]
theorem aby (c:UInt8) (a b:Bool):Yt (iX c a) (iX c b)=Dl (bI a) (bI b):=by
 unfold Yt Dl;simp only [Ws]
theorem Yx (c:UInt8):bytesOf [byI c true]=⟨#[c]⟩:=by
 unfold bytesOf byI;simp;rfl
theorem aei {s:ByteArray} {i:Nat} (h:i<s.size):s.extract i (i+1)=⟨#[s.data.getD i 0]⟩:=by
 have hd:i<s.data.size:=h
 have e:(s.extract i (i+1)).data=#[s.data.getD i 0]:=by
  rw [ByteArray.data_extract];apply Array.ext
  ·simp;omega
  ·intro j h1 h2;(have:j=0:=by simpa using h2);subst this;simp [Array.getD];intro h3;exact absurd h3 (by omega)
 cases hx:s.extract i (i+1) with
 |mk d=>rw [hx] at e;simp only at e;rw [e]
def X3 (d:ByteArray) (b:UInt8):Prop:=∃j,j<d.size/\d.data.getD j 0=b
def afy (c d:ByteArray):Prop:=∃i,i<c.size/\X3 d (c.data.getD i 0)
def uT (c d:Chr) (t:Int):Prop:=afy c.colors d.colors/\Bq t (Aw c.kind c.group c.letter c.period) (Aw d.kind d.group d.letter d.period)
def nO (a:Aid):Chr:=⟨a.aO,a.aM,a.aB,a.ak,a.au⟩
theorem aaV {d:ByteArray} {b:UInt8}:0<=Lib.indexByte d.data.toList b↔X3 d b:=by
 constructor
 ·intro h;(obtain ⟨o,ho⟩:∃o:Nat,Lib.indexByte d.data.toList b=o:=⟨(Lib.indexByte d.data.toList b).toNat,by omega⟩);have h1:=(Lib.indexByte_some ho).1;have h2:=(aa.1 h1).1;rw [ci] at h2;refine ⟨o,h2,?_⟩;rw [bd] at h1;rw [b9,h1];rfl
 ·rintro ⟨j,hj,rfl⟩;have hg:=Lib.indexByte_ge d.data.toList (d.data.getD j 0);refine Int.not_lt.1 λhlt=>?_;have hn:=Lib.indexByte_none (l:=d.data.toList) (c:=d.data.getD j 0) (by omega) j;apply hn;have hj':j<d.data.size:=hj;rw [bd,b9,cj hj'];rfl
end
variable {E:Env} {P:Program} {np:Nat}
theorem Cm [St] [hE:SE E np P] {es:List (List AV)} {i:Int} {K:List AV->Prop} {p:List Ph} {c:UInt8} (hl:es=p.map (phR c)) (h0:0<=i/\i<p.length) (hk:∀s b n,p[i.toNat]? =some (b,n)->s=iX c b->K [.str s,.int .i64 n]):E.idx es i K:=
 bQ hl h0 λv hv=>hk _ v.1 v.2 hv rfl
theorem FM [St] [hE:SE E np P] {es:List (List AV)} {i:Int} {K:List AV->Prop} {p:List Ph} {c:UInt8} {b:Bool} {n:Int} {s:ByteArray} (hl:es=p.map (phR c)) (h0:0<=i) (hv:p[i.toNat]? =some (b,n)) (hs:s=iX c b) (hk:K [.str s,.int .i64 n]):E.idx es i K:=
 gK hl h0 hv (by subst hs;exact hk)
theorem zo [St] [hE:SE E np P] {es:List (List AV)} {i:Int} {K:List AV->Prop} {l:List Bool} {c:UInt8} (hl:es=l.map (tnR c)) (h0:0<=i/\i<l.length) (hk:∀s b,l[i.toNat]? =some b->s=iX c b->K [.str s]):E.idx es i K:=
 bQ hl h0 λv hv=>hk _ v hv rfl
theorem NoB.tn (c:UInt8) (l:List Bool):NoB (.sl true 1 (l.map (tnR c))):= .rows λ_=> .bW (.str _) .o9
theorem NoB.ph (c:UInt8) (l:List Ph):NoB (.sl true 2 (l.map (phR c))):= .rows λ_=> .bW (.str _) (.bW (.int _ _) .o9)
theorem Y0 {c:UInt8} {X:List Bool} {k kp:Int} {b:Bool} (h0:0<=k) (hkp:kp=k+1):(X++List.replicate k.toNat b++[b]).map (tnR c)=(X++List.replicate kp.toNat b).map (tnR c):=by
 rw [show kp.toNat=k.toNat+1 by omega,m5,←cT]
theorem acn {c:UInt8} {p:List Ph} {i ip k n:Int} {b:Bool} (hp:p[i.toNat]? =some (b,n)) (h0:0<=i) (hip:ip=i+1) (hk:k.toNat=n.toNat):(kE (p.take i.toNat)++List.replicate k.toNat b).map (tnR c)=(kE (p.take ip.toNat)).map (tnR c):=by
 rw [show ip.toNat=i.toNat+1 by omega,zY hp,hk]
theorem Ue {p:List Ph} {i k n:Int} {b:Bool} (hok:yj p) (hp:p[i.toNat]? =some (b,n)) (hk:k<=n/\0<=k):(kE (p.take i.toNat)++List.replicate k.toNat b).length<=1000/\k<=1000:=by
 have h1:=acr p (i.toNat+1);have h2:=hok.ten;rw [zY hp,am,eI] at h1;rw [am,eI];simp only at h1;omega
theorem acj [St] (c:UInt8) {rs:List (List AV)} {t:Bool} {p:List Ph} (hl:rs=p.map (phR c)) (hok:yj p):AP 379 [.sl t 2 rs] (λl:List Bool=> .sl true 1 (l.map (tnR c))) (kE p):=by
  refine ac Tryz.func379 (.tn _ _) λE K hE hK=>?_;refine bn hl λn hn hb=>?_;conv=>cbv
  refine bO [7,8] [9,3] (λ(i:Int) (es:List (List AV))=>([(9,.int .i64 i),(3,.ob 0)],[.row 1 es],n - i,(0<=i/\i<=n)/\es=(kE (p.take i.toNat)).map (tnR c))) [0] ((0,[])) (by dsimp only;exact ⟨by omega,rfl⟩) λi es hi Kn hN=>?_;obtain ⟨⟨h0,h1⟩,h2⟩:=hi;refine ltI (λhlt=>?_) (λhge=>?_)<;>conv=>cbv
  ·refine Cm hl (by omega) λs b m hp hs=>?_;have hm:=hok.2.1 _ (ae hp);simp only at hm;conv=>cbv
   repeat' first
     |((refine bO [5,7,8,9,14] [15,3] (λ(k:Int) (es2:List (List AV))=>([(15,.int .i64 k),(3,.ob 0)],[.row 1 es2,.box [.str s,.int .i64 m]],m - k,(0<=k/\k<=m)/\es2=(kE (p.take i.toNat)++List.replicate k.toNat b).map (tnR c))) [0,1] ((0,es)) (by dsimp only;exact ⟨by omega,by rw [h2];simp⟩) λk es2 hi2 Kn2 hN2=>?_);obtain ⟨⟨k0,k1⟩,h3⟩:=hi2;have hlim:=Ue hok hp ⟨k1,k0⟩)
     |(refine hN2 _ _ [3,1] rfl ⟨?_,?_⟩)
     |(refine hN _ _ [0] rfl ⟨?_,?_⟩)
     |((first
    |refine jA (R:=tnR c) (v:=b) h3 (by rw [hs];rfl) (by omega) (λ_ _=>?_)
    |refine B0 ?_|refine B1 ?_ ?_)<;>intros<;>(try conv=>cbv))
   (all_goals (try clear hN));all_goals (try clear hN2)
   all_goals first
    |omega
    |(rename_i h5 h6;rw [h5];exact Y0 k0 (by assumption))
    |(subst_vars;exact Y0 k0 rfl)
    |(rw [h3];exact acn hp h0 (by assumption) (by omega))
  ·refine hK _ ?_;rw [h2,bm (by omega)];rfl
theorem Oi {k a b:Int} (h:k=a % b) (hb:0<b):0<=k/\k<b:=by
 rw [h];exact ⟨ks _ (by omega),i6 _ hb⟩
theorem UD {l:List Bool} {t n m:Int} {k:Int} {a b:Bool} (h0:0<=t/\0<=n) (hk:k=(t+n) % m) (hm:m=l.length) (ha:l[t.toNat]? =some a) (hb:l[k.toNat]? =some b):l[(t.toNat+n.toNat) % l.length]? =some b:=by
 have e:((t.toNat+n.toNat) % l.length:Nat)=k.toNat:=by
  (have h1:t=(t.toNat:Int):=by omega);(have h2:n=(n.toNat:Int):=by omega);rw [h1,h2,hm] at hk;rw [hk];rw [←Int.natCast_add,←gr,di]
 rw [e];exact hb
theorem ZB [St] (c:UInt8) {rs:List (List AV)} {t:Bool} {l:List Bool} {n:Int} (hl:rs=l.map (tnR c)) (hn:0<=n/\n<=100000) (hb:l.length<=100000):AP 380 [.sl t 1 rs,.int .i64 n] AV.bool (bP (Rep l n.toNat)):=by
  refine a0 Tryz.func380 λE K hE hK=>?_;refine bn hl λm hm hb=>?_;conv=>cbv
  refine cu [0,1,7] [8] (λ(i:Int)=>([(8,.int .i64 i)],[],m - i,(0<=i/\i<=m)/\Up (λj=>l[j]? =l[(j+n.toNat) % l.length]?) i)) [] (0) (by dsimp only;exact ⟨by omega,.zero (by omega)⟩) λi hi Kn hN=>?_;obtain ⟨⟨h0,h1⟩,hinv⟩:=hi
  repeat' first
    |(refine hN _ [] rfl ⟨?_,?_⟩)
    |((first
   |refine bn hl (λm2 hm2 _=>?_)
   |refine iH (a:=i) (b:=n) (by omega) (λa1 ha1=>?_)
   |(refine qM (by omega) (λk hk=>?_);have hk2:=Oi hk (by omega))
   |refine zo (i:=i) hl (by omega) (λs b hb hs=>?_)
   |refine zo (i:=k) hl (by omega) (λs2 b2 hb2 hs2=>?_)
   |refine rJ (λheq=>?_) (λhne=>?_)
   |refine B0 ?_|refine B1 ?_ ?_)<;>intros<;>(try conv=>cbv))
  all_goals (try clear hN)
  all_goals first
   |omega
   |exact hinv.succ (by rw [UD (t:=i) (n:=n) (m:=m2) ⟨h0,hn.1⟩ (by rw [hk,ha1]) (by assumption) hb hb2];rw [hb];congr 1;exact iG.1 (hs.symm.trans (heq.trans hs2))) (by assumption)
   |(refine aH hK (ah.2 λh=>hne ?_);have h3:=h i.toNat (by omega);rw [UD (t:=i) (n:=n) (m:=m2) ⟨h0,hn.1⟩ (by rw [hk,ha1]) (by assumption) hb hb2,hb] at h3;rw [hs,hs2,ee h3])
   |exact aH hK (aG.2 (hinv.all (by omega)))
end Go.Proofs.YtnlhnideeaobpaaGreatDoor
/- Contracts: slices.Grow at the nil slice, slices.Concat of two lists; rotations. -/
namespace Go.Proofs.YtnlhnideeaobpaaGreatDoor
open Go Go.RowKit Go.Shelf Classical
set_option maxRecDepth 100000
set_option maxHeartbeats 2000000
set_option linter.unusedVariables false
set_option linter.unusedSimpArgs false
def SI (P:Program) (t:TypeId) (k b:Nat):Bool:=match P.info? t with
 | some i=>match i.zero with
   |some z=>decide (0<i.size) && decide (i.bytes<=b) && decide (z.cells.size=k)
   |none=>false
 |none=>false
theorem SH {P:Program} {t:TypeId} {k b:Nat} (h:SI P t k b=true):∃i z,P.info? t=some i/\i.zero=some z/\0<i.size/\i.bytes<=b/\z.cells.size=k:=by
 unfold SI at h;split at h
 ·rename_i i hi;split at h
  ·rename_i z hz;simp only [gg,decide_eq_true_eq] at h;exact ⟨i,z,hi,hz,h.1.1,h.1.2,h.2⟩
  ·cases h
 ·cases h
theorem AC.grow [St] {P:Program} {ρ:Ren} (L:Lays8.n4 P ρ) (hent:Enters P (ρ.f 4)) {k:Nat} (hok:SI P (ρ.t 25) k 24=true) {n:Int} (h:0<=n/\n<=1000000):AC P (ρ.f 4) [.fV,.int .i64 n] (λ_:Unit=> .sl true k []) ():=
 ⟨hent, λw vs hg hr=>by
  obtain ⟨u,v,rfl,h1,h2⟩:=ZC hr;cases h1;cases h2;(obtain ⟨m,rfl⟩:∃m:Nat,n=m:=⟨n.toNat,by omega⟩);by_cases h0:m=0
  ·subst h0;refine (Any8.slices_Grow_room L none 0 0 0 w (by omega) (by omega) (by omega) (by omega)).mono ?_;rintro e w' ⟨rfl,rfl⟩;exact ⟨_,λ_=>False,rfl,Keeps.refl _ _,.nil k _ λ_ h=>h,λb hb=>hb.elim⟩
  ·obtain ⟨i,z,hi,hz,hs,hb,hk⟩:=SH hok
   have hbig:(0+m)*i.bytes<=140737488355328:=by
    have:(0+m)*i.bytes<=1000000*24:=fm (by omega) hb;omega
   refine (Any8.slices_Grow_grow L i z hi hz hs none 0 0 m [] w (by omega) (by omega) hbig (by omega) (by simp) (λ_=>rfl) (λa ha=>by cases ha)).mono ?_;rintro e w' ⟨rfl,rfl⟩;have hG:=grownCap_ge w (0+m) 0 (ρ.t 25);refine ⟨_,λb=>b=w.heap.size,rfl,(Keeps.drew w).trans (Keeps.alloc _ _ _),?_,λb hb=>by subst hb;refine ⟨aq _,?_⟩;simp⟩;refine .sl k [] _ w.heap.size _ _ _ (λ_ _ _=>False) (heap_alloc_new w.drew _) (by simp) (by simp) ?_ (by simp) (λi j hi=>by simp at hi) (λi j e a he=>by simp at he) (λx=>⟨.inl,λh=>h.elim id λ⟨_,_,_,_,h⟩=>h.elim⟩) (λ_ _ _ _ h=>h) (λ_ _ _ _ _ _ _ _ _ h=>h.elim);simp only [fW,ff,size_zeroCells,hk,cQ,bw];rw [←bz]
   exact bc _ (by omega)⟩
theorem agz [St] {n:Int} (h:0<=n/\n<=1000000):AC Tryz.prog 420 [.fV,.int .i64 n] (λ_:Unit=> .sl true 1 []) ():=
 AC.grow Tryz.growS (λxs w=>fF Tryz.func420 (by kernel_rfl) rfl xs w) (by kernel_rfl) h
theorem agA [St] {n:Int} (h:0<=n/\n<=1000000):AC Tryz.prog 321 [.fV,.int .i64 n] (λ_:Unit=> .sl true 2 []) ():=
 AC.grow Tryz.growP (λxs w=>fF Tryz.func321 (by kernel_rfl) rfl xs w) (by kernel_rfl) h
def lgR {β:Type} (R:β->List AV) (k:Nat) (x:List β):List AV:=[.sl false k (x.map R)]
theorem Vl [St] {E:Env} {P:Program} {np:Nat} [hE:SE E np P] {β:Type} {R:β->List AV} {k:Nat} {es:List (List AV)} {i:Int} {K:List AV->Prop} {ls:List (List β)} (hl:es=ls.map (lgR R k)) (h0:0<=i/\i<ls.length) (hk:∀x rx,ls[i.toNat]? =some x->rx=x.map R->K [.sl false k rx]):E.idx es i K:=
 bQ hl h0 λv hv=>hk v _ hv rfl
def Gu {β:Type} (ls:List (List β)) (i:Nat):List β:=(ls.take i).flatten
theorem kR {β:Type} {ls:List (List β)} {i n:Int} {x:List β} (h0:0<=i) (hx:ls[i.toNat]? =some x) (hn:n=i+1):Gu ls n.toNat=Gu ls i.toNat++x:=by
 unfold Gu;rw [show n.toNat=i.toNat+1 by omega,cq,hx];simp
theorem pY {β:Type} (ls:List (List β)) (i:Nat):(Gu ls i).length<=ls.flatten.length:=by
 unfold Gu;conv=>rhs;rw [←eJ i ls]
 rw [List.flatten_append,am];omega
theorem Qi {β:Type} {ls:List (List β)} {i:Int} (h:ls.length<=i):Gu ls i.toNat=ls.flatten:=by
 unfold Gu;rw [bm (by omega)]
theorem YV (c:UInt8) (x:List Bool):∀e∈x.map (tnR c),∀a∈e,a.dF=false:=λe he a ha=>by
 obtain ⟨b,_,rfl⟩:=cA.1 he;simp only [tnR,bk,eR,or_false] at ha;subst ha;rfl
theorem ZI (c:UInt8) (x:List Ph):∀e∈x.map (phR c),∀a∈e,a.dF=false:=λe he a ha=>by
 obtain ⟨b,_,rfl⟩:=cA.1 he;simp only [phR,bk,eR,or_false] at ha;rcases ha with rfl|rfl<;>rfl
set_option maxHeartbeats 4000000
theorem abn [St] (c:UInt8) {rs:List (List AV)} {t:Bool} {ls:List (List Bool)} (hl:rs=ls.map (lgR (tnR c) 1)) (hb:ls.flatten.length<=100000):AP 381 [.sl t 1 rs] (λl:List Bool=> .sl true 1 (l.map (tnR c))) ls.flatten:=by
  refine ac Tryz.func381 (.tn _ _) λE K hE hK=>?_;refine bn hl λn hn _=>?_;conv=>cbv
  refine bO [0,9,10] [11,3] (λ(i z:Int)=>([(11,.int .i64 i),(3,.int .i64 z)],[],n - i,(0<=i/\i<=n)/\z=(Gu ls i.toNat).length)) [] ((0,0)) (by dsimp only;exact ⟨by omega,rfl⟩) λi z hi Kn hN=>?_;obtain ⟨⟨h0,h1⟩,h2⟩:=hi;have hc:=pY ls i.toNat;refine ltI (λhlt=>?_) (λhge=>?_)<;>conv=>cbv
  ·refine Vl hl (by omega) λx rx hx hrx=>?_;(conv=>cbv);have hs:=kR h0 hx rfl;have hc2:=pY ls (i+1).toNat;rw [hs,am] at hc2
   repeat' first
     |(refine hN _ _ [] rfl ⟨?_,?_⟩)
     |((first
    |refine bn hrx (λm hm _=>?_)
    |refine B0 ?_|refine B1 ?_ ?_)<;>intros<;>(try conv=>cbv))
   all_goals (try clear hN)
   all_goals first
    |omega
    |(rw [kR h0 hx (by assumption),am];omega)
  ·refine aQ (agz (by omega)) λ_ _=>?_;(conv=>cbv);refine bn hl λn2 hn2 _=>?_;(conv=>cbv);(refine bO [25,26] [27,6] (λ(j:Int) (es:List (List AV))=>([(27,.int .i64 j),(6,.ob 0)],[.row 1 es],n2 - j,(0<=j/\j<=n2)/\es=(Gu ls j.toNat).map (tnR c))) [0] ((0,[])) (by dsimp only;exact ⟨by omega,rfl⟩) λj es hi2 Kn2 hN2=>?_);obtain ⟨⟨j0,j1⟩,h3⟩:=hi2;have hc:=pY ls j.toNat;refine ltI (λhlt=>?_) (λhge=>?_)<;>conv=>cbv
   ·refine Vl hl (by omega) λx rx hx hrx=>?_;(conv=>cbv);have hs:=kR j0 hx rfl;have hc2:=pY ls (j+1).toNat;rw [hs,am] at hc2
    repeat' first
      |(refine hN2 _ _ [1] rfl ⟨?_,?_⟩)
      |((first
     |(refine xA (by rw [hrx];exact YV _ _) ?_)
     |refine zG h3 hrx (by omega) (λes2 gG=>?_)
     |refine B0 ?_|refine B1 ?_ ?_)<;>intros<;>(try conv=>cbv))
    all_goals (try clear hN2)
    all_goals first
     |omega
     |(rw [gG,←kR j0 hx (by assumption)])
   ·refine hK _ ?_;rw [h3,Qi (by omega)];rfl
theorem abo [St] (c:UInt8) {rs:List (List AV)} {t:Bool} {ls:List (List Ph)} (hl:rs=ls.map (lgR (phR c) 2)) (hb:ls.flatten.length<=100000):AP 244 [.sl t 1 rs] (λl:List Ph=> .sl true 2 (l.map (phR c))) ls.flatten:=by
  refine ac Tryz.func244 (.ph _ _) λE K hE hK=>?_;refine bn hl λn hn _=>?_;conv=>cbv
  refine bO [0,9,10] [11,3] (λ(i z:Int)=>([(11,.int .i64 i),(3,.int .i64 z)],[],n - i,(0<=i/\i<=n)/\z=(Gu ls i.toNat).length)) [] ((0,0)) (by dsimp only;exact ⟨by omega,rfl⟩) λi z hi Kn hN=>?_;obtain ⟨⟨h0,h1⟩,h2⟩:=hi;have hc:=pY ls i.toNat;refine ltI (λhlt=>?_) (λhge=>?_)<;>conv=>cbv
  ·refine Vl hl (by omega) λx rx hx hrx=>?_;(conv=>cbv);have hs:=kR h0 hx rfl;have hc2:=pY ls (i+1).toNat;rw [hs,am] at hc2
   repeat' first
     |(refine hN _ _ [] rfl ⟨?_,?_⟩)
     |((first
    |refine bn hrx (λm hm _=>?_)
    |refine B0 ?_|refine B1 ?_ ?_)<;>intros<;>(try conv=>cbv))
   all_goals (try clear hN)
   all_goals first
    |omega
    |(rw [kR h0 hx (by assumption),am];omega)
  ·refine aQ (agA (by omega)) λ_ _=>?_;(conv=>cbv);refine bn hl λn2 hn2 _=>?_;(conv=>cbv);(refine bO [25,26] [27,6] (λ(j:Int) (es:List (List AV))=>([(27,.int .i64 j),(6,.ob 0)],[.row 2 es],n2 - j,(0<=j/\j<=n2)/\es=(Gu ls j.toNat).map (phR c))) [0] ((0,[])) (by dsimp only;exact ⟨by omega,rfl⟩) λj es hi2 Kn2 hN2=>?_);obtain ⟨⟨j0,j1⟩,h3⟩:=hi2;have hc:=pY ls j.toNat;refine ltI (λhlt=>?_) (λhge=>?_)<;>conv=>cbv
   ·refine Vl hl (by omega) λx rx hx hrx=>?_;(conv=>cbv);have hs:=kR j0 hx rfl;have hc2:=pY ls (j+1).toNat;rw [hs,am] at hc2
    repeat' first
      |(refine hN2 _ _ [1] rfl ⟨?_,?_⟩)
      |((first
     |(refine xA (by rw [hrx];exact ZI _ _) ?_)
     |refine zG h3 hrx (by omega) (λes2 gG=>?_)
     |refine B0 ?_|refine B1 ?_ ?_)<;>intros<;>(try conv=>cbv))
    all_goals (try clear hN2)
    all_goals first
     |omega
     |(rw [gG,←kR j0 hx (by assumption)])
   ·refine hK _ ?_;rw [h3,Qi (by omega)];rfl
set_option maxHeartbeats 2000000
set_option maxHeartbeats 4000000
theorem Rep.per {l:List Bool} (h:1<=l.length):∃n,nE l n/\n<=l.length:=by
 have key:∀m,1<=m->Rep l m->∃q,nE l q/\q<=m:=by
  intro m
  induction m using Nat.strongRecOn with
  | _ m ih=>
    intro h1 hr;by_cases hp:∃m',1<=m'/\m'<m/\Rep l m'
    ·obtain ⟨m',a,b,c⟩:=hp;obtain ⟨q,hq,hle⟩:=ih m' b a c;exact ⟨q,hq,by omega⟩
    ·exact ⟨m,⟨h1,hr,λm' a b c=>hp ⟨m',a,b,c⟩⟩,aq _⟩
 exact key _ h (Rep.full l)
theorem EJ {l:List Bool} (h:1<=l.length):1<=(pQ l).length/\(pQ l).length<=l.length:=by
 obtain ⟨n,hn,hl⟩:=Rep.per h;unfold pQ;rw [hn.eq,ba];have:=hn.1;omega
theorem RB [St] (c:UInt8) {rs:List (List AV)} {t:Bool} {p:List Ph} (hl:rs=p.map (phR c)) (hok:yj p):AP 318 [.sl t 2 rs] (λl:List Bool=> .sl true 1 (l.map (tnR c))) (pQ (kE p)):=by
  refine ac Tryz.func318 (.tn _ _) λE K hE hK=>?_;have PD:=hok.ten;refine dJ (acj c hl hok) λr1 hr1=>?_;conv=>cbv
  obtain ⟨l,hL⟩:∃l,l=kE p:=⟨_,rfl⟩
  rw [←hL] at hr1 PD;obtain ⟨pe,hq,hql⟩:=Rep.per PD.1;refine cu [] [4,3] (λ(n:Int)=>([(4,.int .i64 n),(3,.ob 0)],[.row 1 r1],pe - n,(1<=n/\n<=pe)/\∀m,1<=m->m<n.toNat->¬Rep l m)) [0] (1) (by dsimp only;exact ⟨⟨by omega,by have:=hq.1;omega⟩,λm h1 h2=>by omega⟩) λn hi Kn hN=>?_;obtain ⟨⟨h0,h1⟩,hinv⟩:=hi;refine aF (ZB c hr1 (by omega) (by omega)) (λhr=>?_) (λhr=>?_)<;>conv=>cbv
  ·have aja:nE l n.toNat:=⟨by omega,hr,hinv⟩
   repeat' first
     |((first
    |(refine tQ hr1 (by simp only [bp,cD];omega) (λr2 hr2=>?_))
    |refine B0 ?_|refine B1 ?_ ?_)<;>intros<;>(try conv=>cbv))
   exact hK _ (by rw [hr2,pQ,←hL,aja.eq];simp;rfl)
  ·have hlt:n<pe:=by
    rcases mc n pe with h|h
    ·exact h
    ·exact absurd (by rw [show n.toNat=pe by omega];exact hq.2.1) hr
   repeat' first
     |(refine hN _ [0] rfl ⟨?_,?_⟩)
     |((first
    |refine B0 ?_|refine B1 ?_ ?_)<;>intros<;>(try conv=>cbv))
   all_goals (try clear hN)
   all_goals first
    |omega
    |(intro m h1 h2;by_cases hm:m=n.toNat<;>first|(rw [hm];exact hr)|exact hinv m h1 (by omega))
theorem Nv [St] (c:UInt8) {rs:List (List AV)} {t:Bool} {l:List Bool} {k:Int} (hl:rs=l.map (tnR c)) (hk:0<=k/\k<=l.length) (hb:l.length<=1000):AP 319 [.sl t 1 rs,.int .i64 k] (λl:List Bool=> .sl true 1 (l.map (tnR c))) (rot l k.toNat):=by
  refine ac Tryz.func319 (.tn _ _) λE K hE hK=>?_
  repeat' first
    |((first
   |(refine tQ (lo:=some k) (hi:=none) hl (by simp only [bp,cD];omega) (λra hra=>?_))
   |(refine tQ (lo:=none) (hi:=some k) hl (by simp only [bp,cD];omega) (λrb hrb=>?_))
   |(refine dJ (abn c (ls:=[l.drop k.toNat,l.take k.toNat]) (by rw [hra,hrb];simp [lgR]) (by simp;omega)) (λrc hrc=>?_))
   |refine B0 ?_|refine B1 ?_ ?_)<;>intros<;>(try conv=>cbv))
  all_goals (refine hK _ ?_;rw [hrc];simp [rot];rfl)
set_option maxHeartbeats 2000000
set_option maxHeartbeats 4000000
variable {E:Env} {P:Program} {np:Nat}
def YF (a b:List Bool) (i:Int):Prop:=∀j:Nat,(j:Int)<i->∃x,a[j]? =some x/\b[j]? =some x
theorem YF.pre {a b:List Bool} {i:Int} (h:YF a b i):Pre (a.map bI) (b.map bI) i:=λj hj=>by
 obtain ⟨x,h1,h2⟩:=h j hj;exact ⟨bI x,by rw [ai,h1];rfl,by rw [ai,h2];rfl⟩
theorem KS {a:List Bool} {i:Nat} {x:Bool} (h:a[i]? =some x):(a.map bI)[i]? =some (bI x):=by rw [ai,h];rfl
theorem Gj [St] (c:UInt8) {rs rs':List (List AV)} {t t':Bool} {a b:List Bool} (ha:rs=a.map (tnR c)) (hb:rs'=b.map (tnR c)):AP 320 [.sl t 1 rs,.sl t' 1 rs'] (AV.int .i64) (ig (a.map bI) (b.map bI)):=by
  refine a0 Tryz.func320 λE K hE hK=>?_;refine bn ha (λn1 hn1 _=>?_);conv=>cbv
  refine cu [0,1,9,10] [11] (λ(i:Int)=>([(11,.int .i64 i)],[],a.length - i,(0<=i/\i<=a.length)/\YF a b i)) [] (0) (by dsimp only;exact ⟨by omega,λj hj=>by omega⟩) λi hi Kn hN=>?_;obtain ⟨⟨h0,h1⟩,hinv⟩:=hi;have hpl:=hinv.pre.len h0;rw [al,al] at hpl
  repeat' first
    |(refine hN _ [] rfl ⟨⟨?_,?_⟩,?_⟩)
    |((first
   |refine bn hb (λn2 hn2 _=>?_)
   |refine zo ha (by omega) (λs u hu hs=>?_)
   |refine zo hb (by omega) (λs2 v hv hs2=>?_)
   |refine bn ha (λn3 hn3 _=>?_)
   |(refine aQ (Yl _ _) (λy hc=>?_);rw [hs,hs2,aby] at hc)
   |refine B0 ?_|refine B1 ?_ ?_)<;>intros<;>(try conv=>cbv))
  all_goals (try clear hN)
  all_goals first
   |omega
   |(intro j hj;by_cases hji:(j:Int)=i<;>first|(have e:i.toNat=j:=by omega);rw [←e];exact ⟨u,hu,by rw [hv,abK (Bo (hc.symm.trans (by assumption)))]⟩|exact hinv j (by omega))
   |(refine hK _ ?_;rw [KT (hinv.pre.nat h0) (KS hu) (KS hv) (by omega),←hc];rfl)
   |(refine hK _ ?_;rw [IZ (hinv.pre.nat h0) (by rw [al];omega) (by rw [al];omega)];rfl)
   |(refine hK _ ?_;rw [E8 (hinv.pre.nat h0) (by rw [al];omega) (by rw [al];omega)];rfl)
   |(refine hK _ ?_;rw [IY (hinv.pre.nat h0) (by rw [al];omega) (by rw [al];omega)];rfl)
def vg (l b:List Bool) (t:Int):Prop:=(∃k,k<=l.length/\b=rot l k)/\fT b<=fT l/\∀u:Nat,(u:Int)<t->u<l.length->l[u]?≠l[(u+l.length - 1) % l.length]?->fT b<=fT (rot l u)
theorem vg.start (l:List Bool):vg l l 0:=⟨⟨0,mo _,(yH l).symm⟩,aq _,λu hu=>by omega⟩
theorem vg.skip {l b:List Bool} {t n:Int} {x:Bool} (h:vg l b t) (h0:0<=t) (hx:l[t.toNat]? =some x) (hy:l[(t.toNat+l.length - 1) % l.length]? =some x) (hn:n=t+1):vg l b n:=
 ⟨h.1,h.2.1,λu hu hl hne=>by
  by_cases e:u=t.toNat
  ·subst e;exact absurd (hx.trans hy.symm) hne
  ·exact h.2.2 u (by omega) hl hne⟩
theorem vg.keep {l b:List Bool} {t n:Int} (h:vg l b t) (h0:0<=t) (hle:fT b<=fT (rot l t.toNat)) (hn:n=t+1):vg l b n:=
 ⟨h.1,h.2.1,λu hu hl hne=>by
  by_cases e:u=t.toNat
  ·subst e;exact hle
  ·exact h.2.2 u (by omega) hl hne⟩
theorem vg.take {l b:List Bool} {t n:Int} (h:vg l b t) (h0:0<=t/\t<=l.length) (hlt:fT (rot l t.toNat)<fT b) (hn:n=t+1):vg l (rot l t.toNat) n:=
 ⟨⟨t.toNat,by omega,rfl⟩,by have:=h.2.1;omega,λu hu hl hne=>by
   by_cases e:u=t.toNat
   ·subst e;exact aq _
   ·have:=h.2.2 u (by omega) hl hne;omega⟩
theorem vg.done {l b:List Bool} {t:Int} (h:vg l b t) (ht:(l.length:Int)<=t):b=II l:=
 (G9 h.1 h.2.1 λu hu hne=>h.2.2 u (by omega) hu hne).eq.symm
theorem vg.len {l b:List Bool} {t:Int} (h:vg l b t):b.length=l.length:=by
 obtain ⟨k,_,rfl⟩:=h.1;exact jV _ _
theorem VH {l:List Bool} {t a m k:Int} {x:Bool} (h:0<=t/\t<l.length) (hk:k=a % m) (ha:a=t+l.length - 1) (hm:m=l.length) (hx:l[k.toNat]? =some x):l[(t.toNat+l.length - 1) % l.length]? =some x:=by
 have e:((t.toNat+l.length - 1) % l.length:Nat)=k.toNat:=by
  rw [hk,hm,ha];(have e1:t+(l.length:Int) - 1=((t.toNat+l.length - 1:Nat):Int):=by omega);rw [e1,←gr,di]
 rw [e];exact hx
theorem U4 {a b:List Bool} {y:Int} (hl:a.length=b.length) (hy:y=ig (a.map bI) (b.map bI)):y<0↔fT a<fT b:=by
 rw [hy];exact AL hl
theorem UY [St] (c:UInt8) {rs:List (List AV)} {t:Bool} {p:List Ph} (hl:rs=p.map (phR c)) (hok:yj p):AP 243 [.sl t 2 rs] (λl:List Bool=> .sl true 1 (l.map (tnR c))) (uy p):=by
  refine ac Tryz.func243 (.tn _ _) λE K hE hK=>?_;have PD:=hok.ten;have ae5:=EJ PD.1;refine dJ (RB c hl hok) λr1 hr1=>?_;conv=>cbv
  obtain ⟨l,hL⟩:∃l,l=pQ (kE p):=⟨_,rfl⟩
  rw [←hL] at hr1 ae5;refine bn hr1 λm hm _=>?_;conv=>cbv
  refine Z0 [3,11] [12,4] (λ(t:Int) (fl:Bool) (b:List Bool) (eb:List (List AV))=>([(12,.int .i64 t),(4,(bif fl then .ob 0 else .ob 1))],[.row 1 r1,(bif fl then .dead else .row 1 eb)],m - t,(0<=t/\t<=m)/\vg l b t/\eb=b.map (tnR c)/\(fl=true->b=l))) [0,7] ((0,true,l,r1)) (by dsimp only;exact ⟨by omega,vg.start l,hr1,λ_=>rfl⟩) λt fl b eb hi Kn hN=>?_;obtain ⟨⟨h0,h1⟩,hinv,heb,hfl⟩:=hi;have hbl:=hinv.len
  cases fl with
  | true=>
    obtain rfl:=hfl rfl;obtain rfl:eb=r1:=heb.trans hr1.symm;conv=>cbv
    repeat' first
      |(refine hN _ true b eb [0,7] rfl ⟨?_,?_,?_,?_⟩)
      |(refine hN _ false (rot b t.toNat) r3 [0,2] rfl ⟨?_,?_,?_,?_⟩)
      |((first
     |refine bn hr1 (λ_ _ _=>?_)
     |(refine qM (by omega) (λk hk=>?_);have hk2:=Oi hk (by omega))
     |refine zo (i:=t) hr1 (by omega) (λs x hx hs=>?_)
     |refine zo (i:=k) hr1 (by omega) (λs2 x2 hx2 hs2=>?_)
     |refine rJ (λheq=>?_) (λhne=>?_)
     |(refine dJ (Nv c (l:=b) (k:=t) hr1 (by omega) (by omega)) (λr3 hr3=>?_);have hrl:=jV b t.toNat)
     |(refine aQ (Gj c hr3 heb) (λy hy=>?_);have hval:=U4 (by omega) hy)
     |refine B0 ?_|refine B1 ?_ ?_)<;>intros<;>(try conv=>cbv))
    all_goals (try clear hN)
    all_goals first
     |omega
     |assumption
     |exact λ_=>rfl
     |(exact λh=>Bool.noConfusion h)
     |exact hinv.skip h0 hx (by rw [VH (by omega) hk (by omega) (by omega) hx2,iG.1 (hs2.symm.trans (heq.symm.trans hs))]) (by assumption)
     |exact hinv.keep h0 (by omega) (by assumption)
     |exact hinv.take (by omega) (hval.1 (by assumption)) (by assumption)
     |(refine hK _ ?_;rw [uy,←hL,←hinv.done (by omega),heb];rfl)
     |(refine hK _ ?_;rw [uy,←hL,←hinv.done (by omega),←heb];rfl)
     |(refine hK _ ?_;rw [uy,←hL,←hinv.done (by omega),hr1];rfl)
  | false=>
    conv=>cbv
    repeat' first
      |(refine hN _ false b eb [0,1] rfl ⟨?_,?_,?_,?_⟩)
      |(refine hN _ false (rot l t.toNat) r3 [0,2] rfl ⟨?_,?_,?_,?_⟩)
      |((first
     |refine bn hr1 (λ_ _ _=>?_)
     |(refine qM (by omega) (λk hk=>?_);have hk2:=Oi hk (by omega))
     |refine zo (i:=t) hr1 (by omega) (λs x hx hs=>?_)
     |refine zo (i:=k) hr1 (by omega) (λs2 x2 hx2 hs2=>?_)
     |refine rJ (λheq=>?_) (λhne=>?_)
     |(refine dJ (Nv c (l:=l) (k:=t) hr1 (by omega) (by omega)) (λr3 hr3=>?_);have hrl:=jV l t.toNat)
     |(refine aQ (Gj c hr3 heb) (λy hy=>?_);have hval:=U4 (by omega) hy)
     |refine B0 ?_|refine B1 ?_ ?_)<;>intros<;>(try conv=>cbv))
    all_goals (try clear hN)
    all_goals first
     |omega
     |assumption
     |exact λ_=>rfl
     |(exact λh=>Bool.noConfusion h)
     |exact hinv.skip h0 hx (by rw [VH (by omega) hk (by omega) (by omega) hx2,iG.1 (hs2.symm.trans (heq.symm.trans hs))]) (by assumption)
     |exact hinv.keep h0 (by omega) (by assumption)
     |exact hinv.take (by omega) (hval.1 (by assumption)) (by assumption)
     |(refine hK _ ?_;rw [uy,←hL,←hinv.done (by omega),heb];rfl)
     |(refine hK _ ?_;rw [uy,←hL,←hinv.done (by omega),←heb];rfl)
     |(refine hK _ ?_;rw [uy,←hL,←hinv.done (by omega),hr1];rfl)
end Go.Proofs.YtnlhnideeaobpaaGreatDoor
/- Contracts: joined tenths. -/
namespace Go.Proofs.YtnlhnideeaobpaaGreatDoor
open Go Go.RowKit Classical
set_option maxRecDepth 100000
set_option maxHeartbeats 2000000
set_option linter.unusedVariables false
set_option linter.unusedSimpArgs false
set_option maxHeartbeats 4000000
variable {E:Env} {P:Program} {np:Nat}
theorem vT {X:List Ph} {i:Int} {b:Bool} {x:Ph} (hx:X[i.toNat]? =some x) (hi:i=X.length - 1) (he:x.1=b) (h0:0<=i):tT X b=X.set i.toNat (x.1,x.2+1):=by
 have e:i.toNat=X.length - 1:=by omega
 rw [e] at hx ⊢;exact Ia hx he
theorem Jb {X:List Ph} {i:Int} {b:Bool} {x:Ph} (hx:X[i.toNat]? =some x) (hi:i=X.length - 1) (he:x.1≠b) (h0:0<=i):tT X b=X++[(b,1)]:=by
 have e:i.toNat=X.length - 1:=by omega
 rw [e] at hx;exact Ib hx he
theorem ae0 [St] (c:UInt8) {rs:List (List AV)} {t:Bool} {l:List Bool} (hl:rs=l.map (tnR c)) (hb:l.length<=100000):AP 242 [.sl t 1 rs] (λl:List Ph=> .sl true 2 (l.map (phR c))) (oQ l):=by
  refine ac Tryz.func242 (.ph _ _) λE K hE hK=>?_;refine bn hl λn hn _=>?_;conv=>cbv
  refine iR [8,9] [10,3] (λ(i:Int) (X:List Ph) (es:List (List AV))=>([(10,.int .i64 i),(3,.ob 0)],[.row 2 es],n - i,(0<=i/\i<=n)/\es=X.map (phR c)/\X=oQ (l.take i.toNat))) [0] ((0,[],[])) (by dsimp only;exact ⟨by omega,rfl,rfl⟩) λi X es hi Kn hN=>?_;obtain ⟨⟨h0,h1⟩,h2,hX⟩:=hi;obtain ⟨hbl,hbe⟩:=ze (l:=l) i.toNat (by omega);rw [←hX] at hbl hbe;refine ltI (λhlt=>?_) (λhge=>?_)<;>conv=>cbv
  ·refine zo hl (by omega) λs b hb hs=>?_;have hstep:=xJ hb;rw [←hX] at hstep;(conv=>cbv);obtain ⟨j,hj⟩:∃j,j=(X.length:Int) - 1:=⟨_,rfl⟩
   repeat' first
     |(refine hN _ (X.set j.toNat (b2,k2)) _ [0] rfl ⟨?_,gG,?_⟩)
     |(refine hN _ (X++[(b,1)]) _ [2] rfl ⟨?_,xQ,?_⟩)
     |((first
    |refine bn h2 (λm hm _=>?_)
    |(refine eX (by omega) (λj' hj'=>?_);obtain rfl:j=j':=by omega)
    |refine FM h2 (by omega) hx hs2 ?_
    |(refine Cm h2 (by omega) (λs2 b2 k hx hs2=>?_);have hkb:=hbe _ (ae hx);simp only at hkb)
    |refine rJ (λheq=>?_) (λhne=>?_)
    |refine wB (R:=phR c) (b2,k2) h2 (by omega) hx (by exact bt rfl) (by rfl) (λes2 gG=>?_)
    |refine iH (a:=k) (by omega) (λk2 hk2=>?_)
    |refine jA (R:=phR c) (v:=(b,1)) h2 (by rw [hs];rfl) (by omega) (λes3 xQ=>?_)
    |refine B0 ?_|refine B1 ?_ ?_)<;>intros<;>(try conv=>cbv))
   all_goals (try clear hN)
   all_goals first
    |omega
    |(rename_i hip;rw [hip,show (i+1).toNat=i.toNat+1 by omega,hstep,vT hx (by omega) (iG.1 (hs2.symm.trans (heq.trans hs))) (by omega),hk2];done)
    |(rename_i hip;rw [hip,show (i+1).toNat=i.toNat+1 by omega,hstep,vT hx (by omega) (iG.1 (hs2.symm.trans (heq.trans hs))) (by omega),hk2];rfl)
    |(rename_i hip;rw [hip,show (i+1).toNat=i.toNat+1 by omega,hstep,Jb hx (by omega) (λe=>hne (by rw [hs2,hs,iG];exact e)) (by omega)])
    |(rename_i hip;rw [hip,show (i+1).toNat=i.toNat+1 by omega,hstep,Af (by omega)])
  ·refine hK _ ?_;rw [h2,hX,bm (by omega)];rfl
end Go.Proofs.YtnlhnideeaobpaaGreatDoor
