/- Channels: lengths, places, gates: plain; Contracts: nearest quotients, places between points; Contracts: channels and their gates; Contracts: channels and their gates by the reference. -/
import Derived.Test.YtnlhnideeaobpaaGreatDoorFB
import Derived.Test.YtnlhnideeaobpaaGreatDoorQg
import Derived.Test.YtnlhnideeaobpaaGreatDoorFA
namespace Go.Proofs.YtnlhnideeaobpaaGreatDoor
open Go Go.RowKit Classical
set_option maxRecDepth 100000
set_option maxHeartbeats 2000000
set_option linter.unusedVariables false
set_option linter.unusedSimpArgs false
def zq (a b:Int):Int:=(2*a+b) / (2*b)
def q9 (a b:Int):Int:=if a<0 then -zq (-a) b else zq a b
theorem aaW {a b:Int} (hb:0<b):zq a b=if b - a % b<=a % b then a / b+1 else a / b:=by
 have h1:=Int.mul_ediv_add_emod a b;have h2:=ks a (show b≠0 by omega);have h3:=i6 a hb;unfold zq;generalize a / b=q at*;generalize a % b=r at*;have e1:(q+1)*(2*b)=2*(b*q)+2*b:=by grind
 have e0:q*(2*b)=2*(b*q):=by grind
 have e2:(q+1+1)*(2*b)=2*(b*q)+4*b:=by grind
 split
 ·refine Int.le_antisymm ?_ (mL (by omega) (by omega));have:=kb (a:=2*a+b) (b:=q+1+1) (c:=2*b) (by omega) (by omega);omega
 ·refine Int.le_antisymm ?_ (mL (by omega) (by omega));have:=kb (a:=2*a+b) (b:=q+1) (c:=2*b) (by omega) (by omega);omega
theorem PI {a b:Int} (ha:0<=a) (hb:0<b):0<=zq a b/\zq a b<=a:=by
 unfold zq;refine ⟨gz (by omega) (by omega),?_⟩;have h1:0<=a*(b - 1):=dt ha (by omega);have e:(a+1)*(2*b)=2*(a*(b - 1))+2*a+2*b:=by grind
 have:=kb (a:=2*a+b) (b:=a+1) (c:=2*b) (by omega) (by omega);omega
theorem Vs {a b B:Int} (hb:0<b) (h: -B<=a/\a<=B): -B<=q9 a b/\q9 a b<=B:=by
 unfold q9;split
 ·have:=PI (a:= -a) (b:=b) (by omega) hb;omega
 ·have:=PI (a:=a) (b:=b) (by omega) hb;omega
theorem Yf {x y x' y':Int} (h:dZ x y) (k:dZ x' y') (hne:¬(x=x'/\y=y')):1<=gL x y x' y':=by
 rw [gL,if_pos ⟨h,k⟩];have hb:=J6 h k
 have hp:1<=sqd x y x' y':=by
  unfold sqd;have h3:=Ul (x - x');have h4:=Ul (y - y');by_cases hx:x=x'
  ·(have hy:y - y'≠0:=by omega);rcases nl hy with h5|h5
   ·have:=fk (a:=1) (b:=1) (c:= -(y - y')) (d:= -(y - y')) (by omega) (by omega) (by omega) (by omega);rw [mj] at this;omega
   ·have:=fk (a:=1) (b:=1) (c:=(y - y')) (d:=(y - y')) (by omega) (by omega) (by omega) (by omega);omega
  ·(have hy:x - x'≠0:=by omega);rcases nl hy with h5|h5
   ·have:=fk (a:=1) (b:=1) (c:= -(x - x')) (d:= -(x - x')) (by omega) (by omega) (by omega) (by omega);rw [mj] at this;omega
   ·have:=fk (a:=1) (b:=1) (c:=(x - x')) (d:=(x - x')) (by omega) (by omega) (by omega) (by omega);omega
 obtain ⟨h1,h2,h3⟩:=w9 hb.1;rcases mc (oO (sqd x y x' y')) 1 with h4|h4
 ·(have:oO (sqd x y x' y')=0:=by omega);rw [this] at h3;omega
 ·exact h4
noncomputable def gF:List Pnt->List Int
 |p::q::l=>gL p.x p.y q.x q.y::gF (q::l)
 |_=>[]
theorem jw:∀l:List Pnt,(gF l).length=l.length - 1
 |[]=>rfl
 |[_]=>rfl
 |p::q::l=>by simp only [gF,bi,jw (q::l)];omega
theorem uf:∀(l:List Pnt) (i:Nat) (p q:Pnt),l[i]? =some p->l[i+1]? =some q->(gF l)[i]? =some (gL p.x p.y q.x q.y)
 |[],i,p,q,h,_=>by simp at h
 |[_],i,p,q,_,h=>by simp at h
 | a::b::l,0,p,q,h,k=>by
   simp at h k;subst h;subst k;rfl
 | a::b::l,i+1,p,q,h,k=>by
   have:=uf (b::l) i p q (by simpa using h) (by simpa using k);simpa [gF] using this
def LnC (l:List Pnt) (j:Nat):Prop:=∃p,l[j]? =some p/\dZ p.x p.y/\(0<j->∃q,l[j - 1]? =some q/\q≠p)
def rE (l:List Pnt):Prop:=∀j,j<l.length->LnC l j
def ab1 (n:ByteArray) (l:List Pnt) (w:Int):Prop:=rE l/\yu n/\(2<=l.length/\l.length<=12)/\(10<=w/\w<=5000)
theorem rE.pt {l:List Pnt} (h:rE l) {j:Nat} {p:Pnt} (hp:l[j]? =some p):dZ p.x p.y:=by
 obtain ⟨p',h1,h2,_⟩:=h j (aa.1 hp).1;rw [hp] at h1;cases h1;exact h2
theorem rE.ne {l:List Pnt} (h:rE l) {j:Nat} {p q:Pnt} (hp:l[j]? =some p) (hq:l[j+1]? =some q):¬(p.x=q.x/\p.y=q.y):=by
 obtain ⟨q',h1,_,h3⟩:=h (j+1) (aa.1 hq).1;rw [hq] at h1;cases h1;obtain ⟨p',h4,h5⟩:=h3 (by omega);rw [iS,hp] at h4;cases h4;intro he;apply h5;cases p;cases q;simp at he;simp [he]
theorem rE.seg {l:List Pnt} (h:rE l) {j:Nat} {p q:Pnt} (hp:l[j]? =some p) (hq:l[j+1]? =some q):1<=gL p.x p.y q.x q.y/\gL p.x p.y q.x q.y<=300000:=
 ⟨Yf (h.pt hp) (h.pt hq) (h.ne hp hq),(F8 _ _ _ _).2⟩
theorem rE.gF {l:List Pnt} (h:rE l):∀n∈gF l,1<=n/\n<=300000:=λn hn=>by
 obtain ⟨j,hj⟩:=ap hn;have hlt:=(aa.1 hj).1;rw [jw] at hlt;have hp:l[j]? =some l[j]:=ag (by omega);have hq:l[j+1]? =some l[j+1]:=ag (by omega);rw [uf l j _ _ hp hq] at hj;cases hj;exact h.seg hp hq
def tN (ds:List Int) (i:Int):Int:=(ds.take i.toNat).sum
theorem H9 {ds:List Int} {i:Int} (h:i<=0):tN ds i=0:=by unfold tN;rw [show i.toNat=0 by omega];rfl
theorem Wq {ds:List Int} {i n v:Int} (h0:0<=i) (hv:ds[i.toNat]? =some v) (hn:n=i+1):tN ds n=tN ds i+v:=by
 unfold tN;rw [show n.toNat=i.toNat+1 by omega,cq,hv];simp
theorem qH {ds:List Int} {i:Int} (h:ds.length<=i):tN ds i=ds.sum:=by unfold tN;rw [bm (by omega)]
theorem Uh {B:Int}:∀{ds:List Int},(∀n∈ds,0<=n/\n<=B)->0<=ds.sum/\ds.sum<=B*ds.length
 |[],_=>by simp
 | d::ds,h=>by
   have ih:=Uh (ds:=ds) λn hn=>h n (ew _ hn);have h1:=h d (ep ..);simp only [fS,bi];rw [show ((ds.length+1:Nat):Int)=(ds.length:Int)+1 by omega,mq];omega
theorem acC {ds:List Int} {B:Int} (h:∀n∈ds,0<=n/\n<=B) (hB:0<=B) (i:Int):0<=tN ds i/\tN ds i<=B*ds.length:=by
 unfold tN;have h1:=Uh (ds:=ds.take i.toNat) λn hn=>h n (dd hn);have h2:B*((ds.take i.toNat).length:Int)<=B*ds.length:=gO (by rw [ba];omega) hB;omega
def jy:List Int->Int->Int->Int×Int
 |[],i,d=>(i,d)
 |n::ds,i,d=>if d<=n then (i,d) else jy ds (i+1) (d - n)
theorem FY:∀(ds:List Int) (i d:Int),0<=d->d<=ds.sum->(0<d∨ds≠[])->∃(k:Nat) (n:Int),ds[k]? =some n/\(jy ds i d).1=i+k/\0<=(jy ds i d).2/\(jy ds i d).2<=n
 | [],i,d,h0,h1,h2=>by
   simp at h1;rcases h2 with h2|h2
   ·omega
   ·exact absurd rfl h2
 | n ::ds,i,d,h0,h1,h2=>by
   unfold jy;split
   ·exact ⟨0,n,rfl,by simp,h0,by assumption⟩
   ·rename_i hd;simp only [fS] at h1;obtain ⟨k,m,g1,g2,g3,g4⟩:=FY ds (i+1) (d - n) (by omega) (by omega) (.inl (by omega));exact ⟨k+1,m,by simpa using g1,by rw [g2];omega,g3,g4⟩
theorem SV {ds:List Int} {k:Nat} {n:Int} (h:ds[k]? =some n) (i d:Int):(d<=n->jy (ds.drop k) i d=(i,d))/\(¬d<=n->jy (ds.drop k) i d=jy (ds.drop (k+1)) (i+1) (d - n)):=by
 have hlt:=aa.1 h;have e:ds.drop k=n::ds.drop (k+1):=by rw [ck hlt.1,hlt.2]
 rw [e];constructor
 ·intro h;rw [jy,if_pos h]
 ·intro h;rw [jy,if_neg h]
theorem Y7 {ds:List Int} {k:Nat} {n:Int} (h:ds[k]? =some n):(ds.drop k).sum=n+(ds.drop (k+1)).sum:=by
 have hlt:=aa.1 h;rw [ck hlt.1,hlt.2,fS]
def xV (a b:Pnt) (i n:Int):Pnt:=if b.x<a.x∨a.x=b.x/\b.y<a.y then ⟨b.x+q9 ((n - i)*(a.x - b.x)) n,b.y+q9 ((n - i)*(a.y - b.y)) n⟩ else ⟨a.x+q9 (i*(b.x - a.x)) n,a.y+q9 (i*(b.y - a.y)) n⟩
theorem VF {a b:Pnt} {i n:Int} (ha:dZ a.x a.y) (hb:dZ b.x b.y) (hn:1<=n/\n<=300000) (hi:0<=i/\i<=n):(-100000000000<=(xV a b i n).x/\(xV a b i n).x<=100000000000)/\ -100000000000<=(xV a b i n).y/\(xV a b i n).y<=100000000000:=by
 unfold dZ at ha hb
 have m (u v:Int) (hu:0<=u/\u<=300000) (hv: -200000<=v/\v<=200000): -90000000000<=q9 (u*v) n/\q9 (u*v) n<=90000000000:=
  Vs (by omega) (by have:=ER (a:=u) (b:=v) (B:=300000) (by omega);omega)
 unfold xV;split
 ·have h1:=m (n - i) (a.x - b.x) (by omega) (by omega);have h2:=m (n - i) (a.y - b.y) (by omega) (by omega);simp only;omega
 ·have h1:=m i (b.x - a.x) (by omega) (by omega);have h2:=m i (b.y - a.y) (by omega) (by omega);simp only;omega
structure Gat where
 gd:Int
 lx:Int
 ly:Int
 rx:Int
 ry:Int
def Gat.cs (v:Gat):List AV:=[.int .i64 v.gd,.int .i64 v.lx,.int .i64 v.ly,.int .i64 v.rx,.int .i64 v.ry]
theorem NoB.afF (v:Gat):NoB (.agg v.cs):= .bW (.int _ _) (.bW (.int _ _) (.bW (.int _ _) (.bW (.int _ _) (.bW (.int _ _) .o9))))
noncomputable def nL (l:List Pnt) (d:Int):Pnt×Pnt×Int:=(l.getD ((jy (gF l) 1 d).1 - 1).toNat ⟨0,0⟩,l.getD (jy (gF l) 1 d).1.toNat ⟨0,0⟩,(jy (gF l) 1 d).2)
theorem wZ {l:List Pnt} (h:rE l) (h2:2<=l.length) {d:Int} (h0:0<=d) (hd:d<=(gF l).sum):∃(k:Nat) (p q:Pnt),(jy (gF l) 1 d).1=1+(k:Int)/\l[k]? =some p/\l[k+1]? =some q/\nL l d=(p,q,(jy (gF l) 1 d).2)/\0<=(jy (gF l) 1 d).2/\(jy (gF l) 1 d).2<=gL p.x p.y q.x q.y/\k+1<l.length:=by
 have hl:=jw l;obtain ⟨k,n,g1,g2,g3,g4⟩:=FY (gF l) 1 d h0 hd (.inr λe=>by rw [e] at hl;simp at hl;omega);have hk:=(aa.1 g1).1;have hp:l[k]? =some l[k]:=ag (by omega);have hq:l[k+1]? =some l[k+1]:=ag (by omega);have hs:=uf l k _ _ hp hq;have hs2:=ee (g1.symm.trans hs);rw [hs2] at g4;refine ⟨k,_,_,g2,hp,hq,?_,g3,g4,by omega⟩;unfold nL;rw [g2,show (1+(k:Int) - 1).toNat=k by omega,show (1+(k:Int)).toNat=k+1 by omega,ad,ad,hp,hq];rfl
noncomputable def FU (w d:Int) (u v:Pnt) (r:Int):Gat:=
 let n:=gL u.x u.y v.x v.y
 let p:=xV u v r n
 ⟨d,p.x - q9 ((v.y - u.y)*(w / 2)) n,p.y+q9 ((v.x - u.x)*(w / 2)) n,p.x+q9 ((v.y - u.y)*(w / 2)) n,p.y - q9 ((v.x - u.x)*(w / 2)) n⟩
noncomputable def tq (l:List Pnt) (w d:Int):Gat:=FU w d (nL l d).1 (nL l d).2.1 (nL l d).2.2
def nR (s:Int) (n:Nat):List Int:=(List.range n).map λk:Nat=>s*(k:Int)
theorem yA (s:Int) (n:Nat):nR s (n+1)=nR s n++[s*(n:Int)]:=by unfold nR;rw [ik,db];rfl
theorem mE (s:Int) (n:Nat):(nR s n).length=n:=by simp [nR]
def kU (s t:Int):Nat:=((t+s - 1) / s).toNat
noncomputable def ji (l:List Pnt) (s:Int):List Int:=nR s (kU s (gF l).sum)++[(gF l).sum]
theorem Ac {s t:Int} (hs:0<s) (ht:0<=t) (n:Nat):s*(n:Int)<t↔n<kU s t:=by
 unfold kU;have h1:0<=(t+s - 1) / s:=gz (by omega) (by omega);have h2:((n:Int)+1<=(t+s - 1) / s)↔((n:Int)+1)*s<=t+s - 1:=Int.le_ediv_iff_mul_le hs;have e:((n:Int)+1)*s=s*n+s:=by grind
 omega
def Gat.ok (g:Gat):Prop:=dZ g.lx g.ly/\dZ g.rx g.ry
noncomputable def iw (n:ByteArray) (l:List Pnt) (w s:Int):List Gat×Int:=
 if ab1 n l w then (if 50<=s/\s<=200000 then (if kU s (gF l).sum+1<=32 then (if ∀d∈ji l s,(tq l w d).ok then ((ji l s).map (tq l w),0) else ([],6)) else ([],5)) else ([],2)) else ([],1)
theorem Ky {q a b:Int} (h:q=a / b) (h0:0<=a/\0<b):0<=q/\q<=a:=by
 rw [h];exact ⟨gz h0.1 (by omega),j7 b h0.1⟩
theorem Jr [St] (a b:Int) (ha: -1000000000000000<=a/\a<=1000000000000000) (hb:1<=b/\b<=1000000000):AP 342 [.int .i64 a,.int .i64 b] (AV.int .i64) (q9 a b):=by
  refine a0 Tryz.func342 λE K hE hK=>?_
  repeat' first
    |((first
   |(refine afK (a:=b) (λmb hmb=>?_);(have hm2:b=mb:=by omega);subst hm2)
   |(refine afK (a:=a) (λm hm=>?_);(have hh:=aaW (a:=m) (b:=b) (by omega));(have hr0:=ks m (show b≠0 by omega));(have hr1:=i6 m (show 0<b by omega)))
   |(refine yO (by omega) (λq hq=>?_);(have hq2:=Ky hq (by omega)))
   |refine B0 ?_|refine B1 ?_ ?_)<;>intros<;>(try conv=>cbv))
  all_goals first
   |omega
   |(refine hK _ ?_;show AV.int _ _=AV.int _ _;congr 1;unfold q9;rw [if_pos (by omega),show -a=m by omega,hh];split<;>omega)
   |(refine hK _ ?_;show AV.int _ _=AV.int _ _;congr 1;unfold q9;rw [if_neg (by omega),show a=m by omega,hh];split<;>omega)
theorem Ve [St] (a b:Int) (ha: -1000000000000000<=a/\a<=1000000000000000) (hb:1<=b/\b<=1000000000):AP 397 [.int .i64 a,.int .i64 b] (AV.int .i64) (q9 a b):=by
  refine a0 Tryz.func397 λE K hE hK=>?_
  repeat' first
    |((first
   |refine nM (by omega) (λm hm=>?_)
   |(refine yO (by omega) (λq hq=>?_);(have hq2:=Ky hq (by omega)))
   |refine B0 ?_|refine B1 ?_ ?_)<;>intros<;>(try conv=>cbv))
  all_goals first
   |omega
   |(refine hK _ ?_;show AV.int _ _=AV.int _ _;congr 1;unfold q9 zq;rw [if_pos (by omega)];subst_vars;rw [show 2* -a+b=b - 2*a by omega];omega)
   |(refine hK _ ?_;show AV.int _ _=AV.int _ _;congr 1;unfold q9 zq;rw [if_neg (by omega)];subst_vars;omega)
theorem aer {a b y B:Int} (hy:y=q9 a b) (hb:1<=b) (h: -B<=a/\a<=B): -B<=y/\y<=B:=by
 rw [hy];exact Vs (by omega) h
theorem agR {u v:Int} (hu: -300000<=u/\u<=300000) (hv: -300000<=v/\v<=300000): -90000000000<=u*v/\u*v<=90000000000:=by
 have:=ER (a:=u) (b:=v) (B:=300000) (by omega);omega
theorem adl [St] {E:Env} {np:Nat} {P:Program} [hE:SE E np P] {a b:Int} {K:Int->Prop} (h:(-300000<=a/\a<=300000)/\ -300000<=b/\b<=300000) (hk:∀m,m=a*b-> -90000000000<=m/\m<=90000000000->K m):E.mul .i64 a b K:=by
 have h1:=agR h.1 h.2;exact nM (by omega) λm hm=>hk m hm (by omega)
theorem abH [St] (ax ay bx by' i n:Int) (ha:dZ ax ay) (hb:dZ bx by') (hn:1<=n/\n<=300000) (hi:0<=i/\i<=n):AP 404 [.agg [.int .i64 ax,.int .i64 ay],.agg [.int .i64 bx,.int .i64 by'],.int .i64 i,.int .i64 n] (λp:Pnt=> .agg p.cs) (xV ⟨ax,ay⟩ ⟨bx,by'⟩ i n):=by
  refine ac Tryz.func404 (.EN _) λE K hE hK=>?_;have ha':=ha;have hb':=hb;unfold dZ at ha' hb'
  repeat' first
    |((first
   |refine adl (by omega) (λm hm hmb=>?_)
   |(refine aQ (Jr _ _ (by omega) (by omega)) (λy hy=>?_);(have hyb:=aer (B:=90000000000) hy (by omega) (by omega)))
   |refine B0 ?_|refine B1 ?_ ?_)<;>intros<;>(try conv=>cbv))
  all_goals first
   |(refine hK _ ?_;unfold xV;rw [if_pos (by simp only;omega)];subst_vars;rfl)
   |(refine hK _ ?_;unfold xV;rw [if_neg (by simp only;omega)];subst_vars;rfl)
theorem OZ [St] (ax ay bx by' i n:Int) (ha:dZ ax ay) (hb:dZ bx by') (hn:1<=n/\n<=300000) (hi:0<=i/\i<=n):AP 426 [.agg [.int .i64 ax,.int .i64 ay],.agg [.int .i64 bx,.int .i64 by'],.int .i64 i,.int .i64 n] (λp:Pnt=> .agg p.cs) (xV ⟨ax,ay⟩ ⟨bx,by'⟩ i n):=by
  refine ac Tryz.func426 (.EN _) λE K hE hK=>?_;have ha':=ha;have hb':=hb;unfold dZ at ha' hb'
  repeat' first
    |((first
   |refine adl (by omega) (λm hm hmb=>?_)
   |(refine aQ (Ve _ _ (by omega) (by omega)) (λy hy=>?_);(have hyb:=aer (B:=90000000000) hy (by omega) (by omega)))
   |refine B0 ?_|refine B1 ?_ ?_)<;>intros<;>(try conv=>cbv))
  all_goals first
   |(refine hK _ ?_;unfold xV;rw [if_pos (by simp only;omega)];subst_vars;rfl)
   |(refine hK _ ?_;unfold xV;rw [if_neg (by simp only;omega)];subst_vars;rfl)
theorem Pm [St] {rs:List (List AV)} {t:Bool} {l:List Gat} {g:FuncId} {p:Gat->Prop} (hl:rs=l.map Gat.cs) (hp:∀gd lx ly rx ry,AC Tryz.prog g (.agg [.int .i64 gd,.int .i64 lx,.int .i64 ly,.int .i64 rx,.int .i64 ry]::[]) AV.bool (bP (p ⟨gd,lx,ly,rx,ry⟩))):AP 343 [.sl t 5 rs,.fn g []] (AV.int .i64) (lF p l):=by
  refine a0 Tryz.func343 λE K hE hK=>?_;refine bn hl λn hn hb=>?_;conv=>cbv
  refine cu [0,1,7] [8] (λ(i:Int)=>([(8,.int .i64 i)],[],l.length - i,0<=i/\Up (λj=>∀v,l[j]? =some v->¬p v) i)) [] (0) (by dsimp only;exact ⟨by omega,.zero (by omega)⟩) λi hi Kn hN=>?_;obtain ⟨h0,hinv⟩:=hi
  repeat' first
    |(refine hN _ [] rfl ⟨?_,?_⟩)
    |((first
   |refine aF (hp _ _ _ _ _) (λ_=>?_) (λ_=>?_)
   |(refine bQ (R:=Gat.cs) (by assumption) (by first|omega|(simp only [bo,dP];omega)) ?_;rintro ⟨⟩ _)
   |refine B0 ?_|refine B1 ?_ ?_)<;>intros<;>(try conv=>cbv))
  ·refine hK _ ?_;rw [kQ h0 (by assumption) (by assumption) hinv];rfl
  ·omega
  ·refine hinv.succ ?_ (by assumption);clear hN;simp_all
  ·refine hK _ ?_;rw [jR (by omega) hinv];rfl
theorem Gg [St] {rs:List (List AV)} {t:Bool} {l:List Gat} {g:FuncId} {p:Gat->Prop} (hl:rs=l.map Gat.cs) (hp:∀gd lx ly rx ry,AC Tryz.prog g (.agg [.int .i64 gd,.int .i64 lx,.int .i64 ly,.int .i64 rx,.int .i64 ry]::[]) AV.bool (bP (p ⟨gd,lx,ly,rx,ry⟩))):AP 280 [.sl t 5 rs,.fn g []] AV.bool (bP (∃v∈l,p v)):=by
 refine a0 Tryz.func280 λE K hE hK=>?_;refine aQ (Pm hl hp) λy hy=>?_;conv=>cbv
 refine leI (λh=>?_) (λh=>?_)<;>conv=>cbv
 ·exact aH hK (aG.2 (iW.1 (by omega)))
 ·exact aH hK (ah.2 λh'=>by have:=iW.2 h';omega)
theorem LnC.of {l:List Pnt} (h:rE l) {i:Int} {p:Pnt} (hp:l[i.toNat]? =some p):dZ p.x p.y/\(0<i->∀q,l[(i - 1).toNat]? =some q->q≠p):=by
 obtain ⟨p',h1,h2,h3⟩:=h i.toNat (aa.1 hp).1;rw [hp] at h1;cases h1;refine ⟨h2,λh0 q hq=>?_⟩;obtain ⟨q',h4,h5⟩:=h3 (by omega);rw [show i.toNat - 1=(i - 1).toNat by omega,hq] at h4;cases h4;exact h5
theorem GZ [St] (n:ByteArray) (w:Int) {rl:List (List AV)} {t:Bool} {l:List Pnt} (hl:rl=l.map Pnt.cs):AP 277 [.agg [.str n,.sl t 2 rl,.int .i64 w]] AV.bool (bP (ab1 n l w)):=by
  refine a0 Tryz.func277 λE K hE hK=>?_;refine bn hl λm hm hb=>?_;conv=>cbv
  refine cu [1,6,7] [8] (λ(i:Int)=>([(8,.int .i64 i)],[.box [.str n,.sl t 2 rl,.int .i64 w]],l.length - i,0<=i/\Up (LnC l) i)) [0] (0) (by dsimp only;exact ⟨by omega,.zero (by omega)⟩) λi hi Kn hN=>?_;obtain ⟨h0,hinv⟩:=hi
  repeat' first
    |(refine hN _ [0] rfl ⟨?_,?_⟩)
    |((first
   |refine gK (R:=Pnt.cs) hl (by omega) hq ?_
   |(refine bQ (R:=Pnt.cs) hl (by omega) (λp hp=>?_);obtain ⟨px,py⟩:=p;(try conv=>cbv);refine aF (jI _ _) (λh1=>?_) (λh1=>?_)<;>(try conv=>cbv);rotate_left;exact aH hK (ah.2 λh=>h1 (LnC.of h.1 hp).1);refine ltI (λh2=>?_) (λh2=>?_)<;>(try conv=>cbv);refine eX (by omega) (λk hk=>?_);(try conv=>cbv);refine bQ (R:=Pnt.cs) hl (by omega) (λq hq=>?_);obtain ⟨qx,qy⟩:=q;(try conv=>cbv);refine Dt (λh3=>?_) (λh3=>?_))
   |refine bn hl (λm2 hm2 hb2=>?_)
   |refine aF (zf _) (λ_=>?_) (λ_=>?_)
   |refine aF (eU _ _ _) (λ_=>?_) (λ_=>?_)
   |refine B0 ?_|refine B1 ?_ ?_)<;>intros<;>(try conv=>cbv))
  all_goals (try clear hN)
  all_goals first
   |omega
   |exact aH hK (aG.2 ⟨hinv.all (by omega),by assumption,by omega,by omega⟩)
   |(refine aH hK (ah.2 λh=>?_);have h4:=h.2;first|omega|(have:=h4.1;contradiction)|(have:=h4.2.1;omega)|(have:=h4.2.2;omega))
   |(refine aH hK (ah.2 λh=>?_);exact (LnC.of h.1 hp).2 h2 _ (by rw [←hk];exact hq) (by simp only [Pnt.mk.injEq];exact ⟨h3.1,h3.2.1⟩))
   |exact hinv.succ ⟨_,hp,h1,λ_=>⟨_,by rw [show i.toNat - 1=k.toNat by omega];exact hq,λhe=>h3 (by simp only [Pnt.mk.injEq] at he;exact ⟨he.1,he.2,trivial⟩)⟩⟩ (by assumption)
   |exact hinv.succ ⟨_,hp,h1,λ_=>by omega⟩ (by assumption)
theorem afT [St] (n:ByteArray) (w:Int) {rl:List (List AV)} {t:Bool} {l:List Pnt} (hl:rl=l.map Pnt.cs):AP 186 [.pp [.str n,.sl t 2 rl,.int .i64 w]] AV.bool (bP (ab1 n l w)):=by
  refine a0 Tryz.func186 λE K hE hK=>?_;refine cu [0] [3] (λ(i:Int)=>([(3,.int .i64 i)],[],l.length - i,0<=i/\Up (LnC l) i)) [] (0) (by dsimp only;exact ⟨by omega,.zero (by omega)⟩) λi hi Kn hN=>?_;obtain ⟨h0,hinv⟩:=hi
  repeat' first
    |(refine hN _ [] rfl ⟨?_,?_⟩)
    |((first
   |refine gK (R:=Pnt.cs) hl (by omega) hq ?_
   |refine bn hl (λm2 hm2 hb2=>?_)
   |(refine bQ (R:=Pnt.cs) hl (by omega) (λp hp=>?_);obtain ⟨px,py⟩:=p;(try conv=>cbv);refine aF (xI _ _) (λh1=>?_) (λh1=>?_)<;>(try conv=>cbv);rotate_left;exact aH hK (ah.2 λh=>h1 (LnC.of h.1 hp).1);refine ltI (λh2=>?_) (λh2=>?_)<;>(try conv=>cbv);refine gK (R:=Pnt.cs) hl (by omega) hp ?_;(try conv=>cbv);refine eX (by omega) (λk hk=>?_);(try conv=>cbv);refine bQ (R:=Pnt.cs) hl (by omega) (λq hq=>?_);obtain ⟨qx,qy⟩:=q;(try conv=>cbv);refine Dt (λh3=>?_) (λh3=>?_))
   |refine aF (uI _) (λ_=>?_) (λ_=>?_)
   |refine aF (in_ _ _ _) (λ_=>?_) (λ_=>?_)
   |refine B0 ?_|refine B1 ?_ ?_)<;>intros<;>(try conv=>cbv))
  all_goals (try clear hN)
  all_goals first
   |omega
   |exact aH hK (aG.2 ⟨hinv.all (by omega),by assumption,by omega,by omega⟩)
   |(refine aH hK (ah.2 λh=>?_);have h4:=h.2;first|omega|(have:=h4.1;contradiction)|(have:=h4.2.1;omega)|(have:=h4.2.2;omega))
   |(refine aH hK (ah.2 λh=>?_);exact (LnC.of h.1 hp).2 h2 _ (by rw [←hk];exact hq) (by simp only [Pnt.mk.injEq];exact ⟨h3.1.symm,h3.2.1.symm⟩))
   |exact hinv.succ ⟨_,hp,h1,λ_=>⟨_,by rw [show i.toNat - 1=k.toNat by omega];exact hq,λhe=>h3 (by simp only [Pnt.mk.injEq] at he;exact ⟨he.1.symm,he.2.symm,trivial⟩)⟩⟩ (by assumption)
   |exact hinv.succ ⟨_,hp,h1,λ_=>by omega⟩ (by assumption)
theorem Nc {l:List Pnt} {i k n:Int} {p q:Pnt} (hk:k=i - 1) (h1:1<=i) (hp:l[k.toNat]? =some p) (hq:l[i.toNat]? =some q) (hn:n=i+1):tN (gF l) (n - 1)=tN (gF l) (i - 1)+gL p.x p.y q.x q.y:=
 Wq (by omega) (by rw [show (i - 1).toNat=k.toNat by omega];exact uf l k.toNat p q hp (by rw [show k.toNat+1=i.toNat by omega];exact hq)) (by omega)
theorem oL {l:List Pnt} (h:rE l) (h12:l.length<=12) (i:Int):0<=tN (gF l) i/\tN (gF l) i<=3600000:=by
 have h1:=acC (ds:=gF l) (B:=300000) (λn hn=>by have:=h.gF n hn;omega) (by omega) i;rw [jw] at h1;omega
theorem Nb {l:List Pnt} {i:Int} (h1:1<=l.length) (h:l.length<=i):tN (gF l) (i - 1)=(gF l).sum:=qH (by rw [jw];omega)
theorem Yw [St] (n:ByteArray) (w:Int) {rl:List (List AV)} {t:Bool} {l:List Pnt} (hl:rl=l.map Pnt.cs) (hok:rE l) (h12:1<=l.length/\l.length<=12):AP 278 [.agg [.str n,.sl t 2 rl,.int .i64 w]] (AV.int .i64) ((gF l).sum):=by
  refine a0 Tryz.func278 λE K hE hK=>?_;refine bO [1] [4,3] (λ(i m:Int)=>([(4,.int .i64 i),(3,.int .i64 m)],[.box [.str n,.sl t 2 rl,.int .i64 w]],l.length - i,(1<=i/\i<=l.length)/\m=tN (gF l) (i - 1))) [0] ((1,0)) (by dsimp only;exact ⟨by omega,by rw [H9 (by omega)]⟩) λi m hi Kn hN=>?_;obtain ⟨⟨h0,h1⟩,h2⟩:=hi;have hbd:=oL hok h12.2 (i - 1);refine bn hl λn2 hn2 hb2=>?_;conv=>cbv
  refine ltI (λhlt=>?_) (λhge=>?_)<;>conv=>cbv
  ·refine eX (by omega) λk hk=>?_;(conv=>cbv);refine bQ (R:=Pnt.cs) hl (by omega) λp hp=>?_;obtain ⟨px,py⟩:=p;(conv=>cbv);refine bQ (R:=Pnt.cs) hl (by omega) λq hq=>?_;obtain ⟨qx,qy⟩:=q;(conv=>cbv);have hs:=F8 px py qx qy
   repeat' first
     |(refine hN _ _ [0] rfl ⟨?_,?_⟩)
     |((first
    |refine aQ (wh _ _ _ _) (λ_ _=>?_)
    |refine B0 ?_|refine B1 ?_ ?_)<;>intros<;>(try conv=>cbv))
   all_goals (try clear hN)
   all_goals first
    |omega
    |(rename_i hi2;rw [Nc hk h0 hp hq hi2];simp only;omega)
  ·exact hK _ (by rw [h2,Nb h12.1 (by omega)];rfl)
theorem RU [St] (n:ByteArray) (w:Int) {rl:List (List AV)} {t:Bool} {l:List Pnt} (hl:rl=l.map Pnt.cs) (hok:rE l) (h12:1<=l.length/\l.length<=12):AP 332 [.sl t 2 rl] (AV.int .i64) ((gF l).sum):=by
  refine a0 Tryz.func332 λE K hE hK=>?_;refine bO [0] [4,3] (λ(i m:Int)=>([(4,.int .i64 i),(3,.int .i64 m)],[],l.length - i,(1<=i/\i<=l.length)/\m=tN (gF l) (i - 1))) [] ((1,0)) (by dsimp only;exact ⟨by omega,by rw [H9 (by omega)]⟩) λi m hi Kn hN=>?_;obtain ⟨⟨h0,h1⟩,h2⟩:=hi;have hbd:=oL hok h12.2 (i - 1);refine bn hl λn2 hn2 hb2=>?_;conv=>cbv
  refine ltI (λhlt=>?_) (λhge=>?_)<;>conv=>cbv
  ·refine eX (by omega) λk hk=>?_;(conv=>cbv);refine bQ (R:=Pnt.cs) hl (by omega) λp hp=>?_;obtain ⟨px,py⟩:=p;(conv=>cbv);refine bQ (R:=Pnt.cs) hl (by omega) λq hq=>?_;obtain ⟨qx,qy⟩:=q;(conv=>cbv);have hs:=F8 px py qx qy
   repeat' first
     |(refine hN _ _ [] rfl ⟨?_,?_⟩)
     |((first
    |refine aQ (qR _ _ _ _ (hok.pt hp) (hok.pt hq)) (λ_ _=>?_)
    |refine B0 ?_|refine B1 ?_ ?_)<;>intros<;>(try conv=>cbv))
   all_goals (try clear hN)
   all_goals first
    |omega
    |(rename_i hi2;rw [Nc hk h0 hp hq hi2];simp only;omega)
  ·exact hK _ (by rw [h2,Nb h12.1 (by omega)];rfl)
def og (l:List Pnt) (d0 i d:Int):Prop:=(1<=i/\i<l.length)/\0<=d/\d<=((gF l).drop (i - 1).toNat).sum/\jy (gF l) 1 d0=jy ((gF l).drop (i - 1).toNat) i d
theorem og.start {l:List Pnt} (h2:2<=l.length) {d:Int} (h0:0<=d) (hd:d<=(gF l).sum):og l d 1 d:=⟨by omega,h0,by simpa using hd,by simp⟩
theorem og.at {l:List Pnt} {d0 i d k:Int} {p q:Pnt} (h:og l d0 i d) (hk:k=i - 1) (hp:l[k.toNat]? =some p) (hq:l[i.toNat]? =some q):
  (d<=gL p.x p.y q.x q.y->jy (gF l) 1 d0=(i,d)/\nL l d0=(p,q,d))/\(¬d<=gL p.x p.y q.x q.y->og l d0 (i+1) (d - gL p.x p.y q.x q.y)):=by
 obtain ⟨⟨h1,h2⟩,h3,h4,h5⟩:=h
 have hs:(gF l)[(i - 1).toNat]? =some (gL p.x p.y q.x q.y):=by
  rw [show (i - 1).toNat=k.toNat by omega];exact uf l k.toNat p q hp (by rw [show k.toNat+1=i.toNat by omega];exact hq)
 have hf:=SV hs i d;have hsum:=Y7 hs;constructor
 ·intro hle;have e:=h5.trans (hf.1 hle);refine ⟨e,?_⟩;unfold nL;rw [e];simp only [ad];rw [show (i - 1).toNat=k.toNat by omega,hp,hq];rfl
 ·intro hle;have hl:=jw l
  have hlt:i+1<l.length:=by
   rcases mc (i+1) l.length with h|h
   ·exact h
   ·rw [show (gF l).drop ((i - 1).toNat+1)=[] from fw (by rw [jw];omega),List.sum_nil] at hsum;omega
  refine ⟨by omega,by omega,?_,?_⟩
  ·rw [show (i+1 - 1).toNat=(i - 1).toNat+1 by omega];omega
  ·rw [show (i+1 - 1).toNat=(i - 1).toNat+1 by omega];exact h5.trans (hf.2 hle)
def ac5 (p:Pnt×Pnt×Pnt):AV:= .tup [.agg p.1.cs,.agg p.2.1.cs,.agg p.2.2.cs]
theorem NoB.ac5 (p:Pnt×Pnt×Pnt):NoB (ac5 p):= .nH (.EN _) (.nH (.EN _) (.nH (.EN _) .CY))
noncomputable def u6 (l:List Pnt) (d:Int):Pnt×Pnt×Pnt:=(xV (nL l d).1 (nL l d).2.1 (nL l d).2.2 (gL (nL l d).1.x (nL l d).1.y (nL l d).2.1.x (nL l d).2.1.y),(nL l d).1,(nL l d).2.1)
set_option maxHeartbeats 4000000
theorem agV [St] (n:ByteArray) (w d:Int) {rl:List (List AV)} {t:Bool} {l:List Pnt} (hl:rl=l.map Pnt.cs) (hok:rE l) (h12:2<=l.length/\l.length<=12) (hd:0<=d/\d<=(gF l).sum):AP 341 [.agg [.str n,.sl t 2 rl,.int .i64 w],.int .i64 d] ac5 (u6 l d):=by
  refine ac Tryz.func341 (.ac5 _) λE K hE hK=>?_;refine bO [2,4,5,6] [7,1] (λ(i e:Int)=>([(7,.int .i64 i),(1,.int .i64 e)],[.box [.str n,.sl t 2 rl,.int .i64 w],.box [.int .i64 0,.int .i64 0],.box [.int .i64 0,.int .i64 0],.box [.int .i64 0,.int .i64 0]],l.length - i,og l d i e/\e<=d)) [0,1,2,3] ((1,d)) (by dsimp only;exact ⟨og.start h12.1 hd.1 hd.2,jn _⟩) λi e hi Kn hN=>?_;obtain ⟨hi,hed⟩:=hi;have hi':=hi;have hT:=oL hok h12.2 l.length;rw [qH (by rw [jw];omega)] at hT;obtain ⟨⟨h0,h1⟩,he0,he1,hfi⟩:=hi';refine eX (by omega) λk hk=>?_;conv=>cbv
  refine bQ (R:=Pnt.cs) hl (by omega) λp hp=>?_;have hpp:=hok.pt hp;obtain ⟨px,py⟩:=p;conv=>cbv
  refine bQ (R:=Pnt.cs) hl (by omega) λq hq=>?_;have hpq:=hok.pt hq;obtain ⟨qx,qy⟩:=q;conv=>cbv
  have hfa:=hi.at hk hp hq;have hsg:=hok.seg hp (by rw [show k.toNat+1=i.toNat by omega];exact hq);simp only at hfa hsg hpp hpq;obtain ⟨D,hD⟩:∃D,D=gL px py qx qy:=⟨_,rfl⟩
  rw [←hD] at hfa hsg
  repeat' first
    |(refine hN _ _ [0,1,2,3] rfl ⟨?_,?_⟩)
    |((first
   |(refine aQ (wh _ _ _ _) (λy hy=>?_);rw [←hD] at hy;subst hy)
   |(refine aQ (abH _ _ _ _ _ _ hpp hpq hsg (by omega)) (λy hy=>?_);obtain ⟨yx,yy⟩:=y)
   |refine gK (R:=Pnt.cs) hl (by omega) hp ?_
   |refine gK (R:=Pnt.cs) hl (by omega) hq ?_
   |(refine eX (by omega) (λk2 hk2=>?_);(first|(have hk3:k=k2:=(by omega);subst hk3)|skip))
   |refine uz rfl ?_
   |refine B0 ?_|refine B1 ?_ ?_)<;>intros<;>(try conv=>cbv))
  all_goals (try clear hN)
  all_goals first
   |omega
   |(have h6:=hfa.2 (by omega);subst_vars;exact h6)
   |(refine hK _ ?_;have h6:=(hfa.1 (by omega)).2;unfold u6;rw [h6];simp only;rw [←hD,←hy];rfl)
theorem afc [St] (n:ByteArray) (w d:Int) {rl:List (List AV)} {t:Bool} {l:List Pnt} (hl:rl=l.map Pnt.cs) (hok:rE l) (h12:2<=l.length/\l.length<=12) (hw:10<=w/\w<=5000) (hd:0<=d/\d<=(gF l).sum):AP 279 [.agg [.str n,.sl t 2 rl,.int .i64 w],.int .i64 d] (λg:Gat=> .agg g.cs) (tq l w d):=by
  refine ac Tryz.func279 (.afF _) λE K hE hK=>?_;obtain ⟨k,p,q,hk1,hp,hq,hsa,hr0,hr1,hkl⟩:=wZ hok h12.1 hd.1 hd.2;have hsg:=hok.seg hp hq;have hpp:=hok.pt hp;have hpq:=hok.pt hq;have hbt:=VF hpp hpq hsg ⟨hr0,hr1⟩;refine aQ (agV _ _ _ hl hok h12 hd) λy hy=>?_;have hgr:tq l w d=FU w d p q (jy (gF l) 1 d).2:=by rw [tq,hsa]
  rw [u6,hsa] at hy;obtain ⟨⟨bx,by'⟩,⟨px,py⟩,⟨qx,qy⟩⟩:=y;simp only [Prod.mk.injEq] at hy;obtain ⟨hb,hp1,hq1⟩:=hy;subst hp1 hq1;simp only at hb hsg hpp hpq hbt;rw [←hb] at hbt;simp only at hbt;obtain ⟨D,hD⟩:∃D,D=gL px py qx qy:=⟨_,rfl⟩
  rw [←hD] at hsg hb;unfold dZ at hpp hpq;conv=>cbv
  repeat' first
    |((first
   |refine adl (by omega) (λm hm hmb=>?_)
   |(refine aQ (wh _ _ _ _) (λy hy=>?_);rw [←hD] at hy;subst hy)
   |(refine aQ (Jr _ _ (by omega) (by omega)) (λy hy=>?_);(have hyb:=aer (B:=90000000000) hy (by omega) (by omega)))
   |refine B0 ?_|refine B1 ?_ ?_)<;>intros<;>(try conv=>cbv))
  all_goals first
   |omega
   |(refine hK _ ?_;rw [hgr,FU];simp only;rw [←hD,←hb];simp only;subst_vars;rfl)
theorem EC {l:List Pnt} (hok:rE l) (h12:l.length<=12) {s:Int} (hs:0<s):∀d∈ji l s,0<=d/\d<=(gF l).sum:=λd hd=>by
 have h0:=oL hok h12 l.length;rw [qH (by rw [jw];omega)] at h0;rcases ca.1 hd with h|h
 ·unfold nR at h;obtain ⟨k,hk,rfl⟩:=cA.1 h;have h1:=(Ac hs h0.1 k).2 (cL.1 hk);exact ⟨dt (by omega) (by omega),by omega⟩
 ·simp at h;omega
def FV (p:List Gat×Int):AV:= .tup [.sl true 5 (p.1.map Gat.cs),.int .i64 p.2]
theorem NoB.FV (p:List Gat×Int):NoB (FV p):= .nH (.rows .afF) (.nH (.int _ _) .CY)
theorem SN [St] (gd lx ly rx ry:Int):AP 281 [.agg [.int .i64 gd,.int .i64 lx,.int .i64 ly,.int .i64 rx,.int .i64 ry]] AV.bool (bP (¬Gat.ok ⟨gd,lx,ly,rx,ry⟩)):=by
 refine a0 Tryz.func281 λE K hE hK=>?_;refine aF (xX (l:=[(⟨lx,ly⟩:Pnt),⟨rx,ry⟩]) (by rfl)) (λh=>?_) (λh=>?_)<;>conv=>cbv
 ·exact aH hK (ah.2 λhn=>hn ⟨h ⟨lx,ly⟩ (by simp),h ⟨rx,ry⟩ (by simp)⟩)
 ·refine aH hK (aG.2 λhn=>h λp hp=>?_);simp only [bk,eR,or_false] at hp;rcases hp with rfl|rfl
  ·exact hn.1
  ·exact hn.2
theorem PN (n:ByteArray) (l:List Pnt) (w s:Int):(iw n l w s).1.length<=32:=by
 unfold iw;split
 ·split
  ·split
   ·split
    ·rw [al,ji,am,mE];simp;omega
    ·simp
   ·simp
  ·simp
 ·simp
set_option maxHeartbeats 8000000
theorem X7 [St] (n:ByteArray) (w s:Int) {rl:List (List AV)} {t:Bool} {l:List Pnt} (hl:rl=l.map Pnt.cs):AP 203 [.agg [.str n,.sl t 2 rl,.int .i64 w],.int .i64 s] FV (iw n l w s):=by
  refine ac Tryz.func203 (.FV _) λE K hE hK=>?_;refine aF (GZ _ _ hl) (λhc=>?_) (λhc=>?_)<;>conv=>cbv
  ·refine aF (eU _ _ _) (λhs=>?_) (λhs=>?_)<;>conv=>cbv
   ·have hok:=hc.1;have h12:=hc.2.2.1;have hw:=hc.2.2.2;have hsum:=oL hok h12.2 l.length;rw [qH (by rw [jw];omega)] at hsum;have hpl:=EC hok h12.2 (s:=s) (by omega);(obtain ⟨T,hT⟩:∃T,T=(gF l).sum:=⟨_,rfl⟩);refine aQ (Yw n w hl hok (by omega)) λT' hT'=>?_;rw [←hT] at hT' hsum;obtain hT3:T=T':=hT'.symm;subst hT3;(conv=>cbv);refine aeN λu1 hu1=>?_;rw [eA _ ⟨by omega,by omega⟩] at hu1;(conv=>cbv);refine eX (by omega) λu2 hu2=>?_;(conv=>cbv);refine uz (by omega) ?_;(conv=>cbv);refine yO (by omega) λu3 hu3=>?_;have ajD:=Ky hu3 (by omega);(have hN:(kU s T:Int)=u3:=by unfold kU;rw [←hu1,←hu2,←hu3];omega);have hst:=λk=>Ac (s:=s) (t:=T) (by omega) (by omega) k;(conv=>cbv);refine iH (by omega) λu4 hu4=>?_;(conv=>cbv);refine ltI (λhfull=>?_) (λhfull=>?_)<;>conv=>cbv
    ·refine dW 5 ?_;(conv=>cbv);exact hK _ (by rw [iw,if_pos hc,if_pos hs,if_neg (by rw [←hT];omega)];rfl)
    repeat' first
      |((refine iR [1,2,6] [8,7] (λ(d k:Int) (es:List (List AV))=>([(8,.int .i64 d),(7,.ob 1)],[.box [.str n,.sl t 2 rl,.int .i64 w],.row 5 es],T - d,(0<=k/\k<=kU s T/\d=s*k/\d<T+s)/\es=((nR s k.toNat).map (tq l w)).map Gat.cs)) [0,1] ((0,0,[])) (by dsimp only;exact ⟨⟨by omega,by omega,by omega,by omega⟩,by rfl⟩) λd k es hi2 Kn2 hN2=>?_);obtain ⟨⟨k0,k1,hdk,hdT⟩,h2⟩:=hi2;(have hkn:=hst k.toNat);rw [show ((k.toNat:Nat):Int)=k by omega,←hdk] at hkn;(have hd0:0<=d:=by rw [hdk];exact dt (by omega) (by omega)))
      |(refine hN2 _ (k+1) _ [0,3] rfl ⟨⟨?_,?_,?_,?_⟩,?_⟩)
      |((first
     |(refine aQ (afc _ _ d hl hok h12 hw (by rw [←hT];omega)) (λg hg=>?_);obtain ⟨g1,g2,g3,g4,g5⟩:=g)
     |(refine aQ (afc _ _ T hl hok h12 hw (by rw [←hT];omega)) (λg hg=>?_);obtain ⟨g1,g2,g3,g4,g5⟩:=g)
     |(refine jA (R:=Gat.cs) (v:=⟨g1,g2,g3,g4,g5⟩) (by assumption) rfl (by simp only [al,mE];omega) (λes2 gG=>?_))
     |(refine aF (Gg (p:=λg=>¬Gat.ok g) (l:=(ji l s).map (tq l w)) (by rw [gG,hg];unfold ji;rw [←hT,show kU s T=k.toNat by omega];simp) SN) (λhbad=>?_) (λhbad=>?_))
     |refine dW 5 ?_
     |refine B0 ?_|refine B1 ?_ ?_)<;>intros<;>(try conv=>cbv))
    all_goals (try clear hN2)
    all_goals first
     |omega
     |(rename_i hd2;rw [hd2,hdk];grind)
     |(rw [gG,show (k+1).toNat=k.toNat+1 by omega,yA,db,db,hg,hdk,db];simp [show ((k.toNat:Nat):Int)=k by omega];done)
     |(refine hK _ ?_;rw [iw,if_pos hc,if_pos hs,if_pos (by rw [←hT];omega),if_neg (λh=>by obtain ⟨g,h1,h2⟩:=hbad;obtain ⟨d',h3,rfl⟩:=cA.1 h1;exact h2 (h d' h3))];rfl)
     |(refine hK _ ?_;rw [iw,if_pos hc,if_pos hs,if_pos (by rw [←hT];omega),if_pos (λd' hd'=>aw λhn=>hbad ⟨_,cA.2 ⟨d',hd',rfl⟩,hn⟩),gG,ji,←hT,show kU s T=k.toNat by omega];simp [FV,gP,hg];done)
   ·refine dW 5 ?_;(conv=>cbv);exact hK _ (by rw [iw,if_pos hc,if_neg hs];rfl)
  ·refine dW 5 ?_;(conv=>cbv);exact hK _ (by rw [iw,if_neg hc];rfl)
def Fwy.ok (v:Fwy):Prop:=(iw v.name v.line v.width v.dL).2=0/\(0<=v.aK/\v.aK<=5000)
theorem R9 [St] (name:ByteArray) (width dL aK:Int) {dR:List (List AV)} {kF:Bool} {line:List Pnt} (jZ:dR=line.map Pnt.cs):AP 134 [.agg [.str name,.sl kF 2 dR,.int .i64 width,.int .i64 dL,.int .i64 aK]] AV.bool (bP (Fwy.ok (Fwy.mk name line width dL aK))):=by
  refine a0 Tryz.func134 λE K hE hK=>?_
  repeat' first
    |((first
   |refine iK (R:=Gat.cs) (k:=5) (X7 _ _ _ jZ) (λrs c hrs hc=>?_)
   |refine aF (eU _ _ _) (λ_=>?_) (λ_=>?_)
   |refine B0 ?_|refine B1 ?_ ?_)<;>intros<;>(try conv=>cbv))
  all_goals first
   |exact aH hK (aG.2 ⟨by simp only;omega,by simp only;omega⟩)
   |(refine aH hK (ah.2 λh=>?_);have h1:=h.1;have h2:=h.2;simp only at h1 h2;omega)
set_option maxHeartbeats 2000000
theorem OQ [St] (d:Int) {rl:List (List AV)} {t:Bool} {l:List Pnt} (hl:rl=l.map Pnt.cs) (hok:rE l) (h12:2<=l.length/\l.length<=12) (hd:0<=d/\d<=(gF l).sum):AP 395 [.sl t 2 rl,.int .i64 d] two (jy (gF l) 1 d):=by
  refine ac Tryz.func395 (.two _) λE K hE hK=>?_;refine bO [0] [6,1] (λ(i e:Int)=>([(6,.int .i64 i),(1,.int .i64 e)],[],l.length - i,og l d i e/\e<=d)) [] ((1,d)) (by dsimp only;exact ⟨og.start h12.1 hd.1 hd.2,jn _⟩) λi e hi Kn hN=>?_;obtain ⟨hi,hed⟩:=hi;have hi':=hi;have hT:=oL hok h12.2 l.length;rw [qH (by rw [jw];omega)] at hT;obtain ⟨⟨h0,h1⟩,he0,he1,hfi⟩:=hi';refine bn hl λn2 hn2 hb2=>?_;conv=>cbv
  refine ltT (by omega) ?_;conv=>cbv
  refine eX (by omega) λk hk=>?_;conv=>cbv
  refine bQ (R:=Pnt.cs) hl (by omega) λp hp=>?_;have hpp:=hok.pt hp;obtain ⟨px,py⟩:=p;conv=>cbv
  refine bQ (R:=Pnt.cs) hl (by omega) λq hq=>?_;have hpq:=hok.pt hq;obtain ⟨qx,qy⟩:=q;conv=>cbv
  have hfa:=hi.at hk hp hq;have hsg:=hok.seg hp (by rw [show k.toNat+1=i.toNat by omega];exact hq);simp only at hfa hsg hpp hpq;obtain ⟨D,hD⟩:∃D,D=gL px py qx qy:=⟨_,rfl⟩
  rw [←hD] at hfa hsg
  repeat' first
    |(refine hN _ _ [] rfl ⟨?_,?_⟩)
    |((first
   |(refine aQ (qR _ _ _ _ hpp hpq) (λy hy=>?_);rw [←hD] at hy;subst hy)
   |refine B0 ?_|refine B1 ?_ ?_)<;>intros<;>(try conv=>cbv))
  all_goals (try clear hN)
  all_goals first
   |omega
   |(have h6:=hfa.2 (by omega);subst_vars;exact h6)
   |(refine hK _ ?_;rw [(hfa.1 (by omega)).1];rfl)
theorem Xo [St] (d:Int) {rl:List (List AV)} {t:Bool} {l:List Pnt} (hl:rl=l.map Pnt.cs) (hok:rE l) (h12:2<=l.length/\l.length<=12) (hd:0<=d/\d<=(gF l).sum):AP 396 [.sl t 2 rl,.int .i64 d] (λp:Pnt=> .agg p.cs) (u6 l d).1:=by
  refine ac Tryz.func396 (.EN _) λE K hE hK=>?_;obtain ⟨k,p,q,hk1,hp,hq,hsa,hr0,hr1,hkl⟩:=wZ hok h12.1 hd.1 hd.2;have hsg:=hok.seg hp hq;have hpp:=hok.pt hp;have hpq:=hok.pt hq;have hal:u6 l d=(xV p q (jy (gF l) 1 d).2 (gL p.x p.y q.x q.y),p,q):=by rw [u6,hsa]
  refine LX (OQ _ hl hok h12 hd) λm r hm hr=>?_;rw [←hr] at hr0 hr1 hal;rw [←hm] at hk1;conv=>cbv
  obtain ⟨px,py⟩:=p;obtain ⟨qx,qy⟩:=q;simp only at hsg hpp hpq hr1 hal;obtain ⟨D,hD⟩:∃D,D=gL px py qx qy:=⟨_,rfl⟩
  rw [←hD] at hsg hr1 hal;have hq2:l[m.toNat]? =some ⟨qx,qy⟩:=by rw [show m.toNat=k+1 by omega];exact hq
  repeat' first
    |((first
   |refine gK (R:=Pnt.cs) hl (by omega) hq2 ?_
   |(refine eX (by omega) (λk2 hk2=>?_);(have hp2:l[k2.toNat]? =some ⟨px,py⟩:=by rw [show k2.toNat=k by omega];exact hp))
   |refine gK (R:=Pnt.cs) hl (by omega) hp2 ?_
   |(refine aQ (qR _ _ _ _ hpp hpq) (λy hy=>?_);rw [←hD] at hy;subst hy)
   |(refine aQ (OZ _ _ _ _ _ _ hpp hpq hsg (by omega)) (λy hy=>?_);obtain ⟨yx,yy⟩:=y)
   |refine B0 ?_|refine B1 ?_ ?_)<;>intros<;>(try conv=>cbv))
  all_goals first
   |omega
   |(refine hK _ ?_;rw [hal];simp only;rw [←hy];rfl)
theorem aaj [St] (n:ByteArray) (w d:Int) {rl:List (List AV)} {t:Bool} {l:List Pnt} (hl:rl=l.map Pnt.cs) (hok:rE l) (h12:2<=l.length/\l.length<=12) (hw:10<=w/\w<=5000) (hd:0<=d/\d<=(gF l).sum):AP 333 [.pp [.str n,.sl t 2 rl,.int .i64 w],.int .i64 d] (λg:Gat=> .agg g.cs) (tq l w d):=by
  refine ac Tryz.func333 (.afF _) λE K hE hK=>?_;obtain ⟨k,p,q,hk1,hp,hq,hsa,hr0,hr1,hkl⟩:=wZ hok h12.1 hd.1 hd.2;have hsg:=hok.seg hp hq;have hpp:=hok.pt hp;have hpq:=hok.pt hq;have hbt:=VF hpp hpq hsg ⟨hr0,hr1⟩;have hgr:tq l w d=FU w d p q (jy (gF l) 1 d).2:=by rw [tq,hsa]
  have hal:(u6 l d).1=xV p q (jy (gF l) 1 d).2 (gL p.x p.y q.x q.y):=by rw [u6,hsa]
  obtain ⟨px,py⟩:=p;obtain ⟨qx,qy⟩:=q;simp only at hsg hpp hpq hr1 hal hbt;obtain ⟨D,hD⟩:∃D,D=gL px py qx qy:=⟨_,rfl⟩
  rw [←hD] at hsg hr1 hal hbt;refine LX (OQ _ hl hok h12 hd) λm r hm hr=>?_;rw [←hm] at hk1;conv=>cbv
  have hq2:l[m.toNat]? =some ⟨qx,qy⟩:=by rw [show m.toNat=k+1 by omega];exact hq
  have ai9:=hpp;have ai8:=hpq;unfold dZ at hpp hpq
  repeat' first
    |((first
   |refine gK (R:=Pnt.cs) hl (by omega) hq2 ?_
   |refine gK (R:=Pnt.cs) hl (by omega) hp2 ?_
   |(refine aQ (qR _ _ _ _ ai9 ai8) (λy hy=>?_);rw [←hD] at hy;subst hy)
   |(refine aQ (Xo _ hl hok h12 hd) (λy hy=>?_);rw [hal] at hy;rw [←hy] at hbt;obtain ⟨yx,yy⟩:=y;simp only at hbt)
   |refine adl (by omega) (λm hm hmb=>?_)
   |(refine aQ (Ve _ _ (by omega) (by omega)) (λz hz=>?_);(have hyb:=aer (B:=90000000000) hz (by omega) (by omega)))
   |(refine eX (a:=m) (by omega) (λk2 hk2=>?_);(have hp2:l[k2.toNat]? =some ⟨px,py⟩:=by rw [show k2.toNat=k by omega];exact hp))
   |refine B0 ?_|refine B1 ?_ ?_)<;>intros<;>(try conv=>cbv))
  all_goals first
   |omega
   |(refine hK _ ?_;rw [hgr,FU];simp only;rw [←hD,←hy];simp only;subst_vars;rfl)
theorem Wt {s T:Int} (hs:0<s) (hT:0<=T):(kU s T:Int)<=T+s - 1:=by
 have:=Ky (q:=(T+s - 1) / s) rfl ⟨by omega,hs⟩;unfold kU;omega
theorem NV (l:List Pnt) (s:Int):(ji l s).length=kU s (gF l).sum+1:=by rw [ji,am,mE];rfl
set_option maxHeartbeats 8000000
theorem Xp [St] (n:ByteArray) (w s:Int) {rl:List (List AV)} {t:Bool} {l:List Pnt} (hl:rl=l.map Pnt.cs):AP 266 [.pp [.str n,.sl t 2 rl,.int .i64 w],.int .i64 s] FV (iw n l w s):=by
  refine ac Tryz.func266 (.FV _) λE K hE hK=>?_;refine aF (afT _ _ hl) (λhc=>?_) (λhc=>?_)<;>conv=>cbv
  ·refine aF (in_ _ _ _) (λhs=>?_) (λhs=>?_)<;>conv=>cbv
   ·have hok:=hc.1;have h12:=hc.2.2.1;have hw:=hc.2.2.2;have hsum:=oL hok h12.2 l.length;rw [qH (by rw [jw];omega)] at hsum;have hpl:=EC hok h12.2 (s:=s) (by omega);have ahK:=NV l s;(obtain ⟨T,hT⟩:∃T,T=(gF l).sum:=⟨_,rfl⟩);refine aQ (RU n w hl hok (by omega)) λT' hT'=>?_;rw [←hT] at hT' hsum ahK;obtain hT3:T=T':=hT'.symm;subst hT3;(conv=>cbv);have hst:=λk=>Ac (s:=s) (t:=T) (by omega) (by omega) k;have hN:=Wt (s:=s) (T:=T) (by omega) (by omega)
    repeat' first
      |((refine iR [0,1,6] [8,7] (λ(d k:Int) (es:List (List AV))=>([(8,.int .i64 d),(7,.ob 0)],[.row 1 es],T - d,(0<=k/\k<=kU s T/\d=s*k/\d<T+s)/\es=(nR s k.toNat).map aN)) [0] ((0,0,[])) (by dsimp only;exact ⟨⟨by omega,by omega,by omega,by omega⟩,by rfl⟩) λd k es hi2 Kn2 hN2=>?_);obtain ⟨⟨k0,k1,hdk,hdT⟩,h2⟩:=hi2;(have hkn:=hst k.toNat);rw [show ((k.toNat:Nat):Int)=k by omega,←hdk] at hkn;(have hd0:0<=d:=by rw [hdk];exact dt (by omega) (by omega)))
      |((refine bO [0,7] [10,9] (λ(i:Int) (fs:List (List AV))=>([(10,.int .i64 i),(9,.ob 1)],[.row 1 es2,.row 5 fs],(ji l s).length - i,(0<=i/\i<=(ji l s).length)/\fs=(((ji l s).take i.toNat).map (tq l w)).map Gat.cs/\Up (λj=>∀d,(ji l s)[j]? =some d->(tq l w d).ok) i)) [2,3] ((0,[])) (by dsimp only;exact ⟨by omega,by rfl,.zero (by omega)⟩) λi fs hi3 Kn3 hN3=>?_);obtain ⟨⟨i0,i1⟩,h3,hinv⟩:=hi3)
      |(refine hN3 _ _ [0,4] rfl ⟨?_,?_,?_⟩)
      |(refine hN3 _ _ [0,3] rfl ⟨?_,?_,?_⟩)
      |(refine hN3 _ _ [0,2] rfl ⟨?_,?_,?_⟩)
      |(refine hN2 _ (k+1) _ [2] rfl ⟨⟨?_,?_,?_,?_⟩,?_⟩)
      |((first
     |(refine jA (R:=aN) (v:=d) h2 rfl (by simp only [mE];omega) (λes2 gG=>?_))
     |(refine jA (R:=aN) (v:=T) h2 rfl (by simp only [mE];omega) (λes2 gG=>?_);(have xQ:es2=(ji l s).map aN:=by rw [gG,ji,←hT,show k.toNat=kU s T by omega]))
     |refine bn xQ (λm hm hmb=>?_)
     |(refine bQ (R:=aN) xQ (by omega) (λe he=>?_);have hee:=hpl _ (ae he))
     |(refine aQ (aaj n w _ hl hok h12 hw hee) (λg hg=>?_);obtain ⟨g1,g2,g3,g4,g5⟩:=g)
     |(refine jA (R:=Gat.cs) (v:=⟨g1,g2,g3,g4,g5⟩) h3 rfl (by simp only [al,ba];omega) (λes4 FP=>?_))
     |refine dW 5 ?_
     |refine aF (xI _ _) (λ_=>?_) (λ_=>?_)
     |refine B0 ?_|refine B1 ?_ ?_)<;>intros<;>(try conv=>cbv))
    (all_goals (try clear hN2));all_goals (try clear hN3)
    all_goals first
     |omega
     |(rename_i hd2;rw [hd2,hdk];grind)
     |(rw [gG,show (k+1).toNat=k.toNat+1 by omega,yA,show ((k.toNat:Nat):Int)=k by omega,hdk])
     |(rw [Y1 i0 he (by assumption),FP,hg])
     |(refine hinv.succ (λd' hd'=>?_) (by assumption);rw [he] at hd';cases hd';rw [←hg];exact ⟨by assumption,by assumption⟩)
     |(refine hK _ ?_;rw [iw,if_pos hc,if_pos hs,if_neg (by rw [←hT];omega)];rfl)
     |(refine hK _ ?_;rw [iw,if_pos hc,if_pos hs,if_pos (by rw [←hT];omega),if_neg (λh=>by have h5:=h _ (ae he);rw [←hg] at h5;first|exact absurd h5.1 (by assumption)|exact absurd h5.2 (by assumption))];rfl)
     |(refine hK _ ?_;rw [iw,if_pos hc,if_pos hs,if_pos (by rw [←hT];omega),if_pos (λd' hd'=>(by obtain ⟨j,hj⟩:=ap hd';exact hinv j (by have:=(aa.1 hj).1;omega) d' hj)),h3,bm (by omega)];rfl)
   ·refine dW 5 ?_;(conv=>cbv);exact hK _ (by rw [iw,if_pos hc,if_neg hs];rfl)
  ·refine dW 5 ?_;(conv=>cbv);exact hK _ (by rw [iw,if_neg hc];rfl)
def sS (gs:List Gat):List Buo:=gs.flatMap λg=>[⟨g.lx,g.ly,1⟩,⟨g.rx,g.ry,2⟩]
theorem LY {gs:List Gat} {i n:Int} {g:Gat} (h0:0<=i) (hg:gs[i.toNat]? =some g) (hn:n=i+1):sS (gs.take n.toNat)=sS (gs.take i.toNat)++[⟨g.lx,g.ly,1⟩,⟨g.rx,g.ry,2⟩]:=by
 unfold sS;rw [show n.toNat=i.toNat+1 by omega,cq,hg];simp
theorem Qp (gs:List Gat):(sS gs).length=2*gs.length:=by
 unfold sS
 induction gs with
 |nil=>rfl
 |cons g l ih=>simp only [fX,am,ih];simp;omega
noncomputable def Bt (n:ByteArray) (l:List Pnt) (w s:Int):List Buo×Int:=if (iw n l w s).2=0 then (sS (iw n l w s).1,0) else ([],(iw n l w s).2)
theorem Xq [St] (n:ByteArray) (w s:Int) {rl:List (List AV)} {t:Bool} {l:List Pnt} (hl:rl=l.map Pnt.cs):AP 188 [.pp [.str n,.sl t 2 rl,.int .i64 w],.int .i64 s] VE (Bt n l w s):=by
  refine ac Tryz.func188 (.VE _) λE K hE hK=>?_;have ajK:=PN n l w s;refine iK (R:=Gat.cs) (k:=5) (Xp n w s hl) λrs c hrs hc=>?_;conv=>cbv
  refine eqI (λh=>?_) (λh=>?_)<;>conv=>cbv
  ·skip
   repeat' first
     |((refine bO [6] [9,8] (λ(i:Int) (es:List (List AV))=>([(9,.int .i64 i),(8,.ob 1)],[.row 5 rs,.row 3 es],(iw n l w s).1.length - i,(0<=i/\i<=(iw n l w s).1.length)/\es=(sS ((iw n l w s).1.take i.toNat)).map Buo.cs)) [0,1] ((0,[])) (by dsimp only;exact ⟨by omega,by rfl⟩) λi es hi2 Kn2 hN2=>?_);obtain ⟨⟨h0,h1⟩,h2⟩:=hi2)
     |(refine hN2 _ _ [0,3] rfl ⟨?_,?_⟩)
     |(refine hN2 _ _ [0,2] rfl ⟨?_,?_⟩)
     |(refine hN2 _ _ [0,4] rfl ⟨?_,?_⟩)
     |((first
    |refine bn hrs (λm hm hmb=>?_)
    |refine gK (R:=Gat.cs) hrs (by omega) (by assumption) ?_
    |(refine bQ (R:=Gat.cs) hrs (by omega) (λg hg=>?_);obtain ⟨g1,g2,g3,g4,g5⟩:=g)
    |(refine zG (R:=Buo.cs) (m:=[⟨g2,g3,1⟩,⟨g4,g5,2⟩]) h2 rfl (by simp only [Qp,ba,bi,cQ];omega) (λes4 FP=>?_))
    |refine B0 ?_|refine B1 ?_ ?_)<;>intros<;>(try conv=>cbv))
   all_goals (try clear hN2)
   all_goals first
    |omega
    |(rw [LY h0 hg (by assumption),FP])
    |(refine hK _ ?_;rw [Bt,if_pos (by omega),h2,bm (by omega)];rfl)
  ·refine dW 3 ?_;(conv=>cbv);exact hK _ (by rw [Bt,if_neg (by omega),←hc];rfl)
theorem Qo (n:ByteArray) (l:List Pnt) (w s:Int):(Bt n l w s).2=(iw n l w s).2:=by
 unfold Bt;split
 ·simp only;omega
 ·rfl
theorem OO [St] (name:ByteArray) (width dL aK:Int) {dR:List (List AV)} {kF:Bool} {line:List Pnt} (jZ:dR=line.map Pnt.cs):AP 175 [.pp [.str name,.sl kF 2 dR,.int .i64 width,.int .i64 dL,.int .i64 aK]] AV.bool (bP (Fwy.ok (Fwy.mk name line width dL aK))):=by
  refine a0 Tryz.func175 λE K hE hK=>?_;have hcode:=Qo name line width dL
  repeat' first
    |((first
   |refine iK (R:=Buo.cs) (k:=3) (AC.aiH (Xq _ _ _ jZ)) (λrs c hrs hc=>?_)
   |refine aF (in_ _ _ _) (λ_=>?_) (λ_=>?_)
   |refine B0 ?_|refine B1 ?_ ?_)<;>intros<;>(try conv=>cbv))
  all_goals first
   |exact aH hK (aG.2 ⟨by simp only;omega,by simp only;omega⟩)
   |(refine aH hK (ah.2 λh=>?_);have h1:=h.1;have h2:=h.2;simp only at h1 h2;omega)
end Go.Proofs.YtnlhnideeaobpaaGreatDoor
