/- Contracts: small functions, visits. -/
import Derived.Test.YtnlhnideeaobpaaGreatDoorAxU
namespace Go.Proofs.YtnlhnideeaobpaaGreatDoor
open Go Go.RowKit Classical
set_option maxRecDepth 100000
set_option maxHeartbeats 2000000
set_option linter.unusedVariables false
set_option linter.unusedSimpArgs false
theorem eU [St] (x a b:Int):AP 145 [.int .i64 x,.int .i64 a,.int .i64 b] AV.bool (bP (a<=x/\x<=b)):=by
  refine a0 Tryz.func145 λE K hE hK=>?_
  repeat' first
    |((first
   |refine B0 ?_|refine B1 ?_ ?_)<;>intros<;>(try conv=>cbv))
  all_goals exact fz
theorem in_ [St] (x a b:Int):AP 112 [.int .i64 x,.int .i64 a,.int .i64 b] AV.bool (bP (a<=x/\x<=b)):=by
  refine a0 Tryz.func112 λE K hE hK=>?_
  repeat' first
    |((first
   |refine B0 ?_|refine B1 ?_ ?_)<;>intros<;>(try conv=>cbv))
  all_goals exact fz
theorem AU [St] (x:Int):AP 207 [.int .i64 x] AV.bool (bP (1<=x/\x<=9999)):=by
  refine a0 Tryz.func207 λE K hE hK=>?_
  repeat' first
    |((first
   |refine aF (eU _ _ _) (λ_=>?_) (λ_=>?_)
   |refine B0 ?_|refine B1 ?_ ?_)<;>intros<;>(try conv=>cbv))
  all_goals exact fz
theorem aaF [St] (x:Int):AP 205 [.int .i64 x] AV.bool (bP (0<=x/\x<=99999)):=by
  refine a0 Tryz.func205 λE K hE hK=>?_
  repeat' first
    |((first
   |refine aF (eU _ _ _) (λ_=>?_) (λ_=>?_)
   |refine B0 ?_|refine B1 ?_ ?_)<;>intros<;>(try conv=>cbv))
  all_goals exact fz
theorem F4 [St] (n m:Int):AP 136 [.int .i64 n,.int .i64 m] AV.bool (bP (n<=m)):=by
  refine a0 Tryz.func136 λE K hE hK=>?_
  repeat' first
    |((first
   |refine B0 ?_|refine B1 ?_ ?_)<;>intros<;>(try conv=>cbv))
  all_goals exact fz
theorem at_ [St] (i n:Int):AP 154 [.int .i64 i,.int .i64 n] AV.bool (bP (0<=i/\i<n)):=by
  refine a0 Tryz.func154 λE K hE hK=>?_
  repeat' first
    |((first
   |refine B0 ?_|refine B1 ?_ ?_)<;>intros<;>(try conv=>cbv))
  all_goals exact fz
structure Vis where
 aid:Int
 every:Int
 last:Int
def Vis.cs (v:Vis):List AV:=[.int .i64 v.aid,.int .i64 v.every,.int .i64 v.last]
def Vis.ok (v:Vis):Prop:=(1<=v.aid/\v.aid<=9999)/\(1<=v.every/\v.every<=3650)/\0<=v.last/\v.last<=99999
theorem NoB.vis (v:Vis):NoB (.agg v.cs):= .bW (.int _ _) (.bW (.int _ _) (.bW (.int _ _) .o9))
def Vis.C (l:List Vis) (j:Nat):Prop:=∃v,l[j]? =some v/\v.ok/\(0<j->∃w,l[j - 1]? =some w/\w.aid<v.aid)
theorem eP {α:Type} {l m:List α} {i:Int} (hl:l.length=m.length) (h:Up (λj=>l[j]? =m[j]?) i) (hi:(l.length:Int)<=i):l=m:=by
 apply cC;intro j;by_cases hj:j<l.length
 ·exact h j (by omega)
 ·rw [ar (by omega),ar (by omega)]
def mD {α:Type} (p:α->Prop) (l:List α) (r:Int):Prop:=(0<=r/\r<l.length/\(∃v,l[r.toNat]? =some v/\p v)/\∀(j:Nat) v,(j:Int)<r->l[j]? =some v->¬p v)∨(r= -1/\∀(j:Nat) v,l[j]? =some v->¬p v)
theorem mD.uniq {α:Type} {p:α->Prop} {l:List α} {r s:Int} (h:mD p l r) (k:mD p l s):r=s:=by
 rcases h with ⟨h1,h2,⟨v,h3,h4⟩,h5⟩|⟨h1,h2⟩<;>rcases k with ⟨k1,k2,⟨u,k3,k4⟩,k5⟩|⟨k1,k2⟩
 ·rcases eL r s with h6|h6|h6
  ·exact (k5 _ _ (by omega) h3 h4).elim
  ·exact h6
  ·exact (h5 _ _ (by omega) k3 k4).elim
 ·exact (k2 _ _ h3 h4).elim
 ·exact (h2 _ _ k3 k4).elim
 ·omega
theorem mD.ex {α:Type} (p:α->Prop):∀l:List α,∃r,mD p l r
 |[]=>⟨-1,.inr ⟨rfl,λj v h=>by simp at h⟩⟩
 | a :: l =>by
   by_cases h:p a
   ·exact ⟨0,.inl ⟨by omega,by simp,⟨a,by simp,h⟩,λj v hj=>by omega⟩⟩
   ·obtain ⟨r,hr⟩:=mD.ex p l;rcases hr with ⟨h1,h2,⟨v,h3,h4⟩,h5⟩|⟨h1,h2⟩
    ·refine ⟨r+1,.inl ⟨by omega,by simp;omega,⟨v,?_,h4⟩,λj v hj hv=>?_⟩⟩
     ·rw [show (r+1).toNat=r.toNat+1 by omega];simpa using h3
     ·cases j with
      |zero=>simp at hv;subst hv;exact h
      |succ j=>exact h5 j v (by omega) (by simpa using hv)
    ·refine ⟨-1,.inr ⟨rfl,λj v hv=>?_⟩⟩
     cases j with
     |zero=>simp at hv;subst hv;exact h
     |succ j=>exact h2 j v (by simpa using hv)
noncomputable def lF {α:Type} (p:α->Prop) (l:List α):Int:=(mD.ex p l).choose
theorem mY {α:Type} (p:α->Prop) (l:List α):mD p l (lF p l):=(mD.ex p l).choose_spec
theorem Jm {α:Type} {p:α->Prop} {l:List α} {r:Int} (h:mD p l r):lF p l=r:=(mY p l).uniq h
theorem kQ {α:Type} {p:α->Prop} {l:List α} {i:Int} {v:α} (h0:0<=i) (hv:l[i.toNat]? =some v) (hp:p v) (h:Up (λj=>∀v,l[j]? =some v->¬p v) i):lF p l=i:=
 Jm (.inl ⟨h0,by have:=(aa.1 hv).1;omega,⟨v,hv,hp⟩,λj v hj=>h j hj v⟩)
theorem jR {α:Type} {p:α->Prop} {l:List α} {i:Int} (hi:(l.length:Int)<=i) (h:Up (λj=>∀v,l[j]? =some v->¬p v) i):lF p l= -1:=
 Jm (.inr ⟨rfl,λj v hv=>h j (by have:=(aa.1 hv).1;omega) v hv⟩)
def szN (n:Int) (k:Nat):Int:=if n - k<0 then -1 else n - k
def iQ (s:ByteArray):List AV:=[.str s]
theorem NoB.strs (es:List ByteArray):NoB (.sl true 1 (es.map iQ)):= .rows λv=> .bW (.str _) .o9
def eG (i:Int) (es:List ByteArray):ByteArray:=if 0<=i/\i<es.length then es.getD i.toNat ⟨#[]⟩ else ⟨#[]⟩
theorem EO [St] {rs:List (List AV)} {t:Bool} {es:List ByteArray} (i:Int) (hl:rs=es.map iQ):AP 82 [.int .i64 i,.sl t 1 rs] AV.str (eG i es):=by
  refine a0 Tryz.func82 λE K hE hK=>?_
  repeat' first
    |((first
   |refine aF (at_ _ _) (λ_=>?_) (λ_=>?_)
   |(refine bQ (R:=iQ) (by assumption) (by first|omega|(simp only [bo,dP];omega)) ?_;rintro ⟨⟩ _)
   |refine B0 ?_|refine B1 ?_ ?_)<;>intros<;>(try conv=>cbv))
  ·rename_i s hs;refine hK _ ?_;unfold eG;rw [if_pos (by omega),ad,hs];rfl
  ·refine hK _ ?_;unfold eG;rw [if_neg (by omega)];rfl
structure Fnd where
 kind:Int
 who:ByteArray
 what:ByteArray
def Fnd.cs (f:Fnd):List AV:=[.int .i64 f.kind,.str f.who,.str f.what]
def mtF:Nat->Int->ByteArray->ByteArray
 |0,_,out=>out
 |n+1,k,out=>if 0<k then mtF n (k / 10) (bytesOf [48+k % 10]++out) else out
def sZ (k:Int):ByteArray:=if k<=0 then ⟨#[109,48]⟩ else ⟨#[109]⟩++mtF 64 k ⟨#[]⟩
theorem ZU (n:Nat) (out:ByteArray):mtF n 0 out=out:=by cases n<;>simp [mtF]
theorem jB [St] (k:Int) (hk0:k<=4611686018427387904):AP 55 [.int .i64 k] AV.str (sZ k):=by
  refine a0 Tryz.func55 λE K hE hK=>?_
  repeat' first
    |((first
   |refine B0 ?_|refine B1 ?_ ?_)<;>intros<;>(try conv=>cbv))
  ·refine hK _ ?_;rw [sZ,if_pos (by assumption)];rfl
  ·rename_i hpos;refine OC (ι:=Int×ByteArray×Nat) [0,3] (λp=>⟨reF _ [(0,.int .i64 p.1),(3,.str p.2.1)],[]⟩) (λp=>p.1.toNat) (λp=>(0<=p.1/\p.1<=4611686018427387904)/\p.1<2 ^ p.2.2/\p.2.2<=64/\p.2.1.size+p.2.2<=64/\mtF 64 k ⟨#[]⟩=mtF p.2.2 p.1 p.2.1) [] (by decide) (k,⟨#[]⟩,64) rfl ⟨⟨by simp;omega,by simp;omega⟩,by simp;omega,by simp,by simp [ByteArray.size],rfl⟩ λp hi Kn hN=>?_;obtain ⟨k',out,n⟩:=p;obtain ⟨h0,h1,h2,h3,h4⟩:=hi;simp only at h0 h1 h2 h3 h4;conv=>cbv
   repeat' first
     |((first
    |refine QT [_] (by rfl) (λ_ _ _=>?_)
    |refine B0 ?_|refine B1 ?_ ?_)<;>intros<;>(try conv=>cbv))
   ·cases n with
    |zero=>simp at h1;omega
    | succ n=>
      have e2:(2:Int) ^ (n+1)=2 ^ n*2:=Int.pow_succ ..;refine hN (_,_,n) _ [] (by decide) rfl ⟨?_,?_,?_,?_,?_⟩ ?_
      ·simp only;omega
      ·simp only;omega
      ·simp only;omega
      ·simp only [mC] at *;omega
      ·clear hN hK;rw [h4,mtF,if_pos (by assumption)];subst_vars;rfl
      ·simp only;omega
   ·refine hK _ ?_;(have:k'=0:=by omega);subst this;rw [sZ,if_neg (by omega),h4,ZU];clear hN hK;subst_vars;rfl
def aN (n:Int):List AV:=[.int .i64 n]
theorem NoB.ints (l:List Int):NoB (.sl true 1 (l.map aN)):= .rows λv=> .bW (.int _ _) .o9
def U3 (n:Nat) (k:Int):List Int:=(List.range n).map λi:Nat=>k+(i:Int)
theorem Xe (n:Nat) (k:Int):(U3 n k).length=n:=by simp [U3]
theorem Ov [St] {rs:List (List AV)} {l:List Int} (k:Int) (hl:rs=l.map aN) (hk0:0<=k/\k<=1000000000000000) (hb:l.length<=100000000000):ACM Tryz.prog 53 [.sl true 1 rs,.int .i64 k] (λr ys=>r= .int .i64 (k+l.length)/\∃rs',rs'=(U3 l.length k).map aN/\ys=[.sl true 1 rs',.any]):=by
  refine acm 1 Tryz.func53 (λr ys ⟨h1,rs',h3,h2⟩=>⟨by rw [h1];exact .int _ _,by rw [h2,h3];simp;exact ⟨.ints _,.any⟩⟩) λE K hE hK=>?_;refine OC (ι:=Int×Int×List (List AV)) [0,1,5] (λp=>⟨reF _ [(0,.ob 0),(1,.int .i64 p.2.1),(5,.int .i64 p.1)],[.row 1 p.2.2]⟩) (λp=>(l.length - p.1).toNat) (λp=>(0<=p.1/\p.1<=l.length)/\p.2.1=k+p.1/\p.2.2=(mix (λi:Nat=>k+(i:Int)) l p.1).map aN) [0] (by decide) (0,k,rs) rfl ⟨by simp,by simp,by simp only;rw [oP (by omega)];exact hl⟩ λp hi Kn hN=>?_;obtain ⟨i,k',es⟩:=p;obtain ⟨⟨h0,h1⟩,h2,h3⟩:=hi;simp only at h0 h1 h2 h3;have hlen:=dP (λi:Nat=>k+(i:Int)) l i;conv=>cbv
  repeat' first
    |(refine hN (_,_,_) _ [0] (by decide) rfl ⟨?_,?_,?_⟩ ?_)
    |((first
   |refine wB _ (by assumption) (by omega) (by assumption) (by exact bt rfl) (by first|rfl|((conv=>lhs;cbv);rfl)) (λ_ _=>?_)
   |refine B0 ?_|refine B1 ?_ ?_)<;>intros<;>(try conv=>cbv))
  ·simp only;omega
  ·simp only;omega
  ·simp only;rename_i e' he' a ha b hb';rw [he',rZ h0 (by omega) (by omega) hb']
  ·simp only;omega
  ·(have hi:i=l.length:=by omega);refine hK _ _ ⟨?_,es,?_,rfl⟩
   ·rw [h2,hi];rfl
   ·rw [h3,r9 (by omega)];rfl
theorem Jp [St] {rs rs':List (List AV)} {t t':Bool} {l m:List Int} (hl:rs=l.map aN) (hm:rs'=m.map aN):AP 44 [.sl t 1 rs,.sl t' 1 rs'] AV.bool (bP (l=m)):=by
  refine a0 Tryz.func44 λE K hE hK=>?_;refine bn hl λn hn hb=>?_;conv=>cbv
  refine bn hm λn' hn' hb'=>?_;conv=>cbv
  refine eqI (λhe=>?_) (λhe=>?_)<;>conv=>cbv
  ·refine OC (ι:=Int) [0,1,5] (λi=>⟨reF _ [(0,.sl t 1 rs),(1,.sl t' 1 rs'),(5,.int .i64 i)],[]⟩) (λi=>(l.length - i).toNat) (λi=>0<=i/\Up (λj=>l[j]? =m[j]?) i) [] (by decide) 0 rfl ⟨by omega,.zero (by omega)⟩ λi hi Kn hN=>?_;obtain ⟨h0,hinv⟩:=hi;conv=>cbv
   repeat' first
     |( refine hN _ _ [] (by decide) rfl ⟨by omega,?_⟩ ?_)
     |((first
    |refine B0 ?_|refine B1 ?_ ?_)<;>intros<;>(try conv=>cbv))
   ·refine hinv.succ ?_ (by assumption);grind
   ·omega
   ·refine aH hK (ah.2 λh=>?_);grind
   ·exact aH hK (aG.2 (eP (by omega) hinv (by omega)))
  ·refine aH hK (ah.2 λh=>?_);subst h;omega
def Dl (a b:Int):Int:=if a<b then -1 else if b<a then 1 else 0
theorem af2 [St] (x:Int):AP 317 [.int .i64 x] AV.bool false:=by
  refine a0 Tryz.func317 λE K hE hK=>?_
  repeat' first
    |((first
   |refine B0 ?_|refine B1 ?_ ?_)<;>intros<;>(try conv=>cbv))
  all_goals exact hK _ rfl
theorem abp [St] (a b:Int):AP 241 [.int .i64 a,.int .i64 b] (AV.int .i64) (Dl a b):=by
  refine a0 Tryz.func241 λE K hE hK=>?_
  repeat' first
    |((first
   |refine Jy (af2 _) (λ_=>?_) (λ_=>?_)
   |refine B0 ?_|refine B1 ?_ ?_)<;>intros<;>(try conv=>cbv))
  all_goals first
   |(simp_all;done)
   |(refine hK _ ?_;unfold Dl;simp only [gP];congr 1;split<;>(try split)<;>omega)
def Vis.due (v:Vis):Int:=IntKind.i64.wrap (v.last+v.every)
def llR (b:Bool) (x:List Int):List AV:=[.sl b 1 (x.map aN)]
theorem NoB.lls (l:List (List Int)):NoB (.sl true 1 (l.map (llR true))):= .rows λv=> .bW (.ints _) .o9
theorem ae2 [St] {E:Env} {np:Nat} {P:Program} [hE:SE E np P] {es:List (List AV)} {i:Int} {K:List AV->Prop} {l:List (List Int)} {b:Bool} (hl:es=l.map (llR b)) (h0:0<=i/\i<l.length) (hk:∀x rx,l[i.toNat]? =some x->rx=x.map aN->K [.sl b 1 rx]):E.idx es i K:=
 bQ hl h0 λv hv=>hk v _ hv rfl
theorem ae1 [St] {E:Env} {np:Nat} {P:Program} [hE:SE E np P] {es rx:List (List AV)} {i:Int} {K:List AV->Prop} {l:List (List Int)} {b:Bool} {x:List Int} (hl:es=l.map (llR b)) (h0:0<=i) (hx:l[i.toNat]? =some x) (hr:rx=x.map aN) (hk:K [.sl b 1 rx]):E.idx es i K:=
 gK hl h0 hx (by rw [llR,←hr];exact hk)
theorem H8 [St] {rs:List (List AV)} {t:Bool} {l:List Int} (n:Int) (hl:rs=l.map aN) (hn:0<=n/\n<=1048576):AP 18 [.sl t 1 rs,.int .i64 n] (AV.int .i64) (szN n l.length):=by
  refine a0 Tryz.func18 λE K hE hK=>?_
  repeat' first
    |((first
   |refine B0 ?_|refine B1 ?_ ?_)<;>intros<;>(try conv=>cbv))
  all_goals (try clear hN)
  all_goals (refine hK _ ?_;first|(simp only [gP];grind [szN])|(simp_all [gP,szN];done))
theorem H7 [St] {rs:List (List AV)} {t:Bool} {l:List Int} (hl:rs=l.map aN) (hb0:l.length<=1048576):AP 27 [.sl t 1 rs] (λl:List Int=> .sl true 1 (l.map aN)) l:=by
  refine ac Tryz.func27 (.ints _) λE K hE hK=>?_;refine bn hl λn hn hb=>?_;conv=>cbv
  refine yV (l:=l) aN hn rfl (by omega) λes hes=>?_;conv=>cbv
  refine OC (ι:=Int×List (List AV)) [0,3,4] (λp=>⟨reF _ [(0,.sl t 1 rs),(3,.ob 0),(4,.int .i64 p.1)],[.row 1 p.2]⟩) (λp=>(l.length - p.1).toNat) (λp=>0<=p.1/\p.2=fM aN [.int .i64 0] l p.1) [0] (by decide) (0,es) rfl ⟨by simp,hes⟩ λp hi Kn hN=>?_;obtain ⟨i,es'⟩:=p;obtain ⟨h0,hinv⟩:=hi;simp only at h0 hinv;conv=>cbv
  repeat' first
    |( refine hN (_,_) _ [0] (by decide) rfl ⟨?_,?_⟩ ?_)
    |((first
   |refine nP (R:=aN) (by assumption) (by omega) (by assumption) (by exact aq _) (by rfl) (λ_ _=>?_)
   |refine B0 ?_|refine B1 ?_ ?_)<;>intros<;>(try conv=>cbv))
  ·omega
  ·grind
  ·omega
  ·refine hK _ ?_;rw [hinv,iF (by omega)];rfl
theorem iW {α:Type} {p:α->Prop} {l:List α}:0<=lF p l↔∃v∈l,p v:=by
 rcases mY p l with ⟨h1,h2,⟨v,h3,h4⟩,h5⟩|⟨h1,h2⟩
 ·exact ⟨λ_=>⟨v,ae h3,h4⟩,λ_=>h1⟩
 ·refine ⟨λh=>by omega,λ⟨v,hv,hp⟩=>?_⟩;obtain ⟨j,hj⟩:=ap hv;exact (h2 j v hj hp).elim
def two (q:Int×Int):AV:= .tup [.int .i64 q.1,.int .i64 q.2]
theorem NoB.two (q:Int×Int):NoB (two q):= .nH (.int _ _) (.nH (.int _ _) .CY)
theorem JZ (n:Int) (k:Nat):szN n k= -1/\n<k∨szN n k=n - k/\k<=n:=by unfold szN;split<;>omega
theorem zZ {n:Int} {k:Nat} (h:n<k):szN n k= -1:=by unfold szN;rw [if_pos (by omega)]
theorem Aa {n:Int} {k:Nat} (h:k<=n):szN n k=n - k:=by unfold szN;rw [if_neg (by omega)]
def sumTo {α:Type} (f:α->Nat) (l:List α) (i:Int):Nat:=((l.take i.toNat).map f).sum
theorem eH {α:Type} {f:α->Nat} {l:List α} {i:Int} (h:i<=0):sumTo f l i=0:=by
 unfold sumTo;rw [show i.toNat=0 by omega];simp
theorem eO {α:Type} (f:α->Nat) {l:List α} {i:Int} {v:α} (h0:0<=i) (hv:l[i.toNat]? =some v):sumTo f l (i+1)=sumTo f l i+f v:=by
 unfold sumTo;rw [show (i+1).toNat=i.toNat+1 by omega,cq,hv];simp
theorem jU {α:Type} (f:α->Nat) (l:List α) {i:Int} (h:l.length<=i):sumTo f l i=(l.map f).sum:=by
 unfold sumTo;rw [bm (by omega)]
theorem sumTo_le {α:Type} (f:α->Nat) (l:List α) (i:Int):sumTo f l i<=(l.map f).sum:=by
 unfold sumTo;have:=congrArg (λm=>(m.map f).sum) (eJ i.toNat l);simp only [db,il] at this;omega
theorem Ee {α:Type} (f:α->Nat):∀{l:List α} {v:α},v∈l->f v<=(l.map f).sum
 | x::l,v,h=>by
   rcases bk.1 h with rfl|h
   ·simp
   ·have:=Ee f h;simp;omega
section
variable {E:Env} {np:Nat} {P:Program}
theorem af5 [St] [hE:SE E np P] {α:Type} {R:α->List AV} {m:List α} {es:List (List AV)} {i:Int} {v:α} {K:List AV->Prop} (hes:es=(m.set i.toNat v).map R) (h:0<=i/\i<m.length) (hk:(m.set i.toNat v)[i.toNat]? =some v->K (R v)):E.idx es i K:=by
 have h1:(m.set i.toNat v)[i.toNat]? =some v:=by rw [fv (by omega)]
 exact gK hes h.1 h1 (hk h1)
theorem XV [St] [hE:SE E np P] {α:Type} {R:α->List AV} {m:List α} {es:List (List AV)} {i:Int} {v:α} {K:List AV->Prop} (hes:es=(m.set i.toNat v).map R) (h:0<=i/\i<m.length) (hk:K (R v)):E.idx es i K:=af5 hes h λ_=>hk
theorem V7 [St] [hE:SE E np P] {α:Type} {R:α->List AV} {cs:List AV} {m:List α} {es:List (List AV)} {i:Int} {j:Nat} {K:List (List AV)->Prop} {v:α} (v':α) (hes:es=(m.set i.toNat v).map R) (h:0<=i/\i<m.length) (hl:j+cs.length<=(R v).length) (hz:splice (R v) j cs=R v')
  (hk:∀es',es'=(m.set i.toNat v').map R->K es'):E.upd es i j cs K:=
 wB v' hes h.1 (fv (by omega)) hl hz λes' h'=>hk es' (by rw [h',nd])
theorem ahe [St] [hE:SE E np P] {a b:ByteArray} {K:Bool->Prop} (h:a=b) (hk:K true):E.seq a b K:=rJ (λ_=>hk) (λh'=>absurd h h')
theorem Rj [St] [hE:SE E np P] {es:List (List AV)} {lo hi:Option Int} {K:List (List AV)->Prop} (h:0<=lo.getD 0/\lo.getD 0<=hi.getD es.length/\hi.getD es.length<=es.length)
  (hk:∀rs,rs=(es.take (hi.getD es.length).toNat).drop (lo.getD 0).toNat->K rs):E.Ab es lo hi K:=by
 cases hE.h;exact ⟨h.1,h.2.1,h.2.2,hk _ rfl⟩
theorem iK [St] [hE:SE E np P] {α:Type} {f:FuncId} {args:List AV} {R:α->List AV} {k:Nat} {x:List α×Int} {K:AV->Prop} (h:AC P f args (λp:List α×Int=> .tup [.sl true k (p.1.map R),.int .i64 p.2]) x) (hk:∀rs n,rs=x.1.map R->n=x.2->K (.tup [.sl true k rs,.int .i64 n])):E.call f args K:=
 aQ h λy hy=>hk _ _ (by rw [hy]) (by rw [hy])
theorem LX [St] [hE:SE E np P] {f:FuncId} {args:List AV} {x:Int×Int} {K:AV->Prop} (h:AC P f args two x) (hk:∀m n,m=x.1->n=x.2->K (.tup [.int .i64 m,.int .i64 n])):E.call f args K:=
 aQ h λy hy=>hk _ _ (by rw [hy]) (by rw [hy])
theorem mvH [St] [hE:SE E np P] {α:Type} {R:α->List AV} {es:List (List AV)} {m:List α} {hi lo hi':Int} {K:List (List AV)->Int->Prop} (hes:es=m.map R) (hfl:∀v,∀c∈R v,c.mX=true) (h:0<=hi/\hi<=lo/\lo<=hi'/\hi'<=m.length)
  (hk:∀es' n,es'=(m.take hi.toNat++((m.take hi'.toNat).drop lo.toNat++m.drop (hi+(hi' - lo)).toNat)).map R->n=hi+(hi' - lo)->K es' n):E.mv es hi lo hi' K:=by
 cases hE.h;refine ⟨h.2.1,λe he c hc=>?_,hk _ _ ?_ rfl⟩
 ·rw [hes] at he;obtain ⟨v,_,rfl⟩:=cA.1 (dd (du he));exact hfl v c hc
 ·rw [hes];simp only [db,eN,gt]
theorem agJ [St] [hE:SE E np P] {es:List (List AV)} {lo hi:Int} {z:List AV} {K:List (List AV)->Prop} (h:0<=lo/\lo<=hi/\hi<=es.length)
  (hk:∀es',es'.length=es.length->es'.take lo.toNat=es.take lo.toNat->K es'):E.clr es lo hi z K:=by
 cases hE.h;refine hk _ ?_ ?_
 ·simp;omega
 ·rw [kx (by simp;omega),bm (by rw [ba];omega)]
end
theorem abk {α:Type} {R:α->List AV} {l:List α} {i j n m m2:Int} {es es2 rs:List (List AV)} (h:0<=i/\i<=j/\j<=l.length) (hn:n=l.length) (he:es=(l.take i.toNat++((l.take n.toNat).drop j.toNat++l.drop (i+(n - j)).toNat)).map R) (hm:m=i+(n - j)) (hm2:m2=m - 0) (ht:es2.take m2.toNat=es.take m2.toNat)
  (hr:rs=(es2.take ((some m).getD (es2.length:Int)).toNat).drop ((some (0:Int)).getD 0).toNat):rs=(l.take i.toNat++l.drop j.toNat).map R:=by
 rw [hr];show (es2.take m.toNat).drop 0=_;rw [dC];rw [show m2=m by omega] at ht;rw [ht,he,←eN];have e1:l.take n.toNat=l:=bm (by omega)
 have e2:(l.take i.toNat++l.drop j.toNat).length=m.toNat:=by
  rw [am,ba,ct];omega
 rw [e1,←cT,kx (by omega),bm (by omega)]
noncomputable def rej {α:Type} (p:α->Prop) (l:List α):List α:=l.filter λv=>decide (¬p v)
theorem ACM.mono [St] {P:Program} {f:FuncId} {args:List AV} {Q Q':AV->List AV->Prop} (h:ACM P f args Q) (hq:∀r ys,Q r ys->Q' r ys):ACM P f args Q':=
 ⟨h.1,λw A vs F h0 h1 h2 h3 h4=>(h.2 w A vs F h0 h1 h2 h3 h4).mono λe w' ⟨v,G,r,ys,g0,g⟩=>⟨v,G,r,ys,hq r ys g0,g⟩⟩
theorem KQ [St] {rs:List (List AV)} {l:List Int} (k:Int) (hl:rs=l.map aN) (hk0:0<=k/\k<=1000000000000000) (hb:l.length<=100000000000):ACM Tryz.prog 53 [.sl true 1 rs,.int .i64 k] (λr ys=>∃(n:Int) (rs':List (List AV)),n=k+l.length/\rs'=(U3 l.length k).map aN/\r= .int .i64 n/\ys=[.sl true 1 rs',.any]):=
 (Ov k hl hk0 hb).mono λr ys ⟨h1,rs',h2,h3⟩=>⟨_,rs',rfl,h2,h1,h3⟩
structure Pnt where
 x:Int
 y:Int
def Pnt.cs (v:Pnt):List AV:=[.int .i64 v.x,.int .i64 v.y]
theorem NoB.EN (v:Pnt):NoB (.agg v.cs):=(.bW (.int _ _) (.bW (.int _ _) .o9))
theorem Wm [St] {rs:List (List AV)} {t:Bool} {l:List Pnt} (n:Int) (hl:rs=l.map Pnt.cs) (hn:0<=n/\n<=1048576):AP 171 [.sl t 2 rs,.int .i64 n] (AV.int .i64) (szN n l.length):=by
  refine a0 Tryz.func171 λE K hE hK=>?_
  repeat' first
    |((first
   |refine B0 ?_|refine B1 ?_ ?_)<;>intros<;>(try conv=>cbv))
  all_goals (try clear hN)
  all_goals (refine hK _ ?_;first|(simp only [gP];grind [szN])|(simp_all [gP,szN];done))
theorem qG [St] (x:Int) (y:Int):AP 29 [.agg [.int .i64 x,.int .i64 y]] (λv:Pnt=> .agg v.cs) ⟨x,y⟩:=by
 refine ac Tryz.func29 (.EN _) λE K hE hK=>?_;exact hK _ rfl
theorem V9 [St] {rs:List (List AV)} {t:Bool} {l:List Pnt} (hl:rs=l.map Pnt.cs) (hb0:l.length<=1048576):AP 202 [.sl t 2 rs] (λl:List Pnt=> .sl true 2 (l.map Pnt.cs)) l:=by
  refine ac Tryz.func202 (.rows .EN) λE K hE hK=>?_;refine bn hl λn hn hb=>?_;conv=>cbv
  refine yV (l:=l) Pnt.cs hn rfl (by omega) λes hes=>?_;conv=>cbv
  refine bO [0] [4,3] (λ(i:Int) (es':List (List AV))=>([(4,.int .i64 i),(3,.ob 0)],[.row 2 es'],l.length - i,0<=i/\es'=fM Pnt.cs [.int .i64 0,.int .i64 0] l i)) [0] ((0,es)) (by dsimp only;exact ⟨by omega,hes⟩) λi es' hi Kn hN=>?_;obtain ⟨h0,hinv⟩:=hi
  repeat' first
    |(refine hN _ _ [0] rfl ⟨?_,?_⟩)
    |((first
   |(refine bQ (R:=Pnt.cs) (by assumption) (by first|omega|(simp only [bo,dP];omega)) ?_;rintro ⟨⟩ _)
   |(refine aQ (qG _ _) (λ_ hy=>?_);subst hy)
   |refine nP (R:=Pnt.cs) (by assumption) (by omega) (by assumption) (by exact aq _) (by rfl) (λ_ _=>?_)
   |refine B0 ?_|refine B1 ?_ ?_)<;>intros<;>(try conv=>cbv))
  ·omega
  ·subst_vars;rfl
  ·refine hK _ ?_;rw [hinv,iF (by omega)];rfl
theorem qY [St] (x:Int) (y:Int) (x':Int) (y':Int):AP 46 [.agg [.int .i64 x,.int .i64 y],.agg [.int .i64 x',.int .i64 y']] AV.bool (bP ((Pnt.mk x y)=(Pnt.mk x' y'))):=by
  refine a0 Tryz.func46 λE K hE hK=>?_
  repeat' first
    |((first
   |refine B0 ?_|refine B1 ?_ ?_)<;>intros<;>(try conv=>cbv))
  all_goals first|(refine aH hK (aG.2 ?_);simp only [Pnt.mk.injEq,Pnt.mk.injEq] at *;simp_all;done)|(refine aH hK (ah.2 ?_);simp only [Pnt.mk.injEq,Pnt.mk.injEq] at *;simp_all;done)
theorem Yb [St] {rs rs':List (List AV)} {t t':Bool} {l m:List Pnt} (hl:rs=l.map Pnt.cs) (hm:rs'=m.map Pnt.cs):AP 249 [.sl t 2 rs,.sl t' 2 rs'] AV.bool (bP (l=m)):=by
  refine a0 Tryz.func249 λE K hE hK=>?_;refine bn hl λn hn hb=>?_;conv=>cbv
  refine bn hm λn' hn' hb'=>?_;conv=>cbv
  refine eqI (λhe=>?_) (λhe=>?_)<;>conv=>cbv
  ·refine cu [0,1] [5] (λ(i:Int)=>([(5,.int .i64 i)],[],l.length - i,0<=i/\Up (λj=>l[j]? =m[j]?) i)) [] (0) (by dsimp only;exact ⟨by omega,.zero (by omega)⟩) λi hi Kn hN=>?_;obtain ⟨h0,hinv⟩:=hi
   repeat' first
     |(refine hN _ [] rfl ⟨?_,?_⟩)
     |((first
    |refine aF (qY _ _ _ _) (λ_=>?_) (λ_=>?_)
    |(refine bQ (R:=Pnt.cs) (by assumption) (by first|omega|(simp only [bo,dP];omega)) ?_;rintro ⟨⟩ _)
    |refine B0 ?_|refine B1 ?_ ?_)<;>intros<;>(try conv=>cbv))
   ·omega
   ·refine hinv.succ ?_ (by assumption);clear hN;simp_all
   ·refine aH hK (ah.2 λh=>?_);clear hN;simp_all
   ·exact aH hK (aG.2 (eP (by omega) hinv (by omega)))
  ·refine aH hK (ah.2 λh=>?_);subst h;omega
def Pnt.mk' (k:Int):Pnt:=⟨k+0,k+1⟩
def Pnt.mks (n:Nat) (k:Int):List Pnt:=(List.range n).map λi:Nat=>Pnt.mk' (k+2*(i:Int))
theorem Pnt.jX (n:Nat) (k:Int):(Pnt.mks n k).length=n:=by simp [Pnt.mks]
theorem Pnt.nS {n:Nat} {k i:Int} {v:Pnt} (h0:0<=i) (h:(Pnt.mks n k)[i.toNat]? =some v):v=Pnt.mk' (k+2*i):=by
 unfold Pnt.mks at h;rw [ai] at h;by_cases hi:i.toNat<n
 ·rw [cM hi] at h;simp only [cF,cH] at h;rw [←h,cP h0]
 ·rw [ar (by simpa using Nat.le_of_not_lt hi)] at h;cases h
theorem Ou [St] {rs:List (List AV)} {l:List Pnt} (k:Int) (hl:rs=l.map Pnt.cs) (hk0:0<=k/\k<=1000000000000000) (hb:l.length<=100000000000):ACM Tryz.prog 98 [.sl true 2 rs,.int .i64 k] (λr ys=>∃(n:Int) (rs':List (List AV)),n=k+2*l.length/\rs'=(Pnt.mks l.length k).map Pnt.cs/\r= .int .i64 n/\ys=[.sl true 2 rs',.any]):=by
  refine acm 1 Tryz.func98 (λr ys ⟨n,rs',_,h3,h1,h2⟩=>⟨by rw [h1];exact .int _ _,by rw [h2,h3];simp;exact ⟨.rows .EN,.any⟩⟩) λE K hE hK=>?_;refine iR [] [5,1,0] (λ(i k':Int) (es:List (List AV))=>([(5,.int .i64 i),(1,.int .i64 k'),(0,.ob 0)],[.row 2 es],l.length - i,(0<=i/\i<=l.length)/\k'=k+2*i/\es=(mix (λi:Nat=>Pnt.mk' (k+2*(i:Int))) l i).map Pnt.cs)) [0] ((0,k,rs)) (by dsimp only;exact ⟨by omega,by omega,by rw [oP (by omega)];exact hl⟩) λi k' es hi Kn hN=>?_;obtain ⟨⟨h0,h1⟩,h2,h3⟩:=hi;have hlen:=dP (λi:Nat=>Pnt.mk' (k+2*(i:Int))) l i;obtain ⟨L,hL⟩:∃L,L=mix (λi:Nat=>Pnt.mk' (k+2*(i:Int))) l i:=⟨_,rfl⟩
  rw [←hL] at h3 hlen
  repeat' first
    |(refine hN _ _ _ [0] rfl ⟨?_,?_,?_⟩)
    |((first
   |refine XV (by assumption) (by omega) ?_
   |(refine bQ (R:=Pnt.cs) (by assumption) (by first|omega|(simp only [bo,dP];omega)) ?_;rintro ⟨⟩ _)
   |refine aQ (jB _ (by omega)) (λ_ _=>?_)
   |refine V7 (v':=(⟨_,_⟩:Pnt)) (by assumption) (by omega) (by exact bt rfl) (by first|rfl|((conv=>lhs;cbv);rfl)) (λ_ _=>?_)
   |refine wB (v':=(⟨_,_⟩:Pnt)) (by assumption) (by omega) (by assumption) (by exact bt rfl) (by first|rfl|((conv=>lhs;cbv);rfl)) (λ_ _=>?_)
   |refine B0 ?_|refine B1 ?_ ?_)<;>intros<;>(try conv=>cbv))
  ·omega
  ·omega
  ·clear hN hK;rename_i hes _ hfin _ hi1;rw [hes,hL,rZ h0 (by omega) (v:=_) ?_ hi1];clear hL h3 hlen;subst_vars;rw [cP h0];simp only [Pnt.mk',Pnt.mk.injEq,io];all_goals (refine ⟨?_,?_⟩<;>first|trivial|omega|rfl|(congr 1;omega))
  ·(have hi:i=l.length:=by omega);refine hK _ _ ⟨k',es,?_,?_,rfl,rfl⟩
   ·rw [h2,hi]
   ·rw [h3,hL,r9 (by omega)];rfl
section
variable {E:Env} {np:Nat} {P:Program}
theorem aaJ [St] [hE:SE E np P] {es es':List (List AV)} {i:Int} {e:List AV} {K:List AV->Prop} (hes:es'=es.set i.toNat e) (h:0<=i/\i<es.length) (hk:K e):E.idx es' i K:=
 Pn h.1 (e:=e) (by rw [hes,fv (by omega)]) hk
theorem Ub [St] [hE:SE E np P] {es:List (List AV)} {i:Int} {j:Nat} {cs e:List AV} {K:List (List AV)->Prop} (h:0<=i) (hv:es[i.toNat]? =some e) (hl:j+cs.length<=e.length)
  (hk:∀es',es'=es.set i.toNat (splice e j cs)->es'.length=es.length->K es'):E.upd es i j cs K:=by
 cases hE.h;exact ⟨h,e,hv,hl,hk _ rfl (by simp)⟩
theorem YP [St] [hE:SE E np P] {es es1:List (List AV)} {i:Int} {j:Nat} {cs e:List AV} {K:List (List AV)->Prop} (hes:es1=es.set i.toNat e) (h:0<=i/\i<es.length) (hl:j+cs.length<=e.length)
  (hk:∀es',es'=es.set i.toNat (splice e j cs)->es'.length=es.length->K es'):E.upd es1 i j cs K:=
 Ub h.1 (by rw [hes,fv (by omega)]) hl λes' h1 h2=>hk es' (by rw [h1,hes,nd]) (by rw [h2,hes,bo])
end
theorem Rel.afD {w:World} {A:Nat->Prop} {cs tl:List AV} {v:Value} (h:Rel w A (.pp (cs++tl)) v):Rel w A (.pp cs) v:=by
 cases h with
 |pp _ b off val hb hc hr=>exact .pp cs b off val hb (λj hj=>hc j (by rw [am];omega)) (λj a ha=>hr j a (by rw [br (aa.1 ha).1];exact ha))
theorem AC.tl [St] {P:Program} {α:Type} {f:FuncId} {us us':List AV} {R:α->AV} {x:α} (h:AC P f us R x) (hl:us'.length=us.length) (hp:∀i:Nat,us'[i]? =us[i]?∨∃cs tl:List AV,us[i]? =some (AV.pp cs)/\us'[i]? =some (AV.pp (cs++tl))):AC P f us' R x:=
 ⟨h.1,λw vs hg hr=>h.2 w vs hg ⟨hr.1.trans hl,λi a ha=>by
  rcases hp i with h1|⟨cs,tl,h1,h2⟩
  ·exact hr.2 i a (h1.trans ha)
  ·rw [ha] at h1;cases h1
   exact (hr.2 i _ h2).afD⟩⟩
theorem AC.aiI [St] {P:Program} {α:Type} {f:FuncId} {cs ds tl tm:List AV} {R:α->AV} {x:α} (h:AC P f [.pp cs,.pp ds] R x):AC P f [.pp (cs++tl),.pp (ds++tm)] R x:=
 AC.tl h rfl λi=>match i with
  |0=> .inr ⟨_,_,rfl,rfl⟩
  |1=> .inr ⟨_,_,rfl,rfl⟩
  |_+2=> .inl rfl
theorem AC.tl1 [St] {P:Program} {α:Type} {f:FuncId} {cs tl:List AV} {R:α->AV} {x:α} (h:AC P f [.pp cs] R x):AC P f [.pp (cs++tl)] R x:=
 AC.tl h rfl λi=>match i with
  |0=> .inr ⟨_,_,rfl,rfl⟩
  |_+1=> .inl rfl
theorem AC.aiH [St] {P:Program} {α:Type} {f:FuncId} {cs tl:List AV} {a:AV} {R:α->AV} {x:α} (h:AC P f [.pp cs,a] R x):AC P f [.pp (cs++tl),a] R x:=
 AC.tl h rfl λi=>match i with
  |0=> .inr ⟨_,_,rfl,rfl⟩
  |_+1=> .inl rfl
end Go.Proofs.YtnlhnideeaobpaaGreatDoor
