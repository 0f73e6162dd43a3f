/- Contracts: findings; marks in a whole authority; The form of findings as results; Contracts: marks. -/
import Derived.Test.YtnlhnideeaobpaaGreatDoorFB
import Derived.Test.YtnlhnideeaobpaaGreatDoorFA
import Derived.Test.YtnlhnideeaobpaaGreatDoorQi
import Derived.Test.YtnlhnideeaobpaaGreatDoorFC
namespace Go.Proofs.YtnlhnideeaobpaaGreatDoor
open Go Go.RowKit Classical
set_option maxRecDepth 100000
set_option maxHeartbeats 2000000
set_option linter.unusedVariables false
set_option linter.unusedSimpArgs false
structure Fdg where
 kind:Int
 who:ByteArray
 what:ByteArray
def Fdg.cs (v:Fdg):List AV:=[.int .i64 v.kind,.str v.who,.str v.what]
theorem NoB.afG (v:Fdg):NoB (.agg v.cs):=(.bW (.int _ _) (.bW (.str _) (.bW (.str _) .o9)))
def Fdg.sz (v:Fdg):Nat:=v.who.size+v.what.size
theorem Tc [St] (kind:Int) (who:ByteArray) (what:ByteArray) (kind':Int) (who':ByteArray) (aeQ:ByteArray):AP 38 [.agg [.int .i64 kind,.str who,.str what],.agg [.int .i64 kind',.str who',.str aeQ]] AV.bool (bP ((Fdg.mk kind who what)=(Fdg.mk kind' who' aeQ))):=by
  refine a0 Tryz.func38 λE K hE hK=>?_
  repeat' first
    |((first
   |refine B0 ?_|refine B1 ?_ ?_)<;>intros<;>(try conv=>cbv))
  all_goals first|(refine aH hK (aG.2 ?_);simp only [Fdg.mk.injEq,Pnt.mk.injEq] at *;simp_all;done)|(refine aH hK (ah.2 ?_);simp only [Fdg.mk.injEq,Pnt.mk.injEq] at *;simp_all;done)
theorem P5 [St] {rs rs':List (List AV)} {t t':Bool} {l m:List Fdg} (hl:rs=l.map Fdg.cs) (hm:rs'=m.map Fdg.cs):AP 8 [.sl t 3 rs,.sl t' 3 rs'] AV.bool (bP (l=m)):=by
  refine a0 Tryz.func8 λE K hE hK=>?_;refine bn hl λn hn hb=>?_;conv=>cbv
  refine bn hm λn' hn' hb'=>?_;conv=>cbv
  refine eqI (λhe=>?_) (λhe=>?_)<;>conv=>cbv
  ·refine cu [0,1] [5] (λ(i:Int)=>([(5,.int .i64 i)],[],l.length - i,0<=i/\Up (λj=>l[j]? =m[j]?) i)) [] (0) (by dsimp only;exact ⟨by omega,.zero (by omega)⟩) λi hi Kn hN=>?_;obtain ⟨h0,hinv⟩:=hi
   repeat' first
     |(refine hN _ [] rfl ⟨?_,?_⟩)
     |((first
    |refine aF (Tc _ _ _ _ _ _) (λ_=>?_) (λ_=>?_)
    |(refine bQ (R:=Fdg.cs) (by assumption) (by first|omega|(simp only [bo,dP];omega)) ?_;rintro ⟨⟩ _)
    |refine B0 ?_|refine B1 ?_ ?_)<;>intros<;>(try conv=>cbv))
   ·omega
   ·refine hinv.succ ?_ (by assumption);clear hN;simp_all
   ·refine aH hK (ah.2 λh=>?_);clear hN;simp_all
   ·exact aH hK (aG.2 (eP (by omega) hinv (by omega)))
  ·refine aH hK (ah.2 λh=>?_);subst h;omega
def Fdg.mk' (k:Int):Fdg:=⟨k+0,sZ (k+1),sZ (k+2)⟩
def Fdg.mks (n:Nat) (k:Int):List Fdg:=(List.range n).map λi:Nat=>Fdg.mk' (k+3*(i:Int))
theorem Fdg.jX (n:Nat) (k:Int):(Fdg.mks n k).length=n:=by simp [Fdg.mks]
theorem Fdg.nS {n:Nat} {k i:Int} {v:Fdg} (h0:0<=i) (h:(Fdg.mks n k)[i.toNat]? =some v):v=Fdg.mk' (k+3*i):=by
 unfold Fdg.mks at h;rw [ai] at h;by_cases hi:i.toNat<n
 ·rw [cM hi] at h;simp only [cF,cH] at h;rw [←h,cP h0]
 ·rw [ar (by simpa using Nat.le_of_not_lt hi)] at h;cases h
theorem He [St] {rs:List (List AV)} {l:List Fdg} (k:Int) (hl:rs=l.map Fdg.cs) (hk0:0<=k/\k<=1000000000000000) (hb:l.length<=100000000000):ACM Tryz.prog 11 [.sl true 3 rs,.int .i64 k] (λr ys=>∃(n:Int) (rs':List (List AV)),n=k+3*l.length/\rs'=(Fdg.mks l.length k).map Fdg.cs/\r= .int .i64 n/\ys=[.sl true 3 rs',.any]):=by
  refine acm 1 Tryz.func11 (λr ys ⟨n,rs',_,h3,h1,h2⟩=>⟨by rw [h1];exact .int _ _,by rw [h2,h3];simp;exact ⟨.rows .afG,.any⟩⟩) λE K hE hK=>?_;refine iR [] [5,1,0] (λ(i k':Int) (es:List (List AV))=>([(5,.int .i64 i),(1,.int .i64 k'),(0,.ob 0)],[.row 3 es],l.length - i,(0<=i/\i<=l.length)/\k'=k+3*i/\es=(mix (λi:Nat=>Fdg.mk' (k+3*(i:Int))) l i).map Fdg.cs)) [0] ((0,k,rs)) (by dsimp only;exact ⟨by omega,by omega,by rw [oP (by omega)];exact hl⟩) λi k' es hi Kn hN=>?_;obtain ⟨⟨h0,h1⟩,h2,h3⟩:=hi;have hlen:=dP (λi:Nat=>Fdg.mk' (k+3*(i:Int))) l i;obtain ⟨L,hL⟩:∃L,L=mix (λi:Nat=>Fdg.mk' (k+3*(i:Int))) l i:=⟨_,rfl⟩
  rw [←hL] at h3 hlen
  repeat' first
    |(refine hN _ _ _ [0] rfl ⟨?_,?_,?_⟩)
    |((first
   |refine XV (by assumption) (by omega) ?_
   |(refine bQ (R:=Fdg.cs) (by assumption) (by first|omega|(simp only [bo,dP];omega)) ?_;rintro ⟨⟩ _)
   |refine aQ (jB _ (by omega)) (λ_ _=>?_)
   |refine V7 (v':=(⟨_,_,_⟩:Fdg)) (by assumption) (by omega) (by exact bt rfl) (by first|rfl|((conv=>lhs;cbv);rfl)) (λ_ _=>?_)
   |refine wB (v':=(⟨_,_,_⟩:Fdg)) (by assumption) (by omega) (by assumption) (by exact bt rfl) (by first|rfl|((conv=>lhs;cbv);rfl)) (λ_ _=>?_)
   |refine B0 ?_|refine B1 ?_ ?_)<;>intros<;>(try conv=>cbv))
  ·omega
  ·omega
  ·clear hN hK;rename_i hes _ hfin _ hi1;rw [hes,hL,rZ h0 (by omega) (v:=_) ?_ hi1];clear hL h3 hlen;subst_vars;rw [cP h0];simp only [Fdg.mk',Fdg.mk.injEq,io];all_goals (refine ⟨?_,?_,?_⟩<;>first|trivial|omega|rfl|(congr 1;omega))
  ·(have hi:i=l.length:=by omega);refine hK _ _ ⟨k',es,?_,?_,rfl,rfl⟩
   ·rw [h2,hi]
   ·rw [h3,hL,r9 (by omega)];rfl
theorem Hr [St] {rs:List (List AV)} {t:Bool} {n:Nat} (k:Int) (hl:rs=(Fdg.mks n k).map Fdg.cs) (hk0:0<=k/\k<=1000000000000000) (hb:n<=100000000000):AP 12 [.sl t 3 rs,.int .i64 k] (AV.int .i64) (k+3*n):=by
  refine a0 Tryz.func12 λE K hE hK=>?_;have hlen:=Fdg.jX n k;refine bO [0] [5,1] (λ(i k':Int)=>([(5,.int .i64 i),(1,.int .i64 k')],[],n - i,(0<=i/\i<=n)/\k'=k+3*i)) [] ((0,k)) (by dsimp only;exact ⟨by omega,by omega⟩) λi k' hi Kn hN=>?_;obtain ⟨⟨h0,h1⟩,h2⟩:=hi
  repeat' first
    |(refine hN _ _ [] rfl ⟨?_,?_⟩)
    |((first
   |refine gK (by assumption) (by omega) (by assumption) ?_
   |(refine bQ hl (by omega) (λv hv=>?_);have hv':=Fdg.nS h0 hv;obtain ⟨kind,who,what⟩:=v;simp only [Fdg.mk',Fdg.mk.injEq] at hv';obtain ⟨ajB,ajQ,ajA⟩:=hv')
   |refine aQ (jB _ (by omega)) (λ_ _=>?_)
   |refine ahe (by subst_vars;first|rfl|(congr 1;omega)) ?_
   |refine B0 ?_|refine B1 ?_ ?_)<;>intros<;>(try conv=>cbv))
  all_goals first
   |omega
   |exact hK _ (by rw [h2,show i=(n:Int) by omega];rfl)
set_option maxHeartbeats 4000000
theorem Ntc.uE {R:Ntc->List AV} {m l:List Ntc} {es es9:List (List AV)} {row:List AV} {i n:Int} (mV:es9=es.set i.toNat row) (h3:es=m.map R) (h4:m.length=l.length) (h5:∀j:Nat,i<=j->m[j]? =l[j]?) (hn:n=i+1) (h0:0<=i) (hr:∃v,R v=row):∃m:List Ntc,es9=m.map R/\m.length=l.length/\∀j:Nat,n<=j->m[j]? =l[j]?:=by
 obtain ⟨v,rfl⟩:=hr;exact ⟨m.set i.toNat v,by rw [mV,kn,←h3],by rw [bo];omega,λj hj=>by rw [cU (by omega)];exact h5 j (by omega)⟩
def Ntc.mk1 (v:Ntc):Nat:=18+v.aM.length+3*v.aD.length
theorem Ntc.uD {l:List Ntc} {B:Nat} (hb:∀v∈l,Ntc.mk1 v<=B):∀n:Nat,n<=l.length->sumTo Ntc.mk1 l n<=B*n
 |0,_=>by rw [eH (by omega)];omega
 | n+1,h=>by
   have ih:=Ntc.uD hb n (by omega);(have hv:l[(n:Int).toNat]? =some l[n]:=by simp);rw [show ((n+1:Nat):Int)=(n:Int)+1 by omega,eO Ntc.mk1 (by omega) hv,ju];have:=hb l[n] (er _);omega
theorem KP [St] {rs:List (List AV)} {l:List Ntc} (k:Int) (hl:rs=l.map (Ntc.cs true)) (hk0:0<=k/\k<=1000000000) (hb:l.length<=10000000) (hb1:∀v∈l,Ntc.mk1 v<=10000000):ACM Tryz.prog 49 [.sl true 20 rs,.int .i64 k] (λr ys=>∃(n:Int) (rs':List (List AV)),n=k+(sumTo Ntc.mk1 l l.length:Nat)/\(∃m:List Ntc,rs'=m.map (Ntc.cs true)/\m.length=l.length)/\r= .int .i64 n/\ys=[.sl true 20 rs',.any]):=by
  refine acm 1 Tryz.func49 (λr ys ⟨n,rs',_,⟨m,h3,_⟩,h1,h2⟩=>⟨by rw [h1];exact .int _ _,by rw [h2,h3];simp;exact ⟨.rows .ade,.any⟩⟩) λE K hE hK=>?_;refine iR [] [5,1,0] (λ(i k':Int) (es:List (List AV))=>([(5,.int .i64 i),(1,.int .i64 k'),(0,.ob 0)],[.row 20 es],l.length - i,(0<=i/\i<=l.length)/\k'=k+(sumTo Ntc.mk1 l i:Nat)/\∃m:List Ntc,es=m.map (Ntc.cs true)/\m.length=l.length/\∀j:Nat,i<=j->m[j]? =l[j]?)) [0] ((0,k,rs)) (by dsimp only;exact ⟨by omega,by rw [eH (by omega)];omega,l,hl,rfl,λ_ _=>rfl⟩) λi k' es hi Kn hN=>?_;obtain ⟨⟨h0,h1⟩,h2,m,h3,h4,h5⟩:=hi;have hbd:=Ntc.uD hb1 i.toNat (by omega);rw [show ((i.toNat:Nat):Int)=i by omega] at hbd;have ahZ:10000000*i.toNat<=100000000000000:=by omega
  refine bn h3 λn hn hb2=>?_;conv=>cbv
  refine ltI (λhlt=>?_) (λhge=>?_)<;>conv=>cbv
  ·(obtain ⟨v,hv⟩:∃v,l[i.toNat]? =some v:=⟨_,ag (by omega)⟩);have hm:=(h5 i.toNat (by omega)).trans hv;have hss:=eO Ntc.mk1 h0 hv;have hv1:=hb1 v (ae hv);obtain ⟨number,day,kind,target,aY,aName,atX,atY,aZ,aP,aC,aJ,bg,aO,aM,aB,ak,au,aD,aj⟩:=v;simp only [Ntc.mk1] at hv1;(obtain ⟨aL,aW⟩:∃r,r=aM.map aN:=⟨_,rfl⟩;obtain ⟨aI,aS⟩:∃r,r=aD.map Scr.cs:=⟨_,rfl⟩);(have hrow:es[i.toNat]? =some [.int .i64 number,.int .i64 day,.int .i64 kind,.int .i64 target,.int .i64 aY,.str aName,.int .i64 atX,.int .i64 atY,.int .i64 aZ,.int .i64 aP,.str aC,.str aJ,.str bg,.int .i64 aO,.sl true 1 aL,.str aB,.str ak,.int .i64 au,.sl true 3 aI,.int .i64 aj]:=by rw [h3,ai,hm];subst aW aS;rfl);have hel:es.length=l.length:=by rw [h3,al,h4]
   repeat' first
     |(refine YP mV (by omega) (by exact bt rfl) (λes8 aaS ae6=>?_);(conv at aaS=>rhs;arg 3;cbv);(try conv=>cbv);clear mV CF;clear es9;revert es8;intro es9 mV CF)
     |(refine hN _ _ _ [0] rfl ⟨?_,?_,?_⟩)
     |((first
    |refine aaJ mV (by omega) ?_
    |refine Pn h0 hrow ?_
    |(refine iY (KQ _ (by assumption) (by omega) (by omega)) ?_;rintro _ _ ⟨n9,rs9,hn9,hr9,rfl,rfl⟩;(obtain ⟨g9,hg9⟩:∃g9:List Int,rs9=g9.map aN:=⟨_,hr9⟩);clear hr9)
    |(refine iY (yU _ (by assumption) (by omega) (by omega)) ?_;rintro _ _ ⟨n9,rs9,hn9,hr9,rfl,rfl⟩;(obtain ⟨g9,hg9⟩:∃g9:List Scr,rs9=g9.map Scr.cs:=⟨_,hr9⟩);clear hr9)
    |(refine Ub h0 hrow (by exact bt rfl) (λes9 mV CF=>?_);(conv at mV=>rhs;arg 3;cbv))
    |refine aQ (jB _ (by omega)) (λ_ _=>?_)
    |refine Ij (by simp_all) ?_
    |refine B0 ?_|refine B1 ?_ ?_)<;>intros<;>(try conv=>cbv))
   all_goals (try clear hN)
   all_goals first
    |omega
    |(rename_i hi1;rw [hi1,hss];simp only [Ntc.mk1];omega)
    |exact Ntc.uE mV h3 h4 h5 (by assumption) h0 (by clear hK hrow;subst_vars;exact ⟨⟨_,_,_,_,_,_,_,_,_,_,_,_,_,_,_,_,_,_,_,_⟩,rfl⟩)
  ·exact hK _ _ ⟨k',es,by rw [h2,show i=l.length by omega],⟨m,h3,h4⟩,rfl,rfl⟩
theorem Fwy.uE {R:Fwy->List AV} {m l:List Fwy} {es es9:List (List AV)} {row:List AV} {i n:Int} (mV:es9=es.set i.toNat row) (h3:es=m.map R) (h4:m.length=l.length) (h5:∀j:Nat,i<=j->m[j]? =l[j]?) (hn:n=i+1) (h0:0<=i) (hr:∃v,R v=row):∃m:List Fwy,es9=m.map R/\m.length=l.length/\∀j:Nat,n<=j->m[j]? =l[j]?:=by
 obtain ⟨v,rfl⟩:=hr;exact ⟨m.set i.toNat v,by rw [mV,kn,←h3],by rw [bo];omega,λj hj=>by rw [cU (by omega)];exact h5 j (by omega)⟩
def Fwy.mk1 (v:Fwy):Nat:=4+2*v.line.length
theorem Fwy.uD {l:List Fwy} {B:Nat} (hb:∀v∈l,Fwy.mk1 v<=B):∀n:Nat,n<=l.length->sumTo Fwy.mk1 l n<=B*n
 |0,_=>by rw [eH (by omega)];omega
 | n+1,h=>by
   have ih:=Fwy.uD hb n (by omega);(have hv:l[(n:Int).toNat]? =some l[n]:=by simp);rw [show ((n+1:Nat):Int)=(n:Int)+1 by omega,eO Fwy.mk1 (by omega) hv,ju];have:=hb l[n] (er _);omega
theorem Hf [St] {rs:List (List AV)} {l:List Fwy} (k:Int) (hl:rs=l.map (Fwy.cs true)) (hk0:0<=k/\k<=1000000000) (hb:l.length<=10000000) (hb1:∀v∈l,Fwy.mk1 v<=10000000):ACM Tryz.prog 50 [.sl true 5 rs,.int .i64 k] (λr ys=>∃(n:Int) (rs':List (List AV)),n=k+(sumTo Fwy.mk1 l l.length:Nat)/\(∃m:List Fwy,rs'=m.map (Fwy.cs true)/\m.length=l.length)/\r= .int .i64 n/\ys=[.sl true 5 rs',.any]):=by
  refine acm 1 Tryz.func50 (λr ys ⟨n,rs',_,⟨m,h3,_⟩,h1,h2⟩=>⟨by rw [h1];exact .int _ _,by rw [h2,h3];simp;exact ⟨.rows .adf,.any⟩⟩) λE K hE hK=>?_;refine iR [] [5,1,0] (λ(i k':Int) (es:List (List AV))=>([(5,.int .i64 i),(1,.int .i64 k'),(0,.ob 0)],[.row 5 es],l.length - i,(0<=i/\i<=l.length)/\k'=k+(sumTo Fwy.mk1 l i:Nat)/\∃m:List Fwy,es=m.map (Fwy.cs true)/\m.length=l.length/\∀j:Nat,i<=j->m[j]? =l[j]?)) [0] ((0,k,rs)) (by dsimp only;exact ⟨by omega,by rw [eH (by omega)];omega,l,hl,rfl,λ_ _=>rfl⟩) λi k' es hi Kn hN=>?_;obtain ⟨⟨h0,h1⟩,h2,m,h3,h4,h5⟩:=hi;have hbd:=Fwy.uD hb1 i.toNat (by omega);rw [show ((i.toNat:Nat):Int)=i by omega] at hbd;have ahZ:10000000*i.toNat<=100000000000000:=by omega
  refine bn h3 λn hn hb2=>?_;conv=>cbv
  refine ltI (λhlt=>?_) (λhge=>?_)<;>conv=>cbv
  ·(obtain ⟨v,hv⟩:∃v,l[i.toNat]? =some v:=⟨_,ag (by omega)⟩);have hm:=(h5 i.toNat (by omega)).trans hv;have hss:=eO Fwy.mk1 h0 hv;have hv1:=hb1 v (ae hv);obtain ⟨name,line,width,dL,aK⟩:=v;simp only [Fwy.mk1] at hv1;(obtain ⟨dR,jZ⟩:∃r,r=line.map Pnt.cs:=⟨_,rfl⟩);(have hrow:es[i.toNat]? =some [.str name,.sl true 2 dR,.int .i64 width,.int .i64 dL,.int .i64 aK]:=by rw [h3,ai,hm];subst jZ;rfl);have hel:es.length=l.length:=by rw [h3,al,h4]
   repeat' first
     |(refine YP mV (by omega) (by exact bt rfl) (λes8 aaS ae6=>?_);(conv at aaS=>rhs;arg 3;cbv);(try conv=>cbv);clear mV CF;clear es9;revert es8;intro es9 mV CF)
     |(refine hN _ _ _ [0] rfl ⟨?_,?_,?_⟩)
     |((first
    |refine aaJ mV (by omega) ?_
    |refine Pn h0 hrow ?_
    |(refine iY (Ou _ (by assumption) (by omega) (by omega)) ?_;rintro _ _ ⟨n9,rs9,hn9,hr9,rfl,rfl⟩;(obtain ⟨g9,hg9⟩:∃g9:List Pnt,rs9=g9.map Pnt.cs:=⟨_,hr9⟩);clear hr9)
    |(refine Ub h0 hrow (by exact bt rfl) (λes9 mV CF=>?_);(conv at mV=>rhs;arg 3;cbv))
    |refine aQ (jB _ (by omega)) (λ_ _=>?_)
    |refine Ij (by simp_all) ?_
    |refine B0 ?_|refine B1 ?_ ?_)<;>intros<;>(try conv=>cbv))
   all_goals (try clear hN)
   all_goals first
    |omega
    |(rename_i hi1;rw [hi1,hss];simp only [Fwy.mk1];omega)
    |exact Fwy.uE mV h3 h4 h5 (by assumption) h0 (by clear hK hrow;subst_vars;exact ⟨⟨_,_,_,_,_⟩,rfl⟩)
  ·exact hK _ _ ⟨k',es,by rw [h2,show i=l.length by omega],⟨m,h3,h4⟩,rfl,rfl⟩
theorem Dx {α:Type} {f g:α->Nat} (A B:Nat) (h:∀v,f v<=A+B*g v):∀l:List α,(l.map f).sum<=A*l.length+B*(l.map g).sum
 |[]=>by simp
 | v::l=>by
   have ih:=Dx A B h l;have hv:=h v;simp only [dj,fS,bi,ju,k8];omega
theorem Aid.pR (v:Aid):Aid.mk1 v<=16+3*Aid.sz v:=by
 simp only [Aid.mk1,Aid.sz,Aid.sz,Mrk.sz,Chr.sz,Chn.sz];omega
theorem Aid.yS {l:List Aid} (h:l.length+(l.map Aid.sz).sum<=1048576):(∀v∈l,Aid.mk1 v<=10000000)/\sumTo Aid.mk1 l l.length<=30000000:=by
 have h1:=Dx 16 3 Aid.pR l;refine ⟨λv hv=>?_,?_⟩
 ·have h2:=Aid.pR v;have h3:=Ee Aid.sz hv;omega
 ·rw [jU _ _ (by omega)];omega
theorem Ntc.pR (v:Ntc):Ntc.mk1 v<=20+3*Ntc.sz v:=by
 simp only [Ntc.mk1,Ntc.sz,Aid.sz,Mrk.sz,Chr.sz,Chn.sz];omega
theorem Ntc.yS {l:List Ntc} (h:l.length+(l.map Ntc.sz).sum<=1048576):(∀v∈l,Ntc.mk1 v<=10000000)/\sumTo Ntc.mk1 l l.length<=30000000:=by
 have h1:=Dx 20 3 Ntc.pR l;refine ⟨λv hv=>?_,?_⟩
 ·have h2:=Ntc.pR v;have h3:=Ee Ntc.sz hv;omega
 ·rw [jU _ _ (by omega)];omega
theorem Fwy.pR (v:Fwy):Fwy.mk1 v<=6+2*Fwy.sz v:=by
 simp only [Fwy.mk1,Fwy.sz,Aid.sz,Mrk.sz,Chr.sz,Chn.sz];omega
theorem Fwy.yS {l:List Fwy} (h:l.length+(l.map Fwy.sz).sum<=1048576):(∀v∈l,Fwy.mk1 v<=10000000)/\sumTo Fwy.mk1 l l.length<=30000000:=by
 have h1:=Dx 6 2 Fwy.pR l;refine ⟨λv hv=>?_,?_⟩
 ·have h2:=Fwy.pR v;have h3:=Ee Fwy.sz hv;omega
 ·rw [jU _ _ (by omega)];omega
theorem EW [St] (day away aK:Int) (dB:ByteArray) (bT dD bA bX bY start:Int) {bE:List (List AV)} {bJ:List Aid} {bD:List (List AV)} {bH:List Ntc} {bf:List (List AV)} {bq:List Fwy} {bF:List (List AV)} {bK:List Dgr} {aV:List (List AV)} {aT:List Obv} {dw:List (List AV)} {full:List Int} {bU:List (List AV)} {works:List Wrk} {bV:List (List AV)} {order:List Int} (dH:bE=bJ.map (Aid.cs true)) (dG:bD=bH.map (Ntc.cs true)) (cB:bf=bq.map (Fwy.cs true)) (dO:bF=bK.map Dgr.cs) (bS:aV=aT.map Obv.cs) (fI:dw=full.map aN) (fC:bU=works.map Wrk.cs) (fK:bV=order.map aN) (k:Int) (hk0:0<=k/\k<=1000) (hz:Aut.sz (Aut.mk bJ bH day bq bK away aT aK full dB bT dD bA bX bY works order start)<=1048576):ACM Tryz.prog 10 [.agg [.sl true 16 bE,.sl true 20 bD,.int .i64 day,.sl true 5 bf,.sl true 4 bF,.int .i64 away,.sl true 4 aV,.int .i64 aK,.sl true 1 dw,.str dB,.int .i64 bT,.int .i64 dD,.int .i64 bA,.int .i64 bX,.int .i64 bY,.sl true 7 bU,.sl true 1 bV,.int .i64 start],.int .i64 k] (λr ys=>∃n:Int,(0<=n/\n<=1000000000)/\r= .int .i64 n/\ys=[.any,.any]):=by
  refine acm 8 Tryz.func10 (λr ys ⟨n,_,h1,h2⟩=>⟨by rw [h1];exact .int _ _,by rw [h2];simp;exact .any⟩) λE K hE hK=>?_;simp only [Aut.sz] at hz;have h1:=Aid.yS (l:=bJ) (by omega);have h2:=Ntc.yS (l:=bH) (by omega);have h3:=Fwy.yS (l:=bq) (by omega)
  repeat' first
    |((first
   |(refine iY (Xf _ dH (by omega) (by omega) h1.1) ?_;rintro _ _ ⟨n1,rs9,hn1,⟨m9,hm9,hl9⟩,rfl,rfl⟩)
   |(refine iY (KP _ dG (by omega) (by omega) h2.1) ?_;rintro _ _ ⟨n2,rs9,hn2,⟨m9,hm9,hl9⟩,rfl,rfl⟩)
   |(refine iY (Hf _ cB (by omega) (by omega) h3.1) ?_;rintro _ _ ⟨n3,rs9,hn3,⟨m9,hm9,hl9⟩,rfl,rfl⟩)
   |(refine iY (KR _ dO (by omega) (by omega)) ?_;rintro _ _ ⟨n4,rs9,hn4,hm9,rfl,rfl⟩)
   |(refine iY (EU _ bS (by omega) (by omega)) ?_;rintro _ _ ⟨n5,rs9,hn5,hm9,rfl,rfl⟩)
   |(refine iY (KQ _ fI (by omega) (by omega)) ?_;rintro _ _ ⟨n6,rs9,hn6,hm9,rfl,rfl⟩)
   |(refine iY (RJ _ fC (by omega) (by omega)) ?_;rintro _ _ ⟨n7,rs9,hn7,hm9,rfl,rfl⟩)
   |(refine iY (KQ _ fK (by omega) (by omega)) ?_;rintro _ _ ⟨n8,rs9,hn8,hm9,rfl,rfl⟩)
   |(refine Ij (by subst_vars;simp only [al,Dgr.jX,Obv.jX,Wrk.jX,Xe];first|done|omega|simp_all) ?_)
   |refine B0 ?_|refine B1 ?_ ?_)<;>intros<;>(try conv=>cbv))
  all_goals first
   |exact hK _ _ ⟨_,by omega,rfl,rfl⟩
   |omega
theorem NoB.ajt (l:List Fdg):NoB (.sl true 3 (l.map Fdg.cs)):= .rows .afG
def CK (p:List Fdg×Int):AV:= .tup [.sl true 3 (p.1.map Fdg.cs),.int .i64 p.2]
theorem NoB.CK (p:List Fdg×Int):NoB (CK p):= .nH (.rows .afG) (.nH (.int _ _) .CY)
set_option maxHeartbeats 2000000
theorem O8 [St] (n:Int):AP 364 [.int .i64 n] AV.bool (bP (1<=n/\n<=9)):=by
  refine a0 Tryz.func364 λE K hE hK=>?_
  repeat' first
    |((first
   |refine aF (eU _ _ _) (λ_=>?_) (λ_=>?_)
   |refine B0 ?_|refine B1 ?_ ?_)<;>intros<;>(try conv=>cbv))
  all_goals exact fz
theorem aam [St] (n:Int):AP 265 [.int .i64 n] AV.bool (bP (1<=n/\n<=9)):=by
  refine a0 Tryz.func265 λE K hE hK=>?_
  repeat' first
    |((first
   |refine aF (in_ _ _ _) (λ_=>?_) (λ_=>?_)
   |refine B0 ?_|refine B1 ?_ ?_)<;>intros<;>(try conv=>cbv))
  all_goals exact fz
theorem Ox [St] (k:Int):AP 365 [.int .i64 k] AV.str (eG k BS):=by
  refine a0 Tryz.func365 λE K hE hK=>?_
  repeat' first
    |((first
   |refine aQ (EO (es:=BS) k (by rfl)) (λ_ _=>?_)
   |refine B0 ?_|refine B1 ?_ ?_)<;>intros<;>(try conv=>cbv))
  exact hK _ (by simp_all [gP])
theorem ZW [St] (k:Int):AP 367 [.int .i64 k] AV.str (eG k BP):=by
  refine a0 Tryz.func367 λE K hE hK=>?_
  repeat' first
    |((first
   |refine aQ (EO (es:=BP) k (by rfl)) (λ_ _=>?_)
   |refine B0 ?_|refine B1 ?_ ?_)<;>intros<;>(try conv=>cbv))
  exact hK _ (by simp_all [gP])
theorem XT [St] {rs:List (List AV)} {t:Bool} {l:List ByteArray} (v:ByteArray) (hl:rs=l.map iQ):AP 227 [.sl t 1 rs,.str v] (AV.int .i64) (lF (λx=>x=v) l):=by
  refine a0 Tryz.func227 λE K hE hK=>?_;refine bn hl λn hn hb=>?_;conv=>cbv
  refine cu [0,1,7] [8] (λ(i:Int)=>([(8,.int .i64 i)],[],n - i,0<=i/\Up (λj=>∀x,l[j]? =some x->¬x=v) i)) [] (0) (by dsimp only;exact ⟨by omega,.zero (by omega)⟩) λi hi Kn hN=>?_;obtain ⟨h0,hinv⟩:=hi
  repeat' first
    |(refine hN _ [] rfl ⟨?_,?_⟩)
    |((first
   |refine bQ (R:=iQ) hl (by omega) (λx hx=>?_)
   |refine rJ (λhe=>?_) (λhe=>?_)
   |refine B0 ?_|refine B1 ?_ ?_)<;>intros<;>(try conv=>cbv))
  all_goals (try clear hN)
  all_goals first
   |omega
   |(refine hK _ ?_;rw [kQ (p:=λx=>x=v) h0 hx he.symm hinv];rfl)
   |(refine hinv.succ (λy hy=>?_) (by assumption);rw [hx] at hy;cases hy;exact λh=>he h.symm)
   |(refine hK _ ?_;rw [jR (by omega) hinv];rfl)
theorem zB [St] {rs:List (List AV)} {t:Bool} {l:List ByteArray} (v:ByteArray) (hl:rs=l.map iQ):AP 151 [.sl t 1 rs,.str v] AV.bool (bP (v∈l)):=by
  refine a0 Tryz.func151 λE K hE hK=>?_;refine aQ (XT v hl) λy hy=>?_;have hf:=mY (λx=>x=v) l;rw [←hy] at hf;conv=>cbv
  repeat' first
    |((first
   |refine B0 ?_|refine B1 ?_ ?_)<;>intros<;>(try conv=>cbv))
  ·refine aH hK (aG.2 ?_);rcases hf with ⟨_,_,⟨w,hw,rfl⟩,_⟩|⟨h,_⟩
   ·exact ae hw
   ·omega
  ·refine aH hK (ah.2 λh=>?_);rcases hf with ⟨_,_,_,_⟩|⟨_,h'⟩
   ·omega
   ·obtain ⟨j,hj⟩:=ap h;exact h' j _ hj rfl
theorem Ot [St] (k:Int) (h:1<=k/\k<=9):AP 366 [.int .i64 k] (λl:List ByteArray=> .sl true 1 (l.map iQ)) (jW k):=by
 refine ac Tryz.func366 (.strs _) λE K hE hK=>?_;have hm:=W9 h;have hf:=G7 h;refine aQ (EO (es:=xB) k (by rfl)) λy hy=>?_;rw [←hy] at hm hf;conv=>cbv
 refine dJ (aeh y hm.1 (λj b hb=>hm.2.1 b (ae hb)) (by rw [hf];unfold maxLen;omega) (λx hx=>by have:=hm.2.2.2 x (by rw [←hf];exact hx);unfold maxLen;omega)) λrs hrs=>?_;rw [hf] at hrs;conv=>cbv
 exact hK _ (by rw [hrs];rfl)
theorem QN [St] (k:Int) (c s t:ByteArray):AP 303 [.agg [.int .i64 k,.str c,.str s,.str t]] AV.bool (bP (BH k c s t)):=by
  refine a0 Tryz.func303 λE K hE hK=>?_;refine Dt (λhe=>?_) (λhe=>?_)<;>conv=>cbv
  ·obtain ⟨e1,e2,e3,e4,_⟩:=he;exact aH hK (aG.2 (.inl ⟨e1,e2,e3,e4⟩))
  ·have hnz:¬(k=0/\c=noS/\s=noS/\t=noS):=λ⟨a,b,c,d⟩=>he ⟨a,b,c,d,trivial⟩;refine aF (O8 k) (λhk=>?_) (λhk=>?_)<;>conv=>cbv
   ·skip
    repeat' first
      |((first
     |(refine aQ (Ox k) (λcc hcc=>?_);(try conv=>cbv);refine rJ (λhc=>?_) (λhc=>?_))
     |(refine aQ (ZW k) (λtt htt=>?_);(try conv=>cbv);refine rJ (λht=>?_) (λht=>?_))
     |refine aF (zB s (by assumption)) (λhs=>?_) (λhs=>?_)
     |refine dJ (Ot k hk) (λ_ _=>?_)
     |refine B0 ?_|refine B1 ?_ ?_)<;>intros<;>(try conv=>cbv))
    all_goals first
     |(refine aH hK (aG.2 (.inr ⟨hk,hc.trans hcc,hs,?_⟩));first|exact .inl (by assumption)|exact .inr (ht.trans htt))
     |(refine aH hK (ah.2 λh=>?_);rcases h with h|⟨h1,h2,h3,h4⟩;exact hnz h;first|exact hc (h2.trans hcc.symm)|exact hs h3|(rcases h4 with h4|h4;contradiction;exact ht (h4.trans htt.symm)))
   ·refine aH hK (ah.2 λh=>?_);rcases h with h|h
    ·exact hnz h
    ·exact hk h.1
theorem Iz {i:Int} {es:List ByteArray} {v:ByteArray} (h0:0<=i) (hv:es[i.toNat]? =some v):v=eG i es:=by
 have:=(aa.1 hv).1;unfold eG;rw [if_pos (by omega),ad,hv];rfl
theorem Xc:BS.length=10:=rfl
theorem WZ:BP.length=10:=rfl
theorem RX [St] (k:Int) (h:1<=k/\k<=9):AP 383 [.int .i64 k] AV.str (eG k BS):=by
 refine a0 Tryz.func383 λE K hE hK=>?_;have h10:=Xc;refine bQ (R:=iQ) (l:=BS) (by rfl) (by omega) λv hv=>?_;conv=>cbv
 refine gK (R:=iQ) (l:=BS) (by rfl) (by omega) hv ?_;conv=>cbv
 exact hK _ (by rw [←Iz (by omega) hv];rfl)
theorem OU [St] (k:Int) (h:1<=k/\k<=9):AP 384 [.int .i64 k] AV.str (eG k BP):=by
 refine a0 Tryz.func384 λE K hE hK=>?_;have h10:=WZ;refine bQ (R:=iQ) (l:=BP) (by rfl) (by omega) λv hv=>?_;conv=>cbv
 refine gK (R:=iQ) (l:=BP) (by rfl) (by omega) hv ?_;conv=>cbv
 exact hK _ (by rw [←Iz (by omega) hv];rfl)
theorem RV [St] (k:Int):AP 385 [.int .i64 k] (λl:List ByteArray=> .sl true 1 (l.map iQ)) (jW k):=by
  refine ac Tryz.func385 (.strs _) λE K hE hK=>?_
  repeat' first
    |((first
   |refine B0 ?_|refine B1 ?_ ?_)<;>intros<;>(try conv=>cbv))
  all_goals (refine hK _ ?_;unfold jW;(repeat' first|rw [if_pos (by omega)]|rw [if_neg (by omega)]);rfl)
theorem afU [St] (k:Int) (c s t:ByteArray):AP 323 [.pp [.int .i64 k,.str c,.str s,.str t]] AV.bool (bP (BH k c s t)):=by
  refine a0 Tryz.func323 λE K hE hK=>?_;refine eqI (λh0=>?_) (λh0=>?_)<;>conv=>cbv
  ·refine Dt (λhe=>?_) (λhe=>?_)<;>conv=>cbv
   ·obtain ⟨e1,e2,e3,e4,_⟩:=he;exact aH hK (aG.2 (.inl ⟨e1,e2,e3,e4⟩))
   ·refine aH hK (ah.2 λh=>?_);rcases h with ⟨a,b,c,d⟩|h
    ·exact he ⟨a,b,c,d,trivial⟩
    ·omega
  ·refine aF (aam k) (λhk=>?_) (λhk=>?_)<;>conv=>cbv
   ·have hno:∀{q:Prop},(c=eG k BS->s∈jW k->(t=noS∨t=eG k BP)->q)->BH k c s t->q:=λhq h=>by
     rcases h with h|⟨_,h2,h3,h4⟩
     ·exact absurd h.1 h0
     ·exact hq h2 h3 h4
    repeat' first
      |(refine dJ (RV k) (λrs hrs=>?_);(try conv=>cbv);(refine cu [0,3] [4] (λ(i:Int)=>([(4,.int .i64 i)],[.row 1 rs],(jW k).length - i,0<=i/\Up (λj=>∀x,(jW k)[j]? =some x->¬x=s) i)) [0] (0) (by dsimp only;exact ⟨by omega,.zero (by omega)⟩) λi hi2 Kn2 hN2=>?_);obtain ⟨hi0,hinv⟩:=hi2)
      |(refine hN2 _ [0] rfl ⟨?_,?_⟩)
      |((first
     |(refine aQ (RX k hk) (λcc hcc=>?_);(try conv=>cbv);refine rJ (λhc=>?_) (λhc=>?_))
     |(refine aQ (OU k hk) (λtt htt=>?_);(try conv=>cbv);refine rJ (λht=>?_) (λht=>?_))
     |(refine bQ (R:=iQ) hrs (by omega) (λx hx=>?_);(try conv=>cbv);refine rJ (λhe=>?_) (λhe=>?_))
     |refine B0 ?_|refine B1 ?_ ?_)<;>intros<;>(try conv=>cbv))
    all_goals (try clear hN2)
    all_goals first
     |omega
     |(refine hinv.succ (λy hy=>?_) (by assumption);rw [hx] at hy;cases hy;exact he)
     |(refine aH hK (aG.2 (.inr ⟨hk,hc.trans hcc,by rw [←he];exact ae hx,?_⟩));first|exact .inl (by assumption)|exact .inr (ht.trans htt))
     |(refine aH hK (ah.2 (hno λh2 h3 h4=>?_));first|exact hc (h2.trans hcc.symm)|(rcases h4 with h4|h4;contradiction;exact ht (h4.trans htt.symm))|(obtain ⟨j,hj⟩:=ap h3;exact hinv j (by have:=(aa.1 hj).1;omega) _ hj rfl))
   ·refine aH hK (ah.2 λh=>?_);rcases h with h|h
    ·exact h0 h.1
    ·exact hk h.1
theorem Np [St] (k:Int) (c s t:ByteArray):AP 250 [.agg [.int .i64 k,.str c,.str s,.str t]] AV.bool (bP (BH k c s t)):=by
  refine a0 Tryz.func250 λE K hE hK=>?_
  repeat' first
    |((first
   |refine aF (afU _ _ _ _) (λ_=>?_) (λ_=>?_)
   |refine B0 ?_|refine B1 ?_ ?_)<;>intros<;>(try conv=>cbv))
  all_goals exact fz
end Go.Proofs.YtnlhnideeaobpaaGreatDoor
