/- Contracts: the reference's tenths, period and least rotation. -/
import Derived.Test.YtnlhnideeaobpaaGreatDoorKA
import Derived.Test.YtnlhnideeaobpaaGreatDoorKB
namespace Go.Proofs.YtnlhnideeaobpaaGreatDoor
open Go Go.RowKit Classical
set_option maxRecDepth 100000
set_option maxHeartbeats 2000000
set_option linter.unusedVariables false
set_option linter.unusedSimpArgs false
set_option maxHeartbeats 4000000
variable {E:Env} {P:Program} {np:Nat}
theorem NoB.by (c:UInt8) (l:List Bool):NoB (.sl true 1 (l.map (byR c))):= .rows λ_=> .bW (.int _ _) .o9
theorem idxBy [St] [hE:SE E np P] {es:List (List AV)} {i:Int} {K:List AV->Prop} {l:List Bool} {c:UInt8} (hl:es=l.map (byR c)) (h0:0<=i/\i<l.length) (hk:∀s b,l[i.toNat]? =some b->s=byI c b->K [.int .u8 s]):E.idx es i K:=
 bQ hl h0 λv hv=>hk _ v hv rfl
theorem byte_of {c:UInt8} {b:Bool} {s:ByteArray} {v:Int} (hs:s=iX c b) (hne:s≠noS) (hv:v=(s.data.getD 0 0).toNat):v=byI c b:=by
 cases b with
 |true=>rw [hv,hs];rfl
 |false=>exact absurd hs hne
theorem Yy {c:UInt8} {b:Bool} {s:ByteArray} (hs:s=iX c b) (he:s=noS):byI c b=0:=by
 rw [Yp.1 (hs.symm.trans he)];rfl
theorem aex {c:UInt8} {b:Bool} {s:ByteArray} (hs:s=iX c b) (hne:s≠noS):0<s.size:=by
 cases b with
 |true=>rw [hs];exact Nat.zero_lt_one
 |false=>exact absurd hs hne
theorem aco {c:UInt8} {X:List Bool} {k kp:Int} {b:Bool} (h0:0<=k) (hkp:kp=k+1):(X++List.replicate k.toNat b++[b]).map (byR c)=(X++List.replicate kp.toNat b).map (byR c):=by
 rw [show kp.toNat=k.toNat+1 by omega,m5,←cT]
theorem YZ {c:UInt8} {p:List Ph} {i ip k n:Int} {b:Bool} (hp:p[i.toNat]? =some (b,n)) (h0:0<=i) (hip:ip=i+1) (hk:k.toNat=n.toNat):(kE (p.take i.toNat)++List.replicate k.toNat b).map (byR c)=(kE (p.take ip.toNat)).map (byR c):=by
 rw [show ip.toNat=i.toNat+1 by omega,zY hp,hk]
theorem R4 [St] (c:UInt8) {rs:List (List AV)} {t:Bool} {p:List Ph} (hl:rs=p.map (phR c)) (hok:yj p):AP 450 [.sl t 2 rs] (λl:List Bool=> .sl true 1 (l.map (byR c))) (kE p):=by
  refine ac Tryz.func450 (.by _ _) λE K hE hK=>?_;refine bO [0] [4,3] (λ(i:Int) (es:List (List AV))=>([(4,.int .i64 i),(3,.ob 0)],[.row 1 es],p.length - i,(0<=i/\i<=p.length)/\es=(kE (p.take i.toNat)).map (byR c))) [0] ((0,[])) (by dsimp only;exact ⟨by omega,rfl⟩) λi es hi Kn hN=>?_;obtain ⟨⟨h0,h1⟩,h2⟩:=hi;refine bn hl λn hn hb=>?_;conv=>cbv
  refine ltI (λhlt=>?_) (λhge=>?_)<;>conv=>cbv
  ·refine Cm hl (by omega) λs b m hp hs=>?_;have hm:=hok.2.1 _ (ae hp);simp only at hm;conv=>cbv
   repeat' first
     |((refine bO [0,4,5] [6,3] (λ(k:Int) (es2:List (List AV))=>([(6,.int .i64 k),(3,.ob 0)],[.row 1 es2],m - k,(0<=k/\k<=m)/\es2=(kE (p.take i.toNat)++List.replicate k.toNat b).map (byR c))) [0] ((0,es)) (by dsimp only;exact ⟨by omega,by rw [h2];simp⟩) λk es2 hi2 Kn2 hN2=>?_);obtain ⟨⟨k0,k1⟩,h3⟩:=hi2;have hlim:=Ue hok hp ⟨k1,k0⟩)
     |(refine hN2 _ _ [2] rfl ⟨?_,?_⟩)
     |(refine hN _ _ [0] rfl ⟨?_,?_⟩)
     |((first
    |refine FM (b:=b) (n:=m) hl (by omega) hp hs ?_
    |refine rJ (λheq=>?_) (λhne=>?_)
    |(refine wH ⟨by omega,by have:=aex hs hne;omega⟩ (λv hv _ _=>?_);have hv2:=byte_of hs hne hv)
    |refine jA (R:=byR c) (v:=b) h3 (by first|(rw [hv2];rfl)|(show [AV.int .u8 0]=[AV.int .u8 (byI c b)];rw [Yy hs heq])) (by omega) (λ_ _=>?_)
    |refine B0 ?_|refine B1 ?_ ?_)<;>intros<;>(try conv=>cbv))
   (all_goals (try clear hN));all_goals (try clear hN2)
   all_goals first
    |omega
    |(rename_i _ h5 _ h6;rw [h5];exact aco k0 (by assumption))
    |(rw [h3];exact YZ hp h0 (by assumption) (by omega))
  ·refine hK _ ?_;rw [h2,bm (by omega)];rfl
def aeP (l:List Bool) (n i:Int):Prop:=Up (λj=>j+n.toNat<l.length->l[j]? =l[j+n.toNat]?) i
theorem adn {k m n:Int} {L:Nat} (hk:k=m % n) (hm:m=L) (h:1<=n):k=0↔L % n.toNat=0:=by
 obtain ⟨N,rfl⟩:∃N:Nat,n=N:=⟨n.toNat,by omega⟩
 rw [hk,hm,di,←gr];omega
theorem aeP.lin {l:List Bool} {n i:Int} (h:aeP l n i) (hi:(l.length:Int)<=i+n) (h1:1<=n):Lin l n.toNat:=λj hj=>h j (by omega) hj
theorem WT {l:List Bool} {n i:Int} (h1:1<=n/\n<=l.length) (hd:l.length % n.toNat=0) (h:aeP l n i) (hi:(l.length:Int)<=i+n) (hm:∀m,1<=m->m<n.toNat->l.length % m=0->¬Lin l m):(WU l:Int)=n:=by
 have:=O6 (l:=l) (n:=n.toNat) (by omega) (by omega) hd (h.lin hi h1.1) hm;rw [this.eq];omega
theorem ZJ {l:List Bool} {n:Int} (hb:1<=l.length) (hn:(l.length:Int)<=n) (hm:∀m,1<=m->m<n.toNat->l.length % m=0->¬Lin l m):WU l=l.length:=
 (O6 (l:=l) (n:=l.length) hb (aq _) (nj _) (λt ht=>by omega) λm h1 h2=>hm m h1 (by omega)).eq
theorem R5 [St] (c:UInt8) (hc:c≠0) {rs:List (List AV)} {t:Bool} {l:List Bool} (hl:rs=l.map (byR c)) (hb:1<=l.length) (hb2:l.length<=100000):AP 451 [.sl t 1 rs] (AV.int .i64) (WU l:Nat):=by
  refine a0 Tryz.func451 λE K hE hK=>?_;refine cu [0] [3] (λ(n:Int)=>([(3,.int .i64 n)],[],l.length - n,(1<=n/\n<=l.length)/\∀m,1<=m->m<n.toNat->l.length % m=0->¬Lin l m)) [] (1) (by dsimp only;exact ⟨by omega,λm h1 h2=>by omega⟩) λn hi Kn hN=>?_;obtain ⟨⟨h0,h1⟩,hinv⟩:=hi
  repeat' first
    |(refine hN2 _ true [] rfl ⟨?_,λ_=>?_,λh=>Bool.noConfusion h⟩)
    |(refine hN2 _ false [] rfl ⟨?_,λh=>Bool.noConfusion h,λ_=>?_⟩)
    |(refine hN _ [] rfl ⟨?_,?_⟩)
    |((first
   |refine bn hl (λm2 hm2 _=>?_)
   |(refine qM (a:=m2) (by omega) (λk hk=>?_);have hk2:=Oi hk (by omega);have hkn:=adn hk hm2 h0)
   |((refine bO [0,3] [5,4] (λ(i:Int) (sm:Bool)=>([(5,.int .i64 i),(4,.bool sm)],[],l.length - i,(0<=i/\i<=l.length)/\(sm=true->aeP l n i)/\(sm=false->¬Lin l n.toNat))) [] ((0,true)) (by dsimp only;exact ⟨by omega,λ_=> .zero (by omega),λh=>Bool.noConfusion h⟩) λi sm hi2 Kn2 hN2=>?_);obtain ⟨⟨i0,i1⟩,hst,hsf⟩:=hi2;cases sm)
   |refine iH (a:=i) (b:=n) (by omega) (λa1 ha1=>?_)
   |refine idxBy (i:=i) hl (by omega) (λv x hx hv=>?_)
   |refine idxBy (i:=a1) hl (by omega) (λv2 x2 hx2 hv2=>?_)
   |refine eqI (a:=v) (b:=v2) (λheq=>?_) (λhne=>?_)
   |refine B0 ?_|refine B1 ?_ ?_)<;>intros<;>(try conv=>cbv))
  all_goals (try clear hN)
  all_goals (try clear hN2)
  all_goals first
   |omega
   |(refine (hst rfl).succ (λ_=>?_) (by assumption);rw [hx,←(D5 hc).1 (hv.symm.trans (heq.trans hv2))];rw [show i.toNat+n.toNat=a1.toNat by omega,hx2,(D5 hc).1 (hv.symm.trans (heq.trans hv2))])
   |(refine (hst rfl).succ (λ_=>?_) (by assumption);rw [hx,(D5 hc).1 (hv.symm.trans (heq.trans hv2)),show i.toNat+n.toNat=a1.toNat by omega,hx2])
   |(intro h;apply hne;have h3:=h i.toNat (by omega);rw [hx,show i.toNat+n.toNat=a1.toNat by omega,hx2] at h3;rw [hv,hv2,ee h3])
   |(refine hK _ ?_;rw [WT ⟨h0,h1⟩ (hkn.1 (by assumption)) (hst rfl) (by omega) hinv];rfl)
   |(refine hK _ ?_;rw [ZJ hb (by omega) hinv];subst_vars;rfl)
   |(intro m g1 g2 g3;by_cases e:m=n.toNat<;>first|exact hinv m g1 (by omega) g3|(rw [e];exact hsf rfl)|(rw [e] at g3;exact absurd (hkn.2 g3) (by assumption)))
def iT (l:List Bool):Nat->Nat
 |0=>0
 |i+1=>if fT (rot l i)<fT (rot l (iT l i)) then i else iT l i
theorem vR (l:List Bool):∀i,iT l i<=i - 1/\∀u,u<i->fT (rot l (iT l i))<=fT (rot l u)
 |0=>⟨aq _,λu hu=>by omega⟩
 | i +1=>by
   obtain ⟨h1,h2⟩:=vR l i;unfold iT;split
   ·rename_i h;refine ⟨by omega,λu hu=>?_⟩;by_cases e:u=i
    ·rw [e];exact aq _
    ·have:=h2 u (by omega);omega
   ·rename_i h;refine ⟨by omega,λu hu=>?_⟩;by_cases e:u=i
    ·rw [e];omega
    ·exact h2 u (by omega)
theorem OL {l:List Bool} (h:1<=l.length):II l=rot l (iT l l.length):=by
 obtain ⟨h1,h2⟩:=vR l l.length;refine qE.eq ⟨⟨_,by omega,rfl⟩,λu hu=>?_⟩;by_cases e:u=l.length
 ·rw [e,Nw,←yH l];have:=h2 0 (by omega);rwa [yH] at this ⊢
 ·exact h2 u (by omega)
theorem Fj {l:List Bool} {i n bs k:Int} {x y:Bool} (h0:1<=i/\i<l.length) (hb:bs=iT l i.toNat) (hp:YF (rot l i.toNat) (rot l bs.toNat) k) (hk:0<=k) (hx:(rot l i.toNat)[k.toNat]? =some x) (hy:(rot l bs.toNat)[k.toNat]? =some y) (hne:x≠y) (hn:n=i+1):iT l n.toNat=if bI x<bI y then i.toNat else iT l i.toNat:=by
 rw [show n.toNat=i.toNat+1 by omega,iT];have e:bs.toNat=iT l i.toNat:=by omega
 rw [←e];have hl:(rot l i.toNat).length=(rot l bs.toNat).length:=by rw [jV,jV]
 have hcz:Dl (bI x) (bI y)≠0:=λh=>hne (abK (Bo h));have h1:=AL hl;rw [KT (hp.pre.nat hk) (KS hx) (KS hy) hcz] at h1
 have h2:Dl (bI x) (bI y)<0↔bI x<bI y:=by
  unfold Dl;split
  ·simp_all
  ·split<;>simp_all
 by_cases h:bI x<bI y
 ·rw [if_pos h,if_pos (h1.1 (h2.2 h))]
 ·rw [if_neg h,if_neg λh3=>h (h2.1 (h1.2 h3))]
theorem RO {l:List Bool} {i n bs k:Int} (h0:1<=i/\i<l.length) (hb:bs=iT l i.toNat) (hp:YF (rot l i.toNat) (rot l bs.toNat) k) (hk:(l.length:Int)<=k) (hn:n=i+1):iT l n.toNat=iT l i.toNat:=by
 rw [show n.toNat=i.toNat+1 by omega,iT];have e:bs.toNat=iT l i.toNat:=by omega
 have hs:rot l i.toNat=rot l bs.toNat:=by
  refine cC λj=>?_;by_cases hj:j<l.length
  ·obtain ⟨x,h1,h2⟩:=hp j (by omega);rw [h1,h2]
  ·rw [ar (by rw [jV];omega),ar (by rw [jV];omega)]
 rw [←e,hs,if_neg (fR _),e]
theorem Rz {l:List Bool} {i k a n:Int} {x:Bool} (hi:0<=i/\i<=l.length) (hk:0<=k/\k<l.length) (ha:a=(i+k) % n) (hn:n=l.length) (hx:l[a.toNat]? =some x):(rot l i.toNat)[k.toNat]? =some x:=by
 rw [Ku l (by omega) (by omega)]
 have e:((i.toNat+k.toNat) % l.length:Nat)=a.toNat:=by
  rw [ha,hn];(have e1:i+k=((i.toNat+k.toNat:Nat):Int):=by omega);rw [e1,←gr,di]
 rw [e];exact hx
theorem Xy [St] (c:UInt8) (hc:c≠0) {rs:List (List AV)} {t:Bool} {l:List Bool} (hl:rs=l.map (byR c)) (hb:1<=l.length) (hb2:l.length<=100000):AP 431 [.sl t 1 rs] (AV.int .i64) (iT l l.length:Nat):=by
  refine a0 Tryz.func431 λE K hE hK=>?_;refine bO [0] [4,3] (λ(i bs:Int)=>([(4,.int .i64 i),(3,.int .i64 bs)],[],l.length - i,(1<=i/\i<=l.length)/\bs=iT l i.toNat)) [] ((1,0)) (by dsimp only;exact ⟨by omega,by simp [iT]⟩) λi bs hi Kn hN=>?_;obtain ⟨⟨h0,h1⟩,hbs⟩:=hi;have hbb:=(vR l i.toNat).1
  repeat' first
    |((refine cu [0,4] [5,3] (λ(k:Int)=>([(5,.int .i64 k),(3,.int .i64 bs)],[],l.length - k,(0<=k/\k<=l.length)/\YF (rot l i.toNat) (rot l bs.toNat) k)) [] (0) (by dsimp only;exact ⟨by omega,λj hj=>by omega⟩) λk hi2 Kn2 hN2=>?_);obtain ⟨⟨k0,k1⟩,hpre⟩:=hi2)
    |(refine hN2 _ [] rfl ⟨?_,?_⟩)
    |(refine hN _ _ [] rfl ⟨?_,?_⟩)
    |((first
   |refine bn hl (λm2 hm2 _=>?_)
   |refine iH (a:=i) (b:=k) (by omega) (λa1 ha1=>?_)
   |refine iH (a:=bs) (b:=k) (by omega) (λa2 ha2=>?_)
   |(refine qM (a:=a1) (by omega) (λr1 hr1=>?_);have ajI:=Oi hr1 (by omega))
   |(refine qM (a:=a2) (by omega) (λr2 hr2=>?_);have ajH:=Oi hr2 (by omega))
   |(refine idxBy (i:=r1) hl (by omega) (λv x hx hv=>?_);have hxr:=Rz (i:=i) (k:=k) (by omega) (by omega) (by rw [hr1,ha1]) (by assumption) hx)
   |(refine idxBy (i:=r2) hl (by omega) (λv2 x2 hx2 hv2=>?_);have af6:=Rz (i:=bs) (k:=k) (by omega) (by omega) (by rw [hr2,ha2]) (by assumption) hx2)
   |refine eqI (a:=v) (b:=v2) (λheq=>?_) (λhne=>?_)
   |refine ltI (a:=v) (b:=v2) (λhlt=>?_) (λhge=>?_)
   |refine B0 ?_|refine B1 ?_ ?_)<;>intros<;>(try conv=>cbv))
  all_goals (try clear hN)
  all_goals (try clear hN2)
  all_goals first
   |omega
   |(intro j hj;by_cases hjk:(j:Int)<k<;>first|exact hpre j hjk|(rw [show j=k.toNat by omega];exact ⟨x,hxr,by rw [af6,(D5 hc).1 (hv.symm.trans (heq.trans hv2))]⟩))
   |(rw [Fj (x:=x) (y:=x2) (by omega) hbs hpre k0 hxr af6 (λe=>hne (by rw [hv,hv2,e])) (by assumption),if_pos ((abG hc).1 (by rw [←hv,←hv2];exact hlt))];omega)
   |(rw [Fj (x:=x) (y:=x2) (by omega) hbs hpre k0 hxr af6 (λe=>hne (by rw [hv,hv2,e])) (by assumption),if_neg (λh=>by have:=(abG hc).2 h;omega)];omega)
   |(rw [RO (by omega) hbs hpre (by omega) (by assumption)];omega)
   |(refine hK _ ?_;rw [hbs,show i.toNat=l.length by omega];rfl)
end Go.Proofs.YtnlhnideeaobpaaGreatDoor
/- Contracts: the reference's joined tenths, alike rhythms. -/
namespace Go.Proofs.YtnlhnideeaobpaaGreatDoor
open Go Go.RowKit Classical
set_option maxRecDepth 100000
set_option maxHeartbeats 2000000
set_option linter.unusedVariables false
set_option linter.unusedSimpArgs false
set_option maxHeartbeats 4000000
variable {E:Env} {P:Program} {np:Nat}
theorem ZR {c:UInt8} {v:Int} {s:ByteArray} (hv:v=byI c true) (hs:s=bytesOf [v]):s=iX c true:=by
 rw [hs,hv];exact Yx c
theorem aar [St] (c:UInt8) (hc:c≠0) (b:Bool) (v:Int) (hv:v=byI c b):AP 452 [.int .u8 v] AV.str (iX c b):=by
  refine a0 Tryz.func452 λE K hE hK=>?_;have hz:=abF (c:=c) hc (b:=b)
  repeat' first
    |((first
   |refine eqI (λheq=>?_) (λhne=>?_)
   |refine QT [v] rfl (λs hs _=>?_)
   |refine B0 ?_|refine B1 ?_ ?_)<;>intros<;>(try conv=>cbv))
  ·refine hK _ ?_;rw [hz.1 (hv.symm.trans heq)];rfl
  ·refine hK _ ?_
   have hb:b=true:=by
    cases b with
    |true=>rfl
    |false=>exact absurd (hv.trans (hz.2 rfl)) hne
   subst hb;rw [ZR hv hs];rfl
theorem aaq [St] (c:UInt8) (hc:c≠0) {rs:List (List AV)} {t:Bool} {p:List Ph} (hl:rs=p.map (phR c)) (hok:yj p):AP 429 [.sl t 2 rs] (λl:List Bool=> .sl true 1 (l.map (byR c))) (pQ (kE p)):=by
  refine ac Tryz.func429 (.by _ _) λE K hE hK=>?_;have PD:=hok.ten;obtain ⟨pe,hq,hql⟩:=Rep.per PD.1;refine dJ (R4 c hl hok) λr1 hr1=>?_;conv=>cbv
  refine aQ (R5 c hc hr1 (by omega) (by omega)) λn hn=>?_;rw [hq.eq] at hn;conv=>cbv
  repeat' first
    |((first
   |(refine tQ hr1 (by simp only [bp,cD];omega) (λr2 hr2=>?_))
   |refine B0 ?_|refine B1 ?_ ?_)<;>intros<;>(try conv=>cbv))
  exact hK _ (by rw [hr2,pQ,hq.eq];simp [hn];rfl)
theorem aas [St] (c:UInt8) (hc:c≠0) {rs:List (List AV)} {t:Bool} {l:List Bool} {f:Int} (hl:rs=l.map (byR c)) (hb:1<=l.length/\l.length<=100000) (hf:0<=f/\f<=l.length):AP 430 [.sl t 1 rs,.int .i64 f] (λl:List Ph=> .sl true 2 (l.map (phR c))) (oQ (rot l f.toNat)):=by
  refine ac Tryz.func430 (.ph _ _) λE K hE hK=>?_;have hrl:=jV l f.toNat;refine iR [0,1] [6,5] (λ(i:Int) (X:List Ph) (es:List (List AV))=>([(6,.int .i64 i),(5,.ob 0)],[.row 2 es],l.length - i,(0<=i/\i<=l.length)/\es=X.map (phR c)/\X=oQ ((rot l f.toNat).take i.toNat))) [0] ((0,[],[])) (by dsimp only;exact ⟨by omega,rfl,rfl⟩) λi X es hi Kn hN=>?_;obtain ⟨⟨h0,h1⟩,h2,hX⟩:=hi;obtain ⟨hbl,hbe⟩:=ze (l:=rot l f.toNat) i.toNat (by omega);rw [←hX] at hbl hbe;refine bn hl λn hn _=>?_;conv=>cbv
  refine ltI (λhlt=>?_) (λhge=>?_)<;>conv=>cbv
  ·obtain ⟨j,hj⟩:∃j,j=(X.length:Int) - 1:=⟨_,rfl⟩
   repeat' first
     |(refine hN _ (X.set j.toNat (b2,k2)) _ [0] rfl ⟨?_,gG,?_⟩)
     |(refine hN _ (X++[(b,1)]) _ [2] rfl ⟨?_,xQ,?_⟩)
     |((first
    |refine bn hl (λn2 hn2 _=>?_)
    |refine iH (a:=f) (b:=i) (by omega) (λa1 ha1=>?_)
    |(refine qM (by omega) (λr hr=>?_);have hrb:=Oi hr (by omega))
    |refine idxBy (i:=r) hl (by omega) (λv b hb hv=>?_)
    |refine aQ (aar c hc b v hv) (λs hs=>?_)
    |refine bn h2 (λm hm _=>?_)
    |(refine eX (by omega) (λj' hj'=>?_);obtain rfl:j=j':=by omega)
    |refine FM h2 (by omega) hx hs2 ?_
    |(refine Cm h2 (by omega) (λs2 b2 k hx hs2=>?_);have hkb:=hbe _ (ae hx);simp only at hkb)
    |refine rJ (λheq=>?_) (λhne=>?_)
    |refine wB (R:=phR c) (b2,k2) h2 (by omega) hx (by exact bt rfl) (by rfl) (λes2 gG=>?_)
    |refine iH (a:=k) (by omega) (λk2 hk2=>?_)
    |refine jA (R:=phR c) (v:=(b,1)) h2 (by rw [hs];rfl) (by omega) (λes3 xQ=>?_)
    |refine B0 ?_|refine B1 ?_ ?_)<;>intros<;>(try conv=>cbv))
   (all_goals (try clear hN));all_goals (have hstep:=xJ (Rz (i:=f) (k:=i) hf (by omega) (by rw [hr,ha1]) (by assumption) hb);rw [←hX] at hstep)
   all_goals first
    |omega
    |(rename_i hip;rw [hip,show (i+1).toNat=i.toNat+1 by omega,hstep,vT hx (by omega) (iG.1 (hs2.symm.trans (heq.trans hs))) (by omega),hk2];done)
    |(rename_i hip;rw [hip,show (i+1).toNat=i.toNat+1 by omega,hstep,vT hx (by omega) (iG.1 (hs2.symm.trans (heq.trans hs))) (by omega),hk2];rfl)
    |(rename_i hip;rw [hip,show (i+1).toNat=i.toNat+1 by omega,hstep,Jb hx (by omega) (λe=>hne (by rw [hs2,hs,iG];exact e)) (by omega)])
    |(rename_i hip;rw [hip,show (i+1).toNat=i.toNat+1 by omega,hstep,Af (by omega)])
  ·refine hK _ ?_;rw [h2,hX,bm (by omega)];rfl
theorem FB [St] (c:UInt8) (hc:c≠0) {rs:List (List AV)} {t:Bool} {p:List Ph} (hl:rs=p.map (phR c)) (hok:yj p):AP 400 [.sl t 2 rs] (λl:List Ph=> .sl true 2 (l.map (phR c))) (jnP p):=by
 refine ac Tryz.func400 (.ph _ _) λE K hE hK=>?_;have PD:=hok.ten;have ae5:=EJ PD.1;refine dJ (aaq c hc hl hok) λr1 hr1=>?_;conv=>cbv
 refine aQ (Xy c hc hr1 (by omega) (by omega)) λn hn=>?_;conv=>cbv
 have hlb:=(vR (pQ (kE p)) (pQ (kE p)).length).1;refine dJ (aas c hc hr1 (by omega) (by omega)) λr2 hr2=>?_;conv=>cbv
 refine hK _ ?_;rw [hr2,jnP,uy,OL (by omega),show n.toNat=iT (pQ (kE p)) (pQ (kE p)).length by omega];rfl
def TV (z:Int) (a b:List Ph) (f i:Nat):Prop:=∃x y,a[i]? =some x/\b[(f+i) % b.length]? =some y/\wN z x y
theorem IK {z d:Int} {x y:Ph} (h:x.1=y.1) (hd:d=x.2 - y.2):wN z x y↔ -z<=d/\d<=z:=by
 unfold wN;rw [hd];exact ⟨λh1=>h1.2,λh1=>⟨h,h1⟩⟩
theorem KL {L:Nat} {f i a r m:Int} (hf:0<=f) (hi:0<=i) (hr:r=a % m) (ha:a=f+i) (hm:m=L):(f.toNat+i.toNat) % L=r.toNat:=by
 rw [hr,hm,ha];have e1:f+i=((f.toNat+i.toNat:Nat):Int):=by omega
 rw [e1,←gr,di]
theorem Xm [St] (c:UInt8) (hc:c≠0) (z:Int) (hz:0<=z/\z<=20) {rp rq:List (List AV)} {t t':Bool} {p1 p2:List Ph} (h1:rp=p1.map (phR c)) (h2:rq=p2.map (phR c)) (o1:yj p1) (o2:yj p2):AP 338 [.sl t 2 rp,.sl t' 2 rq,.int .i64 z] AV.bool (bP (Bq z p1 p2)):=by
  refine a0 Tryz.func338 λE K hE hK=>?_;obtain ⟨_,j1,b1⟩:=Vh o1;obtain ⟨_,j2,b2⟩:=Vh o2;refine dJ (FB c hc h1 o1) λra hra=>?_;conv=>cbv
  refine dJ (FB c hc h2 o2) λrb hrb=>?_;conv=>cbv
  obtain ⟨a,hA⟩:∃a,a=jnP p1:=⟨_,rfl⟩
  obtain ⟨b,hB⟩:∃b,b=jnP p2:=⟨_,rfl⟩
  have hcl:Bq z p1 p2=Gq z a b:=by rw [hA,hB];rfl
  rw [←hA] at hra j1 b1;rw [←hB] at hrb j2 b2;rw [hcl] at hK;refine bn hra λla hla _=>?_;conv=>cbv
  refine bn hrb λlb hlb _=>?_;conv=>cbv
  refine eqI (λhlen=>?_) (λhlen=>?_)<;>conv=>cbv
  ·(have hab:a.length=b.length:=by omega);refine cu [2,7,8] [9] (λ(f:Int)=>([(9,.int .i64 f)],[.row 2 ra,.row 2 rb],b.length - f,(0<=f/\f<=b.length)/\Up (λf=>¬∀i,i<a.length->TV z a b f i) f)) [0,1] (0) (by dsimp only;exact ⟨by omega,.zero (by omega)⟩) λf hi Kn hN=>?_;obtain ⟨⟨f0,f1⟩,hinv⟩:=hi
   repeat' first
     |(refine hN2 _ true [0,1] rfl ⟨?_,λ_=>?_,λh=>Bool.noConfusion h⟩)
     |(refine hN2 _ false [0,1] rfl ⟨?_,λh=>Bool.noConfusion h,λ_=>?_⟩)
     |(refine hN _ [0,1] rfl ⟨?_,?_⟩)
     |((first
    |refine bn hrb (λlc hlc _=>?_)
    |((refine bO [2,7,8,9] [11,10] (λ(i:Int) (sm:Bool)=>([(11,.int .i64 i),(10,.bool sm)],[.row 2 ra,.row 2 rb],a.length - i,(0<=i/\i<=a.length)/\(sm=true->Up (TV z a b f.toNat) i)/\(sm=false->¬∀i,i<a.length->TV z a b f.toNat i))) [0,1] ((0,true)) (by dsimp only;exact ⟨by omega,λ_=> .zero (by omega),λh=>Bool.noConfusion h⟩) λi sm hi2 Kn2 hN2=>?_);obtain ⟨⟨i0,i1⟩,hst,hsf⟩:=hi2;cases sm)
    |refine bn hra (λld hld _=>?_)
    |refine iH (a:=f) (b:=i) (by omega) (λa1 ha1=>?_)
    |(refine qM (a:=a1) (by omega) (λr hr=>?_);have ajG:=Oi hr (by omega))
    |refine FM (i:=r) hrb (by omega) hy hs2 ?_
    |(refine Cm (i:=r) hrb (by omega) (λs2 y m2 hy hs2=>?_);have hyb:=b2 _ (ae hy);have ai0:=hyb.1;have aiZ:=hyb.2;simp only at ai0 aiZ)
    |refine FM (i:=i) hra (by omega) hx hs ?_
    |(refine Cm (i:=i) hra (by omega) (λs x m hx hs=>?_);have hxb:=b1 _ (ae hx);have ai2:=hxb.1;have ai1:=hxb.2;simp only at ai2 ai1)
    |refine rJ (λheq=>?_) (λhne=>?_)
    |refine eX (a:=m) (b:=m2) (by omega) (λd hd=>?_)
    |refine eX (a:=0) (b:=z) (by omega) (λzn hzn=>?_)
    |refine aF (in_ d _ _) (λhin=>?_) (λhin=>?_)
    |refine B0 ?_|refine B1 ?_ ?_)<;>intros<;>(try conv=>cbv))
   (all_goals (try clear hN));all_goals (try clear hN2)
   all_goals first
    |omega
    |(refine (hst rfl).succ ⟨_,_,hx,by rw [KL f0 i0 hr ha1 (by assumption)];exact hy,(IK (x:=(x,m)) (y:=(y,m2)) (iG.1 (hs.symm.trans (heq.trans hs2))) hd).2 ⟨by omega,by omega⟩⟩ (by assumption))
    |(intro h;obtain ⟨x',y',e1,e2,e3⟩:=h i.toNat (by omega);rw [KL f0 i0 hr ha1 (by assumption)] at e2;rw [hx] at e1;rw [hy] at e2;cases e1;cases e2;have e4:=(IK (x:=(x,m)) (y:=(y,m2)) (iG.1 (hs.symm.trans (heq.trans hs2))) hd).1 e3;exact hin ⟨by omega,by omega⟩)
    |(intro h;obtain ⟨x',y',e1,e2,e3⟩:=h i.toNat (by omega);rw [KL f0 i0 hr ha1 (by assumption)] at e2;rw [hx] at e1;rw [hy] at e2;cases e1;cases e2;apply hne;rw [hs,hs2,iG];exact e3.1)
    |exact hinv.succ (hsf rfl) (by assumption)
    |exact aH hK (aG.2 ⟨hab,f.toNat,by omega,λi hi=>hst rfl i (by omega)⟩)
    |(refine aH hK (ah.2 λh=>?_);obtain ⟨_,g,hg,hn⟩:=h;exact hinv g (by omega) hn)
  ·exact aH hK (ah.2 λh=>hlen (by have:=h.1;omega))
end Go.Proofs.YtnlhnideeaobpaaGreatDoor
