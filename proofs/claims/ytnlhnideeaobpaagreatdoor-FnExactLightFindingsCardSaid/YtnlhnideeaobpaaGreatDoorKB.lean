/- Contracts: the phases of a character in a color. -/
import Derived.Test.YtnlhnideeaobpaaGreatDoorKA
import Derived.Test.YtnlhnideeaobpaaGreatDoorQk
import Derived.Test.YtnlhnideeaobpaaGreatDoorQj
import Derived.Laws.RangeString
namespace Go.Proofs.YtnlhnideeaobpaaGreatDoor
open Go Go.RowKit Classical
set_option maxRecDepth 100000
set_option maxHeartbeats 2000000
set_option linter.unusedVariables false
set_option linter.unusedSimpArgs false
set_option maxHeartbeats 4000000
variable {E:Env} {P:Program} {np:Nat}
theorem ND [St] (k:Int) (h:k=1∨k=3):AP 220 [.int .i64 k] three (0,0,0):=by
  refine ac Tryz.func220 (.three _) λE K hE hK=>?_
  repeat' first
    |((first
   |refine B0 ?_|refine B1 ?_ ?_)<;>intros<;>(try conv=>cbv))
  all_goals first
   |omega
   |exact hK _ rfl
theorem VQ {k:Int} {T:List Int} {i n v:Int} {b:Bool} (h0:0<=i) (hv:T[i.toNat]? =some v) (hn:n=i+1) (hb:b=wD k i.toNat):nW k T i.toNat++[(b,v)]=nW k T n.toNat:=by
 rw [show n.toNat=i.toNat+1 by omega,nW,hb,ad,hv];rfl
theorem IW {k i m:Int} (h0:0<=i) (hm:m=i % 2) (he:m=0):wD k i.toNat=decide (k≠2):=by
 unfold wD;congr 1;have:i.toNat % 2=0:=by omega
 simp [this]
theorem OE {k i m:Int} (h0:0<=i) (hm:m=i % 2) (he:m≠0):wD k i.toNat=decide (k=2):=by
 unfold wD;congr 1;have:¬i.toNat % 2=0:=by omega
 simp [this]
theorem ahx {c:UInt8} {k i m:Int} (h0:0<=i) (hm:m=i % 2) (he:m=0) (hk:k=2):noS=iX c (wD k i.toNat):=by rw [IW h0 hm he];simp [hk];rfl
theorem ahw {c:UInt8} {k i m:Int} {s:ByteArray} (hs:s=iX c true) (h0:0<=i) (hm:m=i % 2) (he:m=0) (hk:k≠2):s=iX c (wD k i.toNat):=by rw [IW h0 hm he,hs];simp [hk]
theorem ahv {c:UInt8} {k i m:Int} {s:ByteArray} (hs:s=iX c true) (h0:0<=i) (hm:m=i % 2) (he:m≠0) (hk:k=2):s=iX c (wD k i.toNat):=by rw [OE h0 hm he,hs];simp [hk]
theorem ahu {c:UInt8} {k i m:Int} (h0:0<=i) (hm:m=i % 2) (he:m≠0) (hk:k≠2):noS=iX c (wD k i.toNat):=by rw [OE h0 hm he];simp [hk];rfl
theorem wL {c:UInt8} {b:Bool} {n:Int} {u:ByteArray} (h:u=iX c b):[AV.str u,AV.int .i64 n]=phR c (b,n):=by rw [h];rfl
theorem UM [St] (c:UInt8) (k p:Int) (s le co:ByteArray) (hsc:s=iX c true) {rg:List (List AV)} {t:Bool} {g:List Int} (hl:rg=g.map aN) (hok:gZ k g le co p):AP 165 [.agg [.int .i64 k,.sl t 1 rg,.str le,.str co,.int .i64 p],.str s] (λl:List Ph=> .sl true 2 (l.map (phR c))) (Aw k g le p):=by
  refine ac Tryz.func165 (.ph _ _) λE K hE hK=>?_;have hs:=hok.2.1;have htb:=oh hs;have hsb:=wY htb.2;have hkk:=hs.kind
  have hp3:k=3->0<=p/\p<=600:=λhk=>by
   (have hns:¬jE k g:=by rintro (h|h)<;>omega);have:=hok.2.2.2 hns;unfold kJ at this;rw [if_neg hns,if_pos hk] at this;omega
  have hpn:¬jE k g->0<=p/\p<=600:=λhns=>by
   have h1:=hok.2.2.2 hns;have h2:=ou hs;omega
  by_cases h13:k=1∨k=3
  ·rcases h13 with rfl|rfl
   ·skip
    repeat' first
      |((first
     |refine sQ (ND _ (by omega)) (λf0 g0 r0 hf0 hg0 hr0=>?_)
     |refine B0 ?_|refine B1 ?_ ?_)<;>intros<;>(try conv=>cbv))
    all_goals (refine hK _ ?_;rw [hsc];rfl)
   ·have hp:=hp3 rfl
    repeat' first
      |((first
     |refine sQ (ND _ (by omega)) (λf0 g0 r0 hf0 hg0 hr0=>?_)
     |refine yO (by omega) (λd hd=>?_)
     |refine B0 ?_|refine B1 ?_ ?_)<;>intros<;>(try conv=>cbv))
    all_goals (refine hK _ ?_;subst_vars;rfl)
  ·have h1:k≠1:=λh=>h13 (.inl h);have h3:k≠3:=λh=>h13 (.inr h);(obtain ⟨T,hT⟩:∃T,T=dM k g le:=⟨_,rfl⟩);(have hT8:T.length<=80:=by rw [hT];exact htb.1);have hTs:0<=T.sum/\T.sum<=100*T.length:=by rw [hT];exact hsb
   repeat' first
     |((refine bO [2,5,6,67,68] [69,13] (λ(i:Int) (es:List (List AV))=>([(69,.int .i64 i),(13,.ob 1)],[.box [.int .i64 k,.sl t 1 rg,.str le,.str co,.int .i64 p],.row 2 es,.row 1 ts],n - i,(0<=i/\i<=n)/\es=(nW k T i.toNat).map (phR c))) [0,1,2] ((0,[])) (by dsimp only;exact ⟨by omega,rfl⟩) λi es hi2 Kn2 hN2=>?_);obtain ⟨⟨i0,i1⟩,h2⟩:=hi2;have hal:=zQ k T i.toNat)
     |(refine hN2 _ _ [0,4,2] rfl ⟨?_,?_⟩)
     |((first
    |refine sQ (yI k (by omega)) (λf0 g0 r0 hf0 hg0 hr0=>?_)
    |(refine aF (AR k p le co hl) (λhst=>?_) (λhns=>have hpb:=hpn hns;?_))
    |(refine dJ (YW k p le co hl hs ⟨h1,h3⟩) (λts hts=>?_);rw [←hT] at hts)
    |refine bn hts (λn hn _=>?_)
    |refine bQ (R:=aN) (i:=i) hts (by omega) (λv hv=>?_)
    |refine qM (a:=i) (by omega) (λm hm=>?_)
    |refine eqI (b:=0) (λheq=>?_) (λhne=>?_)
    |refine eqI (a:=k) (b:=2) (λhk=>?_) (λhk=>?_)
    |(refine aQ (Y8 (by assumption) (by rw [hT];exact htb.2) (by rw [hT];omega)) (λsm hsm=>?_))
    |refine eX (a:=p) (b:=sm) (by omega) (λd hd=>?_)
    |refine jA (R:=phR c) (v:=(wD k i.toNat,v)) h2 (by first|exact wL (ahx i0 hm heq hk)|exact wL (ahw hsc i0 hm heq hk)|exact wL (ahv hsc i0 hm hne hk)|exact wL (ahu i0 hm hne hk)) (by omega) (λ_ _=>?_)
    |refine jA (R:=phR c) (v:=(decide (k=2),d)) h2 (by first|exact wL (by rw [hsc];simp [hk];done)|exact wL (by simp [hk];rfl)) (by omega) (λro hro=>?_)
    |refine B0 ?_|refine B1 ?_ ?_)<;>intros<;>(try conv=>cbv))
   all_goals (try clear hN2)
   all_goals first
    |omega
    |(rename_i _ h5 _ h6;rw [h5];exact congrArg (List.map (phR c)) (VQ (k:=k) i0 hv h6 rfl))
    |(exfalso;rcases hst with h|h<;>omega)
    |(refine hK _ ?_;rw [Aw,if_neg h1,if_neg h3,if_pos hst];clear hpn hp3;subst_vars;rfl)
    |(refine hK _ ?_;rw [hro,Aw,if_neg h1,if_neg h3,if_neg hns,←hT,hd,hsm,show i.toNat=T.length by omega];rfl)
end Go.Proofs.YtnlhnideeaobpaaGreatDoor
/- Contracts: rhythms that are alike. -/
namespace Go.Proofs.YtnlhnideeaobpaaGreatDoor
open Go Go.RowKit Classical
set_option maxRecDepth 100000
set_option maxHeartbeats 2000000
set_option linter.unusedVariables false
set_option linter.unusedSimpArgs false
set_option maxHeartbeats 4000000
variable {E:Env} {P:Program} {np:Nat}
theorem Tm [St] (a b:Int) (h: -1000000<=a/\a<=1000000/\ -1000000<=b/\b<=1000000):AP 322 [.int .i64 a,.int .i64 b] (AV.int .i64) (max (a - b) (b - a)):=by
  refine a0 Tryz.func322 λE K hE hK=>?_
  repeat' first
    |((first
   |refine B0 ?_|refine B1 ?_ ?_)<;>intros<;>(try conv=>cbv))
  all_goals (refine hK _ ?_;subst_vars;rfl)
def PhB (x:Ph):Prop:=0<=x.2/\x.2<=1000000
theorem Oc {t:Int} {x y:Ph} (h:x.1=y.1) {m:Int} (hm:m=max (x.2 - y.2) (y.2 - x.2)):wN t x y↔m<=t:=by
 unfold wN;rw [hm];constructor
 ·rintro ⟨_,h1,h2⟩;omega
 ·intro h1;exact ⟨h,by omega,by omega⟩
theorem close_ [St] (c:UInt8) (b b':Bool) (n n' z:Int) (s s':ByteArray) (hs:s=iX c b) (hs':s'=iX c b') (h:PhB (b,n)) (h':PhB (b',n')):AP 247 [.agg [.str s,.int .i64 n],.agg [.str s',.int .i64 n'],.int .i64 z] AV.bool (bP (wN z (b,n) (b',n'))):=by
  refine a0 Tryz.func247 λE K hE hK=>?_;have h1:=h.1;have h2:=h.2;have h3:=h'.1;have h4:=h'.2;simp only at h1 h2 h3 h4
  repeat' first
    |((first
   |refine rJ (λheq=>?_) (λhne=>?_)
   |refine aQ (Tm _ _ (by omega)) (λm hm=>?_)
   |refine leI (λhle=>?_) (λhgt=>?_)
   |refine B0 ?_|refine B1 ?_ ?_)<;>intros<;>(try conv=>cbv))
  all_goals first
   |exact aH hK (aG.2 ((Oc (iG.1 (hs.symm.trans (heq.trans hs'))) hm).2 hle))
   |(refine aH hK (ah.2 λh=>?_);have:=(Oc (iG.1 (hs.symm.trans (heq.trans hs'))) hm).1 h;omega)
   |(refine aH hK (ah.2 λh=>hne ?_);have h5:=h.1;simp only at h5;rw [hs,hs',h5])
theorem aeB [St] (c:UInt8) (b b':Bool) (n n' z:Int) (s s':ByteArray) (hs:s=iX c b) (hs':s'=iX c b') (h:PhB (b,n)) (h':PhB (b',n')):AP 246 [.agg [.str s,.int .i64 n],.agg [.str s',.int .i64 n'],.pp [.int .i64 z]] AV.bool (bP (wN z (b,n) (b',n'))):=by
 refine a0 Tryz.func246 λE K hE hK=>?_;refine aF (close_ c b b' n n' z s s' hs hs' h h') (λhh=>?_) (λhh=>?_)<;>conv=>cbv
 ·exact aH hK (aG.2 hh)
 ·exact aH hK (ah.2 hh)
def Ea (z:Int) (a b:List Ph):Prop:=a.length=b.length/\Up (λi=>∃x y,a[i]? =some x/\b[i]? =some y/\wN z x y) a.length
theorem aej [St] (c:UInt8) (z:Int) {ra rb:List (List AV)} {t t':Bool} {a b:List Ph} (ha:ra=a.map (phR c)) (hb:rb=b.map (phR c)) (hba:∀x∈a,PhB x) (hbb:∀x∈b,PhB x):AP 245 [.sl t 2 ra,.sl t' 2 rb,.fn 246 [.pp [.int .i64 z]]] AV.bool (bP (Ea z a b)):=by
  refine a0 Tryz.func245 λE K hE hK=>?_;refine bn ha (λn1 hn1 _=>?_);conv=>cbv
  refine bn hb (λn2 hn2 _=>?_);conv=>cbv
  refine eqI (λhlen=>?_) (λhlen=>?_)<;>conv=>cbv
  ·refine bn ha (λn3 hn3 _=>?_);(conv=>cbv);refine cu [1,2,15,16] [17] (λ(i:Int)=>([(17,.int .i64 i)],[],n3 - i,(0<=i/\i<=n3)/\Up (λi=>∃x y,a[i]? =some x/\b[i]? =some y/\wN z x y) i)) [] (0) (by dsimp only;exact ⟨by omega,.zero (by omega)⟩) λi hi Kn hN=>?_;obtain ⟨⟨h0,h1⟩,hinv⟩:=hi
   repeat' first
     |(refine hN _ [] rfl ⟨?_,?_⟩)
     |((first
    |(refine Cm ha (by omega) (λs x m hx hs=>?_);have hxb:=hba _ (ae hx))
    |(refine Cm hb (by omega) (λs2 y m2 hy hs2=>?_);have hyb:=hbb _ (ae hy))
    |refine aF (aeB c _ _ _ _ z _ _ hs hs2 hxb hyb) (λhh=>?_) (λhh=>?_)
    |refine B0 ?_|refine B1 ?_ ?_)<;>intros<;>(try conv=>cbv))
   all_goals (try clear hN)
   all_goals first
    |omega
    |exact hinv.succ ⟨_,_,hx,hy,hh⟩ (by assumption)
    |(refine aH hK (ah.2 λh=>hh ?_);obtain ⟨x',y',e1,e2,e3⟩:=h.2 i.toNat (by omega);rw [hx] at e1;rw [hy] at e2;cases e1;cases e2;exact e3)
    |exact aH hK (aG.2 ⟨by omega,by rw [←hn1,show n1=i by omega];exact hinv⟩)
  ·exact aH hK (ah.2 λh=>hlen (by have:=h.1;omega))
theorem adi (l:List Bool):∃r,qE l r:=by
 have key:∀n,∃t,t<=n/\∀u,u<=n->fT (rot l t)<=fT (rot l u):=by
  intro n
  induction n with
  |zero=>exact ⟨0,aq _,λu hu=>by rw [show u=0 by omega];exact aq _⟩
  | succ n ih=>
    obtain ⟨t,ht,h⟩:=ih;by_cases hc:fT (rot l t)<=fT (rot l (n+1))
    ·refine ⟨t,by omega,λu hu=>?_⟩;by_cases e:u=n+1
     ·rw [e];exact hc
     ·exact h u (by omega)
    ·refine ⟨n+1,aq _,λu hu=>?_⟩;by_cases e:u=n+1
     ·rw [e];exact aq _
     ·have:=h u (by omega);omega
 obtain ⟨t,ht,h⟩:=key l.length;exact ⟨rot l t,⟨t,ht,rfl⟩,h⟩
theorem WY (l:List Bool):(II l).length=l.length:=by
 obtain ⟨r,hr⟩:=adi l;rw [hr.eq];obtain ⟨⟨t,_,rfl⟩,_⟩:=hr;exact jV _ _
theorem Vh {p:List Ph} (h:yj p):((uy p).length<=1000/\1<=(uy p).length)/\(jnP p).length<=1000/\∀x∈jnP p,PhB x:=by
 have h1:=h.ten;have h2:=EJ h1.1;have h3:=WY (pQ (kE p));have h4:=XP (uy p);have h5:(uy p).length<=1000/\1<=(uy p).length:=by unfold uy;omega
 refine ⟨h5,by unfold jnP;omega,λx hx=>?_⟩;have:=h4.2 x hx;exact ⟨by omega,by omega⟩
theorem Gp {z:Int} {a b:List Ph} (h:a.length=b.length):Gq z a b↔∃f,f<b.length/\Ea z a (rot b f):=by
 unfold Gq Ea;constructor
 ·rintro ⟨_,f,hf,h1⟩;refine ⟨f,hf,by rw [jV];exact h,λi hi=>?_⟩;obtain ⟨x,y,e1,e2,e3⟩:=h1 i (by omega);exact ⟨x,y,e1,by rw [Ku b (by omega) (by omega)];exact e2,e3⟩
 ·rintro ⟨f,hf,_,h1⟩;refine ⟨h,f,hf,λi hi=>?_⟩;obtain ⟨x,y,e1,e2,e3⟩:=h1 i (by omega);rw [Ku b (by omega) (by omega)] at e2;exact ⟨x,y,e1,e2,e3⟩
theorem acS {b:List Ph} {k:Nat} {x:Ph} (h:x∈rot b k):x∈b:=by
 unfold rot at h;rcases ca.1 h with h|h
 ·exact du h
 ·exact dd h
theorem Hy [St] (c:UInt8) (z:Int) {rp rq:List (List AV)} {t t':Bool} {p1 p2:List Ph} (h1:rp=p1.map (phR c)) (h2:rq=p2.map (phR c)) (o1:yj p1) (o2:yj p2):AP 164 [.sl t 2 rp,.sl t' 2 rq,.int .i64 z] AV.bool (bP (Bq z p1 p2)):=by
  refine a0 Tryz.func164 λE K hE hK=>?_;obtain ⟨⟨n1,_⟩,j1,b1⟩:=Vh o1;obtain ⟨⟨n2,_⟩,j2,b2⟩:=Vh o2;refine dJ (UY c h1 o1) λr1 hr1=>?_;conv=>cbv
  refine dJ (ae0 c hr1 (by omega)) λra hra=>?_;conv=>cbv
  refine dJ (UY c h2 o2) λr2 hr2=>?_;conv=>cbv
  refine dJ (ae0 c hr2 (by omega)) λrb hrb=>?_;conv=>cbv
  obtain ⟨a,hA⟩:∃a,a=jnP p1:=⟨_,rfl⟩
  obtain ⟨b,hB⟩:∃b,b=jnP p2:=⟨_,rfl⟩
  have hcl:Bq z p1 p2=Gq z a b:=by rw [hA,hB];rfl
  rw [show oQ (uy p1)=a from hA.symm] at hra;rw [show oQ (uy p2)=b from hB.symm] at hrb;rw [←hA] at j1 b1;rw [←hB] at j2 b2;rw [hcl] at hK;refine bn hra λla hla _=>?_;conv=>cbv
  refine bn hrb λlb hlb _=>?_;conv=>cbv
  refine eqI (λhlen=>?_) (λhlen=>?_)<;>conv=>cbv
  ·(have hab:a.length=b.length:=by omega);refine bn hrb λlc hlc _=>?_;(conv=>cbv);refine cu [5,7,8,23] [24] (λ(f:Int)=>([(24,.int .i64 f)],[.box [.int .i64 z]],lc - f,(0<=f/\f<=lc)/\Up (λf=>¬Ea z a (rot b f)) f)) [0] (0) (by dsimp only;exact ⟨by omega,.zero (by omega)⟩) λf hi Kn hN=>?_;obtain ⟨⟨f0,f1⟩,hinv⟩:=hi
   repeat' first
     |(refine hN _ [0] rfl ⟨?_,?_⟩)
     |((first
    |(refine tQ (lo:=some f) (hi:=none) hrb (by simp only [bp,cD];omega) (λrx hrx=>?_))
    |(refine tQ (lo:=none) (hi:=some f) hrb (by simp only [bp,cD];omega) (λry hry=>?_))
    |(refine dJ (abo c (ls:=[b.drop f.toNat,b.take f.toNat]) (by rw [hrx,hry];simp [lgR]) (by simp;omega)) (λrc hrc=>?_))
    |(refine aF (aej c z (a:=a) (b:=rot b f.toNat) hra (by rw [hrc];simp [rot]) b1 (λx hx=>b2 x (acS hx))) (λhh=>?_) (λhh=>?_))
    |refine B0 ?_|refine B1 ?_ ?_)<;>intros<;>(try conv=>cbv))
   all_goals (try clear hN)
   all_goals first
    |omega
    |exact hinv.succ hh (by assumption)
    |exact aH hK (aG.2 ((Gp hab).2 ⟨f.toNat,by omega,hh⟩))
    |(refine aH hK (ah.2 λh=>?_);obtain ⟨g,hg,hn⟩:=(Gp hab).1 h;exact hinv g (by omega) hn)
  ·exact aH hK (ah.2 λh=>hlen (by have:=h.1;omega))
end Go.Proofs.YtnlhnideeaobpaaGreatDoor
/- Contracts: characters that are confused. -/
namespace Go.Proofs.YtnlhnideeaobpaaGreatDoor
open Go Go.RowKit Classical
set_option maxRecDepth 100000
set_option maxHeartbeats 2000000
set_option linter.unusedVariables false
set_option linter.unusedSimpArgs false
set_option maxHeartbeats 4000000
theorem NA {n:Int} (h:rk n≠0):1<=n/\n<=127:=by
 unfold rk at h;repeat' split at h
 all_goals omega
theorem agL {s:ByteArray} {p:Nat} (h:p<s.size):chr s p=((s[p]'h).toNat:Int):=by
 have hd:p<s.data.size:=h;unfold chr;rw [b9,cj hd];rfl
theorem aey {s:ByteArray} (h:JI s):∀p,p<s.size->((Utf8.decode s p).1:Int)=chr s p/\(Utf8.decode s p).2=1:=λp hp=>by
 have h1:=NA (h.1 p hp).1;have h2:=agL hp;rw [Go.decode_ascii s p hp (by omega)];exact ⟨by omega,rfl⟩
theorem KF {co s:ByteArray} {lo hi:Int} {y:Nat} (hs:s=co.extract lo.toNat hi.toNat) (hl:lo=y) (hh:hi=lo+1) (hy:y<co.size):s=iX (co.data.getD y 0) true:=by
 rw [hs,show lo.toNat=y by omega,show hi.toNat=y+1 by omega,aei hy];rfl
theorem ZO {c:UInt8} {s:ByteArray} (hs:s=iX c true):s.size=1:=by rw [hs];rfl
theorem one_has {c:UInt8} {s d:ByteArray} (hs:s=iX c true):(0<=Lib.indexByte d.data.toList (s.data.getD 0 0))↔X3 d c:=by
 rw [hs];exact aaV
theorem Yk [St] (k p k' p' z:Int) (le co le' co':ByteArray) {rg rg':List (List AV)} {t t':Bool} {g g':List Int} (hl:rg=g.map aN) (hl':rg'=g'.map aN) (hok:gZ k g le co p) (hok':gZ k' g' le' co' p'):AP 90 [.agg [.int .i64 k,.sl t 1 rg,.str le,.str co,.int .i64 p],.agg [.int .i64 k',.sl t' 1 rg',.str le',.str co',.int .i64 p'],.int .i64 z] AV.bool (bP (uT ⟨k,g,le,co,p⟩ ⟨k',g',le',co',p'⟩ z)):=by
  refine a0 Tryz.func90 λE K hE hK=>?_;have hco:=hok.1;have hph:=DF hok;have agl:=DF hok';refine cu [2,3,4,11] [] (λ(y:Nat)=>([],[.box [.int .i64 k,.sl t 1 rg,.str le,.str co,.int .i64 p],.box [.int .i64 k',.sl t' 1 rg',.str le',.str co',.int .i64 p'],.iter co y],((co.size:Int) - y),y<=co.size/\∀j,j<y->¬(X3 co' (co.data.getD j 0)/\Bq z (Aw k g le p) (Aw k' g' le' p')))) [0,1,2] (0) (by dsimp only;exact ⟨by omega,λj hj=>by omega⟩) λy hi Kn hN=>?_;obtain ⟨h0,hinv⟩:=hi;refine afH (chr co) (aey hco) (λlo r n hy hlo hr hn=>?_) (λhy=>?_)<;>conv=>cbv
  ·have hc3:=hco.2.2
   repeat' first
     |(refine hN _ [0,1,2] rfl ⟨?_,?_⟩)
     |((first
    |refine iH (a:=lo) (by omega) (λhi2 hhi=>?_)
    |(refine Uk (by omega) (λs hs=>?_);have hsc:=KF hs hlo hhi hy;have hh:=one_has (d:=co') hsc)
    |refine Jy (Gf co' s (ZO hsc)) (λhb=>?_) (λhb=>?_)
    |refine dJ (UM (co.data.getD y 0) k p s le co hsc hl hok) (λr1 hr1=>?_)
    |refine dJ (UM (co.data.getD y 0) k' p' s le' co' hsc hl' hok') (λr2 hr2=>?_)
    |refine aF (Hy (co.data.getD y 0) z hr1 hr2 hph agl) (λhcl=>?_) (λhcl=>?_)
    |refine B0 ?_|refine B1 ?_ ?_)<;>intros<;>(try conv=>cbv))
   all_goals (try clear hN)
   all_goals first
    |omega
    |exact aH hK (aG.2 ⟨⟨y,hy,hh.1 (by simpa using hb)⟩,hcl⟩)
    |exact λj hj h=>hcl h.2
    | (intro j hj h
       have h3:j≠y:=λe=>by rw [e] at h;rw [decide_eq_false_iff_not] at hb;exact hb (hh.2 h.1)
       exact hinv j (by omega) h)
    |trace_state
  ·exact aH hK (ah.2 λh=>by
    obtain ⟨⟨j,hj,h1⟩,h2⟩:=h;replace hj:j<co.size:=hj
    exact hinv j (by omega) ⟨h1,h2⟩)
end Go.Proofs.YtnlhnideeaobpaaGreatDoor
