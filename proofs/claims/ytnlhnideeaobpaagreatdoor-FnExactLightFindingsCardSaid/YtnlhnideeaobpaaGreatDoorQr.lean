/- Contracts: the reference's phases of a character, colours; Contracts: the reference's ConfusedPairs; the law. -/
import Derived.Test.YtnlhnideeaobpaaGreatDoorKB
import Derived.Test.YtnlhnideeaobpaaGreatDoorKC
import Derived.Test.YtnlhnideeaobpaaGreatDoorKD
import Derived.Test.YtnlhnideeaobpaaGreatDoorQe
import Derived.Test.YtnlhnideeaobpaaGreatDoorFA
namespace Go.Proofs.YtnlhnideeaobpaaGreatDoor
open Go Go.RowKit Classical
set_option maxRecDepth 100000
set_option maxHeartbeats 2000000
set_option linter.unusedVariables false
set_option linter.unusedSimpArgs false
set_option maxHeartbeats 4000000
theorem adC [St] (n:Int):AP 178 [.int .i64 n] AV.bool (bP (0<=n/\n<=20)):=by
  refine a0 Tryz.func178 λE K hE hK=>?_
  repeat' first
    |((first
   |refine aF (in_ _ _ _) (λ_=>?_) (λ_=>?_)
   |refine B0 ?_|refine B1 ?_ ?_)<;>intros<;>(try conv=>cbv))
  all_goals exact fz
theorem Ld [St] (c:UInt8) (d s:ByteArray) (hs:s=iX c true) (hd:d.size<=1000):AP 337 [.str d,.str s] AV.bool (bP (X3 d c)):=by
  refine a0 Tryz.func337 λE K hE hK=>?_;refine cu [0,1] [5] (λ(i:Int)=>([(5,.int .i64 i)],[],d.size - i,(0<=i/\i<=d.size)/\Up (λj=>¬d.data.getD j 0=c) i)) [] (0) (by dsimp only;exact ⟨by omega,.zero (by omega)⟩) λi hi Kn hN=>?_;obtain ⟨⟨h0,h1⟩,hinv⟩:=hi
  repeat' first
    |(refine hN _ [] rfl ⟨?_,?_⟩)
    |((first
   |refine BK (λn hn _=>?_)
   |refine iH (a:=i) (by omega) (λhi2 hhi=>?_)
   |(refine Uk (by omega) (λu hu=>?_);have huc:=KF (y:=i.toNat) hu (by omega) hhi (by omega))
   |refine rJ (λheq=>?_) (λhne=>?_)
   |refine B0 ?_|refine B1 ?_ ?_)<;>intros<;>(try conv=>cbv))
  all_goals (try clear hN)
  all_goals first
   |omega
   |(refine aH hK (aG.2 ⟨i.toNat,by omega,?_⟩);rw [huc,hs] at heq;simpa [iX] using heq)
   |exact hinv.succ (λe=>hne (by rw [huc,hs,e])) (by assumption)
   |(refine aH hK (ah.2 λh=>?_);obtain ⟨j,hj,hjc⟩:=h;exact hinv j (by omega) hjc)
theorem OW [St] (c:UInt8) (p:Int) (hp:0<=p/\p<=600) (s le co:ByteArray) (hsc:s=iX c true) {rg:List (List AV)} {t:Bool}:AP 339 [.pp [.int .i64 3,.sl t 1 rg,.str le,.str co,.int .i64 p],.str s] (λl:List Ph=> .sl true 2 (l.map (phR c))) [(true,p / 2),(false,p / 2)]:=by
  refine ac Tryz.func339 (.ph _ _) λE K hE hK=>?_
  repeat' first
    |((first
   |refine yO (by omega) (λd hd=>?_)
   |refine B0 ?_|refine B1 ?_ ?_)<;>intros<;>(try conv=>cbv))
  all_goals (refine hK _ ?_;subst_vars;rfl)
theorem aeK {k:Int} {g:List Int} {le:ByteArray} {p rest:Int} (h1:k≠1) (h3:k≠3) (hs:dS k g le) (hr:rest=if jE k g then xR k else p - (dM k g le).sum):nW k (dM k g le++[rest]) (dM k g le++[rest]).length=Aw k g le p:=by
 have hpar:=QZ hs;rw [Aw,if_neg h1,if_neg h3,am];show nW k _ ((dM k g le).length+1)=_;rw [nW,QB k _ _ _ (aq _),ad,cX (aq _),kj]
 have hl:wD k (dM k g le).length=decide (k=2):=by
  unfold wD;congr 1;(have:¬(dM k g le).length % 2=0:=by omega);simp [this]
 rw [hl];by_cases hst:jE k g
 ·rw [if_pos hst] at hr ⊢;have hk:k=6∨k=7:=by rcases hst with h|h<;>omega
  have hg:g=[]:=by
   rcases hst with h|h
   ·omega
   ·exact h.2
  subst hg;rw [G6 hk (hs.noL hk),hr];(have e1:wD k 0=true:=by unfold wD;simp;omega);(have e2:decide (k=2)=false:=by simp;omega);rw [e2];show nW k [lD k] (0+1)++_=_;rw [nW,e1];rfl
 ·rw [if_neg hst] at hr ⊢;rw [hr];rfl
theorem OY [St] (c:UInt8) (p:Int) (s le co:ByteArray) (hsc:s=iX c true) {rg:List (List AV)} {t:Bool}:AP 339 [.pp [.int .i64 1,.sl t 1 rg,.str le,.str co,.int .i64 p],.str s] (λl:List Ph=> .sl true 2 (l.map (phR c))) [(true,10)]:=by
  refine ac Tryz.func339 (.ph _ _) λE K hE hK=>?_
  repeat' first
    |((first
   |refine B0 ?_|refine B1 ?_ ?_)<;>intros<;>(try conv=>cbv))
  all_goals (refine hK _ ?_;subst_vars;rfl)
theorem OX [St] (c:UInt8) (k p:Int) (s le co:ByteArray) (hsc:s=iX c true) {rg:List (List AV)} {t:Bool} {g:List Int} (hl:rg=g.map aN) (hok:gZ k g le co p) (h1:k≠1) (h3:k≠3):AP 339 [.pp [.int .i64 k,.sl t 1 rg,.str le,.str co,.int .i64 p],.str s] (λl:List Ph=> .sl true 2 (l.map (phR c))) (Aw k g le p):=by
  refine ac Tryz.func339 (.ph _ _) λE K hE hK=>?_;have hs:=hok.2.1;have htb:=oh hs;have hsb:=wY htb.2;have hkk:=hs.kind
  have hp:0<=p/\p<=600:=by
   by_cases hst:jE k g
   ·have:=hok.2.2.1 hst;omega
   ·have h1:=hok.2.2.2 hst;have h2:=ou hs;omega
  have hend:∀rest,_->_:=λrest=>aeK (p:=p) (rest:=rest) h1 h3 hs;obtain ⟨T,hT⟩:∃T,T=dM k g le:=⟨_,rfl⟩
  rw [←hT] at hend;have hT8:T.length<=80:=by rw [hT];exact htb.1
  have hTs:0<=T.sum/\T.sum<=100*T.length:=by rw [hT];exact hsb
  refine eqI (λh=>absurd h h1) (λ_=>?_);conv=>cbv
  refine eqI (λh=>absurd h h3) (λ_=>?_);conv=>cbv
  refine dJ (Ux k p le co hl hs ⟨h1,h3⟩) (λts hts=>?_);rw [←hT] at hts;conv=>cbv
  repeat' first
    |((refine bO [0,1] [8,5,7] (λ(i:Int) (es:List (List AV))=>([(8,.int .i64 i),(5,.ob 0),(7,.ob 1)],[.row 1 ts2,.row 2 es],U.length - i,(0<=i/\i<=U.length)/\es=(nW k U i.toNat).map (phR c))) [2,3] ((0,[])) (by dsimp only;exact ⟨by omega,rfl⟩) λi es hi2 Kn2 hN2=>?_);obtain ⟨⟨i0,i1⟩,h2⟩:=hi2;have hal:=zQ k U i.toNat)
    |(refine hN2 _ _ [0,2] rfl ⟨?_,?_⟩)
    |(refine hN2 _ _ [0,3] rfl ⟨?_,?_⟩)
    |((first
   |(refine aQ (I7 (by assumption) (by rw [hT];exact htb.2) (by rw [hT];omega)) (λsm hsm=>?_))
   |refine eX (a:=p) (b:=sm) (by omega) (λd hd=>?_)
   |refine aF (xH k p le co hl) (λhst=>?_) (λhst=>?_)
   |refine aQ (DR k) (λgp hgp=>?_)
   |(refine jA (R:=aN) (v:=gp) hts (by rfl) (by omega) (λts2 aaM=>?_);(have hr:=hend gp (by rw [if_pos hst];exact hgp));(obtain ⟨U,hU⟩:∃U,U=T++[gp]:=⟨_,rfl⟩);rw [←hU] at hr aaM;(have hUl:U.length=T.length+1:=by rw [hU];simp))
   |(refine jA (R:=aN) (v:=d) hts (by rfl) (by omega) (λts2 aaM=>?_);(have hr:=hend d (by rw [if_neg hst,←hsm];exact hd));(obtain ⟨U,hU⟩:∃U,U=T++[d]:=⟨_,rfl⟩);rw [←hU] at hr aaM;(have hUl:U.length=T.length+1:=by rw [hU];simp))
   |refine bn aaM (λn hn _=>?_)
   |refine bQ (R:=aN) (i:=i) aaM (by omega) (λv hv=>?_)
   |refine qM (a:=i) (by omega) (λm hm=>?_)
   |(refine eqI (a:=m) (b:=1) (λheq=>have he0:m≠0:=(by omega);?_) (λhne=>have he0:m=0:=(by omega);?_))
   |refine eqI (a:=k) (b:=2) (λhk=>?_) (λhk=>?_)
   |refine jA (R:=phR c) (v:=(wD k i.toNat,v)) h2 (by first|exact wL (ahx i0 hm he0 hk)|exact wL (ahw hsc i0 hm he0 hk)|exact wL (ahv hsc i0 hm he0 hk)|exact wL (ahu i0 hm he0 hk)) (by omega) (λ_ _=>?_)
   |refine B0 ?_|refine B1 ?_ ?_)<;>intros<;>(try conv=>cbv))
  all_goals (try clear hN2)
  all_goals first
   |omega
   |(rename_i _ h5 _ h6;rw [h5];exact congrArg (List.map (phR c)) (VQ (k:=k) i0 hv h6 rfl))
   |(refine hK _ ?_;rw [h2,show i.toNat=U.length by omega,hr];rfl)
theorem FC [St] (c:UInt8) (k p:Int) (s le co:ByteArray) (hsc:s=iX c true) {rg:List (List AV)} {t:Bool} {g:List Int} (hl:rg=g.map aN) (hok:gZ k g le co p):AC Tryz.prog 339 [.pp [.int .i64 k,.sl t 1 rg,.str le,.str co,.int .i64 p],.str s] (λl:List Ph=> .sl true 2 (l.map (phR c))) (Aw k g le p):=by
 by_cases h1:k=1
 ·subst h1;exact OY c p s le co hsc
 by_cases h3:k=3
 ·subst h3
  have hp:0<=p/\p<=600:=by
   (have hns:¬jE 3 g:=by rintro (h|h)<;>omega);have:=hok.2.2.2 hns;have h2:=ou hok.2.1;omega
  exact OW c p hp s le co hsc
 exact OX c k p s le co hsc hl hok h1 h3
theorem KX [St] (k p k' p' z:Int) (hz:0<=z/\z<=20) (le co le' co':ByteArray) {rg rg':List (List AV)} {t t':Bool} {g g':List Int} (hl:rg=g.map aN) (hl':rg'=g'.map aN) (hok:gZ k g le co p) (hok':gZ k' g' le' co' p'):AP 274 [.pp [.int .i64 k,.sl t 1 rg,.str le,.str co,.int .i64 p],.pp [.int .i64 k',.sl t' 1 rg',.str le',.str co',.int .i64 p'],.int .i64 z] AV.bool (bP (uT ⟨k,g,le,co,p⟩ ⟨k',g',le',co',p'⟩ z)):=by
  refine a0 Tryz.func274 λE K hE hK=>?_;have hco:=hok.1;have hph:=DF hok;have agl:=DF hok';have hc3:=hco.2.2;have ajM:=hok'.1.2.2;refine cu [0,1,2] [7] (λ(y:Int)=>([(7,.int .i64 y)],[],co.size - y,(0<=y/\y<=co.size)/\Up (λj=>¬X3 co' (co.data.getD j 0)) y)) [] (0) (by dsimp only;exact ⟨by omega,.zero (by omega)⟩) λy hi Kn hN=>?_;obtain ⟨⟨h0,h1⟩,hinv⟩:=hi;refine BK λn hn _=>?_;conv=>cbv
  refine ltI (λhlt=>?_) (λhge=>?_)<;>conv=>cbv
  ·have hyl:y.toNat<co.size:=by omega
   have hc0:co.data.getD y.toNat 0≠0:=λe=>by
    have h2:=NA (hco.1 y.toNat hyl).1;unfold chr at h2;rw [e] at h2;exact absurd h2.1 (by decide)
   repeat' first
     |(refine hN _ [] rfl ⟨?_,?_⟩)
     |((first
    |refine iH (a:=y) (by omega) (λhi2 hhi=>?_)
    |(refine Uk (by omega) (λs hs=>?_);have hsc:=KF (y:=y.toNat) hs (by omega) hhi hyl)
    |refine aF (Ld (co.data.getD y.toNat 0) co' s hsc (by omega)) (λhb=>?_) (λhb=>?_)
    |refine dJ (FC (co.data.getD y.toNat 0) k p s le co hsc hl hok) (λr1 hr1=>?_)
    |refine dJ (FC (co.data.getD y.toNat 0) k' p' s le' co' hsc hl' hok') (λr2 hr2=>?_)
    |refine aF (Xm (co.data.getD y.toNat 0) hc0 z hz hr1 hr2 hph agl) (λhcl=>?_) (λhcl=>?_)
    |refine B0 ?_|refine B1 ?_ ?_)<;>intros<;>(try conv=>cbv))
   all_goals (try clear hN)
   all_goals first
    |omega
    |exact aH hK (aG.2 ⟨⟨y.toNat,hyl,hb⟩,hcl⟩)
    |exact aH hK (ah.2 λh=>hcl h.2)
    |exact hinv.succ hb (by assumption)
  ·exact aH hK (ah.2 λh=>by
    obtain ⟨⟨j,hj,h1⟩,h2⟩:=h;replace hj:j<co.size:=hj
    exact hinv j (by omega) h1)
set_option maxHeartbeats 2000000
set_option maxHeartbeats 4000000
theorem AC.ag8 [St] {P:Program} {α:Type} {f:FuncId} {cs ds tl tm:List AV} {a:AV} {R:α->AV} {x:α} (h:AC P f [.pp cs,.pp ds,a] R x):AC P f [.pp (cs++tl),.pp (ds++tm),a] R x:=
 AC.tl h rfl λi=>match i with
  |0=> .inr ⟨_,_,rfl,rfl⟩
  |1=> .inr ⟨_,_,rfl,rfl⟩
  |_+2=> .inl rfl
theorem aah [St] (number atX atY height aP aO au aj number' nA ny sG jM jl fq dY z:Int) (hz:0<=z/\z<=20) (name aC aJ bg aB ak name' gy iD mU fA fB:ByteArray) {rg rx rg' rx':List (List AV)} {t t' s s':Bool} {g g':List Int} {l l':List Scr} (hg:rg=g.map aN) (hl:rx=l.map Scr.cs) (hg':rg'=g'.map aN) (hl':rx'=l'.map Scr.cs) (oa:gZ aO g aB ak au) (ob:gZ jl g' fA fB fq):AP 198 [.pp [.int .i64 number,.str name,.int .i64 atX,.int .i64 atY,.int .i64 height,.int .i64 aP,.str aC,.str aJ,.str bg,.int .i64 aO,.sl t 1 rg,.str aB,.str ak,.int .i64 au,.sl t' 3 rx,.int .i64 aj],.pp [.int .i64 number',.str name',.int .i64 nA,.int .i64 ny,.int .i64 sG,.int .i64 jM,.str gy,.str iD,.str mU,.int .i64 jl,.sl s 1 rg',.str fA,.str fB,.int .i64 fq,.sl s' 3 rx',.int .i64 dY],.int .i64 z] AV.bool (bP (uT ⟨aO,g,aB,ak,au⟩ ⟨jl,g',fA,fB,fq⟩ z)):=by
  refine a0 Tryz.func198 λE K hE hK=>?_;have hk1:=oa.2.1.kind;have hk2:=ob.2.1.kind
  repeat' first
    |((first
   |refine aF (za _ _ _ _ _ _ _ _ _ _ _ _ _ _ hg hl) (λh1=>?_) (λh1=>?_)
   |refine aF (za _ _ _ _ _ _ _ _ _ _ _ _ _ _ hg' hl') (λh2=>?_) (λh2=>?_)
   |refine aF (AC.ag8 (KX _ _ _ _ z hz _ _ _ _ hg hg' oa ob)) (λh=>?_) (λh=>?_)
   |refine B0 ?_|refine B1 ?_ ?_)<;>intros<;>(try conv=>cbv))
  all_goals first
   |(exfalso;omega)
   |exact aH hK (aG.2 h)
   |exact aH hK (ah.2 h)
theorem abB {l:List Aid} {z:Int} {p:Nat×Nat} {A C:Int} {a b:Aid} (hA:A=p.1) (hC:C=p.2) (ha:l[A.toNat]? =some a) (hb:l[C.toNat]? =some b):cfR l z p↔uT (nO a) (nO b) z:=by
 rw [hA,di] at ha;rw [hC,di] at hb;constructor
 ·rintro ⟨a',b',h1,h2,h3⟩;rw [ha] at h1;rw [hb] at h2;cases h1;cases h2;exact h3
 ·intro h;exact ⟨a,b,ha,hb,h⟩
theorem agM {l:List Aid} {z:Int} {L:List (Nat×Nat)} {p:Nat×Nat} {i ip:Int} {A C:Int} {a b:Aid} (h0:0<=i) (hp:L[i.toNat]? =some p) (hA:A=p.1) (hC:C=p.2) (ha:l[A.toNat]? =some a) (hb:l[C.toNat]? =some b) (hip:ip=i+1) (h:uT (nO a) (nO b) z):((L.take i.toNat).filter λp=>decide (cfR l z p)).map (qm l)++[[a.number,b.number]]=((L.take ip.toNat).filter λp=>decide (cfR l z p)).map (qm l):=by
 rw [show ip.toNat=i.toNat+1 by omega,cq,hp];simp [(abB hA hC ha hb).2 h,adh hA hC ha hb]
theorem aeC {l:List Aid} {z:Int} {L:List (Nat×Nat)} {p:Nat×Nat} {i ip:Int} {A C:Int} {a b:Aid} (h0:0<=i) (hp:L[i.toNat]? =some p) (hA:A=p.1) (hC:C=p.2) (ha:l[A.toNat]? =some a) (hb:l[C.toNat]? =some b) (hip:ip=i+1) (h:¬uT (nO a) (nO b) z):((L.take i.toNat).filter λp=>decide (cfR l z p)).map (qm l)=((L.take ip.toNat).filter λp=>decide (cfR l z p)).map (qm l):=by
 rw [show ip.toNat=i.toNat+1 by omega,cq,hp];simp [mt (abB hA hC ha hb).1 h]
theorem C9 [St] {rs ro:List (List AV)} {t t' b:Bool} {l:List Aid} {os:List Obv} {z:Int} (hl:rs=l.map (Aid.cs b)) (ho:ro=os.map Obv.cs):AP 128 [.sl t 16 rs,.sl t' 4 ro,.int .i64 z] OD (sO l os z):=by
  refine ac Tryz.func128 (.OD _) λE K hE hK=>?_;refine aQ (adD hl ho) λc hc=>?_;conv=>cbv
  refine eqI (λh=>?_) (λhn1=>?_)<;>conv=>cbv
  ·have hno:¬rF l os:=λhok=>by
    unfold Dn at hc;rw [if_pos hok] at hc;split at hc<;>omega
   refine dW 1 ?_;(conv=>cbv);exact hK _ (by rw [sO,if_neg hno,h];rfl)
  have hok:rF l os:=by
   by_cases hok:rF l os
   ·exact hok
   ·exact absurd (by rw [hc,Dn,if_neg hok]) hn1
  refine aF (adC z) (λhz=>?_) (λhz=>?_)<;>conv=>cbv
  ·refine eqI (λh=>?_) (λh=>?_)<;>conv=>cbv
   ·obtain ⟨_,h16⟩:=aeJ (hc.symm.trans h);have h24:=hok.1.2;refine dJ (KY hl ho hok h16) (λrs' hrs=>?_);(conv=>cbv);(obtain ⟨L,hL⟩:∃L,L=allT (both l os) l.length l.length:=⟨_,rfl⟩);rw [←hL] at hrs;(have hL5:L.length<=576:=by rw [hL];exact VW h24 (aq _));have hLm:(L.map pI).length=L.length:=al _;refine bO [0,2,9] [11,10] (λ(i:Int) (es:List (List AV))=>([(11,.int .i64 i),(10,.ob 0)],[.row 1 es],L.length - i,(0<=i/\i<=L.length)/\es=(((L.take i.toNat).filter λp=>decide (cfR l z p)).map (qm l)).map (llR true))) [0] ((0,[])) (by dsimp only;exact ⟨by omega,rfl⟩) λi es hi Kn hN=>?_;obtain ⟨⟨h0,h1⟩,h2⟩:=hi
    have hfl:((L.take i.toNat).filter λp=>decide (cfR l z p)).length<=576:=by
     have:=dm (λp=>decide (cfR l z p)) (L.take i.toNat);rw [ba] at this;omega
    refine bn hrs λn3 hn3 _=>?_;rw [hLm] at hn3;(conv=>cbv);refine ltI (λhlt=>?_) (λhge=>?_)<;>conv=>cbv
    ·(obtain ⟨p,hp⟩:∃p,L[i.toNat]? =some p:=⟨_,ag (by omega)⟩);have hpm:=lg.1 (by rw [←hL];exact ae hp:p∈allT (both l os) l.length l.length);obtain ⟨_,_,_,o,_,va,vb,ha,hb,sa,sb⟩:=hpm;have oa:=yC sa;have ob:=yC sb;(obtain ⟨A,hA⟩:∃A:Int,A=(p.1:Int):=⟨_,rfl⟩);(obtain ⟨C,hC⟩:∃C:Int,C=(p.2:Int):=⟨_,rfl⟩);rw [show p.1=A.toNat by omega] at ha;rw [show p.2=C.toNat by omega] at hb;have hx:=ahk hp hA hC;have hstep:=λip hip=>agM (z:=z) (ip:=ip) h0 hp hA hC ha hb hip;have lu:=λip hip=>aeC (z:=z) (ip:=ip) h0 hp hA hC ha hb hip;have hal:=(aa.1 ha).1;have hbl:=(aa.1 hb).1;(obtain ⟨rw0,hrw⟩:∃r,r=[A,C].map aN:=⟨_,rfl⟩);obtain ⟨n1,nm1,ax1,ay1,h1',mk1,mc1,ms1,mt1,lk1,lg1,ll1,lc1,lp1,sc1,in1⟩:=va;obtain ⟨n2,nm2,ax2,ay2,h2',mk2,mc2,ms2,mt2,lk2,lg2,ll2,lc2,lp2,sc2,in2⟩:=vb;simp only at oa ob;(obtain ⟨ga,hga⟩:∃r,r=lg1.map aN:=⟨_,rfl⟩);(obtain ⟨gb,hgb⟩:∃r,r=lg2.map aN:=⟨_,rfl⟩);(obtain ⟨xa,hxa⟩:∃r,r=sc1.map Scr.cs:=⟨_,rfl⟩);obtain ⟨xb,hxb⟩:∃r,r=sc2.map Scr.cs:=⟨_,rfl⟩
     repeat' first
       |(refine hN _ _ [0] rfl ⟨?_,?_⟩)
       |(refine hN _ _ [6] rfl ⟨?_,?_⟩)
       |(refine hN _ _ [5] rfl ⟨?_,?_⟩)
       |(refine hN _ _ [4] rfl ⟨?_,?_⟩)
       |(refine hN _ _ [3] rfl ⟨?_,?_⟩)
       |(refine hN _ _ [2] rfl ⟨?_,?_⟩)
       |(refine hN _ _ [1] rfl ⟨?_,?_⟩)
       |((first
      |refine ae1 hrs h0 hx hrw ?_
      |refine gK (R:=aN) (i:=0) (v:=A) hrw (by decide) rfl ?_
      |refine gK (R:=aN) (i:=1) (v:=C) hrw (by decide) rfl ?_
      |refine iO (i:=A) hl (by omega) ha hga hxa ?_
      |refine iO (i:=C) hl (by omega) hb hgb hxb ?_
      |refine aF (aah _ _ _ _ _ _ _ _ _ _ _ _ _ _ _ _ z hz _ _ _ _ _ _ _ _ _ _ _ _ hga hxa hgb hxb oa ob) (λhc=>?_) (λhc=>?_)
      |(refine jA (R:=llR true) (v:=[n1,n2]) h2 (by rfl) (by rw [al];omega) (λes5 Ll=>?_))
      |refine B0 ?_|refine B1 ?_ ?_)<;>intros<;>(try conv=>cbv))
     all_goals (try clear hN)
     all_goals first
      |omega
      |(rw [Ll];exact congrArg (List.map (llR true)) (hstep _ (by assumption) hc))
      |(rw [h2,lu _ (by assumption) hc])
    ·refine hK _ ?_;rw [sO,if_pos hok,if_pos hz,if_pos h16,h2,bm (by omega),hL];rfl
   ·have h16:¬os.length<=16:=λh16=>h (hc.trans (aeI hok h16));(have he:c=5:=by rw [hc,Dn,if_pos hok,if_neg h16]);refine dW 1 ?_;(conv=>cbv);exact hK _ (by rw [sO,if_pos hok,if_pos hz,if_neg h16,he];rfl)
  ·refine dW 1 ?_;(conv=>cbv);exact hK _ (by rw [sO,if_pos hok,if_neg hz];rfl)
end Go.Proofs.YtnlhnideeaobpaaGreatDoor
