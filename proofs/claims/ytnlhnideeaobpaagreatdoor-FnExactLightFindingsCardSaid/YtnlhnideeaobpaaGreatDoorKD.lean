/- Contracts: the place of an aid; the pairs that are not confused. -/
import Derived.Test.YtnlhnideeaobpaaGreatDoorKB
import Derived.Test.YtnlhnideeaobpaaGreatDoorFC
import Derived.Test.YtnlhnideeaobpaaGreatDoorQe
import Derived.Test.YtnlhnideeaobpaaGreatDoorQf
namespace Go.Proofs.YtnlhnideeaobpaaGreatDoor
open Go Go.RowKit Classical
set_option maxRecDepth 100000
set_option maxHeartbeats 2000000
set_option linter.unusedVariables false
set_option linter.unusedSimpArgs false
set_option maxHeartbeats 4000000
def aaK (p:Int×Bool):AV:= .tup [.int .i64 p.1,.bool p.2]
theorem NoB.aaK (p:Int×Bool):NoB (aaK p):= .nH (.int _ _) (.nH (.bool _) .CY)
theorem abD [St] {E:Env} {np:Nat} {P:Program} [hE:SE E np P] {f:FuncId} {args:List AV} {j:Nat} {K:AV->Prop} (h:AC P f args aaK ((j:Int),true)) (hk:∀a:Int,a=j->K (.tup [.int .i64 a,.bool true])):E.call f args K:=
 aQ h λy hy=>by subst hy;exact hk _ rfl
theorem KH {s:List Aid} (h:s.Pairwise λa b=>a.number<b.number) {i k:Nat} {a b:Aid} (ha:s[i]? =some a) (hb:s[k]? =some b) (hik:i<k):a.number<b.number:=by
 have hi:=(aa.1 ha).1;have hk:=(aa.1 hb).1;have:=dv.1 h i k hi hk hik;rwa [(aa.1 ha).2,(aa.1 hb).2] at this
theorem place {l:List Aid} {i:Int} {j:Nat} {v w:Aid} (hpw:l.Pairwise λa b=>a.number<b.number) (hv:l[j]? =some v) (hw:l[i.toNat]? =some w) (h0:0<=i) (h1:i<=j):(i<j/\w.number<v.number)∨(i=j/\w.number=v.number):=by
 by_cases e:i=j
 ·right;refine ⟨e,?_⟩;rw [e,di,hv] at hw;cases hw;rfl
 ·exact .inl ⟨by omega,KH hpw hw hv (by omega)⟩
theorem abU [St] {rs:List (List AV)} {t b:Bool} {l:List Aid} {n:Int} {j:Nat} {v:Aid} (hl:rs=l.map (Aid.cs b)) (hpw:l.Pairwise λa b=>a.number<b.number) (hv:l[j]? =some v) (hn:n=v.number) (h24:l.length<=1000):AP 83 [.sl t 16 rs,.int .i64 n] aaK ((j:Int),true):=by
  refine ac Tryz.func83 (.aaK _) λE K hE hK=>?_;have hj:=(aa.1 hv).1;refine cu [0,1] [6] (λ(i:Int)=>([(6,.int .i64 i)],[],l.length - i,0<=i/\i<=j)) [] (0) (by dsimp only;exact ⟨by omega,by omega⟩) λi hi Kn hN=>?_;obtain ⟨h0,h1⟩:=hi
  repeat' first
    |(refine hN _ [] rfl ⟨?_,?_⟩)
    |((first
   |refine bn hl (λm hm _=>?_)
   |refine iO hl (by omega) hw hg hx ?_
   |(refine iU hl (by omega) (λnumber name atX atY height aP aC aJ bg aO aM aB ak au aD aj rg rx hw hg hx=>?_);have hpl:=place hpw hv hw h0 h1;simp only at hpl)
   |refine B0 ?_|refine B1 ?_ ?_)<;>intros<;>(try conv=>cbv))
  all_goals (try clear hN)
  all_goals first
   |omega
   |(refine hK _ ?_;rw [show i=(j:Int) by omega];rfl)
theorem afE [St] {rs rp:List (List AV)} {t t' b:Bool} {l:List Aid} {x:List Int} {i k:Nat} {va vb:Aid} {z:Int} (hl:rs=l.map (Aid.cs b)) (hpw:l.Pairwise λa b=>a.number<b.number) (h24:l.length<=1000) (hx:x=[va.number,vb.number]) (hrp:rp=x.map aN) (hi:l[i]? =some va) (hk:l[k]? =some vb) (oa:gZ va.aO va.aM va.aB va.ak va.au) (ob:gZ vb.aO vb.aM vb.aB vb.ak vb.au):AP 89 [.sl t' 1 rp,.pp [.sl t 16 rs],.pp [.int .i64 z]] AV.bool (bP (¬uT (nO va) (nO vb) z)):=by
  refine a0 Tryz.func89 λE K hE hK=>?_;have hil:=(aa.1 hi).1;have hkl:=(aa.1 hk).1;obtain ⟨n1,nm1,ax1,ay1,h1,mk1,mc1,ms1,mt1,lk1,lg1,ll1,lc1,lp1,sc1,in1⟩:=va;obtain ⟨n2,nm2,ax2,ay2,h2,mk2,mc2,ms2,mt2,lk2,lg2,ll2,lc2,lp2,sc2,in2⟩:=vb;simp only at hx oa ob;obtain ⟨ga,hga⟩:∃r,r=lg1.map aN:=⟨_,rfl⟩
  obtain ⟨gb,hgb⟩:∃r,r=lg2.map aN:=⟨_,rfl⟩
  obtain ⟨xa,hxa⟩:∃r,r=sc1.map Scr.cs:=⟨_,rfl⟩
  obtain ⟨xb,hxb⟩:∃r,r=sc2.map Scr.cs:=⟨_,rfl⟩
  repeat' first
    |((first
   |(refine gK (R:=aN) (i:=0) (v:=n1) hrp (by decide) (by rw [hx];rfl) ?_)
   |(refine gK (R:=aN) (i:=1) (v:=n2) hrp (by decide) (by rw [hx];rfl) ?_)
   |(refine abD (abU (n:=n1) (j:=i) hl hpw hi rfl h24) (λa ha=>?_);have hia:l[a.toNat]? =_:=(congrArg (λt:Int=>l[t.toNat]?) ha).trans hi)
   |(refine abD (abU (n:=n2) (j:=k) hl hpw hk rfl h24) (λa2 ha2=>?_);have hka:l[a2.toNat]? =_:=(congrArg (λt:Int=>l[t.toNat]?) ha2).trans hk)
   |refine iO (i:=a) hl (by omega) hia hga hxa ?_
   |refine iO (i:=a2) hl (by omega) hka hgb hxb ?_
   |refine aF (Yk _ _ _ _ z _ _ _ _ hga hgb oa ob) (λhc=>?_) (λhc=>?_)
   |refine B0 ?_|refine B1 ?_ ?_)<;>intros<;>(try conv=>cbv))
  all_goals first
   |exact aH hK (ah.2 λh=>h hc)
   |exact aH hK (aG.2 hc)
open Go.Sort Go.Shelf
set_option maxHeartbeats 2000000
noncomputable section
def keepD {β:Type} (p:β->Prop) (ls:List β) (i:Nat):Prop:=∀x,ls[i]? =some x->¬p x
def Yh {β:Type} (p:β->Prop) (ls:List β) (n:Nat):List Nat:=(List.range n).filter λi=>decide (keepD p ls i)
def LD {β:Type} (p:β->Prop) (ls:List β) (n:Nat):List β:=(Yh p ls n).filterMap λi=>ls[i]?
def nV {β:Type} (p:β->Prop) (ls:List β):List β:=LD p ls ls.length
theorem ru {β:Type} {p:β->Prop} {ls:List β} {n:Nat} {x:β} (hx:ls[n]? =some x):LD p ls (n+1)=LD p ls n++if p x then [] else [x]:=by
 have hk:keepD p ls n↔¬p x:=⟨λh=>h x hx,λh y hy=>by rw [hx] at hy;cases hy;exact h⟩
 unfold LD Yh;rw [ik,gE,mT];congr 1;by_cases h:p x
 ·rw [if_pos h,hJ,if_neg (by simp [hk,h])];rfl
 ·rw [if_neg h,hJ,if_pos (by simp [hk,h])];simp [hx]
theorem CP {β:Type} (p:β->Prop) (ls:List β):∀n,n<=ls.length->LD p ls n=(ls.take n).filter λx=>decide (¬p x)
 |0,_=>rfl
 | n+1,h=>by
   have hx:ls[n]? =some ls[n]:=ag (by omega);rw [ru hx,CP p ls n (by omega),cq,hx,gE];congr 1;by_cases h:p ls[n]<;>simp [h]
theorem sN {β:Type} (p:β->Prop) (ls:List β):nV p ls=ls.filter λx=>decide (¬p x):=by
 unfold nV;rw [CP p ls _ (aq _),ka]
theorem acI {β:Type} (p:β->Prop) (ls:List β):Sel (nV p ls) ls:=by
 refine ⟨Yh p ls ls.length,kw _ j9,?_⟩;unfold nV LD
 have hm:∀i∈Yh p ls ls.length,i<ls.length:=λi hi=>by
  unfold Yh at hi;rw [cV,cL] at hi;exact hi.1
 generalize Yh p ls ls.length=idx at hm ⊢
 induction idx with
 |nil=>rfl
 | cons i idx ih=>
   have hi:=hm i (by simp);rw [nb,ag hi];simp only [dj];rw [ih λj hj=>hm j (by simp [hj]),ag hi]
def zU {β:Type} (p:β->Prop) (ls cs:List β) (i j:Int):Prop:=cs.length=ls.length/\(0<=i/\i<j/\j<=ls.length)/\cs.take i.toNat=LD p ls j.toNat/\∀t:Nat,j<=(t:Int)->cs[t]? =ls[t]?
theorem abS {β:Type} {p:β->Prop} {ls:List β} {i:Int} (h:Up (λt=>∀x,ls[t]? =some x->¬p x) i) (h0:0<=i) (hi:i<=ls.length):LD p ls i.toNat=ls.take i.toNat:=by
 have key:∀n:Nat,(n:Int)<=i->LD p ls n=ls.take n:=by
  intro n
  induction n with
  |zero=>intro _;rfl
  | succ n ih=>
    intro hn;have hx:ls[n]? =some ls[n]:=ag (by omega);rw [ru hx,if_neg (h n (by omega) _ hx),ih (by omega),cq,hx];rfl
 exact key _ (by omega)
theorem zU.start {β:Type} {p:β->Prop} {ls:List β} {i j:Int} {x:β} (h:Up (λt=>∀x,ls[t]? =some x->¬p x) i) (h0:0<=i) (hx:ls[i.toNat]? =some x) (hp:p x) (hj:j=i+1):zU p ls ls i j:=by
 have hl:=(aa.1 hx).1;refine ⟨rfl,by omega,?_,λ_ _=>rfl⟩;rw [show j.toNat=i.toNat+1 by omega,ru hx,if_pos hp,abS h h0 (by omega),dr]
theorem zU.skip {β:Type} {p:β->Prop} {ls cs:List β} {i j n:Int} {x:β} (h:zU p ls cs i j) (hx:cs[j.toNat]? =some x) (hp:p x) (hn:n=j+1):zU p ls cs i n:=by
 obtain ⟨h1,⟨h2,h3,h4⟩,h5,h6⟩:=h;rw [h6 _ (by omega)] at hx;have hl:=(aa.1 hx).1;refine ⟨h1,by omega,?_,λt ht=>h6 t (by omega)⟩;rw [show n.toNat=j.toNat+1 by omega,ru hx,if_pos hp,dr,h5]
theorem zU.put {β:Type} {p:β->Prop} {ls cs:List β} {i j k n:Int} {x:β} (h:zU p ls cs i j) (hx:cs[j.toNat]? =some x) (hp:¬p x) (hk:k=i+1) (hn:n=j+1):zU p ls (cs.set i.toNat x) k n:=by
 obtain ⟨h1,⟨h2,h3,h4⟩,h5,h6⟩:=h;rw [h6 _ (by omega)] at hx;have hl:=(aa.1 hx).1;refine ⟨by rw [bo];exact h1,by omega,?_,λt ht=>by rw [cU (by omega)];exact h6 t (by omega)⟩;rw [show n.toNat=j.toNat+1 by omega,show k.toNat=i.toNat+1 by omega,ru hx,if_neg hp,←h5,cq,nc (aq _),bh,if_pos rfl,if_pos (by omega)];rfl
theorem zU.mem {β:Type} {p:β->Prop} {ls cs:List β} {i j:Int} {x:β} (h:zU p ls cs i j) (hx:cs[j.toNat]? =some x):x∈ls:=by
 obtain ⟨h1,⟨h2,h3,h4⟩,h5,h6⟩:=h;rw [h6 _ (by omega)] at hx;exact ae hx
theorem zU.done {β:Type} {p:β->Prop} {ls cs:List β} {i j:Int} (h:zU p ls cs i j) (hj:(ls.length:Int)<=j):cs.take i.toNat=nV p ls:=by
 obtain ⟨h1,⟨h2,h3,h4⟩,h5,h6⟩:=h;rw [h5,nV,show j.toNat=ls.length by omega]
end
set_option maxHeartbeats 4000000
theorem adV [St] {β:Type} {R:β->AV} {g:FuncId} {p:β->Prop} {es cs:List (List AV)} {t:Bool} {z:Int} {ls:List (Value×β)} (hp:∀q∈ls,AC Tryz.prog g [R q.2,.pp [.sl t 16 cs],.pp [.int .i64 z]] AV.bool (bP (p q.2))) (hl:es=ls.map (opn R)):AP 163 [.sl true 1 es,.fn g [.pp [.sl t 16 cs],.pp [.int .i64 z]]] (AV.int .i64) (lF (λq:Value×β=>p q.2) ls):=by
  refine a0 Tryz.func163 λE K hE hK=>?_;refine bn hl λn hn _=>?_;conv=>cbv
  refine cu [0,1,7] [8] (λ(i:Int)=>([(8,.int .i64 i)],[],n - i,0<=i/\Up (λt=>∀x,ls[t]? =some x->¬p x.2) i)) [] (0) (by dsimp only;exact ⟨by omega,.zero (by omega)⟩) λi hi Kn hN=>?_;obtain ⟨h0,hinv⟩:=hi
  repeat' first
    |(refine hN _ [] rfl ⟨?_,?_⟩)
    |((first
   |(refine bQ (R:=opn R) (i:=i) hl (by omega) (λp hx=>?_);obtain ⟨v,x⟩:=p)
   |refine aF (AC.hd1 (hp _ (ae hx))) (λheq=>?_) (λhne=>?_)
   |refine B0 ?_|refine B1 ?_ ?_)<;>intros<;>(try conv=>cbv))
  all_goals (try clear hN)
  all_goals first
   |omega
   |(refine hK _ ?_;rw [kQ h0 hx heq hinv];rfl)
   |exact hinv.succ (λy hy=>by rw [hx] at hy;cases hy;exact hne) (by assumption)
   |(refine hK _ ?_;rw [jR (by omega) hinv];rfl)
theorem abj [St] {β:Type} {R:β->AV} {g:FuncId} {p:β->Prop} {es cs:List (List AV)} {t:Bool} {z:Int} {ls:List (Value×β)} (hp:∀q∈ls,AC Tryz.prog g [R q.2,.pp [.sl t 16 cs],.pp [.int .i64 z]] AV.bool (bP (p q.2))) (hl:es=ls.map (opn R)) (hbl:ls.length<=1048576):ACS Tryz.prog 88 [.sl true 1 es,.fn g [.pp [.sl t 16 cs],.pp [.int .i64 z]]] (λr ys=>∃es',es'=(nV (λq:Value×β=>p q.2) ls).map (opn R)/\r= .sl true 1 es'/\ys=[.any,.any]):=by
  refine acs 1 Tryz.func88 λE K hE hK=>?_;refine aQ (adV hp hl) λy hy=>?_;conv=>cbv
  refine eqI (λh=>?_) (λh=>?_)<;>conv=>cbv
  ·have hall:∀x∈ls,¬p x.2:=λx hx hpx=>by
    have:=(iW (p:=λq:Value×β=>p q.2) (l:=ls)).2 ⟨x,hx,hpx⟩;omega
   exact hK _ _ ⟨_,by rw [sN,List.filter_eq_self.2 λx hx=>by simpa using hall x hx];exact hl,rfl,rfl⟩
  ·obtain ⟨h0,x0,hx0,hp0,hup⟩:0<=y/\∃x0,ls[y.toNat]? =some x0/\p x0.2/\Up (λt=>∀x,ls[t]? =some x->¬p x.2) y:=by
    rcases mY (λq:Value×β=>p q.2) ls with ⟨a1,_,⟨v,a3,a4⟩,a5⟩|⟨a1,_⟩
    ·rw [←hy] at a1 a3 a5;exact ⟨a1,v,a3,a4,λt ht x hx=>a5 t x ht hx⟩
    ·exact absurd (hy.trans a1) h
   have hlt:=(aa.1 hx0).1;refine iH (by omega) λj0 hj0=>?_;(conv=>cbv);refine Z0 [0,1] [5,6] (λ(i j:Int) (cs2:List (Value×β)) (es2:List (List AV))=>([(5,.int .i64 i),(6,.int .i64 j)],[.row 1 es2],(ls.length:Int) - j,zU (λq:Value×β=>p q.2) ls cs2 i j/\es2=cs2.map (opn R))) [0] ((y,j0,ls,es)) (by dsimp only;exact ⟨zU.start hup h0 hx0 hp0 hj0,hl⟩) λi j cs2 es2 hi Kn hN=>?_;obtain ⟨hD,gG⟩:=hi;have hcl:=hD.1;obtain ⟨i0,i1,i2⟩:=hD.2.1
   repeat' first
     |(refine hN _ _ (cs2.set i.toNat (v,x)) _ [0] rfl ⟨?_,xQ⟩)
     |(refine hN _ _ cs2 _ [0] rfl ⟨?_,gG⟩)
     |((first
    |refine bn gG (λn3 hn3 _=>?_)
    |(refine bQ (R:=opn R) (i:=j) gG (by omega) (λq hx=>?_);obtain ⟨v,x⟩:=q)
    |refine aF (AC.hd1 (hp _ (hD.mem hx))) (λheq=>?_) (λhne=>?_)
    |(refine bQ (R:=opn R) (i:=i) gG (by omega) (λq hz=>?_);obtain ⟨z2,w2⟩:=q)
    |refine wB (R:=opn R) (v,x) gG (by omega) hz (by exact bt rfl) (by rfl) (λes3 xQ=>?_)
    |(refine Rj (by simp only [bp,cD];rw [gG,al];omega) (λ_ _=>?_))
    |(refine agJ (by rw [gG,al];omega) (λes3 hl3 ht3=>?_))
    |(refine Rj (by simp only [bp,cD];rw [hl3,gG,al];omega) (λrr hrr=>?_))
    |refine B0 ?_|refine B1 ?_ ?_)<;>intros<;>(try conv=>cbv))
   all_goals (try clear hN)
   all_goals first
    |omega
    |exact hD.skip hx heq (by assumption)
    |exact hD.put hx hne (by assumption) (by assumption)
    |(refine hK _ _ ⟨_,?_,rfl,rfl⟩;rw [hrr];simp only [bp,ge,dC];rw [ht3,gG,←eN,hD.done (by omega)])
theorem Tn {α β:Type} {p:β->Prop} (ls:List (α×β)):(nV (λq:α×β=>p q.2) ls).map Prod.snd=nV p (ls.map Prod.snd):=by
 rw [sN,sN,List.filter_map];rfl
theorem Yg [St] {rs cs:List (List AV)} {g:FuncId} {t:Bool} {z:Int} {p:List Int->Prop} {l:List (List Int)} (hp:∀x∈l,AC Tryz.prog g [slI x,.pp [.sl t 16 cs],.pp [.int .i64 z]] AV.bool (bP (p x))) (hl:rs=l.map (llR true)) (hb:l.length<=1048576):ACM Tryz.prog 88 [.sl true 1 rs,.fn g [.pp [.sl t 16 cs],.pp [.int .i64 z]]] (λr ys=>∃rs',rs'=(l.filter λx=>decide (¬p x)).map (llR true)/\r= .sl true 1 rs'/\ys=[.any,.any]):=by
 subst hl;have hent:Enters Tryz.prog 88:=λxs w=>fF Tryz.func88 (by kernel_rfl) rfl xs w;refine ACM.close (R:=slI) J7 hent λls e1 e2=>?_;refine (abj (R:=slI) (p:=p) (λq hq=>hp _ (by rw [←e1];exact ky hq)) rfl (by rw [←e1,al] at hb;exact hb)).mono ?_;rintro r ys ⟨es,rfl,rfl,rfl⟩;refine ⟨0,_,_,_,acI _ ls,rfl,λj a hj ha=>?_,rfl,_,?_,rfl,rfl⟩
 ·match j,ha with
  |0,_=>exact (hj rfl).elim
  |1,ha=>cases ha;exact .any
  |2,ha=>cases ha;exact .any
  |n+3,ha=>simp at ha
 ·rw [Tn,e1,sN];rfl
set_option maxHeartbeats 2000000
set_option maxHeartbeats 4000000
noncomputable section
def cfR (l:List Aid) (z:Int) (p:Nat×Nat):Prop:=∃a b,l[p.1]? =some a/\l[p.2]? =some b/\uT (nO a) (nO b) z
def nX (l:List Aid) (z:Int) (x:List Int):Prop:=∃(i k:Nat) (a b:Aid),l[i]? =some a/\l[k]? =some b/\x=[a.number,b.number]/\¬uT (nO a) (nO b) z
def sO (l:List Aid) (os:List Obv) (z:Int):List (List Int)×Int:=if rF l os then (if 0<=z/\z<=20 then (if os.length<=16 then (((allT (both l os) l.length l.length).filter λp=>decide (cfR l z p)).map (qm l),0) else ([],5)) else ([],2)) else ([],1)
end
theorem UW {l:List Aid} (hpw:l.Pairwise λa b=>a.number<b.number) {i k:Nat} {a b:Aid} (ha:l[i]? =some a) (hb:l[k]? =some b) (h:a.number=b.number):a=b:=by
 rcases dq i k with e|e|e
 ·have:=KH hpw ha hb e;omega
 ·subst e;rw [ha] at hb;cases hb;rfl
 ·have:=KH hpw hb ha e;omega
theorem ZT {l:List Aid} {z:Int} (hpw:l.Pairwise λa b=>a.number<b.number) {i k:Nat} {a b:Aid} (ha:l[i]? =some a) (hb:l[k]? =some b):nX l z [a.number,b.number]↔¬uT (nO a) (nO b) z:=by
 constructor
 ·rintro ⟨i',k',a',b',h1,h2,h3,h4⟩;(have e1:a.number=a'.number:=by simp at h3;exact h3.1);(have e2:b.number=b'.number:=by simp at h3;exact h3.2);rw [UW hpw ha h1 e1,UW hpw hb h2 e2];exact h4
 ·intro h;exact ⟨i,k,a,b,ha,hb,rfl,h⟩
theorem TA {l:List Aid} {os:List Obv} {z:Int} (hpw:l.Pairwise λa b=>a.number<b.number):(((allT (both l os) l.length l.length).map (qm l)).filter λx=>decide (¬nX l z x))=((allT (both l os) l.length l.length).filter λp=>decide (cfR l z p)).map (qm l):=by
 rw [List.filter_map];congr 1;refine fY λp hp=>?_;obtain ⟨_,_,_,o,_,a,b,ha,hb,_,_⟩:=lg.1 hp;show decide (¬nX l z (qm l p))=decide (cfR l z p);rw [decide_eq_decide,qm,gu ha,gu hb,ZT hpw ha hb,Classical.not_not];constructor
 ·intro h;exact ⟨a,b,ha,hb,h⟩
 ·rintro ⟨a',b',h1,h2,h3⟩;rw [ha] at h1;rw [hb] at h2;cases h1;cases h2;exact h3
theorem yC {a:Aid} {x y e s:Int} (h:a.seen x y e s):gZ a.aO a.aM a.aB a.ak a.au:=h.1.1
theorem Ip (P:Nat->Nat->Prop) (i:Nat):∀k,(pG P i k).length<=k
 |0=>by simp [pG]
 | k+1=>by
   rw [pG,am];have:=Ip P i k;split<;>simp<;>omega
theorem Bz (P:Nat->Nat->Prop) (n:Nat):∀m,(allT P n m).length<=m*n
 |0=>by simp [allT]
 | m+1=>by
   rw [allT,am,bz];have:=Bz P n m;have:=Ip P m n;omega
theorem afZ [St] (n:Int):AP 86 [.int .i64 n] AV.bool (bP (0<=n/\n<=20)):=by
  refine a0 Tryz.func86 λE K hE hK=>?_
  repeat' first
    |((first
   |refine aF (eU _ _ _) (λ_=>?_) (λ_=>?_)
   |refine B0 ?_|refine B1 ?_ ?_)<;>intros<;>(try conv=>cbv))
  all_goals exact fz
theorem Gh [St] {rs ro:List (List AV)} {t t' b:Bool} {l:List Aid} {os:List Obv} {z:Int} (hl:rs=l.map (Aid.cs b)) (ho:ro=os.map Obv.cs):AP 37 [.sl t 16 rs,.sl t' 4 ro,.int .i64 z] OD (sO l os z):=by
 refine ac Tryz.func37 (.OD _) λE K hE hK=>?_;refine aF (qD hl ho) (λhok=>?_) (λhok=>?_)<;>conv=>cbv
 ·have h24:=hok.1.2;have hpw:=hok.1.pw;refine aF (afZ z) (λhz=>?_) (λhz=>?_)<;>conv=>cbv
  ·refine iK (wI hl ho) (λr cd hr hcd=>?_);(conv=>cbv);by_cases h16:os.length<=16
   ·rw [Uc hok h16] at hr hcd
    have hlen:(allT (both l os) l.length l.length).length<=576:=by
     have h1:=Bz (both l os) l.length l.length;have h2:l.length*l.length<=24*24:=fm h24 h24;omega
    refine eqT hcd ?_;(conv=>cbv);refine agO (Yg (p:=nX l z) (λx hx=>?_) hr (by rw [al];omega)) ?_
    ·obtain ⟨p,hp,rfl⟩:=cA.1 hx;obtain ⟨_,_,_,o,_,va,vb,ha,hb,sa,sb⟩:=lg.1 hp;(have e:qm l p=[va.number,vb.number]:=by rw [qm,gu ha,gu hb]);have h3:=afE (t':=true) (t:=t) (z:=z) hl hpw (by omega) e rfl ha hb (yC sa) (yC sb);(have e2:nX l z (qm l p)=¬uT (nO va) (nO vb) z:=by rw [e];exact propext (ZT hpw ha hb));rw [e2];exact h3
    ·rintro r' ys ⟨rs',ahH,rfl,rfl⟩;(conv=>cbv);refine hK _ ?_;rw [sO,if_pos hok,if_pos hz,if_pos h16,←TA hpw,ahH];rfl
   ·rw [QS,if_pos hok,if_neg h16] at hcd;refine eqF (by rw [hcd];decide) ?_;(conv=>cbv);refine dW 1 ?_;(conv=>cbv);exact hK _ (by rw [sO,if_pos hok,if_pos hz,if_neg h16,hcd];rfl)
  ·refine dW 1 ?_;(conv=>cbv);exact hK _ (by rw [sO,if_pos hok,if_neg hz];rfl)
 ·refine iK (wI hl ho) (λr cd hr hcd=>?_);(conv=>cbv);rw [QS,if_neg hok] at hcd;refine eqF (by rw [hcd];decide) ?_;(conv=>cbv);refine dW 1 ?_;(conv=>cbv);exact hK _ (by rw [sO,if_neg hok,hcd];rfl)
end Go.Proofs.YtnlhnideeaobpaaGreatDoor
