/- Plain laws: lists of numbers in the order of their letters, lists without doubles; Contracts: marks in lists of lists of integers; Contracts: slices.Equal, Compare, SortFunc and CompactFunc at lists of numbers; Contracts: lists of lists of numbers sorted, their doubles left out; Contracts: pairs that are seen together; the law; Contracts: the reference's pairs that are seen together; the law; Contracts: the reference's SeenTogether; the law. -/
import Derived.Test.YtnlhnideeaobpaaGreatDoorFA
import Derived.Test.YtnlhnideeaobpaaGreatDoorQc
import Derived.Test.YtnlhnideeaobpaaGreatDoorShelf
import Derived.Test.YtnlhnideeaobpaaGreatDoorQg
namespace Go.Proofs.YtnlhnideeaobpaaGreatDoor
open Go Go.RowKit Classical
set_option maxRecDepth 100000
set_option maxHeartbeats 2000000
set_option linter.unusedVariables false
set_option linter.unusedSimpArgs false
def ig:List Int->List Int->Int
 |[],[]=>0
 |[],_::_=> -1
 |_::_,[]=>1
 |x::a,y::b=>if x<y then -1 else if y<x then 1 else ig a b
theorem vQ:∀a:List Int,ig a a=0
 |[]=>rfl
 |x::a=>by rw [ig,if_neg (gv x),if_neg (gv x),vQ a]
theorem oq:∀a b:List Int,ig b a= - ig a b
 |[],[]=>rfl
 |[],_::_=>rfl
 |_::_,[]=>rfl
 | x::a,y::b=>by
   rw [ig,ig];rcases eL x y with h|h|h
   ·rw [if_neg (by omega),if_pos h,if_pos h];rfl
   ·subst h;simp only [gv,if_false];exact oq a b
   ·rw [if_pos h,if_neg (by omega),if_pos h]
theorem DN:∀{a b:List Int},ig a b=0->a=b
 |[],[],_=>rfl
 |[],_::_,h=>by simp [ig] at h
 |_::_,[],h=>by simp [ig] at h
 | x ::a,y::b,h=>by
   rw [ig] at h;split at h
   ·omega
   ·split at h
    ·omega
    ·rw [show x=y by omega,DN h]
theorem su:∀{a b c:List Int},ig a b<0->ig b c<0->ig a c<0
 | a,[],c,h,_=>by
   cases a with
   |nil=>simp [ig] at h
   |cons=>simp [ig] at h
 |a,y::b,[],_,h=>by simp [ig] at h
 |[],y::b,z::c,_,_=>by simp [ig]
 | x :: a,y::b,z::c,h,k=>by
   rw [ig] at h k ⊢;split at h
   ·split at k
    ·rw [if_pos (by omega)];omega
    ·split at k
     ·omega
     ·rw [if_pos (by omega)];omega
   ·split at h
    ·omega
    ·split at k
     ·rw [if_pos (by omega)];omega
     ·split at k
      ·omega
      ·rw [if_neg (by omega),if_neg (by omega)];exact su h k
def lexLt (a b:List Int):Prop:=ig a b<0
theorem OG {a b:List Int} (h:lexLt a b):¬lexLt b a:=by
 unfold lexLt at *;rw [oq a b];omega
theorem BJ:∀{a b:List (List Int)},a.Pairwise lexLt->b.Pairwise lexLt->(∀x,x∈a↔x∈b)->a=b
 |[],[],_,_,_=>rfl
 |[],y::b,_,_,h=>by have:=(h y).2 (by simp);simp at this
 |x::a,[],_,_,h=>by have:=(h x).1 (by simp);simp at this
 | x :: a,y::b,ha,hb,h=>by
   rw [im] at ha hb
   have hxy:x=y:=by
    rcases bk.1 ((h x).1 (by simp)) with e|e
    ·exact e
    ·rcases bk.1 ((h y).2 (by simp)) with e'|e'
     ·exact e'.symm
     ·exact (OG (hb.1 x e) (ha.1 y e')).elim
   subst hxy;rw [BJ ha.2 hb.2 λz=>?_];constructor
   ·intro hz;rcases bk.1 ((h z).1 (by simp [hz])) with e|e
    ·have:=ha.1 z hz;subst e;unfold lexLt at this;rw [vQ] at this;omega
    ·exact e
   ·intro hz;rcases bk.1 ((h z).2 (by simp [hz])) with e|e
    ·have:=hb.1 z hz;subst e;unfold lexLt at this;rw [vQ] at this;omega
    ·exact e
def j6 {β:Type} (eq:β->β->Prop) (l:List β) (i:Nat):Prop:=∀x y,l[i]? =some x->0<i->l[i - 1]? =some y->¬eq x y
noncomputable def oZ {β:Type} (eq:β->β->Prop) (l:List β) (n:Nat):List Nat:=(List.range n).filter λi=>decide (j6 eq l i)
noncomputable def pX {β:Type} (eq:β->β->Prop) (l:List β) (n:Nat):List β:=(oZ eq l n).filterMap λi=>l[i]?
noncomputable def gD {β:Type} (eq:β->β->Prop) (l:List β):List β:=pX eq l l.length
theorem TG {β:Type} (eq:β->β->Prop) (l:List β) (n:Nat):oZ eq l (n+1)=if j6 eq l n then oZ eq l n++[n] else oZ eq l n:=by
 unfold oZ;rw [ik,gE];by_cases h:j6 eq l n<;>simp [h]
theorem oW {β:Type} {eq:β->β->Prop} {l:List β} {n:Nat} {x:β} (hx:l[n]? =some x):pX eq l (n+1)=if j6 eq l n then pX eq l n++[x] else pX eq l n:=by
 unfold pX;rw [TG];split
 ·rw [mT];simp [hx]
 ·rfl
theorem Xb {β:Type} {eq:β->β->Prop} {l:List β} {n:Nat} {x:β}:x∈pX eq l n↔∃i,i<n/\j6 eq l i/\l[i]? =some x:=by
 unfold pX oZ;rw [List.mem_filterMap];constructor
 ·rintro ⟨i,h1,h2⟩;rw [cV,cL] at h1;exact ⟨i,h1.1,by simpa using h1.2,h2⟩
 ·rintro ⟨i,h1,h2,h3⟩;exact ⟨i,by rw [cV,cL];exact ⟨h1,by simpa using h2⟩,h3⟩
theorem Gl {m:List (List Int)} (hs:∀(i j:Nat) x y,i<j->m[i]? =some x->m[j]? =some y->¬ig y x<0):(gD (·=·) m).Pairwise lexLt/\∀x,x∈gD (·=·) m↔x∈m:=by
 constructor
 ·unfold gD pX;rw [List.pairwise_filterMap];have h1:(oZ (·=·) m m.length).Pairwise (·<·):=kw _ List.pairwise_lt_range;refine h1.imp_of_mem λ{i j} hi hj hij x hx y hy=>?_;unfold oZ at hj;rw [cV] at hj;(have hk:j6 (·=·) m j:=by simpa using hj.2);have hjl:=(aa.1 hy).1;(obtain ⟨z,hz⟩:∃z,m[j - 1]? =some z:=⟨_,ag (by omega)⟩);have hyz:=hk y z hy (by omega) hz;have h2:=hs (j - 1) j z y (by omega) hz hy
  have h3:ig z y<0:=by
   have h4:=oq z y;rcases eL (ig z y) 0 with g|g|g
   ·exact g
   ·exact (hyz (DN g).symm).elim
   ·omega
  rcases da i (j - 1) with g|g
  ·have h4:=hs i (j - 1) x z g hx hz;have h5:=oq x z;rcases eL (ig x z) 0 with g|g|g
   ·exact su (a:=x) (b:=z) (c:=y) g h3
   ·rw [DN g];exact h3
   ·omega
  ·(have e:i=j - 1:=by omega);subst e;rw [hx] at hz;cases hz;exact h3
 ·intro x;unfold gD;rw [Xb];constructor
  ·rintro ⟨i,_,_,h⟩;exact ae h
  ·intro hx;obtain ⟨j,hj⟩:=ap hx
   have key:∀j:Nat,m[j]? =some x->∃i,i<m.length/\j6 (·=·) m i/\m[i]? =some x:=by
    intro j
    induction j with
    |zero=>exact λh=>⟨0,(aa.1 h).1,λ_ _ _ h0=>by omega,h⟩
    | succ j ih=>
      intro h;by_cases hk:j6 (·=·) m (j+1)
      ·exact ⟨j+1,(aa.1 h).1,hk,h⟩
      ·unfold j6 at hk;simp only [Classical.not_forall,Classical.not_not] at hk;obtain ⟨a,b,h1,_,h3,h4⟩:=hk;rw [h] at h1;cases h1;rw [iS] at h3;exact ih (by rw [h3,h4])
   exact key j hj
def OD (p:List (List Int)×Int):AV:= .tup [.sl true 1 (p.1.map (llR true)),.int .i64 p.2]
theorem NoB.OD (p:List (List Int)×Int):NoB (OD p):= .nH (.lls _) (.nH (.int _ _) .CY)
open Go.Sort Go.Shelf
theorem ag5 {a b:List Int} {i:Int} (h:Up (λj=>a[j]? =b[j]?) i) (hl:a.length=b.length) (hi:(a.length:Int)<=i):a=b:=by
 refine cC λj=>?_;by_cases hj:j<a.length
 ·exact h j (by omega)
 ·rw [ar (by omega),ar (by omega)]
theorem PY [St] {rs rs':List (List AV)} {t t':Bool} {a b:List Int} (ha:rs=a.map aN) (hb:rs'=b.map aN):AP 80 [.sl t 1 rs,.sl t' 1 rs'] AV.bool (bP (a=b)):=by
  refine a0 Tryz.func80 λE K hE hK=>?_
  repeat' first
    |((refine cu [0,1,12] [13] (λ(i:Int)=>([(13,.int .i64 i)],[],a.length - i,0<=i/\Up (λj=>a[j]? =b[j]?) i)) [] (0) (by dsimp only;exact ⟨by omega,.zero (by omega)⟩) λi hi2 Kn2 hN2=>?_);obtain ⟨h0,hinv⟩:=hi2)
    |(refine hN2 _ [] rfl ⟨?_,?_⟩)
    |((first
   |refine bn ha (λn1 hn1 _=>?_)
   |refine bn hb (λn2 hn2 _=>?_)
   |refine bQ (R:=aN) ha (by omega) (λu hu=>?_)
   |refine bQ (R:=aN) hb (by omega) (λv hv=>?_)
   |refine B0 ?_|refine B1 ?_ ?_)<;>intros<;>(try conv=>cbv))
  all_goals (try clear hN2)
  all_goals first
   |omega
   |exact hinv.succ (show a[i.toNat]? =b[i.toNat]? from by rw [hu,hv];exact congrArg some (by omega)) (by assumption)
   |exact aH hK (aG.2 (ag5 hinv (by omega) (by omega)))
   |(refine aH hK (ah.2 λh=>?_);subst h;first|omega|(rw [hu] at hv;cases hv;omega))
theorem qQ {a b:List Int}:∀i:Nat,(∀j,j<i->∃x,a[j]? =some x/\b[j]? =some x)->ig a b=ig (a.drop i) (b.drop i)
 |0,_=>rfl
 | i+1,h=>by
   rw [qQ i λj hj=>h j (by omega)];obtain ⟨x,h1,h2⟩:=h i (by omega);have e1:=ck (aa.1 h1).1;have e2:=ck (aa.1 h2).1;rw [(aa.1 h1).2] at e1;rw [(aa.1 h2).2] at e2;rw [e1,e2,ig,if_neg (gv x),if_neg (gv x)]
theorem KT {a b:List Int} {i:Nat} {x y:Int} (h:∀j,j<i->∃x,a[j]? =some x/\b[j]? =some x) (hx:a[i]? =some x) (hy:b[i]? =some y) (hne:Dl x y≠0):ig a b=Dl x y:=by
 rw [qQ i h];have e1:=ck (aa.1 hx).1;have e2:=ck (aa.1 hy).1;rw [(aa.1 hx).2] at e1;rw [(aa.1 hy).2] at e2;rw [e1,e2,ig];unfold Dl at*;split
 ·rfl
 ·split
  ·rfl
  ·rename_i g1 g2;rw [if_neg g1,if_neg g2] at hne;exact (hne rfl).elim
theorem IZ {a b:List Int} {i:Nat} (h:∀j,j<i->∃x,a[j]? =some x/\b[j]? =some x) (ha:i<a.length) (hb:b.length<=i):ig a b=1:=by
 rw [qQ i h,df hb,ck ha];rfl
theorem E8 {a b:List Int} {i:Nat} (h:∀j,j<i->∃x,a[j]? =some x/\b[j]? =some x) (ha:a.length<=i) (hb:i<b.length):ig a b= -1:=by
 rw [qQ i h,df ha,ck hb];rfl
theorem IY {a b:List Int} {i:Nat} (h:∀j,j<i->∃x,a[j]? =some x/\b[j]? =some x) (ha:a.length<=i) (hb:b.length<=i):ig a b=0:=by
 rw [qQ i h,df ha,df hb];rfl
def Pre (a b:List Int) (i:Int):Prop:=∀j:Nat,(j:Int)<i->∃x,a[j]? =some x/\b[j]? =some x
theorem Pre.nat {a b:List Int} {i:Int} (h:Pre a b i) (h0:0<=i):∀j,j<i.toNat->∃x,a[j]? =some x/\b[j]? =some x:=λj hj=>h j (by omega)
theorem Pre.len {a b:List Int} {i:Int} (h:Pre a b i) (h0:0<=i):i.toNat<=a.length/\i.toNat<=b.length:=by
 rcases i7 i.toNat with e|e
 ·omega
 ·obtain ⟨x,h1,h2⟩:=h (i.toNat - 1) (by omega);have:=(aa.1 h1).1;have:=(aa.1 h2).1;omega
theorem Bo {x y:Int} (h:Dl x y=0):x=y:=by
 unfold Dl at h;split at h
 ·omega
 ·split at h<;>omega
theorem TB [St] {rs rs':List (List AV)} {t t':Bool} {a b:List Int} (ha:rs=a.map aN) (hb:rs'=b.map aN):AP 161 [.sl t 1 rs,.sl t' 1 rs'] (AV.int .i64) (ig a b):=by
  refine a0 Tryz.func161 λE K hE hK=>?_;refine bn ha (λn1 hn1 _=>?_);conv=>cbv
  refine cu [0,1,9,10] [11] (λ(i:Int)=>([(11,.int .i64 i)],[],a.length - i,(0<=i/\i<=a.length)/\Pre a b i)) [] (0) (by dsimp only;exact ⟨by omega,λj hj=>by omega⟩) λi hi Kn hN=>?_;obtain ⟨⟨h0,h1⟩,hinv⟩:=hi;have hpl:=hinv.len h0
  repeat' first
    |(refine hN _ [] rfl ⟨?_,?_⟩)
    |((first
   |refine bQ (R:=aN) ha (by omega) (λu hu=>?_)
   |refine bn hb (λn2 hn2 _=>?_)
   |refine bQ (R:=aN) hb (by omega) (λv hv=>?_)
   |refine bn ha (λn3 hn3 _=>?_)
   |refine aQ (abp u v) (λc hc=>?_)
   |refine B0 ?_|refine B1 ?_ ?_)<;>intros<;>(try conv=>cbv))
  all_goals (try clear hN)
  all_goals first
   |omega
   |(intro j hj;by_cases hji:(j:Int)=i<;>first|(have e:i.toNat=j:=by omega);rw [←e];exact ⟨u,hu,by rw [hv,Bo (hc.symm.trans (by assumption))]⟩|exact hinv j (by omega))
   |(refine hK _ ?_;rw [KT (hinv.nat h0) hu hv (by omega),←hc];rfl)
   |(refine hK _ ?_;rw [IZ (hinv.nat h0) (by omega) (by omega)];rfl)
   |(refine hK _ ?_;rw [E8 (hinv.nat h0) (by omega) (by omega)];rfl)
   |(refine hK _ ?_;rw [IY (hinv.nat h0) (by omega) (by omega)];rfl)
theorem QC {β:Type} {eq:β->β->Prop} {ls:List β} {k:Int} (h:Up (λj=>j6 eq ls j) k) (h0:0<=k) (hk:k<=ls.length):pX eq ls k.toNat=ls.take k.toNat:=by
 have key:∀n:Nat,(n:Int)<=k->pX eq ls n=ls.take n:=by
  intro n
  induction n with
  |zero=>intro _;unfold pX oZ;simp
  | succ n ih=>
    intro hn;have hx:ls[n]? =some ls[n]:=ag (by omega);rw [oW hx,if_pos (h n (by omega)),ih (by omega),cq,hx];rfl
 exact key _ (by omega)
theorem Zk {β:Type} (eq:β->β->Prop) (ls:List β):Sel (gD eq ls) ls:=by
 refine ⟨oZ eq ls ls.length,?_,?_⟩
 ·unfold oZ;exact kw _ j9
 ·unfold gD pX
  have hm:∀i∈oZ eq ls ls.length,i<ls.length:=λi hi=>by
   unfold oZ at hi;rw [cV,cL] at hi;exact hi.1
  generalize oZ eq ls ls.length=idx at hm ⊢
  induction idx with
  |nil=>rfl
  | cons i idx ih=>
    have hi:=hm i (by simp);rw [nb,ag hi];simp only [dj];rw [ih λj hj=>hm j (by simp [hj]),ag hi]
theorem TF {β:Type} {eq:β->β->Prop} {ls:List β} (h:ls.length<2):gD eq ls=ls:=by
 unfold gD
 match ls,h with
 |[],_=>rfl
 |[x],_=>rw [show [x].length=0+1 from rfl,oW (x:=x) rfl,if_pos (show j6 eq [x] 0 from λ_ _ _ h=>by omega)];rfl
theorem Vg {β:Type} {eq:β->β->Prop} {ls:List β} {i:Nat} {x y:β} (hx:ls[i]? =some x) (hy:ls[i - 1]? =some y) (h0:0<i) (h:eq x y):¬j6 eq ls i:=λhk=>hk x y hx h0 hy h
theorem O4 {β:Type} {eq:β->β->Prop} {ls:List β} {i:Nat} {x y:β} (hx:ls[i]? =some x) (hy:ls[i - 1]? =some y) (h:¬eq x y):j6 eq ls i:=λa b ha _ hb=>by
 rw [hx] at ha;rw [hy] at hb;cases ha;cases hb;exact h
def Du {β:Type} (eq:β->β->Prop) (ls cs:List β) (k i:Int):Prop:=cs.length=ls.length/\(0<=k/\k<i/\i<=ls.length)/\cs.take k.toNat=pX eq ls i.toNat/\∀j:Nat,i<=(j:Int)+1->cs[j]? =ls[j]?
theorem Du.start {β:Type} {eq:β->β->Prop} {ls:List β} {k m:Int} {x y:β} (h:Up (λj=>j6 eq ls j) k) (h1:1<=k) (hx:ls[k.toNat]? =some x) (hm:m=k - 1) (hy:ls[m.toNat]? =some y) (he:eq x y):Du eq ls ls k (k+1):=by
 have hl:=(aa.1 hx).1;refine ⟨rfl,by omega,?_,λ_ _=>rfl⟩;rw [show (k+1).toNat=k.toNat+1 by omega,oW hx,if_neg (Vg hx (by rw [show k.toNat - 1=m.toNat by omega];exact hy) (by omega) he),QC h (by omega) (by omega)]
theorem Du.skip {β:Type} {eq:β->β->Prop} {ls cs:List β} {k i a b n:Int} {x y:β} (h:Du eq ls cs k i) (ha:a=i) (hx:cs[a.toNat]? =some x) (hb:b=i - 1) (hy:cs[b.toNat]? =some y) (he:eq x y) (hn:n=i+1):Du eq ls cs k n:=by
 obtain ⟨h1,⟨h2,h3,h4⟩,h5,h6⟩:=h;subst ha;rw [h6 _ (by omega)] at hx;rw [h6 _ (by omega)] at hy;have hl:=(aa.1 hx).1;refine ⟨h1,by omega,?_,λj hj=>h6 j (by omega)⟩;rw [hn,show (a+1).toNat=a.toNat+1 by omega,oW hx,if_neg (Vg hx (by rw [show a.toNat - 1=b.toNat by omega];exact hy) (by omega) he),h5]
theorem Du.put {β:Type} {eq:β->β->Prop} {ls cs:List β} {k i a b k2 n:Int} {x y:β} (h:Du eq ls cs k i) (ha:a=i) (hx:cs[a.toNat]? =some x) (hb:b=i - 1) (hy:cs[b.toNat]? =some y) (he:¬eq x y) (hk2:k2=k+1) (hn:n=i+1):Du eq ls (cs.set k.toNat x) k2 n:=by
 obtain ⟨h1,⟨h2,h3,h4⟩,h5,h6⟩:=h;subst ha;rw [h6 _ (by omega)] at hx;rw [h6 _ (by omega)] at hy;have hl:=(aa.1 hx).1;refine ⟨by rw [bo];exact h1,by omega,?_,λj hj=>by rw [cU (by omega)];exact h6 j (by omega)⟩;rw [hn,hk2,show (a+1).toNat=a.toNat+1 by omega,show (k+1).toNat=k.toNat+1 by omega,oW hx,if_pos (O4 hx (by rw [show a.toNat - 1=b.toNat by omega];exact hy) he),←h5,cq,nc (aq _),fv (by omega)];rfl
theorem Du.done {β:Type} {eq:β->β->Prop} {ls cs:List β} {k i:Int} (h:Du eq ls cs k i) (hi:(ls.length:Int)<=i):cs.take k.toNat=gD eq ls:=by
 obtain ⟨h1,⟨h2,h3,h4⟩,h5,h6⟩:=h;rw [h5,gD,show i.toNat=ls.length by omega]
theorem abT {β:Type} {eq:β->β->Prop} {ls:List β} {k:Int} (h:Up (λj=>j6 eq ls j) k) (h0:0<=k) (hk:k<=ls.length) (hk2:(ls.length:Int)<=k):gD eq ls=ls:=by
 have:=QC h h0 hk;rw [show k.toNat=ls.length by omega,ka] at this;exact this
set_option maxHeartbeats 4000000
theorem Ym [St] {β:Type} {R:β->AV} {g:FuncId} {eq:β->β->Prop} {es:List (List AV)} {ls:List (Value×β)} (hp:∀x y,AC Tryz.prog g [R x,R y] AV.bool (bP (eq x y))) (hl:es=ls.map (opn R)) (hbl:ls.length<=1048576):ACS Tryz.prog 162 [.sl true 1 es,.fn g []] (λr ys=>∃es',es'=(gD (λp q:Value×β=>eq p.2 q.2) ls).map (opn R)/\r= .sl true 1 es'/\ys=[.any,.any]):=by
  refine acs 1 Tryz.func162 λE K hE hK=>?_;refine bn hl λn hn _=>?_;conv=>cbv
  refine ltI (λh2=>?_) (λh2=>?_)<;>conv=>cbv
  ·exact hK _ _ ⟨_,by rw [TF (by omega)];exact hl,rfl,rfl⟩
  refine cu [0,1] [5] (λ(k:Int)=>([(5,.int .i64 k)],[.row 1 es],n - k,(1<=k/\k<=n)/\Up (λj=>j6 (λp q:Value×β=>eq p.2 q.2) ls j) k)) [0] (1) (by dsimp only;exact ⟨by omega,λj hj=>λ_ _ _ h0=>by omega⟩) λk hi Kn hN=>?_;obtain ⟨⟨k0,k1⟩,hinv⟩:=hi
  repeat' first
    |((refine Z0 [0,1] [5,6,7] (λ(k' j:Int) (cs:List (Value×β)) (es2:List (List AV))=>([(5,.int .i64 k'),(6,.vs 0 k n3),(7,.int .i64 j)],[.row 1 es2],n - k - j,(Du (λp q:Value×β=>eq p.2 q.2) ls cs k' (k+j)/\1<=j)/\es2=cs.map (opn R))) [0] ((k,1,ls,es)) (by dsimp only;exact ⟨⟨Du.start hinv k0 hx hm hy heq,by omega⟩,hl⟩) λk' j cs es2 hi2 Kn2 hN2=>?_);obtain ⟨⟨hC,hj1⟩,gG⟩:=hi2;(have hcl:=hC.1);obtain ⟨hk0,hk1,hk2⟩:=hC.2.1)
    |(refine hN2 _ _ (cs.set k'.toNat (v2,x2)) _ [0] rfl ⟨⟨?_,?_⟩,xQ⟩)
    |(refine hN2 _ _ cs _ [0] rfl ⟨⟨?_,?_⟩,gG⟩)
    |(refine hN _ [0] rfl ⟨?_,?_⟩)
    |((first
   |refine bn hl (λn3 hn3 _=>?_)
   |refine bn gG (λn5 hn5 _=>?_)
   |(refine bQ (R:=opn R) (i:=k) hl (by omega) (λp hx=>?_);obtain ⟨v,x⟩:=p)
   |refine eX (a:=k) (b:=1) (by omega) (λm hm=>?_)
   |(refine bQ (R:=opn R) (i:=m) hl (by omega) (λp hy=>?_);obtain ⟨u,y⟩:=p)
   |refine aF (AC.hd2 (hp x y)) (λheq=>?_) (λhne=>?_)
   |(refine Rj (by simp only [bp,cD];first|omega|(rw [hl,al];omega)) (λ_ _=>?_))
   |refine eX (a:=n3) (b:=k) (by omega) (λd hd=>?_)
   |refine uz (show 0<=j1/\j1<n3 - k from ⟨by omega,by omega⟩) ?_
   |refine uz (show 0<=j/\j<n3 - k from ⟨by omega,by omega⟩) ?_
   |refine iH (a:=k) (b:=j) (by omega) (λa1 ha1=>?_)
   |(refine gK (R:=opn R) (i:=a1) (v:=(v2,x2)) gG (by omega) (by rw [ha1];exact hx2) ?_)
   |(refine bQ (R:=opn R) (i:=a1) gG (by omega) (λp hx2=>?_);obtain ⟨v2,x2⟩:=p;rw [ha1] at hx2)
   |refine eX (a:=j) (b:=1) (by omega) (λj1 hj1=>?_)
   |refine iH (a:=k) (b:=j1) (by omega) (λb1 hb1=>?_)
   |(refine bQ (R:=opn R) (i:=b1) gG (by omega) (λp hy2=>?_);obtain ⟨u2,y2⟩:=p)
   |refine aF (AC.hd2 (hp x2 y2)) (λheq2=>?_) (λhne2=>?_)
   |(refine bQ (R:=opn R) (i:=k') gG (by omega) (λp hz2=>?_);obtain ⟨z2,w2⟩:=p)
   |refine wB (R:=opn R) (v2,x2) gG (by omega) hz2 (by exact bt rfl) (by rfl) (λes3 xQ=>?_)
   |refine iH (a:=k') (b:=1) (by omega) (λk2 ajJ=>?_)
   |(refine agJ (by rw [gG,al];omega) (λes3 hl3 ht3=>?_))
   |(refine Rj (by simp only [bp,cD];rw [gG,al];omega) (λ_ _=>?_))
   |(refine Rj (by simp only [bp,cD];rw [hl3,gG,al];omega) (λrr hrr=>?_))
   |refine B0 ?_|refine B1 ?_ ?_)<;>intros<;>(try conv=>cbv))
  all_goals (try clear hN)
  all_goals (try clear hN2)
  all_goals first
   |omega
   |(refine hinv.succ (O4 hx (by rw [show k.toNat - 1=m.toNat by omega];exact hy) hne) (by assumption))
   |(refine hK _ _ ⟨_,?_,rfl,rfl⟩;rw [hrr];simp only [bp,ge,dC];rw [ht3,gG,←eN,hC.done (by omega)])
   |exact hC.skip rfl hx2 (by omega) hy2 heq2 (by omega)
   |exact hC.put rfl hx2 (by omega) hy2 hne2 (by assumption) (by omega)
   |exact xQ
   |exact gG
   |exact hK _ _ ⟨_,by rw [abT hinv (by omega) (by omega) (by omega)];exact hl,rfl,rfl⟩
set_option maxHeartbeats 2000000
def slI (x:List Int):AV:= .sl true 1 (x.map aN)
theorem J7 (x:List Int):NoB (slI x):= .ints x
theorem adw:SWO (ltOf ig) where
 irrefl x:=by unfold ltOf;rw [vQ];rfl
 trans x y z h1 h2:=by
  unfold ltOf at*;simp only [decide_eq_true_eq] at*;exact su h1 h2
 ntrans x y z h1 h2:=by
  unfold ltOf at*;simp only [decide_eq_false_iff_not] at*;intro h3;have e1:=oq x y;have e2:=oq y z;rcases eL (ig x y) 0 with g|g|g
  ·exact h1 g
  ·have:=DN g;subst this;exact h2 h3
  ·(have h4:ig y x<0:=by omega);exact h2 (su h4 h3)
theorem acF [St] {rs:List (List AV)} {l:List (List Int)} (hl:rs=l.map (llR true)) (hb:l.length<=1048576):ACM Tryz.prog 160 [.sl true 1 rs,.fn 161 []] (λr ys=>∃(m:List (List Int)) (rs':List (List AV)),m.Perm l/\(∀(i j:Nat) x y,i<j->m[i]? =some x->m[j]? =some y->¬ig y x<0)/\rs'=m.map (llR true)/\r= .tup []/\ys=[.sl true 1 rs',.any]):=by
 subst hl;have hent:Enters Tryz.prog 160:=λxs w=>fF Tryz.func160 (by kernel_rfl) rfl xs w;refine ACM.close (R:=slI) J7 hent λls e1 e2=>?_;refine (ACS.ahc slI Tryz.sortLL { Tryz.sortLL with } hent adw (λx y=>letI:St:=⟨True⟩;TB rfl rfl) e2 (by rw [←e1,al] at hb;exact hb)).mono ?_;rintro r ys ⟨m,hm,hs,rfl,rfl⟩;refine ⟨1,m,_,_,.perm hm,rfl,λj a hj ha=>?_,rfl,m.map Prod.snd,_,by rw [←e1];exact hm.map _,λi j x y hij hx hy=>?_,rfl,rfl,rfl⟩
 ·match j,ha with
  |0,ha=>cases ha;exact .CY
  |1,_=>exact (hj rfl).elim
  |2,ha=>cases ha;exact .any
  |n+3,ha=>simp at ha
 ·rw [ai] at hx hy
  cases h1:m[i]? with
  |none=>rw [h1] at hx;cases hx
  | some p=>
    cases h2:m[j]? with
    |none=>rw [h2] at hy;cases hy
    | some q=>
      rw [h1] at hx;rw [h2] at hy;cases hx;cases hy;exact hs i j p q hij h1 h2
theorem XM {α β:Type} {eq:β->β->Prop} {ls:List (α×β)} {i:Nat}:j6 (λp q:α×β=>eq p.2 q.2) ls i↔j6 eq (ls.map Prod.snd) i:=by
 unfold j6;constructor
 ·intro h x y hx h0 hy;rw [ai] at hx hy
  cases h1:ls[i]? with
  |none=>rw [h1] at hx;cases hx
  | some p=>
    cases h2:ls[i - 1]? with
    |none=>rw [h2] at hy;cases hy
    | some q=>
      rw [h1] at hx;rw [h2] at hy;cases hx;cases hy;exact h p q h1 h0 h2
 ·intro h p q hp h0 hq;exact h p.2 q.2 (by rw [ai,hp];rfl) h0 (by rw [ai,hq];rfl)
theorem Qe {α β:Type} {eq:β->β->Prop} (ls:List (α×β)):(gD (λp q:α×β=>eq p.2 q.2) ls).map Prod.snd=gD eq (ls.map Prod.snd):=by
 unfold gD pX oZ;rw [List.map_filterMap,al]
 have e:(λi=>decide (j6 (λp q:α×β=>eq p.2 q.2) ls i))=λi=>decide (j6 eq (ls.map Prod.snd) i):=funext λi=>by
  rw [decide_eq_decide];exact XM
 rw [e];congr 1;funext i;rw [ai]
theorem TD [St] {rs:List (List AV)} {l:List (List Int)} (hl:rs=l.map (llR true)) (hb:l.length<=1048576):ACM Tryz.prog 162 [.sl true 1 rs,.fn 80 []] (λr ys=>∃rs',rs'=(gD (·=·) l).map (llR true)/\r= .sl true 1 rs'/\ys=[.any,.any]):=by
 subst hl;have hent:Enters Tryz.prog 162:=λxs w=>fF Tryz.func162 (by kernel_rfl) rfl xs w;refine ACM.close (R:=slI) J7 hent λls e1 e2=>?_;refine (Ym (R:=slI) (eq:=(·=·)) (λx y=>PY rfl rfl) rfl (by rw [←e1,al] at hb;exact hb)).mono ?_;rintro r ys ⟨es,rfl,rfl,rfl⟩;refine ⟨0,_,_,_,Zk _ ls,rfl,λj a hj ha=>?_,rfl,_,?_,rfl,rfl⟩
 ·match j,ha with
  |0,_=>exact (hj rfl).elim
  |1,ha=>cases ha;exact .any
  |2,ha=>cases ha;exact .any
  |n+3,ha=>simp at ha
 ·rw [Qe,e1];rfl
noncomputable def sL (l:List Aid) (o:Obv):List Aid:=yD l o.atX o.atY o.eye o.vis
def numAt (s:List Aid) (i:Nat):Int:=((s[i]?).map Aid.number).getD 0
def prB (s:List Aid) (i t:Nat):List (List Int):=((s.drop (i+1)).take t).map λb=>[numAt s i,b.number]
def prA (s:List Aid):Nat->List (List Int)
 |0=>[]
 |i+1=>prA s i++prB s i s.length
noncomputable def prO (l:List Aid) (os:List Obv):Nat->List (List Int)
 |0=>[]
 | q+1=>prO l os q++match os[q]? with
   |some o=>prA (sL l o) (sL l o).length
   |none=>[]
theorem UJ (s:List Aid) (i t:Nat):(prB s i t).length<=s.length:=by
 unfold prB;rw [al,ba,ct];omega
theorem UK (s:List Aid):∀i,(prA s i).length<=i*s.length
 |0=>by simp [prA]
 | i+1=>by
   rw [prA,am,bz];have:=UK s i;have:=UJ s i s.length;omega
theorem afA (l:List Aid) (o:Obv):(sL l o).length<=l.length:=Ak _ _ _ _ _
theorem ZG {s:List Aid} {i:Nat} (h:s.length<=24) (hi:i<=s.length):(prA s i).length<=576:=by
 have h1:=UK s i;have h2:i*s.length<=24*24:=fm (by omega) h;omega
theorem UH {l:List Aid} (h:l.length<=24) (os:List Obv):∀q,(prO l os q).length<=q*576
 |0=>by simp [prO]
 | q +1=>by
   rw [prO,am,bz];have h1:=UH h os q;split
   ·rename_i o _;have h2:=afA l o;have:=ZG (s:=sL l o) (i:=(sL l o).length) (by omega) (aq _);omega
   ·simp;omega
def both (l:List Aid) (os:List Obv) (i k:Nat):Prop:=∃o∈os,∃a b,l[i]? =some a/\l[k]? =some b/\a.seen o.atX o.atY o.eye o.vis/\b.seen o.atX o.atY o.eye o.vis
noncomputable def pG (P:Nat->Nat->Prop) (i:Nat):Nat->List (Nat×Nat)
 |0=>[]
 |k+1=>pG P i k++if i<k/\P i k then [(i,k)] else []
noncomputable def allT (P:Nat->Nat->Prop) (n:Nat):Nat->List (Nat×Nat)
 |0=>[]
 |i+1=>allT P n i++pG P i n
def qm (l:List Aid) (p:Nat×Nat):List Int:=[numAt l p.1,numAt l p.2]
noncomputable def QS (l:List Aid) (os:List Obv):List (List Int)×Int:=if rF l os then (if os.length<=16 then ((allT (both l os) l.length l.length).map (qm l),0) else ([],5)) else ([],1)
theorem ZF {s:List Aid} {i t:Nat} {b:Aid} (hb:s[i+1+t]? =some b):prB s i (t+1)=prB s i t++[[numAt s i,b.number]]:=by
 unfold prB;rw [cq,bv,hb];simp
theorem ac0 {s:List Aid} {i t:Nat} (h:s.length<=i+1+t):prB s i t=prB s i s.length:=by
 unfold prB;rw [bm (by rw [ct];omega),bm (by rw [ct];omega)]
theorem gu {s:List Aid} {i:Nat} {v:Aid} (h:s[i]? =some v):numAt s i=v.number:=by unfold numAt;rw [h];rfl
theorem ac1 {s:List Aid} {X:List (List Int)} {i j ip:Int} (h0:0<=i) (hj:0<=j) (he:(s.length:Int)<=i+1+j) (hp:ip=i+1):X++prA s i.toNat++prB s i.toNat j.toNat=X++prA s ip.toNat:=by
 rw [show ip.toNat=i.toNat+1 by omega,prA,ac0 (by omega),cT]
theorem acY {l:List Aid} {os:List Obv} {u up i:Int} {o:Obv} {S:List Aid} (h0:0<=u) (ho:os[u.toNat]? =some o) (hS:S=sL l o) (hi:(S.length:Int)<=i) (hi2:i<=S.length) (hp:up=u+1):prO l os u.toNat++prA S i.toNat=prO l os up.toNat:=by
 rw [show up.toNat=u.toNat+1 by omega,prO,ho];show _=prO l os u.toNat++prA (sL l o) (sL l o).length;rw [←hS,show i.toNat=S.length by omega]
theorem afC {s:List Aid} {X:List (List Int)} {i j m jp:Int} {a b:Aid} (ha:s[i.toNat]? =some a) (hb:s[m.toNat]? =some b) (hm:m=i+1+j/\0<=i/\0<=j) (hj:jp=j+1):X++(prB s i.toNat j.toNat++[[a.number,b.number]])=X++prB s i.toNat jp.toNat:=by
 rw [show jp.toNat=j.toNat+1 by omega,ZF (b:=b) (by rw [show i.toNat+1+j.toNat=m.toNat by omega];exact hb),gu ha]
theorem U2 {s:List Aid} {a:Nat} {x:List Int}:x∈prB s a s.length↔∃c b,a<c/\s[c]? =some b/\x=[numAt s a,b.number]:=by
 unfold prB;rw [bm (by rw [ct];omega),cA];constructor
 ·rintro ⟨b,hb,rfl⟩;obtain ⟨j,hj⟩:=ap hb;rw [bv] at hj;exact ⟨a+1+j,b,by omega,hj,rfl⟩
 ·rintro ⟨c,b,h1,h2,rfl⟩;refine ⟨b,ae (i:=c - (a+1)) ?_,rfl⟩;rw [bv,show a+1+(c - (a+1))=c by omega];exact h2
theorem KO {s:List Aid} {x:List Int}:∀{i:Nat},x∈prA s i↔∃a,a<i/\x∈prB s a s.length
 |0=>by simp [prA]
 | i + 1=>by
   rw [prA,ca,KO];constructor
   ·rintro (⟨a,h1,h2⟩|h)
    ·exact ⟨a,by omega,h2⟩
    ·exact ⟨i,by omega,h⟩
   ·rintro ⟨a,h1,h2⟩;rcases da a i with h|h
    ·exact .inl ⟨a,h,h2⟩
    ·(have:a=i:=by omega);subst this;exact .inr h2
theorem U1 {l:List Aid} {os:List Obv} {x:List Int}:∀{u:Nat},x∈prO l os u↔∃a o,a<u/\os[a]? =some o/\x∈prA (sL l o) (sL l o).length
 |0=>by simp [prO]
 | u + 1=>by
   rw [prO,ca,U1];constructor
   ·rintro (⟨a,o,h1,h2,h3⟩|h)
    ·exact ⟨a,o,by omega,h2,h3⟩
    ·cases ho:os[u]? with
     |none=>rw [ho] at h;simp at h
     |some o=>rw [ho] at h;exact ⟨u,o,by omega,ho,h⟩
   ·rintro ⟨a,o,h1,h2,h3⟩;rcases da a u with h|h
    ·exact .inl ⟨a,o,h,h2,h3⟩
    ·(have:a=u:=by omega);subst this;rw [h2];exact .inr h3
theorem yT {P:Nat->Nat->Prop} {i:Nat} {p:Nat×Nat}:∀{k:Nat},p∈pG P i k↔p.1=i/\i<p.2/\p.2<k/\P i p.2
 |0=>by simp [pG]
 | k + 1 =>by
   rw [pG,ca,yT];constructor
   ·rintro (⟨h1,h2,h3,h4⟩|h)
    ·exact ⟨h1,h2,by omega,h4⟩
    ·split at h
     ·rename_i hc;rw [cg] at h;subst h;exact ⟨rfl,hc.1,by simp,hc.2⟩
     ·simp at h
   ·rintro ⟨h1,h2,h3,h4⟩;rcases da p.2 k with h|h
    ·exact .inl ⟨h1,h2,h,h4⟩
    ·(have e:p.2=k:=by omega);rw [if_pos (by rw [←e];exact ⟨h2,h4⟩)];right;rw [cg];exact Prod.ext h1 e
theorem lg {P:Nat->Nat->Prop} {n:Nat} {p:Nat×Nat}:∀{m:Nat},p∈allT P n m↔p.1<m/\p.1<p.2/\p.2<n/\P p.1 p.2
 |0=>by simp [allT]
 | m + 1=>by
   rw [allT,ca,lg,yT];constructor
   ·rintro (⟨h1,h2,h3,h4⟩|⟨h1,h2,h3,h4⟩)
    ·exact ⟨by omega,h2,h3,h4⟩
    ·rw [←h1] at h2 h4;exact ⟨by omega,h2,h3,h4⟩
   ·rintro ⟨h1,h2,h3,h4⟩;rcases da p.1 m with h|h
    ·exact .inl ⟨h,h2,h3,h4⟩
    ·(have e:p.1=m:=by omega);rw [e] at h2 h4;exact .inr ⟨e,h2,h3,h4⟩
theorem dn.pw {l:List Aid} (h:dn l):l.Pairwise λa b=>a.number<b.number:=
 dv.2 λi j hi hj hij=>h.inc (ag hi) j _ hij (ag hj)
def pLt (p q:Nat×Nat):Prop:=p.1<q.1∨p.1=q.1/\p.2<q.2
theorem Uz {P:Nat->Nat->Prop} {i:Nat}:∀k,(pG P i k).Pairwise pLt
 |0=> .nil
 | k +1=>by
   rw [pG,ia];refine ⟨Uz k,by split<;>simp,λp hp q hq=>?_⟩;split at hq
   ·rw [cg] at hq;subst hq;obtain ⟨h1,_,h3,_⟩:=yT.1 hp;exact .inr ⟨h1,h3⟩
   ·simp at hq
theorem VU {P:Nat->Nat->Prop} {n:Nat}:∀m,(allT P n m).Pairwise pLt
 |0=> .nil
 | m+1=>by
   rw [allT,ia];refine ⟨VU m,Uz n,λp hp q hq=> .inl ?_⟩;have h1:=(lg.1 hp).1;have h2:=(yT.1 hq).1;omega
theorem aiT {a b c d:Int} (h:a<c∨a=c/\b<d):lexLt [a,b] [c,d]:=by
 unfold lexLt;rw [ig];rcases h with h|⟨rfl,h⟩
 ·rw [if_pos h];omega
 ·rw [if_neg (gv a),if_neg (gv a),ig,if_pos h];omega
theorem ql {s:List Aid} (h:s.Pairwise λa b=>a.number<b.number) {i k:Nat} {a b:Aid} (ha:s[i]? =some a) (hb:s[k]? =some b):i<k↔a.number<b.number:=by
 have hi:=(aa.1 ha).1;have hk:=(aa.1 hb).1;have ea:=(aa.1 ha).2;have eb:=(aa.1 hb).2;have hp:=dv.1 h;constructor
 ·intro hlt;have:=hp i k hi hk hlt;rw [ea,eb] at this;exact this
 ·intro hlt;rcases dq i k with g|g|g
  ·exact g
  ·subst g;rw [ha] at hb;cases hb;omega
  ·have:=hp k i hk hi g;rw [ea,eb] at this;omega
theorem afn {l:List Aid} {os:List Obv} {m:List (List Int)} (hpw:l.Pairwise λa b=>a.number<b.number) (hp:m.Perm (prO l os os.length)) (hs:∀(i j:Nat) x y,i<j->m[i]? =some x->m[j]? =some y->¬ig y x<0):gD (·=·) m=(allT (both l os) l.length l.length).map (qm l):=by
 obtain ⟨h1,h2⟩:=Gl hs;refine BJ h1 ?_ λx=>?_
 ·rw [lB];refine (VU l.length).imp_of_mem λ{p q} hp hq hpq=>?_;obtain ⟨a1,a2,a3,_⟩:=lg.1 hp;obtain ⟨b1,b2,b3,_⟩:=lg.1 hq;(obtain ⟨v1,e1⟩:∃v,l[p.1]? =some v:=⟨_,ag a1⟩);(obtain ⟨v2,e2⟩:∃v,l[p.2]? =some v:=⟨_,ag a3⟩);(obtain ⟨w1,f1⟩:∃v,l[q.1]? =some v:=⟨_,ag b1⟩);(obtain ⟨w2,f2⟩:∃v,l[q.2]? =some v:=⟨_,ag b3⟩);unfold qm;rw [gu e1,gu e2,gu f1,gu f2];refine aiT ?_;rcases hpq with h|⟨h,h'⟩
  ·exact .inl ((ql hpw e1 f1).1 h)
  ·rw [h,f1] at e1;cases e1;exact .inr ⟨rfl,(ql hpw e2 f2).1 h'⟩
 ·rw [h2,hp.mem_iff,U1,cA];constructor
  ·rintro ⟨q,o,_,ho,hx⟩;obtain ⟨a,ha,hx⟩:=KO.1 hx;obtain ⟨c,b,hac,hb,rfl⟩:=U2.1 hx;have agi:(sL l o).Pairwise λa b=>a.number<b.number:=hpw.filter _;(obtain ⟨va,hva⟩:∃v,(sL l o)[a]? =some v:=⟨_,ag ha⟩);have hlt:=(ql agi hva hb).1 hac;have ma:=cV.1 (ae hva);have mb:=cV.1 (ae hb);obtain ⟨i,hi⟩:=ap ma.1;obtain ⟨k,hk⟩:=ap mb.1;have hik:=(ql hpw hi hk).2 hlt;refine ⟨(i,k),lg.2 ⟨(aa.1 hi).1,hik,(aa.1 hk).1,o,ae ho,va,b,hi,hk,by simpa using ma.2,by simpa using mb.2⟩,?_⟩;unfold qm;rw [gu hi,gu hk,gu hva]
  ·rintro ⟨⟨i,k⟩,hp,rfl⟩;obtain ⟨h3,h4,h5,o,ho,a,b,ha,hb,sa,sb⟩:=lg.1 hp;simp only at h3 h4 h5 ha hb;have agi:(sL l o).Pairwise λa b=>a.number<b.number:=hpw.filter _;have ma:a∈sL l o:=cV.2 ⟨ae ha,by simpa using sa⟩;have mb:b∈sL l o:=cV.2 ⟨ae hb,by simpa using sb⟩;obtain ⟨i',hi'⟩:=ap ma;obtain ⟨k',hk'⟩:=ap mb;have hlt:=(ql agi hi' hk').2 ((ql hpw ha hb).1 h4);obtain ⟨q,hq⟩:=ap ho;refine ⟨q,o,(aa.1 hq).1,hq,KO.2 ⟨i',(aa.1 hi').1,U2.2 ⟨k',b,hlt,hk',?_⟩⟩⟩;unfold qm;rw [gu ha,gu hb,gu hi']
theorem Uc {l:List Aid} {os:List Obv} (h:rF l os) (h16:os.length<=16):QS l os=((allT (both l os) l.length l.length).map (qm l),0):=by rw [QS,if_pos h,if_pos h16]
set_option maxHeartbeats 4000000
theorem wI [St] {rs ro:List (List AV)} {t t' b:Bool} {l:List Aid} {os:List Obv} (hl:rs=l.map (Aid.cs b)) (ho:ro=os.map Obv.cs):AP 87 [.sl t 16 rs,.sl t' 4 ro] OD (QS l os):=by
  refine ac Tryz.func87 (.OD _) λE K hE hK=>?_;refine aF (qD hl ho) (λhok=>?_) (λhok=>?_)<;>conv=>cbv
  ·refine bn ho λn hn hb=>?_;(conv=>cbv);have h24:=hok.1.2
   repeat' first
     |((refine bO [0,23,24] [25,6] (λ(u:Int) (es:List (List AV))=>([(25,.int .i64 u),(6,.ob 0)],[.row 1 es],os.length - u,(0<=u/\u<=os.length)/\es=(prO l os u.toNat).map (llR true))) [0] ((0,[])) (by dsimp only;exact ⟨by omega,rfl⟩) λu es hi2 Kn2 hN2=>?_);obtain ⟨⟨h0,h1⟩,h2⟩:=hi2;(have hpo:=UH h24 os u.toNat))
     |((refine bO [0,9,23,24,25,32,33] [34,6] (λ(i:Int) (es3:List (List AV))=>([(34,.int .i64 i),(6,.ob 0)],[.row 1 es3,.row 16 rs'],S.length - i,(0<=i/\i<=S.length)/\es3=(prO l os u.toNat++prA S i.toNat).map (llR true))) [0,2] ((0,es)) (by dsimp only;exact ⟨by omega,by rw [h2];simp [prA]⟩) λi es3 hi3 Kn3 hN3=>?_);obtain ⟨⟨i0,i1⟩,h3⟩:=hi3;(have hpa:=ZG ajp (i:=i.toNat) (by omega)))
     |((refine bO [0,9,11,23,24,25,32,33,34,42,43] [44,6] (λ(j:Int) (es4:List (List AV))=>([(44,.int .i64 j),(6,.ob 0)],[.row 1 es4,.row 16 rs',.box [.int .i64 number,.str name,.int .i64 atX,.int .i64 atY,.int .i64 height,.int .i64 aP,.str aC,.str aJ,.str bg,.int .i64 aO,.sl false 1 rg,.str aB,.str ak,.int .i64 au,.sl false 3 rx,.int .i64 aj]],S.length - i - j,(0<=j/\j+i+1<=S.length)/\es4=(prO l os u.toNat++prA S i.toNat++prB S i.toNat j.toNat).map (llR true))) [0,1,2] ((0,es3)) (by dsimp only;exact ⟨by omega,by rw [h3];simp [prB]⟩) λj es4 hi4 Kn4 hN4=>?_);obtain ⟨⟨j0,j1⟩,h4⟩:=hi4;(have hpb:=UJ S i.toNat j.toNat))
     |(refine hN4 _ _ [6,1,2] rfl ⟨?_,?_⟩)
     |(refine hN3 _ _ [0,1] rfl ⟨?_,?_⟩)
     |(refine hN2 _ _ [0] rfl ⟨?_,?_⟩)
     |((first
    |(refine bQ (R:=Obv.cs) ho (by omega) (λo hv=>?_);have hob:=hok.2 _ (ae hv);obtain ⟨ox,oy,oe,ov⟩:=o)
    |(refine abC (WC _ _ _ _ hl hok.1.all hob (by omega)) ?_;rintro r ys ⟨rs',hrs,rfl,rfl⟩;(obtain ⟨S,hS⟩:∃S,S=yD l ox oy oe ov:=⟨_,rfl⟩);rw [←hS] at hrs;(have ajp:S.length<=24:=by rw [hS];exact cE (Ak _ _ _ _ _) h24))
    |refine bn hrs (λn5 hn5 hb5=>?_)
    |refine iU (i:=i) hrs (by omega) (λnumber name atX atY height aP aC aJ bg aO aM aB ak au aD aj rg rx hvA hgA hxA=>?_)
    |refine iH (a:=i) (b:=1) (by omega) (λip hip=>?_)
    |(refine Rj (by simp only [bp,cD];rw [hrs,al];omega) (λ_ _=>?_))
    |refine eX (a:=n5) (b:=ip) (by omega) (λd hd=>?_)
    |refine uz (show 0<=j/\j<n5 - ip from ⟨by omega,by omega⟩) ?_
    |refine iH (a:=ip) (b:=j) (by omega) (λm hm=>?_)
    |refine iU (i:=m) hrs (by omega) (λUU name2 ajy ajx ad6 afM ZY ado ahs afP adz aac aad Z9 Zm Sj rg2 rx2 hvB hgB hxB=>?_)
    |(refine jA (R:=llR true) (v:=[number,UU]) h4 (by rfl) (by simp only [am];omega) (λes5 Ll=>?_))
    |(refine iY (acF h2 (by omega)) ?_;rintro r ys ⟨m9,rs9,hp9,hs9,ahG,rfl,rfl⟩;(have hl9:=hp9.length_eq))
    |(refine iY (TD ahG (by omega)) ?_;rintro r ys ⟨rs8,ai7,rfl,rfl⟩)
    |refine aF (F4 _ _) (λ_=>?_) (λ_=>?_)
    |refine dW 1 ?_
    |refine bn ho (λ_ _ _=>?_)
    |refine Ij (by rw [ahG,h2,al,al];omega) ?_
    |refine B0 ?_|refine B1 ?_ ?_)<;>intros<;>(try conv=>cbv))
   (all_goals (try clear hN2));(all_goals (try clear hN3));all_goals (try clear hN4)
   all_goals first
    |omega
    |(rw [h4,ac1 i0 j0 (by omega) hip])
    |(rw [h3,acY h0 hv hS (by omega) i1 (by assumption)])
    |(rw [Ll,cT,afC hvA hvB (by omega) (by assumption)])
    |(refine hK _ ?_;rw [Uc hok (by omega),ai7,afn hok.1.pw (by rw [show os.length=u.toNat by omega];exact hp9) hs9];rfl)
    |(refine hK _ ?_;rw [QS,if_pos hok,if_neg (by omega)];rfl)
  ·refine dW 1 ?_;(conv=>cbv);exact hK _ (by rw [QS,if_neg hok];rfl)
set_option maxHeartbeats 2000000
def TM (v:Bool):List AV:=[.bool v]
def Sq (n:Nat) (B:List Bool) (M:Nat->Nat->Prop):Prop:=B.length=n*n/\∀a c,a<n->c<n->B[a*n+c]? =some (bP (M a c))
theorem M4 {n a c:Nat} (ha:a<n) (hc:c<n):a*n+c<n*n:=by
 have h1:(a+1)*n<=n*n:=bc n (by omega);rw [bz] at h1;omega
theorem afu {n a c a' c':Nat} (hc:c<n) (hc':c'<n) (h:a*n+c=a'*n+c'):a=a'/\c=c':=by
 have h0:0<n:=by omega
 have e1:(a*n+c) / n=a:=by rw [fx,ke h0,jx hc];rfl
 have e2:(a'*n+c') / n=a':=by rw [fx,ke h0,jx hc'];rfl
 have:a=a':=by rw [←e1,←e2,h]
 subst this;exact ⟨rfl,by omega⟩
theorem Sq.zero {n:Nat} {M:Nat->Nat->Prop} (h:∀a c,¬M a c):Sq n (List.replicate (n*n) false) M:=by
 refine ⟨by simp,λa c ha hc=>?_⟩;rw [eh,if_pos (M4 ha hc),ah.2 (h a c)]
theorem Sq.put {n:Nat} {B:List Bool} {M M':Nat->Nat->Prop} {x y:Nat} (h:Sq n B M) (hx:x<n) (hy:y<n) (hM:∀a c,M' a c↔M a c∨a=x/\c=y):Sq n (B.set (x*n+y) true) M':=by
 refine ⟨by rw [bo];exact h.1,λa c ha hc=>?_⟩;rw [bh];split
 ·rename_i e;obtain ⟨rfl,rfl⟩:=afu hy hc e;rw [if_pos (by rw [h.1];exact M4 hx hy),aG.2 ((hM x y).2 (.inr ⟨rfl,rfl⟩))]
 ·rename_i e;rw [h.2 a c ha hc];congr 1;by_cases hm:M a c
  ·rw [aG.2 hm,aG.2 ((hM a c).2 (.inl hm))]
  ·rw [ah.2 hm,ah.2 λh'=>?_];rcases (hM a c).1 h' with h1|⟨rfl,rfl⟩
   ·exact hm h1
   ·exact e rfl
theorem Sq.congr {n:Nat} {B:List Bool} {M M':Nat->Nat->Prop} (h:Sq n B M) (hM:∀a c,M' a c↔M a c):Sq n B M':=
 ⟨h.1,λa c ha hc=>by rw [h.2 a c ha hc,show M a c=M' a c from propext (hM a c).symm]⟩
def mJ (X:List Int) (k j:Int) (a c:Nat):Prop:=∃j':Nat,(j':Int)<j/\X[j']? =some (a:Int)/\X[k.toNat]? =some (c:Int)
def mK (X:List Int) (k:Int) (a c:Nat):Prop:=∃k':Nat,(k':Int)<k/\∃j':Nat,j'<k'/\X[j']? =some (a:Int)/\X[k']? =some (c:Int)
def mO (l:List Aid) (os:List Obv) (u:Int) (a c:Nat):Prop:=∃q o,((q:Nat):Int)<u/\os[q]? =some o/\mK (qJ l o.atX o.atY o.eye o.vis) (qJ l o.atX o.atY o.eye o.vis).length a c
theorem adr {X:List Int} {k j jp x y:Int} (h0:0<=j) (hx:X[j.toNat]? =some x) (hy:X[k.toNat]? =some y) (hp:jp=j+1) (hx0:0<=x) (hy0:0<=y) (a c:Nat):mJ X k jp a c↔mJ X k j a c∨a=x.toNat/\c=y.toNat:=by
 constructor
 ·rintro ⟨j',h1,h2,h3⟩;by_cases e:(j':Int)<j
  ·exact .inl ⟨j',e,h2,h3⟩
  ·(have e:j'=j.toNat:=by omega);subst e;rw [hx] at h2;rw [hy] at h3;cases h2;cases h3;exact .inr ⟨by omega,by omega⟩
 ·rintro (⟨j',h1,h2,h3⟩|⟨rfl,rfl⟩)
  ·exact ⟨j',by omega,h2,h3⟩
  ·exact ⟨j.toNat,by omega,by rw [hx];congr 1;omega,by rw [hy];congr 1;omega⟩
theorem adq {X:List Int} {k kp:Int} (h0:0<=k) (hp:kp=k+1) (a c:Nat):mK X kp a c↔mK X k a c∨mJ X k k a c:=by
 constructor
 ·rintro ⟨k',h1,j',h2,h3,h4⟩;by_cases e:(k':Int)<k
  ·exact .inl ⟨k',e,j',h2,h3,h4⟩
  ·(have e:k'=k.toNat:=by omega);subst e;exact .inr ⟨j',by omega,h3,h4⟩
 ·rintro (⟨k',h1,h2⟩|⟨j',h1,h2,h3⟩)
  ·exact ⟨k',by omega,h2⟩
  ·exact ⟨k.toNat,by omega,j',by omega,h2,h3⟩
theorem adp {l:List Aid} {os:List Obv} {u up:Int} {o:Obv} (h0:0<=u) (ho:os[u.toNat]? =some o) (hp:up=u+1) (a c:Nat):mO l os up a c↔mO l os u a c∨mK (qJ l o.atX o.atY o.eye o.vis) (qJ l o.atX o.atY o.eye o.vis).length a c:=by
 constructor
 ·rintro ⟨q,o',h1,h2,h3⟩;by_cases e:(q:Int)<u
  ·exact .inl ⟨q,o',e,h2,h3⟩
  ·(have e:q=u.toNat:=by omega);subst e;rw [ho] at h2;cases h2;exact .inr h3
 ·rintro (⟨q,o',h1,h2,h3⟩|h)
  ·exact ⟨q,o',by omega,h2,h3⟩
  ·exact ⟨u.toNat,o,by omega,ho,h⟩
theorem WB {l:List Aid} (hpw:l.Pairwise λa b=>a.number<b.number) {x y e s:Int} {j k:Nat} {a c:Int} (hj:(qJ l x y e s)[j]? =some a) (hk:(qJ l x y e s)[k]? =some c):j<k↔a<c:=by
 obtain ⟨v,h1,h2,h3,h4⟩:=oo hj;obtain ⟨w,g1,g2,g3,g4⟩:=oo hk;have hpS:(yD l x y e s).Pairwise λa b=>a.number<b.number:=hpw.filter _;rw [ql hpS h1 g1,←ql hpw h2 g2];omega
theorem afL {l:List Aid} {os:List Obv} (hpw:l.Pairwise λa b=>a.number<b.number) {i k:Nat} (hik:i<k):mO l os os.length i k↔both l os i k:=by
 constructor
 ·rintro ⟨q,o,h1,h2,k',h3,j',h4,h5,h6⟩;obtain ⟨v,g1,g2,_,_⟩:=oo h5;obtain ⟨w,f1,f2,_,_⟩:=oo h6;have mv:=cV.1 (ae g1);have mw:=cV.1 (ae f1);exact ⟨o,ae h2,v,w,g2,f2,by simpa using mv.2,by simpa using mw.2⟩
 ·rintro ⟨o,ho,a,b,ha,hb,sa,sb⟩;obtain ⟨q,hq⟩:=ap ho
  have key:∀(i:Nat) (a:Aid),l[i]? =some a->a.seen o.atX o.atY o.eye o.vis->∃j:Nat,(qJ l o.atX o.atY o.eye o.vis)[j]? =some (i:Int):=λi a ha sa=>by
   have ma:a∈yD l o.atX o.atY o.eye o.vis:=cV.2 ⟨ae ha,by simpa using sa⟩;obtain ⟨j,hj⟩:=ap ma;have hjl:=(aa.1 hj).1;rw [←Ie] at hjl;(obtain ⟨z,hz⟩:∃z,(qJ l o.atX o.atY o.eye o.vis)[j]? =some z:=⟨_,ag hjl⟩);obtain ⟨v,g1,g2,g3,g4⟩:=oo hz;rw [hj] at g1;cases g1;have e1:=ql hpw ha g2;have e2:=ql hpw g2 ha;(have:z=(i:Int):=by omega);exact ⟨j,by rw [hz,this]⟩
  obtain ⟨j,hj⟩:=key i a ha sa;obtain ⟨k',hk⟩:=key k b hb sb;refine ⟨q,o,by have:=(aa.1 hq).1;omega,hq,k',by have:=(aa.1 hk).1;omega,j,?_,hj,hk⟩;exact (WB hpw hj hk).2 (by omega)
theorem Nu {P:Nat->Nat->Prop} {i:Nat}:∀{k:Nat},k<=i+1->pG P i k=[]
 |0,_=>rfl
 |k+1,h=>by rw [pG,Nu (by omega),if_neg (λh'=>by omega)];rfl
theorem Ep (P:Nat->Nat->Prop) (i:Nat):∀k,(pG P i k).length<=k
 |0=>by simp [pG]
 | k+1=>by
   rw [pG,am];have:=Ep P i k;split<;>simp<;>omega
theorem QD (P:Nat->Nat->Prop) (n:Nat):∀m,(allT P n m).length<=m*n
 |0=>by simp [allT]
 | m+1=>by
   rw [allT,am,bz];have:=QD P n m;have:=Ep P m n;omega
def pI (p:Nat×Nat):List Int:=[(p.1:Int),(p.2:Int)]
theorem VW {P:Nat->Nat->Prop} {n m:Nat} (hn:n<=24) (hm:m<=n):(allT P n m).length<=576:=by
 have h1:=QD P n m;have h2:m*n<=24*24:=fm (by omega) hn;omega
theorem acQ {P:Nat->Nat->Prop} {X:List (Nat×Nat)} {i k kp:Int} (hi:0<=i) (hik:i<k) (hp:kp=k+1) (h:P i.toNat k.toNat):(X++pG P i.toNat k.toNat).map pI++[[i,k]]=(X++pG P i.toNat kp.toNat).map pI:=by
 rw [show kp.toNat=k.toNat+1 by omega,pG,if_pos ⟨by omega,h⟩];simp [pI];omega
theorem Zu {P:Nat->Nat->Prop} {X:List (Nat×Nat)} {i k kp:Int} (hk:0<=k) (hp:kp=k+1) (h:¬P i.toNat k.toNat):(X++pG P i.toNat k.toNat).map pI=(X++pG P i.toNat kp.toNat).map pI:=by
 rw [show kp.toNat=k.toNat+1 by omega,pG,if_neg (λh'=>h h'.2),dr]
theorem EP {n m a c:Int} (ha:0<=a/\a<n) (hc:0<=c/\c<n) (hn:n<=24) (hm:m=a*n):0<=m/\m+c<=575/\(m+c).toNat=a.toNat*n.toNat+c.toNat:=by
 obtain ⟨N,rfl⟩:∃N:Nat,n=N:=⟨n.toNat,by omega⟩
 obtain ⟨A,rfl⟩:∃A:Nat,a=A:=⟨a.toNat,by omega⟩
 obtain ⟨C,rfl⟩:∃C:Nat,c=C:=⟨c.toNat,by omega⟩
 have h1:=M4 (n:=N) (a:=A) (c:=C) (by omega) (by omega);have h2:N*N<=24*24:=fm (by omega) (by omega);have e:m=((A*N:Nat):Int):=by rw [hm];simp
 simp only [di];omega
theorem aeY {n m a c:Int} (ha:0<=a/\a<n) (hc:0<=c/\c<n) (hn:n<=24) (hm:m=a*n): -9223372036854775808<=m+c/\m+c<=9223372036854775807:=by
 have:=EP ha hc hn hm;omega
theorem bPI {p:Prop} {A B:Prop} (h1:p->A) (h2:¬p->B):if bP p=true then A else B:=by
 by_cases h:p
 ·rw [if_pos (aG.2 h)];exact h1 h
 ·rw [if_neg (by rw [ah.2 h];decide)];exact h2 h
set_option maxHeartbeats 4000000
theorem KY [St] {rs ro:List (List AV)} {t t' b:Bool} {l:List Aid} {os:List Obv} (hl:rs=l.map (Aid.cs b)) (ho:ro=os.map Obv.cs) (hok:rF l os) (h16:os.length<=16):AP 197 [.sl t 16 rs,.sl t' 4 ro] (λl:List (List Int)=> .sl true 1 (l.map (llR true))) ((allT (both l os) l.length l.length).map pI):=by
  refine ac Tryz.func197 (.lls _) λE K hE hK=>?_;have h24:=hok.1.2;have hpw:=hok.1.pw;refine bn hl λn hn hbn=>?_;conv=>cbv
  refine bn hl λn' hn' ajN=>?_;conv=>cbv
  have hnn:0<=n*n'/\n*n'<=576:=by
   have h2:l.length*l.length<=24*24:=fm h24 h24;rw [hn,hn'];(have:((l.length:Int))*(l.length:Int)=((l.length*l.length:Nat):Int):=by simp);omega
  refine nM (by omega) λnn ajc=>?_;conv=>cbv
  refine Oy (by omega) λes0 agv=>?_;conv=>cbv
  have ajb:nn.toNat=l.length*l.length:=by
   rw [ajc,hn,hn'];(have:((l.length:Int))*(l.length:Int)=((l.length*l.length:Nat):Int):=by simp);rw [this,di]
  have hz:es0=(List.replicate (l.length*l.length) false).map TM:=by rw [agv,ajb,List.map_replicate];rfl
  have hs0:Sq l.length (List.replicate (l.length*l.length) false) (mO l os 0):=Sq.zero λa c ⟨q,_,h,_⟩=>by omega
  repeat' first
    |((refine iR [0,1] [6,5] (λ(u:Int) (B:List Bool) (es:List (List AV))=>([(6,.int .i64 u),(5,.ob 0)],[.row 1 es],os.length - u,(0<=u/\u<=os.length)/\es=B.map TM/\Sq l.length B (mO l os u))) [0] ((0,_,es0)) (hV:=rfl) (hO:=rfl) (by dsimp only;exact ⟨by omega,hz,hs0⟩) λu B es hi2 Kn2 hN2=>?_);obtain ⟨⟨h0,h1⟩,h2,hsq⟩:=hi2)
    |((refine iR [0,1,6,7] [8,5] (λ(k:Int) (Ba:List Bool) (es3:List (List AV))=>([(8,.int .i64 k),(5,.ob 0)],[.row 1 es3,.row 1 rs'],X.length - k,(0<=k/\k<=X.length)/\es3=Ba.map TM/\Sq l.length Ba (λa c=>mO l os u a c∨mK X k a c))) [0,1] ((0,B,es)) (by dsimp only;exact ⟨by omega,h2,hsq.congr λa c=>⟨λh=>h.elim id λ⟨_,h,_⟩=>by omega,.inl⟩⟩) λk Ba es3 hi3 Kn3 hN3=>?_);obtain ⟨⟨k0,k1⟩,h3,ahF⟩:=hi3)
    |((refine iR [0,1,6,7,8] [9,5] (λ(j:Int) (Bb:List Bool) (es4:List (List AV))=>([(9,.int .i64 j),(5,.ob 0)],[.row 1 es4,.row 1 rs'],k - j,(0<=j/\j<=k)/\es4=Bb.map TM/\Sq l.length Bb (λa c=>(mO l os u a c∨mK X k a c)∨mJ X k j a c))) [0,1] ((0,Ba,es3)) (by dsimp only;exact ⟨by omega,h3,ahF.congr λa c=>⟨λh=>h.elim id λ⟨_,h,_⟩=>by omega,.inl⟩⟩) λj Bb es4 hi4 Kn4 hN4=>?_);obtain ⟨⟨j0,j1⟩,h4,af9⟩:=hi4)
    |((refine iR [0] [11,5,10] (λ(i:Int) (out:List (List Int)) (eo:List (List AV))=>([(11,.int .i64 i),(5,.ob 0),(10,.ob 1)],[.row 1 es,.row 1 eo],l.length - i,(0<=i/\i<=l.length)/\eo=out.map (llR true)/\out=(allT (both l os) l.length i.toNat).map pI)) [0,1] ((0,[],[])) (by dsimp only;exact ⟨by omega,rfl,rfl⟩) λi out eo hi5 Kn5 hN5=>?_);obtain ⟨⟨i0,i1⟩,h6,h7⟩:=hi5;(have hat:=VW (P:=both l os) h24 (m:=i.toNat) (by omega)))
    |((refine iR [0,11] [12,5,10] (λ(k:Int) (WV:List (List Int)) (eo8:List (List AV))=>([(12,.int .i64 k),(5,.ob 0),(10,.ob 1)],[.row 1 es,.row 1 eo8],l.length - k,(i<k/\k<=l.length)/\eo8=WV.map (llR true)/\WV=(allT (both l os) l.length i.toNat++pG (both l os) i.toNat k.toNat).map pI)) [0,1] ((ip,out,eo)) (by dsimp only;exact ⟨by omega,h6,by rw [h7,Nu (by omega),dr]⟩) λk WV eo8 hi6 Kn6 hN6=>?_);obtain ⟨⟨k0,k1⟩,h8,h9⟩:=hi6;(have hrt:=Ep (both l os) i.toNat k.toNat))
    |(refine hN4 _ (Bb.set m2.toNat true) _ [0,1] rfl ⟨?_,Ll,?_⟩)
    |(refine hN3 _ Bb _ [0,1] rfl ⟨?_,h4,?_⟩)
    |(refine hN2 _ Ba _ [0] rfl ⟨?_,h3,?_⟩)
    |(refine hN6 _ (WV++[[i,k]]) _ [0,4] rfl ⟨?_,ajl,?_⟩)
    |(refine hN6 _ WV _ [0,1] rfl ⟨?_,h8,?_⟩)
    |(refine hN5 _ WV _ [0,1] rfl ⟨?_,h8,?_⟩)
    |((first
   |(refine bQ (R:=Obv.cs) ho (by omega) (λo hv=>?_);have hob:=hok.2 _ (ae hv);obtain ⟨ox,oy,oe,ov⟩:=o)
   |(refine dJ (adE _ _ _ _ hl hok.1.all hob (by omega)) (λrs' hrs=>?_);(obtain ⟨X,hX⟩:∃X,X=qJ l ox oy oe ov:=⟨_,rfl⟩);rw [←hX] at hrs;(have ajO:X.length<=24:=by rw [hX,Ie];exact cE (Ak _ _ _ _ _) h24);(have hXg:∀(k:Nat) j,X[k]? =some j->0<=j/\j<l.length:=λk j hj=>by rw [hX] at hj;obtain ⟨_,_,_,g1,g2⟩:=oo hj;exact ⟨g1,g2⟩))
   |refine bn hrs (λn5 hn5 hb5=>?_)
   |(refine bQ (R:=aN) (i:=j) hrs (by omega) (λa hA=>?_);(have hAg:=hXg _ _ hA))
   |(refine bQ (R:=aN) (i:=k) hrs (by omega) (λc hC=>?_);(have hCg:=hXg _ _ hC))
   |refine bn hl (λn6 hn6 hb6=>?_)
   |refine mulC 24 (a:=a) (b:=n6) (by omega) (by omega) (λmm hmm _ _=>?_)
   |(refine iH (a:=mm) (b:=c) (aeY (a:=a) (n:=n6) (by omega) (by omega) (by omega) hmm) (λm2 hm2=>?_);(obtain ⟨q1,q2,q3⟩:=EP (a:=a) (c:=c) (n:=n6) (m:=mm) (by omega) (by omega) (by omega) hmm);(have agq:m2.toNat=a.toNat*l.length+c.toNat:=by rw [hm2,q3,hn6,di]);(have hsl:=M4 (n:=l.length) (a:=a.toNat) (c:=c.toNat) (by omega) (by omega));(have hBl:=af9.1))
   |refine bQ (R:=TM) (i:=m2) h4 (by omega) (λv0 hv0=>?_)
   |refine wB (R:=TM) true h4 (by omega) hv0 (by exact bt rfl) (by rfl) (λes5 Ll=>?_)
   |refine iH (a:=i) (b:=1) (by omega) (λip hip=>?_)
   |refine mulC 24 (a:=i) (b:=n6) (by omega) (by omega) (λmm hmm _ _=>?_)
   |(refine iH (a:=mm) (b:=k) (aeY (a:=i) (n:=n6) (by omega) (by omega) (by omega) hmm) (λm2 hm2=>?_);(obtain ⟨q1,q2,q3⟩:=EP (a:=i) (c:=k) (n:=n6) (m:=mm) (by omega) (by omega) (by omega) hmm);(have agq:m2.toNat=i.toNat*l.length+k.toNat:=by rw [hm2,q3,hn6,di]);(have hsl:=M4 (n:=l.length) (a:=i.toNat) (c:=k.toNat) (by omega) (by omega));(have hBl:=hsq.1))
   |refine gK (R:=TM) (i:=m2) h2 (by omega) (v:=bP (both l os i.toNat k.toNat)) (by rw [agq,hsq.2 i.toNat k.toNat (by omega) (by omega),show u=(os.length:Int) by omega,show mO l os (os.length:Int) i.toNat k.toNat=both l os i.toNat k.toNat from propext (afL hpw (by omega))]) ?_
   |refine bPI (λhbo=>?_) (λhbo=>?_)
   |(refine jA (R:=llR true) (v:=[i,k]) h8 (by rfl) (by rw [h9,al,am];omega) (λeo9 ajl=>?_))
   |refine B0 ?_|refine B1 ?_ ?_)<;>intros<;>(try conv=>cbv))
  all_goals (try clear hN2)
  all_goals (try clear hN3)
  all_goals (try clear hN4)
  all_goals (try clear hN5)
  all_goals (try clear hN6)
  all_goals first
   |omega
   |(rw [agq];exact af9.put (by omega) (by omega) λp q=>by rw [adr j0 hA hC (by assumption) hAg.1 hCg.1];exact or_assoc.symm)
   |exact af9.congr λp q=>by rw [adq k0 (by assumption),show j=k by omega];exact or_assoc.symm
   |exact ahF.congr λp q=>by rw [adp h0 hv (by assumption),←hX,show k=(X.length:Int) by omega]
   |(rw [h9];exact acQ i0 k0 (by assumption) hbo)
   |(rw [h9];exact Zu (by omega) (by assumption) hbo)
   |(rw [h9,show k.toNat=l.length by omega,show ip.toNat=i.toNat+1 by omega,allT])
   |(refine hK _ ?_;rw [h6,h7,show i.toNat=l.length by omega];rfl)
set_option maxHeartbeats 2000000
theorem ahk {L:List (Nat×Nat)} {i:Nat} {p:Nat×Nat} {A C:Int} (h:L[i]? =some p) (hA:A=p.1) (hC:C=p.2):(L.map pI)[i]? =some [A,C]:=by
 rw [ai,h,hA,hC];rfl
theorem adh {l:List Aid} {p:Nat×Nat} {A C:Int} {a b:Aid} (hA:A=p.1) (hC:C=p.2) (ha:l[A.toNat]? =some a) (hb:l[C.toNat]? =some b):qm l p=[a.number,b.number]:=by
 unfold qm;rw [gu (v:=a) (by rw [←ha,hA];rfl),gu (v:=b) (by rw [←hb,hC];rfl)]
set_option maxHeartbeats 4000000
end Go.Proofs.YtnlhnideeaobpaaGreatDoor
