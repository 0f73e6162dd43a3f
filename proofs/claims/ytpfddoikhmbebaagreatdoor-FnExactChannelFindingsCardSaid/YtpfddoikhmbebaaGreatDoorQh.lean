/- Channels: lengths, places, gates: plain; Contracts: nearest quotients, places between points; Contracts: channels and their gates. -/
import Derived.Test.YtpfddoikhmbebaaGreatDoorFB
namespace Go.Proofs.YtpfddoikhmbebaaGreatDoor
open Go Go.RowKit Classical
set_option maxRecDepth 100000
set_option maxHeartbeats 2000000
set_option linter.unusedVariables false
set_option linter.unusedSimpArgs false
def halfR (a b:Int):Int:=(2*a+b) / (2*b)
def divR (a b:Int):Int:=if a<0 then -halfR (-a) b else halfR a b
theorem halfR_eq {a b:Int} (hb:0<b):halfR a b=if b - a % b<=a % b then a / b+1 else a / b:=by
  have h1:=Int.mul_ediv_add_emod a b
  have h2:=Int.emod_nonneg a (show b≠0 by omega)
  have h3:=Int.emod_lt_of_pos a hb
  unfold halfR
  generalize a / b=q at*
  generalize a % b=r at*
  have e1:(q+1)*(2*b)=2*(b*q)+2*b:=by grind
  have e0:q*(2*b)=2*(b*q):=by grind
  have e2:(q+1+1)*(2*b)=2*(b*q)+4*b:=by grind
  split
  · refine Int.le_antisymm ?_ (Int.le_ediv_of_mul_le (by omega) (by omega))
    have:=Int.ediv_lt_of_lt_mul (a:=2*a+b) (b:=q+1+1) (c:=2*b) (by omega) (by omega)
    omega
  · refine Int.le_antisymm ?_ (Int.le_ediv_of_mul_le (by omega) (by omega))
    have:=Int.ediv_lt_of_lt_mul (a:=2*a+b) (b:=q+1) (c:=2*b) (by omega) (by omega)
    omega
theorem halfR_bd {a b:Int} (ha:0<=a) (hb:0<b):0<=halfR a b/\halfR a b<=a:=by
  unfold halfR
  refine ⟨Int.ediv_nonneg (by omega) (by omega),?_⟩
  have h1:0<=a*(b - 1):=Int.mul_nonneg ha (by omega)
  have e:(a+1)*(2*b)=2*(a*(b - 1))+2*a+2*b:=by grind
  have:=Int.ediv_lt_of_lt_mul (a:=2*a+b) (b:=a+1) (c:=2*b) (by omega) (by omega)
  omega
theorem divR_bd {a b B:Int} (hb:0<b) (h: -B<=a/\a<=B): -B<=divR a b/\divR a b<=B:=by
  unfold divR
  split
  · have:=halfR_bd (a:= -a) (b:=b) (by omega) hb;omega
  · have:=halfR_bd (a:=a) (b:=b) (by omega) hb;omega
theorem distR_pos {x y x' y':Int} (h:PtOk x y) (k:PtOk x' y') (hne:¬(x=x'/\y=y')):1<=distR x y x' y':=by
  rw [distR,if_pos ⟨h,k⟩]
  have hb:=sqd_bd h k
  have hp:1<=sqd x y x' y':=by
    unfold sqd
    have h3:=sq_nn (x - x')
    have h4:=sq_nn (y - y')
    by_cases hx:x=x'
    · have hy:y - y'≠0:=by omega
      rcases Int.lt_or_gt_of_ne hy with h5|h5
      · have:=Int.mul_le_mul (a:=1) (b:=1) (c:= -(y - y')) (d:= -(y - y')) (by omega) (by omega) (by omega) (by omega)
        rw [Int.neg_mul_neg] at this;omega
      · have:=Int.mul_le_mul (a:=1) (b:=1) (c:=(y - y')) (d:=(y - y')) (by omega) (by omega) (by omega) (by omega)
        omega
    · have hy:x - x'≠0:=by omega
      rcases Int.lt_or_gt_of_ne hy with h5|h5
      · have:=Int.mul_le_mul (a:=1) (b:=1) (c:= -(x - x')) (d:= -(x - x')) (by omega) (by omega) (by omega) (by omega)
        rw [Int.neg_mul_neg] at this;omega
      · have:=Int.mul_le_mul (a:=1) (b:=1) (c:=(x - x')) (d:=(x - x')) (by omega) (by omega) (by omega) (by omega)
        omega
  obtain ⟨h1,h2,h3⟩:=rootI_spec hb.1
  rcases Int.lt_or_le (rootI (sqd x y x' y')) 1 with h4|h4
  · have:rootI (sqd x y x' y')=0:=by omega
    rw [this] at h3;omega
  · exact h4
noncomputable def segs:List Pnt->List Int
  |p::q::l=>distR p.x p.y q.x q.y::segs (q::l)
  |_=>[]
theorem segs_len:∀l:List Pnt,(segs l).length=l.length - 1
  |[]=>rfl
  |[_]=>rfl
  |p::q::l=>by simp only [segs,List.length_cons,segs_len (q::l)];omega
theorem segs_get:∀(l:List Pnt) (i:Nat) (p q:Pnt),l[i]? =some p->l[i+1]? =some q->(segs l)[i]? =some (distR p.x p.y q.x q.y)
  |[],i,p,q,h,_=>by simp at h
  |[_],i,p,q,_,h=>by simp at h
  | a::b::l,0,p,q,h,k=>by
    simp at h k;subst h;subst k;rfl
  | a::b::l,i+1,p,q,h,k=>by
    have:=segs_get (b::l) i p q (by simpa using h) (by simpa using k)
    simpa [segs] using this
def LnC (l:List Pnt) (j:Nat):Prop:=∃p,l[j]? =some p/\PtOk p.x p.y/\(0<j->∃q,l[j - 1]? =some q/\q≠p)
def LnOk (l:List Pnt):Prop:=∀j,j<l.length->LnC l j
def ChnOk (n:ByteArray) (l:List Pnt) (w:Int):Prop:=LnOk l/\NameOk n/\(2<=l.length/\l.length<=12)/\(10<=w/\w<=5000)
theorem LnOk.pt {l:List Pnt} (h:LnOk l) {j:Nat} {p:Pnt} (hp:l[j]? =some p):PtOk p.x p.y:=by
  obtain ⟨p',h1,h2,_⟩:=h j (List.getElem?_eq_some_iff.1 hp).1
  rw [hp] at h1;cases h1;exact h2
theorem LnOk.ne {l:List Pnt} (h:LnOk l) {j:Nat} {p q:Pnt} (hp:l[j]? =some p) (hq:l[j+1]? =some q):¬(p.x=q.x/\p.y=q.y):=by
  obtain ⟨q',h1,_,h3⟩:=h (j+1) (List.getElem?_eq_some_iff.1 hq).1
  rw [hq] at h1;cases h1
  obtain ⟨p',h4,h5⟩:=h3 (by omega)
  rw [Nat.add_sub_cancel,hp] at h4;cases h4
  intro he
  apply h5
  cases p;cases q;simp at he;simp [he]
theorem LnOk.seg {l:List Pnt} (h:LnOk l) {j:Nat} {p q:Pnt} (hp:l[j]? =some p) (hq:l[j+1]? =some q):1<=distR p.x p.y q.x q.y/\distR p.x p.y q.x q.y<=300000:=
  ⟨distR_pos (h.pt hp) (h.pt hq) (h.ne hp hq),(distR_bd _ _ _ _).2⟩
theorem LnOk.segs {l:List Pnt} (h:LnOk l):∀n∈segs l,1<=n/\n<=300000:=λn hn=>by
  obtain ⟨j,hj⟩:=List.getElem?_of_mem hn
  have hlt:=(List.getElem?_eq_some_iff.1 hj).1
  rw [segs_len] at hlt
  have hp:l[j]? =some l[j]:=List.getElem?_eq_getElem (by omega)
  have hq:l[j+1]? =some l[j+1]:=List.getElem?_eq_getElem (by omega)
  rw [segs_get l j _ _ hp hq] at hj
  cases hj
  exact h.seg hp hq
def sumS (ds:List Int) (i:Int):Int:=(ds.take i.toNat).sum
theorem sumS_zero {ds:List Int} {i:Int} (h:i<=0):sumS ds i=0:=by unfold sumS;rw [show i.toNat=0 by omega];rfl
theorem sumS_step {ds:List Int} {i n v:Int} (h0:0<=i) (hv:ds[i.toNat]? =some v) (hn:n=i+1):sumS ds n=sumS ds i+v:=by
  unfold sumS;rw [show n.toNat=i.toNat+1 by omega,List.take_add_one,hv];simp
theorem sumS_all {ds:List Int} {i:Int} (h:ds.length<=i):sumS ds i=ds.sum:=by unfold sumS;rw [List.take_of_length_le (by omega)]
theorem sum_bdI {B:Int}:∀{ds:List Int},(∀n∈ds,0<=n/\n<=B)->0<=ds.sum/\ds.sum<=B*ds.length
  |[],_=>by simp
  | d::ds,h=>by
    have ih:=sum_bdI (ds:=ds) λn hn=>h n (List.mem_cons_of_mem _ hn)
    have h1:=h d (List.mem_cons_self ..)
    simp only [List.sum_cons,List.length_cons]
    rw [show ((ds.length+1:Nat):Int)=(ds.length:Int)+1 by omega,Int.mul_add]
    omega
theorem sumS_bd {ds:List Int} {B:Int} (h:∀n∈ds,0<=n/\n<=B) (hB:0<=B) (i:Int):0<=sumS ds i/\sumS ds i<=B*ds.length:=by
  unfold sumS
  have h1:=sum_bdI (ds:=ds.take i.toNat) λn hn=>h n (List.mem_of_mem_take hn)
  have h2:B*((ds.take i.toNat).length:Int)<=B*ds.length:=Int.mul_le_mul_of_nonneg_left (by rw [List.length_take];omega) hB
  omega
def findS:List Int->Int->Int->Int×Int
  |[],i,d=>(i,d)
  |n::ds,i,d=>if d<=n then (i,d) else findS ds (i+1) (d - n)
theorem findS_spec:∀(ds:List Int) (i d:Int),0<=d->d<=ds.sum->(0<d∨ds≠[])->∃(k:Nat) (n:Int),ds[k]? =some n/\(findS ds i d).1=i+k/\0<=(findS ds i d).2/\(findS ds i d).2<=n
  | [],i,d,h0,h1,h2=>by
    simp at h1
    rcases h2 with h2|h2
    · omega
    · exact absurd rfl h2
  | n ::ds,i,d,h0,h1,h2=>by
    unfold findS
    split
    · exact ⟨0,n,rfl,by simp,h0,by assumption⟩
    · rename_i hd
      simp only [List.sum_cons] at h1
      obtain ⟨k,m,g1,g2,g3,g4⟩:=findS_spec ds (i+1) (d - n) (by omega) (by omega) (.inl (by omega))
      exact ⟨k+1,m,by simpa using g1,by rw [g2];omega,g3,g4⟩
theorem findS_drop {ds:List Int} {k:Nat} {n:Int} (h:ds[k]? =some n) (i d:Int):(d<=n->findS (ds.drop k) i d=(i,d))/\(¬d<=n->findS (ds.drop k) i d=findS (ds.drop (k+1)) (i+1) (d - n)):=by
  have hlt:=List.getElem?_eq_some_iff.1 h
  have e:ds.drop k=n::ds.drop (k+1):=by rw [List.drop_eq_getElem_cons hlt.1,hlt.2]
  rw [e]
  constructor
  · intro h;rw [findS,if_pos h]
  · intro h;rw [findS,if_neg h]
theorem sum_drop {ds:List Int} {k:Nat} {n:Int} (h:ds[k]? =some n):(ds.drop k).sum=n+(ds.drop (k+1)).sum:=by
  have hlt:=List.getElem?_eq_some_iff.1 h
  rw [List.drop_eq_getElem_cons hlt.1,hlt.2,List.sum_cons]
def btwR (a b:Pnt) (i n:Int):Pnt:=if b.x<a.x∨a.x=b.x/\b.y<a.y then ⟨b.x+divR ((n - i)*(a.x - b.x)) n,b.y+divR ((n - i)*(a.y - b.y)) n⟩ else ⟨a.x+divR (i*(b.x - a.x)) n,a.y+divR (i*(b.y - a.y)) n⟩
theorem btwR_bd {a b:Pnt} {i n:Int} (ha:PtOk a.x a.y) (hb:PtOk b.x b.y) (hn:1<=n/\n<=300000) (hi:0<=i/\i<=n):(-100000000000<=(btwR a b i n).x/\(btwR a b i n).x<=100000000000)/\ -100000000000<=(btwR a b i n).y/\(btwR a b i n).y<=100000000000:=by
  unfold PtOk at ha hb
  have m (u v:Int) (hu:0<=u/\u<=300000) (hv: -200000<=v/\v<=200000): -90000000000<=divR (u*v) n/\divR (u*v) n<=90000000000:=
    divR_bd (by omega) (by have:=mul_bd (a:=u) (b:=v) (B:=300000) (by omega);omega)
  unfold btwR
  split
  · have h1:=m (n - i) (a.x - b.x) (by omega) (by omega)
    have h2:=m (n - i) (a.y - b.y) (by omega) (by omega)
    simp only;omega
  · have h1:=m i (b.x - a.x) (by omega) (by omega)
    have h2:=m i (b.y - a.y) (by omega) (by omega)
    simp only;omega
structure Gat where
  gd:Int
  lx:Int
  ly:Int
  rx:Int
  ry:Int
def Gat.cs (v:Gat):List AV:=[.int .i64 v.gd,.int .i64 v.lx,.int .i64 v.ly,.int .i64 v.rx,.int .i64 v.ry]
theorem NoB.oGat (v:Gat):NoB (.agg v.cs):= .aggC (.int _ _) (.aggC (.int _ _) (.aggC (.int _ _) (.aggC (.int _ _) (.aggC (.int _ _) .agg0))))
noncomputable def segAt (l:List Pnt) (d:Int):Pnt×Pnt×Int:=(l.getD ((findS (segs l) 1 d).1 - 1).toNat ⟨0,0⟩,l.getD (findS (segs l) 1 d).1.toNat ⟨0,0⟩,(findS (segs l) 1 d).2)
theorem segAt_spec {l:List Pnt} (h:LnOk l) (h2:2<=l.length) {d:Int} (h0:0<=d) (hd:d<=(segs l).sum):∃(k:Nat) (p q:Pnt),(findS (segs l) 1 d).1=1+(k:Int)/\l[k]? =some p/\l[k+1]? =some q/\segAt l d=(p,q,(findS (segs l) 1 d).2)/\0<=(findS (segs l) 1 d).2/\(findS (segs l) 1 d).2<=distR p.x p.y q.x q.y/\k+1<l.length:=by
  have hl:=segs_len l
  obtain ⟨k,n,g1,g2,g3,g4⟩:=findS_spec (segs l) 1 d h0 hd (.inr λe=>by rw [e] at hl;simp at hl;omega)
  have hk:=(List.getElem?_eq_some_iff.1 g1).1
  have hp:l[k]? =some l[k]:=List.getElem?_eq_getElem (by omega)
  have hq:l[k+1]? =some l[k+1]:=List.getElem?_eq_getElem (by omega)
  have hs:=segs_get l k _ _ hp hq
  have hs2:=Option.some.inj (g1.symm.trans hs)
  rw [hs2] at g4
  refine ⟨k,_,_,g2,hp,hq,?_,g3,g4,by omega⟩
  unfold segAt
  rw [g2,show (1+(k:Int) - 1).toNat=k by omega,show (1+(k:Int)).toNat=k+1 by omega,List.getD_eq_getElem?_getD,List.getD_eq_getElem?_getD,hp,hq]
  rfl
noncomputable def gateOf (w d:Int) (u v:Pnt) (r:Int):Gat:=
  let n:=distR u.x u.y v.x v.y
  let p:=btwR u v r n
  ⟨d,p.x - divR ((v.y - u.y)*(w / 2)) n,p.y+divR ((v.x - u.x)*(w / 2)) n,p.x+divR ((v.y - u.y)*(w / 2)) n,p.y - divR ((v.x - u.x)*(w / 2)) n⟩
noncomputable def gateR (l:List Pnt) (w d:Int):Gat:=gateOf w d (segAt l d).1 (segAt l d).2.1 (segAt l d).2.2
def stepsTo (s:Int) (n:Nat):List Int:=(List.range n).map λk:Nat=>s*(k:Int)
theorem stepsTo_succ (s:Int) (n:Nat):stepsTo s (n+1)=stepsTo s n++[s*(n:Int)]:=by unfold stepsTo;rw [List.range_succ,List.map_append];rfl
theorem stepsTo_len (s:Int) (n:Nat):(stepsTo s n).length=n:=by simp [stepsTo]
def stepsN (s t:Int):Nat:=((t+s - 1) / s).toNat
noncomputable def placesR (l:List Pnt) (s:Int):List Int:=stepsTo s (stepsN s (segs l).sum)++[(segs l).sum]
theorem stepsN_lt {s t:Int} (hs:0<s) (ht:0<=t) (n:Nat):s*(n:Int)<t↔n<stepsN s t:=by
  unfold stepsN
  have h1:0<=(t+s - 1) / s:=Int.ediv_nonneg (by omega) (by omega)
  have h2:((n:Int)+1<=(t+s - 1) / s)↔((n:Int)+1)*s<=t+s - 1:=Int.le_ediv_iff_mul_le hs
  have e:((n:Int)+1)*s=s*n+s:=by grind
  omega
def Gat.ok (g:Gat):Prop:=PtOk g.lx g.ly/\PtOk g.rx g.ry
noncomputable def gatesR (n:ByteArray) (l:List Pnt) (w s:Int):List Gat×Int:=
  if ChnOk n l w then (if 50<=s/\s<=200000 then (if stepsN s (segs l).sum+1<=32 then (if ∀d∈placesR l s,(gateR l w d).ok then ((placesR l s).map (gateR l w),0) else ([],6)) else ([],5)) else ([],2)) else ([],1)
theorem quo_bd {q a b:Int} (h:q=a / b) (h0:0<=a/\0<b):0<=q/\q<=a:=by
  rw [h];exact ⟨Int.ediv_nonneg h0.1 (by omega),Int.ediv_le_self b h0.1⟩
theorem divRound_ (a b:Int) (ha: -1000000000000000<=a/\a<=1000000000000000) (hb:1<=b/\b<=1000000000):AC Tryz.prog 283 [.int .i64 a,.int .i64 b] (AV.int .i64) (divR a b):=by
  refine ac Tryz.func283 (.int _ _) λE K hE hK=>?_
  conv=>cbv
  repeat' first
    |((first
   |(refine maxI (a:=b) hE (λmb hmb=>?_);(have hm2:b=mb:=by omega);subst hm2)
   |(refine maxI (a:=a) hE (λm hm=>?_);(have hh:=halfR_eq (a:=m) (b:=b) (by omega));(have hr0:=Int.emod_nonneg m (show b≠0 by omega));(have hr1:=Int.emod_lt_of_pos m (show 0<b by omega)))
   |(refine quo64 hE (by omega) (λq hq=>?_);(have hq2:=quo_bd hq (by omega)))
   |refine q0 hE ?_
   |refine B0 hE ?_|refine B1 hE ?_ ?_|refine B2 hE ?_)<;>intros<;>(try conv=>cbv))
  all_goals first
    |omega
    |(refine hK _ ?_;show AV.int _ _=AV.int _ _;congr 1;unfold divR;rw [if_pos (by omega),show -a=m by omega,hh];split<;>omega)
    |(refine hK _ ?_;show AV.int _ _=AV.int _ _;congr 1;unfold divR;rw [if_neg (by omega),show a=m by omega,hh];split<;>omega)
theorem l01Div_ (a b:Int) (ha: -1000000000000000<=a/\a<=1000000000000000) (hb:1<=b/\b<=1000000000):AC Tryz.prog 324 [.int .i64 a,.int .i64 b] (AV.int .i64) (divR a b):=by
  refine ac Tryz.func324 (.int _ _) λE K hE hK=>?_
  conv=>cbv
  repeat' first
    |((first
   |refine mul64 hE (by omega) (λm hm=>?_)
   |(refine quo64 hE (by omega) (λq hq=>?_);(have hq2:=quo_bd hq (by omega)))
   |refine q0 hE ?_
   |refine B0 hE ?_|refine B1 hE ?_ ?_|refine B2 hE ?_)<;>intros<;>(try conv=>cbv))
  all_goals first
    |omega
    |(refine hK _ ?_;show AV.int _ _=AV.int _ _;congr 1;unfold divR halfR;rw [if_pos (by omega)];subst_vars;rw [show 2* -a+b=b - 2*a by omega];omega)
    |(refine hK _ ?_;show AV.int _ _=AV.int _ _;congr 1;unfold divR halfR;rw [if_neg (by omega)];subst_vars;omega)
theorem divB {a b y B:Int} (hy:y=divR a b) (hb:1<=b) (h: -B<=a/\a<=B): -B<=y/\y<=B:=by
  rw [hy];exact divR_bd (by omega) h
theorem btw_bd {u v:Int} (hu: -300000<=u/\u<=300000) (hv: -300000<=v/\v<=300000): -90000000000<=u*v/\u*v<=90000000000:=by
  have:=mul_bd (a:=u) (b:=v) (B:=300000) (by omega);omega
theorem mulB {E:Env} {np:Nat} {P:Program} (hE:E=stdE np P) {a b:Int} {K:Int->Prop} (h:(-300000<=a/\a<=300000)/\ -300000<=b/\b<=300000) (hk:∀m,m=a*b-> -90000000000<=m/\m<=90000000000->K m):E.mul .i64 a b K:=by
  have h1:=btw_bd h.1 h.2
  exact mul64 hE (by omega) λm hm=>hk m hm (by omega)
theorem between_ (ax ay bx by' i n:Int) (ha:PtOk ax ay) (hb:PtOk bx by') (hn:1<=n/\n<=300000) (hi:0<=i/\i<=n):AC Tryz.prog 331 [.agg [.int .i64 ax,.int .i64 ay],.agg [.int .i64 bx,.int .i64 by'],.int .i64 i,.int .i64 n] (λp:Pnt=> .agg p.cs) (btwR ⟨ax,ay⟩ ⟨bx,by'⟩ i n):=by
  refine ac Tryz.func331 (.oPnt _) λE K hE hK=>?_
  conv=>cbv
  have ha':=ha
  have hb':=hb
  unfold PtOk at ha' hb'
  repeat' first
    |((first
   |refine mulB hE (by omega) (λm hm hmb=>?_)
   |(refine callI hE (divRound_ _ _ (by omega) (by omega)) (λy hy=>?_);(have hyb:=divB (B:=90000000000) hy (by omega) (by omega)))
   |refine q0 hE ?_
   |refine B0 hE ?_|refine B1 hE ?_ ?_|refine B2 hE ?_)<;>intros<;>(try conv=>cbv))
  all_goals first
    |(refine hK _ ?_;unfold btwR;rw [if_pos (by simp only;omega)];subst_vars;rfl)
    |(refine hK _ ?_;unfold btwR;rw [if_neg (by simp only;omega)];subst_vars;rfl)
theorem l02Between_ (ax ay bx by' i n:Int) (ha:PtOk ax ay) (hb:PtOk bx by') (hn:1<=n/\n<=300000) (hi:0<=i/\i<=n):AC Tryz.prog 352 [.agg [.int .i64 ax,.int .i64 ay],.agg [.int .i64 bx,.int .i64 by'],.int .i64 i,.int .i64 n] (λp:Pnt=> .agg p.cs) (btwR ⟨ax,ay⟩ ⟨bx,by'⟩ i n):=by
  refine ac Tryz.func352 (.oPnt _) λE K hE hK=>?_
  conv=>cbv
  have ha':=ha
  have hb':=hb
  unfold PtOk at ha' hb'
  repeat' first
    |((first
   |refine mulB hE (by omega) (λm hm hmb=>?_)
   |(refine callI hE (l01Div_ _ _ (by omega) (by omega)) (λy hy=>?_);(have hyb:=divB (B:=90000000000) hy (by omega) (by omega)))
   |refine q0 hE ?_
   |refine B0 hE ?_|refine B1 hE ?_ ?_|refine B2 hE ?_)<;>intros<;>(try conv=>cbv))
  all_goals first
    |(refine hK _ ?_;unfold btwR;rw [if_pos (by simp only;omega)];subst_vars;rfl)
    |(refine hK _ ?_;unfold btwR;rw [if_neg (by simp only;omega)];subst_vars;rfl)
theorem indexGate0_ {rs:List (List AV)} {t:Bool} {l:List Gat} {g:FuncId} {p:Gat->Prop} (hl:rs=l.map Gat.cs) (hp:∀gd lx ly rx ry,AC Tryz.prog g (.agg [.int .i64 gd,.int .i64 lx,.int .i64 ly,.int .i64 rx,.int .i64 ry]::[]) AV.bool (bP (p ⟨gd,lx,ly,rx,ry⟩))):AC Tryz.prog 284 [.sl t 5 rs,.fn g []] (AV.int .i64) (firstI p l):=by
  refine ac Tryz.func284 (.int _ _) λE K hE hK=>?_
  conv=>cbv
  refine lenL hE hl λn hn hb=>?_
  conv=>cbv
  refine loop1 hE [0,1,7] [8] (λ(i:Int)=>([(8,.int .i64 i)],[],l.length - i,0<=i/\Up (λj=>∀v,l[j]? =some v->¬p v) i)) [] (0) rfl rfl (by dsimp only;exact ⟨by omega,.zero (by omega)⟩) λi hi Kn hN=>?_
  (try dsimp only at hi)
  conv=>cbv
  obtain ⟨h0,hinv⟩:=hi
  repeat' first
    |(refine hN _ _ [] (by decide) rfl ⟨?_,?_⟩ ?_<;>(try dsimp only))
    |((first
   |refine q0 hE ?_
   |refine callP hE (hp _ _ _ _ _) (λ_=>?_) (λ_=>?_)
   |(refine idxL (R:=Gat.cs) hE (by assumption) (by first|omega|(simp only [List.length_set,mix_len];omega)) ?_;rintro ⟨⟩ _)
   |refine B0 hE ?_|refine B1 hE ?_ ?_|refine B2 hE ?_)<;>intros<;>(try conv=>cbv))
  · refine hK _ ?_
    rw [firstI_in h0 (by assumption) (by assumption) hinv];rfl
  · omega
  · refine hinv.succ ?_ (by assumption)
    clear hN;simp_all
  · omega
  · refine hK _ ?_
    rw [firstI_out (by omega) hinv];rfl
theorem containsGate0_ {rs:List (List AV)} {t:Bool} {l:List Gat} {g:FuncId} {p:Gat->Prop} (hl:rs=l.map Gat.cs) (hp:∀gd lx ly rx ry,AC Tryz.prog g (.agg [.int .i64 gd,.int .i64 lx,.int .i64 ly,.int .i64 rx,.int .i64 ry]::[]) AV.bool (bP (p ⟨gd,lx,ly,rx,ry⟩))):AC Tryz.prog 240 [.sl t 5 rs,.fn g []] AV.bool (bP (∃v∈l,p v)):=by
  refine ac Tryz.func240 (.bool _) λE K hE hK=>?_
  conv=>cbv
  refine callI hE (indexGate0_ hl hp) λy hy=>?_
  conv=>cbv
  refine leI hE (λh=>?_) (λh=>?_)<;>conv=>cbv
  · exact finB hK (bP_true.2 (firstI_ge.1 (by omega)))
  · exact finB hK (bP_false.2 λh'=>by have:=firstI_ge.2 h';omega)
theorem LnC.of {l:List Pnt} (h:LnOk l) {i:Int} {p:Pnt} (hp:l[i.toNat]? =some p):PtOk p.x p.y/\(0<i->∀q,l[(i - 1).toNat]? =some q->q≠p):=by
  obtain ⟨p',h1,h2,h3⟩:=h i.toNat (List.getElem?_eq_some_iff.1 hp).1
  rw [hp] at h1;cases h1
  refine ⟨h2,λh0 q hq=>?_⟩
  obtain ⟨q',h4,h5⟩:=h3 (by omega)
  rw [show i.toNat - 1=(i - 1).toNat by omega,hq] at h4;cases h4;exact h5
theorem validChannel_ (n:ByteArray) (w:Int) {rl:List (List AV)} {t:Bool} {l:List Pnt} (hl:rl=l.map Pnt.cs):AC Tryz.prog 132 [.agg [.str n,.sl t 2 rl,.int .i64 w]] AV.bool (bP (ChnOk n l w)):=by
  refine ac Tryz.func132 (.bool _) λE K hE hK=>?_
  conv=>cbv
  refine lenL hE hl λm hm hb=>?_
  conv=>cbv
  refine loop1 hE [1,6,7] [8] (λ(i:Int)=>([(8,.int .i64 i)],[.box [.str n,.sl t 2 rl,.int .i64 w]],l.length - i,0<=i/\Up (LnC l) i)) [0] (0) rfl rfl (by dsimp only;exact ⟨by omega,.zero (by omega)⟩) λi hi Kn hN=>?_
  (try dsimp only at hi)
  conv=>cbv
  obtain ⟨h0,hinv⟩:=hi
  repeat' first
    |(refine hN _ _ [0] (by decide) rfl ⟨?_,?_⟩ ?_<;>(try dsimp only))
    |((first
   |refine idxV (R:=Pnt.cs) hE hl (by omega) hq ?_
   |(refine idxL (R:=Pnt.cs) hE hl (by omega) (λp hp=>?_);obtain ⟨px,py⟩:=p;(try conv=>cbv);refine callP hE (validPoint_ _ _) (λh1=>?_) (λh1=>?_)<;>(try conv=>cbv);rotate_left;exact finB hK (bP_false.2 λh=>h1 (LnC.of h.1 hp).1);refine ltI hE (λh2=>?_) (λh2=>?_)<;>(try conv=>cbv);refine sub64 hE (by omega) (λk hk=>?_);(try conv=>cbv);refine idxL (R:=Pnt.cs) hE hl (by omega) (λq hq=>?_);obtain ⟨qx,qy⟩:=q;(try conv=>cbv);refine aeqI hE (λh3=>?_) (λh3=>?_))
   |refine lenL hE hl (λm2 hm2 hb2=>?_)
   |refine q0 hE ?_
   |refine callP hE (isName_ _) (λ_=>?_) (λ_=>?_)
   |refine callP hE (within_ _ _ _) (λ_=>?_) (λ_=>?_)
   |refine B0 hE ?_|refine B1 hE ?_ ?_|refine B2 hE ?_)<;>intros<;>(try conv=>cbv))
  all_goals (try clear hN)
  all_goals first
    |omega
    |exact finB hK (bP_true.2 ⟨hinv.all (by omega),by assumption,by omega,by omega⟩)
    |(refine finB hK (bP_false.2 λh=>?_);have h4:=h.2;first|omega|(have:=h4.1;contradiction)|(have:=h4.2.1;omega)|(have:=h4.2.2;omega))
    |(refine finB hK (bP_false.2 λh=>?_);exact (LnC.of h.1 hp).2 h2 _ (by rw [←hk];exact hq) (by simp only [Pnt.mk.injEq];exact ⟨h3.1,h3.2.1⟩))
    |exact hinv.succ ⟨_,hp,h1,λ_=>⟨_,by rw [show i.toNat - 1=k.toNat by omega];exact hq,λhe=>h3 (by simp only [Pnt.mk.injEq] at he;exact ⟨he.1,he.2,trivial⟩)⟩⟩ (by assumption)
    |exact hinv.succ ⟨_,hp,h1,λ_=>by omega⟩ (by assumption)
theorem l13Ok_ (n:ByteArray) (w:Int) {rl:List (List AV)} {t:Bool} {l:List Pnt} (hl:rl=l.map Pnt.cs):AC Tryz.prog 166 [.pp [.str n,.sl t 2 rl,.int .i64 w]] AV.bool (bP (ChnOk n l w)):=by
  refine ac Tryz.func166 (.bool _) λE K hE hK=>?_
  conv=>cbv
  refine loop1 hE [0] [3] (λ(i:Int)=>([(3,.int .i64 i)],[],l.length - i,0<=i/\Up (LnC l) i)) [] (0) rfl rfl (by dsimp only;exact ⟨by omega,.zero (by omega)⟩) λi hi Kn hN=>?_
  (try dsimp only at hi)
  conv=>cbv
  obtain ⟨h0,hinv⟩:=hi
  repeat' first
    |(refine hN _ _ [] (by decide) rfl ⟨?_,?_⟩ ?_<;>(try dsimp only))
    |((first
   |refine idxV (R:=Pnt.cs) hE hl (by omega) hq ?_
   |refine lenL hE hl (λm2 hm2 hb2=>?_)
   |(refine idxL (R:=Pnt.cs) hE hl (by omega) (λp hp=>?_);obtain ⟨px,py⟩:=p;(try conv=>cbv);refine callP hE (l02Ok_ _ _) (λh1=>?_) (λh1=>?_)<;>(try conv=>cbv);rotate_left;exact finB hK (bP_false.2 λh=>h1 (LnC.of h.1 hp).1);refine ltI hE (λh2=>?_) (λh2=>?_)<;>(try conv=>cbv);refine idxV (R:=Pnt.cs) hE hl (by omega) hp ?_;(try conv=>cbv);refine sub64 hE (by omega) (λk hk=>?_);(try conv=>cbv);refine idxL (R:=Pnt.cs) hE hl (by omega) (λq hq=>?_);obtain ⟨qx,qy⟩:=q;(try conv=>cbv);refine aeqI hE (λh3=>?_) (λh3=>?_))
   |refine q0 hE ?_
   |refine callP hE (l01Name_ _) (λ_=>?_) (λ_=>?_)
   |refine callP hE (in_ _ _ _) (λ_=>?_) (λ_=>?_)
   |refine B0 hE ?_|refine B1 hE ?_ ?_|refine B2 hE ?_)<;>intros<;>(try conv=>cbv))
  all_goals (try clear hN)
  all_goals first
    |omega
    |exact finB hK (bP_true.2 ⟨hinv.all (by omega),by assumption,by omega,by omega⟩)
    |(refine finB hK (bP_false.2 λh=>?_);have h4:=h.2;first|omega|(have:=h4.1;contradiction)|(have:=h4.2.1;omega)|(have:=h4.2.2;omega))
    |(refine finB hK (bP_false.2 λh=>?_);exact (LnC.of h.1 hp).2 h2 _ (by rw [←hk];exact hq) (by simp only [Pnt.mk.injEq];exact ⟨h3.1.symm,h3.2.1.symm⟩))
    |exact hinv.succ ⟨_,hp,h1,λ_=>⟨_,by rw [show i.toNat - 1=k.toNat by omega];exact hq,λhe=>h3 (by simp only [Pnt.mk.injEq] at he;exact ⟨he.1.symm,he.2.symm,trivial⟩)⟩⟩ (by assumption)
    |exact hinv.succ ⟨_,hp,h1,λ_=>by omega⟩ (by assumption)
theorem seg_step {l:List Pnt} {i k n:Int} {p q:Pnt} (hk:k=i - 1) (h1:1<=i) (hp:l[k.toNat]? =some p) (hq:l[i.toNat]? =some q) (hn:n=i+1):sumS (segs l) (n - 1)=sumS (segs l) (i - 1)+distR p.x p.y q.x q.y:=
  sumS_step (by omega) (by rw [show (i - 1).toNat=k.toNat by omega];exact segs_get l k.toNat p q hp (by rw [show k.toNat+1=i.toNat by omega];exact hq)) (by omega)
theorem segs_sum {l:List Pnt} (h:LnOk l) (h12:l.length<=12) (i:Int):0<=sumS (segs l) i/\sumS (segs l) i<=3600000:=by
  have h1:=sumS_bd (ds:=segs l) (B:=300000) (λn hn=>by have:=h.segs n hn;omega) (by omega) i
  rw [segs_len] at h1;omega
theorem segs_all {l:List Pnt} {i:Int} (h1:1<=l.length) (h:l.length<=i):sumS (segs l) (i - 1)=(segs l).sum:=sumS_all (by rw [segs_len];omega)
theorem chLength_ (n:ByteArray) (w:Int) {rl:List (List AV)} {t:Bool} {l:List Pnt} (hl:rl=l.map Pnt.cs) (hok:LnOk l) (h12:1<=l.length/\l.length<=12):AC Tryz.prog 238 [.agg [.str n,.sl t 2 rl,.int .i64 w]] (AV.int .i64) ((segs l).sum):=by
  refine ac Tryz.func238 (.int _ _) λE K hE hK=>?_
  conv=>cbv
  refine loop2 hE [1] [4,3] (λ(i m:Int)=>([(4,.int .i64 i),(3,.int .i64 m)],[.box [.str n,.sl t 2 rl,.int .i64 w]],l.length - i,(1<=i/\i<=l.length)/\m=sumS (segs l) (i - 1))) [0] ((1,0)) rfl rfl (by dsimp only;exact ⟨by omega,by rw [sumS_zero (by omega)]⟩) λi m hi Kn hN=>?_
  (try dsimp only at hi)
  conv=>cbv
  obtain ⟨⟨h0,h1⟩,h2⟩:=hi
  have hbd:=segs_sum hok h12.2 (i - 1)
  refine lenL hE hl λn2 hn2 hb2=>?_
  conv=>cbv
  refine ltI hE (λhlt=>?_) (λhge=>?_)<;>conv=>cbv
  · refine sub64 hE (by omega) λk hk=>?_
    conv=>cbv
    refine idxL (R:=Pnt.cs) hE hl (by omega) λp hp=>?_
    obtain ⟨px,py⟩:=p
    conv=>cbv
    refine idxL (R:=Pnt.cs) hE hl (by omega) λq hq=>?_
    obtain ⟨qx,qy⟩:=q
    conv=>cbv
    have hs:=distR_bd px py qx qy
    repeat' first
      |(refine hN (_,_) _ [0] (by decide) rfl ⟨?_,?_⟩ ?_<;>(try dsimp only))
      |((first
     |refine q0 hE ?_
     |refine callI hE (distance_ _ _ _ _) (λ_ _=>?_)
     |refine B0 hE ?_|refine B1 hE ?_ ?_|refine B2 hE ?_)<;>intros<;>(try conv=>cbv))
    all_goals (try clear hN)
    all_goals first
      |omega
      |(rename_i hi2;rw [seg_step hk h0 hp hq hi2];simp only;omega)
  · exact hK _ (by rw [h2,segs_all h12.1 (by omega)];rfl)
theorem l13Length_ (n:ByteArray) (w:Int) {rl:List (List AV)} {t:Bool} {l:List Pnt} (hl:rl=l.map Pnt.cs) (hok:LnOk l) (h12:1<=l.length/\l.length<=12):AC Tryz.prog 273 [.sl t 2 rl] (AV.int .i64) ((segs l).sum):=by
  refine ac Tryz.func273 (.int _ _) λE K hE hK=>?_
  conv=>cbv
  refine loop2 hE [0] [4,3] (λ(i m:Int)=>([(4,.int .i64 i),(3,.int .i64 m)],[],l.length - i,(1<=i/\i<=l.length)/\m=sumS (segs l) (i - 1))) [] ((1,0)) rfl rfl (by dsimp only;exact ⟨by omega,by rw [sumS_zero (by omega)]⟩) λi m hi Kn hN=>?_
  (try dsimp only at hi)
  conv=>cbv
  obtain ⟨⟨h0,h1⟩,h2⟩:=hi
  have hbd:=segs_sum hok h12.2 (i - 1)
  refine lenL hE hl λn2 hn2 hb2=>?_
  conv=>cbv
  refine ltI hE (λhlt=>?_) (λhge=>?_)<;>conv=>cbv
  · refine sub64 hE (by omega) λk hk=>?_
    conv=>cbv
    refine idxL (R:=Pnt.cs) hE hl (by omega) λp hp=>?_
    obtain ⟨px,py⟩:=p
    conv=>cbv
    refine idxL (R:=Pnt.cs) hE hl (by omega) λq hq=>?_
    obtain ⟨qx,qy⟩:=q
    conv=>cbv
    have hs:=distR_bd px py qx qy
    repeat' first
      |(refine hN (_,_) _ [] (by decide) rfl ⟨?_,?_⟩ ?_<;>(try dsimp only))
      |((first
     |refine q0 hE ?_
     |refine callI hE (l02Apart_ _ _ _ _ (hok.pt hp) (hok.pt hq)) (λ_ _=>?_)
     |refine B0 hE ?_|refine B1 hE ?_ ?_|refine B2 hE ?_)<;>intros<;>(try conv=>cbv))
    all_goals (try clear hN)
    all_goals first
      |omega
      |(rename_i hi2;rw [seg_step hk h0 hp hq hi2];simp only;omega)
  · exact hK _ (by rw [h2,segs_all h12.1 (by omega)];rfl)
def FindInv (l:List Pnt) (d0 i d:Int):Prop:=(1<=i/\i<l.length)/\0<=d/\d<=((segs l).drop (i - 1).toNat).sum/\findS (segs l) 1 d0=findS ((segs l).drop (i - 1).toNat) i d
theorem FindInv.start {l:List Pnt} (h2:2<=l.length) {d:Int} (h0:0<=d) (hd:d<=(segs l).sum):FindInv l d 1 d:=⟨by omega,h0,by simpa using hd,by simp⟩
theorem FindInv.at {l:List Pnt} {d0 i d k:Int} {p q:Pnt} (h:FindInv l d0 i d) (hk:k=i - 1) (hp:l[k.toNat]? =some p) (hq:l[i.toNat]? =some q):
    (d<=distR p.x p.y q.x q.y->findS (segs l) 1 d0=(i,d)/\segAt l d0=(p,q,d))/\(¬d<=distR p.x p.y q.x q.y->FindInv l d0 (i+1) (d - distR p.x p.y q.x q.y)):=by
  obtain ⟨⟨h1,h2⟩,h3,h4,h5⟩:=h
  have hs:(segs l)[(i - 1).toNat]? =some (distR p.x p.y q.x q.y):=by
    rw [show (i - 1).toNat=k.toNat by omega]
    exact segs_get l k.toNat p q hp (by rw [show k.toNat+1=i.toNat by omega];exact hq)
  have hf:=findS_drop hs i d
  have hsum:=sum_drop hs
  constructor
  · intro hle
    have e:=h5.trans (hf.1 hle)
    refine ⟨e,?_⟩
    unfold segAt
    rw [e]
    simp only [List.getD_eq_getElem?_getD]
    rw [show (i - 1).toNat=k.toNat by omega,hp,hq];rfl
  · intro hle
    have hl:=segs_len l
    have hlt:i+1<l.length:=by
      rcases Int.lt_or_le (i+1) l.length with h|h
      · exact h
      · rw [show (segs l).drop ((i - 1).toNat+1)=[] from List.drop_of_length_le (by rw [segs_len];omega),List.sum_nil] at hsum
        omega
    refine ⟨by omega,by omega,?_,?_⟩
    · rw [show (i+1 - 1).toNat=(i - 1).toNat+1 by omega];omega
    · rw [show (i+1 - 1).toNat=(i - 1).toNat+1 by omega];exact h5.trans (hf.2 hle)
def pnt3 (p:Pnt×Pnt×Pnt):AV:= .tup [.agg p.1.cs,.agg p.2.1.cs,.agg p.2.2.cs]
theorem NoB.pnt3 (p:Pnt×Pnt×Pnt):NoB (pnt3 p):= .tupC (.oPnt _) (.tupC (.oPnt _) (.tupC (.oPnt _) .tup0))
noncomputable def alongR (l:List Pnt) (d:Int):Pnt×Pnt×Pnt:=(btwR (segAt l d).1 (segAt l d).2.1 (segAt l d).2.2 (distR (segAt l d).1.x (segAt l d).1.y (segAt l d).2.1.x (segAt l d).2.1.y),(segAt l d).1,(segAt l d).2.1)
set_option maxHeartbeats 4000000
theorem along_ (n:ByteArray) (w d:Int) {rl:List (List AV)} {t:Bool} {l:List Pnt} (hl:rl=l.map Pnt.cs) (hok:LnOk l) (h12:2<=l.length/\l.length<=12) (hd:0<=d/\d<=(segs l).sum):AC Tryz.prog 282 [.agg [.str n,.sl t 2 rl,.int .i64 w],.int .i64 d] pnt3 (alongR l d):=by
  refine ac Tryz.func282 (.pnt3 _) λE K hE hK=>?_
  conv=>cbv
  refine loop2 hE [2,4,5,6] [7,1] (λ(i e:Int)=>([(7,.int .i64 i),(1,.int .i64 e)],[.box [.str n,.sl t 2 rl,.int .i64 w],.box [.int .i64 0,.int .i64 0],.box [.int .i64 0,.int .i64 0],.box [.int .i64 0,.int .i64 0]],l.length - i,FindInv l d i e/\e<=d)) [0,1,2,3] ((1,d)) rfl rfl (by dsimp only;exact ⟨FindInv.start h12.1 hd.1 hd.2,Int.le_refl _⟩) λi e hi Kn hN=>?_
  (try dsimp only at hi)
  conv=>cbv
  obtain ⟨hi,hed⟩:=hi
  have hi':=hi
  have hT:=segs_sum hok h12.2 l.length
  rw [sumS_all (by rw [segs_len];omega)] at hT
  obtain ⟨⟨h0,h1⟩,he0,he1,hfi⟩:=hi'
  refine sub64 hE (by omega) λk hk=>?_
  conv=>cbv
  refine idxL (R:=Pnt.cs) hE hl (by omega) λp hp=>?_
  have hpp:=hok.pt hp
  obtain ⟨px,py⟩:=p
  conv=>cbv
  refine idxL (R:=Pnt.cs) hE hl (by omega) λq hq=>?_
  have hpq:=hok.pt hq
  obtain ⟨qx,qy⟩:=q
  conv=>cbv
  have hfa:=hi.at hk hp hq
  have hsg:=hok.seg hp (by rw [show k.toNat+1=i.toNat by omega];exact hq)
  simp only at hfa hsg hpp hpq
  obtain ⟨D,hD⟩:∃D,D=distR px py qx qy:=⟨_,rfl⟩
  rw [←hD] at hfa hsg
  repeat' first
    |(refine hN (_,_) _ [0,1,2,3] (by decide) rfl ⟨?_,?_⟩ ?_<;>(try dsimp only))
    |((first
   |(refine callI hE (distance_ _ _ _ _) (λy hy=>?_);rw [←hD] at hy;subst hy)
   |(refine callI hE (between_ _ _ _ _ _ _ hpp hpq hsg (by omega)) (λy hy=>?_);obtain ⟨yx,yy⟩:=y)
   |refine idxV (R:=Pnt.cs) hE hl (by omega) hp ?_
   |refine idxV (R:=Pnt.cs) hE hl (by omega) hq ?_
   |(refine sub64 hE (by omega) (λk2 hk2=>?_);(first|(have hk3:k=k2:=(by omega);subst hk3)|skip))
   |refine q0 hE ?_
   |refine needI hE rfl ?_
   |refine B0 hE ?_|refine B1 hE ?_ ?_|refine B2 hE ?_)<;>intros<;>(try conv=>cbv))
  all_goals (try clear hN)
  all_goals first
    |omega
    |(have h6:=hfa.2 (by omega);subst_vars;exact h6)
    |(refine hK _ ?_;have h6:=(hfa.1 (by omega)).2;unfold alongR;rw [h6];simp only;rw [←hD,←hy];rfl)
theorem gate_ (n:ByteArray) (w d:Int) {rl:List (List AV)} {t:Bool} {l:List Pnt} (hl:rl=l.map Pnt.cs) (hok:LnOk l) (h12:2<=l.length/\l.length<=12) (hw:10<=w/\w<=5000) (hd:0<=d/\d<=(segs l).sum):AC Tryz.prog 239 [.agg [.str n,.sl t 2 rl,.int .i64 w],.int .i64 d] (λg:Gat=> .agg g.cs) (gateR l w d):=by
  refine ac Tryz.func239 (.oGat _) λE K hE hK=>?_
  conv=>cbv
  obtain ⟨k,p,q,hk1,hp,hq,hsa,hr0,hr1,hkl⟩:=segAt_spec hok h12.1 hd.1 hd.2
  have hsg:=hok.seg hp hq
  have hpp:=hok.pt hp
  have hpq:=hok.pt hq
  have hbt:=btwR_bd hpp hpq hsg ⟨hr0,hr1⟩
  refine callI hE (along_ _ _ _ hl hok h12 hd) λy hy=>?_
  have hgr:gateR l w d=gateOf w d p q (findS (segs l) 1 d).2:=by rw [gateR,hsa]
  rw [alongR,hsa] at hy
  obtain ⟨⟨bx,by'⟩,⟨px,py⟩,⟨qx,qy⟩⟩:=y
  simp only [Prod.mk.injEq] at hy
  obtain ⟨hb,hp1,hq1⟩:=hy
  subst hp1 hq1
  simp only at hb hsg hpp hpq hbt
  rw [←hb] at hbt
  simp only at hbt
  obtain ⟨D,hD⟩:∃D,D=distR px py qx qy:=⟨_,rfl⟩
  rw [←hD] at hsg hb
  unfold PtOk at hpp hpq
  conv=>cbv
  repeat' first
    |((first
   |refine mulB hE (by omega) (λm hm hmb=>?_)
   |(refine callI hE (distance_ _ _ _ _) (λy hy=>?_);rw [←hD] at hy;subst hy)
   |(refine callI hE (divRound_ _ _ (by omega) (by omega)) (λy hy=>?_);(have hyb:=divB (B:=90000000000) hy (by omega) (by omega)))
   |refine q0 hE ?_
   |refine B0 hE ?_|refine B1 hE ?_ ?_|refine B2 hE ?_)<;>intros<;>(try conv=>cbv))
  all_goals first
    |omega
    |(refine hK _ ?_;rw [hgr,gateOf];simp only;rw [←hD,←hb];simp only;subst_vars;rfl)
theorem placesR_bd {l:List Pnt} (hok:LnOk l) (h12:l.length<=12) {s:Int} (hs:0<s):∀d∈placesR l s,0<=d/\d<=(segs l).sum:=λd hd=>by
  have h0:=segs_sum hok h12 l.length
  rw [sumS_all (by rw [segs_len];omega)] at h0
  rcases List.mem_append.1 hd with h|h
  · unfold stepsTo at h
    obtain ⟨k,hk,rfl⟩:=List.mem_map.1 h
    have h1:=(stepsN_lt hs h0.1 k).2 (List.mem_range.1 hk)
    exact ⟨Int.mul_nonneg (by omega) (by omega),by omega⟩
  · simp at h;omega
def gatLI (p:List Gat×Int):AV:= .tup [.sl true 5 (p.1.map Gat.cs),.int .i64 p.2]
theorem NoB.gatLI (p:List Gat×Int):NoB (gatLI p):= .tupC (.rows .oGat) (.tupC (.int _ _) .tup0)
theorem gatesFor1_ (gd lx ly rx ry:Int):AC Tryz.prog 241 [.agg [.int .i64 gd,.int .i64 lx,.int .i64 ly,.int .i64 rx,.int .i64 ry]] AV.bool (bP (¬Gat.ok ⟨gd,lx,ly,rx,ry⟩)):=by
  refine ac Tryz.func241 (.bool _) λE K hE hK=>?_
  conv=>cbv
  refine callP hE (arePoints_ (l:=[(⟨lx,ly⟩:Pnt),⟨rx,ry⟩]) (by rfl)) (λh=>?_) (λh=>?_)<;>conv=>cbv
  · exact finB hK (bP_false.2 λhn=>hn ⟨h ⟨lx,ly⟩ (by simp),h ⟨rx,ry⟩ (by simp)⟩)
  · refine finB hK (bP_true.2 λhn=>h λp hp=>?_)
    simp only [List.mem_cons,List.not_mem_nil,or_false] at hp
    rcases hp with rfl|rfl
    · exact hn.1
    · exact hn.2
theorem gatesR_code (n:ByteArray) (l:List Pnt) (w s:Int):(gatesR n l w s).1.length<=32:=by
  unfold gatesR
  split
  · split
    · split
      · split
        · rw [List.length_map,placesR,List.length_append,stepsTo_len];simp;omega
        · simp
      · simp
    · simp
  · simp
set_option maxHeartbeats 8000000
theorem gatesFor_ (n:ByteArray) (w s:Int) {rl:List (List AV)} {t:Bool} {l:List Pnt} (hl:rl=l.map Pnt.cs):AC Tryz.prog 183 [.agg [.str n,.sl t 2 rl,.int .i64 w],.int .i64 s] gatLI (gatesR n l w s):=by
  refine ac Tryz.func183 (.gatLI _) λE K hE hK=>?_
  conv=>cbv
  refine callP hE (validChannel_ _ _ hl) (λhc=>?_) (λhc=>?_)<;>conv=>cbv
  · refine callP hE (within_ _ _ _) (λhs=>?_) (λhs=>?_)<;>conv=>cbv
    · have hok:=hc.1
      have h12:=hc.2.2.1
      have hw:=hc.2.2.2
      have hsum:=segs_sum hok h12.2 l.length
      rw [sumS_all (by rw [segs_len];omega)] at hsum
      have hpl:=placesR_bd hok h12.2 (s:=s) (by omega)
      obtain ⟨T,hT⟩:∃T,T=(segs l).sum:=⟨_,rfl⟩
      refine callI hE (chLength_ n w hl hok (by omega)) λT' hT'=>?_
      rw [←hT] at hT' hsum
      obtain hT3:T=T':=hT'.symm;subst hT3
      conv=>cbv
      refine addI hE λu1 hu1=>?_
      rw [IntWalk.i64_in _ ⟨by omega,by omega⟩] at hu1
      conv=>cbv
      refine sub64 hE (by omega) λu2 hu2=>?_
      conv=>cbv
      refine needI hE (by omega) ?_
      conv=>cbv
      refine quo64 hE (by omega) λu3 hu3=>?_
      have hu3':=quo_bd hu3 (by omega)
      have hN:(stepsN s T:Int)=u3:=by unfold stepsN;rw [←hu1,←hu2,←hu3];omega
      have hst:=λk=>stepsN_lt (s:=s) (t:=T) (by omega) (by omega) k
      conv=>cbv
      refine add64 hE (by omega) λu4 hu4=>?_
      conv=>cbv
      refine ltI hE (λhfull=>?_) (λhfull=>?_)<;>conv=>cbv
      · refine nilOwnI hE 5 ?_
        conv=>cbv
        exact hK _ (by rw [gatesR,if_pos hc,if_pos hs,if_neg (by rw [←hT];omega)];rfl)
      repeat' first
        |((refine loop3 hE [1,2,6] [8,7] (λ(d k:Int) (es:List (List AV))=>([(8,.int .i64 d),(7,.ob 1)],[.box [.str n,.sl t 2 rl,.int .i64 w],.row 5 es],T - d,(0<=k/\k<=stepsN s T/\d=s*k/\d<T+s)/\es=((stepsTo s k.toNat).map (gateR l w)).map Gat.cs)) [0,1] ((0,0,[])) rfl rfl (by dsimp only;exact ⟨⟨by omega,by omega,by omega,by omega⟩,by rfl⟩) λd k es hi2 Kn2 hN2=>?_;(try dsimp only at hi2);conv=>cbv);obtain ⟨⟨k0,k1,hdk,hdT⟩,h2⟩:=hi2;(have hkn:=hst k.toNat);rw [show ((k.toNat:Nat):Int)=k by omega,←hdk] at hkn;(have hd0:0<=d:=by rw [hdk];exact Int.mul_nonneg (by omega) (by omega)))
        |(refine hN2 (_,k+1,_) _ [0,3] (by decide) rfl ⟨⟨?_,?_,?_,?_⟩,?_⟩ ?_<;>(try dsimp only))
        |((first
       |(refine callI hE (gate_ _ _ d hl hok h12 hw (by rw [←hT];omega)) (λg hg=>?_);obtain ⟨g1,g2,g3,g4,g5⟩:=g)
       |(refine callI hE (gate_ _ _ T hl hok h12 hw (by rw [←hT];omega)) (λg hg=>?_);obtain ⟨g1,g2,g3,g4,g5⟩:=g)
       |(refine catP hE (R:=Gat.cs) (v:=⟨g1,g2,g3,g4,g5⟩) (by assumption) rfl (by simp only [List.length_map,stepsTo_len];omega) (λes2 hes2=>?_))
       |(refine callP hE (containsGate0_ (p:=λg=>¬Gat.ok g) (l:=(placesR l s).map (gateR l w)) (by rw [hes2,hg];unfold placesR;rw [←hT,show stepsN s T=k.toNat by omega];simp) gatesFor1_) (λhbad=>?_) (λhbad=>?_))
       |refine q0 hE ?_
       |refine nilOwnI hE 5 ?_
       |refine B0 hE ?_|refine B1 hE ?_ ?_|refine B2 hE ?_)<;>intros<;>(try conv=>cbv))
      all_goals (try clear hN2)
      all_goals first
        |omega
        |(rename_i hd2;rw [hd2,hdk];grind)
        |(rw [hes2,show (k+1).toNat=k.toNat+1 by omega,stepsTo_succ,List.map_append,List.map_append,hg,hdk,List.map_append];simp [show ((k.toNat:Nat):Int)=k by omega];done)
        |(refine hK _ ?_;rw [gatesR,if_pos hc,if_pos hs,if_pos (by rw [←hT];omega),if_neg (λh=>by obtain ⟨g,h1,h2⟩:=hbad;obtain ⟨d',h3,rfl⟩:=List.mem_map.1 h1;exact h2 (h d' h3))];rfl)
        |(refine hK _ ?_;rw [gatesR,if_pos hc,if_pos hs,if_pos (by rw [←hT];omega),if_pos (λd' hd'=>Classical.byContradiction λhn=>hbad ⟨_,List.mem_map.2 ⟨d',hd',rfl⟩,hn⟩),hes2,placesR,←hT,show stepsN s T=k.toNat by omega];simp [gatLI,atup,hg];done)
    · refine nilOwnI hE 5 ?_
      conv=>cbv
      exact hK _ (by rw [gatesR,if_pos hc,if_neg hs];rfl)
  · refine nilOwnI hE 5 ?_
    conv=>cbv
    exact hK _ (by rw [gatesR,if_neg hc];rfl)
def Fwy.ok (v:Fwy):Prop:=(gatesR v.name v.line v.width v.spacing).2=0/\(0<=v.tolerance/\v.tolerance<=5000)
theorem isFairway_ (name:ByteArray) (width spacing tolerance:Int) {r_line:List (List AV)} {t_line:Bool} {line:List Pnt} (h_line:r_line=line.map Pnt.cs):AC Tryz.prog 121 [.agg [.str name,.sl t_line 2 r_line,.int .i64 width,.int .i64 spacing,.int .i64 tolerance]] AV.bool (bP (Fwy.ok (Fwy.mk name line width spacing tolerance))):=by
  refine ac Tryz.func121 (.bool _) λE K hE hK=>?_
  conv=>cbv
  repeat' first
    |((first
   |refine callLI (R:=Gat.cs) (k:=5) hE (gatesFor_ _ _ _ h_line) (λrs c hrs hc=>?_)
   |refine q0 hE ?_
   |refine callP hE (within_ _ _ _) (λ_=>?_) (λ_=>?_)
   |refine B0 hE ?_|refine B1 hE ?_ ?_|refine B2 hE ?_)<;>intros<;>(try conv=>cbv))
  all_goals first
    |exact finB hK (bP_true.2 ⟨by simp only;omega,by simp only;omega⟩)
    |(refine finB hK (bP_false.2 λh=>?_);have h1:=h.1;have h2:=h.2;simp only at h1 h2;omega)
end Go.Proofs.YtpfddoikhmbebaaGreatDoor
