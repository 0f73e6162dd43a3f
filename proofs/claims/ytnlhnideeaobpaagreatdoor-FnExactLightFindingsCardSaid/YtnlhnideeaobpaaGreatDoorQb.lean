/- A row into which an element is put: what it owns; slices.Insert of one aid into a list of aids, at the level of the model: its roads. DRAFT; Cells of rows into which an element is put: plain laws (elements of 16 cells); The contract of slices.Insert of one aid. DRAFT. -/
import Derived.Test.YtnlhnideeaobpaaGreatDoorAxU
import Derived.Shelf.Spec.SlicesInsertGrow
namespace Go.Proofs.YtnlhnideeaobpaaGreatDoor
set_option linter.unusedVariables false
set_option linter.unusedSimpArgs false
open Go Go.RowKit Go.Shelf Go.Lib
theorem vF {P:Program} (w:World) {dT sT ty elem T:TypeId} {k:Nat} (hu:P.underlying dT=some (.slice elem)) (hn:∀w,(sizeOf elem).run P w= .ok k w)
  (b o dLen dCap:Nat) (cur:Array Value) (hb:w.heap[b]? =some (.cells cur T (0,0))) (a:Addr) (sLen sCap m:Nat) (cs:List Value) (hm:Nat.min sLen dLen=m) (hl:cs.length=m*k)
  (hsrc:∀j v,cs[j]? =some v->w.cell? (a.add j)=some v) (hfit:o+cs.length<=cur.size) (h1:∀v∈cs,v.oneCell'=true):
  (Builtin.copy_ #[dT,sT] ty #[.slice (some ⟨b,o,none⟩) dLen dCap,.slice (some a) sLen sCap]).run P w= .ok (goInt m) (w.setRow b (bM cur o cs)):=by
 have hf:=run_firstCells_some (P:=P) w k m a sLen sCap cs hl hsrc;have hst:=run_storeCells_at P b o T cs 0 cur w hb (by simpa using hfit) h1;simp only [em] at hst;simp [Builtin.copy_,run_underlying hu,hn,Builtin.lenOf,hm,hf,hst,bM]
theorem cell_of_row {w:World} {b:Nat} {T:TypeId} {cur:Array Value} (hb:w.heap[b]? =some (.cells cur T (0,0))) {j:Nat} (hj:j<cur.size):w.cell? ⟨b,j,none⟩=some (cur.getD j undef):=by
 simp [World.cell?,hb,hj]
theorem kC {cur:Array Value} {o len j:Nat} {v:Value} (h:((cur.toList.drop o).take len)[j]? =some v):j<len/\o+j<cur.size/\v=cur.getD (o+j) undef:=by
 rw [be] at h;split at h
 ·rename_i hj;rw [bv] at h;obtain ⟨h2,h3⟩:=aa.1 h;(have h4:o+j<cur.size:=by simpa using h2);exact ⟨hj,h4,by rw [←h3];simp [h4]⟩
 ·cases h
theorem RH:Tryz.prog.follows .mixedOrders=true:=by kernel_rfl
theorem pO {w:World} {A:Nat->Prop} {k:Nat} {es:List (List AV)} {v:Value} {F:Nat->Prop} (h:bB w A (.sl true k es) v F):(es=[]/\v= .slice none 0 0/\∀x,¬F x)∨∃(cap b:Nat) (T:TypeId) (c:Array Value) (G:Nat->Nat->Nat->Prop),v= .slice (some ⟨b,0,none⟩) es.length cap/\w.heap[b]? =some (.cells c T (0,0))/\es.length<=maxLen/\es.length<=cap/\cap*k<=c.size/\(∀e∈es,e.length=k)/\
  (∀i j,i<es.length->j<k->(c.getD (i*k+j) undef).oneCell'=true)/\(∀(i j:Nat) e a,es[i]? =some e->e[j]? =some a->bB w A a (c.getD (i*k+j) undef) (G i j))/\(∀x,F x↔x=b∨∃i j,i<es.length/\j<k/\G i j x)/\(∀i j,i<es.length->j<k->¬G i j b)/\
  (∀i j i' j' x,i<es.length->j<k->i'<es.length->j'<k->G i j x->G i' j' x->i=i'/\j=j'):=by
 cases h with
 |pure _ _ _ _ ho _=>simp [AV.dF] at ho
 |nil _ _ hF=>exact .inl ⟨rfl,rfl,hF⟩
 |sl _ _ cap b T c _ G hb hl hcap hsz hk h1 hr hF h0 hd=>exact .inr ⟨cap,b,T,c,G,rfl,hb,hl,hcap,hsz,hk,h1,hr,hF,h0,hd⟩
theorem af3 {α:Type} {l:List α} {x:α} {i m:Nat} (hi:i<=l.length):(l.take i++x::l.drop i)[m]? =if m<i then l[m]? else if m=i then some x else l[m - 1]?:=by
 have hl:(l.take i).length=i:=by rw [ba];omega
 by_cases h1:m<i
 ·rw [if_pos h1,br (by omega),be,if_pos h1]
 ·rw [if_neg h1,cX (by omega),hl];by_cases h2:m=i
  ·rw [if_pos h2,h2,kj];rfl
  ·rw [if_neg h2,show m - i=(m - i - 1)+1 by omega,eg,bv];congr 1;omega
theorem bB.ins {w w':World} {A:Nat->Prop} {k:Nat} {es:List (List AV)} {e:List AV} {i:Nat} {cur cv c':Array Value} {G0:Nat->Nat->Nat->Prop} {H:Nat->Nat->Prop} {b' cap':Nat} {T:TypeId} (hi:i<=es.length)
  (hk:∀x∈es,x.length=k) (he:e.length=k) (hr0:∀(i j:Nat) x a,es[i]? =some x->x[j]? =some a->bB w A a (cur.getD (i*k+j) undef) (G0 i j)) (hrv:∀(j:Nat) a,e[j]? =some a->bB w A a (cv.getD j undef) (H j))
  (h1:∀i j,i<es.length->j<k->(cur.getD (i*k+j) undef).oneCell'=true) (h1v:∀j,j<k->(cv.getD j undef).oneCell'=true)
  (hd0:∀i j i' j' x,i<es.length->j<k->i'<es.length->j'<k->G0 i j x->G0 i' j' x->i=i'/\j=j') (hdv:∀j j' x,j<k->j'<k->H j x->H j' x->j=j') (hdd:∀i j j' x,i<es.length->j<k->j'<k->G0 i j x->¬H j' x)
  (hb:w'.heap[b']? =some (.cells c' T (0,0))) (hl:es.length+1<=maxLen) (hcap:es.length+1<=cap') (hsz:cap'*k<=c'.size)
  (hc:∀m j,m<es.length+1->j<k->c'.getD (m*k+j) undef=if m<i then cur.getD (m*k+j) undef else if m=i then cv.getD j undef else cur.getD ((m - 1)*k+j) undef)
  (hbl:∀x,A x∨(∃i j,i<es.length/\j<k/\G0 i j x)∨(∃j,j<k/\H j x)->w'.heap[x]? =w.heap[x]?) (hb0:∀i j,i<es.length->j<k->¬G0 i j b') (hbv:∀j,j<k->¬H j b'):
  bB w' A (.sl true k (es.take i++e::es.drop i)) (.slice (some ⟨b',0,none⟩) (es.length+1) cap') (λx=>x=b'∨(∃i j,i<es.length/\j<k/\G0 i j x)∨∃j,j<k/\H j x):=by
 have hll:(es.take i++e::es.drop i).length=es.length+1:=by rw [am,bi,ba,ct];omega
 obtain ⟨G,hG⟩:∃G:Nat->Nat->Nat->Prop,G=λm j=>if m<i then G0 m j else if m=i then H j else G0 (m - 1) j:=⟨_,rfl⟩
 have hGl:∀m j,m<i->G m j=G0 m j:=λm j h=>by rw [hG];simp only [if_pos h]
 have hGe:∀j,G i j=H j:=λj=>by rw [hG];simp
 have hGr:∀m j,i<m->G m j=G0 (m - 1) j:=λm j h=>by rw [hG];simp only [if_neg (show ¬m<i by omega),if_neg (show ¬m=i by omega)]
 have hx:bB w' A (.sl true k (es.take i++e::es.drop i)) (.slice (some ⟨b',0,none⟩) (es.take i++e::es.drop i).length cap') (λx=>x=b'∨∃m j,m<(es.take i++e::es.drop i).length/\j<k/\G m j x):=by
  refine .sl k _ cap' b' T c' _ G hb (by rw [hll];exact hl) (by rw [hll];exact hcap) hsz (λx hx=>?_) (λm j hm hj=>?_) (λm j x a hx ha=>?_) (λ_=>i8) (λm j hm hj h=>?_) (λm j m' j' x hm hj hm' hj' h h'=>?_)
  ·rcases ca.1 hx with h|h
   ·exact hk x (dd h)
   ·rcases bk.1 h with rfl|h
    ·exact he
    ·exact hk x (du h)
  ·rw [hll] at hm;rw [hc m j hm hj];split
   ·exact h1 m j (by omega) hj
   ·split
    ·exact h1v j hj
    ·exact h1 (m - 1) j (by omega) hj
  ·have hm:=(aa.1 hx).1;rw [hll] at hm;rw [af3 hi] at hx;rcases dq m i with h|h|h
   ·rw [if_pos h] at hx;(have hj:j<k:=by rw [←hk x (ae hx)];exact (aa.1 ha).1);rw [hc m j hm hj,if_pos h,hGl m j h];exact (hr0 m j x a hx ha).mono (λ_ h=>h) λy hy=>hbl y (hy.imp id λhy=> .inl ⟨m,j,by omega,hj,hy⟩)
   ·subst h;rw [if_neg (by omega),if_pos rfl] at hx;cases hx;(have hj:j<k:=by rw [←he];exact (aa.1 ha).1);rw [hc m j hm hj,if_neg (by omega),if_pos rfl,hGe];exact (hrv j a ha).mono (λ_ h=>h) λy hy=>hbl y (hy.imp id λhy=> .inr ⟨j,hj,hy⟩)
   ·rw [if_neg (by omega),if_neg (by omega)] at hx;(have hj:j<k:=by rw [←hk x (ae hx)];exact (aa.1 ha).1);rw [hc m j hm hj,if_neg (by omega),if_neg (by omega),hGr m j h];exact (hr0 (m - 1) j x a hx ha).mono (λ_ h=>h) λy hy=>hbl y (hy.imp id λhy=> .inl ⟨m - 1,j,by omega,hj,hy⟩)
  ·rw [hll] at hm;rcases dq m i with g|g|g
   ·rw [hGl m j g] at h;exact hb0 m j (by omega) hj h
   ·subst g;rw [hGe] at h;exact hbv j hj h
   ·rw [hGr m j g] at h;exact hb0 (m - 1) j (by omega) hj h
  ·rw [hll] at hm hm';rcases dq m i with g|g|g<;>rcases dq m' i with g'|g'|g'
   ·rw [hGl m j g] at h;rw [hGl m' j' g'] at h';exact hd0 m j m' j' x (by omega) hj (by omega) hj' h h'
   ·subst g';rw [hGl m j g] at h;rw [hGe] at h';exact (hdd m j j' x (by omega) hj hj' h h').elim
   ·rw [hGl m j g] at h;rw [hGr m' j' g'] at h';have:=hd0 m j (m' - 1) j' x (by omega) hj (by omega) hj' h h';omega
   ·subst g;rw [hGe] at h;rw [hGl m' j' g'] at h';exact (hdd m' j' j x (by omega) hj' hj h' h).elim
   ·subst g;subst g';rw [hGe] at h h';exact ⟨rfl,hdv j j' x hj hj' h h'⟩
   ·subst g;rw [hGe] at h;rw [hGr m' j' g'] at h';exact (hdd (m' - 1) j' j x (by omega) hj' hj h' h).elim
   ·rw [hGr m j g] at h;rw [hGl m' j' g'] at h';have:=hd0 (m - 1) j m' j' x (by omega) hj (by omega) hj' h h';omega
   ·subst g';rw [hGr m j g] at h;rw [hGe] at h';exact (hdd (m - 1) j j' x (by omega) hj hj' h h').elim
   ·rw [hGr m j g] at h;rw [hGr m' j' g'] at h';have:=hd0 (m - 1) j (m' - 1) j' x (by omega) hj (by omega) hj' h h';omega
 rw [hll] at hx;refine hx.congr λx=>?_;constructor
 ·rintro (h|⟨m,j,hm,hj,h⟩|⟨j,hj,h⟩)
  ·exact .inl h
  ·rcases da m i with g|g
   ·exact .inr ⟨m,j,by omega,hj,by rw [hGl m j g];exact h⟩
   ·exact .inr ⟨m+1,j,by omega,hj,by rw [hGr (m+1) j (by omega)];exact h⟩
  ·exact .inr ⟨i,j,by omega,hj,by rw [hGe];exact h⟩
 ·rintro (h|⟨m,j,hm,hj,h⟩)
  ·exact .inl h
  ·rcases dq m i with g|g|g
   ·rw [hGl m j g] at h;exact .inr (.inl ⟨m,j,by omega,hj,h⟩)
   ·subst g;rw [hGe] at h;exact .inr (.inr ⟨j,hj,h⟩)
   ·rw [hGr m j g] at h;exact .inr (.inl ⟨m - 1,j,by omega,hj,h⟩)
set_option maxHeartbeats 8000000 in
set_option maxRecDepth 100000 in
theorem Lj (n c i vc:Nat) (b vb:Nat) (T Tv:TypeId) (cur cv:Array Value) (w:World) (hi:i<n) (hroom:n+1<=c) (hc:c*16<=cur.size) (hcv:16<=cv.size) (hvb:vb≠b) (hn63:n+1<=140737488355328)
  (hb:w.heap[b]? =some (.cells cur T (0,0))) (hv:w.heap[vb]? =some (.cells cv Tv (0,0))) (h1:∀j,j<n*16->(cur.getD j undef).oneCell'=true) (h1v:∀j,j<16->(cv.getD j undef).oneCell'=true)
  (mid fin:List Value) (hmid:mid=(cur.toList.drop (i*16)).take ((n - i)*16)) (hfin:fin=cv.toList.take 16):
  Calls Tryz.prog 353 #[.slice (some ⟨b,0,none⟩) n c,.int .i64 i,.slice (some ⟨vb,0,none⟩) 1 vc] w λe w'=>
   e= .returned (.slice (some ⟨b,0,none⟩) (n+1) c)/\w'=(w.drew.setRow b (bM cur ((i+1)*16) mid)).setRow b (bM (bM cur ((i+1)*16) mid) (i*16) fin):=by
 have t3:=ev;have z3:=eM;have t4:=ey;have z4:=fc;have tS:=f7;have zS:=Tryz.sizeOf39;have zA:=Tryz.sizeOf82;have aA:=Tryz.isAgg82;have u3:=run_underlying t3;have u4:=run_underlying t4;have uS:=run_underlying tS;have mixed:=RH;have hml:mid.length=(n - i)*16:=by rw [hmid,ba,ct,ci];omega
 have hfl:fin.length=1*16:=by rw [hfin,ba,ci];omega
 have hz1:¬((1:Int)=0):=by omega
 have hz2:¬((i:Int)=(n:Int)):=by omega
 have hsa:w.shape? vb=some (Tv,cv.size):=by simp [World.shape?,hv]
 have hsb:w.shape? b=some (T,cur.size):=by simp [World.shape?,hb]
 have hov:∀lb cb,(callFunc 406 #[.slice (some ⟨vb,0,none⟩) 1 vc,.slice (some ⟨b,(i+1)*16,none⟩) lb cb]).run Tryz.prog w= .ok (.value (.bool false)) w:=λlb cb=>by
  rw [run_callFunc_extern Tryz.func406 (by kernel_rfl) (by kernel_rfl) (by kernel_rfl) (e:=Extern.SlicesOverlaps.overlaps #[39,39] #[4]) (by kernel_rfl),
   Lib.run_overlaps_apart w 39 4 82 tS 16 zA ⟨vb,0,none⟩ ⟨b,(i+1)*16,none⟩ 1 vc lb cb hvb Tv T cv.size cur.size hsa hsb (by omega) (by simp [World.frozen?,hv]) (by simp [World.frozen?,hv])]
  rfl
 have hcp1:∀ty dc sc,(Builtin.copy_ #[39,39] ty #[.slice (some ⟨b,(i+1)*16,none⟩) (n - i) dc,.slice (some ⟨b,i*16,none⟩) (n+1 - i) sc]).run Tryz.prog w.drew= .ok (goInt ((n - i:Nat):Int)) (w.drew.setRow b (bM cur ((i+1)*16) mid)):=λty dc sc=>by
  refine vF w.drew tS zA b _ _ dc cur hb ⟨b,i*16,none⟩ _ sc (n - i) mid (by simp only [nt];split<;>omega) hml (λj v hj=>?_) (by omega) (λv hv=>?_)
  ·obtain ⟨_,h2,h3⟩:=kC (hmid ▸ hj);rw [gi,h3];exact cell_of_row hb h2
  ·obtain ⟨j,hj⟩:=ap hv;obtain ⟨h2,_,h3⟩:=kC (hmid ▸ hj);rw [h3];exact h1 _ (by omega)
 have hsz1:(bM cur ((i+1)*16) mid).size=cur.size:=dK (by omega);obtain ⟨W1,hW1⟩:∃W1,W1=w.drew.setRow b (bM cur ((i+1)*16) mid):=⟨_,rfl⟩
 have hb1:W1.heap[b]? =some (.cells (bM cur ((i+1)*16) mid) T (0,0)):=by rw [hW1];exact setRow_heap w.drew b cur _ T _ hb
 have hv1:W1.heap[vb]? =some (.cells cv Tv (0,0)):=by
  rw [hW1];show (w.heap.modify b _)[vb]? =_;rw [ef,if_neg (cI hvb),hv]
 have hcp2:∀ty dc,(Builtin.copy_ #[39,39] ty #[.slice (some ⟨b,i*16,none⟩) (n+1 - i) dc,.slice (some ⟨vb,0,none⟩) 1 vc]).run Tryz.prog W1= .ok (goInt ((1:Nat):Int)) (W1.setRow b (bM (bM cur ((i+1)*16) mid) (i*16) fin)):=λty dc=>by
  refine vF W1 tS zA b _ _ dc _ hb1 ⟨vb,0,none⟩ 1 vc 1 fin (by simp only [nt];split<;>omega) hfl (λj v hj=>?_) (by omega) (λv hv=>?_)
  ·obtain ⟨_,h2,h3⟩:=kC (o:=0) (by rw [dC];exact hfin ▸ hj);rw [gi,h3];exact cell_of_row hv1 h2
  ·obtain ⟨j,hj⟩:=ap hv;obtain ⟨h2,_,h3⟩:=kC (o:=0) (by rw [dC];exact hfin ▸ hj);rw [h3];exact h1v _ (by omega)
 rw [←hW1] at hcp1 ⊢;have hw1:IntKind.i64.wrap ((i:Int)+1)=(i:Int)+1:=by rw [hP];omega
 have hw2:IntKind.i64.wrap ((n:Int)+1)=(n:Int)+1:=by rw [hP];omega
 have hb1':(0:Int)<=(i:Int)+1:=by omega
 have hin:i<=n:=by omega
 have htn:((i:Int)+1).toNat=i+1:=by omega
 have ajE:((n:Int)+1).toNat=n+1:=by omega
 have hb2:¬(c=i+1):=by omega
 have hb3:(i:Int)<=(n:Int)+1:=by omega
 have hb4:¬(c=i):=by omega
 clear hmid hfin hsz1 hb1 hv1 hml hfl h1 h1v hsa hsb hW1
 go_enter kt,lp
 go_wp2_with (simp only [hov])
 go_region_law_o (refine step_copy_runI rfl _ _ 39 39 rfl _ _ (by simp [Act.eval,Act.put]) (by simp [Act.eval,Act.put]) (hcp1 _ _ _) ?_)
 go_wp2_with (at_builtin;refine wpList_copy_runI _ rfl _ _ 39 39 rfl _ _ rfl rfl (hcp2 _ _) ?_)
 go_ret
 exact ⟨rfl,rfl⟩
set_option maxHeartbeats 8000000 in
set_option maxRecDepth 100000 in
theorem xO (n c vc:Nat) (base:Option Addr) (vb:Nat) (w w1:World) (r:Value) (hb:∀a,base=some a->a.spot=none) (hnc:n<=c) (hnil:base=none->n=0/\c=0)
  (hrun:∀ty,(Builtin.append_ #[39,39] ty #[.slice base n c,.slice (some ⟨vb,0,none⟩) 1 vc]).run Tryz.prog w= .ok r w1):
  Calls Tryz.prog 353 #[.slice base n c,.int .i64 n,.slice (some ⟨vb,0,none⟩) 1 vc] w λe w'=>e= .returned r/\w'=w1:=by
 have t3:=ev;have z3:=eM;have t4:=ey;have z4:=fc;have tS:=f7;have zS:=Tryz.sizeOf39;have zA:=Tryz.sizeOf82;have aA:=Tryz.isAgg82;have u3:=run_underlying t3;have u4:=run_underlying t4;have uS:=run_underlying tS;have mixed:=RH;have hz1:¬((1:Int)=0):=by omega
 cases base with
 | none=>
   obtain ⟨h0,h00⟩:=hnil rfl;subst h0 h00
   go_enter kt,lp
   go_wp2_with (at_builtin;refine Lib.wpList_append_run _ rfl _ _ _ _ rfl _ _ rfl rfl _ _ (hrun _) ?_)
   go_ret
   exact ⟨rfl,rfl⟩
 | some a=>
   obtain ⟨ab,ao,asp⟩:=a;have hs:=hb _ rfl;simp only at hs;subst hs
   go_enter kt,lp
   go_wp2_with (at_builtin;refine Lib.wpList_append_run _ rfl _ _ _ _ rfl _ _ rfl rfl _ _ (hrun _) ?_)
   all_goals (go_ret;exact ⟨rfl,rfl⟩)
set_option maxHeartbeats 8000000 in
set_option maxRecDepth 100000 in
theorem Pg (n c i vc:Nat) (b vb:Nat) (T Tv:TypeId) (cur cv:Array Value) (w:World) (z:Value) (i0:TypeInfo) (hi0:Tryz.prog.info? 82=some i0) (hz0:i0.zero=some z) (hzs:i0.size=16) (hzc:z.cells.size=16)
    (hi:i<n) (hnc:n<=c) (hroom:c<n+1) (hbig:(n+1)*i0.bytes<=140737488355328) (hn63:n+1<=140737488355328) (hc:c*16<=cur.size) (hcv:16<=cv.size)
    (hb:w.heap[b]? =some (.cells cur T (0,0))) (hv:w.heap[vb]? =some (.cells cv Tv (0,0))) (h1:∀j,j<n*16->(cur.getD j undef).oneCell'=true) (h1v:∀j,j<16->(cv.getD j undef).oneCell'=true)
    (mid fin:List Value) (hmid:mid=(cur.toList.drop (i*16)).take ((n - i)*16)) (hfin:fin=cv.toList.take 16)
    (G:Nat) (hG:G=grownCap w (n+1) c 82) (ROW:Array Value) (hROW:ROW=((cur.toList.drop 0).take (i*16)).toArray++Builtin.zeroCells z.cells (n+1 - i)++Builtin.zeroCells z.cells (G - (n+1))):
    Calls Tryz.prog 353 #[.slice (some ⟨b,0,none⟩) n c,.int .i64 i,.slice (some ⟨vb,0,none⟩) 1 vc] w λe w'=>
     e= .returned (.slice (some ⟨w.heap.size,0,none⟩) (n+1) G)/\w'=(((w.drew.alloc (.cells ROW 82)).setRow w.heap.size (bM ROW (i*16) fin)).drew).setRow w.heap.size (bM (bM ROW (i*16) fin) ((i+1)*16) mid):=by
  have t3:=ev;have z3:=eM;have t4:=ey;have z4:=fc;have tS:=f7;have zS:=Tryz.sizeOf39;have zA:=Tryz.sizeOf82;have aA:=Tryz.isAgg82;have u3:=run_underlying t3;have u4:=run_underlying t4;have uS:=run_underlying tS;have mixed:=RH;have hml:mid.length=(n - i)*16:=by rw [hmid,ba,ct,ci];omega
  have hfl:fin.length=1*16:=by rw [hfin,ba,ci];omega
  have hbw:b<w.heap.size:=(bj.1 hb).1;have hvw:vb<w.heap.size:=(bj.1 hv).1;have hpl:((cur.toList.drop 0).take (i*16)).length=i*16:=by rw [ba,ct,ci];omega
  have hold:(Builtin.firstCells i0.size i (.slice (some ⟨b,0,none⟩) i c)).run Tryz.prog w.drew= .ok ((cur.toList.drop 0).take (i*16)).toArray w.drew:=by
   refine run_firstCells_some w.drew i0.size i ⟨b,0,none⟩ i c _ (by rw [hpl,hzs]) (λj v hj=>?_);obtain ⟨_,h2,h3⟩:=kC hj;rw [gi,h3];exact cell_of_row (w:=w) hb h2
  have hkk:(n:Int)+1 - (i:Int)=((n+1 - i:Nat):Int):=by omega
  have hik:i+(n+1 - i)=n+1:=by omega
  have hfit:=growslice_fits hroom hbig
  have hrz:∀ty,(Builtin.append_ #[39,3] ty #[.slice (some ⟨b,0,none⟩) i c,.int .i64 ((n:Int)+1 - (i:Int))]).run Tryz.prog w=
      .ok (.slice (some ⟨w.heap.size,0,none⟩) (n+1) G) (w.drew.alloc (.cells ROW 82)):=λty=>by
    have h:=Lib.run_append_grow_zeros w 39 3 ty 82 i0 z .i64 .i64 tS t3 hi0 hz0 (some ⟨b,0,none⟩) i c _ hold (n+1 - i) (by omega) (by omega) (by omega) (by omega) (by
      have:(n+1 - i)*i0.bytes<=(n+1)*i0.bytes:=bc _ (by omega)
      omega) (by rw [hik];exact hfit)
    rw [hik,←hG,←hROW] at h;rw [hkk];exact h
  have hGn:n+1<=G:=by rw [hG];exact grownCap_ge w _ _ _
  have hG63:G<=9223372036854775807:=by
   have:=grownCap_le_maxLen w (n+1) c 82 (by unfold maxLen;omega);rw [←hG] at this;unfold maxLen at this;omega
  have hRs:ROW.size=G*16:=by
   rw [hROW];simp only [fW,ff,hpl,size_zeroCells,hzc];omega
  obtain ⟨W1,hW1⟩:∃W1,W1=w.drew.alloc (.cells ROW 82):=⟨_,rfl⟩
  obtain ⟨h,hh⟩:∃h,h=w.heap.size:=⟨_,rfl⟩
  have hN1:W1.heap[h]? =some (.cells ROW 82 (0,0)):=by rw [hW1,hh];exact heap_alloc_new w.drew _
  have hb1:W1.heap[b]? =some (.cells cur T (0,0)):=by rw [hW1];exact (gh w.drew _ b hbw).trans hb
  have hv1:W1.heap[vb]? =some (.cells cv Tv (0,0)):=by rw [hW1];exact (gh w.drew _ vb hvw).trans hv
  have hcpA:∀ty dc,(Builtin.copy_ #[39,39] ty #[.slice (some ⟨h,i*16,none⟩) (n+1 - i) dc,.slice (some ⟨vb,0,none⟩) 1 vc]).run Tryz.prog W1= .ok (goInt ((1:Nat):Int)) (W1.setRow h (bM ROW (i*16) fin)):=λty dc=>by
   refine vF W1 tS zA h _ _ dc _ hN1 ⟨vb,0,none⟩ 1 vc 1 fin (by simp only [nt];split<;>omega) hfl (λj v hj=>?_) (by omega) (λv hv=>?_)
   ·obtain ⟨_,h2,h3⟩:=kC (o:=0) (by rw [dC];exact hfin ▸ hj);rw [gi,h3];exact cell_of_row hv1 h2
   ·obtain ⟨j,hj⟩:=ap hv;obtain ⟨h2,_,h3⟩:=kC (o:=0) (by rw [dC];exact hfin ▸ hj);rw [h3];exact h1v _ (by omega)
  have hsz1:(bM ROW (i*16) fin).size=ROW.size:=dK (by omega);obtain ⟨W2,hW2⟩:∃W2,W2=W1.setRow h (bM ROW (i*16) fin):=⟨_,rfl⟩
  have hN2:W2.drew.heap[h]? =some (.cells (bM ROW (i*16) fin) 82 (0,0)):=by rw [hW2];exact setRow_heap W1 h ROW _ _ _ hN1
  have hb2:W2.drew.heap[b]? =some (.cells cur T (0,0)):=by
   rw [hW2];show (W1.heap.modify h _)[b]? =_;rw [ef,if_neg (by omega),hb1]
  have hcpB:∀ty dc sc,(Builtin.copy_ #[39,39] ty #[.slice (some ⟨h,(i+1)*16,none⟩) (n - i) dc,.slice (some ⟨b,i*16,none⟩) (n - i) sc]).run Tryz.prog W2.drew= .ok (goInt ((n - i:Nat):Int)) (W2.drew.setRow h (bM (bM ROW (i*16) fin) ((i+1)*16) mid)):=λty dc sc=>by
   refine vF W2.drew tS zA h _ _ dc _ hN2 ⟨b,i*16,none⟩ _ sc (n - i) mid (by simp) hml (λj v hj=>?_) (by omega) (λv hv=>?_)
   ·obtain ⟨_,h2,h3⟩:=kC (hmid ▸ hj);rw [gi,h3];exact cell_of_row hb2 h2
   ·obtain ⟨j,hj⟩:=ap hv;obtain ⟨h2,_,h3⟩:=kC (hmid ▸ hj);rw [h3];exact h1 _ (by omega)
  rw [←hW2] at hcpA;rw [←hW1,←hh] at hrz ⊢;rw [←hW2];have hw1:IntKind.i64.wrap ((i:Int)+1)=(i:Int)+1:=by rw [hP];omega
  have hw2:IntKind.i64.wrap ((n:Int)+1)=(n:Int)+1:=by rw [hP];omega
  have hw3:IntKind.i64.wrap ((n:Int)+1 - (i:Int))=(n:Int)+1 - (i:Int):=by rw [hP];omega
  have hb1':(0:Int)<=(i:Int)+1:=by omega
  have hin:i<=n:=by omega
  have htn:((i:Int)+1).toNat=i+1:=by omega
  have hz1:¬((1:Int)=0):=by omega
  have hz2:¬((i:Int)=(n:Int)):=by omega
  have hGi:¬(G=i):=by omega
  have ajP:¬(G=i+1):=by omega
  have hci:¬(c=i):=by omega
  have hb3:(i:Int)<=(n:Int)+1:=by omega
  clear hh hmid hfin hsz1 hN1 hN2 hb1 hb2 hv1 hml hfl h1 h1v hW1 hW2 hROW hG hold hkk hik hfit hRs hpl hzc hzs hz0 hi0 hbig
  go_enter kt,lp
  go_wp2_with (first
   |(at_builtin;refine Lib.wpList_append_run _ rfl _ _ _ _ rfl _ _ rfl rfl _ _ (hrz _) ?_)
   |(at_builtin;refine wpList_copy_runI _ rfl _ _ 39 39 rfl _ _ rfl rfl (hcpA _ _) ?_)
   |(at_builtin;refine wpList_copy_runI _ rfl _ _ 39 39 rfl _ _ rfl rfl (hcpB _ _ _) ?_))
  go_region_law_o (refine step_copy_runI rfl _ _ 39 39 rfl _ _ (by simp [Act.eval,Act.put]) (by simp [Act.eval,Act.put]) (hcpB _ _ _) ?_)
  go_wp2
  go_ret
  exact ⟨rfl,rfl⟩
theorem yQ {cur:Array Value} {o len j:Nat} (hj:j<len) (hc:o+j<cur.size):((cur.toList.drop o).take len).getD j undef=cur.getD (o+j) undef:=by
 rw [ad,be,if_pos hj,bv,bd,b9]
theorem DL {cur:Array Value} {q n:Nat} {mid:List Value} (hn:n*16<=cur.size) (hq:q<=n) (hmid:mid=(cur.toList.drop (q*16)).take ((n - q)*16)):mid.length=(n - q)*16:=by
 have:=@ci _ cur;rw [hmid,ba,ct];omega
theorem F3 {cv:Array Value} {fi:List Value} (hcv:16<=cv.size) (hfi:fi=cv.toList.take 16):fi.length=16:=by
 have:=@ci _ cv;rw [hfi,ba];omega
theorem Ls {cv:Array Value} {fi:List Value} {j:Nat} (hcv:16<=cv.size) (hfi:fi=cv.toList.take 16) (hj:j<16):fi.getD j undef=cv.getD j undef:=by
 have:=yQ (cur:=cv) (o:=0) (len:=16) hj (by omega);rw [dC,bw] at this;rw [hfi];exact this
theorem XR {cur cv:Array Value} {q n:Nat} {mid fi:List Value} (hq:q<=n) (hn:(n+1)*16<=cur.size) (hcv:16<=cv.size) (hmid:mid=(cur.toList.drop (q*16)).take ((n - q)*16)) (hfi:fi=cv.toList.take 16) (m j:Nat) (hm:m<n+1) (hj:j<16):
  (bM (bM cur ((q+1)*16) mid) (q*16) fi).getD (m*16+j) undef=if m<q then cur.getD (m*16+j) undef else if m=q then cv.getD j undef else cur.getD ((m - 1)*16+j) undef:=by
 have hml:=DL (by omega) hq hmid;have hfl:=F3 hcv hfi;have hs:=dK (c:=cur) (off:=(q+1)*16) (new:=mid) (by omega);rw [eY (by omega),eY (by omega),hml,hfl];rcases dq m q with h|h|h
 ·rw [if_pos (by omega),if_pos (by omega),if_pos h]
 ·subst h;rw [if_neg (by omega),if_pos (by omega),if_neg (by omega),if_pos rfl,show m*16+j - m*16=j by omega];exact Ls hcv hfi hj
 ·rw [if_neg (by omega),if_neg (by omega),if_neg (by omega),if_pos (by omega),if_neg (by omega),if_neg (by omega),hmid,yQ (by omega) (by omega)];congr 1;omega
theorem SG {cur cv ROW:Array Value} {q n:Nat} {mid fi:List Value} (hq:q<=n) (hn:n*16<=cur.size) (hR:(n+1)*16<=ROW.size) (hcv:16<=cv.size) (hpre:∀x,x<q*16->ROW.getD x undef=cur.getD x undef) (hmid:mid=(cur.toList.drop (q*16)).take ((n - q)*16)) (hfi:fi=cv.toList.take 16) (m j:Nat) (hm:m<n+1) (hj:j<16):
  (bM (bM ROW (q*16) fi) ((q+1)*16) mid).getD (m*16+j) undef=if m<q then cur.getD (m*16+j) undef else if m=q then cv.getD j undef else cur.getD ((m - 1)*16+j) undef:=by
 have hml:=DL hn hq hmid;have hfl:=F3 hcv hfi;have hs:=dK (c:=ROW) (off:=q*16) (new:=fi) (by omega);rw [eY (by omega),eY (by omega),hml,hfl];rcases dq m q with h|h|h
 ·rw [if_pos (by omega),if_pos (by omega),if_pos h];exact hpre _ (by omega)
 ·subst h;rw [if_pos (by omega),if_neg (by omega),if_pos (by omega),if_neg (by omega),if_pos rfl,show m*16+j - m*16=j by omega];exact Ls hcv hfi hj
 ·rw [if_neg (by omega),if_pos (by omega),if_neg (by omega),if_neg (by omega),hmid,yQ (by omega) (by omega)];congr 1;omega
theorem UG {cur zs:Array Value} {o:Nat} (ho:o<=cur.size) (x:Nat) (hx:x<o):(((cur.toList.drop 0).take o).toArray++zs).getD x undef=cur.getD x undef:=by
 have hl:((cur.toList.drop 0).take o).length=o:=by
  have:=@ci _ cur;rw [ba,ct];omega
 rw [b9,eQ (by rw [ff,hl];exact hx),fy];have:=yQ (cur:=cur) (o:=0) (len:=o) hx (by omega);rw [ad,bw] at this;exact this
theorem Ye {cur cv:Array Value} {n:Nat} {fi:List Value} (hn:(n+1)*16<=cur.size) (hcv:16<=cv.size) (hfi:fi=cv.toList.take 16) (m j:Nat) (hm:m<n+1) (hj:j<16):
  (bM cur (n*16) fi).getD (m*16+j) undef=if m<n then cur.getD (m*16+j) undef else if m=n then cv.getD j undef else cur.getD ((m - 1)*16+j) undef:=by
 have hfl:=F3 hcv hfi;rw [eY (by omega),hfl];rcases dq m n with h|h|h
 ·rw [if_pos (by omega),if_pos h]
 ·subst h;rw [if_neg (by omega),if_pos (by omega),if_neg (by omega),if_pos rfl,show m*16+j - m*16=j by omega];exact Ls hcv hfi hj
 ·omega
theorem wT {cur cv zs:Array Value} {n:Nat} {fi:List Value} (hn:n*16<=cur.size) (hcv:16<=cv.size) (hfi:fi=cv.toList.take 16) (m j:Nat) (hm:m<n+1) (hj:j<16):
  ((cur.toList.take (n*16)).toArray++fi.toArray++zs).getD (m*16+j) undef=if m<n then cur.getD (m*16+j) undef else if m=n then cv.getD j undef else cur.getD ((m - 1)*16+j) undef:=by
 have hfl:=F3 hcv hfi
 have hl:(cur.toList.take (n*16)).length=n*16:=by
  have:=@ci _ cur;rw [ba];omega
 rcases dq m n with h|h|h
 ·rw [if_pos h,no];have:=UG (cur:=cur) (zs:=fi.toArray++zs) hn (m*16+j) (by omega);rw [dC] at this;exact this
 ·subst h;rw [if_neg (by omega),if_pos rfl,b9,eQ (by simp [hl,hfl];omega),Array.getElem?_append_right (by simp [hl]),fy];rw [show m*16+j - (cur.toList.take (m*16)).toArray.size=j by simp [hl],←ad];exact Ls hcv hfi hj
 ·omega
theorem aeM:∃i0 z,Tryz.prog.info? 82=some i0/\i0.zero=some z/\i0.size=16/\z.cells.size=16/\i0.bytes<=1000:=by
 obtain ⟨i0,hi0⟩:∃i0,Tryz.prog.info? 82=some i0:=Option.isSome_iff_exists.1 (by kernel_rfl);have h1:(Tryz.prog.info? 82).map (·.size)=some 16:=by kernel_rfl
 have h2:(Tryz.prog.info? 82).map (λi=>i.zero.map (·.cells.size))=some (some 16):=by kernel_rfl
 have h3:(Tryz.prog.info? 82).map (λi=>decide (i.bytes<=1000))=some true:=by kernel_rfl
 rw [hi0] at h1 h2 h3;simp only [cF,cH] at h1 h2 h3
 cases hz:i0.zero with
 |none=>rw [hz] at h2;cases h2
 |some z=>rw [hz] at h2;exact ⟨i0,z,hi0,hz,h1,by simpa using h2,of_decide_eq_true h3⟩
theorem adU [St] {es:List (List AV)} {e:List AV} {i:Int} (hi:0<=i/\i<=es.length) (hbl:es.length<=1048576) (hnb:NoB (.sl true 16 (es.take i.toNat++e::es.drop i.toNat))):
    ACM Tryz.prog 353 [.sl true 16 es,.int .i64 i,.sl true 16 [e]] (λr ys=>r= .sl true 16 (es.take i.toNat++e::es.drop i.toNat)/\ys=[.any,.any,.any]):=by
  refine ⟨λargs w=>fF kt (by kernel_rfl) rfl args w,λw A vs F hg hX hA hFs hNG=>?_⟩
  cases hX with
  |pure _ _ _ _ ho _=>simp [AV.dF] at ho
  | tup _ _ _ G hn hc hFe hd=>
    obtain ⟨v0,v1,v2,rfl⟩:∃v0 v1 v2,vs=#[v0,v1,v2]:=by
     match vs,hn with
     |⟨[a,b,c]⟩,_=>exact ⟨a,b,c,rfl⟩
    have h0:bB w A (.sl true 16 es) v0 (G 0):=hc 0 _ rfl;have h1:bB w A (.int .i64 i) v1 (G 1):=hc 1 _ rfl;have h2:bB w A (.sl true 16 [e]) v2 (G 2):=hc 2 _ rfl
    obtain rfl:v1= .int .i64 i:=by
     cases h1 with
     |pure _ _ _ hr _ _=>cases hr;rfl
    have F0:∀x,G 0 x->F x:=λx hx=>(hFe x).2 ⟨0,by simp,hx⟩;have F2:∀x,G 2 x->F x:=λx hx=>(hFe x).2 ⟨2,by simp,hx⟩;(have D02:∀x,G 0 x->¬G 2 x:=λx h h'=>by have:=hd 0 2 x (by simp) (by simp) h h';omega);rcases pO h2 with ⟨h,_⟩|⟨vc,vb,Tv,cv,H,rfl,hv,_,ai3,ajC,hek,h1v,hrv,hFv,hv0,hvd⟩
    ·cases h
    have he:e.length=16:=hek e (by simp);have HG2:∀j x,j<16->H 0 j x->G 2 x:=λj x hj h=>(hFv x).2 (.inr ⟨0,j,by simp,hj,h⟩);have hm:i.toNat<=es.length:=by omega
    have fin :∀(w':World) (b' cap':Nat) (c' cur:Array Value) (T:TypeId) (G0:Nat->Nat->Nat->Prop),Keeps (λx=>x=b') w w'->(G 0 b'∨w.heap.size<=b')->(∀x∈es,x.length=16)->
      (∀(i j:Nat) x a,es[i]? =some x->x[j]? =some a->bB w A a (cur.getD (i*16+j) undef) (G0 i j))->(∀i j,i<es.length->j<16->(cur.getD (i*16+j) undef).oneCell'=true)->
      (∀i j i' j' x,i<es.length->j<16->i'<es.length->j'<16->G0 i j x->G0 i' j' x->i=i'/\j=j')->(∀i j x,i<es.length->j<16->G0 i j x->G 0 x)->(∀i j,i<es.length->j<16->¬G0 i j b')->
      w'.heap[b']? =some (.cells c' T (0,0))->es.length+1<=cap'->cap'*16<=c'.size->
      (∀m j,m<es.length+1->j<16->c'.getD (m*16+j) undef=if m<i.toNat then cur.getD (m*16+j) undef else if m=i.toNat then cv.getD j undef else cur.getD ((m - 1)*16+j) undef)->
      ∃v G r args',(r=AV.sl true 16 (es.take i.toNat++e::es.drop i.toNat)/\args'=[AV.any,.any,.any])/\Ending.returned (.slice (some ⟨b',0,none⟩) (es.length+1) cap')= .returned v/\Keeps F w w'/\bB w' (λ_=>False) (.tup (r::args')) (.tuple (#[v]++#[v0,.int .i64 i,.slice (some ⟨vb,0,none⟩) [e].length vc])) G/\∀b,G b->F b∨w.heap.size<=b/\b<w'.heap.size:=by
     intro w' b' cap' c' cur T G0 hkp hb0 hk hr0 h1c hd0 Ht hgb hb' hcap hsz hcc;have hlt:b'<w'.heap.size:=(bj.1 hb').1
     have hx:=bB.ins (w:=w) (w':=w') (A:=A) (H:=H 0) (cv:=cv) hm hk he hr0 (λj a ha=>by have:=hrv 0 j e a rfl ha;rwa [l4,bw] at this) h1c (λj hj=>by have:=h1v 0 j (by simp) hj;rwa [l4,bw] at this) hd0
      (λj j' x hj hj' h h'=>(hvd 0 j 0 j' x (by simp) hj (by simp) hj' h h').2) (λi j j' x hi hj hj' h h'=>D02 x (Ht i j x hi hj h) (HG2 j' x hj' h')) hb' (by unfold maxLen;omega) hcap hsz hcc
      (λx hx=>by
       rcases hx with h|⟨i,j,hi,hj,h⟩|⟨j,hj,h⟩
       ·refine hkp.block x (hA x h).1 λhxb=>?_;subst hxb;rcases hb0 with h'|h'
        ·exact (hA _ h).2 (F0 _ h')
        ·have:=(hA _ h).1;omega
       ·exact hkp.block x (hFs _ (F0 _ (Ht i j x hi hj h))) λhxb=>hgb i j hi hj (hxb ▸ h)
       ·refine hkp.block x (hFs _ (F2 _ (HG2 j x hj h))) λhxb=>?_;subst hxb;rcases hb0 with h'|h'
        ·exact D02 _ h' (HG2 j _ hj h)
        ·have:=hFs _ (F2 _ (HG2 j _ hj h));omega)
      hgb (λj hj h=>by
       rcases hb0 with h'|h'
       ·exact D02 _ h' (HG2 j _ hj h)
       ·have:=hFs _ (F2 _ (HG2 j _ hj h));omega)
     refine ⟨_,λx=>x=b'∨(∃i j,i<es.length/\j<16/\G0 i j x)∨∃j,j<16/\H 0 j x,_,_,⟨rfl,rfl⟩,rfl,?_,?_,λx hx=>?_⟩
     ·refine ⟨hkp.os,hkp.tape,hkp.output,hkp.size,λx hx hnf=>hkp.block x hx λhxb=>?_,hkp.frz,hkp.drawn⟩;subst hxb;rcases hb0 with h'|h'
      ·exact hnf (F0 _ h')
      ·omega
     ·refine .tup _ _ _ (λm x=>m=0/\(x=b'∨(∃i j,i<es.length/\j<16/\G0 i j x)∨∃j,j<16/\H 0 j x)) rfl (λm a ha=>?_) (λx=>⟨λh=>⟨0,by simp,rfl,h⟩,λ⟨_,_,_,h⟩=>h⟩) (λm m' x _ _ h h'=>by rw [h.1,h'.1])
      match m,ha with
      |0,ha=>cases ha;exact (hx.noB hnb).congr λx=>⟨λh=>h.2,λh=>⟨rfl,h⟩⟩
      |1,ha=>cases ha;exact .pure _ _ _ (.any _) rfl λx h=>absurd h.1 (by decide)
      |2,ha=>cases ha;exact .pure _ _ _ (.any _) rfl λx h=>absurd h.1 (by decide)
      |3,ha=>cases ha;exact .pure _ _ _ (.any _) rfl λx h=>absurd h.1 (by decide)
      |m+4,ha=>simp at ha
     ·rcases hx with rfl|⟨i,j,hi,hj,h⟩|⟨j,hj,h⟩
      ·rcases hb0 with h'|h'
       ·exact .inl (F0 _ h')
       ·exact .inr ⟨h',hlt⟩
      ·exact .inl (F0 _ (Ht i j x hi hj h))
      ·exact .inl (F2 _ (HG2 j x hj h))
    (obtain ⟨q,rfl⟩:∃q:Nat,i=q:=⟨i.toNat,by omega⟩);rw [di] at fin hm;have hq:q<=es.length:=hm;have hvb:∀b,G 0 b->vb≠b:=λb h hvb=>D02 b h ((hFv b).2 (.inl hvb.symm));(have agy:∀j,j<16->(cv.getD j undef).oneCell'=true:=λj hj=>by have:=h1v 0 j (by simp) hj;rwa [l4,bw] at this);(have CB:16<=cv.size:=by simp at ai3;omega);obtain ⟨i0,z,hi0,hz0,hzs,hzc,hby⟩:=aeM;(obtain ⟨fi,hfi⟩:∃fi,fi=cv.toList.take 16:=⟨_,rfl⟩);have hfl:fi.length=16:=F3 CB hfi
    have hfc:∀j u,fi[j]? =some u->w.cell? ((⟨vb,0,none⟩:Addr).add j)=some u:=λj u hj=>by
     obtain ⟨_,h2,h3⟩:=kC (o:=0) (by rw [dC];exact hfi ▸ hj);rw [gi,h3];exact cell_of_row hv h2
    have hf1:∀u∈fi,u.oneCell'=true:=λu hu=>by
     obtain ⟨j,hj⟩:=ap hu;obtain ⟨h2,_,h3⟩:=kC (o:=0) (by rw [dC];exact hfi ▸ hj);rw [h3,bw];exact agy j h2
    have agw:∀n,n<=1048577->n*i0.bytes<=1048577000:=λn hn=>by
     have:=fm hn hby;exact cE this (by decide)
    rcases pO h0 with ⟨rfl,rfl,hF0⟩|⟨c,b,T,cur,G0,rfl,hb,hl,hcap,hsz,hk,h1c,hr0,hF0,h00,hd0⟩
    ·(have hq0:q=0:=by simpa using hq);subst hq0
     have hr:∀ty,(Builtin.append_ #[39,39] ty #[.slice none 0 0,.slice (some ⟨vb,0,none⟩) 1 vc]).run Tryz.prog w= .ok (.slice (some ⟨w.heap.size,0,none⟩) 1 (grownCap w 1 0 82)) (w.drew.alloc (.cells (fi.toArray++Builtin.zeroCells z.cells (grownCap w 1 0 82 - 1)) 82)):=λty=>
      run_append_nil (P:=Tryz.prog) (w:=w) 39 ty 82 i0 z f7 hi0 hz0 ⟨vb,0,none⟩ 1 vc fi (by rw [hfl,hzs]) hfc (by omega) (by omega) (by have:=agw 1 (by omega);omega)
     refine (xO 0 0 vc none vb w _ _ (λa h=>by cases h) (aq _) (λ_=>⟨rfl,rfl⟩) hr).mono ?_;rintro en w' ⟨rfl,rfl⟩;have hge:=grownCap_ge w 1 0 82;refine fin _ w.heap.size (grownCap w 1 0 82) _ #[] 82 (λ_ _ _=>False) (((Keeps.drew w).weaken λx h=>h.elim).trans ((Keeps.alloc w.drew _ _).weaken λx h=>h.elim)) (.inr (aq _)) (λx hx=>by simp at hx) (λi j x a hx ha=>by simp at hx) (λi j hi hj=>by simp at hi) (λi j i' j' x hi=>by simp at hi) (λi j x hi hj h=>h.elim) (λi j hi hj h=>h) (heap_alloc_new w.drew _) (by simpa using hge) (by simp [hfl,size_zeroCells,hzc];omega) λm j hm hj=>?_;have:=wT (cur:=#[]) (zs:=Builtin.zeroCells z.cells (grownCap w 1 0 82 - 1)) (n:=0) (by simp) CB hfi m j (by simpa using hm) hj;simpa using this
    ·have hGb :G 0 b:=(hF0 b).2 (.inl rfl);have Ht:∀i j x,i<es.length->j<16->G0 i j x->G 0 x:=λi j x hi hj h=>(hF0 x).2 (.inr ⟨i,j,hi,hj,h⟩)
     have h1r:∀j,j<es.length*16->(cur.getD j undef).oneCell'=true:=λj hj=>by
      have:=h1c (j / 16) (j % 16) (by omega) (by omega);rwa [show j / 16*16+j % 16=j by omega] at this
     rcases da q es.length with hlt|hge
     ·by_cases hroom:es.length+1<=c
      ·(obtain ⟨mid,hmid⟩:∃mid,mid=(cur.toList.drop (q*16)).take ((es.length - q)*16):=⟨_,rfl⟩);have hml:mid.length=(es.length - q)*16:=DL (by omega) hq hmid;refine (Lj es.length c q vc b vb T Tv cur cv w hlt hroom hsz CB (hvb b hGb) (by omega) hb hv h1r agy mid fi hmid hfi).mono ?_;rintro en w' ⟨rfl,rfl⟩;exact fin _ b c _ cur T G0 (((Keeps.drew w).weaken λx h=>h.elim).trans ((fU (λx=>x=b) rfl).trans (fU (λx=>x=b) rfl))) (.inl hGb) hk hr0 h1c hd0 Ht h00 (setRow_heap _ b _ _ T _ (setRow_heap _ b cur _ T _ hb)) hroom (by rw [dK (by rw [dK (by omega)];omega),dK (by omega)];exact hsz) (λm j hm hj=>XR hq (by omega) CB hmid hfi m j hm hj)
      ·(obtain ⟨mid,hmid⟩:∃mid,mid=(cur.toList.drop (q*16)).take ((es.length - q)*16):=⟨_,rfl⟩);have hml:mid.length=(es.length - q)*16:=DL (by omega) hq hmid;(obtain ⟨R,hR⟩:∃R,R=grownCap w (es.length+1) c 82:=⟨_,rfl⟩);(have hRn:es.length+1<=R:=by rw [hR];exact grownCap_ge w _ _ _);obtain ⟨ROW,hROW⟩:∃ROW,ROW=((cur.toList.drop 0).take (q*16)).toArray++Builtin.zeroCells z.cells (es.length+1 - q)++Builtin.zeroCells z.cells (R - (es.length+1)):=⟨_,rfl⟩
       have hRs:ROW.size=R*16:=by
        have:=@ci _ cur;rw [hROW];simp only [fW,ff,size_zeroCells,hzc,ba,ct];omega
       refine (Pg es.length c q vc b vb T Tv cur cv w z i0 hi0 hz0 hzs hzc hlt hcap (by omega) (by have:=agw (es.length+1) (by omega);omega) (by omega) hsz CB hb hv h1r agy mid fi hmid hfi R hR ROW hROW).mono ?_;rintro en w' ⟨rfl,rfl⟩;have hn1:(w.drew.alloc (.cells ROW 82)).heap[w.heap.size]? =some (.cells ROW 82 (0,0)):=heap_alloc_new w.drew _;refine fin _ w.heap.size R _ cur 82 G0 (((((Keeps.drew w).weaken λx h=>h.elim).trans ((Keeps.alloc w.drew _ _).weaken λx h=>h.elim)).trans (fU (λx=>x=w.heap.size) rfl)).trans (((Keeps.drew _).weaken λx h=>h.elim).trans (fU (λx=>x=w.heap.size) rfl))) (.inr (aq _)) hk hr0 h1c hd0 Ht (λi j hi hj h=>by have:=hFs _ (F0 _ (Ht i j _ hi hj h));omega) (setRow_heap _ w.heap.size _ _ _ _ (setRow_heap _ w.heap.size ROW _ _ _ hn1)) hRn (by rw [dK (by rw [dK (by omega)];omega),dK (by omega)];omega) λm j hm hj=>?_;refine SG hq (by omega) (by omega) CB (λx hx=>?_) hmid hfi m j hm hj;rw [hROW,no];exact UG (by omega) x hx
     ·(have hqe:q=es.length:=by omega);subst hqe;by_cases hroom:es.length+1<=c
      ·have hr:∀ty,(Builtin.append_ #[39,39] ty #[.slice (some ⟨b,0,none⟩) es.length c,.slice (some ⟨vb,0,none⟩) 1 vc]).run Tryz.prog w= .ok (.slice (some ⟨b,0,none⟩) (es.length+1) c) (w.setRow b (bM cur (es.length*16) fi)):=λty=>by
        have:=run_append_room' (P:=Tryz.prog) (w:=w) (ty:=ty) i0 f7 hi0 b es.length c cur hb ⟨vb,0,none⟩ 1 vc fi (by rw [hfl,hzs]) hfc hf1 hroom (by rw [hzs];omega);rw [hzs] at this;exact this
       refine (xO es.length c vc (some ⟨b,0,none⟩) vb w _ _ (λa h=>by cases h;rfl) hcap (λh=>by cases h) hr).mono ?_;rintro en w' ⟨rfl,rfl⟩;exact fin _ b c _ cur T G0 (fU (λx=>x=b) rfl) (.inl hGb) hk hr0 h1c hd0 Ht h00 (setRow_heap _ b cur _ T _ hb) hroom (by rw [dK (by omega)];exact hsz) (λm j hm hj=>Ye (by omega) CB hfi m j hm hj)
      ·have hol:(cur.toList.take (es.length*16)).length=es.length*16:=by
        have:=@ci _ cur;rw [ba];omega
       have hr:∀ty,(Builtin.append_ #[39,39] ty #[.slice (some ⟨b,0,none⟩) es.length c,.slice (some ⟨vb,0,none⟩) 1 vc]).run Tryz.prog w= .ok (.slice (some ⟨w.heap.size,0,none⟩) (es.length+1) (grownCap w (es.length+1) c 82)) (w.drew.alloc (.cells ((cur.toList.take (es.length*16)).toArray++fi.toArray++Builtin.zeroCells z.cells (grownCap w (es.length+1) c 82 - (es.length+1))) 82)):=λty=>
         run_append_grow (P:=Tryz.prog) (w:=w) 39 ty 82 i0 z f7 hi0 hz0 ⟨b,0,none⟩ es.length c _ (by rw [hol,hzs]) (λj u hu=>by
           (have hu':((cur.toList.drop 0).take (es.length*16))[j]? =some u:=by rw [dC];exact hu);obtain ⟨_,h2,h3⟩:=kC hu'
           rw [gi,h3];exact cell_of_row hb h2) ⟨vb,0,none⟩ 1 vc fi (by rw [hfl,hzs]) hfc (by omega) (by omega) (growslice_fits (by omega) (by have:=agw (es.length+1) (by omega);omega))
       refine (xO es.length c vc (some ⟨b,0,none⟩) vb w _ _ (λa h=>by cases h;rfl) hcap (λh=>by cases h) hr).mono ?_;rintro en w' ⟨rfl,rfl⟩;have hge:=grownCap_ge w (es.length+1) c 82;exact fin _ w.heap.size _ _ cur 82 G0 (((Keeps.drew w).weaken λx h=>h.elim).trans ((Keeps.alloc w.drew _ _).weaken λx h=>h.elim)) (.inr (aq _)) hk hr0 h1c hd0 Ht (λi j hi hj h=>by have:=hFs _ (F0 _ (Ht i j _ hi hj h));omega) (heap_alloc_new w.drew _) hge (by simp only [fW,ff,size_zeroCells,hzc,hol,hfl];omega) (λm j hm hj=>wT (by omega) CB hfi m j hm hj)
end Go.Proofs.YtnlhnideeaobpaaGreatDoor
