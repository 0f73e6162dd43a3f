/- Soundness of the operations that make or change memory: one operation. -/
import Derived.Test.YtnlhnideeaobpaaGreatDoorAxB
namespace Go.Proofs.YtnlhnideeaobpaaGreatDoor
set_option linter.unusedVariables false
set_option linter.unusedSimpArgs false
open Go Go.RowKit
section
variable {P:Program} {np:Nat} {L:Lay} {W:WM} {w w':World} {A:Nat->Prop} {os os':List Obj} {hd hd':Nat->Value} {F F':Nat->Nat->Prop} {s:AS} {a:Act}
structure FR (w:World) (A:Nat->Prop) (os:List Obj) (hd:Nat->Value) (fr:List AV) (a:Act):Prop where
 qN:a.defers=[]
 size:a.tmps.size=fr.length
 slots:∀(t:Nat) x,fr[t]? =some x->aU w A os hd x (a.tmps.getD t undef)
theorem FR.get (h:FR w A s.os hd s.fr a) (y:Operand):aU w A s.os hd (s.get y) (a.eval y):=by
 cases y with
 | tmp t=>
  simp only [AS.get,Act.eval];by_cases ht:t<s.fr.length
  ·rw [show s.fr.getD t .any=s.fr[t] from by simp [List.getD,ht]];exact h.slots t _ (ag ht)
  ·rw [show s.fr.getD t .any= .any from by simp [List.getD,ht]];exact .pure _ _ (.any _)
 |const v=>exact .ZP v
 |global g=>exact .pure _ _ (.any _)
 |func f=>exact .pure _ _ (.fn f [] #[] rfl (λi x hx=>by simp at hx))
theorem FR.put (h:FR w A s.os hd s.fr a) {x v} (hx:aU w A s.os hd x v) (d:Option Tmp):FR w A (s.put d x).os hd (s.put d x).fr (a.put d v):=by
 cases d with
 |none=>exact h
 | some d=>
  refine ⟨h.qN,by simp [AS.put,Act.put,h.size],λt y hy=>?_⟩;simp only [AS.put] at hy ⊢;simp only [Act.put];rw [bh] at hy;split at hy
  ·rename_i e;subst e;split at hy
   ·rename_i hlt;cases hy;(have:d<a.tmps.size:=by rw [h.size];exact hlt);simpa [Array.getD,this] using hx
   ·cases hy
  ·rename_i e;have:=h.slots t y hy;rw [b9] at this ⊢;rw [Array.getElem?_setIfInBounds_ne e];exact this
theorem FR.eZ {fr:List AV} (h:FR w A os hd fr a) (hm:∀y u,aU w A os hd y u->aU w' A os' hd' y u):FR w' A os' hd' fr a:=
 ⟨h.qN,h.size,λt x hx=>hm _ _ (h.slots t x hx)⟩
theorem dX {o:Oper} {next:Act->World->Prop} {Q:Exit->Act->World->Prop} {v:Value} (h:(execOp a.eval o).run P w= .ok (.value v) w') (hn:next (a.put o.dst v) w'):o.wp P a w next Q:=by
 unfold Oper.wp;rw [h];exact hn
def iy [St] (P:Program) (W:WM) (w:World) (s:AS) (a:Act) (o:Oper) (K:AV->AS->Prop):Prop:=
 ∀(next:Act->World->Prop) (Q:Exit->Act->World->Prop),(∀x s' v w' A' hd' F',K x s'->s'.fr=s.fr->CW W w' A' s'.os hd' F'->FR w' A' s'.os hd' s.fr a->aU w' A' s'.os hd' x v->next (a.put o.dst v) w')->o.wp P a w next Q
theorem NS [St] (hw:CW W w A s.os hd F) (hf:FR w A s.os hd s.fr a) {o:Oper} {K:AV->AS->Prop} {cs:List AV} {c:Array Value} {T:TypeId} (hc:c.size=cs.length) (hs:∀(i:Nat) x,cs[i]? =some x->aU w A s.os hd x (c.getD i undef))
  (hr:(execOp a.eval o).run P w= .ok (.value (.pointer (some ⟨w.heap.size,0,none⟩))) (w.alloc (.cells c T))) (hk:K (.pb s.os.length 0) ⟨s.fr,s.os++[.box cs]⟩):iy P W w s a o K:=by
 intro next Q hn
 have hkp:=Keeps.alloc w c T;have hA:∀y,A y->y<w.heap.size:=λy hy=>(hw.hA y hy).1;refine dX hr (hn _ ⟨s.fr,s.os++[.box cs]⟩ _ _ A _ _ hk rfl ((hw.keep hkp).push (.box cs) (.pointer (some ⟨w.heap.size,0,none⟩)) (λx=>x=w.heap.size) (λx hx=>?_) (λk es e=>by cases e) (λcs' e=>?_)) (hf.eZ λy u h=>(h.keep hA hkp).push _ _) (.pb _ _ _ (by simp) λcs' ho=>?_))
 ·subst hx;refine ⟨hw.below.new (aq _),by simp,λh=>fR _ (hA _ h),λid h=>fR _ (hw.fsz id _ h).2⟩
 ·cases e;exact ⟨w.heap.size,T,c,rfl,heap_alloc_new w _,hc,λi x hx=>(hs i x hx).keep hA hkp,rfl⟩
 ·exact ⟨w.heap.size,iN _ _ _,rfl⟩
theorem Z.ahm (c:Value):aU w A os hd (Z.of c).av c:=by
 unfold Z.of;split
 ·split
  ·rename_i h;subst h;exact .pure _ _ (.int _ _)
  ·exact .pure _ _ (.any _)
 ·split
  ·rename_i h;subst h;exact .pure _ _ (.bool _)
  ·exact .pure _ _ (.any _)
 ·rename_i b;split
  ·rename_i h
   have:b=⟨#[]⟩:=by
    cases b with|mk d=>congr 1;exact lP.1 (by simpa using h)
   subst this;exact .pure _ _ (.str _ (by simp [ByteArray.size]))
  ·exact .pure _ _ (.any _)
 ·split
  ·rename_i h;obtain ⟨rfl,rfl⟩:=h;exact .pure _ _ .fV
  ·exact .pure _ _ (.any _)
 ·exact .pure _ _ .mR
 ·exact .pure _ _ (.any _)
theorem jO (hL:L.ty=bR P) {t:TypeId} (h:(L.ty t).zero≠[]):∃i z,P.info? t=some i/\i.zero=some z/\(L.ty t).zero=z.cells.toList.map Z.of/\(L.ty t).n=i.size/\(L.ty t).bytes=i.bytes:=by
 rw [hL] at*;unfold bR TyI.of at*
 cases hi:P.info? t with
 |none=>simp [hi] at h
 | some i=>
  simp only [hi] at h ⊢
  cases hz:i.zero with
  |none=>simp [hz,Z.N7] at h
  |some z=>exact ⟨i,z,rfl,hz,by simp [Z.N7],rfl,rfl⟩
theorem tF {z:Value} {i:Nat} {x:AV} (hx:((z.cells.toList.map Z.of).map Z.av)[i]? =some x):aU w A os hd x (z.cells.getD i undef):=by
 rw [ai,ai,bd] at hx
 cases hc:z.cells[i]? with
 |none=>simp [hc] at hx
 | some c=>
  simp [hc] at hx;subst hx;have h4:=(bj.1 hc).1;have h5:=(bj.1 hc).2;simpa [Array.getD,h4,h5] using Z.ahm c
theorem uq {x:AV} {v:Value} (h:s.EK x=true) (hx:aU w A s.os hd x v) (hrow:∀(id:Nat) k es,s.os[id]? =some (.row k es)->∃p n c,hd id= .slice p n c):v.oneCell'=true:=by
 unfold AS.EK at h;split at h
 case h_1=>cases hx.fJ;rfl
 case h_2=>cases hx.kg;rfl
 case h_3=>obtain ⟨rfl,_⟩:=hx.kT;rfl
 case h_4=>cases hx.mM;rfl
 case h_5=>cases hx with|pure _ _ h=>cases h;rfl
 case h_6=>obtain ⟨_,rfl,_⟩:=hx.uO;rfl
 case h_7=>obtain ⟨_,_,rfl,_⟩:=hx.lW.jY;rfl
 case h_8=>obtain ⟨_,_,rfl,_⟩:=hx.rT.rT;rfl
 case h_9=>
  split at h
  ·rename_i ho;rw [hx.iI ho];obtain ⟨p,n,c,e⟩:=hrow _ _ _ ho;rw [e];rfl
  ·cases h
 case h_10=>cases h
theorem CW.Kt [St] (hw:CW W w A os hd F) (id:Nat) k es (ho:os[id]? =some (.row k es)):∃p n c,hd id= .slice p n c:=
 let ⟨p,c,h,_⟩:=(hw.rP ho).jY;⟨p,_,c,h⟩
theorem NZ {l:List AV} (h:s.DK l=true) {i:Nat} {x:AV} (hx:l[i]? =some x):s.EK x=true:=by
 induction l generalizing i with
 |nil=>simp at hx
 | cons y l ih=>
  unfold AS.DK at h;split at h
  ·cases i with
   |zero=>simp at hx;subst hx;assumption
   |succ i=>simp at hx;exact ih h hx
  ·cases h
theorem LQ [St] (hw:CW W w A s.os hd F) {x v cs} (h:s.cl x=some cs) (hx:aU w A s.os hd x v):
  v.cells.size=cs.length/\(∀(i:Nat) y,cs[i]? =some y->aU w A s.os hd y (v.cells.getD i undef))/\∀u∈v.cells.toList,u.oneCell'=true:=by
 unfold AS.cl at h;split at h
 ·split at h
  ·rename_i hok;cases h;obtain ⟨vs,rfl,hn,hc⟩:=hx.iP;refine ⟨hn,hc,λu hu=>?_⟩;obtain ⟨i,hi,rfl⟩:=m8 hu;simp [Value.cells] at hi;have h1:=hc i _ (ag (by omega));have h2:=uq (NZ hok (ag (by omega))) h1 hw.Kt;simpa [Array.getD,hi,Value.cells] using h2
  ·cases h
 ·split at h
  ·rename_i hok;cases h;have h2:=uq hok hx hw.Kt
   have e:v.cells=#[v]:=by
    cases v<;>first|rfl|(simp [Value.oneCell'] at h2)
   rw [e];refine ⟨rfl,λi y hy=>?_,λu hu=>by simp at hu;rw [hu];exact h2⟩
   cases i with
   |zero=>simp at hy;subst hy;simpa using hx
   |succ i=>simp at hy
  ·cases h
theorem Ru [St] (hL:L.ty=bR P) (hw:CW W w A s.os hd F) (hf:FR w A s.os hd s.fr a) {dst ty pos af g} {t:TypeId} {K:AV->AS->Prop} (hk:jF (bG np P) L s ⟨dst,.alloc t,ty,pos,af,g⟩ K):iy P W w s a ⟨dst,.alloc t,ty,pos,af,g⟩ K:=by
 simp only [jF] at hk;split at hk
 ·exact hk.elim
 ·rename_i z zs hz;obtain ⟨i,zv,h1,h2,h3,h4,_⟩:=jO hL (t:=t) (by rw [hz];simp);refine NS hw hf (c:=zv.cells) (T:=t) (cs:=(z::zs).map Z.av) ?_ (λj x hx=>?_) ?_ (by simpa using hk)
  ·rw [←hz,h3];simp
  ·rw [←hz,h3] at hx;exact tF hx
  ·simp [execOp,Instr.alloc,zeroValue,typeInfo,h1,h2,newVar,newRow,go_sem]
theorem Za [St] (hw:CW W w A s.os hd F) (hf:FR w A s.os hd s.fr a) {dst ty pos af g} {t:TypeId} {x:Operand} {K:AV->AS->Prop} (hk:jF (bG np P) L s ⟨dst,.box t x,ty,pos,af,g⟩ K):iy P W w s a ⟨dst,.box t x,ty,pos,af,g⟩ K:=by
 simp only [jF] at hk;split at hk
 ·rename_i cs hcs;obtain ⟨h1,h2,_⟩:=LQ hw hcs (hf.get x);refine NS hw hf (c:=(a.eval x).cells) (T:=t) h1 h2 ?_ hk;simp only [execOp,Instr.box];rfl
 ·exact hk.elim
theorem fU [St] {b:Nat} {c':Array Value} (G:Nat->Prop) (hG:G b):Keeps G w (w.setRow b c'):=by
 refine ⟨rfl,rfl,rfl,by simp [World.setRow],λx _ hx=>?_,λx _=>?_,eu.of (aq _)⟩
 case refine_2=>
  simp only [World.frozen?,World.setRow,ef];by_cases e:b=x.block
  ·rw [if_pos e];generalize w.heap[x.block]? =o
   cases o with
   |none=>rfl
   |some o=>cases o<;>rfl
  ·rw [if_neg e]
 have:b≠x:=λe=>hx (e ▸ hG);simp [World.setRow,ef,this]
theorem aU.FH [St] {x v} {G:Nat->Prop} (h:aU w A os hd x v) (hA:∀y,A y->y<w.heap.size/\¬G y) (hk:Keeps G w w'):aU w' A os hd x v:=
 h.mono (λy hy=>hk.block y (hA y hy).1 (hA y hy).2) (λ_ h=>h)
theorem CW.setAt [St] (h:CW W w A os hd F) {id:Nat} {o o':Obj} (ho:os[id]? =some o) (hk:Keeps (F id) w w')
  (hkind:∀k es',o'= .row k es'->∃es,o= .row k es/\es.length=es'.length) (ags:∀cs',o'= .box cs'->∃cs,o= .box cs)
  (hrow:∀k es,o'= .row k es->bB w' A (.sl true k es) (hd id) (F id))
  (agx:(∀y u,aU w A os hd y u->aU w' A (os.set id o') hd y u)->∀cs,o'= .box cs->∃b T c,hd id= .pointer (some ⟨b,0,none⟩)/\w'.heap[b]? =some (.cells c T (0,0))/\c.size=cs.length/\(∀(i:Nat) x,cs[i]? =some x->aU w' A (os.set id o') hd x (c.getD i undef))/\F id b)
  (agr:∀s p,o'= .iter s p->∃s0 p0,o= .iter s0 p0:=by intro s p h;cases h)
  (hit:∀s p,o'= .iter s p->∃b,hd id= .pointer (some ⟨b,0,none⟩)/\w'.heap[b]? =some (.stringIter s p)/\F id b:=by intro s p h;cases h):
  CW W w' A (os.set id o') hd F/\∀y u,aU w A os hd y u->aU w' A (os.set id o') hd y u:=by
 have hA:∀y,A y->y<w.heap.size/\¬F id y:=λy hy=>⟨(h.hA y hy).1,(h.hA y hy).2 id⟩
 have hlt:=(aa.1 ho).1
 have hm:∀y u,aU w A os hd y u->aU w' A (os.set id o') hd y u:=λy u hy=>by
  refine (hy.FH hA hk).eZ (by simp) (λi k es' hi h'=>?_) (λi cs' hi h'=>?_) (λi s' p' hi h'=>?_)
  ·rw [bh] at h';split at h'
   ·rename_i e;subst e;simp at h';obtain ⟨es,e1,e2⟩:=hkind k es' h';exact ⟨es,by rw [ho,e1],e2,rfl⟩
   ·exact ⟨es',h',rfl,rfl⟩
  ·rw [bh] at h';split at h'
   ·rename_i e;subst e;simp at h';obtain ⟨cs,e1⟩:=ags cs' h';exact ⟨cs,by rw [ho,e1],rfl⟩
   ·exact ⟨cs',h',rfl⟩
  ·rw [bh] at h';split at h'
   ·rename_i e;subst e;simp at h';obtain ⟨s0,p0,e1⟩:=agr s' p' h';exact ⟨s0,p0,by rw [ho,e1],rfl⟩
   ·exact ⟨s',p',h',rfl⟩
 have hF:∀j,j≠id->∀x,F j x->x<w.heap.size/\¬F id x:=λj hj x hx=>⟨(h.fsz j x hx).2,λh'=>hj (h.jH _ _ _ hx h')⟩
 refine ⟨⟨?_,λx hx=>⟨bu (hA x hx).1 hk.size,(h.hA x hx).2⟩,λi x hx=>⟨(h.fsz i x hx).1,bu (h.fsz i x hx).2 hk.size⟩,h.jH,λi k es h'=>?_,λi cs h'=>?_,λi s' p' h'=>?_,λp hp=>⟨by simpa using (h.pin p hp).1,(h.pin p hp).2⟩,h.old⟩,hm⟩
 ·exact h.below.keep hk (λx h'=>(h.fsz id x h').1)
 ·rw [bh] at h';split at h'
  ·rename_i e;subst e;simp at h';exact hrow k es h'
  ·rename_i e;exact (h.rows i k es h').mono (λ_ h=>h) (λx hx=>hx.elim (λhx=>hk.block x (hA x hx).1 (hA x hx).2) (λhx=>hk.block x (hF i (cI e) x hx).1 (hF i (cI e) x hx).2))
 ·rw [bh] at h';split at h'
  ·rename_i e;subst e;simp at h';exact agx hm cs h'
  ·rename_i e;obtain ⟨b,T,c,e1,e2,e3,e4,e5⟩:=h.boxes i cs h';exact ⟨b,T,c,e1,by rw [hk.block b (hF i (cI e) b e5).1 (hF i (cI e) b e5).2];exact e2,e3,λj x hx=>hm _ _ (e4 j x hx),e5⟩
 ·rw [bh] at h';split at h'
  ·rename_i e;subst e;simp at h';exact hit s' p' h'
  ·rename_i e;obtain ⟨b,e1,e2,e3⟩:=h.nN i s' p' h';exact ⟨b,e1,by rw [hk.block b (hF i (cI e) b e3).1 (hF i (cI e) b e3).2];exact e2,e3⟩
theorem oK {cs new:List AV} {off:Nat} (h:off+new.length<=cs.length) (i:Nat):
  (splice cs off new)[i]? =if i<off then cs[i]? else if i<off+new.length then new[i - off]? else cs[i]?:=by
 unfold splice;rw [cw];simp only [ba,ie (by omega:off<=cs.length)];split
 ·rw [be,if_pos (by assumption)]
 ·rw [cw];split
  ·rw [if_pos (by omega)]
  ·rw [if_neg (by omega),bv];congr 1;omega
theorem lV {cs new:List AV} {off:Nat} (h:off+new.length<=cs.length):(splice cs off new).length=cs.length:=by
 simp [splice];omega
def bM (c:Array Value) (off:Nat) (new:List Value):Array Value:=(c.toList.take off++new++c.toList.drop (off+new.length)).toArray
theorem dK {c:Array Value} {off:Nat} {new:List Value} (h:off+new.length<=c.size):(bM c off new).size=c.size:=by
 simp [bM];omega
theorem eY {c:Array Value} {off:Nat} {new:List Value} (h:off+new.length<=c.size) (i:Nat):
  (bM c off new).getD i undef=if i<off then c.getD i undef else if i<off+new.length then new.getD (i - off) undef else c.getD i undef:=by
 rw [←aR];unfold bM;simp only [cT,ad];rw [cw];simp only [ba,ci,ie (by omega:off<=c.size)];split
 ·rw [be,if_pos (by assumption),←aR,ad]
 ·rw [cw];split
  ·rw [if_pos (by omega)]
  ·rw [if_neg (by omega),bv,←aR,ad];congr 2;omega
theorem yF (hL:L.ty=bR P) {t:TypeId} (hd':(L.ty t).d≠ .other) {b off:Nat} {c:Array Value} {T:TypeId} {v:Value} (hb:w.heap[b]? =some (.cells c T (0,0))) (hn:v.cells.size=(L.ty t).n)
  (hl:off+v.cells.size<=c.size) (h1:∀u∈v.cells.toList,u.oneCell'=true):
  (storeVar t ⟨b,off,none⟩ v).run P w= .ok () (w.setRow b (bM c off v.cells.toList)):=by
 unfold storeVar;rw [aE,run_sizeOf hL hd'];simp only [cS];rw [if_neg (by simp [hn])];have:=run_storeCells_at P b off T v.cells.toList 0 c w hb (by simpa using hl) h1;simp only [em] at this;exact this
end
section
variable {P:Program} {np:Nat} {L:Lay} {W:WM} {w w':World} {A:Nat->Prop} {os os':List Obj} {hd hd':Nat->Value} {F F':Nat->Nat->Prop} {s:AS} {a:Act}
theorem MI {o:Oper} {next:Act->World->Prop} {Q:Exit->Act->World->Prop} (h:(execOp a.eval o).run P w= .ok .skip w') (hn:next (a.put o.dst undef) w'):o.wp P a w next Q:=by
 unfold Oper.wp;rw [h];exact hn
theorem yE {t:TypeId} {x y:Operand} {Ad:Addr} {dst:Option Tmp} {ty:TypeId} {pos:String} {af:Array Edge} {g:Option (Nat×Bool)}
  (hp:a.eval x= .pointer (some Ad)) (h:(storeVar t Ad (a.eval y)).run P w= .ok () w'):(execOp a.eval ⟨dst,.store t x y,ty,pos,af,g⟩).run P w= .ok .skip w':=by
 simp only [execOp,hp,Instr.storeAt,Instr.sureAddr];rw [aE];have h1:(do storeVar t (←(pure Ad:Sem Addr)) (a.eval y):Sem Unit).run P w= .ok () w':=h;rw [h1];rfl
theorem Ei [St] (hL:L.ty=bR P) (hw:CW W w A s.os hd F) (hf:FR w A s.os hd s.fr a) {dst ty pos af g} {t:TypeId} {x y:Operand} {K:AV->AS->Prop} {id off:Nat} {cs new:List AV}
  (hx:s.get x= .pb id off) (ho:s.os[id]? =some (.box cs)) (hcl:s.cl (s.get y)=some new) (hd0:(L.ty t).d≠ .other) (hl:off+new.length<=cs.length) (hn:new.length=(L.ty t).n)
  (hk:K .und ⟨s.fr,s.os.set id (.box (splice cs off new))⟩):iy P W w s a ⟨dst,.store t x y,ty,pos,af,g⟩ K:=by
 intro next Q hnx
 have h1:=hf.get x;rw [hx] at h1;obtain ⟨b,T,c,e1,e2,e3,e4,hp,hc⟩:=Bv hw ho;obtain ⟨b',e5,e6⟩:=h1.lX ho;rw [e1] at e5;cases e5;obtain ⟨h2,h3,h4⟩:=LQ hw hcl (hf.get y);have hr:=yF (P:=P) (w:=w) hL hd0 (off:=off) e2 (by rw [h2];exact hn) (by rw [h2,e3];exact hl) h4;have hl':off+(a.eval y).cells.toList.length<=c.size:=by rw [e3,ci,h2];exact hl
 obtain ⟨hw',hm⟩:=hw.setAt (o':= .box (splice cs off new)) ho (fU (c':=bM c off (a.eval y).cells.toList) (F id) e4) (λk es' e=>by cases e) (λcs' e=>⟨cs,rfl⟩) (λk es e=>by cases e) (λhm cs' e=>by
  cases e;refine ⟨b,T,_,e1,setRow_heap w b c _ T _ e2,by rw [dK hl',lV hl,e3],λi z hz=>?_,e4⟩;rw [oK hl] at hz;rw [eY hl',ci,h2];split
  ·rename_i h5;rw [if_pos h5] at hz;exact hm _ _ (hc i z hz)
  ·rename_i h5;rw [if_neg h5] at hz;split
   ·rename_i h6;rw [if_pos h6] at hz;rw [aR];exact hm _ _ (h3 (i - off) z hz)
   ·rename_i h6;rw [if_neg h6] at hz
    exact hm _ _ (hc i z hz))
 exact MI (yE e6 hr) (hnx _ _ _ _ A hd F hk rfl hw' (hf.eZ hm) (.pure _ _ .und))
theorem CW.kill [St] (h:CW W w A os hd F) (id:Nat):CW W w A (os.set id .dead) hd (je F id λ_=>False)/\∀y u,aU w A os hd y u->aU w A (os.set id .dead) hd y u:=by
 have hm:∀y u,aU w A os hd y u->aU w A (os.set id .dead) hd y u:=λy u hy=>by
  refine hy.eZ (by simp) (λi k es' hi h'=>?_) (λi cs' hi h'=>?_) (λi s' p' hi h'=>?_)
  ·rw [bh] at h';split at h'
   ·split at h'<;>simp at h'
   ·exact ⟨es',h',rfl,rfl⟩
  ·rw [bh] at h';split at h'
   ·split at h'<;>simp at h'
   ·exact ⟨cs',h',rfl⟩
  ·rw [bh] at h';split at h'
   ·split at h'<;>simp at h'
   ·exact ⟨s',p',h',rfl⟩
 have hsub:∀i x,je F id (λ_=>False) i x->F i x/\i≠id:=λi x hx=>by
  unfold je at hx;split at hx
  ·exact hx.elim
  ·exact ⟨hx,by assumption⟩
 refine ⟨⟨h.below,λx hx=>⟨(h.hA x hx).1,λi hi=>(h.hA x hx).2 i (hsub i x hi).1⟩,λi x hx=>h.fsz i x (hsub i x hx).1,λi j x hi hj=>h.jH i j x (hsub i x hi).1 (hsub j x hj).1,λi k es h'=>?_,λi cs h'=>?_,λi s' p' h'=>?_,λp hp=>⟨by simpa using (h.pin p hp).1,(h.pin p hp).2⟩,h.old⟩,hm⟩
 ·rw [bh] at h';split at h'
  ·split at h'<;>simp at h'
  ·rename_i e;rw [iM _ _ _ (cI e)];exact h.rows i k es h'
 ·rw [bh] at h';split at h'
  ·split at h'<;>simp at h'
  ·rename_i e;rw [iM _ _ _ (cI e)];obtain ⟨b,T,c,e1,e2,e3,e4,e5⟩:=h.boxes i cs h';exact ⟨b,T,c,e1,e2,e3,λj x hx=>hm _ _ (e4 j x hx),e5⟩
 ·rw [bh] at h';split at h'
  ·split at h'<;>simp at h'
  ·rename_i e;rw [iM _ _ _ (cI e)];exact h.nN i s' p' h'
def Leave [St] (W:WM) (w:World) (A:Nat->Prop) (s:AS) (hd:Nat->Value) (F:Nat->Nat->Prop) (K:AS->(Nat->Nat->Prop)->Prop):Prop:=
 ∃s' F',s'.fr=s.fr/\s'.os.length=s.os.length/\CW W w A s'.os hd F'/\(∀y u,aU w A s.os hd y u->aU w A s'.os hd y u)/\(∀id y,F' id y->F id y)/\K s' F'
theorem xw [St] (hw:CW W w A s.os hd F) {x v} {K:AV->AS->Prop} (hx:aU w A s.os hd x v) (hk:s.ac6 x K):
  Leave W w A s hd F λs' F'=>∃x' G,K x' s'/\bB w A x' v G/\(∀y,G y->(∃id,F id y)/\∀id,¬F' id y)/\v.oneCell'=true:=by
 have flat:∀x',Rel w A x' v->x'.dF=false->v.oneCell'=true->K x' s->Leave W w A s hd F λs' F'=>∃x' G,K x' s'/\bB w A x' v G/\(∀y,G y->(∃id,F id y)/\∀id,¬F' id y)/\v.oneCell'=true:=
  λx' h1 h2 h3 h4=>⟨s,F,rfl,rfl,hw,λ_ _ h=>h,λ_ _ h=>h,x',λ_=>False,h4,.pure _ _ _ h1 h2 (λ_ h=>h),λy h=>h.elim,h3⟩
 unfold AS.ac6 at hk;split at hk
 ·cases hx.fJ;exact flat _ (.int _ _) rfl rfl hk
 ·cases hx.kg;exact flat _ (.bool _) rfl rfl hk
 ·obtain ⟨rfl,h⟩:=hx.kT;exact flat _ (.str _ h) rfl rfl hk
 ·cases hx.mM;exact ⟨s,F,rfl,rfl,hw,λ_ _ h=>h,λ_ _ h=>h,_,λ_=>False,hk,.nil _ _ (λ_ h=>h),λy h=>h.elim,rfl⟩
 ·cases hx with|pure _ _ h=>cases h;exact flat _ .mR rfl rfl hk
 ·obtain ⟨p,cap,rfl,_⟩:=hx.lW.jY;refine flat _ ?_ rfl rfl hk;have:=hx.lW
  cases this with
  |sl _ _ _ _ _ b off val hl hcap hp hk' hc h1c hr=>exact .sl _ _ _ _ _ b off val hl hcap hp hk' hc h1c hr
 ·cases hx with
  | pure _ _ h=>cases h with
   |hd _ _ h1 h=>exact flat _ (.hd _ _ h1 h) rfl h1 hk
 ·split at hk
  ·rename_i id _ k es ho;obtain ⟨hw',hm⟩:=hw.kill id;refine ⟨⟨s.fr,s.os.set id .dead⟩,_,rfl,by simp,hw',hm,λi y h=>?_,_,F id,hk,by rw [hx.iI ho];exact hw.rows id k es ho,λy hy=>⟨⟨id,hy⟩,λi h=>?_⟩,?_⟩
   ·unfold je at h;split at h
    ·exact h.elim
    ·exact h
   ·unfold je at h;split at h
    ·exact h
    ·rename_i hne;exact hne (hw.jH _ _ _ h hy)
   ·rw [hx.iI ho];obtain ⟨p,n,c,e⟩:=hw.Kt id k es ho;rw [e];rfl
  ·exact hk.elim
 ·exact hk.elim
theorem xu [St]:∀(l:List AV) (vs:List Value) (s:AS) (F:Nat->Nat->Prop) (K:List AV->AS->Prop),CW W w A s.os hd F->vs.length=l.length->
  (∀(i:Nat) x,l[i]? =some x->aU w A s.os hd x (vs.getD i undef))->s.NY l K->
  Leave W w A s hd F λs' F'=>∃(l':List AV) (G:Nat->Nat->Prop),K l' s'/\l'.length=vs.length/\(∀(i:Nat) x,l'[i]? =some x->bB w A x (vs.getD i undef) (G i))/\
   (∀i y,i<vs.length->G i y->(∃id,F id y)/\∀id,¬F' id y)/\(∀i j y,i<vs.length->j<vs.length->G i y->G j y->i=j)/\∀u∈vs,u.oneCell'=true
 |[],[],s,F,K,hw,_,_,hk=>⟨s,F,rfl,rfl,hw,λ_ _ h=>h,λ_ _ h=>h,[],λ_ _=>False,hk,rfl,λi x hx=>by simp at hx,λi y hi=>by simp at hi,λi j y hi=>by simp at hi,λu hu=>by simp at hu⟩
 |[],_::_,_,_,_,_,hn,_,_=>by simp at hn
 |_::_,[],_,_,_,_,hn,_,_=>by simp at hn
 | x ::l,v::vs,s,F,K,hw,hn,hc,hk=>by
  unfold AS.NY at hk;obtain ⟨s1,F1,e1,l1,hw1,hm1,hF1,x',G0,hk1,hx',hG0,h1⟩:=xw hw (by simpa using hc 0 x (by simp)) hk;obtain ⟨s2,F2,e2,l2,hw2,hm2,hF2,l',G,hk2,hl2,hc2,hG,hdj,h2⟩:=xu l vs s1 F1 _ hw1 (by simpa using hn) (λi y hy=>hm1 _ _ (by simpa using hc (i+1) y (by simpa using hy))) hk1;refine ⟨s2,F2,e2.trans e1,l2.trans l1,hw2,λy u h=>hm2 y u (hm1 y u h),λid y h=>hF1 id y (hF2 id y h),x'::l',λi=>match i with|0=>G0|i+1=>G i,hk2,by simp [hl2],λi y hy=>?_,λi y hi hy=>?_,λi j y hi hj h3 h4=>?_,λu hu=>?_⟩
  ·cases i with
   |zero=>simp at hy;subst hy;simpa using hx'
   |succ i=>simp at hy;simpa using hc2 i y hy
  ·cases i with
   |zero=>exact ⟨(hG0 y hy).1,λid h=>(hG0 y hy).2 id (hF2 id y h)⟩
   | succ i=>
    obtain ⟨⟨id,h5⟩,h6⟩:=hG i y (by simpa using hi) hy;exact ⟨⟨id,hF1 id y h5⟩,h6⟩
  ·cases i with
   | zero=>
    cases j with
    |zero=>rfl
    | succ j=>
     obtain ⟨⟨id,h5⟩,_⟩:=hG j y (by simpa using hj) h4;exact ((hG0 y h3).2 id h5).elim
   | succ i=>
    cases j with
    | zero=>
     obtain ⟨⟨id,h5⟩,_⟩:=hG i y (by simpa using hi) h3;exact ((hG0 y h4).2 id h5).elim
    |succ j=>rw [hdj i j y (by simpa using hi) (by simpa using hj) h3 h4]
  ·rcases bk.1 hu with rfl|hu
   ·exact h1
   ·exact h2 u hu
theorem foldl_set (off:Nat):∀(l:List Value) (j:Nat) (c:Array Value),off+j+l.length<=c.size->
  ((l.zipIdx j).foldl (λcs (x:Value×Nat)=>cs.setIfInBounds (off+x.2) x.1) c).size=c.size/\
  ∀i,((l.zipIdx j).foldl (λcs (x:Value×Nat)=>cs.setIfInBounds (off+x.2) x.1) c).getD i undef=if off+j<=i/\i<off+j+l.length then l.getD (i - (off+j)) undef else c.getD i undef
 |[],j,c,_=>by simp;omega
 | v ::l,j,c,h=>by
  simp only [bi] at h;obtain ⟨h1,h2⟩:=foldl_set off l (j+1) (c.setIfInBounds (off+j) v) (by simp;omega);simp only [List.zipIdx_cons,mf];refine ⟨by rw [h1];simp,λi=>?_⟩;rw [h2]
  have hs:(c.setIfInBounds (off+j) v).getD i undef=if i=off+j then v else c.getD i undef:=by
   rw [b9,de];(have:off+j<c.size:=by omega);split
   ·rename_i e;subst e;simp
   ·rename_i e;rw [if_neg (cI e),←b9]
  rw [hs];by_cases e:i=off+j
  ·subst e;rw [if_neg (by omega),if_pos rfl,if_pos ⟨by omega,by simp only [bi];omega⟩];simp
  ·by_cases e2:off+j<=i/\i<off+j+(l.length+1)
   ·rw [if_pos (by omega),if_pos (by simpa using e2)];(obtain ⟨m,hm⟩:∃m,i - (off+j)=m+1:=⟨i - (off+j) - 1,by omega⟩);rw [hm,show i - (off+(j+1))=m from by omega];simp
   ·rw [if_neg (by omega),if_neg e,if_neg (by simpa using e2)]
theorem sJ [St] (hw:CW W w A s.os hd F) (place:Nat->Option (Nat×Nat)):∀(parts:List (Nat×Operand)) (cells:List AV) (c:Array Value) (cs:List AV),(∀p∈parts,aU w A s.os hd (s.get p.2) (a.eval p.2))->
  c.size=cells.length->(∀(i:Nat) x,cells[i]? =some x->aU w A s.os hd x (c.getD i undef))->s.fill place cells parts=some cs->
  ∃c',Instr.fill place c (parts.map λp=>(p.1,a.eval p.2))=some c'/\c'.size=cs.length/\∀(i:Nat) x,cs[i]? =some x->aU w A s.os hd x (c'.getD i undef)
 | [],cells,c,cs,_,hn,hc,hk=>by
  unfold AS.fill at hk;cases hk;exact ⟨c,rfl,hn,hc⟩
 | (i, x)::rest,cells,c,cs,hx,hn,hc,hk=>by
  unfold AS.fill at hk;split at hk
  ·rename_i off size new hp hcl;split at hk
   ·rename_i hsz;obtain ⟨h1,h2,_⟩:=LQ hw hcl (hx (i,x) (by simp));obtain ⟨h3,h4⟩:=foldl_set off (a.eval x).cells.toList 0 c (by rw [ci,h1,hn];simpa using hsz.2)
    obtain ⟨c',e1,e2,e3⟩:=sJ hw place rest (splice cells off new) ((a.eval x).cells.toList.zipIdx.foldl (λcs (x:Value×Nat)=>cs.setIfInBounds (off+x.2) x.1) c) cs (λp hp=>hx p (by simp [hp])) (by rw [h3,hn,lV hsz.2]) (λj y hy=>by
     rw [h4];rw [oK hsz.2] at hy;simp only [em,ci,h1];split at hy
     ·rw [if_neg (by omega)];exact hc j y hy
     ·split at hy
      ·rw [if_pos (by omega),aR];exact h2 _ y hy
      ·rw [if_neg (by omega)];exact hc j y hy) hk
    refine ⟨c',?_,e2,e3⟩;simp only [dj,Instr.fill,hp];rw [if_neg (by simp [h1,hsz.1,hn];omega)];rw [←e1];congr 1;rw [←Array.foldl_toList,Array.toList_zipIdx]
   ·cases hk
  ·cases hk
theorem CW.FH [St] (h:CW W w A os hd F) {G:Nat->Prop} (hk:Keeps G w w') (hG:∀x,G x->W.new x/\¬A x/\∀id,¬F id x):CW W w' A os hd F/\∀y u,aU w A os hd y u->aU w' A os hd y u:=by
 have hA:∀y,A y->y<w.heap.size/\¬G y:=λy hy=>⟨(h.hA y hy).1,λhg=>(hG y hg).2.1 hy⟩
 have hF:∀i y,F i y->y<w.heap.size/\¬G y:=λi y hy=>⟨(h.fsz i y hy).2,λhg=>(hG y hg).2.2 i hy⟩
 have hm:∀y u,aU w A os hd y u->aU w' A os hd y u:=λy u hy=>hy.FH hA hk;refine ⟨⟨?_,λx hx=>⟨bu (hA x hx).1 hk.size,(h.hA x hx).2⟩,λi x hx=>⟨(h.fsz i x hx).1,bu (h.fsz i x hx).2 hk.size⟩,h.jH,λi k es h'=>?_,λi cs h'=>?_,λi s' p' h'=>?_,h.pin,h.old⟩,hm⟩
 ·exact h.below.keep hk (λx h'=>(hG x h').1)
 ·exact (h.rows i k es h').mono (λ_ h=>h) (λx hx=>hx.elim (λhx=>hk.block x (hA x hx).1 (hA x hx).2) (λhx=>hk.block x (hF i x hx).1 (hF i x hx).2))
 ·obtain ⟨b,T,c,e1,e2,e3,e4,e5⟩:=h.boxes i cs h';exact ⟨b,T,c,e1,by rw [hk.block b (hF i b e5).1 (hF i b e5).2];exact e2,e3,λj x hx=>hm _ _ (e4 j x hx),e5⟩
 ·obtain ⟨b,e1,e2,e3⟩:=h.nN i s' p' h';exact ⟨b,e1,by rw [hk.block b (hF i b e3).1 (hF i b e3).2];exact e2,e3⟩
theorem NR [St] (hw:CW W w A os hd F) {w':World} (hk:Keeps (λ_=>False) w w') {b:Nat} {c:Array Value} {T:TypeId} (hb:w'.heap[b]? =some (.cells c T (0,0))) (hb0:w.heap.size<=b)
  {k cap:Nat} {es:List (List AV)} {G:Nat->Nat->Nat->Prop} (hl:es.length<=maxLen) (hcap:es.length<=cap) (hsz:cap*k<=c.size) (hke:∀e∈es,e.length=k)
  (h1:∀i j,i<es.length->j<k->(c.getD (i*k+j) undef).oneCell'=true)
  (hr:∀(i j:Nat) e x,es[i]? =some e->e[j]? =some x->bB w A x (c.getD (i*k+j) undef) (G i j))
  (hG:∀i j y,i<es.length->j<k->G i j y->W.new y/\y<w.heap.size/\¬A y/\∀id,¬F id y)
  (hdj:∀i j i' j' x,i<es.length->j<k->i'<es.length->j'<k->G i j x->G i' j' x->i=i'/\j=j'):
  CW W w' A (os++[.row k es]) (je hd os.length (.slice (some ⟨b,0,none⟩) es.length cap)) (je F os.length λx=>x=b∨∃i j,i<es.length/\j<k/\G i j x)/\
  ∀y u,aU w A os hd y u->aU w' A (os++[.row k es]) (je hd os.length (.slice (some ⟨b,0,none⟩) es.length cap)) y u:=by
 have hA:∀y,A y->y<w.heap.size:=λy hy=>(hw.hA y hy).1;have hb1:b<w'.heap.size:=(bj.1 hb).1;refine ⟨(hw.keep hk).push _ _ _ (λx hx=>?_) (λk' es' e=>?_) (λcs e=>by cases e),λy u hy=>(hy.keep hA hk).push _ _⟩
 ·rcases hx with rfl|⟨i,j,hi,hj,hx⟩
  ·exact ⟨hw.below.new hb0,hb1,λh=>by have:=hA _ h;omega,λid h=>by have:=(hw.fsz id _ h).2;omega⟩
  ·obtain ⟨g1,g2,g3,g4⟩:=hG i j x hi hj hx;exact ⟨g1,bu g2 hk.size,g3,g4⟩
 ·cases e;refine .sl k es cap b T c _ G hb hl hcap hsz hke h1 (λi j e x he hx=>?_) (λ_=>i8) (λi j hi hj h=>?_) hdj
  ·have hi:=(aa.1 he).1;have hj:=(aa.1 hx).1;rw [hke e (ae he)] at hj;exact (hr i j e x he hx).mono (λ_ h=>h) (λy hy=>hk.block y (hy.elim (λh=>hA y h) (λh=>(hG i j y hi hj h).2.1)) (λh=>h))
  ·have:=(hG i j b hi hj h).2.1;omega
theorem qj (k:Nat):∀(n:Nat) (cs:List AV),(rowsOf k n cs).length=n
 |0,_=>rfl
 |n+1,cs=>by simp [rowsOf,qj k n]
theorem oN (k:Nat):∀(n:Nat) (cs:List AV) (i:Nat) e,(rowsOf k n cs)[i]? =some e->e=(cs.drop (i*k)).take k
 |0,cs,i,e,h=>by simp [rowsOf] at h
 | n+1,cs,i,e,h=>by
  cases i with
  |zero=>simp [rowsOf] at h;simp [h]
  | succ i=>
   simp only [rowsOf,eg] at h;rw [oN k n _ i e h,my,bz];congr 2;omega
theorem zeros_length (z:List AV):∀n,(zeros z n).length=n*z.length
 |0=>by simp [zeros]
 |n+1=>by simp [zeros,zeros_length z n,bz];omega
theorem HZ (z:List AV) (hz:0<z.length):∀n i,i<n*z.length->(zeros z n)[i]? =z[i % z.length]?
 |0,i,h=>by simp at h
 | n+1,i,h=>by
  unfold zeros;rw [cw];split
  ·rename_i hi;rw [dp hi]
  ·rename_i hi;rw [HZ z hz n _ (by rw [bz] at h;omega)];congr 1;rw [gw (by omega:i≥z.length)]
theorem Oz (z:Array Value) (n i:Nat) (hi:i<n):((Array.range n).map λj=>z[j % z.size]!).getD i undef=z[i % z.size]!:=by
 rw [b9];simp [hi]
theorem qz (z:Array Value) (i:Nat) (h:i<z.size):z[i]! =z.getD i undef:=by
 simp [Array.getD,h]
theorem XK {fs:List (Nat×TypeId)} (h:known L fs=true) {i:Nat} {f:Nat×TypeId} (hf:fs[i]? =some f):(L.ty f.2).d≠ .other:=by
 induction fs generalizing i with
 |nil=>simp at hf
 | cons g fs ih=>
  unfold known at h;split at h
  ·cases h
  ·cases i with
   |zero=>simp at hf;subst hf;assumption
   |succ i=>simp at hf;exact ih h hf
theorem zM [St] (hL:L.ty=bR P) (hw:CW W w A s.os hd F) {dst ty pos af g} {t:TypeId} {parts:Array (Nat×Operand)} {fs:List (Nat×TypeId)} {cs:List AV}
  (hd0:(L.ty t).d= .struct fs) (hz:(L.ty t).zero≠[]) (hkn:known L fs=true) (hcs:s.fill (λi=>(fs[i]?).map λf=>(f.1,(L.ty f.2).n)) ((L.ty t).zero.map Z.av) parts.toList=some cs) (hx:∀p∈parts.toList,aU w A s.os hd (s.get p.2) (a.eval p.2)):
  ∃v,(execOp a.eval ⟨dst,.build t parts,ty,pos,af,g⟩).run P w= .ok (.value v) w/\aU w A s.os hd (.agg cs) v:=by
 obtain ⟨gs,hu,hfs⟩:=xD hL hd0;obtain ⟨i,z,h1,h2,h3,_,_⟩:=jO hL hz
 have hpl:gs.toList.mapM (λf=>(P.info? f.type).map λi=>(f.offset,i.size))=some (gs.toList.map λf=>(f.offset,(L.ty f.type).n)):=by
  have:∀l:List Field,(∀f∈l,(L.ty f.type).d≠ .other)->l.mapM (λf=>(P.info? f.type).map λi=>(f.offset,i.size))=some (l.map λf=>(f.offset,(L.ty f.type).n)):=by
   intro l
   induction l with
   |nil=>intro _;rfl
   | cons f l ih=>
    intro h;obtain ⟨i,e1,e2,_⟩:=Fp hL (h f (by simp));simp [mz,e1,e2,ih (λf hf=>h f (by simp [hf]))]
  refine this _ (λf hf=>?_);obtain ⟨j,hj⟩:=ap hf;exact XK hkn (i:=j) (f:=(f.offset,f.type)) (by rw [hfs,ai,hj];rfl)
 have agj:(λi:Nat=>(gs.toList.map λf=>(f.offset,(L.ty f.type).n)).toArray[i]?)=λi=>(fs[i]?).map λf=>(f.1,(L.ty f.2).n):=by
  funext i;rw [hfs];simp only [fy,ai];cases gs.toList[i]?<;>rfl
 obtain ⟨c',e1,e2,e3⟩:=sJ hw _ parts.toList _ z.cells cs hx (by rw [h3];simp) (λi x hx=>by rw [h3] at hx;exact tF hx) hcs;refine ⟨.agg c',?_,.agg _ _ e2 e3⟩
 have hr:(Instr.build t (parts.map λ(i,x)=>(i,a.eval x))).run P w= .ok (.agg c') w:=by
  rw [←agj] at e1;simp only [fy,ai,bd] at e1;simp only [Instr.build,aE,zeroValue,typeInfo];simp [run_underlying hu,h1,h2,lE,run_places w _ _ hpl,e1]
 simp only [execOp];rw [aE,hr];rfl
theorem CR [St] (hL:L.ty=bR P) (hw:CW W w A s.os hd F) {dst ty pos af g} {t e:TypeId} {len:Nat} {parts:Array (Nat×Operand)} {cs:List AV}
  (hd0:(L.ty t).d= .array len e) (hz:(L.ty t).zero≠[]) (hne:(L.ty e).d≠ .other) (hcs:s.fill (λi=>some (i*(L.ty e).n,(L.ty e).n)) ((L.ty t).zero.map Z.av) parts.toList=some cs) (hx:∀p∈parts.toList,aU w A s.os hd (s.get p.2) (a.eval p.2)):
  ∃v,(execOp a.eval ⟨dst,.build t parts,ty,pos,af,g⟩).run P w= .ok (.value v) w/\aU w A s.os hd (.agg cs) v:=by
 have hu:=vS hL hd0;obtain ⟨i,z,h1,h2,h3,_,_⟩:=jO hL hz;have hsz:=run_sizeOf (w:=w) hL hne;obtain ⟨c',e1,e2,e3⟩:=sJ hw _ parts.toList _ z.cells cs hx (by rw [h3];simp) (λi x hx=>by rw [h3] at hx;exact tF hx) hcs;refine ⟨.agg c',?_,.agg _ _ e2 e3⟩
 have hr:(Instr.build t (parts.map λ(i,x)=>(i,a.eval x))).run P w= .ok (.agg c') w:=by
  simp only [Instr.build,aE,zeroValue,typeInfo];simp [run_underlying hu,h1,h2,hsz,e1]
 simp only [execOp];rw [aE,hr];rfl
theorem Ae [St] (hL:L.ty=bR P) (hw:CW W w A s.os hd F) (hf:FR w A s.os hd s.fr a) {dst ty pos af g} {t e:TypeId} {len:Nat} {parts:Array (Nat×Operand)} {K:AV->AS->Prop} {cs:List AV}
  (hd0:(L.ty t).d= .array len e) (hz:(L.ty t).zero≠[]) (hne:(L.ty e).d≠ .other) (hcs:s.fill (λi=>some (i*(L.ty e).n,(L.ty e).n)) ((L.ty t).zero.map Z.av) parts.toList=some cs) (hk:K (.agg cs) s):
  iy P W w s a ⟨dst,.build t parts,ty,pos,af,g⟩ K:=by
 intro next Q hn
 obtain ⟨v,h1,h2⟩:=CR (dst:=dst) (ty:=ty) (pos:=pos) (af:=af) (g:=g) hL hw hd0 hz hne hcs (λp _=>hf.get p.2);exact dX h1 (hn _ s v w A hd F hk rfl hw hf h2)
theorem yB [St] (hL:L.ty=bR P) (hw:CW W w A s.os hd F) (hf:FR w A s.os hd s.fr a) {dst ty pos af g} {t:TypeId} {parts:Array (Nat×Operand)} {K:AV->AS->Prop} {fs:List (Nat×TypeId)} {cs:List AV}
  (hd0:(L.ty t).d= .struct fs) (hz:(L.ty t).zero≠[]) (hkn:known L fs=true) (hcs:s.fill (λi=>(fs[i]?).map λf=>(f.1,(L.ty f.2).n)) ((L.ty t).zero.map Z.av) parts.toList=some cs) (hk:K (.agg cs) s):
  iy P W w s a ⟨dst,.build t parts,ty,pos,af,g⟩ K:=by
 intro next Q hn
 obtain ⟨v,h1,h2⟩:=zM (dst:=dst) (ty:=ty) (pos:=pos) (af:=af) (g:=g) hL hw hd0 hz hkn hcs (λp _=>hf.get p.2);exact dX h1 (hn _ _ _ _ A hd F hk rfl hw hf h2)
theorem CQ [St] (hL:L.ty=bR P) (hw:CW W w A s.os hd F) {dst ty pos af g} {t e:TypeId} {len:Nat} {parts:Array (Nat×Operand)} {cs:List AV}
  (hd0:(L.ty t).d= .slice e) (hd1:(L.ty e).d≠ .other) (hz:(L.ty e).zero≠[]) (hzn:(L.ty e).zero.length=(L.ty e).n) (hsz:len*(L.ty e).n<=16777216)
  (hcs:s.fill (λi=>some (i*(L.ty e).n,(L.ty e).n)) (zeros ((L.ty e).zero.map Z.av) len) parts.toList=some cs)
  (hx:∀p∈parts.toList,aU w A s.os hd (s.get p.2) (a.eval p.2)):
  ∃ c:Array Value,c.size=cs.length/\cs.length=len*(L.ty e).n/\(∀(i:Nat) x,cs[i]? =some x->aU w A s.os hd x (c.getD i undef))/\0<(L.ty e).n/\
   (execOp a.eval ⟨dst,.buildSlice t len parts,ty,pos,af,g⟩).run P w= .ok (.value (.slice (some ⟨w.heap.size,0,none⟩) len len)) (w.alloc (.cells c e)):=by
 obtain ⟨i,z,h1,h2,h3,h4,_⟩:=jO hL hz;generalize hkn:(L.ty e).n=n at*;have hzs:z.cells.size=n:=by rw [h3] at hzn;simpa using hzn
 have hn0:0<n:=by
  rw [←hzn];exact fh.2 hz
 have aaR:(zeros ((L.ty e).zero.map Z.av) len).length=len*n:=by rw [zeros_length,al,hzn]
 obtain ⟨c,e1,e2,e3⟩:=sJ hw _ parts.toList _ ((Array.range (len*n)).map λj=>z.cells[j % z.cells.size]!) cs hx (by simp [aaR]) (λj x hx=>by
  have hj:=(aa.1 hx).1;rw [aaR] at hj;rw [Oz _ _ _ hj,qz _ _ (f8 _ (by omega))];rw [HZ _ (by rw [al];omega) _ _ (by rw [al,hzn];exact hj),al,hzn] at hx;rw [h3] at hx;rw [hzs]
  exact tF hx) hcs
 have FQ:cs.length=len*n:=by
  have :∀(parts:List (Nat×Operand)) (cells cs:List AV),s.fill (λi=>some (i*n,n)) cells parts=some cs->cs.length=cells.length:=by
   intro parts
   induction parts with
   |nil=>intro cells cs h;unfold AS.fill at h;cases h;rfl
   | cons p rest ih=>
    intro cells cs h;obtain ⟨i,x⟩:=p;unfold AS.fill at h;split at h
    ·split at h
     ·rename_i hh;rw [ih _ _ h,lV hh.2]
     ·cases h
    ·cases h
  rw [this _ _ _ hcs,aaR]
 refine ⟨c,e2,FQ,e3,hn0,?_⟩
 have hr:(Instr.buildSlice t len (parts.map λ(i,x)=>(i,a.eval x))).run P w= .ok (.slice (some ⟨w.heap.size,0,none⟩) len len) (w.alloc (.cells c e)):=by
  have h5:¬(16777216<len*i.size):=by rw [←h4];omega
  have e4:(parts.map λ(x:Nat×Operand)=>(x.1,a.eval x.2)).toList=parts.toList.map λp=>(p.1,a.eval p.2):=by simp
  unfold Instr.buildSlice;rw [aE,run_underlying (gI hL hd0)];simp only [cS];rw [aE,run_sizeOf hL hd1,hkn];simp only [cS];rw [if_neg (by omega)];by_cases h0:len*n=0
  ·(have hr0:∀f:Nat->Value,(Array.range 0).map f=#[]:=λf=>by apply Array.ext';simp);rw [h0,hr0] at e1;simp only [h0,if_true,aE,hr0];simp [e1,newRow]
  ·simp only [if_neg h0,aE,zeroValue,typeInfo];simp [h1,h2,e1,newRow]
 simp only [execOp];rw [aE,hr];rfl
theorem CZ [St] (hL:L.ty=bR P) (hw:CW W w A s.os hd F) (hf:FR w A s.os hd s.fr a) {dst ty pos af g} {t e:TypeId} {len:Nat} {parts:Array (Nat×Operand)} {K:AV->AS->Prop} {cs:List AV}
  (hd0:(L.ty t).d= .slice e) (hd1:(L.ty e).d≠ .other) (hz:(L.ty e).zero≠[]) (hzn:(L.ty e).zero.length=(L.ty e).n) (hsz:len*(L.ty e).n<=16777216)
  (hcs:s.fill (λi=>some (i*(L.ty e).n,(L.ty e).n)) (zeros ((L.ty e).zero.map Z.av) len) parts.toList=some cs)
  (hk:s.NY cs λcs' s'=>K (.ob s'.os.length) ⟨s'.fr,s'.os++[.row (L.ty e).n (rowsOf (L.ty e).n len cs')]⟩):iy P W w s a ⟨dst,.buildSlice t len parts,ty,pos,af,g⟩ K:=by
 intro next Q hn
 obtain ⟨c,e2,FQ,e3,hn0,hr0⟩:=CQ (dst:=dst) (ty:=ty) (pos:=pos) (af:=af) (g:=g) hL hw hd0 hd1 hz hzn hsz hcs (λp _=>hf.get p.2);generalize hkn:(L.ty e).n=n at*;obtain ⟨s',F',g1,g2,hw',hm',hF',l',G,hk,hl',hcl,hG,hdj,hone⟩:=xu cs c.toList s F _ hw (by rw [ci,e2]) (λj x hx=>by rw [aR];exact e3 j x hx) hk;have hl2:l'.length=len*n:=by rw [hl',ci,e2,FQ]
 have hes:(rowsOf n len l').length=len:=qj _ _ _
 have idx:∀i j,i<len->j<n->i*n+j<len*n:=λi j hi hj=>by
  have:(i+1)*n<=len*n:=bc n hi;rw [bz] at this;omega
 have hcn:c.toList.length=len*n:=by rw [ci,e2,FQ]
 obtain ⟨hw2,hm2⟩:=NR hw' (Keeps.alloc w c e) (heap_alloc_new w _) (aq _) (k:=n) (cap:=len) (es:=rowsOf n len l') (G:=λi j=>G (i*n+j)) (by rw [hes];have:=me len hn0;unfold maxLen;omega) (by rw [hes];exact aq _)
  (by rw [e2,FQ];exact aq _) (λr hr=>by
   obtain ⟨i,hi⟩:=ap hr;have hi':=(aa.1 hi).1;rw [hes] at hi';rw [oN _ _ _ _ _ hi,ba,ct,hl2];have:=idx i (n - 1) hi' (by omega)
   omega) (λi j hi hj=>by
   rw [hes] at hi;have h5:=idx i j hi hj;refine hone _ ?_;rw [←aR,ad,ag (by omega)]
   exact er _) (λi j r x hr hx=>by
   rw [oN _ _ _ _ _ hr] at hx;rw [be] at hx;split at hx
   ·rw [bv] at hx;have:=hcl (i*n+j) x hx;rwa [aR] at this
   ·cases hx) (λi j y hi hj hy=>by
   rw [hes] at hi;obtain ⟨⟨id,h6⟩,h7⟩:=hG (i*n+j) y (by rw [hcn];exact idx i j hi hj) hy;have h8:=hw.fsz id y h6
   exact ⟨h8.1,h8.2,λh=>(hw.hA y h).2 id h6,h7⟩) (λi j i' j' x hi hj hi' hj' h6 h7=>by
   rw [hes] at hi hi';have:=hdj _ _ x (by rw [hcn];exact idx i j hi hj) (by rw [hcn];exact idx i' j' hi' hj') h6 h7;(have hi2:(i*n+j) / n=i:=by rw [fx,ke hn0,jx hj];rfl);(have hi3:(i'*n+j') / n=i':=by rw [fx,ke hn0,jx hj'];rfl);(have:i=i':=by rw [←hi2,this,hi3]);subst this
   exact ⟨rfl,by omega⟩)
 rw [hes] at hw2 hm2;exact dX hr0 (hn _ _ _ _ A _ _ hk g1 hw2 (hf.eZ λy u h=>hm2 _ _ (hm' _ _ h)) (.ob _ _ (by simp) λk es ho=>by rw [iN]))
end
section
variable {P:Program} {np:Nat} {L:Lay} {W:WM} {w w':World} {A:Nat->Prop} {os os':List Obj} {hd hd':Nat->Value} {F F':Nat->Nat->Prop} {s:AS} {a:Act}
theorem TW {z:List Z} (h:zok z=true) {i:Nat} {x:Z} (hx:z[i]? =some x):x≠ .other:=by
 induction z generalizing i with
 |nil=>simp at hx
 | cons y l ih=>
  unfold zok at h;split at h
  ·rename_i e;cases e
  ·cases h
  ·rename_i e;cases e
   cases i with
   |zero=>simp at hx;subst hx;rintro rfl;rename_i h2;exact h2 rfl
   |succ i=>simp at hx;exact ih h hx
theorem Z.EL {c:Value} (h:Z.of c≠ .other) {G:Nat->Prop} (hG:∀x,¬G x):bB w A (Z.of c).av c G/\c.oneCell'=true:=by
 unfold Z.of at*;split at h
 ·split at h
  ·rename_i e;subst e;exact ⟨.pure _ _ _ (.int _ _) rfl hG,rfl⟩
  ·exact (h rfl).elim
 ·split at h
  ·rename_i e;subst e;exact ⟨.pure _ _ _ (.bool _) rfl hG,rfl⟩
  ·exact (h rfl).elim
 ·rename_i b;split at h
  ·rename_i e
   have:b=⟨#[]⟩:=by
    cases b with|mk d=>congr 1;exact lP.1 (by simpa using e)
   subst this;exact ⟨.pure _ _ _ (.str _ (by simp [ByteArray.size])) rfl hG,rfl⟩
  ·exact (h rfl).elim
 ·split at h
  ·rename_i e;obtain ⟨rfl,rfl⟩:=e;exact ⟨.pure _ _ _ .fV rfl hG,rfl⟩
  ·exact (h rfl).elim
 ·exact ⟨.pure _ _ _ .mR rfl hG,rfl⟩
 ·exact (h rfl).elim
theorem Wv [St] (hL:L.ty=bR P) (hw:CW W w A s.os hd F) (hf:FR w A s.os hd s.fr a) {dst ty pos af g} {t e:TypeId} {xl xc:Operand} {kl kc:IntKind} {l c:Int} {K:AV->AS->Prop}
  (hd0:(L.ty t).d= .slice e) (hz:(L.ty e).zero≠[]) (hzn:(L.ty e).zero.length=(L.ty e).n) (hzo:zok (L.ty e).zero=true) (hl:s.get xl= .int kl l) (hc:s.get xc= .int kc c)
  (hk:(bG np P).make (L.ty e).bytes ((L.ty e).zero.map Z.av) l c λes=>K (.ob s.os.length) ⟨s.fr,s.os++[.row (L.ty e).n es]⟩):iy P W w s a ⟨dst,.makeSlice t xl xc,ty,pos,af,g⟩ K:=by
 intro next Q hn
 obtain ⟨i,z,h1,h2,h3,h4,h5⟩:=jO hL hz;obtain ⟨h6,h7,h8,h9,hk⟩:=hk;have e1:=hf.get xl;have e2:=hf.get xc;rw [hl] at e1;rw [hc] at e2;generalize hkn:(L.ty e).n=n at*;have hzs:z.cells.size=n:=by rw [h3] at hzn;simpa using hzn
 have hn0:0<n:=by rw [←hzn];exact fh.2 hz
 have hr:=run_make (P:=P) w t e i z (gI hL hd0) h1 h2 kl kc l c h6 h7 (by rw [h5] at h8;rw [lR];exact h8) (by omega);rw [←h4] at hr
 have hcell:∀q,q<c.toNat*n->(madeCells z.cells (c.toNat*n)).getD q undef=z.cells.getD (q % n) undef:=λq hq=>by
  unfold madeCells;rw [Oz _ _ _ hq,hzs,qz _ _ (by rw [hzs];exact f8 _ hn0)]
 have idx:∀i j,i<l.toNat->j<n->i*n+j<c.toNat*n/\(i*n+j) % n=j:=λi j hi hj=>by
  have:(i+1)*n<=c.toNat*n:=bc n (by omega);rw [bz] at this;exact ⟨by omega,by rw [fx,Nat.mul_add_mod,dp hj]⟩
 have hzj:∀j,j<n->∃zj,(L.ty e).zero[j]? =some zj/\zj=Z.of (z.cells.getD j undef)/\zj≠ .other:=λj hj=>by
  have hj':j<z.cells.size:=by omega
  refine ⟨Z.of (z.cells.getD j undef),?_,rfl,?_⟩
  ·rw [h3,ai,bd];simp [Array.getD,hj']
  ·refine TW hzo (i:=j) ?_;rw [h3,ai,bd];simp [Array.getD,hj']
 obtain ⟨hw2,hm2⟩:=NR hw (Keeps.alloc w (madeCells z.cells (c.toNat*n)) e) (heap_alloc_new w _) (aq _) (k:=n) (cap:=c.toNat) (es:=List.replicate l.toNat ((L.ty e).zero.map Z.av)) (G:=λ_ _ _=>False)
  (by simp;unfold maxLen;omega) (by simp;omega) (by rw [size_madeCells];exact aq _) (λr hr=>by rw [List.eq_of_mem_replicate hr,al,hzn])
  (λi j hi hj=>by
   rw [eI] at hi;rw [hcell _ (idx i j hi hj).1,(idx i j hi hj).2];obtain ⟨zj,_,g2,g3⟩:=hzj j hj
   exact (Z.EL (w:=w) (A:=A) (G:=λ_=>False) (g2 ▸ g3) (λ_ h=>h)).2)
  (λi j r x hr hx=>by
   have hi:=(aa.1 hr).1;rw [eI] at hi;rw [eh,if_pos hi] at hr;cases hr;have hj:=(aa.1 hx).1;rw [al,hzn] at hj;rw [hcell _ (idx i j hi hj).1,(idx i j hi hj).2];obtain ⟨zj,g1,g2,g3⟩:=hzj j hj;rw [ai,g1] at hx;cases hx;rw [g2]
   exact (Z.EL (g2 ▸ g3) (λ_ h=>h)).1)
  (λi j y _ _ h=>h.elim) (λi j i' j' x _ _ _ _ h=>h.elim)
 rw [eI] at hw2 hm2;refine dX (w':=w.alloc (.cells (madeCells z.cells (c.toNat*n)) e)) ?_ (hn _ _ _ _ A _ _ hk rfl hw2 (hf.eZ hm2) (.ob _ _ (by simp) λk es ho=>by rw [iN]));simp only [execOp,e1.fJ,e2.fJ];rw [aE,hr];rfl
structure Src (w:World) (A:Nat->Prop) (k:Nat) (v:Value) (fs:List (List AV)) (H:Nat->Nat->Nat->Prop) where
 p:Option Addr
 cap:Nat
 eq:v= .slice p fs.length cap
 nil:fs=[]∨∃b off,p=some ⟨b,off,none⟩/\∀i j,i<fs.length->j<k->∃u,w.cell? ⟨b,off+(i*k+j),none⟩=some u/\u.oneCell'=true/\∀e x,fs[i]? =some e->e[j]? =some x->bB w A x u (H i j)
 len:∀e∈fs,e.length=k
theorem ku {t ty e:TypeId} {k:Nat} (ht:P.underlying t=some (.slice e)) (hn:∀w,(sizeOf e).run P w= .ok k w) (p:Option Addr) (n c:Nat) (hnc:n<=c) (q:Option Addr) (d:Nat):
  (Builtin.append_ #[t,t] ty #[.slice p n c,.slice q 0 d]).run P w= .ok (.slice p n c) w:=by
 have hf:(Builtin.firstCells k 0 (.slice q 0 d)).run P w= .ok #[] w:=by
  cases q<;>simp [Builtin.firstCells,loadCells,loadCellsFrom]
 cases p with
 |none=>simp [Builtin.append_,run_underlying ht,hn,Builtin.lenOf,hf,hnc]
 |some x=>simp [Builtin.append_,run_underlying ht,hn,Builtin.lenOf,hf,hnc,storeCells]
theorem run_append_room' {t ty e T:TypeId} (i:TypeInfo) (ht:P.underlying t=some (.slice e)) (hi:P.info? e=some i)
  (g sLen sCap:Nat) (cur:Array Value) (hg:w.heap[g]? =some (.cells cur T (0,0)))
  (a:Addr) (m c:Nat) (news:List Value) (hl:news.length=m*i.size) (hnews:∀j u,news[j]? =some u->w.cell? (a.add j)=some u) (h1:∀u∈news,u.oneCell'=true)
  (hroom:sLen+m<=sCap) (hfit:sLen*i.size+news.length<=cur.size):
  (Builtin.append_ #[t,t] ty #[.slice (some ⟨g,0,none⟩) sLen sCap,.slice (some a) m c]).run P w=
   .ok (.slice (some ⟨g,0,none⟩) (sLen+m) sCap) (w.setRow g (bM cur (sLen*i.size) news)):=by
 have hf:=run_firstCells_some (P:=P) w i.size m a m c news hl hnews;have hst:=run_storeCells_at P g (sLen*i.size) T news 0 cur w hg (by simpa using hfit) h1;simp only [em] at hst;simp [Builtin.append_,run_underlying ht,sizeOf,typeInfo,hi,Builtin.lenOf,hroom,hf,gi,hst,bM]
theorem Rel.src {k:Nat} {own fs v} (h:Rel w A (.sl own k fs) v) (hno:∀e∈fs,∀c∈e,c.dF=false):Nonempty (Src w A k v fs λ_ _ _=>False):=by
 cases h with
 | sl _ _ _ p cap b off val hl hcap hp hk hc h1c hr=>
  refine ⟨⟨p,cap,rfl,?_,hk⟩⟩;by_cases hne:fs=[]
  ·exact .inl hne
  ·refine .inr ⟨b,off,(hp hne).1,λi j hi hj=>⟨_,hc i j hi hj,h1c i j hi hj,λe x he hx=> .pure _ _ _ (hr i j e x he hx) (hno e (ae he) x (ae hx)) (λ_ h=>h)⟩⟩
theorem bB.src {k:Nat} {fs v} {G:Nat->Prop} (h:bB w A (.sl true k fs) v G):∃H,Nonempty (Src w A k v fs H)/\(∀i j y,i<fs.length->j<k->H i j y->G y)/\(∀i j i' j' x,i<fs.length->j<k->i'<fs.length->j'<k->H i j x->H i' j' x->i=i'/\j=j'):=by
 cases h with
 |pure _ _ _ h ho hF=>simp [AV.dF] at ho
 |nil=>exact ⟨λ_ _ _=>False,⟨⟨none,0,rfl,.inl rfl,by simp⟩⟩,λ_ _ _ _ _ h=>h.elim,λ_ _ _ _ _ _ _ _ _ h=>h.elim⟩
 | sl _ _ cap b T c F G hb hl hcap hsz hk h1c hr hF h0 hd=>
  refine ⟨G,⟨⟨_,cap,rfl,.inr ⟨b,0,rfl,λi j hi hj=>⟨c.getD (i*k+j) undef,?_,h1c i j hi hj,λe x he hx=>hr i j e x he hx⟩⟩,hk⟩⟩,λi j y hi hj hy=>(hF y).2 (.inr ⟨i,j,hi,hj,hy⟩),hd⟩
  have h1:i*k+j<c.size:=by
   have:(i+1)*k<=cap*k:=bc k (by omega);rw [bz] at this;omega
  simp [World.cell?,hb,h1]
theorem abP [St] (hL:L.ty=bR P) {A':Nat->Prop} (hw:CW W w A os hd F) {t ty e:TypeId} (hd0:(L.ty t).d= .slice e) (hd1:(L.ty e).d≠ .other) (hz:(L.ty e).zero≠[]) (hzn:(L.ty e).zero.length=(L.ty e).n) (hn0:(L.ty e).n≠0)
  {es fs:List (List AV)} {v y:Value} {G:Nat->Prop} {H:Nat->Nat->Nat->Prop} (hx:bB w A (.sl true (L.ty e).n es) v G) (hs:Src w A' (L.ty e).n y fs H) (hsA:∀i j u x e',fs[i]? =some e'->e'[j]? =some x->bB w A' x u (H i j)->bB w A x u (H i j))
  (hG:∀x,G x->W.new x/\x<w.heap.size/\¬A x/\∀id,¬F id x)
  (hH:∀i j x,i<fs.length->j<(L.ty e).n->H i j x->W.new x/\x<w.heap.size/\¬A x/\(∀id,¬F id x)/\¬G x)
  (hHd:∀i j i' j' x,i<fs.length->j<(L.ty e).n->i'<fs.length->j'<(L.ty e).n->H i j x->H i' j' x->i=i'/\j=j')
  (hb:(es.length+fs.length)*(L.ty e).bytes<=140737488355328) (hlen:es.length+fs.length<=140737488355328):
  ∃ v' w' F',(Builtin.append_ #[t,t] ty #[v,y]).run P w= .ok v' w'/\CW W w' A (os++[.row (L.ty e).n (es++fs)]) (je hd os.length v') F'/\
   ∀z u,aU w A os hd z u->aU w' A (os++[.row (L.ty e).n (es++fs)]) (je hd os.length v') z u:=by
 obtain ⟨i,z,h1,h2,h3,h4,h5⟩:=jO hL hz;generalize hkn:(L.ty e).n=k at*;have hk0:0<k:=by omega
 have ht:=gI hL hd0;have hso:∀w,(sizeOf e).run P w= .ok k w:=λw=>by rw [run_sizeOf hL hd1,hkn]
 have hA:∀x,A x->x<w.heap.size:=λx h=>(hw.hA x h).1;obtain ⟨p,cap,rfl,hnil,hfl⟩:=hs
 -- what is taken over unchanged
 have same:fs=[]->∃v' w' F',(Builtin.append_ #[t,t] ty #[v,.slice p fs.length cap]).run P w= .ok v' w'/\CW W w' A (os++[.row k (es++fs)]) (je hd os.length v') F'/\
   ∀z u,aU w A os hd z u->aU w' A (os++[.row k (es++fs)]) (je hd os.length v') z u:=by
  rintro rfl;obtain ⟨p0,c0,e1,_,e2⟩:=(hx.rel (B:=λ_=>True) (λ_ _=>trivial) (λ_ _=>trivial)).jY;refine ⟨v,w,_,by rw [e1];exact ku ht hso p0 _ _ e2 p cap,hw.push (.row k (es++[])) v G hG (λk' es' e=>?_) (λcs e=>by cases e),λz u h=>h.push _ _⟩;cases e;rw [dr];exact hx
 rcases hnil with hfs|⟨b,off,rfl,hcell⟩
 ·exact same hfs
 by_cases hfs:fs=[]
 ·exact same hfs
 have hm0:0<fs.length:=fh.2 hfs
 -- the new cells
 obtain ⟨news,hnews⟩:∃news:List Value,news=(List.range (fs.length*k)).map λq=>(w.cell? ⟨b,off+q,none⟩).getD undef:=⟨_,rfl⟩
 have hnl:news.length=fs.length*k:=by rw [hnews];simp
 have hq:∀q,q<fs.length*k->q / k<fs.length/\q % k<k/\q / k*k+q % k=q:=λq hq=>⟨(mA hk0).2 hq,f8 _ hk0,by rw [fx];exact mi q k⟩
 have hnc:∀q u,news[q]? =some u->w.cell? ((⟨b,off,none⟩:Addr).add q)=some u:=λq u hu=>by
  have h6:=(aa.1 hu).1;rw [hnl] at h6;obtain ⟨g1,g2,g3⟩:=hq q h6;obtain ⟨u',e1,_⟩:=hcell _ _ g1 g2;rw [g3] at e1;rw [hnews] at hu;simp [h6,e1] at hu;subst hu;rw [addr_add,e1]
 have hnD:∀i j,i<fs.length->j<k->i*k+j<fs.length*k/\w.cell? ⟨b,off+(i*k+j),none⟩=some (news.getD (i*k+j) undef):=λi j hi hj=>by
  have h6:i*k+j<fs.length*k:=by
   have:(i+1)*k<=fs.length*k:=bc k (by omega);rw [bz] at this;omega
  refine ⟨h6,?_⟩;obtain ⟨u',e1,_⟩:=hcell i j hi hj;rw [hnews,e1];simp [List.getD,h6,e1]
 have hone:∀u∈news,u.oneCell'=true:=λu hu=>by
  obtain ⟨q,hq1,rfl⟩:=m8 hu;rw [hnl] at hq1;obtain ⟨g1,g2,g3⟩:=hq q hq1;obtain ⟨u',e1,e2,_⟩:=hcell _ _ g1 g2;rw [g3] at e1;have:=hnc q _ (ag (by rw [hnl];exact hq1));rw [addr_add,e1] at this;injection this with this;rw [←this];exact e2
 have hrel:∀i j e' x,fs[i]? =some e'->e'[j]? =some x->bB w A x (news.getD (i*k+j) undef) (H i j):=λi j e' x he hx=>by
  have hi:=(aa.1 he).1;have hj:=(aa.1 hx).1;rw [hfl e' (ae he)] at hj;obtain ⟨u',e1,_,e3⟩:=hcell i j hi hj;obtain ⟨_,e4⟩:=hnD i j hi hj;rw [e1] at e4;injection e4 with e4;rw [←e4];exact hsA i j u' x e' he hx (e3 e' x he hx)
 have agn:news.length=fs.length*i.size:=by rw [hnl,h4]
 -- the new row's cells
 have core:∀(w':World) (b' cap':Nat) (c:Array Value) (T:TypeId) (G0:Nat->Nat->Nat->Prop) (Ex:Nat->Prop),Keeps Ex w w'->(∀x,Ex x->W.new x/\¬A x/\(∀id,¬F id x)/\(∀i j,i<es.length->j<k->¬G0 i j x)/\∀i j,i<fs.length->j<k->¬H i j x)->
   w'.heap[b']? =some (.cells c T (0,0))->(w.heap.size<=b'∨Ex b')->W.new b'->es.length+fs.length<=cap'->cap'*k<=c.size->(∀e∈es,e.length=k)->
   (∀i j,i<es.length->j<k->(c.getD (i*k+j) undef).oneCell'=true/\∀e' x,es[i]? =some e'->e'[j]? =some x->bB w A x (c.getD (i*k+j) undef) (G0 i j))->
   (∀i j,i<fs.length->j<k->c.getD ((es.length+i)*k+j) undef=news.getD (i*k+j) undef)->
   (∀i j x,i<es.length->j<k->G0 i j x->G x)->(∀i j i' j' x,i<es.length->j<k->i'<es.length->j'<k->G0 i j x->G0 i' j' x->i=i'/\j=j')->
   CW W w' A (os++[.row k (es++fs)]) (je hd os.length (.slice (some ⟨b',0,none⟩) (es.length+fs.length) cap')) (je F os.length λx=>x=b'∨∃i j,i<(es++fs).length/\j<k/\(if i<es.length then G0 i j x else H (i - es.length) j x))/\
   ∀z u,aU w A os hd z u->aU w' A (os++[.row k (es++fs)]) (je hd os.length (.slice (some ⟨b',0,none⟩) (es.length+fs.length) cap')) z u:=by
  intro w' b' cap' c T G0 Ex hkp hEx hbc hb0 hbW aaU hsz' hel hold hnew hG0 ajq;obtain ⟨hw',hm'⟩:=hw.FH hkp (λx hx=>⟨(hEx x hx).1,(hEx x hx).2.1,(hEx x hx).2.2.1⟩);have hb1:b'<w'.heap.size:=(bj.1 hbc).1
  have hg:∀i j x,i<(es++fs).length->j<k->(if i<es.length then G0 i j x else H (i - es.length) j x)->W.new x/\x<w.heap.size/\¬A x/\(∀id,¬F id x)/\¬Ex x:=λi j x hi hj hx=>by
   split at hx
   ·rename_i h6;obtain ⟨g1,g2,g3,g4⟩:=hG x (hG0 i j x h6 hj hx);exact ⟨g1,g2,g3,g4,λh=>(hEx x h).2.2.2.1 i j h6 hj hx⟩
   ·rename_i h6;(have h7:i - es.length<fs.length:=by simp at hi;omega);obtain ⟨g1,g2,g3,g4,_⟩:=hH _ j x h7 hj hx;exact ⟨g1,g2,g3,g4,λh=>(hEx x h).2.2.2.2 _ j h7 hj hx⟩
  have hbn:¬A b'/\∀id,¬F id b':=by
   rcases hb0 with h|h
   ·exact ⟨λh'=>by have:=hA _ h';omega,λid h'=>by have:=(hw.fsz id _ h').2;omega⟩
   ·exact ⟨(hEx _ h).2.1,(hEx _ h).2.2.1⟩
  refine ⟨hw'.push _ _ _ (λx hx=>?_) (λk' es' e'=>?_) (λcs e'=>by cases e'),λz u h=>(hm' z u h).push _ _⟩
  ·rcases hx with rfl|⟨i,j,hi,hj,hx⟩
   ·exact ⟨hbW,hb1,hbn.1,hbn.2⟩
   ·obtain ⟨g1,g2,g3,g4,_⟩:=hg i j x hi hj hx;exact ⟨g1,bu g2 hkp.size,g3,g4⟩
  ·cases e';have hll:(es++fs).length=es.length+fs.length:=am;rw [←hll];refine .sl k (es++fs) cap' b' T c _ (λi j x=>if i<es.length then G0 i j x else H (i - es.length) j x) hbc (by rw [hll];unfold maxLen;omega) (by rw [hll];exact aaU) hsz' (λe' he=>?_) (λi j hi hj=>?_) (λi j e' x he hx=>?_) (λ_=>i8) (λi j hi hj h=>?_) (λi j i' j' x hi hj hi' hj' h6 h7=>?_)
   ·rcases ca.1 he with h|h
    ·exact hel e' h
    ·exact hfl e' h
   ·by_cases h6:i<es.length
    ·exact (hold i j h6 hj).1
    ·(have h7:i - es.length<fs.length:=by omega);have:=hnew (i - es.length) j h7 hj;rw [show es.length+(i - es.length)=i from by omega] at this;rw [this];refine hone _ ?_;rw [ad,ag (by rw [hnl];exact (hnD _ j h7 hj).1)];exact er _
   ·have hj:=(aa.1 hx).1;have hi:=(aa.1 he).1
    have hjk:j<k:=by
     rcases ca.1 (ae he) with h|h
     ·rwa [hel e' h] at hj
     ·rwa [hfl e' h] at hj
    have mono:∀u,bB w A x u (λx=>if i<es.length then G0 i j x else H (i - es.length) j x)->bB w' A x u (λx=>if i<es.length then G0 i j x else H (i - es.length) j x):=λu h=>by
     refine h.mono (λ_ h=>h) (λy hy=>?_);rcases hy with hy|hy
     ·exact hkp.block y (hA y hy) (λh=>(hEx y h).2.1 hy)
     ·obtain ⟨_,g2,_,_,g5⟩:=hg i j y hi hjk hy;exact hkp.block y g2 g5
    refine mono _ ?_;by_cases h6:i<es.length
    ·rw [br h6] at he;exact ((hold i j h6 hjk).2 e' x he hx).congr (λy=>by rw [if_pos h6])
    ·rw [cX (by omega)] at he;have:=hrel (i - es.length) j e' x he hx;rw [←hnew (i - es.length) j (by rw [hll] at hi;omega) hjk,show es.length+(i - es.length)=i from by omega] at this;exact this.congr (λy=>by rw [if_neg h6])
   ·obtain ⟨_,g2,_,_,g5⟩:=hg i j b' hi hj h;rcases hb0 with h8|h8
    ·omega
    ·exact g5 h8
   ·split at h6<;>split at h7
    ·rename_i a1 a2;exact ajq i j i' j' x a1 hj a2 hj' h6 h7
    ·rename_i a1 a2;exact ((hH _ j' x (by rw [hll] at hi';omega) hj' h7).2.2.2.2 (hG0 i j x a1 hj h6)).elim
    ·rename_i a1 a2;exact ((hH _ j x (by rw [hll] at hi;omega) hj h6).2.2.2.2 (hG0 i' j' x a2 hj' h7)).elim
    ·rename_i a1 a2;have:=hHd _ j _ j' x (by rw [hll] at hi;omega) hj (by rw [hll] at hi';omega) hj' h6 h7;omega
 have hzs:z.cells.size=k:=by rw [h3] at hzn;simpa using hzn
 cases hx with
 |pure _ _ _ h ho hF=>simp [AV.dF] at ho
 | nil=>
  have hr:=run_append_nil (P:=P) w t ty e i z ht h1 h2 ⟨b,off,none⟩ fs.length cap news agn hnc hm0 (by omega) (by rw [←h5];simp at hb;omega)
  obtain ⟨g1,g2⟩:=core (w.drew.alloc (.cells (news.toArray++Builtin.zeroCells z.cells (grownCap w fs.length 0 e - fs.length)) e)) w.heap.size (grownCap w fs.length 0 e) _ e (λ_ _ _=>False) (λ_=>False)
   ((Keeps.drew w).trans (Keeps.alloc w.drew _ _)) (λx h=>h.elim) (heap_alloc_new w.drew _) (.inl (aq _)) (hw.below.new (aq _)) (by simpa using grownCap_ge w fs.length 0 e)
   (by
    have:=grownCap_ge w fs.length 0 e;simp only [fW,ff,size_zeroCells,hzs,hnl,←bz]
    exact bc k (by omega)) (by simp) (λi j hi=>by simp at hi) (λi j hi hj=>by
    have:=(hnD i j hi hj).1;(have e9:([]:List (List AV)).length+i=i:=by simp);rw [e9]
    rw [←aR,cN,ad,br (by simpa [hnl] using this),ad]) (λi j x hi=>by simp at hi) (λi j i' j' x hi=>by simp at hi)
  simp only [cQ,bw] at g1 g2;exact ⟨_,_,_,hr,g1,g2⟩
 | sl _ _ cap0 bb T cur _ G0 hbb hl hcap0 hsz hk h1c hr0 hF h0 ahX=>
  have ah4:G bb:=(hF bb).2 (.inl rfl);obtain ⟨q1,q2,q3,q4⟩:=hG bb ah4
  have idx:∀i j,i<es.length->j<k->i*k+j<es.length*k:=λi j hi hj=>by
   have:(i+1)*k<=es.length*k:=bc k (by omega);rw [bz] at this;omega
  have hG0:∀i j x,i<es.length->j<k->G0 i j x->G x:=λi j x hi hj hx=>(hF x).2 (.inr ⟨i,j,hi,hj,hx⟩);have ai5:es.length*k<=cur.size:=cE (bc k hcap0) hsz;by_cases hroom:es.length+fs.length<=cap0
  ·(have hfit:es.length*k+news.length<=cur.size:=by rw [hnl,←bz];exact cE (bc k hroom) hsz);have hr:=run_append_room' (P:=P) (ty:=ty) i ht h1 bb es.length cap0 cur hbb ⟨b,off,none⟩ fs.length cap news agn hnc hone hroom (by rw [←h4];exact hfit);rw [←h4] at hr
   obtain ⟨g1,g2⟩:=core (w.setRow bb (bM cur (es.length*k) news)) bb cap0 _ T G0 (λx=>x=bb) (fU _ rfl) (λx hx=>by
     subst hx
     exact ⟨q1,q3,q4,h0,λi j hi hj h=>(hH i j x hi hj h).2.2.2.2 ah4⟩) (setRow_heap w bb cur _ T _ hbb) (.inr rfl) q1 hroom (by rw [dK hfit];exact hsz) hk
    (λi j hi hj=>by
     have:=idx i j hi hj;rw [eY hfit,if_pos this]
     exact ⟨h1c i j hi hj,λe' x he hx=>hr0 i j e' x he hx⟩)
    (λi j hi hj=>by
     have:=(hnD i j hi hj).1;rw [eY hfit,bz,if_neg (by omega),if_pos (by rw [hnl];omega)];congr 1
     omega) hG0 ahX
   exact ⟨_,_,_,hr,g1,g2⟩
  ·have hol:(cur.toList.take (es.length*k)).length=es.length*k:=by rw [ba,ci];exact ie ai5
   have hr:=run_append_grow (P:=P) w t ty e i z ht h1 h2 ⟨bb,0,none⟩ es.length cap0 (cur.toList.take (es.length*k)) (by rw [hol,h4]) (λj u hu=>by
     rw [addr_add,bw];rw [be] at hu;split at hu
     ·simp [World.cell?,hbb];simpa using hu
     ·cases hu) ⟨b,off,none⟩ fs.length cap news agn hnc (by omega) (by omega) (growslice_fits (by omega) (by rw [←h5];exact hb))
   have hge:=grownCap_ge w (es.length+fs.length) cap0 e
   obtain ⟨g1,g2⟩:=core (w.drew.alloc (.cells ((cur.toList.take (es.length*k)).toArray++news.toArray++Builtin.zeroCells z.cells (grownCap w (es.length+fs.length) cap0 e - (es.length+fs.length))) e)) w.heap.size (grownCap w (es.length+fs.length) cap0 e) _ e G0 (λ_=>False) ((Keeps.drew w).trans (Keeps.alloc w.drew _ _)) (λx h=>h.elim) (heap_alloc_new w.drew _) (.inl (aq _)) (hw.below.new (aq _)) hge
    (by
     simp only [fW,ff,size_zeroCells,hzs,hnl,hol,←bz]
     exact bc k (by omega)) hk
    (λi j hi hj=>by
     have:=idx i j hi hj
     have e0:((cur.toList.take (es.length*k)).toArray++news.toArray++Builtin.zeroCells z.cells (grownCap w (es.length+fs.length) cap0 e - (es.length+fs.length))).getD (i*k+j) undef=cur.getD (i*k+j) undef:=by
      rw [←aR,←aR];simp only [cN,cT,ad];rw [br (by rw [hol];exact this),be,if_pos this]
     rw [e0]
     exact ⟨h1c i j hi hj,λe' x he hx=>hr0 i j e' x he hx⟩)
    (λi j hi hj=>by
     have:=(hnD i j hi hj).1;rw [←aR];simp only [cN,cT,ad];rw [cX (by rw [hol,bz];omega),hol,bz,br (by rw [hnl];omega)];congr 2
     omega) hG0 ahX
   exact ⟨_,_,_,hr,g1,g2⟩
end
section
variable {P:Program} {np:Nat} {L:Lay} {W:WM} {w w':World} {A:Nat->Prop} {os os':List Obj} {hd hd':Nat->Value} {F F':Nat->Nat->Prop} {s:AS} {a:Act}
theorem Rel.aij {A':Nat->Prop} {x v} (h:Rel w A x v) (hx:x.flat=true):Rel w A' x v:=by
 cases h with
 |int k n=>exact .int k n
 |bool b=>exact .bool b
 |str s h=>exact .str s h
 |_=>simp [AV.flat] at hx
theorem FX {x:AV} (hx:x.flat=true):x.dF=false:=by
 cases x<;>simp_all [AV.flat,AV.dF]
theorem Ic [St] (hw:CW W w A s.os hd F) {k:Nat} {y:AV} {v:Value} {K:List (List AV)->AS->Prop} (hy:aU w A s.os hd y v) (hk:s.src (bG np P) k y K):
  ∃ fs s1 F1 A' H,K fs s1/\s1.fr=s.fr/\CW W w A s1.os hd F1/\(∀z u,aU w A s.os hd z u->aU w A s1.os hd z u)/\(∀id x,F1 id x->F id x)/\Nonempty (Src w A' k v fs H)/\
   (∀i j u x e',fs[i]? =some e'->e'[j]? =some x->bB w A' x u (H i j)->bB w A x u (H i j))/\(∀i j x,i<fs.length->j<k->H i j x->(∃id,F id x)/\∀id,¬F1 id x)/\
   (∀i j i' j' x,i<fs.length->j<k->i'<fs.length->j'<k->H i j x->H i' j' x->i=i'/\j=j'):=by
 unfold AS.src at hk;split at hk
 ·rename_i own k' fs;split at hk
  ·rename_i e;subst e;obtain ⟨hno,hk⟩:=hk;exact ⟨fs,s,F,A,λ_ _ _=>False,hk,rfl,hw,λ_ _ h=>h,λ_ _ h=>h,hy.lW.src hno,λ_ _ _ _ _ _ _ h=>h,λ_ _ _ _ _ h=>h.elim,λ_ _ _ _ _ _ _ _ _ h=>h.elim⟩
  ·exact hk.elim
 ·rename_i id lo hi;split at hk
  ·rename_i _ k' es ho;split at hk
   ·rename_i e;subst e
    obtain ⟨fs,⟨hfl,hk⟩,hr⟩:∃fs,((∀e∈fs,∀c∈e,c.flat=true)/\K fs s)/\Rel w (·<w.heap.size) (.sl false k fs) v:=by
     have h1:s.r1 (bG np P) (.vs id lo hi) λx=>∃fs,x= .sl false k fs/\((∀e∈fs,∀c∈e,c.flat=true)/\K fs s):=by
      unfold AS.r1;simp only [ho];obtain ⟨g1,g2,g3,g4⟩:=hk;exact ⟨g1,g2,g3,_,rfl,g4⟩
     obtain ⟨x',⟨fs,rfl,h2⟩,h3⟩:=yN hw hy h1;exact ⟨fs,h2,h3⟩
    exact ⟨fs,s,F,_,λ_ _ _=>False,hk,rfl,hw,λ_ _ h=>h,λ_ _ h=>h,hr.src (λe he c hc=>FX (hfl e he c hc)),λi j u x e' he hx h=>
     .pure _ _ _ ((h.flat (hfl e' (ae he) x (ae hx))).aij (hfl e' (ae he) x (ae hx))) (FX (hfl e' (ae he) x (ae hx))) (λ_ h=>h),
     λ_ _ _ _ _ h=>h.elim,λ_ _ _ _ _ _ _ _ _ h=>h.elim⟩
   ·exact hk.elim
  ·exact hk.elim
 ·rename_i id;split at hk
  ·rename_i _ k' es ho;split at hk
   ·rename_i e;subst e;obtain ⟨hw1,hm1⟩:=hw.kill id;obtain ⟨H,h1,h2,h3⟩:=(hw.rows id k es ho).src;refine ⟨es,⟨s.fr,s.os.set id .dead⟩,_,A,H,hk,rfl,hw1,hm1,λi x h=>?_,by rw [hy.iI ho];exact h1,λ_ _ _ _ _ _ _ h=>h,λi j x hi hj hx=>⟨⟨id,h2 i j x hi hj hx⟩,λi' h=>?_⟩,h3⟩
    ·unfold je at h;split at h
     ·exact h.elim
     ·exact h
    ·unfold je at h;split at h
     ·exact h
     ·rename_i hne;exact hne (hw.jH _ _ _ h (h2 i j x hi hj hx))
   ·exact hk.elim
  ·exact hk.elim
 ·exact hk.elim
theorem j4 {c:Call} {x y:Operand} {t ty:TypeId} {v:Value} {dst:Option Tmp} {pos:String} {af:Array Edge} {g:Option (Nat×Bool)} (hc:c.callee= .builtin .append) (ha:c.args.toList=[x,y]) (ht:c.argTypes.toList=[t,t])
  (h:(Builtin.append_ #[t,t] ty #[a.eval x,a.eval y]).run P w= .ok v w'):(execOp a.eval ⟨dst,.call c,ty,pos,af,g⟩).run P w= .ok (.value v) w':=by
 obtain ⟨ce,as',ts⟩:=c;cases hc;have ha':as'=#[x,y]:=by rw [←dg (xs:=as')];rw [show as'.toList=[x,y] from ha]
 have ht':ts=#[t,t]:=by rw [←dg (xs:=ts)];rw [show ts.toList=[t,t] from ht]
 subst ha' ht';show (Builtin.append_ #[t,t] ty _ >>= _).run P w=_;rw [show (#[x,y]:Array Operand).map a.eval=#[a.eval x,a.eval y] from by simp,aE,h];rfl
theorem step_append [St] (hL:L.ty=bR P) (hw:CW W w A s.os hd F) (hf:FR w A s.os hd s.fr a) {dst ty pos af g} {c:Call} {x y:Operand} {t e:TypeId} {K:AV->AS->Prop} (hc:c.callee= .builtin .append) (ha:c.args.toList=[x,y]) (ht:c.argTypes.toList=[t,t])
  (hd0:(L.ty t).d= .slice e) (hd1:(L.ty e).d≠ .other) (hz:(L.ty e).zero≠[]) (hzn:(L.ty e).zero.length=(L.ty e).n) (hn0:(L.ty e).n≠0) (hnv:¬((∃id z hi,s.get x= .vs id z hi)/\∃id z hi,s.get y= .vs id z hi))
  (hk:s.app (bG np P) (L.ty e).n (L.ty e).bytes (s.get x) (s.get y) K):iy P W w s a ⟨dst,.call c,ty,pos,af,g⟩ K:=by
 intro next Q hn
 have hx:=hf.get x;have hy:=hf.get y;have hts:=gI hL hd0;have hso:∀w,(sizeOf e).run P w= .ok (L.ty e).n w:=λw=>run_sizeOf hL hd1;generalize s.get x=xv at*;generalize s.get y=yv at*
 -- one object behind the other
 have main:∀{s1:AS} {F1:Nat->Nat->Prop} {es fs:List (List AV)} {G:Nat->Prop} {H:Nat->Nat->Nat->Prop} {A':Nat->Prop} {osd:List Obj} {F2:Nat->Nat->Prop},s1.fr=s.fr->osd.length=s1.os.length->CW W w A osd hd F2->(∀z u,aU w A s.os hd z u->aU w A osd hd z u)->
   bB w A (.sl true (L.ty e).n es) (a.eval x) G->Nonempty (Src w A' (L.ty e).n (a.eval y) fs H)->(∀i j u x e',fs[i]? =some e'->e'[j]? =some x->bB w A' x u (H i j)->bB w A x u (H i j))->
   (∀x,G x->W.new x/\x<w.heap.size/\¬A x/\∀id,¬F2 id x)->(∀i j x,i<fs.length->j<(L.ty e).n->H i j x->W.new x/\x<w.heap.size/\¬A x/\(∀id,¬F2 id x)/\¬G x)->
   (∀i j i' j' x,i<fs.length->j<(L.ty e).n->i'<fs.length->j'<(L.ty e).n->H i j x->H i' j' x->i=i'/\j=j')->(bG np P).cat (L.ty e).bytes es fs (λes'=>K (.ob s1.os.length) ⟨s1.fr,osd++[.row (L.ty e).n es']⟩)->
   (Oper.wp P ⟨dst,.call c,ty,pos,af,g⟩ a w next Q):=by
  intro s1 F1 es fs G H A' osd F2 e1 e2 hw2 hm2 hxr ⟨hs⟩ hsA hG hH hHd ajn;obtain ⟨g1,g2,hK⟩:=ajn;obtain ⟨v',w',F',r1,r2,r3⟩:=abP (ty:=ty) hL hw2 hd0 hd1 hz hzn hn0 hxr hs hsA hG hH hHd g1 g2;exact dX (j4 hc ha ht r1) (hn _ _ _ _ A _ _ hK e1 r2 (hf.eZ λz u h=>r3 z u (hm2 z u h)) (.ob _ _ (by simp [e2]) λk es ho=>by rw [←e2,iN]))
 unfold AS.app at hk;split at hk
 ·have e1:=hx.mM;have e2:=hy.mM;refine dX (v:= .slice none 0 0) (w':=w) (j4 hc ha ht ?_) (hn _ _ _ _ A hd F hk rfl hw hf (.pure _ _ .fV));rw [e1,e2];exact ku hts hso none 0 0 (aq _) none 0
 ·rename_i id;split at hk
  ·rename_i ho;have e2:=hy.mM;have e1:=hx.iI ho;obtain ⟨p,c0,e3,_,e4⟩:=(hw.rP ho).jY;refine dX (v:=a.eval x) (w':=w) (j4 hc ha ht ?_) (hn _ _ _ _ A hd F hk rfl hw hf hx);rw [e1,e3,e2];exact ku hts hso p _ c0 e4 none 0
  ·exact hk.elim
 ·obtain ⟨fs,s1,F1,A',H,hk,h1,hw1,hm1,hF1,hs,hsA,hH,hHd⟩:=Ic hw hy hk;have e1:=hx.mM;refine main (s1:=s1) (F1:=F1) (es:=[]) (G:=λ_=>False) h1 rfl hw1 hm1 (by rw [e1];exact .nil _ _ (λ_ h=>h)) hs hsA (λ_ h=>h.elim) (λi j x hi hj hx=>?_) hHd hk;obtain ⟨⟨id,g1⟩,g2⟩:=hH i j x hi hj hx;exact ⟨(hw.fsz id x g1).1,(hw.fsz id x g1).2,λh=>(hw.hA x h).2 id g1,g2,λh=>h⟩
 ·rename_i id _;obtain ⟨fs,s1,F1,A',H,hk,h1,hw1,hm1,hF1,hs,hsA,hH,hHd⟩:=Ic hw hy hk;split at hk
  ·rename_i _ k' es ho;split at hk
   ·rename_i e0;subst e0;obtain ⟨hw2,hm2⟩:=hw1.kill id
    have hsub:∀i x,je F1 id (λ_=>False) i x->F1 i x/\i≠id:=λi x hx=>by
     unfold je at hx;split at hx
     ·exact hx.elim
     ·exact ⟨hx,by assumption⟩
    refine main (s1:=s1) (F1:=F1) (es:=es) (G:=F1 id) h1 (by simp) hw2 (λz u h=>hm2 z u (hm1 z u h)) (by rw [(hm1 _ _ hx).iI ho];exact hw1.rows id _ es ho) hs hsA (λx hx=>⟨(hw1.fsz id x hx).1,(hw1.fsz id x hx).2,λh=>(hw1.hA x h).2 id hx,λi hi=>(hsub i x hi).2 (hw1.jH _ _ _ (hsub i x hi).1 hx)⟩) (λi j x hi hj hx=>?_) hHd hk;obtain ⟨⟨id',g1⟩,g2⟩:=hH i j x hi hj hx;exact ⟨(hw.fsz id' x g1).1,(hw.fsz id' x g1).2,λh=>(hw.hA x h).2 id' g1,λi' h=>g2 i' (hsub i' x h).1,g2 id⟩
   ·exact hk.elim
  ·exact hk.elim
 ·exact (hnv ⟨⟨_,_,_,rfl⟩,_,_,_,rfl⟩).elim
 ·exact hk.elim
end
section
variable {P:Program} {np:Nat} {L:Lay} {W:WM} {w w':World} {A:Nat->Prop} {os os':List Obj} {hd hd':Nat->Value} {F F':Nat->Nat->Prop} {s:AS} {a:Act}
theorem CW.Ko [St] (h:CW W w A os hd F) {id k:Nat} {es es':List (List AV)} (ho:os[id]? =some (.row k es)) (hlen:es.length=es'.length) {G':Nat->Prop} (hk:Keeps (F id) w w')
  (hG':∀x,G' x->F id x∨(W.new x/\x<w.heap.size/\¬A x/\∀i,¬F i x)) (hrow:bB w' A (.sl true k es') (hd id) G'):
  CW W w' A (os.set id (.row k es')) hd (je F id G')/\∀y u,aU w A os hd y u->aU w' A (os.set id (.row k es')) hd y u:=by
 have hA:∀y,A y->y<w.heap.size/\¬F id y:=λy hy=>⟨(h.hA y hy).1,(h.hA y hy).2 id⟩
 have hlt:=(aa.1 ho).1
 have hm:∀y u,aU w A os hd y u->aU w' A (os.set id (.row k es')) hd y u:=λy u hy=>by
  refine (hy.FH hA hk).eZ (by simp) (λi k' es'' hi h'=>?_) (λi cs' hi h'=>?_) (λi s' p' hi h'=>?_)
  ·rw [bh] at h';split at h'
   ·rename_i e;subst e;cases h';exact ⟨es,ho,hlen,rfl⟩
   ·exact ⟨es'',h',rfl,rfl⟩
  ·rw [bh] at h';split at h'
   ·cases h'
   ·exact ⟨cs',h',rfl⟩
  ·rw [bh] at h';split at h'
   ·cases h'
   ·exact ⟨s',p',h',rfl⟩
 have hF:∀j,j≠id->∀x,F j x->x<w.heap.size/\¬F id x:=λj hj x hx=>⟨(h.fsz j x hx).2,λh'=>hj (h.jH _ _ _ hx h')⟩
 refine ⟨⟨?_,λx hx=>⟨bu (hA x hx).1 hk.size,λi hi=>?_⟩,λi x hx=>?_,λi j x hi hj=>?_,λi k' es'' h'=>?_,λi cs h'=>?_,λi s' p' h'=>?_,λp hp=>⟨by simpa using (h.pin p hp).1,(h.pin p hp).2⟩,h.old⟩,hm⟩
 ·exact h.below.keep hk (λx h'=>(h.fsz id x h').1)
 ·unfold je at hi;split at hi
  ·rcases hG' x hi with h1|h1
   ·exact (hA x hx).2 h1
   ·exact h1.2.2.1 hx
  ·exact (h.hA x hx).2 i hi
 ·unfold je at hx;split at hx
  ·rcases hG' x hx with h1|h1
   ·exact ⟨(h.fsz id x h1).1,bu (h.fsz id x h1).2 hk.size⟩
   ·exact ⟨h1.1,bu h1.2.1 hk.size⟩
  ·exact ⟨(h.fsz i x hx).1,bu (h.fsz i x hx).2 hk.size⟩
 ·unfold je at hi hj;split at hi<;>split at hj
  ·omega
  ·rename_i e1 e2;rcases hG' x hi with h1|h1
   ·exact (e2 (h.jH _ _ _ hj h1)).elim
   ·exact (h1.2.2.2 j hj).elim
  ·rename_i e1 e2;rcases hG' x hj with h1|h1
   ·exact (e1 (h.jH _ _ _ hi h1)).elim
   ·exact (h1.2.2.2 i hi).elim
  ·exact h.jH i j x hi hj
 ·rw [bh] at h';split at h'
  ·rename_i e;subst e;cases h';rw [iN];exact hrow
  ·rename_i e;rw [iM _ _ _ (cI e)];exact (h.rows i k' es'' h').mono (λ_ h=>h) (λx hx=>hx.elim (λhx=>hk.block x (hA x hx).1 (hA x hx).2) (λhx=>hk.block x (hF i (cI e) x hx).1 (hF i (cI e) x hx).2))
 ·rw [bh] at h';split at h'
  ·cases h'
  ·rename_i e;rw [iM _ _ _ (cI e)];obtain ⟨b,T,c,e1,e2,e3,e4,e5⟩:=h.boxes i cs h';exact ⟨b,T,c,e1,by rw [hk.block b (hF i (cI e) b e5).1 (hF i (cI e) b e5).2];exact e2,e3,λj x hx=>hm _ _ (e4 j x hx),e5⟩
 ·rw [bh] at h';split at h'
  ·cases h'
  ·rename_i e;rw [iM _ _ _ (cI e)];obtain ⟨b,e1,e2,e3⟩:=h.nN i s' p' h';exact ⟨b,e1,by rw [hk.block b (hF i (cI e) b e3).1 (hF i (cI e) b e3).2];exact e2,e3⟩
theorem X6 {l:List Value} {i:Nat} (h:i<l.length):l.getD i undef∈l:=by
 rw [ad,ag h];exact er _
theorem Eh [St] (hL:L.ty=bR P) (hw:CW W w A s.os hd F) (hf:FR w A s.os hd s.fr a) {dst ty pos af g} {t:TypeId} {x y:Operand} {K:AV->AS->Prop} {id j:Nat} {i:Int} {vsl:List Value}
  (hx:s.get x= .pe id i j) (hd0:(L.ty t).d≠ .other) {cl:List AV} (hcl:(a.eval y).cells.toList=vsl) (hcn:vsl.length=cl.length) (hcr:∀(q:Nat) z,cl[q]? =some z->aU w A s.os hd z (vsl.getD q undef)) (hn:cl.length=(L.ty t).n)
  (hk:s.NY cl λcs s'=>match s'.os[id]? with
   |some (.row k es)=>(bG np P).upd es i j cs λes'=>K .und ⟨s'.fr,s'.os.set id (.row k es')⟩
   |_=>False):iy P W w s a ⟨dst,.store t x y,ty,pos,af,g⟩ K:=by
 intro next Q hnx
 have h1:=hf.get x;rw [hx] at h1;obtain ⟨s',F1,g1,g2,hw1,hm1,hF1,cs,Gn,hk,FQ,hcs,hGn,hGd,hone⟩:=xu cl vsl s F _ hw hcn hcr hk;split at hk
 ·rename_i k es ho;obtain ⟨h0,e,he,hje,hk⟩:=hk;have hi:=(aa.1 he).1;obtain ⟨bb,n,c0,q1,_,_,q2⟩:=(hm1 _ _ h1).ED ho;have hrow:=hw1.rows id k es ho;rw [q1] at hrow;generalize hhd:Value.slice (some ⟨bb,0,none⟩) n c0=hv at hrow
  cases hrow with
  |pure _ _ _ h ho hF=>simp [AV.dF] at ho
  |nil=>simp at hi
  | sl _ _ cap b0 T c _ G hb hl hcap hsz hke h1c hr hF h00 hdj=>
   cases hhd;(obtain ⟨b,ahY⟩:∃b,b=bb:=⟨_,rfl⟩);subst ahY;have hek:=hke e (ae he)
   have idx:∀i' j',i'<es.length->j'<k->i'*k+j'<c.size:=λi' j' hi' hj'=>by
    have h5:(i'+1)*k<=c0*k:=bc k (by omega);rw [bz] at h5;omega
   have hvl:vsl.length=cs.length:=FQ.symm
   have hfit:(i.toNat*k+j)+vsl.length<=c.size:=by
    have h5:(i.toNat+1)*k<=c0*k:=bc k (by omega);rw [bz] at h5;omega
   have hr0:=yF (P:=P) (w:=w) hL hd0 (off:=i.toNat*k+j) (v:=a.eval y) hb (by rw [←ci,hcl,hcn];exact hn) (by rw [←ci,hcl];exact hfit) (by rw [hcl];exact hone);rw [hcl] at hr0
   -- what is new at place (i', j')
   let here:Nat->Nat->Prop:=λi' j'=>i'=i.toNat/\j<=j'/\j'<j+cs.length
   have dec:∀i' j',Decidable (here i' j'):=λi' j'=>inferInstanceAs (Decidable (_/\_/\_))
   have pos:∀i' j',i'<es.length->j'<k->(here i' j'↔(i.toNat*k+j<=i'*k+j'/\i'*k+j'<i.toNat*k+j+vsl.length)):=λi' j' hi' hj'=>by
    rw [hvl];constructor
    ·rintro ⟨rfl,h5,h6⟩;omega
    ·rintro ⟨h5,h6⟩
     have:i'=i.toNat:=by
      rcases dq i' i.toNat with h7|h7|h7
      ·have:(i'+1)*k<=i.toNat*k:=bc k h7;rw [bz] at this;omega
      ·exact h7
      ·have:(i.toNat+1)*k<=i'*k:=bc k h7;rw [bz] at this;omega
     subst this;exact ⟨rfl,by omega,by omega⟩
   let G2:Nat->Nat->Nat->Prop:=λi' j'=>if here i' j' then Gn (j' - j) else G i' j'
   have Vn:∀i' j' x,here i' j'->Gn (j' - j) x->W.new x/\x<w.heap.size/\¬A x/\∀id,¬F1 id x:=λi' j' x hh hx=>by
    obtain ⟨⟨id',h5⟩,h6⟩:=hGn (j' - j) x (by rw [hvl];have:=hh.2;omega) hx;exact ⟨(hw.fsz id' x h5).1,(hw.fsz id' x h5).2,λh=>(hw.hA x h).2 id' h5,h6⟩
   have hcell:∀i' j',i'<es.length->j'<k->(bM c (i.toNat*k+j) vsl).getD (i'*k+j') undef=if here i' j' then vsl.getD (j' - j) undef else c.getD (i'*k+j') undef:=λi' j' hi' hj'=>by
    rw [eY hfit];have hp:=pos i' j' hi' hj';by_cases hh:here i' j'
    ·rw [if_pos hh];obtain ⟨h5,h6⟩:=hp.1 hh;rw [if_neg (by omega),if_pos h6];obtain ⟨rfl,h7,h8⟩:=hh;congr 1;omega
    ·rw [if_neg hh];split
     ·rfl
     ·split
      ·rename_i h5 h6;exact (hh (hp.2 ⟨by omega,h6⟩)).elim
      ·rfl
   have hkp:=fU (w:=w) (c':=bM c (i.toNat*k+j) vsl) (F1 id) ((hF b).2 (.inl rfl))
   have hne:∀i' j' x,i'<es.length->j'<k->G2 i' j' x->x≠b:=λi' j' x hi' hj' hx hxb=>by
    subst hxb;simp only [G2] at hx;split at hx
    ·rename_i hh;exact (Vn i' j' x hh hx).2.2.2 id ((hF x).2 (.inl rfl))
    ·exact h00 i' j' hi' hj' hx
   have hkb:∀x,x≠b->(w.setRow b (bM c (i.toNat*k+j) vsl)).heap[x]? =w.heap[x]?:=λx hx=>by
    simp [World.setRow,ef,cI hx]
   have ahU:∀i',(es.set i.toNat (splice e j cs))[i']? =if i'=i.toNat then some (splice e j cs) else es[i']?:=λi'=>by
    rw [bh];by_cases h5:i.toNat=i'
    ·subst h5;simp [hi]
    ·rw [if_neg h5,if_neg (cI h5)]
   obtain ⟨hw2,hm2⟩:=hw1.Ko (es':=es.set i.toNat (splice e j cs)) ho (by simp) hkp (G':=λx=>x=b∨∃i' j',i'<es.length/\j'<k/\G2 i' j' x) (λx hx=>by
     rcases hx with rfl|⟨i',j',hi',hj',hx⟩
     ·exact .inl ((hF x).2 (.inl rfl))
     ·simp only [G2] at hx;split at hx
      ·rename_i hh;exact .inr (Vn i' j' x hh hx)
      ·exact .inl ((hF x).2 (.inr ⟨i',j',hi',hj',hx⟩))) (by
     rw [q1];have hlen:(es.set i.toNat (splice e j cs)).length=es.length:=by simp
     have key:=bB.sl (w:=w.setRow b (bM c (i.toNat*k+j) vsl)) (A:=A) k (es.set i.toNat (splice e j cs)) c0 b T (bM c (i.toNat*k+j) vsl) (λx=>x=b∨∃i' j',i'<es.length/\j'<k/\G2 i' j' x) G2 (setRow_heap w b c _ T _ hb)
      (by rw [hlen];exact hl) (by rw [hlen];exact hcap) (by rw [dK hfit];exact hsz) (λe' he'=>by
       rcases f9 he' with h5|h5
       ·exact hke e' h5
       ·rw [h5,lV hje,hek]) (λi' j' hi' hj'=>by
       rw [hlen] at hi';rw [hcell i' j' hi' hj'];split
       ·rename_i hh;refine hone _ (X6 ?_);rw [hvl];have:=hh.2;omega
       ·exact h1c i' j' hi' hj') (λi' j' e' x he' hx=>by
       have hi':=(aa.1 he').1;rw [hlen] at hi';have hj':=(aa.1 hx).1;rw [ahU] at he'
       have hjk:j'<k:=by
        split at he'
        ·cases he';rw [lV hje,hek] at hj';exact hj'
        ·rw [hke e' (ae he')] at hj';exact hj'
       rw [hcell i' j' hi' hjk]
       have mono:∀u,bB w A x u (G2 i' j')->bB (w.setRow b (bM c (i.toNat*k+j) vsl)) A x u (G2 i' j'):=λu h=>h.mono (λ_ h=>h) (λz hz=>hkb z (by
        rcases hz with hz|hz
        ·rintro rfl;exact (hw1.hA z hz).2 id ((hF z).2 (.inl rfl))
        ·exact hne i' j' z hi' hjk hz))
       by_cases hh:here i' j'
       ·rw [if_pos hh];refine mono _ ?_;rw [if_pos hh.1] at he';cases he';rw [oK hje,if_neg (by have:=hh.2;omega),if_pos hh.2.2] at hx;exact (hcs (j' - j) x hx).congr (λz=>by simp only [G2];rw [if_pos hh])
       ·rw [if_neg hh];refine mono _ ?_
        have hex:∃e0,es[i']? =some e0/\e0[j']? =some x:=by
         split at he'
         ·rename_i h5;subst h5;cases he';refine ⟨e,he,?_⟩;rw [oK hje] at hx;split at hx
          ·exact hx
          ·split at hx
           ·rename_i h6 h7;exact (hh ⟨rfl,by omega,h7⟩).elim
           ·exact hx
         ·exact ⟨e',he',hx⟩
        obtain ⟨e0,h5,h6⟩:=hex
        exact (hr i' j' e0 x h5 h6).congr (λz=>by simp only [G2];rw [if_neg hh])) (λx=>by rw [hlen]) (λi' j' hi' hj' h5=>by rw [hlen] at hi';exact hne i' j' b hi' hj' h5 rfl) (λi1 j1 i2 j2 x hi1 hj1 hi2 hj2 h5 h6=>by
       rw [hlen] at hi1 hi2;simp only [G2] at h5 h6;split at h5<;>split at h6
       ·rename_i a1 a2;have:=hGd _ _ x (by rw [hvl];have:=a1.2;omega) (by rw [hvl];have:=a2.2;omega) h5 h6;exact ⟨a1.1.trans a2.1.symm,by have:=a1.2;have:=a2.2;omega⟩
       ·rename_i a1 a2;exact ((Vn i1 j1 x a1 h5).2.2.2 id ((hF x).2 (.inr ⟨i2,j2,hi2,hj2,h6⟩))).elim
       ·rename_i a1 a2;exact ((Vn i2 j2 x a2 h6).2.2.2 id ((hF x).2 (.inr ⟨i1,j1,hi1,hj1,h5⟩))).elim
       ·exact hdj i1 j1 i2 j2 x hi1 hj1 hi2 hj2 h5 h6)
     rw [hlen] at key
     exact key)
   exact MI (yE q2 hr0) (hnx _ _ _ _ A hd _ hk g1 hw2 (hf.eZ λz u h=>hm2 z u (hm1 z u h)) (.pure _ _ .und))
 ·exact hk.elim
theorem yG {c:Call} {x:Operand} {t ty:TypeId} {dst:Option Tmp} {pos:String} {af:Array Edge} {g:Option (Nat×Bool)} (hc:c.callee= .builtin .clear) (ha:c.args.toList=[x]) (ht:c.argTypes.toList=[t]) {v:Value}
  (h:(Builtin.clear_ #[t] ty #[a.eval x]).run P w= .ok v w'):(execOp a.eval ⟨dst,.call c,ty,pos,af,g⟩).run P w= .ok (.value v) w':=by
 obtain ⟨ce,as',ts⟩:=c;cases hc;have ha':as'=#[x]:=by rw [←dg (xs:=as')];rw [show as'.toList=[x] from ha]
 have ht':ts=#[t]:=by rw [←dg (xs:=ts)];rw [show ts.toList=[t] from ht]
 subst ha' ht';show (Builtin.clear_ #[t] ty _ >>= _).run P w=_;rw [show (#[x]:Array Operand).map a.eval=#[a.eval x] from by simp,aE,h];rfl
theorem J9 {α:Type} {l:List α} {i:Nat} {x:α} (h:l[i]? =some x):l.set i x=l:=by
 refine cC λj=>?_;rw [bh];split
 ·rename_i e;subst e;rw [if_pos (aa.1 h).1,h]
 ·rfl
theorem Rl [St] (hL:L.ty=bR P) (hw:CW W w A s.os hd F) (hf:FR w A s.os hd s.fr a) {dst ty pos af g} {c:Call} {x:Operand} {t e:TypeId} {id:Nat} {lo hi:Int} {es:List (List AV)} {K:AV->AS->Prop} (hc:c.callee= .builtin .clear) (ha:c.args.toList=[x]) (ht:c.argTypes.toList=[t])
  (hd0:(L.ty t).d= .slice e) (hz:(L.ty e).zero≠[]) (hzn:(L.ty e).zero.length=(L.ty e).n) (hzo:zok (L.ty e).zero=true) (hx:s.get x= .vs id lo hi) (ho:s.os[id]? =some (.row (L.ty e).n es))
  (hk:(bG np P).clr es lo hi ((L.ty e).zero.map Z.av) λes'=>K .any ⟨s.fr,s.os.set id (.row (L.ty e).n es')⟩):iy P W w s a ⟨dst,.call c,ty,pos,af,g⟩ K:=by
 intro next Q hnx
 have hk:K .any ⟨s.fr,s.os.set id (.row (L.ty e).n (es.take lo.toNat++(List.replicate (hi - lo).toNat ((L.ty e).zero.map Z.av)++es.drop hi.toNat)))⟩:=hk;have h1:=hf.get x;rw [hx] at h1;obtain ⟨e1,e2,e3,p,cap,e4,e5,e6,_⟩:=h1.tH ho;obtain ⟨i,z,h2,h3,h4,h5,h6⟩:=jO hL hz;by_cases hlt:lo<hi
 ·obtain ⟨b,n,c0,q1,q2⟩:=e6 hlt;subst q2;generalize hkn:(L.ty e).n=k at*;have hzs:z.cells.size=k:=by rw [h4] at hzn;simpa using hzn
  have hk0:0<k:=by rw [←hzn];exact fh.2 hz
  have hrow:=hw.rows id k es ho;rw [q1] at hrow;generalize hhd:Value.slice (some ⟨b,0,none⟩) n c0=hv at hrow
  cases hrow with
  |pure _ _ _ h ho hF=>simp [AV.dF] at ho
  |nil=>simp at e3;omega
  | sl _ _ aiy b0 T cs _ G hb hl hcap hsz hke h1c hr hF h00 hdj=>
   cases hhd;generalize hm:(hi - lo).toNat=m at*;(have hlo:hi.toNat=lo.toNat+m:=by omega);(have aje:lo.toNat+m<=es.length:=by omega);let zs:List Value:=(Builtin.zeroCells z.cells m).toList
   have hzl:zs.length=m*k:=by simp [zs,Builtin.zeroCells,hzs]
   have ae3:∀q,q<m*k->zs.getD q undef=z.cells.getD (q % k) undef:=λq hq=>by
    (have hq':q<(Builtin.zeroCells z.cells m).size:=by simp [Builtin.zeroCells,hzs];exact hq);rw [ad];simp only [zs,bd];rw [cj hq'];simp only [Builtin.zeroCells,Array.getElem_map,Array.getElem_range,bp,hzs];exact qz _ _ (by rw [hzs];exact f8 _ hk0)
   have hzj:∀j,j<k->∃zj,(L.ty e).zero[j]? =some zj/\zj=Z.of (z.cells.getD j undef)/\zj≠ .other:=λj hj=>by
    (have hj':j<z.cells.size:=by omega);refine ⟨Z.of (z.cells.getD j undef),?_,rfl,?_⟩
    ·rw [h4,ai,bd];simp [Array.getD,hj']
    ·refine TW hzo (i:=j) ?_;rw [h4,ai,bd];simp [Array.getD,hj']
   have hone:∀u∈zs,u.oneCell'=true:=λu hu=>by
    obtain ⟨q,hq⟩:=ap hu;(have hq':q<m*k:=by rw [←hzl];exact (aa.1 hq).1);(have:u=zs.getD q undef:=by rw [ad,hq];rfl);rw [this,ae3 q hq'];obtain ⟨zj,_,g2,g3⟩:=hzj (q % k) (f8 _ hk0);exact (Z.EL (w:=w) (A:=A) (G:=λ_=>False) (g2 ▸ g3) (λ_ h=>h)).2
   have hfit:lo.toNat*k+zs.length<=cs.size:=by
    rw [hzl,←bz];exact cE (bc k (by omega)) hsz
   have hr0:=run_storeCells_at P b (lo.toNat*k) T zs 0 cs w hb (by simpa using hfit) hone;simp only [em] at hr0;let here:Nat->Prop:=λi'=>lo.toNat<=i'/\i'<lo.toNat+m
   have pos:∀i' j',j'<k->(here i'↔(lo.toNat*k<=i'*k+j'/\i'*k+j'<lo.toNat*k+zs.length)):=λi' j' hj'=>by
    rw [hzl,←bz];constructor
    ·rintro ⟨g1,g2⟩;have g3:lo.toNat*k<=i'*k:=bc k g1;have g4:(i'+1)*k<=(lo.toNat+m)*k:=bc k g2;rw [bz] at g4;omega
    ·rintro ⟨g1,g2⟩;constructor
     ·apply aw;intro g3;have:(i'+1)*k<=lo.toNat*k:=bc k (by omega);rw [bz] at this;omega
     ·apply aw;intro g3;have:(lo.toNat+m)*k<=i'*k:=bc k (by omega);omega
   have dec:∀i',Decidable (here i'):=λi'=>inferInstanceAs (Decidable (_/\_));let G2:Nat->Nat->Nat->Prop:=λi' j'=>if here i' then (λ_=>False) else G i' j'
   have hcell:∀i' j',j'<k->(bM cs (lo.toNat*k) zs).getD (i'*k+j') undef=if here i' then z.cells.getD j' undef else cs.getD (i'*k+j') undef:=λi' j' hj'=>by
    rw [eY hfit];have hp:=pos i' j' hj';by_cases hh:here i'
    ·rw [if_pos hh];obtain ⟨g1,g2⟩:=hp.1 hh;rw [if_neg (by omega),if_pos g2,ae3 _ (by rw [hzl] at g2;omega)];congr 1;(have:i'*k+j' - lo.toNat*k=(i' - lo.toNat)*k+j':=by rw [Nat.sub_mul];have:=bc k hh.1;omega);rw [this,fx,Nat.mul_add_mod,dp hj']
    ·rw [if_neg hh];split
     ·rfl
     ·split
      ·rename_i g1 g2;exact (hh (hp.2 ⟨by omega,g2⟩)).elim
      ·rfl
   have hkp:=fU (w:=w) (c':=bM cs (lo.toNat*k) zs) (F id) ((hF b).2 (.inl rfl))
   have hkb:∀x,x≠b->(w.setRow b (bM cs (lo.toNat*k) zs)).heap[x]? =w.heap[x]?:=λx hx=>by
    simp [World.setRow,ef,cI hx]
   have hsub:∀i' j' x,G2 i' j' x->G i' j' x/\¬here i':=λi' j' x hx=>by
    simp only [G2] at hx;split at hx
    ·exact hx.elim
    ·exact ⟨hx,by assumption⟩
   have hlen:(es.take lo.toNat++(List.replicate m ((L.ty e).zero.map Z.av)++es.drop hi.toNat)).length=es.length:=by simp;omega
   have hget:∀i',i'<es.length->(es.take lo.toNat++(List.replicate m ((L.ty e).zero.map Z.av)++es.drop hi.toNat))[i']? =if here i' then some ((L.ty e).zero.map Z.av) else es[i']?:=λi' hi'=>by
    (have htl:(es.take lo.toNat).length=lo.toNat:=by simp;omega);by_cases g1:i'<lo.toNat
    ·rw [br (by omega),be,if_pos g1,if_neg (λh=>by have:=h.1;omega)]
    ·rw [cX (by omega),htl];by_cases g2:i'<lo.toNat+m
     ·rw [br (by simp;omega),eh,if_pos (by omega),if_pos ⟨by omega,g2⟩]
     ·rw [cX (by simp;omega),eI,bv,if_neg (λh=>by have:=h.2;omega)];congr 1;omega
   obtain ⟨hw2,hm2⟩:=hw.Ko (es':=es.take lo.toNat++(List.replicate m ((L.ty e).zero.map Z.av)++es.drop hi.toNat)) ho hlen.symm hkp (G':=λx=>x=b∨∃i' j',i'<es.length/\j'<k/\G2 i' j' x) (λx hx=>by
     rcases hx with rfl|⟨i',j',hi',hj',hx⟩
     ·exact .inl ((hF x).2 (.inl rfl))
     ·exact .inl ((hF x).2 (.inr ⟨i',j',hi',hj',(hsub _ _ _ hx).1⟩))) (by
     rw [q1]
     have key:=bB.sl (w:=w.setRow b (bM cs (lo.toNat*k) zs)) (A:=A) k _ c0 b T (bM cs (lo.toNat*k) zs) (λx=>x=b∨∃i' j',i'<es.length/\j'<k/\G2 i' j' x) G2 (setRow_heap w b cs _ T _ hb)
      (by rw [hlen];exact hl) (by rw [hlen];exact hcap) (by rw [dK hfit];exact hsz) (λe' he'=>by
       obtain ⟨i',g1⟩:=ap he';have g2:=(aa.1 g1).1;rw [hlen] at g2;rw [hget i' g2] at g1;split at g1
       ·cases g1;rw [al,hzn]
       ·exact hke e' (ae g1)) (λi' j' hi' hj'=>by
       rw [hlen] at hi';rw [hcell i' j' hj'];split
       ·obtain ⟨zj,_,g2,g3⟩:=hzj j' hj';exact (Z.EL (w:=w) (A:=A) (G:=λ_=>False) (g2 ▸ g3) (λ_ h=>h)).2
       ·exact h1c i' j' hi' hj') (λi' j' e' x he' hx=>by
       have hi':=(aa.1 he').1;rw [hlen] at hi';rw [hget i' hi'] at he';by_cases hh:here i'
       ·rw [if_pos hh] at he';cases he';have hj':=(aa.1 hx).1;rw [al,hzn] at hj';rw [hcell i' j' hj',if_pos hh];obtain ⟨zj,g1,g2,g3⟩:=hzj j' hj';rw [ai,g1] at hx;cases hx;rw [g2];exact (Z.EL (g2 ▸ g3) (λ_ h=>h)).1.congr (λy=>by simp only [G2];rw [if_pos hh])
       ·rw [if_neg hh] at he';have hj':=(aa.1 hx).1;rw [hke e' (ae he')] at hj';rw [hcell i' j' hj',if_neg hh];refine ((hr i' j' e' x he' hx).mono (λ_ h=>h) (λy hy=>hkb y ?_)).congr (λy=>by simp only [G2];rw [if_neg hh]);rcases hy with hy|hy
        ·rintro rfl;exact (hw.hA y hy).2 id ((hF y).2 (.inl rfl))
        ·rintro rfl;exact h00 i' j' hi' hj' hy) (λx=>by rw [hlen]) (λi' j' hi' hj' h5=>by rw [hlen] at hi';exact h00 i' j' hi' hj' (hsub _ _ _ h5).1) (λi1 j1 i2 j2 x hi1 hj1 hi2 hj2 g1 g2=>by
       rw [hlen] at hi1 hi2
       exact hdj i1 j1 i2 j2 x hi1 hj1 hi2 hj2 (hsub _ _ _ g1).1 (hsub _ _ _ g2).1)
     rw [hlen] at key
     exact key)
   refine dX (yG hc ha ht (v:= .tuple #[]) ?_) (hnx _ _ _ _ A hd _ hk rfl hw2 (hf.eZ λz u h=>hm2 z u h) (.pure _ _ (.any _)));rw [e4];(obtain ⟨m',hm'⟩:∃m',m=m'+1:=⟨m - 1,by omega⟩);have hr1:(storeCells ⟨b,lo.toNat*k,none⟩ (Builtin.zeroCells z.cells m).toList).run P w= .ok () (w.setRow b (bM cs (lo.toNat*k) zs)):=hr0;subst hm';simp [Builtin.clear_,run_underlying (gI hL hd0),zeroValue,typeInfo,h2,h3,hr1]
 ·have e0:hi - lo=0:=by omega
  have hes:es.take lo.toNat++(List.replicate (hi - lo).toNat ((L.ty e).zero.map Z.av)++es.drop hi.toNat)=es:=by
   rw [e0,show hi.toNat=lo.toNat by omega];simp
  rw [hes,J9 ho] at hk;refine dX (yG hc ha ht (v:= .tuple #[]) (w':=w) ?_) (hnx _ s _ _ A hd F hk rfl hw hf (.pure _ _ (.any _)));rw [e4,e0];cases p<;>simp [Builtin.clear_,run_underlying (gI hL hd0)]
theorem CW.acR [St] (hw:CW W w A os hd F) {id k lo m b n c0:Nat} {es fs:List (List AV)} {zs:List Value} (ho:os[id]? =some (.row k es)) (q1:hd id= .slice (some ⟨b,0,none⟩) n c0) (hk0:0<k) (hm:fs.length=m) (aje:lo+m<=es.length) (hzl:zs.length=m*k) (hfl:∀e∈fs,e.length=k)
  (hone:∀u∈zs,u.oneCell'=true) (hrel:∀(w':World) (i j:Nat) e x,fs[i]? =some e->e[j]? =some x->bB w' A x (zs.getD (i*k+j) undef) (λ_=>False)):
  ∃ cs T,w.heap[b]? =some (.cells cs T (0,0))/\lo*k+zs.length<=cs.size/\es.length<=c0/\
   ∃F',CW W (w.setRow b (bM cs (lo*k) zs)) A (os.set id (.row k (es.take lo++(fs++es.drop (lo+m))))) hd F'/\∀y u,aU w A os hd y u->aU (w.setRow b (bM cs (lo*k) zs)) A (os.set id (.row k (es.take lo++(fs++es.drop (lo+m))))) hd y u:=by
 have hrow:=hw.rows id k es ho;rw [q1] at hrow;generalize hhd:Value.slice (some ⟨b,0,none⟩) n c0=hv at hrow
 cases hrow with
 |pure _ _ _ h ho hF=>simp [AV.dF] at ho
 |nil=>cases hhd
 | sl _ _ aiy b0 T cs _ G hb hl hcap hsz hke h1c hr hF h00 hdj=>
  cases hhd
  have hfit:lo*k+zs.length<=cs.size:=by
   rw [hzl,←bz];exact cE (bc k (by omega)) hsz
  let here:Nat->Prop:=λi'=>lo<=i'/\i'<lo+m
  have pos:∀i' j',j'<k->(here i'↔(lo*k<=i'*k+j'/\i'*k+j'<lo*k+zs.length)):=λi' j' hj'=>by
   rw [hzl,←bz];constructor
   ·rintro ⟨g1,g2⟩;have g3:lo*k<=i'*k:=bc k g1;have g4:(i'+1)*k<=(lo+m)*k:=bc k g2;rw [bz] at g4;omega
   ·rintro ⟨g1,g2⟩;constructor
    ·apply aw;intro g3;have:(i'+1)*k<=lo*k:=bc k (by omega);rw [bz] at this;omega
    ·apply aw;intro g3;have:(lo+m)*k<=i'*k:=bc k (by omega);omega
  have dec:∀i',Decidable (here i'):=λi'=>inferInstanceAs (Decidable (_/\_));let G2:Nat->Nat->Nat->Prop:=λi' j'=>if here i' then (λ_=>False) else G i' j'
  have hcell:∀i' j',j'<k->(bM cs (lo*k) zs).getD (i'*k+j') undef=if here i' then zs.getD ((i' - lo)*k+j') undef else cs.getD (i'*k+j') undef:=λi' j' hj'=>by
   rw [eY hfit];have hp:=pos i' j' hj';by_cases hh:here i'
   ·rw [if_pos hh];obtain ⟨g1,g2⟩:=hp.1 hh;rw [if_neg (by omega),if_pos g2];congr 1;rw [Nat.sub_mul];have:=bc k hh.1;omega
   ·rw [if_neg hh];split
    ·rfl
    ·split
     ·rename_i g1 g2;exact (hh (hp.2 ⟨by omega,g2⟩)).elim
     ·rfl
  have hkp:=fU (w:=w) (c':=bM cs (lo*k) zs) (F id) ((hF b).2 (.inl rfl))
  have hkb:∀x,x≠b->(w.setRow b (bM cs (lo*k) zs)).heap[x]? =w.heap[x]?:=λx hx=>by
   simp [World.setRow,ef,cI hx]
  have hsub:∀i' j' x,G2 i' j' x->G i' j' x/\¬here i':=λi' j' x hx=>by
   simp only [G2] at hx;split at hx
   ·exact hx.elim
   ·exact ⟨hx,by assumption⟩
  have hlen:(es.take lo++(fs++es.drop (lo+m))).length=es.length:=by simp;omega
  have hget:∀i',i'<es.length->(es.take lo++(fs++es.drop (lo+m)))[i']? =if here i' then fs[i' - lo]? else es[i']?:=λi' hi'=>by
   (have htl:(es.take lo).length=lo:=by simp;omega);by_cases g1:i'<lo
   ·rw [br (by omega),be,if_pos g1,if_neg (λh=>by have:=h.1;omega)]
   ·rw [cX (by omega),htl];by_cases g2:i'<lo+m
    ·rw [br (by omega),if_pos ⟨by omega,g2⟩]
    ·rw [cX (by omega),hm,bv,if_neg (λh=>by have:=h.2;omega)];congr 1;omega
  obtain ⟨hw2,hm2⟩:=hw.Ko (es':=es.take lo++(fs++es.drop (lo+m))) ho hlen.symm hkp (G':=λx=>x=b∨∃i' j',i'<es.length/\j'<k/\G2 i' j' x) (λx hx=>by
    rcases hx with rfl|⟨i',j',hi',hj',hx⟩
    ·exact .inl ((hF x).2 (.inl rfl))
    ·exact .inl ((hF x).2 (.inr ⟨i',j',hi',hj',(hsub _ _ _ hx).1⟩))) (by
    rw [q1]
    have key:=bB.sl (w:=w.setRow b (bM cs (lo*k) zs)) (A:=A) k (es.take lo++(fs++es.drop (lo+m))) c0 b T (bM cs (lo*k) zs) (λx=>x=b∨∃i' j',i'<es.length/\j'<k/\G2 i' j' x) G2 (setRow_heap w b cs _ T _ hb)
     (by rw [hlen];exact hl) (by rw [hlen];exact hcap) (by rw [dK hfit];exact hsz) (λe' he'=>by
      rcases ca.1 he' with h|h
      ·exact hke e' (dd h)
      ·rcases ca.1 h with h|h
       ·exact hfl e' h
       ·exact hke e' (du h)) (λi' j' hi' hj'=>by
      rw [hlen] at hi';rw [hcell i' j' hj'];split
      ·rename_i hh;have g1:=hh.1;have g2:=hh.2
       have g3:(i' - lo)*k+j'<zs.length:=by
        rw [hzl];have:(i' - lo+1)*k<=m*k:=bc k (by omega);rw [bz] at this;omega
       refine hone _ ?_;rw [ad,ag g3];exact er _
      ·exact h1c i' j' hi' hj') (λi' j' e' x he' hx=>by
      have hi':=(aa.1 he').1;rw [hlen] at hi';rw [hget i' hi'] at he';by_cases hh:here i'
      ·rw [if_pos hh] at he';have hj':=(aa.1 hx).1;rw [hfl e' (ae he')] at hj';rw [hcell i' j' hj',if_pos hh];exact (hrel _ _ _ _ _ he' hx).congr (λy=>by simp only [G2];rw [if_pos hh])
      ·rw [if_neg hh] at he';have hj':=(aa.1 hx).1;rw [hke e' (ae he')] at hj';rw [hcell i' j' hj',if_neg hh];refine ((hr i' j' e' x he' hx).mono (λ_ h=>h) (λy hy=>hkb y ?_)).congr (λy=>by simp only [G2];rw [if_neg hh]);rcases hy with hy|hy
       ·rintro rfl;exact (hw.hA y hy).2 id ((hF y).2 (.inl rfl))
       ·rintro rfl;exact h00 i' j' hi' hj' hy) (λx=>by rw [hlen]) (λi' j' hi' hj' h5=>by rw [hlen] at hi';exact h00 i' j' hi' hj' (hsub _ _ _ h5).1) (λi1 j1 i2 j2 x hi1 hj1 hi2 hj2 g1 g2=>by
      rw [hlen] at hi1 hi2
      exact hdj i1 j1 i2 j2 x hi1 hj1 hi2 hj2 (hsub _ _ _ g1).1 (hsub _ _ _ g2).1)
    rw [hlen] at key
    exact key)
  exact ⟨cs,T,hb,hfit,hcap,_,hw2,hm2⟩
theorem bB.mX {A:Nat->Prop} {x v} {G:Nat->Prop} (h:bB w A x v G) (hx:x.mX=true):Rel w A x v:=by
 cases h with
 |pure _ _ _ h _ _=>exact h
 |nil=>simp [AV.mX] at hx
 |sl=>simp [AV.mX] at hx
 |bx=>simp [AV.mX] at hx
 |agg=>simp [AV.mX] at hx
 |tup=>simp [AV.mX] at hx
theorem Rel.aa8 {w w':World} {A A':Nat->Prop} {x v} (h:Rel w A x v) (hx:x.mX=true):Rel w' A' x v:=by
 cases h with
 |int k n=>exact .int k n
 |bool b=>exact .bool b
 |str s h=>exact .str s h
 |hd x v h1 h2=>cases x<;>first|exact .hd _ _ h1 (.any _)|simp [AV.mX] at hx
 |_=>simp [AV.mX] at hx
theorem Rel.agE {A':Nat->Prop} {x v} (h:Rel w A x v) (hx:x.mX=true):Rel w A' x v:=h.aa8 hx
theorem PU {x:AV} (hx:x.mX=true):x.dF=false:=by
 cases x<;>simp_all [AV.mX,AV.dF]
theorem Wy [St] (hL:L.ty=bR P) (hw:CW W w A s.os hd F) (hf:FR w A s.os hd s.fr a) {dst ty pos af g} {c:Call} {x y:Operand} {t e:TypeId} {id:Nat} {hi lo' hi':Int} {es:List (List AV)} {K:AV->AS->Prop} (hc:c.callee= .builtin .append) (ha:c.args.toList=[x,y]) (ht:c.argTypes.toList=[t,t])
  (hd0:(L.ty t).d= .slice e) (hd1:(L.ty e).d≠ .other) (hz:(L.ty e).zero≠[]) (hn0:(L.ty e).n≠0) (hx:s.get x= .vs id 0 hi) (hy:s.get y= .vs id lo' hi') (ho:s.os[id]? =some (.row (L.ty e).n es))
  (hk:(bG np P).mv es hi lo' hi' λes' m=>K (.vs id 0 m) ⟨s.fr,s.os.set id (.row (L.ty e).n es')⟩):iy P W w s a ⟨dst,.call c,ty,pos,af,g⟩ K:=by
 intro next Q hnx
 obtain ⟨hle,ahS,hk⟩:=hk;have h1:=hf.get x;have h2:=hf.get y;rw [hx] at h1;rw [hy] at h2;obtain ⟨_,a2,a3,p,cap,a4,a5,a6,a7⟩:=h1.tH ho;obtain ⟨b1,b2,b3,p',cap',b4,b5,b6,_⟩:=h2.tH ho;obtain ⟨nv,a8⟩:=a7 rfl;have hts:=gI hL hd0;have hso:∀w,(sizeOf e).run P w= .ok (L.ty e).n w:=λw=>run_sizeOf hL hd1;obtain ⟨i,z,g1,g2,g3,g4,g5⟩:=jO hL hz;by_cases hlt:lo'<hi'
 ·obtain ⟨b,n,c0,q1,q2⟩:=b6 hlt;rw [a8] at q1;cases q1;subst q2;generalize hkn:(L.ty e).n=k at*;have hk0:0<k:=by omega
  obtain ⟨m,hmm⟩:∃m,m=(hi' - lo').toNat:=⟨_,rfl⟩
  have hrow:=hw.rows id k es ho;rw [a8] at hrow;generalize hhd:Value.slice (some ⟨b,0,none⟩) nv cap=hv at hrow
  cases hrow with
  |pure _ _ _ h ho hF=>simp [AV.dF] at ho
  |nil=>cases hhd
  | sl _ _ aiy b0 T cs _ G hb hl hcap hsz hke h1c hr hF h00 hdj=>
   cases hhd;have ahP:((es.take hi'.toNat).drop lo'.toNat).length=m:=by simp;omega
   have ajk:∀i',i'<m->((es.take hi'.toNat).drop lo'.toNat)[i']? =es[lo'.toNat+i']?:=λi' hi2=>by
    rw [bv,be,if_pos (by omega)]
   (obtain ⟨zs,hzs⟩:∃zs:List Value,zs=(List.range (m*k)).map λq=>cs.getD (lo'.toNat*k+q) undef:=⟨_,rfl⟩);(have hzl:zs.length=m*k:=by rw [hzs];simp);have hidx:∀q,q<m*k->q / k<m/\q % k<k/\q / k*k+q % k=q:=λq hq=>⟨(mA hk0).2 hq,f8 _ hk0,by rw [fx];exact mi q k⟩
   have hzg:∀q,q<m*k->zs[q]? =some (cs.getD (lo'.toNat*k+q) undef):=λq hq=>by
    rw [hzs,ai,cM hq];rfl
   have hin:lo'.toNat*k+m*k<=cs.size:=by
    rw [←bz];exact cE (bc k (by omega)) hsz
   have hone:∀u∈zs,u.oneCell'=true:=λu hu=>by
    obtain ⟨q,hq⟩:=ap hu;(have hq':q<m*k:=by rw [←hzl];exact (aa.1 hq).1);rw [hzg q hq'] at hq;cases hq;obtain ⟨r1,r2,r3⟩:=hidx q hq';have:=h1c (lo'.toNat+q / k) (q % k) (by omega) r2;rwa [bz,fN,r3] at this
   have hnews:∀j u,zs[j]? =some u->w.cell? ((⟨b,lo'.toNat*k,none⟩:Addr).add j)=some u:=λj u hu=>by
    (have hq':j<m*k:=by rw [←hzl];exact (aa.1 hu).1);rw [hzg j hq'] at hu;cases hu;rw [addr_add];(have:lo'.toNat*k+j<cs.size:=by omega);simp [World.cell?,hb,Array.getD,this]
   have hrel:∀(w':World) (i j:Nat) e x,((es.take hi'.toNat).drop lo'.toNat)[i]? =some e->e[j]? =some x->bB w' A x (zs.getD (i*k+j) undef) (λ_=>False):=λw' i' j' e' x' he hx'=>by
    (have hi2:i'<m:=by rw [←ahP];exact (aa.1 he).1);have ad5:=ahS e' (ae he) x' (ae hx');rw [ajk i' hi2] at he
    have hj2:j'<k:=by
     have:=(aa.1 hx').1;rwa [hke e' (ae he)] at this
    have h5:=hr (lo'.toNat+i') j' e' x' he hx'
    have hq:i'*k+j'<m*k:=by
     have:(i'+1)*k<=m*k:=bc k hi2;rw [bz] at this;omega
    have e5:zs.getD (i'*k+j') undef=cs.getD ((lo'.toNat+i')*k+j') undef:=by
     rw [ad,hzg _ hq,bz,fN];rfl
    rw [e5];have h6:=(h5.mX ad5).agE (A':=A) ad5
    have h7:Rel w' A x' (cs.getD ((lo'.toNat+i')*k+j') undef):=by
     generalize cs.getD ((lo'.toNat+i')*k+j') undef=u0 at h6 ⊢;exact h6.aa8 ad5
    exact .pure _ _ _ h7 (PU ad5) (λ_ h=>h)
   obtain ⟨cs',T',r1,r2,r3,F',r4,r5⟩:=hw.acR (lo:=hi.toNat) ho a8 hk0 ahP (by omega) hzl (λe' he=>hke e' (dd (du he))) hone hrel;rw [hb] at r1;cases r1;(have hi4:i.size=k:=by omega);have hrun:=run_append_room' (P:=P) (w:=w) (ty:=ty) i hts g1 b hi.toNat cap cs hb ⟨b,lo'.toNat*k,none⟩ m cap' zs (by rw [hi4];exact hzl) hnews hone (by omega) (by rw [hi4];exact r2);rw [hi4] at hrun;(have e7:(hi+(hi' - lo')).toNat=hi.toNat+m:=by omega);rw [e7] at hk;refine dX (j4 hc ha ht (v:= .slice (some ⟨b,0,none⟩) (hi.toNat+m) cap) ?_) (hnx _ _ _ _ A hd F' hk rfl r4 (hf.eZ λz u h=>r5 z u h) (.vs _ _ _ _ (by simpa using h1.Ua) λk' es' h'=>?_))
   ·rw [a4,b4];(have e8:(hi - 0).toNat=hi.toNat:=by omega);rw [e8,←hmm];exact hrun
   ·have hlen:=h1.Ua;rw [bh,if_pos rfl,if_pos hlen] at h';cases h';(have hll:(es.take hi.toNat++((es.take hi'.toNat).drop lo'.toNat++es.drop (hi.toNat+m))).length=es.length:=by simp;omega);rw [hll];refine ⟨jn _,by omega,by omega,some ⟨b,0,none⟩,cap,?_,by omega,λ_=>⟨b,_,_,a8,by simp⟩,λ_=>⟨_,a8⟩⟩;congr 1;omega
 ·have e0:hi'=lo':=by omega
  subst e0
  have hes:es.take hi.toNat++((es.take hi'.toNat).drop hi'.toNat++es.drop (hi+(hi' - hi')).toNat)=es:=by
   rw [df (by simp;omega),show (hi+(hi' - hi')).toNat=hi.toNat by omega];simp
  rw [hes,J9 ho,show hi+(hi' - hi')=hi by omega] at hk;refine dX (v:=a.eval x) (w':=w) (j4 hc ha ht ?_) (hnx _ s _ _ A hd F hk rfl hw hf h1);rw [a4,b4,show (hi' - hi').toNat=0 by omega];exact ku hts hso p _ cap (by omega) p' cap'
theorem Zb [St] (hL:L.ty=bR P) (hw:CW W w A s.os hd F) (hf:FR w A s.os hd s.fr a) {dst ty pos af g} {c:Call} {x y:Operand} {t e:TypeId} {K:AV->AS->Prop} (hc:c.callee= .builtin .append) (ha:c.args.toList=[x,y]) (ht:c.argTypes.toList=[t,t])
  (hd0:(L.ty t).d= .slice e) (hd1:(L.ty e).d≠ .other) (hz:(L.ty e).zero≠[]) (hzn:(L.ty e).zero.length=(L.ty e).n) (hn0:(L.ty e).n≠0)
  (hk:s.app (bG np P) (L.ty e).n (L.ty e).bytes (s.get x) (s.get y) K):iy P W w s a ⟨dst,.call c,ty,pos,af,g⟩ K:=by
 by_cases hv:(∃id z hi,s.get x= .vs id z hi)/\∃id z hi,s.get y= .vs id z hi
 ·obtain ⟨⟨id,z,hi,hx⟩,id',lo',hi',hy⟩:=hv;rw [hx,hy] at hk;simp only [AS.app] at hk;split at hk
  ·rename_i k' es ho;split at hk
   ·rename_i hh;obtain ⟨⟨rfl,rfl⟩,rfl⟩:=hh;exact Wy hL hw hf hc ha ht hd0 hd1 hz hn0 hx hy ho hk
   ·exact hk.elim
  ·exact hk.elim
 ·exact step_append hL hw hf hc ha ht hd0 hd1 hz hzn hn0 (λh=>hv h) hk
end
end Go.Proofs.YtnlhnideeaobpaaGreatDoor
