/- What an operation asks for is one value. -/
import Derived.Test.YtnlhnideeaobpaaGreatDoorAxD
import Derived.Orders
namespace Go.Proofs.YtnlhnideeaobpaaGreatDoor
set_option linter.unusedVariables false
set_option linter.unusedSimpArgs false
open Go Go.RowKit
section
variable {P:Program} {np:Nat} {L:Lay} {W:WM} {w w':World} {A:Nat->Prop} {os os':List Obj} {hd hd':Nat->Value} {F F':Nat->Nat->Prop} {s:AS} {a:Act}
theorem kZ {t:TypeId} {cs:List AV} {K:AV->Prop} (hk:gH L t cs K):∃x,K x/\gH L t cs (·=x):=by
 unfold gH at hk ⊢;generalize (L.ty t).d=d at hk ⊢;generalize (L.ty t).agg=g at hk ⊢;cases g
 ·cases d<;>cases cs<;>first|exact hk.elim|exact ⟨_,hk,rfl⟩
 ·cases d<;>simp only at hk ⊢ <;>first|exact hk.elim|(split at hk<;>first|exact hk.elim|(rename_i h;exact ⟨_,hk,by simp only [h,if_true]⟩))
theorem YE [St] {op:BinOp} {t:TypeId} {x y:AV} {K:AV->Prop} (hk:Hz (bG np P) L op t x y K):∃x',K x'/\Hz (bG np P) L op t x y (·=x'):=by
 unfold Hz at hk;split at hk
 ·rename_i k n k' m;simp only [Hz];split at hk
  ·exact ⟨_,hk.2,hk.1,rfl⟩
  rename_i hop;split at hk
  ·rename_i e;subst e;simp only [if_true];unfold MF at hk ⊢;cases op<;>first|exact (hop rfl).elim|skip
   all_goals first|exact hk.elim|exact ⟨_,hk,rfl⟩|exact ⟨_,hk.2,hk.1,rfl⟩
  ·exact hk.elim
 ·simp only [Hz];unfold MC at hk ⊢;cases op<;>first|exact hk.elim|exact ⟨_,hk,rfl⟩|exact ⟨_,hk.2,hk.1,rfl⟩
 ·simp only [Hz];generalize (L.ty t).d=d at hk ⊢;cases d<;>cases op<;>first|exact hk.elim|exact ⟨_,hk,rfl⟩
 ·simp only [Hz];split at hk
  ·rename_i ps hps;exact ⟨_,hk,rfl⟩
  ·rename_i ps hps;exact ⟨_,hk,rfl⟩
  ·exact hk.elim
 ·exact hk.elim
theorem YA [St] (hw:CW W w A s.os hd F) {op:Op} (hx:∀y∈op.operands,aU w A s.os hd (s.get y) (a.eval y)) {K:AV->Prop} (hk:eT (bG np P) L s op K):∃x,K x/\eT (bG np P) L s op (·=x):=by
 cases op
 case move x=>exact ⟨_,hk,rfl⟩
 case assign x=>exact ⟨_,hk,rfl⟩
 case binOp=>exact YE hk
 case pick c x y=>
  simp only [eT] at hk ⊢;split at hk
  ·rename_i b e;split at hk
   ·rename_i hb;exact ⟨_,hk,by simp only [hb,if_true]⟩
   ·rename_i hb;exact ⟨_,hk,by rw [if_neg hb]⟩
  ·exact hk.elim
 case unOp o t x=>
  cases o<;>simp only [eT] at hk ⊢ <;>first|exact hk.elim|(split at hk<;>first|exact hk.elim|exact ⟨_,hk,rfl⟩)
 case nilCheck x=>
  simp only [eT] at hk ⊢;split at hk
  ·exact ⟨_,hk,rfl⟩
  ·split at hk
   ·rename_i e;exact ⟨_,hk,rfl⟩
   ·exact hk.elim
  ·split at hk
   ·rename_i e;exact ⟨_,hk,rfl⟩
   ·exact hk.elim
  ·exact hk.elim
 case load t x=>
  simp only [eT] at hk ⊢;split at hk
  ·exact kZ hk
  ·split at hk
   ·exact kZ hk
   ·exact hk.elim
  ·split at hk
   ·rename_i e;obtain ⟨h0,r,hr,hk⟩:=hk;split at hk
    ·rename_i hfl;obtain ⟨x',h1,h2⟩:=kZ hk;exact ⟨x',h1,⟨h0,r,hr,by simp only [hfl,if_true];exact h2⟩⟩
    ·exact hk.elim
   ·exact hk.elim
  ·exact hk.elim
 case fieldAddr t x f=>
  simp only [eT] at hk ⊢;split at hk
  ·rename_i h1 h2;exact ⟨_,hk,by simp only⟩
  ·split at hk
   ·rename_i e;exact ⟨_,hk,rfl⟩
   ·exact hk.elim
  ·split at hk
   ·rename_i e;exact ⟨_,hk,rfl⟩
   ·exact hk.elim
  ·exact hk.elim
 case field t x f=>
  simp only [eT] at hk ⊢;split at hk
  ·exact kZ hk
  ·exact hk.elim
 case indexAddr t x ix=>
  simp only [eT] at hk ⊢;split at hk
  ·split at hk
   ·rename_i e;obtain ⟨h0,r,hr,hk⟩:=hk;exact ⟨_,hk,by simp only [e,if_true];exact ⟨h0,r,hr,rfl⟩⟩
   ·exact hk.elim
  ·split at hk
   ·rename_i e;split at hk
    ·rename_i e2;obtain ⟨h0,r,hr,hk⟩:=hk;exact ⟨_,hk,by rw [if_pos e2];exact ⟨h0,r,hr,rfl⟩⟩
    ·exact hk.elim
   ·exact hk.elim
  ·split at hk
   ·rename_i e;split at hk
    ·rename_i e2;obtain ⟨hn,hk⟩:=hk;exact ⟨_,hk,by rw [if_pos e2];exact ⟨hn,rfl⟩⟩
    ·exact hk.elim
   ·exact hk.elim
  ·split at hk
   ·split at hk
    ·rename_i e2;exact ⟨_,hk,by rw [if_pos e2]⟩
    ·exact hk.elim
   ·exact hk.elim
  ·exact hk.elim
 case index t x ix=>
  simp only [eT] at hk ⊢;split at hk
  ·split at hk
   ·rename_i e;obtain ⟨h0,hr,hk⟩:=hk;exact ⟨_,hk,by simp only [e,if_true];exact ⟨h0,hr,rfl⟩⟩
   ·exact hk.elim
  ·split at hk
   ·rename_i len e hd';obtain ⟨h0,r,hr,hk⟩:=hk;obtain ⟨x',g1,g2⟩:=kZ hk;exact ⟨x',g1,⟨h0,r,hr,g2⟩⟩
   ·exact hk.elim
  ·exact hk.elim
 case extract x i=>
  simp only [eT] at hk ⊢;split at hk
  ·split at hk
   ·rename_i e;exact ⟨_,hk,rfl⟩
   ·exact hk.elim
  ·exact hk.elim
 case convert src dst x=>
  simp only [eT] at hk ⊢;split at hk
  ·exact ⟨_,hk,rfl⟩
  ·split at hk
   ·rename_i hu;obtain ⟨ns,h1,h2⟩:=hk;exact ⟨_,h2,by rw [if_pos hu];exact ⟨ns,h1,rfl⟩⟩
   ·exact hk.elim
  ·split at hk
   ·rename_i ho;split at hk
    ·rename_i hu;obtain ⟨ns,h1,h2⟩:=hk;exact ⟨_,h2,by rw [if_pos hu];exact ⟨ns,h1,rfl⟩⟩
    ·exact hk.elim
   ·exact hk.elim
  ·exact hk.elim
 case makeFunc f first captured=>
  cases f<;>simp only [eT] at hk ⊢ <;>first|exact hk.elim|(split at hk<;>first|exact hk.elim|exact ⟨_,hk,rfl⟩|(split at hk<;>first|exact hk.elim|(split at hk<;>first|exact hk.elim|exact ⟨_,hk,by simp only [*]⟩)))
 case slice t x lo hi mx=>
  cases mx with
  | some m=>
   simp only [eT] at hk ⊢;split at hk
   ·rename_i g1 g2 g3 g4;split at hk
    ·rename_i e;split at hk
     ·rename_i e2;obtain ⟨h0,h1,h2,h0',h1',h2',hk⟩:=hk;exact ⟨_,hk,by rw [if_pos e2];exact ⟨h0,h1,h2,h0',h1',h2',rfl⟩⟩
     ·exact hk.elim
    ·exact hk.elim
   ·exact hk.elim
  | none=>
   simp only [eT] at hk ⊢;split at hk
   ·split at hk
    ·rename_i e;obtain ⟨h0,h1,h2,hk⟩:=hk;exact ⟨_,hk,by simp only [e,if_true];exact ⟨h0,h1,h2,rfl⟩⟩
    ·exact hk.elim
   ·split at hk
    ·rename_i e;obtain ⟨h0,h1,h2,hk⟩:=hk;exact ⟨_,hk,by simp only [e,if_true];exact ⟨h0,h1,h2,rfl⟩⟩
    ·exact hk.elim
   ·split at hk
    ·rename_i e;split at hk
     ·rename_i e2;obtain ⟨h0,h1,h2,hk⟩:=hk;exact ⟨_,hk,by rw [if_pos e2];exact ⟨h0,h1,h2,rfl⟩⟩
     ·exact hk.elim
    ·exact hk.elim
   ·split at hk
    ·rename_i e;split at hk
     ·rename_i e2;obtain ⟨h0,h1,h2,hk⟩:=hk;exact ⟨_,hk,by rw [if_pos e2];exact ⟨h0,h1,h2,rfl⟩⟩
     ·exact hk.elim
    ·exact hk.elim
   ·split at hk
    ·rename_i e;split at hk
     ·rename_i e2;have hb:=(hw.rP e).jY.choose_spec.choose_spec.2.1;obtain ⟨h0,h1,h2,hk⟩:=hk hb;exact ⟨_,hk,by simp only [e2,if_true];exact λ_=>⟨h0,h1,h2,rfl⟩⟩
     ·exact hk.elim
    ·exact hk.elim
   ·split at hk
    ·rename_i e;split at hk
     ·rename_i ez;split at hk
      ·rename_i e2;obtain ⟨h0,h1,h2,hk⟩:=hk;exact ⟨_,hk,by rw [if_pos ez,if_pos e2];exact ⟨h0,h1,h2,rfl⟩⟩
      ·exact hk.elim
     ·exact hk.elim
    ·exact hk.elim
   ·exact hk.elim
 case call c=>
  simp only [eT] at hk ⊢;split at hk
  ·split at hk
   ·rename_i x t hxs hts
    have hm:aU w A s.os hd (s.get x) (a.eval x):=hx x (by
     simp only [Op.operands,Call.operands];have:x∈c.args:=by rw [←cJ,hxs];simp
     simp [this])
    split at hk
    ·rename_i e;rw [e] at hm;have hb:=hm.lW.jY.choose_spec.choose_spec.2.1;exact ⟨_,hk hb,λ_=>rfl⟩
    ·exact ⟨_,hk,rfl⟩
    ·split at hk
     ·rename_i e;have hb:=(hw.rP e).jY.choose_spec.choose_spec.2.1;exact ⟨_,hk hb,by exact λ_=>rfl⟩
     ·exact hk.elim
    ·split at hk
     ·rename_i e;exact ⟨_,hk,rfl⟩
     ·exact hk.elim
    ·rename_i e;rw [e] at hm;exact ⟨_,hk hm.kT.2,λ_=>rfl⟩
    ·exact hk.elim
   ·exact hk.elim
  ·split at hk
   ·rename_i hxs;split at hk
    ·exact ⟨_,hk,rfl⟩
    ·exact hk.elim
   ·exact hk.elim
  ·split at hk
   ·rename_i hxs;split at hk
    ·exact ⟨_,hk,rfl⟩
    ·exact hk.elim
   ·exact hk.elim
  ·exact hk.elim
 all_goals exact hk.elim
end
section
variable {P:Program} {np:Nat} {L:Lay} {W:WM} {w w':World} {A:Nat->Prop} {os os':List Obj} {hd hd':Nat->Value} {F F':Nat->Nat->Prop} {s:AS} {a:Act}
theorem FR.to {A':Nat->Prop} {fr:List AV} (h:FR w A os hd fr a) (hm:∀y u,aU w A os hd y u->aU w' A' os' hd' y u):FR w' A' os' hd' fr a:=
 ⟨h.qN,h.size,λt x hx=>hm _ _ (h.slots t x hx)⟩
def Ran [St] (W:WM) (w:World) (A:Nat->Prop) (s:AS) (hd:Nat->Value) (F:Nat->Nat->Prop) (x:AV) (v:Value) (w':World) (A':Nat->Prop):Prop:=
 Keeps (λ_=>False) w w'/\CW W w' A' s.os hd F/\((∀b,A b->A' b)/\∀b,A' b->A b∨w.heap.size<=b)/\aU w' A' s.os hd x v
theorem zI [St] (hw:CW W w A s.os hd F) {x:AV} {v:Value} {G:Nat->Prop} (h1:Keeps (λ_=>False) w w') (h2:bB w' (λ_=>False) x v G) (h3:∀b,G b->w.heap.size<=b/\b<w'.heap.size):
  Ran W w A s hd F x v w' (λb=>A b∨G b):=
 ⟨h1,(hw.keep h1).grow (λy hy=>⟨(h3 y hy).2,λid h=>by have:=(hw.fsz id y h).2;have:=(h3 y hy).1;omega⟩) (λy hy=>cE hw.below.size (h3 y hy).1),⟨λ_ h=> .inl h,λb h=>h.imp (λh=>h) λh=>(h3 b h).1⟩,.pure _ _ (h2.rel (λ_ h=>h.elim) (λ_ h=> .inr h))⟩
theorem u7 {l:List AV} (h:AV.jv l=true) {i:Nat} {x:AV} (hx:l[i]? =some x):x.isPure=true:=by
 induction l generalizing i with
 |nil=>simp at hx
 | cons y l ih=>
  unfold AV.jv at h;split at h
  ·cases i with
   |zero=>simp at hx;subst hx;assumption
   |succ i=>simp at hx;exact ih h hx
  ·cases h
theorem aU.ac9 {x:AV} {v:Value} (h:aU w A os hd x v) (hx:x.isPure=true):Rel w A x v:=by
 cases x<;>first|exact h.dN trivial|cases hx
theorem Iu [St] (hL:L.ty=bR P) (hw:CW W w A s.os hd F) {o:Oper} (hx:∀y∈o.op.operands,aU w A s.os hd (s.get y) (a.eval y)) {x:AV} (hk:BF L s o.op=some x):
  ∃v w' A',(execOp a.eval o).run P w= .ok (.value v) w'/\Ran W w A s hd F x v w' A':=by
 obtain ⟨dst,op,ty,pos,af,g⟩:=o;cases op
 case build t parts=>
  simp only [BF] at hk;split at hk
  ·cases hk
  ·rename_i fs z hd0 hz;split at hk
   ·rename_i cs hkn hcs;cases hk;obtain ⟨v,h1,h2⟩:=zM (dst:=dst) (ty:=ty) (pos:=pos) (af:=af) (g:=g) hL hw hd0 (by intro e;simp_all) hkn hcs (λp hp=>hx _ (by simp only [Op.operands];exact l3.2 (cA.2 ⟨p,hp,rfl⟩)));exact ⟨v,w,A,h1,Keeps.refl _ _,hw,⟨λ_ h=>h,λ_ h=> .inl h⟩,h2⟩
   ·cases hk
  ·rename_i len e hd0 hz;split at hk
   ·cases hk
   ·rename_i cs hcs hne;cases hk;obtain ⟨v,h1,h2⟩:=CR (dst:=dst) (ty:=ty) (pos:=pos) (af:=af) (g:=g) hL hw hd0 (by intro e;simp_all) (by intro e;simp_all) hcs (λp hp=>hx _ (by simp only [Op.operands];exact l3.2 (cA.2 ⟨p,hp,rfl⟩)));exact ⟨v,w,A,h1,Keeps.refl _ _,hw,⟨λ_ h=>h,λ_ h=> .inl h⟩,h2⟩
   ·cases hk
  ·cases hk
 case buildSlice t len parts=>
  simp only [BF] at hk;split at hk
  ·rename_i e hd0;split at hk
   ·cases hk
   ·cases hk
   ·rename_i z hne hz;split at hk
    ·rename_i hh;split at hk
     ·rename_i cs hcs;split at hk
      ·rename_i hp;cases hk;obtain ⟨c,e2,FQ,e3,hn0,hr0⟩:=CQ (dst:=dst) (ty:=ty) (pos:=pos) (af:=af) (g:=g) hL hw hd0 (by intro e;simp_all) (by intro e;simp_all) hh.1 hh.2 hcs (λp hp=>hx _ (by simp only [Op.operands];exact l3.2 (cA.2 ⟨p,hp,rfl⟩)));generalize hkn:(L.ty e).n=n at*;have hkp:=Keeps.alloc w c e;have hes:(rowsOf n len cs).length=len:=qj _ _ _
       have idx:∀i j,i<len->j<n->i*n+j<len*n:=λi j hi hj=>by
        have:(i+1)*n<=len*n:=bc n hi;rw [bz] at this;omega
       have hA':∀y,A y->(w.alloc (.cells c e)).heap[y]? =w.heap[y]?:=λy hy=>hkp.block y (hw.hA y hy).1 (λh=>h);refine ⟨_,_,λb=>A b∨b=w.heap.size,hr0,hkp,(hw.keep hkp).grow (λy hy=>?_) (λy hy=>by subst hy;exact hw.below.size),⟨λ_ h=> .inl h,λb h=>h.imp (λh=>h) λh=>by omega⟩,.pure _ _ ?_⟩
       ·subst hy;exact ⟨by simp,λid h=>fR _ (hw.fsz id _ h).2⟩
       ·have key:=Rel.sl (w:=w.alloc (.cells c e)) (A:=λb=>A b∨b=w.heap.size) false n (rowsOf n len cs) (some ⟨w.heap.size,0,none⟩) len w.heap.size 0 (λi j=>c.getD (i*n+j) undef)
         (by rw [hes];have:=me len hn0;unfold maxLen;omega) (by rw [hes];exact aq _) (λ_=>⟨rfl,.inr rfl⟩) (λr hr=>by
          obtain ⟨i,hi⟩:=ap hr;have hi':=(aa.1 hi).1;rw [hes] at hi';rw [oN _ _ _ _ _ hi,ba,ct,FQ];have:=idx i (n - 1) hi' (by omega)
          omega) (λi j hi hj=>by
          rw [hes] at hi;(have h5:i*n+j<c.size:=by rw [e2,FQ];exact idx i j hi hj);have h6:(w.alloc (.cells c e)).heap[w.heap.size]? =some (.cells c e (0,0)):=heap_alloc_new w _;rw [bw];simp only [World.cell?,h6]
          simp [h5]) (λi j hi hj=>by
          rw [hes] at hi;(have h5:i*n+j<cs.length:=by rw [FQ];exact idx i j hi hj);refine uq (s:=s) ?_ (e3 _ _ (ag h5)) hw.Kt;have:=u7 hp (ag h5);generalize cs[i*n+j]=q at this
          cases q<;>first|rfl|cases this) (λi j r y hr hy=>by
          rw [oN _ _ _ _ _ hr,be] at hy;split at hy
          ·rw [bv] at hy;exact ((e3 _ _ hy).ac9 (u7 hp hy)).mono hA' (λ_ h=> .inl h)
          ·cases hy)
        rw [hes] at key;exact key
      ·cases hk
     ·cases hk
    ·cases hk
  ·cases hk
 all_goals (simp only [BF] at hk;cases hk)
theorem uZ [St] (hL:L.ty=bR P) (hw:CW W w A s.os hd F) {o:Oper} (hx:∀y∈o.op.operands,aU w A s.os hd (s.get y) (a.eval y)) {x:AV} (hk:jc (bG np P) L s o (·=x)) {next:Act->World->Prop} {Q:Exit->Act->World->Prop}
  (hn:∀v w' A',Ran W w A s hd F x v w' A'->next (a.put o.dst v) w'):o.wp P a w next Q:=by
 obtain ⟨dst,op,ty,pos,af,g⟩:=o
 have val:eT (bG np P) L s op (·=x)->Oper.wp P ⟨dst,op,ty,pos,af,g⟩ a w next Q:=λh=>by
  obtain ⟨y,v,h1,h2,h3⟩:=kM (dst:=dst) (ty:=ty) (pos:=pos) (af:=af) (g:=g) hL hw hx h;subst h1;exact dX h3 (hn v w A ⟨Keeps.refl _ _,hw,⟨λ_ h=>h,λ_ h=> .inl h⟩,h2⟩)
 unfold jc at hk;split at hk
 ·rename_i c ho;simp only at ho;subst ho;split at hk
  ·split at hk
   ·rename_i fZ;split at hk
    ·obtain ⟨r,vs,hr,⟨fo,h1,h2⟩,h3,h4⟩:=rA hw (λy hy=>hx y hy) fZ hk;subst hr;exact j3 (oM h1 h2 h3) (R:=λv w'=>∃G,Keeps (λ_=>False) w w'/\bB w' (λ_=>False) r v G/\∀b,G b->w.heap.size<=b/\b<w'.heap.size) (h4.mono λe w' ⟨v,G,g1,g2⟩=>⟨v,g1,G,g2⟩) λv w' ⟨G,g1,g2,g3⟩=>hn v w' _ (zI hw g1 g2 g3)
    ·exact hk.elim
   ·split at hk
    ·rename_i fZ;obtain ⟨r,vs,hr,⟨fo,h1,h2⟩,h3,h4⟩:=sP hw (λy hy=>hx y hy) fZ hk;subst hr;exact j3 (Ao h1 h2 h3) (R:=λv w'=>∃G,Keeps (λ_=>False) w w'/\bB w' (λ_=>False) r v G/\∀b,G b->w.heap.size<=b/\b<w'.heap.size) (h4.mono λe w' ⟨v,G,g1,g2⟩=>⟨v,g1,G,g2⟩) λv w' ⟨G,g1,g2,g3⟩=>hn v w' _ (zI hw g1 g2 g3)
    ·exact hk.elim
  ·exact val hk
 ·rename_i t ho;simp only at ho;subst ho;split at hk
  ·exact hk.elim
  ·rename_i z zs hz;replace hk:AV.any=x:=hk;subst hk;obtain ⟨i,zv,h1,h2,_⟩:=jO hL (t:=t) (by rw [hz];simp);have hkp:=Keeps.alloc w zv.cells t;refine dX (v:= .pointer (some ⟨w.heap.size,0,none⟩)) (w':=w.alloc (.cells zv.cells t)) ?_ (hn _ _ A ⟨hkp,hw.keep hkp,⟨λ_ h=>h,λ_ h=> .inl h⟩,.pure _ _ (.any _)⟩);simp [execOp,Instr.alloc,zeroValue,typeInfo,h1,h2,newVar,newRow,go_sem]
 ·split at hk
  ·split at hk
   ·rename_i y hy;subst hk;obtain ⟨v,w',A',h1,h2⟩:=Iu (o:=⟨dst,op,ty,pos,af,g⟩) hL hw hx hy;exact dX h1 (hn v w' A' h2)
   ·exact hk.elim
  ·exact val hk
theorem Ql {f:FuncId} {vs:Array Value} {R:Ending->World->Prop} (h:Calls P f vs w R):∃e w',R e w':=
 let ⟨e,w',_,h,_⟩:=h []
 ⟨e,w',h⟩
def Pk {α:Type} (T:(α->Prop)->Prop) (K:α->Prop):Prop:=∃x,K x/\∀K':α->Prop,K' x->T K'
theorem Pk.mono {α β:Type} {T:(α->Prop)->Prop} {U:(β->Prop)->Prop} {K:α->Prop} {K₂:β->Prop} (h:Pk T K) (hk:∀x,K x->(∀K':α->Prop,K' x->T K')->Pk U K₂):Pk U K₂:=
 let ⟨x,h1,h2⟩:=h
 hk x h1 h2
theorem Kw [St] {x:AV} {K:AV->Prop} (hk:s.r1 (bG np P) x K):Pk (s.r1 (bG np P) x) K:=by
 unfold AS.r1 at hk;split at hk
 ·split at hk
  ·rename_i e;exact ⟨_,hk,λK' h=>by simp only [AS.r1,e];exact h⟩
  ·exact hk.elim
 ·split at hk
  ·rename_i e;obtain ⟨h0,h1,h2,hk⟩:=hk;exact ⟨_,hk,λK' h=>by simp only [AS.r1,e];exact ⟨h0,h1,h2,h⟩⟩
  ·exact hk.elim
 all_goals first|exact hk.elim|exact ⟨_,hk,λK' h=>h⟩
theorem DC [St]:∀(l:List AV) (K:List AV->Prop),s.rL (bG np P) l K->Pk (s.rL (bG np P) l) K
 |[],K,hk=>⟨[],hk,λ_ h=>h⟩
 | x::l,K,hk=>by
  unfold AS.rL at hk;obtain ⟨x',h1,h2⟩:=Kw hk;obtain ⟨l',h3,h4⟩:=DC l _ h1;exact ⟨_,h3,λK' h=>h2 _ (h4 _ h)⟩
theorem Kv [St]:∀(l:List AV) (K:List AV->Prop),s.rC (bG np P) l K->Pk (s.rC (bG np P) l) K
 |[],K,hk=>⟨[],hk,λ_ h=>h⟩
 | x ::l,K,hk=>by
  unfold AS.rC at hk;split at hk
  ·cases ‹_::_=[]›
  ·rename_i id off l' K0 e0;cases e0;split at hk
   ·rename_i e;obtain ⟨x',h1,h2⟩:=DC _ _ hk;obtain ⟨l',h3,h4⟩:=Kv l _ h1;exact ⟨_,h3,λK' h=>by simp only [AS.rC,e];exact h2 _ (h4 _ h)⟩
   ·exact hk.elim
  ·rename_i hne e0;cases e0;obtain ⟨x',h1,h2⟩:=Kw hk;obtain ⟨l',h3,h4⟩:=Kv l _ h1;refine ⟨_,h3,λK' h=>?_⟩;unfold AS.rC;split
   ·cases ‹_::_=[]›
   ·rename_i e1;cases e1;exact absurd rfl (hne _ _)
   ·rename_i e1;cases e1;exact h2 _ (h4 _ h)
theorem Zz [St] {x:AV} {K:AV->Prop} (hk:s.res (bG np P) x K):Pk (s.res (bG np P) x) K:=by
 cases x
 case agg cs=>obtain ⟨l,h1,h2⟩:=DC _ _ hk;exact ⟨_,h1,λK' h=>h2 _ h⟩
 case fn f cs=>obtain ⟨l,h1,h2⟩:=Kv _ _ hk;exact ⟨_,h1,λK' h=>h2 _ h⟩
 case pb id off=>
  simp only [AS.res] at hk;split at hk
  ·rename_i e;obtain ⟨l,h1,h2⟩:=DC _ _ hk;exact ⟨_,h1,λK' h=>by simp only [AS.res,e];exact h2 _ h⟩
  ·exact hk.elim
 case pe id i j=>
  simp only [AS.res] at hk;split at hk
  ·rename_i e;obtain ⟨h0,r,hr,hk⟩:=hk;exact ⟨_,hk,λK' h=>by simp only [AS.res,e];exact ⟨h0,r,hr,h⟩⟩
  ·exact hk.elim
 all_goals (simp only [AS.res] at hk;obtain ⟨y,h1,h2⟩:=Kw hk;exact ⟨y,h1,λK' h=>h2 K' h⟩)
theorem Ap [St]:∀(l:List AV) (K:List AV->Prop),s.tu (bG np P) l K->Pk (s.tu (bG np P) l) K
 |[],K,hk=>⟨[],hk,λ_ h=>h⟩
 | x::l,K,hk=>by
  unfold AS.tu at hk;obtain ⟨x',h1,h2⟩:=Zz hk;obtain ⟨l',h3,h4⟩:=Ap l _ h1;exact ⟨_,h3,λK' h=>h2 _ (h4 _ h)⟩
theorem TT [St] (hL:L.ty=bR P) (hw:CW W w A s.os hd F) {o:Oper} (hx:∀y∈o.op.operands,aU w A s.os hd (s.get y) (a.eval y)) {K:AV->Prop} (hk:jc (bG np P) L s o K):
  ∃x,K x/\jc (bG np P) L s o (·=x)/\∃v w' A',Ran W w A s hd F x v w' A':=by
 obtain ⟨dst,op,ty,pos,af,g⟩:=o
 have val:eT (bG np P) L s op K->∃x,K x/\eT (bG np P) L s op (·=x)/\∃v w' A',Ran W w A s hd F x v w' A':=λh=>by
  obtain ⟨x,h1,h2⟩:=YA hw hx h;obtain ⟨y,v,h4,h5,h6⟩:=kM (dst:=dst) (ty:=ty) (pos:=pos) (af:=af) (g:=g) hL hw hx h2;subst h4;exact ⟨_,h1,h2,v,w,A,Keeps.refl _ _,hw,⟨λ_ h=>h,λ_ h=> .inl h⟩,h5⟩
 have gen:∀c:Call,op= .call c->∀f0,c.callee= .value f0->∃x,K x/\jc (bG np P) L s ⟨dst,op,ty,pos,af,g⟩ (·=x)/\∃v w' A',Ran W w A s hd F x v w' A':=λc ho f0 hce=>by
  subst ho;simp only [jc,hce] at hk;split at hk
  ·rename_i f caps fZ;split at hk
   ·rename_i hmu;obtain ⟨args,⟨r,hac,hkr⟩,hT⟩:=Ap _ _ hk;have hk2:s.tu (bG np P) (c.args.toList.map s.get++caps) λargs=>(bG np P).call f args (·=r):=hT _ ⟨r,hac,rfl⟩;refine ⟨r,hkr,by simp only [jc,hce,fZ,hmu];exact hk2,?_⟩;obtain ⟨r',vs,hr,_,_,h4⟩:=rA hw (λy hy=>hx y hy) fZ hk2;subst hr;obtain ⟨e,w',v,G,_,g1,g2,g3⟩:=Ql h4;exact ⟨v,w',_,zI hw g1 g2 g3⟩
   ·exact hk.elim
  ·rename_i hno;split at hk
   ·rename_i f cs fZ;obtain ⟨args,⟨r,hac,hkr⟩,hT⟩:=Ap _ _ hk;have hk2:s.tu (bG np P) (c.args.toList.map s.get) λargs=>(bG np P).call f (.agg cs::args) (·=r):=hT _ ⟨r,hac,rfl⟩;refine ⟨r,hkr,by simp only [jc,hce,hno,fZ];exact hk2,?_⟩;obtain ⟨r',vs,hr,_,_,h4⟩:=sP hw (λy hy=>hx y hy) fZ hk2;subst hr;obtain ⟨e,w',v,G,_,g1,g2,g3⟩:=Ql h4;exact ⟨v,w',_,zI hw g1 g2 g3⟩
   ·exact hk.elim
 by_cases hc:∃c f0,op= .call c/\c.callee= .value f0
 ·obtain ⟨c,f0,h1,h2⟩:=hc;exact gen c h1 f0 h2
 by_cases ha:∃t,op= .alloc t
 ·obtain ⟨t,rfl⟩:=ha
  have e:∀K',jc (bG np P) L s ⟨dst,.alloc t,ty,pos,af,g⟩ K'=match (L.ty t).zero with
   |[]=>False
   |_::_=>K' .any:=λK'=>rfl
  rw [e] at hk;split at hk
  ·exact hk.elim
  ·rename_i z zs hz;obtain ⟨i,zv,h1,h2,_⟩:=jO hL (t:=t) (by rw [hz];simp);have hkp:=Keeps.alloc w zv.cells t;exact ⟨.any,hk,by rw [e,hz],.pointer none,w.alloc (.cells zv.cells t),A,hkp,hw.keep hkp,⟨λ_ h=>h,λ_ h=> .inl h⟩,.pure _ _ (.any _)⟩
 ·by_cases hb:DV op=true
  ·have e:∀K',jc (bG np P) L s ⟨dst,op,ty,pos,af,g⟩ K'=match BF L s op with
     |some v=>K' v
     |none=>False:=λK'=>by
    cases op<;>first|rfl|(simp [DV] at hb)
   rw [e] at hk;split at hk
   ·rename_i y hy;obtain ⟨v,w',A',h1,h2⟩:=Iu (o:=⟨dst,op,ty,pos,af,g⟩) hL hw hx hy;exact ⟨y,hk,by rw [e,hy],v,w',A',h2⟩
   ·exact hk.elim
  ·have e:∀K',jc (bG np P) L s ⟨dst,op,ty,pos,af,g⟩ K'=eT (bG np P) L s op K':=λK'=>by
    cases op
    case call c=>
     simp only [jc];split
     ·rename_i h;exact (hc ⟨_,_,rfl,h⟩).elim
     ·rfl
    case build=>exact (hb rfl).elim
    case buildSlice=>exact (hb rfl).elim
    case alloc t=>exact (ha ⟨_,rfl⟩).elim
    all_goals rfl
   rw [e] at hk;obtain ⟨x,h1,h2,h3⟩:=val hk;exact ⟨x,h1,by rw [e];exact h2,h3⟩
def Does [St] (np:Nat) (P:Program) (L:Lay) (ops:List Oper) (s:AS) (o:Oper) (x:AV):Prop:=match o.guard with
 |none=>jc (bG np P) L s o (·=x)
 | some (j,want)=>match s.yield ops j with
  |none=>False
  |some none=>x= .und
  |some (some b)=>if b=want then jc (bG np P) L s o (·=x) else x= .und
def Txt [St] (np:Nat) (P:Program) (L:Lay) (ops:List Oper):List Oper->AS->List AV->AS->Prop
 |[],s,xs,sf=>xs=[]/\sf=s
 |o::l,s,xs,sf=>∃x ys,xs=x::ys/\Does np P L ops s o x/\Txt np P L ops l (s.put o.dst x) ys sf
theorem rG [St] (hL:L.ty=bR P) {ops:List Oper} {K:AS->Prop}:∀(l:List Oper) (s:AS) (a:Act) (w:World) (A:Nat->Prop),CW W w A s.os hd F->FR w A s.os hd s.fr a->jr (bG np P) L true ops l s K->∃xs sf,Txt np P L ops l s xs sf/\K sf
 |[],s,a,w,A,_,_,hk=>⟨[],s,⟨rfl,rfl⟩,hk⟩
 | o ::rest,s,a,w,A,hw,hf,hk=>by
  have step:(jc (bG np P) L s o λv=>jr (bG np P) L true ops rest (s.put o.dst v) K)->∃x ys sf,jc (bG np P) L s o (·=x)/\Txt np P L ops rest (s.put o.dst x) ys sf/\K sf:=λh=>by
   obtain ⟨x,h1,h2,v,w',A',h3,h4,h5,h6⟩:=TT hL hw (λy _=>hf.get y) h
   obtain ⟨ys,sf,h7,h8⟩:=rG hL rest (s.put o.dst x) (a.put o.dst v) w' A' (by rw [AS.fQ];exact h4)
    (FR.put (s:=s) (hf.to λy u hy=>hy.mono (λb hb=>h3.block b (hw.hA b hb).1 (λh=>h)) h5.1) h6 o.dst) h1
   exact ⟨x,ys,sf,h2,h7,h8⟩
  have skip:jr (bG np P) L true ops rest (s.put o.dst .und) K->∃ys sf,Txt np P L ops rest (s.put o.dst .und) ys sf/\K sf:=λh=>
   rG hL rest (s.put o.dst .und) (a.put o.dst undef) w A (by rw [AS.fQ];exact hw) (hf.put .und o.dst) h
  unfold jr at hk;split at hk
  ·rename_i hg;obtain ⟨x,ys,sf,h1,h2,h3⟩:=step hk;exact ⟨_,sf,⟨x,ys,rfl,by simp only [Does,hg];exact h1,h2⟩,h3⟩
  ·rename_i j want hg;split at hk
   ·exact hk.elim
   ·rename_i hy;obtain ⟨ys,sf,h2,h3⟩:=skip hk;exact ⟨_,sf,⟨_,ys,rfl,by simp only [Does,hg,hy],h2⟩,h3⟩
   ·rename_i b hy;split at hk
    ·rename_i e;obtain ⟨x,ys,sf,h1,h2,h3⟩:=step hk;exact ⟨_,sf,⟨x,ys,rfl,by simp only [Does,hg,hy,e,if_true];exact h1,h2⟩,h3⟩
    ·rename_i e;obtain ⟨ys,sf,h2,h3⟩:=skip hk;exact ⟨_,sf,⟨_,ys,rfl,by simp only [Does,hg,hy,e,if_false],h2⟩,h3⟩
def xk (b:Bool) (d:Option Nat) (x:AV) (fr:List AV):List AV:=match b,d with
 |true,some d=>fr.set d x
 |_,_=>fr
def puts (lst:Nat->Bool):Nat->List Oper->List AV->List AV->List AV
 |i,o::l,x::xs,fr=>puts lst (i+1) l xs (xk (lst i) o.dst x fr)
 |_,_,_,fr=>fr
theorem NQ (b:Bool) (d:Option Nat) (x:AV) (fr:List AV):(xk b d x fr).length=fr.length:=by
 unfold xk;split<;>simp
theorem eB (lst:Nat->Bool):∀(l:List Oper) (i:Nat) (xs fr:List AV),(puts lst i l xs fr).length=fr.length
 |[],_,_,_=>by simp [puts]
 |_::_,_,[],_=>by simp [puts]
 |o::l,i,x::xs,fr=>by rw [puts,eB lst l,NQ]
theorem fP {lst lst':Nat->Bool} {t:Nat}:∀(l:List Oper) (i:Nat) (xs fr fr':List AV),(∀m o,l[m]? =some o->o.dst=some t->lst (i+m)=lst' (i+m))->fr[t]? =fr'[t]?->(puts lst i l xs fr)[t]? =(puts lst' i l xs fr')[t]?
 |[],_,_,_,_,_,h=>by simpa [puts] using h
 |_::_,_,[],_,_,_,h=>by simpa [puts] using h
 | o ::l,i,x::xs,fr,fr',hl,h=>by
  rw [puts,puts];refine fP l (i+1) xs _ _ (λm o' ho hd=>by have:=hl (m+1) o' (by simpa using ho) hd;rwa [show i+(m+1)=i+1+m by omega] at this) ?_;have h0:=hl 0 o rfl
  have hlen:t<fr.length↔t<fr'.length:=by
   rcases da t fr.length with h1|h1
   ·rw [ag h1] at h;exact ⟨λ_=>(aa.1 h.symm).1,λ_=>h1⟩
   ·rw [ar h1] at h;exact ⟨λh2=>by omega,λh2=>by have:=ii.1 h.symm;omega⟩
  cases hd:o.dst with
  |none=>cases lst i<;>cases lst' i<;>exact h
  | some d=>
   by_cases e:d=t
   ·subst e;rw [show lst i=lst' i from h0 hd];cases lst' i
    ·exact h
    ·simp only [xk,eK];rw [h]
   ·cases lst i<;>cases lst' i<;>simp [xk,cU e,h]
theorem kW {lst:Nat->Bool} {t:Nat} {x:AV}:∀(l:List Oper) (i:Nat) (xs fr:List AV) (m:Nat) (o:Oper),l[m]? =some o->o.dst=some t->xs[m]? =some x->lst (i+m)=true->(∀m' o',l[m']? =some o'->o'.dst=some t->m'=m)->t<fr.length->(puts lst i l xs fr)[t]? =some x
 |[],_,_,_,m,_,h,_,_,_,_,_=>by simp at h
 |_::_,_,[],_,m,_,_,_,h,_,_,_=>by simp at h
 | o ::l,i,y::xs,fr,m,o',h1,h2,h3,h4,h5,h6=>by
  rw [puts]
  cases m with
  | succ m=>
   exact kW l (i+1) xs _ m o' (by simpa using h1) h2 (by simpa using h3) (by rw [show i+1+m=i+(m+1) by omega];exact h4) (λm' o2 g1 g2=>by have:=h5 (m'+1) o2 (by simpa using g1) g2;omega) (by rw [NQ];exact h6)
  | zero=>
   simp at h1 h3 h4;subst h1 h3;have e1:=fP (lst:=lst) (lst':=λ_=>false) (t:=t) l (i+1) xs (xk (lst i) o.dst y fr) (xk (lst i) o.dst y fr) (λm' o2 g1 g2=>by have:=h5 (m'+1) o2 (by simpa using g1) g2;omega) rfl
   have e2:∀(l:List Oper) (i:Nat) (xs fr:List AV),puts (λ_=>false) i l xs fr=fr:=by
    intro l
    induction l with
    |nil=>intro i xs fr;simp [puts]
    |cons o l ih=>intro i xs fr;cases xs with|nil=>simp [puts]|cons x xs=>simp [puts,xk,ih]
   rw [e1,e2,h4,h2];simp [xk,h6]
theorem rH [St] {ops:List Oper}:∀(l:List Oper) (s:AS) (xs:List AV) (sf:AS),Txt np P L ops l s xs sf->∀i0,
  xs.length=l.length/\sf.os=s.os/\sf.fr=puts (λ_=>true) i0 l xs s.fr/\∀(m:Nat) o,l[m]? =some o->∃x,xs[m]? =some x/\Does np P L ops ⟨puts (λj=>decide (j<i0+m)) i0 l xs s.fr,s.os⟩ o x
 |[],s,xs,sf,⟨h1,h2⟩,i0=>by subst h1 h2;exact ⟨rfl,rfl,by simp [puts],λm o h=>by simp at h⟩
 | o ::l,s,xs,sf,⟨x,ys,h1,h2,h3⟩,i0=>by
  subst h1;obtain ⟨e1,e2,e3,e4⟩:=rH l _ ys sf h3 (i0+1);have pf:(s.put o.dst x).fr=xk true o.dst x s.fr:=by cases o.dst<;>rfl
  refine ⟨by simp [e1],by rw [e2,AS.fQ],by rw [e3,puts,pf],λm o' ho=>?_⟩
  cases m with
  | zero=>
   simp at ho;subst ho;refine ⟨x,rfl,?_⟩
   have e:puts (λj=>decide (j<i0+0)) i0 (o::l) (x::ys) s.fr=s.fr:=by
    have e2:∀(l:List Oper) (i:Nat) (xs fr:List AV),i0<=i->puts (λj=>decide (j<i0+0)) i l xs fr=fr:=by
     intro l
     induction l with
     |nil=>intro i xs fr _;simp [puts]
     |cons o l ih=>intro i xs fr hi;cases xs with|nil=>simp [puts]|cons x xs=>rw [puts,ih _ _ _ (by omega)];rw [show decide (i<i0+0)=false by simp;omega];cases o.dst<;>rfl
    exact e2 _ _ _ _ (aq _)
   rw [e];exact h2
  | succ m=>
   obtain ⟨y,g1,g2⟩:=e4 m o' (by simpa using ho);refine ⟨y,by simpa using g1,?_⟩;rw [puts,show decide (i0<i0+(m+1))=true by simp,←pf];rw [AS.fQ] at g2;rw [show (λj=>decide (j<i0+(m+1)))=λj=>decide (j<i0+1+m) by funext j;congr 1;rw [show i0+(m+1)=i0+1+m by omega]];exact g2
theorem fO (e:Edge):Region.binds .any e=bnd e:=by
 unfold Region.binds bnd;cases e.ground<;>rfl
theorem sH {j:Nat}:∀{l:List Edge},l8 j l=true->∃e∈l,bnd e=true/\e.on=j
 |[],h=>by simp [l8] at h
 | e::l,h=>by
  unfold l8 at h;split at h
  ·rename_i hb;split at h
   ·rename_i he;exact ⟨e,by simp,hb,he⟩
   ·obtain ⟨e',h1,h2⟩:=sH h;exact ⟨e',by simp [h1],h2⟩
  ·obtain ⟨e',h1,h2⟩:=sH h;exact ⟨e',by simp [h1],h2⟩
theorem lG {i:Nat}:∀{l:List Edge},nU i l=true->∀e∈l,bnd e=true->e.on<i
 |[],_,e,he,_=>by simp at he
 | e ::l,h,e',he,hb=>by
  unfold nU at h;rcases bk.1 he with rfl|he
  ·rw [hb] at h;simp only at h;split at h
   ·assumption
   ·cases h
  ·split at h
   ·split at h
    ·exact lG h e' he hb
    ·cases h
   ·exact lG h e' he hb
theorem BM {i t:Nat} {af:List Edge}:∀{l:List Oper} {j:Nat},nJ i t af j l=true->∀(m:Nat) o,l[m]? =some o->o.dst=some t->j+m<i/\l8 (j+m) af=true
 |[],_,_,m,o,h,_=>by simp at h
 | o :: l,j,h,m,o',ho,hd=>by
  unfold nJ at h
  cases m with
  | zero=>
   simp at ho;subst ho;rw [hd] at h;simp only [if_true] at h;split at h
   ·split at h
    ·rename_i h1 _ h2;exact ⟨h1,h2⟩
    ·cases h
   ·cases h
  | succ m=>
   have key:nJ i t af (j+1) l=true:=by
    split at h
    ·split at h
     ·split at h
      ·split at h
       ·exact h
       ·cases h
      ·cases h
     ·exact h
    ·exact h
   have:=BM key m o' (by simpa using ho) hd;rwa [show j+1+m=j+(m+1) by omega] at this
theorem yL {i:Nat} {af:List Edge} {ops:List Oper}:∀{l:List Nat},rR i af ops l=true->∀t∈l,nJ i t af 0 ops=true
 |[],_,t,h=>by simp at h
 | u::l,h,t,ht=>by
  unfold rR at h;split at h
  ·rename_i h1;rcases bk.1 ht with rfl|ht
   ·exact h1
   ·exact yL h t ht
  ·cases h
theorem wM {d:Nat}:∀{l:List Oper},j5 d l=true->∀o∈l,o.dst≠some d
 |[],_,o,h=>by simp at h
 | p ::l,h,o,ho=>by
  unfold j5 at h
  have key:j5 d l=true/\p.dst≠some d:=by
   split at h
   ·rename_i e hd;split at h
    ·cases h
    ·rename_i hne;exact ⟨h,by rw [hd];simpa using hne⟩
   ·rename_i hd;exact ⟨h,by rw [hd];simp⟩
  rcases bk.1 ho with rfl|ho
  ·exact key.2
  ·exact wM key.1 o ho
structure agZ (ops:List Oper) (i:Nat) (o:Oper):Prop where
 reads:∃ts,jC o.op=some ts/\∀t∈ts++dI ops o.guard,∀(m:Nat) o',ops[m]? =some o'->o'.dst=some t->m<i/\∃e∈o.after,bnd e=true/\e.on=m
 edges:∀e∈o.after,bnd e=true->e.on<i
theorem zm (m j:Nat):qU m j=m.testBit j:=by
 unfold qU Nat.testBit;rw [eW,Nat.one_and_eq_mod_two]
 cases h:(m / 2 ^ j) % 2 with
 |zero=>rfl
 | succ n=>
  have:(m / 2 ^ j) % 2<2:=f8 _ (by omega);have:n=0:=by omega
  subst this;rfl
theorem abM {o:Oper} {l:List Oper} (h:Bd o<1048576) (j:Nat):atD (mkD (o::l)) (j+1)=atD (mkD l) j:=by
 have e:mkD (o::l)=Bd o+1048576*mkD l:=rfl;unfold atD;rw [e,eW,eW,show 20*(j+1)=20+20*j by omega,Nat.pow_add,←Nat.div_div_eq_div_mul];rw [show (2:Nat) ^ 20=1048576 from rfl,show (Bd o+1048576*mkD l) / 1048576=mkD l by omega]
theorem abL {o:Oper} {l:List Oper} (h:Bd o<1048576):atD (mkD (o::l)) 0=Bd o:=by
 unfold atD mkD;simp only [Nat.mul_zero,Nat.shiftRight_zero];omega
theorem Gw:∀{ops:List Oper} (_:∀o∈ops,Bd o<1048576) (j:Nat),atD (mkD ops) j=match ops[j]? with
  |some o=>Bd o
  |none=>0
 |[],_,j=>by simp [atD,mkD,eW]
 |o::l,h,0=>by rw [abL (h o (by simp))];rfl
 | o::l,h,j+1=>by
  rw [abM (h o (by simp)),Gw (λo ho=>h o (by simp [ho])) j];rfl
theorem Oj {t:Nat}:∀{ops:List Oper},qU (mkW ops) t=false->∀o∈ops,o.dst≠some t
 |[],_,o,ho=>by simp at ho
 | p::l,h,o,ho=>by
  rw [zm] at h;unfold mkW at h;rw [kA,m4] at h;rcases bk.1 ho with rfl|ho
  ·intro e;rw [e] at h;have:=h.1;simp [mB] at this
  ·exact Oj (by rw [zm];exact h.2) o ho
theorem DZ {D W:Nat}:∀{l:List Oper} {i M:Nat},dOK D W i M l=true->(∀o∈l,Bd o<1048576)/\(∀o∈l,∀d,o.dst=some d->qU M d=false)/\∀(m m':Nat) o o' d,l[m]? =some o->l[m']? =some o'->o.dst=some d->o'.dst=some d->m=m'
 |[],_,_,_=>⟨λo h=>by simp at h,λo h=>by simp at h,λm m' o o' d h=>by simp at h⟩
 | o :: l, i,M,h=>by
  unfold dOK at h;split at h
  ·cases h
  ·split at h
   ·split at h
    ·rename_i hd;obtain ⟨g1,g2,g3⟩:=DZ h;refine ⟨λp hp=>?_,λp hp d hpd=>?_,λm m' p p' d hp hp' h1 h2=>?_⟩
     ·rcases bk.1 hp with rfl|hp
      ·simp [Bd,hd]
      ·exact g1 p hp
     ·rcases bk.1 hp with rfl|hp
      ·rw [hd] at hpd;cases hpd
      ·exact g2 p hp d hpd
     ·cases m with
      |zero=>simp at hp;subst hp;rw [hd] at h1;cases h1
      | succ m=>
       cases m' with
       |zero=>simp at hp';subst hp';rw [hd] at h2;cases h2
       |succ m'=>rw [g3 m m' p p' d (by simpa using hp) (by simpa using hp') h1 h2]
    ·rename_i d hd;split at h
     ·rename_i hlt;split at h
      ·cases h
      ·rename_i hb;obtain ⟨g1,g2,g3⟩:=DZ h
       have g2':∀p∈l,∀d',p.dst=some d'->qU M d'=false/\d'≠d:=λp hp d' hd'=>by
        have:=g2 p hp d' hd';rw [zm,kA,m4] at this;refine ⟨by rw [zm];exact this.1,λe=>?_⟩;subst e;simp [mB] at this
       refine ⟨λp hp=>?_,λp hp d' hpd=>?_,λm m' p p' d' hp hp' h1 h2=>?_⟩
       ·rcases bk.1 hp with rfl|hp
        ·simp only [Bd,hd];exact Nat.succ_lt_succ hlt
        ·exact g1 p hp
       ·rcases bk.1 hp with rfl|hp
        ·rw [hd] at hpd;cases hpd;exact hb
        ·exact (g2' p hp d' hpd).1
       ·cases m with
        | zero=>
         simp at hp;subst hp
         cases m' with
         |zero=>rfl
         | succ m'=>
          rw [hd] at h1;cases h1;exact absurd rfl (g2' p' (ae (by simpa using hp')) _ h2).2
        | succ m=>
         cases m' with
         | zero=>
          simp at hp';subst hp';rw [hd] at h2;cases h2;exact absurd rfl (g2' p (ae (by simpa using hp)) _ h1).2
         |succ m'=>rw [g3 m m' p p' d' (by simpa using hp) (by simpa using hp') h1 h2]
     ·cases h
   ·cases h
theorem sM {D t i:Nat}:∀{af:List Edge},F7 D t i af=true->∃e∈af,bnd e=true/\e.on<i/\atD D e.on=t+1
 |[],h=>by cases h
 | e ::l,h=>by
  unfold F7 at h;split at h
  ·rename_i hb;split at h
   ·rename_i hi;split at h
    ·rename_i hd;exact ⟨e,by simp,hb,hi,hd⟩
    ·obtain ⟨e',h1,h2⟩:=sM h;exact ⟨e',by simp [h1],h2⟩
   ·obtain ⟨e',h1,h2⟩:=sM h;exact ⟨e',by simp [h1],h2⟩
  ·obtain ⟨e',h1,h2⟩:=sM h;exact ⟨e',by simp [h1],h2⟩
theorem uo {D W i:Nat} {af:List Edge}:∀{ts:List Nat},Eu D W i af ts=true->∀t∈ts,qU W t=false∨F7 D t i af=true
 |[],_,t,h=>by simp at h
 | u ::l,h,t,ht=>by
  unfold Eu at h;split at h
  ·rename_i hb;rcases bk.1 ht with rfl|ht
   ·exact .inl hb
   ·exact uo h t ht
  ·split at h
   ·rename_i hb;rcases bk.1 ht with rfl|ht
    ·exact .inr hb
    ·exact uo h t ht
   ·cases h
theorem FT {j:Nat}:∀{af:List Edge} {e:Edge},e∈af->bnd e=true->e.on=j->l8 j af=true
 |[],e,h,_,_=>by cases h
 | x ::l,e,h,hb,ho=>by
  unfold l8;rcases bk.1 h with rfl|h
  ·rw [hb];simp [ho]
  ·have:=FT h hb ho;split
   ·split
    ·rfl
    ·exact this
   ·exact this
theorem Ir {i t:Nat} {af:List Edge}:∀{l:List Oper} {j:Nat},(∀(m:Nat) o,l[m]? =some o->o.dst=some t->j+m<i/\l8 (j+m) af=true)->nJ i t af j l=true
 |[],_,_=>rfl
 | o ::l,j,h=>by
  have ih:nJ i t af (j+1) l=true:=Ir λm o' ho hd=>by
   have:=h (m+1) o' (by simpa using ho) hd;rwa [show j+(m+1)=j+1+m by omega] at this
  unfold nJ;split
  ·rename_i d hd;split
   ·rename_i e;subst e;obtain ⟨h1,h2⟩:=h 0 o rfl hd;rw [em] at h1 h2;rw [if_pos h1,h2];exact ih
   ·exact ih
  ·exact ih
theorem Ew {i:Nat} {af:List Edge} {ops:List Oper}:∀{ts:List Nat},(∀t∈ts,nJ i t af 0 ops=true)->rR i af ops ts=true
 |[],_=>rfl
 | t::l,h=>by
  unfold rR;rw [h t (by simp)];exact Ew λt ht=>h t (by simp [ht])
theorem BO {d:Nat}:∀{l:List Oper},(∀o∈l,o.dst≠some d)->j5 d l=true
 |[],_=>rfl
 | o::l,h=>by
  have ih:j5 d l=true:=BO λo ho=>h o (by simp [ho]);unfold j5;split
  ·rename_i e he;split
   ·rename_i e2;subst e2;exact absurd he (h o (by simp))
   ·exact ih
  ·exact ih
theorem LC {ops:List Oper} (h:DY ops=true):jS ops 0 ops=true:=by
 unfold DY at h;obtain ⟨g1,_,g3⟩:=DZ h
 have main :∀(l:List Oper) (i M:Nat),(∀(m:Nat) o,l[m]? =some o->ops[i+m]? =some o)->dOK (mkD ops) (mkW ops) i M l=true->jS ops i l=true:=by
  intro l
  induction l with
  |nil=>intro i M _ _;rfl
  | cons o l ih=>
   intro i M hl h;have hD:=DZ h;unfold dOK at h;unfold jS;split at h
   ·cases h
   ·rename_i ts hts;(try rw [hts]);(try simp only);split at h
    ·rename_i h1 h2
     have hrd:rR i o.after.toList ops (ts++dI ops o.guard)=true:=by
      refine Ew λt ht=>Ir λm p hp hpd=>?_;rw [bw]
      have ht':t∈ts++SF (mkD ops) o.guard:=by
       rcases ca.1 ht with h5|h5
       ·exact ca.2 (.inl h5)
       ·refine ca.2 (.inr ?_);unfold dI at h5;split at h5
        ·cases h5
        ·rename_i j b hg;split at h5
         ·rename_i q hq;split at h5
          ·rename_i d hd;rw [hg];simp only [SF];rw [Gw g1,hq];simp only [Bd,hd];exact h5
          ·cases h5
         ·cases h5
      rcases uo h1 t ht' with h5|h5
      ·exact absurd hpd (Oj h5 p (ae hp))
      ·obtain ⟨e,he,hb,hi,hd⟩:=sM h5;rw [Gw g1] at hd;split at hd
       ·rename_i q hq
        have hqd:q.dst=some t:=by
         unfold Bd at hd;split at hd
         ·rename_i d hd';have:d=t:=Nat.succ.inj hd;rw [hd',this]
         ·exact absurd hd (by simp)
        have:m=e.on:=g3 m e.on p q t hp hq hpd hqd;rw [this];exact ⟨hi,FT he hb rfl⟩
       ·exact absurd hd (by simp)
     rw [hrd,h2]
     have next:jS ops (i+1) l=true:=by
      have hl':∀(m:Nat) p,l[m]? =some p->ops[i+1+m]? =some p:=λm p hp=>by
       have:=hl (m+1) p (by simpa using hp);rwa [show i+(m+1)=i+1+m by omega] at this
      split at h
      ·exact ih _ _ hl' h
      ·split at h
       ·split at h
        ·cases h
        ·exact ih _ _ hl' h
       ·cases h
     have hnw:(match o.dst with
      |some d=>j5 d l
      |none=>true)=true:=by
      split
      ·rename_i d hd;refine BO λp hp hpd=>?_;obtain ⟨m,hm⟩:=ap hp;have:=hD.2.2 0 (m+1) o p d rfl (by simpa using hm) hd hpd;omega
      ·rfl
     have fin:∀b:Bool,b=true->(match true,true,b with
      |true,true,true=>jS ops (i+1) l
      |_,_,_=>false)=true:=λb hb=>by subst hb;exact next
     exact fin _ hnw
    ·cases h
 exact main ops 0 0 (λm o h=>by rw [bw];exact h) h
theorem jf {ops:List Oper}:∀{l:List Oper} {i:Nat},jS ops i l=true->(∀(m:Nat) o,l[m]? =some o->agZ ops (i+m) o)/\∀(m m':Nat) o o' d,l[m]? =some o->l[m']? =some o'->o.dst=some d->o'.dst=some d->m=m'
 |[],_,_=>⟨λm o h=>by simp at h,λm m' o o' d h=>by simp at h⟩
 | o :: l,i,h=>by
  unfold jS at h;split at h
  ·cases h
  ·rename_i ts hts;split at h
   ·rename_i h1 h2 h3;obtain ⟨g1,g2⟩:=jf h;refine ⟨λm o' ho=>?_,λm m' p p' d hp hp' hd hd'=>?_⟩
    ·cases m with
     | zero=>
      simp at ho;subst ho
      exact ⟨⟨ts,hts,λt ht m o' ho hd=>by
       obtain ⟨q1,q2⟩:=BM (yL h1 t ht) m o' ho hd;rw [bw] at q1 q2;obtain ⟨e,r1,r2⟩:=sH q2
       exact ⟨q1,e,cJ.1 r1,r2⟩⟩,λe he=>lG h2 e (cJ.2 he)⟩
     |succ m=>rw [show i+(m+1)=i+1+m by omega];exact g1 m o' (by simpa using ho)
    ·have nw:∀{d},o.dst=some d->∀o'∈l,o'.dst≠some d:=λ{d} hd o' ho'=>by
      rw [hd] at h3;exact wM h3 o' ho'
     cases m with
     | zero=>
      cases m' with
      |zero=>rfl
      |succ m'=>simp at hp hp';subst hp;exact absurd hd' (nw hd p' (ae hp'))
     | succ m=>
      cases m' with
      |zero=>simp at hp hp';subst hp';exact absurd hd (nw hd' p (ae hp))
      |succ m'=>rw [g2 m m' p p' d (by simpa using hp) (by simpa using hp') hd hd']
   ·cases h
theorem jJ {t:Nat}:∀{l:List Operand},Operand.tmp t∈l->t∈tmpsOf l
 |[],h=>by simp at h
 | x::l,h=>by
  rcases bk.1 h with rfl|h
  ·simp [tmpsOf]
  ·have:=jJ h;cases x<;>simp [tmpsOf,this]
theorem gq {o:Op} {ts:List Nat} {t:Nat} (h:jC o=some ts) (ht:Operand.tmp t∈o.operands):t∈ts:=by
 cases o
 case slice u x lo hi mx=>
  cases mx with
  |some _=>cases h
  | none=>
   simp only [jC,cH] at h;subst h;simp only [Op.operands] at ht;simp at ht;rcases ht with rfl|rfl|rfl
   ·simp [tmpsOf]
   ·simp [DJ]
   ·simp [DJ]
 case makeFunc u x y=>
  simp only [jC,cH] at h;subst h;simp only [Op.operands,Array.mem_append] at ht;rcases ht with ht|ht
  ·exact cr _ (jJ (cJ.2 ht))
  ·exact cz _ (jJ (cJ.2 ht))
 case call c=>
  simp only [jC] at h;simp only [Op.operands,Call.operands,Array.mem_append] at ht;split at h
  ·rename_i f hce;cases h;rw [hce] at ht;rcases ht with ht|ht
   ·simp at ht;subst ht;simp [tmpsOf]
   ·exact cz _ (jJ (cJ.2 ht))
  ·rename_i b hce;cases h;rw [hce] at ht;rcases ht with ht|ht
   ·simp at ht
   ·exact jJ (cJ.2 ht)
  ·cases h
 all_goals first
  |(simp only [jC,cH] at h;subst h;exact jJ (by simpa [Op.operands] using ht))
  |(simp [Op.operands] at ht;done)
  |cases h
theorem lY {ops:List Oper} {i:Nat} {o:Oper} (hok:agZ ops i o) {lst:Nat->Bool} (hl:∀e∈o.after,bnd e=true->lst e.on=true) {xs fr:List AV} {t:Nat} {ts:List Nat} (hts:jC o.op=some ts) (ht:t∈ts++dI ops o.guard):
  (puts lst 0 ops xs fr)[t]? =(puts (λj=>decide (j<0+i)) 0 ops xs fr)[t]?:=by
 obtain ⟨ts',h1,h2⟩:=hok.reads;rw [hts] at h1;cases h1;refine fP ops 0 xs fr fr (λm o' ho hd=>?_) rfl;obtain ⟨g1,e,g2,g3,g4⟩:=h2 t ht m o' ho hd;have:=hl e g2 g3;rw [g4] at this;simp [this,g1]
def Closed (ops:List Oper) (S:Nat->Prop):Prop:=∀(i:Nat) o,ops[i]? =some o->S i->∀e∈o.after,bnd e=true->S e.on
theorem qA {ms:List Nat} {j:Nat}:∀{l:List Edge},(ni ms l).testBit j=true->∃e∈l,bnd e=true/\(ms.getD e.on 0).testBit j=true
 |[],h=>by simp [ni] at h
 | e ::l,h=>by
  unfold ni at h;split at h
  ·rename_i hb;rw [kA,ij] at h;rcases h with h|h
   ·exact ⟨e,by simp,hb,h⟩
   ·obtain ⟨e',h1,h2,h3⟩:=qA h;exact ⟨e',by simp [h1],h2,h3⟩
  ·obtain ⟨e',h1,h2,h3⟩:=qA h;exact ⟨e',by simp [h1],h2,h3⟩
theorem kH {S:Nat->Prop} {ops:List Oper} (hS:Closed ops S):∀(l:List Oper) (ms:List Nat),(∀m,(hm:m<l.length)->ops[ms.length+m]? =l[m]?)->
  (∀(i j:Nat) m,ms[i]? =some m->m.testBit j=true->(S i->S j))->(∀(i j:Nat) m o,ms[i]? =some m->ops[i]? =some o->m.testBit j=true->(∀e∈o.after,bnd e=true->S e.on)->j=i∨S j)->
  (masks ms l).length=ms.length+l.length/\∀(i j:Nat) m o,(masks ms l)[i]? =some m->ops[i]? =some o->m.testBit j=true->(∀e∈o.after,bnd e=true->S e.on)->j=i∨S j
 |[],ms,_,_,h2=>⟨by simp [masks],h2⟩
 | o ::l,ms,hl,h1,h2=>by
  unfold masks;have ho:ops[ms.length]? =some o:=by simpa using hl 0 (by simp)
  have key:∀j,(ni ms o.after.toList ||| (1 <<< ms.length)).testBit j=true->j=ms.length∨∃e∈o.after,bnd e=true/\(ms.getD e.on 0).testBit j=true:=λj hj=>by
   rw [kA,ij] at hj;rcases hj with hj|hj
   ·obtain ⟨e,g1,g2,g3⟩:=qA hj;exact .inr ⟨e,cJ.1 g1,g2,g3⟩
   ·refine .inl ?_;rw [lv,Nat.testBit_two_pow] at hj;exact (by simpa using hj:ms.length=j).symm
  have get:∀(e:Edge) (j:Nat),(ms.getD e.on 0).testBit j=true->∃m,ms[e.on]? =some m/\m.testBit j=true:=λe j h=>by
   rw [ad] at h
   cases hm:ms[e.on]? with
   |none=>rw [hm] at h;simp at h
   |some m=>rw [hm] at h;exact ⟨m,rfl,h⟩
  obtain ⟨g1,g2⟩:=kH hS l (ms++[ni ms o.after.toList ||| (1 <<< ms.length)]) (λm hm=>by
   have:=hl (m+1) (by simpa using hm);simp only [am,mC,eg] at this ⊢
   rw [←this];congr 1;omega) (λi j m hm hj hi=>by
   rw [cw] at hm;split at hm
   ·exact h1 i j m hm hj hi
   ·rename_i hge
    have e0:i=ms.length:=by
     have:=(aa.1 hm).1;simp at this;omega
    subst e0;simp at hm;subst hm;rcases key j hj with e1|⟨e,q1,q2,q3⟩
    ·subst e1;exact hi
    ·obtain ⟨m',r1,r2⟩:=get e j q3
     exact h1 e.on j m' r1 r2 (hS _ o ho hi e q1 q2)) (λi j m o' hm ho' hj he=>by
   rw [cw] at hm;split at hm
   ·exact h2 i j m o' hm ho' hj he
   ·rename_i hge
    have e0:i=ms.length:=by
     have:=(aa.1 hm).1;simp at this;omega
    subst e0;simp at hm;subst hm;rw [ho] at ho';cases ho';rcases key j hj with e1|⟨e,q1,q2,q3⟩
    ·exact .inl e1
    ·obtain ⟨m',r1,r2⟩:=get e j q3
     exact .inr (h1 e.on j m' r1 r2 (he e q1 q2)))
  exact ⟨by rw [g1];simp;omega,g2⟩
theorem Bf:∀(ms:List Nat) (l:List Oper) (i n:Nat),ms.length=l.length->n<=i->LG i ms l n<=i+l.length/\n<=LG i ms l n/\
  ∀(q:Nat) m o,ms[q]? =some m->l[q]? =some o->LG i ms l n<=i+q->m=(1 <<< (i+q+1)) - 1/\nU (i+q) o.after.toList=true
 |[],[],i,n,_,hn=>⟨by simpa [LG] using hn,by simp [LG],λq m o h=>by simp at h⟩
 |[],_::_,_,_,h,_=>by simp at h
 |_::_,[],_,_,h,_=>by simp at h
 | m ::ms,o::l,i,n,h,hn=>by
  unfold LG;split
  ·rename_i h1 h2;obtain ⟨g1,g2,g3⟩:=Bf ms l (i+1) n (by simpa using h) (by omega);refine ⟨by simp;omega,g2,λq m' o' hm ho hq=>?_⟩
   cases q with
   |zero=>simp at hm ho;subst hm ho;exact ⟨by simpa using h1,h2⟩
   | succ q=>
    have:=g3 q m' o' (by simpa using hm) (by simpa using ho) (by omega);rwa [show i+1+q=i+(q+1) by omega] at this
  ·obtain ⟨g1,g2,g3⟩:=Bf ms l (i+1) (i+1) (by simpa using h) (aq _);refine ⟨by simp;omega,by omega,λq m' o' hm ho hq=>?_⟩
   cases q with
   |zero=>omega
   | succ q=>
    have:=g3 q m' o' (by simpa using hm) (by simpa using ho) (by omega);rwa [show i+1+q=i+(q+1) by omega] at this
theorem Qb {ops:List Oper}:Yj ops<=ops.length/\∀(i:Nat) o,Yj ops<=i->ops[i]? =some o->(∀e∈o.after,bnd e=true->e.on<i)/\
  ∀S:Nat->Prop,Closed ops S->(∀e∈o.after,bnd e=true->S e.on)->∀j,j<i->S j:=by
 have hl:(masks [] ops).length=ops.length:=by
  have:=(kH (S:=λ_=>True) (ops:=ops) (λ_ _ _ _ _ _ _=>trivial) ops [] (λm _=>by simp) (λi j m h=>by simp at h) (λi j m o h=>by simp at h)).1;simpa using this
 obtain ⟨g1,_,g3⟩:=Bf (masks [] ops) ops 0 0 hl (aq _);refine ⟨by simpa [Yj] using g1,λi o hi ho=>?_⟩;have hlt:=(aa.1 ho).1;have hm:(masks [] ops)[i]? =some (masks [] ops)[i]:=ag (by omega);obtain ⟨e1,e2⟩:=g3 i _ o hm ho (by simpa [Yj] using hi);rw [bw] at e1 e2;refine ⟨λe he=>lG e2 e (cJ.2 he),λS hS hr j hj=>?_⟩
 have hb:((masks [] ops)[i]).testBit j=true:=by
  rw [e1,lv,ld];simp;omega
 rcases (kH hS ops [] (λm _=>by simp) (λi j m h=>by simp at h) (λi j m o h=>by simp at h)).2 i j _ o hm ho hb hr with h|h
 ·omega
 ·exact h
theorem Qu [St] (hL:L.ty=bR P) {ops:Array Oper} {n:Nat} {Q:Exit->Act->World->Prop} {K:AS->Prop}
  (hcut:∀(i:Nat) o,n<=i->ops.toList[i]? =some o->(∀e∈o.after,bnd e=true->e.on<i)/\∀S:Nat->Prop,Closed ops.toList S->(∀e∈o.after,bnd e=true->S e.on)->∀j,j<i->S j)
  (hQ:∀s' a' w' A' hd' F',K s'->CW W w' A' s'.os hd' F'->FR w' A' s'.os hd' s'.fr a'->Q .normal a' w'):
  ∀ (fuel m:Nat) (listed:Array Bool) (s:AS) (a:Act) (w:World) (A:Nat->Prop) (hd:Nat->Value) (F:Nat->Nat->Prop),n<=m->m<=ops.size->listed.size=ops.size->(∀j,j<ops.size->listed.getD j false=decide (j<m))->ops.size - m<=fuel->
   Closed ops.toList (λj=>j<m)->CW W w A s.os hd F->FR w A s.os hd s.fr a->jr (bG np P) L false ops.toList (ops.toList.drop m) s K->wpAny P .any ops Q fuel listed a w:=by
 have fD:∀(listed:Array Bool) i,listed.size=ops.size->i<ops.size->listed.getD i true=listed.getD i false:=λlisted i hs hi=>by
  have:i<listed.size:=by omega
  simp [Array.getD,this]
 intro fuel
 induction fuel with
 | zero=>
  intro m listed s a w A hd F hnm hm hs hl hf hcl hw hfr hk;have e:m=ops.size:=by omega
  subst e;rw [df (by simp)] at hk;refine ⟨?_,hQ s a w A hd F hk hw hfr⟩;apply eE.2;intro i hi;obtain ⟨h1,o,h2,_⟩:=mem_ready.1 hi;have hi':=(bj.1 h2).1;rw [fD listed i hs hi',hl i hi'] at h1;simp at h1;omega
 | succ fuel ih=>
  intro m listed s a w A hd F hnm hm hs hl hf hcl hw hfr hk;by_cases hmz:m=ops.size
  ·subst hmz;rw [df (by simp)] at hk;refine ⟨λ_=>hQ s a w A hd F hk hw hfr,λi hi=>?_⟩;obtain ⟨h1,o,h2,_⟩:=mem_ready.1 hi;have hi':=(bj.1 h2).1;rw [fD listed i hs hi',hl i hi'] at h1;simp at h1;omega
  ·(have hml:m<ops.size:=by omega);have hom:ops[m]? =some ops[m]:=cj hml;(have ahL:ops.toList[m]? =some ops[m]:=by rw [bd];exact hom);obtain ⟨c1,c2⟩:=hcut m _ hnm ahL
   have ahI:m∈Region.ready .any ops listed:=mem_ready.2 ⟨by rw [fD listed m hs hml,hl m hml];simp,_,hom,λe he hb=>by
    rw [fO] at hb;have h1:=c1 e he hb
    rw [hl e.on (by omega)];simpa using h1⟩
   refine ⟨λh0=>(by rw [h0] at ahI;cases ahI),λi hi=>?_⟩;obtain ⟨h1,o,h2,h3⟩:=mem_ready.1 hi;have hi':=(bj.1 h2).1;rw [fD listed i hs hi',hl i hi'] at h1;(have him:m<=i:=by simpa using h1);have h2l:ops.toList[i]? =some o:=by rw [bd];exact h2
   have hall:=(hcut i o (by omega) h2l).2 (λj=>j<m) hcl (λe he hb=>by
    have h4:=h3 e he (by rw [fO];exact hb)
    have h5:e.on<ops.size:=by
     have:=(hcut i o (by omega) h2l).1 e he hb;omega
    rw [hl e.on h5] at h4
    simpa using h4)
   have hie:i=m:=by
    apply aw;intro hne;have:=hall m (by omega);omega
   subst hie;rw [ck (by simpa using hml)] at hk;(have hoe:o=ops[i]:=by rw [hom] at h2;cases h2;rfl);(have hog:ops.toList[i]'(by simpa using hml)=o:=by rw [hoe];simp);rw [hog] at hk
   have hnext:∀s' a' w' A' hd' F',CW W w' A' s'.os hd' F'->FR w' A' s'.os hd' s'.fr a'->jr (bG np P) L false ops.toList (ops.toList.drop (i+1)) s' K->wpAny P .any ops Q fuel (listed.setIfInBounds i true) a' w':=λs' a' w' A' hd' F' q1 q2 q3=>
    ih (i+1) _ s' a' w' A' hd' F' (by omega) (by omega) (by simpa using hs) (λj hj=>by
     by_cases hji:j=i
     ·subst hji;(have:j<listed.size:=by omega);simp [this]
     ·rw [getD_set_ne false (cI hji),hl j hj]
      exact decide_eq_decide.2 (by omega)) (by omega) (λq o' ho' hq ed hed hb=>by
     show ed.on<i+1;by_cases hqi:q=i
     ·subst hqi;rw [ahL] at ho';cases ho';have:=c1 ed hed hb;omega
     ·have:ed.on<i:=hcl q o' ho' (by omega) ed hed hb
      omega) q1 q2 q3
   have hstep:(jF (bG np P) L s o λv s'=>jr (bG np P) L false ops.toList (ops.toList.drop (i+1)) (s'.put o.dst v) K)->o.wp P a w (wpAny P .any ops Q fuel (listed.setIfInBounds i true)) Q:=λh=>
    nC hL hw hfr h _ Q λx s' v w' A' hd' F' hk' XZ hw' hf' hx=>by
     rw [←XZ] at hf';exact hnext _ _ w' A' hd' F' (by rw [AS.fQ];exact hw') (hf'.put hx o.dst) hk'
   have lu:jr (bG np P) L false ops.toList (ops.toList.drop (i+1)) (s.put o.dst .und) K->wpAny P .any ops Q fuel (listed.setIfInBounds i true) (a.put o.dst undef) w:=λh=>
    hnext _ _ w A hd F (by rw [AS.fQ];exact hw) (hfr.put .und o.dst) h
   unfold wpOp;simp only [h2];unfold jr at hk;split at hk
   ·rename_i hg;rw [if_pos (by simp [Region.wanted,hg])];exact .inl (hstep hk)
   ·rename_i j want hg;split at hk
    ·exact hk.elim
    ·rename_i hy;have:=dQ hfr hy;rw [if_neg (by simp [Region.wanted,hg,this])];exact lu hk
    ·rename_i b hy;have:=dQ hfr hy;split at hk
     ·rename_i e;subst e;rw [if_pos (by simp [Region.wanted,hg,this])];exact .inl (hstep hk)
     ·rename_i e;rw [if_neg (by simp [Region.wanted,hg,this,e])];exact lu hk
theorem lT {fr:List AV} {os:List Obj} {ops:List Oper} {n j:Nat} {r:Option Bool} (h:AS.yield ⟨fr,os⟩ (ops.take n) j=some r):AS.yield ⟨fr,os⟩ ops j=some r:=by
 unfold AS.yield at*;by_cases hj:j<n
 ·rw [be,if_pos hj] at h;exact h
 ·rw [be,if_neg hj] at h;cases h
theorem BD [St] (hL:L.ty=bR P) {ops:Array Oper} {Q:Exit->Act->World->Prop} {n:Nat} {s0 sf:AS} {xs:List AV} (late:Nat->Prop) (hdr:jS (ops.toList.take n) 0 (ops.toList.take n)=true) (ht:Txt np P L (ops.toList.take n) (ops.toList.take n) s0 xs sf) (tC:n<=ops.size)
  (hcut:∀(i:Nat) o,n<=i->ops.toList[i]? =some o->∀S:Nat->Prop,Closed ops.toList S->(∀e∈o.after,bnd e=true->S e.on)->∀j,j<n->¬late j->S j)
  (hQ:∀fuel (listed:Array Bool) a' w' A',listed.size=ops.size->((List.range ops.size).filter λi=> !listed.getD i true).length<=fuel->(∀j,n<=j->j<ops.size->listed.getD j false=false)->(∀j,j<n->listed.getD j false=false->late j)->Closed ops.toList (λj=>listed.getD j false=true)->
   CW W w' A' s0.os hd F->FR w' A' s0.os hd (puts (λj=>listed.getD j false) 0 (ops.toList.take n) xs s0.fr) a'->wpAny P .any ops Q fuel listed a' w'):
  ∀ (fuel:Nat) (listed:Array Bool) (a:Act) (w:World) (A:Nat->Prop),listed.size=ops.size->((List.range ops.size).filter λi=> !listed.getD i true).length<=fuel->(∀j,n<=j->j<ops.size->listed.getD j false=false)->Closed ops.toList (λj=>listed.getD j false=true)->
   CW W w A s0.os hd F->FR w A s0.os hd (puts (λj=>listed.getD j false) 0 (ops.toList.take n) xs s0.fr) a->wpAny P .any ops Q fuel listed a w:=by
 obtain ⟨hlen,hos,hfr,qV⟩:=rH (ops.toList.take n) s0 xs sf ht 0;obtain ⟨hok,lN⟩:=jf hdr
 have pre:∀{i:Nat} {o:Oper},i<n->ops[i]? =some o->(ops.toList.take n)[i]? =some o:=λ{i o} hi ho=>by
  rw [be,if_pos hi,bd];exact ho
 have fD:∀(listed:Array Bool) i,listed.size=ops.size->i<ops.size->listed.getD i true=listed.getD i false:=λlisted i hs hi=>by
  have:i<listed.size:=by omega
  simp [Array.getD,this]
 have yc:∀(listed:Array Bool),listed.size=ops.size->(∀i∈Region.ready .any ops listed,n<=i)->∀i,i<n->listed.getD i false=true:=by
  intro listed hs h0 i
  induction i using Nat.strongRecOn with
  | _ i ih=>
   intro hi;apply aw;intro hn;(have hio:i<ops.size:=by omega);have ho:ops[i]? =some ops[i]:=cj hio
   have:i∈Region.ready .any ops listed:=mem_ready.2 ⟨by rw [fD listed i hs hio];simpa using hn,_,ho,λe he hb=>by
    rw [fO] at hb;have h1:=(hok i ops[i] (pre hi ho)).edges e he hb;rw [bw] at h1
    exact ih e.on h1 (by omega)⟩
   have:=h0 i this;omega
 intro fuel
 induction fuel with
 | zero=>
  intro listed a w A hs hc hge hcl hw hf;refine hQ 0 listed a w A hs hc hge (λi hi hli=>?_) hcl hw hf;have hnil:((List.range ops.size).filter λi=> !listed.getD i true)=[]:=fg.1 (k6.1 hc);have:=fp.1 hnil i (cL.2 (by omega));rw [fD listed i hs (by omega),hli] at this;simp at this
 | succ fuel ih=>
  intro listed a w A hs hc hge hcl hw hf;by_cases hsw:∀j,j<n->listed.getD j false=false->late j
  ·exact hQ (fuel+1) listed a w A hs hc hge hsw hcl hw hf
  refine ⟨λh0=>(hsw λj hj hjl=>?_).elim,λi hi=>?_⟩
  ·rw [yc listed hs (λi hi=>by rw [h0] at hi;cases hi) j hj] at hjl;cases hjl
  obtain ⟨h1,o,h2,h3⟩:=mem_ready.1 hi;have hi':i<ops.size:=(bj.1 h2).1;have h2f:ops.toList[i]? =some o:=by rw [bd];exact h2
  have hin:i<n:=by
   apply aw;intro hge';refine hsw λj hj hjl=>?_;apply aw;intro hnl;have:listed.getD j false=true:=hcut i o (by omega) h2f (λj=>listed.getD j false=true) hcl (λe he hb=>h3 e he (by rw [fO];exact hb)) j hj hnl;rw [hjl] at this;cases this
  have h2l:(ops.toList.take n)[i]? =some o:=pre hin h2;obtain ⟨x,hx,hd1⟩:=qV i o h2l;have lC:=hok i o h2l;rw [bw] at lC;obtain ⟨ts,hts,_⟩:=lC.reads
  have same:∀t,t∈ts++dI (ops.toList.take n) o.guard->(puts (λj=>listed.getD j false) 0 (ops.toList.take n) xs s0.fr)[t]? =(puts (λj=>decide (j<0+i)) 0 (ops.toList.take n) xs s0.fr)[t]?:=λt ht=>
   lY lC (lst:=λj=>listed.getD j false) (λe he hb=>h3 e he (by rw [fO];exact hb)) hts ht
  have hset:∀(v:Value) (w':World) (A':Nat->Prop),Keeps (λ_=>False) w w'->CW W w' A' s0.os hd F->(∀b,A b->A' b)->aU w' A' s0.os hd x v->wpAny P .any ops Q fuel (listed.setIfInBounds i true) (a.put o.dst v) w':=λv w' A' k1 k2 k3 k4=>by
   refine ih (listed.setIfInBounds i true) _ w' A' (by simpa using hs) ?_ (λj hj hjs=>by rw [getD_set_ne false (by omega:i≠j)];exact hge j hj hjs) (λq o' ho' hq e he hb=>?_) k2 ?_
   ·have hsub:((List.range ops.size).filter λj=> !(listed.setIfInBounds i true).getD j true)=((List.range ops.size).filter λj=> !listed.getD j true).filter λj=>decide (j≠i):=by
     rw [gx];refine fY λj hj=>?_;by_cases e:j=i
     ·subst e;(have:j<listed.size:=by omega);simp [this]
     ·rw [getD_set_ne true (cI e)];simp [e]
    have hlt:(((List.range ops.size).filter λj=> !listed.getD j true).filter λj=>decide (j≠i)).length<((List.range ops.size).filter λj=> !listed.getD j true).length:=
     dE.2 ⟨i,cV.2 ⟨cL.2 hi',by simp [h1]⟩,by simp⟩
    rw [hsub];omega
   ·have hqs:=(aa.1 ho').1;show (listed.setIfInBounds i true).getD e.on false=true;replace hq:(listed.setIfInBounds i true).getD q false=true:=hq;by_cases hqi:q=i
    ·subst hqi;rw [h2f] at ho';cases ho';have h5:=h3 e he (by rw [fO];exact hb);by_cases hei:q=e.on
     ·rw [←hei];(have:q<listed.size:=by omega);simp [this]
     ·rw [getD_set_ne false hei];exact h5
    ·rw [getD_set_ne false (cI hqi)] at hq;have h5:=hcl q o' ho' hq e he hb;by_cases hei:i=e.on
     ·rw [←hei];(have:i<listed.size:=by omega);simp [this]
     ·rw [getD_set_ne false hei];exact h5
   ·have f1:FR w' A' s0.os hd (puts (λj=>listed.getD j false) 0 (ops.toList.take n) xs s0.fr) a:=hf.to λy u hy=>hy.mono (λb hb=>k1.block b (hw.hA b hb).1 (λh=>h)) k3;have f2:=FR.put (s:=⟨puts (λj=>listed.getD j false) 0 (ops.toList.take n) xs s0.fr,s0.os⟩) f1 k4 o.dst
    have e:(AS.put ⟨puts (λj=>listed.getD j false) 0 (ops.toList.take n) xs s0.fr,s0.os⟩ o.dst x).fr=puts (λj=>(listed.setIfInBounds i true).getD j false) 0 (ops.toList.take n) xs s0.fr:=by
     refine cC λt=>?_
     have other:o.dst≠some t->(puts (λj=>listed.getD j false) 0 (ops.toList.take n) xs s0.fr)[t]? =(puts (λj=>(listed.setIfInBounds i true).getD j false) 0 (ops.toList.take n) xs s0.fr)[t]?:=λhne=>
      fP _ _ _ _ _ (λm o' ho hd=>by
       rw [bw];refine (getD_set_ne false λe=>?_).symm;subst e;rw [h2l] at ho;cases ho
       exact hne hd) rfl
     cases hdst:o.dst with
     |none=>simp only [AS.put];exact other (by rw [hdst];simp)
     | some d=>
      simp only [AS.put];by_cases e:d=t
      ·subst e;rw [eK];rcases da d s0.fr.length with hlt|hge
       ·rw [ag (by rw [eB];exact hlt)];refine (kW (lst:=λj=>(listed.setIfInBounds i true).getD j false) (ops.toList.take n) 0 xs s0.fr i o h2l hdst hx ?_ (λm' o' g1 g2=>lN m' i o' o d g1 h2l g2 hdst) hlt).symm;(have:i<listed.size:=by omega);rw [bw];simp [this]
       ·rw [ar (by rw [eB];exact hge),ar (by rw [eB];exact hge)];rfl
      ·rw [cU e];exact other (by rw [hdst];simpa using e)
    rw [←e];simpa [AS.fQ] using f2
  have hrun:jc (bG np P) L ⟨puts (λj=>decide (j<0+i)) 0 (ops.toList.take n) xs s0.fr,s0.os⟩ o (·=x)->o.wp P a w (wpAny P .any ops Q fuel (listed.setIfInBounds i true)) Q:=λhr=>
   uZ (s:=⟨puts (λj=>decide (j<0+i)) 0 (ops.toList.take n) xs s0.fr,s0.os⟩) hL hw (λy hy=>by
    have g:=FR.get (s:=⟨puts (λj=>listed.getD j false) 0 (ops.toList.take n) xs s0.fr,s0.os⟩) hf y
    cases y with
    | tmp t=>
     have:=same t (cr _ (gq hts hy));simp only [AS.get,ad] at g ⊢;rw [←this];exact g
    |_=>exact g) hr λv w' A' ⟨k1,k2,k3,k4⟩=>hset v w' A' k1 k2 k3.1 k4
  have lu:x= .und->wpAny P .any ops Q fuel (listed.setIfInBounds i true) (a.put o.dst undef) w:=λe=>
   hset undef w A (Keeps.refl _ _) hw (λ_ h=>h) (by subst e;exact .und)
  unfold wpOp;simp only [h2];unfold Does at hd1;split at hd1
  ·rename_i hg;rw [if_pos (by simp [Region.wanted,hg])];exact .inl (hrun hd1)
  ·rename_i j want hg
   have hy0:AS.yield ⟨puts (λj=>decide (j<0+i)) 0 (ops.toList.take n) xs s0.fr,s0.os⟩ (ops.toList.take n) j=AS.yield ⟨puts (λj=>listed.getD j false) 0 (ops.toList.take n) xs s0.fr,s0.os⟩ (ops.toList.take n) j:=by
    unfold AS.yield
    cases hj:(ops.toList.take n)[j]? with
    |none=>rfl
    | some oj=>
     cases hdj:oj.dst with
     |none=>simp only [hdj]
     | some d=>
      have:=same d (cz _ (by simp [dI,hg,hj,hdj]));simp only [hdj,ad,this]
   rw [hy0] at hd1;split at hd1
   ·exact hd1.elim
   ·rename_i hy;have:=dQ (s:=⟨puts (λj=>listed.getD j false) 0 (ops.toList.take n) xs s0.fr,s0.os⟩) hf (lT hy);rw [if_neg (by simp [Region.wanted,hg,this])];exact lu hd1
   ·rename_i b hy;have:=dQ (s:=⟨puts (λj=>listed.getD j false) 0 (ops.toList.take n) xs s0.fr,s0.os⟩) hf (lT hy);split at hd1
    ·rename_i e;subst e;rw [if_pos (by simp [Region.wanted,hg,this])];exact .inl (hrun hd1)
    ·rename_i e;rw [if_neg (by simp [Region.wanted,hg,this,e])];exact lu hd1
theorem YB [St] (hw:CW W w A s.os hd F) {o:Oper} (hx:∀y∈o.op.operands,aU w A s.os hd (s.get y) (a.eval y)) {c:Call} {f0:FuncId} (hoc:o.op= .call c) (hcc:c.callee= .value (.func f0)) {x:AV} (hk:jc (bG np P) L s o (·=x)) {next:Act->World->Prop} {Q:Exit->Act->World->Prop}
  (hn:∀v w' G,Keeps (λ_=>False) w w'->bB w' (λ_=>False) x v G->(∀b,G b->w.heap.size<=b/\b<w'.heap.size)->next (a.put o.dst v) w'):o.wp P a w next Q:=by
 obtain ⟨dst,op,ty,pos,af,g⟩:=o;simp only at hoc;subst hoc;simp only [jc,hcc] at hk;split at hk
 ·rename_i fZ;split at hk
  ·obtain ⟨r,vs,hr,⟨fo,h1,h2⟩,h3,h4⟩:=rA hw (λy hy=>hx y hy) fZ hk;subst hr;exact j3 (oM h1 h2 h3) (R:=λv w'=>∃G,Keeps (λ_=>False) w w'/\bB w' (λ_=>False) r v G/\∀b,G b->w.heap.size<=b/\b<w'.heap.size) (h4.mono λe w' ⟨v,G,g1,g2⟩=>⟨v,g1,G,g2⟩) λv w' ⟨G,g1,g2,g3⟩=>hn v w' G g1 g2 g3
  ·exact hk.elim
 ·split at hk
  ·rename_i fZ;obtain ⟨r,vs,hr,⟨fo,h1,h2⟩,h3,h4⟩:=sP hw (λy hy=>hx y hy) fZ hk;subst hr;exact j3 (Ao h1 h2 h3) (R:=λv w'=>∃G,Keeps (λ_=>False) w w'/\bB w' (λ_=>False) r v G/\∀b,G b->w.heap.size<=b/\b<w'.heap.size) (h4.mono λe w' ⟨v,G,g1,g2⟩=>⟨v,g1,G,g2⟩) λv w' ⟨G,g1,g2,g3⟩=>hn v w' G g1 g2 g3
  ·exact hk.elim
theorem Oo {n:Nat}:∀{l:List Nat},qo n l=false->n∉l
 |[],_,h=>by cases h
 | m::l,h,hm=>by
  unfold qo at h;split at h
  ·cases h
  ·rename_i hne;rcases bk.1 hm with e|e
   ·exact hne e.symm
   ·exact Oo h e
theorem tJ {t:Nat} {ops:List Oper}:∀{l:List Oper},unread t ops l=true->∀(i:Nat) o,l[i]? =some o->∀ts,jC o.op=some ts->t∉ts++dI ops o.guard
 |[],_,i,o,h,_,_=>by simp at h
 | q ::l,h,i,o,ho,ts,hts=>by
  unfold unread at h;split at h
  ·cases h
  ·rename_i ts' ahE;split at h
   ·cases h
   ·rename_i hm
    cases i with
    | zero=>
     simp at ho;subst ho;rw [hts] at ahE;cases ahE;exact Oo hm
    |succ i=>exact tJ h i o (by simpa using ho) ts hts
theorem YD [St] (hL:L.ty=bR P) {ops:Array Oper} {Q:Exit->Act->World->Prop} {n:Nat} {s0 sf:AS} {xs:List AV} (hdr:jS (ops.toList.take n) 0 (ops.toList.take n)=true) (ht:Txt np P L (ops.toList.take n) (ops.toList.take n) s0 xs sf) (tC:n<=ops.size)
  {i0 d0 k0:Nat} {es0:List (List AV)} (hi0:i0<n) (ad8:d0<s0.fr.length) (hun:unread d0 (ops.toList.take n) (ops.toList.take n)=true) (how:∀o,(ops.toList.take n)[i0]? =some o->o.dst=some d0/\o.guard=none/\∃c f,o.op= .call c/\c.callee= .value (.func f)) (hx0:xs[i0]? =some (.sl true k0 es0))
  (hcut:∀(i:Nat) o,n<=i->ops.toList[i]? =some o->∀S:Nat->Prop,Closed ops.toList S->(∀e∈o.after,bnd e=true->S e.on)->∀j,j<n->S j)
  (hQ:∀fuel (listed:Array Bool) a' w' A',listed.size=ops.size->((List.range ops.size).filter λi=> !listed.getD i true).length<=fuel->(∀j,n<=j->j<ops.size->listed.getD j false=false)->(∀j,j<n->listed.getD j false=true)->Closed ops.toList (λj=>listed.getD j false=true)->
   CW W w' A' s0.os hd F->FR w' A' s0.os hd ((puts (λj=>listed.getD j false) 0 (ops.toList.take n) xs s0.fr).set d0 .any) a'->(listed.getD i0 false=true->∃G,bB w' (λ_=>False) (.sl true k0 es0) (a'.tmps.getD d0 undef) G/\∀b,G b->W.new b/\b<w'.heap.size/\¬A' b/\∀id,¬F id b)->wpAny P .any ops Q fuel listed a' w'):
  ∀ (fuel:Nat) (listed:Array Bool) (a:Act) (w:World) (A:Nat->Prop),listed.size=ops.size->((List.range ops.size).filter λi=> !listed.getD i true).length<=fuel->(∀j,n<=j->j<ops.size->listed.getD j false=false)->Closed ops.toList (λj=>listed.getD j false=true)->
   CW W w A s0.os hd F->FR w A s0.os hd ((puts (λj=>listed.getD j false) 0 (ops.toList.take n) xs s0.fr).set d0 .any) a->(listed.getD i0 false=true->∃G,bB w (λ_=>False) (.sl true k0 es0) (a.tmps.getD d0 undef) G/\∀b,G b->W.new b/\b<w.heap.size/\¬A b/\∀id,¬F id b)->wpAny P .any ops Q fuel listed a w:=by
 obtain ⟨hlen,hos,hfr,qV⟩:=rH (ops.toList.take n) s0 xs sf ht 0;obtain ⟨hok,lN⟩:=jf hdr
 have pre:∀{i:Nat} {o:Oper},i<n->ops[i]? =some o->(ops.toList.take n)[i]? =some o:=λ{i o} hi ho=>by
  rw [be,if_pos hi,bd];exact ho
 have fD:∀(listed:Array Bool) i,listed.size=ops.size->i<ops.size->listed.getD i true=listed.getD i false:=λlisted i hs hi=>by
  have:i<listed.size:=by omega
  simp [Array.getD,this]
 have yc:∀(listed:Array Bool),listed.size=ops.size->(∀i∈Region.ready .any ops listed,n<=i)->∀i,i<n->listed.getD i false=true:=by
  intro listed hs h0 i
  induction i using Nat.strongRecOn with
  | _ i ih=>
   intro hi;apply aw;intro hn;(have hio:i<ops.size:=by omega);have ho:ops[i]? =some ops[i]:=cj hio
   have:i∈Region.ready .any ops listed:=mem_ready.2 ⟨by rw [fD listed i hs hio];simpa using hn,_,ho,λe he hb=>by
    rw [fO] at hb;have h1:=(hok i ops[i] (pre hi ho)).edges e he hb;rw [bw] at h1
    exact ih e.on h1 (by omega)⟩
   have:=h0 i this;omega
 intro fuel
 induction fuel with
 | zero=>
  intro listed a w A hs hc hge hcl hw hf hg;refine hQ 0 listed a w A hs hc hge (λi hi=>?_) hcl hw hf hg
  cases hli:listed.getD i false with
  |true=>rfl
  | false=>
   have hnil:((List.range ops.size).filter λi=> !listed.getD i true)=[]:=fg.1 (k6.1 hc);have:=fp.1 hnil i (cL.2 (by omega));rw [fD listed i hs (by omega),hli] at this;simp at this
 | succ fuel ih=>
  intro listed a w A hs hc hge hcl hw hf hg;by_cases hsw:∀j,j<n->listed.getD j false=true
  ·exact hQ (fuel+1) listed a w A hs hc hge hsw hcl hw hf hg
  refine ⟨λh0=>(hsw λj hj=>?_).elim,λi hi=>?_⟩
  ·exact yc listed hs (λi hi=>by rw [h0] at hi;cases hi) j hj
  obtain ⟨h1,o,h2,h3⟩:=mem_ready.1 hi;have hi':i<ops.size:=(bj.1 h2).1;have h2f:ops.toList[i]? =some o:=by rw [bd];exact h2
  have hin:i<n:=by
   apply aw;intro hge';exact hsw λj hj=>hcut i o (by omega) h2f (λj=>listed.getD j false=true) hcl (λe he hb=>h3 e he (by rw [fO];exact hb)) j hj
  have h2l:(ops.toList.take n)[i]? =some o:=pre hin h2;obtain ⟨x,hx,hd1⟩:=qV i o h2l;have lC:=hok i o h2l;rw [bw] at lC;obtain ⟨ts,hts,_⟩:=lC.reads
  have same:∀t,t∈ts++dI (ops.toList.take n) o.guard->(puts (λj=>listed.getD j false) 0 (ops.toList.take n) xs s0.fr)[t]? =(puts (λj=>decide (j<0+i)) 0 (ops.toList.take n) xs s0.fr)[t]?:=λt ht=>
   lY lC (lst:=λj=>listed.getD j false) (λe he hb=>h3 e he (by rw [fO];exact hb)) hts ht
  have hnl:listed.getD i false=false:=by
   rw [←fD listed i hs hi'];exact h1
  have hdi:o.dst=some d0->i=i0:=λhd=>by
   (obtain ⟨o0,ho0⟩:∃o0,(ops.toList.take n)[i0]? =some o0:=⟨_,ag (by simp;omega)⟩);exact lN i i0 o o0 d0 h2l ho0 hd (how o0 ho0).1
  have ai4:=tJ hun i o h2l
  have hset:∀(v:Value) (w':World) (A':Nat->Prop),Keeps (λ_=>False) w w'->CW W w' A' s0.os hd F->(∀b,A b->A' b)->(o.dst≠some d0->aU w' A' s0.os hd x v)->(((listed.setIfInBounds i true).getD i0 false=true)->∃G,bB w' (λ_=>False) (.sl true k0 es0) ((a.put o.dst v).tmps.getD d0 undef) G/\∀b,G b->W.new b/\b<w'.heap.size/\¬A' b/\∀id,¬F id b)->wpAny P .any ops Q fuel (listed.setIfInBounds i true) (a.put o.dst v) w':=λv w' A' k1 k2 k3 k4 k5=>by
   refine ih (listed.setIfInBounds i true) _ w' A' (by simpa using hs) ?_ (λj hj hjs=>by rw [getD_set_ne false (by omega:i≠j)];exact hge j hj hjs) (λq o' ho' hq e he hb=>?_) k2 ?_ k5
   ·have hsub:((List.range ops.size).filter λj=> !(listed.setIfInBounds i true).getD j true)=((List.range ops.size).filter λj=> !listed.getD j true).filter λj=>decide (j≠i):=by
     rw [gx];refine fY λj hj=>?_;by_cases e:j=i
     ·subst e;(have:j<listed.size:=by omega);simp [this]
     ·rw [getD_set_ne true (cI e)];simp [e]
    have hlt:(((List.range ops.size).filter λj=> !listed.getD j true).filter λj=>decide (j≠i)).length<((List.range ops.size).filter λj=> !listed.getD j true).length:=
     dE.2 ⟨i,cV.2 ⟨cL.2 hi',by simp [h1]⟩,by simp⟩
    rw [hsub];omega
   ·have hqs:=(aa.1 ho').1;show (listed.setIfInBounds i true).getD e.on false=true;replace hq:(listed.setIfInBounds i true).getD q false=true:=hq;by_cases hqi:q=i
    ·subst hqi;rw [h2f] at ho';cases ho';have h5:=h3 e he (by rw [fO];exact hb);by_cases hei:q=e.on
     ·rw [←hei];(have:q<listed.size:=by omega);simp [this]
     ·rw [getD_set_ne false hei];exact h5
    ·rw [getD_set_ne false (cI hqi)] at hq;have h5:=hcl q o' ho' hq e he hb;by_cases hei:i=e.on
     ·rw [←hei];(have:i<listed.size:=by omega);simp [this]
     ·rw [getD_set_ne false hei];exact h5
   ·have f1:FR w' A' s0.os hd ((puts (λj=>listed.getD j false) 0 (ops.toList.take n) xs s0.fr).set d0 .any) a:=hf.to λy u hy=>hy.mono (λb hb=>k1.block b (hw.hA b hb).1 (λh=>h)) k3
    have e:(AS.put ⟨puts (λj=>listed.getD j false) 0 (ops.toList.take n) xs s0.fr,s0.os⟩ o.dst x).fr=puts (λj=>(listed.setIfInBounds i true).getD j false) 0 (ops.toList.take n) xs s0.fr:=by
     refine cC λt=>?_
     have other:o.dst≠some t->(puts (λj=>listed.getD j false) 0 (ops.toList.take n) xs s0.fr)[t]? =(puts (λj=>(listed.setIfInBounds i true).getD j false) 0 (ops.toList.take n) xs s0.fr)[t]?:=λhne=>
      fP _ _ _ _ _ (λm o' ho hd=>by
       rw [bw];refine (getD_set_ne false λe=>?_).symm;subst e;rw [h2l] at ho;cases ho
       exact hne hd) rfl
     cases hdst:o.dst with
     |none=>simp only [AS.put];exact other (by rw [hdst];simp)
     | some d=>
      simp only [AS.put];by_cases e:d=t
      ·subst e;rw [eK];rcases da d s0.fr.length with hlt|hge
       ·rw [ag (by rw [eB];exact hlt)];refine (kW (lst:=λj=>(listed.setIfInBounds i true).getD j false) (ops.toList.take n) 0 xs s0.fr i o h2l hdst hx ?_ (λm' o' g1 g2=>lN m' i o' o d g1 h2l g2 hdst) hlt).symm;(have:i<listed.size:=by omega);rw [bw];simp [this]
       ·rw [ar (by rw [eB];exact hge),ar (by rw [eB];exact hge)];rfl
      ·rw [cU e];exact other (by rw [hdst];simpa using e)
    rw [←e]
    cases hdst:o.dst with
    |none=>simpa [AS.put,Act.put,hdst] using f1
    | some d=>
     by_cases hdd:d=d0
     ·subst hdd;have f2:=FR.put (s:=⟨(puts (λj=>listed.getD j false) 0 (ops.toList.take n) xs s0.fr).set d .any,s0.os⟩) f1 (x:= .any) (v:=v) (.pure _ _ (.any _)) (some d);simpa [AS.put,nd] using f2
     ·have f2:=FR.put (s:=⟨(puts (λj=>listed.getD j false) 0 (ops.toList.take n) xs s0.fr).set d0 .any,s0.os⟩) f1 (k4 (by rw [hdst];simpa using hdd)) (some d);have e2:((puts (λj=>listed.getD j false) 0 (ops.toList.take n) xs s0.fr).set d x).set d0 .any=((puts (λj=>listed.getD j false) 0 (ops.toList.take n) xs s0.fr).set d0 .any).set d x:=List.set_comm _ _ hdd;simp only [AS.put] at f2 ⊢;rw [e2];exact f2
  have hne:∀t,t∈ts++dI (ops.toList.take n) o.guard->((puts (λj=>listed.getD j false) 0 (ops.toList.take n) xs s0.fr).set d0 .any)[t]? =(puts (λj=>decide (j<0+i)) 0 (ops.toList.take n) xs s0.fr)[t]?:=λt ht=>by
   rw [cU (λe=>ai4 ts hts (by rw [e];exact ht))];exact same t ht
  have hops:∀y∈o.op.operands,aU w A s0.os hd (AS.get ⟨puts (λj=>decide (j<0+i)) 0 (ops.toList.take n) xs s0.fr,s0.os⟩ y) (a.eval y):=λy hy=>by
   have g:=FR.get (s:=⟨(puts (λj=>listed.getD j false) 0 (ops.toList.take n) xs s0.fr).set d0 .any,s0.os⟩) hf y
   cases y with
   | tmp t=>
    have:=hne t (cr _ (gq hts hy));simp only [AS.get,ad] at g ⊢;rw [←this];exact g
   |_=>exact g
  have aiG:∀v,o.dst≠some d0->(a.put o.dst v).tmps.getD d0 undef=a.tmps.getD d0 undef:=λv hv=>by
   cases hdst:o.dst with
   |none=>rfl
   | some d=>
    have:d≠d0:=λe=>hv (by rw [hdst,e]);simp [Act.put,b9,de,this]
  have hkeep:∀(v:Value) (w':World) (A':Nat->Prop),i≠i0->Keeps (λ_=>False) w w'->(∀b,A' b->A b∨w.heap.size<=b)->(((listed.setIfInBounds i true).getD i0 false=true)->∃G,bB w' (λ_=>False) (.sl true k0 es0) ((a.put o.dst v).tmps.getD d0 undef) G/\∀b,G b->W.new b/\b<w'.heap.size/\¬A' b/\∀id,¬F id b):=λv w' A' hii k1 k3 hl=>by
   rw [getD_set_ne false hii] at hl;obtain ⟨G,g1,g2⟩:=hg hl;refine ⟨G,by rw [aiG v (λh=>hii (hdi h))];exact g1.mono (λ_ h=>h) (λx hx=>hx.elim (λh=>h.elim) λhx=>k1.block x (g2 x hx).2.1 (λh=>h)),λb hb=>⟨(g2 b hb).1,bu (g2 b hb).2.1 k1.size,λh=>?_,(g2 b hb).2.2.2⟩⟩;rcases k3 b h with h|h
   ·exact (g2 b hb).2.2.1 h
   ·have:=(g2 b hb).2.1;omega
  have hrun:i≠i0->jc (bG np P) L ⟨puts (λj=>decide (j<0+i)) 0 (ops.toList.take n) xs s0.fr,s0.os⟩ o (·=x)->o.wp P a w (wpAny P .any ops Q fuel (listed.setIfInBounds i true)) Q:=λhii hr=>
   uZ (s:=⟨puts (λj=>decide (j<0+i)) 0 (ops.toList.take n) xs s0.fr,s0.os⟩) hL hw hops hr λv w' A' ⟨k1,k2,k3,k4⟩=>hset v w' A' k1 k2 k3.1 (λ_=>k4) (hkeep v w' A' hii k1 k3.2)
  have hown:i=i0->jc (bG np P) L ⟨puts (λj=>decide (j<0+i)) 0 (ops.toList.take n) xs s0.fr,s0.os⟩ o (·=x)->o.wp P a w (wpAny P .any ops Q fuel (listed.setIfInBounds i true)) Q:=λhii hr=>by
   obtain ⟨ahW,_,c,f,hoc,hcc⟩:=how o (by rw [←hii];exact h2l);(have hxx:x= .sl true k0 es0:=by rw [←hii,hx] at hx0;cases hx0;rfl);refine YB (s:=⟨puts (λj=>decide (j<0+i)) 0 (ops.toList.take n) xs s0.fr,s0.os⟩) hw hops hoc hcc hr λv w' G k1 k2 k3=>?_;refine hset v w' A k1 (hw.keep k1) (λ_ h=>h) (λh=>absurd ahW h) λ_=>⟨G,?_,λb hb=>⟨hw.below.new (k3 b hb).1,(k3 b hb).2,λh=>?_,λid h=>?_⟩⟩
   ·have hsz:=hf.size;rw [bo,eB] at hsz
    have:(a.put o.dst v).tmps.getD d0 undef=v:=by
     rw [ahW];simp [Act.put,b9,de,hsz,ad8]
    rw [this,←hxx];exact k2
   ·have:=(hw.hA b h).1;have:=(k3 b hb).1;omega
   ·have:=(hw.fsz id b h).2;have:=(k3 b hb).1;omega
  have lu:i≠i0->x= .und->wpAny P .any ops Q fuel (listed.setIfInBounds i true) (a.put o.dst undef) w:=λhii e=>
   hset undef w A (Keeps.refl _ _) hw (λ_ h=>h) (λ_=>by subst e;exact .und) (hkeep undef w A hii (Keeps.refl _ _) λ_ h=> .inl h)
  unfold wpOp;simp only [h2];unfold Does at hd1;split at hd1
  ·rename_i hg;rw [if_pos (by simp [Region.wanted,hg])];by_cases hii:i=i0
   ·exact .inl (hown hii hd1)
   ·exact .inl (hrun hii hd1)
  ·rename_i j want hg'
   have hii:i≠i0:=λe=>by
    have:=(how o (by rw [←e];exact h2l)).2.1;rw [this] at hg';cases hg'
   have hy0:AS.yield ⟨puts (λj=>decide (j<0+i)) 0 (ops.toList.take n) xs s0.fr,s0.os⟩ (ops.toList.take n) j=AS.yield ⟨(puts (λj=>listed.getD j false) 0 (ops.toList.take n) xs s0.fr).set d0 .any,s0.os⟩ (ops.toList.take n) j:=by
    unfold AS.yield
    cases hj:(ops.toList.take n)[j]? with
    |none=>rfl
    | some oj=>
     cases hdj:oj.dst with
     |none=>simp only [hdj]
     | some d=>
      have:=hne d (cz _ (by simp [dI,hg',hj,hdj]));simp only [hdj,ad,this]
   rw [hy0] at hd1;split at hd1
   ·exact hd1.elim
   ·rename_i hy;have:=dQ (s:=⟨(puts (λj=>listed.getD j false) 0 (ops.toList.take n) xs s0.fr).set d0 .any,s0.os⟩) hf (lT hy);rw [if_neg (by simp [Region.wanted,hg',this])];exact lu hii hd1
   ·rename_i b hy;have:=dQ (s:=⟨(puts (λj=>listed.getD j false) 0 (ops.toList.take n) xs s0.fr).set d0 .any,s0.os⟩) hf (lT hy);split at hd1
    ·rename_i e;subst e;rw [if_pos (by simp [Region.wanted,hg',this])];exact .inl (hrun hii hd1)
    ·rename_i e;rw [if_neg (by simp [Region.wanted,hg',this,e])];exact lu hii hd1
theorem Js {ops:List Oper}:iL L ops<=ops.length/\∀(i:Nat) o,iL L ops<=i->ops[i]? =some o->(∀e∈o.after,bnd e=true->e.on<i)/\
  ∀S:Nat->Prop,Closed ops S->(∀e∈o.after,bnd e=true->S e.on)->∀j,j<i->S j:=by
 unfold iL;split
 ·exact Qb
 ·split
  ·exact ⟨aq _,λi o hi ho=>by
    have:=(aa.1 ho).1
    omega⟩
  ·exact Qb
theorem wV {ops:Array Oper} {n:Nat} (hdr:jS (ops.toList.take n) 0 (ops.toList.take n)=true) (hn:n<=ops.size):Closed ops.toList (λj=>j<n):=λi o ho hi e he hb=>by
 have h1:=((jf hdr).1 i o (by rw [be,if_pos hi];exact ho)).edges e he hb;rw [bw] at h1;show e.on<n;omega
theorem QG [St] (hL:L.ty=bR P) (hm:P.follows .mixedOrders=true) {id:Nat} {ops:Array Oper} (hdr:jS (ops.toList.take (iL L ops.toList)) 0 (ops.toList.take (iL L ops.toList))=true) {Q:Exit->Act->World->Prop} {K:AS->Prop} (hQ:∀s' a' w' A' hd' F',K s'->CW W w' A' s'.os hd' F'->FR w' A' s'.os hd' s'.fr a'->Q .normal a' w')
  (hw:CW W w A s.os hd F) (hf:FR w A s.os hd s.fr a) (hk:jr (bG np P) L true (ops.toList.take (iL L ops.toList)) (ops.toList.take (iL L ops.toList)) s λs'=>jr (bG np P) L false ops.toList (ops.toList.drop (iL L ops.toList)) s' K):(Code.region id ops true).wp P Q a w:=by
 have hkp:=Keeps.drew w;have hw':=hw.keep hkp;have hf':FR w.drew A s.os hd s.fr a:=hf.to λy u hy=>hy.keep (λb hb=>(hw.hA b hb).1) hkp;obtain ⟨xs,sf,ht,hK⟩:=rG hL (ops.toList.take (iL L ops.toList)) s a w.drew A hw' hf' hk;have hcut:=Js (L:=L) (ops:=ops.toList);have tC:iL L ops.toList<=ops.size:=by simpa using hcut.1
 obtain ⟨hlen,hos,hfr,_⟩:=rH (ops.toList.take (iL L ops.toList)) s xs sf ht 0;refine wp_region_any hm (BD hL (λ_=>False) hdr ht tC (λi o hi ho S hS he j hj _=>(hcut.2 i o hi ho).2 S hS he j (by omega)) (λfuel listed a' w' A' g1 gc gge g2 _ h1 h2=>?_) ops.size (Array.replicate ops.size false) a w.drew A (by simp) ?_ ?_ ?_ hw' ?_)
 ·have hall:∀i,i<iL L ops.toList->listed.getD i false=true:=λi hi=>by
   cases h:listed.getD i false
   ·exact (g2 i hi h).elim
   ·rfl
  have e:puts (λj=>listed.getD j false) 0 (ops.toList.take (iL L ops.toList)) xs s.fr=sf.fr:=by
   rw [hfr];refine cC λt=>fP _ _ _ _ _ (λm o ho _=>?_) rfl;(have:m<iL L ops.toList:=by have:=(aa.1 ho).1;simp at this;omega);simpa using hall m this
  rw [e] at h2
  have hfu:ops.size - iL L ops.toList<=fuel:=by
   have hsub:(List.range' (iL L ops.toList) (ops.size - iL L ops.toList)).length<=((List.range ops.size).filter λi=> !listed.getD i true).length:=by
    refine ki (List.nodup_range' ..) (λj hj=>?_);have h1:=List.mem_range'_1.1 hj;refine cV.2 ⟨cL.2 (by omega),?_⟩;(have h2:j<listed.size:=by omega);have h3:=gge j h1.1 (by omega);simp [Array.getD,h2] at h3 ⊢;exact h3
   rw [nf] at hsub;omega
  refine Qu hL hcut.2 hQ fuel (iL L ops.toList) listed sf a' w' A' hd F (aq _) tC g1 (λj hj=>?_) hfu ?_ (by rw [hos];exact h1) (by rw [hos];exact h2) hK
  ·by_cases hjn:j<iL L ops.toList
   ·rw [hall j hjn];simp [hjn]
   ·rw [gge j (by omega) hj];simp [hjn]
  ·exact wV hdr tC
 ·exact cE (dm _ _) (by simp)
 ·intro j _ hj;simp [hj]
 ·intro i o ho hi;exfalso;have:i<ops.size:=by simpa using (aa.1 ho).1
  simp [this] at hi
 ·have e:puts (λj=>(Array.replicate ops.size false).getD j false) 0 (ops.toList.take (iL L ops.toList)) xs s.fr=s.fr:=by
   have h0:(λj=>(Array.replicate ops.size false).getD j false)=λ_=>false:=by
    funext j;by_cases h:j<ops.size<;>simp [h]
   rw [h0]
   have e2:∀(l:List Oper) (i:Nat) (xs fr:List AV),puts (λ_=>false) i l xs fr=fr:=by
    intro l
    induction l with
    |nil=>intro i xs fr;simp [puts]
    |cons o l ih=>intro i xs fr;cases xs with|nil=>simp [puts]|cons x xs=>simp [puts,xk,ih]
   exact e2 _ _ _ _
  rw [e];exact hf'
theorem BU {t:Nat}:∀{l:List Oper} {i0 i:Nat},madeBy t i0 l=some i->i0<=i/\i<i0+l.length/\∀o,l[i - i0]? =some o->o.dst=some t/\o.guard=none/\∃c f,o.op= .call c/\c.callee= .value (.func f)
 |[],_,_,h=>by cases h
 | o ::l,i0,i,h=>by
  have next:madeBy t (i0+1) l=some i->i0<=i/\i<i0+(o::l).length/\∀o',(o::l)[i - i0]? =some o'->o'.dst=some t/\o'.guard=none/\∃c f,o'.op= .call c/\c.callee= .value (.func f):=λh=>by
   obtain ⟨h1,h2,h3⟩:=BU h;refine ⟨by omega,by simp;omega,λo' ho=>h3 o' ?_⟩;rw [show i - i0=(i - (i0+1))+1 by omega] at ho;simpa using ho
  unfold madeBy at h;split at h
  ·rename_i d hd;split at h
   ·rename_i e;subst e;split at h
    ·rename_i c hg hop;split at h
     ·rename_i f hc;cases h;refine ⟨aq _,by simp,λo' ho=>?_⟩;simp at ho;subst ho;exact ⟨hd,hg,c,f,hop,hc⟩
     ·cases h
    ·cases h
   ·exact next h
  ·exact next h
theorem KC {pre suf:List Oper} {i d:Nat} (h:DI pre suf=some (i,d)):i<pre.length/\unread d pre pre=true/\∀o,pre[i]? =some o->o.dst=some d/\o.guard=none/\∃c f,o.op= .call c/\c.callee= .value (.func f):=by
 unfold DI at h;split at h
 ·cases h
 ·split at h
  ·cases h
  ·rename_i i' hi;split at h
   ·rename_i hu;cases h;obtain ⟨_,h2,h3⟩:=BU hi;exact ⟨by omega,hu,λo ho=>h3 o (by simpa using ho)⟩
   ·cases h
theorem TU [St] (hL:L.ty=bR P) (hm:P.follows .mixedOrders=true) {id:Nat} {ops:Array Oper} (hdr:jS (ops.toList.take (iL L ops.toList)) 0 (ops.toList.take (iL L ops.toList))=true) {i0 d0:Nat} (hsl:DI (ops.toList.take (iL L ops.toList)) (ops.toList.drop (iL L ops.toList))=some (i0,d0)) {Q:Exit->Act->World->Prop} {K:AS->Prop} (hQ:∀s' a' w' A' hd' F',K s'->CW W w' A' s'.os hd' F'->FR w' A' s'.os hd' s'.fr a'->Q .normal a' w')
  (hw:CW W w A s.os hd F) (hf:FR w A s.os hd s.fr a) (hk:jr (bG np P) L true (ops.toList.take (iL L ops.toList)) (ops.toList.take (iL L ops.toList)) s λs'=>match s'.fr.getD d0 .any with
   | .sl true k es=>jr (bG np P) L false ops.toList (ops.toList.drop (iL L ops.toList)) ⟨s'.fr.set d0 (.ob s'.os.length),s'.os++[.row k es]⟩ K
   |_=>False):(Code.region id ops true).wp P Q a w:=by
 have hkp:=Keeps.drew w;have hw':=hw.keep hkp;have hf':FR w.drew A s.os hd s.fr a:=hf.to λy u hy=>hy.keep (λb hb=>(hw.hA b hb).1) hkp;obtain ⟨xs,sf,ht,hK⟩:=rG hL (ops.toList.take (iL L ops.toList)) s a w.drew A hw' hf' hk;have hcut:=Js (L:=L) (ops:=ops.toList);have tC:iL L ops.toList<=ops.size:=by simpa using hcut.1
 obtain ⟨hlen,hos,hfr,qV⟩:=rH (ops.toList.take (iL L ops.toList)) s xs sf ht 0;obtain ⟨hi0,hun,how⟩:=KC hsl;obtain ⟨_,lN⟩:=jf hdr;split at hK
 ·rename_i k0 es0 hx
  have ad8:d0<s.fr.length:=by
   apply aw;intro h;rw [hfr,ad,ar (by rw [eB];omega)] at hx;cases hx
  obtain ⟨o0,ho0⟩:∃o0,(ops.toList.take (iL L ops.toList))[i0]? =some o0:=⟨_,ag hi0⟩
  obtain ⟨x0,hx0,_⟩:=qV i0 o0 ho0
  have hxx:x0= .sl true k0 es0:=by
   have h1:=kW (lst:=λ_=>true) (ops.toList.take (iL L ops.toList)) 0 xs s.fr i0 o0 ho0 (how o0 ho0).1 hx0 rfl (λm' o' g1 g2=>lN m' i0 o' o0 d0 g1 ho0 g2 (how o0 ho0).1) ad8;rw [hfr,ad,h1] at hx;exact hx
  subst hxx;have ahO:i0<iL L ops.toList:=by simp at hi0;omega
  refine wp_region_any hm (YD hL hdr ht tC ahO ad8 hun how hx0 (λi o hi ho S hS he j hj=>(hcut.2 i o hi ho).2 S hS he j (by omega)) (λfuel listed a' w' A' g1 gc gge g2 _ h1 h2 h3=>?_) ops.size (Array.replicate ops.size false) a w.drew A (by simp) ?_ ?_ ?_ hw' ?_ ?_)
  ·have e:puts (λj=>listed.getD j false) 0 (ops.toList.take (iL L ops.toList)) xs s.fr=sf.fr:=by
    rw [hfr];refine cC λt=>fP _ _ _ _ _ (λm o ho _=>?_) rfl;(have:m<iL L ops.toList:=by have:=(aa.1 ho).1;simp at this;omega);simpa using g2 m this
   rw [e] at h2;obtain ⟨G,h4,h5⟩:=h3 (g2 i0 ahO)
   have hfu:ops.size - iL L ops.toList<=fuel:=by
    have hsub:(List.range' (iL L ops.toList) (ops.size - iL L ops.toList)).length<=((List.range ops.size).filter λi=> !listed.getD i true).length:=by
     refine ki (List.nodup_range' ..) (λj hj=>?_);have h1:=List.mem_range'_1.1 hj;refine cV.2 ⟨cL.2 (by omega),?_⟩;(have h2:j<listed.size:=by omega);have h3:=gge j h1.1 (by omega);simp [Array.getD,h2] at h3 ⊢;exact h3
    rw [nf] at hsub;omega
   have hxr:bB w' A' (.sl true k0 es0) (a'.tmps.getD d0 undef) G:=h4.mono (λ_ h=>h.elim) (λ_ _=>rfl);have hcw:=h1.push (.row k0 es0) (a'.tmps.getD d0 undef) G h5 (λk es he=>by cases he;exact hxr) (λcs he=>by cases he)
   have hfr2:FR w' A' (s.os++[.row k0 es0]) (je hd s.os.length (a'.tmps.getD d0 undef)) (sf.fr.set d0 (.ob s.os.length)) a':=by
    refine ⟨h2.qN,by have:=h2.size;simpa using this,λt x hx=>?_⟩;rw [bh] at hx;split at hx
    ·rename_i et;subst et;split at hx
     ·cases hx;exact .ob _ _ (by simp) λk es ho=>by rw [iN]
     ·cases hx
    ·rename_i et;exact (h2.slots t x (by rw [cU et];exact hx)).push _ _
   refine Qu hL hcut.2 hQ fuel (iL L ops.toList) listed _ a' w' A' _ _ (aq _) tC g1 (λj hj=>?_) hfu ?_ (by rw [hos];exact hcw) (by rw [hos];exact hfr2) hK
   ·by_cases hjn:j<iL L ops.toList
    ·rw [g2 j hjn];simp [hjn]
    ·rw [gge j (by omega) hj];simp [hjn]
   ·exact wV hdr tC
  ·exact cE (dm _ _) (by simp)
  ·intro j _ hj;simp [hj]
  ·intro i o ho hi;exfalso;(have:i<ops.size:=by simpa using (aa.1 ho).1);simp [this] at hi
  ·have e:puts (λj=>(Array.replicate ops.size false).getD j false) 0 (ops.toList.take (iL L ops.toList)) xs s.fr=s.fr:=by
    have h0:(λj=>(Array.replicate ops.size false).getD j false)=λ_=>false:=by
     funext j;by_cases h:j<ops.size<;>simp [h]
    rw [h0]
    have e2:∀(l:List Oper) (i:Nat) (xs fr:List AV),puts (λ_=>false) i l xs fr=fr:=by
     intro l
     induction l with
     |nil=>intro i xs fr;simp [puts]
     |cons o l ih=>intro i xs fr;cases xs with|nil=>simp [puts]|cons x xs=>simp [puts,xk,ih]
    exact e2 _ _ _ _
   rw [e];refine ⟨hf'.qN,by have:=hf'.size;simpa using this,λt x hx=>?_⟩;rw [bh] at hx;split at hx
   ·first
     |(cases hx;exact .pure _ _ (.any _))
     | (split at hx
        ·cases hx;exact .pure _ _ (.any _)
        ·cases hx)
   ·exact hf'.slots t x hx
  ·intro h;(have:i0<ops.size:=by omega);simp [this] at h
 ·exact hK.elim
end
end Go.Proofs.YtnlhnideeaobpaaGreatDoor
