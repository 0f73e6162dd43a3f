/- Rows of owned values, opened: the header of each element is known and what it reads as; how such a row is closed again; Rows of structs with owned cells, opened: the exact value of each cell is known; how such a row is closed again; The shelf's contract of slices.SortFunc over structs, as a contract of the interpreter; slices.SortFunc over opened rows (lists of lists): the shelf's contract as one of the interpreter; Contracts: slices.Delete and slices.Insert at lists of aids. -/
import Derived.Test.YtnlhnideeaobpaaGreatDoorQb
import Derived.Test.YtnlhnideeaobpaaGreatDoorAxU
import Derived.Shelf.SlSortCmp.NoneTotal
import Derived.Test.YtnlhnideeaobpaaGreatDoorFA
import Derived.Test.YtnlhnideeaobpaaGreatDoorFB
namespace Go.Proofs.YtnlhnideeaobpaaGreatDoor
open Go Go.RowKit
set_option linter.unusedVariables false
def opn {β:Type} (R:β->AV) (p:Value×β):List AV:=[.hd p.1 (R p.2)]
def clo {β:Type} (R:β->AV) (x:β):List AV:=[R x]
theorem Ar {w:World} {A:Nat->Prop} {x:AV} {v u:Value} (h:Rel w A (.hd v x) u):u=v/\Rel w A x v:=by
 cases h with
 |hd _ _ _ h=>exact ⟨rfl,h⟩
theorem AC.hd2 [St] {α:Type} {P:Program} {f:FuncId} {x y:AV} {u v:Value} {caps:List AV} {R:α->AV} {r:α} (h:AC P f (x::y::caps) R r):AC P f (.hd u x:: .hd v y::caps) R r:=
 ⟨h.1,λw vs hg hr=>h.2 w vs hg ⟨hr.1,λi a ha=>by
  match i,ha with
  |0,ha=>cases ha;obtain ⟨e,h⟩:=Ar (hr.2 0 _ rfl);rw [e];exact h
  |1,ha=>cases ha;obtain ⟨e,h⟩:=Ar (hr.2 1 _ rfl);rw [e];exact h
  |i+2,ha=>exact hr.2 (i+2) a ha⟩⟩
theorem AC.hd1 [St] {α:Type} {P:Program} {f:FuncId} {x:AV} {u:Value} {caps:List AV} {R:α->AV} {r:α} (h:AC P f (x::caps) R r):AC P f (.hd u x::caps) R r:=
 ⟨h.1,λw vs hg hr=>h.2 w vs hg ⟨hr.1,λi a ha=>by
  match i,ha with
  |0,ha=>cases ha;obtain ⟨e,h⟩:=Ar (hr.2 0 _ rfl);rw [e];exact h
  |i+1,ha=>exact hr.2 (i+1) a ha⟩⟩
theorem open_row {β:Type} {R:β->AV} {w:World} {A:Nat->Prop} {l:List β} {v:Value} {F:Nat->Prop} (h:bB w A (.sl true 1 (l.map (clo R))) v F):
  ∃ (ls:List (Value×β)) (B:Nat->Prop) (H:Nat->Nat->Prop),ls.map Prod.snd=l/\(∀p∈ls,p.1.oneCell'=true)/\(∀(i:Nat) p,ls[i]? =some p->bB w A (R p.2) p.1 (H i))/\(∀x,F x↔B x∨∃i,i<l.length/\H i x)/\(∀i x,i<l.length->H i x->¬B x)/\
   (∀i j x,i<l.length->j<l.length->H i x->H j x->i=j)/\∀A2:Nat->Prop,(∀x,A x->A2 x)->(∀i x,i<l.length->H i x->A2 x)->bB w A2 (.sl true 1 (ls.map (opn R))) v B:=by
 rcases pO h with ⟨h1,rfl,h3⟩|⟨cap,b,T,c,G,rfl,hb,hl,hcap,hsz,hk,h1,hr,hF,h0,hd⟩
 ·have:l=[]:=by simpa using h1
  subst this;exact ⟨[],λ_=>False,λ_ _=>False,rfl,by simp,by simp,λx=>⟨λh=>(h3 x h).elim,λh=>h.elim (λh=>h.elim) λ⟨_,h,_⟩=>by simp at h⟩,λi x h=>by simp at h,λi j x h=>by simp at h,λA2 _ _=> .nil 1 _ (λ_ h=>h)⟩
 ·rw [al] at hl hcap h1 h0 hd ⊢
  have hg:∀i,(l.zipIdx.map λq=>(c.getD (q.2*1+0) undef,q.1))[i]? =(l[i]?).map λx=>(c.getD (i*1+0) undef,x):=λi=>by
   rw [ai,hY];cases l[i]?<;>simp
  obtain ⟨ls,hls⟩:∃ls,ls=l.zipIdx.map λq=>(c.getD (q.2*1+0) undef,q.1):=⟨_,rfl⟩
  rw [←hls] at hg;have hlen:ls.length=l.length:=by rw [hls];simp
  have hone:∀(i:Nat) (p:Value×β),ls[i]? =some p->p.1.oneCell'=true:=λi p hp=>by
   rw [hg] at hp
   cases hx:l[i]? with
   |none=>rw [hx] at hp;cases hp
   | some x=>
    rw [hx] at hp;cases hp;exact h1 i 0 (aa.1 hx).1 (by omega)
  have hrr:∀(i:Nat) p,ls[i]? =some p->p.1=c.getD (i*1+0) undef/\bB w A (R p.2) p.1 (G i 0):=λi p hp=>by
   rw [hg] at hp
   cases hx:l[i]? with
   |none=>rw [hx] at hp;cases hp
   | some x=>
    rw [hx] at hp;cases hp;exact ⟨rfl,hr i 0 (clo R x) (R x) (by rw [ai,hx];rfl) rfl⟩
  refine ⟨ls,λx=>x=b,λi x=>G i 0 x,?_,λp hp=>?_,λi p hp=>(hrr i p hp).2,λx=>?_,λi x hi hx e=>?_,λi j x hi hj h2 h3=>(hd i 0 j 0 x hi (by omega) hj (by omega) h2 h3).1,λA2 hA hH=>?_⟩
  ·refine cC λi=>?_;rw [ai,hg];cases l[i]?<;>rfl
  ·obtain ⟨i,hi⟩:=ap hp;exact hone i p hi
  ·rw [hF];constructor
   ·rintro (h|⟨i,j,hi,hj,h⟩)
    ·exact .inl h
    ·(have:j=0:=by omega);subst this;exact .inr ⟨i,by simpa using hi,h⟩
   ·rintro (h|⟨i,hi,h⟩)
    ·exact .inl h
    ·exact .inr ⟨i,0,by simpa using hi,by omega,h⟩
  ·exact h0 i 0 hi (by omega) (e ▸ hx)
  ·have key:=bB.sl (w:=w) (A:=A2) 1 (ls.map (opn R)) cap b T c (λx=>x=b) (λ_ _ _=>False) hb (by rw [al,hlen];exact hl) (by rw [al,hlen];exact hcap) hsz (λe he=>by obtain ⟨p,_,rfl⟩:=cA.1 he;rfl)
    (λi j hi hj=>by rw [al,hlen] at hi;exact h1 i j hi hj) (λi j e a he ha=>?_) (λx=>⟨.inl,λh=>h.elim id λ⟨_,_,_,_,h⟩=>h.elim⟩) (λ_ _ _ _ h=>h) (λ_ _ _ _ _ _ _ _ _ h=>h.elim)
   ·rw [al,hlen] at key;exact key
   ·rw [ai] at he
    cases hp:ls[i]? with
    |none=>rw [hp] at he;cases he
    | some p=>
     rw [hp] at he;cases he;have hi:i<l.length:=by rw [←hlen];exact (aa.1 hp).1
     cases j with
     |succ j=>simp [opn] at ha
     | zero=>
      cases ha;obtain ⟨e1,e2⟩:=hrr i p hp;rw [←e1];have ho:=hone i p hp;exact .pure _ _ _ (.hd _ _ ho (e2.rel hA λx hx=>hH i x hi hx)) rfl (λ_ h=>h)
def Sel {α:Type} (m l:List α):Prop:=∃idx:List Nat,idx.Nodup/\m.map some=idx.map λi=>l[i]?
theorem Sel.get {α:Type} {m l:List α} {idx:List Nat} (h:m.map some=idx.map λi=>l[i]?) {t:Nat} {p:α} (hp:m[t]? =some p):∃i,idx[t]? =some i/\l[i]? =some p:=by
 have h1:=congrArg (λq=>q[t]?) h;simp only [ai,hp,cF] at h1
 cases hi:idx[t]? with
 |none=>rw [hi] at h1;cases h1
 |some i=>rw [hi] at h1;exact ⟨i,rfl,by simpa using h1.symm⟩
theorem Sel.perm {α:Type} {m l:List α} (h:m.Perm l):Sel m l:=by
 have key:∀{β:Type} {a b:List β},a.Perm b->∀{γ:Type} (f:γ->β) (l2:List γ),b=l2.map f->∃l1:List γ,l1.Perm l2/\a=l1.map f:=by
  intro β a b hp
  induction hp with
  |nil=>intro γ f l2 h2;exact ⟨l2,.refl _,h2⟩
  | cons x _ ih=>
   intro γ f l2 h2
   cases l2 with
   |nil=>cases h2
   | cons y l2=>
    rw [dj] at h2;injection h2 with e1 e2;obtain ⟨l1,g1,g2⟩:=ih f l2 e2;exact ⟨y::l1,g1.cons y,by rw [dj,←g2,e1]⟩
  | swap x y l=>
   intro γ f l2 h2
   match l2,h2 with
   | p::q::l2,h2=>
    simp only [dj,List.cons.injEq] at h2;obtain ⟨e1,e2,e3⟩:=h2;exact ⟨q::p::l2,.swap _ _ _,by simp [e1,e2,e3]⟩
  | trans _ _ ih1 ih2=>
   intro γ f l2 h2;obtain ⟨l1,g1,g2⟩:=ih2 f l2 h2;obtain ⟨l0,g3,g4⟩:=ih1 f l1 g2;exact ⟨l0,g3.trans g1,g4⟩
 have e:l.map some=(List.range l.length).map λi=>l[i]?:=by
  refine cC λi=>?_;rw [ai,ai];by_cases hi:i<l.length
  ·rw [cM hi,ag hi];simp [hi]
  ·rw [ar (by omega),ar (by simpa using hi)];rfl
 obtain ⟨idx,h1,h2⟩:=key (h.map some) (λi=>l[i]?) (List.range l.length) e;exact ⟨idx,h1.nodup_iff.2 j9,h2⟩
theorem ACM.close [St] {P:Program} {f:FuncId} {β:Type} {R:β->AV} (hR:∀x,NoB (R x)) {rest:List AV} {l:List β} {Q:AV->List AV->Prop} (hent:Enters P f)
  (h:∀ls:List (Value×β),ls.map Prod.snd=l->(∀p∈ls,p.1.oneCell'=true)->ACS P f (.sl true 1 (ls.map (opn R))::rest) (λr ys=>∃(pos:Nat) (m:List (Value×β)) (r':AV) (ys':List AV),Sel m ls/\(r::ys)[pos]? =some (.sl true 1 (m.map (opn R)))/\
   (∀(j:Nat) a,j≠pos->(r::ys)[j]? =some a->NoB a)/\r'::ys'=(r::ys).set pos (.sl true 1 ((m.map Prod.snd).map (clo R)))/\Q r' ys')):ACM P f (.sl true 1 (l.map (clo R))::rest) Q:=by
 refine ⟨hent,λw A vs F hg hX hA hFs hNG=>?_⟩
 cases hX with
 |pure _ _ _ _ ho _=>simp [AV.dF] at ho
 | tup _ _ _ G hn hc hFe hd=>
  have h0:bB w A (.sl true 1 (l.map (clo R))) (vs.getD 0 undef) (G 0):=hc 0 _ rfl;obtain ⟨ls,B,H,e1,e2,e3,e4,e5,e6,e7⟩:=open_row h0;have hF0:∀x,G 0 x->F x:=λx hx=>(hFe x).2 ⟨0,by simp,hx⟩;have hHF:∀i x,i<l.length->H i x->F x:=λi x hi hx=>hF0 x ((e4 x).2 (.inr ⟨i,hi,hx⟩));have hlen:ls.length=l.length:=by rw [←e1,al]
  have hX2:bB w (λx=>A x∨∃i,i<l.length/\H i x) (.tup (.sl true 1 (ls.map (opn R))::rest)) (.tuple vs) (λx=>F x/\¬∃i,i<l.length/\H i x):=by
   refine .tup _ _ _ (λj x=>if j=0 then B x else G j x) (by simpa using hn) (λj a ha=>?_) (λx=>?_) (λi j x hi hj h1 h2=>?_)
   ·cases j with
    |zero=>cases ha;exact (e7 _ (λx hx=> .inl hx) (λi x hi hx=> .inr ⟨i,hi,hx⟩)).congr λx=>by rw [if_pos rfl]
    |succ j=>exact (bB.mono (λx hx=> .inl hx) (hc (j+1) a ha) (λ_ _=>rfl)).congr λx=>by rw [if_neg (by omega)]
   ·constructor
    ·rintro ⟨hf,hno⟩;obtain ⟨j,hj,hx⟩:=(hFe x).1 hf;refine ⟨j,by simpa using hj,?_⟩;by_cases e:j=0
     ·subst e;rw [if_pos rfl];exact ((e4 x).1 hx).resolve_right hno
     ·rw [if_neg e];exact hx
    ·rintro ⟨j,hj,hx⟩;by_cases e:j=0
     ·subst e;rw [if_pos rfl] at hx;exact ⟨hF0 x ((e4 x).2 (.inl hx)),λ⟨i,hi,h⟩=>e5 i x hi h hx⟩
     ·rw [if_neg e] at hx;refine ⟨(hFe x).2 ⟨j,by simpa using hj,hx⟩,λ⟨i,hi,h⟩=>?_⟩;exact e (hd 0 j x (by simp) (by simpa using hj) ((e4 x).2 (.inr ⟨i,hi,h⟩)) hx).symm
   ·have tr:∀i,(if i=0 then B x else G i x)->G i x:=λi h=>by
     by_cases e:i=0
     ·subst e;rw [if_pos rfl] at h;exact (e4 x).2 (.inl h)
     ·rw [if_neg e] at h;exact h
    exact hd i j x (by simpa using hi) (by simpa using hj) (tr i h1) (tr j h2)
  refine ((h ls e1 e2).2 w _ vs _ hg hX2 (λb hb=>?_) (λb hb=>hFs b hb.1) (λb hb=>hNG b hb.1)).mono ?_
  ·rcases hb with hb|⟨i,hi,hb⟩
   ·exact ⟨(hA b hb).1,λh=>(hA b hb).2 h.1⟩
   ·exact ⟨hFs b (hHF i b hi hb),λh=>h.2 ⟨i,hi,hb⟩⟩
  ·rintro e w' ⟨v,G',A',r,ys,⟨pos,m,r',ys',⟨idx,hnd,hidx⟩,hpos,hoth,hset,hQ⟩,rfl,hkp,hX3,hG',hA'⟩
   have hlt:∀(t i:Nat),idx[t]? =some i->t<m.length->i<l.length:=λt i hi ht=>by
    (obtain ⟨p,hp⟩:∃p,m[t]? =some p:=⟨_,ag ht⟩);obtain ⟨i',h1,h2⟩:=Sel.get hidx hp;rw [hi] at h1;cases h1;rw [←hlen];exact (aa.1 h2).1
   have hil:idx.length=m.length:=by have:=congrArg List.length hidx;simpa using this.symm
   cases hX3 with
   |pure _ _ _ _ ho _=>simp [AV.dF] at ho
   | tup _ _ _ Gc hn3 hc3 aa2 hd3=>
    have FN:=(aa.1 hpos).1;have hrow:=hc3 pos _ hpos
    have aa1:∀j x,j<(r::ys).length->Gc j x->F x∨w.heap.size<=x/\x<w'.heap.size:=λj x hj hx=>by
     rcases hG' x ((aa2 x).2 ⟨j,hj,hx⟩) with h1|h1
     ·exact .inl h1.1
     ·exact .inr h1
    have hHG:∀i j x,i<l.length->j<(r::ys).length->H i x->¬Gc j x:=λi j x hi hj h1 h2=>by
     rcases hG' x ((aa2 x).2 ⟨j,hj,h2⟩) with h3|h3
     ·exact h3.2 ⟨i,hi,h1⟩
     ·have:=hFs x (hHF i x hi h1);omega
    have hkb:∀x,A x∨(∃i,i<l.length/\H i x)->w'.heap[x]? =w.heap[x]?:=λx hx=>by
     refine hkp.block x ?_ λh2=>?_
     ·rcases hx with h1|⟨i,hi,h1⟩
      ·exact (hA x h1).1
      ·exact hFs x (hHF i x hi h1)
     ·rcases hx with h1|h1
      ·exact (hA x h1).2 h2.1
      ·exact h2.2 h1
    have hin:∀(i:Nat) p,ls[i]? =some p->bB w' (λ_=>False) (R p.2) p.1 (H i):=λi p hp=>by
     (have hi:i<l.length:=by rw [←hlen];exact (aa.1 hp).1);have h1:bB w' A (R p.2) p.1 (H i):=(e3 i p hp).mono (λ_ h=>h) λx hx=>hkb x (hx.imp_right λh=>⟨i,hi,h⟩);exact h1.noB (hR _)
    have hnew:bB w' (λ_=>False) (.sl true 1 ((m.map Prod.snd).map (clo R))) ((#[v]++vs).getD pos undef) (λx=>Gc pos x∨∃t i,t<m.length/\idx[t]? =some i/\H i x):=by
     rcases pO hrow with ⟨g1,g2,g3⟩|⟨cap,b,T,c,Gr,g1,hb,hl,hcap,hsz,hk,h1,hr,hF,h0,hdr⟩
     ·(have:m=[]:=by simpa using g1);subst this;rw [g2];exact .nil 1 _ λx hx=>hx.elim (g3 x) λ⟨t,i,h,_⟩=>by simp at h
     ·have hval:∀t p,m[t]? =some p->c.getD (t*1+0) undef=p.1:=λt p hp=>by
       have h2:=hr t 0 (opn R p) (.hd p.1 (R p.2)) (by rw [ai,hp];rfl) rfl
       cases h2 with
       |pure _ _ _ h2 _ _=>exact (Ar h2).1
      rw [al] at hl hcap h1 h0 hdr g1;rw [g1];have hbG:Gc pos b:=(hF b).2 (.inl rfl)
      have key:=bB.sl (w:=w') (A:=λ_=>False) 1 ((m.map Prod.snd).map (clo R)) cap b T c (λx=>Gc pos x∨∃t i,t<m.length/\idx[t]? =some i/\H i x) (λt j x=>(Gr t j x/\False)∨∃i,idx[t]? =some i/\H i x) hb
       (by simpa using hl) (by simpa using hcap) hsz (λe he=>by obtain ⟨p,_,rfl⟩:=cA.1 he;rfl) (λt j ht hj=>h1 t j (by simpa using ht) hj)
       (λt j e a he ha=>?_) (λx=>?_) (λt j ht hj hx=>?_) (λt j t' j' x ht hj ht' hj' hx hx'=>?_)
      ·rw [al,al] at key;exact key
      ·rw [ai,ai] at he
       cases hp:m[t]? with
       |none=>rw [hp] at he;cases he
       | some p=>
        rw [hp] at he;cases he
        cases j with
        |succ j=>simp [clo] at ha
        | zero=>
         cases ha;obtain ⟨i,hi,hpi⟩:=Sel.get hidx hp;rw [hval t p hp];exact (hin i p hpi).congr λx=>⟨λh=>h.elim (λh=>h.2.elim) (λ⟨i',h1,h2⟩=>by rw [hi] at h1;cases h1;exact h2),λh=> .inr ⟨i,hi,h⟩⟩
      ·constructor
       ·rintro (hx|⟨t,i,ht,hi,hx⟩)
        ·rcases (hF x).1 hx with hx|⟨t,j,ht,hj,hx⟩
         ·exact .inl hx
         ·exfalso;rw [al] at ht;(have:j=0:=by omega);subst this;have h2:=hr t 0 (opn R m[t]) (.hd m[t].1 (R m[t].2)) (by rw [ai,ag ht];rfl) rfl
          cases h2 with
          |pure _ _ _ _ _ hno=>exact hno x hx
        ·exact .inr ⟨t,0,by simpa using ht,by omega,.inr ⟨i,hi,hx⟩⟩
       ·rintro (hx|⟨t,j,ht,hj,hx⟩)
        ·exact .inl (hx ▸ hbG)
        ·rcases hx with hx|⟨i,hi,hx⟩
         ·exact hx.2.elim
         ·exact .inr ⟨t,i,by simpa using ht,hi,hx⟩
      ·rcases hx with hx|⟨i,hi,hx⟩
       ·exact hx.2
       ·rw [al,al] at ht;exact hHG i pos b (hlt t i hi ht) FN hx hbG
      ·rw [al,al] at ht ht';rcases hx with hx|⟨i,hi,hx⟩
       ·exact hx.2.elim
       ·rcases hx' with hx'|⟨i',hi',hx'⟩
        ·exact hx'.2.elim
        ·have e:=e6 i i' x (hlt t i hi ht) (hlt t' i' hi' ht') hx hx';subst e;have:=(lw (i:=t) (j:=t') (by omega) hnd).1 (hi.trans hi'.symm);exact ⟨this,by omega⟩
    refine ⟨v,λx=>∃j,j<(r'::ys').length/\(if j=pos then Gc pos x∨∃t i,t<m.length/\idx[t]? =some i/\H i x else Gc j x),r',ys',hQ,rfl,hkp.weaken (λx h=>h.1),?_,λb hb=>?_⟩
    ·(have hle:(r'::ys').length=(r::ys).length:=by rw [hset,bo]);refine .tup _ _ _ (λj x=>if j=pos then Gc pos x∨∃t i,t<m.length/\idx[t]? =some i/\H i x else Gc j x) (by rw [hle];exact hn3) (λj a ha=>?_) (λx=>i8) (λi j x hi hj h1 h2=>?_)
     ·rw [hset,bh] at ha;by_cases e:pos=j
      ·rw [if_pos e,if_pos FN] at ha;cases ha;subst e;exact hnew.congr λx=>by rw [if_pos rfl]
      ·rw [if_neg e] at ha;refine ((hc3 j a ha).noB (hoth j a (cI e) ha)).congr λx=>?_;rw [if_neg (cI e)]
     ·rw [hle] at hi hj;by_cases ei:i=pos
      ·by_cases ej:j=pos
       ·rw [ei,ej]
       ·rw [if_pos ei] at h1;rw [if_neg ej] at h2;rcases h1 with h1|⟨t,k,ht,hk,h1⟩
        ·rw [ei];exact hd3 pos j x FN hj h1 h2
        ·exact (hHG k j x (hlt t k hk ht) hj h1 h2).elim
      ·by_cases ej:j=pos
       ·rw [if_neg ei] at h1;rw [if_pos ej] at h2;rcases h2 with h2|⟨t,k,ht,hk,h2⟩
        ·rw [ej];exact hd3 i pos x hi FN h1 h2
        ·exact (hHG k i x (hlt t k hk ht) hi h2 h1).elim
       ·rw [if_neg ei] at h1;rw [if_neg ej] at h2;exact hd3 i j x hi hj h1 h2
    ·obtain ⟨j,hj,hb⟩:=hb;(have hle:(r'::ys').length=(r::ys).length:=by rw [hset,bo]);rw [hle] at hj;by_cases e:j=pos
     ·rw [if_pos e] at hb;rcases hb with hb|⟨t,k,ht,hk,hb⟩
      ·exact aa1 pos b FN hb
      ·exact .inl (hHF k b (hlt t k hk ht) hb)
     ·rw [if_neg e] at hb;exact aa1 j b hj hb
theorem ACS.mono [St] {P:Program} {f:FuncId} {us:List AV} {Q Q':AV->List AV->Prop} (h:ACS P f us Q) (hq:∀r ys,Q r ys->Q' r ys):ACS P f us Q':=
 ⟨h.1,λw A vs F g1 g2 g3 g4 g5=>(h.2 w A vs F g1 g2 g3 g4 g5).mono λe w' ⟨v,G,A',r,ys,h1,h2⟩=>⟨v,G,A',r,ys,hq _ _ h1,h2⟩⟩
def opr (q:List (Value×AV)):List AV:=q.map λp=> .hd p.1 .any
def clr (q:List (Value×AV)):List AV:=q.map Prod.snd
theorem ZN (q:List (Value×AV)):∀c∈opr q,c.mX=true:=λc hc=>by
 obtain ⟨p,_,rfl⟩:=cA.1 hc;rfl
theorem WW {k:Nat} {w:World} {A:Nat->Prop} {es:List (List AV)} {v:Value} {F:Nat->Prop} (h:bB w A (.sl true k es) v F):
  ∃ (ls:List (List (Value×AV))) (B:Nat->Prop) (H:Nat->Nat->Nat->Prop),ls.map clr=es/\(∀q∈ls,q.length=k)/\(∀(i j:Nat) q p,ls[i]? =some q->q[j]? =some p->bB w A p.2 p.1 (H i j))/\(∀x,F x↔B x∨∃i j,i<es.length/\j<k/\H i j x)/\(∀i j x,i<es.length->j<k->H i j x->¬B x)/\
   (∀i j i' j' x,i<es.length->j<k->i'<es.length->j'<k->H i j x->H i' j' x->i=i'/\j=j')/\∀A2:Nat->Prop,bB w A2 (.sl true k (ls.map opr)) v B:=by
 rcases pO h with ⟨h1,rfl,h3⟩|⟨cap,b,T,c,G,rfl,hb,hl,hcap,hsz,hk,h1,hr,hF,h0,hd⟩
 ·subst h1;exact ⟨[],λ_=>False,λ_ _ _=>False,rfl,by simp,by simp,λx=>⟨λh=>(h3 x h).elim,λh=>h.elim (λh=>h.elim) λ⟨_,_,h,_⟩=>by simp at h⟩,λi j x h=>by simp at h,λi j i' j' x h=>by simp at h,λA2=> .nil k _ (λ_ h=>h)⟩
 ·obtain ⟨ls,hls⟩:∃ls,ls=es.zipIdx.map λq=>q.1.zipIdx.map λr=>(c.getD (q.2*k+r.2) undef,r.1):=⟨_,rfl⟩
  have hg:∀i:Nat,ls[i]? =(es[i]?).map λe=>e.zipIdx.map λr=>(c.getD (i*k+r.2) undef,r.1):=λi=>by
   rw [hls,ai,hY];cases es[i]?<;>simp
  have hlen:ls.length=es.length:=by rw [hls];simp
  have hq:∀(i:Nat) q,ls[i]? =some q->∃e,es[i]? =some e/\q.length=k/\clr q=e/\∀(j:Nat) p,q[j]? =some p->p.1=c.getD (i*k+j) undef/\e[j]? =some p.2:=λi q h=>by
   rw [hg] at h
   cases hx:es[i]? with
   |none=>rw [hx] at h;cases h
   | some e=>
    rw [hx] at h;cases h;refine ⟨e,rfl,by simpa using hk e (ae hx),?_,λj p hp=>?_⟩
    ·refine cC λj=>?_;rw [clr,ai,ai,hY];cases e[j]?<;>simp
    ·rw [ai,hY] at hp
     cases hy:e[j]? with
     |none=>rw [hy] at hp;cases hp
     |some a=>rw [hy] at hp;cases hp;exact ⟨by simp only [bw],rfl⟩
  have hil:∀(i:Nat) q,ls[i]? =some q->i<es.length:=λi q h=>by rw [←hlen];exact (aa.1 h).1
  refine ⟨ls,λx=>x=b,G,?_,λq hm=>?_,λi j q p h2 hp=>?_,λx=>hF x,λi j x hi hj hx e=>h0 i j hi hj (e ▸ hx),hd,λA2=>?_⟩
  ·refine cC λi=>?_;rw [ai]
   cases h2:ls[i]? with
   | none=>
    rw [ar (by have:=ii.1 h2;omega)];rfl
   | some q=>
    obtain ⟨e,g1,_,g2,_⟩:=hq i q h2;rw [g1,←g2];rfl
  ·obtain ⟨i,hi⟩:=ap hm;exact (hq i q hi).choose_spec.2.1
  ·obtain ⟨e,g1,_,_,g3⟩:=hq i q h2;obtain ⟨g4,g5⟩:=g3 j p hp;rw [g4];exact hr i j e p.2 g1 g5
  ·have key:=bB.sl (w:=w) (A:=A2) k (ls.map opr) cap b T c (λx=>x=b) (λ_ _ _=>False) hb (by rw [al,hlen];exact hl) (by rw [al,hlen];exact hcap) hsz (λe he=>by
     obtain ⟨q,hm,rfl⟩:=cA.1 he;obtain ⟨i,hi⟩:=ap hm
     rw [opr,al];exact (hq i q hi).choose_spec.2.1)
    (λi j hi hj=>by rw [al,hlen] at hi;exact h1 i j hi hj) (λi j e a he ha=>?_) (λx=>⟨.inl,λh=>h.elim id λ⟨_,_,_,_,h⟩=>h.elim⟩) (λ_ _ _ _ h=>h) (λ_ _ _ _ _ _ _ _ _ h=>h.elim)
   ·rw [al,hlen] at key;exact key
   ·rw [ai] at he
    cases hp:ls[i]? with
    |none=>rw [hp] at he;cases he
    | some q=>
     rw [hp] at he;cases he;obtain ⟨e',g1,g0,_,g3⟩:=hq i q hp;rw [opr,ai] at ha
     cases hp2:q[j]? with
     |none=>rw [hp2] at ha;cases ha
     | some p=>
      rw [hp2] at ha;cases ha;obtain ⟨g4,_⟩:=g3 j p hp2;(have hj:j<k:=by rw [←g0];exact (aa.1 hp2).1);have ho:=h1 i j (hil i q hp) hj;rw [←g4] at ho ⊢;exact .pure _ _ _ (.hd _ _ ho (.any _)) rfl (λ_ h=>h)
theorem ACM.agK [St] {P:Program} {f:FuncId} {k:Nat} {rest:List AV} {es:List (List AV)} (hR:∀e∈es,∀a∈e,NoB a) {Q:AV->List AV->Prop} (hent:Enters P f)
  (h:∀ls:List (List (Value×AV)),ls.map clr=es->(∀q∈ls,q.length=k)->ACS P f (.sl true k (ls.map opr)::rest) (λr ys=>∃(pos:Nat) (m:List (List (Value×AV))) (r':AV) (ys':List AV),Sel m ls/\(r::ys)[pos]? =some (.sl true k (m.map opr))/\
   (∀(j:Nat) a,j≠pos->(r::ys)[j]? =some a->NoB a)/\r'::ys'=(r::ys).set pos (.sl true k (m.map clr))/\Q r' ys')):ACM P f (.sl true k es::rest) Q:=by
 refine ⟨hent,λw A vs F hg hX hA hFs hNG=>?_⟩
 cases hX with
 |pure _ _ _ _ ho _=>simp [AV.dF] at ho
 | tup _ _ _ G hn hc hFe hd=>
  have h0:bB w A (.sl true k es) (vs.getD 0 undef) (G 0):=hc 0 _ rfl;obtain ⟨ls,B,H,e1,e2,e3,e4,e5,e6,e7⟩:=WW h0;have hF0:∀x,G 0 x->F x:=λx hx=>(hFe x).2 ⟨0,by simp,hx⟩;have hHF:∀i j x,i<es.length->j<k->H i j x->F x:=λi j x hi hj hx=>hF0 x ((e4 x).2 (.inr ⟨i,j,hi,hj,hx⟩));have hlen:ls.length=es.length:=by rw [←e1,al]
  have hX2:bB w (λx=>A x∨∃i j,i<es.length/\j<k/\H i j x) (.tup (.sl true k (ls.map opr)::rest)) (.tuple vs) (λx=>F x/\¬∃i j,i<es.length/\j<k/\H i j x):=by
   refine .tup _ _ _ (λj x=>if j=0 then B x else G j x) (by simpa using hn) (λj a ha=>?_) (λx=>?_) (λi j x hi hj h1 h2=>?_)
   ·cases j with
    |zero=>cases ha;exact (e7 _).congr λx=>by rw [if_pos rfl]
    |succ j=>exact (bB.mono (λx hx=> .inl hx) (hc (j+1) a ha) (λ_ _=>rfl)).congr λx=>by rw [if_neg (by omega)]
   ·constructor
    ·rintro ⟨hf,hno⟩;obtain ⟨j,hj,hx⟩:=(hFe x).1 hf;refine ⟨j,by simpa using hj,?_⟩;by_cases e:j=0
     ·subst e;rw [if_pos rfl];exact ((e4 x).1 hx).resolve_right hno
     ·rw [if_neg e];exact hx
    ·rintro ⟨j,hj,hx⟩;by_cases e:j=0
     ·subst e;rw [if_pos rfl] at hx;exact ⟨hF0 x ((e4 x).2 (.inl hx)),λ⟨i,j,hi,hj,h⟩=>e5 i j x hi hj h hx⟩
     ·rw [if_neg e] at hx;refine ⟨(hFe x).2 ⟨j,by simpa using hj,hx⟩,λ⟨i,j',hi,hj',h⟩=>?_⟩;exact e (hd 0 j x (by simp) (by simpa using hj) ((e4 x).2 (.inr ⟨i,j',hi,hj',h⟩)) hx).symm
   ·have tr:∀i,(if i=0 then B x else G i x)->G i x:=λi h=>by
     by_cases e:i=0
     ·subst e;rw [if_pos rfl] at h;exact (e4 x).2 (.inl h)
     ·rw [if_neg e] at h;exact h
    exact hd i j x (by simpa using hi) (by simpa using hj) (tr i h1) (tr j h2)
  refine ((h ls e1 e2).2 w _ vs _ hg hX2 (λb hb=>?_) (λb hb=>hFs b hb.1) (λb hb=>hNG b hb.1)).mono ?_
  ·rcases hb with hb|⟨i,j,hi,hj,hb⟩
   ·exact ⟨(hA b hb).1,λh=>(hA b hb).2 h.1⟩
   ·exact ⟨hFs b (hHF i j b hi hj hb),λh=>h.2 ⟨i,j,hi,hj,hb⟩⟩
  ·rintro e w' ⟨v,G',A',r,ys,⟨pos,m,r',ys',⟨idx,hnd,hidx⟩,hpos,hoth,hset,hQ⟩,rfl,hkp,hX3,hG',hA'⟩
   have hlt:∀(t i:Nat),idx[t]? =some i->t<m.length->i<es.length:=λt i hi ht=>by
    (obtain ⟨p,hp⟩:∃p,m[t]? =some p:=⟨_,ag ht⟩);obtain ⟨i',h1,h2⟩:=Sel.get hidx hp;rw [hi] at h1;cases h1;rw [←hlen];exact (aa.1 h2).1
   have hil:idx.length=m.length:=by have:=congrArg List.length hidx;simpa using this.symm
   have hmk:∀(t:Nat) q,m[t]? =some q->∃i,idx[t]? =some i/\ls[i]? =some q/\q.length=k:=λt q hp=>by
    obtain ⟨i,h1,h2⟩:=Sel.get hidx hp;exact ⟨i,h1,h2,e2 q (ae h2)⟩
   cases hX3 with
   |pure _ _ _ _ ho _=>simp [AV.dF] at ho
   | tup _ _ _ Gc hn3 hc3 aa2 hd3=>
    have FN:=(aa.1 hpos).1;have hrow:=hc3 pos _ hpos
    have aa1:∀j x,j<(r::ys).length->Gc j x->F x∨w.heap.size<=x/\x<w'.heap.size:=λj x hj hx=>by
     rcases hG' x ((aa2 x).2 ⟨j,hj,hx⟩) with h1|h1
     ·exact .inl h1.1
     ·exact .inr h1
    have hHG:∀i u j x,i<es.length->u<k->j<(r::ys).length->H i u x->¬Gc j x:=λi u j x hi hu hj h1 h2=>by
     rcases hG' x ((aa2 x).2 ⟨j,hj,h2⟩) with h3|h3
     ·exact h3.2 ⟨i,u,hi,hu,h1⟩
     ·have:=hFs x (hHF i u x hi hu h1);omega
    have hkb:∀x,A x∨(∃i j,i<es.length/\j<k/\H i j x)->w'.heap[x]? =w.heap[x]?:=λx hx=>by
     refine hkp.block x ?_ λh2=>?_
     ·rcases hx with h1|⟨i,j,hi,hj,h1⟩
      ·exact (hA x h1).1
      ·exact hFs x (hHF i j x hi hj h1)
     ·rcases hx with h1|h1
      ·exact (hA x h1).2 h2.1
      ·exact h2.2 h1
    have hin:∀(i j:Nat) q p,ls[i]? =some q->q[j]? =some p->bB w' (λ_=>False) p.2 p.1 (H i j):=λi j q p hq hp=>by
     (have hi:i<es.length:=by rw [←hlen];exact (aa.1 hq).1);(have hj:j<k:=by rw [←e2 q (ae hq)];exact (aa.1 hp).1);have h1:bB w' A p.2 p.1 (H i j):=(e3 i j q p hq hp).mono (λ_ h=>h) λx hx=>hkb x (hx.imp_right λh=>⟨i,j,hi,hj,h⟩);exact h1.noB (hR (clr q) (by rw [←e1];exact ky (ae hq)) p.2 (ky (ae hp)))
    have hnew:bB w' (λ_=>False) (.sl true k (m.map clr)) ((#[v]++vs).getD pos undef) (λx=>Gc pos x∨∃t i j,t<m.length/\j<k/\idx[t]? =some i/\H i j x):=by
     rcases pO hrow with ⟨g1,g2,g3⟩|⟨cap,b,T,c,Gr,g1,hb,hl,hcap,hsz,hk,h1,hr,hF,h0,hdr⟩
     ·(have:m=[]:=by simpa using g1);subst this;rw [g2];exact .nil k _ λx hx=>hx.elim (g3 x) λ⟨t,i,j,h,_⟩=>by simp at h
     ·have hval:∀(t j:Nat) q p,m[t]? =some q->q[j]? =some p->c.getD (t*k+j) undef=p.1/\∀x,¬Gr t j x:=λt j q p hq hp=>by
       have h2:=hr t j (opr q) (.hd p.1 .any) (by rw [ai,hq];rfl) (by rw [opr,ai,hp];rfl)
       cases h2 with
       |pure _ _ _ h2 _ h3=>exact ⟨(Ar h2).1,h3⟩
      rw [al] at hl hcap h1 h0 hdr g1;rw [g1];have hbG:Gc pos b:=(hF b).2 (.inl rfl)
      have key:=bB.sl (w:=w') (A:=λ_=>False) k (m.map clr) cap b T c (λx=>Gc pos x∨∃t i j,t<m.length/\j<k/\idx[t]? =some i/\H i j x) (λt j x=>∃i,idx[t]? =some i/\H i j x) hb
       (by simpa using hl) (by simpa using hcap) hsz (λe he=>by
        obtain ⟨q,hm,rfl⟩:=cA.1 he;obtain ⟨t,ht⟩:=ap hm;obtain ⟨_,_,_,g⟩:=hmk t q ht
        rw [clr,al];exact g) (λt j ht hj=>h1 t j (by simpa using ht) hj)
       (λt j e a he ha=>?_) (λx=>?_) (λt j ht hj hx=>?_) (λt j t' j' x ht hj ht' hj' hx hx'=>?_)
      ·rw [al] at key;exact key
      ·rw [ai] at he
       cases hp:m[t]? with
       |none=>rw [hp] at he;cases he
       | some q=>
        rw [hp] at he;cases he;obtain ⟨i,hi,hpi,_⟩:=hmk t q hp;rw [clr,ai] at ha
        cases hp2:q[j]? with
        |none=>rw [hp2] at ha;cases ha
        | some p=>
         rw [hp2] at ha;cases ha;rw [(hval t j q p hp hp2).1];exact (hin i j q p hpi hp2).congr λx=>⟨λ⟨i',h1,h2⟩=>by rw [hi] at h1;cases h1;exact h2,λh=>⟨i,hi,h⟩⟩
      ·constructor
       ·rintro (hx|⟨t,i,j,ht,hj,hi,hx⟩)
        ·rcases (hF x).1 hx with hx|⟨t,j,ht,hj,hx⟩
         ·exact .inl hx
         ·exfalso;rw [al] at ht;(obtain ⟨q,hq⟩:∃q,m[t]? =some q:=⟨_,ag ht⟩);obtain ⟨_,_,_,g⟩:=hmk t q hq;(obtain ⟨p,hp⟩:∃p,q[j]? =some p:=⟨_,ag (by omega)⟩);exact (hval t j q p hq hp).2 x hx
        ·exact .inr ⟨t,j,by simpa using ht,hj,i,hi,hx⟩
       ·rintro (hx|⟨t,j,ht,hj,i,hi,hx⟩)
        ·exact .inl (hx ▸ hbG)
        ·exact .inr ⟨t,i,j,by simpa using ht,hj,hi,hx⟩
      ·obtain ⟨i,hi,hx⟩:=hx;rw [al] at ht;exact hHG i j pos b (hlt t i hi ht) hj FN hx hbG
      ·rw [al] at ht ht';obtain ⟨i,hi,hx⟩:=hx;obtain ⟨i',hi',hx'⟩:=hx';obtain ⟨g1,g2⟩:=e6 i j i' j' x (hlt t i hi ht) hj (hlt t' i' hi' ht') hj' hx hx';subst g1;exact ⟨(lw (i:=t) (j:=t') (by omega) hnd).1 (hi.trans hi'.symm),g2⟩
    refine ⟨v,λx=>∃j,j<(r'::ys').length/\(if j=pos then Gc pos x∨∃t i u,t<m.length/\u<k/\idx[t]? =some i/\H i u x else Gc j x),r',ys',hQ,rfl,hkp.weaken (λx h=>h.1),?_,λb hb=>?_⟩
    ·(have hle:(r'::ys').length=(r::ys).length:=by rw [hset,bo]);refine .tup _ _ _ (λj x=>if j=pos then Gc pos x∨∃t i u,t<m.length/\u<k/\idx[t]? =some i/\H i u x else Gc j x) (by rw [hle];exact hn3) (λj a ha=>?_) (λx=>i8) (λi j x hi hj h1 h2=>?_)
     ·rw [hset,bh] at ha;by_cases e:pos=j
      ·rw [if_pos e,if_pos FN] at ha;cases ha;subst e;exact hnew.congr λx=>by rw [if_pos rfl]
      ·rw [if_neg e] at ha;refine ((hc3 j a ha).noB (hoth j a (cI e) ha)).congr λx=>?_;rw [if_neg (cI e)]
     ·rw [hle] at hi hj;by_cases ei:i=pos
      ·by_cases ej:j=pos
       ·rw [ei,ej]
       ·rw [if_pos ei] at h1;rw [if_neg ej] at h2;rcases h1 with h1|⟨t,i',u,ht,hu,hi',h1⟩
        ·rw [ei];exact hd3 pos j x FN hj h1 h2
        ·exact (hHG i' u j x (hlt t i' hi' ht) hu hj h1 h2).elim
      ·by_cases ej:j=pos
       ·rw [if_neg ei] at h1;rw [if_pos ej] at h2;rcases h2 with h2|⟨t,i',u,ht,hu,hi',h2⟩
        ·rw [ej];exact hd3 i pos x hi FN h1 h2
        ·exact (hHG i' u i x (hlt t i' hi' ht) hu hi h2 h1).elim
       ·rw [if_neg ei] at h1;rw [if_neg ej] at h2;exact hd3 i j x hi hj h1 h2
    ·obtain ⟨j,hj,hb⟩:=hb;(have hle:(r'::ys').length=(r::ys).length:=by rw [hset,bo]);rw [hle] at hj;by_cases e:j=pos
     ·rw [if_pos e] at hb;rcases hb with hb|⟨t,i',u,ht,hu,hi',hb⟩
      ·exact aa1 pos b FN hb
      ·exact .inl (hHF i' u b (hlt t i' hi' ht) hu hb)
     ·rw [if_neg e] at hb;exact aa1 j b hj hb
theorem Sel.cut {α:Type} {l:List α} {i j:Nat} (hij:i<=j):Sel (l.take i++l.drop j) l:=by
 refine ⟨(List.range l.length).take i++(List.range l.length).drop j,?_,?_⟩
 ·have h:=(j9 (n:=l.length))
  rw [eC];refine ⟨h.sublist (List.take_sublist _ _),h.sublist (List.drop_sublist _ _),λa ha b hb=>?_⟩;obtain ⟨s,hs⟩:=ap ha;obtain ⟨t,ht⟩:=ap hb;rw [be] at hs;rw [bv] at ht;split at hs
  ·rename_i hlt;have e1:=(aa.1 hs).2;have e2:=(aa.1 ht).2;simp at e1 e2;omega
  ·cases hs
 ·have e:l.map some=(List.range l.length).map λi=>l[i]?:=by
   refine cC λi=>?_;rw [ai,ai];by_cases hi:i<l.length
   ·rw [cM hi,ag hi];simp [hi]
   ·rw [ar (by omega),ar (by simpa using hi)];rfl
  rw [db,db,eN,gt,eN,gt,e]
set_option linter.unusedSimpArgs false
open Go.Sort Go.Shelf
def AV.val:AV->Value
 | .int k n=> .int k n
 | .bool b=> .bool b
 | .str s=> .string s
 |_=>undef
theorem Hu [St] {w w':World} (h:@Keeps ⟨True⟩ (λ_=>False) w w'):∃q os,w'=grow (w.drewN q) os:=by
 letI:St:=⟨True⟩;refine ⟨w'.drawn - w.drawn,w'.heap.extract w.heap.size w'.heap.size,?_⟩
 have hd:w.drawn<=w'.drawn:=(show True->w.drawn<=w'.drawn from h.drawn) trivial;have hs:=h.size
 have hh:w'.heap=w.heap++w'.heap.extract w.heap.size w'.heap.size:=by
  apply Array.ext_getElem?;intro i;rw [mN];split
  ·rename_i hi;exact h.block i hi (λx=>x)
  ·rename_i hi;rw [Array.getElem?_extract];split
   ·congr 1;omega
   ·rw [fu (by omega)]
 have e1:=h.os;have e2:=h.tape;have e3:=h.output;obtain ⟨h1,t1,d1,o1,u1⟩:=w';obtain ⟨h0,t0,d0,o0,u0⟩:=w;simp only at e1 e2 e3 hh hd;subst e1 e2 e3;simp only [grow,World.drewN,World.mk.injEq,and_true,true_and];exact ⟨hh,by omega⟩
section
variable {β:Type} (R:β->List AV)
end
section
variable {β:Type} (R:β->AV)
def okN (w:World) (A:Nat->Prop) (p:Value×β):Prop:=p.1.oneCell'=true/\Rel w A (R p.2) p.1
def Bc {w:World} {A:Nat->Prop} (x:{p:Value×β // okN R w A p}):Value:=x.1.1
theorem tX [St] {w0:World} {A:Nat->Prop} [Inhabited {p:Value×β // okN R w0 A p}] {w w':World} {b n:Nat} {d:Array {p:Value×β // okN R w0 A p}} {os:Array Go.Obj} {F:Nat->Prop} (hF:F b) (hblk:b<w.heap.size) (hw:w'=sortWorld (Bc R) w b 0 n d os):Keeps F w w':=by
 subst hw;unfold sortWorld;refine ⟨rfl,rfl,rfl,by simp [grow,putRow,mapBlock,Sort.ahead],λx hx hnF=>?_,λa ha=>?_,eu.of ?_⟩
 ·have hne:b≠x:=λe=>hnF (e ▸ hF);unfold putRow mapBlock grow;simp only [Sort.ahead];rw [eQ (by simpa using hx),ef,if_neg hne]
 ·have h1:(grow (putRow (Bc R) (Sort.ahead w n) b 0 d) os).frozen? a=(putRow (Bc R) (Sort.ahead w n) b 0 d).frozen? a:=by
   unfold grow World.frozen?;simp only;rw [eQ (by simpa [putRow,mapBlock,Sort.ahead] using ha)]
  rw [h1,frozen?_putRow];rfl
 ·simp [grow,putRow,mapBlock,Sort.ahead]
theorem Wz {w w':World} {A:Nat->Prop} {cap b:Nat} {T:TypeId} {c:Array Value} [Inhabited {p:Value×β // okN R w A p}] (d:Array {p:Value×β // okN R w A p})
  (hb:w.heap[b]? =some (.cells c T (0,0))) (hsz:d.size<=cap) (hcs:cap*1<=c.size) (hm:d.size<=maxLen) (hAb:∀x,A x->x<w.heap.size/\x≠b) (n:Nat) (os:Array Go.Obj)
  (hw:w'=sortWorld (Bc R) w b 0 n d os):bB w' A (.sl true 1 ((d.toList.map λx=>x.1).map (opn R))) (.slice (some ⟨b,0,none⟩) d.size cap) (λx=>x=b):=by
 letI:St:=⟨True⟩;have hblk:b<w.heap.size:=by
  rcases da b w.heap.size with h|h
  ·exact h
  ·rw [fu h] at hb;cases hb
 have hkp:Keeps (λx=>x=b) w w':=tX R (w0:=w) (A:=A) rfl hblk hw
 have hb':w'.heap[b]? =some (.cells (putCells (Bc R) 0 d c) T (0,0)):=by
  rw [hw];unfold sortWorld putRow mapBlock grow;simp only [Sort.ahead];rw [eQ (by simpa using hblk),ef,if_pos rfl,hb];rfl
 have hcell:∀i,i<d.size->(putCells (Bc R) 0 d c).getD (i*1+0) undef=(d[i]!).1.1:=λi hi=>by
  have h3:i<c.size:=by omega
  unfold putCells;rw [k8,em];simp only [b9,Array.getElem?_mapIdx,cj h3,cF,bp];rw [if_pos ⟨by omega,by omega⟩,gR];rfl
 have hl:((d.toList.map λx=>x.1).map (opn R)).length=d.size:=by simp
 have h:=bB.sl (w:=w') (A:=A) 1 ((d.toList.map λx=>x.1).map (opn R)) cap b T _ (λx=>x=b) (λ_ _ _=>False) hb' (by rw [hl];exact hm) (by rw [hl];exact hsz) (by unfold putCells;simpa using hcs)
  (λe he=>by obtain ⟨x,_,rfl⟩:=cA.1 he;rfl)
  (λi j hi hj=>by
   (have:j=0:=by omega);subst this;rw [hcell i (by rw [←hl];exact hi)]
   exact (d[i]!).2.1)
  (λi j e a he ha=>by
   rw [ai,ai] at he
   have hi:i<d.size:=by
    rcases da i d.size with h|h
    ·exact h
    ·rw [ar (by simpa using h)] at he;cases he
   have e0:d.toList[i]? =some d[i]!:=by
    rw [bd,cj hi,getElem!_pos d i hi]
   rw [e0] at he;cases he
   cases j with
   |succ j=>simp [opn] at ha
   | zero=>
    cases ha;rw [hcell i hi]
    exact .pure _ _ _ (.hd _ _ (d[i]!).2.1 ((d[i]!).2.2.mono (λx hx=>hkp.block x (hAb x hx).1 (hAb x hx).2) (λ_ h=>h))) rfl (λ_ h=>h))
  (λx=>⟨λh=> .inl h,λh=>h.elim (λh=>h) (λ⟨_,_,_,_,h⟩=>h.elim)⟩) (λ_ _ _ _ h=>h) (λ_ _ _ _ _ _ _ _ _ h=>h.elim)
 rwa [hl] at h
theorem ACS.ahc [St] {P:Program} {ρ:Ren} (L:SlLaysF.n6 P ρ) (L0:SlLaysF0.n6 P ρ) (hent:Enters P (ρ.f 6)) {g:FuncId} {cf:β->β->Int} (hO:SWO (ltOf cf)) (hp:∀x y,@AC ⟨True⟩ _ P g [R x,R y] (AV.int .i64) (cf x y)) {ls:List (Value×β)} (h1:∀p∈ls,p.1.oneCell'=true) (hbl:ls.length<=1048576):
  ACS P (ρ.f 6) [.sl true 1 (ls.map (opn R)),.fn g []] (λr ys=>∃m:List (Value×β),m.Perm ls/\(∀(i j:Nat) x y,i<j->m[i]? =some x->m[j]? =some y->¬cf y.2 x.2<0)/\r= .tup []/\ys=[.sl true 1 (m.map (opn R)),.any]):=by
 refine ⟨hent,λw A vs F hg hX hA hFs hNG=>?_⟩
 cases hX with
 |pure _ _ _ _ ho _=>simp [AV.dF] at ho
 | tup _ _ _ G hn hc hFe hd=>
  obtain ⟨v0,v1,rfl⟩:∃v0 v1,vs=#[v0,v1]:=by
   match vs,hn with
   |⟨[a,b]⟩,_=>exact ⟨a,b,rfl⟩
  have h0:bB w A (.sl true 1 (ls.map (opn R))) v0 (G 0):=hc 0 _ rfl;have h1':bB w A (.fn g []) v1 (G 1):=hc 1 _ rfl;have hF0:∀b,G 0 b->F b:=λb hb=>(hFe b).2 ⟨0,by simp,hb⟩
  cases h1' with
  | pure _ _ _ hr _ hG1=>
   cases hr with
   | fn _ _ cvs hcn hcc=>
    have hcv:cvs=#[]:=kq (by simpa using hcn);subst hcv
    have fin:∀(w':World) (m:List (Value×β)),Keeps F w w'->m.Perm ls->(∀(i j:Nat) x y,i<j->m[i]? =some x->m[j]? =some y->¬cf y.2 x.2<0)->(∃G',bB w' A (.sl true 1 (m.map (opn R))) v0 G'/\∀b,G' b->F b)->
      ∃v G A' r args',(∃m:List (Value×β),m.Perm ls/\(∀(i j:Nat) x y,i<j->m[i]? =some x->m[j]? =some y->¬cf y.2 x.2<0)/\r=AV.tup []/\args'=[.sl true 1 (m.map (opn R)),.any])/\Ending.returned (.tuple #[])= .returned v/\Keeps F w w'/\bB w' A' (.tup (r::args')) (.tuple (#[v]++#[v0,.func (.func g) #[] #[]])) G/\(∀b,G b->F b∨w.heap.size<=b/\b<w'.heap.size)/\∀b,A' b->b<w'.heap.size/\¬G b/\(A b∨w.heap.size<=b):=λw' m hk hm hs ⟨G',hx,hG'⟩=>by
     refine ⟨_,G',A,.tup [],[.sl true 1 (m.map (opn R)),.any],⟨m,hm,hs,rfl,rfl⟩,rfl,hk,?_,λb hb=> .inl (hG' b hb),λb hb=>⟨bu (hA b hb).1 hk.size,λh=>(hA b hb).2 (hG' b h),.inl hb⟩⟩;refine .tup _ _ _ (λi x=>i=1/\G' x) (by simp) (λi a ha=>?_) (λx=>⟨λh=>⟨1,by simp,rfl,h⟩,λ⟨i,_,_,h⟩=>h⟩) (λi j x _ _ h1 h2=>by rw [h1.1,h2.1])
     match i,ha with
     | 0,ha=>
      simp at ha;subst ha;exact .tup [] #[] _ (λ_ _=>False) rfl (λi a h=>by simp at h) (λx=>⟨λh=>absurd h.1 (by decide),λ⟨_,h,_⟩=>by simp at h⟩) (λ_ _ _ h=>by simp at h)
     | 1,ha=>
      simp at ha;subst ha;exact hx.congr (λx=>⟨λh=>h.2,λh=>⟨rfl,h⟩⟩)
     | 2,ha=>
      simp at ha;subst ha;exact .pure _ _ _ (.any _) rfl (λx h=>absurd h.1 (by decide))
     |n+3,ha=>simp at ha
    by_cases hne:ls=[]
    ·subst hne
     obtain ⟨p,cap,rfl⟩:∃p cap,v0= .slice p 0 cap:=by
      rcases pO h0 with ⟨_,rfl,_⟩|⟨cap,b,_,_,_,rfl,_⟩
      ·exact ⟨none,0,rfl⟩
      ·exact ⟨_,cap,rfl⟩
     refine (AnyF.slices_SortFunc_none L0 p cap _ w).mono ?_;rintro e w' ⟨rfl,rfl⟩;exact fin _ [] (Keeps.refl _ _) (.refl _) (by simp) ⟨_,h0,hF0⟩
    ·rcases pO h0 with ⟨h,_⟩|⟨cap,b,T,c,G3,rfl,hb,hl,hcap,hsz,hk,h1c,hr,hGF,h00,hdd⟩
     ·exact (hne (by simpa using h)).elim
     ·rw [al] at hl hcap
      have hblk:b<w.heap.size:=by
       rcases da b w.heap.size with h|h
       ·exact h
       ·rw [fu h] at hb;cases hb
      have hGb:G 0 b:=(hGF b).2 (.inl rfl);have hAb:∀x,A x->x<w.heap.size/\x≠b:=λx hx=>⟨(hA x hx).1,λe=>(hA x hx).2 (hF0 x (e ▸ hGb))⟩
      have hcv:∀i p,ls[i]? =some p->c.getD (i*1+0) undef=p.1/\Rel w A (R p.2) p.1:=λi p hp=>by
       have h2:=hr i 0 (opn R p) (.hd p.1 (R p.2)) (by rw [ai,hp];rfl) rfl
       cases h2 with
       |pure _ _ _ h2 _ _=>exact Ar h2
      have hok:∀p∈ls,okN R w A p:=λp hp=>by
       obtain ⟨i,hi⟩:=ap hp;exact ⟨h1 p hp,(hcv i p hi).2⟩
      obtain ⟨x0,hx0⟩:=List.exists_mem_of_ne_nil ls hne
      haveI:Inhabited {p:Value×β // okN R w A p}:=⟨⟨x0,hok x0 hx0⟩⟩
      obtain ⟨la,aji⟩:∃la,la=ls.attach.map λx=>(⟨x.1,hok x.1 x.2⟩:{p:Value×β // okN R w A p}):=⟨_,rfl⟩
      have hla:la.map (λx=>x.1)=ls:=by
       rw [aji,List.map_map];exact (List.attach_map_val (f:=λx=>x)).trans (List.map_id _)
      (have ajh:la.length=ls.length:=by rw [←hla];simp);have hds:la.toArray.size=ls.length:=by simpa using ajh
      have hget:∀i,i<ls.length->ls[i]? =some (la.toArray[i]!).1:=λi hi=>by
       have h1:la[i]? =some la.toArray[i]!:=by
        rw [getElem!_pos la.toArray i (by omega)];simp
       have h2:=congrArg (λo=>o.map λx:{p:Value×β // okN R w A p}=>x.1) h1;rw [←ai,hla] at h2;exact h2
      have hH:Holds (Bc R) w b 0 la.toArray:=λj hj=>by
       rw [hds] at hj;obtain ⟨e1,_⟩:=hcv j _ (hget j hj);(have hjc:j<c.size:=by omega);rw [k8,em] at e1;refine ⟨?_,?_⟩
       ·show _=some (la.toArray[j]!).1.1;rw [←e1];simp [World.cell?,hb,Array.getD,hjc]
       ·simp [World.frozen?,hb]
      have hcmp:CmpLays1 P g #[] (Bc R) (λx y=>cf x.1.2 y.1.2) b 0 la.toArray.size w:=λm os dk hdk x y=>by
       have hkp:=tX R (w0:=w) (A:=A) (w:=w) (b:=b) (F:=λz=>z=b) (n:=m) (d:=dk) (os:=os) rfl hblk rfl;generalize sortWorld (Bc R) w b 0 m dk os=W at*
       have hrel:yh W (λz=>z<W.heap.size) [R x.1.2,R y.1.2] (#[Bc R x,Bc R y]++#[]):=by
        have hone:∀z:{p:Value×β // okN R w A p},Rel W (λz=>z<W.heap.size) (R z.1.2) (Bc R z):=λz=>z.2.2.mono (λq hq=>hkp.block q (hAb q hq).1 (hAb q hq).2) (λq hq=>bu (hA q hq).1 hkp.size);refine ⟨rfl,λi a ha=>?_⟩
        match i,ha with
        |0,ha=>cases ha;exact hone x
        |1,ha=>cases ha;exact hone y
        |i+2,ha=>simp at ha
       refine ((hp x.1.2 y.1.2).2 W _ (hg.keeps hkp λz hz=>hNG z (hz ▸ hF0 b hGb)) hrel).mono ?_;rintro e w' ⟨v,F',rfl,hk',hx',_⟩
       cases hx' with
       |pure _ _ _ h _ _=>cases h;exact ⟨rfl,Hu hk'⟩
      rw [al,show ls.length=la.toArray.size by omega] at fin ⊢;refine (Any.slices_SortFunc L (Bc R) (λx=>?_) (λx y=>cf x.1.2 y.1.2) ⟨λx=>hO.irrefl x.1.2,λx y z=>hO.trans x.1.2 y.1.2 z.1.2,λx y z=>hO.ntrans x.1.2 y.1.2 z.1.2⟩ g #[] b 0 cap la.toArray w (hp x0.2 x0.2).1 hcmp hH hblk (by omega)).mono ?_
      ·exact x.2.1
      rintro e w' ⟨rfl,d',n,os,hp1,hp2,hw'⟩;have ajL:d'.size=ls.length:=hp1.1.trans hds
      have hperm:(d'.toList.map λx=>x.1).Perm ls:=by
       have h5:=hp1.2.2;rw [lj (by omega),lj (by omega)] at h5;have:=h5.map (λx:{p:Value×β // okN R w A p}=>x.1);rwa [List.toList_toArray,hla] at this
      have ad1:∀(i j:Nat) x y,i<j->(d'.toList.map λx=>x.1)[i]? =some x->(d'.toList.map λx=>x.1)[j]? =some y->¬cf y.2 x.2<0:=λi j x y hij hx hy=>by
       rw [ai] at hx hy
       have hj:j<d'.size:=by
        rcases da j d'.size with h|h
        ·exact h
        ·rw [ar (by simpa using h)] at hy;cases hy
       (have hi:i<d'.size:=by omega);have h5:=hp2 i j (mo _) hij (by omega);rw [getElem!_pos d' i hi,getElem!_pos d' j hj] at h5;simp only [bd,cj hi,cj hj,cF,cH] at hx hy;subst hx hy;exact of_decide_eq_false h5
      have hrow:=Wz R (cap:=cap) d' hb (by omega) hsz (by omega) hAb n os hw';rw [hp1.1] at hrow;exact fin w' _ (tX R (w0:=w) (A:=A) (hF0 b hGb) hblk hw') hperm ad1 ⟨_,hrow,λz (hz:z=b)=>hz ▸ hF0 b hGb⟩
end
open Classical
set_option maxRecDepth 100000
set_option maxHeartbeats 2000000
set_option maxHeartbeats 4000000
theorem aeL (v:Aid):∀a∈v.cs true,NoB a:=λa ha=>by
 have h:=NoB.Dc v;obtain ⟨i,hi⟩:=ap ha
 cases h with
 |agg _ h=>exact h i a hi
theorem abl [St] {es:List (List AV)} {ls:List (List (Value×AV))} (i j:Int) (hl:es=ls.map opr) (h:0<=i/\i<=j/\j<=ls.length) (hbl:ls.length<=1048576):ACS Tryz.prog 354 [.sl true 16 es,.int .i64 i,.int .i64 j] (λr ys=>∃es',es'=(ls.take i.toNat++ls.drop j.toNat).map opr/\r= .sl true 16 es'/\ys=[.any,.any,.any]):=by
  refine acs 1 Tryz.func354 λE K hE hK=>?_
  repeat' first
    |((first
   |refine tQ (by assumption) (by simp only [bp,cD];omega) (λ_ _=>?_)
   |refine mvH (by assumption) ZN (by omega) (λ_ _ _ _=>?_)
   |refine agJ (by first|omega|(simp only [al,am,ba,ct, *];omega)) (λes2 hl2 ht2=>?_)
   |refine Rj (by simp only [bp,cD,al,am,ba,ct, *];omega) (λ_ _=>?_)
   |refine B0 ?_|refine B1 ?_ ?_)<;>intros<;>(try conv=>cbv))
  all_goals first
   |omega
   |(refine hK _ _ ⟨_,?_,rfl,rfl⟩;rw [hl,show j=i by omega,eJ];done)
   |exact hK _ _ ⟨_,abk h (by assumption) (by assumption) (by assumption) (by assumption) ht2 (by assumption),rfl,rfl⟩
theorem aes [St] {rs:List (List AV)} {l:List Aid} (i j:Int) (hl:rs=l.map (Aid.cs true)) (h:0<=i/\i<=j/\j<=l.length) (hbl:l.length<=1048576):ACM Tryz.prog 354 [.sl true 16 rs,.int .i64 i,.int .i64 j] (λr ys=>∃rs',rs'=(l.take i.toNat++l.drop j.toNat).map (Aid.cs true)/\r= .sl true 16 rs'/\ys=[.any,.any,.any]):=by
 refine ACM.agK (λe he a ha=>?_) (λargs w=>fF Tryz.func354 (by kernel_rfl) rfl args w) (λls h1 h2=>?_)
 ·rw [hl] at he;obtain ⟨v,_,rfl⟩:=cA.1 he;exact aeL v a ha
 ·have hlen:ls.length=l.length:=by
   have:=congrArg List.length h1;rw [al,hl,al] at this;exact this
  refine (abl (ls:=ls) i j rfl (by omega) (by omega)).mono ?_;rintro r ys ⟨es',h3,rfl,rfl⟩;subst h3;refine ⟨0,_,_,_,Sel.cut (by omega),rfl,λn a hn ha=>?_,rfl,_,?_,rfl,rfl⟩
  ·match n,ha with
   |0,_=>exact absurd rfl hn
   |1,ha=>cases ha;exact .any
   |2,ha=>cases ha;exact .any
   |3,ha=>cases ha;exact .any
   |n+4,ha=>simp at ha
  ·rw [db,eN,gt,h1,hl,db,eN,gt]
theorem Pj {l:List Aid} {w:Aid} {rs:List (List AV)} (h:rs=l.map (Aid.cs true)) (k:Nat):rs.take k++w.cs true::rs.drop k=(l.take k++w::l.drop k).map (Aid.cs true):=by
 rw [h,db,dj,eN,gt]
theorem ahD [St] {rs re:List (List AV)} {l:List Aid} (a:Aid) (i:Int) (hl:rs=l.map (Aid.cs true)) (he:re=[a.cs true]) (hi:0<=i/\i<=l.length) (hb:l.length<=1048576):ACM Tryz.prog 353 [.sl true 16 rs,.int .i64 i,.sl true 16 re] (λr ys=>∃rs',rs'=(l.take i.toNat++a::l.drop i.toNat).map (Aid.cs true)/\r= .sl true 16 rs'/\ys=[.any,.any,.any]):=by
 have hlen:rs.length=l.length:=by rw [hl,al]
 subst he;exact (adU (es:=rs) (e:=a.cs true) (i:=i) (by omega) (by omega) (by rw [Pj hl];exact .rows .Dc)).mono λr ys ⟨h1,h2⟩=>⟨_,Pj hl _,h1,h2⟩
end Go.Proofs.YtnlhnideeaobpaaGreatDoor
