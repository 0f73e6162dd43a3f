/- Rows of owned values, opened: the header of each element is known and what it reads as; how such a row is closed again; Rows of structs with owned cells, opened: the exact value of each cell is known; how such a row is closed again; Contracts: slices.Delete and slices.Insert at lists of aids. -/
import Derived.Test.YtpfddoikhmbebaaGreatDoorQb
import Derived.Test.YtpfddoikhmbebaaGreatDoorFA
import Derived.Test.YtpfddoikhmbebaaGreatDoorFB
namespace Go.Proofs.YtpfddoikhmbebaaGreatDoor
open Go Go.RowKit
set_option linter.unusedVariables false
theorem rel_hd {w:World} {A:Nat->Prop} {x:AV} {v u:Value} (h:Rel w A (.hd v x) u):u=v/\Rel w A x v:=by
 cases h with
 |hd _ _ _ h=>exact ⟨rfl,h⟩
theorem AC.hd2 {α:Type} {P:Program} {f:FuncId} {x y:AV} {u v:Value} {caps:List AV} {R:α->AV} {r:α} (h:AC P f (x::y::caps) R r):AC P f (.hd u x:: .hd v y::caps) R r:=
 ⟨h.1,λw vs hg hr=>h.2 w vs hg ⟨hr.1,λi a ha=>by
  match i,ha with
  |0,ha=>cases ha;obtain ⟨e,h⟩:=rel_hd (hr.2 0 _ rfl);rw [e];exact h
  |1,ha=>cases ha;obtain ⟨e,h⟩:=rel_hd (hr.2 1 _ rfl);rw [e];exact h
  |i+2,ha=>exact hr.2 (i+2) a ha⟩⟩
theorem AC.hd1 {α:Type} {P:Program} {f:FuncId} {x:AV} {u:Value} {caps:List AV} {R:α->AV} {r:α} (h:AC P f (x::caps) R r):AC P f (.hd u x::caps) R r:=
 ⟨h.1,λw vs hg hr=>h.2 w vs hg ⟨hr.1,λi a ha=>by
  match i,ha with
  |0,ha=>cases ha;obtain ⟨e,h⟩:=rel_hd (hr.2 0 _ rfl);rw [e];exact h
  |i+1,ha=>exact hr.2 (i+1) a ha⟩⟩
def Sel {α:Type} (m l:List α):Prop:=∃idx:List Nat,idx.Nodup/\m.map some=idx.map λi=>l[i]?
theorem Sel.get {α:Type} {m l:List α} {idx:List Nat} (h:m.map some=idx.map λi=>l[i]?) {t:Nat} {p:α} (hp:m[t]? =some p):∃i,idx[t]? =some i/\l[i]? =some p:=by
 have h1:=congrArg (λq=>q[t]?) h
 simp only [List.getElem?_map,hp,Option.map_some] at h1
 cases hi:idx[t]? with
 |none=>rw [hi] at h1;cases h1
 |some i=>rw [hi] at h1;exact ⟨i,rfl,by simpa using h1.symm⟩
theorem ACS.mono {P:Program} {f:FuncId} {us:List AV} {Q Q':AV->List AV->Prop} (h:ACS P f us Q) (hq:∀r ys,Q r ys->Q' r ys):ACS P f us Q':=
  ⟨h.1,λw A vs F g1 g2 g3 g4 g5=>(h.2 w A vs F g1 g2 g3 g4 g5).mono λe w' ⟨v,G,A',r,ys,h1,h2⟩=>⟨v,G,A',r,ys,hq _ _ h1,h2⟩⟩
def opr (q:List (Value×AV)):List AV:=q.map λp=> .hd p.1 .any
def clr (q:List (Value×AV)):List AV:=q.map Prod.snd
theorem opr_flat (q:List (Value×AV)):∀c∈opr q,c.flatH=true:=λc hc=>by
 obtain ⟨p,_,rfl⟩:=List.mem_map.1 hc;rfl
theorem open_rowK {k:Nat} {w:World} {A:Nat->Prop} {es:List (List AV)} {v:Value} {F:Nat->Prop} (h:XRel w A (.sl true k es) v F):
  ∃ (ls:List (List (Value×AV))) (B:Nat->Prop) (H:Nat->Nat->Nat->Prop),ls.map clr=es/\(∀q∈ls,q.length=k)/\(∀(i j:Nat) q p,ls[i]? =some q->q[j]? =some p->XRel w A p.2 p.1 (H i j))/\(∀x,F x↔B x∨∃i j,i<es.length/\j<k/\H i j x)/\(∀i j x,i<es.length->j<k->H i j x->¬B x)/\
   (∀i j i' j' x,i<es.length->j<k->i'<es.length->j'<k->H i j x->H i' j' x->i=i'/\j=j')/\∀A2:Nat->Prop,XRel w A2 (.sl true k (ls.map opr)) v B:=by
 rcases own_row h with ⟨h1,rfl,h3⟩|⟨cap,b,T,c,G,rfl,hb,hl,hcap,hsz,hk,h1,hr,hF,h0,hd⟩
 ·subst h1
  exact ⟨[],λ_=>False,λ_ _ _=>False,rfl,by simp,by simp,λx=>⟨λh=>(h3 x h).elim,λh=>h.elim (λh=>h.elim) λ⟨_,_,h,_⟩=>by simp at h⟩,λi j x h=>by simp at h,λi j i' j' x h=>by simp at h,λA2=> .nil k _ (λ_ h=>h)⟩
 ·obtain ⟨ls,hls⟩:∃ls,ls=es.zipIdx.map λq=>q.1.zipIdx.map λr=>(c.getD (q.2*k+r.2) undef,r.1):=⟨_,rfl⟩
  have hg:∀i:Nat,ls[i]? =(es[i]?).map λe=>e.zipIdx.map λr=>(c.getD (i*k+r.2) undef,r.1):=λi=>by
   rw [hls,List.getElem?_map,List.getElem?_zipIdx]
   cases es[i]?<;>simp
  have hlen:ls.length=es.length:=by rw [hls];simp
  have hq:∀(i:Nat) q,ls[i]? =some q->∃e,es[i]? =some e/\q.length=k/\clr q=e/\∀(j:Nat) p,q[j]? =some p->p.1=c.getD (i*k+j) undef/\e[j]? =some p.2:=λi q h=>by
   rw [hg] at h
   cases hx:es[i]? with
   |none=>rw [hx] at h;cases h
   | some e=>
    rw [hx] at h;cases h
    refine ⟨e,rfl,by simpa using hk e (List.mem_of_getElem? hx),?_,λj p hp=>?_⟩
    ·refine List.ext_getElem? λj=>?_
     rw [clr,List.getElem?_map,List.getElem?_map,List.getElem?_zipIdx]
     cases e[j]?<;>simp
    ·rw [List.getElem?_map,List.getElem?_zipIdx] at hp
     cases hy:e[j]? with
     |none=>rw [hy] at hp;cases hp
     |some a=>rw [hy] at hp;cases hp;exact ⟨by simp only [Nat.zero_add],rfl⟩
  have hil:∀(i:Nat) q,ls[i]? =some q->i<es.length:=λi q h=>by rw [←hlen];exact (List.getElem?_eq_some_iff.1 h).1
  refine ⟨ls,λx=>x=b,G,?_,λq hm=>?_,λi j q p h2 hp=>?_,λx=>hF x,λi j x hi hj hx e=>h0 i j hi hj (e ▸ hx),hd,λA2=>?_⟩
  ·refine List.ext_getElem? λi=>?_
   rw [List.getElem?_map]
   cases h2:ls[i]? with
   | none=>
    rw [List.getElem?_eq_none (by have:=List.getElem?_eq_none_iff.1 h2;omega)];rfl
   | some q=>
    obtain ⟨e,g1,_,g2,_⟩:=hq i q h2
    rw [g1,←g2];rfl
  ·obtain ⟨i,hi⟩:=List.getElem?_of_mem hm
   exact (hq i q hi).choose_spec.2.1
  ·obtain ⟨e,g1,_,_,g3⟩:=hq i q h2
   obtain ⟨g4,g5⟩:=g3 j p hp
   rw [g4]
   exact hr i j e p.2 g1 g5
  ·have key:=XRel.sl (w:=w) (A:=A2) k (ls.map opr) cap b T c (λx=>x=b) (λ_ _ _=>False) hb (by rw [List.length_map,hlen];exact hl) (by rw [List.length_map,hlen];exact hcap) hsz (λe he=>by
      obtain ⟨q,hm,rfl⟩:=List.mem_map.1 he
      obtain ⟨i,hi⟩:=List.getElem?_of_mem hm
      rw [opr,List.length_map];exact (hq i q hi).choose_spec.2.1)
    (λi j hi hj=>by rw [List.length_map,hlen] at hi;exact h1 i j hi hj) (λi j e a he ha=>?_) (λx=>⟨.inl,λh=>h.elim id λ⟨_,_,_,_,h⟩=>h.elim⟩) (λ_ _ _ _ h=>h) (λ_ _ _ _ _ _ _ _ _ h=>h.elim)
   ·rw [List.length_map,hlen] at key;exact key
   ·rw [List.getElem?_map] at he
    cases hp:ls[i]? with
    |none=>rw [hp] at he;cases he
    | some q=>
     rw [hp] at he;cases he
     obtain ⟨e',g1,g0,_,g3⟩:=hq i q hp
     rw [opr,List.getElem?_map] at ha
     cases hp2:q[j]? with
     |none=>rw [hp2] at ha;cases ha
     | some p=>
      rw [hp2] at ha;cases ha
      obtain ⟨g4,_⟩:=g3 j p hp2
      have hj:j<k:=by rw [←g0];exact (List.getElem?_eq_some_iff.1 hp2).1
      have ho:=h1 i j (hil i q hp) hj
      rw [←g4] at ho ⊢
      exact .pure _ _ _ (.hd _ _ ho (.any _)) rfl (λ_ h=>h)
theorem ACM.closeK {P:Program} {f:FuncId} {k:Nat} {rest:List AV} {es:List (List AV)} (hR:∀e∈es,∀a∈e,NoB a) {Q:AV->List AV->Prop} (hent:Enters P f)
  (h:∀ls:List (List (Value×AV)),ls.map clr=es->(∀q∈ls,q.length=k)->ACS P f (.sl true k (ls.map opr)::rest) (λr ys=>∃(pos:Nat) (m:List (List (Value×AV))) (r':AV) (ys':List AV),Sel m ls/\(r::ys)[pos]? =some (.sl true k (m.map opr))/\
   (∀(j:Nat) a,j≠pos->(r::ys)[j]? =some a->NoB a)/\r'::ys'=(r::ys).set pos (.sl true k (m.map clr))/\Q r' ys')):ACM P f (.sl true k es::rest) Q:=by
 refine ⟨hent,λw A vs F hg hX hA hFs hNG=>?_⟩
 cases hX with
 |pure _ _ _ _ ho _=>simp [AV.isOwn] at ho
 | tup _ _ _ G hn hc hFe hd=>
  have h0:XRel w A (.sl true k es) (vs.getD 0 undef) (G 0):=hc 0 _ rfl
  obtain ⟨ls,B,H,e1,e2,e3,e4,e5,e6,e7⟩:=open_rowK h0
  have hF0:∀x,G 0 x->F x:=λx hx=>(hFe x).2 ⟨0,by simp,hx⟩
  have hHF:∀i j x,i<es.length->j<k->H i j x->F x:=λi j x hi hj hx=>hF0 x ((e4 x).2 (.inr ⟨i,j,hi,hj,hx⟩))
  have hlen:ls.length=es.length:=by rw [←e1,List.length_map]
  have hX2:XRel w (λx=>A x∨∃i j,i<es.length/\j<k/\H i j x) (.tup (.sl true k (ls.map opr)::rest)) (.tuple vs) (λx=>F x/\¬∃i j,i<es.length/\j<k/\H i j x):=by
   refine .tup _ _ _ (λj x=>if j=0 then B x else G j x) (by simpa using hn) (λj a ha=>?_) (λx=>?_) (λi j x hi hj h1 h2=>?_)
   ·cases j with
    |zero=>cases ha;exact (e7 _).congr λx=>by rw [if_pos rfl]
    |succ j=>exact (XRel.mono (λx hx=> .inl hx) (hc (j+1) a ha) (λ_ _=>rfl)).congr λx=>by rw [if_neg (by omega)]
   ·constructor
    ·rintro ⟨hf,hno⟩
     obtain ⟨j,hj,hx⟩:=(hFe x).1 hf
     refine ⟨j,by simpa using hj,?_⟩
     by_cases e:j=0
     ·subst e;rw [if_pos rfl];exact ((e4 x).1 hx).resolve_right hno
     ·rw [if_neg e];exact hx
    ·rintro ⟨j,hj,hx⟩
     by_cases e:j=0
     ·subst e;rw [if_pos rfl] at hx
      exact ⟨hF0 x ((e4 x).2 (.inl hx)),λ⟨i,j,hi,hj,h⟩=>e5 i j x hi hj h hx⟩
     ·rw [if_neg e] at hx
      refine ⟨(hFe x).2 ⟨j,by simpa using hj,hx⟩,λ⟨i,j',hi,hj',h⟩=>?_⟩
      exact e (hd 0 j x (by simp) (by simpa using hj) ((e4 x).2 (.inr ⟨i,j',hi,hj',h⟩)) hx).symm
   ·have tr:∀i,(if i=0 then B x else G i x)->G i x:=λi h=>by
     by_cases e:i=0
     ·subst e;rw [if_pos rfl] at h;exact (e4 x).2 (.inl h)
     ·rw [if_neg e] at h;exact h
    exact hd i j x (by simpa using hi) (by simpa using hj) (tr i h1) (tr j h2)
  refine ((h ls e1 e2).2 w _ vs _ hg hX2 (λb hb=>?_) (λb hb=>hFs b hb.1) (λb hb=>hNG b hb.1)).mono ?_
  ·rcases hb with hb|⟨i,j,hi,hj,hb⟩
   ·exact ⟨(hA b hb).1,λh=>(hA b hb).2 h.1⟩
   ·exact ⟨hFs b (hHF i j b hi hj hb),λh=>h.2 ⟨i,j,hi,hj,hb⟩⟩
  ·rintro e w' ⟨v,G',A',r,ys,⟨pos,m,r',ys',⟨idx,hnd,hidx⟩,hpos,hoth,hset,hQ⟩,rfl,hkp,hX3,hG',hA'⟩
   have hlt:∀(t i:Nat),idx[t]? =some i->t<m.length->i<es.length:=λt i hi ht=>by
    obtain ⟨p,hp⟩:∃p,m[t]? =some p:=⟨_,List.getElem?_eq_getElem ht⟩
    obtain ⟨i',h1,h2⟩:=Sel.get hidx hp
    rw [hi] at h1;cases h1
    rw [←hlen];exact (List.getElem?_eq_some_iff.1 h2).1
   have hil:idx.length=m.length:=by have:=congrArg List.length hidx;simpa using this.symm
   have hmk:∀(t:Nat) q,m[t]? =some q->∃i,idx[t]? =some i/\ls[i]? =some q/\q.length=k:=λt q hp=>by
    obtain ⟨i,h1,h2⟩:=Sel.get hidx hp
    exact ⟨i,h1,h2,e2 q (List.mem_of_getElem? h2)⟩
   cases hX3 with
   |pure _ _ _ _ ho _=>simp [AV.isOwn] at ho
   | tup _ _ _ Gc hn3 hc3 hFe3 hd3=>
    have hplt:=(List.getElem?_eq_some_iff.1 hpos).1
    have hrow:=hc3 pos _ hpos
    have hG'j:∀j x,j<(r::ys).length->Gc j x->F x∨w.heap.size<=x/\x<w'.heap.size:=λj x hj hx=>by
     rcases hG' x ((hFe3 x).2 ⟨j,hj,hx⟩) with h1|h1
     ·exact .inl h1.1
     ·exact .inr h1
    have hHG:∀i u j x,i<es.length->u<k->j<(r::ys).length->H i u x->¬Gc j x:=λi u j x hi hu hj h1 h2=>by
     rcases hG' x ((hFe3 x).2 ⟨j,hj,h2⟩) with h3|h3
     ·exact h3.2 ⟨i,u,hi,hu,h1⟩
     ·have:=hFs x (hHF i u x hi hu h1);omega
    have hkb:∀x,A x∨(∃i j,i<es.length/\j<k/\H i j x)->w'.heap[x]? =w.heap[x]?:=λx hx=>by
     refine hkp.block x ?_ λh2=>?_
     ·rcases hx with h1|⟨i,j,hi,hj,h1⟩
      ·exact (hA x h1).1
      ·exact hFs x (hHF i j x hi hj h1)
     ·rcases hx with h1|h1
      ·exact (hA x h1).2 h2.1
      ·exact h2.2 h1
    have hin:∀(i j:Nat) q p,ls[i]? =some q->q[j]? =some p->XRel w' (λ_=>False) p.2 p.1 (H i j):=λi j q p hq hp=>by
     have hi:i<es.length:=by rw [←hlen];exact (List.getElem?_eq_some_iff.1 hq).1
     have hj:j<k:=by rw [←e2 q (List.mem_of_getElem? hq)];exact (List.getElem?_eq_some_iff.1 hp).1
     have h1:XRel w' A p.2 p.1 (H i j):=(e3 i j q p hq hp).mono (λ_ h=>h) λx hx=>hkb x (hx.imp_right λh=>⟨i,j,hi,hj,h⟩)
     exact h1.noB (hR (clr q) (by rw [←e1];exact List.mem_map_of_mem (List.mem_of_getElem? hq)) p.2 (List.mem_map_of_mem (List.mem_of_getElem? hp)))
    have hnew:XRel w' (λ_=>False) (.sl true k (m.map clr)) ((#[v]++vs).getD pos undef) (λx=>Gc pos x∨∃t i j,t<m.length/\j<k/\idx[t]? =some i/\H i j x):=by
     rcases own_row hrow with ⟨g1,g2,g3⟩|⟨cap,b,T,c,Gr,g1,hb,hl,hcap,hsz,hk,h1,hr,hF,h0,hdr⟩
     ·have:m=[]:=by simpa using g1
      subst this
      rw [g2]
      exact .nil k _ λx hx=>hx.elim (g3 x) λ⟨t,i,j,h,_⟩=>by simp at h
     ·have hval:∀(t j:Nat) q p,m[t]? =some q->q[j]? =some p->c.getD (t*k+j) undef=p.1/\∀x,¬Gr t j x:=λt j q p hq hp=>by
       have h2:=hr t j (opr q) (.hd p.1 .any) (by rw [List.getElem?_map,hq];rfl) (by rw [opr,List.getElem?_map,hp];rfl)
       cases h2 with
       |pure _ _ _ h2 _ h3=>exact ⟨(rel_hd h2).1,h3⟩
      rw [List.length_map] at hl hcap h1 h0 hdr g1
      rw [g1]
      have hbG:Gc pos b:=(hF b).2 (.inl rfl)
      have key:=XRel.sl (w:=w') (A:=λ_=>False) k (m.map clr) cap b T c (λx=>Gc pos x∨∃t i j,t<m.length/\j<k/\idx[t]? =some i/\H i j x) (λt j x=>∃i,idx[t]? =some i/\H i j x) hb
       (by simpa using hl) (by simpa using hcap) hsz (λe he=>by
        obtain ⟨q,hm,rfl⟩:=List.mem_map.1 he
        obtain ⟨t,ht⟩:=List.getElem?_of_mem hm
        obtain ⟨_,_,_,g⟩:=hmk t q ht
        rw [clr,List.length_map];exact g) (λt j ht hj=>h1 t j (by simpa using ht) hj)
       (λt j e a he ha=>?_) (λx=>?_) (λt j ht hj hx=>?_) (λt j t' j' x ht hj ht' hj' hx hx'=>?_)
      ·rw [List.length_map] at key;exact key
      ·rw [List.getElem?_map] at he
       cases hp:m[t]? with
       |none=>rw [hp] at he;cases he
       | some q=>
        rw [hp] at he;cases he
        obtain ⟨i,hi,hpi,_⟩:=hmk t q hp
        rw [clr,List.getElem?_map] at ha
        cases hp2:q[j]? with
        |none=>rw [hp2] at ha;cases ha
        | some p=>
         rw [hp2] at ha;cases ha
         rw [(hval t j q p hp hp2).1]
         exact (hin i j q p hpi hp2).congr λx=>⟨λ⟨i',h1,h2⟩=>by rw [hi] at h1;cases h1;exact h2,λh=>⟨i,hi,h⟩⟩
      ·constructor
       ·rintro (hx|⟨t,i,j,ht,hj,hi,hx⟩)
        ·rcases (hF x).1 hx with hx|⟨t,j,ht,hj,hx⟩
         ·exact .inl hx
         ·exfalso
          rw [List.length_map] at ht
          obtain ⟨q,hq⟩:∃q,m[t]? =some q:=⟨_,List.getElem?_eq_getElem ht⟩
          obtain ⟨_,_,_,g⟩:=hmk t q hq
          obtain ⟨p,hp⟩:∃p,q[j]? =some p:=⟨_,List.getElem?_eq_getElem (by omega)⟩
          exact (hval t j q p hq hp).2 x hx
        ·exact .inr ⟨t,j,by simpa using ht,hj,i,hi,hx⟩
       ·rintro (hx|⟨t,j,ht,hj,i,hi,hx⟩)
        ·exact .inl (hx ▸ hbG)
        ·exact .inr ⟨t,i,j,by simpa using ht,hj,hi,hx⟩
      ·obtain ⟨i,hi,hx⟩:=hx
       rw [List.length_map] at ht
       exact hHG i j pos b (hlt t i hi ht) hj hplt hx hbG
      ·rw [List.length_map] at ht ht'
       obtain ⟨i,hi,hx⟩:=hx
       obtain ⟨i',hi',hx'⟩:=hx'
       obtain ⟨g1,g2⟩:=e6 i j i' j' x (hlt t i hi ht) hj (hlt t' i' hi' ht') hj' hx hx'
       subst g1
       exact ⟨(List.getElem?_inj (i:=t) (j:=t') (by omega) hnd).1 (hi.trans hi'.symm),g2⟩
    refine ⟨v,λx=>∃j,j<(r'::ys').length/\(if j=pos then Gc pos x∨∃t i u,t<m.length/\u<k/\idx[t]? =some i/\H i u x else Gc j x),r',ys',hQ,rfl,hkp.weaken (λx h=>h.1),?_,λb hb=>?_⟩
    ·have hle:(r'::ys').length=(r::ys).length:=by rw [hset,List.length_set]
     refine .tup _ _ _ (λj x=>if j=pos then Gc pos x∨∃t i u,t<m.length/\u<k/\idx[t]? =some i/\H i u x else Gc j x) (by rw [hle];exact hn3) (λj a ha=>?_) (λx=>Iff.rfl) (λi j x hi hj h1 h2=>?_)
     ·rw [hset,List.getElem?_set] at ha
      by_cases e:pos=j
      ·rw [if_pos e,if_pos hplt] at ha
       cases ha
       subst e
       exact hnew.congr λx=>by rw [if_pos rfl]
      ·rw [if_neg e] at ha
       refine ((hc3 j a ha).noB (hoth j a (Ne.symm e) ha)).congr λx=>?_
       rw [if_neg (Ne.symm e)]
     ·rw [hle] at hi hj
      by_cases ei:i=pos
      ·by_cases ej:j=pos
       ·rw [ei,ej]
       ·rw [if_pos ei] at h1;rw [if_neg ej] at h2
        rcases h1 with h1|⟨t,i',u,ht,hu,hi',h1⟩
        ·rw [ei];exact hd3 pos j x hplt hj h1 h2
        ·exact (hHG i' u j x (hlt t i' hi' ht) hu hj h1 h2).elim
      ·by_cases ej:j=pos
       ·rw [if_neg ei] at h1;rw [if_pos ej] at h2
        rcases h2 with h2|⟨t,i',u,ht,hu,hi',h2⟩
        ·rw [ej];exact hd3 i pos x hi hplt h1 h2
        ·exact (hHG i' u i x (hlt t i' hi' ht) hu hi h2 h1).elim
       ·rw [if_neg ei] at h1;rw [if_neg ej] at h2
        exact hd3 i j x hi hj h1 h2
    ·obtain ⟨j,hj,hb⟩:=hb
     have hle:(r'::ys').length=(r::ys).length:=by rw [hset,List.length_set]
     rw [hle] at hj
     by_cases e:j=pos
     ·rw [if_pos e] at hb
      rcases hb with hb|⟨t,i',u,ht,hu,hi',hb⟩
      ·exact hG'j pos b hplt hb
      ·exact .inl (hHF i' u b (hlt t i' hi' ht) hu hb)
     ·rw [if_neg e] at hb
      exact hG'j j b hj hb
theorem Sel.cut {α:Type} {l:List α} {i j:Nat} (hij:i<=j):Sel (l.take i++l.drop j) l:=by
 refine ⟨(List.range l.length).take i++(List.range l.length).drop j,?_,?_⟩
 ·have h:=(List.nodup_range (n:=l.length))
  rw [List.nodup_append]
  refine ⟨h.sublist (List.take_sublist _ _),h.sublist (List.drop_sublist _ _),λa ha b hb=>?_⟩
  obtain ⟨s,hs⟩:=List.getElem?_of_mem ha
  obtain ⟨t,ht⟩:=List.getElem?_of_mem hb
  rw [List.getElem?_take] at hs
  rw [List.getElem?_drop] at ht
  split at hs
  ·rename_i hlt
   have e1:=(List.getElem?_eq_some_iff.1 hs).2
   have e2:=(List.getElem?_eq_some_iff.1 ht).2
   simp at e1 e2
   omega
  ·cases hs
 ·have e:l.map some=(List.range l.length).map λi=>l[i]?:=by
   refine List.ext_getElem? λi=>?_
   rw [List.getElem?_map,List.getElem?_map]
   by_cases hi:i<l.length
   ·rw [List.getElem?_range hi,List.getElem?_eq_getElem hi];simp [hi]
   ·rw [List.getElem?_eq_none (by omega),List.getElem?_eq_none (by simpa using hi)];rfl
  rw [List.map_append,List.map_append,List.map_take,List.map_drop,List.map_take,List.map_drop,e]
open Classical
set_option maxRecDepth 100000
set_option maxHeartbeats 2000000
set_option linter.unusedSimpArgs false
set_option maxHeartbeats 4000000
theorem aid_noB (v:Aid):∀a∈v.cs true,NoB a:=λa ha=>by
  have h:=NoB.oAid v
  obtain ⟨i,hi⟩:=List.getElem?_of_mem ha
  cases h with
  |agg _ h=>exact h i a hi
theorem delAidO_ {es:List (List AV)} {ls:List (List (Value×AV))} (i j:Int) (hl:es=ls.map opr) (h:0<=i/\i<=j/\j<=ls.length) (hbl:ls.length<=1048576):ACS Tryz.prog 295 [.sl true 16 es,.int .i64 i,.int .i64 j] (λr ys=>∃es',es'=(ls.take i.toNat++ls.drop j.toNat).map opr/\r= .sl true 16 es'/\ys=[.any,.any,.any]):=by
  refine acs 1 Tryz.func295 λE K hE hK=>?_
  conv=>cbv
  repeat' first
    |((first
   |refine q0 hE ?_
   |refine subL hE (by assumption) (by simp only [Option.getD_some,Option.getD_none];omega) (λ_ _=>?_)
   |refine mvH hE (by assumption) opr_flat (by omega) (λ_ _ _ _=>?_)
   |refine clrG hE (by first|omega|(simp only [List.length_map,List.length_append,List.length_take,List.length_drop, *];omega)) (λes2 hl2 ht2=>?_)
   |refine subG hE (by simp only [Option.getD_some,Option.getD_none,List.length_map,List.length_append,List.length_take,List.length_drop, *];omega) (λ_ _=>?_)
   |refine B0 hE ?_|refine B1 hE ?_ ?_|refine B2 hE ?_)<;>intros<;>(try conv=>cbv))
  all_goals first
    |omega
    |(refine hK _ _ ⟨_,?_,rfl,rfl⟩;rw [hl,show j=i by omega,List.take_append_drop];done)
    |exact hK _ _ ⟨_,del_done h (by assumption) (by assumption) (by assumption) (by assumption) ht2 (by assumption),rfl,rfl⟩
theorem delAid_ {rs:List (List AV)} {l:List Aid} (i j:Int) (hl:rs=l.map (Aid.cs true)) (h:0<=i/\i<=j/\j<=l.length) (hbl:l.length<=1048576):ACM Tryz.prog 295 [.sl true 16 rs,.int .i64 i,.int .i64 j] (λr ys=>∃rs',rs'=(l.take i.toNat++l.drop j.toNat).map (Aid.cs true)/\r= .sl true 16 rs'/\ys=[.any,.any,.any]):=by
  refine ACM.closeK (λe he a ha=>?_) (λargs w=>enters_go Tryz.func295 (by kernel_rfl) rfl args w) (λls h1 h2=>?_)
  · rw [hl] at he
    obtain ⟨v,_,rfl⟩:=List.mem_map.1 he
    exact aid_noB v a ha
  · have hlen:ls.length=l.length:=by
      have:=congrArg List.length h1
      rw [List.length_map,hl,List.length_map] at this;exact this
    refine (delAidO_ (ls:=ls) i j rfl (by omega) (by omega)).mono ?_
    rintro r ys ⟨es',h3,rfl,rfl⟩
    subst h3
    refine ⟨0,_,_,_,Sel.cut (by omega),rfl,λn a hn ha=>?_,rfl,_,?_,rfl,rfl⟩
    · match n,ha with
      |0,_=>exact absurd rfl hn
      |1,ha=>cases ha;exact .any
      |2,ha=>cases ha;exact .any
      |3,ha=>cases ha;exact .any
      |n+4,ha=>simp at ha
    · rw [List.map_append,List.map_take,List.map_drop,h1,hl,List.map_append,List.map_take,List.map_drop]
theorem insA_map {l:List Aid} {w:Aid} {rs:List (List AV)} (h:rs=l.map (Aid.cs true)) (k:Nat):rs.take k++w.cs true::rs.drop k=(l.take k++w::l.drop k).map (Aid.cs true):=by
  rw [h,List.map_append,List.map_cons,List.map_take,List.map_drop]
theorem insA_ {rs re:List (List AV)} {l:List Aid} (a:Aid) (i:Int) (hl:rs=l.map (Aid.cs true)) (he:re=[a.cs true]) (hi:0<=i/\i<=l.length) (hb:l.length<=1048576):ACM Tryz.prog 294 [.sl true 16 rs,.int .i64 i,.sl true 16 re] (λr ys=>∃rs',rs'=(l.take i.toNat++a::l.drop i.toNat).map (Aid.cs true)/\r= .sl true 16 rs'/\ys=[.any,.any,.any]):=by
  have hlen:rs.length=l.length:=by rw [hl,List.length_map]
  subst he
  exact (insAid_ (es:=rs) (e:=a.cs true) (i:=i) (by omega) (by omega) (by rw [insA_map hl];exact .rows .oAid)).mono λr ys ⟨h1,h2⟩=>⟨_,insA_map hl _,h1,h2⟩
end Go.Proofs.YtpfddoikhmbebaaGreatDoor
