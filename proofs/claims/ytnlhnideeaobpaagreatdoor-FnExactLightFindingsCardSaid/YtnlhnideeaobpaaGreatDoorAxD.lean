/- Soundness of calls that change what they are lent. -/
import Derived.Test.YtnlhnideeaobpaaGreatDoorAxC
namespace Go.Proofs.YtnlhnideeaobpaaGreatDoor
set_option linter.unusedVariables false
set_option linter.unusedSimpArgs false
open Go Go.RowKit
section
variable {P:Program} {np:Nat} {L:Lay} {W:WM} {w w':World} {A:Nat->Prop} {os os':List Obj} {hd hd':Nat->Value} {F F':Nat->Nat->Prop} {s:AS} {a:Act}
theorem qP (n:Nat):∀l:List Nat,qo n l=true↔n∈l
 |[]=>by simp [qo]
 | m::l=>by
  unfold qo;split
  ·rename_i h;subst h;simp
  ·rename_i h;rw [qP n l];simp [cI h]
theorem mI:∀{l:List Nat},nodupB l=true->l.Nodup
 |[],_=>List.nodup_nil
 | n::l,h=>by
  unfold nodupB at h;split at h
  ·cases h
  ·rename_i h1;refine kf.2 ⟨λh2=>?_,mI h⟩;rw [(qP n l).2 h2] at h1;cases h1
theorem CW.setMany [St] (h:CW W w A os hd F) (ids:List Nat) {os':List Obj} (Gn:Nat->Nat->Prop) (hlen:os'.length=os.length)
  (hk:Keeps (λx=>∃id∈ids,F id x) w w') (hout:∀id,id∉ids->os'[id]? =os[id]?)
  (hin:∀id∈ids,os'[id]? =some .dead∨∃k es es',os[id]? =some (.row k es)/\os'[id]? =some (.row k es')/\es'.length=es.length/\bB w' A (.sl true k es') (hd id) (Gn id))
  (hG:∀id∈ids,∀x,Gn id x->(∃j∈ids,F j x)∨w.heap.size<=x/\x<w'.heap.size)
  (hdj:∀id∈ids,∀j∈ids,∀x,Gn id x->Gn j x->id=j):
  CW W w' A os' hd (λid x=>(id∈ids/\Gn id x)∨(id∉ids/\F id x))/\∀y u,aU w A os hd y u->aU w' A os' hd y u:=by
 have hA:∀y,A y->y<w.heap.size/\¬∃id∈ids,F id y:=λy hy=>⟨(h.hA y hy).1,λ⟨id,_,h'⟩=>(h.hA y hy).2 id h'⟩
 have hm:∀y u,aU w A os hd y u->aU w' A os' hd y u:=λy u hy=>by
  refine (hy.FH hA hk).eZ (by omega) (λi k es'' hi h'=>?_) (λi cs' hi h'=>?_) (λi s' p' hi h'=>?_)
  ·by_cases hmem:i∈ids
   ·rcases hin i hmem with h1|⟨k0,es,es',h1,h2,h3,_⟩
    ·rw [h1] at h';cases h'
    ·rw [h2] at h';cases h';exact ⟨es,h1,h3.symm,rfl⟩
   ·rw [hout i hmem] at h';exact ⟨es'',h',rfl,rfl⟩
  ·by_cases hmem:i∈ids
   ·rcases hin i hmem with h1|⟨k0,es,es',h1,h2,h3,_⟩
    ·rw [h1] at h';cases h'
    ·rw [h2] at h';cases h'
   ·rw [hout i hmem] at h';exact ⟨cs',h',rfl⟩
  ·by_cases hmem:i∈ids
   ·rcases hin i hmem with h1|⟨k0,es,es',h1,h2,h3,_⟩
    ·rw [h1] at h';cases h'
    ·rw [h2] at h';cases h'
   ·rw [hout i hmem] at h';exact ⟨s',p',h',rfl⟩
 have hF:∀j,j∉ids->∀x,F j x->x<w.heap.size/\¬∃id∈ids,F id x:=λj hj x hx=>⟨(h.fsz j x hx).2,λ⟨id,h1,h2⟩=>hj (by rw [h.jH _ _ _ hx h2];exact h1)⟩
 refine ⟨⟨h.below.keep hk (λx ⟨id,_,h'⟩=>(h.fsz id x h').1),λx hx=>⟨bu (hA x hx).1 hk.size,λi hi=>?_⟩,λi x hx=>?_,λi j x hi hj=>?_,λi k es h'=>?_,λi cs h'=>?_,λi s' p' h'=>?_,λp hp=>⟨by rw [hlen];exact (h.pin p hp).1,(h.pin p hp).2⟩,h.old⟩,hm⟩
 ·rcases hi with ⟨h1,h2⟩|⟨_,h2⟩
  ·rcases hG i h1 x h2 with h3|h3
   ·exact (hA x hx).2 h3
   ·have:=(hA x hx).1;omega
  ·exact (h.hA x hx).2 i h2
 ·rcases hx with ⟨h1,h2⟩|⟨_,h2⟩
  ·rcases hG i h1 x h2 with ⟨j,_,h3⟩|h3
   ·exact ⟨(h.fsz j x h3).1,bu (h.fsz j x h3).2 hk.size⟩
   ·exact ⟨h.below.new h3.1,h3.2⟩
  ·exact ⟨(h.fsz i x h2).1,bu (h.fsz i x h2).2 hk.size⟩
 ·rcases hi with ⟨h1,h2⟩|⟨h1,h2⟩<;>rcases hj with ⟨k1,k2⟩|⟨k1,k2⟩
  ·exact hdj i h1 j k1 x h2 k2
  ·exfalso;rcases hG i h1 x h2 with h3|h3
   ·exact (hF j k1 x k2).2 h3
   ·have:=(hF j k1 x k2).1;omega
  ·exfalso;rcases hG j k1 x k2 with h3|h3
   ·exact (hF i h1 x h2).2 h3
   ·have:=(hF i h1 x h2).1;omega
  ·exact h.jH i j x h2 k2
 ·by_cases hmem:i∈ids
  ·rcases hin i hmem with h1|⟨k0,es0,es',h1,h2,h3,h4⟩
   ·rw [h1] at h';cases h'
   ·rw [h2] at h';cases h';exact h4.congr (λx=>⟨λh=>h.elim (λh=>h.2) (λh=>(h.1 hmem).elim),λh=> .inl ⟨hmem,h⟩⟩)
  ·rw [hout i hmem] at h'
   exact ((h.rows i k es h').mono (λ_ h=>h) (λx hx=>hx.elim (λhx=>hk.block x (hA x hx).1 (hA x hx).2) (λhx=>hk.block x (hF i hmem x hx).1 (hF i hmem x hx).2))).congr
    (λx=>⟨λh=>h.elim (λh=>(hmem h.1).elim) (λh=>h.2),λh=> .inr ⟨hmem,h⟩⟩)
 ·by_cases hmem:i∈ids
  ·rcases hin i hmem with h1|⟨k0,es0,es',h1,h2,h3,h4⟩
   ·rw [h1] at h';cases h'
   ·rw [h2] at h';cases h'
  ·rw [hout i hmem] at h';obtain ⟨b,T,c,e1,e2,e3,e4,e5⟩:=h.boxes i cs h';exact ⟨b,T,c,e1,by rw [hk.block b (hF i hmem b e5).1 (hF i hmem b e5).2];exact e2,e3,λj x hx=>hm _ _ (e4 j x hx),.inr ⟨hmem,e5⟩⟩
 ·by_cases hmem:i∈ids
  ·rcases hin i hmem with h1|⟨k0,es0,es',h1,h2,h3,h4⟩
   ·rw [h1] at h';cases h'
   ·rw [h2] at h';cases h'
  ·rw [hout i hmem] at h';obtain ⟨b,e1,e2,e3⟩:=h.nN i s' p' h';exact ⟨b,e1,by rw [hk.block b (hF i hmem b e3).1 (hF i hmem b e3).2];exact e2,.inr ⟨hmem,e3⟩⟩
def Rd (w:World) (F:Nat->Nat->Prop) (ids:List Nat) (b:Nat):Prop:=b<w.heap.size/\¬∃id∈ids,F id b
theorem Rel.aeS {w:World} {A:Nat->Prop} {t k es v} (h:Rel w A (.sl t k es) v):Rel w A (.sl false k es) v:=by
 cases h with
 |sl _ _ _ _ _ b off val hl hcap hp hk' hc h1c hr=>exact .sl _ _ _ _ _ b off val hl hcap hp hk' hc h1c hr
theorem Rel.rd [St] (hw:CW W w A os hd F) (ids:List Nat) {x v} (h:Rel w A x v):Rel w (Rd w F ids) x v:=
 h.mono (λ_ _=>rfl) (λy hy=>⟨(hw.hA y hy).1,λ⟨id,_,h'⟩=>(hw.hA y hy).2 id h'⟩)
theorem Cb [St] (hw:CW W w A s.os hd F) {ids:List Nat} (iq:∀id∈ids,∃k es,s.os[id]? =some (.row k es)) {x v y} (hx:aU w A s.os hd x v) (hl:s.U7 x=some y):Rel w (Rd w F ids) y v/\y.dF=false:=by
 unfold AS.U7 at hl;split at hl
 case h_1=>cases hl;exact ⟨(hx.dN trivial).rd hw ids,rfl⟩
 case h_2=>cases hl;exact ⟨(hx.dN trivial).rd hw ids,rfl⟩
 case h_3=>cases hl;exact ⟨(hx.dN trivial).rd hw ids,rfl⟩
 case h_4=>cases hl;exact ⟨(hx.dN trivial).rd hw ids,rfl⟩
 case h_5=>cases hl;exact ⟨(hx.dN trivial).rd hw ids,rfl⟩
 case h_6=>cases hl;exact ⟨(hx.lW.aeS).rd hw ids,rfl⟩
 case h_7=>cases hl;exact ⟨(hx.dN trivial).rd hw ids,rfl⟩
 case h_8=>cases hl;exact ⟨(hx.dN trivial).rd hw ids,rfl⟩
 case h_9 =>
  split at hl
  ·rename_i id off _ cs ho;split at hl
   ·rename_i hp;cases hl;obtain ⟨b,T,c,e1,e2,e3,e4,hpt,hc⟩:=Bv hw ho;obtain ⟨b',e5,e6⟩:=hx.lX ho;rw [e1] at e5;cases e5;subst e6;refine ⟨Rel.Iw ⟨(hw.fsz id b e4).2,λ⟨j,h1,h2⟩=>?_⟩ (λj x hx=>?_),rfl⟩
    ·have:=hw.jH _ _ _ e4 h2;subst this;obtain ⟨k,es,h3⟩:=iq _ h1;rw [ho] at h3;cases h3
    ·have hx0:=hx;rw [bv] at hx;have h1:=hc (off+j) x hx;(have hj:off+j<c.size:=by rw [e3];exact (aa.1 hx).1);refine ⟨c.getD (off+j) undef,by simp [World.cell?,e2,hj],?_⟩
     have hpx:x.isPure=true:=by
      have:∀(l:List AV),AV.jv l=true->∀(i:Nat) x,l[i]? =some x->x.isPure=true:=by
       intro l
       induction l with
       |nil=>intro _ i x h;simp at h
       | cons y l ih=>
        intro h i x hx;unfold AV.jv at h;split at h
        ·cases i with
         |zero=>simp at hx;subst hx;assumption
         |succ i=>simp at hx;exact ih h i x hx
        ·cases h
      exact this _ hp j x hx0
     (have:Rel w A x (c.getD (off+j) undef):=by cases x<;>first|exact h1.dN trivial|cases hpx);exact this.rd hw ids
   ·cases hl
  ·cases hl
 case h_10=>cases hl
theorem yZ [St] (hw:CW W w A s.os hd F) {ids:List Nat} (iq:∀id∈ids,∃k es,s.os[id]? =some (.row k es)):∀(cs:List AV) (vs:List Value) (ys:List AV),vs.length=cs.length->(∀(i:Nat) x,cs[i]? =some x->aU w A s.os hd x (vs.getD i undef))->s.Fg cs=some ys->
  ys.length=vs.length/\∀(i:Nat) x,ys[i]? =some x->Rel w (Rd w F ids) x (vs.getD i undef)/\x.dF=false
 | [],vs,ys,hn,_,hk=>by
  unfold AS.Fg at hk;cases hk;exact ⟨by simpa using hn.symm,λi x hx=>by simp at hx⟩
 |_::_,[],_,hn,_,_=>by simp at hn
 | x::cs,v::vs,ys,hn,hc,hk=>by
  unfold AS.Fg at hk;split at hk
  ·rename_i y m h1 h2;cases hk;have hx':=Cb hw iq (by simpa using hc 0 x (by simp)) h1;obtain ⟨hl,hcs⟩:=yZ hw iq cs vs m (by simpa using hn) (λi y hy=>by simpa using hc (i+1) y (by simpa using hy)) h2;refine ⟨by simp [hl],λi y hy=>?_⟩
   cases i with
   |zero=>simp at hy;subst hy;simpa using hx'
   |succ i=>simp at hy;simpa using hcs i y hy
  ·cases hk
theorem Qh [St] (hw:CW W w A s.os hd F) {ids:List Nat} (iq:∀id∈ids,∃k es,s.os[id]? =some (.row k es)) {x v y} (hx:aU w A s.os hd x v) (hl:s.Vx x=some y):Rel w (Rd w F ids) y v:=by
 unfold AS.Vx at hl;split at hl
 ·rename_i f cs;split at hl
  ·rename_i cs' hc;cases hl;obtain ⟨vs,rfl,hn,hcs⟩:=hx.uO;obtain ⟨h1,h2⟩:=yZ hw iq cs vs.toList cs' (by simpa using hn) (λi x hx=>by rw [aR];exact hcs i x hx) hc;exact .fn _ _ _ (by simpa using h1.symm) (λi x hx=>by rw [←aR];exact (h2 i x hx).1)
  ·cases hl
 ·split at hl
  ·rename_i hp;cases hl;(have:Rel w A x v:=by cases x<;>first|exact hx.dN trivial|cases hp);exact this.rd hw ids
  ·cases hl
theorem Gt:∀{cs ys:List AV},s.cellsA cs=some ys->∀{i:Nat} {y:AV},ys[i]? =some y->∃x,cs[i]? =some x/\s.Vx x=some y
 |[],ys,h,i,y,hy=>by unfold AS.cellsA at h;cases h;simp at hy
 | x::cs,ys,h,i,y,hy=>by
  unfold AS.cellsA at h;split at h
  ·rename_i z m h1 h2;cases h
   cases i with
   |zero=>simp at hy;subst hy;exact ⟨x,rfl,h1⟩
   |succ i=>simp at hy;obtain ⟨x',g1,g2⟩:=Gt h2 hy;exact ⟨x',by simpa using g1,g2⟩
  ·cases h
theorem Cc [St] (hw:CW W w A s.os hd F) {ids:List Nat} (iq:∀id∈ids,∃k es,s.os[id]? =some (.row k es)) {x v y} (hx:aU w A s.os hd x v) (hl:s.U8 x=some y):Rel w (Rd w F ids) y v/\y.dF=false:=by
 unfold AS.U8 at hl;split at hl
 ·rename_i id off;split at hl
  ·rename_i cs ho;split at hl
   ·rename_i cs' hcs;cases hl;obtain ⟨b,T,c,e1,e2,e3,e4,hpt,hc⟩:=Bv hw ho;obtain ⟨b',e5,e6⟩:=hx.lX ho;rw [e1] at e5;cases e5;subst e6;refine ⟨Rel.Iw ⟨(hw.fsz id b e4).2,λ⟨j,h1,h2⟩=>?_⟩ (λj y hy=>?_),rfl⟩
    ·have:=hw.jH _ _ _ e4 h2;subst this;obtain ⟨k,es,h3⟩:=iq _ h1;rw [ho] at h3;cases h3
    ·obtain ⟨x,hx,hxy⟩:=Gt hcs hy;rw [bv] at hx;have h1:=hc (off+j) x hx;(have hj:off+j<c.size:=by rw [e3];exact (aa.1 hx).1);exact ⟨c.getD (off+j) undef,by simp [World.cell?,e2,hj],Qh hw iq h1 hxy⟩
   ·cases hl
  ·cases hl
 ·exact Cb hw iq hx hl
theorem uG [St] (hw:CW W w A s.os hd F) {ids:List Nat} (iq:∀id∈ids,∃k es,s.os[id]? =some (.row k es)):∀(cs:List AV) (vs:List Value) (ys:List AV),vs.length=cs.length->(∀(i:Nat) x,cs[i]? =some x->aU w A s.os hd x (vs.getD i undef))->s.Fh cs=some ys->
  ys.length=vs.length/\∀(i:Nat) x,ys[i]? =some x->Rel w (Rd w F ids) x (vs.getD i undef)/\x.dF=false
 | [],vs,ys,hn,_,hk=>by
  unfold AS.Fh at hk;cases hk;exact ⟨by simpa using hn.symm,λi x hx=>by simp at hx⟩
 |_::_,[],_,hn,_,_=>by simp at hn
 | x::cs,v::vs,ys,hn,hc,hk=>by
  unfold AS.Fh at hk;split at hk
  ·rename_i y m h1 h2;cases hk;have hx':=Cc hw iq (by simpa using hc 0 x (by simp)) h1;obtain ⟨hl,hcs⟩:=uG hw iq cs vs m (by simpa using hn) (λi y hy=>by simpa using hc (i+1) y (by simpa using hy)) h2;refine ⟨by simp [hl],λi y hy=>?_⟩
   cases i with
   |zero=>simp at hy;subst hy;simpa using hx'
   |succ i=>simp at hy;simpa using hcs i y hy
  ·cases hk
theorem ET {cs:List AV} {i id:Nat} (h:cs[i]? =some (.ob id)):id∈uJ cs:=by
 induction cs generalizing i with
 |nil=>simp at h
 | cons x cs ih=>
  cases i with
  |zero=>simp at h;subst h;simp [uJ]
  | succ i=>
   have h1:=ih (i:=i) (by simpa using h);cases x<;>simp [uJ,h1]
theorem Px {cs:List AV} {id:Nat} (h:id∈uJ cs):∃i:Nat,cs[i]? =some (AV.ob id):=by
 induction cs with
 |nil=>simp [uJ] at h
 | cons x cs ih=>
  have go:id∈uJ cs->∃i:Nat,(x::cs)[i]? =some (AV.ob id):=λh=>by
   obtain ⟨i,hi⟩:=ih h;exact ⟨i+1,by simpa using hi⟩
  cases x<;>simp only [uJ] at h<;>try exact go h
  rcases bk.1 h with h|h
  ·subst h;exact ⟨0,rfl⟩
  ·exact go h
theorem aaL {cs:List AV} (hn:(uJ cs).Nodup) {i j id:Nat} (hi:cs[i]? =some (.ob id)) (hj:cs[j]? =some (.ob id)):i=j:=by
 induction cs generalizing i j with
 |nil=>simp at hi
 | cons x cs ih=>
  have hn2:(uJ cs).Nodup:=by
   cases x<;>simp only [uJ] at hn<;>first|exact hn|exact (kf.1 hn).2
  cases i with
  | zero=>
   cases j with
   |zero=>rfl
   | succ j=>
    simp at hi hj;subst hi;simp only [uJ] at hn;exact ((kf.1 hn).1 (ET hj)).elim
  | succ i=>
   cases j with
   | zero=>
    simp at hi hj;subst hj;simp only [uJ] at hn;exact ((kf.1 hn).1 (ET hi)).elim
   |succ j=>exact congrArg (·+1) (ih hn2 (i:=i) (j:=j) (by simpa using hi) (by simpa using hj))
theorem OJ [St] (hw:CW W w A s.os hd F) {ids:List Nat} {x v y} (hx:aU w A s.os hd x v) (hl:s.Fe x=some y):bB w (Rd w F ids) y v (λb=>∃id,x= .ob id/\F id b):=by
 unfold AS.Fe at hl;split at hl
 ·rename_i id;split at hl
  ·rename_i k es ho;cases hl;rw [hx.iI ho];refine ((hw.rows id k es ho).mono (A':=Rd w F ids) (λy hy=>⟨(hw.hA y hy).1,λ⟨id,_,h'⟩=>(hw.hA y hy).2 id h'⟩) (λ_ _=>rfl)).congr λb=>?_;simp
  ·cases hl
 ·cases hl;exact .pure _ _ _ ((hx.dN trivial).rd hw ids) rfl (λb ⟨id,h,_⟩=>by cases h)
 ·cases hl;exact .pure _ _ _ ((hx.dN trivial).rd hw ids) rfl (λb ⟨id,h,_⟩=>by cases h)
 ·cases hl;exact .pure _ _ _ ((hx.dN trivial).rd hw ids) rfl (λb ⟨id,h,_⟩=>by cases h)
 ·cases hl
theorem Xh {x y:AV} {id:Nat} (hl:s.Fe x=some y) (hx:x= .ob id):∃k es,s.os[id]? =some (.row k es):=by
 subst hx;unfold AS.Fe at hl;simp only at hl;split at hl
 ·rename_i k es ho;exact ⟨k,es,ho⟩
 ·cases hl
theorem xC:∀{cs ys:List AV},s.Fb cs=some ys->ys.length=cs.length/\(∀{i:Nat} {y:AV},ys[i]? =some y->∃x,cs[i]? =some x/\s.Fe x=some y)/\∀{i:Nat} {x:AV},cs[i]? =some x->∃y,s.Fe x=some y
 | [],ys,h=>by
  unfold AS.Fb at h;cases h;exact ⟨rfl,λhy=>by simp at hy,λhx=>by simp at hx⟩
 | x ::cs,ys,h=>by
  unfold AS.Fb at h;split at h
  ·rename_i z m h1 h2;cases h;obtain ⟨g0,g1,g2⟩:=xC h2;refine ⟨by simp [g0],λ{i y} hy=>?_,λ{i x'} hx=>?_⟩
   ·cases i with
    |zero=>simp at hy;subst hy;exact ⟨x,rfl,h1⟩
    |succ i=>simp at hy;obtain ⟨x',q1,q2⟩:=g1 hy;exact ⟨x',by simpa using q1,q2⟩
   ·cases i with
    |zero=>simp at hx;subst hx;exact ⟨z,h1⟩
    |succ i=>simp at hx;exact g2 hx
  ·cases h
theorem RN [St] (hw:CW W w A s.os hd F) {ids:List Nat} (iq:∀id∈ids,∃k es,s.os[id]? =some (.row k es)) {x v y} (hx:aU w A s.os hd x v) (hsub:∀id∈iV x,id∈ids) (hnd:(iV x).Nodup) (hl:s.lend x=some y):bB w (Rd w F ids) y v (λb=>∃id∈iV x,F id b):=by
 unfold AS.lend at hl;split at hl
 ·rename_i id;split at hl
  ·rename_i k es ho;cases hl;rw [hx.iI ho];refine ((hw.rows id k es ho).mono (A':=Rd w F ids) (λy hy=>⟨(hw.hA y hy).1,λ⟨id,_,h'⟩=>(hw.hA y hy).2 id h'⟩) (λ_ _=>rfl)).congr λb=>?_;simp [iV]
  ·cases hl
 ·rename_i f cs;split at hl
  ·rename_i cs' hc;cases hl;obtain ⟨vs,rfl,hn,hcs⟩:=hx.uO;obtain ⟨h1,h2⟩:=uG hw iq cs vs.toList cs' (by simpa using hn) (λi x hx=>by rw [aR];exact hcs i x hx) hc;exact .pure _ _ _ (.fn _ _ _ (by simpa using h1.symm) (λi x hx=>by rw [←aR];exact (h2 i x hx).1)) rfl (λb ⟨id,h,_⟩=>by simp [iV] at h)
  ·cases hl
 ·rename_i cs;split at hl
  ·rename_i cs' hc;cases hl;obtain ⟨vs,rfl,hn,hcs⟩:=hx.iP;obtain ⟨g0,g1,g2⟩:=xC hc;simp only [iV] at hnd hsub ⊢;refine .agg _ _ _ (λi b=>∃id,cs[i]? =some (.ob id)/\F id b) (by rw [g0];exact hn) (λi y hy=>?_) (λb=>⟨λ⟨id,h1,h2⟩=>?_,λ⟨i,_,id,h1,h2⟩=>⟨id,ET h1,h2⟩⟩) (λi i' b _ _ ⟨id,h1,h2⟩ ⟨id',h1',h2'⟩=>?_)
   ·obtain ⟨x',q1,q2⟩:=g1 hy;refine (OJ hw (hcs i x' q1) q2).congr λb=>?_;rw [q1];simp
   ·obtain ⟨i,hi⟩:=Px h1;exact ⟨i,by rw [g0];exact (aa.1 hi).1,id,hi,h2⟩
   ·have:=hw.jH _ _ _ h2 h2';subst this;exact aaL hnd h1 h1'
  ·cases hl
 ·rename_i h1 h2 h5;obtain ⟨h3,h4⟩:=Cc hw iq hx hl;exact .pure _ _ _ h3 h4 (λb ⟨id,h,_⟩=>by cases x<;>first|exact h1 _ rfl|exact h5 _ rfl|simp [iV] at h)
theorem BX [St] (hw:CW W w A s.os hd F) {ids:List Nat} (iq:∀id∈ids,∃k es,s.os[id]? =some (.row k es)):∀(cs:List AV) (vs:List Value) (ys:List AV),vs.length=cs.length->(∀(i:Nat) x,cs[i]? =some x->aU w A s.os hd x (vs.getD i undef))->(∀id∈lM cs,id∈ids)->(lM cs).Nodup->s.BZ cs=some ys->
  ys.length=vs.length/\∀(i:Nat) y,ys[i]? =some y->bB w (Rd w F ids) y (vs.getD i undef) (λb=>∃x,cs[i]? =some x/\∃id∈iV x,F id b)
 | [],vs,ys,hn,_,_,_,hk=>by
  unfold AS.BZ at hk;cases hk;exact ⟨by simpa using hn.symm,λi x hx=>by simp at hx⟩
 |_::_,[],_,hn,_,_,_,_=>by simp at hn
 | x::cs,v::vs,ys,hn,hc,hs,hnd,hk=>by
  unfold AS.BZ at hk;unfold lM at hnd;have ahM:=eC.1 hnd;split at hk
  ·rename_i y m h1 h2;cases hk;have hx':=RN hw iq (by simpa using hc 0 x (by simp)) (λid h=>hs id (by unfold lM;exact cr _ h)) ahM.1 h1;obtain ⟨hl,hcs⟩:=BX hw iq cs vs m (by simpa using hn) (λi y hy=>by simpa using hc (i+1) y (by simpa using hy)) (λid h=>hs id (by unfold lM;exact cz _ h)) ahM.2.1 h2;refine ⟨by simp [hl],λi y hy=>?_⟩
   cases i with
   |zero=>simp at hy;subst hy;simpa using hx'
   |succ i=>simp at hy;simpa using hcs i y hy
  ·cases hk
theorem I5:∀{cs ys:List AV},s.BZ cs=some ys->∀id∈lM cs,∃k es,s.os[id]? =some (.row k es)
 |[],_,_,id,h=>by simp [lM] at h
 | x ::cs,ys,hk,id,h=>by
  unfold AS.BZ at hk;split at hk
  ·rename_i y m h1 h2;unfold lM at h;rcases ca.1 h with h|h
   ·cases x<;>simp [iV] at h
    ·unfold AS.lend at h1;simp only at h1;split at h1
     ·rename_i cs' hc;obtain ⟨i,hi⟩:=Px h;obtain ⟨y',hy'⟩:=(xC hc).2.2 hi;exact Xh hy' rfl
     ·cases h1
    ·subst h;unfold AS.lend at h1;simp only at h1;split at h1
     ·rename_i k es ho;exact ⟨k,es,ho⟩
     ·cases h1
   ·exact I5 h2 id h
  ·cases hk
theorem vN {cs:List AV} {i id:Nat} {x:AV} (h:cs[i]? =some x) (hx:id∈iV x):id∈lM cs:=by
 induction cs generalizing i with
 |nil=>simp at h
 | cons x cs ih=>
  unfold lM
  cases i with
  |zero=>simp at h;subst h;exact cr _ hx
  |succ i=>exact cz _ (ih (by simpa using h))
theorem Pq {cs:List AV} {id:Nat} (h:id∈lM cs):∃(i:Nat) (x:AV),cs[i]? =some x/\id∈iV x:=by
 induction cs with
 |nil=>simp [lM] at h
 | cons x cs ih=>
  unfold lM at h;rcases ca.1 h with h|h
  ·exact ⟨0,x,rfl,h⟩
  ·obtain ⟨i,y,hi,hy⟩:=ih h;exact ⟨i+1,y,by simpa using hi,hy⟩
theorem Jg {cs:List AV} (hn:(lM cs).Nodup) {i j id:Nat} {x y:AV} (hi:cs[i]? =some x) (hx:id∈iV x) (hj:cs[j]? =some y) (hy:id∈iV y):i=j:=by
 induction cs generalizing i j with
 |nil=>simp at hi
 | cons z cs ih=>
  unfold lM at hn;rw [eC] at hn
  cases i with
  | zero=>
   cases j with
   |zero=>rfl
   | succ j=>
    simp at hi hj;subst hi;exact (hn.2.2 id hx id (vN hj hy) rfl).elim
  | succ i=>
   cases j with
   | zero=>
    simp at hi hj;subst hj;exact (hn.2.2 id hy id (vN hi hx) rfl).elim
   |succ j=>exact congrArg (·+1) (ih hn.2.1 (i:=i) (j:=j) (by simpa using hi) (by simpa using hj))
theorem Pv {cs:List AV} (hn:(lM cs).Nodup) {i j id:Nat} (hi:cs[i]? =some (.ob id)) (hj:cs[j]? =some (.ob id)):i=j:=
 Jg (id:=id) hn hi (by simp [iV]) hj (by simp [iV])
theorem Ja:∀(ids:List Nat) (os:List Obj),(kill os ids).length=os.length/\(∀id,id∉ids->(kill os ids)[id]? =os[id]?)/\∀id∈ids,id<os.length->(kill os ids)[id]? =some .dead
 |[],os=>⟨rfl,λ_ _=>rfl,λ_ h=>by simp at h⟩
 | i ::ids,os=>by
  obtain ⟨h1,h2,h3⟩:=Ja ids (os.set i .dead);unfold kill;refine ⟨by rw [h1,bo],λid h=>?_,λid h hl=>?_⟩
  ·rw [bk,not_or] at h;rw [h2 id h.2,bh,if_neg (cI h.1)]
  ·by_cases hm:id∈ids
   ·exact h3 id hm (by rw [bo];exact hl)
   ·rcases bk.1 h with h|h
    ·subst h;rw [h2 id hm];simp [hl]
    ·exact (hm h).elim
theorem MJ [St]:∀(xs ys:List AV) (os:List Obj) (K:List Obj->Prop),wbs (bG np P) os xs ys K->(lM xs).Nodup->(∀id∈lM xs,id<os.length)->
  ∃ os',K os'/\os'.length=os.length/\(∀id,id∉lM xs->os'[id]? =os[id]?)/\
   ∀(i id:Nat) (x:AV),xs[i]? =some x->id∈iV x->os'[id]? =some .dead∨∃k es es',x= .ob id/\os[id]? =some (.row k es)/\os'[id]? =some (.row k es')/\es'.length=es.length/\ys[i]? =some (.sl true k es')
 |[],ys,os,K,hk,_,_=>⟨os,by unfold wbs at hk;exact hk,rfl,λ_ _=>rfl,λi id x h=>by simp at h⟩
 |x::xs,[],os,K,hk,_,_=>by unfold wbs at hk;exact hk.elim
 | x ::xs,y::ys,os,K,hk,hn,hlt=>by
  unfold wbs at hk;unfold lM at hn hlt;have hn2:=(eC.1 hn).2.1;have hnot:∀id∈iV x,id∉lM xs:=λid h1 h2=>(eC.1 hn).2.2 id h1 id h2 rfl
  have go:∀os1,wbs (bG np P) os1 xs ys K->os1.length=os.length->(∀id,id∉iV x->os1[id]? =os[id]?)->
    (∀id∈iV x,os1[id]? =some .dead∨∃k es es',x= .ob id/\os[id]? =some (.row k es)/\os1[id]? =some (.row k es')/\es'.length=es.length/\y= .sl true k es')->
    ∃os',K os'/\os'.length=os.length/\(∀id',id'∉lM (x::xs)->os'[id']? =os[id']?)/\∀(i id':Nat) (z:AV),(x::xs)[i]? =some z->id'∈iV z->os'[id']? =some .dead∨∃k es es',z= .ob id'/\os[id']? =some (.row k es)/\os'[id']? =some (.row k es')/\es'.length=es.length/\(y::ys)[i]? =some (.sl true k es'):=λos1 hk hl1 hout hin=>by
   obtain ⟨os',h1,h2,h3,h4⟩:=MJ xs ys os1 K hk hn2 (λid h=>by rw [hl1];exact hlt id (cz _ h));refine ⟨os',h1,by rw [h2,hl1],λid' h=>?_,λi id' z hi hz=>?_⟩
   ·unfold lM at h;rw [h3 id' (λh'=>h (cz _ h')),hout id' (λh'=>h (cr _ h'))]
   ·cases i with
    | zero=>
     simp at hi;subst hi;rw [h3 id' (hnot id' hz)];simpa using hin id' hz
    | succ i=>
     (have hi':xs[i]? =some z:=by simpa using hi);have h5:id'∉iV x:=λe=>hnot id' e (vN hi' hz);rw [←hout id' h5];simpa using h4 i id' z hi' hz
  unfold wb at hk;split at hk
  ·rename_i id;have hid:id<os.length:=hlt id (by simp [iV])
   have go1:∀o,wbs (bG np P) (os.set id o) xs ys K->(o= .dead∨∃k es es',os[id]? =some (.row k es)/\o= .row k es'/\es'.length=es.length/\y= .sl true k es')->_:=λo hk ho=>
    go (os.set id o) hk (by rw [bo]) (λid' h=>by
     rw [bh,if_neg (λe=>h (by subst e;simp [iV]))]) (λid' h=>by
     simp only [iV,cg] at h;subst h;(have hs:(os.set id' o)[id']? =some o:=by simp [hid]);rcases ho with rfl|⟨k,es,es',g1,rfl,g2,rfl⟩
     ·exact .inl hs
     ·exact .inr ⟨k,es,es',rfl,g1,hs,g2,rfl⟩)
   split at hk
   ·rename_i k es';split at hk
    ·rename_i k0 es ho;split at hk
     ·rename_i e;subst e;obtain ⟨g1,hk⟩:=hk;exact go1 _ hk (.inr ⟨_,es,es',ho,rfl,g1,rfl⟩)
     ·exact hk.elim
    ·exact hk.elim
   ·exact go1 _ hk (.inl rfl)
  ·rename_i cs;obtain ⟨g1,g2,g3⟩:=Ja (uJ cs) os;exact go _ hk g1 g2 (λid h=> .inl (g3 id h (hlt id (cr _ h))))
  ·rename_i h h5;(have h0:iV x=[]:=by cases x<;>first|exact (h _ rfl).elim|exact (h5 _ rfl).elim|rfl);exact go os hk rfl (λ_ _=>rfl) (λid h=>by rw [h0] at h;simp at h)
theorem Ro [St] (hw:CW W w A s.os hd F) (hf:FR w A s.os hd s.fr a) {dst ty pos af g} {c:Call} {f:FuncId} {caps args:List AV} {K:AV->AS->Prop} (fZ:s.callee c=some (f,caps))
  (hl:s.BZ (c.args.toList.map s.get++caps)=some args) (hnd:nodupB (lM (c.args.toList.map s.get++caps))=true)
  (run:∀{fo:Operand} {vs:Array Value},c.callee= .value fo->a.eval fo= .func (.func f) #[] vs->Enters P f->(execOp a.eval ⟨dst,.call c,ty,pos,af,g⟩).run P w= .ok (.enter f (c.args.map a.eval++vs)) w)
  (enter:∀{o:Oper} {next:Act->World->Prop} {Q:Exit->Act->World->Prop} {f:FuncId} {args:Array Value} {R:Value->World->Prop},(execOp a.eval o).run P w= .ok (.enter f args) w->(Calls P f args w λe w'=>∃v,e= .returned v/\R v w')->(∀v w',R v w'->next (a.put o.dst v) w')->o.wp P a w next Q)
  (hk:(bG np P).Jw f args λr args'=>wbs (bG np P) s.os (c.args.toList.map s.get++caps) args' λos'=>(AS.mk s.fr os').take r K):iy P W w s a ⟨dst,.call c,ty,pos,af,g⟩ K:=by
 intro next Q hn
 have hnd':=mI hnd;generalize iq:lM (c.args.toList.map s.get++caps)=ids at*;have hrow:=I5 hl;rw [iq] at hrow;unfold AS.callee at fZ;split at fZ
 ·rename_i fo hce;split at fZ
  ·rename_i f' afe hg;cases fZ;have h1:=hf.get fo;rw [hg] at h1;obtain ⟨vs,e1,e2,e3⟩:=h1.uO
   have hargs:∀(i:Nat) x,(c.args.toList.map s.get++caps)[i]? =some x->aU w A s.os hd x ((c.args.toList.map a.eval++vs.toList).getD i undef):=λi x hx=>by
    rw [cw] at hx;rw [ad,cw];simp only [al] at hx ⊢;split
    ·rename_i hi;rw [if_pos hi,ai] at hx;rw [ai]
     cases hc:c.args.toList[i]? with
     |none=>simp [hc] at hx
     | some y=>
      simp [hc] at hx;subst hx;simpa using hf.get y
    ·rename_i hi;rw [if_neg hi] at hx;rw [←ad,aR];exact e3 _ x hx
   generalize hxs:c.args.toList.map s.get++caps=xs at*;obtain ⟨Qc,hac,hk⟩:=hk;obtain ⟨h3,h4⟩:=BX hw hrow xs (c.args.toList.map a.eval++vs.toList) args (by rw [←hxs];simp [e2]) hargs (λid h=>by rw [←iq];exact h) (by rw [iq];exact hnd') hl;have hlen:xs.length=args.length:=by rw [h3,←hxs];simp [e2]
   have hX:bB w (Rd w F ids) (.tup args) (.tuple (c.args.map a.eval++vs)) (λb=>∃id∈ids,F id b):=by
    refine .tup _ _ _ (λi b=>∃x,xs[i]? =some x/\∃id∈iV x,F id b) (by rw [h3];simp) (λi x hx=>?_) (λb=>⟨λ⟨id,g1,g2⟩=>?_,λ⟨i,_,x,g1,id,g2,g3⟩=>?_⟩) (λi j b hi hj ⟨x,g1,id,g2,g3⟩ ⟨x',g1',id',g2',g3'⟩=>?_)
    ·have:=h4 i x hx;rwa [←aR,cN,gj]
    ·rw [←iq] at g1;obtain ⟨i,x,hi,hx⟩:=Pq g1;exact ⟨i,by rw [←hlen];exact (aa.1 hi).1,_,hi,id,hx,g2⟩
    ·exact ⟨id,by rw [←iq];exact vN g1 g2,g3⟩
    ·have:=hw.jH _ _ _ g3 g3';subst this;exact Jg (by rw [iq];exact hnd') g1 g2 g1' g2'
   refine enter (run hce e1 hac.1) (R:=λv w'=>∃G r args',Qc r args'/\Keeps (λb=>∃id∈ids,F id b) w w'/\bB w' (λ_=>False) (.tup (r::args')) (.tuple (#[v]++(c.args.map a.eval++vs))) G/\∀b,G b->(∃id∈ids,F id b)∨w.heap.size<=b/\b<w'.heap.size)
    ((hac.2 w (Rd w F ids) _ _ hw.below.gok hX (λb hb=>hb) (λb ⟨id,_,h⟩=>(hw.fsz id b h).2) (λb ⟨id,_,h⟩=>hw.below.ng (hw.fsz id b h).1)).mono λe w' ⟨v,G,r,args',g0,g1,g2,g3,g4⟩=>⟨v,g1,G,r,args',g0,g2,g3,g4⟩) λv w' ⟨G,r,args',hq,g1,g2,g3⟩=>?_
   replace hk:=hk r args' hq
   cases g2 with
   |pure _ _ _ h ho _=>simp [AV.dF] at ho
   | tup _ _ _ Gi hn' hc hF hd0=>
    obtain ⟨os',hk,k1,k2,k3⟩:=MJ xs args' s.os _ hk (by rw [iq];exact hnd') (λid h=>by
     rw [iq] at h;obtain ⟨k,es,ho⟩:=hrow id h;exact (aa.1 ho).1)
    have val:∀(i id:Nat),xs[i]? =some (.ob id)->∀k es,s.os[id]? =some (.row k es)->(#[v]++(c.args.map a.eval++vs)).getD (i+1) undef=hd id:=λi id hi k es ho=>by
     have:=(hargs i _ hi).iI ho;rw [←this,←aR,cN,cN,gj];simp [ad]
    have sub:∀(i:Nat) b,i<(r::args').length->Gi i b->(∃id∈ids,F id b)∨w.heap.size<=b/\b<w'.heap.size:=λi b hi h=>g3 b ((hF b).2 ⟨i,hi,h⟩);(have inl:∀{i:Nat} {y:AV},args'[i]? =some y->i+1<(r::args').length:=λ{i y} h=>by have:=(aa.1 h).1;simpa using this);let Gn:Nat->Nat->Prop:=λid b=>∃i k es,xs[i]? =some (.ob id)/\args'[i]? =some (.sl true k es)/\Gi (i+1) b
    obtain ⟨hw2,hm2⟩:=hw.setMany ids Gn k1 g1 (λid h=>k2 id (by rw [iq];exact h)) (λid h=>by
      rw [←iq] at h;obtain ⟨i,x,hi,hix⟩:=Pq h;rcases k3 i id x hi hix with q|⟨k,es,es',q0,q1,q2,q3,q4⟩
      ·exact .inl q
      ·subst q0;refine .inr ⟨k,es,es',q1,q2,q3,?_⟩;have:=hc (i+1) (.sl true k es') (by simpa using q4);rw [val i id hi k es q1] at this
       exact (this.mono (λ_ h=>h.elim) (λ_ _=>rfl)).congr (λb=>⟨λ⟨j,k',es'',r1,r2,r3⟩=>by
        have:=Pv (by rw [iq];exact hnd') r1 hi
        subst this;exact r3,λh=>⟨i,k,es',hi,q4,h⟩⟩)) (λid h b ⟨i,k,es,r1,r2,r3⟩=>sub (i+1) b (inl r2) r3)
     (λid h j hj b ⟨i,k,es,r1,r2,r3⟩ ⟨i',k',es',r1',r2',r3'⟩=>by
      have:=hd0 _ _ b (inl r2) (inl r2') r3 r3';(have:i=i':=by omega);subst this
      rw [r1] at r1';cases r1';rfl)
    have h0:bB w' A r v (Gi 0):=by
     have:=hc 0 r (by simp);rw [←aR] at this;(have e:(#[v]++(c.args.map a.eval++vs)).toList.getD 0 undef=v:=by simp [ad]);rw [e] at this;exact this.mono (λ_ h=>h.elim) (λ_ _=>rfl)
    obtain ⟨s',hd',F',q1,q2,q3,q4,x',q5,q6⟩:=oJ (s:=⟨s.fr,os'⟩) hw2 h0 (λb hb=>by
     have h5:=sub 0 b (by simp) hb;refine ⟨?_,?_,λhA=>?_,λid hid=>?_⟩
     ·rcases h5 with ⟨id,_,h⟩|h
      ·exact (hw.fsz id b h).1
      ·exact hw.below.new h.1
     ·rcases h5 with ⟨id,_,h⟩|h
      ·exact bu (hw.fsz id b h).2 g1.size
      ·exact h.2
     ·rcases h5 with ⟨id,_,h⟩|h
      ·exact (hw.hA b hA).2 id h
      ·have:=(hw.hA b hA).1;omega
     ·rcases hid with ⟨_,i,k,es,r1,r2,r3⟩|⟨h6,h7⟩
      ·have:=hd0 _ _ b (by simp) (inl r2) hb r3;omega
      ·rcases h5 with ⟨id',h8,h⟩|h
       ·have:=hw.jH _ _ _ h7 h;subst this;exact h6 h8
       ·have:=(hw.fsz id b h7).2;omega) hk
    exact hn x' s' v w' A hd' F' q5 q1 q2 (hf.eZ λz u h=>q3 _ _ (hm2 _ _ h)) q6
  ·cases fZ
 ·cases fZ
end
section
variable {P:Program} {np:Nat} {L:Lay} {W:WM} {w w':World} {A:Nat->Prop} {os os':List Obj} {hd hd':Nat->Value} {F F':Nat->Nat->Prop} {s:AS} {a:Act}
theorem bB.agP {cs v} {G:Nat->Prop} (h:bB w A (.bx cs) v G):∃b T c,v= .pointer (some ⟨b,0,none⟩)/\w.heap[b]? =some (.cells c T (0,0))/\c.size=cs.length/\(∀(i:Nat) a,cs[i]? =some a->Rel w A a (c.getD i undef))/\∀x,G x↔x=b:=by
 cases h with
 |pure _ _ _ _ ho _=>simp [AV.dF] at ho
 |bx _ b T c _ hb hn hr hF=>exact ⟨b,T,c,rfl,hb,hn,hr,hF⟩
theorem CW.Zj [St] (h:CW W w A os hd F) (ids:List Nat) {os':List Obj} (Gn:Nat->Nat->Prop) {A':Nat->Prop} (hAA:∀b,A b->A' b)
  (hA':∀b,A' b->b<w'.heap.size/\(A b∨w.heap.size<=b)) (hAG:∀b,A' b->∀id∈ids,¬Gn id b) (hlen:os'.length=os.length)
  (hk:Keeps (λx=>∃id∈ids,F id x) w w') (hout:∀id,id∉ids->os'[id]? =os[id]?)
  (hin:∀id∈ids,os'[id]? =some .dead∨(∃k es es',os[id]? =some (.row k es)/\os'[id]? =some (.row k es')/\es'.length=es.length/\bB w' A' (.sl true k es') (hd id) (Gn id))∨
   ∃cs cs',os[id]? =some (.box cs)/\os'[id]? =some (.box cs')/\bB w' A' (.bx cs') (hd id) (Gn id))
  (hG:∀id∈ids,∀x,Gn id x->(∃j∈ids,F j x)∨w.heap.size<=x/\x<w'.heap.size)
  (hdj:∀id∈ids,∀j∈ids,∀x,Gn id x->Gn j x->id=j):
  CW W w' A' os' hd (λid x=>(id∈ids/\Gn id x)∨(id∉ids/\F id x))/\∀y u,aU w A os hd y u->aU w' A' os' hd y u:=by
 have hA:∀y,A y->y<w.heap.size/\¬∃id∈ids,F id y:=λy hy=>⟨(h.hA y hy).1,λ⟨id,_,h'⟩=>(h.hA y hy).2 id h'⟩
 have hm:∀y u,aU w A os hd y u->aU w' A' os' hd y u:=λy u hy=>by
  refine ((hy.FH hA hk).eZ (by omega) (λi k es'' hi h'=>?_) (λi cs' hi h'=>?_) (λi s' p' hi h'=>?_)).mono (λ_ _=>rfl) hAA
  ·by_cases hmem:i∈ids
   ·rcases hin i hmem with h1|⟨k0,es,es',h1,h2,h3,_⟩|⟨cs,cs',h1,h2,_⟩
    ·rw [h1] at h';cases h'
    ·rw [h2] at h';cases h';exact ⟨es,h1,h3.symm,rfl⟩
    ·rw [h2] at h';cases h'
   ·rw [hout i hmem] at h';exact ⟨es'',h',rfl,rfl⟩
  ·by_cases hmem:i∈ids
   ·rcases hin i hmem with h1|⟨k0,es,es',h1,h2,h3,_⟩|⟨cs,cs',h1,h2,_⟩
    ·rw [h1] at h';cases h'
    ·rw [h2] at h';cases h'
    ·exact ⟨cs,h1,rfl⟩
   ·rw [hout i hmem] at h';exact ⟨cs',h',rfl⟩
  ·by_cases hmem:i∈ids
   ·rcases hin i hmem with h1|⟨k0,es,es',h1,h2,h3,_⟩|⟨cs,cs',h1,h2,_⟩
    ·rw [h1] at h';cases h'
    ·rw [h2] at h';cases h'
    ·rw [h2] at h';cases h'
   ·rw [hout i hmem] at h';exact ⟨s',p',h',rfl⟩
 have hF:∀j,j∉ids->∀x,F j x->x<w.heap.size/\¬∃id∈ids,F id x:=λj hj x hx=>⟨(h.fsz j x hx).2,λ⟨id,h1,h2⟩=>hj (by rw [h.jH _ _ _ hx h2];exact h1)⟩
 refine ⟨⟨h.below.keep hk (λx ⟨id,_,h'⟩=>(h.fsz id x h').1),λx hx=>⟨(hA' x hx).1,λi hi=>?_⟩,λi x hx=>?_,λi j x hi hj=>?_,λi k es h'=>?_,λi cs h'=>?_,λi s' p' h'=>?_,λp hp=>⟨by rw [hlen];exact (h.pin p hp).1,(h.pin p hp).2⟩,λx hx hlt=>?_⟩,hm⟩
 ·rcases hi with ⟨h1,h2⟩|⟨_,h2⟩
  ·exact hAG x hx i h1 h2
  ·rcases (hA' x hx).2 with h3|h3
   ·exact (h.hA x h3).2 i h2
   ·have:=(h.fsz i x h2).2;omega
 ·rcases hx with ⟨h1,h2⟩|⟨_,h2⟩
  ·rcases hG i h1 x h2 with ⟨j,_,h3⟩|h3
   ·exact ⟨(h.fsz j x h3).1,bu (h.fsz j x h3).2 hk.size⟩
   ·exact ⟨h.below.new h3.1,h3.2⟩
  ·exact ⟨(h.fsz i x h2).1,bu (h.fsz i x h2).2 hk.size⟩
 ·rcases hi with ⟨h1,h2⟩|⟨h1,h2⟩<;>rcases hj with ⟨k1,k2⟩|⟨k1,k2⟩
  ·exact hdj i h1 j k1 x h2 k2
  ·exfalso;rcases hG i h1 x h2 with h3|h3
   ·exact (hF j k1 x k2).2 h3
   ·have:=(hF j k1 x k2).1;omega
  ·exfalso;rcases hG j k1 x k2 with h3|h3
   ·exact (hF i h1 x h2).2 h3
   ·have:=(hF i h1 x h2).1;omega
  ·exact h.jH i j x h2 k2
 ·by_cases hmem:i∈ids
  ·rcases hin i hmem with h1|⟨k0,es0,es',h1,h2,h3,h4⟩|⟨cs,cs',h1,h2,_⟩
   ·rw [h1] at h';cases h'
   ·rw [h2] at h';cases h';exact h4.congr (λx=>⟨λh=>h.elim (λh=>h.2) (λh=>(h.1 hmem).elim),λh=> .inl ⟨hmem,h⟩⟩)
   ·rw [h2] at h';cases h'
  ·rw [hout i hmem] at h'
   exact ((h.rows i k es h').mono hAA (λx hx=>hx.elim (λhx=>hk.block x (hA x hx).1 (hA x hx).2) (λhx=>hk.block x (hF i hmem x hx).1 (hF i hmem x hx).2))).congr
    (λx=>⟨λh=>h.elim (λh=>(hmem h.1).elim) (λh=>h.2),λh=> .inr ⟨hmem,h⟩⟩)
 ·by_cases hmem:i∈ids
  ·rcases hin i hmem with h1|⟨k0,es0,es',h1,h2,h3,h4⟩|⟨cs0,cs',h1,h2,h3⟩
   ·rw [h1] at h';cases h'
   ·rw [h2] at h';cases h'
   ·rw [h2] at h';cases h';obtain ⟨b,T,c,e1,e2,e3,e4,e5⟩:=h3.agP;exact ⟨b,T,c,e1,e2,e3,λj x hx=> .pure _ _ (e4 j x hx),.inl ⟨hmem,(e5 b).2 rfl⟩⟩
  ·rw [hout i hmem] at h';obtain ⟨b,T,c,e1,e2,e3,e4,e5⟩:=h.boxes i cs h';exact ⟨b,T,c,e1,by rw [hk.block b (hF i hmem b e5).1 (hF i hmem b e5).2];exact e2,e3,λj x hx=>hm _ _ (e4 j x hx),.inr ⟨hmem,e5⟩⟩
 ·by_cases hmem:i∈ids
  ·rcases hin i hmem with h1|⟨k0,es0,es',h1,h2,h3,h4⟩|⟨cs0,cs',h1,h2,h3⟩
   ·rw [h1] at h';cases h'
   ·rw [h2] at h';cases h'
   ·rw [h2] at h';cases h'
  ·rw [hout i hmem] at h';obtain ⟨b,e1,e2,e3⟩:=h.nN i s' p' h';exact ⟨b,e1,by rw [hk.block b (hF i hmem b e3).1 (hF i hmem b e3).2];exact e2,.inr ⟨hmem,e3⟩⟩
 ·rcases (hA' x hx).2 with h1|h1
  ·exact h.old x h1 hlt
  ·have:=h.below.size;omega
def LF (os:List Obj) (hd:Nat->Value) (F:Nat->Nat->Prop) (id b:Nat):Prop:=F id b/\∀cs,os[id]? =some (.box cs)->hd id= .pointer (some ⟨b,0,none⟩)
theorem OH [St] (hw:CW W w A s.os hd F) {x v y} (hx:aU w A s.os hd x v) (hl:s.OI x=some y):bB w A y v (λb=>∃id∈fH x,LF s.os hd F id b):=by
 have pure:∀{z:AV},Rel w A z v->z.dF=false->fH x=[]->bB w A z v (λb=>∃id∈fH x,LF s.os hd F id b):=λh1 h2 h3=> .pure _ _ _ h1 h2 (λb ⟨id,h,_⟩=>by rw [h3] at h;cases h);unfold AS.OI at hl;split at hl
 ·rename_i id;split at hl
  ·rename_i k es ho;cases hl;rw [hx.iI ho];refine (hw.rows id k es ho).congr λb=>?_;simp [fH,LF,ho]
  ·cases hl
 ·rename_i id off;split at hl
  ·rename_i cs ho;split at hl
   ·rename_i hp;cases hl;obtain ⟨b,T,c,e1,e2,e3,e4,e5⟩:=hw.boxes id cs ho;obtain ⟨b',g1,g2⟩:=hx.lX ho;rw [e1] at g1;cases g1;subst g2;refine .bx cs b T c _ e2 e3 (λi x hx=>?_) (λy=>?_)
    ·have:=e4 i x hx;have hpx:=nY hp hx;cases x<;>first|exact this.dN trivial|cases hpx
    ·simp only [fH,cg,exists_eq_left,LF];constructor
     ·intro h;have:=h.2 cs ho;rw [e1] at this;cases this;rfl
     ·intro h;subst h;exact ⟨e5,λ_ _=>e1⟩
   ·cases hl
  ·cases hl
 ·cases hl;exact pure (hx.dN trivial) rfl rfl
 ·cases hl;exact pure (hx.dN trivial) rfl rfl
 ·cases hl;exact pure (hx.dN trivial) rfl rfl
 ·cases hl;exact pure (hx.dN trivial) rfl rfl
 ·cases hl;exact pure (hx.dN trivial) rfl rfl
 ·cases hl;exact pure hx.lW.aeS rfl rfl
 ·cases hl;exact pure (hx.dN trivial) rfl rfl
 ·cases hl;exact pure (hx.dN trivial) rfl rfl
 ·rename_i cs;split at hl
  ·rename_i hp;cases hl;obtain ⟨vs,rfl,hn,hc⟩:=hx.iP;refine .agg cs vs _ (λ_ _=>False) hn (λi x hx=>?_) (λb=>⟨λ⟨id,h,_⟩=>by simp [fH] at h,λ⟨i,_,h⟩=>h.elim⟩) (λi i' b _ _ h=>h.elim);have h1:=hc i x hx;have hpx:=QE hp hx;(have h2:Rel w A x (vs.getD i undef):=by cases x<;>first|exact h1.dN trivial|cases hpx);exact .pure _ _ _ h2 (by cases x<;>first|rfl|cases hpx) (λ_ h=>h)
  ·cases hl
 ·cases hl
theorem yY [St] (hw:CW W w A s.os hd F):∀(cs:List AV) (vs:List Value) (ys:List AV),vs.length=cs.length->(∀(i:Nat) x,cs[i]? =some x->aU w A s.os hd x (vs.getD i undef))->s.uF cs=some ys->
  ys.length=vs.length/\∀(i:Nat) y,ys[i]? =some y->bB w A y (vs.getD i undef) (λb=>∃x,cs[i]? =some x/\∃id∈fH x,LF s.os hd F id b)
 | [],vs,ys,hn,_,hk=>by
  unfold AS.uF at hk;cases hk;exact ⟨by simpa using hn.symm,λi x hx=>by simp at hx⟩
 |_::_,[],_,hn,_,_=>by simp at hn
 | x::cs,v::vs,ys,hn,hc,hk=>by
  unfold AS.uF at hk;split at hk
  ·rename_i y m h1 h2;cases hk;have hx':=OH hw (by simpa using hc 0 x (by simp)) h1;obtain ⟨hl,hcs⟩:=yY hw cs vs m (by simpa using hn) (λi y hy=>by simpa using hc (i+1) y (by simpa using hy)) h2;refine ⟨by simp [hl],λi y hy=>?_⟩
   cases i with
   |zero=>simp at hy;subst hy;simpa using hx'
   |succ i=>simp at hy;simpa using hcs i y hy
  ·cases hk
theorem vM {cs:List AV} {i id:Nat} {x:AV} (h:cs[i]? =some x) (hx:id∈fH x):id∈kN cs:=by
 induction cs generalizing i with
 |nil=>simp at h
 | cons y cs ih=>
  unfold kN
  cases i with
  |zero=>simp at h;subst h;exact cr _ hx
  |succ i=>exact cz _ (ih (by simpa using h))
theorem AZ {cs:List AV} {id:Nat} (h:id∈kN cs):∃(i:Nat) (x:AV),cs[i]? =some x/\id∈fH x:=by
 induction cs with
 |nil=>simp [kN] at h
 | cons x cs ih=>
  unfold kN at h;rcases ca.1 h with h|h
  ·exact ⟨0,x,rfl,h⟩
  ·obtain ⟨i,y,hi,hy⟩:=ih h;exact ⟨i+1,y,by simpa using hi,hy⟩
theorem A8 {cs:List AV} (hn:(kN cs).Nodup) {i j id:Nat} {x y:AV} (hi:cs[i]? =some x) (hx:id∈fH x) (hj:cs[j]? =some y) (hy:id∈fH y):i=j:=by
 induction cs generalizing i j with
 |nil=>simp at hi
 | cons z cs ih=>
  unfold kN at hn;rw [eC] at hn
  cases i with
  | zero=>
   cases j with
   |zero=>rfl
   | succ j=>
    simp at hi hj;subst hi;exact (hn.2.2 id hx id (vM hj hy) rfl).elim
  | succ i=>
   cases j with
   | zero=>
    simp at hi hj;subst hj;exact (hn.2.2 id hy id (vM hi hx) rfl).elim
   |succ j=>exact congrArg (·+1) (ih hn.2.1 (i:=i) (j:=j) (by simpa using hi) (by simpa using hj))
def aiD (os os':List Obj) (id:Nat) (y:Option AV):Prop:=
 os'[id]? =some .dead∨(∃k es es',os[id]? =some (.row k es)/\os'[id]? =some (.row k es')/\es'.length=es.length/\y=some (.sl true k es'))∨
  ∃cs cs',os[id]? =some (.box cs)/\os'[id]? =some (.box cs')/\y=some (.bx cs')
theorem zW [St]:∀(xs ys:List AV) (os:List Obj) (K:List Obj->Prop),MK (bG np P) os xs ys K->(kN xs).Nodup->(∀id∈kN xs,id<os.length)->
  ∃ os',K os'/\os'.length=os.length/\(∀id,id∉kN xs->os'[id]? =os[id]?)/\
   ∀(i id:Nat) (x:AV),xs[i]? =some x->id∈fH x->aiD os os' id ys[i]?
 |[],ys,os,K,hk,_,_=>⟨os,by unfold MK at hk;exact hk,rfl,λ_ _=>rfl,λi id x h=>by simp at h⟩
 |x::xs,[],os,K,hk,_,_=>by unfold MK at hk;exact hk.elim
 | x ::xs,y::ys,os,K,hk,hn,hlt=>by
  unfold MK at hk;unfold kN at hn hlt;have hn2:=(eC.1 hn).2.1
  have go:∀id o,fH x=[id]->MK (bG np P) (os.set id o) xs ys K->(o= .dead∨(∃k es es',os[id]? =some (.row k es)/\o= .row k es'/\es'.length=es.length/\y= .sl true k es')∨∃cs cs',os[id]? =some (.box cs)/\o= .box cs'/\y= .bx cs')->
    ∃os',K os'/\os'.length=os.length/\(∀id',id'∉kN (x::xs)->os'[id']? =os[id']?)/\∀(i id':Nat) (x':AV),(x::xs)[i]? =some x'->id'∈fH x'->aiD os os' id' (y::ys)[i]?:=λid o ad4 hk ho=>by
   have hid:id<os.length:=hlt id (by simp [ad4]);have hnot:id∉kN xs:=λh=>(eC.1 hn).2.2 id (by simp [ad4]) id h rfl;obtain ⟨os',h1,h2,h3,h4⟩:=zW xs ys (os.set id o) K hk hn2 (λid h=>by simpa using hlt id (cz _ h));(have hs:os'[id]? =some o:=by rw [h3 id hnot];simp [hid]);refine ⟨os',h1,by simpa using h2,λid' h=>?_,λi id' x' hi hx'=>?_⟩
   ·unfold kN at h;have h5:id'≠id:=λe=>h (by subst e;simp [ad4]);rw [h3 id' (λh'=>h (cz _ h')),bh,if_neg (cI h5)]
   ·cases i with
    | zero=>
     simp at hi;subst hi;rw [ad4] at hx';simp at hx';subst hx';rcases ho with rfl|⟨k,es,es',g1,rfl,g2,rfl⟩|⟨cs,cs',g1,rfl,rfl⟩
     ·exact .inl hs
     ·exact .inr (.inl ⟨k,es,es',g1,hs,g2,rfl⟩)
     ·exact .inr (.inr ⟨cs,cs',g1,hs,rfl⟩)
    | succ i=>
     (have hi':xs[i]? =some x':=by simpa using hi);have h5:id'≠id:=λe=>hnot (by rw [←e];exact vM hi' hx');(have e5:(os.set id o)[id']? =os[id']?:=by rw [bh,if_neg (cI h5)]);rcases h4 i id' x' hi' hx' with g|⟨k,es,es',g1,g2,g3,g4⟩|⟨cs,cs',g1,g2,g3⟩
     ·exact .inl g
     ·exact .inr (.inl ⟨k,es,es',by rw [←e5];exact g1,g2,g3,by simpa using g4⟩)
     ·exact .inr (.inr ⟨cs,cs',by rw [←e5];exact g1,g2,by simpa using g3⟩)
  unfold ag3 at hk;split at hk
  ·rename_i id;split at hk
   ·rename_i k es';split at hk
    ·rename_i k0 es ho;split at hk
     ·rename_i e;subst e;obtain ⟨g1,hk⟩:=hk;exact go id _ rfl hk (.inr (.inl ⟨_,es,es',ho,rfl,g1,rfl⟩))
     ·exact hk.elim
    ·exact hk.elim
   ·exact go id _ rfl hk (.inl rfl)
  ·rename_i id off;split at hk
   ·rename_i cs';split at hk
    ·rename_i cs ho;split at hk
     ·exact go id _ rfl hk (.inr (.inr ⟨cs,cs',ho,rfl,rfl⟩))
     ·exact hk.elim
    ·exact hk.elim
   ·exact go id _ rfl hk (.inl rfl)
  ·rename_i h1 h2;(have hno:fH x=[]:=by cases x<;>first|rfl|exact (h1 _ rfl).elim|exact (h2 _ _ rfl).elim);obtain ⟨os',h1,h2,h3,h4⟩:=zW xs ys os K hk hn2 (λid h=>hlt id (cz _ h));refine ⟨os',h1,h2,λid h=>h3 id (λh'=>h (by unfold kN;exact cz _ h')),λi id x' hi hx'=>?_⟩
   cases i with
   |zero=>simp at hi;subst hi;rw [hno] at hx';cases hx'
   |succ i=>simpa using h4 i id x' (by simpa using hi) hx'
theorem Fa:∀{cs ys:List AV},s.uF cs=some ys->∀(i:Nat) (x:AV),cs[i]? =some x->∀id∈fH x,(x= .ob id/\∃k es,s.os[id]? =some (.row k es))∨(x= .pb id 0/\∃cs,s.os[id]? =some (.box cs))
 |[],_,_,i,x,h=>by simp at h
 | z ::cs,ys,hk,i,x,h=>by
  unfold AS.uF at hk;split at hk
  ·rename_i y m h1 h2
   cases i with
   | zero=>
    simp at h;subst h;intro id hid;cases z<;>simp [fH] at hid
    ·subst hid;unfold AS.OI at h1;simp only at h1;split at h1
     ·rename_i k es ho;exact .inl ⟨rfl,k,es,ho⟩
     ·cases h1
    ·subst hid;unfold AS.OI at h1;simp only at h1;split at h1
     ·rename_i cs' ho;exact .inr ⟨rfl,cs',ho⟩
     ·cases h1
   |succ i=>exact Fa h2 i x (by simpa using h)
  ·cases hk
theorem Rn [St] (hw:CW W w A s.os hd F) (hf:FR w A s.os hd s.fr a) {dst ty pos af g} {c:Call} {f:FuncId} {caps args:List AV} {K:AV->AS->Prop} (fZ:s.callee c=some (f,caps))
  (hl:s.uF (c.args.toList.map s.get++caps)=some args) (hnd:nodupB (kN (c.args.toList.map s.get++caps))=true)
  (run:∀{fo:Operand} {vs:Array Value},c.callee= .value fo->a.eval fo= .func (.func f) #[] vs->Enters P f->(execOp a.eval ⟨dst,.call c,ty,pos,af,g⟩).run P w= .ok (.enter f (c.args.map a.eval++vs)) w)
  (enter:∀{o:Oper} {next:Act->World->Prop} {Q:Exit->Act->World->Prop} {f:FuncId} {args:Array Value} {R:Value->World->Prop},(execOp a.eval o).run P w= .ok (.enter f args) w->(Calls P f args w λe w'=>∃v,e= .returned v/\R v w')->(∀v w',R v w'->next (a.put o.dst v) w')->o.wp P a w next Q)
  (hk:(bG np P).Vz f args λr args'=>MK (bG np P) s.os (c.args.toList.map s.get++caps) args' λos'=>(AS.mk s.fr os').take r K):iy P W w s a ⟨dst,.call c,ty,pos,af,g⟩ K:=by
 intro next Q hn
 have hnd':=mI hnd;generalize iq:kN (c.args.toList.map s.get++caps)=ids at*;have hrow:=Fa hl;unfold AS.callee at fZ;split at fZ
 ·rename_i fo hce;split at fZ
  ·rename_i f' afe hg;cases fZ;have h1:=hf.get fo;rw [hg] at h1;obtain ⟨vs,e1,e2,e3⟩:=h1.uO
   have hargs:∀(i:Nat) x,(c.args.toList.map s.get++caps)[i]? =some x->aU w A s.os hd x ((c.args.toList.map a.eval++vs.toList).getD i undef):=λi x hx=>by
    rw [cw] at hx;rw [ad,cw];simp only [al] at hx ⊢;split
    ·rename_i hi;rw [if_pos hi,ai] at hx;rw [ai]
     cases hc:c.args.toList[i]? with
     |none=>simp [hc] at hx
     | some y=>
      simp [hc] at hx;subst hx;simpa using hf.get y
    ·rename_i hi;rw [if_neg hi] at hx;rw [←ad,aR];exact e3 _ x hx
   generalize hxs:c.args.toList.map s.get++caps=xs at*;obtain ⟨Qc,hac,hk⟩:=hk;obtain ⟨h3,h4⟩:=yY hw xs (c.args.toList.map a.eval++vs.toList) args (by rw [←hxs];simp [e2]) hargs hl;have hlen:xs.length=args.length:=by rw [h3,←hxs];simp [e2]
   have hX:bB w A (.tup args) (.tuple (c.args.map a.eval++vs)) (λb=>∃id∈ids,LF s.os hd F id b):=by
    refine .tup _ _ _ (λi b=>∃x,xs[i]? =some x/\∃id∈fH x,LF s.os hd F id b) (by rw [h3];simp) (λi x hx=>?_) (λb=>⟨λ⟨id,g1,g2⟩=>?_,λ⟨i,_,x,g1,id,g2,g3⟩=>?_⟩) (λi j b hi hj ⟨x,g1,id,g2,g3⟩ ⟨x',g1',id',g2',g3'⟩=>?_)
    ·have:=h4 i x hx;rwa [←aR,cN,gj]
    ·rw [←iq] at g1;obtain ⟨i,x,hi,hx⟩:=AZ g1;exact ⟨i,by rw [←hlen];exact (aa.1 hi).1,x,hi,id,hx,g2⟩
    ·exact ⟨id,by rw [←iq];exact vM g1 g2,g3⟩
    ·have:=hw.jH _ _ _ g3.1 g3'.1;subst this;exact A8 (by rw [iq];exact hnd') g1 g2 g1' g2'
   refine enter (run hce e1 hac.1) (R:=λv w'=>∃G A1 r args',Qc r args'/\Keeps (λb=>∃id∈ids,LF s.os hd F id b) w w'/\bB w' A1 (.tup (r::args')) (.tuple (#[v]++(c.args.map a.eval++vs))) G/\(∀b,G b->(∃id∈ids,LF s.os hd F id b)∨w.heap.size<=b/\b<w'.heap.size)/\∀b,A1 b->b<w'.heap.size/\¬G b/\(A b∨w.heap.size<=b))
    ((hac.2 w A _ _ hw.below.gok hX (λb hb=>⟨(hw.hA b hb).1,λ⟨id,_,h⟩=>(hw.hA b hb).2 id h.1⟩) (λb ⟨id,_,h⟩=>(hw.fsz id b h.1).2) (λb ⟨id,_,h⟩=>hw.below.ng (hw.fsz id b h.1).1)).mono λe w' ⟨v,G,A1,r,args',g0,g1,g2,g3,g4,g5⟩=>⟨v,g1,G,A1,r,args',g0,g2,g3,g4,g5⟩) λv w' ⟨G,A1,r,args',hq,g1,g2,g3,g4⟩=>?_
   replace hk:=hk r args' hq
   cases g2 with
   |pure _ _ _ h ho _=>simp [AV.dF] at ho
   | tup _ _ _ Gi hn' hc hF hd0=>
    obtain ⟨os',hk,k1,k2,k3⟩:=zW xs args' s.os _ hk (by rw [iq];exact hnd') (λid h=>by
     obtain ⟨i,x,hi,hx⟩:=AZ h
     rcases hrow i x hi id hx with ⟨_,k,es,ho⟩|⟨_,cs,ho⟩<;>exact (aa.1 ho).1)
    have val:∀(i id:Nat) (x:AV),xs[i]? =some x->id∈fH x->(#[v]++(c.args.map a.eval++vs)).getD (i+1) undef=hd id:=λi id x hi hx=>by
     have e4:(#[v]++(c.args.map a.eval++vs)).getD (i+1) undef=(c.args.toList.map a.eval++vs.toList).getD i undef:=by
      rw [←aR,cN,cN,gj];simp [ad]
     rw [e4];rcases hrow i x hi id hx with ⟨rfl,k,es,ho⟩|⟨rfl,cs,ho⟩
     ·exact (hargs i _ hi).iI ho
     ·obtain ⟨b,q1,q2⟩:=(hargs i _ hi).lX ho;rw [q1,q2]
    have sub:∀(i:Nat) b,i<(r::args').length->Gi i b->(∃id∈ids,F id b)∨w.heap.size<=b/\b<w'.heap.size:=λi b hi h=>(g3 b ((hF b).2 ⟨i,hi,h⟩)).imp (λ⟨id,h1,h2⟩=>⟨id,h1,h2.1⟩) (λh=>h);(have inl:∀{i:Nat} {y:AV},args'[i]? =some y->i+1<(r::args').length:=λ{i y} h=>by have:=(aa.1 h).1;simpa using this);(have g1':Keeps (λb=>∃id∈ids,F id b) w w':=⟨g1.os,g1.tape,g1.output,g1.size,λx hx hn=>g1.block x hx (λ⟨id,h1,h2⟩=>hn ⟨id,h1,h2.1⟩),g1.frz,g1.drawn⟩);let A':Nat->Prop:=λb=>A b∨A1 b
    let Gn:Nat->Nat->Prop:=λid b=>∃i x y,xs[i]? =some x/\id∈fH x/\args'[i]? =some y/\Gi (i+1) b
    have hAG:∀b,A' b->∀i,i<(r::args').length->¬Gi i b:=λb hb i hi h=>by
     rcases hb with hb|hb
     ·rcases sub i b hi h with ⟨id,_,h5⟩|h5
      ·exact (hw.hA b hb).2 id h5
      ·have:=(hw.hA b hb).1;omega
     ·exact (g4 b hb).2.1 ((hF b).2 ⟨i,hi,h⟩)
    have aiu:∀(i id:Nat) (x y:AV),xs[i]? =some x->id∈fH x->args'[i]? =some y->bB w' A' y (hd id) (Gn id):=λi id x y hi hx hy=>by
     have:=hc (i+1) y (by simpa using hy);rw [val i id x hi hx] at this
     exact (this.mono (λ_ h=> .inr h) (λ_ _=>rfl)).congr (λb=>⟨λ⟨j,x',y',r1,r2,r3,r4⟩=>by
      have:=A8 (by rw [iq];exact hnd') r1 r2 hi hx
      subst this;exact r4,λh=>⟨i,x,y,hi,hx,hy,h⟩⟩)
    obtain ⟨hw2,hm2⟩:=hw.Zj ids Gn (A':=A') (λ_ h=> .inl h) (λb hb=>hb.elim (λh=>⟨bu (hw.hA b h).1 g1.size,.inl h⟩) (λh=>⟨(g4 b h).1,(g4 b h).2.2⟩))
     (λb hb id h ⟨i,x,y,r1,r2,r3,r4⟩=>hAG b hb (i+1) (inl r3) r4) k1 g1' (λid h=>k2 id (by rw [iq];exact h)) (λid h=>by
      rw [←iq] at h;obtain ⟨i,x,hi,hx⟩:=AZ h;rcases k3 i id x hi hx with q|⟨k,es,es',q1,q2,q3,q4⟩|⟨cs,cs',q1,q2,q3⟩
      ·exact .inl q
      ·exact .inr (.inl ⟨k,es,es',q1,q2,q3,aiu i id x _ hi hx q4⟩)
      ·exact .inr (.inr ⟨cs,cs',q1,q2,aiu i id x _ hi hx q3⟩)) (λid h b ⟨i,x,y,r1,r2,r3,r4⟩=>sub (i+1) b (inl r3) r4)
     (λid h j hj b ⟨i,x,y,r1,r2,r3,r4⟩ ⟨i',x',y',r1',r2',r3',r4'⟩=>by
      have:=hd0 _ _ b (inl r3) (inl r3') r4 r4';(have:i=i':=by omega);subst this;rw [r1] at r1';cases r1'
      cases x<;>simp [fH] at r2 r2'<;>omega)
    have h0:bB w' A' r v (Gi 0):=by
     have:=hc 0 r (by simp);rw [←aR] at this;(have e:(#[v]++(c.args.map a.eval++vs)).toList.getD 0 undef=v:=by simp [ad]);rw [e] at this;exact this.mono (λ_ h=> .inr h) (λ_ _=>rfl)
    obtain ⟨s',hd',F',q1,q2,q3,q4,x',q5,q6⟩:=oJ (s:=⟨s.fr,os'⟩) hw2 h0 (λb hb=>by
     have h5:=sub 0 b (by simp) hb;refine ⟨?_,?_,λhA=>hAG b hA 0 (by simp) hb,λid hid=>?_⟩
     ·rcases h5 with ⟨id,_,h⟩|h
      ·exact (hw.fsz id b h).1
      ·exact hw.below.new h.1
     ·rcases h5 with ⟨id,_,h⟩|h
      ·exact bu (hw.fsz id b h).2 g1.size
      ·exact h.2
     ·rcases hid with ⟨_,i,x,y,r1,r2,r3,r4⟩|⟨h6,h7⟩
      ·have:=hd0 _ _ b (by simp) (inl r3) hb r4;omega
      ·rcases h5 with ⟨id',h8,h⟩|h
       ·have:=hw.jH _ _ _ h7 h;subst this;exact h6 h8
       ·have:=(hw.fsz id b h7).2;omega) hk
    exact hn x' s' v w' A' hd' F' q5 q1 q2 ⟨hf.qN,hf.size,λt z hz=>q3 _ _ (hm2 _ _ (hf.slots t z hz))⟩ q6
  ·cases fZ
 ·cases fZ
end
section
variable {P:Program} {np:Nat} {L:Lay} {W:WM} {w w':World} {A:Nat->Prop} {os os':List Obj} {hd hd':Nat->Value} {F F':Nat->Nat->Prop} {s:AS} {a:Act}
theorem oM {c:Call} {fo:Operand} {f:FuncId} {vs:Array Value} {dst:Option Tmp} {ty:TypeId} {pos:String} {af:Array Edge} {g:Option (Nat×Bool)} (hc:c.callee= .value fo) (hf:a.eval fo= .func (.func f) #[] vs) (he:Enters P f):
  (execOp a.eval ⟨dst,.call c,ty,pos,af,g⟩).run P w= .ok (.enter f (c.args.map a.eval++vs)) w:=by
 obtain ⟨ce,as',ts⟩:=c;cases hc
 have h1:(resolve a.eval ⟨.value fo,as',ts⟩ ty).run P w= .ok { target:= .fn (.func f) vs,args:=#[]++as'.map a.eval } w:=by
  simp only [resolve,hf];rfl
 show (resolve a.eval ⟨.value fo,as',ts⟩ ty >>= λd=>invoke d.target d.args).run P w=_;rw [aE,h1];simp only [cS,invoke];rw [he];simp
theorem rA [St] {c:Call} (hw:CW W w A s.os hd F) (hsl:∀y∈c.operands,aU w A s.os hd (s.get y) (a.eval y)) {f:FuncId} {caps:List AV} (fZ:s.callee c=some (f,caps)) {K:AV->Prop}
  (hk:s.tu (bG np P) (c.args.toList.map s.get++caps) λargs=>(bG np P).call f args K):
  ∃ r vs,K r/\(∃fo,c.callee= .value fo/\a.eval fo= .func (.func f) #[] vs)/\Enters P f/\
   Calls P f (c.args.map a.eval++vs) w λe w'=>∃v G,e= .returned v/\Keeps (λ_=>False) w w'/\bB w' (λ_=>False) r v G/\∀b,G b->w.heap.size<=b/\b<w'.heap.size:=by
 unfold AS.callee at fZ;split at fZ
 ·rename_i fo hce;split at fZ
  ·rename_i f' afe hg;cases fZ;have h1:=hsl fo (by simp [Call.operands,hce]);rw [hg] at h1;obtain ⟨vs,e1,e2,e3⟩:=h1.uO
   obtain ⟨args,⟨r,hac,hk⟩,hl,hr⟩:=xg hw (c.args.toList.map s.get++caps) (c.args.toList.map a.eval++vs.toList) _ (by simp [e2]) (λi x hx=>by
    rw [cw] at hx;rw [ad,cw];simp only [al] at hx ⊢;split
    ·rename_i hi;rw [if_pos hi,ai] at hx;rw [ai]
     cases hc:c.args.toList[i]? with
     |none=>simp [hc] at hx
     | some y=>
      simp [hc] at hx;subst hx;simpa using hsl y (by simp [Call.operands];exact .inr (cJ.1 (ae hc)))
    ·rename_i hi;rw [if_neg hi] at hx;rw [←ad,aR]
     exact e3 _ x hx) hk
   refine ⟨r,vs,hk,⟨fo,hce,e1⟩,hac.1,?_⟩;refine hac.2 w _ hw.below.gok ⟨?_,λi x hx=>?_⟩
   ·rw [hl];simp
   ·have:=hr i x hx;rwa [←aR,cN,gj]
  ·cases fZ
 ·cases fZ
theorem Ao {c:Call} {fo:Operand} {f:FuncId} {vs:Array Value} {dst:Option Tmp} {ty:TypeId} {pos:String} {af:Array Edge} {g:Option (Nat×Bool)} (hc:c.callee= .value fo) (hf:a.eval fo= .func (.func f) #[.agg vs] #[]) (he:Enters P f):
  (execOp a.eval ⟨dst,.call c,ty,pos,af,g⟩).run P w= .ok (.enter f (#[.agg vs]++c.args.map a.eval)) w:=by
 obtain ⟨ce,as',ts⟩:=c;cases hc
 have h1:(resolve a.eval ⟨.value fo,as',ts⟩ ty).run P w= .ok { target:= .fn (.func f) #[],args:=#[.agg vs]++as'.map a.eval } w:=by
  simp only [resolve,hf];rfl
 show (resolve a.eval ⟨.value fo,as',ts⟩ ty >>= λd=>invoke d.target d.args).run P w=_;rw [aE,h1];simp only [cS,invoke];rw [he];simp
theorem sP [St] {c:Call} (hw:CW W w A s.os hd F) (hsl:∀y∈c.operands,aU w A s.os hd (s.get y) (a.eval y)) {f:FuncId} {cs:List AV} (fZ:s.zH c=some (f,cs)) {K:AV->Prop}
  (hk:s.tu (bG np P) (c.args.toList.map s.get) λargs=>(bG np P).call f (.agg cs::args) K):
  ∃ r vs,K r/\(∃fo,c.callee= .value fo/\a.eval fo= .func (.func f) #[.agg vs] #[])/\Enters P f/\
   Calls P f (#[.agg vs]++c.args.map a.eval) w λe w'=>∃v G,e= .returned v/\Keeps (λ_=>False) w w'/\bB w' (λ_=>False) r v G/\∀b,G b->w.heap.size<=b/\b<w'.heap.size:=by
 unfold AS.zH at fZ;split at fZ
 ·rename_i fo hce;split at fZ
  ·rename_i f' cs' hg;cases fZ;have h1:=hsl fo (by simp [Call.operands,hce]);rw [hg] at h1;have h1:=h1.dN trivial;generalize hv:a.eval fo=v0 at h1
   cases h1 with
   | fb _ _ vs hn hc=>
    obtain ⟨args,⟨r,hac,hk⟩,hl,hr⟩:=xg hw (c.args.toList.map s.get) (c.args.toList.map a.eval) _ (by simp) (λi x hx=>by
     rw [ai] at hx;rw [ad,ai]
     cases hc:c.args.toList[i]? with
     |none=>simp [hc] at hx
     | some y=>
      simp [hc] at hx;subst hx
      simpa using hsl y (by simp [Call.operands];exact .inr (cJ.1 (ae hc)))) hk
    refine ⟨r,vs,hk,⟨fo,hce,hv⟩,hac.1,?_⟩;refine hac.2 w _ hw.below.gok ⟨?_,λi x hx=>?_⟩
    ·simp [hl];omega
    ·rw [←aR,cN,gj]
     cases i with
     | zero=>
      simp at hx;subst hx;simp only [fj,List.nil_append,List.getD_cons_zero];exact Rel.wide hw (.agg _ _ hn hc)
     | succ i=>
      simp only [eg] at hx;simpa using hr i x hx
  ·cases fZ
 ·cases fZ
theorem j3 {o:Oper} {next:Act->World->Prop} {Q:Exit->Act->World->Prop} {f:FuncId} {args:Array Value} {R:Value->World->Prop} (h:(execOp a.eval o).run P w= .ok (.enter f args) w) (hc:Calls P f args w λe w'=>∃v,e= .returned v/\R v w') (hn:∀v w',R v w'->next (a.put o.dst v) w'):o.wp P a w next Q:=by
 unfold Oper.wp;rw [h,Oper.upon_enter];exact hc.mono λe w' ⟨v,he,hR⟩=>by subst he;exact hn v w' hR
theorem Wx [St] (hw:CW W w A s.os hd F) (hf:FR w A s.os hd s.fr a) {dst ty pos af g} {c:Call} {f:FuncId} {caps:List AV} {K:AV->AS->Prop} (fZ:s.callee c=some (f,caps))
  (hk:s.tu (bG np P) (c.args.toList.map s.get++caps) λargs=>(bG np P).call f args λr=>s.take r K):iy P W w s a ⟨dst,.call c,ty,pos,af,g⟩ K:=by
 intro next Q hn
 obtain ⟨r,vs,hk,⟨fo,h1,h2⟩,h3,h4⟩:=rA hw (λy _=>hf.get y) fZ hk;refine j3 (oM h1 h2 h3) (R:=λv w'=>∃G,Keeps (λ_=>False) w w'/\bB w' (λ_=>False) r v G/\∀b,G b->w.heap.size<=b/\b<w'.heap.size) (h4.mono λe w' ⟨v,G,g1,g2⟩=>⟨v,g1,G,g2⟩) λv w' ⟨G,g1,g2,g3⟩=>?_;have hw':=hw.keep g1
 obtain ⟨s',hd',F',e1,e2,e3,e4,x',e5,e6⟩:=oJ hw' (g2.mono (A':=A) (λ_ h=>h.elim) (λ_ _=>rfl)) (λy hy=>by
  obtain ⟨q1,q2⟩:=g3 y hy
  exact ⟨hw.below.new q1,q2,λh=>by have:=(hw.hA y h).1;omega,λid h=>by have:=(hw.fsz id y h).2;omega⟩) hk
 exact hn x' s' v w' A hd' F' e5 e1 e2 (hf.eZ λz u h=>e3 _ _ (h.keep (λy hy=>(hw.hA y hy).1) g1)) e6
theorem CW.grow [St] (hw:CW W w A os hd F) {G:Nat->Prop} (hG:∀y,G y->y<w.heap.size/\∀id,¬F id y) (hN:∀y,G y->W.w.heap.size<=y):CW W w (λb=>A b∨G b) os hd F where
 below:=hw.below
 pin:=hw.pin
 old x hx hlt:=hx.elim (λh=>hw.old x h hlt) (λh=>by have:=hN x h;omega)
 hA x hx:=hx.elim (hw.hA x) (hG x)
 fsz:=hw.fsz
 jH:=hw.jH
 rows id k es ho:=(hw.rows id k es ho).mono (λ_ h=> .inl h) (λ_ _=>rfl)
 boxes id cs ho:=by
  obtain ⟨b,T,c,e1,e2,e3,e4,e5⟩:=hw.boxes id cs ho;exact ⟨b,T,c,e1,e2,e3,λi x hx=>(e4 i x hx).mono (λ_ _=>rfl) (λ_ h=> .inl h),e5⟩
 nN:=hw.nN
theorem Rq [St] (hw:CW W w A s.os hd F) (hf:FR w A s.os hd s.fr a) {dst ty pos af g} {c:Call} {f:FuncId} {caps:List AV} {K:AV->AS->Prop} (fZ:s.callee c=some (f,caps))
  (hk:s.tu (bG np P) (c.args.toList.map s.get++caps) λargs=>(bG np P).call f args λr=>K r s):iy P W w s a ⟨dst,.call c,ty,pos,af,g⟩ K:=by
 intro next Q hn
 obtain ⟨r,vs,hk,⟨fo,h1,h2⟩,h3,h4⟩:=rA hw (λy _=>hf.get y) fZ hk;refine j3 (oM h1 h2 h3) (R:=λv w'=>∃G,Keeps (λ_=>False) w w'/\bB w' (λ_=>False) r v G/\∀b,G b->w.heap.size<=b/\b<w'.heap.size) (h4.mono λe w' ⟨v,G,g1,g2⟩=>⟨v,g1,G,g2⟩) λv w' ⟨G,g1,g2,g3⟩=>?_
 exact hn r s v w' (λb=>A b∨G b) hd F hk rfl
  ((hw.keep g1).grow (λy hy=>⟨(g3 y hy).2,λid h=>by have:=(hw.fsz id y h).2;have:=(g3 y hy).1;omega⟩) (λy hy=>cE hw.below.size (g3 y hy).1))
  ⟨hf.qN,hf.size,λt z hz=>((hf.slots t z hz).keep (λy hy=>(hw.hA y hy).1) g1).mono (λ_ _=>rfl) (λ_ h=> .inl h)⟩
  (.pure _ _ (g2.rel (λ_ h=>h.elim) (λ_ h=> .inr h)))
theorem Rt [St] (hw:CW W w A s.os hd F) (hf:FR w A s.os hd s.fr a) {dst ty pos af g} {c:Call} {f:FuncId} {cs:List AV} {K:AV->AS->Prop} (fZ:s.zH c=some (f,cs))
  (hk:s.tu (bG np P) (c.args.toList.map s.get) λargs=>(bG np P).call f (.agg cs::args) λr=>s.take r K):iy P W w s a ⟨dst,.call c,ty,pos,af,g⟩ K:=by
 intro next Q hn
 obtain ⟨r,vs,hk,⟨fo,h1,h2⟩,h3,h4⟩:=sP hw (λy _=>hf.get y) fZ hk;refine j3 (Ao h1 h2 h3) (R:=λv w'=>∃G,Keeps (λ_=>False) w w'/\bB w' (λ_=>False) r v G/\∀b,G b->w.heap.size<=b/\b<w'.heap.size) (h4.mono λe w' ⟨v,G,g1,g2⟩=>⟨v,g1,G,g2⟩) λv w' ⟨G,g1,g2,g3⟩=>?_;have hw':=hw.keep g1
 obtain ⟨s',hd',F',e1,e2,e3,e4,x',e5,e6⟩:=oJ hw' (g2.mono (A':=A) (λ_ h=>h.elim) (λ_ _=>rfl)) (λy hy=>by
  obtain ⟨q1,q2⟩:=g3 y hy
  exact ⟨hw.below.new q1,q2,λh=>by have:=(hw.hA y h).1;omega,λid h=>by have:=(hw.fsz id y h).2;omega⟩) hk
 exact hn x' s' v w' A hd' F' e5 e1 e2 (hf.eZ λz u h=>e3 _ _ (h.keep (λy hy=>(hw.hA y hy).1) g1)) e6
theorem MZ [St] (hL:L.ty=bR P) (hw:CW W w A s.os hd F) (hf:FR w A s.os hd s.fr a) {dst op ty pos af g} {K:AV->AS->Prop} (hk:eT (bG np P) L s op λv=>K v s):iy P W w s a ⟨dst,op,ty,pos,af,g⟩ K:=by
 intro next Q hn
 obtain ⟨x,v,h1,h2,h3⟩:=kM (dst:=dst) (ty:=ty) (pos:=pos) (af:=af) (g:=g) hL hw (λy _=>hf.get y) hk;exact dX h3 (hn x s v w A hd F h1 rfl hw hf h2)
theorem AV.TK (x:AV):(∃cs,x= .agg cs)∨x.cells=[x]:=by
 cases x<;>first|exact .inl ⟨_,rfl⟩|exact .inr rfl
theorem Keeps.agW [St] (w:World) (o:Go.Obj):Keeps (λ_=>False) w (w.alloc o):=
 ⟨rfl,rfl,rfl,by simp,λx hx _=>gh _ _ _ hx,λa ha=>by
  have:(w.alloc o).heap[a.block]? =w.heap[a.block]?:=gh _ _ _ ha
  simp [World.frozen?,this],eu.of (aq _)⟩
theorem Keeps.afz [St] (w:World) {b:Nat} {o o':Go.Obj} (G:Nat->Prop) (hG:G b) (hb:w.heap[b]? =some o) (h0:∀off:Nat,w.frozen? ⟨b,off,none⟩=false) (h1:match o' with| .cells .. =>False|_=>True):Keeps G w { w with heap:=w.heap.setIfInBounds b o' }:=by
 refine ⟨rfl,rfl,rfl,by simp,λx _ hx=>?_,λa ha=>?_,eu.of (aq _)⟩
 ·have:b≠x:=λe=>hx (e ▸ hG);simp [de,this]
 ·by_cases e:b=a.block
  ·have h2:=h0 a.off
   have h3:w.frozen? a=false:=by
    rw [e] at h2;simpa [World.frozen?] using h2
   rw [h3];simp only [World.frozen?,←e,de,if_true];split
   ·rename_i h4;split at h4
    ·cases h4;exact h1.elim
    ·cases h4
   ·rfl
  ·simp [World.frozen?,de,e]
theorem Rk [St] (hL:L.ty=bR P) (hw:CW W w A s.os hd F) (hf:FR w A s.os hd s.fr a) {dst ty pos af g} {t:TypeId} {x:Operand} {b:ByteArray} {K:AV->AS->Prop} (hs:isStr L t=true) (hx:s.get x= .str b)
  (hk:K (.it s.os.length) ⟨s.fr,s.os++[.iter b 0]⟩):iy P W w s a ⟨dst,.range t x,ty,pos,af,g⟩ K:=by
 intro next Q hn
 have h1:=hf.get x;rw [hx] at h1;have e:=h1.kT.1;have ht:=xK hL hs
 have hr:(execOp a.eval ⟨dst,.range t x,ty,pos,af,g⟩).run P w= .ok (.value (.pointer (some ⟨w.heap.size,0,none⟩))) (w.alloc (.stringIter b 0)):=by
  simp only [execOp,e];simp [Instr.range,run_underlying ht,go_sem]
 have hkp:=Keeps.agW w (.stringIter b 0);have hA:∀y,A y->y<w.heap.size:=λy hy=>(hw.hA y hy).1
 have hnew:(w.alloc (.stringIter b 0)).heap[w.heap.size]? =some (.stringIter b 0):=by
  show (w.heap.push _)[w.heap.size]? =_;simp
 refine dX hr (hn _ ⟨s.fr,s.os++[.iter b 0]⟩ _ _ A _ _ hk rfl ((hw.keep hkp).push (.iter b 0) (.pointer (some ⟨w.heap.size,0,none⟩)) (λx=>x=w.heap.size) (λx hx=>?_) (λk es e=>by cases e) (λcs' e=>by cases e) (λs' p' e=>?_)) (hf.eZ λy u h=>(h.keep hA hkp).push _ _) (.it _ _ (by simp) λs' p' ho=>?_))
 ·subst hx;refine ⟨hw.below.new (aq _),by simp,λh=>fR _ (hA _ h),λid h=>fR _ (hw.fsz id _ h).2⟩
 ·cases e;exact ⟨w.heap.size,rfl,hnew,rfl⟩
 ·exact (iN _ _ _).symm
theorem Wu [St] (hw:CW W w A s.os hd F) (hf:FR w A s.os hd s.fr a) {dst ty pos af g} {x:Operand} {id p:Nat} {b:ByteArray} {K:AV->AS->Prop} (hx:s.get x= .it id) (ho:s.os[id]? =some (.iter b p))
  (hk:(bG np P).nxt b p (λq r n=>K (.tup [.bool true,.int .i64 q,.int .i32 r]) ⟨s.fr,s.os.set id (.iter b n)⟩) (K (.tup [.bool false]) s)):iy P W w s a ⟨dst,.next x true,ty,pos,af,g⟩ K:=by
 intro next Q hn
 have h1:=hf.get x;rw [hx] at h1;have e:=h1.afY ho;obtain ⟨r,e1,e2,e3⟩:=hw.nN id b p ho;rw [e1] at e;have hg:(getObj r).run P w= .ok (.stringIter b p) w:=by simp [getObj,Sem.run,e2]
 have hlt:r<w.heap.size:=(bj.1 e2).1;change (if p<b.size then _ else _) at hk;split at hk
 ·rename_i hp;have hset:∀o,(setObj r o).run P w= .ok () { w with heap:=w.heap.setIfInBounds r o }:=λo=>by simp [setObj,Sem.run,e2]
  have hr:(execOp a.eval ⟨dst,.next x true,ty,pos,af,g⟩).run P w= .ok (.value (.tuple #[.bool true,.int .i64 p,.int .i32 (Utf8.decode b p).1])) { w with heap:=w.heap.setIfInBounds r (.stringIter b (p+(Utf8.decode b p).2)) }:=by
   simp only [execOp,e];simp [Instr.next,hg,hp,hset,go_sem]
  have hkp:=Keeps.afz w (o':= .stringIter b (p+(Utf8.decode b p).2)) (F id) e3 e2 (λoff=>by simp [World.frozen?,e2]) trivial
  obtain ⟨hw',hm⟩:=hw.setAt (o':= .iter b (p+(Utf8.decode b p).2)) ho hkp (λk es' e=>by cases e) (λcs' e=>by cases e) (λk es e=>by cases e) (λhm cs' e=>by cases e) (λs' p' e=>⟨b,p,rfl⟩) (λs' p' e=>by
   cases e
   exact ⟨r,e1,by simp [de,hlt],e3⟩)
  refine dX hr (hn _ _ _ _ A hd F hk rfl hw' (hf.eZ hm) (.pure _ _ (.tup _ _ rfl λi y hy=>?_)))
  match i,hy with
  |0,hy=>simp at hy;subst hy;exact .bool _
  |1,hy=>simp at hy;subst hy;exact .int _ _
  |2,hy=>simp at hy;subst hy;exact .int _ _
  |n+3,hy=>simp at hy
 ·rename_i hp
  have hr:(execOp a.eval ⟨dst,.next x true,ty,pos,af,g⟩).run P w= .ok (.value (.tuple #[.bool false])) w:=by
   simp only [execOp,e];simp [Instr.next,hg,hp,go_sem]
  refine dX hr (hn _ _ _ _ A hd F hk rfl hw hf (.pure _ _ (.tup _ _ rfl λi y hy=>?_)))
  match i,hy with
  |0,hy=>simp at hy;subst hy;exact .bool _
  |n+1,hy=>simp at hy
theorem nC [St] (hL:L.ty=bR P) (hw:CW W w A s.os hd F) (hf:FR w A s.os hd s.fr a) {o:Oper} {K:AV->AS->Prop} (hk:jF (bG np P) L s o K):iy P W w s a o K:=by
 obtain ⟨dst,op,ty,pos,af,g⟩:=o;cases op
 case alloc t=>exact Ru hL hw hf hk
 case box t x=>exact Za hw hf hk
 case range t x=>
  simp only [jF] at hk;split at hk
  ·rename_i b hs hx;exact Rk hL hw hf hs hx hk
  ·exact hk.elim
 case next x st=>
  cases st
  ·simp only [jF,eT] at hk
  ·simp only [jF] at hk;split at hk
   ·rename_i id hx;split at hk
    ·rename_i b p ho;exact Wu hw hf hx ho hk
    ·exact hk.elim
   ·exact hk.elim
 case store t x y=>
  simp only [jF] at hk;split at hk
  ·rename_i id off hx;split at hk
   ·rename_i cs ho;split at hk
    ·exact hk.elim
    ·rename_i new hcl hne;split at hk
     ·rename_i hh;exact Ei hL hw hf hx ho hcl (by intro e;simp_all) hh.1 hh.2 hk
     ·exact hk.elim
    ·exact hk.elim
   ·exact hk.elim
  ·rename_i id i j hx;split at hk
   ·exact hk.elim
   ·rename_i hne;split at hk
    ·rename_i hn;have hy:=hf.get y
     have hcells:∃vsl,(a.eval y).cells.toList=vsl/\vsl.length=(s.get y).cells.length/\∀(q:Nat) z,(s.get y).cells[q]? =some z->aU w A s.os hd z (vsl.getD q undef):=by
      rcases AV.TK (s.get y) with ⟨cs,e⟩|e
      ·rw [e] at hy ⊢;obtain ⟨vs,e1,e2,e3⟩:=hy.iP;exact ⟨vs.toList,by rw [e1];rfl,by rw [ci,e2];rfl,λq z hz=>by rw [aR];exact e3 q z hz⟩
      ·rw [e] at hk ⊢;have h1:=hk;unfold AS.NY at h1;obtain ⟨_,_,_,_,_,_,_,_,_,_,_,_,hone⟩:=xw hw hy h1;refine ⟨[a.eval y],?_,rfl,λq z hz=>?_⟩
       ·generalize a.eval y=v at*;cases v<;>first|rfl|(simp [Value.oneCell'] at hone)
       ·cases q with
        |zero=>simp at hz;subst hz;simpa using hy
        |succ q=>simp at hz
     obtain ⟨vsl,e1,e2,e3⟩:=hcells;exact Eh hL hw hf hx (by intro e;simp_all) e1 e2 e3 hn hk
    ·exact hk.elim
  ·exact hk.elim
 case build t parts=>
  simp only [jF] at hk;split at hk
  ·exact hk.elim
  ·rename_i fs z hd0 hz;split at hk
   ·rename_i cs hkn hcs;exact yB hL hw hf hd0 (by intro e;simp_all) hkn hcs hk
   ·exact hk.elim
  ·rename_i len e hd0 hz;split at hk
   ·exact hk.elim
   ·rename_i cs hcs hne;exact Ae hL hw hf hd0 (by intro e;simp_all) (by intro e;simp_all) hcs hk
   ·exact hk.elim
  ·exact hk.elim
 case buildSlice t len parts=>
  simp only [jF] at hk;split at hk
  ·rename_i e hd0;split at hk
   ·exact hk.elim
   ·exact hk.elim
   ·rename_i z hne hz;split at hk
    ·rename_i hh;split at hk
     ·rename_i cs hcs;exact CZ hL hw hf hd0 (by intro e;simp_all) (by intro e;simp_all) hh.1 hh.2 hcs hk
     ·exact hk.elim
    ·exact hk.elim
  ·exact hk.elim
 case makeSlice t l c=>
  simp only [jF] at hk;split at hk
  ·rename_i e _ l' _ c' hd0 hl hc;split at hk
   ·exact hk.elim
   ·exact hk.elim
   ·rename_i z hne hz;split at hk
    ·rename_i hh;exact Wv hL hw hf hd0 (by intro e;simp_all) hh.1 hh.2 hl hc hk
    ·exact hk.elim
  ·exact hk.elim
 case call c=>
  simp only [jF] at hk;split at hk
  ·rename_i hce;split at hk
   ·rename_i x y t t' ha ht;split at hk
    ·rename_i e;subst e;split at hk
     ·rename_i e hd0;split at hk
      ·exact hk.elim
      ·exact hk.elim
      ·rename_i z hne hz;split at hk
       ·rename_i hh;exact Zb hL hw hf hce ha ht hd0 (by intro e;simp_all) (by intro e;simp_all) hh.1 hh.2 hk
       ·exact hk.elim
     ·exact hk.elim
    ·exact hk.elim
   ·exact hk.elim
  ·rename_i hce;split at hk
   ·rename_i x t ha ht;split at hk
    ·rename_i e id lo hi hd0 hx;split at hk
     ·exact hk.elim
     ·rename_i z k es ho hne;split at hk
      ·rename_i hh;obtain ⟨⟨h1,h2⟩,h3⟩:=hh;subst h3;exact Rl hL hw hf hce ha ht hd0 hne h1 h2 hx ho hk
      ·exact hk.elim
     ·exact hk.elim
    ·exact hk.elim
   ·exact hk.elim
  ·split at hk
   ·rename_i f caps fZ;split at hk
    ·split at hk
     ·exact Wx hw hf fZ hk
     ·exact Rq hw hf fZ hk
    ·split at hk
     ·split at hk
      ·rename_i args hl hnd;exact Ro hw hf fZ hl hnd (λh1 h2 h3=>oM h1 h2 h3) j3 hk
      ·exact hk.elim
     ·split at hk
      ·rename_i args hl hnd;exact Rn hw hf fZ hl hnd (λh1 h2 h3=>oM h1 h2 h3) j3 hk
      ·exact hk.elim
   ·split at hk
    ·rename_i fZ;exact Rt hw hf fZ hk
    ·exact hk.elim
  ·exact MZ (np:=np) hL hw hf hk
 all_goals exact MZ (np:=np) hL hw hf hk
theorem dQ (hf:FR w A s.os hd s.fr a) {ops:Array Oper} {j:Nat} {r:Option Bool} (h:s.yield ops.toList j=some r):yielded ops a.tmps j=r:=by
 unfold AS.yield at h;split at h
 ·rename_i o ho;split at h
  ·rename_i d hd0
   have e:(ops[j]?).bind (·.dst)=some d:=by
    rw [bd] at ho;rw [ho];exact hd0
   have slot:∀x,s.fr.getD d .any=x->x≠ .any->∃v,a.tmps[d]? =some v/\aU w A s.os hd x v:=λx hx hne=>by
    have hlt:d<s.fr.length:=by
     apply aw;intro hn;rw [ad,ar (jz hn)] at hx;exact hne hx.symm
    rw [ad,ag hlt] at hx;have h1:=hf.slots d x (by rw [ag hlt];exact congrArg some hx);(have h2:d<a.tmps.size:=by rw [hf.size];exact hlt);exact ⟨_,cj h2,by simpa [Array.getD,h2] using h1⟩
   unfold yielded;rw [e];simp only [gS];split at h
   ·rename_i b hb;cases h;obtain ⟨v,e1,e2⟩:=slot _ hb (by simp);rw [e1,e2.kg]
   ·rename_i hb;cases h;obtain ⟨v,e1,e2⟩:=slot _ hb (by simp);rw [e1,e2.ab5];rfl
   ·cases h
  ·cases h
 ·cases h
theorem aU.und:aU w A os hd .und undef:= .pure _ _ .und
theorem AS.fQ (s:AS) (d:Option Nat) (x:AV):(s.put d x).os=s.os:=by cases d<;>rfl
theorem xZ [St] (hL:L.ty=bR P) {ops:Array Oper} {Q:Exit->Act->World->Prop} {K:AS->Prop} (hQ:∀s' a' w' A' hd' F',K s'->CW W w' A' s'.os hd' F'->FR w' A' s'.os hd' s'.fr a'->Q .normal a' w'):
  ∀(l:List Oper) (s:AS) (a:Act) (w:World) (A:Nat->Prop) (hd:Nat->Value) (F:Nat->Nat->Prop),CW W w A s.os hd F->FR w A s.os hd s.fr a->jr (bG np P) L false ops.toList l s K->wpList P ops Q l a w
 |[],s,a,w,A,hd,F,hw,hf,hk=>hQ s a w A hd F hk hw hf
 | o ::rest,s,a,w,A,hd,F,hw,hf,hk=>by
  have step:jF (bG np P) L s o (λv s'=>jr (bG np P) L false ops.toList rest (s'.put o.dst v) K)->o.wp P a w (wpList P ops Q rest) Q:=λh=>
   nC hL hw hf h (wpList P ops Q rest) Q λx s' v w' A' hd' F' hk' hfr hw' hf' hx=>by
    rw [←hfr] at hf';exact xZ hL hQ rest _ _ w' A' hd' F' (by rw [AS.fQ];exact hw') (hf'.put hx o.dst) hk'
  have skip:jr (bG np P) L false ops.toList rest (s.put o.dst .und) K->wpList P ops Q rest (a.put o.dst undef) w:=λh=>
   xZ hL hQ rest _ _ w A hd F (by rw [AS.fQ];exact hw) (hf.put .und o.dst) h
  unfold jr at hk;unfold wpList;split at hk
  ·rename_i hg;rw [if_pos (by simp [Region.wanted,hg])];exact .inl (step hk)
  ·rename_i j want hg;split at hk
   ·exact hk.elim
   ·rename_i hy;have:=dQ hf hy;rw [if_neg (by simp [Region.wanted,hg,this])];exact skip hk
   ·rename_i b hy;have:=dQ hf hy;split at hk
    ·rename_i e;subst e;rw [if_pos (by simp [Region.wanted,hg,this])];exact .inl (step hk)
    ·rename_i e;rw [if_neg (by simp [Region.wanted,hg,this,e])];exact skip hk
end
section
variable {P:Program} {np:Nat} {L:Lay} {W:WM} {w w':World} {A:Nat->Prop} {os os':List Obj} {hd hd':Nat->Value} {F F':Nat->Nat->Prop} {s:AS} {a:Act}
theorem Keeps.weaken [St] {G G':Nat->Prop} (h:Keeps G w w') (hG:∀x,G x->G' x):Keeps G' w w':=
 ⟨h.os,h.tape,h.output,h.size,λx hx hn=>h.block x hx (λhg=>hn (hG x hg)),h.frz,h.drawn⟩
def Moves (d:Nat) (mv:List Oper):Prop:=∀o∈mv,o.guard=none/\∃x e,o.op= .move x/\o.dst=some e/\e≠d
theorem ES:∀(mv:List Oper) (s:AS),(s.moves mv).os=s.os
 |[],s=>rfl
 | o::mv,s=>by
  unfold AS.moves;split
  ·rw [ES mv,AS.fQ]
  ·exact ES mv s
theorem BQ [St] (hL:L.ty=bR P) {ops:Array Oper} {Q:Exit->Act->World->Prop} {d:Nat} {v:Value} {l:List Oper}:∀(mv:List Oper) (s:AS) (a:Act),Moves d mv->CW W w A s.os hd F->FR w A s.os hd s.fr a->a.tmps.getD d undef=v->
  (∀a',FR w A s.os hd (s.moves mv).fr a'->a'.tmps.getD d undef=v->wpList P ops Q l a' w)->wpList P ops Q (mv++l) a w
 |[],s,a,_,_,hf,hv,h=>h a hf hv
 | o::mv,s,a,hm,hw,hf,hv,h=>by
  obtain ⟨hg,x,e,hop,hdst,hne⟩:=hm o (ep ..);show wpList P ops Q (o::(mv++l)) a w;obtain ⟨dst,op,ty,pos,af,g⟩:=o;simp only at hg hop hdst;subst hg hop hdst;unfold wpList;rw [if_pos (by simp [Region.wanted])];obtain ⟨y,u,h1,h2,h3⟩:=kM (np:=0) (dst:=some e) (ty:=ty) (pos:=pos) (af:=af) (g:=none) hL hw (λy _=>hf.get y) (show eT (bG 0 P) L s (.move x) (·=s.get x) from rfl);subst h1;refine .inl (dX h3 ?_);refine BQ hL mv (s.put (some e) (s.get x)) _ (λo ho=>hm o (ew _ ho)) (by rw [AS.fQ];exact hw) (hf.put h2 (some e)) ?_ (λa' hf' hv'=>h a' (by rw [AS.fQ] at hf';exact hf') hv');rw [←hv];simp [Act.put,b9,de,hne]
theorem Qy [St] (hL:L.ty=bR P) {ops:Array Oper} {Q:Exit->Act->World->Prop} {id d:Nat} {i:Int} {j:Nat} {mv rest:List Oper} {o oc:Oper} {c:Call} {t:TypeId} {x:Operand} {f:FuncId} {xs:List Operand} {K:AS->Prop}
  (hog:o.guard=none) (hoo:o.op= .load t x) (hod:o.dst=some d) (hd1:(L.ty t).d≠ .other) (hagg:(L.ty t).agg=false) (hx:s.get x= .pe id i j) (hm:Moves d mv) (hcg:oc.guard=none) (hco:oc.op= .call c) (hce:c.callee= .value (.func f)) (hca:c.args.toList= .tmp d::xs)
  (hw:CW W w A s.os hd F) (hf:FR w A s.os hd s.fr a) (hk:abR (bG np P) s id i j d mv oc c K)
  (hQ:∀s' a' w' A' hd' F',K s'->CW W w' A' s'.os hd' F'->FR w' A' s'.os hd' s'.fr a'->wpList P ops Q rest a' w'):wpList P ops Q (o::(mv++oc::rest)) a w:=by
 have hpe:=hf.get x;rw [hx] at hpe;unfold abR at hk;split at hk
 ·rename_i hdl;split at hk
  ·rename_i k es ho;obtain ⟨hi0,e,he,hk⟩:=hk;split at hk
   ·rename_i k' es' tl hdrop;rw [hce] at hk;simp only at hk;split at hk
    ·rename_i rs hlc;obtain ⟨Qc,hac,hk⟩:=hk;obtain ⟨b0,n0,c0,q1,_,q3,q4⟩:=hpe.ED ho;have hrow:=hw.rows id k es ho;rw [q1] at hrow;generalize hhd:Value.slice (some ⟨b0,0,none⟩) n0 c0=hv at hrow
     cases hrow with
     |pure _ _ _ h ho hF=>simp [AV.dF] at ho
     |nil=>cases hhd
     | sl _ _ cap b T cs _ G hb hl hcap hsz hke h1c hr hF h00 hdj=>
      cases hhd
      have hej:e[j]? =some (.sl true k' es'):=by
       have:=congrArg (λq=>q[0]?) hdrop;simpa using this
      have hjk:j<k:=by
       have:=(aa.1 hej).1;rwa [hke e (ae he)] at this
      have hil:i.toNat<es.length:=q3;have hrc:=hr i.toNat j e _ he hej;(obtain ⟨v,hv⟩:∃v,v=cs.getD (i.toNat*k+j) undef:=⟨_,rfl⟩);rw [←hv] at hrc
      have hin:i.toNat*k+j<cs.size:=by
       have:(i.toNat+1)*k<=c0*k:=bc k (by omega);rw [bz] at this;omega
      have hcell:w.cell? ⟨b0,i.toNat*k+j,none⟩=some v:=by
       rw [hv];simp [World.cell?,hb,Array.getD,hin]
      have hGF:∀i' j' y,i'<es.length->j'<k->G i' j' y->F id y:=λi' j' y g1 g2 g3=>(hF y).2 (.inr ⟨i',j',g1,g2,g3⟩);have hbF:F id b0:=(hF b0).2 (.inl rfl);have hbs:b0<w.heap.size:=(hw.fsz id b0 hbF).2;obtain ⟨dst,op,ty,pos,af,g⟩:=o;simp only at hog hoo hod;subst hog hoo hod;unfold wpList;rw [if_pos (by simp [Region.wanted])]
      have hload:(loadVar t ⟨b0,i.toNat*k+j,none⟩).run P w= .ok v w:=by
       have h1:=qK (w:=w) hL hd1;rw [hagg] at h1;simp [loadVar,go_sem,h1,hcell]
      refine .inl (dX (pK q4 hload) ?_);have hf0:=FR.put hf (x:= .any) (v:=v) (.pure _ _ (.any v)) (some d);have hsz0:=hf.size
      refine BQ hL mv (s.put (some d) .any) _ hm (by rw [AS.fQ];exact hw) hf0 (v:=v) (by
       simp [Act.put,b9,de,hsz0,hdl]) λa1 hf1 hv1=>?_
      (have XW:((s.put (some d) .any).moves mv).os=s.os:=by rw [ES,AS.fQ]);(obtain ⟨s1,hs1⟩:∃s1,s1=(s.put (some d) .any).moves mv:=⟨_,rfl⟩);(have hk1:s1.Fh (c.args.toList.tail.map s1.get)=some rs:=by rw [hs1];exact hlc);rw [show (⟨s.fr.set d .any,s.os⟩:AS)=s.put (some d) .any from rfl,←hs1] at hk;rw [←hs1] at hf1 XW;rw [AS.fQ,←XW] at hf1;(have hw1:CW W w A s1.os hd F:=by rw [XW];exact hw);obtain ⟨dst',op',ty',pos',af',g'⟩:=oc;simp only at hcg hco;subst hcg hco;unfold wpList;rw [if_pos (by simp [Region.wanted])];refine .inl ?_;rw [hca] at hk1
      obtain ⟨g1,g2⟩:=uG hw1 (ids:=[id]) (λid' h=>by rw [cg.1 h,XW];exact ⟨k,es,ho⟩) (xs.map s1.get) (xs.map a1.eval) rs (by simp) (λq y hy=>by
       rw [ai] at hy;rw [ad,ai]
       cases hc:xs[q]? with
       |none=>simp [hc] at hy
       | some z=>
        simp [hc] at hy;subst hy
        simpa using hf1.get z) (by simpa using hk1)
      have ae4:c.args.map a1.eval=(v::xs.map a1.eval).toArray:=by
       rw [←dg (xs:=c.args),hca];simp only [List.map_toArray,dj];rw [show a1.eval (.tmp d)=v from hv1]
      have hA0:∀y,A y->y<w.heap.size/\¬G i.toNat j y:=λy hy=>⟨(hw.hA y hy).1,λh=>(hw.hA y hy).2 id (hGF _ _ y hil hjk h)⟩
      have hX:bB w (λy=>y<w.heap.size/\¬G i.toNat j y) (.tup (.sl true k' es'::rs)) (.tuple (c.args.map a1.eval)) (G i.toNat j):=by
       rw [ae4];refine .tup _ _ _ (λq y=>q=0/\G i.toNat j y) (by simp [g1]) (λq y hy=>?_) (λy=>⟨λh=>⟨0,by simp,rfl,h⟩,λ⟨_,_,_,h⟩=>h⟩) (λq q' y _ _ h1 h2=>by rw [h1.1,h2.1])
       cases q with
       | zero=>
        simp at hy;subst hy;exact (hrc.mono hA0 (λ_ _=>rfl)).congr (λy=>⟨λh=>h.2,λh=>⟨rfl,h⟩⟩)
       | succ q=>
        simp only [eg] at hy;obtain ⟨h3,h4⟩:=g2 q y hy
        have e5:(v::xs.map a1.eval).toArray.getD (q+1) undef=(xs.map a1.eval).getD q undef:=by
         rw [←aR];rfl
        rw [e5];exact .pure _ _ _ (h3.mono (λ_ _=>rfl) λy ⟨hy1,hy2⟩=>⟨hy1,λh=>hy2 ⟨id,cg.2 rfl,hGF _ _ y hil hjk h⟩⟩) h4 (λy h=>absurd h.1 (by omega))
      refine j3 (f:=f) (args:=c.args.map a1.eval) ?_ (R:=λu w'=>∃Gr r args',Qc r args'/\Keeps (G i.toNat j) w w'/\bB w' (λ_=>False) (.tup (r::args')) (.tuple (#[u]++c.args.map a1.eval)) Gr/\∀y,Gr y->G i.toNat j y∨w.heap.size<=y/\y<w'.heap.size)
       ((hac.2 w _ _ _ hw.below.gok hX (λy hy=>hy) (λy hy=>(hw.fsz id y (hGF _ _ y hil hjk hy)).2) (λy hy=>hw.below.ng (hw.fsz id y (hGF _ _ y hil hjk hy)).1)).mono λe w' ⟨u,Gr,r,args',g0,g1,g2,g3,g4⟩=>⟨u,g1,Gr,r,args',g0,g2,g3,g4⟩) λu w' ⟨Gr,r,args',hq,k1,k2,k3⟩=>?_
      ·have:=oM (P:=P) (w:=w) (a:=a1) (c:=c) (fo:= .func f) (f:=f) (vs:=#[]) (dst:=dst') (ty:=ty') (pos:=pos') (af:=af') (g:=none) hce rfl hac.1;simpa using this
      ·replace hk :=hk r args' hq;dsimp only at hk
       cases k2 with
       |pure _ _ _ h ho _=>simp [AV.dF] at ho
       | tup _ _ _ Gi hn' hc hFi hdi=>
        split at hk
        ·rename_i k2' es'' tl';split at hk
         ·rename_i ek;have ek2:=ek.symm;clear ek;subst ek2;obtain ⟨_,e',he',hjl,hk⟩:=hk;rw [he] at he';cases he'
          have hy1:bB w' (λ_=>False) (.sl true k' es'') v (Gi 1):=by
           have:=hc 1 (.sl true k' es'') rfl;rw [←aR,cN,ae4] at this;exact this
          have sub:∀(q:Nat) y,q<(r::AV.sl true k' es''::tl').length->Gi q y->G i.toNat j y∨w.heap.size<=y/\y<w'.heap.size:=λq y hq h=>k3 y ((hFi y).2 ⟨q,hq,h⟩);(have hb':w'.heap[b0]? =some (.cells cs T (0,0)):=by rw [k1.block b0 hbs (h00 _ _ hil hjk)];exact hb);let G2:Nat->Nat->Nat->Prop:=λi' j'=>if i'=i.toNat/\j'=j then Gi 1 else G i' j'
          have hG2:∀i' j',¬(i'=i.toNat/\j'=j)->G2 i' j'=G i' j':=λi' j' h=>if_neg h;have X4:G2 i.toNat j=Gi 1:=if_pos ⟨rfl,rfl⟩;(have hlen:(es.set i.toNat (splice e j [.sl true k' es''])).length=es.length:=by simp);have hel:e.length=k:=hke e (ae he)
          have hkeep:∀i' j' y,i'<es.length->j'<k->¬(i'=i.toNat/\j'=j)->A y∨G i' j' y->w'.heap[y]? =w.heap[y]?:=λi' j' y h1 h2 h3 h4=>by
           rcases h4 with h4|h4
           ·exact k1.block y (hA0 y h4).1 (hA0 y h4).2
           ·exact k1.block y (hw.fsz id y (hGF _ _ y h1 h2 h4)).2 λh5=>h3 (hdj i' j' i.toNat j y h1 h2 hil hjk h4 h5)
          have hrow':bB w' A (.sl true k (es.set i.toNat (splice e j [.sl true k' es'']))) (.slice (some ⟨b0,0,none⟩) es.length c0) (λy=>y=b0∨∃i' j',i'<es.length/\j'<k/\G2 i' j' y):=by
           have key:=bB.sl (w:=w') (A:=A) k (es.set i.toNat (splice e j [.sl true k' es''])) c0 b0 T cs (λy=>y=b0∨∃i' j',i'<es.length/\j'<k/\G2 i' j' y) G2 hb'
            (by rw [hlen];exact hl) (by rw [hlen];exact hcap) hsz (λe' he'=>by
             rcases f9 he' with h|h
             ·exact hke e' h
             ·rw [h,lV hjl];exact hel) (λi' j' hi' hj'=>h1c i' j' (by rw [←hlen];exact hi') hj') (λi' j' e' y he' hy=>by
             (have hi':i'<es.length:=by rw [←hlen];exact (aa.1 he').1);rw [bh] at he';split at he'
             ·rename_i ei;subst ei;(try rw [if_pos hil] at he');cases he';rw [oK hjl] at hy;split at hy
              ·rename_i hlt;(have hn:¬(i.toNat=i.toNat/\j'=j):=by omega);rw [hG2 _ _ hn];(have hj':j'<k:=by omega);exact (hr i.toNat j' e y he hy).mono (λ_ h=>h) (λz hz=>hkeep _ _ z hil hj' hn hz)
              ·split at hy
               ·rename_i h5 h6;simp only [bi,cQ] at h6;(have:j'=j:=by omega);subst this;simp at hy;subst hy;rw [X4,←hv];exact hy1.mono (λ_ h=>h.elim) (λ_ _=>rfl)
               ·rename_i h5 h6;simp only [bi,cQ] at h6;(have hn:¬(i.toNat=i.toNat/\j'=j):=by omega);rw [hG2 _ _ hn]
                have hj':j'<k:=by
                 have:=(aa.1 hy).1;omega
                exact (hr i.toNat j' e y he hy).mono (λ_ h=>h) (λz hz=>hkeep _ _ z hil hj' hn hz)
             ·rename_i ei;have hn:¬(i'=i.toNat/\j'=j):=λh=>ei h.1.symm;rw [hG2 _ _ hn]
              have hj':j'<k:=by
               have:=(aa.1 hy).1;rwa [hke e' (ae he')] at this
              exact (hr i' j' e' y he' hy).mono (λ_ h=>h) (λz hz=>hkeep _ _ z hi' hj' hn hz)) (λy=>by rw [hlen]) (λi' j' hi' hj' h5=>by
             rw [hlen] at hi';by_cases hn:i'=i.toNat/\j'=j
             ·obtain ⟨rfl,rfl⟩:=hn;rw [X4] at h5;rcases sub 1 b0 (by simp) h5 with h6|h6
              ·exact h00 _ _ hil hjk h6
              ·omega
             ·rw [hG2 _ _ hn] at h5
              exact h00 i' j' hi' hj' h5) (λi1 j1 i2 j2 y hi1 hj1 hi2 hj2 h5 h6=>by
             rw [hlen] at hi1 hi2;by_cases n1:i1=i.toNat/\j1=j<;>by_cases n2:i2=i.toNat/\j2=j
             ·omega
             ·exfalso;obtain ⟨rfl,rfl⟩:=n1;rw [X4] at h5;rw [hG2 _ _ n2] at h6;rcases sub 1 y (by simp) h5 with h7|h7
              ·have:=hdj _ _ _ _ y hi1 hj1 hi2 hj2 h7 h6;exact n2 ⟨this.1.symm,this.2.symm⟩
              ·have:=(hw.fsz id y (hGF _ _ y hi2 hj2 h6)).2;omega
             ·exfalso;obtain ⟨rfl,rfl⟩:=n2;rw [X4] at h6;rw [hG2 _ _ n1] at h5;rcases sub 1 y (by simp) h6 with h7|h7
              ·have:=hdj _ _ _ _ y hi1 hj1 hi2 hj2 h5 h7;exact n1 this
              ·have:=(hw.fsz id y (hGF _ _ y hi1 hj1 h5)).2;omega
             ·rw [hG2 _ _ n1] at h5;rw [hG2 _ _ n2] at h6
              exact hdj i1 j1 i2 j2 y hi1 hj1 hi2 hj2 h5 h6)
           rw [hlen] at key;exact key
          have hlt:id<s1.os.length:=by rw [XW];exact (aa.1 ho).1
          obtain ⟨hw2,hm2⟩:=hw1.setMany [id] (os':=s1.os.set id (.row k (es.set i.toNat (splice e j [.sl true k' es''])))) (λ_ y=>y=b0∨∃i' j',i'<es.length/\j'<k/\G2 i' j' y) (by simp) (k1.weaken λy hy=>⟨id,cg.2 rfl,hGF _ _ y hil hjk hy⟩) (λid' h=>by
           rw [bh,if_neg (λe=>h (by rw [e];exact cg.2 rfl))]) (λid' h=>by
           rw [cg.1 h];refine .inr ⟨k,es,_,by rw [XW];exact ho,by rw [bh,if_pos rfl,if_pos hlt],by simp,?_⟩
           rw [q1];exact hrow') (λid' h y hy=>by
           rcases hy with rfl|⟨i',j',h1,h2,h3⟩
           ·exact .inl ⟨id,cg.2 rfl,hbF⟩
           ·by_cases hn:i'=i.toNat/\j'=j
            ·obtain ⟨rfl,rfl⟩:=hn;rw [X4] at h3;rcases sub 1 y (by simp) h3 with h6|h6
             ·exact .inl ⟨id,cg.2 rfl,hGF _ _ y hil hjk h6⟩
             ·exact .inr h6
            ·rw [hG2 _ _ hn] at h3
             exact .inl ⟨id,cg.2 rfl,hGF _ _ y h1 h2 h3⟩) (λid1 h1 id2 h2 y _ _=>by rw [cg.1 h1,cg.1 h2])
          have h0:bB w' A r u (Gi 0):=by
           have:=hc 0 r rfl;rw [←aR,cN] at this;(have e6:((#[u]:Array Value).toList++(c.args.map a1.eval).toList).getD 0 undef=u:=by simp [ad]);rw [e6] at this;exact this.mono (λ_ h=>h.elim) (λ_ _=>rfl)
          obtain ⟨s',hd',F',p1,p2,p3,p4,x',p5,p6⟩:=oJ (s:=⟨s1.fr,s1.os.set id (.row k (es.set i.toNat (splice e j [.sl true k' es''])))⟩) hw2 h0 (λy hy=>by
           have h5:=sub 0 y (by simp) hy;refine ⟨?_,?_,λhA=>?_,λid' hid=>?_⟩
           ·rcases h5 with h|h
            ·exact (hw.fsz id y (hGF _ _ y hil hjk h)).1
            ·exact hw.below.new h.1
           ·rcases h5 with h|h
            ·exact bu (hw.fsz id y (hGF _ _ y hil hjk h)).2 k1.size
            ·exact h.2
           ·rcases h5 with h|h
            ·exact (hA0 y hA).2 h
            ·have:=(hA0 y hA).1;omega
           ·rcases hid with ⟨_,h6⟩|⟨h6,h7⟩
            ·rcases h6 with rfl|⟨i',j',r1,r2,r3⟩
             ·rcases h5 with h|h
              ·exact h00 _ _ hil hjk h
              ·omega
             ·by_cases hn:i'=i.toNat/\j'=j
              ·obtain ⟨rfl,rfl⟩:=hn;rw [X4] at r3;have:=hdi 0 1 y (by simp) (by simp) hy r3;omega
              ·rw [hG2 _ _ hn] at r3;rcases h5 with h|h
               ·exact hn (hdj _ _ _ _ y r1 r2 hil hjk r3 h)
               ·have:=(hw.fsz id y (hGF _ _ y r1 r2 r3)).2;omega
            ·rcases h5 with h|h
             ·have:=hw.jH _ _ _ h7 (hGF _ _ y hil hjk h);exact h6 (cg.2 this)
             ·have:=(hw.fsz id' y h7).2;omega) hk
          have hf2:FR w' A s'.os hd' s1.fr a1:=hf1.eZ λz u h=>p3 _ _ (hm2 _ _ h);refine hQ (s'.put dst' x') _ w' A hd' F' p5 (by rw [AS.fQ];exact p2) ?_;have hfr:s'.fr=s1.fr:=p1;rw [←hfr] at hf2;exact hf2.put p6 dst'
         ·exact hk.elim
        ·exact hk.elim
    ·exact hk.elim
   ·exact hk.elim
  ·exact hk.elim
 ·exact hk.elim
theorem qd [St] (hL:L.ty=bR P) {ops:Array Oper} {Q:Exit->Act->World->Prop} {K:AS->Prop} {tl:List Oper} (hQ:∀s' a' w' A' hd' F',K s'->CW W w' A' s'.os hd' F'->FR w' A' s'.os hd' s'.fr a'->wpList P ops Q tl a' w'):
  ∀(l:List Oper) (s:AS) (a:Act) (w:World) (A:Nat->Prop) (hd:Nat->Value) (F:Nat->Nat->Prop),CW W w A s.os hd F->FR w A s.os hd s.fr a->jr (bG np P) L false ops.toList l s K->wpList P ops Q (l++tl) a w
 |[],s,a,w,A,hd,F,hw,hf,hk=>hQ s a w A hd F hk hw hf
 | o ::rest,s,a,w,A,hd,F,hw,hf,hk=>by
  have step:jF (bG np P) L s o (λv s'=>jr (bG np P) L false ops.toList rest (s'.put o.dst v) K)->o.wp P a w (wpList P ops Q (rest++tl)) Q:=λh=>
   nC hL hw hf h (wpList P ops Q (rest++tl)) Q λx s' v w' A' hd' F' hk' hfr hw' hf' hx=>by
    rw [←hfr] at hf';exact qd hL hQ rest _ _ w' A' hd' F' (by rw [AS.fQ];exact hw') (hf'.put hx o.dst) hk'
  have skip:jr (bG np P) L false ops.toList rest (s.put o.dst .und) K->wpList P ops Q (rest++tl) (a.put o.dst undef) w:=λh=>
   qd hL hQ rest _ _ w A hd F (by rw [AS.fQ];exact hw) (hf.put .und o.dst) h
  show wpList P ops Q (o::(rest++tl)) a w;unfold jr at hk;unfold wpList;split at hk
  ·rename_i hg;rw [if_pos (by simp [Region.wanted,hg])];exact .inl (step hk)
  ·rename_i j want hg;split at hk
   ·exact hk.elim
   ·rename_i hy;have:=dQ hf hy;rw [if_neg (by simp [Region.wanted,hg,this])];exact skip hk
   ·rename_i b hy;have:=dQ hf hy;split at hk
    ·rename_i e;subst e;rw [if_pos (by simp [Region.wanted,hg,this])];exact .inl (step hk)
    ·rename_i e;rw [if_neg (by simp [Region.wanted,hg,this,e])];exact skip hk
def Grp.ops:Grp->List Oper
 | .one o=>[o]
 | .nest o mv oc=>o::(mv++[oc])
theorem Ji {d:Nat}:∀{l acc mv:List Oper} {oc:Oper} {l':List Oper},grab L d acc l=some (mv,oc,l')->acc++l=mv++oc::l'
 |[],acc,mv,oc,l',h=>by cases h
 | o ::l,acc,mv,oc,l',h=>by
  unfold grab at h;split at h
  ·have:=Ji h;rw [cT] at this;exact this
  ·split at h
   ·split at h
    ·cases h;rfl
    ·cases h
   ·cases h
  ·cases h
theorem uM:∀(n:Nat) (l:List Oper),(groups L n l).flatMap Grp.ops=l
 | 0,l=>by
  unfold groups
  induction l with
  |nil=>rfl
  |cons o l ih=>simp [Grp.ops] at ih ⊢;exact ih
 |n+1,[]=>by unfold groups;rfl
 | n +1,o::l=>by
  have one:(Grp.one o::groups L n l).flatMap Grp.ops=o::l:=by
   rw [fX,uM n l];rfl
  unfold groups;split
  ·split
   ·split
    ·rename_i hg;have:=Ji hg;rw [fX,uM n];show (o::(_++[_]))++_=_;rw [fj,cT];rw [List.nil_append] at this;rw [this];rfl
    ·exact one
   ·exact one
  ·exact one
theorem BR {d:Nat}:∀{l:List Oper},KM d l=true->Moves d l
 |[],_=>λo h=>by cases h
 | o ::l,h=>by
  unfold KM at h;split at h
  ·rename_i x e hg hop hdst;split at h
   ·cases h
   ·rename_i hne;intro o' ho';rcases bk.1 ho' with rfl|ho'
    ·exact ⟨hg,x,e,hop,hdst,hne⟩
    ·exact BR h o' ho'
  ·cases h
theorem qg [St] (hL:L.ty=bR P) {ops:Array Oper} {Q:Exit->Act->World->Prop} {K:AS->Prop} (hQ:∀s' a' w' A' hd' F',K s'->CW W w' A' s'.os hd' F'->FR w' A' s'.os hd' s'.fr a'->Q .normal a' w'):
  ∀(l:List Grp) (s:AS) (a:Act) (w:World) (A:Nat->Prop) (hd:Nat->Value) (F:Nat->Nat->Prop),CW W w A s.os hd F->FR w A s.os hd s.fr a->JG (bG np P) L ops.toList l s K->wpList P ops Q (l.flatMap Grp.ops) a w
 |[],s,a,w,A,hd,F,hw,hf,hk=>hQ s a w A hd F hk hw hf
 | .one o::l,s,a,w,A,hd,F,hw,hf,hk=>by
  rw [fX];exact qd hL (λs' a' w' A' hd' F' h1 h2 h3=>qg hL hQ l s' a' w' A' hd' F' h2 h3 h1) [o] s a w A hd F hw hf hk
 | .nest o mv oc::l,s,a,w,A,hd,F,hw,hf,hk=>by
  rw [fX];unfold JG at hk;split at hk
  ·rename_i t x d hog hoo hod;split at hk
   ·rename_i c hcg hco;split at hk
    ·rename_i hsl hmv;split at hk
     ·rename_i f d' xs hce hca;split at hk
      ·rename_i hd';subst hd';split at hk
       ·rename_i id i j hx;show wpList P ops Q (o::(mv++[oc])++_) a w;rw [fj,cT]
        have hs:(L.ty t).d≠ .other/\(L.ty t).agg=false:=by
         unfold af0 at hsl;split at hsl
         ·rename_i e1 e2;exact ⟨by rw [e1];simp,e2⟩
         ·cases hsl
        exact Qy hL hog hoo hod hs.1 hs.2 hx (BR hmv) hcg hco hce hca hw hf hk (λs' a' w' A' hd' F' h1 h2 h3=>qg hL hQ l s' a' w' A' hd' F' h2 h3 h1)
       ·exact qd hL (λs' a' w' A' hd' F' h1 h2 h3=>qg hL hQ l s' a' w' A' hd' F' h2 h3 h1) (o::(mv++[oc])) s a w A hd F hw hf hk
      ·exact hk.elim
     ·exact hk.elim
    ·exact hk.elim
   ·exact hk.elim
  ·exact hk.elim
end
end Go.Proofs.YtnlhnideeaobpaaGreatDoor
