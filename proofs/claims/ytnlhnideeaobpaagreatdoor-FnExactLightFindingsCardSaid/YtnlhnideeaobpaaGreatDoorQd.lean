/- Plain laws: aids are put into a list, replaced and dropped; Contracts: aids of their own; Contracts: an aid is put in, replaced, dropped. -/
import Derived.Test.YtnlhnideeaobpaaGreatDoorFC
import Derived.Test.YtnlhnideeaobpaaGreatDoorQc
import Derived.Test.YtnlhnideeaobpaaGreatDoorQf
namespace Go.Proofs.YtnlhnideeaobpaaGreatDoor
set_option linter.unusedVariables false
set_option linter.unusedSimpArgs false
open Go Go.RowKit Classical
theorem rD {l:List Aid} (h:dn l):l.Pairwise λa b=>a.number<b.number:=
 dv.2 λi j hi hj hij=>h.inc (ag hi) j _ hij (ag hj)
theorem BA {l:List Aid} (h1:∀v∈l,v.ok) (h2:l.Pairwise λa b=>a.number<b.number) (h3:l.length<=24):dn l:=
 ⟨λj hj=>⟨l[j],ag hj,h1 _ (er hj),λh0=>⟨l[j - 1],ag (by omega),dv.1 h2 (j - 1) j (by omega) hj (by omega)⟩⟩,h3⟩
def gU (l:List Aid) (n:Int):Nat:=(l.takeWhile λa=>decide (a.number<n)).length
theorem ac3 (l:List Aid) (n:Int):gU l n<=l.length:=(List.takeWhile_prefix _).length_le
theorem QO {α:Type} {p:α->Bool}:∀{l:List α} {k:Nat},(∀j,j<k->∃v,l[j]? =some v/\p v=true)->(k=l.length∨∃v,l[k]? =some v/\p v=false)->(l.takeWhile p).length=k
 | [],k,h,h2=>by
   rcases h2 with h2|⟨v,h2,_⟩
   ·rw [h2];rfl
   ·simp at h2
 | x ::l,0,h,h2=>by
   rcases h2 with h2|⟨v,h2,h3⟩
   ·simp at h2
   ·simp at h2;subst h2;simp [List.takeWhile,h3]
 | x::l,k+1,h,h2=>by
   obtain ⟨v,h3,h4⟩:=h 0 (by omega);simp at h3;subst h3;rw [ib h4,bi,QO (k:=k) (λj hj=>by have:=h (j+1) (by omega);simpa using this) (by simpa using h2)]
theorem UL {l:List Aid} {n i:Int} (h0:0<=i) (h:Up (λj=>∃v,l[j]? =some v/\v.number<n) i) (h2:i=l.length∨∃v,l[i.toNat]? =some v/\¬v.number<n):(gU l n:Int)=i:=by
 have:=QO (p:=λa:Aid=>decide (a.number<n)) (l:=l) (k:=i.toNat) (λj hj=>by obtain ⟨v,h1,h2⟩:=h j (by omega);exact ⟨v,h1,by simpa using h2⟩) (by
  rcases h2 with h2|⟨v,h2,h3⟩
  ·exact .inl (by omega)
  ·exact .inr ⟨v,h2,by simpa using h3⟩)
 unfold gU;omega
theorem YR {α:Type} {p:α->Bool}:∀{l:List α} {j:Nat} {v:α},j<(l.takeWhile p).length->l[j]? =some v->p v=true
 |[],j,v,h,_=>by simp at h
 | x ::l,j,v,h,hv=>by
   by_cases hx:p x=true
   ·rw [ib hx,bi] at h
    cases j with
    |zero=>simp at hv;subst hv;exact hx
    |succ j=>exact YR (l:=l) (j:=j) (by omega) (by simpa using hv)
   ·rw [lr hx] at h;simp at h
theorem YS {α:Type} {p:α->Bool}:∀{l:List α} {v:α},l[(l.takeWhile p).length]? =some v->p v=false
 |[],v,hv=>by simp at hv
 | x ::l,v,hv=>by
   by_cases hx:p x=true
   ·rw [ib hx,bi,eg] at hv;exact YS hv
   ·rw [lr hx] at hv;simp at hv;subst hv;simpa using hx
theorem ac2 {l:List Aid} {n:Int} {j:Nat} {v:Aid} (hj:j<gU l n) (hv:l[j]? =some v):v.number<n:=by
 simpa using YR (p:=λa:Aid=>decide (a.number<n)) hj hv
theorem ac4 {l:List Aid} {n:Int} {v:Aid} (hv:l[gU l n]? =some v):¬v.number<n:=by
 have:=YS (p:=λa:Aid=>decide (a.number<n)) hv;simpa using this
def nT (l:List Aid) (n:Int):Prop:=∃v,l[gU l n]? =some v/\v.number=n
theorem PV {l:List Aid} (hpw:l.Pairwise λa b=>a.number<b.number) {n:Int} {i:Nat} {v:Aid} (hv:l[i]? =some v) (hn:v.number=n):gU l n=i:=by
 refine QO (p:=λa:Aid=>decide (a.number<n)) (λj hj=>?_) (.inr ⟨v,hv,by simp;omega⟩);have hi:=(aa.1 hv).1;refine ⟨l[j],ag (by omega),?_⟩;have:=dv.1 hpw j i (by omega) hi hj;rw [(aa.1 hv).2] at this;simp;omega
theorem ad9 {l:List Aid} (hpw:l.Pairwise λa b=>a.number<b.number) {n:Int} {i:Nat} {v:Aid} (hv:l[i]? =some v) (hn:v.number=n):nT l n:=⟨v,by rw [PV hpw hv hn];exact hv,hn⟩
noncomputable section
def yP (l:List Aid) (a:Aid):List Aid×Int:=if nT l a.number then ([],4) else if l.length=24 then ([],5) else (l.take (gU l a.number)++a::l.drop (gU l a.number),0)
def wK (l:List Aid) (a:Aid):List Aid×Int:=if nT l a.number then (l.set (gU l a.number) a,0) else ([],3)
def wU (l:List Aid) (n:Int):List Aid×Int:=if nT l n then (l.take (gU l n)++l.drop (gU l n+1),0) else ([],3)
end
theorem Vr {l:List Aid} (hpw:l.Pairwise λa b=>a.number<b.number) {n:Int} (hn:¬nT l n) {v:Aid} (hv:v∈l.drop (gU l n)):n<v.number:=by
 obtain ⟨j,hj⟩:=ap hv;rw [bv] at hj;obtain ⟨hl,he⟩:=aa.1 hj;have h0:gU l n<l.length:=by omega
 have hg:=ac4 (ag h0);have hne:l[gU l n].number≠n:=λh=>hn ⟨_,ag h0,h⟩;by_cases e:j=0
 ·subst e;simp only [em] at he;subst he;omega
 ·have:=dv.1 hpw (gU l n) (gU l n+j) h0 hl (by omega);rw [he] at this;omega
theorem acu {l:List Aid} {n:Int} {v:Aid} (hv:v∈l.take (gU l n)):v.number<n:=by
 obtain ⟨j,hj⟩:=ap hv;rw [be] at hj;split at hj
 ·exact ac2 (by assumption) hj
 ·cases hj
theorem acW {l:List Aid} {a:Aid} (h:dn l) (ha:a.ok) (h0:(yP l a).2=0):dn (yP l a).1:=by
 have hpw:=rD h;have hl:=h.2;unfold yP at h0 ⊢;split at h0<;>rename_i h1
 ·exact absurd h0 (by decide)
 rw [if_neg h1];split at h0<;>rename_i h2
 ·exact absurd h0 (by decide)
 rw [if_neg h2];have e:=eJ (gU l a.number) l;have ahJ:=hpw;rw [←e] at ahJ;obtain ⟨p1,p2,p3⟩:=ia.1 ahJ;refine BA (λv hv=>?_) (ia.2 ⟨p1,im.2 ⟨λv hv=>Vr hpw h1 hv,p2⟩,λu hu v hv=>?_⟩) ?_
 ·rcases ca.1 hv with hv|hv
  ·exact h.mem (dd hv)
  ·rcases bk.1 hv with rfl|hv
   ·exact ha
   ·exact h.mem (du hv)
 ·have:=acu hu;rcases bk.1 hv with rfl|hv
  ·exact this
  ·have:=Vr hpw h1 hv;omega
 ·have:=congrArg List.length e;simp only [am,bi] at this ⊢;omega
theorem ZA {l:List Aid} {a:Aid} (h:dn l) (ha:a.ok) (h0:(wK l a).2=0):dn (wK l a).1:=by
 unfold wK at h0 ⊢;split at h0<;>rename_i h1
 ·rw [if_pos h1];obtain ⟨v,hv,hn⟩:=h1
  have hm:(l.set (gU l a.number) a).map Aid.number=l.map Aid.number:=by
   rw [kn,←hn];refine cC λj=>?_;rw [bh];split
   ·rename_i e;subst e;rw [hn,ai,hv];simp only [hn,cF,al,(aa.1 hv).1,if_true]
   ·rfl
  refine BA (λu hu=>?_) ?_ (by rw [bo];exact h.2)
  ·rcases f9 hu with hu|rfl
   ·exact h.mem hu
   ·exact ha
  ·have:=lB.2 (rD h);rw [←hm] at this;exact lB.1 this
 ·exact absurd h0 (by decide)
theorem abe {l:List Aid} {n:Int} (h:dn l) (h0:(wU l n).2=0):dn (wU l n).1:=by
 unfold wU at h0 ⊢;split at h0<;>rename_i h1
 ·rw [if_pos h1]
  have hs:(l.take (gU l n)++l.drop (gU l n+1)).Sublist l:=by
   rw [←List.eraseIdx_eq_take_drop_succ];exact List.eraseIdx_sublist _ _
  exact BA (λv hv=>h.mem (hs.subset hv)) ((rD h).sublist hs) (cE hs.length_le h.2)
 ·exact absurd h0 (by decide)
theorem MQ {α:Type} {R:α->List AV} {l:List α} {i:Int} {v:α} (h0:0<=i) (hv:l[i.toNat]? =some v) (n:Int) (hn:n=i+1):(l.take i.toNat++[v]).map R=(l.take n.toNat).map R:=by
 rw [show n.toNat=i.toNat+1 by omega,cq,hv];rfl
set_option maxRecDepth 100000
set_option maxHeartbeats 2000000
theorem O9 (l:List Int):∀e∈l.map aN,∀c∈e,c.dF=false:=λe he c hc=>by
 obtain ⟨x,_,rfl⟩:=cA.1 he;simp only [aN,cg] at hc;subst hc;rfl
theorem Nk (l:List Scr):∀e∈l.map Scr.cs,∀c∈e,c.dF=false:=λe he c hc=>by
 obtain ⟨x,_,rfl⟩:=cA.1 he;simp only [Scr.cs,bk,eR,or_false] at hc;rcases hc with rfl|rfl|rfl<;>rfl
def Aid.short (v:Aid):Prop:=v.aM.length<=1000/\v.aD.length<=1000
theorem Aid.iC {v:Aid} (h:v.ok):v.short:=by
 rcases h.2.2.2.2.2 with h|h
 ·obtain ⟨h1,_,h2,_⟩:=h;refine ⟨?_,by have:=h2.2.1;omega⟩;rcases h1.2.1 with ⟨_,g,_⟩|⟨_,_,g⟩|⟨_,⟨_,g|⟨x,g,_⟩⟩|⟨_,g⟩⟩|⟨_,_,g⟩
  ·rw [g];simp
  ·have:=g.2.1;omega
  ·rw [g];simp
  ·rw [g];simp
  ·rw [g];simp
  ·rw [g];simp
 ·obtain ⟨⟨_,g,_⟩,g2,_⟩:=h;exact ⟨by rw [g];simp,by rw [g2];simp⟩
theorem Yv [St] {rs:List (List AV)} {t:Bool} {l:List Int} (hl:rs=l.map aN) (hb0:l.length<=1048576):AP 351 [.sl t 1 rs] (λl:List Int=> .sl true 1 (l.map aN)) l:=by
 refine ac Tryz.func351 (.ints _) λE K hE hK=>?_;refine bn hl λn hn hb=>?_;conv=>cbv
 refine Oy (by omega) λes hes=>?_;conv=>cbv
 refine xA (by rw [hl];exact O9 l) ?_;conv=>cbv
 refine zG (l:=[]) (R:=aN) (by rw [hes];rfl) hl (by simp;omega) λes2 gG=>?_;conv=>cbv
 exact hK _ (by rw [gG];rfl)
theorem Yu [St] {rs:List (List AV)} {t:Bool} {l:List Scr} (hl:rs=l.map Scr.cs) (hb0:l.length<=1048576):AP 352 [.sl t 3 rs] (λl:List Scr=> .sl true 3 (l.map Scr.cs)) l:=by
 refine ac Tryz.func352 (.rows .WX) λE K hE hK=>?_;refine bn hl λn hn hb=>?_;conv=>cbv
 refine Oy (by omega) λes hes=>?_;conv=>cbv
 refine xA (by rw [hl];exact Nk l) ?_;conv=>cbv
 refine zG (l:=[]) (R:=Scr.cs) (by rw [hes];rfl) hl (by simp;omega) λes2 gG=>?_;conv=>cbv
 exact hK _ (by rw [gG];rfl)
theorem adM [St] {rs:List (List AV)} {t:Bool} {l:List Int} (hl:rs=l.map aN) (hb0:l.length<=1048576):AP 394 [.sl t 1 rs] (λl:List Int=> .sl true 1 (l.map aN)) l:=by
 refine ac Tryz.func394 (.ints _) λE K hE hK=>?_;refine xA (by rw [hl];exact O9 l) ?_;conv=>cbv
 refine zG (l:=[]) (R:=aN) rfl hl (by simp;omega) λes2 gG=>?_;conv=>cbv
 exact hK _ (by rw [gG];rfl)
theorem F9 [St] (number:Int) (name:ByteArray) (atX atY height aP:Int) (aC aJ bg:ByteArray) (aO:Int) (aB ak:ByteArray) (au aj:Int) {aL aI:List (List AV)} {bC aX:Bool} {aM:List Int} {aD:List Scr} (aW:aL=aM.map aN) (aS:aI=aD.map Scr.cs) (hsh:aM.length<=1000/\aD.length<=1000):AP 288 [.agg [.int .i64 number,.str name,.int .i64 atX,.int .i64 atY,.int .i64 height,.int .i64 aP,.str aC,.str aJ,.str bg,.int .i64 aO,.sl bC 1 aL,.str aB,.str ak,.int .i64 au,.sl aX 3 aI,.int .i64 aj]] (λv:Aid=> .agg (v.cs true)) (Aid.mk number name atX atY height aP aC aJ bg aO aM aB ak au aD aj):=by
  refine ac Tryz.func288 (.Dc _) λE K hE hK=>?_
  repeat' first
    |((first
   |refine uz ?_ ?_
   |refine dJ (Yv aW (by omega)) (λ_ _=>?_)
   |refine dJ (Yu aS (by omega)) (λ_ _=>?_)
   |refine B0 ?_|refine B1 ?_ ?_)<;>intros<;>(try conv=>cbv))
  all_goals first
   |(refine hK _ ?_;subst_vars;rfl)
theorem adL [St] (kind:Int) (letter colors:ByteArray) (period:Int) {iB:List (List AV)} {nQ:Bool} {group:List Int} (pW:iB=group.map aN) (hsh:group.length<=1000):AP 331 [.pp [.int .i64 kind,.sl nQ 1 iB,.str letter,.str colors,.int .i64 period]] (λv:Chr=> .agg (v.cs true)) (Chr.mk kind group letter colors period):=by
  refine ac Tryz.func331 (.aho _) λE K hE hK=>?_
  repeat' first
    |((first
   |refine dJ (adM pW (by omega)) (λ_ _=>?_)
   |refine B0 ?_|refine B1 ?_ ?_)<;>intros<;>(try conv=>cbv))
  all_goals first
   |(refine hK _ ?_;subst_vars;rfl)
theorem KZ [St] (number:Int) (name:ByteArray) (atX atY height aP:Int) (aC aJ bg:ByteArray) (aO:Int) (aB ak:ByteArray) (au aj:Int) {aL aI:List (List AV)} {bC aX:Bool} {aM:List Int} {aD:List Scr} (aW:aL=aM.map aN) (aS:aI=aD.map Scr.cs) (hsh:aM.length<=1000/\aD.length<=1000):AP 261 [.pp [.int .i64 number,.str name,.int .i64 atX,.int .i64 atY,.int .i64 height,.int .i64 aP,.str aC,.str aJ,.str bg,.int .i64 aO,.sl bC 1 aL,.str aB,.str ak,.int .i64 au,.sl aX 3 aI,.int .i64 aj]] (λv:Aid=> .agg (v.cs true)) (Aid.mk number name atX atY height aP aC aJ bg aO aM aB ak au aD aj):=by
  refine ac Tryz.func261 (.Dc _) λE K hE hK=>?_
  repeat' first
    |((first
   |refine VD (AC.tl1 (adL _ _ _ _ aW hsh.1)) (λrg hrg=>?_)
   |(refine xA (by rw [aS];exact Nk aD) ?_)
   |(refine zG (l:=[]) (R:=Scr.cs) rfl aS (by simp;omega) (λes2 gG=>?_))
   |refine B0 ?_|refine B1 ?_ ?_)<;>intros<;>(try conv=>cbv))
  all_goals first
   |(refine hK _ ?_;subst_vars;rfl)
theorem wo [St] {rs:List (List AV)} {t b:Bool} {l:List Aid} (hl:rs=l.map (Aid.cs b)) (hsh:∀v∈l,v.short) (hb0:l.length<=1000):AP 213 [.sl t 16 rs] (λl:List Aid=> .sl true 16 (l.map (Aid.cs true))) l:=by
  refine ac Tryz.func213 (.rows .Dc) λE K hE hK=>?_;refine bn hl λn hn hb=>?_;conv=>cbv
  refine iH (by omega) λn2 hn2=>?_;conv=>cbv
  refine Oy (by omega) λes0 agv=>?_;conv=>cbv
  refine bn hl λn3 hn3 hb3=>?_;conv=>cbv
  refine bO [10,11] [12,3] (λ(i:Int) (es:List (List AV))=>([(12,.int .i64 i),(3,.ob 0)],[.row 16 es],l.length - i,(0<=i/\i<=l.length)/\es=(l.take i.toNat).map (Aid.cs true))) [0] ((0,_)) (hV:=rfl) (hO:=rfl) (by dsimp only;exact ⟨by omega,by rw [agv];rfl⟩) λi es hi Kn hN=>?_;obtain ⟨⟨h0,h1⟩,h2⟩:=hi
  repeat' first
    |(refine hN _ _ [0] rfl ⟨?_,?_⟩)
    |(refine hN _ _ [1] rfl ⟨?_,?_⟩)
    |(refine hN _ _ [2] rfl ⟨?_,?_⟩)
    |(refine hN _ _ [3] rfl ⟨?_,?_⟩)
    |(refine hN _ _ [4] rfl ⟨?_,?_⟩)
    |(refine hN _ _ [5] rfl ⟨?_,?_⟩)
    |(refine hN _ _ [6] rfl ⟨?_,?_⟩)
    |((first
   |(refine iU hl (by omega) (λnumber name atX atY height aP aC aJ bg aO aM aB ak au aD aj rg rx hv hg hx=>?_);have hvs:=hsh _ (ae hv);have hst:=MQ (R:=Aid.cs true) h0 hv)
   |refine qb (F9 _ _ _ _ _ _ _ _ _ _ _ _ _ _ hg hx hvs) (λrg2 rx2 hg2 hx2=>?_)
   |(refine jA (R:=Aid.cs true) (v:=(⟨number,name,atX,atY,height,aP,aC,aJ,bg,aO,aM,aB,ak,au,aD,aj⟩:Aid)) h2 (by rw [hg2,hx2];rfl) (by rw [ba];omega) (λes5 Ll=>?_))
   |refine B0 ?_|refine B1 ?_ ?_)<;>intros<;>(try conv=>cbv))
  all_goals (try clear hN)
  all_goals first
   |omega
   |(rw [Ll];exact hst _ (by assumption))
   |(refine hK _ ?_;rw [h2,bm (by omega)];rfl)
theorem lZ [St] {rs:List (List AV)} {t b:Bool} {l:List Aid} (hl:rs=l.map (Aid.cs b)) (hsh:∀v∈l,v.short) (hb0:l.length<=1000):AP 183 [.sl t 16 rs] (λl:List Aid=> .sl true 16 (l.map (Aid.cs true))) l:=by
  refine ac Tryz.func183 (.rows .Dc) λE K hE hK=>?_;refine bO [0] [4,3] (λ(i:Int) (es:List (List AV))=>([(4,.int .i64 i),(3,.ob 0)],[.row 16 es],l.length - i,(0<=i/\i<=l.length)/\es=(l.take i.toNat).map (Aid.cs true))) [0] ((0,[])) (by dsimp only;exact ⟨by omega,rfl⟩) λi es hi Kn hN=>?_;obtain ⟨⟨h0,h1⟩,h2⟩:=hi
  repeat' first
    |(refine hN _ _ [0] rfl ⟨?_,?_⟩)
    |(refine hN _ _ [1] rfl ⟨?_,?_⟩)
    |(refine hN _ _ [2] rfl ⟨?_,?_⟩)
    |(refine hN _ _ [3] rfl ⟨?_,?_⟩)
    |(refine hN _ _ [4] rfl ⟨?_,?_⟩)
    |(refine hN _ _ [5] rfl ⟨?_,?_⟩)
    |(refine hN _ _ [6] rfl ⟨?_,?_⟩)
    |((first
   |refine bn hl (λn hn _=>?_)
   |(refine iU hl (by omega) (λnumber name atX atY height aP aC aJ bg aO aM aB ak au aD aj rg rx hv hg hx=>?_);have hvs:=hsh _ (ae hv);have hst:=MQ (R:=Aid.cs true) h0 hv)
   |refine qb (KZ _ _ _ _ _ _ _ _ _ _ _ _ _ _ hg hx hvs) (λrg2 rx2 hg2 hx2=>?_)
   |(refine jA (R:=Aid.cs true) (v:=(⟨number,name,atX,atY,height,aP,aC,aJ,bg,aO,aM,aB,ak,au,aD,aj⟩:Aid)) h2 (by rw [hg2,hx2];rfl) (by rw [ba];omega) (λes5 Ll=>?_))
   |refine B0 ?_|refine B1 ?_ ?_)<;>intros<;>(try conv=>cbv))
  all_goals (try clear hN)
  all_goals first
   |omega
   |(rw [Ll];exact hst _ (by assumption))
   |(refine hK _ ?_;rw [h2,bm (by omega)];rfl)
set_option maxHeartbeats 4000000
def Po (p:Int×Bool):AV:= .tup [.int .i64 p.1,.bool p.2]
theorem NoB.Po (p:Int×Bool):NoB (Po p):= .nH (.int _ _) (.nH (.bool _) .CY)
def jG (p:List Aid×Int):AV:= .tup [.sl true 16 (p.1.map (Aid.cs true)),.int .i64 p.2]
theorem NoB.jG (p:List Aid×Int):NoB (jG p):= .nH (.rows .Dc) (.nH (.int _ _) .CY)
theorem NU {l:List Aid} {n i:Int} (h0:0<=i) (h:Up (λj=>∃v,l[j]? =some v/\v.number<n) i) (hi:(l.length:Int)<=i) (h1:i<=l.length):(gU l n:Int)=i/\¬nT l n:=by
 have e:=UL h0 h (.inl (by omega));exact ⟨e,λ⟨v,hv,_⟩=>by have:=(aa.1 hv).1;omega⟩
theorem KA {l:List Aid} {n i:Int} {v:Aid} (h0:0<=i) (h:Up (λj=>∃v,l[j]? =some v/\v.number<n) i) (hv:l[i.toNat]? =some v) (h1:¬v.number<n):(gU l n:Int)=i/\(nT l n↔v.number=n):=by
 have e:=UL h0 h (.inr ⟨v,hv,h1⟩);refine ⟨e,λ⟨u,hu,hn⟩=>?_,λhn=>⟨v,by rw [show gU l n=i.toNat by omega];exact hv,hn⟩⟩;rw [show gU l n=i.toNat by omega,hv] at hu;cases hu;exact hn
theorem D8 [St] {rs:List (List AV)} {t b:Bool} {l:List Aid} (n:Int) (hl:rs=l.map (Aid.cs b)) (h24:l.length<=1000):AP 83 [.sl t 16 rs,.int .i64 n] Po ((gU l n:Int),bP (nT l n)):=by
  refine ac Tryz.func83 (.Po _) λE K hE hK=>?_;refine cu [0,1] [6] (λ(i:Int)=>([(6,.int .i64 i)],[],l.length - i,(0<=i/\i<=l.length)/\Up (λj=>∃v,l[j]? =some v/\v.number<n) i)) [] (0) (by dsimp only;exact ⟨by omega,.zero (by omega)⟩) λi hi Kn hN=>?_;obtain ⟨⟨h0,h1⟩,hinv⟩:=hi
  repeat' first
    |(refine hN _ [] rfl ⟨?_,?_⟩)
    |((first
   |refine bn hl (λm hm _=>?_)
   |refine iO hl (by omega) hw hg hx ?_
   |refine iU hl (by omega) (λnumber name atX atY height aP aC aJ bg aO aM aB ak au aD aj rg rx hw hg hx=>?_)
   |refine B0 ?_|refine B1 ?_ ?_)<;>intros<;>(try conv=>cbv))
  all_goals (try clear hN)
  all_goals first
   |omega
   |exact hinv.succ ⟨_,hw,by assumption⟩ (by assumption)
   | (by_cases hq:(l.length:Int)<=i
      ·obtain ⟨e1,e2⟩:=NU h0 hinv hq h1;refine hK _ ?_;rw [e1,ah.2 e2];rfl
      ·exfalso;omega)
   |(obtain ⟨e1,e2⟩:=KA h0 hinv hw (by simp only;omega);simp only at e2;refine hK _ ?_;rw [e1];by_cases e3:number=n<;>first|contradiction|(rw [aG.2 (e2.2 e3)];rfl)|(rw [ah.2 (λh=>e3 (e2.1 h))];rfl))
theorem VA [St] {E:Env} {np:Nat} {P:Program} [hE:SE E np P] {f:FuncId} {args:List AV} {l:List Aid} {n:Int} {K:AV->Prop} (h:AC P f args Po ((gU l n:Int),bP (nT l n))) (h1:∀a:Int,a=gU l n->nT l n->K (.tup [.int .i64 a,.bool true])) (h2:∀a:Int,a=gU l n->¬nT l n->K (.tup [.int .i64 a,.bool false])):E.call f args K:=
 aQ h λy hy=>by
  subst hy;by_cases hn:nT l n
  ·show K (.tup [.int .i64 _,.bool (bP (nT l n))]);rw [aG.2 hn];exact h1 _ rfl hn
  ·show K (.tup [.int .i64 _,.bool (bP (nT l n))]);rw [ah.2 hn];exact h2 _ rfl hn
theorem aeO [St] (number:Int) (name:ByteArray) (atX atY height aP:Int) (aC aJ bg:ByteArray) (aO:Int) (aB ak:ByteArray) (au aj:Int) {aL aI:List (List AV)} {bC aX:Bool} {aM:List Int} {aD:List Scr} (aW:aL=aM.map aN) (aS:aI=aD.map Scr.cs) {rs:List (List AV)} {t b:Bool} {l:List Aid} (hl:rs=l.map (Aid.cs b)) (hok:dn l) (ha:Aid.ok (Aid.mk number name atX atY height aP aC aJ bg aO aM aB ak au aD aj)):AP 291 [.sl t 16 rs,.agg [.int .i64 number,.str name,.int .i64 atX,.int .i64 atY,.int .i64 height,.int .i64 aP,.str aC,.str aJ,.str bg,.int .i64 aO,.sl bC 1 aL,.str aB,.str ak,.int .i64 au,.sl aX 3 aI,.int .i64 aj]] jG (yP l (Aid.mk number name atX atY height aP aC aJ bg aO aM aB ak au aD aj)):=by
  refine ac Tryz.func291 (.jG _) λE K hE hK=>?_;have h24:=hok.2;have hpl:=ac3 l number;have hsh:=Aid.iC ha
  repeat' first
    |((first
   |refine qB (oI hl) hok ?_
   |refine qB (vv _ _ _ _ _ _ _ _ _ _ _ _ _ _ aW aS) ha ?_
   |refine VA (D8 number hl (by omega)) (λa ha1 hf=>?_) (λa ha1 hf=>?_)
   |refine bn hl (λm hm _=>?_)
   |refine dJ (wo hl (λv hv=>Aid.iC (hok.mem hv)) (by omega)) (λrs2 gY=>?_)
   |refine qb (F9 _ _ _ _ _ _ _ _ _ _ _ _ _ _ aW aS hsh) (λrg2 rx2 hg2 hx2=>?_)
   |(refine iY (ahD (Aid.mk number name atX atY height aP aC aJ bg aO aM aB ak au aD aj) a gY (by rw [hg2,hx2];rfl) (by omega) (by omega)) ?_;rintro r ys ⟨rs3,h3,rfl,rfl⟩)
   |refine uz ?_ ?_
   |refine dW 16 ?_
   |refine B0 ?_|refine B1 ?_ ?_)<;>intros<;>(try conv=>cbv))
  all_goals first
   |(refine hK _ ?_;rw [yP,if_pos hf];rfl)
   |(refine hK _ ?_;rw [yP,if_neg hf,if_pos (by omega)];rfl)
   |(refine hK _ ?_;rw [yP,if_neg hf,if_neg (by omega),h3,show a.toNat=gU l number by omega];rfl)
theorem abf [St] {rs:List (List AV)} {t b:Bool} {l:List Aid} (n:Int) (hl:rs=l.map (Aid.cs b)) (hok:dn l):AP 293 [.sl t 16 rs,.int .i64 n] jG (wU l n):=by
  refine ac Tryz.func293 (.jG _) λE K hE hK=>?_;have h24:=hok.2
  repeat' first
    |((first
   |refine qB (oI hl) hok ?_
   |refine VA (D8 n hl (by omega)) (λa ha1 hf=>?_) (λa ha1 hf=>?_)
   |(refine dJ (wo hl (λv hv=>Aid.iC (hok.mem hv)) (by omega)) (λrs2 gY=>?_);(have hal:a+1<=l.length:=by obtain ⟨v,hv,_⟩:=hf;have:=(aa.1 hv).1;omega))
   |refine iH (a:=a) (by omega) (λa1 ha2=>?_)
   |(refine iY (aes a a1 gY (by omega) (by omega)) ?_;rintro r ys ⟨rs3,h3,rfl,rfl⟩)
   |refine uz ?_ ?_
   |refine dW 16 ?_
   |refine B0 ?_|refine B1 ?_ ?_)<;>intros<;>(try conv=>cbv))
  all_goals first
   |(refine hK _ ?_;rw [wU,if_neg hf];rfl)
   |(refine hK _ ?_;rw [wU,if_pos hf,h3,show a.toNat=gU l n by omega,show a1.toNat=gU l n+1 by omega];rfl)
theorem NI [St] (number:Int) (name:ByteArray) (atX atY height aP:Int) (aC aJ bg:ByteArray) (aO:Int) (aB ak:ByteArray) (au aj:Int) {aL aI:List (List AV)} {bC aX:Bool} {aM:List Int} {aD:List Scr} (aW:aL=aM.map aN) (aS:aI=aD.map Scr.cs) {rs:List (List AV)} {t b:Bool} {l:List Aid} (hl:rs=l.map (Aid.cs b)) (hok:dn l) (ha:Aid.ok (Aid.mk number name atX atY height aP aC aJ bg aO aM aB ak au aD aj)):AP 292 [.sl t 16 rs,.agg [.int .i64 number,.str name,.int .i64 atX,.int .i64 atY,.int .i64 height,.int .i64 aP,.str aC,.str aJ,.str bg,.int .i64 aO,.sl bC 1 aL,.str aB,.str ak,.int .i64 au,.sl aX 3 aI,.int .i64 aj]] jG (wK l (Aid.mk number name atX atY height aP aC aJ bg aO aM aB ak au aD aj)):=by
  refine ac Tryz.func292 (.jG _) λE K hE hK=>?_;have h24:=hok.2;have hsh:=Aid.iC ha
  repeat' first
    |((first
   |refine qB (oI hl) hok ?_
   |refine qB (vv _ _ _ _ _ _ _ _ _ _ _ _ _ _ aW aS) ha ?_
   |refine VA (D8 number hl (by omega)) (λa ha1 hf=>?_) (λa ha1 hf=>?_)
   |refine dJ (wo hl (λv hv=>Aid.iC (hok.mem hv)) (by omega)) (λrs2 gY=>?_)
   |(refine qb (F9 _ _ _ _ _ _ _ _ _ _ _ _ _ _ aW aS hsh) (λrg2 rx2 hg2 hx2=>?_);(obtain ⟨v0,hv0,hv1⟩:=hf);(have hva:l[a.toNat]? =some v0:=by rw [show a.toNat=gU l number by omega];exact hv0))
   |refine gK (R:=Aid.cs true) (i:=a) gY (by omega) hva ?_
   |(refine wB (R:=Aid.cs true) (v:=v0) (Aid.mk number name atX atY height aP aC aJ bg aO aM aB ak au aD aj) gY (by omega) (by rw [show a.toNat=gU l number by omega];exact hv0) (by exact bt rfl) (by rw [hg2,hx2];rfl) (λes2 gG=>?_))
   |refine dW 16 ?_
   |refine B0 ?_|refine B1 ?_ ?_)<;>intros<;>(try conv=>cbv))
  all_goals first
   |(refine hK _ ?_;rw [wK,if_neg hf];rfl)
   |(refine hK _ ?_;rw [wK,if_pos ⟨v0,hv0,hv1⟩,gG,show a.toNat=gU l number by omega];rfl)
noncomputable def zw (l:List Aid) (n:Int):Int:=if nT l n then gU l n else -1
theorem Fz [St] {rs:List (List AV)} {t b:Bool} {l:List Aid} (n:Int) (hl:rs=l.map (Aid.cs b)) (hpw:l.Pairwise λa b=>a.number<b.number) (h24:l.length<=1000):AP 194 [.sl t 16 rs,.int .i64 n] (AV.int .i64) (zw l n):=by
  refine a0 Tryz.func194 λE K hE hK=>?_;refine cu [0,1] [5] (λ(i:Int)=>([(5,.int .i64 i)],[],l.length - i,(0<=i/\i<=l.length)/\Up (λj=>∀v,l[j]? =some v->¬v.number=n) i)) [] (0) (by dsimp only;exact ⟨by omega,.zero (by omega)⟩) λi hi Kn hN=>?_;obtain ⟨⟨h0,h1⟩,hinv⟩:=hi
  repeat' first
    |(refine hN _ [] rfl ⟨?_,?_⟩)
    |((first
   |refine bn hl (λm hm _=>?_)
   |refine iU hl (by omega) (λnumber name atX atY height aP aC aJ bg aO aM aB ak au aD aj rg rx hw hg hx=>?_)
   |refine B0 ?_|refine B1 ?_ ?_)<;>intros<;>(try conv=>cbv))
  all_goals (try clear hN)
  all_goals first
   |omega
   |(refine hinv.succ (λv hv=>?_) (by assumption);rw [hw] at hv;cases hv;assumption)
   |(refine hK _ ?_;rw [zw,if_pos (ad9 hpw hw (by assumption)),PV hpw hw (by assumption)];show AV.int _ _=AV.int _ _;congr 1;omega)
   |(refine hK _ ?_;rw [zw,if_neg (λ⟨v,hv,hn⟩=>hinv _ (by have:=(aa.1 hv).1;omega) v hv hn)];rfl)
theorem Kz {l:List Aid} {n i:Int} (h0:0<=i) (h1:i<=l.length) (h:Up (λj=>∃v,l[j]? =some v/\v.number<n) i) (h2:∀v,l[i.toNat]? =some v->n<v.number):¬nT l n/\gU l n=i.toNat:=by
 by_cases hi:(l.length:Int)<=i
 ·obtain ⟨e1,e2⟩:=NU h0 h hi h1;exact ⟨e2,by omega⟩
 ·(obtain ⟨v,hv⟩:∃v,l[i.toNat]? =some v:=⟨_,ag (by omega)⟩);have h3:=h2 v hv;obtain ⟨e1,e2⟩:=KA h0 h hv (by omega);exact ⟨λhn=>by have:=e2.1 hn;omega,by omega⟩
theorem adG [St] (number:Int) (name:ByteArray) (atX atY height aP:Int) (aC aJ bg:ByteArray) (aO:Int) (aB ak:ByteArray) (au aj:Int) {aL aI:List (List AV)} {bC aX:Bool} {aM:List Int} {aD:List Scr} (aW:aL=aM.map aN) (aS:aI=aD.map Scr.cs) {rs:List (List AV)} {t b:Bool} {l:List Aid} (hl:rs=l.map (Aid.cs b)) (hok:dn l) (ha:Aid.ok (Aid.mk number name atX atY height aP aC aJ bg aO aM aB ak au aD aj)):AP 262 [.sl t 16 rs,.pp [.int .i64 number,.str name,.int .i64 atX,.int .i64 atY,.int .i64 height,.int .i64 aP,.str aC,.str aJ,.str bg,.int .i64 aO,.sl bC 1 aL,.str aB,.str ak,.int .i64 au,.sl aX 3 aI,.int .i64 aj]] jG (yP l (Aid.mk number name atX atY height aP aC aJ bg aO aM aB ak au aD aj)):=by
  refine ac Tryz.func262 (.jG _) λE K hE hK=>?_;have h24:=hok.2;have hsh:=Aid.iC ha;refine cu [0,1] [6] (λ(i:Int)=>([(6,.int .i64 i)],[],l.length - i,(0<=i/\i<=l.length)/\Up (λj=>∃v,l[j]? =some v/\v.number<number) i)) [] (0) (by dsimp only;exact ⟨by omega,.zero (by omega)⟩) λi hi Kn hN=>?_;obtain ⟨⟨h0,h1⟩,hinv⟩:=hi;have agb:∀v∈l.take i.toNat,v.short:=λv hv=>Aid.iC (hok.mem (dd hv));have aga:∀v∈l.drop i.toNat,v.short:=λv hv=>Aid.iC (hok.mem (du hv));have hl1:(l.take i.toNat).length<=1000:=by rw [ba];omega
  have hl2:(l.drop i.toNat).length<=1000:=by rw [ct];omega
  repeat' first
    |(refine hN _ [] rfl ⟨?_,?_⟩)
    |((first
   |refine bn hl (λm hm _=>?_)
   |refine iO hl (by omega) hw hg hx ?_
   |refine iU hl (by omega) (λUU name2 ajy ajx ad6 afM ZY ado ahs afP adz aac aad Z9 Zm Sj rg rx hw hg hx=>?_)
   |refine dJ (lZ hs1 agb hl1) (λrs2 gY=>?_)
   |refine dJ (lZ hs2 aga hl2) (λrs4 agf=>?_)
   |(refine tQ hl (lo:=none) (by simp only [bp,cD];omega) (λr1 agd=>?_);(have hs1:r1=(l.take i.toNat).map (Aid.cs b):=by rw [agd];simp))
   |(refine tQ hl (hi:=none) (by simp only [bp,cD];omega) (λr2 agc=>?_);(have hs2:r2=(l.drop i.toNat).map (Aid.cs b):=by rw [agc];simp))
   |refine qb (KZ _ _ _ _ _ _ _ _ _ _ _ _ _ _ aW aS hsh) (λrg2 rx2 hg2 hx2=>?_)
   |(refine jA (R:=Aid.cs true) (v:=(Aid.mk number name atX atY height aP aC aJ bg aO aM aB ak au aD aj)) gY (by rw [hg2,hx2];rfl) (by rw [ba];omega) (λrs3 A9=>?_))
   |(refine zG (R:=Aid.cs true) A9 agf (by simp only [am,ba,ct,bi,cQ];omega) (λrs5 ad2=>?_))
   |refine dW 16 ?_
   |refine B0 ?_|refine B1 ?_ ?_)<;>intros<;>(try conv=>cbv))
  all_goals (try clear hN)
  all_goals first
   |omega
   |exact hinv.succ ⟨_,hw,by assumption⟩ (by assumption)
   |(refine hK _ ?_;obtain ⟨e1,e2⟩:=KA h0 hinv hw (by simp only;omega);rw [yP,if_pos (e2.2 (by simp only;omega))];rfl)
   |(refine hK _ ?_;rw [yP,if_neg (Kz h0 h1 hinv (λv hv=>by rw [hw] at hv;cases hv;simp only;omega)).1,if_pos (by omega)];rfl)
   |(refine hK _ ?_;rw [yP,if_neg (Kz h0 h1 hinv (λv hv=>by have:=(aa.1 hv).1;omega)).1,if_pos (by omega)];rfl)
   |(refine hK _ ?_;have hno:=Kz h0 h1 hinv (n:=number) (λv hv=>by rw [hw] at hv;cases hv;simp only;omega);rw [yP,if_neg hno.1,if_neg (by omega),ad2,hno.2,cT];rfl)
   |(refine hK _ ?_;have hno:=Kz h0 h1 hinv (n:=number) (λv hv=>by have:=(aa.1 hv).1;omega);rw [yP,if_neg hno.1,if_neg (by omega),ad2,hno.2,cT];rfl)
theorem aal [St] {rs:List (List AV)} {t b:Bool} {l:List Aid} (n:Int) (hl:rs=l.map (Aid.cs b)) (hok:dn l):AP 264 [.sl t 16 rs,.int .i64 n] jG (wU l n):=by
  refine ac Tryz.func264 (.jG _) λE K hE hK=>?_;have h24:=hok.2;refine aQ (Fz n hl (rD hok) (by omega)) λi hi=>?_;conv=>cbv
  by_cases hf:nT l n
  ·rw [zw,if_pos hf] at hi
   have hal:i+1<=l.length:=by
    obtain ⟨v,hv,_⟩:=hf;have:=(aa.1 hv).1;omega
   have agb:∀v∈l.take i.toNat,v.short:=λv hv=>Aid.iC (hok.mem (dd hv));have aga:∀v∈l.drop (i+1).toNat,v.short:=λv hv=>Aid.iC (hok.mem (du hv));(have hl1:(l.take i.toNat).length<=1000:=by rw [ba];omega);have hl2:(l.drop (i+1).toNat).length<=1000:=by rw [ct];omega
   repeat' first
     |((first
    |refine dJ (lZ hs1 agb hl1) (λrs2 gY=>?_)
    |refine dJ (lZ hs2 aga hl2) (λrs4 agf=>?_)
    |refine iH (a:=i) (by omega) (λi1 hi1=>?_)
    |(refine tQ hl (lo:=none) (by simp only [bp,cD];omega) (λr1 agd=>?_);(have hs1:r1=(l.take i.toNat).map (Aid.cs b):=by rw [agd];simp))
    |(refine tQ hl (hi:=none) (by simp only [bp,cD];omega) (λr2 agc=>?_);(have hs2:r2=(l.drop (i+1).toNat).map (Aid.cs b):=by rw [agc,hi1];simp))
    |(refine zG (R:=Aid.cs true) gY agf (by simp only [am,ba,ct,bi,cQ];omega) (λrs5 ad2=>?_))
    |refine B0 ?_|refine B1 ?_ ?_)<;>intros<;>(try conv=>cbv))
   all_goals first
    |(exfalso;omega)
    |(refine hK _ ?_;rw [wU,if_pos hf,ad2,show i.toNat=gU l n by omega,show (i+1).toNat=gU l n+1 by omega];rfl)
  ·rw [zw,if_neg hf] at hi
   repeat' first
     |((first
    |refine dW 16 ?_
    |refine B0 ?_|refine B1 ?_ ?_)<;>intros<;>(try conv=>cbv))
   all_goals first
    |(exfalso;omega)
    |(refine hK _ ?_;rw [wU,if_neg hf];rfl)
theorem OT [St] (number:Int) (name:ByteArray) (atX atY height aP:Int) (aC aJ bg:ByteArray) (aO:Int) (aB ak:ByteArray) (au aj:Int) {aL aI:List (List AV)} {bC aX:Bool} {aM:List Int} {aD:List Scr} (aW:aL=aM.map aN) (aS:aI=aD.map Scr.cs) {rs:List (List AV)} {t b:Bool} {l:List Aid} (hl:rs=l.map (Aid.cs b)) (hok:dn l) (ha:Aid.ok (Aid.mk number name atX atY height aP aC aJ bg aO aM aB ak au aD aj)):AP 263 [.sl t 16 rs,.pp [.int .i64 number,.str name,.int .i64 atX,.int .i64 atY,.int .i64 height,.int .i64 aP,.str aC,.str aJ,.str bg,.int .i64 aO,.sl bC 1 aL,.str aB,.str ak,.int .i64 au,.sl aX 3 aI,.int .i64 aj]] jG (wK l (Aid.mk number name atX atY height aP aC aJ bg aO aM aB ak au aD aj)):=by
  refine ac Tryz.func263 (.jG _) λE K hE hK=>?_;have h24:=hok.2;have hsh:=Aid.iC ha;refine aQ (Fz number hl (rD hok) (by omega)) λi hi=>?_;conv=>cbv
  by_cases hf:nT l number
  ·rw [zw,if_pos hf] at hi;have hf2:=hf;obtain ⟨v0,hv0,hv1⟩:=hf;have hva:l[i.toNat]? =some v0:=by rw [show i.toNat=gU l number by omega];exact hv0
   repeat' first
     |((first
    |refine dJ (lZ hl (λv hv=>Aid.iC (hok.mem hv)) (by omega)) (λrs2 gY=>?_)
    |refine gK (R:=Aid.cs true) (i:=i) gY (by omega) hva ?_
    |refine qb (KZ _ _ _ _ _ _ _ _ _ _ _ _ _ _ aW aS hsh) (λrg2 rx2 hg2 hx2=>?_)
    |(refine wB (R:=Aid.cs true) (v:=v0) (Aid.mk number name atX atY height aP aC aJ bg aO aM aB ak au aD aj) gY (by omega) (by rw [show i.toNat=gU l number by omega];exact hv0) (by exact bt rfl) (by rw [hg2,hx2];rfl) (λes2 gG=>?_))
    |refine B0 ?_|refine B1 ?_ ?_)<;>intros<;>(try conv=>cbv))
   all_goals first
    |(exfalso;omega)
    |(refine hK _ ?_;rw [wK,if_pos hf2,gG,show i.toNat=gU l number by omega];rfl)
  ·rw [zw,if_neg hf] at hi
   repeat' first
     |((first
    |refine dW 16 ?_
    |refine B0 ?_|refine B1 ?_ ?_)<;>intros<;>(try conv=>cbv))
   all_goals first
    |(exfalso;omega)
    |(refine hK _ ?_;rw [wK,if_neg hf];rfl)
end Go.Proofs.YtnlhnideeaobpaaGreatDoor
