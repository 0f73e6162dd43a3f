/- Contracts of the shelf as contracts of the layer; Contracts: functions of the library over texts, from the shelf; Contracts: marks, observers; Contracts: marks in lists of aids. -/
import Derived.Test.YtnlhnideeaobpaaGreatDoorFA
import Derived.Test.YtnlhnideeaobpaaGreatDoorShelf
import Derived.Test.YtnlhnideeaobpaaGreatDoorAxGl
import Derived.Shelf.Small.Strs
import Derived.Shelf.Strings.Search3
import Derived.Shelf.Strings.SplitShaped
import Derived.Test.YtnlhnideeaobpaaGreatDoorFB
namespace Go.Proofs.YtnlhnideeaobpaaGreatDoor
open Go Go.RowKit Classical
set_option maxRecDepth 100000
set_option maxHeartbeats 2000000
set_option linter.unusedVariables false
set_option linter.unusedSimpArgs false
theorem AC.same [St] {P:Program} {f:FuncId} {us:List AV} {α:Type} {R:α->AV} {x:α} (hent:Enters P f) (h:∀w vs,GOK w->yh w (λb=>b<w.heap.size) us vs->∃v,Rel w (λ_=>False) (R x) v/\(R x).dF=false/\Calls P f vs w λe w'=>e= .returned v/\w'=w):AC P f us R x:=
 ⟨hent,λw vs hg hr=>by
  obtain ⟨v,h1,h2,h3⟩:=h w vs hg hr;refine h3.mono ?_;rintro e w' ⟨rfl,rfl⟩
  exact ⟨v,λ_=>False,rfl,Keeps.refl _ _,.pure _ _ _ h1 h2 (λ_ h=>h),λ_ h=>h.elim⟩⟩
theorem aiK {w:World} {A:Nat->Prop} {a:AV} {vs:Array Value} (h:yh w A [a] vs):∃v,vs=#[v]/\Rel w A a v:=by
 match vs,h with
 |⟨[v]⟩,h=>exact ⟨v,rfl,h.2 0 a rfl⟩
theorem ZC {w:World} {A:Nat->Prop} {a b:AV} {vs:Array Value} (h:yh w A [a,b] vs):∃u v,vs=#[u,v]/\Rel w A a u/\Rel w A b v:=by
 match vs,h with
 |⟨[u,v]⟩,h=>exact ⟨u,v,rfl,h.2 0 a rfl,h.2 1 b rfl⟩
theorem Sm [St] (s:ByteArray) (c:Int):AC Tryz.prog 216 [.str s,.int .u8 c] (AV.int .i64) (Lib.indexByte s.data.toList c.toNat.toUInt8):=
 AC.same (λxs w=>fF Tryz.func216 (by kernel_rfl) rfl xs w) λw vs _ hr=>by
  obtain ⟨u,v,rfl,h1,h2⟩:=ZC hr;cases h1;cases h2;exact ⟨_,.int _ _,rfl,Any.strings_IndexByte Tryz.indexByte s c w⟩
theorem zC [St] (s:ByteArray) (c:UInt8):AC Tryz.prog 150 [.str s,.str ⟨#[c]⟩] AV.bool (decide (0<=Lib.indexByte s.data.toList c)):=
 AC.same (λxs w=>fF Tryz.func150 (by kernel_rfl) rfl xs w) λw vs _ hr=>by
  obtain ⟨u,v,rfl,h1,h2⟩:=ZC hr;cases h1;cases h2;exact ⟨_,.bool _,rfl,Any.strings_Contains_one Tryz.containsOne s c w⟩
def fieldsOf (s:ByteArray):List ByteArray:=(Lib.fields s.data.toList).map λl=>(⟨l.toArray⟩:ByteArray)
theorem aeh [St] (s:ByteArray) (hs:s.size<4294967281) (hascii:∀(j:Nat) b,s.data.toList[j]? =some b->b.toNat<128) (hn:(fieldsOf s).length<=maxLen) (hl:∀x∈fieldsOf s,x.size<=maxLen):
  AC Tryz.prog 411 [.str s] (λl:List ByteArray=> .sl true 1 (l.map iQ)) (fieldsOf s):=
 ⟨λxs w => fF Tryz.func411 (by kernel_rfl) rfl xs w,λw vs hg hr=>by
  obtain ⟨v,rfl,h1⟩:=aiK hr;cases h1;refine (Any.strings_Fields_laid Tryz.fields s w hs hascii hg.tabs).mono ?_;rintro e w' ⟨rfl,rfl⟩;refine ⟨_,λb=>b=w.heap.size,rfl,Keeps.alloc _ _ _,?_,λb hb=>by subst hb;simp⟩;have hlen:((fieldsOf s).map iQ).length=(Lib.fields s.data.toList).length:=by simp [fieldsOf]
  have key:=bB.sl (w:=w.alloc (.cells ((Lib.fields s.data.toList).map λl=>Value.string ⟨l.toArray⟩).toArray (Tryz.fields_ren.t 9))) (A:=λ_=>False) 1 ((fieldsOf s).map iQ) (Lib.fields s.data.toList).length w.heap.size _ _ (λb=>b=w.heap.size) (λ_ _ _=>False) (heap_alloc_new w _)
   (by rw [al];exact hn) (by rw [hlen];exact aq _) (by simp) (λe he=>by obtain ⟨x,_,rfl⟩:=cA.1 he;rfl) (λi j hi hj=>?_) (λi j e a he ha=>?_) (λx=>⟨.inl,λh=>h.elim id λ⟨_,_,_,_,h⟩=>h.elim⟩) (λ_ _ _ _ h=>h) (λ_ _ _ _ _ _ _ _ _ h=>h.elim)
  ·rw [hlen] at key;exact key
  ·rw [hlen] at hi;(have:j=0:=by omega);subst this;simp [Array.getD,hi,Value.oneCell']
  ·rw [ai] at he
   cases hx:(fieldsOf s)[i]? with
   |none=>rw [hx] at he;cases he
   | some x =>
     rw [hx] at he;cases he;have hx2:=hl x (ae hx)
     cases j with
     | zero =>
       cases ha;unfold fieldsOf at hx;rw [ai] at hx
       cases hy:(Lib.fields s.data.toList)[i]? with
       |none=>rw [hy] at hx;cases hx
       | some y=>
         rw [hy] at hx;cases hx
         have e:((Lib.fields s.data.toList).map λl=>Value.string ⟨l.toArray⟩).toArray.getD (i*1+0) undef=Value.string ⟨y.toArray⟩:=by
          rw [b9,fy,ai,k8,em,hy];rfl
         rw [e];exact .pure _ _ _ (.str _ hx2) rfl (λ_ h=>h)
     |succ j=>simp [iQ] at ha⟩
theorem Jc [St] (n:Int):AP 236 [.int .i64 n] AV.bool (bP (0<=n/\n<=3000)):=by
  refine a0 Tryz.func236 λE K hE hK=>?_
  repeat' first
    |((first
   |refine aF (eU _ _ _) (λ_=>?_) (λ_=>?_)
   |refine B0 ?_|refine B1 ?_ ?_)<;>intros<;>(try conv=>cbv))
  all_goals exact fz
theorem Ho [St] (n:Int):AP 237 [.int .i64 n] AV.bool (bP (1<=n/\n<=100000)):=by
  refine a0 Tryz.func237 λE K hE hK=>?_
  repeat' first
    |((first
   |refine aF (eU _ _ _) (λ_=>?_) (λ_=>?_)
   |refine B0 ?_|refine B1 ?_ ?_)<;>intros<;>(try conv=>cbv))
  all_goals exact fz
def nD (x y e v:Int):Prop:=dZ x y/\(0<=e/\e<=3000)/\1<=v/\v<=100000
theorem Ed [St] (x y e v:Int):AP 158 [.agg [.int .i64 x,.int .i64 y,.int .i64 e,.int .i64 v]] AV.bool (bP (nD x y e v)):=by
  refine a0 Tryz.func158 λE K hE hK=>?_
  repeat' first
    |((first
   |refine aF (jI _ _) (λ_=>?_) (λ_=>?_)
   |refine aF (Jc _) (λ_=>?_) (λ_=>?_)
   |refine aF (Ho _) (λ_=>?_) (λ_=>?_)
   |refine B0 ?_|refine B1 ?_ ?_)<;>intros<;>(try conv=>cbv))
  all_goals (try clear hN)
  all_goals first
   |(omega)
   |(refine aH hK (aG.2 ?_);first|omega|grind [nD])
   |(refine aH hK (ah.2 ?_);first|omega|(intro h;grind [nD]))
   |(refine ⟨by omega,Up.succ (by assumption) ?_ (by assumption)⟩;grind [nD])
   |(refine hK _ ?_;simp_all [gP,nD];done)
   |(grind [nD])
theorem Va [St] (x y e v:Int):AP 176 [.pp [.int .i64 x,.int .i64 y,.int .i64 e,.int .i64 v]] AV.bool (bP (nD x y e v)):=by
  refine a0 Tryz.func176 λE K hE hK=>?_
  repeat' first
    |((first
   |refine aF (xI _ _) (λ_=>?_) (λ_=>?_)
   |refine aF (in_ _ _ _) (λ_=>?_) (λ_=>?_)
   |refine B0 ?_|refine B1 ?_ ?_)<;>intros<;>(try conv=>cbv))
  all_goals (try clear hN)
  all_goals first
   |(omega)
   |(refine aH hK (aG.2 ?_);first|omega|grind [nD])
   |(refine aH hK (ah.2 ?_);first|omega|(intro h;grind [nD]))
   |(refine ⟨by omega,Up.succ (by assumption) ?_ (by assumption)⟩;grind [nD])
   |(refine hK _ ?_;simp_all [gP,nD];done)
   |(grind [nD])
set_option maxHeartbeats 4000000
theorem Aid.uE {R:Aid->List AV} {m l:List Aid} {es es9:List (List AV)} {row:List AV} {i n:Int} (mV:es9=es.set i.toNat row) (h3:es=m.map R) (h4:m.length=l.length) (h5:∀j:Nat,i<=j->m[j]? =l[j]?) (hn:n=i+1) (h0:0<=i) (hr:∃v,R v=row):∃m:List Aid,es9=m.map R/\m.length=l.length/\∀j:Nat,n<=j->m[j]? =l[j]?:=by
 obtain ⟨v,rfl⟩:=hr;exact ⟨m.set i.toNat v,by rw [mV,kn,←h3],by rw [bo];omega,λj hj=>by rw [cU (by omega)];exact h5 j (by omega)⟩
def Aid.mk1 (v:Aid):Nat:=14+v.aM.length+3*v.aD.length
theorem Aid.uD {l:List Aid} {B:Nat} (hb:∀v∈l,Aid.mk1 v<=B):∀n:Nat,n<=l.length->sumTo Aid.mk1 l n<=B*n
 |0,_=>by rw [eH (by omega)];omega
 | n+1,h=>by
   have ih:=Aid.uD hb n (by omega);(have hv:l[(n:Int).toNat]? =some l[n]:=by simp);rw [show ((n+1:Nat):Int)=(n:Int)+1 by omega,eO Aid.mk1 (by omega) hv,ju];have:=hb l[n] (er _);omega
theorem Xf [St] {rs:List (List AV)} {l:List Aid} (k:Int) (hl:rs=l.map (Aid.cs true)) (hk0:0<=k/\k<=1000000000) (hb:l.length<=10000000) (hb1:∀v∈l,Aid.mk1 v<=10000000):ACM Tryz.prog 48 [.sl true 16 rs,.int .i64 k] (λr ys=>∃(n:Int) (rs':List (List AV)),n=k+(sumTo Aid.mk1 l l.length:Nat)/\(∃m:List Aid,rs'=m.map (Aid.cs true)/\m.length=l.length)/\r= .int .i64 n/\ys=[.sl true 16 rs',.any]):=by
  refine acm 1 Tryz.func48 (λr ys ⟨n,rs',_,⟨m,h3,_⟩,h1,h2⟩=>⟨by rw [h1];exact .int _ _,by rw [h2,h3];simp;exact ⟨.rows .Dc,.any⟩⟩) λE K hE hK=>?_;refine iR [] [5,1,0] (λ(i k':Int) (es:List (List AV))=>([(5,.int .i64 i),(1,.int .i64 k'),(0,.ob 0)],[.row 16 es],l.length - i,(0<=i/\i<=l.length)/\k'=k+(sumTo Aid.mk1 l i:Nat)/\∃m:List Aid,es=m.map (Aid.cs true)/\m.length=l.length/\∀j:Nat,i<=j->m[j]? =l[j]?)) [0] ((0,k,rs)) (by dsimp only;exact ⟨by omega,by rw [eH (by omega)];omega,l,hl,rfl,λ_ _=>rfl⟩) λi k' es hi Kn hN=>?_;obtain ⟨⟨h0,h1⟩,h2,m,h3,h4,h5⟩:=hi;have hbd:=Aid.uD hb1 i.toNat (by omega);rw [show ((i.toNat:Nat):Int)=i by omega] at hbd;have ahZ:10000000*i.toNat<=100000000000000:=by omega
  refine bn h3 λn hn hb2=>?_;conv=>cbv
  refine ltI (λhlt=>?_) (λhge=>?_)<;>conv=>cbv
  ·(obtain ⟨v,hv⟩:∃v,l[i.toNat]? =some v:=⟨_,ag (by omega)⟩);have hm:=(h5 i.toNat (by omega)).trans hv;have hss:=eO Aid.mk1 h0 hv;have hv1:=hb1 v (ae hv);obtain ⟨number,name,atX,atY,height,aP,aC,aJ,bg,aO,aM,aB,ak,au,aD,aj⟩:=v;simp only [Aid.mk1] at hv1;(obtain ⟨aL,aW⟩:∃r,r=aM.map aN:=⟨_,rfl⟩;obtain ⟨aI,aS⟩:∃r,r=aD.map Scr.cs:=⟨_,rfl⟩);(have hrow:es[i.toNat]? =some [.int .i64 number,.str name,.int .i64 atX,.int .i64 atY,.int .i64 height,.int .i64 aP,.str aC,.str aJ,.str bg,.int .i64 aO,.sl true 1 aL,.str aB,.str ak,.int .i64 au,.sl true 3 aI,.int .i64 aj]:=by rw [h3,ai,hm];subst aW aS;rfl);have hel:es.length=l.length:=by rw [h3,al,h4]
   repeat' first
     |(refine YP mV (by omega) (by exact bt rfl) (λes8 aaS ae6=>?_);(conv at aaS=>rhs;arg 3;cbv);(try conv=>cbv);clear mV CF;clear es9;revert es8;intro es9 mV CF)
     |(refine hN _ _ _ [0] rfl ⟨?_,?_,?_⟩)
     |((first
    |refine aaJ mV (by omega) ?_
    |refine Pn h0 hrow ?_
    |(refine iY (KQ _ (by assumption) (by omega) (by omega)) ?_;rintro _ _ ⟨n9,rs9,hn9,hr9,rfl,rfl⟩;(obtain ⟨g9,hg9⟩:∃g9:List Int,rs9=g9.map aN:=⟨_,hr9⟩);clear hr9)
    |(refine iY (yU _ (by assumption) (by omega) (by omega)) ?_;rintro _ _ ⟨n9,rs9,hn9,hr9,rfl,rfl⟩;(obtain ⟨g9,hg9⟩:∃g9:List Scr,rs9=g9.map Scr.cs:=⟨_,hr9⟩);clear hr9)
    |(refine Ub h0 hrow (by exact bt rfl) (λes9 mV CF=>?_);(conv at mV=>rhs;arg 3;cbv))
    |refine aQ (jB _ (by omega)) (λ_ _=>?_)
    |refine Ij (by simp_all) ?_
    |refine B0 ?_|refine B1 ?_ ?_)<;>intros<;>(try conv=>cbv))
   all_goals (try clear hN)
   all_goals first
    |omega
    |(rename_i hi1;rw [hi1,hss];simp only [Aid.mk1];omega)
    |exact Aid.uE mV h3 h4 h5 (by assumption) h0 (by clear hK hrow;subst_vars;exact ⟨⟨_,_,_,_,_,_,_,_,_,_,_,_,_,_,_,_⟩,rfl⟩)
  ·exact hK _ _ ⟨k',es,by rw [h2,show i=l.length by omega],⟨m,h3,h4⟩,rfl,rfl⟩
end Go.Proofs.YtnlhnideeaobpaaGreatDoor
