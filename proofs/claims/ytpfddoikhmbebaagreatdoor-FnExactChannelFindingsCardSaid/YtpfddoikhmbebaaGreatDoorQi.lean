/- Contracts of the shelf as contracts of the layer; Contracts: functions of the library over texts, from the shelf; Contracts: marks, observers; Contracts: marks in lists of aids. -/
import Derived.Test.YtpfddoikhmbebaaGreatDoorFA
import Derived.Test.YtpfddoikhmbebaaGreatDoorShelf
import Derived.Test.YtpfddoikhmbebaaGreatDoorAxGl
import Derived.Shelf.Small.Strs
import Derived.Shelf.Strings.Search3
import Derived.Shelf.Strings.SplitShaped
import Derived.Test.YtpfddoikhmbebaaGreatDoorFB
namespace Go.Proofs.YtpfddoikhmbebaaGreatDoor
open Go Go.RowKit Classical
set_option maxRecDepth 100000
set_option maxHeartbeats 2000000
set_option linter.unusedVariables false
set_option linter.unusedSimpArgs false
theorem AC.same {P:Program} {f:FuncId} {us:List AV} {α:Type} {R:α->AV} {x:α} (hent:Enters P f) (h:∀w vs,GOK w->RelL w (λb=>b<w.heap.size) us vs->∃v,Rel w (λ_=>False) (R x) v/\(R x).isOwn=false/\Calls P f vs w λe w'=>e= .returned v/\w'=w):AC P f us R x:=
  ⟨hent,λw vs hg hr=>by
    obtain ⟨v,h1,h2,h3⟩:=h w vs hg hr
    refine h3.mono ?_
    rintro e w' ⟨rfl,rfl⟩
    exact ⟨v,λ_=>False,rfl,Keeps.refl _ _,.pure _ _ _ h1 h2 (λ_ h=>h),λ_ h=>h.elim⟩⟩
theorem rel1 {w:World} {A:Nat->Prop} {a:AV} {vs:Array Value} (h:RelL w A [a] vs):∃v,vs=#[v]/\Rel w A a v:=by
  match vs,h with
  |⟨[v]⟩,h=>exact ⟨v,rfl,h.2 0 a rfl⟩
theorem rel2 {w:World} {A:Nat->Prop} {a b:AV} {vs:Array Value} (h:RelL w A [a,b] vs):∃u v,vs=#[u,v]/\Rel w A a u/\Rel w A b v:=by
  match vs,h with
  |⟨[u,v]⟩,h=>exact ⟨u,v,rfl,h.2 0 a rfl,h.2 1 b rfl⟩
theorem indexByte_ (s:ByteArray) (c:Int):AC Tryz.prog 364 [.str s,.int .u8 c] (AV.int .i64) (Lib.indexByte s.data.toList c.toNat.toUInt8):=
  AC.same (λxs w=>enters_go Tryz.func364 (by kernel_rfl) rfl xs w) λw vs _ hr=>by
    obtain ⟨u,v,rfl,h1,h2⟩:=rel2 hr
    cases h1
    cases h2
    exact ⟨_,.int _ _,rfl,Any.strings_IndexByte Tryz.indexByte s c w⟩
theorem containsOne_ (s:ByteArray) (c:UInt8):AC Tryz.prog 344 [.str s,.str ⟨#[c]⟩] AV.bool (decide (0<=Lib.indexByte s.data.toList c)):=
  AC.same (λxs w=>enters_go Tryz.func344 (by kernel_rfl) rfl xs w) λw vs _ hr=>by
    obtain ⟨u,v,rfl,h1,h2⟩:=rel2 hr
    cases h1
    cases h2
    exact ⟨_,.bool _,rfl,Any.strings_Contains_one Tryz.containsOne s c w⟩
def fieldsOf (s:ByteArray):List ByteArray:=(Lib.fields s.data.toList).map λl=>(⟨l.toArray⟩:ByteArray)
theorem fields_ (s:ByteArray) (hs:s.size<4294967281) (hascii:∀(j:Nat) b,s.data.toList[j]? =some b->b.toNat<128) (hn:(fieldsOf s).length<=maxLen) (hl:∀x∈fieldsOf s,x.size<=maxLen):
    AC Tryz.prog 336 [.str s] (λl:List ByteArray=> .sl true 1 (l.map strR)) (fieldsOf s):=
  ⟨λxs w => enters_go Tryz.func336 (by kernel_rfl) rfl xs w,λw vs hg hr=>by
    obtain ⟨v,rfl,h1⟩:=rel1 hr
    cases h1
    refine (Any.strings_Fields_laid Tryz.fields s w hs hascii hg.tabs).mono ?_
    rintro e w' ⟨rfl,rfl⟩
    refine ⟨_,λb=>b=w.heap.size,rfl,Keeps.alloc _ _ _,?_,λb hb=>by subst hb;simp⟩
    have hlen:((fieldsOf s).map strR).length=(Lib.fields s.data.toList).length:=by simp [fieldsOf]
    have key:=XRel.sl (w:=w.alloc (.cells ((Lib.fields s.data.toList).map λl=>Value.string ⟨l.toArray⟩).toArray (Tryz.fields_ren.t 9))) (A:=λ_=>False) 1 ((fieldsOf s).map strR) (Lib.fields s.data.toList).length w.heap.size _ _ (λb=>b=w.heap.size) (λ_ _ _=>False) (heap_alloc_new w _)
      (by rw [List.length_map];exact hn) (by rw [hlen];exact Nat.le_refl _) (by simp) (λe he=>by obtain ⟨x,_,rfl⟩:=List.mem_map.1 he;rfl) (λi j hi hj=>?_) (λi j e a he ha=>?_) (λx=>⟨.inl,λh=>h.elim id λ⟨_,_,_,_,h⟩=>h.elim⟩) (λ_ _ _ _ h=>h) (λ_ _ _ _ _ _ _ _ _ h=>h.elim)
    · rw [hlen] at key;exact key
    · rw [hlen] at hi
      have:j=0:=by omega
      subst this
      simp [Array.getD,hi,Value.oneCell']
    · rw [List.getElem?_map] at he
      cases hx:(fieldsOf s)[i]? with
      |none=>rw [hx] at he;cases he
      | some x =>
        rw [hx] at he;cases he
        have hx2:=hl x (List.mem_of_getElem? hx)
        cases j with
        | zero =>
          cases ha
          unfold fieldsOf at hx
          rw [List.getElem?_map] at hx
          cases hy:(Lib.fields s.data.toList)[i]? with
          |none=>rw [hy] at hx;cases hx
          | some y=>
            rw [hy] at hx;cases hx
            have e:((Lib.fields s.data.toList).map λl=>Value.string ⟨l.toArray⟩).toArray.getD (i*1+0) undef=Value.string ⟨y.toArray⟩:=by
              rw [Array.getD_eq_getD_getElem?,List.getElem?_toArray,List.getElem?_map,Nat.mul_one,Nat.add_zero,hy];rfl
            rw [e]
            exact .pure _ _ _ (.str _ hx2) rfl (λ_ h=>h)
        |succ j=>simp [strR] at ha⟩
theorem isHeight_ (n:Int):AC Tryz.prog 245 [.int .i64 n] AV.bool (bP (0<=n/\n<=3000)):=by
  refine ac Tryz.func245 (.bool _) λE K hE hK=>?_
  conv=>cbv
  repeat' first
    |((first
   |refine q0 hE ?_
   |refine callP hE (within_ _ _ _) (λ_=>?_) (λ_=>?_)
   |refine B0 hE ?_|refine B1 hE ?_ ?_|refine B2 hE ?_)<;>intros<;>(try conv=>cbv))
  all_goals (try clear hN)
  all_goals first
    |(omega)
    |(refine finB hK (bP_true.2 ?_);first|omega|grind)
    |(refine finB hK (bP_false.2 ?_);first|omega|(intro h;grind))
    |(refine ⟨by omega,Up.succ (by assumption) ?_ (by assumption)⟩;grind)
    |(refine hK _ ?_;simp_all [atup];done)
    |(grind)
theorem isVisibility_ (n:Int):AC Tryz.prog 246 [.int .i64 n] AV.bool (bP (1<=n/\n<=100000)):=by
  refine ac Tryz.func246 (.bool _) λE K hE hK=>?_
  conv=>cbv
  repeat' first
    |((first
   |refine q0 hE ?_
   |refine callP hE (within_ _ _ _) (λ_=>?_) (λ_=>?_)
   |refine B0 hE ?_|refine B1 hE ?_ ?_|refine B2 hE ?_)<;>intros<;>(try conv=>cbv))
  all_goals (try clear hN)
  all_goals first
    |(omega)
    |(refine finB hK (bP_true.2 ?_);first|omega|grind)
    |(refine finB hK (bP_false.2 ?_);first|omega|(intro h;grind))
    |(refine ⟨by omega,Up.succ (by assumption) ?_ (by assumption)⟩;grind)
    |(refine hK _ ?_;simp_all [atup];done)
    |(grind)
def ObvOk (x y e v:Int):Prop:=PtOk x y/\(0<=e/\e<=3000)/\1<=v/\v<=100000
theorem validObserver_ (x y e v:Int):AC Tryz.prog 189 [.agg [.int .i64 x,.int .i64 y,.int .i64 e,.int .i64 v]] AV.bool (bP (ObvOk x y e v)):=by
  refine ac Tryz.func189 (.bool _) λE K hE hK=>?_
  conv=>cbv
  repeat' first
    |((first
   |refine q0 hE ?_
   |refine callP hE (validPoint_ _ _) (λ_=>?_) (λ_=>?_)
   |refine callP hE (isHeight_ _) (λ_=>?_) (λ_=>?_)
   |refine callP hE (isVisibility_ _) (λ_=>?_) (λ_=>?_)
   |refine B0 hE ?_|refine B1 hE ?_ ?_|refine B2 hE ?_)<;>intros<;>(try conv=>cbv))
  all_goals (try clear hN)
  all_goals first
    |(omega)
    |(refine finB hK (bP_true.2 ?_);first|omega|grind [ObvOk])
    |(refine finB hK (bP_false.2 ?_);first|omega|(intro h;grind [ObvOk]))
    |(refine ⟨by omega,Up.succ (by assumption) ?_ (by assumption)⟩;grind [ObvOk])
    |(refine hK _ ?_;simp_all [atup,ObvOk];done)
    |(grind [ObvOk])
theorem l16One_ (x y e v:Int):AC Tryz.prog 156 [.pp [.int .i64 x,.int .i64 y,.int .i64 e,.int .i64 v]] AV.bool (bP (ObvOk x y e v)):=by
  refine ac Tryz.func156 (.bool _) λE K hE hK=>?_
  conv=>cbv
  repeat' first
    |((first
   |refine q0 hE ?_
   |refine callP hE (l02Ok_ _ _) (λ_=>?_) (λ_=>?_)
   |refine callP hE (in_ _ _ _) (λ_=>?_) (λ_=>?_)
   |refine B0 hE ?_|refine B1 hE ?_ ?_|refine B2 hE ?_)<;>intros<;>(try conv=>cbv))
  all_goals (try clear hN)
  all_goals first
    |(omega)
    |(refine finB hK (bP_true.2 ?_);first|omega|grind [ObvOk])
    |(refine finB hK (bP_false.2 ?_);first|omega|(intro h;grind [ObvOk]))
    |(refine ⟨by omega,Up.succ (by assumption) ?_ (by assumption)⟩;grind [ObvOk])
    |(refine hK _ ?_;simp_all [atup,ObvOk];done)
    |(grind [ObvOk])
set_option maxHeartbeats 4000000
theorem Aid.mark_set {R:Aid->List AV} {m l:List Aid} {es es9:List (List AV)} {row:List AV} {i n:Int} (hes9:es9=es.set i.toNat row) (h3:es=m.map R) (h4:m.length=l.length) (h5:∀j:Nat,i<=j->m[j]? =l[j]?) (hn:n=i+1) (h0:0<=i) (hr:∃v,R v=row):∃m:List Aid,es9=m.map R/\m.length=l.length/\∀j:Nat,n<=j->m[j]? =l[j]?:=by
  obtain ⟨v,rfl⟩:=hr
  exact ⟨m.set i.toNat v,by rw [hes9,List.map_set,←h3],by rw [List.length_set];omega,λj hj=>by rw [List.getElem?_set_ne (by omega)];exact h5 j (by omega)⟩
def Aid.mk1 (v:Aid):Nat:=14+v.lGroup.length+3*v.sectors.length
theorem Aid.mk1_bd {l:List Aid} {B:Nat} (hb:∀v∈l,Aid.mk1 v<=B):∀n:Nat,n<=l.length->sumTo Aid.mk1 l n<=B*n
  |0,_=>by rw [sumTo_zero (by omega)];omega
  | n+1,h=>by
    have ih:=Aid.mk1_bd hb n (by omega)
    have hv:l[(n:Int).toNat]? =some l[n]:=by simp
    rw [show ((n+1:Nat):Int)=(n:Int)+1 by omega,sumTo_succ Aid.mk1 (by omega) hv,Nat.mul_add]
    have:=hb l[n] (List.getElem_mem _)
    omega
theorem markAidS_ {rs:List (List AV)} {l:List Aid} (k:Int) (hl:rs=l.map (Aid.cs true)) (hk0:0<=k/\k<=1000000000) (hb:l.length<=10000000) (hb1:∀v∈l,Aid.mk1 v<=10000000):ACM Tryz.prog 43 [.sl true 16 rs,.int .i64 k] (λr ys=>∃(n:Int) (rs':List (List AV)),n=k+(sumTo Aid.mk1 l l.length:Nat)/\(∃m:List Aid,rs'=m.map (Aid.cs true)/\m.length=l.length)/\r= .int .i64 n/\ys=[.sl true 16 rs',.any]):=by
  refine acm 1 Tryz.func43 (λr ys ⟨n,rs',_,⟨m,h3,_⟩,h1,h2⟩=>⟨by rw [h1];exact .int _ _,by rw [h2,h3];simp;exact ⟨.rows .oAid,.any⟩⟩) λE K hE hK=>?_
  conv=>cbv
  refine loop3 hE [] [5,1,0] (λ(i k':Int) (es:List (List AV))=>([(5,.int .i64 i),(1,.int .i64 k'),(0,.ob 0)],[.row 16 es],l.length - i,(0<=i/\i<=l.length)/\k'=k+(sumTo Aid.mk1 l i:Nat)/\∃m:List Aid,es=m.map (Aid.cs true)/\m.length=l.length/\∀j:Nat,i<=j->m[j]? =l[j]?)) [0] ((0,k,rs)) rfl rfl (by dsimp only;exact ⟨by omega,by rw [sumTo_zero (by omega)];omega,l,hl,rfl,λ_ _=>rfl⟩) λi k' es hi Kn hN=>?_
  (try dsimp only at hi)
  conv=>cbv
  obtain ⟨⟨h0,h1⟩,h2,m,h3,h4,h5⟩:=hi
  have hbd:=Aid.mk1_bd hb1 i.toNat (by omega)
  rw [show ((i.toNat:Nat):Int)=i by omega] at hbd
  have hbd2:10000000*i.toNat<=100000000000000:=by omega
  refine lenL hE h3 λn hn hb2=>?_
  conv=>cbv
  refine ltI hE (λhlt=>?_) (λhge=>?_)<;>conv=>cbv
  · obtain ⟨v,hv⟩:∃v,l[i.toNat]? =some v:=⟨_,List.getElem?_eq_getElem (by omega)⟩
    have hm:=(h5 i.toNat (by omega)).trans hv
    have hss:=sumTo_succ Aid.mk1 h0 hv
    have hv1:=hb1 v (List.mem_of_getElem? hv)
    obtain ⟨number,name,atX,atY,height,mKind,mColors,mShape,mTop,lKind,lGroup,lLetter,lColors,lPeriod,sectors,intensity⟩:=v
    simp only [Aid.mk1] at hv1
    obtain ⟨r_lGroup,h_lGroup⟩:∃r,r=lGroup.map intR:=⟨_,rfl⟩;obtain ⟨r_sectors,h_sectors⟩:∃r,r=sectors.map Scr.cs:=⟨_,rfl⟩
    have hrow:es[i.toNat]? =some [.int .i64 number,.str name,.int .i64 atX,.int .i64 atY,.int .i64 height,.int .i64 mKind,.str mColors,.str mShape,.str mTop,.int .i64 lKind,.sl true 1 r_lGroup,.str lLetter,.str lColors,.int .i64 lPeriod,.sl true 3 r_sectors,.int .i64 intensity]:=by rw [h3,List.getElem?_map,hm];subst h_lGroup h_sectors;rfl
    have hel:es.length=l.length:=by rw [h3,List.length_map,h4]
    repeat' first
      |(refine updRS hE hes9 (by omega) (by exact Nat.le_of_ble_eq_true rfl) (λes8 hes8 hlen8=>?_);(conv at hes8=>rhs;arg 3;cbv);(try conv=>cbv);clear hes9 hlen9;clear es9;revert es8;intro es9 hes9 hlen9)
      |(refine hN (_,_,_) _ [0] (by decide) rfl ⟨?_,?_,?_⟩ ?_<;>(try dsimp only))
      |((first
     |refine idxRS hE hes9 (by omega) ?_
     |refine idxI hE h0 hrow ?_
     |(refine callMI hE (markI_ _ (by assumption) (by omega) (by omega)) ?_;rintro _ _ ⟨n9,rs9,hn9,hr9,rfl,rfl⟩;(obtain ⟨g9,hg9⟩:∃g9:List Int,rs9=g9.map intR:=⟨_,hr9⟩);clear hr9)
     |(refine callMI hE (markSectorS_ _ (by assumption) (by omega) (by omega)) ?_;rintro _ _ ⟨n9,rs9,hn9,hr9,rfl,rfl⟩;(obtain ⟨g9,hg9⟩:∃g9:List Scr,rs9=g9.map Scr.cs:=⟨_,hr9⟩);clear hr9)
     |(refine updR0 hE h0 hrow (by exact Nat.le_of_ble_eq_true rfl) (λes9 hes9 hlen9=>?_);(conv at hes9=>rhs;arg 3;cbv))
     |refine q0 hE ?_
     |refine callI hE (markText_ _ (by omega)) (λ_ _=>?_)
     |refine sameI hE (by simp_all) ?_
     |refine B0 hE ?_|refine B1 hE ?_ ?_|refine B2 hE ?_)<;>intros<;>(try conv=>cbv))
    all_goals (try clear hN)
    all_goals first
      |omega
      |(rename_i hi1;rw [hi1,hss];simp only [Aid.mk1];omega)
      |exact Aid.mark_set hes9 h3 h4 h5 (by assumption) h0 (by clear hK hrow;subst_vars;exact ⟨⟨_,_,_,_,_,_,_,_,_,_,_,_,_,_,_,_⟩,rfl⟩)
  · exact hK _ _ ⟨k',es,by rw [h2,show i=l.length by omega],⟨m,h3,h4⟩,rfl,rfl⟩
end Go.Proofs.YtpfddoikhmbebaaGreatDoor
