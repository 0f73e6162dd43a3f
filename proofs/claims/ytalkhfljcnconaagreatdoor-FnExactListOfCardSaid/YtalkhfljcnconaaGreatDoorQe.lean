/- Contracts: the marks of lists of aids, and that they are held; Contracts: the marks of lists of aids are held. -/
import Derived.Test.YtalkhfljcnconaaGreatDoorQi
namespace Go.Proofs.YtalkhfljcnconaaGreatDoor
open Go Go.RowKit Classical
set_option maxRecDepth 100000
set_option maxHeartbeats 2000000
set_option linter.unusedVariables false
set_option linter.unusedSimpArgs false
set_option maxHeartbeats 4000000
def Aid.mkv (v:Aid) (k:Int):Aid:=⟨k,mText (k+1),k+2,k+3,k+4,k+5,mText (k+6),mText (k+7),mText (k+8),k+9,markL v.lGroup.length (k+10),mText (k+10+v.lGroup.length),mText (k+11+v.lGroup.length),k+12+v.lGroup.length,Scr.mks v.sectors.length (k+13+v.lGroup.length),k+13+v.lGroup.length+3*v.sectors.length⟩
def mkA:List Aid->Int->List Aid
  |[],_=>[]
  |v::l,k=>v.mkv k::mkA l (k+v.mk1)
theorem mkA_len:∀(l:List Aid) (k:Int),(mkA l k).length=l.length
  |[],_=>rfl
  |v::l,k=>by rw [mkA,List.length_cons,List.length_cons,mkA_len l]
theorem mkA_get:∀(l:List Aid) (k:Int) (i:Nat),(mkA l k)[i]?=(l[i]?).map λv=>v.mkv (k+(sumTo Aid.mk1 l i:Nat))
  |[],_,i=>by simp [mkA]
  |v::l,k,0=>by simp [mkA,sumTo]
  | v :: l,k,i+1=>by
    rw [mkA,List.getElem?_cons_succ,mkA_get l _ i,List.getElem?_cons_succ]
    have e:k+(v.mk1:Int)+(sumTo Aid.mk1 l i:Nat)=k+(sumTo Aid.mk1 (v::l) (i+1:Nat):Nat):=by
      have:sumTo Aid.mk1 (v::l) ((i+1:Nat):Int)=v.mk1+sumTo Aid.mk1 l (i:Int):=by
        unfold sumTo
        rw [Int.toNat_natCast,Int.toNat_natCast,List.take_succ_cons]
        simp
      rw [this];omega
    rw [e]
theorem mkA_step {R:Aid->List AV} {m l:List Aid} {es es9:List (List AV)} {row:List AV} {k k' i n:Int} {v:Aid} (hes9:es9=es.set i.toNat row) (h3:es=m.map R) (h4:m.length=l.length) (h5:∀j:Nat,i<=j->m[j]?=l[j]?) (h6:∀j:Nat,(j:Int)<i->m[j]?=(mkA l k)[j]?) (hn:n=i+1) (h0:0<=i) (hv:l[i.toNat]?=some v) (h2:k'=k+(sumTo Aid.mk1 l i:Nat)) (hr:R (v.mkv k')=row):
    ∃m:List Aid,es9=m.map R/\m.length=l.length/\(∀j:Nat,n<=j->m[j]?=l[j]?)/\∀j:Nat,(j:Int)<n->m[j]?=(mkA l k)[j]?:=by
  subst hr
  refine ⟨m.set i.toNat (v.mkv k'),by rw [hes9,List.map_set,←h3],by rw [List.length_set];omega,λj hj=>by rw [List.getElem?_set_ne (by omega)];exact h5 j (by omega),λj hj=>?_⟩
  by_cases e:j=i.toNat
  · subst e
    have hl:=(List.getElem?_eq_some_iff.1 hv).1
    rw [List.getElem?_set_self (by omega),mkA_get,hv,h2,show ((i.toNat:Nat):Int)=i by omega];rfl
  · rw [List.getElem?_set_ne (by omega)];exact h6 j (by omega)
theorem markAidX_ {rs:List (List AV)} {l:List Aid} (k:Int) (hl:rs=l.map (Aid.cs true)) (hk0:0<=k/\k<=1000000000) (hb:l.length<=10000000) (hb1:∀v∈l,Aid.mk1 v<=10000000):ACM Tryz.prog 12 [.sl true 16 rs,.int .i64 k] (λr ys=>∃(n:Int) (rs':List (List AV)),n=k+(sumTo Aid.mk1 l l.length:Nat)/\rs'=(mkA l k).map (Aid.cs true)/\r= .int .i64 n/\ys=[.sl true 16 rs',.any]):=by
  refine acm 1 Tryz.func12 (by kernel_rfl) (λr ys ⟨n,rs',_,h3,h1,h2⟩=>⟨by rw [h1];exact .int _ _,by rw [h2,h3];simp;exact ⟨.rows .oAid,.any⟩⟩) λE K hE hK=>?_
  conv=>cbv
  refine loopC hE (ι:=Int×Int×(List (List AV))) [] [5,1,0] (λq=>(λ(i:Int) (k':Int) (es:List (List AV))=>[(5,.int .i64 i),(1,.int .i64 k'),(0,.ob 0)]) q.1 q.2.1 q.2.2) (λq=>(λ(i:Int) (k':Int) (es:List (List AV))=>[.row 16 es]) q.1 q.2.1 q.2.2) (λq=>(λ(i:Int) (k':Int) (es:List (List AV))=>(l.length - i).toNat) q.1 q.2.1 q.2.2) (λq=>(λ(i:Int) (k':Int) (es:List (List AV))=>(0<=i/\i<=l.length)/\k'=k+(sumTo Aid.mk1 l i:Nat)/\∃m:List Aid,es=m.map (Aid.cs true)/\m.length=l.length/\(∀j:Nat,i<=j->m[j]?=l[j]?)/\∀j:Nat,(j:Int)<i->m[j]?=(mkA l k)[j]?) q.1 q.2.1 q.2.2) [0] (by decide) ((0,k,rs)) (by conv=>lhs;cbv) (by conv=>lhs;cbv) rfl rfl (by dsimp only;exact ⟨by omega,by rw [sumTo_zero (by omega)];omega,l,hl,rfl,λ_ _=>rfl,λj hj=>by omega⟩) λq hi Kn hN=>?_
  obtain ⟨i,k',es⟩:=q
  (try dsimp only at hi)
  conv=>cbv
  obtain ⟨⟨h0,h1⟩,h2,m,h3,h4,h5,h6⟩:=hi
  have hbd:=Aid.mk1_bd hb1 i.toNat (by omega)
  rw [show ((i.toNat:Nat):Int)=i by omega] at hbd
  have hbd2:10000000*i.toNat<=100000000000000:=by omega
  refine lenL hE h3 λn hn hb2=>?_
  conv=>cbv
  refine ltI hE (λhlt=>?_) (λhge=>?_)<;>conv=>cbv
  · obtain ⟨v,hv⟩:∃v,l[i.toNat]?=some v:=⟨_,List.getElem?_eq_getElem (by omega)⟩
    have hm:=(h5 i.toNat (by omega)).trans hv
    have hss:=sumTo_succ Aid.mk1 h0 hv
    have hv1:=hb1 v (List.mem_of_getElem? hv)
    have hstep:=λ(es9:List (List AV)) (row:List AV) (n:Int) (g1:es9=es.set i.toNat row) (g2:n=i+1)=>mkA_step (R:=Aid.cs true) (k:=k) g1 h3 h4 h5 h6 g2 h0 hv h2
    obtain ⟨number,name,atX,atY,height,mKind,mColors,mShape,mTop,lKind,lGroup,lLetter,lColors,lPeriod,sectors,intensity⟩:=v
    simp only [Aid.mk1] at hv1
    obtain ⟨r_lGroup,h_lGroup⟩:∃r,r=lGroup.map intR:=⟨_,rfl⟩
    obtain ⟨r_sectors,h_sectors⟩:∃r,r=sectors.map Scr.cs:=⟨_,rfl⟩
    have hrow:es[i.toNat]?=some [.int .i64 number,.str name,.int .i64 atX,.int .i64 atY,.int .i64 height,.int .i64 mKind,.str mColors,.str mShape,.str mTop,.int .i64 lKind,.sl true 1 r_lGroup,.str lLetter,.str lColors,.int .i64 lPeriod,.sl true 3 r_sectors,.int .i64 intensity]:=by rw [h3,List.getElem?_map,hm];subst h_lGroup h_sectors;rfl
    have hel:es.length=l.length:=by rw [h3,List.length_map,h4]
    repeat' first
      |(refine idxRS hE hes9 (by omega) ?_;(try conv=>cbv))
      |(refine idxI hE h0 hrow ?_;(try conv=>cbv))
      |(refine callMI hE (markI_ _ (by assumption) (by omega) (by omega)) ?_;rintro _ _ ⟨n8,rs8,hn8,hr8,rfl,rfl⟩;(try conv=>cbv))
      |(refine callMI hE (markSectorS_ _ (by assumption) (by omega) (by omega)) ?_;rintro _ _ ⟨n9,rs9,hn9,hr9,rfl,rfl⟩;(try conv=>cbv))
      |(refine updRS hE hes9 (by omega) (by exact Nat.le_of_ble_eq_true rfl) (λes8 hes8 hlen8=>?_);(conv at hes8=>rhs;arg 3;cbv);(try conv=>cbv);clear hes9 hlen9;clear es9;revert es8;intro es9 hes9 hlen9)
      |(refine updR0 hE h0 hrow (by exact Nat.le_of_ble_eq_true rfl) (λes9 hes9 hlen9=>?_);(conv at hes9=>rhs;arg 3;cbv);(try conv=>cbv))
      |(refine hN (_,_,_) _ [0] (by decide) rfl ⟨?_,?_,?_⟩ ?_<;>(try dsimp only))
      |((first
     |refine q0 hE ?_
     |refine callI hE (markText_ _ (by omega)) (λ_ _=>?_)
     |refine sameI hE (by simp_all) ?_
     |refine B0 hE ?_|refine B1 hE (λ_=>?_) λ_=>?_|refine B3 hE λ_ _ _=>?_|refine B2 hE λ_ _=>?_|refine B4 hE λ_ _ _ _=>?_)<;>(try conv=>cbv))
    all_goals (try clear hN)
    all_goals first
      |omega
      |(rename_i hi1;rw [hi1,hss];simp only [Aid.mk1];omega)
      |(refine hstep _ _ _ hes9 (by assumption) ?_;clear hstep hK hrow hm h3 h5 h6 hes9;rw [hr8,hr9];simp only [Aid.cs,Aid.mkv,List.cons.injEq,AV.int.injEq,AV.str.injEq,AV.sl.injEq,true_and,and_true];refine ⟨?_,?_,?_,?_,?_,?_,?_,?_,?_,?_,?_,?_,?_,?_,?_⟩<;>first|omega|(symm;apply Eq.trans;assumption;exact congrArg mText (by omega))|exact congrArg (λz=>List.map intR (markL _ z)) (by omega)|exact congrArg (λz=>List.map Scr.cs (Scr.mks _ z)) (by omega)|trace_state)
      |trace_state
  · refine hK _ _ ⟨k',es,by rw [h2,show i=l.length by omega],?_,rfl,rfl⟩
    rw [h3]
    congr 1
    refine List.ext_getElem? λj=>?_
    by_cases hj:(j:Int)<i
    · exact h6 j hj
    · rw [List.getElem?_eq_none (by omega),List.getElem?_eq_none (by rw [mkA_len];omega)]
end Go.Proofs.YtalkhfljcnconaaGreatDoor
namespace Go.Proofs.YtalkhfljcnconaaGreatDoor
open Go Go.RowKit Classical
set_option maxRecDepth 100000
set_option maxHeartbeats 2000000
set_option linter.unusedVariables false
set_option linter.unusedSimpArgs false
set_option maxHeartbeats 4000000
theorem heldAidS_ {rs:List (List AV)} {t b:Bool} {l:List Aid} (k:Int) (hl:rs=(mkA l k).map (Aid.cs b)) (hk0:0<=k/\k<=1000000000) (hb:l.length<=10000000) (hb1:∀v∈l,Aid.mk1 v<=10000000):AC Tryz.prog 13 [.sl t 16 rs,.int .i64 k] (AV.int .i64) (k+(sumTo Aid.mk1 l l.length:Nat)):=by
  refine ac Tryz.func13 (by kernel_rfl) (.int _ _) λE K hE hK=>?_
  conv=>cbv
  have hlA:=mkA_len l k
  refine loopC hE (ι:=Int×Int) [0] [5,1] (λq=>(λ(i:Int) (k':Int)=>[(5,.int .i64 i),(1,.int .i64 k')]) q.1 q.2) (λq=>(λ(i:Int) (k':Int)=>[]) q.1 q.2) (λq=>(λ(i:Int) (k':Int)=>(l.length - i).toNat) q.1 q.2) (λq=>(λ(i:Int) (k':Int)=>(0<=i/\i<=l.length)/\k'=k+(sumTo Aid.mk1 l i:Nat)) q.1 q.2) [] (by decide) ((0,k)) (by conv=>lhs;cbv) (by conv=>lhs;cbv) rfl rfl (by dsimp only;exact ⟨by omega,by rw [sumTo_zero (by omega)];omega⟩) λq hi Kn hN=>?_
  obtain ⟨i,k'⟩:=q
  (try dsimp only at hi)
  conv=>cbv
  obtain ⟨⟨h0,h1⟩,h2⟩:=hi
  have hbd:=Aid.mk1_bd hb1 i.toNat (by omega)
  rw [show ((i.toNat:Nat):Int)=i by omega] at hbd
  have hbd2:10000000*i.toNat<=100000000000000:=by omega
  refine lenL hE hl λn hn hb2=>?_
  conv=>cbv
  refine ltI hE (λhlt=>?_) (λhge=>?_)<;>conv=>cbv
  · obtain ⟨v,hv⟩:∃v,l[i.toNat]?=some v:=⟨_,List.getElem?_eq_getElem (by omega)⟩
    have hss:=sumTo_succ Aid.mk1 h0 hv
    have hv1:=hb1 v (List.mem_of_getElem? hv)
    simp only [Aid.mk1] at hv1
    have hA:=mkA_get l k i.toNat
    rw [hv,show ((i.toNat:Nat):Int)=i by omega,←h2] at hA
    simp only [Option.map_some] at hA
    obtain ⟨gl,hgl⟩:∃gl,gl=v.lGroup.length:=⟨_,rfl⟩
    obtain ⟨sl,hsl⟩:∃sl,sl=v.sectors.length:=⟨_,rfl⟩
    have hmk:Aid.mk1 v=14+gl+3*sl:=by rw [hgl,hsl];rfl
    refine idxAid hE hl (by omega) λnumber name atX atY height mKind mColors mShape mTop lKind lGroup lLetter lColors lPeriod sectors intensity rg rx hw hg hx=>?_
    have hq:=Option.some.inj (hw.symm.trans hA)
    simp only [Aid.mkv,Aid.mk.injEq] at hq
    obtain ⟨q1,q2,q3,q4,q5,q6,q7,q8,q9,q10,q11,q12,q13,q14,q15,q16⟩:=hq
    rw [←hgl] at q11 q12 q13 q14 q15 q16
    rw [←hsl] at q15 q16
    have hg2:rg=(markL gl (k'+10)).map intR:=by rw [hg,q11]
    have hx2:rx=(Scr.mks sl (k'+13+gl)).map Scr.cs:=by rw [hx,q15]
    have hgk:∀y:Int,y=k'+10->rg=(markL gl y).map intR:=λy e=>by rw [e];exact hg2
    have hxk:∀y:Int,y=k'+13+gl->rx=(Scr.mks sl y).map Scr.cs:=λy e=>by rw [e];exact hx2
    clear q11 q15 hA hg2 hx2
    conv=>cbv
    repeat' first
      |(refine idxAidV hE hl (by omega) hw hg hx ?_;(try conv=>cbv))
      |(refine seqT hE (by apply Eq.trans;assumption;symm;apply Eq.trans;assumption;exact congrArg mText (by omega)) ?_;(try conv=>cbv))
      |(refine callI hE (heldInt64S_ (n:=gl) _ (hgk _ (by omega)) (by omega) (by omega)) (λy hy=>?_);(try conv=>cbv))
      |(refine callI hE (heldSectorS_ (n:=sl) _ (hxk _ (by omega)) (by omega) (by omega)) (λy hy=>?_);(try conv=>cbv))
      |(refine hN (_,_) _ [] (by decide) rfl ⟨?_,?_⟩ ?_<;>(try dsimp only))
      |((first
     |refine q0 hE ?_
     |refine callI hE (markText_ _ (by omega)) (λ_ _=>?_)
     |refine eqT hE (by omega) ?_
     |refine B0 hE ?_|refine B1 hE (λ_=>?_) λ_=>?_|refine B3 hE λ_ _ _=>?_|refine B2 hE λ_ _=>?_|refine B4 hE λ_ _ _ _=>?_)<;>(try conv=>cbv))
    all_goals (try clear hN)
    all_goals first
      |omega
      |(rename_i hi1;rw [hi1,hss,hmk];omega)
      |trace_state
  · exact hK _ (by rw [h2,show i=l.length by omega];rfl)
end Go.Proofs.YtalkhfljcnconaaGreatDoor
