/- Contracts: findings; marks in a whole authority; The form of findings as results. -/
import Derived.Test.YtpfddoikhmbebaaGreatDoorFB
import Derived.Test.YtpfddoikhmbebaaGreatDoorFA
import Derived.Test.YtpfddoikhmbebaaGreatDoorQi
namespace Go.Proofs.YtpfddoikhmbebaaGreatDoor
open Go Go.RowKit Classical
set_option maxRecDepth 100000
set_option maxHeartbeats 2000000
set_option linter.unusedVariables false
set_option linter.unusedSimpArgs false
structure Fdg where
  kind:Int
  who:ByteArray
  what:ByteArray
def Fdg.cs (v:Fdg):List AV:=[.int .i64 v.kind,.str v.who,.str v.what]
theorem NoB.oFdg (v:Fdg):NoB (.agg v.cs):=(.aggC (.int _ _) (.aggC (.str _) (.aggC (.str _) .agg0)))
def Fdg.sz (v:Fdg):Nat:=v.who.size+v.what.size
theorem eqFinding_ (kind:Int) (who:ByteArray) (what:ByteArray) (kind':Int) (who':ByteArray) (what':ByteArray):AC Tryz.prog 33 [.agg [.int .i64 kind,.str who,.str what],.agg [.int .i64 kind',.str who',.str what']] AV.bool (bP ((Fdg.mk kind who what)=(Fdg.mk kind' who' what'))):=by
  refine ac Tryz.func33 (.bool _) λE K hE hK=>?_
  conv=>cbv
  repeat' first
    |((first
   |refine q0 hE ?_
   |refine B0 hE ?_|refine B1 hE ?_ ?_|refine B2 hE ?_)<;>intros<;>(try conv=>cbv))
  all_goals first|(refine finB hK (bP_true.2 ?_);simp only [Fdg.mk.injEq,Pnt.mk.injEq] at *;simp_all;done)|(refine finB hK (bP_false.2 ?_);simp only [Fdg.mk.injEq,Pnt.mk.injEq] at *;simp_all;done)
theorem eqFindingS_ {rs rs':List (List AV)} {t t':Bool} {l m:List Fdg} (hl:rs=l.map Fdg.cs) (hm:rs'=m.map Fdg.cs):AC Tryz.prog 8 [.sl t 3 rs,.sl t' 3 rs'] AV.bool (bP (l=m)):=by
  refine ac Tryz.func8 (.bool _) λE K hE hK=>?_
  conv=>cbv
  refine lenL hE hl λn hn hb=>?_
  conv=>cbv
  refine lenL hE hm λn' hn' hb'=>?_
  conv=>cbv
  refine eqI hE (λhe=>?_) (λhe=>?_)<;>conv=>cbv
  · refine loop1 hE [0,1] [5] (λ(i:Int)=>([(5,.int .i64 i)],[],l.length - i,0<=i/\Up (λj=>l[j]? =m[j]?) i)) [] (0) rfl rfl (by dsimp only;exact ⟨by omega,.zero (by omega)⟩) λi hi Kn hN=>?_
    (try dsimp only at hi)
    conv=>cbv
    obtain ⟨h0,hinv⟩:=hi
    repeat' first
      |(refine hN _ _ [] (by decide) rfl ⟨?_,?_⟩ ?_<;>(try dsimp only))
      |((first
     |refine q0 hE ?_
     |refine callP hE (eqFinding_ _ _ _ _ _ _) (λ_=>?_) (λ_=>?_)
     |(refine idxL (R:=Fdg.cs) hE (by assumption) (by first|omega|(simp only [List.length_set,mix_len];omega)) ?_;rintro ⟨⟩ _)
     |refine B0 hE ?_|refine B1 hE ?_ ?_|refine B2 hE ?_)<;>intros<;>(try conv=>cbv))
    · omega
    · refine hinv.succ ?_ (by assumption);clear hN;simp_all
    · omega
    · refine finB hK (bP_false.2 λh=>?_);clear hN;simp_all
    · exact finB hK (bP_true.2 (list_eq_of (by omega) hinv (by omega)))
  · refine finB hK (bP_false.2 λh=>?_);subst h;omega
def Fdg.mk' (k:Int):Fdg:=⟨k+0,mText (k+1),mText (k+2)⟩
def Fdg.mks (n:Nat) (k:Int):List Fdg:=(List.range n).map λi:Nat=>Fdg.mk' (k+3*(i:Int))
theorem Fdg.mks_len (n:Nat) (k:Int):(Fdg.mks n k).length=n:=by simp [Fdg.mks]
theorem Fdg.mks_get {n:Nat} {k i:Int} {v:Fdg} (h0:0<=i) (h:(Fdg.mks n k)[i.toNat]? =some v):v=Fdg.mk' (k+3*i):=by
  unfold Fdg.mks at h
  rw [List.getElem?_map] at h
  by_cases hi:i.toNat<n
  · rw [List.getElem?_range hi] at h
    simp only [Option.map_some,Option.some.injEq] at h
    rw [←h,Int.toNat_of_nonneg h0]
  · rw [List.getElem?_eq_none (by simpa using Nat.le_of_not_lt hi)] at h;cases h
theorem markFindingS_ {rs:List (List AV)} {l:List Fdg} (k:Int) (hl:rs=l.map Fdg.cs) (hk0:0<=k/\k<=1000000000000000) (hb:l.length<=100000000000):ACM Tryz.prog 11 [.sl true 3 rs,.int .i64 k] (λr ys=>∃(n:Int) (rs':List (List AV)),n=k+3*l.length/\rs'=(Fdg.mks l.length k).map Fdg.cs/\r= .int .i64 n/\ys=[.sl true 3 rs',.any]):=by
  refine acm 1 Tryz.func11 (λr ys ⟨n,rs',_,h3,h1,h2⟩=>⟨by rw [h1];exact .int _ _,by rw [h2,h3];simp;exact ⟨.rows .oFdg,.any⟩⟩) λE K hE hK=>?_
  conv=>cbv
  refine loop3 hE [] [5,1,0] (λ(i k':Int) (es:List (List AV))=>([(5,.int .i64 i),(1,.int .i64 k'),(0,.ob 0)],[.row 3 es],l.length - i,(0<=i/\i<=l.length)/\k'=k+3*i/\es=(mix (λi:Nat=>Fdg.mk' (k+3*(i:Int))) l i).map Fdg.cs)) [0] ((0,k,rs)) rfl rfl (by dsimp only;exact ⟨by omega,by omega,by rw [mix_zero (by omega)];exact hl⟩) λi k' es hi Kn hN=>?_
  (try dsimp only at hi)
  conv=>cbv
  obtain ⟨⟨h0,h1⟩,h2,h3⟩:=hi
  have hlen:=mix_len (λi:Nat=>Fdg.mk' (k+3*(i:Int))) l i
  obtain ⟨L,hL⟩:∃L,L=mix (λi:Nat=>Fdg.mk' (k+3*(i:Int))) l i:=⟨_,rfl⟩
  rw [←hL] at h3 hlen
  repeat' first
    |(refine hN (_,_,_) _ [0] (by decide) rfl ⟨?_,?_,?_⟩ ?_<;>(try dsimp only))
    |((first
   |refine idxS hE (by assumption) (by omega) ?_
   |refine q0 hE ?_
   |(refine idxL (R:=Fdg.cs) hE (by assumption) (by first|omega|(simp only [List.length_set,mix_len];omega)) ?_;rintro ⟨⟩ _)
   |refine callI hE (markText_ _ (by omega)) (λ_ _=>?_)
   |refine updS hE (v':=(⟨_,_,_⟩:Fdg)) (by assumption) (by omega) (by exact Nat.le_of_ble_eq_true rfl) (by first|rfl|((conv=>lhs;cbv);rfl)) (λ_ _=>?_)
   |refine updL hE (v':=(⟨_,_,_⟩:Fdg)) (by assumption) (by omega) (by assumption) (by exact Nat.le_of_ble_eq_true rfl) (by first|rfl|((conv=>lhs;cbv);rfl)) (λ_ _=>?_)
   |refine B0 hE ?_|refine B1 hE ?_ ?_|refine B2 hE ?_)<;>intros<;>(try conv=>cbv))
  · omega
  · omega
  · clear hN hK
    rename_i hes _ hfin _ hi1
    rw [hes,hL,mix_set h0 (by omega) (v:=_) ?_ hi1]
    clear hL h3 hlen
    subst_vars
    rw [Int.toNat_of_nonneg h0]
    simp only [Fdg.mk',Fdg.mk.injEq,Int.add_zero]
    all_goals (refine ⟨?_,?_,?_⟩<;>first|trivial|omega|rfl|(congr 1;omega))
  · omega
  · have hi:i=l.length:=by omega
    refine hK _ _ ⟨k',es,?_,?_,rfl,rfl⟩
    · rw [h2,hi]
    · rw [h3,hL,mix_all (by omega)];rfl
theorem heldFindingS_ {rs:List (List AV)} {t:Bool} {n:Nat} (k:Int) (hl:rs=(Fdg.mks n k).map Fdg.cs) (hk0:0<=k/\k<=1000000000000000) (hb:n<=100000000000):AC Tryz.prog 12 [.sl t 3 rs,.int .i64 k] (AV.int .i64) (k+3*n):=by
  refine ac Tryz.func12 (.int _ _) λE K hE hK=>?_
  conv=>cbv
  have hlen:=Fdg.mks_len n k
  refine loop2 hE [0] [5,1] (λ(i k':Int)=>([(5,.int .i64 i),(1,.int .i64 k')],[],n - i,(0<=i/\i<=n)/\k'=k+3*i)) [] ((0,k)) rfl rfl (by dsimp only;exact ⟨by omega,by omega⟩) λi k' hi Kn hN=>?_
  (try dsimp only at hi)
  conv=>cbv
  obtain ⟨⟨h0,h1⟩,h2⟩:=hi
  repeat' first
    |(refine hN (_,_) _ [] (by decide) rfl ⟨?_,?_⟩ ?_<;>(try dsimp only))
    |((first
   |refine idxV hE (by assumption) (by omega) (by assumption) ?_
   |(refine idxL hE hl (by omega) (λv hv=>?_);have hv':=Fdg.mks_get h0 hv;obtain ⟨kind,who,what⟩:=v;simp only [Fdg.mk',Fdg.mk.injEq] at hv';obtain ⟨ekind,ewho,ewhat⟩:=hv')
   |refine q0 hE ?_
   |refine callI hE (markText_ _ (by omega)) (λ_ _=>?_)
   |refine seqT hE (by subst_vars;first|rfl|(congr 1;omega)) ?_
   |refine B0 hE ?_|refine B1 hE ?_ ?_|refine B2 hE ?_)<;>intros<;>(try conv=>cbv))
  all_goals first
    |omega
    |exact hK _ (by rw [h2,show i=(n:Int) by omega];rfl)
set_option maxHeartbeats 4000000
theorem Ntc.mark_set {R:Ntc->List AV} {m l:List Ntc} {es es9:List (List AV)} {row:List AV} {i n:Int} (hes9:es9=es.set i.toNat row) (h3:es=m.map R) (h4:m.length=l.length) (h5:∀j:Nat,i<=j->m[j]? =l[j]?) (hn:n=i+1) (h0:0<=i) (hr:∃v,R v=row):∃m:List Ntc,es9=m.map R/\m.length=l.length/\∀j:Nat,n<=j->m[j]? =l[j]?:=by
  obtain ⟨v,rfl⟩:=hr
  exact ⟨m.set i.toNat v,by rw [hes9,List.map_set,←h3],by rw [List.length_set];omega,λj hj=>by rw [List.getElem?_set_ne (by omega)];exact h5 j (by omega)⟩
def Ntc.mk1 (v:Ntc):Nat:=18+v.lGroup.length+3*v.sectors.length
theorem Ntc.mk1_bd {l:List Ntc} {B:Nat} (hb:∀v∈l,Ntc.mk1 v<=B):∀n:Nat,n<=l.length->sumTo Ntc.mk1 l n<=B*n
  |0,_=>by rw [sumTo_zero (by omega)];omega
  | n+1,h=>by
    have ih:=Ntc.mk1_bd hb n (by omega)
    have hv:l[(n:Int).toNat]? =some l[n]:=by simp
    rw [show ((n+1:Nat):Int)=(n:Int)+1 by omega,sumTo_succ Ntc.mk1 (by omega) hv,Nat.mul_add]
    have:=hb l[n] (List.getElem_mem _)
    omega
theorem markNoticeS_ {rs:List (List AV)} {l:List Ntc} (k:Int) (hl:rs=l.map (Ntc.cs true)) (hk0:0<=k/\k<=1000000000) (hb:l.length<=10000000) (hb1:∀v∈l,Ntc.mk1 v<=10000000):ACM Tryz.prog 44 [.sl true 20 rs,.int .i64 k] (λr ys=>∃(n:Int) (rs':List (List AV)),n=k+(sumTo Ntc.mk1 l l.length:Nat)/\(∃m:List Ntc,rs'=m.map (Ntc.cs true)/\m.length=l.length)/\r= .int .i64 n/\ys=[.sl true 20 rs',.any]):=by
  refine acm 1 Tryz.func44 (λr ys ⟨n,rs',_,⟨m,h3,_⟩,h1,h2⟩=>⟨by rw [h1];exact .int _ _,by rw [h2,h3];simp;exact ⟨.rows .oNtc,.any⟩⟩) λE K hE hK=>?_
  conv=>cbv
  refine loop3 hE [] [5,1,0] (λ(i k':Int) (es:List (List AV))=>([(5,.int .i64 i),(1,.int .i64 k'),(0,.ob 0)],[.row 20 es],l.length - i,(0<=i/\i<=l.length)/\k'=k+(sumTo Ntc.mk1 l i:Nat)/\∃m:List Ntc,es=m.map (Ntc.cs true)/\m.length=l.length/\∀j:Nat,i<=j->m[j]? =l[j]?)) [0] ((0,k,rs)) rfl rfl (by dsimp only;exact ⟨by omega,by rw [sumTo_zero (by omega)];omega,l,hl,rfl,λ_ _=>rfl⟩) λi k' es hi Kn hN=>?_
  (try dsimp only at hi)
  conv=>cbv
  obtain ⟨⟨h0,h1⟩,h2,m,h3,h4,h5⟩:=hi
  have hbd:=Ntc.mk1_bd hb1 i.toNat (by omega)
  rw [show ((i.toNat:Nat):Int)=i by omega] at hbd
  have hbd2:10000000*i.toNat<=100000000000000:=by omega
  refine lenL hE h3 λn hn hb2=>?_
  conv=>cbv
  refine ltI hE (λhlt=>?_) (λhge=>?_)<;>conv=>cbv
  · obtain ⟨v,hv⟩:∃v,l[i.toNat]? =some v:=⟨_,List.getElem?_eq_getElem (by omega)⟩
    have hm:=(h5 i.toNat (by omega)).trans hv
    have hss:=sumTo_succ Ntc.mk1 h0 hv
    have hv1:=hb1 v (List.mem_of_getElem? hv)
    obtain ⟨number,day,kind,target,aNumber,aName,atX,atY,aHeight,mKind,mColors,mShape,mTop,lKind,lGroup,lLetter,lColors,lPeriod,sectors,intensity⟩:=v
    simp only [Ntc.mk1] at hv1
    obtain ⟨r_lGroup,h_lGroup⟩:∃r,r=lGroup.map intR:=⟨_,rfl⟩;obtain ⟨r_sectors,h_sectors⟩:∃r,r=sectors.map Scr.cs:=⟨_,rfl⟩
    have hrow:es[i.toNat]? =some [.int .i64 number,.int .i64 day,.int .i64 kind,.int .i64 target,.int .i64 aNumber,.str aName,.int .i64 atX,.int .i64 atY,.int .i64 aHeight,.int .i64 mKind,.str mColors,.str mShape,.str mTop,.int .i64 lKind,.sl true 1 r_lGroup,.str lLetter,.str lColors,.int .i64 lPeriod,.sl true 3 r_sectors,.int .i64 intensity]:=by rw [h3,List.getElem?_map,hm];subst h_lGroup h_sectors;rfl
    have hel:es.length=l.length:=by rw [h3,List.length_map,h4]
    repeat' first
      |(refine updRS hE hes9 (by omega) (by exact Nat.le_of_ble_eq_true rfl) (λes8 hes8 hlen8=>?_);(conv at hes8=>rhs;arg 3;cbv);(try conv=>cbv);clear hes9 hlen9;clear es9;revert es8;intro es9 hes9 hlen9)
      |(refine hN (_,_,_) _ [0] (by decide) rfl ⟨?_,?_,?_⟩ ?_<;>(try dsimp only))
      |((first
     |refine idxRS hE hes9 (by omega) ?_
     |refine idxI hE h0 hrow ?_
     |(refine callMI hE (markI_ _ (by assumption) (by omega) (by omega)) ?_;rintro _ _ ⟨n9,rs9,hn9,hr9,rfl,rfl⟩;(obtain ⟨g9,hg9⟩:∃g9:List Int,rs9=g9.map intR:=⟨_,hr9⟩);clear hr9)
     |(refine callMI hE (markSectorS_ _ (by assumption) (by omega) (by omega)) ?_;rintro _ _ ⟨n9,rs9,hn9,hr9,rfl,rfl⟩;(obtain ⟨g9,hg9⟩:∃g9:List Scr,rs9=g9.map Scr.cs:=⟨_,hr9⟩);clear hr9)
     |(refine updR0 hE h0 hrow (by exact Nat.le_of_ble_eq_true rfl) (λes9 hes9 hlen9=>?_);(conv at hes9=>rhs;arg 3;cbv))
     |refine q0 hE ?_
     |refine callI hE (markText_ _ (by omega)) (λ_ _=>?_)
     |refine sameI hE (by simp_all) ?_
     |refine B0 hE ?_|refine B1 hE ?_ ?_|refine B2 hE ?_)<;>intros<;>(try conv=>cbv))
    all_goals (try clear hN)
    all_goals first
      |omega
      |(rename_i hi1;rw [hi1,hss];simp only [Ntc.mk1];omega)
      |exact Ntc.mark_set hes9 h3 h4 h5 (by assumption) h0 (by clear hK hrow;subst_vars;exact ⟨⟨_,_,_,_,_,_,_,_,_,_,_,_,_,_,_,_,_,_,_,_⟩,rfl⟩)
  · exact hK _ _ ⟨k',es,by rw [h2,show i=l.length by omega],⟨m,h3,h4⟩,rfl,rfl⟩
theorem Fwy.mark_set {R:Fwy->List AV} {m l:List Fwy} {es es9:List (List AV)} {row:List AV} {i n:Int} (hes9:es9=es.set i.toNat row) (h3:es=m.map R) (h4:m.length=l.length) (h5:∀j:Nat,i<=j->m[j]? =l[j]?) (hn:n=i+1) (h0:0<=i) (hr:∃v,R v=row):∃m:List Fwy,es9=m.map R/\m.length=l.length/\∀j:Nat,n<=j->m[j]? =l[j]?:=by
  obtain ⟨v,rfl⟩:=hr
  exact ⟨m.set i.toNat v,by rw [hes9,List.map_set,←h3],by rw [List.length_set];omega,λj hj=>by rw [List.getElem?_set_ne (by omega)];exact h5 j (by omega)⟩
def Fwy.mk1 (v:Fwy):Nat:=4+2*v.line.length
theorem Fwy.mk1_bd {l:List Fwy} {B:Nat} (hb:∀v∈l,Fwy.mk1 v<=B):∀n:Nat,n<=l.length->sumTo Fwy.mk1 l n<=B*n
  |0,_=>by rw [sumTo_zero (by omega)];omega
  | n+1,h=>by
    have ih:=Fwy.mk1_bd hb n (by omega)
    have hv:l[(n:Int).toNat]? =some l[n]:=by simp
    rw [show ((n+1:Nat):Int)=(n:Int)+1 by omega,sumTo_succ Fwy.mk1 (by omega) hv,Nat.mul_add]
    have:=hb l[n] (List.getElem_mem _)
    omega
theorem markFairwayS_ {rs:List (List AV)} {l:List Fwy} (k:Int) (hl:rs=l.map (Fwy.cs true)) (hk0:0<=k/\k<=1000000000) (hb:l.length<=10000000) (hb1:∀v∈l,Fwy.mk1 v<=10000000):ACM Tryz.prog 45 [.sl true 5 rs,.int .i64 k] (λr ys=>∃(n:Int) (rs':List (List AV)),n=k+(sumTo Fwy.mk1 l l.length:Nat)/\(∃m:List Fwy,rs'=m.map (Fwy.cs true)/\m.length=l.length)/\r= .int .i64 n/\ys=[.sl true 5 rs',.any]):=by
  refine acm 1 Tryz.func45 (λr ys ⟨n,rs',_,⟨m,h3,_⟩,h1,h2⟩=>⟨by rw [h1];exact .int _ _,by rw [h2,h3];simp;exact ⟨.rows .oFwy,.any⟩⟩) λE K hE hK=>?_
  conv=>cbv
  refine loop3 hE [] [5,1,0] (λ(i k':Int) (es:List (List AV))=>([(5,.int .i64 i),(1,.int .i64 k'),(0,.ob 0)],[.row 5 es],l.length - i,(0<=i/\i<=l.length)/\k'=k+(sumTo Fwy.mk1 l i:Nat)/\∃m:List Fwy,es=m.map (Fwy.cs true)/\m.length=l.length/\∀j:Nat,i<=j->m[j]? =l[j]?)) [0] ((0,k,rs)) rfl rfl (by dsimp only;exact ⟨by omega,by rw [sumTo_zero (by omega)];omega,l,hl,rfl,λ_ _=>rfl⟩) λi k' es hi Kn hN=>?_
  (try dsimp only at hi)
  conv=>cbv
  obtain ⟨⟨h0,h1⟩,h2,m,h3,h4,h5⟩:=hi
  have hbd:=Fwy.mk1_bd hb1 i.toNat (by omega)
  rw [show ((i.toNat:Nat):Int)=i by omega] at hbd
  have hbd2:10000000*i.toNat<=100000000000000:=by omega
  refine lenL hE h3 λn hn hb2=>?_
  conv=>cbv
  refine ltI hE (λhlt=>?_) (λhge=>?_)<;>conv=>cbv
  · obtain ⟨v,hv⟩:∃v,l[i.toNat]? =some v:=⟨_,List.getElem?_eq_getElem (by omega)⟩
    have hm:=(h5 i.toNat (by omega)).trans hv
    have hss:=sumTo_succ Fwy.mk1 h0 hv
    have hv1:=hb1 v (List.mem_of_getElem? hv)
    obtain ⟨name,line,width,spacing,tolerance⟩:=v
    simp only [Fwy.mk1] at hv1
    obtain ⟨r_line,h_line⟩:∃r,r=line.map Pnt.cs:=⟨_,rfl⟩
    have hrow:es[i.toNat]? =some [.str name,.sl true 2 r_line,.int .i64 width,.int .i64 spacing,.int .i64 tolerance]:=by rw [h3,List.getElem?_map,hm];subst h_line;rfl
    have hel:es.length=l.length:=by rw [h3,List.length_map,h4]
    repeat' first
      |(refine updRS hE hes9 (by omega) (by exact Nat.le_of_ble_eq_true rfl) (λes8 hes8 hlen8=>?_);(conv at hes8=>rhs;arg 3;cbv);(try conv=>cbv);clear hes9 hlen9;clear es9;revert es8;intro es9 hes9 hlen9)
      |(refine hN (_,_,_) _ [0] (by decide) rfl ⟨?_,?_,?_⟩ ?_<;>(try dsimp only))
      |((first
     |refine idxRS hE hes9 (by omega) ?_
     |refine idxI hE h0 hrow ?_
     |(refine callMI hE (markPointS_ _ (by assumption) (by omega) (by omega)) ?_;rintro _ _ ⟨n9,rs9,hn9,hr9,rfl,rfl⟩;(obtain ⟨g9,hg9⟩:∃g9:List Pnt,rs9=g9.map Pnt.cs:=⟨_,hr9⟩);clear hr9)
     |(refine updR0 hE h0 hrow (by exact Nat.le_of_ble_eq_true rfl) (λes9 hes9 hlen9=>?_);(conv at hes9=>rhs;arg 3;cbv))
     |refine q0 hE ?_
     |refine callI hE (markText_ _ (by omega)) (λ_ _=>?_)
     |refine sameI hE (by simp_all) ?_
     |refine B0 hE ?_|refine B1 hE ?_ ?_|refine B2 hE ?_)<;>intros<;>(try conv=>cbv))
    all_goals (try clear hN)
    all_goals first
      |omega
      |(rename_i hi1;rw [hi1,hss];simp only [Fwy.mk1];omega)
      |exact Fwy.mark_set hes9 h3 h4 h5 (by assumption) h0 (by clear hK hrow;subst_vars;exact ⟨⟨_,_,_,_,_⟩,rfl⟩)
  · exact hK _ _ ⟨k',es,by rw [h2,show i=l.length by omega],⟨m,h3,h4⟩,rfl,rfl⟩
theorem sum_lin {α:Type} {f g:α->Nat} (A B:Nat) (h:∀v,f v<=A+B*g v):∀l:List α,(l.map f).sum<=A*l.length+B*(l.map g).sum
  |[]=>by simp
  | v::l=>by
    have ih:=sum_lin A B h l
    have hv:=h v
    simp only [List.map_cons,List.sum_cons,List.length_cons,Nat.mul_add,Nat.mul_one]
    omega
theorem Aid.mk1_lin (v:Aid):Aid.mk1 v<=16+3*Aid.sz v:=by
  simp only [Aid.mk1,Aid.sz,Aid.sz,Mrk.sz,Chr.sz,Chn.sz]
  omega
theorem Aid.mk1_sum {l:List Aid} (h:l.length+(l.map Aid.sz).sum<=1048576):(∀v∈l,Aid.mk1 v<=10000000)/\sumTo Aid.mk1 l l.length<=30000000:=by
  have h1:=sum_lin 16 3 Aid.mk1_lin l
  refine ⟨λv hv=>?_,?_⟩
  · have h2:=Aid.mk1_lin v
    have h3:=sum_ge Aid.sz hv
    omega
  · rw [sumTo_all _ _ (by omega)];omega
theorem Ntc.mk1_lin (v:Ntc):Ntc.mk1 v<=20+3*Ntc.sz v:=by
  simp only [Ntc.mk1,Ntc.sz,Aid.sz,Mrk.sz,Chr.sz,Chn.sz]
  omega
theorem Ntc.mk1_sum {l:List Ntc} (h:l.length+(l.map Ntc.sz).sum<=1048576):(∀v∈l,Ntc.mk1 v<=10000000)/\sumTo Ntc.mk1 l l.length<=30000000:=by
  have h1:=sum_lin 20 3 Ntc.mk1_lin l
  refine ⟨λv hv=>?_,?_⟩
  · have h2:=Ntc.mk1_lin v
    have h3:=sum_ge Ntc.sz hv
    omega
  · rw [sumTo_all _ _ (by omega)];omega
theorem Fwy.mk1_lin (v:Fwy):Fwy.mk1 v<=6+2*Fwy.sz v:=by
  simp only [Fwy.mk1,Fwy.sz,Aid.sz,Mrk.sz,Chr.sz,Chn.sz]
  omega
theorem Fwy.mk1_sum {l:List Fwy} (h:l.length+(l.map Fwy.sz).sum<=1048576):(∀v∈l,Fwy.mk1 v<=10000000)/\sumTo Fwy.mk1 l l.length<=30000000:=by
  have h1:=sum_lin 6 2 Fwy.mk1_lin l
  refine ⟨λv hv=>?_,?_⟩
  · have h2:=Fwy.mk1_lin v
    have h3:=sum_ge Fwy.sz hv
    omega
  · rw [sumTo_all _ _ (by omega)];omega
theorem markAuthority_ (day away tolerance:Int) (sName:ByteArray) (sSpeed sLoad sDraught bX bY start:Int) {r_edition:List (List AV)} {edition:List Aid} {r_notices:List (List AV)} {notices:List Ntc} {r_fairways:List (List AV)} {fairways:List Fwy} {r_dangers:List (List AV)} {dangers:List Dgr} {r_observers:List (List AV)} {observers:List Obv} {r_full:List (List AV)} {full:List Int} {r_works:List (List AV)} {works:List Wrk} {r_order:List (List AV)} {order:List Int} (h_edition:r_edition=edition.map (Aid.cs true)) (h_notices:r_notices=notices.map (Ntc.cs true)) (h_fairways:r_fairways=fairways.map (Fwy.cs true)) (h_dangers:r_dangers=dangers.map Dgr.cs) (h_observers:r_observers=observers.map Obv.cs) (h_full:r_full=full.map intR) (h_works:r_works=works.map Wrk.cs) (h_order:r_order=order.map intR) (k:Int) (hk0:0<=k/\k<=1000) (hz:Aut.sz (Aut.mk edition notices day fairways dangers away observers tolerance full sName sSpeed sLoad sDraught bX bY works order start)<=1048576):ACM Tryz.prog 10 [.agg [.sl true 16 r_edition,.sl true 20 r_notices,.int .i64 day,.sl true 5 r_fairways,.sl true 4 r_dangers,.int .i64 away,.sl true 4 r_observers,.int .i64 tolerance,.sl true 1 r_full,.str sName,.int .i64 sSpeed,.int .i64 sLoad,.int .i64 sDraught,.int .i64 bX,.int .i64 bY,.sl true 7 r_works,.sl true 1 r_order,.int .i64 start],.int .i64 k] (λr ys=>∃n:Int,(0<=n/\n<=1000000000)/\r= .int .i64 n/\ys=[.any,.any]):=by
  refine acm 8 Tryz.func10 (λr ys ⟨n,_,h1,h2⟩=>⟨by rw [h1];exact .int _ _,by rw [h2];simp;exact .any⟩) λE K hE hK=>?_
  conv=>cbv
  simp only [Aut.sz] at hz
  have h1:=Aid.mk1_sum (l:=edition) (by omega)
  have h2:=Ntc.mk1_sum (l:=notices) (by omega)
  have h3:=Fwy.mk1_sum (l:=fairways) (by omega)
  repeat' first
    |((first
   |(refine callMI hE (markAidS_ _ h_edition (by omega) (by omega) h1.1) ?_;rintro _ _ ⟨n1,rs9,hn1,⟨m9,hm9,hl9⟩,rfl,rfl⟩)
   |(refine callMI hE (markNoticeS_ _ h_notices (by omega) (by omega) h2.1) ?_;rintro _ _ ⟨n2,rs9,hn2,⟨m9,hm9,hl9⟩,rfl,rfl⟩)
   |(refine callMI hE (markFairwayS_ _ h_fairways (by omega) (by omega) h3.1) ?_;rintro _ _ ⟨n3,rs9,hn3,⟨m9,hm9,hl9⟩,rfl,rfl⟩)
   |(refine callMI hE (markDangerS_ _ h_dangers (by omega) (by omega)) ?_;rintro _ _ ⟨n4,rs9,hn4,hm9,rfl,rfl⟩)
   |(refine callMI hE (markObserverS_ _ h_observers (by omega) (by omega)) ?_;rintro _ _ ⟨n5,rs9,hn5,hm9,rfl,rfl⟩)
   |(refine callMI hE (markI_ _ h_full (by omega) (by omega)) ?_;rintro _ _ ⟨n6,rs9,hn6,hm9,rfl,rfl⟩)
   |(refine callMI hE (markWorkS_ _ h_works (by omega) (by omega)) ?_;rintro _ _ ⟨n7,rs9,hn7,hm9,rfl,rfl⟩)
   |(refine callMI hE (markI_ _ h_order (by omega) (by omega)) ?_;rintro _ _ ⟨n8,rs9,hn8,hm9,rfl,rfl⟩)
   |(refine sameI hE (by subst_vars;simp only [List.length_map,Dgr.mks_len,Obv.mks_len,Wrk.mks_len,markL_len];first|done|omega|simp_all) ?_)
   |refine q0 hE ?_
   |refine B0 hE ?_|refine B1 hE ?_ ?_|refine B2 hE ?_)<;>intros<;>(try conv=>cbv))
  all_goals first
    |exact hK _ _ ⟨_,by omega,rfl,rfl⟩
    |omega
theorem NoB.fdgs (l:List Fdg):NoB (.sl true 3 (l.map Fdg.cs)):= .rows .oFdg
def fdgLI (p:List Fdg×Int):AV:= .tup [.sl true 3 (p.1.map Fdg.cs),.int .i64 p.2]
theorem NoB.fdgLI (p:List Fdg×Int):NoB (fdgLI p):= .tupC (.rows .oFdg) (.tupC (.int _ _) .tup0)
end Go.Proofs.YtpfddoikhmbebaaGreatDoor
