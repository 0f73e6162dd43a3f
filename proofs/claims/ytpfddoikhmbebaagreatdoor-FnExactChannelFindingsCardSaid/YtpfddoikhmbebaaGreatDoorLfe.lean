/- Contracts: the list of lights after the notices; the law. -/
import Derived.Test.YtpfddoikhmbebaaGreatDoorLfd
import Derived.Test.YtpfddoikhmbebaaGreatDoorHau
import Derived.Test.YtpfddoikhmbebaaGreatDoorQl
import Derived.Test.YtpfddoikhmbebaaGreatDoorAxTl
namespace Go.Proofs.YtpfddoikhmbebaaGreatDoor
open Go Go.RowKit Classical
set_option maxRecDepth 100000
set_option maxHeartbeats 2000000
set_option linter.unusedVariables false
set_option linter.unusedSimpArgs false
set_option maxHeartbeats 4000000
theorem forceL_mem {ns:List Ntc} {d:Int} {v:Ntc} (h:v∈forceL ns d):v∈ns/\v.kind≠4:=by
  obtain ⟨h1,h2⟩:=List.mem_filter.1 h
  exact ⟨h1,(bP_true.1 h2).1⟩
theorem forceL_len (ns:List Ntc) (d:Int):(forceL ns d).length<=ns.length:=List.length_filter_le _ _
theorem current_ {re rn:List (List AV)} {t t' b b':Bool} {e:List Aid} {ns:List Ntc} (d:Int) (he:re=e.map (Aid.cs b)) (hn:rn=ns.map (Ntc.cs b')) (hok:AidsOk e) (hns:NtcsOk ns):AC Tryz.prog 130 [.sl t 16 re,.sl t' 20 rn,.int .i64 d] curI (runN e (forceL ns d)):=by
  refine ac Tryz.func130 (.curI _) λE K hE hK=>?_
  conv=>cbv
  have h24:=hok.2
  have h32:=hns.2
  refine callR hE (copyAids_ he (λv hv=>Aid.ok_short (hok.mem hv)) (by omega)) λrs0 hrs0=>?_
  conv=>cbv
  refine callSI hE (inForce_ d hn (by omega)) ?_
  rintro r ys ⟨rf,hrf,rfl,rfl⟩
  conv=>cbv
  obtain ⟨F,hF⟩:∃F,F=forceL ns d:=⟨_,rfl⟩
  have hFl:=forceL_len ns d
  have hFm:∀v∈F,v∈ns/\v.kind≠4:=λv hv=>forceL_mem (by rw [←hF];exact hv)
  rw [←hF] at hrf hFl hK
  refine lenL hE hrf λn hn2 hb2=>?_
  conv=>cbv
  refine loop3 hE [18,19] [20,9] (λ(i:Int) (L:List Aid) (es:List (List AV))=>([(20,.int .i64 i),(9,.ob 0)],[.row 16 es,.row 20 rf],F.length - i,(0<=i/\i<=F.length)/\es=L.map (Aid.cs true)/\AidsOk L/\runN e F=runN L (F.drop i.toNat))) [0,1] ((0,e,rs0)) rfl rfl (by dsimp only;exact ⟨by omega,hrs0,hok,rfl⟩) λi L es hi Kn hN=>?_
  (try dsimp only at hi)
  conv=>cbv
  obtain ⟨⟨h0,h1⟩,h2,hL,hrun⟩:=hi
  repeat' first
    |(refine hN (_,_,_) _ [3,1] (by decide) rfl ⟨?_,hrs2,?_,?_⟩ ?_<;>(try dsimp only))
    |(refine hN (_,_,_) _ [2,1] (by decide) rfl ⟨?_,hrs2,?_,?_⟩ ?_<;>(try dsimp only))
    |(refine hN (_,_,_) _ [4,1] (by decide) rfl ⟨?_,hrs2,?_,?_⟩ ?_<;>(try dsimp only))
    |((first
   |(refine idxNtc hE hrf (by omega) (λc0 c1 c2 c3 c4 c5 c6 c7 c8 c9 d0 d1 d2 d3 d4 d5 d6 d7 d8 d9 rg rx hv hg hx=>?_);(have hvm:=List.mem_of_getElem? hv);(have hvo:=ntcs_ok hns _ (hFm _ hvm).1);(have hst:=runN_step (L:=L) hv))
   |refine callLI (R:=Aid.cs true) hE (effect_ _ _ _ _ _ _ _ _ _ _ _ _ _ _ _ _ _ _ hg hx h2 hL (λh=>(hvo.2.2.2.1 h).1)) (λrs2 n2 hrs2 hn3=>?_)
   |refine eqI hE (a:=n2) (b:=0) (λhz0=>?_) (λhz1=>?_)
   |refine q0 hE ?_
   |refine nilOwnI hE 16 ?_
   |refine B0 hE ?_|refine B1 hE ?_ ?_|refine B2 hE ?_)<;>intros<;>(try conv=>cbv))
  all_goals (try clear hN)
  all_goals first
    |omega
    |exact doR_ok hL (λh=>(hvo.2.2.2.1 h).1) (hn3.symm.trans hz0)
    |(rename_i hm2;rw [hrun,hst,if_pos (hn3.symm.trans hz0),hm2,show (i+1).toNat=i.toNat+1 by omega])
    |(refine hK _ ?_;rw [hrun,hst,if_neg (λe=>hz1 (hn3.trans e)),←hn3];rfl)
    |(refine hK _ ?_;rw [hrun,List.drop_of_length_le (by omega),runN_nil,h2];rfl)
theorem l21Force_ {rs:List (List AV)} {t b:Bool} {l:List Ntc} {v:Ntc} (i d:Int) (hl:rs=l.map (Ntc.cs b)) (hv:l[i.toNat]? =some v) (h0:0<=i):AC Tryz.prog 164 [.sl t 20 rs,.int .i64 i,.int .i64 d] AV.bool (bP (forceP l d v)):=by
  refine ac Tryz.func164 (.bool _) λE K hE hK=>?_
  conv=>cbv
  have hil:=(List.getElem?_eq_some_iff.1 hv).1
  obtain ⟨c0,c1,c2,c3,c4,c5,c6,c7,c8,c9,d0,d1,d2,d3,d4,d5,d6,d7,d8,d9⟩:=v
  obtain ⟨rg,hg⟩:∃r,r=d4.map intR:=⟨_,rfl⟩
  obtain ⟨rx,hx⟩:∃r,r=d8.map Scr.cs:=⟨_,rfl⟩
  repeat' first
    |((first
   |refine idxNtcV hE hl (by omega) hv hg hx ?_
   |refine callP hE (l21Cancelled_ c0 d hl) (λhc=>?_) (λhc=>?_)
   |refine q0 hE ?_
   |refine B0 hE ?_|refine B1 hE ?_ ?_|refine B2 hE ?_)<;>intros<;>(try conv=>cbv))
  all_goals first
    |exact finB hK (bP_true.2 ⟨by assumption,by assumption,by assumption⟩)
    |(refine finB hK (bP_false.2 λh=>?_);obtain ⟨g1,g2,g3⟩:=h;simp only at g1 g2 g3;first|contradiction|omega)
theorem l21Current_ {re rn:List (List AV)} {t t' b b':Bool} {e:List Aid} {ns:List Ntc} (d:Int) (he:re=e.map (Aid.cs b)) (hn:rn=ns.map (Ntc.cs b')) (hok:AidsOk e) (hns:NtcsOk ns):AC Tryz.prog 103 [.sl t 16 re,.sl t' 20 rn,.int .i64 d] curI (runN e (forceL ns d)):=by
  refine ac Tryz.func103 (.curI _) λE K hE hK=>?_
  conv=>cbv
  have h24:=hok.2
  have h32:=hns.2
  refine callR hE (l12OwnAll_ he (λv hv=>Aid.ok_short (hok.mem hv)) (by omega)) λrs0 hrs0=>?_
  conv=>cbv
  refine loop3 hE [1,2] [10,9] (λ(i:Int) (L:List Aid) (es:List (List AV))=>([(10,.int .i64 i),(9,.ob 0)],[.row 16 es],ns.length - i,(0<=i/\i<=ns.length)/\es=L.map (Aid.cs true)/\AidsOk L/\runN e (forceL ns d)=runN L ((ns.drop i.toNat).filter λv=>bP (forceP ns d v)))) [0] ((0,e,rs0)) rfl rfl (by dsimp only;exact ⟨by omega,hrs0,hok,rfl⟩) λi L es hi Kn hN=>?_
  (try dsimp only at hi)
  conv=>cbv
  obtain ⟨⟨h0,h1⟩,h2,hL,hrun⟩:=hi
  refine lenL hE hn λn hn2 hb2=>?_
  conv=>cbv
  refine ltI hE (λhlt=>?_) (λhge=>?_)<;>conv=>cbv
  · obtain ⟨v,hv⟩:∃v,ns[i.toNat]? =some v:=⟨_,List.getElem?_eq_getElem (by omega)⟩
    have hvo:=ntcs_ok hns _ (List.mem_of_getElem? hv)
    have hfs:=filt_step (p:=λv=>bP (forceP ns d v)) hv
    have hfo:=l21Force_ (t:=t') i d hn hv h0
    obtain ⟨c0,c1,c2,c3,c4,c5,c6,c7,c8,c9,d0,d1,d2,d3,d4,d5,d6,d7,d8,d9⟩:=v
    obtain ⟨rg,hg⟩:∃r,r=d4.map intR:=⟨_,rfl⟩
    obtain ⟨rx,hx⟩:∃r,r=d8.map Scr.cs:=⟨_,rfl⟩
    repeat' first
      |(refine hN (_,_,_) _ [1] (by decide) rfl ⟨?_,hrs2,?_,?_⟩ ?_<;>(try dsimp only))
      |(refine hN (_,_,_) _ [0] (by decide) rfl ⟨?_,h2,hL,?_⟩ ?_<;>(try dsimp only))
      |(refine hN (_,_,_) _ [2] (by decide) rfl ⟨?_,hrs2,?_,?_⟩ ?_<;>(try dsimp only))
      |((first
     |refine callP hE hfo (λhf=>?_) (λhf=>?_)
     |refine idxNtcV hE hn (by omega) hv hg hx ?_
     |refine callLI (R:=Aid.cs true) hE (l21Do_ _ _ _ _ _ _ _ _ _ _ _ _ _ _ _ _ _ _ hg hx h2 hL (λh=>(hvo.2.2.2.1 h).1)) (λrs2 n2 hrs2 hn3=>?_)
     |refine eqI hE (a:=n2) (b:=0) (λhz0=>?_) (λhz1=>?_)
     |refine q0 hE ?_
     |refine nilOwnI hE 16 ?_
     |refine B0 hE ?_|refine B1 hE ?_ ?_|refine B2 hE ?_)<;>intros<;>(try conv=>cbv))
    all_goals (try clear hN)
    all_goals first
      |omega
      |exact doR_ok hL (λh=>(hvo.2.2.2.1 h).1) (hn3.symm.trans hz0)
      |(rename_i hm2;rw [hrun,hfs,if_pos (bP_true.2 hf),runN,if_pos (hn3.symm.trans hz0),hm2,show (i+1).toNat=i.toNat+1 by omega])
      |(rename_i hm2;rw [hrun,hfs,if_neg (by rw [bP_false.2 hf];decide),hm2,show (i+1).toNat=i.toNat+1 by omega])
      |(refine hK _ ?_;rw [hrun,hfs,if_pos (bP_true.2 hf),runN,if_neg (λe=>hz1 (hn3.trans e)),←hn3];rfl)
  · refine hK _ ?_
    rw [hrun,List.drop_of_length_le (by omega),List.filter_nil,runN_nil,h2];rfl
theorem currentList_ {re rn:List (List AV)} {t t' b b':Bool} {e:List Aid} {ns:List Ntc} (d:Int) (he:re=e.map (Aid.cs b)) (hn:rn=ns.map (Ntc.cs b')) (hok:AidsOk e) (hns:NtcsOk ns) (hd:0<=d/\d<=99999):AC Tryz.prog 69 [.sl t 16 re,.sl t' 20 rn,.int .i64 d] aidsI ((runN e (forceL ns d)).1,(runN e (forceL ns d)).2.2):=by
  refine ac Tryz.func69 (.aidsI _) λE K hE hK=>?_
  conv=>cbv
  refine callI hE (currentCode_ d he hn) λc hc=>?_
  rw [curR_zero.2 ⟨hok,hns,hd⟩] at hc
  conv=>cbv
  refine eqT hE hc ?_
  conv=>cbv
  refine callCur hE (current_ d he hn hok hns) λrs n m h1 h2 h3=>?_
  conv=>cbv
  exact hK _ (by rw [h1,h3];rfl)
noncomputable def listR (a:Aut):List Aid×Int:=if a.ok then ((runN a.edition (forceL a.notices a.day)).1,(runN a.edition (forceL a.notices a.day)).2.2) else ([],1)
theorem listOf_ (day away tolerance:Int) (sName:ByteArray) (sSpeed sLoad sDraught bX bY start:Int) {r_edition r_notices r_fairways r_dangers r_observers r_full r_works r_order:List (List AV)} {t_edition t_notices t_fairways t_dangers t_observers t_full t_works t_order b_edition b_notices b_fairways:Bool} {edition:List Aid} {notices:List Ntc} {fairways:List Fwy} {dangers:List Dgr} {observers:List Obv} {full order:List Int} {works:List Wrk} (h_edition:r_edition=edition.map (Aid.cs b_edition)) (h_notices:r_notices=notices.map (Ntc.cs b_notices)) (h_fairways:r_fairways=fairways.map (Fwy.cs b_fairways)) (h_dangers:r_dangers=dangers.map Dgr.cs) (h_observers:r_observers=observers.map Obv.cs) (h_full:r_full=full.map intR) (h_works:r_works=works.map Wrk.cs) (h_order:r_order=order.map intR):AC Tryz.prog 31 [.agg [.sl t_edition 16 r_edition,.sl t_notices 20 r_notices,.int .i64 day,.sl t_fairways 5 r_fairways,.sl t_dangers 4 r_dangers,.int .i64 away,.sl t_observers 4 r_observers,.int .i64 tolerance,.sl t_full 1 r_full,.str sName,.int .i64 sSpeed,.int .i64 sLoad,.int .i64 sDraught,.int .i64 bX,.int .i64 bY,.sl t_works 7 r_works,.sl t_order 1 r_order,.int .i64 start]] aidsI (listR (Aut.mk edition notices day fairways dangers away observers tolerance full sName sSpeed sLoad sDraught bX bY works order start)):=by
  refine ac Tryz.func31 (.aidsI _) λE K hE hK=>?_
  conv=>cbv
  refine callP hE (validAuthority_ _ _ _ _ _ _ _ _ _ _ (by assumption) (by assumption) (by assumption) (by assumption) (by assumption) (by assumption) (by assumption) (by assumption)) (λhok=>?_) (λhok=>?_)<;>conv=>cbv
  · refine callLI (R:=Aid.cs true) hE (currentList_ day h_edition h_notices hok.2.1.1 hok.2.1.2.1 hok.2.1.2.2) λrs n hrs hn=>?_
    conv=>cbv
    exact hK _ (by rw [listR,if_pos hok,hrs,hn];rfl)
  · refine nilOwnI hE 16 ?_
    conv=>cbv
    exact hK _ (by rw [listR,if_neg hok];rfl)
theorem l31List_ (day away tolerance:Int) (sName:ByteArray) (sSpeed sLoad sDraught bX bY start:Int) {r_edition r_notices r_fairways r_dangers r_observers r_full r_works r_order:List (List AV)} {t_edition t_notices t_fairways t_dangers t_observers t_full t_works t_order b_edition b_notices b_fairways:Bool} {edition:List Aid} {notices:List Ntc} {fairways:List Fwy} {dangers:List Dgr} {observers:List Obv} {full order:List Int} {works:List Wrk} (h_edition:r_edition=edition.map (Aid.cs b_edition)) (h_notices:r_notices=notices.map (Ntc.cs b_notices)) (h_fairways:r_fairways=fairways.map (Fwy.cs b_fairways)) (h_dangers:r_dangers=dangers.map Dgr.cs) (h_observers:r_observers=observers.map Obv.cs) (h_full:r_full=full.map intR) (h_works:r_works=works.map Wrk.cs) (h_order:r_order=order.map intR) (hok:Aut.ok (Aut.mk edition notices day fairways dangers away observers tolerance full sName sSpeed sLoad sDraught bX bY works order start)):AC Tryz.prog 58 [.pp [.sl t_edition 16 r_edition,.sl t_notices 20 r_notices,.int .i64 day,.sl t_fairways 5 r_fairways,.sl t_dangers 4 r_dangers,.int .i64 away,.sl t_observers 4 r_observers,.int .i64 tolerance,.sl t_full 1 r_full,.str sName,.int .i64 sSpeed,.int .i64 sLoad,.int .i64 sDraught,.int .i64 bX,.int .i64 bY,.sl t_works 7 r_works,.sl t_order 1 r_order,.int .i64 start]] aidsI (listR (Aut.mk edition notices day fairways dangers away observers tolerance full sName sSpeed sLoad sDraught bX bY works order start)):=by
  refine acT 12 Tryz.func58 (by kernel_rfl) (.aidsI _) λE K hE hK=>?_
  conv=>cbv
  repeat' first
    |((first
   |refine callCur hE (l21Current_ day h_edition h_notices hok.2.1.1 hok.2.1.2.1) (λrs n m h1 h2 h3=>?_)
   |refine needI hE ?_ ?_
   |refine q0 hE ?_
   |refine B0 hE ?_|refine B1 hE ?_ ?_|refine B2 hE ?_)<;>intros<;>(try conv=>cbv))
  all_goals first
    |(refine hK _ ?_;rw [listR,if_pos hok,h1,h3];rfl)
theorem runN_len:∀(vs:List Ntc) (L:List Aid),AidsOk L->(∀v∈vs,v.kind=1∨v.kind=2->v.aid.ok)->AidsOk (runN L vs).1
  |[],L,h,_=>h
  | v::vs,L,h,hv=>by
    rw [runN]
    split
    · exact runN_len vs _ (doR_ok h (hv v (List.mem_cons_self ..)) (by assumption)) λu hu=>hv u (List.mem_cons_of_mem _ hu)
    · exact ⟨λj hj=>by simp at hj,by simp⟩
theorem listR_ok (a:Aut):AidsOk (listR a).1:=by
  unfold listR
  split
  · rename_i h
    exact runN_len _ _ h.2.1.1 λv hv hk=>((ntcs_ok h.2.1.2.1 v (forceL_mem hv).1).2.2.2.1 hk).1
  · exact ⟨λj hj=>by simp at hj,by simp⟩
theorem listR_aut {a:Aut} (h:(listR a).2=0):a.ok:=by
  unfold listR at h
  split at h
  · assumption
  · exact absurd h (by decide)
end Go.Proofs.YtpfddoikhmbebaaGreatDoor
