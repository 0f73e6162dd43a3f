/- Contracts: channels and their gates by the reference. -/
import Derived.Test.YtpfddoikhmbebaaGreatDoorQh
import Derived.Test.YtpfddoikhmbebaaGreatDoorQg
import Derived.Test.YtpfddoikhmbebaaGreatDoorFA
namespace Go.Proofs.YtpfddoikhmbebaaGreatDoor
open Go Go.RowKit Classical
set_option maxRecDepth 100000
set_option maxHeartbeats 2000000
set_option linter.unusedVariables false
set_option linter.unusedSimpArgs false
theorem l13Find_ (d:Int) {rl:List (List AV)} {t:Bool} {l:List Pnt} (hl:rl=l.map Pnt.cs) (hok:LnOk l) (h12:2<=l.length/\l.length<=12) (hd:0<=d/\d<=(segs l).sum):AC Tryz.prog 322 [.sl t 2 rl,.int .i64 d] two (findS (segs l) 1 d):=by
  refine ac Tryz.func322 (.two _) λE K hE hK=>?_
  conv=>cbv
  refine loop2 hE [0] [6,1] (λ(i e:Int)=>([(6,.int .i64 i),(1,.int .i64 e)],[],l.length - i,FindInv l d i e/\e<=d)) [] ((1,d)) rfl rfl (by dsimp only;exact ⟨FindInv.start h12.1 hd.1 hd.2,Int.le_refl _⟩) λi e hi Kn hN=>?_
  (try dsimp only at hi)
  conv=>cbv
  obtain ⟨hi,hed⟩:=hi
  have hi':=hi
  have hT:=segs_sum hok h12.2 l.length
  rw [sumS_all (by rw [segs_len];omega)] at hT
  obtain ⟨⟨h0,h1⟩,he0,he1,hfi⟩:=hi'
  refine lenL hE hl λn2 hn2 hb2=>?_
  conv=>cbv
  refine ltT hE (by omega) ?_
  conv=>cbv
  refine sub64 hE (by omega) λk hk=>?_
  conv=>cbv
  refine idxL (R:=Pnt.cs) hE hl (by omega) λp hp=>?_
  have hpp:=hok.pt hp
  obtain ⟨px,py⟩:=p
  conv=>cbv
  refine idxL (R:=Pnt.cs) hE hl (by omega) λq hq=>?_
  have hpq:=hok.pt hq
  obtain ⟨qx,qy⟩:=q
  conv=>cbv
  have hfa:=hi.at hk hp hq
  have hsg:=hok.seg hp (by rw [show k.toNat+1=i.toNat by omega];exact hq)
  simp only at hfa hsg hpp hpq
  obtain ⟨D,hD⟩:∃D,D=distR px py qx qy:=⟨_,rfl⟩
  rw [←hD] at hfa hsg
  repeat' first
    |(refine hN (_,_) _ [] (by decide) rfl ⟨?_,?_⟩ ?_<;>(try dsimp only))
    |((first
   |(refine callI hE (l02Apart_ _ _ _ _ hpp hpq) (λy hy=>?_);rw [←hD] at hy;subst hy)
   |refine q0 hE ?_
   |refine B0 hE ?_|refine B1 hE ?_ ?_|refine B2 hE ?_)<;>intros<;>(try conv=>cbv))
  all_goals (try clear hN)
  all_goals first
    |omega
    |(have h6:=hfa.2 (by omega);subst_vars;exact h6)
    |(refine hK _ ?_;rw [(hfa.1 (by omega)).1];rfl)
theorem l13Place_ (d:Int) {rl:List (List AV)} {t:Bool} {l:List Pnt} (hl:rl=l.map Pnt.cs) (hok:LnOk l) (h12:2<=l.length/\l.length<=12) (hd:0<=d/\d<=(segs l).sum):AC Tryz.prog 323 [.sl t 2 rl,.int .i64 d] (λp:Pnt=> .agg p.cs) (alongR l d).1:=by
  refine ac Tryz.func323 (.oPnt _) λE K hE hK=>?_
  conv=>cbv
  obtain ⟨k,p,q,hk1,hp,hq,hsa,hr0,hr1,hkl⟩:=segAt_spec hok h12.1 hd.1 hd.2
  have hsg:=hok.seg hp hq
  have hpp:=hok.pt hp
  have hpq:=hok.pt hq
  have hal:alongR l d=(btwR p q (findS (segs l) 1 d).2 (distR p.x p.y q.x q.y),p,q):=by rw [alongR,hsa]
  refine callII hE (l13Find_ _ hl hok h12 hd) λm r hm hr=>?_
  rw [←hr] at hr0 hr1 hal
  rw [←hm] at hk1
  conv=>cbv
  obtain ⟨px,py⟩:=p
  obtain ⟨qx,qy⟩:=q
  simp only at hsg hpp hpq hr1 hal
  obtain ⟨D,hD⟩:∃D,D=distR px py qx qy:=⟨_,rfl⟩
  rw [←hD] at hsg hr1 hal
  have hq2:l[m.toNat]? =some ⟨qx,qy⟩:=by rw [show m.toNat=k+1 by omega];exact hq
  repeat' first
    |((first
   |refine idxV (R:=Pnt.cs) hE hl (by omega) hq2 ?_
   |(refine sub64 hE (by omega) (λk2 hk2=>?_);(have hp2:l[k2.toNat]? =some ⟨px,py⟩:=by rw [show k2.toNat=k by omega];exact hp))
   |refine idxV (R:=Pnt.cs) hE hl (by omega) hp2 ?_
   |(refine callI hE (l02Apart_ _ _ _ _ hpp hpq) (λy hy=>?_);rw [←hD] at hy;subst hy)
   |(refine callI hE (l02Between_ _ _ _ _ _ _ hpp hpq hsg (by omega)) (λy hy=>?_);obtain ⟨yx,yy⟩:=y)
   |refine q0 hE ?_
   |refine B0 hE ?_|refine B1 hE ?_ ?_|refine B2 hE ?_)<;>intros<;>(try conv=>cbv))
  all_goals first
    |omega
    |(refine hK _ ?_;rw [hal];simp only;rw [←hy];rfl)
theorem l13Gate_ (n:ByteArray) (w d:Int) {rl:List (List AV)} {t:Bool} {l:List Pnt} (hl:rl=l.map Pnt.cs) (hok:LnOk l) (h12:2<=l.length/\l.length<=12) (hw:10<=w/\w<=5000) (hd:0<=d/\d<=(segs l).sum):AC Tryz.prog 274 [.pp [.str n,.sl t 2 rl,.int .i64 w],.int .i64 d] (λg:Gat=> .agg g.cs) (gateR l w d):=by
  refine ac Tryz.func274 (.oGat _) λE K hE hK=>?_
  conv=>cbv
  obtain ⟨k,p,q,hk1,hp,hq,hsa,hr0,hr1,hkl⟩:=segAt_spec hok h12.1 hd.1 hd.2
  have hsg:=hok.seg hp hq
  have hpp:=hok.pt hp
  have hpq:=hok.pt hq
  have hbt:=btwR_bd hpp hpq hsg ⟨hr0,hr1⟩
  have hgr:gateR l w d=gateOf w d p q (findS (segs l) 1 d).2:=by rw [gateR,hsa]
  have hal:(alongR l d).1=btwR p q (findS (segs l) 1 d).2 (distR p.x p.y q.x q.y):=by rw [alongR,hsa]
  obtain ⟨px,py⟩:=p
  obtain ⟨qx,qy⟩:=q
  simp only at hsg hpp hpq hr1 hal hbt
  obtain ⟨D,hD⟩:∃D,D=distR px py qx qy:=⟨_,rfl⟩
  rw [←hD] at hsg hr1 hal hbt
  refine callII hE (l13Find_ _ hl hok h12 hd) λm r hm hr=>?_
  rw [←hm] at hk1
  conv=>cbv
  have hq2:l[m.toNat]? =some ⟨qx,qy⟩:=by rw [show m.toNat=k+1 by omega];exact hq
  have hpp':=hpp
  have hpq':=hpq
  unfold PtOk at hpp hpq
  repeat' first
    |((first
   |refine idxV (R:=Pnt.cs) hE hl (by omega) hq2 ?_
   |refine idxV (R:=Pnt.cs) hE hl (by omega) hp2 ?_
   |(refine callI hE (l02Apart_ _ _ _ _ hpp' hpq') (λy hy=>?_);rw [←hD] at hy;subst hy)
   |(refine callI hE (l13Place_ _ hl hok h12 hd) (λy hy=>?_);rw [hal] at hy;rw [←hy] at hbt;obtain ⟨yx,yy⟩:=y;simp only at hbt)
   |refine mulB hE (by omega) (λm hm hmb=>?_)
   |(refine callI hE (l01Div_ _ _ (by omega) (by omega)) (λz hz=>?_);(have hyb:=divB (B:=90000000000) hz (by omega) (by omega)))
   |(refine sub64 (a:=m) hE (by omega) (λk2 hk2=>?_);(have hp2:l[k2.toNat]? =some ⟨px,py⟩:=by rw [show k2.toNat=k by omega];exact hp))
   |refine q0 hE ?_
   |refine B0 hE ?_|refine B1 hE ?_ ?_|refine B2 hE ?_)<;>intros<;>(try conv=>cbv))
  all_goals first
    |omega
    |(refine hK _ ?_;rw [hgr,gateOf];simp only;rw [←hD,←hy];simp only;subst_vars;rfl)
theorem stepsN_le {s T:Int} (hs:0<s) (hT:0<=T):(stepsN s T:Int)<=T+s - 1:=by
  have:=quo_bd (q:=(T+s - 1) / s) rfl ⟨by omega,hs⟩
  unfold stepsN;omega
theorem placesR_len (l:List Pnt) (s:Int):(placesR l s).length=stepsN s (segs l).sum+1:=by rw [placesR,List.length_append,stepsTo_len];rfl
set_option maxHeartbeats 8000000
theorem l13Gates_ (n:ByteArray) (w s:Int) {rl:List (List AV)} {t:Bool} {l:List Pnt} (hl:rl=l.map Pnt.cs):AC Tryz.prog 227 [.pp [.str n,.sl t 2 rl,.int .i64 w],.int .i64 s] gatLI (gatesR n l w s):=by
  refine ac Tryz.func227 (.gatLI _) λE K hE hK=>?_
  conv=>cbv
  refine callP hE (l13Ok_ _ _ hl) (λhc=>?_) (λhc=>?_)<;>conv=>cbv
  · refine callP hE (in_ _ _ _) (λhs=>?_) (λhs=>?_)<;>conv=>cbv
    · have hok:=hc.1
      have h12:=hc.2.2.1
      have hw:=hc.2.2.2
      have hsum:=segs_sum hok h12.2 l.length
      rw [sumS_all (by rw [segs_len];omega)] at hsum
      have hpl:=placesR_bd hok h12.2 (s:=s) (by omega)
      have hplen:=placesR_len l s
      obtain ⟨T,hT⟩:∃T,T=(segs l).sum:=⟨_,rfl⟩
      refine callI hE (l13Length_ n w hl hok (by omega)) λT' hT'=>?_
      rw [←hT] at hT' hsum hplen
      obtain hT3:T=T':=hT'.symm;subst hT3
      conv=>cbv
      have hst:=λk=>stepsN_lt (s:=s) (t:=T) (by omega) (by omega) k
      have hN:=stepsN_le (s:=s) (T:=T) (by omega) (by omega)
      repeat' first
        |((refine loop3 hE [0,1,6] [8,7] (λ(d k:Int) (es:List (List AV))=>([(8,.int .i64 d),(7,.ob 0)],[.row 1 es],T - d,(0<=k/\k<=stepsN s T/\d=s*k/\d<T+s)/\es=(stepsTo s k.toNat).map intR)) [0] ((0,0,[])) rfl rfl (by dsimp only;exact ⟨⟨by omega,by omega,by omega,by omega⟩,by rfl⟩) λd k es hi2 Kn2 hN2=>?_;(try dsimp only at hi2);conv=>cbv);obtain ⟨⟨k0,k1,hdk,hdT⟩,h2⟩:=hi2;(have hkn:=hst k.toNat);rw [show ((k.toNat:Nat):Int)=k by omega,←hdk] at hkn;(have hd0:0<=d:=by rw [hdk];exact Int.mul_nonneg (by omega) (by omega)))
        |((refine loop2 hE [0,7] [10,9] (λ(i:Int) (fs:List (List AV))=>([(10,.int .i64 i),(9,.ob 1)],[.row 1 es2,.row 5 fs],(placesR l s).length - i,(0<=i/\i<=(placesR l s).length)/\fs=(((placesR l s).take i.toNat).map (gateR l w)).map Gat.cs/\Up (λj=>∀d,(placesR l s)[j]? =some d->(gateR l w d).ok) i)) [2,3] ((0,[])) rfl rfl (by dsimp only;exact ⟨by omega,by rfl,.zero (by omega)⟩) λi fs hi3 Kn3 hN3=>?_;(try dsimp only at hi3);conv=>cbv);obtain ⟨⟨i0,i1⟩,h3,hinv⟩:=hi3)
        |(refine hN3 (_,_) _ [0,4] (by decide) rfl ⟨?_,?_,?_⟩ ?_<;>(try dsimp only))
        |(refine hN3 (_,_) _ [0,3] (by decide) rfl ⟨?_,?_,?_⟩ ?_<;>(try dsimp only))
        |(refine hN3 (_,_) _ [0,2] (by decide) rfl ⟨?_,?_,?_⟩ ?_<;>(try dsimp only))
        |(refine hN2 (_,k+1,_) _ [2] (by decide) rfl ⟨⟨?_,?_,?_,?_⟩,?_⟩ ?_<;>(try dsimp only))
        |((first
       |(refine catP hE (R:=intR) (v:=d) h2 rfl (by simp only [stepsTo_len];omega) (λes2 hes2=>?_))
       |(refine catP hE (R:=intR) (v:=T) h2 rfl (by simp only [stepsTo_len];omega) (λes2 hes2=>?_);(have hes3:es2=(placesR l s).map intR:=by rw [hes2,placesR,←hT,show k.toNat=stepsN s T by omega]))
       |refine lenL hE hes3 (λm hm hmb=>?_)
       |(refine idxL (R:=intR) hE hes3 (by omega) (λe he=>?_);have hee:=hpl _ (List.mem_of_getElem? he))
       |(refine callI hE (l13Gate_ n w _ hl hok h12 hw hee) (λg hg=>?_);obtain ⟨g1,g2,g3,g4,g5⟩:=g)
       |(refine catP hE (R:=Gat.cs) (v:=⟨g1,g2,g3,g4,g5⟩) h3 rfl (by simp only [List.length_map,List.length_take];omega) (λes4 hes4=>?_))
       |refine q0 hE ?_
       |refine nilOwnI hE 5 ?_
       |refine callP hE (l02Ok_ _ _) (λ_=>?_) (λ_=>?_)
       |refine B0 hE ?_|refine B1 hE ?_ ?_|refine B2 hE ?_)<;>intros<;>(try conv=>cbv))
      all_goals (try clear hN2)
      all_goals (try clear hN3)
      all_goals first
        |omega
        |(rename_i hd2;rw [hd2,hdk];grind)
        |(rw [hes2,show (k+1).toNat=k.toNat+1 by omega,stepsTo_succ,show ((k.toNat:Nat):Int)=k by omega,hdk])
        |(rw [take_map i0 he (by assumption),hes4,hg])
        |(refine hinv.succ (λd' hd'=>?_) (by assumption);rw [he] at hd';cases hd';rw [←hg];exact ⟨by assumption,by assumption⟩)
        |(refine hK _ ?_;rw [gatesR,if_pos hc,if_pos hs,if_neg (by rw [←hT];omega)];rfl)
        |(refine hK _ ?_;rw [gatesR,if_pos hc,if_pos hs,if_pos (by rw [←hT];omega),if_neg (λh=>by have h5:=h _ (List.mem_of_getElem? he);rw [←hg] at h5;first|exact absurd h5.1 (by assumption)|exact absurd h5.2 (by assumption))];rfl)
        |(refine hK _ ?_;rw [gatesR,if_pos hc,if_pos hs,if_pos (by rw [←hT];omega),if_pos (λd' hd'=>(by obtain ⟨j,hj⟩:=List.getElem?_of_mem hd';exact hinv j (by have:=(List.getElem?_eq_some_iff.1 hj).1;omega) d' hj)),h3,List.take_of_length_le (by omega)];rfl)
    · refine nilOwnI hE 5 ?_
      conv=>cbv
      exact hK _ (by rw [gatesR,if_pos hc,if_neg hs];rfl)
  · refine nilOwnI hE 5 ?_
    conv=>cbv
    exact hK _ (by rw [gatesR,if_neg hc];rfl)
def buoysOf (gs:List Gat):List Buo:=gs.flatMap λg=>[⟨g.lx,g.ly,1⟩,⟨g.rx,g.ry,2⟩]
theorem buoysOf_step {gs:List Gat} {i n:Int} {g:Gat} (h0:0<=i) (hg:gs[i.toNat]? =some g) (hn:n=i+1):buoysOf (gs.take n.toNat)=buoysOf (gs.take i.toNat)++[⟨g.lx,g.ly,1⟩,⟨g.rx,g.ry,2⟩]:=by
  unfold buoysOf
  rw [show n.toNat=i.toNat+1 by omega,List.take_add_one,hg];simp
theorem buoysOf_len (gs:List Gat):(buoysOf gs).length=2*gs.length:=by
  unfold buoysOf
  induction gs with
  |nil=>rfl
  |cons g l ih=>simp only [List.flatMap_cons,List.length_append,ih];simp;omega
noncomputable def buoysR (n:ByteArray) (l:List Pnt) (w s:Int):List Buo×Int:=if (gatesR n l w s).2=0 then (buoysOf (gatesR n l w s).1,0) else ([],(gatesR n l w s).2)
theorem l13Buoys_ (n:ByteArray) (w s:Int) {rl:List (List AV)} {t:Bool} {l:List Pnt} (hl:rl=l.map Pnt.cs):AC Tryz.prog 168 [.pp [.str n,.sl t 2 rl,.int .i64 w],.int .i64 s] buoLI (buoysR n l w s):=by
  refine ac Tryz.func168 (.buoLI _) λE K hE hK=>?_
  conv=>cbv
  have hg32:=gatesR_code n l w s
  refine callLI (R:=Gat.cs) (k:=5) hE (l13Gates_ n w s hl) λrs c hrs hc=>?_
  conv=>cbv
  refine eqI hE (λh=>?_) (λh=>?_)<;>conv=>cbv
  · skip
    repeat' first
      |((refine loop2 hE [6] [9,8] (λ(i:Int) (es:List (List AV))=>([(9,.int .i64 i),(8,.ob 1)],[.row 5 rs,.row 3 es],(gatesR n l w s).1.length - i,(0<=i/\i<=(gatesR n l w s).1.length)/\es=(buoysOf ((gatesR n l w s).1.take i.toNat)).map Buo.cs)) [0,1] ((0,[])) rfl rfl (by dsimp only;exact ⟨by omega,by rfl⟩) λi es hi2 Kn2 hN2=>?_;(try dsimp only at hi2);conv=>cbv);obtain ⟨⟨h0,h1⟩,h2⟩:=hi2)
      |(refine hN2 (_,_) _ [0,3] (by decide) rfl ⟨?_,?_⟩ ?_<;>(try dsimp only))
      |(refine hN2 (_,_) _ [0,2] (by decide) rfl ⟨?_,?_⟩ ?_<;>(try dsimp only))
      |(refine hN2 (_,_) _ [0,4] (by decide) rfl ⟨?_,?_⟩ ?_<;>(try dsimp only))
      |((first
     |refine lenL hE hrs (λm hm hmb=>?_)
     |refine idxV (R:=Gat.cs) hE hrs (by omega) (by assumption) ?_
     |(refine idxL (R:=Gat.cs) hE hrs (by omega) (λg hg=>?_);obtain ⟨g1,g2,g3,g4,g5⟩:=g)
     |(refine catL hE (R:=Buo.cs) (m:=[⟨g2,g3,1⟩,⟨g4,g5,2⟩]) h2 rfl (by simp only [buoysOf_len,List.length_take,List.length_cons,List.length_nil];omega) (λes4 hes4=>?_))
     |refine q0 hE ?_
     |refine B0 hE ?_|refine B1 hE ?_ ?_|refine B2 hE ?_)<;>intros<;>(try conv=>cbv))
    all_goals (try clear hN2)
    all_goals first
      |omega
      |(rw [buoysOf_step h0 hg (by assumption),hes4])
      |(refine hK _ ?_;rw [buoysR,if_pos (by omega),h2,List.take_of_length_le (by omega)];rfl)
  · refine nilOwnI hE 3 ?_
    conv=>cbv
    exact hK _ (by rw [buoysR,if_neg (by omega),←hc];rfl)
theorem buoysR_code (n:ByteArray) (l:List Pnt) (w s:Int):(buoysR n l w s).2=(gatesR n l w s).2:=by
  unfold buoysR
  split
  · simp only;omega
  · rfl
theorem l31Fairway_ (name:ByteArray) (width spacing tolerance:Int) {r_line:List (List AV)} {t_line:Bool} {line:List Pnt} (h_line:r_line=line.map Pnt.cs):AC Tryz.prog 155 [.pp [.str name,.sl t_line 2 r_line,.int .i64 width,.int .i64 spacing,.int .i64 tolerance]] AV.bool (bP (Fwy.ok (Fwy.mk name line width spacing tolerance))):=by
  refine ac Tryz.func155 (.bool _) λE K hE hK=>?_
  conv=>cbv
  have hcode:=buoysR_code name line width spacing
  repeat' first
    |((first
   |refine callLI (R:=Buo.cs) (k:=3) hE (AC.tl1v (l13Buoys_ _ _ _ h_line)) (λrs c hrs hc=>?_)
   |refine q0 hE ?_
   |refine callP hE (in_ _ _ _) (λ_=>?_) (λ_=>?_)
   |refine B0 hE ?_|refine B1 hE ?_ ?_|refine B2 hE ?_)<;>intros<;>(try conv=>cbv))
  all_goals first
    |exact finB hK (bP_true.2 ⟨by simp only;omega,by simp only;omega⟩)
    |(refine finB hK (bP_false.2 λh=>?_);have h1:=h.1;have h2:=h.2;simp only at h1 h2;omega)
end Go.Proofs.YtpfddoikhmbebaaGreatDoor
