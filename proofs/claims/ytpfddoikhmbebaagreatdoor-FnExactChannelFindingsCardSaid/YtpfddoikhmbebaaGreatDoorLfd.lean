/- Contracts: what a notice does; the notices in force. -/
import Derived.Test.YtpfddoikhmbebaaGreatDoorQd
import Derived.Test.YtpfddoikhmbebaaGreatDoorHnt
namespace Go.Proofs.YtpfddoikhmbebaaGreatDoor
open Go Go.RowKit Classical
set_option maxRecDepth 100000
set_option maxHeartbeats 2000000
set_option linter.unusedVariables false
set_option linter.unusedSimpArgs false
set_option maxHeartbeats 4000000
noncomputable section
def forceP (ns:List Ntc) (d:Int) (v:Ntc):Prop:=v.kind≠4/\v.day<=d/\¬∃m∈ns,m.kind=4/\m.target=v.number/\m.day<=d
def forceL (ns:List Ntc) (d:Int):List Ntc:=ns.filter λv=>bP (forceP ns d v)
def doR (l:List Aid) (v:Ntc):List Aid×Int:=if v.kind=1 then putR l v.aid else if v.kind=2 then replR l v.aid else dropR l v.target
def runN:List Aid->List Ntc->List Aid×Int×Int
  |l,[]=>(l,0,0)
  |l,v::vs=>if (doR l v).2=0 then runN (doR l v).1 vs else ([],v.number,(doR l v).2)
end
theorem doR_ok {l:List Aid} {v:Ntc} (h:AidsOk l) (hv:v.kind=1∨v.kind=2->v.aid.ok) (h0:(doR l v).2=0):AidsOk (doR l v).1:=by
  unfold doR at h0 ⊢
  split at h0<;>rename_i h1
  · rw [if_pos h1];exact putR_ok h (hv (.inl h1)) h0
  · rw [if_neg h1]
    split at h0<;>rename_i h2
    · rw [if_pos h2];exact replR_ok h (hv (.inr h2)) h0
    · rw [if_neg h2];exact dropR_ok h h0
theorem ntcs_ok {l:List Ntc} (h:NtcsOk l):∀v∈l,v.ok:=λv hv=>by
  obtain ⟨j,hj⟩:=List.getElem?_of_mem hv
  obtain ⟨w,h1,h2,_⟩:=h.1 j (List.getElem?_eq_some_iff.1 hj).1
  rw [hj] at h1;cases h1;exact h2
theorem runN_step {L:List Aid} {F:List Ntc} {i:Nat} {v:Ntc} (hv:F[i]? =some v):runN L (F.drop i)=if (doR L v).2=0 then runN (doR L v).1 (F.drop (i+1)) else ([],v.number,(doR L v).2):=by
  obtain ⟨hl,he⟩:=List.getElem?_eq_some_iff.1 hv
  rw [List.drop_eq_getElem_cons hl,he,runN]
theorem filt_step {ns:List Ntc} {p:Ntc->Bool} {i:Nat} {v:Ntc} (hv:ns[i]? =some v):(ns.drop i).filter p=if p v=true then v::(ns.drop (i+1)).filter p else (ns.drop (i+1)).filter p:=by
  obtain ⟨hl,he⟩:=List.getElem?_eq_some_iff.1 hv
  rw [List.drop_eq_getElem_cons hl,he,List.filter_cons]
theorem runN_nil (L:List Aid):runN L []=(L,0,0):=rfl
def curI (p:List Aid×Int×Int):AV:= .tup [.sl true 16 (p.1.map (Aid.cs true)),.int .i64 p.2.1,.int .i64 p.2.2]
theorem NoB.curI (p:List Aid×Int×Int):NoB (curI p):= .tupC (.rows .oAid) (.tupC (.int _ _) (.tupC (.int _ _) .tup0))
theorem callCur {E:Env} {np:Nat} {P:Program} (hE:E=stdE np P) {f:FuncId} {args:List AV} {x:List Aid×Int×Int} {K:AV->Prop} (h:AC P f args curI x) (hk:∀rs n m,rs=x.1.map (Aid.cs true)->n=x.2.1->m=x.2.2->K (.tup [.sl true 16 rs,.int .i64 n,.int .i64 m])):E.call f args K:=
  callI hE h λy hy=>hk _ _ _ (by rw [hy]) (by rw [hy]) (by rw [hy])
theorem indexNotice2_ {rs:List (List AV)} {t b:Bool} {l:List Ntc} {g:FuncId} {c0:List AV} {c1:List AV} {p:Ntc->Prop} (hl:rs=l.map (Ntc.cs b)) (hp:∀(number day kind target aNumber:Int) (aName:ByteArray) (atX atY aHeight mKind:Int) (mColors mShape mTop:ByteArray) (lKind:Int) (lLetter lColors:ByteArray) (lPeriod intensity:Int) {r_lGroup r_sectors:List (List AV)} {t_lGroup t_sectors:Bool} {lGroup:List Int} {sectors:List Scr} (h_lGroup:r_lGroup=lGroup.map intR) (h_sectors:r_sectors=sectors.map Scr.cs) ,AC Tryz.prog g (.agg [.int .i64 number,.int .i64 day,.int .i64 kind,.int .i64 target,.int .i64 aNumber,.str aName,.int .i64 atX,.int .i64 atY,.int .i64 aHeight,.int .i64 mKind,.str mColors,.str mShape,.str mTop,.int .i64 lKind,.sl t_lGroup 1 r_lGroup,.str lLetter,.str lColors,.int .i64 lPeriod,.sl t_sectors 3 r_sectors,.int .i64 intensity]::[.pp c0,.pp c1]) AV.bool (bP (p (Ntc.mk number day kind target aNumber aName atX atY aHeight mKind mColors mShape mTop lKind lGroup lLetter lColors lPeriod sectors intensity)))):AC Tryz.prog 287 [.sl t 20 rs,.fn g [.pp c0,.pp c1]] (AV.int .i64) (firstI p l):=by
  refine ac Tryz.func287 (.int _ _) λE K hE hK=>?_
  conv=>cbv
  refine lenL hE hl λn hn hb=>?_
  conv=>cbv
  refine loop1 hE [0,1,7] [8] (λ(i:Int)=>([(8,.int .i64 i)],[],l.length - i,0<=i/\Up (λj=>∀v,l[j]? =some v->¬p v) i)) [] (0) rfl rfl (by dsimp only;exact ⟨by omega,.zero (by omega)⟩) λi hi Kn hN=>?_
  (try dsimp only at hi)
  conv=>cbv
  obtain ⟨h0,hinv⟩:=hi
  repeat' first
    |(refine hN _ _ [] (by decide) rfl ⟨?_,?_⟩ ?_<;>(try dsimp only))
    |((first
   |refine idxNtc hE hl (by omega) (λnumber day kind target aNumber aName atX atY aHeight mKind mColors mShape mTop lKind lGroup lLetter lColors lPeriod sectors intensity r_lGroup r_sectors hv h_lGroup h_sectors=>?_)
   |refine q0 hE ?_
   |refine callP hE (hp _ _ _ _ _ _ _ _ _ _ _ _ _ _ _ _ _ _ (by assumption) (by assumption)) (λ_=>?_) (λ_=>?_)
   |refine B0 hE ?_|refine B1 hE ?_ ?_|refine B2 hE ?_)<;>intros<;>(try conv=>cbv))
  all_goals (try clear hN)
  all_goals first
    |omega
    |(refine hK _ ?_;rw [firstI_in h0 hv (by assumption) hinv];rfl)
    |(refine hinv.succ (λv hw=>?_) (by assumption);rw [hv] at hw;cases hw;assumption)
    |(refine hK _ ?_;rw [firstI_out (by omega) hinv];rfl)
theorem containsNotice2_ {rs:List (List AV)} {t b:Bool} {l:List Ntc} {g:FuncId} {c0:List AV} {c1:List AV} {p:Ntc->Prop} (hl:rs=l.map (Ntc.cs b)) (hp:∀(number day kind target aNumber:Int) (aName:ByteArray) (atX atY aHeight mKind:Int) (mColors mShape mTop:ByteArray) (lKind:Int) (lLetter lColors:ByteArray) (lPeriod intensity:Int) {r_lGroup r_sectors:List (List AV)} {t_lGroup t_sectors:Bool} {lGroup:List Int} {sectors:List Scr} (h_lGroup:r_lGroup=lGroup.map intR) (h_sectors:r_sectors=sectors.map Scr.cs) ,AC Tryz.prog g (.agg [.int .i64 number,.int .i64 day,.int .i64 kind,.int .i64 target,.int .i64 aNumber,.str aName,.int .i64 atX,.int .i64 atY,.int .i64 aHeight,.int .i64 mKind,.str mColors,.str mShape,.str mTop,.int .i64 lKind,.sl t_lGroup 1 r_lGroup,.str lLetter,.str lColors,.int .i64 lPeriod,.sl t_sectors 3 r_sectors,.int .i64 intensity]::[.pp c0,.pp c1]) AV.bool (bP (p (Ntc.mk number day kind target aNumber aName atX atY aHeight mKind mColors mShape mTop lKind lGroup lLetter lColors lPeriod sectors intensity)))):AC Tryz.prog 250 [.sl t 20 rs,.fn g [.pp c0,.pp c1]] AV.bool (bP (∃v∈l,p v)):=by
  refine ac Tryz.func250 (.bool _) λE K hE hK=>?_
  conv=>cbv
  refine callI hE (indexNotice2_ hl hp) λy hy=>?_
  conv=>cbv
  refine leI hE (λh=>?_) (λh=>?_)<;>conv=>cbv
  · exact finB hK (bP_true.2 (firstI_ge.1 (by omega)))
  · exact finB hK (bP_false.2 λh'=>by have:=firstI_ge.2 h';omega)
theorem inForce1_ (number day kind target aNumber:Int) (aName:ByteArray) (atX atY aHeight mKind:Int) (mColors mShape mTop:ByteArray) (lKind:Int) (lLetter lColors:ByteArray) (lPeriod intensity:Int) {r_lGroup r_sectors:List (List AV)} {t_lGroup t_sectors:Bool} {lGroup:List Int} {sectors:List Scr} (h_lGroup:r_lGroup=lGroup.map intR) (h_sectors:r_sectors=sectors.map Scr.cs) (number' day' kind' target' aNumber':Int) (aName':ByteArray) (atX' atY' aHeight' mKind':Int) (mColors' mShape' mTop':ByteArray) (lKind':Int) (lLetter' lColors':ByteArray) (lPeriod' intensity':Int) {r_lGroup' r_sectors':List (List AV)} {t_lGroup' t_sectors':Bool} {lGroup':List Int} {sectors':List Scr} (h_lGroup':r_lGroup'=lGroup'.map intR) (h_sectors':r_sectors'=sectors'.map Scr.cs) (d:Int):AC Tryz.prog 251 [.agg [.int .i64 number,.int .i64 day,.int .i64 kind,.int .i64 target,.int .i64 aNumber,.str aName,.int .i64 atX,.int .i64 atY,.int .i64 aHeight,.int .i64 mKind,.str mColors,.str mShape,.str mTop,.int .i64 lKind,.sl t_lGroup 1 r_lGroup,.str lLetter,.str lColors,.int .i64 lPeriod,.sl t_sectors 3 r_sectors,.int .i64 intensity],.pp [.int .i64 number',.int .i64 day',.int .i64 kind',.int .i64 target',.int .i64 aNumber',.str aName',.int .i64 atX',.int .i64 atY',.int .i64 aHeight',.int .i64 mKind',.str mColors',.str mShape',.str mTop',.int .i64 lKind',.sl t_lGroup' 1 r_lGroup',.str lLetter',.str lColors',.int .i64 lPeriod',.sl t_sectors' 3 r_sectors',.int .i64 intensity'],.pp [.int .i64 d]] AV.bool (bP ((λv:Ntc=>v.kind=4/\v.target=number'/\v.day<=d) (Ntc.mk number day kind target aNumber aName atX atY aHeight mKind mColors mShape mTop lKind lGroup lLetter lColors lPeriod sectors intensity))):=by
  refine ac Tryz.func251 (.bool _) λE K hE hK=>?_
  conv=>cbv
  repeat' first
    |((first
   |refine q0 hE ?_
   |refine B0 hE ?_|refine B1 hE ?_ ?_|refine B2 hE ?_)<;>intros<;>(try conv=>cbv))
  all_goals (try clear hN)
  all_goals first
    |(omega)
    |(refine finB hK (bP_true.2 ?_);first|omega|grind)
    |(refine finB hK (bP_false.2 ?_);first|omega|(intro h;grind))
    |(refine ⟨by omega,Up.succ (by assumption) ?_ (by assumption)⟩;grind)
    |(refine hK _ ?_;simp_all [atup];done)
    |(grind)
theorem inForce_ {rs:List (List AV)} {b:Bool} {l:List Ntc} (d:Int) (hl:rs=l.map (Ntc.cs b)) (hb:l.length<=1000):ACS Tryz.prog 196 [.sl false 20 rs,.int .i64 d] (λr ys=>∃rs',rs'=(forceL l d).map (Ntc.cs false)/\r= .sl true 20 rs'/\ys=[.any,.any]):=by
  refine acs 0 Tryz.func196 λE K hE hK=>?_
  conv=>cbv
  refine lenL hE hl λn hn hb2=>?_
  conv=>cbv
  refine loop2 hE [0,3,10,11] [12,5] (λ(i:Int) (es:List (List AV))=>([(12,.int .i64 i),(5,.ob 1)],[.box [.int .i64 d],.row 20 es],l.length - i,(0<=i/\i<=l.length)/\es=(selI (forceP l d) l i).map (Ntc.cs false))) [0,1] ((0,[])) rfl rfl (by dsimp only;exact ⟨by omega,by rw [selI_zero (by omega)];rfl⟩) λi es hi Kn hN=>?_
  (try dsimp only at hi)
  conv=>cbv
  obtain ⟨⟨h0,h1⟩,h2⟩:=hi
  have hlen:=selI_len (forceP l d) l i
  repeat' first
    |(refine hN (_,_) _ [0,4] (by decide) rfl ⟨?_,?_⟩ ?_<;>(try dsimp only))
    |(refine hN (_,_) _ [0,1] (by decide) rfl ⟨?_,?_⟩ ?_<;>(try dsimp only))
    |((first
   |(refine idxNtc hE hl (by omega) (λc0 c1 c2 c3 c4 c5 c6 c7 c8 c9 d0 d1 d2 d3 d4 d5 d6 d7 d8 d9 rg rx hv hg hx=>?_);(have hsel:=λm hm2=>selI_step (forceP l d) (n:=m) h0 hv hm2);simp only [forceP] at hsel)
   |refine callP hE (containsNotice2_ (p:=λv:Ntc=>v.kind=4/\v.target=c0/\v.day<=d) hl (λa0 a1 a2 a3 a4 a5 a6 a7 a8 a9 b0 b1 b2 b3 b4 b5 b6 b7 _ _ _ _ _ _ g1 g2=>inForce1_ a0 a1 a2 a3 a4 a5 a6 a7 a8 a9 b0 b1 b2 b3 b4 b5 b6 b7 g1 g2 _ _ _ _ _ _ _ _ _ _ _ _ _ _ _ _ _ _ hg hx d)) (λhc=>?_) (λhc=>?_)
   |refine q0 hE ?_
   |refine catP hE (R:=Ntc.cs false) (v:=(⟨_,_,_,_,_,_,_,_,_,_,_,_,_,_,_,_,_,_,_,_⟩:Ntc)) (by assumption) (by rw [hg,hx];rfl) (by omega) (λ_ _=>?_)
   |refine B0 hE ?_|refine B1 hE ?_ ?_|refine B2 hE ?_)<;>intros<;>(try conv=>cbv))
  all_goals (try clear hN)
  all_goals first
    |omega
    |(rw [(hsel _ (by assumption)).1 ⟨by omega,by omega,hc⟩];assumption)
    |(rw [(hsel _ (by assumption)).2 (λ⟨g1,g2,g3⟩=>by first|omega|exact g3 hc)];assumption)
    |(refine hK _ _ ⟨es,?_,rfl,rfl⟩;rw [h2,selI_all (by omega)];rfl)
theorem effect_ (number day kind target aNumber:Int) (aName:ByteArray) (atX atY aHeight mKind:Int) (mColors mShape mTop:ByteArray) (lKind:Int) (lLetter lColors:ByteArray) (lPeriod intensity:Int) {r_lGroup r_sectors:List (List AV)} {t_lGroup t_sectors:Bool} {lGroup:List Int} {sectors:List Scr} (h_lGroup:r_lGroup=lGroup.map intR) (h_sectors:r_sectors=sectors.map Scr.cs) {rs:List (List AV)} {t b:Bool} {l:List Aid} (hl:rs=l.map (Aid.cs b)) (hok:AidsOk l) (hv:kind=1∨kind=2->Aid.ok (Ntc.aid (Ntc.mk number day kind target aNumber aName atX atY aHeight mKind mColors mShape mTop lKind lGroup lLetter lColors lPeriod sectors intensity))):AC Tryz.prog 197 [.agg [.int .i64 number,.int .i64 day,.int .i64 kind,.int .i64 target,.int .i64 aNumber,.str aName,.int .i64 atX,.int .i64 atY,.int .i64 aHeight,.int .i64 mKind,.str mColors,.str mShape,.str mTop,.int .i64 lKind,.sl t_lGroup 1 r_lGroup,.str lLetter,.str lColors,.int .i64 lPeriod,.sl t_sectors 3 r_sectors,.int .i64 intensity],.sl t 16 rs] aidsI (doR l (Ntc.mk number day kind target aNumber aName atX atY aHeight mKind mColors mShape mTop lKind lGroup lLetter lColors lPeriod sectors intensity)):=by
  refine ac Tryz.func197 (.aidsI _) λE K hE hK=>?_
  conv=>cbv
  repeat' first
    |((first
   |refine callLI (R:=Aid.cs true) hE (addAid_ _ _ _ _ _ _ _ _ _ _ _ _ _ _ h_lGroup h_sectors hl hok (hv (by omega))) (λrs2 n2 hrs2 hn2=>?_)
   |refine callLI (R:=Aid.cs true) hE (replaceAid_ _ _ _ _ _ _ _ _ _ _ _ _ _ _ h_lGroup h_sectors hl hok (hv (by omega))) (λrs2 n2 hrs2 hn2=>?_)
   |refine callLI (R:=Aid.cs true) hE (dropAid_ target hl hok) (λrs2 n2 hrs2 hn2=>?_)
   |refine q0 hE ?_
   |refine B0 hE ?_|refine B1 hE ?_ ?_|refine B2 hE ?_)<;>intros<;>(try conv=>cbv))
  all_goals first
    |(refine hK _ ?_;rw [doR,if_pos (by assumption),hrs2,hn2];rfl)
    |(refine hK _ ?_;rw [doR,if_neg (by simp only;omega),if_pos (by assumption),hrs2,hn2];rfl)
    |(refine hK _ ?_;rw [doR,if_neg (by simp only;omega),if_neg (by simp only;omega),hrs2,hn2];rfl)
theorem l21Do_ (number day kind target aNumber:Int) (aName:ByteArray) (atX atY aHeight mKind:Int) (mColors mShape mTop:ByteArray) (lKind:Int) (lLetter lColors:ByteArray) (lPeriod intensity:Int) {r_lGroup r_sectors:List (List AV)} {t_lGroup t_sectors:Bool} {lGroup:List Int} {sectors:List Scr} (h_lGroup:r_lGroup=lGroup.map intR) (h_sectors:r_sectors=sectors.map Scr.cs) {rs:List (List AV)} {t b:Bool} {l:List Aid} (hl:rs=l.map (Aid.cs b)) (hok:AidsOk l) (hv:kind=1∨kind=2->Aid.ok (Ntc.aid (Ntc.mk number day kind target aNumber aName atX atY aHeight mKind mColors mShape mTop lKind lGroup lLetter lColors lPeriod sectors intensity))):AC Tryz.prog 165 [.sl t 16 rs,.pp [.int .i64 number,.int .i64 day,.int .i64 kind,.int .i64 target,.int .i64 aNumber,.str aName,.int .i64 atX,.int .i64 atY,.int .i64 aHeight,.int .i64 mKind,.str mColors,.str mShape,.str mTop,.int .i64 lKind,.sl t_lGroup 1 r_lGroup,.str lLetter,.str lColors,.int .i64 lPeriod,.sl t_sectors 3 r_sectors,.int .i64 intensity]] aidsI (doR l (Ntc.mk number day kind target aNumber aName atX atY aHeight mKind mColors mShape mTop lKind lGroup lLetter lColors lPeriod sectors intensity)):=by
  refine ac Tryz.func165 (.aidsI _) λE K hE hK=>?_
  conv=>cbv
  repeat' first
    |((first
   |refine callLI (R:=Aid.cs true) hE (l12Put_ _ _ _ _ _ _ _ _ _ _ _ _ _ _ h_lGroup h_sectors hl hok (hv (by omega))) (λrs2 n2 hrs2 hn2=>?_)
   |refine callLI (R:=Aid.cs true) hE (l12Replace_ _ _ _ _ _ _ _ _ _ _ _ _ _ _ h_lGroup h_sectors hl hok (hv (by omega))) (λrs2 n2 hrs2 hn2=>?_)
   |refine callLI (R:=Aid.cs true) hE (l12Drop_ target hl hok) (λrs2 n2 hrs2 hn2=>?_)
   |refine q0 hE ?_
   |refine B0 hE ?_|refine B1 hE ?_ ?_|refine B2 hE ?_)<;>intros<;>(try conv=>cbv))
  all_goals first
    |(refine hK _ ?_;rw [doR,if_pos (by assumption),hrs2,hn2];rfl)
    |(refine hK _ ?_;rw [doR,if_neg (by simp only;omega),if_pos (by assumption),hrs2,hn2];rfl)
    |(refine hK _ ?_;rw [doR,if_neg (by simp only;omega),if_neg (by simp only;omega),hrs2,hn2];rfl)
end Go.Proofs.YtpfddoikhmbebaaGreatDoor
