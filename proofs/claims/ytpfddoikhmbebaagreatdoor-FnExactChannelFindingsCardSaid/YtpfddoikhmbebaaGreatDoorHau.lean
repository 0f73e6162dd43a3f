/- Contracts: valid authorities. -/
import Derived.Test.YtpfddoikhmbebaaGreatDoorHnt
import Derived.Test.YtpfddoikhmbebaaGreatDoorHwk
import Derived.Test.YtpfddoikhmbebaaGreatDoorHci
import Derived.Test.YtpfddoikhmbebaaGreatDoorQg
namespace Go.Proofs.YtpfddoikhmbebaaGreatDoor
open Go Go.RowKit Classical
set_option maxRecDepth 100000
set_option maxHeartbeats 2000000
set_option linter.unusedVariables false
set_option linter.unusedSimpArgs false
theorem isTolerance_ (n:Int):AC Tryz.prog 127 [.int .i64 n] AV.bool (bP (0<=n/\n<=20)):=by
  refine ac Tryz.func127 (.bool _) λE K hE hK=>?_
  conv=>cbv
  repeat' first
    |((first
   |refine q0 hE ?_
   |refine callP hE (within_ _ _ _) (λ_=>?_) (λ_=>?_)
   |refine B0 hE ?_|refine B1 hE ?_ ?_|refine B2 hE ?_)<;>intros<;>(try conv=>cbv))
  all_goals (try clear hN)
  all_goals first
    |(omega)
    |(refine finB hK (bP_true.2 ?_);first|omega|grind)
    |(refine finB hK (bP_false.2 ?_);first|omega|(intro h;grind))
    |(refine ⟨by omega,Up.succ (by assumption) ?_ (by assumption)⟩;grind)
    |(refine hK _ ?_;simp_all [atup];done)
    |(grind)
theorem l18Tolerance_ (n:Int):AC Tryz.prog 158 [.int .i64 n] AV.bool (bP (0<=n/\n<=20)):=by
  refine ac Tryz.func158 (.bool _) λE K hE hK=>?_
  conv=>cbv
  repeat' first
    |((first
   |refine q0 hE ?_
   |refine callP hE (in_ _ _ _) (λ_=>?_) (λ_=>?_)
   |refine B0 hE ?_|refine B1 hE ?_ ?_|refine B2 hE ?_)<;>intros<;>(try conv=>cbv))
  all_goals (try clear hN)
  all_goals first
    |(omega)
    |(refine finB hK (bP_true.2 ?_);first|omega|grind)
    |(refine finB hK (bP_false.2 ?_);first|omega|(intro h;grind))
    |(refine ⟨by omega,Up.succ (by assumption) ?_ (by assumption)⟩;grind)
    |(refine hK _ ?_;simp_all [atup];done)
    |(grind)
noncomputable def curR (e:List Aid) (l:List Ntc) (d:Int):Int:=if AidsOk e/\NtcsOk l then (if 0<=d/\d<=99999 then 0 else 2) else 1
theorem curR_zero {e:List Aid} {l:List Ntc} {d:Int}:curR e l d=0↔AidsOk e/\NtcsOk l/\0<=d/\d<=99999:=by
  unfold curR
  split
  · split
    · rename_i h1 h2;exact ⟨λ_=>⟨h1.1,h1.2,h2⟩,λ_=>rfl⟩
    · rename_i h1 h2;exact ⟨λh=>by omega,λh=>absurd h.2.2 h2⟩
  · rename_i h1;exact ⟨λh=>by omega,λh=>absurd ⟨h.1,h.2.1⟩ h1⟩
theorem currentCode_ {re rn:List (List AV)} {t t' b b':Bool} {e:List Aid} {l:List Ntc} (d:Int) (he:re=e.map (Aid.cs b)) (hl:rn=l.map (Ntc.cs b')):AC Tryz.prog 122 [.sl t 16 re,.sl t' 20 rn,.int .i64 d] (AV.int .i64) (curR e l d):=by
  refine ac Tryz.func122 (.int _ _) λE K hE hK=>?_
  conv=>cbv
  repeat' first
    |((first
   |refine q0 hE ?_
   |refine callP hE (validAids_ he) (λ_=>?_) (λ_=>?_)
   |refine callP hE (validNotices_ hl) (λ_=>?_) (λ_=>?_)
   |refine callP hE (isDay_ _) (λ_=>?_) (λ_=>?_)
   |refine B0 hE ?_|refine B1 hE ?_ ?_|refine B2 hE ?_)<;>intros<;>(try conv=>cbv))
  all_goals first
    |(refine hK _ ?_;rw [curR,if_pos ⟨by assumption,by assumption⟩,if_pos (by assumption)];rfl)
    |(refine hK _ ?_;rw [curR,if_pos ⟨by assumption,by assumption⟩,if_neg (by assumption)];rfl)
    |(refine hK _ ?_;rw [curR,if_neg (λh=>absurd h.1 (by assumption))];rfl)
    |(refine hK _ ?_;rw [curR,if_neg (λh=>absurd h.2 (by assumption))];rfl)
noncomputable def voyR (n:ByteArray) (s l d x y:Int) (ws:List Wrk) (o:List Int) (t:Int):Int:=if ShpOk n s l d/\PtOk x y/\WrksOk ws then (if 0<=t/\t<=4320 then (if OrdOk ws.length o then 0 else 7) else 2) else 1
theorem voyR_zero {n:ByteArray} {s l d x y:Int} {ws:List Wrk} {o:List Int} {t:Int}:voyR n s l d x y ws o t=0↔ShpOk n s l d/\PtOk x y/\WrksOk ws/\(0<=t/\t<=4320)/\OrdOk ws.length o:=by
  unfold voyR
  split
  · rename_i h1
    split
    · rename_i h2
      split
      · rename_i h3;exact ⟨λ_=>⟨h1.1,h1.2.1,h1.2.2,h2,h3⟩,λ_=>rfl⟩
      · rename_i h3;exact ⟨λh=>by omega,λh=>absurd h.2.2.2.2 h3⟩
    · rename_i h2;exact ⟨λh=>by omega,λh=>absurd h.2.2.2.1 h2⟩
  · rename_i h1;exact ⟨λh=>by omega,λh=>absurd ⟨h.1,h.2.1,h.2.2.1⟩ h1⟩
theorem voyageCode_ (n:ByteArray) (s l d x y st:Int) {rw ro:List (List AV)} {t t':Bool} {ws:List Wrk} {o:List Int} (hw:rw=ws.map Wrk.cs) (ho:ro=o.map intR):AC Tryz.prog 129 [.agg [.str n,.int .i64 s,.int .i64 l,.int .i64 d],.agg [.int .i64 x,.int .i64 y],.sl t 7 rw,.sl t' 1 ro,.int .i64 st] (AV.int .i64) (voyR n s l d x y ws o st):=by
  refine ac Tryz.func129 (.int _ _) λE K hE hK=>?_
  conv=>cbv
  repeat' first
    |((first
   |refine q0 hE ?_
   |refine callP hE (validShip_ _ _ _ _) (λ_=>?_) (λ_=>?_)
   |refine callP hE (validPoint_ _ _) (λ_=>?_) (λ_=>?_)
   |refine callP hE (validW_ hw) (λ_=>?_) (λ_=>?_)
   |refine callP hE (isVoyageTime_ _) (λ_=>?_) (λ_=>?_)
   |refine callP hE (isOrder_ hw ho) (λ_=>?_) (λ_=>?_)
   |refine B0 hE ?_|refine B1 hE ?_ ?_|refine B2 hE ?_)<;>intros<;>(try conv=>cbv))
  all_goals first
    |(refine hK _ ?_;rw [voyR,if_pos ⟨by assumption,by assumption,by assumption⟩,if_pos (by assumption),if_pos (by assumption)];rfl)
    |(refine hK _ ?_;rw [voyR,if_pos ⟨by assumption,by assumption,by assumption⟩,if_pos (by assumption),if_neg (by assumption)];rfl)
    |(refine hK _ ?_;rw [voyR,if_pos ⟨by assumption,by assumption,by assumption⟩,if_neg (by assumption)];rfl)
    |(refine hK _ ?_;rw [voyR,if_neg (λh=>by first|exact absurd h.1 (by assumption)|exact absurd h.2.1 (by assumption)|exact absurd h.2.2 (by assumption))];rfl)
def PlcOk (f:List Fwy) (o:List Obv) (g:List Dgr) (w t:Int):Prop:=(∀v∈f,v.ok)/\(∀v∈o,v.ok)/\f.length<=8/\o.length<=16/\DgrsOk g/\(0<=w/\w<=20000)/\(0<=t/\t<=20)
def Aut.ok (a:Aut):Prop:=PlcOk a.fairways a.observers a.dangers a.away a.tolerance/\(AidsOk a.edition/\NtcsOk a.notices/\0<=a.day/\a.day<=99999)/\(RisOk 1 9999 a.full/\a.full.length<=24)/\(ShpOk a.sName a.sSpeed a.sLoad a.sDraught/\PtOk a.bX a.bY/\WrksOk a.works/\(0<=a.start/\a.start<=4320)/\OrdOk a.works.length a.order)
theorem upMem {α:Type} {l:List α} {p:α->Prop} {i:Int} (h:Up (λj=>∀w,l[j]? =some w->p w) i) (hi:l.length<=i):∀w∈l,p w:=λw hw=>by
  obtain ⟨j,hj⟩:=List.getElem?_of_mem hw
  exact h j (by have:=(List.getElem?_eq_some_iff.1 hj).1;omega) w hj
theorem ask_nil {os:List Obv}:AskOk [] os↔∀o∈os,o.ok:=⟨λh=>h.2,λh=>⟨⟨λj hj=>absurd hj (by simp),by simp⟩,h⟩⟩
set_option maxHeartbeats 8000000
theorem validAuthority_ (day away tolerance:Int) (sName:ByteArray) (sSpeed sLoad sDraught bX bY start:Int) {r_edition r_notices r_fairways r_dangers r_observers r_full r_works r_order:List (List AV)} {t_edition t_notices t_fairways t_dangers t_observers t_full t_works t_order b_edition b_notices b_fairways:Bool} {edition:List Aid} {notices:List Ntc} {fairways:List Fwy} {dangers:List Dgr} {observers:List Obv} {full order:List Int} {works:List Wrk} (h_edition:r_edition=edition.map (Aid.cs b_edition)) (h_notices:r_notices=notices.map (Ntc.cs b_notices)) (h_fairways:r_fairways=fairways.map (Fwy.cs b_fairways)) (h_dangers:r_dangers=dangers.map Dgr.cs) (h_observers:r_observers=observers.map Obv.cs) (h_full:r_full=full.map intR) (h_works:r_works=works.map Wrk.cs) (h_order:r_order=order.map intR):AC Tryz.prog 68 [.agg [.sl t_edition 16 r_edition,.sl t_notices 20 r_notices,.int .i64 day,.sl t_fairways 5 r_fairways,.sl t_dangers 4 r_dangers,.int .i64 away,.sl t_observers 4 r_observers,.int .i64 tolerance,.sl t_full 1 r_full,.str sName,.int .i64 sSpeed,.int .i64 sLoad,.int .i64 sDraught,.int .i64 bX,.int .i64 bY,.sl t_works 7 r_works,.sl t_order 1 r_order,.int .i64 start]] AV.bool (bP (Aut.ok (Aut.mk edition notices day fairways dangers away observers tolerance full sName sSpeed sLoad sDraught bX bY works order start))):=by
  refine ac Tryz.func68 (.bool _) λE K hE hK=>?_
  conv=>cbv
  refine lenL hE h_fairways λnf hnf hbf=>?_
  conv=>cbv
  refine loop1 hE [1,6,7] [8] (λ(i:Int)=>([(8,.int .i64 i)],[.box [.sl t_edition 16 r_edition,.sl t_notices 20 r_notices,.int .i64 day,.sl t_fairways 5 r_fairways,.sl t_dangers 4 r_dangers,.int .i64 away,.sl t_observers 4 r_observers,.int .i64 tolerance,.sl t_full 1 r_full,.str sName,.int .i64 sSpeed,.int .i64 sLoad,.int .i64 sDraught,.int .i64 bX,.int .i64 bY,.sl t_works 7 r_works,.sl t_order 1 r_order,.int .i64 start]],fairways.length - i,0<=i/\Up (λj=>∀w,fairways[j]? =some w->Fwy.ok w) i)) [0] (0) rfl rfl (by dsimp only;exact ⟨by omega,.zero (by omega)⟩) λi hi Kn hN=>?_
  (try dsimp only at hi)
  conv=>cbv
  obtain ⟨h0,hinv⟩:=hi
  refine ltI hE (λhlt=>?_) (λhge=>?_)<;>conv=>cbv
  · refine idxFwy hE h_fairways (by omega) λf1 f2 f3 f4 f5 rln hv hln=>?_
    conv=>cbv
    refine callP hE (isFairway_ _ _ _ _ hln) (λh1=>?_) (λh1=>?_)<;>conv=>cbv
    · skip
      repeat' first
        |(refine hN _ _ [0] (by decide) rfl ⟨?_,?_⟩ ?_<;>(try dsimp only))
        |((first
       |refine q0 hE ?_
       |refine B0 hE ?_|refine B1 hE ?_ ?_|refine B2 hE ?_)<;>intros<;>(try conv=>cbv))
      all_goals (try clear hN)
      all_goals first
        |omega
        |(refine hinv.succ (λw hw=>?_) (by assumption);rw [hv] at hw;cases hw;exact h1)
    · exact finB hK (bP_false.2 λh=>h1 (h.1.1 _ (List.mem_of_getElem? hv)))
  · have hall:=upMem hinv (by omega)
    clear hN hinv
    refine callI hE (currentCode_ day h_edition h_notices) λc hc=>?_
    conv=>cbv
    refine eqI hE (λh1=>?_) (λh1=>?_)<;>conv=>cbv
    · have h1':=curR_zero.1 (hc.symm.trans h1)
      repeat' first
        |((first
       |refine lenL hE h_fairways (λ_ _ _=>?_)
       |refine lenL hE h_observers (λ_ _ _=>?_)
       |refine callI hE (voyageCode_ _ _ _ _ _ _ _ h_works h_order) (λv hv=>?_)
       |refine q0 hE ?_
       |refine callP hE (few_ _ _) (λ_=>?_) (λ_=>?_)
       |refine callP hE (validD_ h_dangers) (λ_=>?_) (λ_=>?_)
       |refine callP hE (isAway_ _) (λ_=>?_) (λ_=>?_)
       |refine callP hE (AC.nil0 (t:=true) (areObservers_ (b:=true) (l:=[]) (rs:=[]) rfl h_observers)) (λ_=>?_) (λ_=>?_)
       |refine callP hE (isTolerance_ _) (λ_=>?_) (λ_=>?_)
       |refine callP hE (areFull_ h_full) (λ_=>?_) (λ_=>?_)
       |refine B0 hE ?_|refine B1 hE ?_ ?_|refine B2 hE ?_)<;>intros<;>(try conv=>cbv))
      all_goals first
        |(refine finB hK (bP_true.2 ?_);unfold Aut.ok PlcOk;dsimp only;exact ⟨⟨hall,ask_nil.1 (by assumption),by omega,by omega,by assumption,by assumption,by assumption⟩,h1',by assumption,voyR_zero.1 (hv.symm.trans (by assumption))⟩)
        |(refine finB hK (bP_false.2 λh=>?_);have h2:=voyR_zero.2 h.2.2.2;simp only at h2;omega)
        |(refine finB hK (bP_false.2 λh=>?_);have h2:=h.2.2.1;simp only at h2;contradiction)
        |(refine finB hK (bP_false.2 λh=>?_);have h2:=h.1.2.2.1;have h3:=h.1.2.2.2.1;simp only at h2 h3;omega)
        |(refine finB hK (bP_false.2 λh=>?_);have h2:=h.1.2.2.2.2.1;simp only at h2;contradiction)
        |(refine finB hK (bP_false.2 λh=>?_);have h2:=h.1.2.2.2.2.2.1;simp only at h2;contradiction)
        |(refine finB hK (bP_false.2 λh=>?_);have h2:=h.1.2.2.2.2.2.2;simp only at h2;contradiction)
        |(refine finB hK (bP_false.2 λh=>?_);have h2:=ask_nil.2 h.1.2.1;simp only at h2;contradiction)
    · exact finB hK (bP_false.2 λh=>h1 (hc.trans (curR_zero.2 h.2.1)))
theorem l31Places_ (day away tolerance:Int) (sName:ByteArray) (sSpeed sLoad sDraught bX bY start:Int) {r_edition r_notices r_fairways r_dangers r_observers r_full r_works r_order:List (List AV)} {t_edition t_notices t_fairways t_dangers t_observers t_full t_works t_order b_edition b_notices b_fairways:Bool} {edition:List Aid} {notices:List Ntc} {fairways:List Fwy} {dangers:List Dgr} {observers:List Obv} {full order:List Int} {works:List Wrk} (h_edition:r_edition=edition.map (Aid.cs b_edition)) (h_notices:r_notices=notices.map (Ntc.cs b_notices)) (h_fairways:r_fairways=fairways.map (Fwy.cs b_fairways)) (h_dangers:r_dangers=dangers.map Dgr.cs) (h_observers:r_observers=observers.map Obv.cs) (h_full:r_full=full.map intR) (h_works:r_works=works.map Wrk.cs) (h_order:r_order=order.map intR):AC Tryz.prog 93 [.pp [.sl t_edition 16 r_edition,.sl t_notices 20 r_notices,.int .i64 day,.sl t_fairways 5 r_fairways,.sl t_dangers 4 r_dangers,.int .i64 away,.sl t_observers 4 r_observers,.int .i64 tolerance,.sl t_full 1 r_full,.str sName,.int .i64 sSpeed,.int .i64 sLoad,.int .i64 sDraught,.int .i64 bX,.int .i64 bY,.sl t_works 7 r_works,.sl t_order 1 r_order,.int .i64 start]] AV.bool (bP (PlcOk fairways observers dangers away tolerance)):=by
  refine ac Tryz.func93 (.bool _) λE K hE hK=>?_
  conv=>cbv
  repeat' first
    |((refine loop1 hE [0] [3] (λ(i:Int)=>([(3,.int .i64 i)],[],fairways.length - i,0<=i/\Up (λj=>∀w,fairways[j]? =some w->Fwy.ok w) i)) [] (0) rfl rfl (by dsimp only;exact ⟨by omega,.zero (by omega)⟩) λi hi2 Kn2 hN2=>?_;(try dsimp only at hi2);conv=>cbv);obtain ⟨h02,hinv2⟩:=hi2)
    |((refine loop1 hE [0] [4] (λ(i:Int)=>([(4,.int .i64 i)],[],observers.length - i,0<=i/\Up (λj=>∀w,observers[j]? =some w->Obv.ok w) i)) [] (0) rfl rfl (by dsimp only;exact ⟨by omega,.zero (by omega)⟩) λi hi3 Kn3 hN3=>?_;(try dsimp only at hi3);conv=>cbv);obtain ⟨h03,hinv3⟩:=hi3)
    |(refine hN3 _ _ [] (by decide) rfl ⟨?_,?_⟩ ?_<;>(try dsimp only))
    |(refine hN2 _ _ [] (by decide) rfl ⟨?_,?_⟩ ?_<;>(try dsimp only))
    |((first
   |refine lenL hE h_fairways (λ_ _ _=>?_)
   |refine lenL hE h_observers (λ_ _ _=>?_)
   |refine idxFwy hE h_fairways (by omega) (λf1 f2 f3 f4 f5 rln hv hln=>?_)
   |(refine idxL (R:=Obv.cs) hE h_observers (by omega) (λo ho=>?_);obtain ⟨ox,oy,oe,ov⟩:=o)
   |refine q0 hE ?_
   |refine callP hE (l31Fairway_ _ _ _ _ hln) (λ_=>?_) (λ_=>?_)
   |refine callP hE (l16One_ _ _ _ _) (λ_=>?_) (λ_=>?_)
   |refine callP hE (sD_ h_dangers) (λ_=>?_) (λ_=>?_)
   |refine callP hE (in_ _ _ _) (λ_=>?_) (λ_=>?_)
   |refine callP hE (l18Tolerance_ _) (λ_=>?_) (λ_=>?_)
   |refine B0 hE ?_|refine B1 hE ?_ ?_|refine B2 hE ?_)<;>intros<;>(try conv=>cbv))
  all_goals (try clear hN2)
  all_goals (try clear hN3)
  all_goals first
    |omega
    |(refine hinv2.succ (λw hw=>?_) (by assumption);rw [hv] at hw;cases hw;assumption)
    |(refine hinv3.succ (λw hw=>?_) (by assumption);rw [ho] at hw;cases hw;assumption)
    |exact finB hK (bP_true.2 ⟨upMem hinv2 (by omega),upMem hinv3 (by omega),by omega,by omega,by assumption,by assumption,by assumption⟩)
    |(refine finB hK (bP_false.2 λh=>?_);have h2:=h.1 _ (List.mem_of_getElem? hv);contradiction)
    |(refine finB hK (bP_false.2 λh=>?_);have h2:=h.2.1 _ (List.mem_of_getElem? ho);contradiction)
    |(refine finB hK (bP_false.2 λh=>?_);have h2:=h.2.2.1;have h3:=h.2.2.2.1;omega)
    |(refine finB hK (bP_false.2 λh=>?_);have h2:=h.2.2.2.2.1;contradiction)
    |(refine finB hK (bP_false.2 λh=>?_);have h2:=h.2.2.2.2.2.1;contradiction)
    |(refine finB hK (bP_false.2 λh=>?_);have h2:=h.2.2.2.2.2.2;contradiction)
theorem l31Ok_ (day away tolerance:Int) (sName:ByteArray) (sSpeed sLoad sDraught bX bY start:Int) {r_edition r_notices r_fairways r_dangers r_observers r_full r_works r_order:List (List AV)} {t_edition t_notices t_fairways t_dangers t_observers t_full t_works t_order b_edition b_notices b_fairways:Bool} {edition:List Aid} {notices:List Ntc} {fairways:List Fwy} {dangers:List Dgr} {observers:List Obv} {full order:List Int} {works:List Wrk} (h_edition:r_edition=edition.map (Aid.cs b_edition)) (h_notices:r_notices=notices.map (Ntc.cs b_notices)) (h_fairways:r_fairways=fairways.map (Fwy.cs b_fairways)) (h_dangers:r_dangers=dangers.map Dgr.cs) (h_observers:r_observers=observers.map Obv.cs) (h_full:r_full=full.map intR) (h_works:r_works=works.map Wrk.cs) (h_order:r_order=order.map intR):AC Tryz.prog 56 [.pp [.sl t_edition 16 r_edition,.sl t_notices 20 r_notices,.int .i64 day,.sl t_fairways 5 r_fairways,.sl t_dangers 4 r_dangers,.int .i64 away,.sl t_observers 4 r_observers,.int .i64 tolerance,.sl t_full 1 r_full,.str sName,.int .i64 sSpeed,.int .i64 sLoad,.int .i64 sDraught,.int .i64 bX,.int .i64 bY,.sl t_works 7 r_works,.sl t_order 1 r_order,.int .i64 start]] AV.bool (bP (Aut.ok (Aut.mk edition notices day fairways dangers away observers tolerance full sName sSpeed sLoad sDraught bX bY works order start))):=by
  refine ac Tryz.func56 (.bool _) λE K hE hK=>?_
  conv=>cbv
  repeat' first
    |((first
   |refine lenL hE h_full (λ_ _ _=>?_)
   |refine q0 hE ?_
   |refine callP hE (l12Ok_ h_edition) (λ_=>?_) (λ_=>?_)
   |refine callP hE (l21Ok_ h_notices) (λ_=>?_) (λ_=>?_)
   |refine callP hE (l03Day_ _) (λ_=>?_) (λ_=>?_)
   |refine callP hE (l31Places_ _ _ _ _ _ _ _ _ _ _ h_edition h_notices h_fairways h_dangers h_observers h_full h_works h_order) (λ_=>?_) (λ_=>?_)
   |refine callP hE (l00Rises_ _ _ h_full) (λ_=>?_) (λ_=>?_)
   |refine callP hE (AC.tl1 (l25Ship_ _ _ _ _)) (λ_=>?_) (λ_=>?_)
   |refine callP hE (l02Ok_ _ _) (λ_=>?_) (λ_=>?_)
   |refine callP hE (sW_ h_works) (λ_=>?_) (λ_=>?_)
   |refine callP hE (l25Order_ h_works h_order) (λ_=>?_) (λ_=>?_)
   |refine callP hE (in_ _ _ _) (λ_=>?_) (λ_=>?_)
   |refine B0 hE ?_|refine B1 hE ?_ ?_|refine B2 hE ?_)<;>intros<;>(try conv=>cbv))
  all_goals first
    |(refine finB hK (bP_true.2 ?_);unfold Aut.ok;dsimp only;exact ⟨by assumption,⟨by assumption,by assumption,by assumption⟩,⟨by assumption,by omega⟩,by assumption,by assumption,by assumption,by omega,by assumption⟩)
    |(refine finB hK (bP_false.2 λh=>?_);obtain ⟨e1,⟨e2,e3,e4⟩,⟨e5,e6⟩,e7,e8,e9,e10,e11⟩:=h;simp only at e1 e2 e3 e4 e5 e6 e7 e8 e9 e10 e11;first|contradiction|omega)
end Go.Proofs.YtpfddoikhmbebaaGreatDoor
