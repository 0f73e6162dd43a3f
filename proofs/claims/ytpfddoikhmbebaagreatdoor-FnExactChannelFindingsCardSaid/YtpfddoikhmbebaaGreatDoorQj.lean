/- Contracts: sines, bearings; Contracts: sectors; Contracts: the colors of sectors. -/
import Derived.Test.YtpfddoikhmbebaaGreatDoorFC
namespace Go.Proofs.YtpfddoikhmbebaaGreatDoor
open Go Go.RowKit Classical
set_option maxRecDepth 100000
set_option maxHeartbeats 2000000
set_option linter.unusedVariables false
set_option linter.unusedSimpArgs false
set_option maxHeartbeats 4000000
set_option maxHeartbeats 2000000
theorem modulo_ (a:Int):AC Tryz.prog 374 [.int .i64 a,.int .i64 360] (AV.int .i64) (a % 360):=by
  refine ac Tryz.func374 (.int _ _) λE K hE hK=>?_
  conv=>cbv
  have hb:=tmod_bd a
  repeat' first
    |((first
   |refine remI hE (λm hm=>?_)
   |refine q0 hE ?_
   |refine B0 hE ?_|refine B1 hE ?_ ?_|refine B2 hE ?_)<;>intros<;>(try conv=>cbv))
  all_goals first
    |(exact hK _ (by subst_vars;rw [angR];rfl))
theorem isBearing_ (n:Int):AC Tryz.prog 372 [.int .i64 n] AV.bool (bP (0<=n/\n<=359)):=by
  refine ac Tryz.func372 (.bool _) λE K hE hK=>?_
  conv=>cbv
  repeat' first
    |((first
   |refine q0 hE ?_
   |refine callP hE (within_ _ _ _) (λ_=>?_) (λ_=>?_)
   |refine B0 hE ?_|refine B1 hE ?_ ?_|refine B2 hE ?_)<;>intros<;>(try conv=>cbv))
  all_goals (try clear hN)
  all_goals first
    |(omega)
    |(refine finB hK (bP_true.2 ?_);first|omega|grind)
    |(refine finB hK (bP_false.2 ?_);first|omega|(intro h;grind))
    |(refine ⟨by omega,Up.succ (by assumption) ?_ (by assumption)⟩;grind)
    |(refine hK _ ?_;simp_all [atup];done)
    |(grind)
theorem isCol_B (c:UInt8):bP (isCol ⟨#[c]⟩)=decide (0<=Lib.indexByte cAll.data.toList c):=by
  have h:=isCol_iff (s:=⟨#[c]⟩) rfl
  apply bP_eq
  rw [decide_eq_true_iff]
  exact h.symm
theorem isColor_ (s:ByteArray):AC Tryz.prog 373 [.str s] AV.bool (bP (isCol s)):=by
  refine ac Tryz.func373 (.bool _) λE K hE hK=>?_
  conv=>cbv
  refine slenI hE λn hn hb=>?_
  conv=>cbv
  refine eqI hE (λh1=>?_) (λh1=>?_)<;>conv=>cbv
  · obtain ⟨c,rfl⟩:∃c,s=⟨#[c]⟩:=⟨_,size1 (by omega)⟩
    refine callB hE (containsOne_ cAll c) (λh=>?_) (λh=>?_)<;>conv=>cbv
    · exact finB hK (by rw [isCol_B];exact h)
    · exact finB hK (by rw [isCol_B];exact h)
  · exact finB hK (bP_false.2 λh=>by have:=isCol_size h;omega)
theorem l08Color_ (s:ByteArray):AC Tryz.prog 320 [.str s] AV.bool (bP (isCol s)):=by
  refine ac Tryz.func320 (.bool _) λE K hE hK=>?_
  conv=>cbv
  repeat' first
    |((first
   |refine q0 hE ?_
   |refine B0 hE ?_|refine B1 hE ?_ ?_|refine B2 hE ?_)<;>intros<;>(try conv=>cbv))
  all_goals first
    |(refine finB hK (bP_true.2 ?_);first|exact .inl (by assumption)|exact .inr (.inl (by assumption))|exact .inr (.inr (.inl (by assumption)))|exact .inr (.inr (.inr (by assumption))))
    |(refine finB hK (bP_false.2 ?_);rintro (h|h|h|h)<;>contradiction)
theorem validSector_ (f u:Int) (c:ByteArray):AC Tryz.prog 341 [.agg [.int .i64 f,.int .i64 u,.str c]] AV.bool (bP (ScrOk f u c)):=by
  refine ac Tryz.func341 (.bool _) λE K hE hK=>?_
  conv=>cbv
  repeat' first
    |((first
   |refine q0 hE ?_
   |refine callP hE (isBearing_ _) (λ_=>?_) (λ_=>?_)
   |refine callP hE (isColor_ _) (λ_=>?_) (λ_=>?_)
   |refine B0 hE ?_|refine B1 hE ?_ ?_|refine B2 hE ?_)<;>intros<;>(try conv=>cbv))
  all_goals (try clear hN)
  all_goals first
    |(omega)
    |(refine finB hK (bP_true.2 ?_);first|omega|grind [ScrOk])
    |(refine finB hK (bP_false.2 ?_);first|omega|(intro h;grind [ScrOk]))
    |(refine ⟨by omega,Up.succ (by assumption) ?_ (by assumption)⟩;grind [ScrOk])
    |(refine hK _ ?_;simp_all [atup,ScrOk];done)
    |(grind [ScrOk])
theorem arc_ (f u:Int) (c:ByteArray) (h:(0<=f/\f<=359)/\0<=u/\u<=359):AC Tryz.prog 343 [.agg [.int .i64 f,.int .i64 u,.str c]] (AV.int .i64) (arcR f u):=by
  refine ac Tryz.func343 (.int _ _) λE K hE hK=>?_
  conv=>cbv
  repeat' first
    |((first
   |refine q0 hE ?_
   |refine callI hE (modulo_ _) (λ_ _=>?_)
   |refine B0 hE ?_|refine B1 hE ?_ ?_|refine B2 hE ?_)<;>intros<;>(try conv=>cbv))
  all_goals (refine hK _ ?_;show AV.int _ _=AV.int _ _;congr 1;unfold arcR;subst_vars;first|rfl|omega)
def hasW (f u b:Int):Prop:=(IntKind.i64.wrap (b - f)) % 360<arcR f u
theorem hasW_in {f u b:Int} (hf:0<=f/\f<=359) (hb:0<=b/\b<=359):hasW f u b↔hasR f u b:=by
  unfold hasW hasR
  rw [IntWalk.i64_in _ ⟨by omega,by omega⟩]
theorem has_ (f u b:Int) (c:ByteArray) (h:(0<=f/\f<=359)/\0<=u/\u<=359):AC Tryz.prog 342 [.agg [.int .i64 f,.int .i64 u,.str c],.int .i64 b] AV.bool (bP (hasW f u b)):=by
  refine ac Tryz.func342 (.bool _) λE K hE hK=>?_
  conv=>cbv
  repeat' first
    |((first
   |refine subI hE (λ_ _=>?_)
   |refine q0 hE ?_
   |refine callI hE (modulo_ _) (λ_ _=>?_)
   |refine callI hE (arc_ f u c h) (λ_ _=>?_)
   |refine B0 hE ?_|refine B1 hE ?_ ?_|refine B2 hE ?_)<;>intros<;>(try conv=>cbv))
  all_goals first
    |(refine finB hK (bP_true.2 ?_);unfold hasW;subst_vars;assumption)
    |(refine finB hK (bP_false.2 ?_);unfold hasW;subst_vars;omega)
theorem l08Ends_ (f u:Int) (tl:List AV):AC Tryz.prog 319 [.pp (.int .i64 f:: .int .i64 u::tl)] AV.bool (bP ((0<=f/\f<=359)/\0<=u/\u<=359)):=by
  refine ac Tryz.func319 (.bool _) λE K hE hK=>?_
  conv=>cbv
  repeat' first
    |((first
   |refine q0 hE ?_
   |refine callP hE (in_ _ _ _) (λ_=>?_) (λ_=>?_)
   |refine B0 hE ?_|refine B1 hE ?_ ?_|refine B2 hE ?_)<;>intros<;>(try conv=>cbv))
  all_goals (try clear hN)
  all_goals first
    |(omega)
    |(refine finB hK (bP_true.2 ?_);first|omega|grind)
    |(refine finB hK (bP_false.2 ?_);first|omega|(intro h;grind))
    |(refine ⟨by omega,Up.succ (by assumption) ?_ (by assumption)⟩;grind)
    |(refine hK _ ?_;simp_all [atup];done)
    |(grind)
theorem l08One_ (f u:Int) (c:ByteArray):AC Tryz.prog 268 [.pp [.int .i64 f,.int .i64 u,.str c]] AV.bool (bP (ScrOk f u c)):=by
  refine ac Tryz.func268 (.bool _) λE K hE hK=>?_
  conv=>cbv
  repeat' first
    |((first
   |refine q0 hE ?_
   |refine callP hE (l08Ends_ _ _ _) (λ_=>?_) (λ_=>?_)
   |refine callP hE (l08Color_ _) (λ_=>?_) (λ_=>?_)
   |refine B0 hE ?_|refine B1 hE ?_ ?_|refine B2 hE ?_)<;>intros<;>(try conv=>cbv))
  all_goals (try clear hN)
  all_goals first
    |(omega)
    |(refine finB hK (bP_true.2 ?_);first|omega|grind [ScrOk])
    |(refine finB hK (bP_false.2 ?_);first|omega|(intro h;grind [ScrOk]))
    |(refine ⟨by omega,Up.succ (by assumption) ?_ (by assumption)⟩;grind [ScrOk])
    |(refine hK _ ?_;simp_all [atup,ScrOk];done)
    |(grind [ScrOk])
theorem l08Arc_ (f u:Int) (c:ByteArray) (h:(0<=f/\f<=359)/\0<=u/\u<=359):AC Tryz.prog 175 [.pp [.int .i64 f,.int .i64 u,.str c]] (AV.int .i64) (arcR f u):=by
  refine ac Tryz.func175 (.int _ _) λE K hE hK=>?_
  conv=>cbv
  repeat' first
    |((first
   |refine q0 hE ?_
   |refine B0 hE ?_|refine B1 hE ?_ ?_|refine B2 hE ?_)<;>intros<;>(try conv=>cbv))
  all_goals (refine hK _ ?_;show AV.int _ _=AV.int _ _;congr 1;unfold arcR;omega)
def ScsW (l:List Scr) (i:Int):Prop:=∀(j k:Nat) s u,(j:Int)<i->j≠k->l[j]? =some s->l[k]? =some u->¬hasW s.frm s.til u.frm
theorem scsW_ap {l:List Scr} (h:∀j,j<l.length->ScrC l j) (hw:ScsW l l.length):ScsAp l:=λi k s u hik hs hu=>by
  have h1:=hw i k s u (by have:=(List.getElem?_eq_some_iff.1 hs).1;omega) hik hs hu
  have h2:=scr_at h hs
  have h3:=scr_at h hu
  rwa [hasW_in h2.1 h3.1] at h1
theorem scsOk_W {l:List Scr} (h:ScsOk l) {j k:Nat} {s u:Scr} (hjk:j≠k) (hs:l[j]? =some s) (hu:l[k]? =some u):¬hasW s.frm s.til u.frm:=by
  have h2:=scr_at h.1 hs
  have h3:=scr_at h.1 hu
  rw [hasW_in h2.1 h3.1]
  exact h.2.2 j k s u hjk hs hu
theorem scrC_bad {l:List Scr} {i:Int} {s:Scr} (hs:l[i.toNat]? =some s) (h:¬ScrOk s.frm s.til s.color):¬ScsOk l:=λhk=>h (scr_at hk.1 hs)
theorem scrC_no {l:List Scr} {i:Int} {s p:Scr} (h0:0<i) (hs:l[i.toNat]? =some s) (hp:l[(i - 1).toNat]? =some p) (h:s.frm<=p.frm):¬ScsOk l:=λhk=>by
  have:=scr_inc hk.1 hp i.toNat s (by omega) hs;omega
theorem scrC_of {l:List Scr} {i:Int} {s:Scr} (h0:0<=i) (hs:l[i.toNat]? =some s) (hk:ScrOk s.frm s.til s.color) (h:i<=0∨∃p,l[(i - 1).toNat]? =some p/\p.frm<s.frm):ScrC l i.toNat:=
  ⟨s,hs,hk,λhi=>by
    rcases h with h|⟨p,h1,h2⟩
    · omega
    · exact ⟨p,by rw [show i.toNat - 1=(i - 1).toNat by omega];exact h1,h2⟩⟩
theorem ScsW.succ {l:List Scr} {i n:Int} {s:Scr} (h0:0<=i) (h:ScsW l i) (hn:n=i+1) (hs:l[i.toNat]? =some s) (hk:∀(k:Nat) u,(k:Int)≠i->l[k]? =some u->¬hasW s.frm s.til u.frm):ScsW l n:=λj k s' u hj hjk hs' hu=>by
  by_cases e:(j:Int)<i
  · exact h j k s' u e hjk hs' hu
  · have e2:j=i.toNat:=by omega
    subst e2
    rw [hs] at hs';cases hs'
    exact hk k u (by omega) hu
theorem validSectors_ {rs:List (List AV)} {t:Bool} {l:List Scr} (hl:rs=l.map Scr.cs):AC Tryz.prog 302 [.sl t 3 rs] AV.bool (bP (ScsOk l)):=by
  refine ac Tryz.func302 (.bool _) λE K hE hK=>?_
  conv=>cbv
  refine lenL hE hl λn hn hb=>?_
  conv=>cbv
  refine loop2 hE [0,8,9] [10,3] (λ(i total:Int)=>([(10,.int .i64 i),(3,.int .i64 total)],[],n - i,(0<=i/\i<=l.length)/\Up (ScrC l) i/\ScsW l i/\(l.length<=12->total=(sumTo arcN l i:Nat)/\total<=360*i))) [] ((0,0)) rfl rfl (by dsimp only;exact ⟨by omega,.zero (by omega),λj k s u hj=>by omega,λ_=>by rw [sumTo_zero (by omega)];omega⟩) λi total hi Kn hN=>?_
  (try dsimp only at hi)
  conv=>cbv
  obtain ⟨h0,hinv,hw,htot⟩:=hi
  refine ltI hE (λhlt=>?_) (λhge=>?_)<;>conv=>cbv
  · refine idxL (R:=Scr.cs) hE hl (by omega) λv hv=>?_
    obtain ⟨f,u,c⟩:=v
    have hsum:=sumTo_succ arcN h0.1 hv
    have harc:=arcN_bd ⟨f,u,c⟩
    simp only at harc
    conv=>cbv
    refine callP hE (validSector_ f u c) (λhok=>?_) (λhok=>?_)<;>conv=>cbv
    · have hrg:(0<=f/\f<=359)/\0<=u/\u<=359:=⟨hok.1,hok.2.1⟩
      repeat' first
        |((refine loop1 hE [0,3,4,5,8,9,10,33,34] [35] (λ(k:Int)=>([(35,.int .i64 k)],[.box [.int .i64 f,.int .i64 u,.str c]],n - k,(0<=k/\k<=l.length)/\∀(m:Nat) u2,(m:Int)<k->(m:Int)≠i->l[m]? =some u2->¬hasW f u u2.frm)) [0] (0) rfl rfl (by dsimp only;exact ⟨by omega,λm u2 hm=>by omega⟩) λk hi2 Kn2 hN2=>?_;(try dsimp only at hi2);conv=>cbv);obtain ⟨h3,hin⟩:=hi2)
        |(refine hN (_,_) _ [] (by decide) rfl ⟨?_,?_,?_,?_⟩ ?_<;>(try dsimp only))
        |(refine hN2 _ _ [0] (by decide) rfl ⟨?_,?_⟩ ?_<;>(try dsimp only))
        |((first
       |refine sub64 hE (by omega) (λq hq=>?_)
       |refine idxV hE hl (by omega) hv ?_
       |(refine idxL (R:=Scr.cs) hE hl (by omega) (λv2 hv2=>?_);obtain ⟨f2,u2,c2⟩:=v2)
       |(refine callI hE (arc_ f u c hrg) (λa ha=>?_);(try conv=>cbv);refine addI hE (λtot2 htot2=>?_))
       |refine q0 hE ?_
       |refine callP hE (has_ f u _ c hrg) (λ_=>?_) (λ_=>?_)
       |refine B0 hE ?_|refine B1 hE ?_ ?_|refine B2 hE ?_)<;>intros<;>(try conv=>cbv))
      all_goals (try clear hN)
      all_goals (try clear hN2)
      all_goals first
        |omega
        |(refine hinv.succ (scrC_of h0.1 hv hok (.inl (by omega))) (by assumption))
        |(refine hinv.succ (scrC_of h0.1 hv hok (.inr ⟨_,hq ▸ hv2,by omega⟩)) (by assumption))
        |(refine hw.succ h0.1 (by assumption) hv λm u2 hm hu=>hin m u2 (by have:=(List.getElem?_eq_some_iff.1 hu).1;omega) hm hu)
        |(intro h12;obtain ⟨g1,g2⟩:=htot h12;rw [IntWalk.i64_in _ ⟨by omega,by omega⟩] at htot2;rename_i hi1;rw [hi1,hsum];omega)
        |(intro m u3 hm hmi hu;by_cases e:(m:Int)=k;(rw [show m=k.toNat by omega,hv2] at hu;cases hu;assumption);exact hin m u3 (by omega) hmi hu)
        |(intro m u3 hm hmi hu;exact hin m u3 (by omega) hmi hu)
        |(refine finB hK (bP_false.2 (scrC_no (by omega) hv (hq ▸ hv2) (by omega))))
        |(refine finB hK (bP_false.2 λh=>?_);exact absurd (by assumption) (scsOk_W h (j:=i.toNat) (k:=k.toNat) (by omega) hv hv2))
    · exact finB hK (bP_false.2 (scrC_bad hv hok))
  · have hall:∀j,j<l.length->ScrC l j:=hinv.all (by omega)
    have hap:l.length<=12->ScsAp l/\sumTo arcN l l.length<=360:=λ_=>by
      have h1:ScsAp l:=scsW_ap hall (by rw [show (l.length:Int)=i by omega];exact hw)
      exact ⟨h1,scs_total hall h1⟩
    have hil:i=l.length:=by omega
    rw [hil] at htot
    repeat' first
      |((first
     |refine q0 hE ?_
     |refine callP hE (few_ _ _) (λ_=>?_) (λ_=>?_)
     |refine B0 hE ?_|refine B1 hE ?_ ?_|refine B2 hE ?_)<;>intros<;>(try conv=>cbv))
    all_goals (try clear hN)
    all_goals first
      |(refine finB hK (bP_true.2 ⟨hall,by omega,(hap (by omega)).1⟩))
      |(exfalso;have h1:=hap (by omega);have h2:=htot (by omega);omega)
      |(refine finB hK (bP_false.2 λh=>?_);have:=h.2.1;omega)
theorem l08Ok_ {rs:List (List AV)} {t:Bool} {l:List Scr} (hl:rs=l.map Scr.cs):AC Tryz.prog 214 [.sl t 3 rs] AV.bool (bP (ScsOk l)):=by
  refine ac Tryz.func214 (.bool _) λE K hE hK=>?_
  conv=>cbv
  refine lenL hE hl λn hn hb=>?_
  conv=>cbv
  refine ltI hE (λh12=>?_) (λh12=>?_)<;>conv=>cbv
  · exact finB hK (bP_false.2 λh=>by have:=h.2.1;omega)
  refine loop1 hE [0,3] [4] (λ(i:Int)=>([(4,.int .i64 i)],[],n - i,(0<=i/\i<=l.length)/\Up (ScrC l) i)) [] (0) rfl rfl (by dsimp only;exact ⟨by omega,.zero (by omega)⟩) λi hi Kn hN=>?_
  (try dsimp only at hi)
  conv=>cbv
  obtain ⟨h0,hinv⟩:=hi
  refine ltI hE (λhlt=>?_) (λhge=>?_)<;>conv=>cbv
  · refine idxL (R:=Scr.cs) hE hl (by omega) λv hv=>?_
    obtain ⟨f,u,c⟩:=v
    conv=>cbv
    refine callP hE (l08One_ f u c) (λhok=>?_) (λhok=>?_)<;>conv=>cbv
    · skip
      repeat' first
        |(refine hN _ _ [] (by decide) rfl ⟨?_,?_⟩ ?_<;>(try dsimp only))
        |((first
       |refine sub64 hE (by omega) (λq hq=>?_)
       |refine idxV hE hl (by omega) hv ?_
       |(refine idxL (R:=Scr.cs) hE hl (by omega) (λv2 hv2=>?_);obtain ⟨f2,u2,c2⟩:=v2)
       |refine q0 hE ?_
       |refine B0 hE ?_|refine B1 hE ?_ ?_|refine B2 hE ?_)<;>intros<;>(try conv=>cbv))
      all_goals (try clear hN)
      all_goals first
        |omega
        |(refine hinv.succ (scrC_of h0.1 hv hok (.inl (by omega))) (by assumption))
        |(refine hinv.succ (scrC_of h0.1 hv hok (.inr ⟨_,hq ▸ hv2,by omega⟩)) (by assumption))
        |(refine finB hK (bP_false.2 (scrC_no (by omega) hv (hq ▸ hv2) (by omega))))
    · exact finB hK (bP_false.2 (scrC_bad hv hok))
  · have hall:∀j,j<l.length->ScrC l j:=hinv.all (by omega)
    clear hN
    refine loop1 hE [0,3] [5] (λ(i:Int)=>([(5,.int .i64 i)],[],n - i,(0<=i/\i<=l.length)/\Up (ScsNx l) i)) [] (0) rfl rfl (by dsimp only;exact ⟨by omega,.zero (by omega)⟩) λi hi Kn hN=>?_
    (try dsimp only at hi)
    conv=>cbv
    obtain ⟨h0,hnx⟩:=hi
    refine ltI hE (λhlt=>?_) (λhge=>?_)<;>conv=>cbv
    · refine ltI hE (λh1=>?_) (λh1=>?_)<;>conv=>cbv
      · refine idxL (R:=Scr.cs) hE hl (by omega) λv hv=>?_
        obtain ⟨f,u,c⟩:=v
        have hok:=scr_at hall hv
        have hrg:(0<=f/\f<=359)/\0<=u/\u<=359:=⟨hok.1,hok.2.1⟩
        conv=>cbv
        refine callI hE (l08Arc_ f u c hrg) λa ha=>?_
        conv=>cbv
        refine add64 hE (by omega) λi1 hi1=>?_
        conv=>cbv
        refine needI hE (by omega) ?_
        refine rem64 hE (by omega) λm hm=>?_
        have hm0:0<=m/\m<l.length:=by rw [hm,hn];exact ⟨Int.emod_nonneg _ (by omega),Int.emod_lt_of_pos _ (by omega)⟩
        have hmn:m.toNat=(i.toNat+1) % l.length:=by
          have h2:(i+1) % (l.length:Int)=(((i.toNat+1) % l.length:Nat):Int):=by
            rw [Int.natCast_emod,show ((i.toNat+1:Nat):Int)=i+1 by omega]
          rw [hm,hi1,hn,h2]
          exact Int.toNat_natCast _
        conv=>cbv
        refine idxL (R:=Scr.cs) hE hl hm0 λv2 hv2=>?_
        obtain ⟨f2,u2,c2⟩:=v2
        have hok2:=scr_at hall hv2
        have hrg2:(0<=f2/\f2<=359)/\0<=u2/\u2<=359:=⟨hok2.1,hok2.2.1⟩
        rw [hmn] at hv2
        conv=>cbv
        repeat' first
          |(refine hN _ _ [] (by decide) rfl ⟨?_,?_⟩ ?_<;>(try dsimp only))
          |((first
         |refine idxV hE hl (by omega) hv ?_
         |refine q0 hE ?_
         |refine B0 hE ?_|refine B1 hE ?_ ?_|refine B2 hE ?_)<;>intros<;>(try conv=>cbv))
        all_goals (try clear hN)
        all_goals first
          |omega
          |(refine hnx.succ (λs w _ hs hw=>?_) (by assumption);rw [hv] at hs;cases hs;rw [hv2] at hw;cases hw;simp only;omega)
          |(refine finB hK (bP_false.2 λh=>?_);have:=(scs_nx hall).1 h.2.2 i.toNat (by omega) _ _ (by omega) hv hv2;simp only at this;omega)
      · refine finB hK (bP_true.2 ⟨hall,by omega,(scs_nx hall).2 λj hj s w h2=>by omega⟩)
    · refine finB hK (bP_true.2 ⟨hall,by omega,(scs_nx hall).2 (hnx.all (by omega))⟩)
theorem nxtI {E:Env} {np:Nat} {P:Program} (hE:E=stdE np P) {s:ByteArray} {p:Nat} {K:Int->Int->Nat->Prop} {K0:Prop} (f:Nat->Int) (hd:∀p,p<s.size->((Utf8.decode s p).1:Int)=f p/\(Utf8.decode s p).2=1) (h1:∀(q r:Int) (n:Nat),p<s.size->q=p->r=f p->n=p+1->K q r n) (h2:¬p<s.size->K0):E.nxt s p K K0:=by
  subst hE
  show if p<s.size then _ else _
  split
  · rename_i h
    obtain ⟨e1,e2⟩:=hd p h
    exact h1 _ _ _ h rfl e1 (by rw [e2])
  · rename_i h;exact h2 h
theorem ssub2 {E:Env} {np:Nat} {P:Program} (hE:E=stdE np P) {a:ByteArray} {lo hi:Int} {K:ByteArray->Prop} (h:0<=lo/\lo<=hi/\hi<=a.size) (hk:∀s,s=a.extract lo.toNat hi.toNat->K s):E.ssub a (some lo) (some hi) K:=
  ssubI hE h hk
theorem decode_cAll:∀p,p<cAll.size->((Utf8.decode cAll p).1:Int)=chr cAll p/\(Utf8.decode cAll p).2=1:=by
  have h:∀p:Fin 4,((Utf8.decode cAll p.1).1:Int)=chr cAll p.1/\(Utf8.decode cAll p.1).2=1:=by decide +kernel
  exact λp hp=>h ⟨p,hp⟩
theorem cAll_sub:∀p:Fin 4,cAll.extract p.1 (p.1+1)=allC.getD p.1 noS:=by
  have h:∀p:Fin 4,(cAll.extract p.1 (p.1+1)).data.toList=(allC.getD p.1 noS).data.toList:=by decide +kernel
  exact λp=>bytes_ext (by rw [bytes_toList,bytes_toList];exact h p)
theorem allC_one:∀p:Fin 4,(allC.getD p.1 noS).size=1:=by decide +kernel
theorem containsV_ (s c:ByteArray) (h:c.size=1):AC Tryz.prog 344 [.str s,.str c] AV.bool (decide (0<=Lib.indexByte s.data.toList (c.data.getD 0 0))):=by
  have:=containsOne_ s (c.data.getD 0 0)
  rwa [←size1 h] at this
theorem colsM_size (l:List Scr) (p:Nat) (b:Bool):(colsTo l p++fl (allC.getD p noS) b).size<=p+1:=by
  have h1:=colsTo_size l p
  have h2:=fl_size (allC.getD p noS) b
  have h3:=allC_size p
  rw [ByteArray.size_append];omega
theorem cols_zero (l:List Scr) (p:Nat):colsTo l p=colsTo l p++fl (allC.getD p noS) (occ (l.take 0) (allC.getD p noS)):=by
  rw [List.take_zero,occ_nil]
  exact (cat_noS _).symm
theorem cols_add {l:List Scr} {p:Nat} {k n:Int} {s:Scr} (h0:0<=k) (hs:l[k.toNat]? =some s) (hn:n=k+1) (hc:s.color=allC.getD p noS) (ho:occ (l.take k.toNat) (allC.getD p noS)=false):(colsTo l p++fl (allC.getD p noS) (occ (l.take k.toNat) (allC.getD p noS)))++allC.getD p noS=colsTo l p++fl (allC.getD p noS) (occ (l.take n.toNat) (allC.getD p noS)):=by
  rw [hn,occ_take _ h0 hs,ho,bP_eq (b:=true) ⟨λ_=>hc,λ_=>rfl⟩]
  show (colsTo l p++noS)++_=_++_
  rw [cat_noS];rfl
theorem cols_same {l:List Scr} {p:Nat} {k n:Int} {s:Scr} (h0:0<=k) (hs:l[k.toNat]? =some s) (hn:n=k+1) (h:s.color≠allC.getD p noS∨occ (l.take k.toNat) (allC.getD p noS)=true):occ (l.take n.toNat) (allC.getD p noS)=occ (l.take k.toNat) (allC.getD p noS):=by
  rw [hn,occ_take _ h0 hs]
  rcases h with h|h
  · rw [bP_eq (b:=false) ⟨λh'=>(by cases h'),λh'=>absurd h' h⟩];simp
  · rw [h];rfl
theorem colorsOf_ {rs:List (List AV)} {t:Bool} {l:List Scr} (hl:rs=l.map Scr.cs):AC Tryz.prog 303 [.sl t 3 rs] AV.str (colsR l):=by
  refine ac Tryz.func303 (.str _) λE K hE hK=>?_
  conv=>cbv
  refine loop2 hE [0,8] [3] (λ(p:Nat) (out:ByteArray)=>([(3,.str out)],[.iter cAll p],(4 - (p:Int)),p<=4/\out=colsTo l p)) [0] ((0,noS)) rfl rfl (by dsimp only;exact ⟨by omega,rfl⟩) λp out hi Kn hN=>?_
  (try dsimp only at hi)
  conv=>cbv
  obtain ⟨h0,hinv⟩:=hi
  refine nxtI hE (chr cAll) decode_cAll (λq r n hp hq hr hn=>?_) (λhp=>?_)<;>conv=>cbv
  · have hp4:p<4:=hp
    have hsub:=cAll_sub ⟨p,hp4⟩
    have hone:=allC_one ⟨p,hp4⟩
    simp only at hsub hone
    have hmz:=colsM_size l p
    refine lenL hE hl λm hm hb=>?_
    conv=>cbv
    repeat' first
      |((refine loop2 hE [0,4,8,12,13] [14,3] (λ(k:Int) (out2:ByteArray)=>([(14,.int .i64 k),(3,.str out2)],[.iter cAll n],m - k,(0<=k/\k<=l.length)/\out2=colsTo l p++fl (allC.getD p noS) (occ (l.take k.toNat) (allC.getD p noS)))) [0] ((0,out)) rfl rfl (by dsimp only;exact ⟨by omega,by rw [hinv];exact cols_zero l p⟩) λk out2 hi2 Kn2 hN2=>?_;(try dsimp only at hi2);conv=>cbv);obtain ⟨h1,h2⟩:=hi2;have hz2:=hmz (occ (l.take k.toNat) (allC.getD p noS));rw [←h2] at hz2)
      |(refine hN (_,_) _ [0] (by decide) rfl ⟨?_,?_⟩ ?_<;>(try dsimp only))
      |(refine hN2 (_,_) _ [0] (by decide) rfl ⟨?_,?_⟩ ?_<;>(try dsimp only))
      |((first
     |(refine idxL (R:=Scr.cs) hE hl (by omega) (λv hv=>?_);obtain ⟨f,u,c⟩:=v)
     |(refine ssub2 hE (by refine ⟨by omega,by omega,?_⟩;show _<=((4:Nat):Int);omega) (λc2 hc2=>?_);(have hc3:c2=allC.getD p noS:=by rw [hc2,←hsub];congr 1<;>omega);clear hc2)
     |(refine callB hE (containsV_ out2 c2 (by rw [hc3];exact hone)) (λhin=>?_) (λhin=>?_)<;>(rw [h2,hc3,cols_has l hp4] at hin))
     |(refine scatI hE (by rw [hc3];omega) (λout3 hout3 _=>?_))
     |refine q0 hE ?_
     |refine B0 hE ?_|refine B1 hE ?_ ?_|refine B2 hE ?_)<;>intros<;>(try conv=>cbv))
    all_goals (try clear hN)
    all_goals (try clear hN2)
    all_goals first
      |omega
      |(rename_i hk1;rw [hout3,hc3,h2];exact cols_add h1.1 hv hk1 (by rw [←hc3];assumption) hin)
      |(rename_i hk1;rw [cols_same h1.1 hv hk1 (.inr hin)];exact h2)
      |(rename_i hk1;rw [cols_same h1.1 hv hk1 (.inl (by rw [←hc3];assumption))];exact h2)
      |(rw [h2,hn,List.take_of_length_le (by omega)];rfl)
  · have hp4:¬p<4:=hp
    exact hK _ (by rw [hinv,show p=4 by omega];rfl)
theorem l08Colors_ {rs:List (List AV)} {t:Bool} {l:List Scr} (hl:rs=l.map Scr.cs):AC Tryz.prog 215 [.sl t 3 rs] AV.str (colsR l):=by
  refine ac Tryz.func215 (.str _) λE K hE hK=>?_
  conv=>cbv
  refine loop2 hE [0,4] [5,3] (λ(i:Int) (out:ByteArray)=>([(5,.int .i64 i),(3,.str out)],[.row 1 (allC.map strR)],4 - i,(0<=i/\i<=4)/\out=colsTo l i.toNat)) [0] ((0,noS)) rfl rfl (by dsimp only;exact ⟨by omega,rfl⟩) λi out hi Kn hN=>?_
  (try dsimp only at hi)
  conv=>cbv
  obtain ⟨h0,hinv⟩:=hi
  have hz:=colsTo_size l i.toNat
  refine lenL (R:=strR) (l:=allC) hE (by rfl) λn4 hn4 _=>?_
  have hn5:n4=4:=hn4
  conv=>cbv
  refine ltI hE (λhlt=>?_) (λhge=>?_)<;>conv=>cbv
  · have hi4:i.toNat<4:=by omega
    have hone:=allC_one ⟨i.toNat,hi4⟩
    simp only at hone
    obtain ⟨cc,hcc⟩:∃c,c=allC.getD i.toNat noS:=⟨_,rfl⟩
    have hv4:allC[i.toNat]? =some cc:=by
      rw [hcc,List.getD_eq_getElem?_getD,List.getElem?_eq_getElem (show i.toNat<allC.length from hi4)];rfl
    have hstep:colsTo l (i+1).toNat=colsTo l i.toNat++fl (allC.getD i.toNat noS) (occ l (allC.getD i.toNat noS)):=by rw [show (i+1).toNat=i.toNat+1 by omega];rfl
    repeat' first
      |((refine loop2 hE [0,4,5] [6,3] (λ(k:Int) (out2:ByteArray)=>([(6,.int .i64 k),(3,.str out2)],[.row 1 (allC.map strR)],l.length - k,(0<=k/\k<=l.length)/\out2=out/\occ (l.take k.toNat) (allC.getD i.toNat noS)=false)) [0] ((0,out)) rfl rfl (by dsimp only;exact ⟨by omega,rfl,by rw [show (0:Int).toNat=0 from rfl,List.take_zero];exact occ_nil _⟩) λk out2 hi2 Kn2 hN2=>?_;(try dsimp only at hi2);conv=>cbv);obtain ⟨h1,ho2,h2⟩:=hi2;(have hz2:out2.size<=i.toNat:=by rw [ho2,hinv];exact hz))
      |(refine hN (_,_) _ [0] (by decide) rfl ⟨?_,?_⟩ ?_<;>(try dsimp only))
      |(refine hN2 (_,_) _ [0] (by decide) rfl ⟨?_,?_,?_⟩ ?_<;>(try dsimp only))
      |((first
     |(refine idxL (R:=Scr.cs) hE hl (by omega) (λv hv=>?_);obtain ⟨f,u,c⟩:=v)
     |refine idxV (R:=strR) (l:=allC) hE (by rfl) (by omega) hv4 ?_
     |(refine scatI hE (by rw [hcc];omega) (λout3 hout3 _=>?_))
     |refine q0 hE ?_
     |refine B0 hE ?_|refine B1 hE ?_ ?_|refine B2 hE ?_)<;>intros<;>(try conv=>cbv))
    all_goals (try clear hN)
    all_goals (try clear hN2)
    all_goals first
      |omega
      |exact ho2
      |(rename_i hk1;rw [cols_same h1.1 hv hk1 (.inl (by rw [←hcc];assumption))];exact h2)
      |(rename_i hi1;rw [hi1,hstep,hout3,hcc,ho2,hinv];congr 1;rw [occ,bP_eq (b:=true) (by simp only [true_iff];exact ⟨_,List.mem_of_getElem? hv,by rw [←hcc];assumption⟩)];rfl)
      |(rename_i hi1;rw [hi1,hstep,ho2,hinv];rw [List.take_of_length_le (by omega)] at h2;rw [h2];exact (cat_noS _).symm)
  · exact hK _ (by rw [hinv,show i.toNat=4 by omega];rfl)
end Go.Proofs.YtpfddoikhmbebaaGreatDoor
