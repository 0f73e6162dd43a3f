/- Contracts: sines, bearings; Contracts: sectors; Contracts: the colors of sectors. -/
import Derived.Test.YtnlhnideeaobpaaGreatDoorFC
namespace Go.Proofs.YtnlhnideeaobpaaGreatDoor
open Go Go.RowKit Classical
set_option maxRecDepth 100000
set_option maxHeartbeats 2000000
set_option linter.unusedVariables false
set_option linter.unusedSimpArgs false
theorem Dv [St] (d:Int):AP 415 [.int .i64 d] (AV.int .i64) (d % 360):=by
  refine a0 Tryz.func415 λE K hE hK=>?_;have hb:=JU d
  repeat' first
    |((first
   |refine acV (λm hm=>?_)
   |refine B0 ?_|refine B1 ?_ ?_)<;>intros<;>(try conv=>cbv))
  all_goals first
   |(exact hK _ (by subst_vars;rw [agU];rfl))
theorem XG [St] (d:Int):AP 453 [.int .i64 d] (AV.int .i64) (d % 360):=by
  refine a0 Tryz.func453 λE K hE hK=>?_;have hb:=JU d
  repeat' first
    |((first
   |refine acV (λm hm=>?_)
   |refine B0 ?_|refine B1 ?_ ?_)<;>intros<;>(try conv=>cbv))
  all_goals first
   |(exact hK _ (by subst_vars;rw [agU];rfl))
theorem NP [St] (d:Int) (h:0<=d/\d<=90):AP 443 [.int .i64 d] (AV.int .i64) (M7 d):=by
 refine a0 Tryz.func443 λE K hE hK=>?_;have h91:=M5;refine bQ (R:=aN) (l:=J8) (by rfl) (by omega) λv hv=>?_;conv=>cbv
 exact hK _ (by rw [M6 hv];rfl)
theorem afx [St] (d:Int) (h:0<=d/\d<180):AP 417 [.int .i64 d] (AV.int .i64) (qh d):=by
  refine a0 Tryz.func417 λE K hE hK=>?_;have ajr:d % 360=d:=by omega
  repeat' first
    |((first
   |(refine aQ (Dv _) (λe he=>?_);(have he2:d=e:=by omega);subst he2)
   |refine aQ (NP _ (by omega)) (λ_ _=>?_)
   |refine B0 ?_|refine B1 ?_ ?_)<;>intros<;>(try conv=>cbv))
  all_goals first
   |omega
   |(refine hK _ ?_;unfold qh M8;rw [ajr,if_neg (by omega)];(first|rw [if_pos (by omega)]|rw [if_neg (by omega)]);subst_vars;rfl)
theorem WA {d:Int} (h:180<=d % 360):qh d= -(qh (d % 360 - 180)):=by
 have h2:(d % 360 - 180) % 360=d % 360 - 180:=by omega
 unfold qh;rw [if_pos h,h2,if_neg (by omega)]
theorem aeU [St] (d:Int):AP 417 [.int .i64 d] (AV.int .i64) (qh d):=by
  refine a0 Tryz.func417 λE K hE hK=>?_;refine aQ (Dv _) λe he=>?_;conv=>cbv
  have hb:=vD (e - 180)
  repeat' first
    |((first
   |(refine aQ (afx _ (by omega)) (λs hs=>?_);(have hb2: -1000000<=s/\s<=1000000:=by rw [hs];exact vD _))
   |refine aQ (NP _ (by omega)) (λ_ _=>?_)
   |refine B0 ?_|refine B1 ?_ ?_)<;>intros<;>(try conv=>cbv))
  all_goals first
   |omega
   |(refine hK _ ?_;rw [WA (by omega)];show AV.int _ _=AV.int _ _;congr 1;subst_vars;omega)
   |(refine hK _ ?_;unfold qh M8;rw [←he,if_neg (by omega)];(first|rw [if_pos (by omega)]|rw [if_neg (by omega)]);subst_vars;rfl)
theorem aeu [St] (d:Int):AP 418 [.int .i64 d] (AV.int .i64) (Qd d):=by
  refine a0 Tryz.func418 λE K hE hK=>?_
  repeat' first
    |((first
   |refine aQ (Dv _) (λ_ _=>?_)
   |refine aQ (aeU _) (λ_ _=>?_)
   |refine B0 ?_|refine B1 ?_ ?_)<;>intros<;>(try conv=>cbv))
  all_goals first
   |omega
   |exact hK _ (by subst_vars;rfl)
theorem XF [St]:AP 433 [] (λl:List Int=> .sl true 1 (l.map aN)) J8:=by
 refine ac Tryz.func433 (.ints _) λE K hE hK=>?_;exact hK _ rfl
theorem FD [St] {rs:List (List AV)} {t:Bool} (d:Int) (hl:rs=J8.map aN):AP 434 [.sl t 1 rs,.int .i64 d] (AV.int .i64) (qh d):=by
  refine a0 Tryz.func434 λE K hE hK=>?_;have h91:=M5;refine aQ (XG _) λe he=>?_;conv=>cbv
  repeat' first
    |((first
   |(refine bQ (R:=aN) (l:=J8) hl (by omega) (λv hv=>?_);have hv2:=M6 hv;have hv3:=Ur 0;have hv4:=Uo v (ae hv))
   |refine nM (by omega) (λ_ _=>?_)
   |refine B0 ?_|refine B1 ?_ ?_)<;>intros<;>(try conv=>cbv))
  all_goals (try clear hv3 hv4)
  all_goals first
   |omega
   |(refine hK _ ?_;unfold qh M8;rw [←he];(first|rw [if_pos (by omega)]|rw [if_neg (by omega)]);(first|rw [if_pos (by omega)]|rw [if_neg (by omega)]);show AV.int _ _=AV.int _ _;congr 1;rename_i hm;rw [hm,hv2];subst_vars;omega)
theorem JA [St] (x y x' y' d:Int) (h:dZ x y) (k:dZ x' y'):AP 416 [.int .i64 d,.pp [.int .i64 x',.int .i64 y'],.pp [.int .i64 x,.int .i64 y]] (AV.int .i64) (Ec x y x' y' d):=by
  refine a0 Tryz.func416 λE K hE hK=>?_;unfold dZ at h k;have hs:=vD d;have hc:=aev d;have hS:=aeU d;have hC:=aeu d;have hv:Ec x y x' y' d=(x' - x)*qh d+(y' - y)*Qd d:=rfl;obtain ⟨sn,hsn⟩:∃s,s=qh d:=⟨_,rfl⟩
  obtain ⟨cn,hcn⟩:∃s,s=Qd d:=⟨_,rfl⟩
  obtain ⟨dx,hdx⟩:∃s,s=x' - x:=⟨_,rfl⟩
  obtain ⟨dy,hdy⟩:∃s,s=y' - y:=⟨_,rfl⟩
  rw [←hsn,←hcn,←hdx,←hdy] at hv;rw [←hsn] at hs hS;rw [←hcn] at hc hC;have h1:=JK (a:=dx) (by omega) hs;have h2:=JK (a:=dy) (by omega) hc
  repeat' first
    |((first
   |((refine aQ hS (λz hz=>?_);subst hz))
   |((refine aQ hC (λz hz=>?_);subst hz))
   |(refine eX (by omega) (λq hq=>?_);(first|((have hq2:dx=q:=by omega);subst hq2;clear hq)|((have hq2:dy=q:=by omega);subst hq2;clear hq)))
   |refine nM (by omega) (λ_ _=>?_)
   |refine B0 ?_|refine B1 ?_ ?_)<;>intros<;>(try conv=>cbv))
  all_goals first
   |exact hK _ (by rw [hv];subst_vars;rfl)
set_option maxHeartbeats 4000000
theorem abI [St] (x y x' y':Int) (h:dZ x y) (k:dZ x' y'):AP 373 [.agg [.int .i64 x,.int .i64 y],.agg [.int .i64 x',.int .i64 y']] (AV.int .i64) (TN x y x' y'):=by
  refine a0 Tryz.func373 λE K hE hK=>?_
  refine qB (xX (l:=[(⟨x,y⟩:Pnt),⟨x',y'⟩]) (by rfl)) (by
   intro p hp;simp only [bk,eR,or_false] at hp;rcases hp with rfl|rfl
   ·exact h
   ·exact k) ?_
  conv=>cbv
  refine Dt (λhe=>?_) (λhe=>?_)<;>conv=>cbv
  ·obtain ⟨e1,e2,_⟩:=he;subst e1 e2;exact hK _ (by rw [Yz];rfl)
  ·refine aQ (JA x y x' y' 0 h k) λm0 hm0=>?_;(conv=>cbv);refine iR [5] [23,6,7] (λ(d best most:Int)=>([(23,.int .i64 d),(6,.int .i64 best),(7,.int .i64 most)],[.box [.int .i64 x,.int .i64 y],.box [.int .i64 x',.int .i64 y']],360 - d,(0<=d/\d<=360)/\best=Dq (Ec x y x' y') d/\most=Ec x y x' y' best)) [0,1] ((0,0,m0)) (by dsimp only;exact ⟨by omega,(oH _ (by omega)).symm,hm0⟩) λd best most hi Kn hN=>?_;obtain ⟨h0,e1,e2⟩:=hi
   repeat' first
     |(refine hN _ _ _ [0,1] rfl ⟨?_,?_,?_⟩)
     |((first
    |refine aQ (JA x y x' y' _ h k) (λn hn=>?_)
    |refine B0 ?_|refine B1 ?_ ?_)<;>intros<;>(try conv=>cbv))
   all_goals (try clear hN)
   all_goals first
    |omega
    |(rw [Qv h0.1 (by assumption) (by rw [←e1,←e2,←hn];assumption)])
    |(rw [VL h0.1 (by assumption) (by rw [←e1,←e2,←hn];omega)];exact e1)
    |exact hn
    |exact e2
    |(refine hK _ ?_;rw [e1,Qw (by omega)];rfl)
theorem O0 [St] (x y x' y':Int) (h:dZ x y) (k:dZ x' y'):AP 403 [.agg [.int .i64 x,.int .i64 y],.agg [.int .i64 x',.int .i64 y']] (AV.int .i64) (TN x y x' y'):=by
  refine a0 Tryz.func403 λE K hE hK=>?_;have hp:dZ x y/\dZ x' y':=⟨h,k⟩
  unfold dZ at h k;refine dJ XF λrs hrs=>?_;conv=>cbv
  refine iR [2,3,7] [8,5,6] (λ(d best most:Int)=>([(8,.int .i64 d),(5,.int .i64 best),(6,.int .i64 most)],[.box [.int .i64 x,.int .i64 y],.box [.int .i64 x',.int .i64 y'],.row 1 rs],360 - d,(0<=d/\d<=360)/\best=Dq (Ec x y x' y') d/\(1<=d->most=Ec x y x' y' best))) [0,1,2] ((0,0,0)) (by dsimp only;exact ⟨by omega,(oH _ (by omega)).symm,by omega⟩) λd best most hi Kn hN=>?_;obtain ⟨h0,e1,e2⟩:=hi;have hs:=vD d;have hc:=vD (d+90);have hS:=FD (t:=true) d hrs;have hC:=FD (t:=true) (d+90) hrs;have hv:d<360->Ec x y x' y' d=(x' - x)*qh d+(y' - y)*qh (d+90):=λh3=>by unfold Ec;rw [agH ⟨h0.1,h3⟩]
  obtain ⟨sn,hsn⟩:∃s,s=qh d:=⟨_,rfl⟩
  obtain ⟨d9,hd9⟩:∃s,s=d+90:=⟨_,rfl⟩
  rw [←hd9] at hv hc hC;obtain ⟨cn,hcn⟩:∃s,s=qh d9:=⟨_,rfl⟩
  obtain ⟨dx,hdx⟩:∃s,s=x' - x:=⟨_,rfl⟩
  obtain ⟨dy,hdy⟩:∃s,s=y' - y:=⟨_,rfl⟩
  rw [←hsn,←hcn,←hdx,←hdy] at hv;rw [←hsn] at hs hS;rw [←hcn] at hc hC;have h1:=JK (a:=dx) (by omega) hs;have h2:=JK (a:=dy) (by omega) hc
  repeat' first
    |(refine hN _ _ _ [0,1,2] rfl ⟨?_,?_,?_⟩)
    |((first
   |((refine aQ hS (λz hz=>?_);subst hz))
   |((refine aQ hC (λz hz=>?_);subst hz))
   |(refine eX (by omega) (λq hq=>?_);(first|((have hq2:dx=q:=by omega);subst hq2;clear hq)|((have hq2:dy=q:=by omega);subst hq2;clear hq)))
   |refine nM (by omega) (λ_ _=>?_)
   |(refine iH (by omega) (λq hq=>?_);(first|((have hq2:d9=q:=by omega);subst hq2;clear hq)|skip))
   |refine B0 ?_|refine B1 ?_ ?_)<;>intros<;>(try conv=>cbv))
  all_goals (try clear hN)
  all_goals (first|(have hv2:=hv (by omega))|skip)
  all_goals first
   |omega
   |(rw [oH _ (by omega)];omega)
   |(rw [Qv h0.1 hq (by rw [←e1,←e2 (by omega)];omega)])
   |(rw [VL h0.1 hq (by rw [←e1,←e2 (by omega)];omega)];exact e1)
   |(intro _;omega)
   |(intro _;exact e2 (by omega))
   |(refine hK _ ?_;rw [e1,Qw (by omega)];rfl)
set_option maxHeartbeats 2000000
theorem U0 [St] (a:Int):AP 225 [.int .i64 a,.int .i64 360] (AV.int .i64) (a % 360):=by
  refine a0 Tryz.func225 λE K hE hK=>?_;have hb:=JU a
  repeat' first
    |((first
   |refine acV (λm hm=>?_)
   |refine B0 ?_|refine B1 ?_ ?_)<;>intros<;>(try conv=>cbv))
  all_goals first
   |(exact hK _ (by subst_vars;rw [agU];rfl))
theorem Si [St] (n:Int):AP 223 [.int .i64 n] AV.bool (bP (0<=n/\n<=359)):=by
  refine a0 Tryz.func223 λE K hE hK=>?_
  repeat' first
    |((first
   |refine aF (eU _ _ _) (λ_=>?_) (λ_=>?_)
   |refine B0 ?_|refine B1 ?_ ?_)<;>intros<;>(try conv=>cbv))
  all_goals exact fz
theorem Vk (c:UInt8):bP (FJ ⟨#[c]⟩)=decide (0<=Lib.indexByte qC.data.toList c):=by
 have h:=XQ (s:=⟨#[c]⟩) rfl;apply Qs;rw [decide_eq_true_iff];exact h.symm
theorem aaG [St] (s:ByteArray):AP 224 [.str s] AV.bool (bP (FJ s)):=by
 refine a0 Tryz.func224 λE K hE hK=>?_;refine BK λn hn hb=>?_;conv=>cbv
 refine eqI (λh1=>?_) (λh1=>?_)<;>conv=>cbv
 ·(obtain ⟨c,rfl⟩:∃c,s=⟨#[c]⟩:=⟨_,Un (by omega)⟩);refine Jy (zC qC c) (λh=>?_) (λh=>?_)<;>conv=>cbv
  ·exact aH hK (by rw [Vk];exact h)
  ·exact aH hK (by rw [Vk];exact h)
 ·exact aH hK (ah.2 λh=>by have:=Sd h;omega)
theorem Xx [St] (s:ByteArray):AP 393 [.str s] AV.bool (bP (FJ s)):=by
  refine a0 Tryz.func393 λE K hE hK=>?_
  repeat' first
    |((first
   |refine B0 ?_|refine B1 ?_ ?_)<;>intros<;>(try conv=>cbv))
  all_goals first
   |(refine aH hK (aG.2 ?_);first|exact .inl (by assumption)|exact .inr (.inl (by assumption))|exact .inr (.inr (.inl (by assumption)))|exact .inr (.inr (.inr (by assumption))))
   |(refine aH hK (ah.2 ?_);rintro (h|h|h|h)<;>contradiction)
theorem JL [St] (f u:Int) (c:ByteArray):AP 147 [.agg [.int .i64 f,.int .i64 u,.str c]] AV.bool (bP (kr f u c)):=by
  refine a0 Tryz.func147 λE K hE hK=>?_
  repeat' first
    |((first
   |refine aF (Si _) (λ_=>?_) (λ_=>?_)
   |refine aF (aaG _) (λ_=>?_) (λ_=>?_)
   |refine B0 ?_|refine B1 ?_ ?_)<;>intros<;>(try conv=>cbv))
  all_goals (try clear hN)
  all_goals first
   |(omega)
   |(refine aH hK (aG.2 ?_);first|omega|grind [kr])
   |(refine aH hK (ah.2 ?_);first|omega|(intro h;grind [kr]))
   |(refine ⟨by omega,Up.succ (by assumption) ?_ (by assumption)⟩;grind [kr])
   |(refine hK _ ?_;simp_all [gP,kr];done)
   |(grind [kr])
theorem agT [St] (f u:Int) (c:ByteArray) (h:(0<=f/\f<=359)/\0<=u/\u<=359):AP 149 [.agg [.int .i64 f,.int .i64 u,.str c]] (AV.int .i64) (pJ f u):=by
  refine a0 Tryz.func149 λE K hE hK=>?_
  repeat' first
    |((first
   |refine aQ (U0 _) (λ_ _=>?_)
   |refine B0 ?_|refine B1 ?_ ?_)<;>intros<;>(try conv=>cbv))
  all_goals (refine hK _ ?_;show AV.int _ _=AV.int _ _;congr 1;unfold pJ;subst_vars;first|rfl|omega)
def Lp (f u b:Int):Prop:=(IntKind.i64.wrap (b - f)) % 360<pJ f u
theorem Lm {f u b:Int} (hf:0<=f/\f<=359) (hb:0<=b/\b<=359):Lp f u b↔qw f u b:=by
 unfold Lp qw;rw [eA _ ⟨by omega,by omega⟩]
theorem ah0 [St] (f u b:Int) (c:ByteArray) (h:(0<=f/\f<=359)/\0<=u/\u<=359):AP 148 [.agg [.int .i64 f,.int .i64 u,.str c],.int .i64 b] AV.bool (bP (Lp f u b)):=by
  refine a0 Tryz.func148 λE K hE hK=>?_
  repeat' first
    |((first
   |refine acD (λ_ _=>?_)
   |refine aQ (U0 _) (λ_ _=>?_)
   |refine aQ (agT f u c h) (λ_ _=>?_)
   |refine B0 ?_|refine B1 ?_ ?_)<;>intros<;>(try conv=>cbv))
  all_goals first
   |(refine aH hK (aG.2 ?_);unfold Lp;subst_vars;assumption)
   |(refine aH hK (ah.2 ?_);unfold Lp;subst_vars;omega)
theorem aap [St] (f u:Int) (tl:List AV):AP 392 [.pp (.int .i64 f:: .int .i64 u::tl)] AV.bool (bP ((0<=f/\f<=359)/\0<=u/\u<=359)):=by
  refine a0 Tryz.func392 λE K hE hK=>?_
  repeat' first
    |((first
   |refine aF (in_ _ _ _) (λ_=>?_) (λ_=>?_)
   |refine B0 ?_|refine B1 ?_ ?_)<;>intros<;>(try conv=>cbv))
  all_goals exact fz
theorem adJ [St] (f u:Int) (c:ByteArray):AP 327 [.pp [.int .i64 f,.int .i64 u,.str c]] AV.bool (bP (kr f u c)):=by
  refine a0 Tryz.func327 λE K hE hK=>?_
  repeat' first
    |((first
   |refine aF (aap _ _ _) (λ_=>?_) (λ_=>?_)
   |refine aF (Xx _) (λ_=>?_) (λ_=>?_)
   |refine B0 ?_|refine B1 ?_ ?_)<;>intros<;>(try conv=>cbv))
  all_goals (try clear hN)
  all_goals first
   |(omega)
   |(refine aH hK (aG.2 ?_);first|omega|grind [kr])
   |(refine aH hK (ah.2 ?_);first|omega|(intro h;grind [kr]))
   |(refine ⟨by omega,Up.succ (by assumption) ?_ (by assumption)⟩;grind [kr])
   |(refine hK _ ?_;simp_all [gP,kr];done)
   |(grind [kr])
theorem Lc [St] (f u:Int) (c:ByteArray) (h:(0<=f/\f<=359)/\0<=u/\u<=359):AP 195 [.pp [.int .i64 f,.int .i64 u,.str c]] (AV.int .i64) (pJ f u):=by
  refine a0 Tryz.func195 λE K hE hK=>?_
  repeat' first
    |((first
   |refine B0 ?_|refine B1 ?_ ?_)<;>intros<;>(try conv=>cbv))
  all_goals (refine hK _ ?_;show AV.int _ _=AV.int _ _;congr 1;unfold pJ;omega)
def abW (l:List Scr) (i:Int):Prop:=∀(j k:Nat) s u,(j:Int)<i->j≠k->l[j]? =some s->l[k]? =some u->¬Lp s.frm s.til u.frm
theorem acK {l:List Scr} (h:∀j,j<l.length->GK l j) (hw:abW l l.length):JH l:=λi k s u hik hs hu=>by
 have h1:=hw i k s u (by have:=(aa.1 hs).1;omega) hik hs hu;have h2:=jh h hs;have h3:=jh h hu;rwa [Lm h2.1 h3.1] at h1
theorem acM {l:List Scr} (h:lS l) {j k:Nat} {s u:Scr} (hjk:j≠k) (hs:l[j]? =some s) (hu:l[k]? =some u):¬Lp s.frm s.til u.frm:=by
 have h2:=jh h.1 hs;have h3:=jh h.1 hu;rw [Lm h2.1 h3.1];exact h.2.2 j k s u hjk hs hu
theorem Nl {l:List Scr} {i:Int} {s:Scr} (hs:l[i.toNat]? =some s) (h:¬kr s.frm s.til s.color):¬lS l:=λhk=>h (jh hk.1 hs)
theorem Uw {l:List Scr} {i:Int} {s p:Scr} (h0:0<i) (hs:l[i.toNat]? =some s) (hp:l[(i - 1).toNat]? =some p) (h:s.frm<=p.frm):¬lS l:=λhk=>by
 have:=l7 hk.1 hp i.toNat s (by omega) hs;omega
theorem Dz {l:List Scr} {i:Int} {s:Scr} (h0:0<=i) (hs:l[i.toNat]? =some s) (hk:kr s.frm s.til s.color) (h:i<=0∨∃p,l[(i - 1).toNat]? =some p/\p.frm<s.frm):GK l i.toNat:=
 ⟨s,hs,hk,λhi=>by
  rcases h with h|⟨p,h1,h2⟩
  ·omega
  ·exact ⟨p,by rw [show i.toNat - 1=(i - 1).toNat by omega];exact h1,h2⟩⟩
theorem abW.succ {l:List Scr} {i n:Int} {s:Scr} (h0:0<=i) (h:abW l i) (hn:n=i+1) (hs:l[i.toNat]? =some s) (hk:∀(k:Nat) u,(k:Int)≠i->l[k]? =some u->¬Lp s.frm s.til u.frm):abW l n:=λj k s' u hj hjk hs' hu=>by
 by_cases e:(j:Int)<i
 ·exact h j k s' u e hjk hs' hu
 ·(have e2:j=i.toNat:=by omega);subst e2;rw [hs] at hs';cases hs';exact hk k u (by omega) hu
theorem GX [St] {rs:List (List AV)} {t:Bool} {l:List Scr} (hl:rs=l.map Scr.cs):AP 77 [.sl t 3 rs] AV.bool (bP (lS l)):=by
  refine a0 Tryz.func77 λE K hE hK=>?_;refine bn hl λn hn hb=>?_;conv=>cbv
  refine bO [0,8,9] [10,3] (λ(i total:Int)=>([(10,.int .i64 i),(3,.int .i64 total)],[],n - i,(0<=i/\i<=l.length)/\Up (GK l) i/\abW l i/\(l.length<=12->total=(sumTo Dr l i:Nat)/\total<=360*i))) [] ((0,0)) (by dsimp only;exact ⟨by omega,.zero (by omega),λj k s u hj=>by omega,λ_=>by rw [eH (by omega)];omega⟩) λi total hi Kn hN=>?_;obtain ⟨h0,hinv,hw,htot⟩:=hi;refine ltI (λhlt=>?_) (λhge=>?_)<;>conv=>cbv
  ·refine bQ (R:=Scr.cs) hl (by omega) λv hv=>?_;obtain ⟨f,u,c⟩:=v;have hsum:=eO Dr h0.1 hv;have ah2:=Mc ⟨f,u,c⟩;simp only at ah2;(conv=>cbv);refine aF (JL f u c) (λhok=>?_) (λhok=>?_)<;>conv=>cbv
   ·have hrg:(0<=f/\f<=359)/\0<=u/\u<=359:=⟨hok.1,hok.2.1⟩
    repeat' first
      |((refine cu [0,3,4,5,8,9,10,33,34] [35] (λ(k:Int)=>([(35,.int .i64 k)],[.box [.int .i64 f,.int .i64 u,.str c]],n - k,(0<=k/\k<=l.length)/\∀(m:Nat) u2,(m:Int)<k->(m:Int)≠i->l[m]? =some u2->¬Lp f u u2.frm)) [0] (0) (by dsimp only;exact ⟨by omega,λm u2 hm=>by omega⟩) λk hi2 Kn2 hN2=>?_);obtain ⟨h3,hin⟩:=hi2)
      |(refine hN _ _ [] rfl ⟨?_,?_,?_,?_⟩)
      |(refine hN2 _ [0] rfl ⟨?_,?_⟩)
      |((first
     |refine eX (by omega) (λq hq=>?_)
     |refine gK hl (by omega) hv ?_
     |(refine bQ (R:=Scr.cs) hl (by omega) (λv2 hv2=>?_);obtain ⟨f2,u2,c2⟩:=v2)
     |(refine aQ (agT f u c hrg) (λa ha=>?_);(try conv=>cbv);refine aeN (λaiF aaN=>?_))
     |refine aF (ah0 f u _ c hrg) (λ_=>?_) (λ_=>?_)
     |refine B0 ?_|refine B1 ?_ ?_)<;>intros<;>(try conv=>cbv))
    (all_goals (try clear hN));all_goals (try clear hN2)
    all_goals first
     |omega
     |(refine hinv.succ (Dz h0.1 hv hok (.inl (by omega))) (by assumption))
     |(refine hinv.succ (Dz h0.1 hv hok (.inr ⟨_,hq ▸ hv2,by omega⟩)) (by assumption))
     |(refine hw.succ h0.1 (by assumption) hv λm u2 hm hu=>hin m u2 (by have:=(aa.1 hu).1;omega) hm hu)
     |(intro h12;obtain ⟨g1,g2⟩:=htot h12;rw [eA _ ⟨by omega,by omega⟩] at aaN;rename_i hi1;rw [hi1,hsum];omega)
     |(intro m u3 hm hmi hu;by_cases e:(m:Int)=k;(rw [show m=k.toNat by omega,hv2] at hu;cases hu;assumption);exact hin m u3 (by omega) hmi hu)
     |(intro m u3 hm hmi hu;exact hin m u3 (by omega) hmi hu)
     |(refine aH hK (ah.2 (Uw (by omega) hv (hq ▸ hv2) (by omega))))
     |(refine aH hK (ah.2 λh=>?_);exact absurd (by assumption) (acM h (j:=i.toNat) (k:=k.toNat) (by omega) hv hv2))
   ·exact aH hK (ah.2 (Nl hv hok))
  ·have hall:∀j,j<l.length->GK l j:=hinv.all (by omega)
   have hap:l.length<=12->JH l/\sumTo Dr l l.length<=360:=λ_=>by
    have h1:JH l:=acK hall (by rw [show (l.length:Int)=i by omega];exact hw);exact ⟨h1,WG hall h1⟩
   (have hil:i=l.length:=by omega);rw [hil] at htot
   repeat' first
     |((first
    |refine aF (F4 _ _) (λ_=>?_) (λ_=>?_)
    |refine B0 ?_|refine B1 ?_ ?_)<;>intros<;>(try conv=>cbv))
   all_goals (try clear hN)
   all_goals first
    |(refine aH hK (aG.2 ⟨hall,by omega,(hap (by omega)).1⟩))
    |(exfalso;have h1:=hap (by omega);have h2:=htot (by omega);omega)
    |(refine aH hK (ah.2 λh=>?_);have:=h.2.1;omega)
theorem afV [St] {rs:List (List AV)} {t:Bool} {l:List Scr} (hl:rs=l.map Scr.cs):AP 253 [.sl t 3 rs] AV.bool (bP (lS l)):=by
  refine a0 Tryz.func253 λE K hE hK=>?_;refine bn hl λn hn hb=>?_;conv=>cbv
  refine ltI (λh12=>?_) (λh12=>?_)<;>conv=>cbv
  ·exact aH hK (ah.2 λh=>by have:=h.2.1;omega)
  refine cu [0,3] [4] (λ(i:Int)=>([(4,.int .i64 i)],[],n - i,(0<=i/\i<=l.length)/\Up (GK l) i)) [] (0) (by dsimp only;exact ⟨by omega,.zero (by omega)⟩) λi hi Kn hN=>?_;obtain ⟨h0,hinv⟩:=hi;refine ltI (λhlt=>?_) (λhge=>?_)<;>conv=>cbv
  ·refine bQ (R:=Scr.cs) hl (by omega) λv hv=>?_;obtain ⟨f,u,c⟩:=v;(conv=>cbv);refine aF (adJ f u c) (λhok=>?_) (λhok=>?_)<;>conv=>cbv
   ·skip
    repeat' first
      |(refine hN _ [] rfl ⟨?_,?_⟩)
      |((first
     |refine eX (by omega) (λq hq=>?_)
     |refine gK hl (by omega) hv ?_
     |(refine bQ (R:=Scr.cs) hl (by omega) (λv2 hv2=>?_);obtain ⟨f2,u2,c2⟩:=v2)
     |refine B0 ?_|refine B1 ?_ ?_)<;>intros<;>(try conv=>cbv))
    all_goals (try clear hN)
    all_goals first
     |omega
     |(refine hinv.succ (Dz h0.1 hv hok (.inl (by omega))) (by assumption))
     |(refine hinv.succ (Dz h0.1 hv hok (.inr ⟨_,hq ▸ hv2,by omega⟩)) (by assumption))
     |(refine aH hK (ah.2 (Uw (by omega) hv (hq ▸ hv2) (by omega))))
   ·exact aH hK (ah.2 (Nl hv hok))
  ·have hall:∀j,j<l.length->GK l j:=hinv.all (by omega);clear hN;refine cu [0,3] [5] (λ(i:Int)=>([(5,.int .i64 i)],[],n - i,(0<=i/\i<=l.length)/\Up (afj l) i)) [] (0) (by dsimp only;exact ⟨by omega,.zero (by omega)⟩) λi hi Kn hN=>?_;obtain ⟨h0,hnx⟩:=hi;refine ltI (λhlt=>?_) (λhge=>?_)<;>conv=>cbv
   ·refine ltI (λh1=>?_) (λh1=>?_)<;>conv=>cbv
    ·refine bQ (R:=Scr.cs) hl (by omega) λv hv=>?_;obtain ⟨f,u,c⟩:=v;have hok:=jh hall hv;(have hrg:(0<=f/\f<=359)/\0<=u/\u<=359:=⟨hok.1,hok.2.1⟩);(conv=>cbv);refine aQ (Lc f u c hrg) λa ha=>?_;(conv=>cbv);refine iH (by omega) λi1 hi1=>?_;(conv=>cbv);refine uz (by omega) ?_;refine qM (by omega) λm hm=>?_;have hm0:0<=m/\m<l.length:=by rw [hm,hn];exact ⟨ks _ (by omega),i6 _ (by omega)⟩
     have hmn:m.toNat=(i.toNat+1) % l.length:=by
      have h2:(i+1) % (l.length:Int)=(((i.toNat+1) % l.length:Nat):Int):=by
       rw [gr,show ((i.toNat+1:Nat):Int)=i+1 by omega]
      rw [hm,hi1,hn,h2];exact di _
     (conv=>cbv);refine bQ (R:=Scr.cs) hl hm0 λv2 hv2=>?_;obtain ⟨f2,u2,c2⟩:=v2;have hok2:=jh hall hv2;(have hrg2:(0<=f2/\f2<=359)/\0<=u2/\u2<=359:=⟨hok2.1,hok2.2.1⟩);rw [hmn] at hv2;conv=>cbv
     repeat' first
       |(refine hN _ [] rfl ⟨?_,?_⟩)
       |((first
      |refine gK hl (by omega) hv ?_
      |refine B0 ?_|refine B1 ?_ ?_)<;>intros<;>(try conv=>cbv))
     all_goals (try clear hN)
     all_goals first
      |omega
      |(refine hnx.succ (λs w _ hs hw=>?_) (by assumption);rw [hv] at hs;cases hs;rw [hv2] at hw;cases hw;simp only;omega)
      |(refine aH hK (ah.2 λh=>?_);have:=(Rx hall).1 h.2.2 i.toNat (by omega) _ _ (by omega) hv hv2;simp only at this;omega)
    ·refine aH hK (aG.2 ⟨hall,by omega,(Rx hall).2 λj hj s w h2=>by omega⟩)
   ·refine aH hK (aG.2 ⟨hall,by omega,(Rx hall).2 (hnx.all (by omega))⟩)
theorem VN {l:List Scr} (h:lS l) {i:Nat} {s:Scr} (hs:l[i]? =some s):(0<=s.frm/\s.frm<=359)/\0<=s.til/\s.til<=359:=⟨(jh h.1 hs).1,(jh h.1 hs).2.1⟩
theorem TJ {l:List Scr} {i n b:Int} {s:Scr} (h0:0<=i) (hs:l[i.toNat]? =some s) (hn:n=i+1):nk (l.drop i.toNat) b=if qw s.frm s.til b then s.color else nk (l.drop n.toNat) b:=by
 have hlt:=(aa.1 hs).1;rw [ck hlt,show l[i.toNat]=s by rw [ag hlt] at hs;exact ee hs,hn,show (i+1).toNat=i.toNat+1 by omega];rfl
theorem abv [St] {rs:List (List AV)} {t:Bool} {l:List Scr} (b:Int) (hl:rs=l.map Scr.cs) (hok:lS l) (hb0:0<=b/\b<=359):AP 372 [.sl t 3 rs,.int .i64 b] AV.str (nk l b):=by
  refine a0 Tryz.func372 λE K hE hK=>?_;refine bn hl λn hn hb=>?_;conv=>cbv
  refine cu [1,7,8] [9] (λ(i:Int)=>([(9,.int .i64 i)],[],n - i,0<=i/\nk l b=nk (l.drop i.toNat) b)) [] (0) (by dsimp only;exact ⟨by omega,rfl⟩) λi hi Kn hN=>?_;obtain ⟨h0,hinv⟩:=hi
  repeat' first
    |(refine hN _ [] rfl ⟨?_,?_⟩)
    |((first
   |(refine bQ (R:=Scr.cs) hl (by omega) (λv hv=>?_);have hrg:=VN hok hv;have hd:=TJ (b:=b) h0 hv rfl;obtain ⟨f,u,c⟩:=v;simp only at hrg hd;rw [←Lm hrg.1 hb0] at hd)
   |(refine aQ (Dv b) (λb2 hb2=>?_);(have hb3:b2=b:=by omega);subst hb3)
   |refine aF (ah0 f u _ c hrg) (λ_=>?_) (λ_=>?_)
   |refine B0 ?_|refine B1 ?_ ?_)<;>intros<;>(try conv=>cbv))
  all_goals (try clear hN)
  all_goals first
   |omega
   |(refine hK _ ?_;rw [hinv,hd,if_pos (by assumption)];rfl)
   |(rw [hinv,hd,if_neg (by assumption)];subst_vars;rfl)
   |(refine hK _ ?_;rw [hinv,df (by omega)];rfl)
theorem Au {α:Type} (g:Nat->α) {n i:Nat} (h:i<n):((List.range n).map g)[i]? =some (g i):=by rw [ai,cM h];rfl
theorem R3 [St] {rs:List (List AV)} {t:Bool} {l:List Scr} (hl:rs=l.map Scr.cs) (hok:lS l):AP 428 [.sl t 3 rs] (λm:List ByteArray=> .sl true 1 (m.map iQ)) ((List.range 360).map λd:Nat=>nk l (d:Int)):=by
  refine ac Tryz.func428 (.strs _) λE K hE hK=>?_;refine Oy (by omega) λes hes=>?_;conv=>cbv
  have gG:es=((List.range 360).map λd:Nat=>lastTo l 0 d).map iQ:=by
   rw [hes];show List.replicate 360 _=_;rw [List.map_map,show ((iQ ∘ λd:Nat=>lastTo l 0 (d:Int)))=λ_:Nat=>[AV.str ⟨#[]⟩] from rfl,List.map_const',List.length_range]
  refine bO [0] [4,3] (λ(i:Int) (es:List (List AV))=>([(4,.int .i64 i),(3,.ob 0)],[.row 1 es],l.length - i,(0<=i/\i<=l.length)/\es=((List.range 360).map λd:Nat=>lastTo l i.toNat d).map iQ)) [0] ((0,es)) (by dsimp only;exact ⟨by omega,gG⟩) λi es hi Kn hN=>?_;obtain ⟨h0,hinv⟩:=hi;refine bn hl λn hn hb=>?_;conv=>cbv
  refine ltI (λhlt=>?_) (λhge=>?_)<;>conv=>cbv
  ·(obtain ⟨v,hv⟩:∃v,l[i.toNat]? =some v:=⟨_,ag (by omega)⟩);have hrg:=VN hok hv;obtain ⟨f,u,c⟩:=v;have ah2:=sU f u;have hz:=WR l i.toNat ⟨f,u,c⟩;have ha:=ZH hv;have hs:=λk hk=>@WS l i.toNat ⟨f,u,c⟩ k hrg.1 hk;simp only at hrg ha hs
   repeat' first
     |((refine bO [0,4] [5,3] (λ(k:Int) (es2:List (List AV))=>([(5,.int .i64 k),(3,.ob 0)],[.row 1 es2],360 - k,(0<=k/\k<=pJ f u)/\es2=((List.range 360).map (G8 l i.toNat ⟨f,u,c⟩ k)).map iQ)) [0] ((0,es)) (by dsimp only;exact ⟨by omega,by rw [hinv];congr 1;exact nK λd _=>(hz d).symm⟩) λk es2 hi2 Kn2 hN2=>?_);obtain ⟨h1,h2⟩:=hi2)
     |(refine hN _ _ [0] rfl ⟨?_,?_⟩)
     |(refine hN2 _ _ [0] rfl ⟨?_,?_⟩)
     |((first
    |refine gK hl (by omega) hv ?_
    |refine aQ (Lc f u c hrg) (λa ha0=>?_)
    |refine gK (R:=iQ) h2 (by omega) (Au (G8 l i.toNat ⟨f,u,c⟩ k) (by omega)) ?_
    |refine wB (R:=iQ) (m:=(List.range 360).map (G8 l i.toNat ⟨f,u,c⟩ k)) c h2 (by omega) (Au _ (by omega)) (by exact bt rfl) (by rfl) (λes3 xQ=>?_)
    |refine B0 ?_|refine B1 ?_ ?_)<;>intros<;>(try conv=>cbv))
   (all_goals (try clear hN));all_goals (try clear hN2)
   all_goals first
    |omega
    |(rw [xQ,map_set];congr 1;refine nK λd hd=>?_;have h9:=hs k (by omega) d hd;subst_vars;exact h9)
    |(rw [h2,show k=pJ f u by omega];congr 1;rename_i hi1;rw [hi1,show (i+1).toNat=i.toNat+1 by omega];exact nK λd _=>ha d)
  ·refine hK _ ?_;rw [hinv,show i.toNat=l.length by omega,show (λd:Nat=>lastTo l l.length (d:Int))=λd:Nat=>nk l (d:Int) from funext λd=>RP hok d];rfl
theorem afH [St] {E:Env} {np:Nat} {P:Program} [hE:SE E np P] {s:ByteArray} {p:Nat} {K:Int->Int->Nat->Prop} {K0:Prop} (f:Nat->Int) (hd:∀p,p<s.size->((Utf8.decode s p).1:Int)=f p/\(Utf8.decode s p).2=1) (h1:∀(q r:Int) (n:Nat),p<s.size->q=p->r=f p->n=p+1->K q r n) (h2:¬p<s.size->K0):E.nxt s p K K0:=by
 cases hE.h;show if p<s.size then _ else _
 split
 ·rename_i h;obtain ⟨e1,e2⟩:=hd p h;exact h1 _ _ _ h rfl e1 (by rw [e2])
 ·rename_i h;exact h2 h
theorem Uk [St] {E:Env} {np:Nat} {P:Program} [hE:SE E np P] {a:ByteArray} {lo hi:Int} {K:ByteArray->Prop} (h:0<=lo/\lo<=hi/\hi<=a.size) (hk:∀s,s=a.extract lo.toNat hi.toNat->K s):E.acE a (some lo) (some hi) K:=
 ahb h hk
theorem P9:∀p,p<qC.size->((Utf8.decode qC p).1:Int)=chr qC p/\(Utf8.decode qC p).2=1:=by
 have h:∀p:Fin 4,((Utf8.decode qC p.1).1:Int)=chr qC p.1/\(Utf8.decode qC p.1).2=1:=by decide +kernel
 exact λp hp=>h ⟨p,hp⟩
theorem abE:∀p:Fin 4,qC.extract p.1 (p.1+1)=jd.getD p.1 noS:=by
 have h:∀p:Fin 4,(qC.extract p.1 (p.1+1)).data.toList=(jd.getD p.1 noS).data.toList:=by decide +kernel
 exact λp=>Br (by rw [jq,jq];exact h p)
theorem QF:∀p:Fin 4,(jd.getD p.1 noS).size=1:=by decide +kernel
theorem Gf [St] (s c:ByteArray) (h:c.size=1):AC Tryz.prog 150 [.str s,.str c] AV.bool (decide (0<=Lib.indexByte s.data.toList (c.data.getD 0 0))):=by
 have:=zC s (c.data.getD 0 0);rwa [←Un h] at this
theorem TH (l:List Scr) (p:Nat) (b:Bool):(jD l p++fl (jd.getD p noS) b).size<=p+1:=by
 have h1:=uU l p;have h2:=Vp (jd.getD p noS) b;have h3:=JD p;rw [dl];omega
theorem Yn (l:List Scr) (p:Nat):jD l p=jD l p++fl (jd.getD p noS) (occ (l.take 0) (jd.getD p noS)):=by
 rw [List.take_zero,UQ];exact (LW _).symm
theorem abr {l:List Scr} {p:Nat} {k n:Int} {s:Scr} (h0:0<=k) (hs:l[k.toNat]? =some s) (hn:n=k+1) (hc:s.color=jd.getD p noS) (ho:occ (l.take k.toNat) (jd.getD p noS)=false):(jD l p++fl (jd.getD p noS) (occ (l.take k.toNat) (jd.getD p noS)))++jd.getD p noS=jD l p++fl (jd.getD p noS) (occ (l.take n.toNat) (jd.getD p noS)):=by
 rw [hn,N8 _ h0 hs,ho,Qs (b:=true) ⟨λ_=>hc,λ_=>rfl⟩];show (jD l p++noS)++_=_++_;rw [LW];rfl
theorem Bl {l:List Scr} {p:Nat} {k n:Int} {s:Scr} (h0:0<=k) (hs:l[k.toNat]? =some s) (hn:n=k+1) (h:s.color≠jd.getD p noS∨occ (l.take k.toNat) (jd.getD p noS)=true):occ (l.take n.toNat) (jd.getD p noS)=occ (l.take k.toNat) (jd.getD p noS):=by
 rw [hn,N8 _ h0 hs];rcases h with h|h
 ·rw [Qs (b:=false) ⟨λh'=>(by cases h'),λh'=>absurd h' h⟩];simp
 ·rw [h];rfl
theorem Yo [St] {rs:List (List AV)} {t:Bool} {l:List Scr} (hl:rs=l.map Scr.cs):AP 78 [.sl t 3 rs] AV.str (abu l):=by
  refine a0 Tryz.func78 λE K hE hK=>?_;refine bO [0,8] [3] (λ(p:Nat) (out:ByteArray)=>([(3,.str out)],[.iter qC p],(4 - (p:Int)),p<=4/\out=jD l p)) [0] ((0,noS)) (by dsimp only;exact ⟨by omega,rfl⟩) λp out hi Kn hN=>?_;obtain ⟨h0,hinv⟩:=hi;refine afH (chr qC) P9 (λq r n hp hq hr hn=>?_) (λhp=>?_)<;>conv=>cbv
  ·have hp4:p<4:=hp;have hsub:=abE ⟨p,hp4⟩;have hone:=QF ⟨p,hp4⟩;simp only at hsub hone;have hmz:=TH l p;refine bn hl λm hm hb=>?_;conv=>cbv
   repeat' first
     |((refine bO [0,4,8,12,13] [14,3] (λ(k:Int) (KD:ByteArray)=>([(14,.int .i64 k),(3,.str KD)],[.iter qC n],m - k,(0<=k/\k<=l.length)/\KD=jD l p++fl (jd.getD p noS) (occ (l.take k.toNat) (jd.getD p noS)))) [0] ((0,out)) (by dsimp only;exact ⟨by omega,by rw [hinv];exact Yn l p⟩) λk KD hi2 Kn2 hN2=>?_);obtain ⟨h1,h2⟩:=hi2;have hz2:=hmz (occ (l.take k.toNat) (jd.getD p noS));rw [←h2] at hz2)
     |(refine hN _ _ [0] rfl ⟨?_,?_⟩)
     |(refine hN2 _ _ [0] rfl ⟨?_,?_⟩)
     |((first
    |(refine bQ (R:=Scr.cs) hl (by omega) (λv hv=>?_);obtain ⟨f,u,c⟩:=v)
    |(refine Uk (by refine ⟨by omega,by omega,?_⟩;show _<=((4:Nat):Int);omega) (λc2 hc2=>?_);(have hc3:c2=jd.getD p noS:=by rw [hc2,←hsub];congr 1<;>omega);clear hc2)
    |(refine Jy (Gf KD c2 (by rw [hc3];exact hone)) (λhin=>?_) (λhin=>?_)<;>(rw [h2,hc3,abq l hp4] at hin))
    |(refine BL (by rw [hc3];omega) (λaiL aaO _=>?_))
    |refine B0 ?_|refine B1 ?_ ?_)<;>intros<;>(try conv=>cbv))
   (all_goals (try clear hN));all_goals (try clear hN2)
   all_goals first
    |omega
    |(rename_i hk1;rw [aaO,hc3,h2];exact abr h1.1 hv hk1 (by rw [←hc3];assumption) hin)
    |(rename_i hk1;rw [Bl h1.1 hv hk1 (.inr hin)];exact h2)
    |(rename_i hk1;rw [Bl h1.1 hv hk1 (.inl (by rw [←hc3];assumption))];exact h2)
    |(rw [h2,hn,bm (by omega)];rfl)
  ·have hp4:¬p<4:=hp;exact hK _ (by rw [hinv,show p=4 by omega];rfl)
theorem RZ [St] {rs:List (List AV)} {t:Bool} {l:List Scr} (hl:rs=l.map Scr.cs):AP 254 [.sl t 3 rs] AV.str (abu l):=by
  refine a0 Tryz.func254 λE K hE hK=>?_;refine bO [0,4] [5,3] (λ(i:Int) (out:ByteArray)=>([(5,.int .i64 i),(3,.str out)],[.row 1 (jd.map iQ)],4 - i,(0<=i/\i<=4)/\out=jD l i.toNat)) [0] ((0,noS)) (by dsimp only;exact ⟨by omega,rfl⟩) λi out hi Kn hN=>?_;obtain ⟨h0,hinv⟩:=hi;have hz:=uU l i.toNat;refine bn (R:=iQ) (l:=jd) (by rfl) λn4 hn4 _=>?_;have hn5:n4=4:=hn4;conv=>cbv
  refine ltI (λhlt=>?_) (λhge=>?_)<;>conv=>cbv
  ·(have hi4:i.toNat<4:=by omega);have hone:=QF ⟨i.toNat,hi4⟩;simp only at hone;obtain ⟨cc,hcc⟩:∃c,c=jd.getD i.toNat noS:=⟨_,rfl⟩
   have hv4:jd[i.toNat]? =some cc:=by
    rw [hcc,ad,ag (show i.toNat<jd.length from hi4)];rfl
   have hstep:jD l (i+1).toNat=jD l i.toNat++fl (jd.getD i.toNat noS) (occ l (jd.getD i.toNat noS)):=by rw [show (i+1).toNat=i.toNat+1 by omega];rfl
   repeat' first
     |((refine bO [0,4,5] [6,3] (λ(k:Int) (KD:ByteArray)=>([(6,.int .i64 k),(3,.str KD)],[.row 1 (jd.map iQ)],l.length - k,(0<=k/\k<=l.length)/\KD=out/\occ (l.take k.toNat) (jd.getD i.toNat noS)=false)) [0] ((0,out)) (by dsimp only;exact ⟨by omega,rfl,by rw [show (0:Int).toNat=0 from rfl,List.take_zero];exact UQ _⟩) λk KD hi2 Kn2 hN2=>?_);obtain ⟨h1,ho2,h2⟩:=hi2;(have hz2:KD.size<=i.toNat:=by rw [ho2,hinv];exact hz))
     |(refine hN _ _ [0] rfl ⟨?_,?_⟩)
     |(refine hN2 _ _ [0] rfl ⟨?_,?_,?_⟩)
     |((first
    |(refine bQ (R:=Scr.cs) hl (by omega) (λv hv=>?_);obtain ⟨f,u,c⟩:=v)
    |refine gK (R:=iQ) (l:=jd) (by rfl) (by omega) hv4 ?_
    |(refine BL (by rw [hcc];omega) (λaiL aaO _=>?_))
    |refine B0 ?_|refine B1 ?_ ?_)<;>intros<;>(try conv=>cbv))
   (all_goals (try clear hN));all_goals (try clear hN2)
   all_goals first
    |omega
    |exact ho2
    |(rename_i hk1;rw [Bl h1.1 hv hk1 (.inl (by rw [←hcc];assumption))];exact h2)
    |(rename_i hi1;rw [hi1,hstep,aaO,hcc,ho2,hinv];congr 1;rw [occ,Qs (b:=true) (by simp only [true_iff];exact ⟨_,ae hv,by rw [←hcc];assumption⟩)];rfl)
    |(rename_i hi1;rw [hi1,hstep,ho2,hinv];rw [bm (by omega)] at h2;rw [h2];exact (LW _).symm)
  ·exact hK _ (by rw [hinv,show i.toNat=4 by omega];rfl)
end Go.Proofs.YtnlhnideeaobpaaGreatDoor
