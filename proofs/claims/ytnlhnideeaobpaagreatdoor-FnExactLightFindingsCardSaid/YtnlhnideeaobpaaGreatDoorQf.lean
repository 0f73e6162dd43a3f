/- Contracts: logarithms, ranges; Contracts: valid aids; Contracts: aids that are seen; Contracts: lists of aids; those that an observer sees. -/
import Derived.Test.YtnlhnideeaobpaaGreatDoorFC
import Derived.Test.YtnlhnideeaobpaaGreatDoorQl
import Derived.Test.YtnlhnideeaobpaaGreatDoorQk
import Derived.Test.YtnlhnideeaobpaaGreatDoorFA
namespace Go.Proofs.YtnlhnideeaobpaaGreatDoor
open Go Go.RowKit Classical
set_option maxRecDepth 100000
set_option maxHeartbeats 2000000
set_option linter.unusedVariables false
set_option linter.unusedSimpArgs false
def yX (n:Int):Nat->Int×Int
 |0=>(gX n,sc n)
 |k+1=>lev (yX n k)
theorem U5 {n:Int} (h:1<=n/\n<=100000000) {k:Nat} (hk:k<=3):Man (yX n k).2/\0<=(yX n k).1/\(yX n k).1<=9000:=by
 have h0:Man (gX n,sc n).2:=Nn h;have h1:=lq h0;have h2:=lq h1.1;have h3:=lq h2.1;have h4:=vX n;simp only at*
 match k,hk with
 |0,_=>exact ⟨h0,by show 0<=gX n;omega,by show gX n<=9000;omega⟩
 |1,_=>exact ⟨h1.1,by show 0<=(lev (gX n,sc n)).1;omega,by show (lev (gX n,sc n)).1<=9000;omega⟩
 |2,_=>exact ⟨h2.1,by show 0<=(lev (lev (gX n,sc n))).1;omega,by show (lev (lev (gX n,sc n))).1<=9000;omega⟩
 |3,_=>exact ⟨h3.1,by show 0<=(lev (lev (lev (gX n,sc n)))).1;omega,by show (lev (lev (lev (gX n,sc n)))).1<=9000;omega⟩
theorem Vi {x d y j j':Int} (h0:0<=j) (e:(d,y)=itr x j.toNat) (h:1000000000<=yd y x) (hj:j'=j+1):(d+1,yd y x / 10)=itr x j'.toNat:=by
 rw [hj,show (j+1).toNat=j.toNat+1 by omega];show _=stp x (itr x j.toNat);rw [←e];unfold stp;rw [if_pos h]
theorem aay {x d y j j':Int} (h0:0<=j) (e:(d,y)=itr x j.toNat) (h:¬1000000000<=yd y x) (hj:j'=j+1):(d,yd y x)=itr x j'.toNat:=by
 rw [hj,show (j+1).toNat=j.toNat+1 by omega];show _=stp x (itr x j.toNat);rw [←e];unfold stp;rw [if_neg h]
theorem I4 {n c c' r x d y j:Int} (h0:0<=c) (e1:r=(yX n c.toNat).1) (e2:x=(yX n c.toNat).2) (hc:c'=c+1) (hj:j=10) (e:(d,y)=itr x j.toNat):10*r+d=(yX n c'.toNat).1/\y=(yX n c'.toNat).2:=by
 rw [hc,show (c+1).toNat=c.toNat+1 by omega];show _=(lev (yX n c.toNat)).1/\_=(lev (yX n c.toNat)).2;unfold lev;rw [←e1,←e2];rw [hj] at e;have e':itr x 10=(d,y):=e.symm;rw [e'];exact ⟨rfl,rfl⟩
theorem acp [St] (n:Int) (hn:1<=n/\n<=100000000):AP 456 [.int .i64 n] (AV.int .i64) (G5 n):=by
  refine a0 Tryz.func456 λE K hE hK=>?_;have hib:=vX n;refine bO [4] [3,5] (λ(r m:Int)=>([(3,.int .i64 r),(5,.int .i64 m)],[],m,(0<=r/\1<=m/\m<=100000000)/\r+gX m=gX n)) [] ((0,n)) (by dsimp only;exact ⟨by omega,by omega⟩) λr m hi Kn hN=>?_;obtain ⟨⟨h0,h1,h2⟩,h3⟩:=hi;have hm0:=vX m
  repeat' first
    |(refine hN _ _ [] rfl ⟨?_,?_⟩)
    |((first
   |refine B0 ?_|refine B1 ?_ ?_)<;>intros<;>(try conv=>cbv))
  all_goals first
   |omega
   |(have hs:=Jf (n:=m) (by omega);subst_vars;omega)
   |skip
  clear hN;have hr:r=gX n:=by have:=FL (n:=m) (by omega);omega
  refine bO [3] [4,6] (λ(x k:Int)=>([(4,.int .i64 x),(6,.int .i64 k)],[],8 - k,(r<=k/\k<=8)/\x=n*p10 (k - r))) [] ((n,r)) (by dsimp only;exact ⟨by omega,by rw [show r - r=0 by omega];show n=n*1;omega⟩) λx k hi Kn hN=>?_;obtain ⟨h4,h5⟩:=hi;have hb:=Zn hn (k:=k - r) (by omega)
  repeat' first
    |(refine hN _ _ [] rfl ⟨?_,?_⟩)
    |((first
   |refine nM (by omega) (λ_ _=>?_)
   |refine B0 ?_|refine B1 ?_ ?_)<;>intros<;>(try conv=>cbv))
  all_goals first
   |omega
   |(have hs:=Nj (n:=n) (r:=r) (k:=k) (x:=x) (by omega) h5;clear hN hK;subst_vars;exact hs)
   |skip
  clear hN;have hxs:x=sc n:=by rw [h5,show k=8 by omega,hr];rfl
  refine bO [3] [4,7] (λ(x2 k2:Int)=>([(4,.int .i64 x2),(7,.int .i64 k2)],[],(0:Int),k2=8/\x2=sc n)) [] ((x,8)) (by dsimp only;exact ⟨rfl,hxs⟩) λx2 k2 hi Kn hN=>?_;obtain ⟨h6,h7⟩:=hi
  repeat' first
    |((first
   |refine B0 ?_|refine B1 ?_ ?_)<;>intros<;>(try conv=>cbv))
  clear hN;refine iR [] [32,3,4] (λ(c r3 x3:Int)=>([(32,.int .i64 c),(3,.int .i64 r3),(4,.int .i64 x3)],[],3 - c,(0<=c/\c<=3)/\r3=(yX n c.toNat).1/\x3=(yX n c.toNat).2)) [] ((0,r,x2)) (by dsimp only;exact ⟨by omega,hr,h7⟩) λc r3 x3 hi Kn hN=>?_;obtain ⟨hc,e1,e2⟩:=hi;have hl:=U5 hn (k:=c.toNat) (by omega);rw [←e1,←e2] at hl
  repeat' first
    |((refine iR [3,4,32] [34,8,9] (λ(j y d:Int)=>([(34,.int .i64 j),(8,.int .i64 y),(9,.int .i64 d)],[],10 - j,(0<=j/\j<=10)/\(d,y)=itr x3 j.toNat)) [] ((0,100000000,0)) (by dsimp only;exact ⟨by omega,rfl⟩) λj y d hi2 Kn2 hN2=>?_);obtain ⟨h8,e3⟩:=hi2;have hb2:=AQ hl.1 j.toNat;rw [←e3] at hb2;have hy:=MH hb2.1 hl.1;simp only [Man] at hb2 hy)
    |(refine hN _ _ _ [] rfl ⟨?_,?_,?_⟩)
    |(refine hN2 _ _ _ [] rfl ⟨?_,?_⟩)
    |((first
   |refine nM (by omega) (λ_ _=>?_)
   |refine B0 ?_|refine B1 ?_ ?_)<;>intros<;>(try conv=>cbv))
  all_goals (try clear hN)
  all_goals (try clear hN2)
  all_goals first
   |omega
   |(clear hK;subst_vars;exact Vi (by omega) e3 (by assumption) rfl)
   |(clear hK;subst_vars;exact aay (by omega) e3 (by unfold yd;omega) rfl)
   |(have hst:=I4 hc.1 e1 e2 (by assumption) (show j=10 by omega) e3;clear hK;subst_vars;first|exact hst.1|exact hst.2)
   |(refine hK _ ?_;rw [e1,show c=3 by omega];rfl)
theorem adH [St] (n:Int) (hn:1<=n/\n<=100000000):AP 460 [.int .i64 n] (AV.int .i64) (G5 n):=by
  refine a0 Tryz.func460 λE K hE hK=>?_;have hib:=vX n;refine bO [0] [3,4] (λ(r m:Int)=>([(3,.int .i64 r),(4,.int .i64 m)],[],m,(0<=r/\1<=m/\m<=100000000)/\r+gX m=gX n)) [] ((0,n)) (by dsimp only;exact ⟨by omega,by omega⟩) λr m hi Kn hN=>?_;obtain ⟨⟨h0,h1,h2⟩,h3⟩:=hi;have hm0:=vX m
  repeat' first
    |(refine hN _ _ [] rfl ⟨?_,?_⟩)
    |((first
   |refine B0 ?_|refine B1 ?_ ?_)<;>intros<;>(try conv=>cbv))
  all_goals first
   |omega
   |(have hs:=Jf (n:=m) (by omega);subst_vars;omega)
   |skip
  clear hN;have hr:r=gX n:=by have:=FL (n:=m) (by omega);omega
  refine bO [3] [5,6] (λ(x k:Int)=>([(5,.int .i64 x),(6,.int .i64 k)],[],8 - k,(r<=k/\k<=8)/\x=n*p10 (k - r))) [] ((n,r)) (by dsimp only;exact ⟨by omega,by rw [show r - r=0 by omega];show n=n*1;omega⟩) λx k hi Kn hN=>?_;obtain ⟨h4,h5⟩:=hi;have hb:=Zn hn (k:=k - r) (by omega)
  repeat' first
    |(refine hN _ _ [] rfl ⟨?_,?_⟩)
    |((first
   |refine nM (by omega) (λ_ _=>?_)
   |refine B0 ?_|refine B1 ?_ ?_)<;>intros<;>(try conv=>cbv))
  all_goals first
   |omega
   |(have hs:=Nj (n:=n) (r:=r) (k:=k) (x:=x) (by omega) h5;clear hN hK;subst_vars;exact hs)
   |skip
  clear hN;have hxs:x=sc n:=by rw [h5,show k=8 by omega,hr];rfl
  refine bO [3] [5,7] (λ(x2 k2:Int)=>([(5,.int .i64 x2),(7,.int .i64 k2)],[],(0:Int),k2=r/\x2=sc n)) [] ((x,r)) (by dsimp only;exact ⟨rfl,hxs⟩) λx2 k2 hi Kn hN=>?_;obtain ⟨h6,h7⟩:=hi
  repeat' first
    |((first
   |refine B0 ?_|refine B1 ?_ ?_)<;>intros<;>(try conv=>cbv))
  clear hN;refine iR [] [8,3,5] (λ(c r3 x3:Int)=>([(8,.int .i64 c),(3,.int .i64 r3),(5,.int .i64 x3)],[],3 - c,(0<=c/\c<=3)/\r3=(yX n c.toNat).1/\x3=(yX n c.toNat).2)) [] ((0,r,x2)) (by dsimp only;exact ⟨by omega,hr,h7⟩) λc r3 x3 hi Kn hN=>?_;obtain ⟨hc,e1,e2⟩:=hi;have hl:=U5 hn (k:=c.toNat) (by omega);rw [←e1,←e2] at hl
  repeat' first
    |((refine iR [3,5,8] [11,9,10] (λ(j y d:Int)=>([(11,.int .i64 j),(9,.int .i64 y),(10,.int .i64 d)],[],10 - j,(0<=j/\j<=10)/\(d,y)=itr x3 j.toNat)) [] ((0,100000000,0)) (by dsimp only;exact ⟨by omega,rfl⟩) λj y d hi2 Kn2 hN2=>?_);obtain ⟨h8,e3⟩:=hi2;have hb2:=AQ hl.1 j.toNat;rw [←e3] at hb2;have hy:=MH hb2.1 hl.1;simp only [Man] at hb2 hy)
    |(refine hN _ _ _ [] rfl ⟨?_,?_,?_⟩)
    |(refine hN2 _ _ _ [] rfl ⟨?_,?_⟩)
    |((first
   |refine nM (by omega) (λ_ _=>?_)
   |refine B0 ?_|refine B1 ?_ ?_)<;>intros<;>(try conv=>cbv))
  all_goals (try clear hN)
  all_goals (try clear hN2)
  all_goals first
   |omega
   |(clear hK;subst_vars;exact Vi (by omega) e3 (by assumption) rfl)
   |(clear hK;subst_vars;exact aay (by omega) e3 (by unfold yd;omega) rfl)
   |(have hst:=I4 hc.1 e1 e2 (by assumption) (show j=10 by omega) e3;clear hK;subst_vars;first|exact hst.1|exact hst.2)
   |(refine hK _ ?_;rw [e1,show c=3 by omega];rfl)
theorem aeo [St] (I v d:Int) (hI:1<=I/\I<=100000000) (hv:1<=v/\v<=100000) (hd:1<=d/\d<=100000):AP 442 [.int .i64 I,.int .i64 d,.int .i64 v] AV.bool (bP (EnO I v d)):=by
  refine a0 Tryz.func442 λE K hE hK=>?_;have hb1:=Dw hI;have hb2:=Dw (n:=d) (by omega)
  repeat' first
    |((first
   |refine nM (by omega) (λ_ _=>?_)
   |(refine yO (by omega) (λq hq=>?_);have hq4:q=1301*d / v:=(by subst_vars;rfl);have hq2:=gz (a:=1301*d) (b:=v) (by omega) (by omega);have hq3:=j7 v (a:=1301*d) (by omega))
   |refine aQ (acp _ (by omega)) (λ_ _=>?_)
   |refine B0 ?_|refine B1 ?_ ?_)<;>intros<;>(try conv=>cbv))
  all_goals first
   |(refine aH hK (aG.2 ?_);unfold EnO;omega)
   |(refine aH hK (ah.2 ?_);unfold EnO;omega)
theorem aao [St] (I v d:Int) (hI:1<=I/\I<=100000000) (hv:1<=v/\v<=100000) (hd:1<=d/\d<=100000):AP 457 [.int .i64 I,.int .i64 v,.int .i64 d] AV.bool (bP (EnO I v d)):=by
  refine a0 Tryz.func457 λE K hE hK=>?_;have hb1:=Dw hI;have hb2:=Dw (n:=d) (by omega)
  repeat' first
    |((first
   |refine nM (by omega) (λ_ _=>?_)
   |(refine yO (by omega) (λq hq=>?_);have hq4:q=1301*d / v:=(by subst_vars;rfl);have hq2:=gz (a:=1301*d) (b:=v) (by omega) (by omega);have hq3:=j7 v (a:=1301*d) (by omega))
   |refine aQ (adH _ (by omega)) (λ_ _=>?_)
   |refine B0 ?_|refine B1 ?_ ?_)<;>intros<;>(try conv=>cbv))
  all_goals first
   |(refine aH hK (aG.2 ?_);unfold EnO;omega)
   |(refine aH hK (ah.2 ?_);unfold EnO;omega)
theorem Xi [St] (lo hi0:Int) {g:FuncId} {c1 c2:List AV} {p:Int->Prop} (m:Int) (h0:0<=lo/\lo<=hi0/\hi0<=1000000000) (hm:lo<=m/\m<=hi0+1) (hp:∀n,lo<=n->n<=hi0->AC Tryz.prog g (.int .i64 n::[.pp c1,.pp c2]) AV.bool (bP (p n))) (hpm:∀n,lo<=n->n<=hi0->(p n↔m<=n)):AP 440 [.int .i64 lo,.int .i64 hi0,.fn g [.pp c1,.pp c2]] two (if m<=hi0 then (m,0) else (0,3)):=by
  refine ac Tryz.func440 (.two _) λE K hE hK=>?_;refine aF (hp _ (by omega) (by omega)) (λhh=>?_) (λhh=>?_)<;>conv=>cbv
  ·have hmh:=(hpm hi0 (by omega) (by omega)).1 hh;refine bO [2] [0,1] (λ(l h:Int)=>([(0,.int .i64 l),(1,.int .i64 h)],[],h - l,(lo<=l/\l<=h/\h<=hi0)/\l<=m/\m<=h)) [] ((lo,hi0)) (by dsimp only;exact ⟨by omega,by omega⟩) λl h hi Kn hN=>?_;obtain ⟨h1,h2⟩:=hi
   repeat' first
     |(refine hN _ _ [] rfl ⟨?_,?_⟩)
     |((first
    |(refine aF (hp _ (by omega) (by omega)) (λhq=>?_) (λhq=>?_)<;>(rw [hpm _ (by omega) (by omega)] at hq))
    |refine B0 ?_|refine B1 ?_ ?_)<;>intros<;>(try conv=>cbv))
   all_goals (try clear hN)
   all_goals first
    |omega
    |(refine hK _ ?_;rw [if_pos (by omega),show m=l by omega];rfl)
  ·have hmh:=mt (hpm hi0 (by omega) (by omega)).2 hh;exact hK _ (by rw [if_neg (by omega)];rfl)
theorem RL [St] (I v d:Int) (hI:1<=I/\I<=100000000) (hv:1<=v/\v<=100000) (hd:1<=d/\d<=100000):AP 441 [.int .i64 d,.pp [.int .i64 I],.pp [.int .i64 v]] AV.bool (bP (¬EnO I v d)):=by
  refine a0 Tryz.func441 λE K hE hK=>?_
  repeat' first
    |((first
   |refine aF (aeo _ _ _ hI hv hd) (λ_=>?_) (λ_=>?_)
   |refine B0 ?_|refine B1 ?_ ?_)<;>intros<;>(try conv=>cbv))
  all_goals first
   |(refine aH hK (aG.2 ?_);assumption)
   |(refine aH hK (ah.2 ?_);exact not_not_intro (by assumption))
theorem Xg [St] (I v:Int) (hI:1<=I/\I<=100000000) (hv:1<=v/\v<=100000):AP 413 [.int .i64 I,.int .i64 v] (AV.int .i64) (Df I v):=by
  refine a0 Tryz.func413 λE K hE hK=>?_;have hl:=IV (I:=I) hv.1;refine LX (Xi 1 100000 (p:=λd=>¬EnO I v d) (Df I v+1) (by omega) (by have:=hl.1;omega) (λn h1 h2=>RL I v n hI hv ⟨h1,h2⟩) (λn h1 h2=>by rw [hl.2 n h1 h2];omega)) λm9 n9 hm hn=>?_;have hb:=hl.1
  have hmn:(m9=Df I v+1/\n9=0/\Df I v+1<=100000)∨(n9=3/\100000<Df I v+1):=by
   by_cases h:Df I v+1<=100000
   ·rw [if_pos h] at hm hn;exact .inl ⟨hm,hn,h⟩
   ·rw [if_neg h] at hm hn;exact .inr ⟨hn,by omega⟩
  conv=>cbv
  repeat' first
    |((first
   |refine B0 ?_|refine B1 ?_ ?_)<;>intros<;>(try conv=>cbv))
  all_goals first
   |omega
   |(refine hK _ ?_;show AV.int _ _=AV.int _ _;congr 1;omega)
theorem La [St] (I v:Int) (hI:1<=I/\I<=100000000) (hv:1<=v/\v<=100000):AP 448 [.int .i64 I,.int .i64 v] (AV.int .i64) (Df I v):=by
  refine a0 Tryz.func448 λE K hE hK=>?_;have hl:=IV (I:=I) hv.1;have hb:=hl.1;refine bO [0,1] [5,6] (λ(l h:Int)=>([(5,.int .i64 l),(6,.int .i64 h)],[],h - l,(0<=l/\l<h/\h<=100001)/\l<=Df I v/\Df I v<h)) [] ((0,100001)) (by dsimp only;exact ⟨by omega,by omega⟩) λl h hi Kn hN=>?_;obtain ⟨h1,h2⟩:=hi
  repeat' first
    |(refine hN _ _ [] rfl ⟨?_,?_⟩)
    |((first
   |(refine aF (aao I v _ hI hv (by omega)) (λhq=>?_) (λhq=>?_)<;>(rw [hl.2 _ (by omega) (by omega)] at hq))
   |refine B0 ?_|refine B1 ?_ ?_)<;>intros<;>(try conv=>cbv))
  all_goals (try clear hN)
  all_goals first
   |omega
   |(refine hK _ ?_;show AV.int _ _=AV.int _ _;congr 1;omega)
theorem aaP [St] (h:Int) (hh:0<=h/\h<=3000):AP 414 [.int .i64 h] (AV.int .i64) (XY h):=by
  refine a0 Tryz.func414 λE K hE hK=>?_
  repeat' first
    |((first
   |refine nM (by omega) (λ_ _=>?_)
   |refine aQ (UA _ (by omega)) (λ_ _=>?_)
   |refine B0 ?_|refine B1 ?_ ?_)<;>intros<;>(try conv=>cbv))
  all_goals exact hK _ (by subst_vars;rfl)
theorem OV [St] (h:Int) (hh:0<=h/\h<=3000):AP 449 [.int .i64 h] (AV.int .i64) (XY h):=by
  refine a0 Tryz.func449 λE K hE hK=>?_
  repeat' first
    |((first
   |refine nM (by omega) (λ_ _=>?_)
   |refine aQ (O1 _ (by omega)) (λ_ _=>?_)
   |refine B0 ?_|refine B1 ?_ ?_)<;>intros<;>(try conv=>cbv))
  all_goals exact hK _ (by subst_vars;rfl)
theorem Lh [St] (n:Int):AP 76 [.int .i64 n] AV.bool (bP (1<=n/\n<=100000000)):=by
  refine a0 Tryz.func76 λE K hE hK=>?_
  repeat' first
    |((first
   |refine aF (eU _ _ _) (λ_=>?_) (λ_=>?_)
   |refine B0 ?_|refine B1 ?_ ?_)<;>intros<;>(try conv=>cbv))
  all_goals exact fz
theorem Hl [St] (n:Int):AP 444 [.int .i64 n] AV.bool (bP (1<=n/\n<=100000000)):=by
  refine a0 Tryz.func444 λE K hE hK=>?_
  repeat' first
    |((first
   |refine aF (in_ _ _ _) (λ_=>?_) (λ_=>?_)
   |refine B0 ?_|refine B1 ?_ ?_)<;>intros<;>(try conv=>cbv))
  all_goals exact fz
theorem RY [St] (n:Int):AP 445 [.int .i64 n] AV.bool (bP (0<=n/\n<=3000)):=by
  refine a0 Tryz.func445 λE K hE hK=>?_
  repeat' first
    |((first
   |refine aF (in_ _ _ _) (λ_=>?_) (λ_=>?_)
   |refine B0 ?_|refine B1 ?_ ?_)<;>intros<;>(try conv=>cbv))
  all_goals exact fz
theorem adI [St] (n:Int):AP 446 [.int .i64 n] AV.bool (bP (1<=n/\n<=100000)):=by
  refine a0 Tryz.func446 λE K hE hK=>?_
  repeat' first
    |((first
   |refine aF (in_ _ _ _) (λ_=>?_) (λ_=>?_)
   |refine B0 ?_|refine B1 ?_ ?_)<;>intros<;>(try conv=>cbv))
  all_goals exact fz
theorem adN [St] (a b:Int):AP 447 [.int .i64 a,.int .i64 b] (AV.int .i64) (min a b):=by
  refine a0 Tryz.func447 λE K hE hK=>?_
  repeat' first
    |((first
   |refine B0 ?_|refine B1 ?_ ?_)<;>intros<;>(try conv=>cbv))
  all_goals (refine hK _ ?_;show AV.int _ _=AV.int _ _;congr 1;omega)
theorem ZE [St] (I h e v:Int) (hI:1<=I/\I<=100000000) (hh:0<=h/\h<=3000) (he:0<=e/\e<=3000) (hv:1<=v/\v<=100000):AP 371 [.int .i64 I,.int .i64 h,.int .i64 e,.int .i64 v] (AV.int .i64) (Zw I h e v):=by
  refine a0 Tryz.func371 λE K hE hK=>?_;have h1:=DW hh;have h2:=DW he
  repeat' first
    |((first
   |refine aQ (Xg _ _ hI hv) (λ_ _=>?_)
   |refine aQ (aaP _ (by omega)) (λ_ _=>?_)
   |refine B0 ?_|refine B1 ?_ ?_)<;>intros<;>(try conv=>cbv))
  all_goals exact hK _ (by subst_vars;rfl)
theorem WJ [St] (I h e v:Int) (hI:1<=I/\I<=100000000) (hh:0<=h/\h<=3000) (he:0<=e/\e<=3000) (hv:1<=v/\v<=100000):AP 427 [.int .i64 I,.int .i64 h,.int .i64 e,.int .i64 v] two (Zw I h e v,0):=by
  refine ac Tryz.func427 (.two _) λE K hE hK=>?_;have h1:=DW hh;have h2:=DW he
  repeat' first
    |((first
   |refine aF (Hl _) (λ_=>?_) (λ_=>?_)
   |refine aF (RY _) (λ_=>?_) (λ_=>?_)
   |refine aF (adI _) (λ_=>?_) (λ_=>?_)
   |refine aQ (La _ _ hI hv) (λ_ _=>?_)
   |refine aQ (OV _ (by omega)) (λ_ _=>?_)
   |refine aQ (adN _ _) (λ_ _=>?_)
   |refine B0 ?_|refine B1 ?_ ?_)<;>intros<;>(try conv=>cbv))
  all_goals first
   |contradiction
   |exact hK _ (by subst_vars;rfl)
theorem acP [St] {rs rs':List (List AV)} {t t':Bool} {l m:List Int} (hl:rs=l.map aN) (hm:rs'=m.map aN):AP 412 [.sl t 1 rs,.sl t' 1 rs'] AV.bool (bP (l=m)):=by
  refine a0 Tryz.func412 λE K hE hK=>?_;refine bn hl λn hn hb=>?_;conv=>cbv
  refine bn hm λn' hn' hb'=>?_;conv=>cbv
  refine eqI (λhe=>?_) (λhe=>?_)<;>conv=>cbv
  ·skip
   repeat' first
     |((refine cu [0,1,12] [13] (λ(i:Int)=>([(13,.int .i64 i)],[],l.length - i,0<=i/\Up (λj=>l[j]? =m[j]?) i)) [] (0) (by dsimp only;exact ⟨by omega,.zero (by omega)⟩) λi hi2 Kn2 hN2=>?_);obtain ⟨h0,hinv⟩:=hi2)
     |(refine hN2 _ [] rfl ⟨?_,?_⟩)
     |((first
    |refine bQ (R:=aN) (by assumption) (by omega) (λ_ _=>?_)
    |refine B0 ?_|refine B1 ?_ ?_)<;>intros<;>(try conv=>cbv))
   all_goals first
    |omega
    |(refine hinv.succ ?_ (by assumption);clear hN2;simp_all [gJ];done)
    |(refine aH hK (ah.2 λh=>?_);clear hN2;simp_all [gJ];done)
    |exact aH hK (aG.2 (eP (by omega) hinv (by omega)))
  ·refine aH hK (ah.2 λh=>?_);subst h;omega
theorem Ii [St] (k p:Int) (le co:ByteArray) {rs:List (List AV)} {t:Bool} {l:List Int} (hl:rs=l.map aN):AP 368 [.agg [.int .i64 k,.sl t 1 rs,.str le,.str co,.int .i64 p],.agg [.int .i64 0,.fV,.str ⟨#[]⟩,.str ⟨#[]⟩,.int .i64 0]] AV.bool (bP (k=0/\l=[]/\le=noS/\co=noS/\p=0)):=by
  refine a0 Tryz.func368 λE K hE hK=>?_
  repeat' first
    |((first
   |refine aF (AC.adk (acP (m:=[]) (t':=true) hl rfl)) (λ_=>?_) (λ_=>?_)
   |refine B0 ?_|refine B1 ?_ ?_)<;>intros<;>(try conv=>cbv))
  all_goals first
   |(refine aH hK (aG.2 ⟨by assumption,by assumption,by assumption,by assumption,by assumption⟩))
   |(refine aH hK (ah.2 λ⟨h1,h2,h3,h4,h5⟩=>?_);contradiction)
theorem ads [St] (number atX atY height aP aO au aj:Int) (name aC aJ bg aB ak:ByteArray) {rg rx:List (List AV)} {t t':Bool} {g:List Int} {l:List Scr} (hg:rg=g.map aN) (hl:rx=l.map Scr.cs):AP 32 [.agg [.int .i64 number,.str name,.int .i64 atX,.int .i64 atY,.int .i64 height,.int .i64 aP,.str aC,.str aJ,.str bg,.int .i64 aO,.sl t 1 rg,.str aB,.str ak,.int .i64 au,.sl t' 3 rx,.int .i64 aj]] AV.bool (bP (wW aO g aB ak au l aj)):=by
  refine a0 Tryz.func32 λE K hE hK=>?_
  repeat' first
    |((first
   |refine aF (nG _ _ _ _ hg) (λh1=>?_) (λh1=>?_)
   |refine aF (Lh _) (λh2=>?_) (λh2=>?_)
   |refine aF (GX hl) (λh3=>?_) (λh3=>?_)
   |refine aQ (Yo hl) (λcc hcc=>?_)
   |refine bn hl (λn hn hb=>?_)
   |refine B0 ?_|refine B1 ?_ ?_)<;>intros<;>(try conv=>cbv))
  all_goals first
   |(refine aH hK (ah.2 λh=>?_);first|exact h1 h.1|exact h2 h.2.1|exact h3 h.2.2.1)
   | (have hz:l=[]:=cm (by omega);first
    |(refine aH hK (aG.2 ⟨h1,h2,h3,λ_=>by omega,λh=>absurd hz h⟩))
    |(refine aH hK (ah.2 λh=>?_);have:=h.2.2.2.1 hz;omega))
   | (have hz:l≠[]:=by (rintro rfl;simp at hn;omega)
      first
       |(refine aH hK (aG.2 ⟨h1,h2,h3,λh=>absurd h hz,λ_=>?_⟩);rw [←hcc];assumption)
       |(refine aH hK (ah.2 λh=>?_);have h5:=h.2.2.2.2 hz;rw [←hcc] at h5;contradiction))
theorem afl [St] (number atX atY height aP aO au aj:Int) (name aC aJ bg aB ak:ByteArray) {rg rx:List (List AV)} {t t':Bool} {g:List Int} {l:List Scr} (hg:rg=g.map aN) (hl:rx=l.map Scr.cs):AP 304 [.agg [.int .i64 number,.str name,.int .i64 atX,.int .i64 atY,.int .i64 height,.int .i64 aP,.str aC,.str aJ,.str bg,.int .i64 aO,.sl t 1 rg,.str aB,.str ak,.int .i64 au,.sl t' 3 rx,.int .i64 aj]] AV.bool (bP (D9 aO g aB ak au l aj)):=by
  refine a0 Tryz.func304 λE K hE hK=>?_
  repeat' first
    |((first
   |refine aF (Ii _ _ _ _ hg) (λh1=>?_) (λh1=>?_)
   |refine bn hl (λn hn hb=>?_)
   |refine B0 ?_|refine B1 ?_ ?_)<;>intros<;>(try conv=>cbv))
  all_goals first
   |(refine aH hK (aG.2 ⟨h1,cm (by omega),by assumption⟩))
   |(refine aH hK (ah.2 λh=>?_);first|exact h1 h.1|(have:=h.2.1;subst this;simp at hn;omega)|(have:=h.2.2;contradiction))
set_option maxHeartbeats 4000000
theorem vv [St] (number atX atY height aP aO au aj:Int) (name aC aJ bg aB ak:ByteArray) {rg rx:List (List AV)} {t t':Bool} {g:List Int} {l:List Scr} (hg:rg=g.map aN) (hl:rx=l.map Scr.cs):AP 234 [.agg [.int .i64 number,.str name,.int .i64 atX,.int .i64 atY,.int .i64 height,.int .i64 aP,.str aC,.str aJ,.str bg,.int .i64 aO,.sl t 1 rg,.str aB,.str ak,.int .i64 au,.sl t' 3 rx,.int .i64 aj]] AV.bool (bP (Aid.ok ⟨number,name,atX,atY,height,aP,aC,aJ,bg,aO,g,aB,ak,au,l,aj⟩)):=by
  refine a0 Tryz.func234 λE K hE hK=>?_
  repeat' first
    |((first
   |refine aF (AU _) (λh1=>?_) (λh1=>?_)
   |refine aF (zf _) (λh2=>?_) (λh2=>?_)
   |refine aF (jI _ _) (λh3=>?_) (λh3=>?_)
   |refine aF (Jc _) (λh4=>?_) (λh4=>?_)
   |refine aF (QN _ _ _ _) (λh5=>?_) (λh5=>?_)
   |refine aF (ads _ _ _ _ _ _ _ _ _ _ _ _ _ _ hg hl) (λh6=>?_) (λh6=>?_)
   |refine aF (afl _ _ _ _ _ _ _ _ _ _ _ _ _ _ hg hl) (λh7=>?_) (λh7=>?_)
   |refine B0 ?_|refine B1 ?_ ?_)<;>intros<;>(try conv=>cbv))
  all_goals first
   |exact aH hK (aG.2 ⟨h1,h2,h3,h4,h5,.inl h6⟩)
   |exact aH hK (aG.2 ⟨h1,h2,h3,h4,h5,.inr h7⟩)
   |exact aH hK (ah.2 λh=>h1 h.1)
   |exact aH hK (ah.2 λh=>h2 h.2.1)
   |exact aH hK (ah.2 λh=>h3 h.2.2.1)
   |exact aH hK (ah.2 λh=>h4 h.2.2.2.1)
   |exact aH hK (ah.2 λh=>h5 h.2.2.2.2.1)
   |exact aH hK (ah.2 λh=>h.2.2.2.2.2.elim h6 h7)
theorem Xt [St] (k p:Int) (le co:ByteArray) {rs:List (List AV)} {t:Bool} {l:List Int} (hl:rs=l.map aN):AP 251 [.pp [.int .i64 k,.sl t 1 rs,.str le,.str co,.int .i64 p]] AV.bool (bP (k=0/\l=[]/\le=noS/\co=noS/\p=0)):=by
  refine a0 Tryz.func251 λE K hE hK=>?_
  repeat' first
    |((first
   |(refine bn hl (λn hn hb=>?_);(have hnl:=rX hn))
   |refine B0 ?_|refine B1 ?_ ?_)<;>intros<;>(try conv=>cbv))
  all_goals first
   |(refine aH hK (aG.2 ⟨by assumption,hnl.1 (by assumption),by assumption,by assumption,by assumption⟩))
   |(refine aH hK (ah.2 λ⟨h1,h2,h3,h4,h5⟩=>?_);first|contradiction|(have:=hnl.2 h2;contradiction))
set_option maxHeartbeats 8000000
theorem Vb [St] (number atX atY height aP aO au aj:Int) (name aC aJ bg aB ak:ByteArray) {rg rx:List (List AV)} {t t':Bool} {g:List Int} {l:List Scr} (hg:rg=g.map aN) (hl:rx=l.map Scr.cs):AP 172 [.pp [.int .i64 number,.str name,.int .i64 atX,.int .i64 atY,.int .i64 height,.int .i64 aP,.str aC,.str aJ,.str bg,.int .i64 aO,.sl t 1 rg,.str aB,.str ak,.int .i64 au,.sl t' 3 rx,.int .i64 aj]] AV.bool (bP (Aid.ok ⟨number,name,atX,atY,height,aP,aC,aJ,bg,aO,g,aB,ak,au,l,aj⟩)):=by
  refine a0 Tryz.func172 λE K hE hK=>?_;refine aF (in_ _ _ _) (λh1=>?_) (λh1=>?_)<;>conv=>cbv
  ·skip
   repeat' first
     |((first
    |refine aF (uI _) (λh2=>?_) (λh2=>?_)
    |refine aF (xI _ _) (λh3=>?_) (λh3=>?_)
    |refine aF (in_ height _ _) (λh4=>?_) (λh4=>?_)
    |refine aF (Np _ _ _ _) (λh5=>?_) (λh5=>?_)
    |refine aF (AC.tl1 (Xt _ _ _ _ hg)) (λh6=>?_) (λh6=>?_)
    |refine aF (AC.tl1 (afW _ _ _ _ hg)) (λh7=>?_) (λh7=>?_)
    |refine aF (in_ aj _ _) (λh8=>?_) (λh8=>?_)
    |refine aF (afV hl) (λh9=>?_) (λh9=>?_)
    |refine aQ (RZ hl) (λcc hcc=>?_)
    |refine bn hl (λn hn hb=>?_)
    |refine B0 ?_|refine B1 ?_ ?_)<;>intros<;>(try conv=>cbv))
   all_goals first
    |exact aH hK (ah.2 λh=>h2 h.2.1)
    |exact aH hK (ah.2 λh=>h3 h.2.2.1)
    |exact aH hK (ah.2 λh=>h4 h.2.2.2.1)
    |exact aH hK (ah.2 λh=>h5 h.2.2.2.2.1)
    | (have hnl:¬wW aO g aB ak au l aj:=(λh=>by have:=h.kind;omega);first
     |(have hu:D9 aO g aB ak au l aj:=⟨h6,cm (by omega),by assumption⟩;exact aH hK (aG.2 ⟨h1,h2,h3,h4,h5,.inr hu⟩))
     |(refine aH hK (ah.2 λh=>?_);rcases h.2.2.2.2.2 with h'|h';exact hnl h';first|(have:=h'.2.1;simp only at this;subst this;simp at hn;omega)|(have:=h'.2.2;contradiction)))
    | (have hnu:¬D9 aO g aB ak au l aj:=λh=>h6 h.1
       first
        |(refine aH hK (ah.2 λh=>?_);rcases h.2.2.2.2.2 with h'|h';(first|exact h7 h'.1|exact h8 h'.2.1|exact h9 h'.2.2.1);exact hnu h')
        | (have hz:l=[]:=cm (by omega);first
         |(have hu:wW aO g aB ak au l aj:=⟨h7,h8,h9,λ_=>(by omega),λh=>absurd hz h⟩;exact aH hK (aG.2 ⟨h1,h2,h3,h4,h5,.inl hu⟩))
         |(refine aH hK (ah.2 λh=>?_);rcases h.2.2.2.2.2 with h'|h';(have:=h'.2.2.2.1 hz;simp only at this;omega);exact hnu h'))
        | (have hz:l≠[]:=by (rintro rfl;simp at hn;omega)
           first
            |(have hu:wW aO g aB ak au l aj:=⟨h7,h8,h9,λh=>absurd h hz,λ_=>(by rw [←hcc];assumption)⟩;exact aH hK (aG.2 ⟨h1,h2,h3,h4,h5,.inl hu⟩))
            |(refine aH hK (ah.2 λh=>?_);rcases h.2.2.2.2.2 with h'|h';(have h5:=h'.2.2.2.2 hz;simp only at h5;rw [←hcc] at h5;contradiction);exact hnu h')))
  ·exact aH hK (ah.2 λh=>h1 h.1)
set_option maxHeartbeats 2000000
theorem afB [St] (number atX atY height aP aO au aj:Int) (name aC aJ bg aB ak:ByteArray) {rg rx:List (List AV)} {t t':Bool} {g:List Int} {l:List Scr} (hg:rg=g.map aN) (hl:rx=l.map Scr.cs) (x y e s:Int) (hI:1<=aj/\aj<=100000000) (hh:0<=height/\height<=3000) (he:0<=e/\e<=3000) (hv:1<=s/\s<=100000):AP 306 [.agg [.int .i64 number,.str name,.int .i64 atX,.int .i64 atY,.int .i64 height,.int .i64 aP,.str aC,.str aJ,.str bg,.int .i64 aO,.sl t 1 rg,.str aB,.str ak,.int .i64 au,.sl t' 3 rx,.int .i64 aj],.agg [.int .i64 x,.int .i64 y,.int .i64 e,.int .i64 s]] (AV.int .i64) (Zw aj height e s):=by
  refine a0 Tryz.func306 λE K hE hK=>?_
  repeat' first
    |((first
   |refine aQ (ZE _ _ _ _ hI hh he hv) (λ_ _=>?_)
   |refine B0 ?_|refine B1 ?_ ?_)<;>intros<;>(try conv=>cbv))
  all_goals exact hK _ (by subst_vars;rfl)
theorem Xn [St] (number atX atY height aP aO au aj:Int) (name aC aJ bg aB ak:ByteArray) {rg rx:List (List AV)} {t t':Bool} {g:List Int} {l:List Scr} (hg:rg=g.map aN) (hl:rx=l.map Scr.cs) (x y e s:Int) (hI:1<=aj/\aj<=100000000) (hh:0<=height/\height<=3000) (he:0<=e/\e<=3000) (hv:1<=s/\s<=100000):AP 398 [.pp [.int .i64 number,.str name,.int .i64 atX,.int .i64 atY,.int .i64 height,.int .i64 aP,.str aC,.str aJ,.str bg,.int .i64 aO,.sl t 1 rg,.str aB,.str ak,.int .i64 au,.sl t' 3 rx,.int .i64 aj],.pp [.int .i64 x,.int .i64 y,.int .i64 e,.int .i64 s]] (AV.int .i64) (Zw aj height e s):=by
  refine a0 Tryz.func398 λE K hE hK=>?_
  repeat' first
    |((first
   |refine LX (WJ _ _ _ _ hI hh he hv) (λ_ _ _ _=>?_)
   |refine B0 ?_|refine B1 ?_ ?_)<;>intros<;>(try conv=>cbv))
  all_goals exact hK _ (by subst_vars;rfl)
theorem LJ [St] (number atX atY height aP aO au aj:Int) (name aC aJ bg aB ak:ByteArray) {rg rx:List (List AV)} {t t':Bool} {g:List Int} {l:List Scr} (hg:rg=g.map aN) (hl:rx=l.map Scr.cs) (x y:Int) (hok:lS l) (h:dZ atX atY) (k:dZ x y):AP 307 [.agg [.int .i64 number,.str name,.int .i64 atX,.int .i64 atY,.int .i64 height,.int .i64 aP,.str aC,.str aJ,.str bg,.int .i64 aO,.sl t 1 rg,.str aB,.str ak,.int .i64 au,.sl t' 3 rx,.int .i64 aj],.agg [.int .i64 x,.int .i64 y]] AV.str (Aid.col ⟨number,name,atX,atY,height,aP,aC,aJ,bg,aO,g,aB,ak,au,l,aj⟩ x y):=by
  refine a0 Tryz.func307 λE K hE hK=>?_;have hbb:=VG atX atY x y
  repeat' first
    |((first
   |(refine aQ (abI _ _ _ _ h k) (λb hb2=>?_);rw [←hb2] at hbb)
   |refine aQ (abv _ hl hok hbb) (λc hc=>?_)
   |refine bn hl (λn hn hb=>?_)
   |refine B0 ?_|refine B1 ?_ ?_)<;>intros<;>(try conv=>cbv))
  all_goals first
   |(refine hK _ ?_;unfold Aid.col;rw [if_pos (cm (by simp only;omega))];rfl)
   |(refine hK _ ?_;unfold Aid.col;rw [if_neg (by simp only;rintro rfl;simp at hn;omega)];simp only;rw [←hb2,←hc];rfl)
theorem Xu [St] (number atX atY height aP aO au aj:Int) (name aC aJ bg aB ak:ByteArray) {rg rx:List (List AV)} {t t':Bool} {g:List Int} {l:List Scr} (hg:rg=g.map aN) (hl:rx=l.map Scr.cs) (x y:Int) (hok:lS l) (h:dZ atX atY) (k:dZ x y):AP 399 [.pp [.int .i64 number,.str name,.int .i64 atX,.int .i64 atY,.int .i64 height,.int .i64 aP,.str aC,.str aJ,.str bg,.int .i64 aO,.sl t 1 rg,.str aB,.str ak,.int .i64 au,.sl t' 3 rx,.int .i64 aj],.agg [.int .i64 x,.int .i64 y]] AV.str (Aid.col ⟨number,name,atX,atY,height,aP,aC,aJ,bg,aO,g,aB,ak,au,l,aj⟩ x y):=by
  refine a0 Tryz.func399 λE K hE hK=>?_;have hbb:=VG atX atY x y
  repeat' first
    |((first
   |(refine aQ (O0 _ _ _ _ h k) (λb hb2=>?_);rw [←hb2] at hbb)
   |refine dJ (R3 hl hok) (λrs hrs=>?_)
   |refine bn hl (λn hn hb=>?_)
   |(refine gK (R:=iQ) hrs (by omega) (Au (λd:Nat=>nk l (d:Int)) (show b.toNat<360 by omega)) ?_;rw [show ((b.toNat:Nat):Int)=b by omega];(obtain ⟨c,hc⟩:∃c,c=nk l b:=⟨_,rfl⟩);rw [←hc])
   |refine B0 ?_|refine B1 ?_ ?_)<;>intros<;>(try conv=>cbv))
  all_goals first
   |(refine hK _ ?_;unfold Aid.col;rw [if_pos (cm (by simp only;omega))];rfl)
   |(refine hK _ ?_;unfold Aid.col;rw [if_neg (by simp only;rintro rfl;simp at hn;omega)];simp only;rw [←hb2,←hc];rfl)
theorem za [St] (number atX atY height aP aO au aj:Int) (name aC aJ bg aB ak:ByteArray) {rg rx:List (List AV)} {t t':Bool} {g:List Int} {l:List Scr} (hg:rg=g.map aN) (hl:rx=l.map Scr.cs):AP 125 [.pp [.int .i64 number,.str name,.int .i64 atX,.int .i64 atY,.int .i64 height,.int .i64 aP,.str aC,.str aJ,.str bg,.int .i64 aO,.sl t 1 rg,.str aB,.str ak,.int .i64 au,.sl t' 3 rx,.int .i64 aj]] AV.bool (bP (aO≠0)):=by
  refine a0 Tryz.func125 λE K hE hK=>?_
  repeat' first
    |((first
   |refine B0 ?_|refine B1 ?_ ?_)<;>intros<;>(try conv=>cbv))
  all_goals exact fz
set_option maxHeartbeats 4000000
theorem ahf [St] (number atX atY height aP aO au aj:Int) (name aC aJ bg aB ak:ByteArray) {rg rx:List (List AV)} {t t':Bool} {g:List Int} {l:List Scr} (hg:rg=g.map aN) (hl:rx=l.map Scr.cs) (x y e s:Int) (hok:Aid.ok ⟨number,name,atX,atY,height,aP,aC,aJ,bg,aO,g,aB,ak,au,l,aj⟩) (hob:nD x y e s):AP 238 [.agg [.int .i64 number,.str name,.int .i64 atX,.int .i64 atY,.int .i64 height,.int .i64 aP,.str aC,.str aJ,.str bg,.int .i64 aO,.sl t 1 rg,.str aB,.str ak,.int .i64 au,.sl t' 3 rx,.int .i64 aj],.agg [.int .i64 x,.int .i64 y,.int .i64 e,.int .i64 s]] AV.bool (bP (Aid.seen ⟨number,name,atX,atY,height,aP,aC,aJ,bg,aO,g,aB,ak,au,l,aj⟩ x y e s)):=by
  refine a0 Tryz.func238 λE K hE hK=>?_;have hp:dZ atX atY:=hok.2.2.1;have hh:0<=height/\height<=3000:=hok.2.2.2.1;refine aF (ads _ _ _ _ _ _ _ _ _ _ _ _ _ _ hg hl) (λh1=>?_) (λh1=>?_)<;>conv=>cbv
  ·skip
   repeat' first
     |((first
    |refine Dt (λh2=>?_) (λh2=>?_)
    |refine aQ (afB _ _ _ _ _ _ _ _ _ _ _ _ _ _ hg hl x y e s h1.2.1 hh hob.2.1 hob.2.2) (λr hr=>?_)
    |refine aQ (LJ _ _ _ _ _ _ _ _ _ _ _ _ _ _ hg hl x y h1.2.2.1 hp hob.1) (λc hc=>?_)
    |refine aQ (wh _ _ _ _) (λ_ _=>?_)
    |refine B0 ?_|refine B1 ?_ ?_)<;>intros<;>(try conv=>cbv))
   all_goals first
    |(refine aH hK (ah.2 λh=>?_);exact h.2.1 ⟨h2.1,h2.2.1⟩)
    |(refine aH hK (aG.2 ⟨h1,λh=>h2 ⟨h.1,h.2,trivial⟩,by simp only;omega,by rw [←hc];assumption⟩))
    |(refine aH hK (ah.2 λh=>?_);have h3:=h.2.2.1;simp only at h3;omega)
    |(refine aH hK (ah.2 λh=>?_);have h3:=h.2.2.2;rw [←hc] at h3;contradiction)
  ·exact aH hK (ah.2 λh=>h1 h.1)
theorem aai [St] (number atX atY height aP aO au aj:Int) (name aC aJ bg aB ak:ByteArray) {rg rx:List (List AV)} {t t':Bool} {g:List Int} {l:List Scr} (hg:rg=g.map aN) (hl:rx=l.map Scr.cs) (x y e s:Int) (hok:Aid.ok ⟨number,name,atX,atY,height,aP,aC,aJ,bg,aO,g,aB,ak,au,l,aj⟩) (hob:nD x y e s):AP 336 [.pp [.int .i64 number,.str name,.int .i64 atX,.int .i64 atY,.int .i64 height,.int .i64 aP,.str aC,.str aJ,.str bg,.int .i64 aO,.sl t 1 rg,.str aB,.str ak,.int .i64 au,.sl t' 3 rx,.int .i64 aj],.pp [.int .i64 x,.int .i64 y,.int .i64 e,.int .i64 s]] AV.bool (bP (Aid.seen ⟨number,name,atX,atY,height,aP,aC,aJ,bg,aO,g,aB,ak,au,l,aj⟩ x y e s)):=by
  refine a0 Tryz.func336 λE K hE hK=>?_;have hp:dZ atX atY:=hok.2.2.1;have hh:0<=height/\height<=3000:=hok.2.2.2.1;have hli:=Aid.vP hok;refine aF (za _ _ _ _ _ _ _ _ _ _ _ _ _ _ hg hl) (λh0=>?_) (λh0=>?_)<;>conv=>cbv
  ·have h1:=hli.2 h0
   repeat' first
     |((first
    |refine Dt (λh2=>?_) (λh2=>?_)
    |refine aQ (Xn _ _ _ _ _ _ _ _ _ _ _ _ _ _ hg hl x y e s h1.2.1 hh hob.2.1 hob.2.2) (λr hr=>?_)
    |refine aQ (Xu _ _ _ _ _ _ _ _ _ _ _ _ _ _ hg hl x y h1.2.2.1 hp hob.1) (λc hc=>?_)
    |refine aQ (qR _ _ _ _ hp hob.1) (λ_ _=>?_)
    |refine B0 ?_|refine B1 ?_ ?_)<;>intros<;>(try conv=>cbv))
   all_goals first
    |(refine aH hK (ah.2 λh=>?_);exact h.2.1 ⟨h2.1,h2.2.1⟩)
    |(refine aH hK (aG.2 ⟨h1,λh=>h2 ⟨h.1,h.2,trivial⟩,by simp only;omega,by rw [←hc];assumption⟩))
    |(refine aH hK (ah.2 λh=>?_);have h3:=h.2.2.1;simp only at h3;omega)
    |(refine aH hK (ah.2 λh=>?_);have h3:=h.2.2.2;rw [←hc] at h3;contradiction)
  ·exact aH hK (ah.2 λh=>h0 (hli.1 h.1))
set_option maxHeartbeats 2000000
noncomputable def tZ {α:Type} (p:α->Prop) (l:List α) (i:Int):List α:=(l.take i.toNat).filter λv=>bP (p v)
theorem vE {α:Type} {p:α->Prop} {l:List α} {i:Int} (h:i<=0):tZ p l i=[]:=by
 unfold tZ;rw [show i.toNat=0 by omega];simp
theorem om {α:Type} (p:α->Prop) {l:List α} {i n:Int} {v:α} (h0:0<=i) (hv:l[i.toNat]? =some v) (hn:n=i+1):(p v->tZ p l n=tZ p l i++[v])/\(¬p v->tZ p l n=tZ p l i):=by
 unfold tZ;rw [show n.toNat=i.toNat+1 by omega,cq,hv,gE];constructor
 ·intro h;simp [aG.2 h]
 ·intro h;simp [ah.2 h]
theorem mF {α:Type} {p:α->Prop} {l:List α} {i:Int} (h:l.length<=i):tZ p l i=l.filter λv=>bP (p v):=by
 unfold tZ;rw [bm (by omega)]
theorem tY {α:Type} (p:α->Prop) (l:List α) (i:Int):(tZ p l i).length<=l.length:=
 cE (dm _ _) (by rw [ba];omega)
noncomputable def Aj {α:Type} (p:α->Prop) (l:List α) (i:Int):List Int:=((List.range i.toNat).filter λj=>bP (∃v,l[j]? =some v/\p v)).map Int.ofNat
theorem Ah {α:Type} {p:α->Prop} {l:List α} {i:Int} (h:i<=0):Aj p l i=[]:=by
 unfold Aj;rw [show i.toNat=0 by omega];simp
theorem Ai {α:Type} (p:α->Prop) {l:List α} {i n:Int} {v:α} (h0:0<=i) (hv:l[i.toNat]? =some v) (hn:n=i+1):(p v->Aj p l n=Aj p l i++[i])/\(¬p v->Aj p l n=Aj p l i):=by
 unfold Aj;rw [show n.toNat=i.toNat+1 by omega,ik,gE,db]
 have e:(∃w,l[i.toNat]? =some w/\p w)↔p v:=by
  rw [hv];exact ⟨λ⟨w,h1,h2⟩=>by cases h1;exact h2,λh=>⟨v,rfl,h⟩⟩
 constructor
 ·intro h;have h1:bP (∃w,l[i.toNat]? =some w/\p w)=true:=aG.2 (e.2 h);simp only [hJ,h1,if_true,ml,dj,kd];rw [show Int.ofNat i.toNat=i by simp;omega]
 ·intro h;have h1:bP (∃w,l[i.toNat]? =some w/\p w)=false:=ah.2 λh2=>h (e.1 h2);simp only [hJ,h1,ml,kd];simp
theorem Em {α:Type} (p:α->Prop) (l:List α):∀n:Nat,n<=l.length->(Aj p l n).map (λj=>l[j.toNat]?)=(tZ p l n).map some/\∀j∈Aj p l n,0<=j/\j<n
 |0,_=>by rw [Ah (by omega),vE (by omega)];simp
 | n +1,h=>by
   obtain ⟨ih1,ih2⟩:=Em p l n (by omega);(have hv:l[(n:Int).toNat]? =some l[n]:=by simp);have hx:=Ai p (n:=((n+1:Nat):Int)) (by omega) hv (by omega);have hi:=om p (n:=((n+1:Nat):Int)) (by omega) hv (by omega);by_cases hp:p l[n]
   ·rw [hx.1 hp,hi.1 hp,db,db,ih1];refine ⟨by simp,λj hj=>?_⟩;rcases ca.1 hj with hj|hj
    ·have:=ih2 j hj;omega
    ·simp at hj;omega
   ·rw [hx.2 hp,hi.2 hp];exact ⟨ih1,λj hj=>by have:=ih2 j hj;omega⟩
theorem Na {α:Type} (p:α->Prop) (l:List α) {i:Int} (h:i.toNat<=l.length):(Aj p l i).length=(tZ p l i).length:=by
 have:=congrArg List.length (Em p l i.toNat h).1;simp only [al] at this;by_cases h0:0<=i
 ·rwa [show ((i.toNat:Nat):Int)=i by omega] at this
 ·rw [Ah (by omega),vE (by omega)];rfl
theorem Zl {α:Type} {p:α->Prop} {l:List α} {k:Nat} {j:Int} (h:(Aj p l l.length)[k]? =some j):∃v,(l.filter λv=>bP (p v))[k]? =some v/\l[j.toNat]? =some v/\0<=j/\j<l.length:=by
 obtain ⟨h1,h2⟩:=Em p l l.length (aq _);have h3:=congrArg (λx=>x[k]?) h1;rw [mF (by omega)] at h3;simp only [ai,h,cF] at h3;have h4:=h2 j (ae h)
 cases hq:(l.filter λv=>bP (p v))[k]? with
 |none=>rw [hq] at h3;cases h3
 | some v=>
   rw [hq] at h3;simp only [cF,cH] at h3;exact ⟨v,rfl,h3,h4.1,by omega⟩
theorem dn.all {l:List Aid} (h:dn l):∀v∈l,v.ok:=λv hv=>h.mem hv
noncomputable def qJ (l:List Aid) (x y e s:Int):List Int:=Aj (λv:Aid=>v.seen x y e s) l l.length
theorem Ie (l:List Aid) (x y e s:Int):(qJ l x y e s).length=(yD l x y e s).length:=by
 unfold qJ yD;rw [Na _ _ (by omega),mF (by omega)]
theorem oo {l:List Aid} {x y e s:Int} {k:Nat} {j:Int} (h:(qJ l x y e s)[k]? =some j):∃v,(yD l x y e s)[k]? =some v/\l[j.toNat]? =some v/\0<=j/\j<l.length:=Zl h
set_option maxHeartbeats 4000000
theorem oI [St] {rs:List (List AV)} {t b:Bool} {l:List Aid} (hl:rs=l.map (Aid.cs b)):AP 155 [.sl t 16 rs] AV.bool (bP (dn l)):=by
  refine a0 Tryz.func155 λE K hE hK=>?_;refine bn hl λn hn hb=>?_;conv=>cbv
  refine cu [0,5,6] [7] (λ(i:Int)=>([(7,.int .i64 i)],[],l.length - i,0<=i/\Up (Aid.C l) i)) [] (0) (by dsimp only;exact ⟨by omega,.zero (by omega)⟩) λi hi Kn hN=>?_;obtain ⟨h0,hinv⟩:=hi;refine ltI (λhlt=>?_) (λhge=>?_)<;>conv=>cbv
  ·refine iU hl (by omega) (λnumber name atX atY height aP aC aJ bg aO aM aB ak au aD aj rg rx hv hg hx=>?_);(conv=>cbv);refine aF (vv _ _ _ _ _ _ _ _ _ _ _ _ _ _ hg hx) (λh1=>?_) (λh1=>?_)<;>conv=>cbv
   ·refine ltI (λh2=>?_) (λh2=>?_)<;>conv=>cbv
    ·refine eX (by omega) λk hk=>?_;(conv=>cbv);refine iU hl (by omega) (λnumber' name' nA ny sG jM gy iD mU jl jm fA fB fq gV dY rg' rx' hw hg' hx'=>?_);(conv=>cbv);have hk2:i.toNat - 1=k.toNat:=by omega
     repeat' first
       |(refine hN _ [] rfl ⟨?_,?_⟩)
       |((first
      |refine B0 ?_|refine B1 ?_ ?_)<;>intros<;>(try conv=>cbv))
     all_goals (try clear hN)
     all_goals first
      |omega
      | (refine aH hK (ah.2 λh=>?_)
         obtain ⟨v',e1,e2,e3⟩:=h.1 i.toNat (by omega);rw [hv] at e1;cases e1;obtain ⟨w',g1,g2⟩:=e3 (by omega);rw [hk2,hw] at g1;cases g1
         simp only at g2;omega)
      |exact hinv.succ ⟨_,hv,h1,λ_=>⟨_,by rw [hk2];exact hw,by simp only;omega⟩⟩ (by assumption)
    ·skip
     repeat' first
       |(refine hN _ [] rfl ⟨?_,?_⟩)
       |((first
      |refine B0 ?_|refine B1 ?_ ?_)<;>intros<;>(try conv=>cbv))
     all_goals (try clear hN)
     all_goals first
      |omega
      |exact hinv.succ ⟨_,hv,h1,λ_=>by omega⟩ (by assumption)
   ·refine aH hK (ah.2 λh=>?_);obtain ⟨v',e1,e2,e3⟩:=h.1 i.toNat (by omega);rw [hv] at e1;cases e1;exact h1 e2
  ·skip
   repeat' first
     |((first
    |refine aF (F4 _ _) (λ_=>?_) (λ_=>?_)
    |refine B0 ?_|refine B1 ?_ ?_)<;>intros<;>(try conv=>cbv))
   all_goals first
    |exact aH hK (aG.2 ⟨hinv.all (by omega),by omega⟩)
    |(refine aH hK (ah.2 λh=>?_);have:=h.2;omega)
theorem aak [St] {rs:List (List AV)} {t b:Bool} {l:List Aid} (hl:rs=l.map (Aid.cs b)):AP 103 [.sl t 16 rs] AV.bool (bP (dn l)):=by
  refine a0 Tryz.func103 λE K hE hK=>?_;refine cu [0] [3] (λ(i:Int)=>([(3,.int .i64 i)],[],l.length - i,0<=i/\Up (Aid.C l) i)) [] (0) (by dsimp only;exact ⟨by omega,.zero (by omega)⟩) λi hi Kn hN=>?_;obtain ⟨h0,hinv⟩:=hi;refine bn hl λn hn hb=>?_;conv=>cbv
  refine ltI (λhlt=>?_) (λhge=>?_)<;>conv=>cbv
  ·refine iU hl (by omega) (λnumber name atX atY height aP aC aJ bg aO aM aB ak au aD aj rg rx hv hg hx=>?_);(conv=>cbv);refine aF (Vb _ _ _ _ _ _ _ _ _ _ _ _ _ _ hg hx) (λh1=>?_) (λh1=>?_)<;>conv=>cbv
   ·refine ltI (λh2=>?_) (λh2=>?_)<;>conv=>cbv
    ·refine eX (by omega) λk hk=>?_;(conv=>cbv);refine iU hl (by omega) (λnumber' name' nA ny sG jM gy iD mU jl jm fA fB fq gV dY rg' rx' hw hg' hx'=>?_);(conv=>cbv);have hk2:i.toNat - 1=k.toNat:=by omega
     repeat' first
       |(refine hN _ [] rfl ⟨?_,?_⟩)
       |((first
      |refine iO hl (by omega) hv hg hx ?_
      |refine B0 ?_|refine B1 ?_ ?_)<;>intros<;>(try conv=>cbv))
     all_goals (try clear hN)
     all_goals first
      |omega
      | (refine aH hK (ah.2 λh=>?_)
         obtain ⟨v',e1,e2,e3⟩:=h.1 i.toNat (by omega);rw [hv] at e1;cases e1;obtain ⟨w',g1,g2⟩:=e3 (by omega);rw [hk2,hw] at g1;cases g1
         simp only at g2;omega)
      |exact hinv.succ ⟨_,hv,h1,λ_=>⟨_,by rw [hk2];exact hw,by simp only;omega⟩⟩ (by assumption)
    ·skip
     repeat' first
       |(refine hN _ [] rfl ⟨?_,?_⟩)
       |((first
      |refine B0 ?_|refine B1 ?_ ?_)<;>intros<;>(try conv=>cbv))
     all_goals (try clear hN)
     all_goals first
      |omega
      |exact hinv.succ ⟨_,hv,h1,λ_=>by omega⟩ (by assumption)
   ·refine aH hK (ah.2 λh=>?_);obtain ⟨v',e1,e2,e3⟩:=h.1 i.toNat (by omega);rw [hv] at e1;cases e1;exact h1 e2
  ·skip
   repeat' first
     |((first
    |refine B0 ?_|refine B1 ?_ ?_)<;>intros<;>(try conv=>cbv))
   all_goals first
    |exact aH hK (aG.2 ⟨hinv.all (by omega),by omega⟩)
    |(refine aH hK (ah.2 λh=>?_);have:=h.2;omega)
theorem WC [St] {rs:List (List AV)} {b:Bool} {l:List Aid} (x y e s:Int) (hl:rs=l.map (Aid.cs b)) (hok:∀v∈l,v.ok) (hob:nD x y e s) (hb:l.length<=1048576):ACS Tryz.prog 159 [.sl false 16 rs,.agg [.int .i64 x,.int .i64 y,.int .i64 e,.int .i64 s]] (λr ys=>∃rs',rs'=(yD l x y e s).map (Aid.cs false)/\r= .sl true 16 rs'/\ys=[.any,.any]):=by
  refine acs 0 Tryz.func159 λE K hE hK=>?_;refine bn hl λn hn hb2=>?_;conv=>cbv
  refine bO [3,9,10] [11,5] (λ(i:Int) (es:List (List AV))=>([(11,.int .i64 i),(5,.ob 1)],[.box [.int .i64 x,.int .i64 y,.int .i64 e,.int .i64 s],.row 16 es],l.length - i,(0<=i/\i<=l.length)/\es=(tZ (λv:Aid=>v.seen x y e s) l i).map (Aid.cs false))) [0,1] ((0,[])) (by dsimp only;exact ⟨by omega,by rw [vE (by omega)];rfl⟩) λi es hi Kn hN=>?_;obtain ⟨⟨h0,h1⟩,h2⟩:=hi;have hlen:=tY (λv:Aid=>v.seen x y e s) l i
  repeat' first
    |(refine hN _ _ [0,4] rfl ⟨?_,?_⟩)
    |(refine hN _ _ [0,1] rfl ⟨?_,?_⟩)
    |((first
   |(refine iU hl (by omega) (λnumber name atX atY height aP aC aJ bg aO aM aB ak au aD aj rg rx hv hg hx=>?_);have af7:=hok _ (ae hv))
   |refine aF (ahf _ _ _ _ _ _ _ _ _ _ _ _ _ _ hg hx _ _ _ _ af7 hob) (λ_=>?_) (λ_=>?_)
   |refine jA (R:=Aid.cs false) (v:=(⟨_,_,_,_,_,_,_,_,_,_,_,_,_,_,_,_⟩:Aid)) (by assumption) (by rw [hg,hx];rfl) (by omega) (λ_ _=>?_)
   |refine B0 ?_|refine B1 ?_ ?_)<;>intros<;>(try conv=>cbv))
  all_goals (try clear hN)
  all_goals first
   |omega
   |(rw [(om _ h0 hv (by assumption)).1 (by assumption)];assumption)
   |(rw [(om _ h0 hv (by assumption)).2 (by assumption)];assumption)
   |(refine hK _ _ ⟨es,?_,rfl,rfl⟩;rw [h2,mF (by omega)];rfl)
theorem adE [St] {rs:List (List AV)} {t b:Bool} {l:List Aid} (x y e s:Int) (hl:rs=l.map (Aid.cs b)) (hok:∀v∈l,v.ok) (hob:nD x y e s) (hb:l.length<=1048576):AP 273 [.sl t 16 rs,.pp [.int .i64 x,.int .i64 y,.int .i64 e,.int .i64 s]] (λl:List Int=> .sl true 1 (l.map aN)) (qJ l x y e s):=by
  refine ac Tryz.func273 (.ints _) λE K hE hK=>?_;refine bO [0,1] [6,5] (λ(i:Int) (es:List (List AV))=>([(6,.int .i64 i),(5,.ob 0)],[.row 1 es],l.length - i,(0<=i/\i<=l.length)/\es=(Aj (λv:Aid=>v.seen x y e s) l i).map aN)) [0] ((0,[])) (by dsimp only;exact ⟨by omega,by rw [Ah (by omega)];rfl⟩) λi es hi Kn hN=>?_;obtain ⟨⟨h0,h1⟩,h2⟩:=hi;have hlen:=tY (λv:Aid=>v.seen x y e s) l i;rw [←Na _ _ (by omega)] at hlen
  repeat' first
    |(refine hN _ _ [0] rfl ⟨?_,?_⟩)
    |(refine hN _ _ [2] rfl ⟨?_,?_⟩)
    |((first
   |(refine iU hl (by omega) (λnumber name atX atY height aP aC aJ bg aO aM aB ak au aD aj rg rx hv hg hx=>?_);have af7:=hok _ (ae hv))
   |refine aF (aai _ _ _ _ _ _ _ _ _ _ _ _ _ _ hg hx _ _ _ _ af7 hob) (λ_=>?_) (λ_=>?_)
   |refine jA (R:=aN) (v:=i) (by assumption) rfl (by omega) (λ_ _=>?_)
   |refine B0 ?_|refine B1 ?_ ?_)<;>intros<;>(try conv=>cbv))
  all_goals (try clear hN)
  all_goals first
   |omega
   |(rw [(Ai _ h0 hv (by assumption)).1 (by assumption)];assumption)
   |(rw [(Ai _ h0 hv (by assumption)).2 (by assumption)];assumption)
   |(refine hK _ ?_;rw [h2,show i=l.length by omega];rfl)
end Go.Proofs.YtnlhnideeaobpaaGreatDoor
