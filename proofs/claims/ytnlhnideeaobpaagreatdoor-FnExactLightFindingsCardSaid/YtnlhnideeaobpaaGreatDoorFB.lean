/- Contracts: names, times, comparisons of texts. -/
import Derived.Test.YtnlhnideeaobpaaGreatDoorFA
namespace Go.Proofs.YtnlhnideeaobpaaGreatDoor
open Go Go.RowKit Classical
set_option maxRecDepth 100000
set_option maxHeartbeats 2000000
set_option linter.unusedVariables false
set_option linter.unusedSimpArgs false
def chr (s:ByteArray) (j:Nat):Int:=((s.data.getD j 0).toNat:Int)
def R8 (n:Int):Prop:=97<=n/\n<=122
def zi (n:Int):Prop:=48<=n/\n<=57
def abY (s:ByteArray) (j:Nat):Prop:=R8 (chr s j)∨(j≠0/\zi (chr s j))
def yu (s:ByteArray):Prop:=(0<s.size/\s.size<=10)/\∀j,j<s.size->abY s j
theorem qZ (s:ByteArray):s=⟨#[]⟩↔s.size=0:=by
 constructor
 ·rintro rfl;rfl
 ·intro h;cases s with|mk d=>exact congrArg _ (kq h)
theorem aaE [St] (n:Int):AP 349 [.int .u8 n] AV.bool (bP (zi n)):=by
  refine a0 Tryz.func349 λE K hE hK=>?_
  repeat' first
    |((first
   |refine B0 ?_|refine B1 ?_ ?_)<;>intros<;>(try conv=>cbv))
  all_goals (try clear hN)
  all_goals first
   |(omega)
   |(refine aH hK (aG.2 ?_);first|omega|grind [zi])
   |(refine aH hK (ah.2 ?_);first|omega|(intro h;grind [zi]))
   |(refine ⟨by omega,Up.succ (by assumption) ?_ (by assumption)⟩;grind [zi])
   |(refine hK _ ?_;simp_all [gP,zi];done)
   |(grind [zi])
theorem XH [St] (n:Int):AP 258 [.int .u8 n] AV.bool (bP (zi n)):=by
  refine a0 Tryz.func258 λE K hE hK=>?_
  repeat' first
    |((first
   |refine B0 ?_|refine B1 ?_ ?_)<;>intros<;>(try conv=>cbv))
  all_goals (try clear hN)
  all_goals first
   |(omega)
   |(refine aH hK (aG.2 ?_);first|omega|grind [zi])
   |(refine aH hK (ah.2 ?_);first|omega|(intro h;grind [zi]))
   |(refine ⟨by omega,Up.succ (by assumption) ?_ (by assumption)⟩;grind [zi])
   |(refine hK _ ?_;simp_all [gP,zi];done)
   |(grind [zi])
theorem I9 [St] (n:Int):AP 257 [.int .u8 n] AV.bool (bP (R8 n)):=by
  refine a0 Tryz.func257 λE K hE hK=>?_
  repeat' first
    |((first
   |refine B0 ?_|refine B1 ?_ ?_)<;>intros<;>(try conv=>cbv))
  all_goals (try clear hN)
  all_goals first
   |(omega)
   |(refine aH hK (aG.2 ?_);first|omega|grind [R8])
   |(refine aH hK (ah.2 ?_);first|omega|(intro h;grind [R8]))
   |(refine ⟨by omega,Up.succ (by assumption) ?_ (by assumption)⟩;grind [R8])
   |(refine hK _ ?_;simp_all [gP,R8];done)
   |(grind [R8])
theorem zf [St] (s:ByteArray):AP 285 [.str s] AV.bool (bP (yu s)):=by
  refine a0 Tryz.func285 λE K hE hK=>?_;refine cu [0] [3] (λ(i:Int)=>([(3,.int .i64 i)],[],s.size - i,0<=i/\Up (abY s) i)) [] (0) (by dsimp only;exact ⟨by omega,.zero (by omega)⟩) λi hi Kn hN=>?_;obtain ⟨h0,hinv⟩:=hi
  repeat' first
    |(refine hN _ [] rfl ⟨?_,?_⟩)
    |((first
   |refine aF (aaE _) (λ_=>?_) (λ_=>?_)
   |refine aF (F4 _ _) (λ_=>?_) (λ_=>?_)
   |refine B0 ?_|refine B1 ?_ ?_)<;>intros<;>(try conv=>cbv))
  all_goals (try clear hN)
  all_goals first
   |omega
   |(refine hinv.succ ?_ (by assumption);subst_vars;first|exact .inl ⟨by assumption,by assumption⟩|exact .inr ⟨by omega,by assumption⟩)
   |(refine aH hK (aG.2 ⟨⟨?_,by omega⟩,hinv.all (by omega)⟩);have:=mt (qZ s).2 (by assumption);omega)
   |(refine aH hK (ah.2 λh=>?_);have:=h.2 i.toNat (by omega);subst_vars;rcases this with ⟨k1,k2⟩|⟨k1,k2⟩<;>first|omega|(exact absurd k2 (by assumption))|(unfold chr at *;omega)|(unfold zi chr at *;omega))
   |(refine aH hK (ah.2 λh=>?_);have:=h.1;omega)
   |(refine aH hK (ah.2 λh=>?_);have:=h.1;have:=(qZ s).1 (by assumption);omega)
theorem uI [St] (s:ByteArray):AP 179 [.str s] AV.bool (bP (yu s)):=by
  refine a0 Tryz.func179 λE K hE hK=>?_;refine rJ (λhe=>?_) (λhe=>?_)<;>conv=>cbv
  ·refine aH hK (ah.2 λh=>?_);have:=h.1;have:=(qZ s).1 he;omega
  ·(have hpos:0<s.size:=by have:=mt (qZ s).2 he;omega);refine BK λn hn hb=>?_;(conv=>cbv);refine ltI (λhlt=>?_) (λhge=>?_)<;>conv=>cbv
   ·exact aH hK (ah.2 λh=>by have:=h.1;omega)
   ·refine wH (by omega) λc hc _ _=>?_;(conv=>cbv);refine aF (I9 _) (λhsm=>?_) (λhsm=>?_)<;>conv=>cbv
    ·refine cu [0] [3] (λ(i:Int)=>([(3,.int .i64 i)],[],s.size - i,0<=i/\Up (abY s) i)) [] (0) (by dsimp only;exact ⟨by omega,.zero (by omega)⟩) λi hi Kn hN=>?_;obtain ⟨h0,hinv⟩:=hi
     repeat' first
       |(refine hN _ [] rfl ⟨?_,?_⟩)
       |((first
      |refine aF (I9 _) (λ_=>?_) (λ_=>?_)
      |refine aF (XH _) (λ_=>?_) (λ_=>?_)
      |refine B0 ?_|refine B1 ?_ ?_)<;>intros<;>(try conv=>cbv))
     all_goals (try clear hN)
     all_goals first
      |omega
      |(refine hinv.succ ?_ (by assumption);subst_vars;by_cases h0:i=0<;>first|exact .inl (by assumption)|exact .inr ⟨by omega,by assumption⟩|(subst h0;exact .inl hsm))
      |(refine aH hK (aG.2 ⟨⟨by omega,by omega⟩,hinv.all (by omega)⟩))
      |(refine aH hK (ah.2 λh=>?_);have:=h.2 i.toNat (by omega);subst_vars;rcases this with k1|⟨k1,k2⟩<;>contradiction)
    ·refine aH hK (ah.2 λh=>?_);subst_vars;rcases h.2 0 (by omega) with k1|⟨k1,k2⟩
     ·exact hsm k1
     ·exact k1 rfl
def strLt (a b:ByteArray):Prop:=Op.bytesLess a.toList b.toList=true
noncomputable def Yt (a b:ByteArray):Int:=if strLt a b then -1 else if strLt b a then 1 else 0
theorem afv [St] {E:Env} {np:Nat} {P:Program} [hE:SE E np P] {a b:ByteArray} {K:Bool->Prop} (h1:strLt a b->K true) (h2:¬strLt a b->K false):E.slt a b K:=
 Zf λc hc=>by
  cases c with
  |true=>exact h1 hc.symm
  |false=>exact h2 (by unfold strLt;rw [←hc];simp)
theorem adR [St] (x:ByteArray):AP 421 [.str x] AV.bool false:=by
 refine a0 Tryz.func421 λE K hE hK=>?_;refine ahe rfl ?_;conv=>cbv
 exact hK _ rfl
theorem Yl [St] (a b:ByteArray):AP 382 [.str a,.str b] (AV.int .i64) (Yt a b):=by
  refine a0 Tryz.func382 λE K hE hK=>?_
  repeat' first
    |((first
   |refine Jy (adR _) (λ_=>?_) (λ_=>?_)
   |refine afv (λ_=>?_) (λ_=>?_)
   |refine B0 ?_|refine B1 ?_ ?_)<;>intros<;>(try conv=>cbv))
  all_goals first
   |contradiction
   |(refine hK _ ?_;unfold Yt;rw [if_pos (by assumption)];rfl)
   |(refine hK _ ?_;unfold Yt;rw [if_neg (by assumption),if_pos (by assumption)];rfl)
   |(refine hK _ ?_;unfold Yt;rw [if_neg (by assumption),if_neg (by assumption)];rfl)
theorem ER {a b B:Int} (h:(-B<=a/\a<=B)/\ -B<=b/\b<=B): -(B*B)<=a*b/\a*b<=B*B:=by
 have h1:0<=(B - a)*(B+b):=dt (by omega) (by omega);have h2:0<=(B+a)*(B - b):=dt (by omega) (by omega);have h3:0<=(B - a)*(B - b):=dt (by omega) (by omega);have h4:0<=(B+a)*(B+b):=dt (by omega) (by omega);simp only [Int.sub_mul,nr,Int.mul_sub,mq,lR b B] at h1 h2 h3 h4;have e1:a*B=B*a:=lR _ _;rw [e1] at h1 h2 h3 h4;omega
theorem mulC [St] {E:Env} {np:Nat} {P:Program} [hE:SE E np P] (B:Int) {a b:Int} {K:Int->Prop} (h:(-B<=a/\a<=B)/\ -B<=b/\b<=B) (hB:B*B<=9223372036854775807) (hk:∀m,m=a*b-> -(B*B)<=m->m<=B*B->K m):E.mul .i64 a b K:=by
 have h1:=ER h;exact nM (by omega) λm hm=>hk m hm (by omega) (by omega)
def pE (n r:Int):Prop:=0<=r/\r*r<=n/\n<(r+1)*(r+1)
theorem vC {a b:Int} (h0:0<=a) (h:a<=b):a*a<=b*b:=by
 have:=fk h h h0 (Int.le_trans h0 h);exact this
theorem pE.uniq {n r s:Int} (h:pE n r) (k:pE n s):r=s:=by
 obtain ⟨h1,h2,h3⟩:=h;obtain ⟨k1,k2,k3⟩:=k;rcases eL r s with h|h|h
 ·have:=vC (a:=r+1) (b:=s) (by omega) (by omega);omega
 ·exact h
 ·have:=vC (a:=s+1) (b:=r) (by omega) (by omega);omega
theorem pE.ex:∀n:Nat,∃r,pE n r
 |0=>⟨0,by omega,by simp,by simp⟩
 | n + 1=>by
   obtain ⟨r,h1,h2,h3⟩:=pE.ex n;by_cases h:((n+1:Nat):Int)<(r+1)*(r+1)
   ·exact ⟨r,h1,by omega,h⟩
   ·refine ⟨r+1,by omega,by omega,?_⟩
    have:(r+1+1)*(r+1+1)=(r+1)*(r+1)+2*(r+1)+1:=by
     simp only [nr,mq];omega
    omega
noncomputable def oO (n:Int):Int:=if n<0 then 0 else (pE.ex n.toNat).choose
theorem w9 {n:Int} (h:0<=n):pE n (oO n):=by
 unfold oO;rw [if_neg (by omega)];have h1:=(pE.ex n.toNat).choose_spec;generalize (pE.ex n.toNat).choose=r at*;rwa [cP h] at h1
theorem Ny {n r:Int} (hr:pE n r):oO n=r:=by
 have h0:0<=n:=Int.le_trans (dt hr.1 hr.1) hr.2.1;exact (w9 h0).uniq hr
theorem vH {n:Int} (h:n<0):oO n=0:=by unfold oO;rw [if_pos h]
theorem UA [St] (n:Int) (hn:n<=9223372036854775807):AP 369 [.int .i64 n] (AV.int .i64) (oO n):=by
  refine a0 Tryz.func369 λE K hE hK=>?_;(try refine ltI (λh=>?_) (λh=>?_)<;>conv=>cbv)
  all_goals first
   |(refine hK _ ?_;rw [vH (by assumption)];rfl)
   |skip
  refine bO [0] [3,4] (λ(lo hi0:Int)=>([(3,.int .i64 lo),(4,.int .i64 hi0)],[],hi0 - lo,(0<=lo/\lo<=hi0/\hi0<=3037000499)/\((0<=n/\lo*lo<=n)∨(n<0/\lo=0))/\n<(hi0+1)*(hi0+1))) [] ((0,3037000499)) (by dsimp only;exact ⟨by omega,by omega,by omega⟩) λlo hi0 hi Kn hN=>?_;obtain ⟨h0,h1,h2⟩:=hi
  repeat' first
    |(refine hN _ _ [] rfl ⟨?_,?_,?_⟩)
    |((first
   |refine mulC 3037000499 (by omega) (by omega) (λm hm _ _=>?_)
   |refine B0 ?_|refine B1 ?_ ?_)<;>intros<;>(try conv=>cbv))
  all_goals (try clear hN)
  all_goals first
   |omega
   |(subst_vars;left;exact ⟨by have:=vC (a:=0) (b:=(lo+hi0+1) / 2) (by omega) (by omega);omega,by assumption⟩)
   | (rcases h1 with h1|h1
      ·exact .inl h1
      ·exact .inr h1)
   |(subst_vars;rw [show ∀a:Int,a - 1+1=a from λa=>by omega];omega)
   | (refine hK _ ?_
      (have e:lo=hi0:=by omega);rcases h1 with h1|h1
      ·rw [Ny ⟨h0.1,h1.2,by rw [e];exact h2⟩];rfl
      ·rw [vH h1.1,h1.2];rfl)
   |trace_state
theorem O1 [St] (n:Int) (hn:n<=9223372036854775807):AP 334 [.int .i64 n] (AV.int .i64) (oO n):=by
  refine a0 Tryz.func334 λE K hE hK=>?_;(try refine ltI (λh=>?_) (λh=>?_)<;>conv=>cbv)
  all_goals first
   |(refine hK _ ?_;rw [vH (by assumption)];rfl)
   |skip
  refine bO [0] [3,4] (λ(lo hi0:Int)=>([(3,.int .i64 lo),(4,.int .i64 hi0)],[],hi0 - lo,(0<=lo/\lo<=hi0/\hi0<=3037000499)/\((0<=n/\lo*lo<=n)∨(n<0/\lo=0))/\n<(hi0+1)*(hi0+1))) [] ((0,3037000499)) (by dsimp only;exact ⟨by omega,by omega,by omega⟩) λlo hi0 hi Kn hN=>?_;obtain ⟨h0,h1,h2⟩:=hi
  repeat' first
    |(refine hN _ _ [] rfl ⟨?_,?_,?_⟩)
    |((first
   |refine mulC 3037000499 (by omega) (by omega) (λm hm _ _=>?_)
   |refine B0 ?_|refine B1 ?_ ?_)<;>intros<;>(try conv=>cbv))
  all_goals (try clear hN)
  all_goals first
   |omega
   |(subst_vars;left;exact ⟨by have:=vC (a:=0) (b:=(lo+hi0+1) / 2) (by omega) (by omega);omega,by assumption⟩)
   | (rcases h1 with h1|h1
      ·exact .inl h1
      ·exact .inr h1)
   |(subst_vars;rw [show ∀a:Int,a - 1+1=a from λa=>by omega];omega)
   | (refine hK _ ?_
      (have e:lo=hi0:=by omega);rcases h1 with h1|h1
      ·rw [Ny ⟨h0.1,h1.2,by rw [e];exact h2⟩];rfl
      ·rw [vH h1.1,h1.2];rfl)
   |trace_state
theorem gQ {n y:Int} {k:Nat} (h:y=szN n k):y= -1/\n<k∨y=n - k/\k<=n:=by
 have:=JZ n k;omega
theorem J4 {α:Type} (f:α->Nat) {l:List α} {n:Nat} {v:α} (h:l[n]? =some v):f v<=(l.map f).sum:=Ee f (ae h)
structure Mrk where
 kind:Int
 colors:ByteArray
 shape:ByteArray
 top:ByteArray
def Mrk.cs (v:Mrk):List AV:=[.int .i64 v.kind,.str v.colors,.str v.shape,.str v.top]
theorem NoB.aiN (v:Mrk):NoB (.agg v.cs):=(.bW (.int _ _) (.bW (.str _) (.bW (.str _) (.bW (.str _) .o9))))
def Mrk.sz (v:Mrk):Nat:=v.colors.size+v.shape.size+v.top.size
theorem acA [St] (kind:Int) (colors:ByteArray) (shape:ByteArray) (top:ByteArray) (n:Int) (hn:0<=n/\n<=1048576):AP 99 [.agg [.int .i64 kind,.str colors,.str shape,.str top],.int .i64 n] (AV.int .i64) (szN n (Mrk.sz ⟨kind,colors,shape,top⟩)):=by
  refine a0 Tryz.func99 λE K hE hK=>?_
  repeat' first
    |((first
   |refine B0 ?_|refine B1 ?_ ?_)<;>intros<;>(try conv=>cbv))
  all_goals (refine hK _ ?_;show AV.int _ _=AV.int _ _;congr 1;unfold szN Mrk.sz;simp only at *;split<;>omega)
theorem ab9 [St] (kind:Int) (colors:ByteArray) (shape:ByteArray) (top:ByteArray):AP 130 [.agg [.int .i64 kind,.str colors,.str shape,.str top]] (λv:Mrk=> .agg v.cs) ⟨kind,colors,shape,top⟩:=by
 refine ac Tryz.func130 (.aiN _) λE K hE hK=>?_;exact hK _ rfl
theorem aem [St] (kind:Int) (colors:ByteArray) (shape:ByteArray) (top:ByteArray) (kind':Int) (zD:ByteArray) (shape':ByteArray) (top':ByteArray):AP 166 [.agg [.int .i64 kind,.str colors,.str shape,.str top],.agg [.int .i64 kind',.str zD,.str shape',.str top']] AV.bool (bP ((Mrk.mk kind colors shape top)=(Mrk.mk kind' zD shape' top'))):=by
  refine a0 Tryz.func166 λE K hE hK=>?_
  repeat' first
    |((first
   |refine B0 ?_|refine B1 ?_ ?_)<;>intros<;>(try conv=>cbv))
  all_goals first|(refine aH hK (aG.2 ?_);simp only [Mrk.mk.injEq,Pnt.mk.injEq] at *;simp_all;done)|(refine aH hK (ah.2 ?_);simp only [Mrk.mk.injEq,Pnt.mk.injEq] at *;simp_all;done)
def Mrk.mk' (k:Int):Mrk:=⟨k+0,sZ (k+1),sZ (k+2),sZ (k+3)⟩
def Mrk.mks (n:Nat) (k:Int):List Mrk:=(List.range n).map λi:Nat=>Mrk.mk' (k+4*(i:Int))
theorem Mrk.jX (n:Nat) (k:Int):(Mrk.mks n k).length=n:=by simp [Mrk.mks]
theorem Mrk.nS {n:Nat} {k i:Int} {v:Mrk} (h0:0<=i) (h:(Mrk.mks n k)[i.toNat]? =some v):v=Mrk.mk' (k+4*i):=by
 unfold Mrk.mks at h;rw [ai] at h;by_cases hi:i.toNat<n
 ·rw [cM hi] at h;simp only [cF,cH] at h;rw [←h,cP h0]
 ·rw [ar (by simpa using Nat.le_of_not_lt hi)] at h;cases h
structure Scr where
 frm:Int
 til:Int
 color:ByteArray
def Scr.cs (v:Scr):List AV:=[.int .i64 v.frm,.int .i64 v.til,.str v.color]
theorem NoB.WX (v:Scr):NoB (.agg v.cs):=(.bW (.int _ _) (.bW (.int _ _) (.bW (.str _) .o9)))
def Scr.sz (v:Scr):Nat:=v.color.size
theorem Wl [St] (frm:Int) (til:Int) (color:ByteArray) (n:Int) (hn:0<=n/\n<=1048576):AP 170 [.agg [.int .i64 frm,.int .i64 til,.str color],.int .i64 n] (AV.int .i64) (szN n (Scr.sz ⟨frm,til,color⟩)):=by
  refine a0 Tryz.func170 λE K hE hK=>?_
  repeat' first
    |((first
   |refine B0 ?_|refine B1 ?_ ?_)<;>intros<;>(try conv=>cbv))
  all_goals (refine hK _ ?_;show AV.int _ _=AV.int _ _;congr 1;unfold szN Scr.sz;simp only at *;split<;>omega)
theorem Q9 [St] {rs:List (List AV)} {t:Bool} {l:List Scr} (n:Int) (hl:rs=l.map Scr.cs) (hn:0<=n/\n<=1048576):AP 101 [.sl t 3 rs,.int .i64 n] (AV.int .i64) (szN n (l.length+(l.map Scr.sz).sum)):=by
  refine a0 Tryz.func101 λE K hE hK=>?_
  repeat' first
    |((first
   |refine B0 ?_|refine B1 ?_ ?_)<;>intros<;>(try conv=>cbv))
  ·refine hK _ ?_;rw [szN,if_pos (by omega)];rfl
  ·refine bO [0] [5,1] (λ(i m:Int)=>([(5,.int .i64 i),(1,.int .i64 m)],[],l.length - i,(0<=i/\i<=l.length)/\(0<=m/\m<=1048576)/\m+sumTo Scr.sz l i+l.length=n)) [] ((0,_)) (hV:=rfl) (hO:=rfl) (by dsimp only;exact ⟨by omega,by omega,by rw [eH (by omega)];omega⟩) λi m hi Kn hN=>?_;obtain ⟨⟨h0,h1⟩,h2,h3⟩:=hi;have hle:=sumTo_le Scr.sz l
   repeat' first
     |(refine hN _ _ [] rfl ⟨?_,?_,?_⟩)
     |((first
    |(refine bQ hl (by omega) (λv hv=>?_);have hs:=eO Scr.sz h0 hv;have hs2:=hle (i+1);obtain ⟨frm,til,color⟩:=v)
    |(refine aQ (Wl _ _ _ _ (by omega)) (λy hy=>?_);have hz:=JZ m (Scr.sz ⟨frm,til,color⟩);rw [←hy] at hz;clear hy)
    |refine B0 ?_|refine B1 ?_ ?_)<;>intros<;>(try conv=>cbv))
   all_goals first
    |omega
    |(refine hK _ ?_;rw [zZ (by omega)];rfl)
    |(rename_i hn2;rw [hn2,hs];omega)
    |(refine hK _ ?_;have:=jU Scr.sz l (i:=i) (by omega);rw [Aa (by omega)];show AV.int _ _=AV.int _ _;congr 1;omega)
theorem V8 [St] (frm:Int) (til:Int) (color:ByteArray):AP 201 [.agg [.int .i64 frm,.int .i64 til,.str color]] (λv:Scr=> .agg v.cs) ⟨frm,til,color⟩:=by
 refine ac Tryz.func201 (.WX _) λE K hE hK=>?_;exact hK _ rfl
theorem QU [St] {rs:List (List AV)} {t:Bool} {l:List Scr} (hl:rs=l.map Scr.cs) (hb0:l.length<=1048576):AP 132 [.sl t 3 rs] (λl:List Scr=> .sl true 3 (l.map Scr.cs)) l:=by
  refine ac Tryz.func132 (.rows .WX) λE K hE hK=>?_;refine bn hl λn hn hb=>?_;conv=>cbv
  refine yV (l:=l) Scr.cs hn rfl (by omega) λes hes=>?_;conv=>cbv
  refine bO [0] [4,3] (λ(i:Int) (es':List (List AV))=>([(4,.int .i64 i),(3,.ob 0)],[.row 3 es'],l.length - i,0<=i/\es'=fM Scr.cs [.int .i64 0,.int .i64 0,.str ⟨#[]⟩] l i)) [0] ((0,es)) (by dsimp only;exact ⟨by omega,hes⟩) λi es' hi Kn hN=>?_;obtain ⟨h0,hinv⟩:=hi
  repeat' first
    |(refine hN _ _ [0] rfl ⟨?_,?_⟩)
    |((first
   |(refine bQ (R:=Scr.cs) (by assumption) (by first|omega|(simp only [bo,dP];omega)) ?_;rintro ⟨⟩ _)
   |(refine aQ (V8 _ _ _) (λ_ hy=>?_);subst hy)
   |refine nP (R:=Scr.cs) (by assumption) (by omega) (by assumption) (by exact aq _) (by rfl) (λ_ _=>?_)
   |refine B0 ?_|refine B1 ?_ ?_)<;>intros<;>(try conv=>cbv))
  ·omega
  ·subst_vars;rfl
  ·refine hK _ ?_;rw [hinv,iF (by omega)];rfl
theorem Ya [St] (frm:Int) (til:Int) (color:ByteArray) (aa7:Int) (YX:Int) (abw:ByteArray):AP 248 [.agg [.int .i64 frm,.int .i64 til,.str color],.agg [.int .i64 aa7,.int .i64 YX,.str abw]] AV.bool (bP ((Scr.mk frm til color)=(Scr.mk aa7 YX abw))):=by
  refine a0 Tryz.func248 λE K hE hK=>?_
  repeat' first
    |((first
   |refine B0 ?_|refine B1 ?_ ?_)<;>intros<;>(try conv=>cbv))
  all_goals first|(refine aH hK (aG.2 ?_);simp only [Scr.mk.injEq,Pnt.mk.injEq] at *;simp_all;done)|(refine aH hK (ah.2 ?_);simp only [Scr.mk.injEq,Pnt.mk.injEq] at *;simp_all;done)
theorem SY [St] {rs rs':List (List AV)} {t t':Bool} {l m:List Scr} (hl:rs=l.map Scr.cs) (hm:rs'=m.map Scr.cs):AP 168 [.sl t 3 rs,.sl t' 3 rs'] AV.bool (bP (l=m)):=by
  refine a0 Tryz.func168 λE K hE hK=>?_;refine bn hl λn hn hb=>?_;conv=>cbv
  refine bn hm λn' hn' hb'=>?_;conv=>cbv
  refine eqI (λhe=>?_) (λhe=>?_)<;>conv=>cbv
  ·refine cu [0,1] [5] (λ(i:Int)=>([(5,.int .i64 i)],[],l.length - i,0<=i/\Up (λj=>l[j]? =m[j]?) i)) [] (0) (by dsimp only;exact ⟨by omega,.zero (by omega)⟩) λi hi Kn hN=>?_;obtain ⟨h0,hinv⟩:=hi
   repeat' first
     |(refine hN _ [] rfl ⟨?_,?_⟩)
     |((first
    |refine aF (Ya _ _ _ _ _ _) (λ_=>?_) (λ_=>?_)
    |(refine bQ (R:=Scr.cs) (by assumption) (by first|omega|(simp only [bo,dP];omega)) ?_;rintro ⟨⟩ _)
    |refine B0 ?_|refine B1 ?_ ?_)<;>intros<;>(try conv=>cbv))
   ·omega
   ·refine hinv.succ ?_ (by assumption);clear hN;simp_all
   ·refine aH hK (ah.2 λh=>?_);clear hN;simp_all
   ·exact aH hK (aG.2 (eP (by omega) hinv (by omega)))
  ·refine aH hK (ah.2 λh=>?_);subst h;omega
def Scr.mk' (k:Int):Scr:=⟨k+0,k+1,sZ (k+2)⟩
def Scr.mks (n:Nat) (k:Int):List Scr:=(List.range n).map λi:Nat=>Scr.mk' (k+3*(i:Int))
theorem Scr.jX (n:Nat) (k:Int):(Scr.mks n k).length=n:=by simp [Scr.mks]
theorem Scr.nS {n:Nat} {k i:Int} {v:Scr} (h0:0<=i) (h:(Scr.mks n k)[i.toNat]? =some v):v=Scr.mk' (k+3*i):=by
 unfold Scr.mks at h;rw [ai] at h;by_cases hi:i.toNat<n
 ·rw [cM hi] at h;simp only [cF,cH] at h;rw [←h,cP h0]
 ·rw [ar (by simpa using Nat.le_of_not_lt hi)] at h;cases h
theorem yU [St] {rs:List (List AV)} {l:List Scr} (k:Int) (hl:rs=l.map Scr.cs) (hk0:0<=k/\k<=1000000000000000) (hb:l.length<=100000000000):ACM Tryz.prog 97 [.sl true 3 rs,.int .i64 k] (λr ys=>∃(n:Int) (rs':List (List AV)),n=k+3*l.length/\rs'=(Scr.mks l.length k).map Scr.cs/\r= .int .i64 n/\ys=[.sl true 3 rs',.any]):=by
  refine acm 1 Tryz.func97 (λr ys ⟨n,rs',_,h3,h1,h2⟩=>⟨by rw [h1];exact .int _ _,by rw [h2,h3];simp;exact ⟨.rows .WX,.any⟩⟩) λE K hE hK=>?_;refine iR [] [5,1,0] (λ(i k':Int) (es:List (List AV))=>([(5,.int .i64 i),(1,.int .i64 k'),(0,.ob 0)],[.row 3 es],l.length - i,(0<=i/\i<=l.length)/\k'=k+3*i/\es=(mix (λi:Nat=>Scr.mk' (k+3*(i:Int))) l i).map Scr.cs)) [0] ((0,k,rs)) (by dsimp only;exact ⟨by omega,by omega,by rw [oP (by omega)];exact hl⟩) λi k' es hi Kn hN=>?_;obtain ⟨⟨h0,h1⟩,h2,h3⟩:=hi;have hlen:=dP (λi:Nat=>Scr.mk' (k+3*(i:Int))) l i;obtain ⟨L,hL⟩:∃L,L=mix (λi:Nat=>Scr.mk' (k+3*(i:Int))) l i:=⟨_,rfl⟩
  rw [←hL] at h3 hlen
  repeat' first
    |(refine hN _ _ _ [0] rfl ⟨?_,?_,?_⟩)
    |((first
   |refine XV (by assumption) (by omega) ?_
   |(refine bQ (R:=Scr.cs) (by assumption) (by first|omega|(simp only [bo,dP];omega)) ?_;rintro ⟨⟩ _)
   |refine aQ (jB _ (by omega)) (λ_ _=>?_)
   |refine V7 (v':=(⟨_,_,_⟩:Scr)) (by assumption) (by omega) (by exact bt rfl) (by first|rfl|((conv=>lhs;cbv);rfl)) (λ_ _=>?_)
   |refine wB (v':=(⟨_,_,_⟩:Scr)) (by assumption) (by omega) (by assumption) (by exact bt rfl) (by first|rfl|((conv=>lhs;cbv);rfl)) (λ_ _=>?_)
   |refine B0 ?_|refine B1 ?_ ?_)<;>intros<;>(try conv=>cbv))
  ·omega
  ·omega
  ·clear hN hK;rename_i hes _ hfin _ hi1;rw [hes,hL,rZ h0 (by omega) (v:=_) ?_ hi1];clear hL h3 hlen;subst_vars;rw [cP h0];simp only [Scr.mk',Scr.mk.injEq,io];all_goals (refine ⟨?_,?_,?_⟩<;>first|trivial|omega|rfl|(congr 1;omega))
  ·(have hi:i=l.length:=by omega);refine hK _ _ ⟨k',es,?_,?_,rfl,rfl⟩
   ·rw [h2,hi]
   ·rw [h3,hL,r9 (by omega)];rfl
structure Dgr where
 name:ByteArray
 atX:Int
 atY:Int
 kV:Int
def Dgr.cs (v:Dgr):List AV:=[.str v.name,.int .i64 v.atX,.int .i64 v.atY,.int .i64 v.kV]
theorem NoB.adg (v:Dgr):NoB (.agg v.cs):=(.bW (.str _) (.bW (.int _ _) (.bW (.int _ _) (.bW (.int _ _) .o9))))
def Dgr.sz (v:Dgr):Nat:=v.name.size
theorem Wp [St] (name:ByteArray) (atX:Int) (atY:Int) (kV:Int) (n:Int) (hn:0<=n/\n<=1048576):AP 59 [.agg [.str name,.int .i64 atX,.int .i64 atY,.int .i64 kV],.int .i64 n] (AV.int .i64) (szN n (Dgr.sz ⟨name,atX,atY,kV⟩)):=by
  refine a0 Tryz.func59 λE K hE hK=>?_
  repeat' first
    |((first
   |refine B0 ?_|refine B1 ?_ ?_)<;>intros<;>(try conv=>cbv))
  all_goals (refine hK _ ?_;show AV.int _ _=AV.int _ _;congr 1;unfold szN Dgr.sz;simp only at *;split<;>omega)
theorem Rh [St] {rs:List (List AV)} {t:Bool} {l:List Dgr} (n:Int) (hl:rs=l.map Dgr.cs) (hn:0<=n/\n<=1048576):AP 16 [.sl t 4 rs,.int .i64 n] (AV.int .i64) (szN n (l.length+(l.map Dgr.sz).sum)):=by
  refine a0 Tryz.func16 λE K hE hK=>?_
  repeat' first
    |((first
   |refine B0 ?_|refine B1 ?_ ?_)<;>intros<;>(try conv=>cbv))
  ·refine hK _ ?_;rw [szN,if_pos (by omega)];rfl
  ·refine bO [0] [5,1] (λ(i m:Int)=>([(5,.int .i64 i),(1,.int .i64 m)],[],l.length - i,(0<=i/\i<=l.length)/\(0<=m/\m<=1048576)/\m+sumTo Dgr.sz l i+l.length=n)) [] ((0,_)) (hV:=rfl) (hO:=rfl) (by dsimp only;exact ⟨by omega,by omega,by rw [eH (by omega)];omega⟩) λi m hi Kn hN=>?_;obtain ⟨⟨h0,h1⟩,h2,h3⟩:=hi;have hle:=sumTo_le Dgr.sz l
   repeat' first
     |(refine hN _ _ [] rfl ⟨?_,?_,?_⟩)
     |((first
    |(refine bQ hl (by omega) (λv hv=>?_);have hs:=eO Dgr.sz h0 hv;have hs2:=hle (i+1);obtain ⟨name,atX,atY,kV⟩:=v)
    |(refine aQ (Wp _ _ _ _ _ (by omega)) (λy hy=>?_);have hz:=JZ m (Dgr.sz ⟨name,atX,atY,kV⟩);rw [←hy] at hz;clear hy)
    |refine B0 ?_|refine B1 ?_ ?_)<;>intros<;>(try conv=>cbv))
   all_goals first
    |omega
    |(refine hK _ ?_;rw [zZ (by omega)];rfl)
    |(rename_i hn2;rw [hn2,hs];omega)
    |(refine hK _ ?_;have:=jU Dgr.sz l (i:=i) (by omega);rw [Aa (by omega)];show AV.int _ _=AV.int _ _;congr 1;omega)
theorem Wi [St] (name:ByteArray) (atX:Int) (atY:Int) (kV:Int):AP 70 [.agg [.str name,.int .i64 atX,.int .i64 atY,.int .i64 kV]] (λv:Dgr=> .agg v.cs) ⟨name,atX,atY,kV⟩:=by
  refine ac Tryz.func70 (.adg _) λE K hE hK=>?_
  repeat' first
    |((first
   |(refine aQ (qG _ _) (λ_ hy=>?_);subst hy)
   |refine B0 ?_|refine B1 ?_ ?_)<;>intros<;>(try conv=>cbv))
  all_goals exact hK _ rfl
theorem QX [St] {rs:List (List AV)} {t:Bool} {l:List Dgr} (hl:rs=l.map Dgr.cs) (hb0:l.length<=1048576):AP 25 [.sl t 4 rs] (λl:List Dgr=> .sl true 4 (l.map Dgr.cs)) l:=by
  refine ac Tryz.func25 (.rows .adg) λE K hE hK=>?_;refine bn hl λn hn hb=>?_;conv=>cbv
  refine yV (l:=l) Dgr.cs hn rfl (by omega) λes hes=>?_;conv=>cbv
  refine bO [0] [4,3] (λ(i:Int) (es':List (List AV))=>([(4,.int .i64 i),(3,.ob 0)],[.row 4 es'],l.length - i,0<=i/\es'=fM Dgr.cs [.str ⟨#[]⟩,.int .i64 0,.int .i64 0,.int .i64 0] l i)) [0] ((0,es)) (by dsimp only;exact ⟨by omega,hes⟩) λi es' hi Kn hN=>?_;obtain ⟨h0,hinv⟩:=hi
  repeat' first
    |(refine hN _ _ [0] rfl ⟨?_,?_⟩)
    |((first
   |(refine bQ (R:=Dgr.cs) (by assumption) (by first|omega|(simp only [bo,dP];omega)) ?_;rintro ⟨⟩ _)
   |(refine aQ (Wi _ _ _ _) (λ_ hy=>?_);subst hy)
   |refine nP (R:=Dgr.cs) (by assumption) (by omega) (by assumption) (by exact aq _) (by rfl) (λ_ _=>?_)
   |refine B0 ?_|refine B1 ?_ ?_)<;>intros<;>(try conv=>cbv))
  ·omega
  ·subst_vars;rfl
  ·refine hK _ ?_;rw [hinv,iF (by omega)];rfl
theorem Yd [St] (name:ByteArray) (atX:Int) (atY:Int) (kV:Int) (name':ByteArray) (nA:Int) (ny:Int) (UE:Int):AP 94 [.agg [.str name,.int .i64 atX,.int .i64 atY,.int .i64 kV],.agg [.str name',.int .i64 nA,.int .i64 ny,.int .i64 UE]] AV.bool (bP ((Dgr.mk name atX atY kV)=(Dgr.mk name' nA ny UE))):=by
  refine a0 Tryz.func94 λE K hE hK=>?_
  repeat' first
    |((first
   |refine aF (qY _ _ _ _) (λ_=>?_) (λ_=>?_)
   |refine B0 ?_|refine B1 ?_ ?_)<;>intros<;>(try conv=>cbv))
  all_goals first|(refine aH hK (aG.2 ?_);simp only [Dgr.mk.injEq,Pnt.mk.injEq] at *;simp_all;done)|(refine aH hK (ah.2 ?_);simp only [Dgr.mk.injEq,Pnt.mk.injEq] at *;simp_all;done)
theorem Tf [St] {rs rs':List (List AV)} {t t':Bool} {l m:List Dgr} (hl:rs=l.map Dgr.cs) (hm:rs'=m.map Dgr.cs):AP 42 [.sl t 4 rs,.sl t' 4 rs'] AV.bool (bP (l=m)):=by
  refine a0 Tryz.func42 λE K hE hK=>?_;refine bn hl λn hn hb=>?_;conv=>cbv
  refine bn hm λn' hn' hb'=>?_;conv=>cbv
  refine eqI (λhe=>?_) (λhe=>?_)<;>conv=>cbv
  ·refine cu [0,1] [5] (λ(i:Int)=>([(5,.int .i64 i)],[],l.length - i,0<=i/\Up (λj=>l[j]? =m[j]?) i)) [] (0) (by dsimp only;exact ⟨by omega,.zero (by omega)⟩) λi hi Kn hN=>?_;obtain ⟨h0,hinv⟩:=hi
   repeat' first
     |(refine hN _ [] rfl ⟨?_,?_⟩)
     |((first
    |refine aF (Yd _ _ _ _ _ _ _ _) (λ_=>?_) (λ_=>?_)
    |(refine bQ (R:=Dgr.cs) (by assumption) (by first|omega|(simp only [bo,dP];omega)) ?_;rintro ⟨⟩ _)
    |refine B0 ?_|refine B1 ?_ ?_)<;>intros<;>(try conv=>cbv))
   ·omega
   ·refine hinv.succ ?_ (by assumption);clear hN;simp_all
   ·refine aH hK (ah.2 λh=>?_);clear hN;simp_all
   ·exact aH hK (aG.2 (eP (by omega) hinv (by omega)))
  ·refine aH hK (ah.2 λh=>?_);subst h;omega
def Dgr.mk' (k:Int):Dgr:=⟨sZ (k+0),k+1,k+2,k+3⟩
def Dgr.mks (n:Nat) (k:Int):List Dgr:=(List.range n).map λi:Nat=>Dgr.mk' (k+4*(i:Int))
theorem Dgr.jX (n:Nat) (k:Int):(Dgr.mks n k).length=n:=by simp [Dgr.mks]
theorem Dgr.nS {n:Nat} {k i:Int} {v:Dgr} (h0:0<=i) (h:(Dgr.mks n k)[i.toNat]? =some v):v=Dgr.mk' (k+4*i):=by
 unfold Dgr.mks at h;rw [ai] at h;by_cases hi:i.toNat<n
 ·rw [cM hi] at h;simp only [cF,cH] at h;rw [←h,cP h0]
 ·rw [ar (by simpa using Nat.le_of_not_lt hi)] at h;cases h
theorem KR [St] {rs:List (List AV)} {l:List Dgr} (k:Int) (hl:rs=l.map Dgr.cs) (hk0:0<=k/\k<=1000000000000000) (hb:l.length<=100000000000):ACM Tryz.prog 51 [.sl true 4 rs,.int .i64 k] (λr ys=>∃(n:Int) (rs':List (List AV)),n=k+4*l.length/\rs'=(Dgr.mks l.length k).map Dgr.cs/\r= .int .i64 n/\ys=[.sl true 4 rs',.any]):=by
  refine acm 1 Tryz.func51 (λr ys ⟨n,rs',_,h3,h1,h2⟩=>⟨by rw [h1];exact .int _ _,by rw [h2,h3];simp;exact ⟨.rows .adg,.any⟩⟩) λE K hE hK=>?_;refine iR [] [5,1,0] (λ(i k':Int) (es:List (List AV))=>([(5,.int .i64 i),(1,.int .i64 k'),(0,.ob 0)],[.row 4 es],l.length - i,(0<=i/\i<=l.length)/\k'=k+4*i/\es=(mix (λi:Nat=>Dgr.mk' (k+4*(i:Int))) l i).map Dgr.cs)) [0] ((0,k,rs)) (by dsimp only;exact ⟨by omega,by omega,by rw [oP (by omega)];exact hl⟩) λi k' es hi Kn hN=>?_;obtain ⟨⟨h0,h1⟩,h2,h3⟩:=hi;have hlen:=dP (λi:Nat=>Dgr.mk' (k+4*(i:Int))) l i;obtain ⟨L,hL⟩:∃L,L=mix (λi:Nat=>Dgr.mk' (k+4*(i:Int))) l i:=⟨_,rfl⟩
  rw [←hL] at h3 hlen
  repeat' first
    |(refine hN _ _ _ [0] rfl ⟨?_,?_,?_⟩)
    |((first
   |refine XV (by assumption) (by omega) ?_
   |(refine bQ (R:=Dgr.cs) (by assumption) (by first|omega|(simp only [bo,dP];omega)) ?_;rintro ⟨⟩ _)
   |refine aQ (jB _ (by omega)) (λ_ _=>?_)
   |refine V7 (v':=(⟨_,_,_,_⟩:Dgr)) (by assumption) (by omega) (by exact bt rfl) (by first|rfl|((conv=>lhs;cbv);rfl)) (λ_ _=>?_)
   |refine wB (v':=(⟨_,_,_,_⟩:Dgr)) (by assumption) (by omega) (by assumption) (by exact bt rfl) (by first|rfl|((conv=>lhs;cbv);rfl)) (λ_ _=>?_)
   |refine B0 ?_|refine B1 ?_ ?_)<;>intros<;>(try conv=>cbv))
  ·omega
  ·omega
  ·clear hN hK;rename_i hes _ hfin _ hi1;rw [hes,hL,rZ h0 (by omega) (v:=_) ?_ hi1];clear hL h3 hlen;subst_vars;rw [cP h0];simp only [Dgr.mk',Dgr.mk.injEq,io];all_goals (refine ⟨?_,?_,?_,?_⟩<;>first|trivial|omega|rfl|(congr 1;omega))
  ·(have hi:i=l.length:=by omega);refine hK _ _ ⟨k',es,?_,?_,rfl,rfl⟩
   ·rw [h2,hi]
   ·rw [h3,hL,r9 (by omega)];rfl
structure Obv where
 atX:Int
 atY:Int
 eye:Int
 vis:Int
def Obv.cs (v:Obv):List AV:=[.int .i64 v.atX,.int .i64 v.atY,.int .i64 v.eye,.int .i64 v.vis]
theorem NoB.adb (v:Obv):NoB (.agg v.cs):=(.bW (.int _ _) (.bW (.int _ _) (.bW (.int _ _) (.bW (.int _ _) .o9))))
theorem JY [St] {rs:List (List AV)} {t:Bool} {l:List Obv} (n:Int) (hl:rs=l.map Obv.cs) (hn:0<=n/\n<=1048576):AP 17 [.sl t 4 rs,.int .i64 n] (AV.int .i64) (szN n l.length):=by
  refine a0 Tryz.func17 λE K hE hK=>?_
  repeat' first
    |((first
   |refine B0 ?_|refine B1 ?_ ?_)<;>intros<;>(try conv=>cbv))
  all_goals (try clear hN)
  all_goals (refine hK _ ?_;first|(simp only [gP];grind [szN])|(simp_all [gP,szN];done))
theorem MN [St] (atX:Int) (atY:Int) (eye:Int) (vis:Int):AP 71 [.agg [.int .i64 atX,.int .i64 atY,.int .i64 eye,.int .i64 vis]] (λv:Obv=> .agg v.cs) ⟨atX,atY,eye,vis⟩:=by
  refine ac Tryz.func71 (.adb _) λE K hE hK=>?_
  repeat' first
    |((first
   |(refine aQ (qG _ _) (λ_ hy=>?_);subst hy)
   |refine B0 ?_|refine B1 ?_ ?_)<;>intros<;>(try conv=>cbv))
  all_goals exact hK _ rfl
theorem JO [St] {rs:List (List AV)} {t:Bool} {l:List Obv} (hl:rs=l.map Obv.cs) (hb0:l.length<=1048576):AP 26 [.sl t 4 rs] (λl:List Obv=> .sl true 4 (l.map Obv.cs)) l:=by
  refine ac Tryz.func26 (.rows .adb) λE K hE hK=>?_;refine bn hl λn hn hb=>?_;conv=>cbv
  refine yV (l:=l) Obv.cs hn rfl (by omega) λes hes=>?_;conv=>cbv
  refine bO [0] [4,3] (λ(i:Int) (es':List (List AV))=>([(4,.int .i64 i),(3,.ob 0)],[.row 4 es'],l.length - i,0<=i/\es'=fM Obv.cs [.int .i64 0,.int .i64 0,.int .i64 0,.int .i64 0] l i)) [0] ((0,es)) (by dsimp only;exact ⟨by omega,hes⟩) λi es' hi Kn hN=>?_;obtain ⟨h0,hinv⟩:=hi
  repeat' first
    |(refine hN _ _ [0] rfl ⟨?_,?_⟩)
    |((first
   |(refine bQ (R:=Obv.cs) (by assumption) (by first|omega|(simp only [bo,dP];omega)) ?_;rintro ⟨⟩ _)
   |(refine aQ (MN _ _ _ _) (λ_ hy=>?_);subst hy)
   |refine nP (R:=Obv.cs) (by assumption) (by omega) (by assumption) (by exact aq _) (by rfl) (λ_ _=>?_)
   |refine B0 ?_|refine B1 ?_ ?_)<;>intros<;>(try conv=>cbv))
  ·omega
  ·subst_vars;rfl
  ·refine hK _ ?_;rw [hinv,iF (by omega)];rfl
theorem PZ [St] (atX:Int) (atY:Int) (eye:Int) (vis:Int) (nA:Int) (ny:Int) (air:Int) (ag4:Int):AP 95 [.agg [.int .i64 atX,.int .i64 atY,.int .i64 eye,.int .i64 vis],.agg [.int .i64 nA,.int .i64 ny,.int .i64 air,.int .i64 ag4]] AV.bool (bP ((Obv.mk atX atY eye vis)=(Obv.mk nA ny air ag4))):=by
  refine a0 Tryz.func95 λE K hE hK=>?_
  repeat' first
    |((first
   |refine aF (qY _ _ _ _) (λ_=>?_) (λ_=>?_)
   |refine B0 ?_|refine B1 ?_ ?_)<;>intros<;>(try conv=>cbv))
  all_goals first|(refine aH hK (aG.2 ?_);simp only [Obv.mk.injEq,Pnt.mk.injEq] at *;simp_all;done)|(refine aH hK (ah.2 ?_);simp only [Obv.mk.injEq,Pnt.mk.injEq] at *;simp_all;done)
theorem Lu [St] {rs rs':List (List AV)} {t t':Bool} {l m:List Obv} (hl:rs=l.map Obv.cs) (hm:rs'=m.map Obv.cs):AP 43 [.sl t 4 rs,.sl t' 4 rs'] AV.bool (bP (l=m)):=by
  refine a0 Tryz.func43 λE K hE hK=>?_;refine bn hl λn hn hb=>?_;conv=>cbv
  refine bn hm λn' hn' hb'=>?_;conv=>cbv
  refine eqI (λhe=>?_) (λhe=>?_)<;>conv=>cbv
  ·refine cu [0,1] [5] (λ(i:Int)=>([(5,.int .i64 i)],[],l.length - i,0<=i/\Up (λj=>l[j]? =m[j]?) i)) [] (0) (by dsimp only;exact ⟨by omega,.zero (by omega)⟩) λi hi Kn hN=>?_;obtain ⟨h0,hinv⟩:=hi
   repeat' first
     |(refine hN _ [] rfl ⟨?_,?_⟩)
     |((first
    |refine aF (PZ _ _ _ _ _ _ _ _) (λ_=>?_) (λ_=>?_)
    |(refine bQ (R:=Obv.cs) (by assumption) (by first|omega|(simp only [bo,dP];omega)) ?_;rintro ⟨⟩ _)
    |refine B0 ?_|refine B1 ?_ ?_)<;>intros<;>(try conv=>cbv))
   ·omega
   ·refine hinv.succ ?_ (by assumption);clear hN;simp_all
   ·refine aH hK (ah.2 λh=>?_);clear hN;simp_all
   ·exact aH hK (aG.2 (eP (by omega) hinv (by omega)))
  ·refine aH hK (ah.2 λh=>?_);subst h;omega
def Obv.mk' (k:Int):Obv:=⟨k+0,k+1,k+2,k+3⟩
def Obv.mks (n:Nat) (k:Int):List Obv:=(List.range n).map λi:Nat=>Obv.mk' (k+4*(i:Int))
theorem Obv.jX (n:Nat) (k:Int):(Obv.mks n k).length=n:=by simp [Obv.mks]
theorem Obv.nS {n:Nat} {k i:Int} {v:Obv} (h0:0<=i) (h:(Obv.mks n k)[i.toNat]? =some v):v=Obv.mk' (k+4*i):=by
 unfold Obv.mks at h;rw [ai] at h;by_cases hi:i.toNat<n
 ·rw [cM hi] at h;simp only [cF,cH] at h;rw [←h,cP h0]
 ·rw [ar (by simpa using Nat.le_of_not_lt hi)] at h;cases h
theorem EU [St] {rs:List (List AV)} {l:List Obv} (k:Int) (hl:rs=l.map Obv.cs) (hk0:0<=k/\k<=1000000000000000) (hb:l.length<=100000000000):ACM Tryz.prog 52 [.sl true 4 rs,.int .i64 k] (λr ys=>∃(n:Int) (rs':List (List AV)),n=k+4*l.length/\rs'=(Obv.mks l.length k).map Obv.cs/\r= .int .i64 n/\ys=[.sl true 4 rs',.any]):=by
  refine acm 1 Tryz.func52 (λr ys ⟨n,rs',_,h3,h1,h2⟩=>⟨by rw [h1];exact .int _ _,by rw [h2,h3];simp;exact ⟨.rows .adb,.any⟩⟩) λE K hE hK=>?_;refine iR [] [5,1,0] (λ(i k':Int) (es:List (List AV))=>([(5,.int .i64 i),(1,.int .i64 k'),(0,.ob 0)],[.row 4 es],l.length - i,(0<=i/\i<=l.length)/\k'=k+4*i/\es=(mix (λi:Nat=>Obv.mk' (k+4*(i:Int))) l i).map Obv.cs)) [0] ((0,k,rs)) (by dsimp only;exact ⟨by omega,by omega,by rw [oP (by omega)];exact hl⟩) λi k' es hi Kn hN=>?_;obtain ⟨⟨h0,h1⟩,h2,h3⟩:=hi;have hlen:=dP (λi:Nat=>Obv.mk' (k+4*(i:Int))) l i;obtain ⟨L,hL⟩:∃L,L=mix (λi:Nat=>Obv.mk' (k+4*(i:Int))) l i:=⟨_,rfl⟩
  rw [←hL] at h3 hlen
  repeat' first
    |(refine hN _ _ _ [0] rfl ⟨?_,?_,?_⟩)
    |((first
   |refine XV (by assumption) (by omega) ?_
   |(refine bQ (R:=Obv.cs) (by assumption) (by first|omega|(simp only [bo,dP];omega)) ?_;rintro ⟨⟩ _)
   |refine aQ (jB _ (by omega)) (λ_ _=>?_)
   |refine V7 (v':=(⟨_,_,_,_⟩:Obv)) (by assumption) (by omega) (by exact bt rfl) (by first|rfl|((conv=>lhs;cbv);rfl)) (λ_ _=>?_)
   |refine wB (v':=(⟨_,_,_,_⟩:Obv)) (by assumption) (by omega) (by assumption) (by exact bt rfl) (by first|rfl|((conv=>lhs;cbv);rfl)) (λ_ _=>?_)
   |refine B0 ?_|refine B1 ?_ ?_)<;>intros<;>(try conv=>cbv))
  ·omega
  ·omega
  ·clear hN hK;rename_i hes _ hfin _ hi1;rw [hes,hL,rZ h0 (by omega) (v:=_) ?_ hi1];clear hL h3 hlen;subst_vars;rw [cP h0];simp only [Obv.mk',Obv.mk.injEq,io];all_goals (refine ⟨?_,?_,?_,?_⟩<;>first|trivial|omega|rfl|(congr 1;omega))
  ·(have hi:i=l.length:=by omega);refine hK _ _ ⟨k',es,?_,?_,rfl,rfl⟩
   ·rw [h2,hi]
   ·rw [h3,hL,r9 (by omega)];rfl
structure Shp where
 name:ByteArray
 speed:Int
 load:Int
 lH:Int
def Shp.cs (v:Shp):List AV:=[.str v.name,.int .i64 v.speed,.int .i64 v.load,.int .i64 v.lH]
theorem NoB.aiM (v:Shp):NoB (.agg v.cs):=(.bW (.str _) (.bW (.int _ _) (.bW (.int _ _) (.bW (.int _ _) .o9))))
def Shp.sz (v:Shp):Nat:=v.name.size
theorem acz [St] (name:ByteArray) (speed:Int) (load:Int) (lH:Int) (n:Int) (hn:0<=n/\n<=1048576):AP 19 [.agg [.str name,.int .i64 speed,.int .i64 load,.int .i64 lH],.int .i64 n] (AV.int .i64) (szN n (Shp.sz ⟨name,speed,load,lH⟩)):=by
  refine a0 Tryz.func19 λE K hE hK=>?_
  repeat' first
    |((first
   |refine B0 ?_|refine B1 ?_ ?_)<;>intros<;>(try conv=>cbv))
  all_goals (refine hK _ ?_;show AV.int _ _=AV.int _ _;congr 1;unfold szN Shp.sz;simp only at *;split<;>omega)
theorem ab8 [St] (name:ByteArray) (speed:Int) (load:Int) (lH:Int):AP 28 [.agg [.str name,.int .i64 speed,.int .i64 load,.int .i64 lH]] (λv:Shp=> .agg v.cs) ⟨name,speed,load,lH⟩:=by
 refine ac Tryz.func28 (.aiM _) λE K hE hK=>?_;exact hK _ rfl
theorem ael [St] (name:ByteArray) (speed:Int) (load:Int) (lH:Int) (name':ByteArray) (Ze:Int) (load':Int) (P8:Int):AP 45 [.agg [.str name,.int .i64 speed,.int .i64 load,.int .i64 lH],.agg [.str name',.int .i64 Ze,.int .i64 load',.int .i64 P8]] AV.bool (bP ((Shp.mk name speed load lH)=(Shp.mk name' Ze load' P8))):=by
  refine a0 Tryz.func45 λE K hE hK=>?_
  repeat' first
    |((first
   |refine B0 ?_|refine B1 ?_ ?_)<;>intros<;>(try conv=>cbv))
  all_goals first|(refine aH hK (aG.2 ?_);simp only [Shp.mk.injEq,Pnt.mk.injEq] at *;simp_all;done)|(refine aH hK (ah.2 ?_);simp only [Shp.mk.injEq,Pnt.mk.injEq] at *;simp_all;done)
def Shp.mk' (k:Int):Shp:=⟨sZ (k+0),k+1,k+2,k+3⟩
def Shp.mks (n:Nat) (k:Int):List Shp:=(List.range n).map λi:Nat=>Shp.mk' (k+4*(i:Int))
theorem Shp.jX (n:Nat) (k:Int):(Shp.mks n k).length=n:=by simp [Shp.mks]
theorem Shp.nS {n:Nat} {k i:Int} {v:Shp} (h0:0<=i) (h:(Shp.mks n k)[i.toNat]? =some v):v=Shp.mk' (k+4*i):=by
 unfold Shp.mks at h;rw [ai] at h;by_cases hi:i.toNat<n
 ·rw [cM hi] at h;simp only [cF,cH] at h;rw [←h,cP h0]
 ·rw [ar (by simpa using Nat.le_of_not_lt hi)] at h;cases h
structure Wrk where
 name:ByteArray
 atX:Int
 atY:Int
 load:Int
 minutes:Int
 frm:Int
 til:Int
def Wrk.cs (v:Wrk):List AV:=[.str v.name,.int .i64 v.atX,.int .i64 v.atY,.int .i64 v.load,.int .i64 v.minutes,.int .i64 v.frm,.int .i64 v.til]
theorem NoB.ada (v:Wrk):NoB (.agg v.cs):=(.bW (.str _) (.bW (.int _ _) (.bW (.int _ _) (.bW (.int _ _) (.bW (.int _ _) (.bW (.int _ _) (.bW (.int _ _) .o9)))))))
def Wrk.sz (v:Wrk):Nat:=v.name.size
theorem acy [St] (name:ByteArray) (atX:Int) (atY:Int) (load:Int) (minutes:Int) (frm:Int) (til:Int) (n:Int) (hn:0<=n/\n<=1048576):AP 60 [.agg [.str name,.int .i64 atX,.int .i64 atY,.int .i64 load,.int .i64 minutes,.int .i64 frm,.int .i64 til],.int .i64 n] (AV.int .i64) (szN n (Wrk.sz ⟨name,atX,atY,load,minutes,frm,til⟩)):=by
  refine a0 Tryz.func60 λE K hE hK=>?_
  repeat' first
    |((first
   |refine B0 ?_|refine B1 ?_ ?_)<;>intros<;>(try conv=>cbv))
  all_goals (refine hK _ ?_;show AV.int _ _=AV.int _ _;congr 1;unfold szN Wrk.sz;simp only at *;split<;>omega)
theorem Y5 [St] {rs:List (List AV)} {t:Bool} {l:List Wrk} (n:Int) (hl:rs=l.map Wrk.cs) (hn:0<=n/\n<=1048576):AP 20 [.sl t 7 rs,.int .i64 n] (AV.int .i64) (szN n (l.length+(l.map Wrk.sz).sum)):=by
  refine a0 Tryz.func20 λE K hE hK=>?_
  repeat' first
    |((first
   |refine B0 ?_|refine B1 ?_ ?_)<;>intros<;>(try conv=>cbv))
  ·refine hK _ ?_;rw [szN,if_pos (by omega)];rfl
  ·refine bO [0] [5,1] (λ(i m:Int)=>([(5,.int .i64 i),(1,.int .i64 m)],[],l.length - i,(0<=i/\i<=l.length)/\(0<=m/\m<=1048576)/\m+sumTo Wrk.sz l i+l.length=n)) [] ((0,_)) (hV:=rfl) (hO:=rfl) (by dsimp only;exact ⟨by omega,by omega,by rw [eH (by omega)];omega⟩) λi m hi Kn hN=>?_;obtain ⟨⟨h0,h1⟩,h2,h3⟩:=hi;have hle:=sumTo_le Wrk.sz l
   repeat' first
     |(refine hN _ _ [] rfl ⟨?_,?_,?_⟩)
     |((first
    |(refine bQ hl (by omega) (λv hv=>?_);have hs:=eO Wrk.sz h0 hv;have hs2:=hle (i+1);obtain ⟨name,atX,atY,load,minutes,frm,til⟩:=v)
    |(refine aQ (acy _ _ _ _ _ _ _ _ (by omega)) (λy hy=>?_);have hz:=JZ m (Wrk.sz ⟨name,atX,atY,load,minutes,frm,til⟩);rw [←hy] at hz;clear hy)
    |refine B0 ?_|refine B1 ?_ ?_)<;>intros<;>(try conv=>cbv))
   all_goals first
    |omega
    |(refine hK _ ?_;rw [zZ (by omega)];rfl)
    |(rename_i hn2;rw [hn2,hs];omega)
    |(refine hK _ ?_;have:=jU Wrk.sz l (i:=i) (by omega);rw [Aa (by omega)];show AV.int _ _=AV.int _ _;congr 1;omega)
theorem ab7 [St] (name:ByteArray) (atX:Int) (atY:Int) (load:Int) (minutes:Int) (frm:Int) (til:Int):AP 72 [.agg [.str name,.int .i64 atX,.int .i64 atY,.int .i64 load,.int .i64 minutes,.int .i64 frm,.int .i64 til]] (λv:Wrk=> .agg v.cs) ⟨name,atX,atY,load,minutes,frm,til⟩:=by
  refine ac Tryz.func72 (.ada _) λE K hE hK=>?_
  repeat' first
    |((first
   |(refine aQ (qG _ _) (λ_ hy=>?_);subst hy)
   |refine B0 ?_|refine B1 ?_ ?_)<;>intros<;>(try conv=>cbv))
  all_goals exact hK _ rfl
theorem YT [St] {rs:List (List AV)} {t:Bool} {l:List Wrk} (hl:rs=l.map Wrk.cs) (hb0:l.length<=1048576):AP 30 [.sl t 7 rs] (λl:List Wrk=> .sl true 7 (l.map Wrk.cs)) l:=by
  refine ac Tryz.func30 (.rows .ada) λE K hE hK=>?_;refine bn hl λn hn hb=>?_;conv=>cbv
  refine yV (l:=l) Wrk.cs hn rfl (by omega) λes hes=>?_;conv=>cbv
  refine bO [0] [4,3] (λ(i:Int) (es':List (List AV))=>([(4,.int .i64 i),(3,.ob 0)],[.row 7 es'],l.length - i,0<=i/\es'=fM Wrk.cs [.str ⟨#[]⟩,.int .i64 0,.int .i64 0,.int .i64 0,.int .i64 0,.int .i64 0,.int .i64 0] l i)) [0] ((0,es)) (by dsimp only;exact ⟨by omega,hes⟩) λi es' hi Kn hN=>?_;obtain ⟨h0,hinv⟩:=hi
  repeat' first
    |(refine hN _ _ [0] rfl ⟨?_,?_⟩)
    |((first
   |(refine bQ (R:=Wrk.cs) (by assumption) (by first|omega|(simp only [bo,dP];omega)) ?_;rintro ⟨⟩ _)
   |(refine aQ (ab7 _ _ _ _ _ _ _) (λ_ hy=>?_);subst hy)
   |refine nP (R:=Wrk.cs) (by assumption) (by omega) (by assumption) (by exact aq _) (by rfl) (λ_ _=>?_)
   |refine B0 ?_|refine B1 ?_ ?_)<;>intros<;>(try conv=>cbv))
  ·omega
  ·subst_vars;rfl
  ·refine hK _ ?_;rw [hinv,iF (by omega)];rfl
theorem aek [St] (name:ByteArray) (atX:Int) (atY:Int) (load:Int) (minutes:Int) (frm:Int) (til:Int) (name':ByteArray) (nA:Int) (ny:Int) (load':Int) (Ol:Int) (aa7:Int) (YX:Int):AP 96 [.agg [.str name,.int .i64 atX,.int .i64 atY,.int .i64 load,.int .i64 minutes,.int .i64 frm,.int .i64 til],.agg [.str name',.int .i64 nA,.int .i64 ny,.int .i64 load',.int .i64 Ol,.int .i64 aa7,.int .i64 YX]] AV.bool (bP ((Wrk.mk name atX atY load minutes frm til)=(Wrk.mk name' nA ny load' Ol aa7 YX))):=by
  refine a0 Tryz.func96 λE K hE hK=>?_
  repeat' first
    |((first
   |refine aF (qY _ _ _ _) (λ_=>?_) (λ_=>?_)
   |refine B0 ?_|refine B1 ?_ ?_)<;>intros<;>(try conv=>cbv))
  all_goals first|(refine aH hK (aG.2 ?_);simp only [Wrk.mk.injEq,Pnt.mk.injEq] at *;simp_all;done)|(refine aH hK (ah.2 ?_);simp only [Wrk.mk.injEq,Pnt.mk.injEq] at *;simp_all;done)
theorem aa9 [St] {rs rs':List (List AV)} {t t':Bool} {l m:List Wrk} (hl:rs=l.map Wrk.cs) (hm:rs'=m.map Wrk.cs):AP 47 [.sl t 7 rs,.sl t' 7 rs'] AV.bool (bP (l=m)):=by
  refine a0 Tryz.func47 λE K hE hK=>?_;refine bn hl λn hn hb=>?_;conv=>cbv
  refine bn hm λn' hn' hb'=>?_;conv=>cbv
  refine eqI (λhe=>?_) (λhe=>?_)<;>conv=>cbv
  ·refine cu [0,1] [5] (λ(i:Int)=>([(5,.int .i64 i)],[],l.length - i,0<=i/\Up (λj=>l[j]? =m[j]?) i)) [] (0) (by dsimp only;exact ⟨by omega,.zero (by omega)⟩) λi hi Kn hN=>?_;obtain ⟨h0,hinv⟩:=hi
   repeat' first
     |(refine hN _ [] rfl ⟨?_,?_⟩)
     |((first
    |refine aF (aek _ _ _ _ _ _ _ _ _ _ _ _ _ _) (λ_=>?_) (λ_=>?_)
    |(refine bQ (R:=Wrk.cs) (by assumption) (by first|omega|(simp only [bo,dP];omega)) ?_;rintro ⟨⟩ _)
    |refine B0 ?_|refine B1 ?_ ?_)<;>intros<;>(try conv=>cbv))
   ·omega
   ·refine hinv.succ ?_ (by assumption);clear hN;simp_all
   ·refine aH hK (ah.2 λh=>?_);clear hN;simp_all
   ·exact aH hK (aG.2 (eP (by omega) hinv (by omega)))
  ·refine aH hK (ah.2 λh=>?_);subst h;omega
def Wrk.mk' (k:Int):Wrk:=⟨sZ (k+0),k+1,k+2,k+3,k+4,k+5,k+6⟩
def Wrk.mks (n:Nat) (k:Int):List Wrk:=(List.range n).map λi:Nat=>Wrk.mk' (k+7*(i:Int))
theorem Wrk.jX (n:Nat) (k:Int):(Wrk.mks n k).length=n:=by simp [Wrk.mks]
theorem Wrk.nS {n:Nat} {k i:Int} {v:Wrk} (h0:0<=i) (h:(Wrk.mks n k)[i.toNat]? =some v):v=Wrk.mk' (k+7*i):=by
 unfold Wrk.mks at h;rw [ai] at h;by_cases hi:i.toNat<n
 ·rw [cM hi] at h;simp only [cF,cH] at h;rw [←h,cP h0]
 ·rw [ar (by simpa using Nat.le_of_not_lt hi)] at h;cases h
theorem RJ [St] {rs:List (List AV)} {l:List Wrk} (k:Int) (hl:rs=l.map Wrk.cs) (hk0:0<=k/\k<=1000000000000000) (hb:l.length<=100000000000):ACM Tryz.prog 54 [.sl true 7 rs,.int .i64 k] (λr ys=>∃(n:Int) (rs':List (List AV)),n=k+7*l.length/\rs'=(Wrk.mks l.length k).map Wrk.cs/\r= .int .i64 n/\ys=[.sl true 7 rs',.any]):=by
  refine acm 1 Tryz.func54 (λr ys ⟨n,rs',_,h3,h1,h2⟩=>⟨by rw [h1];exact .int _ _,by rw [h2,h3];simp;exact ⟨.rows .ada,.any⟩⟩) λE K hE hK=>?_;refine iR [] [5,1,0] (λ(i k':Int) (es:List (List AV))=>([(5,.int .i64 i),(1,.int .i64 k'),(0,.ob 0)],[.row 7 es],l.length - i,(0<=i/\i<=l.length)/\k'=k+7*i/\es=(mix (λi:Nat=>Wrk.mk' (k+7*(i:Int))) l i).map Wrk.cs)) [0] ((0,k,rs)) (by dsimp only;exact ⟨by omega,by omega,by rw [oP (by omega)];exact hl⟩) λi k' es hi Kn hN=>?_;obtain ⟨⟨h0,h1⟩,h2,h3⟩:=hi;have hlen:=dP (λi:Nat=>Wrk.mk' (k+7*(i:Int))) l i;obtain ⟨L,hL⟩:∃L,L=mix (λi:Nat=>Wrk.mk' (k+7*(i:Int))) l i:=⟨_,rfl⟩
  rw [←hL] at h3 hlen
  repeat' first
    |(refine hN _ _ _ [0] rfl ⟨?_,?_,?_⟩)
    |((first
   |refine XV (by assumption) (by omega) ?_
   |(refine bQ (R:=Wrk.cs) (by assumption) (by first|omega|(simp only [bo,dP];omega)) ?_;rintro ⟨⟩ _)
   |refine aQ (jB _ (by omega)) (λ_ _=>?_)
   |refine V7 (v':=(⟨_,_,_,_,_,_,_⟩:Wrk)) (by assumption) (by omega) (by exact bt rfl) (by first|rfl|((conv=>lhs;cbv);rfl)) (λ_ _=>?_)
   |refine wB (v':=(⟨_,_,_,_,_,_,_⟩:Wrk)) (by assumption) (by omega) (by assumption) (by exact bt rfl) (by first|rfl|((conv=>lhs;cbv);rfl)) (λ_ _=>?_)
   |refine B0 ?_|refine B1 ?_ ?_)<;>intros<;>(try conv=>cbv))
  ·omega
  ·omega
  ·clear hN hK;rename_i hes _ hfin _ hi1;rw [hes,hL,rZ h0 (by omega) (v:=_) ?_ hi1];clear hL h3 hlen;subst_vars;rw [cP h0];simp only [Wrk.mk',Wrk.mk.injEq,io];all_goals (refine ⟨?_,?_,?_,?_,?_,?_,?_⟩<;>first|trivial|omega|rfl|(congr 1;omega))
  ·(have hi:i=l.length:=by omega);refine hK _ _ ⟨k',es,?_,?_,rfl,rfl⟩
   ·rw [h2,hi]
   ·rw [h3,hL,r9 (by omega)];rfl
structure Chr where
 kind:Int
 group:List Int
 letter:ByteArray
 colors:ByteArray
 period:Int
def Chr.cs (b:Bool) (v:Chr):List AV:=[.int .i64 v.kind,.sl b 1 (v.group.map aN),.str v.letter,.str v.colors,.int .i64 v.period]
theorem NoB.aho (v:Chr):NoB (.agg (v.cs true)):=(.bW (.int _ _) (.bW (.ints _) (.bW (.str _) (.bW (.str _) (.bW (.int _ _) .o9)))))
def Chr.sz (v:Chr):Nat:=v.group.length+v.letter.size+v.colors.size
theorem VD [St] {E:Env} {np:Nat} {P:Program} [hE:SE E np P] {f:FuncId} {args:List AV} {K:AV->Prop} {kind:Int} {group:List Int} {letter:ByteArray} {colors:ByteArray} {period:Int} (h:AC P f args (λv:Chr=> .agg (v.cs true)) (Chr.mk kind group letter colors period)) (hk:∀(iB:List (List AV)),iB=group.map aN->K (.agg [.int .i64 kind,.sl true 1 iB,.str letter,.str colors,.int .i64 period])):E.call f args K:=
 aQ h λy hy=>by subst hy;exact hk _ rfl
theorem J2 [St] (kind:Int) (letter colors:ByteArray) (period:Int) {iB:List (List AV)} {nQ:Bool} {group:List Int} (pW:iB=group.map aN) (n:Int) (hn:0<=n/\n<=1048576):AP 100 [.agg [.int .i64 kind,.sl nQ 1 iB,.str letter,.str colors,.int .i64 period],.int .i64 n] (AV.int .i64) (szN n (Chr.sz (Chr.mk kind group letter colors period))):=by
  refine a0 Tryz.func100 λE K hE hK=>?_
  repeat' first
    |((first
   |(refine aQ (H8 _ (by assumption) (by omega)) (λy hy=>?_);have hz:=gQ hy;clear hy)
   |refine B0 ?_|refine B1 ?_ ?_)<;>intros<;>(try conv=>cbv))
  all_goals (refine hK _ ?_;show AV.int _ _=AV.int _ _;congr 1;unfold szN Chr.sz;simp only at *;split<;>omega)
theorem JQ [St] (kind:Int) (letter colors:ByteArray) (period:Int) {iB:List (List AV)} {nQ:Bool} {group:List Int} (pW:iB=group.map aN) (hz:Chr.sz (Chr.mk kind group letter colors period)<=1048576):AP 131 [.agg [.int .i64 kind,.sl nQ 1 iB,.str letter,.str colors,.int .i64 period]] (λv:Chr=> .agg (v.cs true)) (Chr.mk kind group letter colors period):=by
  refine ac Tryz.func131 (.aho _) λE K hE hK=>?_;have hz':=hz;simp only [Chr.sz] at hz'
  repeat' first
    |((first
   |refine dJ (H7 (by assumption) (by omega)) (λ_ _=>?_)
   |refine B0 ?_|refine B1 ?_ ?_)<;>intros<;>(try conv=>cbv))
  all_goals first
   |(refine hK _ ?_;subst_vars;rfl)
theorem LA [St] (kind:Int) (letter colors:ByteArray) (period:Int) (kind':Int) (U6 zD:ByteArray) (UN:Int) {iB:List (List AV)} {nQ:Bool} {group:List Int} {NM:List (List AV)} {Y4:Bool} {aa4:List Int} (pW:iB=group.map aN) (aa0:NM=aa4.map aN):AP 167 [.agg [.int .i64 kind,.sl nQ 1 iB,.str letter,.str colors,.int .i64 period],.agg [.int .i64 kind',.sl Y4 1 NM,.str U6,.str zD,.int .i64 UN]] AV.bool (bP ((Chr.mk kind group letter colors period)=(Chr.mk kind' aa4 U6 zD UN))):=by
  refine a0 Tryz.func167 λE K hE hK=>?_
  repeat' first
    |((first
   |refine aF (Jp (by assumption) (by assumption)) (λ_=>?_) (λ_=>?_)
   |refine B0 ?_|refine B1 ?_ ?_)<;>intros<;>(try conv=>cbv))
  all_goals (clear pW aa0)
  all_goals first|(refine aH hK (aG.2 ?_);simp only [Chr.mk.injEq] at *;simp_all;done)|(refine aH hK (ah.2 ?_);simp only [Chr.mk.injEq] at *;simp_all;done)
structure Chn where
 name:ByteArray
 line:List Pnt
 width:Int
def Chn.cs (b:Bool) (v:Chn):List AV:=[.str v.name,.sl b 2 (v.line.map Pnt.cs),.int .i64 v.width]
theorem NoB.aiO (v:Chn):NoB (.agg (v.cs true)):=(.bW (.str _) (.bW (.rows .EN) (.bW (.int _ _) .o9)))
def Chn.sz (v:Chn):Nat:=v.name.size+v.line.length
theorem aeF [St] {E:Env} {np:Nat} {P:Program} [hE:SE E np P] {f:FuncId} {args:List AV} {K:AV->Prop} {name:ByteArray} {line:List Pnt} {width:Int} (h:AC P f args (λv:Chn=> .agg (v.cs true)) (Chn.mk name line width)) (hk:∀(dR:List (List AV)),dR=line.map Pnt.cs->K (.agg [.str name,.sl true 2 dR,.int .i64 width])):E.call f args K:=
 aQ h λy hy=>by subst hy;exact hk _ rfl
theorem Ri [St] (name:ByteArray) (width:Int) {dR:List (List AV)} {kF:Bool} {line:List Pnt} (jZ:dR=line.map Pnt.cs) (n:Int) (hn:0<=n/\n<=1048576):AP 102 [.agg [.str name,.sl kF 2 dR,.int .i64 width],.int .i64 n] (AV.int .i64) (szN n (Chn.sz (Chn.mk name line width))):=by
  refine a0 Tryz.func102 λE K hE hK=>?_
  repeat' first
    |((first
   |(refine aQ (Wm _ (by assumption) (by omega)) (λy hy=>?_);have hz:=gQ hy;clear hy)
   |refine B0 ?_|refine B1 ?_ ?_)<;>intros<;>(try conv=>cbv))
  all_goals (refine hK _ ?_;show AV.int _ _=AV.int _ _;congr 1;unfold szN Chn.sz;simp only at *;split<;>omega)
theorem QY [St] (name:ByteArray) (width:Int) {dR:List (List AV)} {kF:Bool} {line:List Pnt} (jZ:dR=line.map Pnt.cs) (hz:Chn.sz (Chn.mk name line width)<=1048576):AP 133 [.agg [.str name,.sl kF 2 dR,.int .i64 width]] (λv:Chn=> .agg (v.cs true)) (Chn.mk name line width):=by
  refine ac Tryz.func133 (.aiO _) λE K hE hK=>?_;have hz':=hz;simp only [Chn.sz] at hz'
  repeat' first
    |((first
   |refine dJ (V9 (by assumption) (by omega)) (λ_ _=>?_)
   |refine B0 ?_|refine B1 ?_ ?_)<;>intros<;>(try conv=>cbv))
  all_goals first
   |(refine hK _ ?_;subst_vars;rfl)
theorem Ti [St] (name:ByteArray) (width:Int) (name':ByteArray) (zV:Int) {dR:List (List AV)} {kF:Bool} {line:List Pnt} {vI:List (List AV)} {JX:Bool} {line':List Pnt} (jZ:dR=line.map Pnt.cs) (DX:vI=line'.map Pnt.cs):AP 169 [.agg [.str name,.sl kF 2 dR,.int .i64 width],.agg [.str name',.sl JX 2 vI,.int .i64 zV]] AV.bool (bP ((Chn.mk name line width)=(Chn.mk name' line' zV))):=by
  refine a0 Tryz.func169 λE K hE hK=>?_
  repeat' first
    |((first
   |refine aF (Yb (by assumption) (by assumption)) (λ_=>?_) (λ_=>?_)
   |refine B0 ?_|refine B1 ?_ ?_)<;>intros<;>(try conv=>cbv))
  all_goals (clear jZ DX)
  all_goals first|(refine aH hK (aG.2 ?_);simp only [Chn.mk.injEq] at *;simp_all;done)|(refine aH hK (ah.2 ?_);simp only [Chn.mk.injEq] at *;simp_all;done)
structure Aid where
 number:Int
 name:ByteArray
 atX:Int
 atY:Int
 height:Int
 aP:Int
 aC:ByteArray
 aJ:ByteArray
 bg:ByteArray
 aO:Int
 aM:List Int
 aB:ByteArray
 ak:ByteArray
 au:Int
 aD:List Scr
 aj:Int
def Aid.cs (b:Bool) (v:Aid):List AV:=[.int .i64 v.number,.str v.name,.int .i64 v.atX,.int .i64 v.atY,.int .i64 v.height,.int .i64 v.aP,.str v.aC,.str v.aJ,.str v.bg,.int .i64 v.aO,.sl b 1 (v.aM.map aN),.str v.aB,.str v.ak,.int .i64 v.au,.sl b 3 (v.aD.map Scr.cs),.int .i64 v.aj]
theorem NoB.Dc (v:Aid):NoB (.agg (v.cs true)):=(.bW (.int _ _) (.bW (.str _) (.bW (.int _ _) (.bW (.int _ _) (.bW (.int _ _) (.bW (.int _ _) (.bW (.str _) (.bW (.str _) (.bW (.str _) (.bW (.int _ _) (.bW (.ints _) (.bW (.str _) (.bW (.str _) (.bW (.int _ _) (.bW (.rows .WX) (.bW (.int _ _) .o9))))))))))))))))
def Aid.sz (v:Aid):Nat:=v.name.size+Mrk.sz ⟨v.aP,v.aC,v.aJ,v.bg⟩+Chr.sz ⟨v.aO,v.aM,v.aB,v.ak,v.au⟩+(v.aD.length+(v.aD.map Scr.sz).sum)
theorem iU [St] {E:Env} {np:Nat} {P:Program} [hE:SE E np P] {es:List (List AV)} {i:Int} {K:List AV->Prop} {l:List Aid} {b:Bool} (hl:es=l.map (Aid.cs b)) (h0:0<=i/\i<l.length) (hk:∀(number:Int) (name:ByteArray) (atX:Int) (atY:Int) (height:Int) (aP:Int) (aC:ByteArray) (aJ:ByteArray) (bg:ByteArray) (aO:Int) (aM:List Int) (aB:ByteArray) (ak:ByteArray) (au:Int) (aD:List Scr) (aj:Int) (aL aI:List (List AV)),l[i.toNat]? =some (Aid.mk number name atX atY height aP aC aJ bg aO aM aB ak au aD aj)->aL=aM.map aN->aI=aD.map Scr.cs->K [.int .i64 number,.str name,.int .i64 atX,.int .i64 atY,.int .i64 height,.int .i64 aP,.str aC,.str aJ,.str bg,.int .i64 aO,.sl b 1 aL,.str aB,.str ak,.int .i64 au,.sl b 3 aI,.int .i64 aj]):E.idx es i K:=
 bQ hl h0 λv hv=>by
  obtain ⟨number,name,atX,atY,height,aP,aC,aJ,bg,aO,aM,aB,ak,au,aD,aj⟩:=v;exact hk number name atX atY height aP aC aJ bg aO aM aB ak au aD aj _ _ hv rfl rfl
theorem iO [St] {E:Env} {np:Nat} {P:Program} [hE:SE E np P] {es:List (List AV)} {i:Int} {K:List AV->Prop} {l:List Aid} {b:Bool} {number:Int} {name:ByteArray} {atX:Int} {atY:Int} {height:Int} {aP:Int} {aC:ByteArray} {aJ:ByteArray} {bg:ByteArray} {aO:Int} {aM:List Int} {aB:ByteArray} {ak:ByteArray} {au:Int} {aD:List Scr} {aj:Int} {aL aI:List (List AV)} (hl:es=l.map (Aid.cs b)) (h0:0<=i) (hv:l[i.toNat]? =some (Aid.mk number name atX atY height aP aC aJ bg aO aM aB ak au aD aj)) (aW:aL=aM.map aN) (aS:aI=aD.map Scr.cs) (hk:K [.int .i64 number,.str name,.int .i64 atX,.int .i64 atY,.int .i64 height,.int .i64 aP,.str aC,.str aJ,.str bg,.int .i64 aO,.sl b 1 aL,.str aB,.str ak,.int .i64 au,.sl b 3 aI,.int .i64 aj]):E.idx es i K:=by
 subst aW aS;exact gK hl h0 hv hk
theorem qb [St] {E:Env} {np:Nat} {P:Program} [hE:SE E np P] {f:FuncId} {args:List AV} {K:AV->Prop} {number:Int} {name:ByteArray} {atX:Int} {atY:Int} {height:Int} {aP:Int} {aC:ByteArray} {aJ:ByteArray} {bg:ByteArray} {aO:Int} {aM:List Int} {aB:ByteArray} {ak:ByteArray} {au:Int} {aD:List Scr} {aj:Int} (h:AC P f args (λv:Aid=> .agg (v.cs true)) (Aid.mk number name atX atY height aP aC aJ bg aO aM aB ak au aD aj)) (hk:∀(aL aI:List (List AV)),aL=aM.map aN->aI=aD.map Scr.cs->K (.agg [.int .i64 number,.str name,.int .i64 atX,.int .i64 atY,.int .i64 height,.int .i64 aP,.str aC,.str aJ,.str bg,.int .i64 aO,.sl true 1 aL,.str aB,.str ak,.int .i64 au,.sl true 3 aI,.int .i64 aj])):E.call f args K:=
 aQ h λy hy=>by subst hy;exact hk _ _ rfl rfl
theorem Y6 [St] (number:Int) (name:ByteArray) (atX atY height aP:Int) (aC aJ bg:ByteArray) (aO:Int) (aB ak:ByteArray) (au aj:Int) {aL aI:List (List AV)} {bC aX:Bool} {aM:List Int} {aD:List Scr} (aW:aL=aM.map aN) (aS:aI=aD.map Scr.cs) (n:Int) (hn:0<=n/\n<=1048576):AP 56 [.agg [.int .i64 number,.str name,.int .i64 atX,.int .i64 atY,.int .i64 height,.int .i64 aP,.str aC,.str aJ,.str bg,.int .i64 aO,.sl bC 1 aL,.str aB,.str ak,.int .i64 au,.sl aX 3 aI,.int .i64 aj],.int .i64 n] (AV.int .i64) (szN n (Aid.sz (Aid.mk number name atX atY height aP aC aJ bg aO aM aB ak au aD aj))):=by
  refine a0 Tryz.func56 λE K hE hK=>?_
  repeat' first
    |((first
   |(refine aQ (acA _ _ _ _ _ (by omega)) (λy hy=>?_);have hz:=gQ hy;clear hy)
   |(refine aQ (J2 _ _ _ _ (by assumption) _ (by omega)) (λy hy=>?_);have hz:=gQ hy;clear hy)
   |(refine aQ (Q9 _ (by assumption) (by omega)) (λy hy=>?_);have hz:=gQ hy;clear hy)
   |refine B0 ?_|refine B1 ?_ ?_)<;>intros<;>(try conv=>cbv))
  all_goals (refine hK _ ?_;show AV.int _ _=AV.int _ _;congr 1;unfold szN Aid.sz;simp only at *;split<;>omega)
theorem acB [St] {rs:List (List AV)} {t b:Bool} {l:List Aid} (n:Int) (hl:rs=l.map (Aid.cs b)) (hn:0<=n/\n<=1048576):AP 13 [.sl t 16 rs,.int .i64 n] (AV.int .i64) (szN n (l.length+(l.map Aid.sz).sum)):=by
  refine a0 Tryz.func13 λE K hE hK=>?_
  repeat' first
    |((first
   |refine B0 ?_|refine B1 ?_ ?_)<;>intros<;>(try conv=>cbv))
  ·refine hK _ ?_;rw [szN,if_pos (by omega)];rfl
  ·refine bO [0] [5,1] (λ(i m:Int)=>([(5,.int .i64 i),(1,.int .i64 m)],[],l.length - i,(0<=i/\i<=l.length)/\(0<=m/\m<=1048576)/\m+sumTo Aid.sz l i+l.length=n)) [] ((0,_)) (hV:=rfl) (hO:=rfl) (by dsimp only;exact ⟨by omega,by omega,by rw [eH (by omega)];omega⟩) λi m hi Kn hN=>?_;obtain ⟨⟨h0,h1⟩,h2,h3⟩:=hi;have hle:=sumTo_le Aid.sz l
   repeat' first
     |(refine hN _ _ [] rfl ⟨?_,?_,?_⟩)
     |((first
    |(refine iU hl (by omega) (λnumber name atX atY height aP aC aJ bg aO aM aB ak au aD aj aL aI hv aW aS=>?_);have hs:=eO Aid.sz h0 hv;have hs2:=hle (i+1))
    |(refine aQ (Y6 _ _ _ _ _ _ _ _ _ _ _ _ _ _ (by assumption) (by assumption) _ (by omega)) (λy hy=>?_);have hz:=gQ hy;clear hy)
    |refine B0 ?_|refine B1 ?_ ?_)<;>intros<;>(try conv=>cbv))
   all_goals first
    |omega
    |(refine hK _ ?_;rw [zZ (by omega)];rfl)
    |(rename_i hn2;rw [hn2,hs];omega)
    |(refine hK _ ?_;have:=jU Aid.sz l (i:=i) (by omega);rw [Aa (by omega)];show AV.int _ _=AV.int _ _;congr 1;omega)
theorem YU [St] (number:Int) (name:ByteArray) (atX atY height aP:Int) (aC aJ bg:ByteArray) (aO:Int) (aB ak:ByteArray) (au aj:Int) {aL aI:List (List AV)} {bC aX:Bool} {aM:List Int} {aD:List Scr} (aW:aL=aM.map aN) (aS:aI=aD.map Scr.cs) (hz:Aid.sz (Aid.mk number name atX atY height aP aC aJ bg aO aM aB ak au aD aj)<=1048576):AP 67 [.agg [.int .i64 number,.str name,.int .i64 atX,.int .i64 atY,.int .i64 height,.int .i64 aP,.str aC,.str aJ,.str bg,.int .i64 aO,.sl bC 1 aL,.str aB,.str ak,.int .i64 au,.sl aX 3 aI,.int .i64 aj]] (λv:Aid=> .agg (v.cs true)) (Aid.mk number name atX atY height aP aC aJ bg aO aM aB ak au aD aj):=by
  refine ac Tryz.func67 (.Dc _) λE K hE hK=>?_;have hz':=hz;simp only [Aid.sz] at hz'
  repeat' first
    |((first
   |(refine aQ (qG _ _) (λ_ hy=>?_);subst hy)
   |(refine aQ (ab9 _ _ _ _) (λ_ hy=>?_);subst hy)
   |refine VD (JQ _ _ _ _ (by assumption) (by omega)) (λ_ _=>?_)
   |refine dJ (QU (by assumption) (by omega)) (λ_ _=>?_)
   |refine B0 ?_|refine B1 ?_ ?_)<;>intros<;>(try conv=>cbv))
  all_goals first
   |(refine hK _ ?_;subst_vars;rfl)
theorem acd [St] {rs:List (List AV)} {t b:Bool} {l:List Aid} (hl:rs=l.map (Aid.cs b)) (hz:l.length+(l.map Aid.sz).sum<=1048576):AP 22 [.sl t 16 rs] (λl:List Aid=> .sl true 16 (l.map (Aid.cs true))) l:=by
  refine ac Tryz.func22 (.rows .Dc) λE K hE hK=>?_;refine bn hl λn hn hb=>?_;conv=>cbv
  refine yV (l:=l) (Aid.cs true) hn rfl (by omega) λes hes=>?_;conv=>cbv
  refine bO [0] [4,3] (λ(i:Int) (es':List (List AV))=>([(4,.int .i64 i),(3,.ob 0)],[.row 16 es'],l.length - i,0<=i/\es'=fM (Aid.cs true) [.int .i64 0,.str ⟨#[]⟩,.int .i64 0,.int .i64 0,.int .i64 0,.int .i64 0,.str ⟨#[]⟩,.str ⟨#[]⟩,.str ⟨#[]⟩,.int .i64 0,.fV,.str ⟨#[]⟩,.str ⟨#[]⟩,.int .i64 0,.fV,.int .i64 0] l i)) [0] ((0,es)) (by dsimp only;exact ⟨by omega,hes⟩) λi es' hi Kn hN=>?_;obtain ⟨h0,hinv⟩:=hi
  repeat' first
    |(refine hN _ _ [0] rfl ⟨?_,?_⟩)
    |((first
   |(refine iU hl (by omega) (λnumber name atX atY height aP aC aJ bg aO aM aB ak au aD aj aL aI hv aW aS=>?_);have hsz:=J4 Aid.sz hv)
   |refine qb (YU _ _ _ _ _ _ _ _ _ _ _ _ _ _ (by assumption) (by assumption) (by omega)) (λ_ _ _ _=>?_)
   |refine nP (R:=Aid.cs true) (by assumption) (by omega) (by assumption) (by exact aq _) (by subst_vars;rfl) (λ_ _=>?_)
   |refine B0 ?_|refine B1 ?_ ?_)<;>intros<;>(try conv=>cbv))
  ·omega
  ·subst_vars;rfl
  ·refine hK _ ?_;rw [hinv,iF (by omega)];rfl
theorem abb [St] (number:Int) (name:ByteArray) (atX atY height aP:Int) (aC aJ bg:ByteArray) (aO:Int) (aB ak:ByteArray) (au aj:Int) (number':Int) (name':ByteArray) (nA ny sG jM:Int) (gy iD mU:ByteArray) (jl:Int) (fA fB:ByteArray) (fq dY:Int) {aL aI:List (List AV)} {bC aX:Bool} {aM:List Int} {aD:List Scr} {fE eD:List (List AV)} {jT jg:Bool} {jm:List Int} {gV:List Scr} (aW:aL=aM.map aN) (aS:aI=aD.map Scr.cs) (kP:fE=jm.map aN) (jQ:eD=gV.map Scr.cs):AP 91 [.agg [.int .i64 number,.str name,.int .i64 atX,.int .i64 atY,.int .i64 height,.int .i64 aP,.str aC,.str aJ,.str bg,.int .i64 aO,.sl bC 1 aL,.str aB,.str ak,.int .i64 au,.sl aX 3 aI,.int .i64 aj],.agg [.int .i64 number',.str name',.int .i64 nA,.int .i64 ny,.int .i64 sG,.int .i64 jM,.str gy,.str iD,.str mU,.int .i64 jl,.sl jT 1 fE,.str fA,.str fB,.int .i64 fq,.sl jg 3 eD,.int .i64 dY]] AV.bool (bP ((Aid.mk number name atX atY height aP aC aJ bg aO aM aB ak au aD aj)=(Aid.mk number' name' nA ny sG jM gy iD mU jl jm fA fB fq gV dY))):=by
  refine a0 Tryz.func91 λE K hE hK=>?_
  repeat' first
    |((first
   |refine aF (qY _ _ _ _) (λ_=>?_) (λ_=>?_)
   |refine aF (aem _ _ _ _ _ _ _ _) (λ_=>?_) (λ_=>?_)
   |refine aF (LA _ _ _ _ _ _ _ _ (by assumption) (by assumption)) (λ_=>?_) (λ_=>?_)
   |refine aF (SY (by assumption) (by assumption)) (λ_=>?_) (λ_=>?_)
   |refine B0 ?_|refine B1 ?_ ?_)<;>intros<;>(try conv=>cbv))
  all_goals (clear aW aS kP jQ)
  all_goals first|(refine aH hK (aG.2 ?_);simp only [Aid.mk.injEq,Pnt.mk.injEq,Mrk.mk.injEq,Chr.mk.injEq] at *;simp_all;done)|(refine aH hK (ah.2 ?_);simp only [Aid.mk.injEq,Pnt.mk.injEq,Mrk.mk.injEq,Chr.mk.injEq] at *;simp_all;done)
theorem aen [St] {rs rs':List (List AV)} {t t' b b':Bool} {l m:List Aid} (hl:rs=l.map (Aid.cs b)) (hm:rs'=m.map (Aid.cs b')):AP 39 [.sl t 16 rs,.sl t' 16 rs'] AV.bool (bP (l=m)):=by
  refine a0 Tryz.func39 λE K hE hK=>?_;refine bn hl λn hn hb=>?_;conv=>cbv
  refine bn hm λn' hn' hb'=>?_;conv=>cbv
  refine eqI (λhe=>?_) (λhe=>?_)<;>conv=>cbv
  ·refine cu [0,1] [5] (λ(i:Int)=>([(5,.int .i64 i)],[],l.length - i,0<=i/\Up (λj=>l[j]? =m[j]?) i)) [] (0) (by dsimp only;exact ⟨by omega,.zero (by omega)⟩) λi hi Kn hN=>?_;obtain ⟨h0,hinv⟩:=hi
   repeat' first
     |(refine hN _ [] rfl ⟨?_,?_⟩)
     |((first
    |refine iU hl (by omega) (λnumber name atX atY height aP aC aJ bg aO aM aB ak au aD aj aL aI hv aW aS=>?_)
    |refine iU hm (by omega) (λnumber' name' nA ny sG jM gy iD mU jl jm fA fB fq gV dY fE eD hv' kP jQ=>?_)
    |refine aF (abb _ _ _ _ _ _ _ _ _ _ _ _ _ _ _ _ _ _ _ _ _ _ _ _ _ _ _ _ (by assumption) (by assumption) (by assumption) (by assumption)) (λhq=>?_) (λhq=>?_)
    |refine B0 ?_|refine B1 ?_ ?_)<;>intros<;>(try conv=>cbv))
   all_goals first
    |omega
    |exact hinv.succ (hv.trans ((congrArg some hq).trans hv'.symm)) (by assumption)
    |(refine aH hK (ah.2 λh=>hq ?_);rw [h,hv'] at hv;exact (ee hv).symm)
    |exact aH hK (aG.2 (eP (by omega) hinv (by omega)))
  ·refine aH hK (ah.2 λh=>?_);subst h;omega
structure Ntc where
 number:Int
 day:Int
 kind:Int
 target:Int
 aY:Int
 aName:ByteArray
 atX:Int
 atY:Int
 aZ:Int
 aP:Int
 aC:ByteArray
 aJ:ByteArray
 bg:ByteArray
 aO:Int
 aM:List Int
 aB:ByteArray
 ak:ByteArray
 au:Int
 aD:List Scr
 aj:Int
def Ntc.cs (b:Bool) (v:Ntc):List AV:=[.int .i64 v.number,.int .i64 v.day,.int .i64 v.kind,.int .i64 v.target,.int .i64 v.aY,.str v.aName,.int .i64 v.atX,.int .i64 v.atY,.int .i64 v.aZ,.int .i64 v.aP,.str v.aC,.str v.aJ,.str v.bg,.int .i64 v.aO,.sl b 1 (v.aM.map aN),.str v.aB,.str v.ak,.int .i64 v.au,.sl b 3 (v.aD.map Scr.cs),.int .i64 v.aj]
theorem NoB.ade (v:Ntc):NoB (.agg (v.cs true)):=(.bW (.int _ _) (.bW (.int _ _) (.bW (.int _ _) (.bW (.int _ _) (.bW (.int _ _) (.bW (.str _) (.bW (.int _ _) (.bW (.int _ _) (.bW (.int _ _) (.bW (.int _ _) (.bW (.str _) (.bW (.str _) (.bW (.str _) (.bW (.int _ _) (.bW (.ints _) (.bW (.str _) (.bW (.str _) (.bW (.int _ _) (.bW (.rows .WX) (.bW (.int _ _) .o9))))))))))))))))))))
def Ntc.sz (v:Ntc):Nat:=Aid.sz ⟨v.aY,v.aName,v.atX,v.atY,v.aZ,v.aP,v.aC,v.aJ,v.bg,v.aO,v.aM,v.aB,v.ak,v.au,v.aD,v.aj⟩
theorem kK [St] {E:Env} {np:Nat} {P:Program} [hE:SE E np P] {es:List (List AV)} {i:Int} {K:List AV->Prop} {l:List Ntc} {b:Bool} (hl:es=l.map (Ntc.cs b)) (h0:0<=i/\i<l.length) (hk:∀(number:Int) (day:Int) (kind:Int) (target:Int) (aY:Int) (aName:ByteArray) (atX:Int) (atY:Int) (aZ:Int) (aP:Int) (aC:ByteArray) (aJ:ByteArray) (bg:ByteArray) (aO:Int) (aM:List Int) (aB:ByteArray) (ak:ByteArray) (au:Int) (aD:List Scr) (aj:Int) (aL aI:List (List AV)),l[i.toNat]? =some (Ntc.mk number day kind target aY aName atX atY aZ aP aC aJ bg aO aM aB ak au aD aj)->aL=aM.map aN->aI=aD.map Scr.cs->K [.int .i64 number,.int .i64 day,.int .i64 kind,.int .i64 target,.int .i64 aY,.str aName,.int .i64 atX,.int .i64 atY,.int .i64 aZ,.int .i64 aP,.str aC,.str aJ,.str bg,.int .i64 aO,.sl b 1 aL,.str aB,.str ak,.int .i64 au,.sl b 3 aI,.int .i64 aj]):E.idx es i K:=
 bQ hl h0 λv hv=>by
  obtain ⟨number,day,kind,target,aY,aName,atX,atY,aZ,aP,aC,aJ,bg,aO,aM,aB,ak,au,aD,aj⟩:=v;exact hk number day kind target aY aName atX atY aZ aP aC aJ bg aO aM aB ak au aD aj _ _ hv rfl rfl
theorem sF [St] {E:Env} {np:Nat} {P:Program} [hE:SE E np P] {es:List (List AV)} {i:Int} {K:List AV->Prop} {l:List Ntc} {b:Bool} {number:Int} {day:Int} {kind:Int} {target:Int} {aY:Int} {aName:ByteArray} {atX:Int} {atY:Int} {aZ:Int} {aP:Int} {aC:ByteArray} {aJ:ByteArray} {bg:ByteArray} {aO:Int} {aM:List Int} {aB:ByteArray} {ak:ByteArray} {au:Int} {aD:List Scr} {aj:Int} {aL aI:List (List AV)} (hl:es=l.map (Ntc.cs b)) (h0:0<=i) (hv:l[i.toNat]? =some (Ntc.mk number day kind target aY aName atX atY aZ aP aC aJ bg aO aM aB ak au aD aj)) (aW:aL=aM.map aN) (aS:aI=aD.map Scr.cs) (hk:K [.int .i64 number,.int .i64 day,.int .i64 kind,.int .i64 target,.int .i64 aY,.str aName,.int .i64 atX,.int .i64 atY,.int .i64 aZ,.int .i64 aP,.str aC,.str aJ,.str bg,.int .i64 aO,.sl b 1 aL,.str aB,.str ak,.int .i64 au,.sl b 3 aI,.int .i64 aj]):E.idx es i K:=by
 subst aW aS;exact gK hl h0 hv hk
theorem aeD [St] {E:Env} {np:Nat} {P:Program} [hE:SE E np P] {f:FuncId} {args:List AV} {K:AV->Prop} {number:Int} {day:Int} {kind:Int} {target:Int} {aY:Int} {aName:ByteArray} {atX:Int} {atY:Int} {aZ:Int} {aP:Int} {aC:ByteArray} {aJ:ByteArray} {bg:ByteArray} {aO:Int} {aM:List Int} {aB:ByteArray} {ak:ByteArray} {au:Int} {aD:List Scr} {aj:Int} (h:AC P f args (λv:Ntc=> .agg (v.cs true)) (Ntc.mk number day kind target aY aName atX atY aZ aP aC aJ bg aO aM aB ak au aD aj)) (hk:∀(aL aI:List (List AV)),aL=aM.map aN->aI=aD.map Scr.cs->K (.agg [.int .i64 number,.int .i64 day,.int .i64 kind,.int .i64 target,.int .i64 aY,.str aName,.int .i64 atX,.int .i64 atY,.int .i64 aZ,.int .i64 aP,.str aC,.str aJ,.str bg,.int .i64 aO,.sl true 1 aL,.str aB,.str ak,.int .i64 au,.sl true 3 aI,.int .i64 aj])):E.call f args K:=
 aQ h λy hy=>by subst hy;exact hk _ _ rfl rfl
theorem Wn [St] (number day kind target aY:Int) (aName:ByteArray) (atX atY aZ aP:Int) (aC aJ bg:ByteArray) (aO:Int) (aB ak:ByteArray) (au aj:Int) {aL aI:List (List AV)} {bC aX:Bool} {aM:List Int} {aD:List Scr} (aW:aL=aM.map aN) (aS:aI=aD.map Scr.cs) (n:Int) (hn:0<=n/\n<=1048576):AP 57 [.agg [.int .i64 number,.int .i64 day,.int .i64 kind,.int .i64 target,.int .i64 aY,.str aName,.int .i64 atX,.int .i64 atY,.int .i64 aZ,.int .i64 aP,.str aC,.str aJ,.str bg,.int .i64 aO,.sl bC 1 aL,.str aB,.str ak,.int .i64 au,.sl aX 3 aI,.int .i64 aj],.int .i64 n] (AV.int .i64) (szN n (Ntc.sz (Ntc.mk number day kind target aY aName atX atY aZ aP aC aJ bg aO aM aB ak au aD aj))):=by
  refine a0 Tryz.func57 λE K hE hK=>?_
  repeat' first
    |((first
   |(refine aQ (Y6 _ _ _ _ _ _ _ _ _ _ _ _ _ _ (by assumption) (by assumption) _ (by omega)) (λy hy=>?_);have hz:=gQ hy;clear hy)
   |refine B0 ?_|refine B1 ?_ ?_)<;>intros<;>(try conv=>cbv))
  all_goals (refine hK _ ?_;show AV.int _ _=AV.int _ _;congr 1;unfold szN Ntc.sz;simp only at *;split<;>omega)
theorem Rb [St] {rs:List (List AV)} {t b:Bool} {l:List Ntc} (n:Int) (hl:rs=l.map (Ntc.cs b)) (hn:0<=n/\n<=1048576):AP 14 [.sl t 20 rs,.int .i64 n] (AV.int .i64) (szN n (l.length+(l.map Ntc.sz).sum)):=by
  refine a0 Tryz.func14 λE K hE hK=>?_
  repeat' first
    |((first
   |refine B0 ?_|refine B1 ?_ ?_)<;>intros<;>(try conv=>cbv))
  ·refine hK _ ?_;rw [szN,if_pos (by omega)];rfl
  ·refine bO [0] [5,1] (λ(i m:Int)=>([(5,.int .i64 i),(1,.int .i64 m)],[],l.length - i,(0<=i/\i<=l.length)/\(0<=m/\m<=1048576)/\m+sumTo Ntc.sz l i+l.length=n)) [] ((0,_)) (hV:=rfl) (hO:=rfl) (by dsimp only;exact ⟨by omega,by omega,by rw [eH (by omega)];omega⟩) λi m hi Kn hN=>?_;obtain ⟨⟨h0,h1⟩,h2,h3⟩:=hi;have hle:=sumTo_le Ntc.sz l
   repeat' first
     |(refine hN _ _ [] rfl ⟨?_,?_,?_⟩)
     |((first
    |(refine kK hl (by omega) (λnumber day kind target aY aName atX atY aZ aP aC aJ bg aO aM aB ak au aD aj aL aI hv aW aS=>?_);have hs:=eO Ntc.sz h0 hv;have hs2:=hle (i+1))
    |(refine aQ (Wn _ _ _ _ _ _ _ _ _ _ _ _ _ _ _ _ _ _ (by assumption) (by assumption) _ (by omega)) (λy hy=>?_);have hz:=gQ hy;clear hy)
    |refine B0 ?_|refine B1 ?_ ?_)<;>intros<;>(try conv=>cbv))
   all_goals first
    |omega
    |(refine hK _ ?_;rw [zZ (by omega)];rfl)
    |(rename_i hn2;rw [hn2,hs];omega)
    |(refine hK _ ?_;have:=jU Ntc.sz l (i:=i) (by omega);rw [Aa (by omega)];show AV.int _ _=AV.int _ _;congr 1;omega)
theorem Wh [St] (number day kind target aY:Int) (aName:ByteArray) (atX atY aZ aP:Int) (aC aJ bg:ByteArray) (aO:Int) (aB ak:ByteArray) (au aj:Int) {aL aI:List (List AV)} {bC aX:Bool} {aM:List Int} {aD:List Scr} (aW:aL=aM.map aN) (aS:aI=aD.map Scr.cs) (hz:Ntc.sz (Ntc.mk number day kind target aY aName atX atY aZ aP aC aJ bg aO aM aB ak au aD aj)<=1048576):AP 68 [.agg [.int .i64 number,.int .i64 day,.int .i64 kind,.int .i64 target,.int .i64 aY,.str aName,.int .i64 atX,.int .i64 atY,.int .i64 aZ,.int .i64 aP,.str aC,.str aJ,.str bg,.int .i64 aO,.sl bC 1 aL,.str aB,.str ak,.int .i64 au,.sl aX 3 aI,.int .i64 aj]] (λv:Ntc=> .agg (v.cs true)) (Ntc.mk number day kind target aY aName atX atY aZ aP aC aJ bg aO aM aB ak au aD aj):=by
  refine ac Tryz.func68 (.ade _) λE K hE hK=>?_;have hz':=hz;simp only [Ntc.sz] at hz'
  repeat' first
    |((first
   |refine qb (YU _ _ _ _ _ _ _ _ _ _ _ _ _ _ (by assumption) (by assumption) (by omega)) (λ_ _ _ _=>?_)
   |refine B0 ?_|refine B1 ?_ ?_)<;>intros<;>(try conv=>cbv))
  all_goals first
   |(refine hK _ ?_;subst_vars;rfl)
theorem QV [St] {rs:List (List AV)} {t b:Bool} {l:List Ntc} (hl:rs=l.map (Ntc.cs b)) (hz:l.length+(l.map Ntc.sz).sum<=1048576):AP 23 [.sl t 20 rs] (λl:List Ntc=> .sl true 20 (l.map (Ntc.cs true))) l:=by
  refine ac Tryz.func23 (.rows .ade) λE K hE hK=>?_;refine bn hl λn hn hb=>?_;conv=>cbv
  refine yV (l:=l) (Ntc.cs true) hn rfl (by omega) λes hes=>?_;conv=>cbv
  refine bO [0] [4,3] (λ(i:Int) (es':List (List AV))=>([(4,.int .i64 i),(3,.ob 0)],[.row 20 es'],l.length - i,0<=i/\es'=fM (Ntc.cs true) [.int .i64 0,.int .i64 0,.int .i64 0,.int .i64 0,.int .i64 0,.str ⟨#[]⟩,.int .i64 0,.int .i64 0,.int .i64 0,.int .i64 0,.str ⟨#[]⟩,.str ⟨#[]⟩,.str ⟨#[]⟩,.int .i64 0,.fV,.str ⟨#[]⟩,.str ⟨#[]⟩,.int .i64 0,.fV,.int .i64 0] l i)) [0] ((0,es)) (by dsimp only;exact ⟨by omega,hes⟩) λi es' hi Kn hN=>?_;obtain ⟨h0,hinv⟩:=hi
  repeat' first
    |(refine hN _ _ [0] rfl ⟨?_,?_⟩)
    |((first
   |(refine kK hl (by omega) (λnumber day kind target aY aName atX atY aZ aP aC aJ bg aO aM aB ak au aD aj aL aI hv aW aS=>?_);have hsz:=J4 Ntc.sz hv)
   |refine aeD (Wh _ _ _ _ _ _ _ _ _ _ _ _ _ _ _ _ _ _ (by assumption) (by assumption) (by omega)) (λ_ _ _ _=>?_)
   |refine nP (R:=Ntc.cs true) (by assumption) (by omega) (by assumption) (by exact aq _) (by subst_vars;rfl) (λ_ _=>?_)
   |refine B0 ?_|refine B1 ?_ ?_)<;>intros<;>(try conv=>cbv))
  ·omega
  ·subst_vars;rfl
  ·refine hK _ ?_;rw [hinv,iF (by omega)];rfl
theorem Yc [St] (number day kind target aY:Int) (aName:ByteArray) (atX atY aZ aP:Int) (aC aJ bg:ByteArray) (aO:Int) (aB ak:ByteArray) (au aj:Int) (number' Dj kind' target' lJ:Int) (sV:ByteArray) (nA ny lK jM:Int) (gy iD mU:ByteArray) (jl:Int) (fA fB:ByteArray) (fq dY:Int) {aL aI:List (List AV)} {bC aX:Bool} {aM:List Int} {aD:List Scr} {fE eD:List (List AV)} {jT jg:Bool} {jm:List Int} {gV:List Scr} (aW:aL=aM.map aN) (aS:aI=aD.map Scr.cs) (kP:fE=jm.map aN) (jQ:eD=gV.map Scr.cs):AP 92 [.agg [.int .i64 number,.int .i64 day,.int .i64 kind,.int .i64 target,.int .i64 aY,.str aName,.int .i64 atX,.int .i64 atY,.int .i64 aZ,.int .i64 aP,.str aC,.str aJ,.str bg,.int .i64 aO,.sl bC 1 aL,.str aB,.str ak,.int .i64 au,.sl aX 3 aI,.int .i64 aj],.agg [.int .i64 number',.int .i64 Dj,.int .i64 kind',.int .i64 target',.int .i64 lJ,.str sV,.int .i64 nA,.int .i64 ny,.int .i64 lK,.int .i64 jM,.str gy,.str iD,.str mU,.int .i64 jl,.sl jT 1 fE,.str fA,.str fB,.int .i64 fq,.sl jg 3 eD,.int .i64 dY]] AV.bool (bP ((Ntc.mk number day kind target aY aName atX atY aZ aP aC aJ bg aO aM aB ak au aD aj)=(Ntc.mk number' Dj kind' target' lJ sV nA ny lK jM gy iD mU jl jm fA fB fq gV dY))):=by
  refine a0 Tryz.func92 λE K hE hK=>?_
  repeat' first
    |((first
   |refine aF (abb _ _ _ _ _ _ _ _ _ _ _ _ _ _ _ _ _ _ _ _ _ _ _ _ _ _ _ _ (by assumption) (by assumption) (by assumption) (by assumption)) (λ_=>?_) (λ_=>?_)
   |refine B0 ?_|refine B1 ?_ ?_)<;>intros<;>(try conv=>cbv))
  all_goals (clear aW aS kP jQ)
  all_goals first|(refine aH hK (aG.2 ?_);simp only [Ntc.mk.injEq,Aid.mk.injEq] at *;simp_all;done)|(refine aH hK (ah.2 ?_);simp only [Ntc.mk.injEq,Aid.mk.injEq] at *;simp_all;done)
theorem Ta [St] {rs rs':List (List AV)} {t t' b b':Bool} {l m:List Ntc} (hl:rs=l.map (Ntc.cs b)) (hm:rs'=m.map (Ntc.cs b')):AP 40 [.sl t 20 rs,.sl t' 20 rs'] AV.bool (bP (l=m)):=by
  refine a0 Tryz.func40 λE K hE hK=>?_;refine bn hl λn hn hb=>?_;conv=>cbv
  refine bn hm λn' hn' hb'=>?_;conv=>cbv
  refine eqI (λhe=>?_) (λhe=>?_)<;>conv=>cbv
  ·refine cu [0,1] [5] (λ(i:Int)=>([(5,.int .i64 i)],[],l.length - i,0<=i/\Up (λj=>l[j]? =m[j]?) i)) [] (0) (by dsimp only;exact ⟨by omega,.zero (by omega)⟩) λi hi Kn hN=>?_;obtain ⟨h0,hinv⟩:=hi
   repeat' first
     |(refine hN _ [] rfl ⟨?_,?_⟩)
     |((first
    |refine kK hl (by omega) (λnumber day kind target aY aName atX atY aZ aP aC aJ bg aO aM aB ak au aD aj aL aI hv aW aS=>?_)
    |refine kK hm (by omega) (λnumber' Dj kind' target' lJ sV nA ny lK jM gy iD mU jl jm fA fB fq gV dY fE eD hv' kP jQ=>?_)
    |refine aF (Yc _ _ _ _ _ _ _ _ _ _ _ _ _ _ _ _ _ _ _ _ _ _ _ _ _ _ _ _ _ _ _ _ _ _ _ _ (by assumption) (by assumption) (by assumption) (by assumption)) (λhq=>?_) (λhq=>?_)
    |refine B0 ?_|refine B1 ?_ ?_)<;>intros<;>(try conv=>cbv))
   all_goals first
    |omega
    |exact hinv.succ (hv.trans ((congrArg some hq).trans hv'.symm)) (by assumption)
    |(refine aH hK (ah.2 λh=>hq ?_);rw [h,hv'] at hv;exact (ee hv).symm)
    |exact aH hK (aG.2 (eP (by omega) hinv (by omega)))
  ·refine aH hK (ah.2 λh=>?_);subst h;omega
structure Fwy where
 name:ByteArray
 line:List Pnt
 width:Int
 dL:Int
 aK:Int
def Fwy.cs (b:Bool) (v:Fwy):List AV:=[.str v.name,.sl b 2 (v.line.map Pnt.cs),.int .i64 v.width,.int .i64 v.dL,.int .i64 v.aK]
theorem NoB.adf (v:Fwy):NoB (.agg (v.cs true)):=(.bW (.str _) (.bW (.rows .EN) (.bW (.int _ _) (.bW (.int _ _) (.bW (.int _ _) .o9)))))
def Fwy.sz (v:Fwy):Nat:=Chn.sz ⟨v.name,v.line,v.width⟩
theorem AY [St] {E:Env} {np:Nat} {P:Program} [hE:SE E np P] {es:List (List AV)} {i:Int} {K:List AV->Prop} {l:List Fwy} {b:Bool} (hl:es=l.map (Fwy.cs b)) (h0:0<=i/\i<l.length) (hk:∀(name:ByteArray) (line:List Pnt) (width:Int) (dL:Int) (aK:Int) (dR:List (List AV)),l[i.toNat]? =some (Fwy.mk name line width dL aK)->dR=line.map Pnt.cs->K [.str name,.sl b 2 dR,.int .i64 width,.int .i64 dL,.int .i64 aK]):E.idx es i K:=
 bQ hl h0 λv hv=>by
  obtain ⟨name,line,width,dL,aK⟩:=v;exact hk name line width dL aK _ hv rfl
theorem aeE [St] {E:Env} {np:Nat} {P:Program} [hE:SE E np P] {f:FuncId} {args:List AV} {K:AV->Prop} {name:ByteArray} {line:List Pnt} {width:Int} {dL:Int} {aK:Int} (h:AC P f args (λv:Fwy=> .agg (v.cs true)) (Fwy.mk name line width dL aK)) (hk:∀(dR:List (List AV)),dR=line.map Pnt.cs->K (.agg [.str name,.sl true 2 dR,.int .i64 width,.int .i64 dL,.int .i64 aK])):E.call f args K:=
 aQ h λy hy=>by subst hy;exact hk _ rfl
theorem Rf [St] (name:ByteArray) (width dL aK:Int) {dR:List (List AV)} {kF:Bool} {line:List Pnt} (jZ:dR=line.map Pnt.cs) (n:Int) (hn:0<=n/\n<=1048576):AP 58 [.agg [.str name,.sl kF 2 dR,.int .i64 width,.int .i64 dL,.int .i64 aK],.int .i64 n] (AV.int .i64) (szN n (Fwy.sz (Fwy.mk name line width dL aK))):=by
  refine a0 Tryz.func58 λE K hE hK=>?_
  repeat' first
    |((first
   |(refine aQ (Ri _ _ (by assumption) _ (by omega)) (λy hy=>?_);have hz:=gQ hy;clear hy)
   |refine B0 ?_|refine B1 ?_ ?_)<;>intros<;>(try conv=>cbv))
  all_goals (refine hK _ ?_;show AV.int _ _=AV.int _ _;congr 1;unfold szN Fwy.sz;simp only at *;split<;>omega)
theorem MW [St] {rs:List (List AV)} {t b:Bool} {l:List Fwy} (n:Int) (hl:rs=l.map (Fwy.cs b)) (hn:0<=n/\n<=1048576):AP 15 [.sl t 5 rs,.int .i64 n] (AV.int .i64) (szN n (l.length+(l.map Fwy.sz).sum)):=by
  refine a0 Tryz.func15 λE K hE hK=>?_
  repeat' first
    |((first
   |refine B0 ?_|refine B1 ?_ ?_)<;>intros<;>(try conv=>cbv))
  ·refine hK _ ?_;rw [szN,if_pos (by omega)];rfl
  ·refine bO [0] [5,1] (λ(i m:Int)=>([(5,.int .i64 i),(1,.int .i64 m)],[],l.length - i,(0<=i/\i<=l.length)/\(0<=m/\m<=1048576)/\m+sumTo Fwy.sz l i+l.length=n)) [] ((0,_)) (hV:=rfl) (hO:=rfl) (by dsimp only;exact ⟨by omega,by omega,by rw [eH (by omega)];omega⟩) λi m hi Kn hN=>?_;obtain ⟨⟨h0,h1⟩,h2,h3⟩:=hi;have hle:=sumTo_le Fwy.sz l
   repeat' first
     |(refine hN _ _ [] rfl ⟨?_,?_,?_⟩)
     |((first
    |(refine AY hl (by omega) (λname line width dL aK dR hv jZ=>?_);have hs:=eO Fwy.sz h0 hv;have hs2:=hle (i+1))
    |(refine aQ (Rf _ _ _ _ (by assumption) _ (by omega)) (λy hy=>?_);have hz:=gQ hy;clear hy)
    |refine B0 ?_|refine B1 ?_ ?_)<;>intros<;>(try conv=>cbv))
   all_goals first
    |omega
    |(refine hK _ ?_;rw [zZ (by omega)];rfl)
    |(rename_i hn2;rw [hn2,hs];omega)
    |(refine hK _ ?_;have:=jU Fwy.sz l (i:=i) (by omega);rw [Aa (by omega)];show AV.int _ _=AV.int _ _;congr 1;omega)
theorem QW [St] (name:ByteArray) (width dL aK:Int) {dR:List (List AV)} {kF:Bool} {line:List Pnt} (jZ:dR=line.map Pnt.cs) (hz:Fwy.sz (Fwy.mk name line width dL aK)<=1048576):AP 69 [.agg [.str name,.sl kF 2 dR,.int .i64 width,.int .i64 dL,.int .i64 aK]] (λv:Fwy=> .agg (v.cs true)) (Fwy.mk name line width dL aK):=by
  refine ac Tryz.func69 (.adf _) λE K hE hK=>?_;have hz':=hz;simp only [Fwy.sz] at hz'
  repeat' first
    |((first
   |refine aeF (QY _ _ (by assumption) (by omega)) (λ_ _=>?_)
   |refine B0 ?_|refine B1 ?_ ?_)<;>intros<;>(try conv=>cbv))
  all_goals first
   |(refine hK _ ?_;subst_vars;rfl)
theorem MO [St] {rs:List (List AV)} {t b:Bool} {l:List Fwy} (hl:rs=l.map (Fwy.cs b)) (hz:l.length+(l.map Fwy.sz).sum<=1048576):AP 24 [.sl t 5 rs] (λl:List Fwy=> .sl true 5 (l.map (Fwy.cs true))) l:=by
  refine ac Tryz.func24 (.rows .adf) λE K hE hK=>?_;refine bn hl λn hn hb=>?_;conv=>cbv
  refine yV (l:=l) (Fwy.cs true) hn rfl (by omega) λes hes=>?_;conv=>cbv
  refine bO [0] [4,3] (λ(i:Int) (es':List (List AV))=>([(4,.int .i64 i),(3,.ob 0)],[.row 5 es'],l.length - i,0<=i/\es'=fM (Fwy.cs true) [.str ⟨#[]⟩,.fV,.int .i64 0,.int .i64 0,.int .i64 0] l i)) [0] ((0,es)) (by dsimp only;exact ⟨by omega,hes⟩) λi es' hi Kn hN=>?_;obtain ⟨h0,hinv⟩:=hi
  repeat' first
    |(refine hN _ _ [0] rfl ⟨?_,?_⟩)
    |((first
   |(refine AY hl (by omega) (λname line width dL aK dR hv jZ=>?_);have hsz:=J4 Fwy.sz hv)
   |refine aeE (QW _ _ _ _ (by assumption) (by omega)) (λ_ _=>?_)
   |refine nP (R:=Fwy.cs true) (by assumption) (by omega) (by assumption) (by exact aq _) (by subst_vars;rfl) (λ_ _=>?_)
   |refine B0 ?_|refine B1 ?_ ?_)<;>intros<;>(try conv=>cbv))
  ·omega
  ·subst_vars;rfl
  ·refine hK _ ?_;rw [hinv,iF (by omega)];rfl
theorem Td [St] (name:ByteArray) (width dL aK:Int) (name':ByteArray) (zV Ej lU:Int) {dR:List (List AV)} {kF:Bool} {line:List Pnt} {vI:List (List AV)} {JX:Bool} {line':List Pnt} (jZ:dR=line.map Pnt.cs) (DX:vI=line'.map Pnt.cs):AP 93 [.agg [.str name,.sl kF 2 dR,.int .i64 width,.int .i64 dL,.int .i64 aK],.agg [.str name',.sl JX 2 vI,.int .i64 zV,.int .i64 Ej,.int .i64 lU]] AV.bool (bP ((Fwy.mk name line width dL aK)=(Fwy.mk name' line' zV Ej lU))):=by
  refine a0 Tryz.func93 λE K hE hK=>?_
  repeat' first
    |((first
   |refine aF (Ti _ _ _ _ (by assumption) (by assumption)) (λ_=>?_) (λ_=>?_)
   |refine B0 ?_|refine B1 ?_ ?_)<;>intros<;>(try conv=>cbv))
  all_goals (clear jZ DX)
  all_goals first|(refine aH hK (aG.2 ?_);simp only [Fwy.mk.injEq,Chn.mk.injEq] at *;simp_all;done)|(refine aH hK (ah.2 ?_);simp only [Fwy.mk.injEq,Chn.mk.injEq] at *;simp_all;done)
theorem P6 [St] {rs rs':List (List AV)} {t t' b b':Bool} {l m:List Fwy} (hl:rs=l.map (Fwy.cs b)) (hm:rs'=m.map (Fwy.cs b')):AP 41 [.sl t 5 rs,.sl t' 5 rs'] AV.bool (bP (l=m)):=by
  refine a0 Tryz.func41 λE K hE hK=>?_;refine bn hl λn hn hb=>?_;conv=>cbv
  refine bn hm λn' hn' hb'=>?_;conv=>cbv
  refine eqI (λhe=>?_) (λhe=>?_)<;>conv=>cbv
  ·refine cu [0,1] [5] (λ(i:Int)=>([(5,.int .i64 i)],[],l.length - i,0<=i/\Up (λj=>l[j]? =m[j]?) i)) [] (0) (by dsimp only;exact ⟨by omega,.zero (by omega)⟩) λi hi Kn hN=>?_;obtain ⟨h0,hinv⟩:=hi
   repeat' first
     |(refine hN _ [] rfl ⟨?_,?_⟩)
     |((first
    |refine AY hl (by omega) (λname line width dL aK dR hv jZ=>?_)
    |refine AY hm (by omega) (λname' line' zV Ej lU vI hv' DX=>?_)
    |refine aF (Td _ _ _ _ _ _ _ _ (by assumption) (by assumption)) (λhq=>?_) (λhq=>?_)
    |refine B0 ?_|refine B1 ?_ ?_)<;>intros<;>(try conv=>cbv))
   all_goals first
    |omega
    |exact hinv.succ (hv.trans ((congrArg some hq).trans hv'.symm)) (by assumption)
    |(refine aH hK (ah.2 λh=>hq ?_);rw [h,hv'] at hv;exact (ee hv).symm)
    |exact aH hK (aG.2 (eP (by omega) hinv (by omega)))
  ·refine aH hK (ah.2 λh=>?_);subst h;omega
structure Aut where
 bJ:List Aid
 bH:List Ntc
 day:Int
 bq:List Fwy
 bK:List Dgr
 away:Int
 aT:List Obv
 aK:Int
 full:List Int
 dB:ByteArray
 bT:Int
 dD:Int
 bA:Int
 bX:Int
 bY:Int
 works:List Wrk
 order:List Int
 start:Int
def Aut.cs (b:Bool) (v:Aut):List AV:=[.sl b 16 (v.bJ.map (Aid.cs b)),.sl b 20 (v.bH.map (Ntc.cs b)),.int .i64 v.day,.sl b 5 (v.bq.map (Fwy.cs b)),.sl b 4 (v.bK.map Dgr.cs),.int .i64 v.away,.sl b 4 (v.aT.map Obv.cs),.int .i64 v.aK,.sl b 1 (v.full.map aN),.str v.dB,.int .i64 v.bT,.int .i64 v.dD,.int .i64 v.bA,.int .i64 v.bX,.int .i64 v.bY,.sl b 7 (v.works.map Wrk.cs),.sl b 1 (v.order.map aN),.int .i64 v.start]
theorem NoB.aiQ (v:Aut):NoB (.agg (v.cs true)):=(.bW (.rows .Dc) (.bW (.rows .ade) (.bW (.int _ _) (.bW (.rows .adf) (.bW (.rows .adg) (.bW (.int _ _) (.bW (.rows .adb) (.bW (.int _ _) (.bW (.ints _) (.bW (.str _) (.bW (.int _ _) (.bW (.int _ _) (.bW (.int _ _) (.bW (.int _ _) (.bW (.int _ _) (.bW (.rows .ada) (.bW (.ints _) (.bW (.int _ _) .o9))))))))))))))))))
def Aut.sz (v:Aut):Nat:=(v.bJ.length+(v.bJ.map Aid.sz).sum)+(v.bH.length+(v.bH.map Ntc.sz).sum)+(v.bq.length+(v.bq.map Fwy.sz).sum)+(v.bK.length+(v.bK.map Dgr.sz).sum)+v.aT.length+v.full.length+Shp.sz ⟨v.dB,v.bT,v.dD,v.bA⟩+(v.works.length+(v.works.map Wrk.sz).sum)+v.order.length
theorem aeG [St] {E:Env} {np:Nat} {P:Program} [hE:SE E np P] {f:FuncId} {args:List AV} {K:AV->Prop} {bJ:List Aid} {bH:List Ntc} {day:Int} {bq:List Fwy} {bK:List Dgr} {away:Int} {aT:List Obv} {aK:Int} {full:List Int} {dB:ByteArray} {bT:Int} {dD:Int} {bA:Int} {bX:Int} {bY:Int} {works:List Wrk} {order:List Int} {start:Int} (h:AC P f args (λv:Aut=> .agg (v.cs true)) (Aut.mk bJ bH day bq bK away aT aK full dB bT dD bA bX bY works order start)) (hk:∀(bE bD bf bF aV dw bU bV:List (List AV)),bE=bJ.map (Aid.cs true)->bD=bH.map (Ntc.cs true)->bf=bq.map (Fwy.cs true)->bF=bK.map Dgr.cs->aV=aT.map Obv.cs->dw=full.map aN->bU=works.map Wrk.cs->bV=order.map aN->K (.agg [.sl true 16 bE,.sl true 20 bD,.int .i64 day,.sl true 5 bf,.sl true 4 bF,.int .i64 away,.sl true 4 aV,.int .i64 aK,.sl true 1 dw,.str dB,.int .i64 bT,.int .i64 dD,.int .i64 bA,.int .i64 bX,.int .i64 bY,.sl true 7 bU,.sl true 1 bV,.int .i64 start])):E.call f args K:=
 aQ h λy hy=>by subst hy;exact hk _ _ _ _ _ _ _ _ rfl rfl rfl rfl rfl rfl rfl rfl
theorem J3 [St] (day away aK:Int) (dB:ByteArray) (bT dD bA bX bY start:Int) {bE bD bf bF aV dw bU bV:List (List AV)} {cZ cO bZ dh bN fG dU dV dA dz cK:Bool} {bJ:List Aid} {bH:List Ntc} {bq:List Fwy} {bK:List Dgr} {aT:List Obv} {full order:List Int} {works:List Wrk} (dH:bE=bJ.map (Aid.cs dA)) (dG:bD=bH.map (Ntc.cs dz)) (cB:bf=bq.map (Fwy.cs cK)) (dO:bF=bK.map Dgr.cs) (bS:aV=aT.map Obv.cs) (fI:dw=full.map aN) (fC:bU=works.map Wrk.cs) (fK:bV=order.map aN) (n:Int) (hn:0<=n/\n<=1048576):AP 4 [.agg [.sl cZ 16 bE,.sl cO 20 bD,.int .i64 day,.sl bZ 5 bf,.sl dh 4 bF,.int .i64 away,.sl bN 4 aV,.int .i64 aK,.sl fG 1 dw,.str dB,.int .i64 bT,.int .i64 dD,.int .i64 bA,.int .i64 bX,.int .i64 bY,.sl dU 7 bU,.sl dV 1 bV,.int .i64 start],.int .i64 n] (AV.int .i64) (szN n (Aut.sz (Aut.mk bJ bH day bq bK away aT aK full dB bT dD bA bX bY works order start))):=by
  refine a0 Tryz.func4 λE K hE hK=>?_
  repeat' first
    |((first
   |(refine aQ (acB _ (by assumption) (by omega)) (λy hy=>?_);have hz:=gQ hy;clear hy)
   |(refine aQ (Rb _ (by assumption) (by omega)) (λy hy=>?_);have hz:=gQ hy;clear hy)
   |(refine aQ (MW _ (by assumption) (by omega)) (λy hy=>?_);have hz:=gQ hy;clear hy)
   |(refine aQ (Rh _ (by assumption) (by omega)) (λy hy=>?_);have hz:=gQ hy;clear hy)
   |(refine aQ (JY _ (by assumption) (by omega)) (λy hy=>?_);have hz:=gQ hy;clear hy)
   |(refine aQ (H8 _ (by assumption) (by omega)) (λy hy=>?_);have hz:=gQ hy;clear hy)
   |(refine aQ (acz _ _ _ _ _ (by omega)) (λy hy=>?_);have hz:=gQ hy;clear hy)
   |(refine aQ (Y5 _ (by assumption) (by omega)) (λy hy=>?_);have hz:=gQ hy;clear hy)
   |refine B0 ?_|refine B1 ?_ ?_)<;>intros<;>(try conv=>cbv))
  all_goals (refine hK _ ?_;show AV.int _ _=AV.int _ _;congr 1;unfold szN Aut.sz;simp only at *;split<;>omega)
theorem JR [St] (day away aK:Int) (dB:ByteArray) (bT dD bA bX bY start:Int) {bE bD bf bF aV dw bU bV:List (List AV)} {cZ cO bZ dh bN fG dU dV dA dz cK:Bool} {bJ:List Aid} {bH:List Ntc} {bq:List Fwy} {bK:List Dgr} {aT:List Obv} {full order:List Int} {works:List Wrk} (dH:bE=bJ.map (Aid.cs dA)) (dG:bD=bH.map (Ntc.cs dz)) (cB:bf=bq.map (Fwy.cs cK)) (dO:bF=bK.map Dgr.cs) (bS:aV=aT.map Obv.cs) (fI:dw=full.map aN) (fC:bU=works.map Wrk.cs) (fK:bV=order.map aN) (hz:Aut.sz (Aut.mk bJ bH day bq bK away aT aK full dB bT dD bA bX bY works order start)<=1048576):AP 6 [.agg [.sl cZ 16 bE,.sl cO 20 bD,.int .i64 day,.sl bZ 5 bf,.sl dh 4 bF,.int .i64 away,.sl bN 4 aV,.int .i64 aK,.sl fG 1 dw,.str dB,.int .i64 bT,.int .i64 dD,.int .i64 bA,.int .i64 bX,.int .i64 bY,.sl dU 7 bU,.sl dV 1 bV,.int .i64 start]] (λv:Aut=> .agg (v.cs true)) (Aut.mk bJ bH day bq bK away aT aK full dB bT dD bA bX bY works order start):=by
  refine ac Tryz.func6 (.aiQ _) λE K hE hK=>?_;have hz':=hz;simp only [Aut.sz] at hz'
  repeat' first
    |((first
   |refine dJ (acd (by assumption) (by omega)) (λ_ _=>?_)
   |refine dJ (QV (by assumption) (by omega)) (λ_ _=>?_)
   |refine dJ (MO (by assumption) (by omega)) (λ_ _=>?_)
   |refine dJ (QX (by assumption) (by omega)) (λ_ _=>?_)
   |refine dJ (JO (by assumption) (by omega)) (λ_ _=>?_)
   |refine dJ (H7 (by assumption) (by omega)) (λ_ _=>?_)
   |(refine aQ (ab8 _ _ _ _) (λ_ hy=>?_);subst hy)
   |(refine aQ (qG _ _) (λ_ hy=>?_);subst hy)
   |refine dJ (YT (by assumption) (by omega)) (λ_ _=>?_)
   |refine B0 ?_|refine B1 ?_ ?_)<;>intros<;>(try conv=>cbv))
  all_goals first
   |(refine hK _ ?_;subst_vars;rfl)
theorem LB [St] (day away aK:Int) (dB:ByteArray) (bT dD bA bX bY start:Int) (Dj aff lU:Int) (Zr:ByteArray) (Uy Zt Ik bX' bY' start':Int) {bE bD bf bF aV dw bU bV:List (List AV)} {cZ cO bZ dh bN fG dU dV dA dz cK:Bool} {bJ:List Aid} {bH:List Ntc} {bq:List Fwy} {bK:List Dgr} {aT:List Obv} {full order:List Int} {works:List Wrk} {Ez Ey BN EA yM UF NJ NK:List (List AV)} {Q7 Q5 MV Q8 JW acv Y2 Y3 TR TQ Qr:Bool} {P7:List Aid} {notices':List Ntc} {Jo:List Fwy} {Qa:List Dgr} {EM:List Obv} {afd order':List Int} {YL:List Wrk} (dH:bE=bJ.map (Aid.cs dA)) (dG:bD=bH.map (Ntc.cs dz)) (cB:bf=bq.map (Fwy.cs cK)) (dO:bF=bK.map Dgr.cs) (bS:aV=aT.map Obv.cs) (fI:dw=full.map aN) (fC:bU=works.map Wrk.cs) (fK:bV=order.map aN) (SA:Ez=P7.map (Aid.cs TR)) (Sz:Ey=notices'.map (Ntc.cs TQ)) (PK:BN=Jo.map (Fwy.cs Qr)) (SB:EA=Qa.map Dgr.cs) (Lr:yM=EM.map Obv.cs) (aeb:UF=afd.map aN) (aaY:NJ=YL.map Wrk.cs) (aaZ:NK=order'.map aN):AP 9 [.agg [.sl cZ 16 bE,.sl cO 20 bD,.int .i64 day,.sl bZ 5 bf,.sl dh 4 bF,.int .i64 away,.sl bN 4 aV,.int .i64 aK,.sl fG 1 dw,.str dB,.int .i64 bT,.int .i64 dD,.int .i64 bA,.int .i64 bX,.int .i64 bY,.sl dU 7 bU,.sl dV 1 bV,.int .i64 start],.agg [.sl Q7 16 Ez,.sl Q5 20 Ey,.int .i64 Dj,.sl MV 5 BN,.sl Q8 4 EA,.int .i64 aff,.sl JW 4 yM,.int .i64 lU,.sl acv 1 UF,.str Zr,.int .i64 Uy,.int .i64 Zt,.int .i64 Ik,.int .i64 bX',.int .i64 bY',.sl Y2 7 NJ,.sl Y3 1 NK,.int .i64 start']] AV.bool (bP ((Aut.mk bJ bH day bq bK away aT aK full dB bT dD bA bX bY works order start)=(Aut.mk P7 notices' Dj Jo Qa aff EM lU afd Zr Uy Zt Ik bX' bY' YL order' start'))):=by
  refine a0 Tryz.func9 λE K hE hK=>?_
  repeat' first
    |((first
   |refine aF (aen (by assumption) (by assumption)) (λ_=>?_) (λ_=>?_)
   |refine aF (Ta (by assumption) (by assumption)) (λ_=>?_) (λ_=>?_)
   |refine aF (P6 (by assumption) (by assumption)) (λ_=>?_) (λ_=>?_)
   |refine aF (Tf (by assumption) (by assumption)) (λ_=>?_) (λ_=>?_)
   |refine aF (Lu (by assumption) (by assumption)) (λ_=>?_) (λ_=>?_)
   |refine aF (Jp (by assumption) (by assumption)) (λ_=>?_) (λ_=>?_)
   |refine aF (ael _ _ _ _ _ _ _ _) (λ_=>?_) (λ_=>?_)
   |refine aF (qY _ _ _ _) (λ_=>?_) (λ_=>?_)
   |refine aF (aa9 (by assumption) (by assumption)) (λ_=>?_) (λ_=>?_)
   |refine B0 ?_|refine B1 ?_ ?_)<;>intros<;>(try conv=>cbv))
  all_goals (clear dH dG cB dO bS fI fC fK SA Sz PK SB Lr aeb aaY aaZ)
  all_goals first|(refine aH hK (aG.2 ?_);simp only [Aut.mk.injEq,Shp.mk.injEq,Pnt.mk.injEq] at *;simp_all;done)|(refine aH hK (ah.2 ?_);simp only [Aut.mk.injEq,Shp.mk.injEq,Pnt.mk.injEq] at *;simp_all;done)
def dZ (x y:Int):Prop:=(0<=x/\x<=200000)/\0<=y/\y<=200000
theorem jI [St] (x y:Int):AP 209 [.agg [.int .i64 x,.int .i64 y]] AV.bool (bP (dZ x y)):=by
  refine a0 Tryz.func209 λE K hE hK=>?_
  repeat' first
    |((first
   |refine aF (eU _ _ _) (λ_=>?_) (λ_=>?_)
   |refine B0 ?_|refine B1 ?_ ?_)<;>intros<;>(try conv=>cbv))
  all_goals (try clear hN)
  all_goals first
   |(omega)
   |(refine aH hK (aG.2 ?_);first|omega|grind [dZ])
   |(refine aH hK (ah.2 ?_);first|omega|(intro h;grind [dZ]))
   |(refine ⟨by omega,Up.succ (by assumption) ?_ (by assumption)⟩;grind [dZ])
   |(refine hK _ ?_;simp_all [gP,dZ];done)
   |(grind [dZ])
theorem xI [St] (x y:Int):AP 109 [.agg [.int .i64 x,.int .i64 y]] AV.bool (bP (dZ x y)):=by
  refine a0 Tryz.func109 λE K hE hK=>?_
  repeat' first
    |((first
   |refine aF (in_ _ _ _) (λ_=>?_) (λ_=>?_)
   |refine B0 ?_|refine B1 ?_ ?_)<;>intros<;>(try conv=>cbv))
  all_goals (try clear hN)
  all_goals first
   |(omega)
   |(refine aH hK (aG.2 ?_);first|omega|grind [dZ])
   |(refine aH hK (ah.2 ?_);first|omega|(intro h;grind [dZ]))
   |(refine ⟨by omega,Up.succ (by assumption) ?_ (by assumption)⟩;grind [dZ])
   |(refine hK _ ?_;simp_all [gP,dZ];done)
   |(grind [dZ])
theorem adS [St] (n:Int):AP 138 [.int .i64 n] AV.bool (bP (0<=n/\n<=20000)):=by
  refine a0 Tryz.func138 λE K hE hK=>?_
  repeat' first
    |((first
   |refine aF (eU _ _ _) (λ_=>?_) (λ_=>?_)
   |refine B0 ?_|refine B1 ?_ ?_)<;>intros<;>(try conv=>cbv))
  all_goals exact fz
def sqd (x y x' y':Int):Int:=(x - x')*(x - x')+(y - y')*(y - y')
theorem Ul (a:Int):0<=a*a:=by
 rcases nh 0 a with h|h
 ·exact dt h h
 ·have:=dt (a:= -a) (b:= -a) (by omega) (by omega);rwa [mj] at this
theorem J6 {x y x' y':Int} (h:dZ x y) (k:dZ x' y'):0<=sqd x y x' y'/\sqd x y x' y'<=80000000000:=by
 unfold dZ at*;unfold sqd;have h1:=ER (a:=x - x') (b:=x - x') (B:=200000) (by omega);have h2:=ER (a:=y - y') (b:=y - y') (B:=200000) (by omega);have h3:=Ul (x - x');have h4:=Ul (y - y');omega
theorem Nz {n:Int} (h:0<=n/\n<=80000000000):0<=oO n/\oO n<=300000:=by
 obtain ⟨h1,h2,_⟩:=w9 h.1;refine ⟨h1,?_⟩;rcases mc 300000 (oO n) with h3|h3
 ·have:=vC (a:=300000) (b:=oO n) (by omega) (by omega);omega
 ·exact h3
noncomputable def gL (x y x' y':Int):Int:=if dZ x y/\dZ x' y' then oO (sqd x y x' y') else 0
theorem Zd [St] (x y x' y':Int) (h:dZ x y) (k:dZ x' y'):AP 370 [.agg [.int .i64 x,.int .i64 y],.agg [.int .i64 x',.int .i64 y']] (AV.int .i64) (sqd x y x' y'):=by
  refine a0 Tryz.func370 λE K hE hK=>?_;unfold dZ at h k
  repeat' first
    |((first
   |refine mulC 200000 (by omega) (by omega) (λm hm _ _=>?_)
   |refine B0 ?_|refine B1 ?_ ?_)<;>intros<;>(try conv=>cbv))
  all_goals (refine hK _ ?_;subst_vars;rfl)
theorem R7 [St] (x y x' y':Int) (h:dZ x y) (k:dZ x' y'):AP 268 [.agg [.int .i64 x,.int .i64 y],.agg [.int .i64 x',.int .i64 y']] (AV.int .i64) (sqd x y x' y'):=by
  refine a0 Tryz.func268 λE K hE hK=>?_;unfold dZ at h k
  repeat' first
    |((first
   |refine mulC 200000 (by omega) (by omega) (λm hm _ _=>?_)
   |refine B0 ?_|refine B1 ?_ ?_)<;>intros<;>(try conv=>cbv))
  all_goals (refine hK _ ?_;subst_vars;rfl)
theorem acX {l:List Pnt} {i:Int} {x y:Int} (hv:l[i.toNat]? =some ⟨x,y⟩) (h:dZ x y):∀p,l[i.toNat]? =some p->dZ p.x p.y:=λp hp=>by rw [hv] at hp;cases hp;exact h
theorem xX [St] {rs:List (List AV)} {t:Bool} {l:List Pnt} (hl:rs=l.map Pnt.cs):AP 282 [.sl t 2 rs] AV.bool (bP (∀p∈l,dZ p.x p.y)):=by
  refine a0 Tryz.func282 λE K hE hK=>?_;refine bn hl λn hn hb=>?_;conv=>cbv
  refine cu [5,6] [7] (λ(i:Int)=>([(7,.int .i64 i)],[],n - i,0<=i/\Up (λj=>∀p,l[j]? =some p->dZ p.x p.y) i)) [] (0) (by dsimp only;exact ⟨by omega,.zero (by omega)⟩) λi hi Kn hN=>?_;obtain ⟨h0,hinv⟩:=hi
  repeat' first
    |(refine hN _ [] rfl ⟨?_,?_⟩)
    |((first
   |(refine bQ (R:=Pnt.cs) (by assumption) (by first|omega|(simp only [bo,dP];omega)) ?_;rintro ⟨⟩ _)
   |refine aF (jI _ _) (λ_=>?_) (λ_=>?_)
   |refine B0 ?_|refine B1 ?_ ?_)<;>intros<;>(try conv=>cbv))
  all_goals (try clear hN)
  all_goals first
   |omega
   |exact hinv.succ (acX (by assumption) (by assumption)) (by assumption)
   |(refine aH hK (aG.2 λp hp=>?_);obtain ⟨j,hj⟩:=ap hp;exact hinv j (by have:=(aa.1 hj).1;omega) p hj)
   |(refine aH hK (ah.2 λh=>?_);have:=h _ (ae (by assumption));contradiction)
theorem wh [St] (x y x' y':Int):AP 305 [.agg [.int .i64 x,.int .i64 y],.agg [.int .i64 x',.int .i64 y']] (AV.int .i64) (gL x y x' y'):=by
  refine a0 Tryz.func305 λE K hE hK=>?_;refine aF (xX (l:=[(⟨x,y⟩:Pnt),⟨x',y'⟩]) (by rfl)) (λh=>?_) (λh=>?_)<;>conv=>cbv
  ·have h1:=h ⟨x,y⟩ (by simp);have h2:=h ⟨x',y'⟩ (by simp);simp only at h1 h2;refine aQ (Zd _ _ _ _ h1 h2) λs hs=>?_;have hbd:=J6 h1 h2;(conv=>cbv);refine aQ (UA _ (by omega)) λr hr=>?_;(conv=>cbv);exact hK _ (by rw [gL,if_pos ⟨h1,h2⟩,hr,hs];rfl)
  ·exact hK _ (by rw [gL,if_neg (λk=>h λp hp=>by
     simp only [bk,eR,or_false] at hp;rcases hp with rfl|rfl
     ·exact k.1
     ·exact k.2)];rfl)
theorem qR [St] (x y x' y':Int) (h1:dZ x y) (h2:dZ x' y'):AP 267 [.agg [.int .i64 x,.int .i64 y],.agg [.int .i64 x',.int .i64 y']] (AV.int .i64) (gL x y x' y'):=by
 refine a0 Tryz.func267 λE K hE hK=>?_;refine aQ (R7 _ _ _ _ h1 h2) λs hs=>?_;have hbd:=J6 h1 h2;conv=>cbv
 refine aQ (O1 _ (by omega)) λr hr=>?_;conv=>cbv
 exact hK _ (by rw [gL,if_pos ⟨h1,h2⟩,hr,hs];rfl)
theorem F8 (x y x' y':Int):0<=gL x y x' y'/\gL x y x' y'<=300000:=by
 unfold gL;split
 ·rename_i h;exact Nz (J6 h.1 h.2)
 ·omega
end Go.Proofs.YtnlhnideeaobpaaGreatDoor
