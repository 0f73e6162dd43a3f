/- Contracts: characters: small functions, groups, signs; Contracts: the times of a character; Contracts: valid characters. -/
import Derived.Test.YtnlhnideeaobpaaGreatDoorQj
namespace Go.Proofs.YtnlhnideeaobpaaGreatDoor
open Go Go.RowKit Classical
set_option maxRecDepth 100000
set_option maxHeartbeats 2000000
set_option linter.unusedVariables false
set_option linter.unusedSimpArgs false
def three (p:Int×Int×Int):AV:= .tup [.int .i64 p.1,.int .i64 p.2.1,.int .i64 p.2.2]
theorem NoB.three (p:Int×Int×Int):NoB (three p):= .nH (.int _ _) (.nH (.int _ _) (.nH (.int _ _) .CY))
theorem sQ [St] {E:Env} {np:Nat} {P:Program} [hE:SE E np P] {f:FuncId} {args:List AV} {x:Int×Int×Int} {K:AV->Prop} (h:AC P f args three x) (hk:∀a b c,a=x.1->b=x.2.1->c=x.2.2->K (.tup [.int .i64 a,.int .i64 b,.int .i64 c])):E.call f args K:=
 aQ h λy hy=>hk _ _ _ (by rw [hy]) (by rw [hy]) (by rw [hy])
theorem aau [St] (n:Int):AP 422 [.int .u8 n] (AV.int .i64) (rk n):=by
  refine a0 Tryz.func422 λE K hE hK=>?_
  repeat' first
    |((first
   |refine B0 ?_|refine B1 ?_ ?_)<;>intros<;>(try conv=>cbv))
  all_goals first
   |(refine hK _ ?_;show AV.int _ _=AV.int _ _;congr 1;unfold rk;repeat' split<;>omega)
theorem aeV (c:Int):0<=rk c/\rk c<=4:=by unfold rk;repeat' split<;>omega
theorem LM {s:ByteArray} {i a b:Int} (h0:0<=i) (ha:a=chr s i.toNat) (h1:rk a≠0) (h2:i<=0∨(b=chr s (i - 1).toNat/\rk b<rk a)):ab0 s i.toNat:=by
 subst ha;refine ⟨h1,λhp=>?_⟩;rcases h2 with h2|⟨rfl,h2⟩
 ·omega
 ·rw [show i.toNat - 1=(i - 1).toNat by omega];exact h2
theorem R6 [St] (s:ByteArray):AP 387 [.str s] AV.bool (bP (JI s)):=by
  refine a0 Tryz.func387 λE K hE hK=>?_;refine cu [0] [3] (λ(i:Int)=>([(3,.int .i64 i)],[],s.size - i,(0<=i/\i<=s.size)/\Up (ab0 s) i)) [] (0) (by dsimp only;exact ⟨by omega,.zero (by omega)⟩) λi hi Kn hN=>?_;obtain ⟨h0,hinv⟩:=hi;refine BK λn hn hb=>?_;conv=>cbv
  refine ltI (λhlt=>?_) (λhge=>?_)<;>conv=>cbv
  ·refine wH (by omega) λa ha ha1 ha2=>?_;replace ha:a=chr s i.toNat:=ha;conv=>cbv
   repeat' first
     |(refine hN _ [] rfl ⟨?_,?_⟩)
     |((first
    |refine aQ (aau _) (λy hy=>?_)
    |(refine wH (by omega) (λb hb0 _ _=>?_);(first|(replace hb0:b=chr s i.toNat:=hb0;(have hb1:a=b:=ha.trans hb0.symm);clear hb0;subst hb1)|(replace hb0:b=chr s q.toNat:=hb0)))
    |refine eX (by omega) (λq hq=>?_)
    |refine B0 ?_|refine B1 ?_ ?_)<;>intros<;>(try conv=>cbv))
   all_goals (try clear hN)
   all_goals first
    |omega
    |(refine hinv.succ (LM (b:=0) h0.1 ha (by omega) (.inl (by omega))) (by assumption))
    |(refine hinv.succ (LM h0.1 ha (by omega) (.inr ⟨hq ▸ hb0,by omega⟩)) (by assumption))
    |(refine aH hK (ah.2 λh=>?_);have:=(h.1 i.toNat (by omega)).1;rw [←ha] at this;omega)
    |(refine aH hK (ah.2 λh=>?_);have:=(h.1 i.toNat (by omega)).2 (by omega);rw [←ha,show i.toNat - 1=(i - 1).toNat by omega,←hq,←hb0] at this;omega)
  ·skip
   repeat' first
     |((first
    |refine B0 ?_|refine B1 ?_ ?_)<;>intros<;>(try conv=>cbv))
   all_goals (try clear hN)
   all_goals first
    |(refine aH hK (aG.2 ⟨hinv.all (by omega),by omega,by omega⟩))
    |(refine aH hK (ah.2 λh=>?_);have:=h.2;omega)
theorem wF [St] (s:ByteArray):AP 142 [.str s] AV.bool (bP (JI s)):=by
  refine a0 Tryz.func142 λE K hE hK=>?_;refine bO [0] [4,3] (λ(i last:Int)=>([(4,.int .i64 i),(3,.int .i64 last)],[],s.size - i,(0<=i/\i<=s.size)/\Up (ab0 s) i/\(i<=0/\last= -1∨0<i/\last=rk (chr s (i - 1).toNat) - 1))) [] ((0, -1)) (by dsimp only;exact ⟨by omega,.zero (by omega),by omega⟩) λi last hi Kn hN=>?_;obtain ⟨h0,hinv,hla⟩:=hi;refine BK λn hn hb=>?_;conv=>cbv
  refine ltI (λhlt=>?_) (λhge=>?_)<;>conv=>cbv
  ·refine wH (by omega) λa ha ha1 ha2=>?_;replace ha:a=chr s i.toNat:=ha;(conv=>cbv);refine aQ (Sm qC a) λy hy=>?_;rw [af4 ⟨ha1,ha2⟩] at hy;(conv=>cbv);have hrk:=aeV a;have ajF:=aeV (chr s (i - 1).toNat)
   repeat' first
     |(refine hN _ _ [] rfl ⟨?_,?_,?_⟩)
     |((first
    |refine B0 ?_|refine B1 ?_ ?_)<;>intros<;>(try conv=>cbv))
   all_goals (try clear hN)
   all_goals first
    |omega
    |(refine hinv.succ (LM (b:=chr s (i - 1).toNat) h0.1 ha (by omega) ?_) (by assumption);rcases hla with hla|hla;exact .inl (by omega);exact .inr ⟨rfl,by omega⟩)
    |(right;rename_i hi1;rw [hi1,show (i+1 - 1).toNat=i.toNat by omega,←ha];omega)
    |(refine aH hK (ah.2 λh=>?_);have h1:=h.1 i.toNat (by omega);unfold ab0 at h1;rw [←ha] at h1;rcases hla with hla|hla;omega;(have h2:=h1.2 (by omega));rw [show i.toNat - 1=(i - 1).toNat by omega] at h2;omega)
  ·skip
   repeat' first
     |((first
    |refine aF (eU _ _ _) (λ_=>?_) (λ_=>?_)
    |refine B0 ?_|refine B1 ?_ ?_)<;>intros<;>(try conv=>cbv))
   all_goals (try clear hN)
   all_goals first
    |(refine aH hK (aG.2 ⟨hinv.all (by omega),by omega,by omega⟩))
    |(refine aH hK (ah.2 λh=>?_);have:=h.2;omega)
theorem rX {l:List Int} {n:Int} (hn:n=l.length):n=0↔l=[]:=⟨λh=>cm (by omega),λh=>by rw [h] at hn;simpa using hn⟩
theorem KE {l:List Int} {n v:Int} (hn:n=l.length) (h1:n=1) (hv:l[(0:Int).toNat]? =some v):l=[v]:=by
 match l,hv,hn with
 |[a],hv,_=>simp at hv;rw [hv]
 |[],_,hn=>simp at hn;omega
 |_::_::_,_,hn=>simp at hn;omega
theorem Ug:tL≠noS:=by
 intro h;have:=congrArg ByteArray.size h;exact absurd this (by decide)
theorem aed:GR []:=⟨by simp,by simp,by simp,by simp⟩
theorem aec {x:Int} (h:2<=x/\x<=9):GR [x]:=by
 refine ⟨λy hy=>?_,by simp,?_,λh1=>?_⟩
 ·rw [cg] at hy;omega
 ·simp only [fS,List.sum_nil];omega
 ·simp only [List.cons.injEq] at h1;omega
theorem aee {l:List Int} (h:GR l) (h1:l.length<=1):l=[]∨∃x,l=[x]/\2<=x/\x<=9:=by
 cases l with
 |nil=>exact .inl rfl
 | cons x m=>
   cases m with
   | nil=>
     refine .inr ⟨x,rfl,?_⟩;have h2:=h.1 x (ep ..);have h3:=h.2.2.2;by_cases e:x=1
     ·subst e;exact absurd rfl h3
     ·omega
   |cons y m=>simp only [bi] at h1;omega
theorem Vq [St] {rs rs':List (List AV)} {t t':Bool} {l m:List Int} (hl:rs=l.map aN) (hm:rs'=m.map aN):AP 80 [.sl t 1 rs,.sl t' 1 rs'] AV.bool (bP (l=m)):=by
  refine a0 Tryz.func80 λE K hE hK=>?_;refine bn hl λn hn hb=>?_;conv=>cbv
  refine bn hm λn' hn' hb'=>?_;conv=>cbv
  refine eqI (λhe=>?_) (λhe=>?_)<;>conv=>cbv
  ·skip
   repeat' first
     |((refine cu [0,1,12] [13] (λ(i:Int)=>([(13,.int .i64 i)],[],l.length - i,0<=i/\Up (λj=>l[j]? =m[j]?) i)) [] (0) (by dsimp only;exact ⟨by omega,.zero (by omega)⟩) λi hi2 Kn2 hN2=>?_);obtain ⟨h0,hinv⟩:=hi2)
     |(refine hN2 _ [] rfl ⟨?_,?_⟩)
     |((first
    |refine bQ (R:=aN) (by assumption) (by omega) (λ_ _=>?_)
    |refine B0 ?_|refine B1 ?_ ?_)<;>intros<;>(try conv=>cbv))
   all_goals first
    |omega
    |(refine hinv.succ ?_ (by assumption);clear hN2;simp_all [gJ];done)
    |(refine aH hK (ah.2 λh=>?_);clear hN2;simp_all [gJ];done)
    |exact aH hK (aG.2 (eP (by omega) hinv (by omega)))
  ·refine aH hK (ah.2 λh=>?_);subst h;omega
theorem aa3 {l:List Int} {i:Int} (h:Up (λj=>∀x,l[j]? =some x->1<=x/\x<=9) i) (hi:(l.length:Int)<=i):∀x∈l,1<=x/\x<=9:=λx hx=>by
 obtain ⟨j,hj⟩:=ap hx;exact h j (by have:=(aa.1 hj).1;omega) x hj
theorem aaD [St] {rs:List (List AV)} {t:Bool} {l:List Int} (hl:rs=l.map aN):AP 217 [.sl t 1 rs] AV.bool (bP (GR l)):=by
  refine a0 Tryz.func217 λE K hE hK=>?_;refine bn hl λn hn hb=>?_;conv=>cbv
  refine bO [0,6,7] [8,3] (λ(i total:Int)=>([(8,.int .i64 i),(3,.int .i64 total)],[],n - i,(0<=i/\i<=l.length)/\Up (λj=>∀x,l[j]? =some x->1<=x/\x<=9) i/\(l.length<=4->total=yw l i/\0<=total/\total<=9*i))) [] ((0,0)) (by dsimp only;exact ⟨by omega,.zero (by omega),λ_=>by rw [vw (by omega)];omega⟩) λi total hi Kn hN=>?_;obtain ⟨h0,hinv,htot⟩:=hi
  repeat' first
    |(refine hN _ _ [] rfl ⟨?_,?_,?_⟩)
    |((first
   |(refine bQ (R:=aN) hl (by omega) (λv hv=>?_);have hsum:=vB h0.1 hv)
   |(refine aeN (λaiF aaN=>?_);(try conv=>cbv);refine iH (by omega) (λi1 hi1=>?_))
   |refine aF (eU _ _ _) (λ_=>?_) (λ_=>?_)
   |refine aF (F4 _ _) (λ_=>?_) (λ_=>?_)
   |refine aF (Vq (m:=[1]) hl (by rfl)) (λ_=>?_) (λ_=>?_)
   |refine B0 ?_|refine B1 ?_ ?_)<;>intros<;>(try conv=>cbv))
  all_goals (try clear hN)
  all_goals first
   |omega
   |(refine hinv.succ (λx hx=>?_) (by assumption);rw [hv] at hx;cases hx;assumption)
   |(intro h4;obtain ⟨g1,g2⟩:=htot h4;rw [eA _ ⟨by omega,by omega⟩] at aaN;rw [hi1,hsum];omega)
   |(refine aH hK (ah.2 λh=>?_);have:=h.1 _ (ae hv);contradiction)
   | (have hall:=aa3 hinv (by omega);first
    |(refine aH hK (aG.2 ⟨hall,by omega,?_,by assumption⟩);have h2:=htot (by omega);have h3:=tO (l:=l) (i:=i) (by omega);omega)
    |(refine aH hK (ah.2 λh=>?_);exact h.2.2.2 (by assumption))
    |(refine aH hK (ah.2 λh=>?_);have h1:=h.2.1;have h4:=h.2.2.1;have h2:=htot (by omega);have h3:=tO (l:=l) (i:=i) (by omega);omega))
theorem adK [St] {rs:List (List AV)} {t:Bool} {l:List Int} (hl:rs=l.map aN) (hg:∀x∈l,1<=x/\x<=9) (h4:l.length<=4):AP 423 [.sl t 1 rs] (AV.int .i64) (if l=[] then 1 else l.sum):=by
  refine a0 Tryz.func423 λE K hE hK=>?_;refine bn hl λn hn hb=>?_;conv=>cbv
  refine eqI (λhe=>?_) (λhe=>?_)<;>conv=>cbv
  ·exact hK _ (by rw [if_pos (cm (by omega))];rfl)
  ·(have hne:l≠[]:=by rintro rfl;simp at hn;omega);refine bO [0] [4,3] (λ(i s:Int)=>([(4,.int .i64 i),(3,.int .i64 s)],[],l.length - i,(0<=i/\i<=l.length)/\s=yw l i/\0<=s/\s<=9*i)) [] ((0,0)) (by dsimp only;exact ⟨by omega,by rw [vw (by omega)],by omega⟩) λi s hi Kn hN=>?_;obtain ⟨h0,hs,hs2⟩:=hi
   repeat' first
     |(refine hN _ _ [] rfl ⟨?_,?_,?_⟩)
     |((first
    |(refine bQ (R:=aN) hl (by omega) (λv hv=>?_);have hsum:=vB h0.1 hv;have hv2:=hg v (ae hv))
    |refine B0 ?_|refine B1 ?_ ?_)<;>intros<;>(try conv=>cbv))
   all_goals (try clear hN)
   all_goals first
    |omega
    |(rename_i hi1;rw [hi1,hsum];omega)
    |(refine hK _ ?_;rw [if_neg hne,←tO (l:=l) (i:=i) (by omega),hs];rfl)
theorem XD [St] {rs:List (List AV)} {t:Bool} {l:List Int} (hl:rs=l.map aN):AP 388 [.sl t 1 rs] AV.bool (bP (GR l)):=by
  refine a0 Tryz.func388 λE K hE hK=>?_;refine cu [0] [3] (λ(i:Int)=>([(3,.int .i64 i)],[],l.length - i,(0<=i/\i<=l.length)/\Up (λj=>∀x,l[j]? =some x->1<=x/\x<=9) i)) [] (0) (by dsimp only;exact ⟨by omega,.zero (by omega)⟩) λi hi Kn hN=>?_;obtain ⟨h0,hinv⟩:=hi;refine bn hl λn hn hb=>?_;conv=>cbv
  refine ltI (λhlt=>?_) (λhge=>?_)<;>conv=>cbv
  ·skip
   repeat' first
     |(refine hN _ [] rfl ⟨?_,?_⟩)
     |((first
    |refine bQ (R:=aN) hl (by omega) (λv hv=>?_)
    |refine aF (in_ _ _ _) (λ_=>?_) (λ_=>?_)
    |refine B0 ?_|refine B1 ?_ ?_)<;>intros<;>(try conv=>cbv))
   all_goals (try clear hN)
   all_goals first
    |omega
    |(refine hinv.succ (λx hx=>?_) (by assumption);rw [hv] at hx;cases hx;assumption)
    |(refine aH hK (ah.2 λh=>?_);have:=h.1 _ (ae hv);contradiction)
  ·have hall:=aa3 hinv (by omega)
   repeat' first
     |((first
    |refine bQ (R:=aN) hl (by omega) (λv hv=>?_)
    |refine aQ (adK hl hall (by omega)) (λs hs=>?_)
    |refine B0 ?_|refine B1 ?_ ?_)<;>intros<;>(try conv=>cbv))
   all_goals (try clear hN)
   all_goals first
    | (have hsum:l.sum<=12:=(by
      by_cases h:l=[]
      ·subst h;simp
      ·rw [if_neg h] at hs;omega)
       refine aH hK (aG.2 ⟨hall,by omega,hsum,λh1=>?_⟩);have h2:=congrArg List.length h1;simp only [bi,cQ] at h2
       first|omega|(rw [h1] at hv;simp at hv;omega))
    |(refine aH hK (ah.2 λh=>?_);have:=h.2.1;omega)
    |(refine aH hK (ah.2 λh=>h.2.2.2 ?_);rw [KE (n:=(l.length:Int)) rfl (by omega) hv];subst_vars;rfl)
    |(refine aH hK (ah.2 λh=>?_);have h3:=h.2.2.1;split at hs<;>omega)
theorem Uj {s:ByteArray} (h:s.size=1) (c:UInt8):(strLt s ⟨#[c]⟩↔chr s 0<c.toNat)/\(strLt ⟨#[c]⟩ s↔(c.toNat:Int)<chr s 0):=by
 have e:=Un h;have hc:chr s 0=((s.data.getD 0 0).toNat:Int):=rfl;generalize s.data.getD 0 0=b at e hc;subst e;rw [hc];have t:∀x:UInt8,(⟨#[x]⟩:ByteArray).toList=[x]:=λx=>by rw [jq]
 unfold strLt;rw [t,t];simp only [Op.bytesLess,ij,decide_eq_true_iff,gg,eV,and_false,or_false,UInt8.lt_iff_toNat_lt];omega
theorem Jt {t:ByteArray} (h:vk t) {i:Int} {v:ByteArray} (hi:i=chr t 0 - 65) (hv:codes[i.toNat]? =some v):v=Ag t:=Zi hi hv
theorem M9 [St] (s:ByteArray):AP 218 [.str s] AV.str (if vk s then Ag s else noS):=by
 refine a0 Tryz.func218 λE K hE hK=>?_;have h26:=Bn;refine BK λn hn hb=>?_;conv=>cbv
 refine eqI (λh1=>?_) (λh1=>?_)<;>conv=>cbv
 ·(have hs1:s.size=1:=by omega);have hA:=(Uj hs1 65).1;have hZ:=(Uj hs1 90).2;have e65:(65:UInt8).toNat=65:=rfl;have e90:(90:UInt8).toNat=90:=rfl;rw [e65] at hA;rw [e90] at hZ;refine afv (λhlt=>?_) (λhlt=>?_)<;>conv=>cbv
  ·exact hK _ (by rw [if_neg (λh=>by have h2:=hA.1 hlt;have h3:=h.2;omega)];rfl)
  ·refine afv (λhgt=>?_) (λhgt=>?_)<;>conv=>cbv
   ·exact hK _ (by rw [if_neg (λh=>by have h2:=hZ.1 hgt;have h3:=h.2;omega)];rfl)
   ·(have hok:vk s:=⟨hs1,by have:=mt hA.2 hlt;omega,by have:=mt hZ.2 hgt;omega⟩);have hok2:=hok.2;refine wH (by omega) λa ha ha1 ha2=>?_;replace ha:a=chr s 0:=ha;(conv=>cbv);refine acD λb hb2=>?_;rw [m7 _ ⟨by omega,by omega⟩] at hb2;(conv=>cbv);refine bQ (R:=iQ) (l:=codes) (by rfl) (by omega) λv hv=>?_;(conv=>cbv);exact hK _ (by rw [if_pos hok,←Jt hok (by omega) hv];rfl)
 ·exact hK _ (by rw [if_neg (λh=>by have:=h.1;omega)];rfl)
theorem yI [St] (k:Int) (h:k=2∨k=4∨k=5∨k=6∨k=7∨k=8):AP 220 [.int .i64 k] three (lD k,xR k,qL k):=by
  refine ac Tryz.func220 (.three _) λE K hE hK=>?_
  repeat' first
    |((first
   |refine B0 ?_|refine B1 ?_ ?_)<;>intros<;>(try conv=>cbv))
  all_goals first
   |omega
   |(exact hK _ (by subst_vars;rfl))
   | (have e:k=8:=by omega
      subst e;exact hK _ rfl)
   |trace_state
theorem aaA [St] (k:Int):AP 219 [.int .i64 k] AV.bool (bP (k=6∨k=7)):=by
  refine a0 Tryz.func219 λE K hE hK=>?_
  repeat' first
    |((first
   |refine B0 ?_|refine B1 ?_ ?_)<;>intros<;>(try conv=>cbv))
  all_goals exact fz
theorem I8 [St] (k:Int):AP 425 [.int .i64 k] (AV.int .i64) (lD k):=by
  refine a0 Tryz.func425 λE K hE hK=>?_
  repeat' first
    |((first
   |refine B0 ?_|refine B1 ?_ ?_)<;>intros<;>(try conv=>cbv))
  all_goals (refine hK _ ?_;show AV.int _ _=AV.int _ _;congr 1;unfold lD;repeat' split<;>omega)
theorem DR [St] (k:Int):AP 401 [.int .i64 k] (AV.int .i64) (xR k):=by
  refine a0 Tryz.func401 λE K hE hK=>?_
  repeat' first
    |((first
   |refine B0 ?_|refine B1 ?_ ?_)<;>intros<;>(try conv=>cbv))
  all_goals (refine hK _ ?_;show AV.int _ _=AV.int _ _;congr 1;unfold xR;repeat' split<;>omega)
theorem aav [St] (k:Int):AP 386 [.int .i64 k] AV.bool (bP (1<=k/\k<=8)):=by
  refine a0 Tryz.func386 λE K hE hK=>?_
  repeat' first
    |((first
   |refine aF (in_ _ _ _) (λ_=>?_) (λ_=>?_)
   |refine B0 ?_|refine B1 ?_ ?_)<;>intros<;>(try conv=>cbv))
  all_goals exact fz
theorem Y8 [St] {rs:List (List AV)} {t:Bool} {l:List Int} (hl:rs=l.map aN) (hg:∀x∈l,0<=x/\x<=100) (h4:l.length<=1000000):AP 221 [.sl t 1 rs] (AV.int .i64) l.sum:=by
  refine a0 Tryz.func221 λE K hE hK=>?_;have hbd:=Ui hg;refine bn hl λn hn hb=>?_;conv=>cbv
  refine bO [6,7] [8,3] (λ(i s:Int)=>([(8,.int .i64 i),(3,.int .i64 s)],[],l.length - i,(0<=i/\i<=l.length)/\s=yw l i)) [] ((0,0)) (by dsimp only;exact ⟨by omega,by rw [vw (by omega)]⟩) λi s hi Kn hN=>?_;obtain ⟨h0,hs⟩:=hi;have hb1:=hbd i
  repeat' first
    |(refine hN _ _ [] rfl ⟨?_,?_⟩)
    |((first
   |(refine bQ (R:=aN) hl (by omega) (λv hv=>?_);have hsum:=vB h0.1 hv;have hb2:=hbd (i+1))
   |refine B0 ?_|refine B1 ?_ ?_)<;>intros<;>(try conv=>cbv))
  all_goals (try clear hN)
  all_goals first
   |omega
   |(rename_i hi1;rw [hi1,hsum];omega)
   |(refine hK _ ?_;rw [←tO (l:=l) (i:=i) (by omega),hs];rfl)
theorem I7 [St] {rs:List (List AV)} {t:Bool} {l:List Int} (hl:rs=l.map aN) (hg:∀x∈l,0<=x/\x<=100) (h4:l.length<=1000000):AP 389 [.sl t 1 rs] (AV.int .i64) l.sum:=by
  refine a0 Tryz.func389 λE K hE hK=>?_;have hbd:=Ui hg;refine bO [0] [4,3] (λ(i s:Int)=>([(4,.int .i64 i),(3,.int .i64 s)],[],l.length - i,(0<=i/\i<=l.length)/\s=yw l i)) [] ((0,0)) (by dsimp only;exact ⟨by omega,by rw [vw (by omega)]⟩) λi s hi Kn hN=>?_;obtain ⟨h0,hs⟩:=hi;have hb1:=hbd i
  repeat' first
    |(refine hN _ _ [] rfl ⟨?_,?_⟩)
    |((first
   |(refine bQ (R:=aN) hl (by omega) (λv hv=>?_);have hsum:=vB h0.1 hv;have hb2:=hbd (i+1))
   |refine B0 ?_|refine B1 ?_ ?_)<;>intros<;>(try conv=>cbv))
  all_goals (try clear hN)
  all_goals first
   |omega
   |(rename_i hi1;rw [hi1,hsum];omega)
   |(refine hK _ ?_;rw [←tO (l:=l) (i:=i) (by omega),hs];rfl)
theorem AR [St] (k p:Int) (le co:ByteArray) {rs:List (List AV)} {t:Bool} {l:List Int} (hl:rs=l.map aN):AP 144 [.agg [.int .i64 k,.sl t 1 rs,.str le,.str co,.int .i64 p]] AV.bool (bP (jE k l)):=by
  refine a0 Tryz.func144 λE K hE hK=>?_
  repeat' first
    |((first
   |refine aF (aaA _) (λ_=>?_) (λ_=>?_)
   |refine B0 ?_|refine B1 ?_ ?_)<;>intros<;>(try conv=>cbv))
  all_goals (have hz:l=[]↔l.length=0:=⟨λh=>by rw [h];rfl,cm⟩)
  all_goals first
   |(refine aH hK (aG.2 ?_);unfold jE;rw [hz];omega)
   |(refine aH hK (ah.2 ?_);unfold jE;rw [hz];omega)
theorem xH [St] (k p:Int) (le co:ByteArray) {rs:List (List AV)} {t:Bool} {l:List Int} (hl:rs=l.map aN):AP 325 [.pp [.int .i64 k,.sl t 1 rs,.str le,.str co,.int .i64 p]] AV.bool (bP (jE k l)):=by
  refine a0 Tryz.func325 λE K hE hK=>?_
  repeat' first
    |((first
   |refine B0 ?_|refine B1 ?_ ?_)<;>intros<;>(try conv=>cbv))
  all_goals (have hz:l=[]↔l.length=0:=⟨λh=>by rw [h];rfl,cm⟩)
  all_goals first
   |(refine aH hK (aG.2 ?_);unfold jE;rw [hz];omega)
   |(refine aH hK (ah.2 ?_);unfold jE;rw [hz];omega)
set_option maxHeartbeats 4000000
theorem aik [St] (k p:Int) (le co:ByteArray) {rs:List (List AV)} {t:Bool} {l:List Int} (hl:rs=l.map aN):AP 143 [.agg [.int .i64 k,.sl t 1 rs,.str le,.str co,.int .i64 p]] AV.bool (bP (dS k l le)):=by
  refine a0 Tryz.func143 λE K hE hK=>?_
  repeat' first
    |((first
   |refine aQ (M9 le) (λy hy=>?_)
   |(refine bn hl (λn hn hb=>?_);(have hnl:=rX hn))
   |(refine bQ (R:=aN) hl (by omega) (λv hv=>?_);(have hv1:=KE (by assumption) (by omega) hv))
   |refine aF (aaD hl) (λ_=>?_) (λ_=>?_)
   |refine aF (eU _ _ _) (λ_=>?_) (λ_=>?_)
   |refine aF (Vq (m:=[6]) hl (by rfl)) (λ_=>?_) (λ_=>?_)
   |refine B0 ?_|refine B1 ?_ ?_)<;>intros<;>(try conv=>cbv))
  all_goals first
   | (refine aH hK (aG.2 ?_);unfold dS;first
    |exact .inl ⟨by omega,hnl.1 (by assumption),by assumption⟩
    |exact .inr (.inl ⟨by omega,by assumption,by assumption⟩)
    |exact .inr (.inr (.inl ⟨by omega,.inl ⟨by assumption,.inl (hnl.1 (by assumption))⟩⟩))
    |exact .inr (.inr (.inl ⟨by omega,.inl ⟨by assumption,.inr ⟨v,hv1,by omega⟩⟩⟩))
    |exact .inr (.inr (.inl ⟨by omega,.inr ⟨by assumption,by assumption⟩⟩))
    |exact .inr (.inr (.inr ⟨by omega,by (split at hy;assumption;contradiction),hnl.1 (by assumption)⟩)))
   | (refine aH hK (ah.2 λh=>?_);rcases h with ⟨g1,g2,g3⟩|⟨g1,g2,g3⟩|⟨g1,⟨g2,g3|⟨x,g3,g4⟩⟩|⟨g2,g3⟩⟩|⟨g1,g2,g3⟩<;>first
    |omega
    |contradiction
    |exact absurd (hnl.2 g2) (by assumption)
    |exact absurd (hnl.2 g3) (by assumption)
    |(have:=hnl.2 g3;omega)
    |exact Ug (g2.symm.trans (by assumption))
    |exact Ug ((show le=tL by assumption).symm.trans g2)
    |(rw [g3] at hv1;cases hv1;omega)
    |(rw [g3] at hn;simp only [bi,cQ] at hn;omega)
    |(rw [if_pos g2] at hy;exact (o7 _ (qI g2)).1 (by rw [←hy];assumption)))
theorem Xz [St] (k p:Int) (le co:ByteArray) {rs:List (List AV)} {t:Bool} {l:List Int} (hl:rs=l.map aN):AP 324 [.pp [.int .i64 k,.sl t 1 rs,.str le,.str co,.int .i64 p]] AV.bool (bP (JI co/\dS k l le)):=by
  refine a0 Tryz.func324 λE K hE hK=>?_
  repeat' first
    |((first
   |(refine bn hl (λn hn hb=>?_);(have hnl:=rX hn))
   |(refine bQ (R:=aN) hl (by omega) (λv hv=>?_);(have hv1:=KE (by assumption) (by omega) hv))
   |(refine wH (by omega) (λa ha _ _=>?_);(replace ha:a=chr le 0:=ha))
   |refine aF (aav _) (λ_=>?_) (λ_=>?_)
   |refine aF (R6 _) (λ_=>?_) (λ_=>?_)
   |refine aF (XD hl) (λ_=>?_) (λ_=>?_)
   |refine aF (in_ _ _ _) (λ_=>?_) (λ_=>?_)
   |refine B0 ?_|refine B1 ?_ ?_)<;>intros<;>(try conv=>cbv))
  all_goals first
   | (refine aH hK (aG.2 ⟨by assumption,?_⟩);unfold dS;first
    |exact .inl ⟨by omega,hnl.1 (by assumption),by assumption⟩
    |exact .inr (.inl ⟨by omega,by assumption,by assumption⟩)
    |exact .inr (.inr (.inl ⟨by omega,.inr ⟨by assumption,by rw [hv1,show v=6 by omega]⟩⟩))
    |exact .inr (.inr (.inl ⟨by omega,.inl ⟨by assumption,aee (by assumption) (by omega)⟩⟩))
    |exact .inr (.inr (.inr ⟨by omega,⟨by omega,by omega,by omega⟩,hnl.1 (by assumption)⟩)))
   | (refine aH hK (ah.2 λ⟨h0,h⟩=>?_);have hkk:=h.kind;rcases h with ⟨g1,g2,g3⟩|⟨g1,g2,g3⟩|⟨g1,⟨g2,g3|⟨x,g3,g4⟩⟩|⟨g2,g3⟩⟩|⟨g1,g2,g3⟩<;>first
    |omega
    |contradiction
    |exact absurd (hnl.2 g2) (by assumption)
    |exact absurd (hnl.2 g3) (by assumption)
    |(have:=hnl.2 g3;omega)
    |exact Ug (g2.symm.trans (by assumption))
    |exact Ug ((show le=tL by assumption).symm.trans g2)
    |(have:=g2.1;have:=g2.2;omega)
    |(rw [g3] at hv1;cases hv1;contradiction)
    |(rw [g3] at hn;simp only [bi,cQ] at hn;omega)
    |(refine absurd ?_ (show ¬GR l by assumption);rw [g3];first|exact aed|exact aec g4))
set_option maxHeartbeats 2000000
theorem Yr {s:ByteArray} (h:s∈codes):∀p,p<s.size->((Utf8.decode s p).1:Int)=chr s p/\(Utf8.decode s p).2=1:=by
 have h2:∀s∈codes,∀p:Fin 4,p.1<s.size->((Utf8.decode s p.1).1:Int)=chr s p.1/\(Utf8.decode s p.1).2=1:=by decide +kernel
 exact λp hp=>h2 s h ⟨p,by have:=(o7 s h).2.1;omega⟩ hp
theorem IQ {s:ByteArray} {q n:Nat} {x:Int} (h:q=0) (hn:n=q+1) (hx:x=if chr s q=45 then 15 else 5):rY s q++[x]=rY s n:=by
 subst h hn hx;rfl
theorem Oe {s:ByteArray} {q n:Nat} {x g:Int} (h:0<q) (hg:g=5) (hn:n=q+1) (hx:x=if chr s q=45 then 15 else 5):(rY s q++[g])++[x]=rY s n:=by
 subst hn hx hg;conv=>rhs;unfold rY
 rw [if_neg (show ¬q=0 by omega),cT]
theorem vU {f g:Int} {A:List Int} {b:Bool} {j n:Int} (h:0<j) (hn:n=j+1):((A++gB f g b j.toNat)++[g])++[f]=A++gB f g b n.toNat:=by
 rw [hn,show (j+1).toNat=j.toNat+1 by omega];conv=>rhs;unfold gB
 rw [if_neg (show ¬j.toNat=0 by omega)];simp only [cT]
theorem vV {f g x:Int} {A:List Int} {i:Int} {j n:Int} (h:j=0) (hi:0<i) (hn:n=j+1) (hx:x=g+20):((A++gB f g (i.toNat == 0) j.toNat)++[x])++[f]=A++gB f g (i.toNat == 0) n.toNat:=by
 subst h hn hx;have e:(i.toNat == 0)=false:=by simp;omega
 rw [e];show ((A++[])++[g+20])++[f]=A++([]++([g+20]++[f]));simp
theorem pV {f g:Int} {A:List Int} {i:Int} {j n:Int} (h:j=0) (hi:i=0) (hn:n=j+1):(A++gB f g (i.toNat == 0) j.toNat)++[f]=A++gB f g (i.toNat == 0) n.toNat:=by
 subst h hi hn;show (A++[])++[f]=A++([]++([]++[f]));simp
theorem sD {f g:Int} {A:List Int} {b:Bool}:A=A++gB f g b (0:Int).toNat:=by
 show A=A++[];simp
theorem rV {f g v:Int} {l:List Int} {i n j:Int} (h0:0<=i) (hv:l[i.toNat]? =some v) (hj:j=v) (hn:n=i+1):gW f g l i.toNat++gB f g (i.toNat == 0) j.toNat=gW f g l n.toNat:=by
 subst hj;rw [hn,show (i+1).toNat=i.toNat+1 by omega];conv=>rhs;unfold gW
 rw [ad,hv];rfl
theorem vK {f g:Int} {l:List Int} (h:∀x∈l,1<=x/\x<=9) {i j:Nat} (b:Bool) (hi:i<=4) (hj:j<=9):(gW f g l i++gB f g b j).length<=90:=by
 have h1:=kG (f:=f) (g:=g) h i;have h2:=xP f g b j;rw [am];omega
/- Morse -/
theorem ach [St] (p:Int) (le co:ByteArray) (hle:vk le) {rs:List (List AV)} {t:Bool}:AP 222 [.agg [.int .i64 8,.sl t 1 rs,.str le,.str co,.int .i64 p]] (λl:List Int=> .sl true 1 (l.map aN)) (dM 8 [] le):=by
  refine ac Tryz.func222 (.ints _) λE K hE hK=>?_;refine sQ (yI 8 (by omega)) λf g r hf hg hr=>?_;replace hf:f=5:=hf;replace hg:g=5:=hg;conv=>cbv
  refine eqT rfl ?_;conv=>cbv
  refine aQ (M9 le) λs hs=>?_;rw [if_pos hle] at hs;have hmem:=qI hle;rw [←hs] at hmem;have hok:=o7 s hmem;conv=>cbv
  refine bO [3,4,28] [6] (λ(q:Nat) (es:List (List AV))=>([(6,.ob 1)],[.box [.int .i64 8,.sl t 1 rs,.str le,.str co,.int .i64 p],.row 1 es,.iter s q],((s.size:Int) - q),q<=s.size/\es=(rY s q).map aN)) [0,1,2] ((0,[])) (by dsimp only;exact ⟨by omega,rfl⟩) λq es hi Kn hN=>?_;obtain ⟨h0,hinv⟩:=hi;have hlen:=yR s q;refine afH (chr s) (Yr hmem) (λq' r' n hq hq' hr' hn=>?_) (λhq=>?_)<;>conv=>cbv
  ·have hch:=hok.2.2 q hq
   repeat' first
     |(refine hN _ _ [0,6,2] rfl ⟨?_,?_⟩)
     |(refine hN _ _ [0,4,2] rfl ⟨?_,?_⟩)
     |((first
    |refine nM (by omega) (λm hm=>?_)
    |refine jA (R:=aN) (by assumption) (by rfl) (by (first|omega|(rw [am];simp only [bi,cQ];omega))) (λ_ _=>?_)
    |refine B0 ?_|refine B1 ?_ ?_)<;>intros<;>(try conv=>cbv))
   all_goals (try clear hN)
   all_goals first
    |omega
    |(subst_vars;refine congrArg (List.map aN) (Oe (by omega) rfl rfl ?_);((first|rw [if_pos (by omega)]|rw [if_neg (by omega)])<;>omega))
    |(subst_vars;refine congrArg (List.map aN) (IQ (by omega) rfl ?_);((first|rw [if_pos (by omega)]|rw [if_neg (by omega)])<;>omega))
  ·refine hK _ ?_;rw [hinv,show q=s.size by omega];unfold dM;rw [if_pos rfl,←hs];rfl
/- flashes -/
theorem acg [St] (k p:Int) (le co:ByteArray) {rs:List (List AV)} {t:Bool} {l:List Int} (hl:rs=l.map aN) (hs:dS k l le) (hk:k=2∨k=4∨k=5∨k=6∨k=7) (hne:l≠[]):AP 222 [.agg [.int .i64 k,.sl t 1 rs,.str le,.str co,.int .i64 p]] (λl:List Int=> .sl true 1 (l.map aN)) (dM k l le):=by
  refine ac Tryz.func222 (.ints _) λE K hE hK=>?_;have hgb:=qW hs.grp;have hor:mW l=l:=by unfold mW;rw [if_neg hne]
  rw [hor] at hgb;have hfb:=oD k;have hgp:=sI k;refine sQ (yI k (by omega)) λf g r hf hg hr=>?_;simp only at hf hg;rw [←hf] at hfb;rw [←hg] at hgp;conv=>cbv
  refine eqF (by omega) ?_;conv=>cbv
  refine bn hl λn0 hn0 hb0=>?_;have hnl:=rX hn0;conv=>cbv
  (first|refine eqT (hnl.2 hne) ?_|refine eqF (λh=>hne (hnl.1 h)) ?_);conv=>cbv
  refine bn (R:=aN) (l:=l) hl λn hn hb=>?_;conv=>cbv
  refine bO [1,3,4,58,59] [60,10] (λ(i:Int) (es:List (List AV))=>([(60,.int .i64 i),(10,.ob 1)],[.box [.int .i64 k,.sl t 1 rs,.str le,.str co,.int .i64 p],.row 1 es],n - i,(0<=i/\i<=n)/\es=(gW f g l i.toNat).map aN)) [0,1] ((0,[])) (by dsimp only;exact ⟨by omega,rfl⟩) λi es hi Kn hN=>?_;obtain ⟨h0,hinv⟩:=hi;refine ltI (λhlt=>?_) (λhge=>?_)<;>conv=>cbv
  ·refine bQ (R:=aN) (l:=l) hl (by omega) λv hv=>?_;have hv2:=hgb.1 v (ae hv);conv=>cbv
   repeat' first
     |((refine bO [1,3,4,11,58,59,60,65] [66,10] (λ(j:Int) (es2:List (List AV))=>([(66,.int .i64 j),(10,.ob 1)],[.box [.int .i64 k,.sl t 1 rs,.str le,.str co,.int .i64 p],.row 1 es2],v - j,(0<=j/\j<=v)/\es2=(gW f g l i.toNat++gB f g (i.toNat == 0) j.toNat).map aN)) [0,1] ((0,es)) (by dsimp only;exact ⟨by omega,by rw [hinv];exact congrArg (List.map aN) sD⟩) λj es2 hi2 Kn2 hN2=>?_);obtain ⟨h1,h2⟩:=hi2;have hln:=vK (f:=f) (g:=g) hgb.1 (i:=i.toNat) (j:=j.toNat) (i.toNat == 0) (by omega) (by omega))
     |(refine hN _ _ [0,1] rfl ⟨?_,?_⟩)
     |(refine hN2 _ _ [0,5] rfl ⟨?_,?_⟩)
     |(refine hN2 _ _ [0,3] rfl ⟨?_,?_⟩)
     |((first
    |refine gK (R:=aN) (l:=l) hl (by omega) hv ?_
    |refine jA (R:=aN) (by assumption) (by rfl) (by (first|omega|(rw [am];simp only [bi,cQ];omega))) (λ_ _=>?_)
    |refine B0 ?_|refine B1 ?_ ?_)<;>intros<;>(try conv=>cbv))
   (all_goals (try clear hN));all_goals (try clear hN2)
   all_goals first
    |omega
    |(clear hK hf hg;subst_vars;exact congrArg (List.map aN) (vU (by omega) rfl))
    |(clear hK hf hg;subst_vars;exact congrArg (List.map aN) (vV (by omega) (by omega) rfl rfl))
    |(clear hK hf hg;subst_vars;exact congrArg (List.map aN) (pV (by omega) (by omega) rfl))
    |(rw [h2];exact congrArg (List.map aN) (rV h0.1 hv (by omega) (by assumption)))
  ·have hlen:=kG (f:=f) (g:=g) hgb.1 i.toNat;have hil:i.toNat=(l).length:=by omega
   repeat' first
     |((first
    |refine zG (R:=aN) (m:=[_,20]) (by assumption) (by rfl) (by simp only [bi,cQ];omega) (λ_ _=>?_)
    |refine B0 ?_|refine B1 ?_ ?_)<;>intros<;>(try conv=>cbv))
   all_goals (try clear hN)
   all_goals first
    |(refine hK _ ?_;unfold dM;rw [if_neg (by omega),if_neg (by assumption),hor,←hf,←hg,←hil];rename_i e;rw [e];rfl)
    |(refine hK _ ?_;unfold dM;rw [if_neg (by omega),if_pos (by assumption),hor,←hf,←hg,←hil,hinv,dr];rfl)
theorem aci [St] (k p:Int) (le co:ByteArray) {rs:List (List AV)} {t:Bool} {l:List Int} (hl:rs=l.map aN) (hs:dS k l le) (hk:k=2∨k=4∨k=5∨k=6∨k=7) (hne:l=[]):AP 222 [.agg [.int .i64 k,.sl t 1 rs,.str le,.str co,.int .i64 p]] (λl:List Int=> .sl true 1 (l.map aN)) (dM k l le):=by
  refine ac Tryz.func222 (.ints _) λE K hE hK=>?_;have hgb:=qW hs.grp;have hor:mW l=([1]:List Int):=by unfold mW;rw [if_pos hne]
  rw [hor] at hgb;have hfb:=oD k;have hgp:=sI k;refine sQ (yI k (by omega)) λf g r hf hg hr=>?_;simp only at hf hg;rw [←hf] at hfb;rw [←hg] at hgp;conv=>cbv
  refine eqF (by omega) ?_;conv=>cbv
  refine bn hl λn0 hn0 hb0=>?_;have hnl:=rX hn0;conv=>cbv
  (first|refine eqT (hnl.2 hne) ?_|refine eqF (λh=>hne (hnl.1 h)) ?_);conv=>cbv
  refine bn (R:=aN) (l:=([1]:List Int)) (by rfl) λn hn hb=>?_;conv=>cbv
  refine bO [1,3,4,58,59] [60,10] (λ(i:Int) (es:List (List AV))=>([(60,.int .i64 i),(10,.ob 2)],[.box [.int .i64 k,.sl t 1 rs,.str le,.str co,.int .i64 p],.row 1 [[.int .i64 1]],.row 1 es],n - i,(0<=i/\i<=n)/\es=(gW f g ([1]:List Int) i.toNat).map aN)) [0,1,2] ((0,[])) (by dsimp only;exact ⟨by omega,rfl⟩) λi es hi Kn hN=>?_;obtain ⟨h0,hinv⟩:=hi;refine ltI (λhlt=>?_) (λhge=>?_)<;>conv=>cbv
  ·refine bQ (R:=aN) (l:=([1]:List Int)) (by rfl) (by omega) λv hv=>?_;have hv2:=hgb.1 v (ae hv);conv=>cbv
   repeat' first
     |((refine bO [1,3,4,11,58,59,60,65] [66,10] (λ(j:Int) (es2:List (List AV))=>([(66,.int .i64 j),(10,.ob 2)],[.box [.int .i64 k,.sl t 1 rs,.str le,.str co,.int .i64 p],.row 1 [[.int .i64 1]],.row 1 es2],v - j,(0<=j/\j<=v)/\es2=(gW f g ([1]:List Int) i.toNat++gB f g (i.toNat == 0) j.toNat).map aN)) [0,1,2] ((0,es)) (by dsimp only;exact ⟨by omega,by rw [hinv];exact congrArg (List.map aN) sD⟩) λj es2 hi2 Kn2 hN2=>?_);obtain ⟨h1,h2⟩:=hi2;have hln:=vK (f:=f) (g:=g) hgb.1 (i:=i.toNat) (j:=j.toNat) (i.toNat == 0) (by omega) (by omega))
     |(refine hN _ _ [0,1,2] rfl ⟨?_,?_⟩)
     |(refine hN2 _ _ [0,1,6] rfl ⟨?_,?_⟩)
     |(refine hN2 _ _ [0,1,4] rfl ⟨?_,?_⟩)
     |((first
    |refine gK (R:=aN) (l:=([1]:List Int)) (by rfl) (by omega) hv ?_
    |refine jA (R:=aN) (by assumption) (by rfl) (by (first|omega|(rw [am];simp only [bi,cQ];omega))) (λ_ _=>?_)
    |refine B0 ?_|refine B1 ?_ ?_)<;>intros<;>(try conv=>cbv))
   (all_goals (try clear hN));all_goals (try clear hN2)
   all_goals first
    |omega
    |(clear hK hf hg;subst_vars;exact congrArg (List.map aN) (vU (by omega) rfl))
    |(clear hK hf hg;subst_vars;exact congrArg (List.map aN) (vV (by omega) (by omega) rfl rfl))
    |(clear hK hf hg;subst_vars;exact congrArg (List.map aN) (pV (by omega) (by omega) rfl))
    |(rw [h2];exact congrArg (List.map aN) (rV h0.1 hv (by omega) (by assumption)))
  ·have hlen:=kG (f:=f) (g:=g) hgb.1 i.toNat;have hil:i.toNat=(([1]:List Int)).length:=by omega
   repeat' first
     |((first
    |refine zG (R:=aN) (m:=[_,20]) (by assumption) (by rfl) (by simp only [bi,cQ];omega) (λ_ _=>?_)
    |refine B0 ?_|refine B1 ?_ ?_)<;>intros<;>(try conv=>cbv))
   all_goals (try clear hN)
   all_goals first
    |(refine hK _ ?_;unfold dM;rw [if_neg (by omega),if_neg (by assumption),hor,←hf,←hg,←hil];rename_i e;rw [e];rfl)
    |(refine hK _ ?_;unfold dM;rw [if_neg (by omega),if_pos (by assumption),hor,←hf,←hg,←hil,hinv,dr];rfl)
theorem YW [St] (k p:Int) (le co:ByteArray) {rs:List (List AV)} {t:Bool} {l:List Int} (hl:rs=l.map aN) (hs:dS k l le) (hk:k≠1/\k≠3):AC Tryz.prog 222 [.agg [.int .i64 k,.sl t 1 rs,.str le,.str co,.int .i64 p]] (λl:List Int=> .sl true 1 (l.map aN)) (dM k l le):=by
 have hkk:=hs.kind;by_cases h8:k=8
 ·subst h8
  have hle:vk le/\l=[]:=by
   rcases hs with h|h|h|h
   ·omega
   ·omega
   ·omega
   ·exact h.2
  rw [hle.2];exact ach p le co hle.1
 ·by_cases hne:l=[]
  ·exact aci k p le co hl hs (by omega) hne
  ·exact acg k p le co hl hs (by omega) hne
def KN (s:ByteArray):Nat->List Int
 |0=>[]
 |j+1=>KN s j++[if chr s j=46 then 5 else 15]
theorem qO (s:ByteArray):∀j,(KN s j).length=j
 |0=>rfl
 |j+1=>by unfold KN;rw [am,qO s j];rfl
theorem Oh {s:ByteArray} {i:Nat}:∀{j:Nat},i<j->(KN s j)[i]? =some (if chr s i=46 then 5 else 15)
 |0,h=>by omega
 | j +1,h=>by
   unfold KN;by_cases e:i=j
   ·subst e;rw [cX (by rw [qO];omega),qO,kj];rfl
   ·rw [br (by rw [qO];omega)];exact Oh (by omega)
theorem Xa {s:ByteArray} {i n x:Int} (h0:0<=i) (hn:n=i+1) (hx:x=if chr s i.toNat=46 then 5 else 15):KN s i.toNat++[x]=KN s n.toNat:=by
 rw [hn,show (i+1).toNat=i.toNat+1 by omega,hx];rfl
theorem XB [St] (le:ByteArray) (n0:Int) (hle:vk le) (hn0:n0=chr le 0):AP 424 [.int .u8 n0] (λl:List Int=> .sl true 1 (l.map aN)) (KN (Ag le) (Ag le).size):=by
  refine ac Tryz.func424 (.ints _) λE K hE hK=>?_;have h26:=Bn;have hle2:=hle.2;have hmem:=qI hle;have hok:=o7 _ hmem;refine acD λb hb2=>?_;rw [m7 _ ⟨by omega,by omega⟩] at hb2;conv=>cbv
  refine bQ (R:=iQ) (l:=codes) (by rfl) (by omega) λs hv=>?_;have hs:=Jt hle (by omega) hv;rw [←hs] at hok hK;conv=>cbv
  refine gK (R:=iQ) (l:=codes) (by rfl) (by omega) hv ?_;conv=>cbv
  refine bO [4] [6,5] (λ(i:Int) (es:List (List AV))=>([(6,.int .i64 i),(5,.ob 0)],[.row 1 es],s.size - i,(0<=i/\i<=s.size)/\es=(KN s i.toNat).map aN)) [1] ((0,[])) (by dsimp only;exact ⟨by omega,rfl⟩) λi es hi Kn hN=>?_;obtain ⟨h0,hinv⟩:=hi;have hlen:=qO s i.toNat
  repeat' first
    |(refine hN _ _ [2] rfl ⟨?_,?_⟩)
    |((first
   |(refine wH (by omega) (λa ha _ _=>?_);(replace ha:a=chr s i.toNat:=ha))
   |refine jA (R:=aN) (by assumption) (by rfl) (by omega) (λ_ _=>?_)
   |refine B0 ?_|refine B1 ?_ ?_)<;>intros<;>(try conv=>cbv))
  all_goals (try clear hN)
  all_goals first
   |omega
   |(rename_i e1 _ e2;clear hK;rw [e1];refine congrArg (List.map aN) (Xa h0.1 (by assumption) ?_);first|rw [if_pos (by omega)]|rw [if_neg (by omega)])
   |(refine hK _ ?_;rw [hinv,show i.toNat=s.size by omega];rfl)
theorem Zp [St] (p:Int) (le co:ByteArray) (hle:vk le) {rs:List (List AV)} {t:Bool}:AP 390 [.pp [.int .i64 8,.sl t 1 rs,.str le,.str co,.int .i64 p]] (λl:List Int=> .sl true 1 (l.map aN)) (dM 8 [] le):=by
  refine ac Tryz.func390 (.ints _) λE K hE hK=>?_;have hok:=o7 _ (qI hle);refine eqT rfl ?_;conv=>cbv
  refine wH (by have:=hle.1;omega) λa ha _ _=>?_;replace ha:a=chr le 0:=ha;conv=>cbv
  refine dJ (XB le a hle ha) λds hds=>?_;obtain ⟨s,hs⟩:∃s,s=Ag le:=⟨_,rfl⟩
  rw [←hs] at hds hok;have hdl:=qO s s.size;conv=>cbv
  refine bO [4] [5,3] (λ(i:Int) (es:List (List AV))=>([(5,.int .i64 i),(3,.ob 0)],[.row 1 es,.row 1 ds],s.size - i,(0<=i/\i<=s.size)/\es=(rY s i.toNat).map aN)) [0,1] ((0,[])) (by dsimp only;exact ⟨by omega,rfl⟩) λi es hi Kn hN=>?_;obtain ⟨h0,hinv⟩:=hi;have hlen:=yR s i.toNat
  repeat' first
    |(refine hN _ _ [5,1] rfl ⟨?_,?_⟩)
    |(refine hN _ _ [3,1] rfl ⟨?_,?_⟩)
    |((first
   |(refine bQ (R:=aN) hds (by omega) (λv hv=>?_);rw [Oh (by omega)] at hv;(replace hv:=(ee hv).symm);have hch:=hok.2.2 i.toNat (by omega))
   |refine jA (R:=aN) (by assumption) (by rfl) (by (first|omega|(rw [am];simp only [bi,cQ];omega))) (λ_ _=>?_)
   |refine B0 ?_|refine B1 ?_ ?_)<;>intros<;>(try conv=>cbv))
  all_goals (try clear hN)
  all_goals first
   |omega
   |(clear hK;subst_vars;refine congrArg (List.map aN) (Oe (n:=(i+1).toNat) (by omega) rfl (by omega) ?_);rcases hch with hch|hch<;>rw [hch]<;>rfl)
   |(clear hK;subst_vars;refine congrArg (List.map aN) (IQ (n:=(i+1).toNat) (by omega) (by omega) ?_);rcases hch with hch|hch<;>rw [hch]<;>rfl)
   |(refine hK _ ?_;unfold dM;rw [if_pos rfl,←hs,hinv,show i.toNat=s.size by omega];rfl)
theorem Zo [St] (k p:Int) (le co:ByteArray) {rs:List (List AV)} {t:Bool} {l:List Int} (hl:rs=l.map aN) (hs:dS k l le) (hk:k=2∨k=4∨k=5∨k=6∨k=7) (hne:l≠[]):AP 390 [.pp [.int .i64 k,.sl t 1 rs,.str le,.str co,.int .i64 p]] (λl:List Int=> .sl true 1 (l.map aN)) (dM k l le):=by
  refine ac Tryz.func390 (.ints _) λE K hE hK=>?_;have hgb:=qW hs.grp;have hor:mW l=l:=by unfold mW;rw [if_neg hne]
  rw [hor] at hgb;have hfb:=oD k;have hgp:=sI k;have hF:=I8 k;have hG:=DR k;have hlet:=hs.letter;obtain ⟨f,hf⟩:∃f,f=lD k:=⟨_,rfl⟩
  obtain ⟨g,hg⟩:∃g,g=xR k:=⟨_,rfl⟩
  rw [←hf] at hfb hF;rw [←hg] at hgp hG;refine eqF (by omega) ?_;conv=>cbv
  refine bn hl λn0 hn0 hb0=>?_;have hnl:=rX hn0;conv=>cbv
  (first|refine eqT (hnl.2 hne) ?_|refine eqF (λh=>hne (hnl.1 h)) ?_);conv=>cbv
  refine bO [0,6] [7,3] (λ(i:Int) (es:List (List AV))=>([(7,.int .i64 i),(3,.ob 0)],[.row 1 es],(l).length - i,(0<=i/\i<=(l).length)/\es=(gW f g l i.toNat).map aN)) [0] ((0,[])) (by dsimp only;exact ⟨by simp,rfl⟩) λi es hi Kn hN=>?_;obtain ⟨h0,hinv⟩:=hi;refine bn (R:=aN) (l:=l) hl λn hn hb=>?_;conv=>cbv
  refine ltI (λhlt=>?_) (λhge=>?_)<;>conv=>cbv
  ·(obtain ⟨v,hv⟩:∃v,(l)[i.toNat]? =some v:=⟨_,ag (by omega)⟩);have hv2:=hgb.1 v (ae hv)
   repeat' first
     |((refine bO [0,6,7] [8,3] (λ(j:Int) (es2:List (List AV))=>([(8,.int .i64 j),(3,.ob 0)],[.row 1 es2],v - j,(0<=j/\j<=v)/\es2=(gW f g l i.toNat++gB f g (i.toNat == 0) j.toNat).map aN)) [0] ((0,es)) (by dsimp only;exact ⟨by omega,by rw [hinv];exact congrArg (List.map aN) sD⟩) λj es2 hi2 Kn2 hN2=>?_);obtain ⟨h1,h2⟩:=hi2;have hln:=vK (f:=f) (g:=g) hgb.1 (i:=i.toNat) (j:=j.toNat) (i.toNat == 0) (by omega) (by omega))
     |(refine hN _ _ [0] rfl ⟨?_,?_⟩)
     |(refine hN2 _ _ [4] rfl ⟨?_,?_⟩)
     |(refine hN2 _ _ [2] rfl ⟨?_,?_⟩)
     |((first
    |refine gK (R:=aN) (l:=l) hl (by omega) hv ?_
    |((refine aQ hG (λy hy=>?_);subst hy))
    |((refine aQ hF (λy hy=>?_);subst hy))
    |refine jA (R:=aN) (by assumption) (by rfl) (by (first|omega|(rw [am];simp only [bi,cQ];omega))) (λ_ _=>?_)
    |refine B0 ?_|refine B1 ?_ ?_)<;>intros<;>(try conv=>cbv))
   (all_goals (try clear hN));all_goals (try clear hN2)
   all_goals first
    |omega
    |(clear hK hf hg hF hG;subst_vars;exact congrArg (List.map aN) (vU (by omega) rfl))
    |(clear hK hf hg hF hG;subst_vars;exact congrArg (List.map aN) (vV (by omega) (by omega) rfl rfl))
    |(clear hK hf hg hF hG;subst_vars;exact congrArg (List.map aN) (pV (by omega) (by omega) rfl))
    |(rw [h2];exact congrArg (List.map aN) (rV h0.1 hv (by omega) (by assumption)))
  ·have hlen:=kG (f:=f) (g:=g) hgb.1 i.toNat;have hil:i.toNat=(l).length:=by omega
   repeat' first
     |((first
    |((refine aQ hG (λy hy=>?_);subst hy))
    |refine zG (R:=aN) (m:=[_,20]) (by assumption) (by rfl) (by simp only [bi,cQ];omega) (λ_ _=>?_)
    |refine B0 ?_|refine B1 ?_ ?_)<;>intros<;>(try conv=>cbv))
   all_goals (try clear hN)
   all_goals first
    |(refine hK _ ?_;unfold dM;rw [if_neg (by omega),if_neg (by rintro rfl;contradiction),hor,←hf,←hg,←hil];rename_i e;rw [e];rfl)
    |(refine hK _ ?_;unfold dM;rw [if_neg (by omega),if_pos (by rcases hlet with h|⟨_,h|h⟩;omega;exact h;contradiction),hor,←hf,←hg,←hil,hinv,dr];rfl)
theorem Zq [St] (k p:Int) (le co:ByteArray) {rs:List (List AV)} {t:Bool} {l:List Int} (hl:rs=l.map aN) (hs:dS k l le) (hk:k=2∨k=4∨k=5∨k=6∨k=7) (hne:l=[]):AP 390 [.pp [.int .i64 k,.sl t 1 rs,.str le,.str co,.int .i64 p]] (λl:List Int=> .sl true 1 (l.map aN)) (dM k l le):=by
  refine ac Tryz.func390 (.ints _) λE K hE hK=>?_;have hgb:=qW hs.grp;have hor:mW l=([1]:List Int):=by unfold mW;rw [if_pos hne]
  rw [hor] at hgb;have hfb:=oD k;have hgp:=sI k;have hF:=I8 k;have hG:=DR k;have hlet:=hs.letter;obtain ⟨f,hf⟩:∃f,f=lD k:=⟨_,rfl⟩
  obtain ⟨g,hg⟩:∃g,g=xR k:=⟨_,rfl⟩
  rw [←hf] at hfb hF;rw [←hg] at hgp hG;refine eqF (by omega) ?_;conv=>cbv
  refine bn hl λn0 hn0 hb0=>?_;have hnl:=rX hn0;conv=>cbv
  (first|refine eqT (hnl.2 hne) ?_|refine eqF (λh=>hne (hnl.1 h)) ?_);conv=>cbv
  refine bO [0,6] [7,3] (λ(i:Int) (es:List (List AV))=>([(7,.int .i64 i),(3,.ob 0)],[.row 1 es,.row 1 [[.int .i64 1]]],(([1]:List Int)).length - i,(0<=i/\i<=(([1]:List Int)).length)/\es=(gW f g ([1]:List Int) i.toNat).map aN)) [0,1] ((0,[])) (by dsimp only;exact ⟨by simp,rfl⟩) λi es hi Kn hN=>?_;obtain ⟨h0,hinv⟩:=hi;refine bn (R:=aN) (l:=([1]:List Int)) (by rfl) λn hn hb=>?_;conv=>cbv
  refine ltI (λhlt=>?_) (λhge=>?_)<;>conv=>cbv
  ·(obtain ⟨v,hv⟩:∃v,(([1]:List Int))[i.toNat]? =some v:=⟨_,ag (by omega)⟩);have hv2:=hgb.1 v (ae hv)
   repeat' first
     |((refine bO [0,6,7] [8,3] (λ(j:Int) (es2:List (List AV))=>([(8,.int .i64 j),(3,.ob 0)],[.row 1 es2,.row 1 [[.int .i64 1]]],v - j,(0<=j/\j<=v)/\es2=(gW f g ([1]:List Int) i.toNat++gB f g (i.toNat == 0) j.toNat).map aN)) [0,1] ((0,es)) (by dsimp only;exact ⟨by omega,by rw [hinv];exact congrArg (List.map aN) sD⟩) λj es2 hi2 Kn2 hN2=>?_);obtain ⟨h1,h2⟩:=hi2;have hln:=vK (f:=f) (g:=g) hgb.1 (i:=i.toNat) (j:=j.toNat) (i.toNat == 0) (by omega) (by omega))
     |(refine hN _ _ [0,1] rfl ⟨?_,?_⟩)
     |(refine hN2 _ _ [5,1] rfl ⟨?_,?_⟩)
     |(refine hN2 _ _ [3,1] rfl ⟨?_,?_⟩)
     |((first
    |refine gK (R:=aN) (l:=([1]:List Int)) (by rfl) (by omega) hv ?_
    |((refine aQ hG (λy hy=>?_);subst hy))
    |((refine aQ hF (λy hy=>?_);subst hy))
    |refine jA (R:=aN) (by assumption) (by rfl) (by (first|omega|(rw [am];simp only [bi,cQ];omega))) (λ_ _=>?_)
    |refine B0 ?_|refine B1 ?_ ?_)<;>intros<;>(try conv=>cbv))
   (all_goals (try clear hN));all_goals (try clear hN2)
   all_goals first
    |omega
    |(clear hK hf hg hF hG;subst_vars;exact congrArg (List.map aN) (vU (by omega) rfl))
    |(clear hK hf hg hF hG;subst_vars;exact congrArg (List.map aN) (vV (by omega) (by omega) rfl rfl))
    |(clear hK hf hg hF hG;subst_vars;exact congrArg (List.map aN) (pV (by omega) (by omega) rfl))
    |(rw [h2];exact congrArg (List.map aN) (rV h0.1 hv (by omega) (by assumption)))
  ·have hlen:=kG (f:=f) (g:=g) hgb.1 i.toNat;have hil:i.toNat=(([1]:List Int)).length:=by omega
   repeat' first
     |((first
    |((refine aQ hG (λy hy=>?_);subst hy))
    |refine zG (R:=aN) (m:=[_,20]) (by assumption) (by rfl) (by simp only [bi,cQ];omega) (λ_ _=>?_)
    |refine B0 ?_|refine B1 ?_ ?_)<;>intros<;>(try conv=>cbv))
   all_goals (try clear hN)
   all_goals first
    |(refine hK _ ?_;unfold dM;rw [if_neg (by omega),if_neg (by rintro rfl;contradiction),hor,←hf,←hg,←hil];rename_i e;rw [e];rfl)
    |(refine hK _ ?_;unfold dM;rw [if_neg (by omega),if_pos (by rcases hlet with h|⟨_,h|h⟩;omega;exact h;contradiction),hor,←hf,←hg,←hil,hinv,dr];rfl)
theorem Ux [St] (k p:Int) (le co:ByteArray) {rs:List (List AV)} {t:Bool} {l:List Int} (hl:rs=l.map aN) (hs:dS k l le) (hk:k≠1/\k≠3):AC Tryz.prog 390 [.pp [.int .i64 k,.sl t 1 rs,.str le,.str co,.int .i64 p]] (λl:List Int=> .sl true 1 (l.map aN)) (dM k l le):=by
 have hkk:=hs.kind;by_cases h8:k=8
 ·subst h8
  have hle:vk le/\l=[]:=by
   rcases hs with h|h|h|h
   ·omega
   ·omega
   ·omega
   ·exact h.2
  rw [hle.2];exact Zp p le co hle.1
 ·by_cases hne:l=[]
  ·exact Zq k p le co hl hs (by omega) hne
  ·exact Zo k p le co hl hs (by omega) hne
theorem Zy (k:Int):((k=2∨k=4∨k=5)->xR k+5=qL k)/\(k=6->qL k=20)/\(k=7->qL k=10)/\(k=8->qL k=30):=by
 refine ⟨?_,?_,?_,?_⟩
 ·rintro (rfl|rfl|rfl)<;>rfl
 ·rintro rfl;rfl
 ·rintro rfl;rfl
 ·rintro rfl;rfl
theorem KU [St] (k p:Int) (le co:ByteArray) {rs:List (List AV)} {t:Bool} {l:List Int} (hl:rs=l.map aN) (hs:dS k l le):AP 146 [.agg [.int .i64 k,.sl t 1 rs,.str le,.str co,.int .i64 p]] (AV.int .i64) (kJ k l le):=by
  refine a0 Tryz.func146 λE K hE hK=>?_;have htb:=oh hs;have hsb:=wY htb.2;have hrb:=yJ k;have hkk:=hs.kind;refine aF (AR k p le co hl) (λhst=>?_) (λhst=>?_)<;>conv=>cbv
  ·exact hK _ (by unfold kJ;rw [if_pos hst];rfl)
  ·refine eqI (λh3=>?_) (λh3=>?_)<;>conv=>cbv
   ·exact hK _ (by unfold kJ;rw [if_neg hst,if_pos h3];rfl)
   ·have hk1:k≠1:=λh=>hst (.inl h);refine sQ (yI k (by omega)) λf g r hf hg hr=>?_;simp only at hr;rw [←hr] at hrb;conv=>cbv
    repeat' first
      |((first
     |refine dJ (YW k p le co hl hs ⟨hk1,h3⟩) (λts hts=>?_)
     |refine aQ (Y8 (by assumption) htb.2 (by omega)) (λs hs2=>?_)
     |refine B0 ?_|refine B1 ?_ ?_)<;>intros<;>(try conv=>cbv))
    all_goals (refine hK _ ?_;unfold kJ;rw [if_neg hst,if_neg h3,←hr];show AV.int _ _=AV.int _ _;congr 1;(first|rw [if_pos (by omega)]|rw [if_neg (by omega)]);omega)
theorem aat [St] (k p:Int) (le co:ByteArray) {rs:List (List AV)} {t:Bool} {l:List Int} (hl:rs=l.map aN) (hs:dS k l le) (hk:k≠1/\k≠3):AP 391 [.pp [.int .i64 k,.sl t 1 rs,.str le,.str co,.int .i64 p]] (AV.int .i64) (qL k+(if 1<l.length then 20 else 0)):=by
  refine a0 Tryz.func391 λE K hE hK=>?_;have hkk:=hs.kind;have hgp:=sI k
  have hlen:(k=6∨k=7∨k=8)->l.length<=1:=λh=>by
   rcases hs with h1|h1|⟨_,⟨_,rfl|⟨x,rfl,_⟩⟩|⟨_,rfl⟩⟩|⟨_,_,rfl⟩
   ·omega
   ·omega
   ·simp
   ·simp
   ·simp
   ·simp
  repeat' first
    |((first
   |refine aQ (DR _) (λ_ _=>?_)
   |refine B0 ?_|refine B1 ?_ ?_)<;>intros<;>(try conv=>cbv))
  all_goals (have hgr:=Zy k;refine hK _ ?_;show AV.int _ _=AV.int _ _;congr 1;(first|rw [if_pos (by omega)]|rw [if_neg (by omega)]);omega)
theorem XC [St] (k p:Int) (le co:ByteArray) {rs:List (List AV)} {t:Bool} {l:List Int} (hl:rs=l.map aN) (hs:dS k l le):AP 326 [.pp [.int .i64 k,.sl t 1 rs,.str le,.str co,.int .i64 p]] (AV.int .i64) (kJ k l le):=by
  refine a0 Tryz.func326 λE K hE hK=>?_;have htb:=oh hs;have hsb:=wY htb.2;have hrb:=yJ k;refine aF (xH k p le co hl) (λhst=>?_) (λhst=>?_)<;>conv=>cbv
  ·exact hK _ (by unfold kJ;rw [if_pos hst];rfl)
  ·refine eqI (λh3=>?_) (λh3=>?_)<;>conv=>cbv
   ·exact hK _ (by unfold kJ;rw [if_neg hst,if_pos h3];rfl)
   ·have hk1:k≠1:=λh=>hst (.inl h)
    repeat' first
      |((first
     |refine dJ (Ux k p le co hl hs ⟨hk1,h3⟩) (λts hts=>?_)
     |refine aQ (I7 (by assumption) htb.2 (by omega)) (λs hs2=>?_)
     |(refine aQ (aat k p le co hl hs ⟨hk1,h3⟩) (λr hr=>?_);(have hr2:r=qL k∨r=qL k+20:=by (split at hr<;>omega)))
     |refine B0 ?_|refine B1 ?_ ?_)<;>intros<;>(try conv=>cbv))
    all_goals (refine hK _ ?_;unfold kJ;rw [if_neg hst,if_neg h3];show AV.int _ _=AV.int _ _;congr 1;omega)
theorem nG [St] (k p:Int) (le co:ByteArray) {rs:List (List AV)} {t:Bool} {l:List Int} (hl:rs=l.map aN):AP 75 [.agg [.int .i64 k,.sl t 1 rs,.str le,.str co,.int .i64 p]] AV.bool (bP (gZ k l le co p)):=by
  refine a0 Tryz.func75 λE K hE hK=>?_;refine aF (wF co) (λhc=>?_) (λhc=>?_)<;>conv=>cbv
  ·refine aF (aik k p le co hl) (λhs=>?_) (λhs=>?_)<;>conv=>cbv
   ·have hlb:=ou hs;refine aF (AR k p le co hl) (λhst=>?_) (λhst=>?_)<;>conv=>cbv
    ·refine eqI (λh=>?_) (λh=>?_)<;>conv=>cbv
     ·exact aH hK (aG.2 ⟨hc,hs,λ_=>h,λh'=>absurd hst h'⟩)
     ·exact aH hK (ah.2 λh'=>h (h'.2.2.1 hst))
    ·skip
     repeat' first
       |((first
      |refine aQ (KU k p le co hl hs) (λy hy=>?_)
      |refine aF (eU _ _ _) (λ_=>?_) (λ_=>?_)
      |refine B0 ?_|refine B1 ?_ ?_)<;>intros<;>(try conv=>cbv))
     all_goals first
      |(refine aH hK (aG.2 ⟨hc,hs,λh'=>absurd h' hst,λ_=>⟨by omega,by omega,λ_=>by omega⟩⟩))
      |(refine aH hK (ah.2 λh'=>?_);have h2:=h'.2.2.2 hst;omega)
   ·exact aH hK (ah.2 λh'=>hs h'.2.1)
  ·exact aH hK (ah.2 λh'=>hc h'.1)
theorem afW [St] (k p:Int) (le co:ByteArray) {rs:List (List AV)} {t:Bool} {l:List Int} (hl:rs=l.map aN):AP 252 [.pp [.int .i64 k,.sl t 1 rs,.str le,.str co,.int .i64 p]] AV.bool (bP (gZ k l le co p)):=by
  refine a0 Tryz.func252 λE K hE hK=>?_;refine aF (Xz k p le co hl) (λhcs=>?_) (λhcs=>?_)<;>conv=>cbv
  ·obtain ⟨hc,hs⟩:=hcs;have hlb:=ou hs;refine aF (xH k p le co hl) (λhst=>?_) (λhst=>?_)<;>conv=>cbv
   ·refine eqI (λh=>?_) (λh=>?_)<;>conv=>cbv
    ·exact aH hK (aG.2 ⟨hc,hs,λ_=>h,λh'=>absurd hst h'⟩)
    ·exact aH hK (ah.2 λh'=>h (h'.2.2.1 hst))
   ·skip
    repeat' first
      |((first
     |refine aQ (XC k p le co hl hs) (λy hy=>?_)
     |(refine acV (λm hm=>?_);(have hm2:=ag7 p);rw [←hm] at hm2)
     |refine aF (in_ _ _ _) (λ_=>?_) (λ_=>?_)
     |refine B0 ?_|refine B1 ?_ ?_)<;>intros<;>(try conv=>cbv))
    all_goals first
     |(refine aH hK (aG.2 ⟨hc,hs,λh'=>absurd h' hst,λ_=>⟨by omega,by omega,λ_=>by omega⟩⟩))
     |(refine aH hK (ah.2 λh'=>?_);have h2:=h'.2.2.2 hst;omega)
  ·exact aH hK (ah.2 λh'=>hcs ⟨h'.1,h'.2.1⟩)
end Go.Proofs.YtnlhnideeaobpaaGreatDoor
