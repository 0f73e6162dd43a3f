/- Contracts: gaps of sectors, the findings of lights; the law; Contracts: the findings of lights; the law; Contracts: the program's findings of lights; the law. -/
import Derived.Test.YtnlhnideeaobpaaGreatDoorQo
import Derived.Test.YtnlhnideeaobpaaGreatDoorQr
import Derived.Test.YtnlhnideeaobpaaGreatDoorQp
namespace Go.Proofs.YtnlhnideeaobpaaGreatDoor
open Go Go.RowKit Classical
set_option maxRecDepth 100000
set_option maxHeartbeats 2000000
set_option linter.unusedVariables false
set_option linter.unusedSimpArgs false
set_option maxHeartbeats 20000000
theorem adt [St] {rs:List (List AV)} {t:Bool} {l:List Scr} (hl:rs=l.map Scr.cs) (hok:lS l):AP 84 [.sl t 3 rs] (AV.int .i64) (xY l l.length):=by
  refine a0 Tryz.func84 λE K hE hK=>?_;have h12:=hok.2.1;refine bn hl λn hn _=>?_;conv=>cbv
  refine bO [6,7] [8,3] (λ(i m:Int)=>([(8,.int .i64 i),(3,.int .i64 m)],[],l.length - i,(0<=i/\i<=l.length)/\m=xY l i)) [] ((0,0)) (by dsimp only;exact ⟨by omega,by rfl⟩) λi m hi Kn hN=>?_;obtain ⟨⟨h0,h1⟩,h2⟩:=hi;have hb:=VO l i
  repeat' first
    |(refine hN _ _ [] rfl ⟨?_,?_⟩)
    |((first
   |(refine bQ (R:=Scr.cs) hl (by omega) (λv hv=>?_);have hvr:=Ut hok (ae hv);have hst:=λn hn=>JB (n:=n) h0 hv hn;have hab:=sU v.frm v.til;obtain ⟨v1,v2,v3⟩:=v;dsimp only at hvr hst hab)
   |refine aQ (agT _ _ _ hvr) (λ_ _=>?_)
   |refine B0 ?_|refine B1 ?_ ?_)<;>intros<;>(try conv=>cbv))
  all_goals (try clear hN)
  all_goals first
   |omega
   |(have:=hst _ (by assumption);omega)
   |(refine hK _ (congrArg (AV.int .i64) ?_);rw [h2,Qx (by omega)])
theorem En [St] {rs:List (List AV)} {t b:Bool} {L:List Aid} (n:Int) (hl:rs=L.map (Aid.cs b)) (hlo:dn L):AP 36 [.sl t 16 rs,.int .i64 n] AV.str (Di L n):=by
 refine a0 Tryz.func36 λE K hE hK=>?_;have h24:=hlo.2;refine VA (D8 n hl (by omega)) (λa ha1 hf=>?_) (λa ha1 hf=>?_)<;>conv=>cbv
 ·obtain ⟨v0,hv0,hv1⟩:=hf;have hvo:=hlo.mem (ae hv0);(have hf:nT L n:=⟨v0,hv0,hv1⟩);have hg:=Jj hf hv0;(have ha:L[a.toNat]? =some v0:=by rw [show a.toNat=gU L n by omega];exact hv0);(have ha0:0<=a:=by omega);have hlit:=vP hvo;obtain ⟨number,name,atX,atY,height,aP,aC,aJ,bg,aO,aM,aB,ak,au,aD,aj⟩:=v0;(obtain ⟨rg,hrg⟩:∃r,r=aM.map aN:=⟨_,rfl⟩);(obtain ⟨rx,hrx⟩:∃r,r=aD.map Scr.cs:=⟨_,rfl⟩);refine iO hl ha0 ha hrg hrx ?_;(conv=>cbv);refine aF (ads _ _ _ _ _ _ _ _ _ _ _ _ _ _ hrg hrx) (λhli=>?_) (λhli=>?_)<;>conv=>cbv
  ·have hk0:aO≠0:=hlit.1 hli;have hsc:lS aD:=hli.2.2.1;refine iO hl ha0 ha hrg hrx ?_;(conv=>cbv);refine bn hrx λz hz _=>?_;(conv=>cbv);refine ltI (λhlt=>?_) (λhge=>?_)<;>conv=>cbv
   ·refine iO hl ha0 ha hrg hrx ?_;(conv=>cbv);refine aQ (adt hrx hsc) λq hq=>?_;(conv=>cbv);refine ltI (λhlt2=>?_) (λagt=>?_)<;>conv=>cbv
    ·refine hK _ (congrArg AV.str ?_);rw [hg,Hw,if_neg hk0,if_pos ⟨by rintro rfl;simp at hz;omega,by simp only;omega⟩];rfl
    ·refine hK _ (congrArg AV.str ?_);rw [hg,Hw,if_neg hk0,if_neg (λh=>by have:=h.2;simp only at this;omega)];rfl
   ·refine hK _ (congrArg AV.str ?_);rw [hg,Hw,if_neg hk0,if_neg (λh=>h.1 (cm (by simp only;omega)))];rfl
  ·refine hK _ (congrArg AV.str ?_);rw [hg,Hw,if_pos (aw λh=>hli (hlit.2 h))];rfl
 ·refine hK _ (congrArg AV.str ?_);rw [Jl hf];rfl
theorem dn.pw2 {L:List Aid} (h:dn L):L.Pairwise λa b=>a.number<b.number:=dv.2 λi j hi hj hij=>h.inc (ag hi) j _ hij (ag hj)
theorem adA [St] {rs:List (List AV)} {t b:Bool} {L:List Aid} (n:Int) (hl:rs=L.map (Aid.cs b)) (hlo:dn L):AP 127 [.sl t 16 rs,.int .i64 n] AV.str (Di L n):=by
  refine a0 Tryz.func127 λE K hE hK=>?_;have h24:=hlo.2;refine aQ (Fz n hl hlo.pw2 (by omega)) λa ha=>?_;conv=>cbv
  by_cases hf:nT L n
  ·rw [zw,if_pos hf] at ha;obtain ⟨v0,hv0,hv1⟩:=hf;have hvo:=hlo.mem (ae hv0);(have hf:nT L n:=⟨v0,hv0,hv1⟩);have hg:=Jj hf hv0;(have ha0:0<=a:=by omega);(have ha:L[a.toNat]? =some v0:=by rw [show a.toNat=gU L n by omega];exact hv0);have hlit:=vP hvo;obtain ⟨number,name,atX,atY,height,aP,aC,aJ,bg,aO,aM,aB,ak,au,aD,aj⟩:=v0;(obtain ⟨rg,hrg⟩:∃r,r=aM.map aN:=⟨_,rfl⟩);(obtain ⟨rx,hrx⟩:∃r,r=aD.map Scr.cs:=⟨_,rfl⟩);refine ltF ha0 ?_;(conv=>cbv);refine iO hl ha0 ha hrg hrx ?_;(conv=>cbv);refine aF (za _ _ _ _ _ _ _ _ _ _ _ _ _ _ hrg hrx) (λhk0=>?_) (λhk0=>?_)<;>conv=>cbv
   ·have hli:=hlit.2 hk0;have hsc:lS aD:=hli.2.2.1;have h12:=hsc.2.1;refine bO [0,5] [7,6] (λ(i m:Int)=>([(7,.int .i64 i),(6,.int .i64 m)],[],aD.length - i,(0<=i/\i<=aD.length)/\m=xY aD i)) [] ((0,0)) (by dsimp only;exact ⟨by omega,by rfl⟩) λi m hi Kn hN=>?_;obtain ⟨⟨i0,i1⟩,h2⟩:=hi;have hb:=VO aD i;refine iO hl ha0 ha hrg hrx ?_;(conv=>cbv);refine bn hrx λz hz _=>?_;(conv=>cbv);refine ltI (λhlt=>?_) (λhge=>?_)<;>conv=>cbv
    ·
      repeat' first
        |(refine hN _ _ [] rfl ⟨?_,?_⟩)
        |((first
       |refine iO hl ha0 ha hrg hrx ?_
       |(refine bQ (R:=Scr.cs) hrx (by omega) (λv hv=>?_);have hvr:=Ut hsc (ae hv);have hst:=λn hn=>JB (n:=n) i0 hv hn;have hab:=sU v.frm v.til;obtain ⟨v1,v2,v3⟩:=v;dsimp only at hvr hst hab)
       |refine aQ (Lc _ _ _ hvr) (λ_ _=>?_)
       |refine B0 ?_|refine B1 ?_ ?_)<;>intros<;>(try conv=>cbv))
      all_goals (try clear hN)
      all_goals first
       |omega
       |(have:=hst _ (by assumption);omega)
    ·clear hN;have hall:xY aD i=xY aD aD.length:=Qx (by omega)
     repeat' first
       |((first
      |refine iO hl ha0 ha hrg hrx ?_
      |refine bn hrx (λz2 hz2 _=>?_)
      |refine B0 ?_|refine B1 ?_ ?_)<;>intros<;>(try conv=>cbv))
     all_goals (refine hK _ (congrArg AV.str ?_);rw [hg,Hw,if_neg hk0])
     all_goals first
      |(rw [if_pos ⟨λe=>by have e:aD=[]:=e;rw [e] at hz2;simp at hz2;omega,by simp only;omega⟩];rfl)
      |(rw [if_neg (λh=>by have:=h.2;simp only at this;omega)];rfl)
      |(rw [if_neg (λh=>h.1 (cm (by simp only;omega)))];rfl)
   ·refine hK _ (congrArg AV.str ?_);rw [hg,Hw,if_pos (aw λh=>hk0 h)];rfl
  ·rw [zw,if_neg hf] at ha;refine ltT (by omega) ?_;(conv=>cbv);refine hK _ (congrArg AV.str ?_);rw [Jl hf];rfl
set_option maxHeartbeats 2000000
set_option maxHeartbeats 20000000
def aiC (p:List Int):Prop:=∃a b,p=[a,b]/\(0<=a/\a<=9999)/\0<=b/\b<=9999
theorem Oa {L:List Aid} (h:dn L) (i:Nat):0<=numAt L i/\numAt L i<=9999:=by
 unfold numAt
 cases e:L[i]? with
 |none=>simp
 |some v=>have:=(h.mem (ae e)).1;simp only [cF,bp];omega
theorem xU {L:List Aid} {os:List Obv} {z:Int} (h:dn L):(∀p∈(sO L os z).1,aiC p)/\(sO L os z).1.length<=576:=by
 unfold sO;split
 ·split
  ·split
   ·constructor
    ·intro p hp;obtain ⟨q,_,rfl⟩:=cA.1 hp;exact ⟨_,_,rfl,Oa h _,Oa h _⟩
    ·have h1:=Bz (both L os) L.length L.length;have h2:=h.2;have h3:L.length*L.length<=24*24:=fm h2 h2;simp only [al];have h4:=dm (λp=>decide (cfR L z p)) (allT (both L os) L.length L.length);omega
   ·simp
  ·simp
 ·simp
noncomputable def lfR (a:Aut):List Fdg×Int:=if (jN a).2=0 then (Z7 (jN a).1 a.full (sO (jN a).1 a.aT a.aK).1,0) else ([],(jN a).2)
theorem Oq {k:Int} {c s t:ByteArray} (h:BH k c s t):0<=k/\k<=9:=by
 rcases h with h|h<;>omega
theorem UC {l:List Int} (h:pz 1 9999 l) {i:Int} {v:Int} (hv:l[i.toNat]? =some v):1<=v/\v<=9999:=(h.of hv).1
theorem AC.aiE [St] {P:Program} {α:Type} {f:FuncId} {cs tl:List AV} {a:AV} {R:α->AV} {x:α} (h:AC P f [a,.pp cs] R x):AC P f [a,.pp (cs++tl)] R x:=
 AC.tl h rfl λi=>match i with
  |0=> .inl rfl
  |1=> .inr ⟨_,_,rfl,rfl⟩
  |_+2=> .inl rfl
theorem RS [St] (day away aK:Int) (dB:ByteArray) (bT dD bA bX bY start:Int) {bE bD bf bF aV dw bU bV:List (List AV)} {cZ cO bZ dh bN fG dU dV dA dz cK:Bool} {bJ:List Aid} {bH:List Ntc} {bq:List Fwy} {bK:List Dgr} {aT:List Obv} {full order:List Int} {works:List Wrk} (dH:bE=bJ.map (Aid.cs dA)) (dG:bD=bH.map (Ntc.cs dz)) (cB:bf=bq.map (Fwy.cs cK)) (dO:bF=bK.map Dgr.cs) (bS:aV=aT.map Obv.cs) (fI:dw=full.map aN) (fC:bU=works.map Wrk.cs) (fK:bV=order.map aN) {rs:List (List AV)} {tl bl:Bool} {L:List Aid} (hrs:rs=L.map (Aid.cs bl)) (hlo:dn L) (hf:pz 1 9999 full) (ahT:full.length<=24):AP 65 [.pp [.sl cZ 16 bE,.sl cO 20 bD,.int .i64 day,.sl bZ 5 bf,.sl dh 4 bF,.int .i64 away,.sl bN 4 aV,.int .i64 aK,.sl fG 1 dw,.str dB,.int .i64 bT,.int .i64 dD,.int .i64 bA,.int .i64 bX,.int .i64 bY,.sl dU 7 bU,.sl dV 1 bV,.int .i64 start],.sl tl 16 rs] (λl:List Fdg=> .sl true 3 (l.map Fdg.cs)) (Z7 L full (sO L aT aK).1):=by
  refine ac Tryz.func65 (.ajt _) λE K hE hK=>?_;have h24:=hlo.2;obtain ⟨ps,hps⟩:∃ps,ps=(sO L aT aK).1:=⟨_,rfl⟩
  have hpn:=xU (os:=aT) (z:=aK) hlo;rw [←hps] at hpn;have hmk:mkN.length=10:=rfl;refine bO [0,1] [6,5] (λ(k:Int) (es:List (List AV))=>([(6,.int .i64 k),(5,.ob 0)],[.row 3 es],L.length - k,(0<=k/\k<=L.length)/\es=(nI L k).map Fdg.cs)) [0] ((0,[])) (by dsimp only;exact ⟨by omega,by rfl⟩) λk es hi Kn hN=>?_;obtain ⟨⟨k0,k1⟩,h2⟩:=hi;have hrl:=um L k;refine bn hrs λm hm _=>?_;conv=>cbv
  refine ltI (λhlt=>?_) (λhge=>?_)<;>conv=>cbv
  ·refine iU hrs (by omega) λnumber name atX atY height aP aC aJ bg aO aM aB ak au aD aj rg rx hva hg hx=>?_;(conv=>cbv);have hao:=hlo.mem (ae hva);have hno:=hao.1;have hmo:=Oq hao.2.2.2.2.1;have hli:=vP hao;simp only at hno hmo hli;have hst:=λn hn=>Iq (n:=n) k0 hva hn;have hps:=Iy aP;refine aF (za _ _ _ _ _ _ _ _ _ _ _ _ _ _ hg hx) (λhk0=>?_) (λhk0=>?_)<;>conv=>cbv
   all_goals
     repeat' first
       |(refine hN _ _ [0] rfl ⟨?_,?_⟩)
       |(refine hN _ _ [1] rfl ⟨?_,?_⟩)
       |(refine hN _ _ [2] rfl ⟨?_,?_⟩)
       |(refine hN _ _ [3] rfl ⟨?_,?_⟩)
       |((first
      |refine iO hrs k0 hva hg hx ?_
      |refine dJ Xw (λrn hrn=>?_)
      |(refine bQ (R:=iQ) hrn (by omega) (λs0 hs0=>?_);have hs1:=afJ (k:=aP) (by omega) hs0)
      |refine aQ (DT number (by omega)) (λsn hsn=>?_)
      |(refine jA (R:=Fdg.cs) (v:=(⟨7,lI number,eG aP mkN⟩:Fdg)) h2 (by rw [hsn,hs1];rfl) (by omega) (λes4 FP=>?_))
      |refine aF ((aan aP _ _ _ _ hg hmo).aiE (tl:=[.sl bl 3 rx,.int .i64 aj])) (λ_=>?_) (λ_=>?_)
      |refine B0 ?_|refine B1 ?_ ?_)<;>intros<;>(try conv=>cbv))
   all_goals (try clear hN)
   all_goals first
    |omega
    |exact FP.trans (congrArg (List.map Fdg.cs) ((hst _ (by assumption)).1 ⟨hk0,by assumption⟩).symm)
    |exact h2.trans (congrArg (List.map Fdg.cs) ((hst _ (by assumption)).2 (λh=>by first|exact hk0 h.1|exact h.2 (by assumption))).symm)
  clear hN;have hkL:nI L k=nI L L.length:=NH (by omega);rw [hkL] at h2;clear hkL hrl;have hrl:=um L L.length;(refine bO [0,1] [7,5] (λ(i:Int) (es2:List (List AV))=>([(7,.int .i64 i),(5,.ob 0)],[.row 3 es2],full.length - i,(0<=i/\i<=full.length)/\es2=(nI L L.length++pF L full i).map Fdg.cs)) [0] ((0,es)) (by dsimp only;exact ⟨by omega,by rw [h2,Ig,dr]⟩) λi es2 hi2 Kn2 hN2=>?_);obtain ⟨⟨i0,i1⟩,h3⟩:=hi2;have hsl:=ug L full i;refine bn fI λm2 hm2 _=>?_;conv=>cbv
  refine ltI (λhlt2=>?_) (λagt=>?_)<;>conv=>cbv
  ·refine bQ (R:=aN) fI (by omega) λv hv=>?_;(conv=>cbv);have hvb:=UC hf hv;have hst:=λn hn=>Ih (L:=L) (n:=n) (nI L L.length) i0 hv hn;refine aQ (adA v hrs hlo) λg hg=>?_;(conv=>cbv);have hgs:=Jk L v
   repeat' first
     |(refine hN2 _ _ [0] rfl ⟨?_,?_⟩)
     |(refine hN2 _ _ [1] rfl ⟨?_,?_⟩)
     |(refine hN2 _ _ [2] rfl ⟨?_,?_⟩)
     |((first
    |refine gK (R:=aN) fI (by omega) hv ?_
    |refine aQ (DT v (by omega)) (λsn hsn=>?_)
    |(refine jA (R:=Fdg.cs) (v:=acJ L v) h3 (by rw [hsn,hg];rfl) (by simp only [am];omega) (λes4 FP=>?_))
    |refine B0 ?_|refine B1 ?_ ?_)<;>intros<;>(try conv=>cbv))
   all_goals (try clear hN2)
   all_goals first
    |omega
    |exact FP.trans (congrArg (List.map Fdg.cs) ((hst _ (by assumption)).1 (λh=>absurd (hg.trans h) (by assumption))).symm)
    |exact h3.trans (congrArg (List.map Fdg.cs) ((hst _ (by assumption)).2 (λh=>h (hg.symm.trans (by assumption)))).symm)
  clear hN2;have hiF:pF L full i=pF L full full.length:=Ni (by omega);rw [hiF] at h3;clear hiF hsl;have hsl:=ug L full full.length;refine iK (C9 hrs bS) λrp cp hrp _=>?_;conv=>cbv
  rw [←hps] at hrp;(refine bO [9] [11,5] (λ(j:Int) (es3:List (List AV))=>([(11,.int .i64 j),(5,.ob 0)],[.row 3 es3],ps.length - j,(0<=j/\j<=ps.length)/\es3=(nI L L.length++pF L full full.length++Dk ps j).map Fdg.cs)) [0] ((0,es2)) (by dsimp only;exact ⟨by omega,by rw [h3,Ju,dr]⟩) λj es3 hi3 Kn3 hN3=>?_);obtain ⟨⟨j0,j1⟩,h5⟩:=hi3;have hcl:=Gm ps j;refine bn hrp λm3 hm3 _=>?_;conv=>cbv
  refine ltI (λhlt3=>?_) (λajj=>?_)<;>conv=>cbv
  ·refine ae2 hrp (by omega) λx rx hx hrx=>?_;(conv=>cbv);have hst:=λn hn=>Jv (n:=n) (nI L L.length++pF L full full.length) j0 hx hn;obtain ⟨A,B,rfl,hA,hB⟩:=hpn.1 _ (ae hx)
   repeat' first
     |(refine hN3 _ _ [1] rfl ⟨?_,?_⟩)
     |(refine hN3 _ _ [2] rfl ⟨?_,?_⟩)
     |(refine hN3 _ _ [3] rfl ⟨?_,?_⟩)
     |((first
    |refine ae1 hrp j0 hx hrx ?_
    |refine gK (R:=aN) (i:=0) (v:=A) hrx (by decide) rfl ?_
    |refine gK (R:=aN) (i:=1) (v:=B) hrx (by decide) rfl ?_
    |refine aQ (DT A (by omega)) (λsa hsa=>?_)
    |refine aQ (DT B (by omega)) (λsb hsb=>?_)
    |(refine jA (R:=Fdg.cs) (v:=aez [A,B]) h5 (by rw [hsa,hsb];rfl) (by simp only [am];omega) (λes6 agu=>?_))
    |refine B0 ?_|refine B1 ?_ ?_)<;>intros<;>(try conv=>cbv))
   all_goals (try clear hN3)
   all_goals first
    |omega
    |exact agu.trans (congrArg (List.map Fdg.cs) (hst _ (by assumption)).symm)
  ·refine hK _ ?_;rw [h5,Z7,←hps,Qf (by omega)];rfl
set_option maxHeartbeats 2000000
set_option maxHeartbeats 20000000
noncomputable def LZ (zs:List Nat):Lay:=⟨tyT,muT,srT,λf=>qo f zs⟩
theorem acZ [St] (zs:List Nat) {f:FuncId} {fn:Func} {α:Type} {args:List AV} {R:α->AV} {x:α} (hf:Tryz.prog.funcs[f]? =some fn) (hname:(fn.name == "runtime.NumGoroutine")=false) (hn:NoB (R x))
  (h:∀(E:Env) (K:AV->Prop),SE E 0 Tryz.prog->(∀r,r=R x->K r)->MB E (LZ zs) fn args K):AC Tryz.prog f args R x:=by
 have h1:=h _ (λr=>r=R x) ⟨rfl⟩ (λ_ h=>h)
 cases hb:fn.body with
 |none=>unfold MB at h1;rw [hb] at h1;exact h1.elim
 |some c=>exact GV (L:=LZ zs) QI wide hf hname hb hn h1
--CUR impl.LightFindings
theorem E5 [St] (day away aK:Int) (dB:ByteArray) (bT dD bA bX bY start:Int) {bE bD bf bF aV dw bU bV:List (List AV)} {cZ cO bZ dh bN fG dU dV dA dz cK:Bool} {bJ:List Aid} {bH:List Ntc} {bq:List Fwy} {bK:List Dgr} {aT:List Obv} {full order:List Int} {works:List Wrk} (dH:bE=bJ.map (Aid.cs dA)) (dG:bD=bH.map (Ntc.cs dz)) (cB:bf=bq.map (Fwy.cs cK)) (dO:bF=bK.map Dgr.cs) (bS:aV=aT.map Obv.cs) (fI:dw=full.map aN) (fC:bU=works.map Wrk.cs) (fK:bV=order.map aN) (hd:∀w w',eu w w'):AC Tryz.prog 7 [.agg [.sl cZ 16 bE,.sl cO 20 bD,.int .i64 day,.sl bZ 5 bf,.sl dh 4 bF,.int .i64 away,.sl bN 4 aV,.int .i64 aK,.sl fG 1 dw,.str dB,.int .i64 bT,.int .i64 dD,.int .i64 bA,.int .i64 bX,.int .i64 bY,.sl dU 7 bU,.sl dV 1 bV,.int .i64 start]] CK (lfR (Aut.mk bJ bH day bq bK away aT aK full dB bT dD bA bX bY works order start)):=by
  refine acZ [31,37] Tryz.func7 (by kernel_rfl) (.CK _) λE K hE hK=>?_;conv=>cbv
  refine iK (R:=Aid.cs true) (k:=16) (adu _ _ _ _ _ _ _ _ _ _ (by assumption) (by assumption) (by assumption) (by assumption) (by assumption) (by assumption) (by assumption) (by assumption)) λrs c hrs hc=>?_;conv=>cbv
  refine eqI (λh0=>?_) (λh0=>?_)<;>conv=>cbv
  rotate_left
  ·refine dW 3 ?_;(conv=>cbv);exact hK _ (by rw [lfR,if_neg (by rw [←hc];exact h0),←hc];rfl)
  have hl0:(jN (Aut.mk bJ bH day bq bK away aT aK full dB bT dD bA bX bY works order start)).2=0:=by rw [←hc];exact h0
  have hok:=IX hl0;have hlo:=EZ (Aut.mk bJ bH day bq bK away aT aK full dB bT dD bA bX bY works order start);obtain ⟨L,hL⟩:∃L,L=(jN (Aut.mk bJ bH day bq bK away aT aK full dB bT dD bA bX bY works order start)).1:=⟨_,rfl⟩
  rw [←hL] at hrs hlo;have hf:=hok.2.2.1.1;have ahT:=hok.2.2.1.2;simp only at hf ahT;have h24:=hlo.2;obtain ⟨ps,hps⟩:∃ps,ps=(sO L aT aK).1:=⟨_,rfl⟩
  have hpn:=xU (os:=aT) (z:=aK) hlo;rw [←hps] at hpn;refine bn hrs λm hm _=>?_;conv=>cbv
  (refine bO [1,4,25,26] [27,6] (λ(k:Int) (es:List (List AV))=>([(27,.int .i64 k),(6,.ob 1)],[.box [.sl cZ 16 bE,.sl cO 20 bD,.int .i64 day,.sl bZ 5 bf,.sl dh 4 bF,.int .i64 away,.sl bN 4 aV,.int .i64 aK,.sl fG 1 dw,.str dB,.int .i64 bT,.int .i64 dD,.int .i64 bA,.int .i64 bX,.int .i64 bY,.sl dU 7 bU,.sl dV 1 bV,.int .i64 start],.row 3 es],L.length - k,(0<=k/\k<=L.length)/\es=(nI L k).map Fdg.cs)) [0,1] ((0,[])) (by dsimp only;exact ⟨by omega,by rfl⟩) λk es hi1 Kn1 hN1=>?_);obtain ⟨⟨k0,k1⟩,h2⟩:=hi1;have hrl:=um L k;refine ltI (λhlt=>?_) (λhge=>?_)<;>conv=>cbv
  ·refine iU hrs (by omega) λnumber name atX atY height aP aC aJ bg aO aM aB ak au aD aj rg rx hva hg hx=>?_;(conv=>cbv);have hao:=hlo.mem (ae hva);have hno:=hao.1;have hmo:=Oq hao.2.2.2.2.1;have hli:=vP hao;simp only at hno hmo hli;have hst:=λn hn=>Iq (n:=n) k0 hva hn;have hpz:=Iy aP;refine aF (ads _ _ _ _ _ _ _ _ _ _ _ _ _ _ hg hx) (λhla=>?_) (λhla=>?_)<;>conv=>cbv
   ·have hk0:aO≠0:=hli.1 hla;have hco:gZ aO aM aB ak au:=hla.1
    repeat' first
      |(refine hN1 _ _ [0,1] rfl ⟨?_,?_⟩)
      |(refine hN1 _ _ [0,2] rfl ⟨?_,?_⟩)
      |(refine hN1 _ _ [0,3] rfl ⟨?_,?_⟩)
      |(refine hN1 _ _ [0,4] rfl ⟨?_,?_⟩)
      |((first
     |refine aQ (rz number (by omega)) (λsn hsn=>?_)
     |(refine jA (R:=Fdg.cs) (v:=(⟨7,lI number,eG aP mkN⟩:Fdg)) h2 (by subst_vars;rfl) (by omega) (λes4 FP=>?_))
     |refine aF (NC aP _ _ _ _ hd hg hco hmo) (λ_=>?_) (λ_=>?_)
     |refine aQ (Xd _) (λ_ _=>?_)
     |refine B0 ?_|refine B1 ?_ ?_)<;>intros<;>(try conv=>cbv))
    all_goals (try clear hN1)
    all_goals first
     |omega
     |exact FP.trans (congrArg (List.map Fdg.cs) ((hst _ (by assumption)).1 ⟨hk0,by assumption⟩).symm)
     |exact h2.trans (congrArg (List.map Fdg.cs) ((hst _ (by assumption)).2 (λh=>h.2 (by assumption))).symm)
   ·
     repeat' first
       |(refine hN1 _ _ [0,1] rfl ⟨?_,?_⟩)
       |(refine hN1 _ _ [0,2] rfl ⟨?_,?_⟩)
       |((first
      |refine B0 ?_|refine B1 ?_ ?_)<;>intros<;>(try conv=>cbv))
     all_goals (try clear hN1)
     all_goals first
      |omega
      |exact h2.trans (congrArg (List.map Fdg.cs) ((hst _ (by assumption)).2 (λh=>hla (hli.2 h.1))).symm)
  clear hN1;have hkL:nI L k=nI L L.length:=NH (by omega);rw [hkL] at h2;clear hkL hrl;have hrl:=um L L.length;refine bn fI λm2 hm2 _=>?_;conv=>cbv
  (refine bO [1,4,55,56] [57,6] (λ(i:Int) (es2:List (List AV))=>([(57,.int .i64 i),(6,.ob 1)],[.box [.sl cZ 16 bE,.sl cO 20 bD,.int .i64 day,.sl bZ 5 bf,.sl dh 4 bF,.int .i64 away,.sl bN 4 aV,.int .i64 aK,.sl fG 1 dw,.str dB,.int .i64 bT,.int .i64 dD,.int .i64 bA,.int .i64 bX,.int .i64 bY,.sl dU 7 bU,.sl dV 1 bV,.int .i64 start],.row 3 es2],full.length - i,(0<=i/\i<=full.length)/\es2=(nI L L.length++pF L full i).map Fdg.cs)) [0,1] ((0,es)) (by dsimp only;exact ⟨by omega,by rw [h2,Ig,dr]⟩) λi es2 hi2 Kn2 hN2=>?_);obtain ⟨⟨i0,i1⟩,h3⟩:=hi2;have hsl:=ug L full i;refine ltI (λhlt2=>?_) (λagt=>?_)<;>conv=>cbv
  ·refine bQ (R:=aN) fI (by omega) λv hv=>?_;(conv=>cbv);have hvb:=UC hf hv;have hst:=λn hn=>Ih (L:=L) (n:=n) (nI L L.length) i0 hv hn;refine aQ (En v hrs hlo) λg hg=>?_;(conv=>cbv);have hgs:=Jk L v
   repeat' first
     |(refine hN2 _ _ [0,1] rfl ⟨?_,?_⟩)
     |(refine hN2 _ _ [0,2] rfl ⟨?_,?_⟩)
     |(refine hN2 _ _ [0,3] rfl ⟨?_,?_⟩)
     |((first
    |refine aQ (rz v (by omega)) (λsn hsn=>?_)
    |(refine jA (R:=Fdg.cs) (v:=acJ L v) h3 (by rw [hsn,hg];rfl) (by simp only [am];omega) (λes4 FP=>?_))
    |refine B0 ?_|refine B1 ?_ ?_)<;>intros<;>(try conv=>cbv))
   all_goals (try clear hN2)
   all_goals first
    |omega
    |exact FP.trans (congrArg (List.map Fdg.cs) ((hst _ (by assumption)).1 (λh=>absurd (hg.trans h) (by assumption))).symm)
    |exact h3.trans (congrArg (List.map Fdg.cs) ((hst _ (by assumption)).2 (λh=>h (hg.symm.trans (by assumption)))).symm)
  clear hN2;have hiF:pF L full i=pF L full full.length:=Ni (by omega);rw [hiF] at h3;clear hiF hsl;have hsl:=ug L full full.length;refine iK (Gh hrs bS) λrp cp hrp _=>?_;conv=>cbv
  rw [←hps] at hrp;refine bn hrp λm3 hm3 _=>?_;conv=>cbv
  (refine bO [83,84] [85,6] (λ(j:Int) (es3:List (List AV))=>([(85,.int .i64 j),(6,.ob 0)],[.row 3 es3],ps.length - j,(0<=j/\j<=ps.length)/\es3=(nI L L.length++pF L full full.length++Dk ps j).map Fdg.cs)) [1] ((0,es2)) (by dsimp only;exact ⟨by omega,by rw [h3,Ju,dr]⟩) λj es3 hi3 Kn3 hN3=>?_);obtain ⟨⟨j0,j1⟩,h5⟩:=hi3;have hcl:=Gm ps j;refine ltI (λhlt3=>?_) (λajj=>?_)<;>conv=>cbv
  ·refine ae2 hrp (by omega) λx rx hx hrx=>?_;(conv=>cbv);have hst:=λn hn=>Jv (n:=n) (nI L L.length++pF L full full.length) j0 hx hn;obtain ⟨A,B,rfl,hA,hB⟩:=hpn.1 _ (ae hx)
   repeat' first
     |(refine hN3 _ _ [0] rfl ⟨?_,?_⟩)
     |(refine hN3 _ _ [1] rfl ⟨?_,?_⟩)
     |(refine hN3 _ _ [2] rfl ⟨?_,?_⟩)
     |((first
    |refine gK (R:=aN) (i:=0) (v:=A) hrx (by decide) rfl ?_
    |refine gK (R:=aN) (i:=1) (v:=B) hrx (by decide) rfl ?_
    |refine aQ (rz A (by omega)) (λsa hsa=>?_)
    |refine aQ (rz B (by omega)) (λsb hsb=>?_)
    |(refine jA (R:=Fdg.cs) (v:=aez [A,B]) h5 (by rw [hsa,hsb];rfl) (by simp only [am];omega) (λes6 agu=>?_))
    |refine B0 ?_|refine B1 ?_ ?_)<;>intros<;>(try conv=>cbv))
   all_goals (try clear hN3)
   all_goals first
    |omega
    |exact agu.trans (congrArg (List.map Fdg.cs) (hst _ (by assumption)).symm)
  ·refine hK _ ?_;rw [h5,lfR,if_pos hl0,←hL,Z7,←hps,Qf (by omega)];rfl
theorem Xj [St] (day away aK:Int) (dB:ByteArray) (bT dD bA bX bY start:Int) {bE bD bf bF aV dw bU bV:List (List AV)} {cZ cO bZ dh bN fG dU dV dA dz cK:Bool} {bJ:List Aid} {bH:List Ntc} {bq:List Fwy} {bK:List Dgr} {aT:List Obv} {full order:List Int} {works:List Wrk} (dH:bE=bJ.map (Aid.cs dA)) (dG:bD=bH.map (Ntc.cs dz)) (cB:bf=bq.map (Fwy.cs cK)) (dO:bF=bK.map Dgr.cs) (bS:aV=aT.map Obv.cs) (fI:dw=full.map aN) (fC:bU=works.map Wrk.cs) (fK:bV=order.map aN):AC Tryz.prog 21 [.pp [.sl cZ 16 bE,.sl cO 20 bD,.int .i64 day,.sl bZ 5 bf,.sl dh 4 bF,.int .i64 away,.sl bN 4 aV,.int .i64 aK,.sl fG 1 dw,.str dB,.int .i64 bT,.int .i64 dD,.int .i64 bA,.int .i64 bX,.int .i64 bY,.sl dU 7 bU,.sl dV 1 bV,.int .i64 start],.int .i64 2] CK (lfR (Aut.mk bJ bH day bq bK away aT aK full dB bT dD bA bX bY works order start)):=by
  refine acL Tryz.func21 (by kernel_rfl) (.CK _) λE K hE hK=>?_;conv=>cbv
  refine aF (afQ _ _ _ _ _ _ _ _ _ _ dH dG cB dO bS fI fC fK) (λhok=>?_) (λhok=>?_)<;>conv=>cbv
  ·have hlo:=EZ (Aut.mk bJ bH day bq bK away aT aK full dB bT dD bA bX bY works order start);(obtain ⟨L,hL⟩:∃L,L=(jN (Aut.mk bJ bH day bq bK away aT aK full dB bT dD bA bX bY works order start)).1:=⟨_,rfl⟩);rw [←hL] at hlo
   repeat' first
     |((first
    |(refine iK (R:=Aid.cs true) (k:=16) (aae _ _ _ _ _ _ _ _ _ _ (by assumption) (by assumption) (by assumption) (by assumption) (by assumption) (by assumption) (by assumption) (by assumption) hok) (λrs c hrs hc=>?_);rw [←hL] at hrs)
    |refine eqI (a:=c) (b:=0) (λh0=>?_) (λh0=>?_)
    |refine dJ (RS _ _ _ _ _ _ _ _ _ _ (by assumption) (by assumption) (by assumption) (by assumption) (by assumption) (by assumption) (by assumption) (by assumption) hrs hlo hok.2.2.1.1 hok.2.2.1.2) (λrs2 gY=>?_)
    |refine dW 3 ?_
    |refine B0 ?_|refine B1 ?_ ?_)<;>intros<;>(try conv=>cbv))
   all_goals first
    |(refine hK _ ?_;rw [lfR,if_pos (by rw [←hc];exact h0),gY,←hL];rfl)
    |(refine hK _ ?_;rw [lfR,if_neg (by rw [←hc];exact h0),←hc];rfl)
  ·(have e:jN (Aut.mk bJ bH day bq bK away aT aK full dB bT dD bA bX bY works order start)=([],1):=by rw [jN,if_neg hok]);refine dW 3 ?_;(conv=>cbv);exact hK _ (by rw [lfR,if_neg (by rw [e];decide),e];rfl)
theorem C8 [St] (day away aK:Int) (dB:ByteArray) (bT dD bA bX bY start:Int) {bE bD bf bF aV dw bU bV:List (List AV)} {cZ cO bZ dh bN fG dU dV dA dz cK:Bool} {bJ:List Aid} {bH:List Ntc} {bq:List Fwy} {bK:List Dgr} {aT:List Obv} {full order:List Int} {works:List Wrk} (dH:bE=bJ.map (Aid.cs dA)) (dG:bD=bH.map (Ntc.cs dz)) (cB:bf=bq.map (Fwy.cs cK)) (dO:bF=bK.map Dgr.cs) (bS:aV=aT.map Obv.cs) (fI:dw=full.map aN) (fC:bU=works.map Wrk.cs) (fK:bV=order.map aN):AP 5 [.agg [.sl cZ 16 bE,.sl cO 20 bD,.int .i64 day,.sl bZ 5 bf,.sl dh 4 bF,.int .i64 away,.sl bN 4 aV,.int .i64 aK,.sl fG 1 dw,.str dB,.int .i64 bT,.int .i64 dD,.int .i64 bA,.int .i64 bX,.int .i64 bY,.sl dU 7 bU,.sl dV 1 bV,.int .i64 start]] CK (lfR (Aut.mk bJ bH day bq bK away aT aK full dB bT dD bA bX bY works order start)):=by
 refine ac Tryz.func5 (.CK _) λE K hE hK=>?_;refine iK (R:=Fdg.cs) (k:=3) (Xj _ _ _ _ _ _ _ _ _ _ dH dG cB dO bS fI fC fK) λrs c hrs hc=>?_;conv=>cbv
 exact hK _ (by rw [hrs,hc];rfl)
theorem adv (a:Aut):(lfR a).1.length<=704:=by
 unfold lfR;split
 ·rename_i h;have hok:=IX h;have hlo:=EZ a;have h24:=hlo.2;have hf:=hok.2.2.1.2;have h1:=um (jN a).1 (jN a).1.length;have h2:=ug (jN a).1 a.full a.full.length;have h3:=Gm (sO (jN a).1 a.aT a.aK).1 (sO (jN a).1 a.aT a.aK).1.length;have h4:=(xU (os:=a.aT) (z:=a.aK) hlo).2;unfold Z7;simp only [am];omega
 ·simp
theorem AO [St] (day away aK:Int) (dB:ByteArray) (bT dD bA bX bY start:Int) {bE bD bf bF aV dw bU bV:List (List AV)} {cZ cO bZ dh bN fG dU dV dA dz cK:Bool} {bJ:List Aid} {bH:List Ntc} {bq:List Fwy} {bK:List Dgr} {aT:List Obv} {full order:List Int} {works:List Wrk} (dH:bE=bJ.map (Aid.cs dA)) (dG:bD=bH.map (Ntc.cs dz)) (cB:bf=bq.map (Fwy.cs cK)) (dO:bF=bK.map Dgr.cs) (bS:aV=aT.map Obv.cs) (fI:dw=full.map aN) (fC:bU=works.map Wrk.cs) (fK:bV=order.map aN) (hd:∀w w',eu w w'):AP 3 [.agg [.sl cZ 16 bE,.sl cO 20 bD,.int .i64 day,.sl bZ 5 bf,.sl dh 4 bF,.int .i64 away,.sl bN 4 aV,.int .i64 aK,.sl fG 1 dw,.str dB,.int .i64 bT,.int .i64 dD,.int .i64 bA,.int .i64 bX,.int .i64 bY,.sl dU 7 bU,.sl dV 1 bV,.int .i64 start]] id (.bool true):=by
  refine a0 Tryz.func3 λE K hE hK=>?_;refine aQ (J3 _ _ _ _ _ _ _ _ _ _ dH dG cB dO bS fI fC fK _ (by decide)) λz hz=>?_;have hz2:=gQ hz;clear hz;conv=>cbv
  refine ltI (λhlt=>?_) (λhge=>?_)<;>conv=>cbv
  ·exact hK _ rfl
  have hsz:Aut.sz (Aut.mk bJ bH day bq bK away aT aK full dB bT dD bA bX bY works order start)<=1048576:=by omega
  have hvl:=adv (Aut.mk bJ bH day bq bK away aT aK full dB bT dD bA bX bY works order start)
  repeat' first
    |((first
   |(refine iY (EW _ _ _ _ _ _ _ _ _ _ (by assumption) (by assumption) (by assumption) (by assumption) (by assumption) (by assumption) (by assumption) (by assumption) _ (by omega) hsz) ?_;rintro _ _ ⟨n9,hn9,rfl,rfl⟩)
   |(refine iY (He _ (by assumption) (by omega) (by omega)) ?_;rintro _ _ ⟨n,rs',hn,ahH,rfl,rfl⟩)
   |refine aeG (JR _ _ _ _ _ _ _ _ _ _ dH dG cB dO bS fI fC fK hsz) (λ_ _ _ _ _ _ _ _ _ _ _ _ _ _ _ _=>?_)
   |refine iK (R:=Fdg.cs) (k:=3) (C8 _ _ _ _ _ _ _ _ _ _ (by assumption) (by assumption) (by assumption) (by assumption) (by assumption) (by assumption) (by assumption) (by assumption)) (λ_ _ _ _=>?_)
   |refine iK (R:=Fdg.cs) (k:=3) (E5 _ _ _ _ _ _ _ _ _ _ (by assumption) (by assumption) (by assumption) (by assumption) (by assumption) (by assumption) (by assumption) (by assumption) hd) (λ_ _ _ _=>?_)
   |refine qB (LB _ _ _ _ _ _ _ _ _ _ _ _ _ _ _ _ _ _ _ _ (by assumption) (by assumption) (by assumption) (by assumption) (by assumption) (by assumption) (by assumption) (by assumption) (by assumption) (by assumption) (by assumption) (by assumption) (by assumption) (by assumption) (by assumption) (by assumption)) rfl ?_
   |refine qB (P5 (by assumption) (by assumption)) rfl ?_
   |refine Ij (by subst_vars;simp only [al,Fdg.jX];first|done|omega) ?_
   |refine aQ (Hr _ (by assumption) (by omega) (by omega)) (λ_ _=>?_)
   |refine B0 ?_|refine B1 ?_ ?_)<;>intros<;>(try conv=>cbv))
  all_goals first
   |exact hK _ rfl
   |omega
theorem y9 [St] (hS:¬St.S) (a:Aut):AC Tryz.prog 3 [.agg (a.cs false)] id (.bool true):=
 AO a.day a.away a.aK a.dB a.bT a.dD a.bA a.bX a.bY a.start rfl rfl rfl rfl rfl rfl rfl rfl (dle hS)
end Go.Proofs.YtnlhnideeaobpaaGreatDoor
