/- Findings of channels: plain laws, names and texts, the findings of a fairway; Contracts: the findings of all fairways by the reference; Contracts: findings of channels; the law. -/
import Derived.Test.YtpfddoikhmbebaaGreatDoorQn
import Derived.Test.YtpfddoikhmbebaaGreatDoorFA
import Derived.Test.YtpfddoikhmbebaaGreatDoorQl
import Derived.Test.YtpfddoikhmbebaaGreatDoorGmk
import Derived.Test.YtpfddoikhmbebaaGreatDoorLfe
namespace Go.Proofs.YtpfddoikhmbebaaGreatDoor
open Go Go.RowKit Classical
set_option maxRecDepth 100000
set_option maxHeartbeats 2000000
set_option linter.unusedVariables false
set_option linter.unusedSimpArgs false
set_option maxHeartbeats 4000000
def mkN:List ByteArray:=["none", "left", "right", "north", "east", "south", "west", "danger", "safe", "special"].map String.toUTF8
theorem mkN_size {s:ByteArray} (h:s∈mkN):s.size<=10:=by
  have:∀s∈mkN,s.size<=10:=by decide +kernel
  exact this s h
theorem pick_size (k:Int):(pickS k mkN).size<=10:=by
  unfold pickS
  split
  · rename_i h
    rw [List.getD_eq_getElem?_getD,List.getElem?_eq_getElem (by omega)]
    exact mkN_size (List.getElem_mem _)
  · exact (by decide:(⟨#[]⟩:ByteArray).size<=10)
def ptT (x y:Int):ByteArray:=decS x++⟨#[44]⟩++decS y
theorem ptT_size {x y:Int} (h:PtOk x y):(ptT x y).size<=50:=by
  unfold PtOk at h
  unfold ptT
  have z1:=decS_size (n:=x) (by omega)
  have z2:=decS_size (n:=y) (by omega)
  have z44:(⟨#[44]⟩:ByteArray).size=1:=rfl
  simp only [ByteArray.size_append,z44]
  omega
theorem markName_ (k:Int):AC Tryz.prog 72 [.int .i64 k] AV.str (pickS k mkN):=by
  refine ac Tryz.func72 (.str _) λE K hE hK=>?_
  conv=>cbv
  repeat' first
    |((first
   |refine q0 hE ?_
   |refine callI hE (npick_ (es:=mkN) k (by rfl)) (λ_ _=>?_)
   |refine B0 hE ?_|refine B1 hE ?_ ?_|refine B2 hE ?_)<;>intros<;>(try conv=>cbv))
  exact hK _ (by simp_all [atup])
theorem l11Names_:AC Tryz.prog 106 [] (λl:List ByteArray=> .sl true 1 (l.map strR)) mkN:=by
  refine ac Tryz.func106 (.strs _) λE K hE hK=>?_
  conv=>cbv
  repeat' first
    |((first
   |refine q0 hE ?_
   |refine B0 hE ?_|refine B1 hE ?_ ?_|refine B2 hE ?_)<;>intros<;>(try conv=>cbv))
  exact hK _ rfl
theorem pointText_ (x y:Int) (h:PtOk x y):AC Tryz.prog 73 [.agg [.int .i64 x,.int .i64 y]] AV.str (ptT x y):=by
  refine ac Tryz.func73 (.str _) λE K hE hK=>?_
  conv=>cbv
  refine callPT hE (validPoint_ x y) h ?_
  conv=>cbv
  unfold PtOk at h
  have z1:=decS_size (n:=x) (by omega)
  have z2:=decS_size (n:=y) (by omega)
  have z44:(⟨⟨[44]⟩⟩:ByteArray).size=1:=rfl
  repeat' first
    |((first
   |(refine scatI hE (by subst_vars;(try simp only [ByteArray.size_append]);omega) (λ_ _ _=>?_))
   |refine q0 hE ?_
   |refine callI hE (decimal_ _ (by omega)) (λ_ _=>?_)
   |refine B0 hE ?_|refine B1 hE ?_ ?_|refine B2 hE ?_)<;>intros<;>(try conv=>cbv))
  all_goals (refine hK _ ?_;subst_vars;rfl)
theorem l02Text_ (x y:Int) (h:PtOk x y):AC Tryz.prog 107 [.agg [.int .i64 x,.int .i64 y]] AV.str (ptT x y):=by
  refine ac Tryz.func107 (.str _) λE K hE hK=>?_
  conv=>cbv
  unfold PtOk at h
  have z1:=decS_size (n:=x) (by omega)
  have z2:=decS_size (n:=y) (by omega)
  have z44:(⟨⟨[44]⟩⟩:ByteArray).size=1:=rfl
  repeat' first
    |((first
   |(refine scatI hE (by subst_vars;(try simp only [ByteArray.size_append]);omega) (λ_ _ _=>?_))
   |refine q0 hE ?_
   |refine callI hE (l01Dec_ _ (by omega)) (λ_ _=>?_)
   |refine B0 hE ?_|refine B1 hE ?_ ?_|refine B2 hE ?_)<;>intros<;>(try conv=>cbv))
  all_goals (refine hK _ ?_;subst_vars;rfl)
def missD (n:ByteArray) (v:Buo):Fdg:=⟨2,n,pickS v.kind mkN++⟨#[32]⟩++ptT v.atX v.atY⟩
noncomputable section
def Fwy.miss (f:Fwy) (l:List Aid):List Buo:=missR f.name f.line f.width f.spacing f.tolerance (buoysL l l.length)
def Fwy.wrong (f:Fwy) (v:Aid):Prop:=v.lateral/\(nearR f.line v.atX v.atY).2<=f.width/\¬(v.mKind=1↔sideR f.line v.atX v.atY=1)
def wrongL (f:Fwy) (l:List Aid) (j:Int):List Fdg:=(selI f.wrong l j).map λv=>⟨3,f.name,decS v.number⟩
def missL (f:Fwy) (l:List Aid) (j:Int):List Fdg:=((f.miss l).take j.toNat).map (missD f.name)
def fwF (l:List Aid) (f:Fwy):List Fdg:=missL f l (f.miss l).length++wrongL f l l.length
def chF (fs:List Fwy) (l:List Aid) (j:Int):List Fdg:=(fs.take j.toNat).flatMap (fwF l)
end
theorem miss_len (f:Fwy) (l:List Aid):(f.miss l).length<=64:=Nat.le_trans (rej_len _ _) (buoysR_len _ _ _ _)
theorem miss_ok {f:Fwy} {l:List Aid} {v:Buo} (h:v∈f.miss l):PtOk v.atX v.atY/\(v.kind=1∨v.kind=2):=buoysR_pt (List.mem_filter.1 (show v∈List.filter _ _ from h)).1
theorem wrongL_len (f:Fwy) (l:List Aid) (j:Int):(wrongL f l j).length<=l.length:=by unfold wrongL;rw [List.length_map];exact selI_len _ _ _
theorem missL_len (f:Fwy) (l:List Aid) (j:Int):(missL f l j).length<=64:=by
  unfold missL
  rw [List.length_map,List.length_take]
  have:=miss_len f l
  omega
theorem fwF_len (f:Fwy) (l:List Aid):(fwF l f).length<=64+l.length:=by
  unfold fwF
  rw [List.length_append]
  have h1:=missL_len f l (f.miss l).length
  have h2:=wrongL_len f l l.length
  omega
theorem chF_len (fs:List Fwy) (l:List Aid) (j:Int):(chF fs l j).length<=fs.length*(64+l.length):=by
  have h:∀gs:List Fwy,(gs.flatMap (fwF l)).length<=gs.length*(64+l.length):=λgs=>by
    induction gs with
    |nil=>simp
    | cons g gs ih=>
      rw [List.flatMap_cons,List.length_append,List.length_cons,Nat.add_mul]
      have:=fwF_len g l
      omega
  refine Nat.le_trans (h _) (Nat.mul_le_mul_right _ ?_)
  rw [List.length_take];omega
theorem chF_step {fs:List Fwy} {l:List Aid} {i n:Int} {f:Fwy} (h0:0<=i) (hv:fs[i.toNat]? =some f) (hn:n=i+1):chF fs l n=chF fs l i++fwF l f:=by
  unfold chF
  rw [show n.toNat=i.toNat+1 by omega,List.take_add_one,hv];simp
theorem missL_step {f:Fwy} {l:List Aid} {i n:Int} {v:Buo} (h0:0<=i) (hv:(f.miss l)[i.toNat]? =some v) (hn:n=i+1):missL f l n=missL f l i++[missD f.name v]:=by
  unfold missL
  rw [show n.toNat=i.toNat+1 by omega,List.take_add_one,hv];simp
theorem wrongL_step {f:Fwy} {l:List Aid} {i n:Int} {v:Aid} (h0:0<=i) (hv:l[i.toNat]? =some v) (hn:n=i+1):(f.wrong v->wrongL f l n=wrongL f l i++[⟨3,f.name,decS v.number⟩])/\(¬f.wrong v->wrongL f l n=wrongL f l i):=by
  have h:=selI_step f.wrong h0 hv hn
  unfold wrongL
  constructor
  · intro hp;rw [h.1 hp];simp
  · intro hp;rw [h.2 hp]
theorem wrongL_all {f:Fwy} {l:List Aid} {i:Int} (h:l.length<=i):wrongL f l i=wrongL f l l.length:=by unfold wrongL;rw [selI_all h,selI_all (by omega)]
theorem selI_mem {α:Type} {p:α->Prop} {l:List α} {i:Int} {v:α} (h:v∈selI p l i):v∈l/\p v:=by
  obtain ⟨h1,h2⟩:=List.mem_filter.1 h
  exact ⟨List.mem_of_mem_take h1,bP_true.1 h2⟩
theorem buoysL_ok {l:List Aid} (h:AidsOk l):BuosOk (buoysL l l.length):=by
  refine ⟨λv hv=>?_,?_⟩
  · unfold buoysL at hv
    obtain ⟨a,ha,rfl⟩:=List.mem_map.1 hv
    obtain ⟨h1,h2⟩:=selI_mem ha
    have ho:=(h.mem h1).2.2.1
    refine ⟨ho,?_⟩
    rcases h2 with h2|h2<;>(unfold Aid.buo;simp only;omega)
  · have:=buoysL_len l l.length
    have:=h.2
    omega
theorem AC.tlH {P:Program} {α:Type} {f:FuncId} {cs tl us:List AV} {R:α->AV} {x:α} (h:AC P f (.pp cs::us) R x):AC P f (.pp (cs++tl)::us) R x:=
  AC.tl h (by simp) λi=>match i with
    |0=> .inr ⟨cs,tl,rfl,rfl⟩
    |_+1=> .inl rfl
theorem mkN_at {k:Int} {s:ByteArray} (h0:0<=k/\k<10) (hs:mkN[k.toNat]? =some s):s=pickS k mkN:=by
  unfold pickS
  rw [if_pos (by exact ⟨h0.1,h0.2⟩),List.getD_eq_getElem?_getD,hs];rfl
theorem missL_zero (f:Fwy) (l:List Aid):missL f l 0=[]:=rfl
theorem wrongL_zero (f:Fwy) (l:List Aid):wrongL f l 0=[]:=rfl
theorem miss_next {A:List Fdg} {f:Fwy} {l:List Aid} {i n:Int} {v:Buo} (h0:0<=i) (hv:(f.miss l)[i.toNat]? =some v) (hn:n=i+1):A++missL f l n=(A++missL f l i)++[missD f.name v]:=by
  rw [missL_step h0 hv hn,List.append_assoc]
theorem wrong_next {A:List Fdg} {f:Fwy} {l:List Aid} {i n:Int} {v:Aid} (h0:0<=i) (hv:l[i.toNat]? =some v) (hn:n=i+1):(f.wrong v->A++wrongL f l n=(A++wrongL f l i)++[⟨3,f.name,decS v.number⟩])/\(¬f.wrong v->A++wrongL f l n=A++wrongL f l i):=by
  have h:=wrongL_step (f:=f) h0 hv hn
  exact ⟨λhp=>by rw [h.1 hp,List.append_assoc],λhp=>by rw [h.2 hp]⟩
theorem fw_end {A:List Fdg} {f:Fwy} {l:List Aid} {M:List Buo} {j:Int} (hM:M=f.miss l) (hj:l.length<=j):A++missL f l M.length++wrongL f l j=A++fwF l f:=by
  rw [fwF,wrongL_all hj,hM,List.append_assoc]
set_option maxHeartbeats 2000000
set_option maxHeartbeats 20000000
theorem idxBuo {E:Env} {np:Nat} {P:Program} (hE:E=stdE np P) {es:List (List AV)} {i:Int} {K:List AV->Prop} {l:List Buo} (hl:es=l.map Buo.cs) (h0:0<=i/\i<l.length) (hk:∀a b c:Int,l[i.toNat]? =some ⟨a,b,c⟩->K [.int .i64 a,.int .i64 b,.int .i64 c]):E.idx es i K:=
  idxL hE hl h0 λv hv=>by obtain ⟨a,b,c⟩:=v;exact hk a b c hv
theorem l31Channels_ (day away tolerance:Int) (sName:ByteArray) (sSpeed sLoad sDraught bX bY start:Int) {r_edition r_notices r_fairways r_dangers r_observers r_full r_works r_order:List (List AV)} {t_edition t_notices t_fairways t_dangers t_observers t_full t_works t_order b_edition b_notices b_fairways:Bool} {edition:List Aid} {notices:List Ntc} {fairways:List Fwy} {dangers:List Dgr} {observers:List Obv} {full order:List Int} {works:List Wrk} (h_edition:r_edition=edition.map (Aid.cs b_edition)) (h_notices:r_notices=notices.map (Ntc.cs b_notices)) (h_fairways:r_fairways=fairways.map (Fwy.cs b_fairways)) (h_dangers:r_dangers=dangers.map Dgr.cs) (h_observers:r_observers=observers.map Obv.cs) (h_full:r_full=full.map intR) (h_works:r_works=works.map Wrk.cs) (h_order:r_order=order.map intR) {rs:List (List AV)} {tl bl:Bool} {L:List Aid} (hrs:rs=L.map (Aid.cs bl)) (hlo:AidsOk L) (hall:∀v∈fairways,v.ok) (h8:fairways.length<=8):AC Tryz.prog 59 [.pp [.sl t_edition 16 r_edition,.sl t_notices 20 r_notices,.int .i64 day,.sl t_fairways 5 r_fairways,.sl t_dangers 4 r_dangers,.int .i64 away,.sl t_observers 4 r_observers,.int .i64 tolerance,.sl t_full 1 r_full,.str sName,.int .i64 sSpeed,.int .i64 sLoad,.int .i64 sDraught,.int .i64 bX,.int .i64 bY,.sl t_works 7 r_works,.sl t_order 1 r_order,.int .i64 start],.sl tl 16 rs] (λl:List Fdg=> .sl true 3 (l.map Fdg.cs)) (chF fairways L fairways.length):=by
  refine ac Tryz.func59 (.fdgs _) λE K hE hK=>?_
  conv=>cbv
  have h24:=hlo.2
  have z32:(⟨⟨[32]⟩⟩:ByteArray).size=1:=rfl
  refine callR hE (l31Buoys_ hrs (by omega)) λrb hrb=>?_
  conv=>cbv
  refine loop2 hE [0,1,6] [7,5] (λ(i:Int) (es:List (List AV))=>([(7,.int .i64 i),(5,.ob 0)],[.row 3 es,.row 3 rb],fairways.length - i,(0<=i/\i<=fairways.length)/\es=(chF fairways L i).map Fdg.cs)) [0,1] ((0,[])) rfl rfl (by dsimp only;exact ⟨by omega,by rfl⟩) λi es hi Kn hN=>?_
  (try dsimp only at hi)
  conv=>cbv
  obtain ⟨⟨i0,i1⟩,h2⟩:=hi
  have hcl:(chF fairways L i).length<=8*88:=Nat.le_trans (chF_len fairways L i) (Nat.mul_le_mul h8 (by omega))
  refine lenL hE h_fairways λm hm _=>?_
  conv=>cbv
  refine ltI hE (λhlt=>?_) (λhge=>?_)<;>conv=>cbv
  rotate_left
  · refine hK _ ?_
    rw [h2,show i=fairways.length by omega];rfl
  have hq:0<=i/\i<fairways.length:=by omega
  refine idxFwy hE h_fairways hq λf1 f2 f3 f4 f5 rln hv hln=>?_
  conv=>cbv
  obtain ⟨hf1,hf2⟩:=hall _ (List.mem_of_getElem? hv)
  simp only at hf1 hf2
  have hst:=λn hn=>chF_step (l:=L) (n:=n) i0 hv hn
  obtain ⟨F,hF⟩:∃F:Fwy,F=⟨f1,f2,f3,f4,f5⟩:=⟨_,rfl⟩
  rw [←hF] at hst
  have hch:=gatesR_chn hf1
  have hbk:=buoysL_ok hlo
  obtain ⟨M,hM⟩:∃M,M=F.miss L:=⟨_,rfl⟩
  have hM0:missR f1 f2 f3 f4 f5 (buoysL L L.length)=M:=by rw [hM,hF];rfl
  have hMl:M.length<=64:=by rw [hM];exact miss_len F L
  have hMo:∀v∈M,PtOk v.atX v.atY/\(v.kind=1∨v.kind=2):=λv hv=>miss_ok (by rw [←hM];exact hv)
  have hmk:mkN.length=10:=rfl
  refine callLI (R:=Buo.cs) (k:=3) hE (AC.tlH (l13Missing_ f1 f3 f4 f5 hln hrb hbk hf1 hf2)) λrm c hrm _=>?_
  conv=>cbv
  rw [hM0] at hrm
  replace hrm:rm=M.map Buo.cs:=hrm
  (refine loop2 hE [0,1,6,7,8,9] [11,5] (λ(k:Int) (es2:List (List AV))=>([(11,.int .i64 k),(5,.ob 0)],[.row 3 es2,.row 3 rb],M.length - k,(0<=k/\k<=M.length)/\es2=(chF fairways L i++missL F L k).map Fdg.cs)) [0,1] ((0,es)) rfl rfl (by dsimp only;exact ⟨by omega,by rw [h2,missL_zero,List.append_nil]⟩) λk es2 hi2 Kn2 hN2=>?_;(try dsimp only at hi2);conv=>cbv)
  obtain ⟨⟨k0,k1⟩,h3⟩:=hi2
  have hml:=missL_len F L k
  refine lenL hE hrm λm2 hm2 _=>?_
  conv=>cbv
  refine ltI hE (λhlt2=>?_) (λhge2=>?_)<;>conv=>cbv
  · clear hN hst hq hv
    have hms:=λA n v hv hn=>miss_next (A:=A) (f:=F) (l:=L) (n:=n) (v:=v) k0 (by rw [←hM];exact hv) hn
    repeat' first
      |(refine idxBuo hE hrm (by omega) (λb1 b2 b3 hvb=>?_);(conv=>cbv);have hvo:=hMo _ (List.mem_of_getElem? hvb);have hms:=λA n=>hms A n _ hvb;simp only at hvo;have hps:=pick_size b3;have hpz:=ptT_size hvo.1)
      |(refine hN2 (_,_) _ [2,1] (by decide) rfl ⟨?_,?_⟩ ?_<;>(try dsimp only))
      |(refine hN2 (_,_) _ [3,1] (by decide) rfl ⟨?_,?_⟩ ?_<;>(try dsimp only))
      |(refine hN2 (_,_) _ [4,1] (by decide) rfl ⟨?_,?_⟩ ?_<;>(try dsimp only))
      |((first
     |refine callR hE l11Names_ (λrn hrn=>?_)
     |refine idxV (R:=Buo.cs) hE hrm (by omega) hvb ?_
     |(refine idxL (R:=strR) hE hrn (by omega) (λs0 hs0=>?_);have hs1:=mkN_at (k:=b3) (by omega) hs0)
     |(refine scatI hE (by subst_vars;(try simp only [ByteArray.size_append]);omega) (λs3 hs3 _=>?_))
     |(refine catP (R:=Fdg.cs) (v:=(⟨2,f1,s3⟩:Fdg)) hE h3 rfl (by simp only [List.length_append];omega) (λes4 hes4=>?_);have hmd:(⟨2,f1,s3⟩:Fdg)=missD F.name ⟨b1,b2,b3⟩:=(by subst_vars;rfl);rw [hmd] at hes4)
     |refine q0 hE ?_
     |refine callI hE (l02Text_ _ _ hvo.1) (λ_ _=>?_)
     |refine B0 hE ?_|refine B1 hE ?_ ?_|refine B2 hE ?_)<;>intros<;>(try conv=>cbv))
    all_goals (try clear hN2)
    all_goals first
      |omega
      |exact hes4.trans (congrArg (List.map Fdg.cs) (hms _ _ (by assumption)).symm)
  clear hN2
  have hkM:k=M.length:=by omega
  (refine loop2 hE [0,1,6,7,8] [12,5] (λ(j:Int) (es3:List (List AV))=>([(12,.int .i64 j),(5,.ob 0)],[.row 3 es3,.row 3 rb],L.length - j,(0<=j/\j<=L.length)/\es3=(chF fairways L i++missL F L M.length++wrongL F L j).map Fdg.cs)) [0,1] ((0,es2)) rfl rfl (by dsimp only;exact ⟨by omega,by rw [h3,wrongL_zero,List.append_nil,hkM]⟩) λj es3 hi3 Kn3 hN3=>?_;(try dsimp only at hi3);conv=>cbv)
  obtain ⟨⟨j0,j1⟩,h5⟩:=hi3
  clear h3 hml hkM
  have hml:=missL_len F L M.length
  have hwl:=wrongL_len F L j
  refine lenL hE hrs λm3 hm3 _=>?_
  conv=>cbv
  refine ltI hE (λhlt3=>?_) (λhge3=>?_)<;>conv=>cbv
  · clear hN hst hq hv
    refine idxAid hE hrs (by omega) λnumber name atX atY height mKind mColors mShape mTop lKind lGroup lLetter lColors lPeriod sectors intensity rg rx hva hg hx=>?_
    conv=>cbv
    have hao:=hlo.mem (List.mem_of_getElem? hva)
    have hpt:=hao.2.2.1
    have hno:=hao.1
    simp only at hpt hno
    have hws:=λA n hn=>wrong_next (A:=A) (f:=F) (l:=L) (n:=n) j0 hva hn
    have j0':0<=j:=j0
    refine callII hE (l13Nearest_ atX atY hln hch.1 hch.2.2.1 hpt) λnk nd _ hnd=>?_
    conv=>cbv
    simp only at hnd
    refine idxAidV hE hrs j0' hva hg hx ?_
    conv=>cbv
    refine callI hE (AC.tlH (l13Side_ f1 f3 atX atY hln hch.1 hch.2.2.1 hpt)) λsd hsd=>?_
    conv=>cbv
    refine idxAidV hE hrs j0' hva hg hx ?_
    conv=>cbv
    have hW:F.wrong ⟨number,name,atX,atY,height,mKind,mColors,mShape,mTop,lKind,lGroup,lLetter,lColors,lPeriod,sectors,intensity⟩↔(mKind=1∨mKind=2)/\nd<=f3/\¬(mKind=1↔sd=1):=by
      rw [hnd,hsd,hF];exact Iff.rfl
    refine callP hE (l31Lateral_ _ _ _ _ _ _ _ _ _ _ _ _ _ _ hg hx) (λhla=>?_) (λhla=>?_)<;>conv=>cbv
    all_goals (simp only [Aid.lateral] at hla)
    repeat' first
      |(refine hN3 (_,_) _ [0,1] (by decide) rfl ⟨?_,?_⟩ ?_<;>(try dsimp only))
      |(refine hN3 (_,_) _ [2,1] (by decide) rfl ⟨?_,?_⟩ ?_<;>(try dsimp only))
      |(refine hN3 (_,_) _ [3,1] (by decide) rfl ⟨?_,?_⟩ ?_<;>(try dsimp only))
      |((first
     |refine idxAidV hE hrs j0' hva hg hx ?_
     |refine callI hE (l01Dec_ number (by omega)) (λsn hsn=>?_)
     |(refine catP (R:=Fdg.cs) (v:=(⟨3,f1,sn⟩:Fdg)) hE h5 rfl (by simp only [List.length_append];omega) (λes6 hes6=>?_);have hmd:(⟨3,f1,sn⟩:Fdg)=⟨3,F.name,decS number⟩:=(by subst_vars;rfl);rw [hmd] at hes6)
     |refine q0 hE ?_
     |refine B0 hE ?_|refine B1 hE ?_ ?_|refine B2 hE ?_)<;>intros<;>(try conv=>cbv))
    all_goals (try clear hN3)
    all_goals first
      |omega
      |exact hes6.trans (congrArg (List.map Fdg.cs) ((hws _ _ (by assumption)).1 (hW.2 (by omega))).symm)
      |exact h5.trans (congrArg (List.map Fdg.cs) ((hws _ _ (by assumption)).2 (λhw=>by have:=hW.1 hw;omega)).symm)
  · clear hN3
    repeat' first
      |(refine hN (_,_) _ [0,1] (by decide) rfl ⟨?_,?_⟩ ?_<;>(try dsimp only))
      |((first
     |refine q0 hE ?_
     |refine B0 hE ?_|refine B1 hE ?_ ?_|refine B2 hE ?_)<;>intros<;>(try conv=>cbv))
    all_goals (try clear hN)
    all_goals first
      |omega
      |exact h5.trans (congrArg (List.map Fdg.cs) ((fw_end hM (by omega)).trans (hst _ (by assumption)).symm))
set_option maxHeartbeats 2000000
set_option maxHeartbeats 4000000
noncomputable def cfR (a:Aut):List Fdg×Int:=if (listR a).2=0 then (chF a.fairways (listR a).1 a.fairways.length,0) else ([],(listR a).2)
theorem l31Part1_ (day away tolerance:Int) (sName:ByteArray) (sSpeed sLoad sDraught bX bY start:Int) {r_edition r_notices r_fairways r_dangers r_observers r_full r_works r_order:List (List AV)} {t_edition t_notices t_fairways t_dangers t_observers t_full t_works t_order b_edition b_notices b_fairways:Bool} {edition:List Aid} {notices:List Ntc} {fairways:List Fwy} {dangers:List Dgr} {observers:List Obv} {full order:List Int} {works:List Wrk} (h_edition:r_edition=edition.map (Aid.cs b_edition)) (h_notices:r_notices=notices.map (Ntc.cs b_notices)) (h_fairways:r_fairways=fairways.map (Fwy.cs b_fairways)) (h_dangers:r_dangers=dangers.map Dgr.cs) (h_observers:r_observers=observers.map Obv.cs) (h_full:r_full=full.map intR) (h_works:r_works=works.map Wrk.cs) (h_order:r_order=order.map intR):AC Tryz.prog 21 [.pp [.sl t_edition 16 r_edition,.sl t_notices 20 r_notices,.int .i64 day,.sl t_fairways 5 r_fairways,.sl t_dangers 4 r_dangers,.int .i64 away,.sl t_observers 4 r_observers,.int .i64 tolerance,.sl t_full 1 r_full,.str sName,.int .i64 sSpeed,.int .i64 sLoad,.int .i64 sDraught,.int .i64 bX,.int .i64 bY,.sl t_works 7 r_works,.sl t_order 1 r_order,.int .i64 start],.int .i64 1] fdgLI (cfR (Aut.mk edition notices day fairways dangers away observers tolerance full sName sSpeed sLoad sDraught bX bY works order start)):=by
  refine acL Tryz.func21 (by kernel_rfl) (.fdgLI _) λE K hE hK=>?_
  conv=>cbv
  refine callP hE (l31Ok_ _ _ _ _ _ _ _ _ _ _ h_edition h_notices h_fairways h_dangers h_observers h_full h_works h_order) (λhok=>?_) (λhok=>?_)<;>conv=>cbv
  · have hlo:=listR_ok (Aut.mk edition notices day fairways dangers away observers tolerance full sName sSpeed sLoad sDraught bX bY works order start)
    obtain ⟨L,hL⟩:∃L,L=(listR (Aut.mk edition notices day fairways dangers away observers tolerance full sName sSpeed sLoad sDraught bX bY works order start)).1:=⟨_,rfl⟩
    rw [←hL] at hlo
    repeat' first
      |((first
     |(refine callLI (R:=Aid.cs true) (k:=16) hE (l31List_ _ _ _ _ _ _ _ _ _ _ (by assumption) (by assumption) (by assumption) (by assumption) (by assumption) (by assumption) (by assumption) (by assumption) hok) (λrs c hrs hc=>?_);rw [←hL] at hrs)
     |refine eqI hE (a:=c) (b:=0) (λh0=>?_) (λh0=>?_)
     |refine callR hE (l31Channels_ _ _ _ _ _ _ _ _ _ _ (by assumption) (by assumption) (by assumption) (by assumption) (by assumption) (by assumption) (by assumption) (by assumption) hrs hlo hok.1.1 hok.1.2.2.1) (λrs2 hrs2=>?_)
     |refine q0 hE ?_
     |refine nilOwnI hE 3 ?_
     |refine B0 hE ?_|refine B1 hE ?_ ?_|refine B2 hE ?_)<;>intros<;>(try conv=>cbv))
    all_goals first
      |(refine hK _ ?_;rw [cfR,if_pos (by rw [←hc];exact h0),hrs2,←hL];rfl)
      |(refine hK _ ?_;rw [cfR,if_neg (by rw [←hc];exact h0),←hc];rfl)
  · have e:listR (Aut.mk edition notices day fairways dangers away observers tolerance full sName sSpeed sLoad sDraught bX bY works order start)=([],1):=by rw [listR,if_neg hok]
    refine nilOwnI hE 3 ?_
    conv=>cbv
    exact hK _ (by rw [cfR,if_neg (by rw [e];decide),e];rfl)
theorem sChannelFindings_ (day away tolerance:Int) (sName:ByteArray) (sSpeed sLoad sDraught bX bY start:Int) {r_edition r_notices r_fairways r_dangers r_observers r_full r_works r_order:List (List AV)} {t_edition t_notices t_fairways t_dangers t_observers t_full t_works t_order b_edition b_notices b_fairways:Bool} {edition:List Aid} {notices:List Ntc} {fairways:List Fwy} {dangers:List Dgr} {observers:List Obv} {full order:List Int} {works:List Wrk} (h_edition:r_edition=edition.map (Aid.cs b_edition)) (h_notices:r_notices=notices.map (Ntc.cs b_notices)) (h_fairways:r_fairways=fairways.map (Fwy.cs b_fairways)) (h_dangers:r_dangers=dangers.map Dgr.cs) (h_observers:r_observers=observers.map Obv.cs) (h_full:r_full=full.map intR) (h_works:r_works=works.map Wrk.cs) (h_order:r_order=order.map intR):AC Tryz.prog 5 [.agg [.sl t_edition 16 r_edition,.sl t_notices 20 r_notices,.int .i64 day,.sl t_fairways 5 r_fairways,.sl t_dangers 4 r_dangers,.int .i64 away,.sl t_observers 4 r_observers,.int .i64 tolerance,.sl t_full 1 r_full,.str sName,.int .i64 sSpeed,.int .i64 sLoad,.int .i64 sDraught,.int .i64 bX,.int .i64 bY,.sl t_works 7 r_works,.sl t_order 1 r_order,.int .i64 start]] fdgLI (cfR (Aut.mk edition notices day fairways dangers away observers tolerance full sName sSpeed sLoad sDraught bX bY works order start)):=by
  refine ac Tryz.func5 (.fdgLI _) λE K hE hK=>?_
  conv=>cbv
  refine callLI (R:=Fdg.cs) (k:=3) hE (l31Part1_ _ _ _ _ _ _ _ _ _ _ h_edition h_notices h_fairways h_dangers h_observers h_full h_works h_order) λrs c hrs hc=>?_
  conv=>cbv
  exact hK _ (by rw [hrs,hc];rfl)
theorem lateralR_ok {L:List Aid} (h:AidsOk L):lateralR L=(buoysL L L.length,0):=if_pos h
theorem findings_ (name:ByteArray) (width spacing tolerance:Int) {r_line:List (List AV)} {t_line:Bool} {line:List Pnt} (h_line:r_line=line.map Pnt.cs) {rs:List (List AV)} {t b:Bool} {L:List Aid} (hrs:rs=L.map (Aid.cs b)) (hlo:AidsOk L) (hfo:Fwy.ok (Fwy.mk name line width spacing tolerance)):AC Tryz.prog 32 [.agg [.str name,.sl t_line 2 r_line,.int .i64 width,.int .i64 spacing,.int .i64 tolerance],.sl t 16 rs] (λl:List Fdg=> .sl true 3 (l.map Fdg.cs)) (fwF L (Fwy.mk name line width spacing tolerance)):=by
  refine ac Tryz.func32 (.fdgs _) λE K hE hK=>?_
  conv=>cbv
  have h24:=hlo.2
  have z32:(⟨⟨[32]⟩⟩:ByteArray).size=1:=rfl
  obtain ⟨hf1,hf2⟩:=hfo
  simp only at hf1 hf2
  have hch:=gatesR_chn hf1
  have hbk:=buoysL_ok hlo
  obtain ⟨F,hF⟩:∃F:Fwy,F=(Fwy.mk name line width spacing tolerance):=⟨_,rfl⟩
  obtain ⟨M,hM⟩:∃M,M=F.miss L:=⟨_,rfl⟩
  have hM0:missR name line width spacing tolerance (buoysL L L.length)=M:=by rw [hM,hF];rfl
  have hMl:M.length<=64:=by rw [hM];exact miss_len F L
  have hMo:∀v∈M,PtOk v.atX v.atY/\(v.kind=1∨v.kind=2):=λv hv=>miss_ok (by rw [←hM];exact hv)
  refine callLI (R:=Buo.cs) (k:=3) hE (lateralBuoys_ hrs) λrb c hrb _=>?_
  conv=>cbv
  rw [lateralR_ok hlo] at hrb
  replace hrb:rb=(buoysL L L.length).map Buo.cs:=hrb
  refine callLI (R:=Buo.cs) (k:=3) hE (missingBuoys_ name width spacing tolerance h_line hrb hbk hf1 hf2) λrm c2 hrm _=>?_
  conv=>cbv
  rw [hM0] at hrm
  replace hrm:rm=M.map Buo.cs:=hrm
  refine lenL hE hrm λm2 hm2 _=>?_
  conv=>cbv
  (refine loop2 hE [1,6,35,36] [37,5] (λ(k:Int) (es2:List (List AV))=>([(37,.int .i64 k),(5,.ob 0)],[.row 3 es2,.box [.str name,.sl t_line 2 r_line,.int .i64 width],.row 3 rm],M.length - k,(0<=k/\k<=M.length)/\es2=(missL F L k).map Fdg.cs)) [1,2,4] ((0,[])) rfl rfl (by dsimp only;exact ⟨by omega,by rfl⟩) λk es2 hi2 Kn2 hN2=>?_;(try dsimp only at hi2);conv=>cbv)
  obtain ⟨⟨k0,k1⟩,h3⟩:=hi2
  have hml:=missL_len F L k
  refine ltI hE (λhlt2=>?_) (λhge2=>?_)<;>conv=>cbv
  · have hms:=λn v hv hn=>missL_step (f:=F) (l:=L) (n:=n) (v:=v) k0 (by rw [←hM];exact hv) hn
    repeat' first
      |(refine idxBuo hE hrm (by omega) (λb1 b2 b3 hvb=>?_);(conv=>cbv);have hvo:=hMo _ (List.mem_of_getElem? hvb);have hms:=λn=>hms n _ hvb;simp only at hvo;have hps:=pick_size b3;have hpz:=ptT_size hvo.1)
      |(refine hN2 (_,_) _ [3,1,2] (by decide) rfl ⟨?_,?_⟩ ?_<;>(try dsimp only))
      |(refine hN2 (_,_) _ [4,1,2] (by decide) rfl ⟨?_,?_⟩ ?_<;>(try dsimp only))
      |(refine hN2 (_,_) _ [5,1,2] (by decide) rfl ⟨?_,?_⟩ ?_<;>(try dsimp only))
      |((first
     |(refine scatI hE (by subst_vars;(try simp only [ByteArray.size_append]);omega) (λs3 hs3 _=>?_))
     |(refine catP (R:=Fdg.cs) (v:=(⟨2,name,s3⟩:Fdg)) hE h3 rfl (by omega) (λes4 hes4=>?_);have hmd:(⟨2,name,s3⟩:Fdg)=missD F.name ⟨b1,b2,b3⟩:=(by rw [hF];subst_vars;rfl);rw [hmd] at hes4)
     |refine q0 hE ?_
     |refine callI hE (markName_ _) (λ_ _=>?_)
     |refine callI hE (pointText_ _ _ hvo.1) (λ_ _=>?_)
     |refine B0 hE ?_|refine B1 hE ?_ ?_|refine B2 hE ?_)<;>intros<;>(try conv=>cbv))
    all_goals (try clear hN2)
    all_goals first
      |omega
      |exact hes4.trans (congrArg (List.map Fdg.cs) (hms _ (by assumption)).symm)
  clear hN2
  have hkM:k=M.length:=by omega
  refine lenL hE hrs λm3 hm3 _=>?_
  conv=>cbv
  (refine loop2 hE [6,56,57] [58,5] (λ(j:Int) (es3:List (List AV))=>([(58,.int .i64 j),(5,.ob 0)],[.row 3 es3,.box [.str name,.sl t_line 2 r_line,.int .i64 width]],L.length - j,(0<=j/\j<=L.length)/\es3=(missL F L M.length++wrongL F L j).map Fdg.cs)) [0,1] ((0,es2)) rfl rfl (by dsimp only;exact ⟨by omega,by rw [h3,wrongL_zero,List.append_nil,hkM]⟩) λj es3 hi3 Kn3 hN3=>?_;(try dsimp only at hi3);conv=>cbv)
  obtain ⟨⟨j0,j1⟩,h5⟩:=hi3
  clear h3 hml hkM
  have hml:=missL_len F L M.length
  have hwl:=wrongL_len F L j
  refine ltI hE (λhlt3=>?_) (λhge3=>?_)<;>conv=>cbv
  · refine idxAid hE hrs (by omega) λnumber nam atX atY height mKind mColors mShape mTop lKind lGroup lLetter lColors lPeriod sectors intensity rg rx hva hg hx=>?_
    conv=>cbv
    have hao:=hlo.mem (List.mem_of_getElem? hva)
    have hpt:=hao.2.2.1
    have hno:=hao.1
    simp only at hpt hno
    have hws:=λn hn=>wrong_next (A:=missL F L M.length) (f:=F) (l:=L) (n:=n) j0 hva hn
    refine callII hE (nearest_ name width atX atY h_line hch.1 hch.2.2.1 hpt) λnk nd _ hnd=>?_
    conv=>cbv
    refine callP hE (isLateral_ _ _ _ _ _ _ _ _ _ _ _ _ _ _ hg hx) (λhla=>?_) (λhla=>?_)<;>conv=>cbv
    all_goals (simp only [Aid.lateral] at hla)
    repeat' first
      |(refine hN3 (_,_) _ [0,1] (by decide) rfl ⟨?_,?_⟩ ?_<;>(try dsimp only))
      |(refine hN3 (_,_) _ [3,1] (by decide) rfl ⟨?_,?_⟩ ?_<;>(try dsimp only))
      |(refine hN3 (_,_) _ [4,1] (by decide) rfl ⟨?_,?_⟩ ?_<;>(try dsimp only))
      |(refine hN3 (_,_) _ [2,1] (by decide) rfl ⟨?_,?_⟩ ?_<;>(try dsimp only))
      |((first
     |(refine callI hE (side_ name width atX atY h_line hch.1 hch.2.2.1 hpt) (λsd hsd=>?_);(have hW:F.wrong ⟨number,nam,atX,atY,height,mKind,mColors,mShape,mTop,lKind,lGroup,lLetter,lColors,lPeriod,sectors,intensity⟩↔(mKind=1∨mKind=2)/\nd<=width/\¬(mKind=1↔sd=1):=by rw [hnd,hsd,hF];exact Iff.rfl))
     |refine callI hE (decimal_ number (by omega)) (λsn hsn=>?_)
     |(refine catP (R:=Fdg.cs) (v:=(⟨3,name,sn⟩:Fdg)) hE h5 rfl (by simp only [List.length_append];omega) (λes6 hes6=>?_);have hmd:(⟨3,name,sn⟩:Fdg)=⟨3,F.name,decS number⟩:=(by rw [hF];subst_vars;rfl);rw [hmd] at hes6)
     |refine q0 hE ?_
     |refine B0 hE ?_|refine B1 hE ?_ ?_|refine B2 hE ?_)<;>intros<;>(try conv=>cbv))
    all_goals (try clear hN3)
    all_goals first
      |omega
      |exact hes6.trans (congrArg (List.map Fdg.cs) ((hws _ (by assumption)).1 (hW.2 (by omega))).symm)
      |exact h5.trans (congrArg (List.map Fdg.cs) ((hws _ (by assumption)).2 (λhw=>by have:=hW.1 hw;omega)).symm)
      |exact h5.trans (congrArg (List.map Fdg.cs) ((hws _ (by assumption)).2 (λhw=>by rw [hF] at hw;obtain ⟨w1,w2,_⟩:=hw;simp only [Aid.lateral] at w1 w2;omega)).symm)
  · refine hK _ ?_
    rw [h5,show j=L.length by omega,←hF,fwF,←hM];rfl
theorem channelFindings_ (day away tolerance:Int) (sName:ByteArray) (sSpeed sLoad sDraught bX bY start:Int) {r_edition r_notices r_fairways r_dangers r_observers r_full r_works r_order:List (List AV)} {t_edition t_notices t_fairways t_dangers t_observers t_full t_works t_order b_edition b_notices b_fairways:Bool} {edition:List Aid} {notices:List Ntc} {fairways:List Fwy} {dangers:List Dgr} {observers:List Obv} {full order:List Int} {works:List Wrk} (h_edition:r_edition=edition.map (Aid.cs b_edition)) (h_notices:r_notices=notices.map (Ntc.cs b_notices)) (h_fairways:r_fairways=fairways.map (Fwy.cs b_fairways)) (h_dangers:r_dangers=dangers.map Dgr.cs) (h_observers:r_observers=observers.map Obv.cs) (h_full:r_full=full.map intR) (h_works:r_works=works.map Wrk.cs) (h_order:r_order=order.map intR):AC Tryz.prog 7 [.agg [.sl t_edition 16 r_edition,.sl t_notices 20 r_notices,.int .i64 day,.sl t_fairways 5 r_fairways,.sl t_dangers 4 r_dangers,.int .i64 away,.sl t_observers 4 r_observers,.int .i64 tolerance,.sl t_full 1 r_full,.str sName,.int .i64 sSpeed,.int .i64 sLoad,.int .i64 sDraught,.int .i64 bX,.int .i64 bY,.sl t_works 7 r_works,.sl t_order 1 r_order,.int .i64 start]] fdgLI (cfR (Aut.mk edition notices day fairways dangers away observers tolerance full sName sSpeed sLoad sDraught bX bY works order start)):=by
  refine ac Tryz.func7 (.fdgLI _) λE K hE hK=>?_
  conv=>cbv
  refine callLI (R:=Aid.cs true) (k:=16) hE (listOf_ _ _ _ _ _ _ _ _ _ _ (by assumption) (by assumption) (by assumption) (by assumption) (by assumption) (by assumption) (by assumption) (by assumption)) λrs c hrs hc=>?_
  conv=>cbv
  refine eqI hE (λh0=>?_) (λh0=>?_)<;>conv=>cbv
  · have hl0:(listR (Aut.mk edition notices day fairways dangers away observers tolerance full sName sSpeed sLoad sDraught bX bY works order start)).2=0:=by rw [←hc];exact h0
    have hok:=listR_aut hl0
    have hlo:=listR_ok (Aut.mk edition notices day fairways dangers away observers tolerance full sName sSpeed sLoad sDraught bX bY works order start)
    obtain ⟨L,hL⟩:∃L,L=(listR (Aut.mk edition notices day fairways dangers away observers tolerance full sName sSpeed sLoad sDraught bX bY works order start)).1:=⟨_,rfl⟩
    rw [←hL] at hrs hlo
    have hall:=hok.1.1
    have h8:=hok.1.2.2.1
    simp only at hall h8
    have h24:=hlo.2
    have hcm:fairways.length*(64+L.length)<=8*88:=Nat.mul_le_mul h8 (by omega)
    repeat' first
      |((refine loop2 hE [4,19,20] [21,6] (λ(i:Int) (es:List (List AV))=>([(21,.int .i64 i),(6,.ob 2)],[.box [.sl t_edition 16 r_edition,.sl t_notices 20 r_notices,.int .i64 day,.sl t_fairways 5 r_fairways,.sl t_dangers 4 r_dangers,.int .i64 away,.sl t_observers 4 r_observers,.int .i64 tolerance,.sl t_full 1 r_full,.str sName,.int .i64 sSpeed,.int .i64 sLoad,.int .i64 sDraught,.int .i64 bX,.int .i64 bY,.sl t_works 7 r_works,.sl t_order 1 r_order,.int .i64 start],.row 16 rs,.row 3 es],fairways.length - i,(0<=i/\i<=fairways.length)/\es=(chF fairways L i).map Fdg.cs)) [0,1,2] ((0,[])) rfl rfl (by dsimp only;exact ⟨by omega,by rfl⟩) λi es hi2 Kn2 hN2=>?_;(try dsimp only at hi2);conv=>cbv);obtain ⟨⟨i0,i1⟩,h2⟩:=hi2;have hcl:=chF_len fairways L i)
      |(refine hN2 (_,_) _ [0,1,2] (by decide) rfl ⟨?_,?_⟩ ?_<;>(try dsimp only))
      |(refine hN2 (_,_) _ [0,1,3] (by decide) rfl ⟨?_,?_⟩ ?_<;>(try dsimp only))
      |(refine hN2 (_,_) _ [0,1,4] (by decide) rfl ⟨?_,?_⟩ ?_<;>(try dsimp only))
      |(refine hN2 (_,_) _ [0,1,5] (by decide) rfl ⟨?_,?_⟩ ?_<;>(try dsimp only))
      |((first
     |refine lenL hE h_fairways (λm hm _=>?_)
     |(refine idxFwy hE h_fairways (by omega) (λf1 f2 f3 f4 f5 rln hv hln=>?_);have hfo:=hall _ (List.mem_of_getElem? hv);have hst:=λn hn=>chF_step (l:=L) (n:=n) i0 hv hn;have hfl:=fwF_len ⟨f1,f2,f3,f4,f5⟩ L)
     |refine callR hE (findings_ f1 f3 f4 f5 hln hrs hlo hfo) (λrf hrf=>?_)
     |refine catL (R:=Fdg.cs) hE h2 hrf (by omega) (λes4 hes4=>?_)
     |refine q0 hE ?_
     |refine B0 hE ?_|refine B1 hE ?_ ?_|refine B2 hE ?_)<;>intros<;>(try conv=>cbv))
    all_goals (try clear hN2)
    all_goals first
      |omega
      |exact hes4.trans (congrArg (List.map Fdg.cs) (hst _ (by assumption)).symm)
      |(refine hK _ ?_;rw [cfR,if_pos hl0,h2,←hL,show i=fairways.length by omega];rfl)
  · refine nilOwnI hE 3 ?_
    conv=>cbv
    exact hK _ (by rw [cfR,if_neg (by rw [←hc];exact h0),←hc];rfl)
theorem cfR_len (a:Aut):(cfR a).1.length<=704:=by
  unfold cfR
  split
  · rename_i h
    have hok:=listR_aut h
    have h8:=hok.1.2.2.1
    have h24:=(listR_ok a).2
    have h:=chF_len a.fairways (listR a).1 a.fairways.length
    have:a.fairways.length*(64+(listR a).1.length)<=8*88:=Nat.mul_le_mul h8 (by omega)
    show (chF a.fairways (listR a).1 a.fairways.length).length<=704
    omega
  · simp
theorem lawChannelFindings (day away tolerance:Int) (sName:ByteArray) (sSpeed sLoad sDraught bX bY start:Int) {r_edition r_notices r_fairways r_dangers r_observers r_full r_works r_order:List (List AV)} {t_edition t_notices t_fairways t_dangers t_observers t_full t_works t_order b_edition b_notices b_fairways:Bool} {edition:List Aid} {notices:List Ntc} {fairways:List Fwy} {dangers:List Dgr} {observers:List Obv} {full order:List Int} {works:List Wrk} (h_edition:r_edition=edition.map (Aid.cs b_edition)) (h_notices:r_notices=notices.map (Ntc.cs b_notices)) (h_fairways:r_fairways=fairways.map (Fwy.cs b_fairways)) (h_dangers:r_dangers=dangers.map Dgr.cs) (h_observers:r_observers=observers.map Obv.cs) (h_full:r_full=full.map intR) (h_works:r_works=works.map Wrk.cs) (h_order:r_order=order.map intR):AC Tryz.prog 3 [.agg [.sl t_edition 16 r_edition,.sl t_notices 20 r_notices,.int .i64 day,.sl t_fairways 5 r_fairways,.sl t_dangers 4 r_dangers,.int .i64 away,.sl t_observers 4 r_observers,.int .i64 tolerance,.sl t_full 1 r_full,.str sName,.int .i64 sSpeed,.int .i64 sLoad,.int .i64 sDraught,.int .i64 bX,.int .i64 bY,.sl t_works 7 r_works,.sl t_order 1 r_order,.int .i64 start]] id (.bool true):=by
  refine ac Tryz.func3 (.bool _) λE K hE hK=>?_
  conv=>cbv
  refine callI hE (szAuthority_ _ _ _ _ _ _ _ _ _ _ h_edition h_notices h_fairways h_dangers h_observers h_full h_works h_order _ (by decide)) λz hz=>?_
  have hz2:=szN_or2 hz
  clear hz
  conv=>cbv
  refine ltI hE (λhlt=>?_) (λhge=>?_)<;>conv=>cbv
  · exact hK _ rfl
  have hsz:Aut.sz (Aut.mk edition notices day fairways dangers away observers tolerance full sName sSpeed sLoad sDraught bX bY works order start)<=1048576:=by omega
  have hvl:=cfR_len (Aut.mk edition notices day fairways dangers away observers tolerance full sName sSpeed sLoad sDraught bX bY works order start)
  repeat' first
    |((first
   |(refine callMI hE (markAuthority_ _ _ _ _ _ _ _ _ _ _ (by assumption) (by assumption) (by assumption) (by assumption) (by assumption) (by assumption) (by assumption) (by assumption) _ (by omega) hsz) ?_;rintro _ _ ⟨n9,hn9,rfl,rfl⟩)
   |(refine callMI hE (markFindingS_ _ (by assumption) (by omega) (by omega)) ?_;rintro _ _ ⟨n,rs',hn,hrs',rfl,rfl⟩)
   |refine q0 hE ?_
   |refine callAut hE (toAuthority_ _ _ _ _ _ _ _ _ _ _ h_edition h_notices h_fairways h_dangers h_observers h_full h_works h_order hsz) (λ_ _ _ _ _ _ _ _ _ _ _ _ _ _ _ _=>?_)
   |refine callLI (R:=Fdg.cs) (k:=3) hE (sChannelFindings_ _ _ _ _ _ _ _ _ _ _ (by assumption) (by assumption) (by assumption) (by assumption) (by assumption) (by assumption) (by assumption) (by assumption)) (λ_ _ _ _=>?_)
   |refine callLI (R:=Fdg.cs) (k:=3) hE (channelFindings_ _ _ _ _ _ _ _ _ _ _ (by assumption) (by assumption) (by assumption) (by assumption) (by assumption) (by assumption) (by assumption) (by assumption)) (λ_ _ _ _=>?_)
   |refine callPT hE (eqAuthority_ _ _ _ _ _ _ _ _ _ _ _ _ _ _ _ _ _ _ _ _ (by assumption) (by assumption) (by assumption) (by assumption) (by assumption) (by assumption) (by assumption) (by assumption) (by assumption) (by assumption) (by assumption) (by assumption) (by assumption) (by assumption) (by assumption) (by assumption)) rfl ?_
   |refine callPT hE (eqFindingS_ (by assumption) (by assumption)) rfl ?_
   |refine sameI hE (by subst_vars;simp only [List.length_map,Fdg.mks_len];first|done|omega) ?_
   |refine callI hE (heldFindingS_ _ (by assumption) (by omega) (by omega)) (λ_ _=>?_)
   |refine B0 hE ?_|refine B1 hE ?_ ?_|refine B2 hE ?_)<;>intros<;>(try conv=>cbv))
  all_goals first
    |exact hK _ rfl
    |omega
theorem lawChannelFindings2 (a:Aut):AC Tryz.prog 3 [.agg (a.cs false)] id (.bool true):=
  lawChannelFindings a.day a.away a.tolerance a.sName a.sSpeed a.sLoad a.sDraught a.bX a.bY a.start rfl rfl rfl rfl rfl rfl rfl rfl
end Go.Proofs.YtpfddoikhmbebaaGreatDoor
