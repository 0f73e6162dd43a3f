/- A drawn region whose last part waits for all of its first part: the last part is walked in every order; Contracts: what a notice does; the notices in force; Contracts: ships, works, orders, dangers, rising numbers; Contracts: valid authorities; Contracts: the list of lights after the notices; the law. -/
import Derived.Test.YtnlhnideeaobpaaGreatDoorAxU
import Derived.Test.YtnlhnideeaobpaaGreatDoorQd
import Derived.Test.YtnlhnideeaobpaaGreatDoorHnt
import Derived.Test.YtnlhnideeaobpaaGreatDoorQf
import Derived.Test.YtnlhnideeaobpaaGreatDoorQh
import Derived.Test.YtnlhnideeaobpaaGreatDoorQg
import Derived.Test.YtnlhnideeaobpaaGreatDoorQl
namespace Go.Proofs.YtnlhnideeaobpaaGreatDoor
set_option linter.unusedVariables false
set_option linter.unusedSimpArgs false
open Go Go.RowKit
section
variable {P:Program} {np:Nat} {L:Lay} {W:WM} {w w':World} {A A':Nat->Prop} {os os':List Obj} {hd hd':Nat->Value} {F F':Nat->Nat->Prop} {s s1:AS} {a:Act}
def JV (n:Nat):List Nat->Bool
 |[]=>true
 | m::ms=>match Nat.beq (m &&& ((1 <<< n) - 1)) ((1 <<< n) - 1) with
  |true=>JV n ms
  |false=>false
theorem BI {n:Nat}:∀{ms:List Nat},JV n ms=true->∀m∈ms,∀j,j<n->m.testBit j=true
 |[],_,m,h=>by cases h
 | x ::ms,h,m,hm=>by
  unfold JV at h;split at h
  ·rename_i hb;intro j hj;rcases bk.1 hm with rfl|hm
   ·have e:=Nat.eq_of_beq_eq_true hb;(have h1:((1 <<< n) - 1).testBit j=true:=by rw [lv,ld];simp;omega);rw [←e,Nat.testBit_and,gg] at h1;exact h1.1
   ·exact BI h m hm j hj
  ·cases h
noncomputable def agS (E:Env) (L:Lay) (ops:List Oper) (n:Nat) (s:AS) (K:AS->Prop):Prop:=match jS (ops.take n) 0 (ops.take n),JV n ((masks [] ops).drop n),Nat.ble n ops.length with
 |true,true,true=>jr E L true (ops.take n) (ops.take n) s λs'=>HV E L ops (ops.length+1) (List.range n) s' K
 |_,_,_=>False
theorem Qt [St] (hL:L.ty=bR P) (hm:P.follows .mixedOrders=true) {id:Nat} {ops:Array Oper} {n:Nat} {Q:Exit->Act->World->Prop} {K:AS->Prop} (hQ:∀s' a' w' A' hd' F',K s'->CW W w' A' s'.os hd' F'->FR w' A' s'.os hd' s'.fr a'->Q .normal a' w')
  (hw:CW W w A s.os hd F) (hf:FR w A s.os hd s.fr a) (hk0:agS (bG np P) L ops.toList n s K):(Code.region id ops true).wp P Q a w:=by
 unfold agS at hk0;split at hk0;rotate_left
 ·exact hk0.elim
 rename_i hdr htl hle;have hk:=hk0;have tC:n<=ops.size:=by simpa using Nat.le_of_ble_eq_true hle
 have hcut:∀(i:Nat) o,n<=i->ops.toList[i]? =some o->∀S:Nat->Prop,Closed ops.toList S->(∀e∈o.after,bnd e=true->S e.on)->∀j,j<n->S j:=by
  intro i o hi ho S hS hr j hj
  have hl:(masks [] ops.toList).length=ops.toList.length:=by
   have:=(kH (S:=λ_=>True) (ops:=ops.toList) (λ_ _ _ _ _ _ _=>trivial) ops.toList [] (λm _=>by simp) (λi j m h=>by simp at h) (λi j m o h=>by simp at h)).1;simpa using this
  have hlt:=(aa.1 ho).1;have hmm:(masks [] ops.toList)[i]? =some (masks [] ops.toList)[i]:=ag (by omega);have hb:=BI htl _ (ae (i:=i - n) (by rw [bv,show n+(i - n)=i by omega];exact hmm)) j hj;rcases (kH hS ops.toList [] (λm _=>by simp) (λi j m h=>by simp at h) (λi j m o h=>by simp at h)).2 i j _ o hmm ho hb hr with h|h
  ·omega
  ·exact h
 have hkp:=Keeps.drew w;have hw':=hw.keep hkp;have hf':FR w.drew A s.os hd s.fr a:=hf.to λy u hy=>hy.keep (λb hb=>(hw.hA b hb).1) hkp;obtain ⟨xs,sf,ht,hK⟩:=rG hL (ops.toList.take n) s a w.drew A hw' hf' hk;obtain ⟨hlen,hos,hfr,_⟩:=rH (ops.toList.take n) s xs sf ht 0;refine wp_region_any hm (BD hL (λ_=>False) hdr ht tC (λi o hi ho S hS he j hj _=>hcut i o hi ho S hS he j hj) (λfuel listed a' w' A' g1 gc gge g2 _ h1 h2=>?_) ops.size (Array.replicate ops.size false) a w.drew A (by simp) ?_ ?_ ?_ hw' ?_)
 ·have hall:∀i,i<n->listed.getD i false=true:=λi hi=>by
   cases h:listed.getD i false
   ·exact (g2 i hi h).elim
   ·rfl
  have e:puts (λj=>listed.getD j false) 0 (ops.toList.take n) xs s.fr=sf.fr:=by
   rw [hfr];refine cC λt=>fP _ _ _ _ _ (λm o ho _=>?_) rfl;(have:m<n:=by have:=(aa.1 ho).1;simp at this;omega);simpa using hall m this
  rw [e] at h2;refine GJ hL hQ fuel listed (ops.toList.length+1) (List.range n) sf a' w' A' hd F g1 (λj hj=>?_) (λj hj=>by have:=cL.1 hj;omega) gc (by rw [hos];exact h1) (by rw [hos];exact h2) hK;by_cases hjn:j<n
  ·rw [hall j hjn];simp [hjn]
  ·rw [gge j (by omega) hj];simp [hjn]
 ·exact cE (dm _ _) (by simp)
 ·intro j _ hj;simp [hj]
 ·intro i o ho hi;exfalso;have:i<ops.size:=by simpa using (aa.1 ho).1
  simp [this] at hi
 ·have e:puts (λj=>(Array.replicate ops.size false).getD j false) 0 (ops.toList.take n) xs s.fr=s.fr:=by
   have h0:(λj=>(Array.replicate ops.size false).getD j false)=λ_=>false:=by
    funext j;by_cases h:j<ops.size<;>simp [h]
   rw [h0]
   have e2:∀(l:List Oper) (i:Nat) (xs fr:List AV),puts (λ_=>false) i l xs fr=fr:=by
    intro l
    induction l with
    |nil=>intro i xs fr;simp [puts]
    |cons o l ih=>intro i xs fr;cases xs with|nil=>simp [puts]|cons x xs=>simp [puts,xk,ih]
   exact e2 _ _ _ _
  rw [e];exact hf'
noncomputable def axT (E:Env) (L:Lay) (n:Nat):Code->AS->(XE->AS->Prop)->Prop
 | .seq x y,s,K=>axT E L n x s λe s'=>match e with
  | .normal=>axT E L n y s' K
  |e=>K e s'
 | .region _ ops true,s,K=>agS E L ops.toList n s (K .normal)
 | .region id ops false,s,K=>ax E L (.region id ops false) s K
 | .ret,s,K=>K .ret s
 |_,_,_=>False
theorem Bw [St] (hL:L.ty=bR P) (hm:P.follows .mixedOrders=true) (hnp:∀p∈W.pin,p.1<np) (n:Nat):∀(c:Code) (s:AS) (K:XE->AS->Prop) (a:Act) (w:World) (A:Nat->Prop) (hd:Nat->Value) (F:Nat->Nat->Prop) (Q:Exit->Act->World->Prop),
  (∀e s' a' w' A' hd' F',K e s'->CW W w' A' s'.os hd' F'->FR w' A' s'.os hd' s'.fr a'->Q e.ex a' w')->CW W w A s.os hd F->FR w A s.os hd s.fr a->axT (bG np P) L n c s K->c.wp P Q a w
 | .seq x y,s,K,a,w,A,hd,F,Q,hQ,hw,hf,hk=>by
  refine wp_seq (Bw hL hm hnp n x s _ a w A hd F _ (λe s' a' w' A' hd' F' h1 h2 h3=>?_) hw hf hk)
  cases e with
  |normal=>exact Bw hL hm hnp n y s' K a' w' A' hd' F' Q hQ h2 h3 h1
  |exit id=>exact hQ (.exit id) s' a' w' A' hd' F' h1 h2 h3
  |ret=>exact hQ .ret s' a' w' A' hd' F' h1 h2 h3
 | .region id ops true,s,K,a,w,A,hd,F,Q,hQ,hw,hf,hk=>Qt hL hm (λs' a' w' A' hd' F' h1 h2 h3=>hQ .normal s' a' w' A' hd' F' h1 h2 h3) hw hf hk
 | .region id ops false,s,K,a,w,A,hd,F,Q,hQ,hw,hf,hk=>ko hL hm hnp _ s K a w A hd F Q hQ hw hf hk
 | .ret,s,K,a,w,A,hd,F,Q,hQ,hw,hf,hk=>wp_ret (hQ .ret s a w A hd F hk hw hf)
 | .skip,_,_,_,_,_,_,_,_,_,_,_,hk=>hk.elim
 | .cond ..,_,_,_,_,_,_,_,_,_,_,_,hk=>hk.elim
 | .block ..,_,_,_,_,_,_,_,_,_,_,_,hk=>hk.elim
 | .loop ..,_,_,_,_,_,_,_,_,_,_,_,hk=>hk.elim
 | .exit ..,_,_,_,_,_,_,_,_,_,_,_,hk=>hk.elim
 | .rangeFunc ..,_,_,_,_,_,_,_,_,_,_,_,hk=>hk.elim
 | .scope _,_,_,_,_,_,_,_,_,_,_,_,hk=>hk.elim
 | .label _,_,_,_,_,_,_,_,_,_,_,_,hk=>hk.elim
 | .goto _,_,_,_,_,_,_,_,_,_,_,_,hk=>hk.elim
 | .refuse _,_,_,_,_,_,_,_,_,_,_,_,hk=>hk.elim
noncomputable def VY (E:Env) (L:Lay) (n:Nat) (fn:Func) (args:List AV) (K:AV->Prop):Prop:=match fn.body with
 | some c=>axT E L n c ⟨args++List.replicate (fn.ntmps - args.length) .und,[]⟩ λe s=>match e with
  | .ret=>Gz E L fn.results.toList s λvs=>K (gP vs)
  | .normal=>Gz E L fn.results.toList s λvs=>K (gP vs)
  |_=>False
 |none=>False
theorem YG [St] (n:Nat) (hL:L.ty=bR P) (hm:P.follows .mixedOrders=true) {f:FuncId} {fn:Func} {c:Code} (hf:P.funcs[f]? =some fn) (hname:(fn.name == "runtime.NumGoroutine")=false) (hb:fn.body=some c)
  {α:Type} {args:List AV} {R:α->AV} {x:α} (hn:NoB (R x)) (h:VY (bG np P) L n fn args λr=>r=R x):AC P f args R x:=by
 refine ⟨λxs w=>fF hf hname hb xs w,λw vs hg ⟨hsz,hr⟩=>calls_of_wp hf hb ?_⟩;unfold VY at h;rw [hb] at h;simp only at h;refine Bw (W:=⟨w,λ_=>False,[],λ_=>True⟩) hL hm (λp hp=>by simp at hp) n c _ _ _ w (λb=>b<w.heap.size) (λ_=>undef) (λ_ _=>False) _ (λe s' a' w' A' hd' F' hK hw hfr=>?_) ⟨⟨rfl,rfl,rfl,aq _,λ_ _ _=>rfl,λ_ _=>rfl,eu.refl _,hg,λ_ h=>h.elim⟩,λx hx=>⟨hx,λ_ h=>h⟩,λ_ _ h=>h.elim,λ_ _ _ h=>h.elim,λid k es ho=>by simp at ho,λid cs ho=>by simp at ho,λid s p ho=>by simp at ho,λp hp=>by simp at hp,λ_ _ _=>trivial⟩ ⟨rfl,by simp [hsz],λt x hx=>?_⟩ h
 ·have fin:Gz (bG np P) L fn.results.toList s' (λvs=>gP vs=R x)->a'.defers=[]/\∃v,(results fn a'.tmps).run P w'= .ok v w'/\∃u F,Ending.returned v= .returned u/\Keeps (λ_=>False) w w'/\bB w' (λ_=>False) (R x) u F/\∀b,F b->w.heap.size<=b/\b<w'.heap.size:=λhk=>by
   obtain ⟨vs,l,G,h1,h2,h3,h4,h5,h6⟩:=xW hL _ s' F' _ hw hfr hk;refine ⟨hfr.qN,_,?_,_,_,rfl,⟨hw.below.os,hw.below.tape,hw.below.output,hw.below.size,λx hx _=>hw.below.block x hx (λh=>h),hw.below.frz,hw.below.drawn⟩,(h1 ▸ zN h3 h4 h6).noB hn,λb ⟨i,hi,hb⟩=>?_⟩
   ·rw [rM,aE,h2];rfl
   ·obtain ⟨id,hid⟩:=h5 i b hi hb;exact ⟨(hw.fsz id b hid).1.elim (λh=>h) (λh=>h.elim),(hw.fsz id b hid).2⟩
  cases e with
  |normal=>exact fin hK
  |ret=>exact fin hK
  |exit id=>exact hK.elim
 ·rw [cw] at hx;split at hx
  ·rename_i hlt;have:=hr t x hx;refine .pure _ _ ?_
   have e:(vs++Array.replicate (fn.ntmps - vs.size) undef).getD t undef=vs.getD t undef:=by
    (have h1:t<vs.size:=by omega);rw [←aR,←aR,ad,ad,cN,br (by simpa using h1)]
   rw [e];exact this
  ·rename_i hlt;rw [eh] at hx;split at hx
   ·cases hx;refine .pure _ _ ?_
    have e:(vs++Array.replicate (fn.ntmps - vs.size) undef).getD t undef=undef:=by
     (have h1:¬t<vs.size:=by omega);simp [Array.getD,gT,h1]
    rw [e];exact .und
   ·cases hx
def ahz (f:FuncId) (b:Bool):Bool:=match Nat.beq f 63 with
 |false=>b
 |_=>false
noncomputable def LT2:Lay:=⟨tyT,λf=>ahz f (muT f),λf=>ahz f (srT f),fzT⟩
theorem abZ:LT2.ty=bR Tryz.prog:=QI
theorem acT [St] (n:Nat) {f:FuncId} {fn:Func} {α:Type} {args:List AV} {R:α->AV} {x:α} (hf:Tryz.prog.funcs[f]? =some fn) (hname:(fn.name == "runtime.NumGoroutine")=false) (hn:NoB (R x))
  (h:∀(E:Env) (K:AV->Prop),SE E 0 Tryz.prog->(∀r,r=R x->K r)->VY E LT2 n fn args K):AC Tryz.prog f args R x:=by
 have h1:=h _ (λr=>r=R x) ⟨rfl⟩ (λ_ h=>h)
 cases hb:fn.body with
 |none=>unfold VY at h1;rw [hb] at h1;exact h1.elim
 |some c=>exact YG n abZ wide hf hname hb hn h1
theorem acL [St] {f:FuncId} {fn:Func} {α:Type} {args:List AV} {R:α->AV} {x:α} (hf:Tryz.prog.funcs[f]? =some fn) (hname:(fn.name == "runtime.NumGoroutine")=false) (hn:NoB (R x))
  (h:∀(E:Env) (K:AV->Prop),SE E 0 Tryz.prog->(∀r,r=R x->K r)->MB E LT2 fn args K):AC Tryz.prog f args R x:=by
 have h1:=h _ (λr=>r=R x) ⟨rfl⟩ (λ_ h=>h)
 cases hb:fn.body with
 |none=>unfold MB at h1;rw [hb] at h1;exact h1.elim
 |some c=>exact GV abZ wide hf hname hb hn h1
end
open Classical
set_option maxRecDepth 100000
set_option maxHeartbeats 2000000
set_option maxHeartbeats 4000000
noncomputable section
def uN (ns:List Ntc) (d:Int) (v:Ntc):Prop:=v.kind≠4/\v.day<=d/\¬∃m∈ns,m.kind=4/\m.target=v.number/\m.day<=d
def oV (ns:List Ntc) (d:Int):List Ntc:=ns.filter λv=>bP (uN ns d v)
def doR (l:List Aid) (v:Ntc):List Aid×Int:=if v.kind=1 then yP l v.aid else if v.kind=2 then wK l v.aid else wU l v.target
def runN:List Aid->List Ntc->List Aid×Int×Int
 |l,[]=>(l,0,0)
 |l,v::vs=>if (doR l v).2=0 then runN (doR l v).1 vs else ([],v.number,(doR l v).2)
end
theorem Tj {l:List Aid} {v:Ntc} (h:dn l) (hv:v.kind=1∨v.kind=2->v.aid.ok) (h0:(doR l v).2=0):dn (doR l v).1:=by
 unfold doR at h0 ⊢;split at h0<;>rename_i h1
 ·rw [if_pos h1];exact acW h (hv (.inl h1)) h0
 ·rw [if_neg h1];split at h0<;>rename_i h2
  ·rw [if_pos h2];exact ZA h (hv (.inr h2)) h0
  ·rw [if_neg h2];exact abe h h0
theorem KI {l:List Ntc} (h:sW l):∀v∈l,v.ok:=λv hv=>by
 obtain ⟨j,hj⟩:=ap hv;obtain ⟨w,h1,h2,_⟩:=h.1 j (aa.1 hj).1;rw [hj] at h1;cases h1;exact h2
theorem WK {L:List Aid} {F:List Ntc} {i:Nat} {v:Ntc} (hv:F[i]? =some v):runN L (F.drop i)=if (doR L v).2=0 then runN (doR L v).1 (F.drop (i+1)) else ([],v.number,(doR L v).2):=by
 obtain ⟨hl,he⟩:=aa.1 hv;rw [ck hl,he,runN]
theorem X9 {ns:List Ntc} {p:Ntc->Bool} {i:Nat} {v:Ntc} (hv:ns[i]? =some v):(ns.drop i).filter p=if p v=true then v::(ns.drop (i+1)).filter p else (ns.drop (i+1)).filter p:=by
 obtain ⟨hl,he⟩:=aa.1 hv;rw [ck hl,he,hJ]
theorem Nq (L:List Aid):runN L []=(L,0,0):=rfl
def Tt (p:List Aid×Int×Int):AV:= .tup [.sl true 16 (p.1.map (Aid.cs true)),.int .i64 p.2.1,.int .i64 p.2.2]
theorem NoB.Tt (p:List Aid×Int×Int):NoB (Tt p):= .nH (.rows .Dc) (.nH (.int _ _) (.nH (.int _ _) .CY))
theorem VB [St] {E:Env} {np:Nat} {P:Program} [hE:SE E np P] {f:FuncId} {args:List AV} {x:List Aid×Int×Int} {K:AV->Prop} (h:AC P f args Tt x) (hk:∀rs n m,rs=x.1.map (Aid.cs true)->n=x.2.1->m=x.2.2->K (.tup [.sl true 16 rs,.int .i64 n,.int .i64 m])):E.call f args K:=
 aQ h λy hy=>hk _ _ _ (by rw [hy]) (by rw [hy]) (by rw [hy])
theorem Hq [St] {rs:List (List AV)} {t b:Bool} {l:List Ntc} {g:FuncId} {c0:List AV} {c1:List AV} {p:Ntc->Prop} (hl:rs=l.map (Ntc.cs b)) (hp:∀(number day kind target aY:Int) (aName:ByteArray) (atX atY aZ aP:Int) (aC aJ bg:ByteArray) (aO:Int) (aB ak:ByteArray) (au aj:Int) {aL aI:List (List AV)} {bC aX:Bool} {aM:List Int} {aD:List Scr} (aW:aL=aM.map aN) (aS:aI=aD.map Scr.cs) ,AC Tryz.prog g (.agg [.int .i64 number,.int .i64 day,.int .i64 kind,.int .i64 target,.int .i64 aY,.str aName,.int .i64 atX,.int .i64 atY,.int .i64 aZ,.int .i64 aP,.str aC,.str aJ,.str bg,.int .i64 aO,.sl bC 1 aL,.str aB,.str ak,.int .i64 au,.sl aX 3 aI,.int .i64 aj]::[.pp c0,.pp c1]) AV.bool (bP (p (Ntc.mk number day kind target aY aName atX atY aZ aP aC aJ bg aO aM aB ak au aD aj)))):AP 346 [.sl t 20 rs,.fn g [.pp c0,.pp c1]] (AV.int .i64) (lF p l):=by
  refine a0 Tryz.func346 λE K hE hK=>?_;refine bn hl λn hn hb=>?_;conv=>cbv
  refine cu [0,1,7] [8] (λ(i:Int)=>([(8,.int .i64 i)],[],l.length - i,0<=i/\Up (λj=>∀v,l[j]? =some v->¬p v) i)) [] (0) (by dsimp only;exact ⟨by omega,.zero (by omega)⟩) λi hi Kn hN=>?_;obtain ⟨h0,hinv⟩:=hi
  repeat' first
    |(refine hN _ [] rfl ⟨?_,?_⟩)
    |((first
   |refine kK hl (by omega) (λnumber day kind target aY aName atX atY aZ aP aC aJ bg aO aM aB ak au aD aj aL aI hv aW aS=>?_)
   |refine aF (hp _ _ _ _ _ _ _ _ _ _ _ _ _ _ _ _ _ _ (by assumption) (by assumption)) (λ_=>?_) (λ_=>?_)
   |refine B0 ?_|refine B1 ?_ ?_)<;>intros<;>(try conv=>cbv))
  all_goals (try clear hN)
  all_goals first
   |omega
   |(refine hK _ ?_;rw [kQ h0 hv (by assumption) hinv];rfl)
   |(refine hinv.succ (λv hw=>?_) (by assumption);rw [hv] at hw;cases hw;assumption)
   |(refine hK _ ?_;rw [jR (by omega) hinv];rfl)
theorem Bh [St] {rs:List (List AV)} {t b:Bool} {l:List Ntc} {g:FuncId} {c0:List AV} {c1:List AV} {p:Ntc->Prop} (hl:rs=l.map (Ntc.cs b)) (hp:∀(number day kind target aY:Int) (aName:ByteArray) (atX atY aZ aP:Int) (aC aJ bg:ByteArray) (aO:Int) (aB ak:ByteArray) (au aj:Int) {aL aI:List (List AV)} {bC aX:Bool} {aM:List Int} {aD:List Scr} (aW:aL=aM.map aN) (aS:aI=aD.map Scr.cs) ,AC Tryz.prog g (.agg [.int .i64 number,.int .i64 day,.int .i64 kind,.int .i64 target,.int .i64 aY,.str aName,.int .i64 atX,.int .i64 atY,.int .i64 aZ,.int .i64 aP,.str aC,.str aJ,.str bg,.int .i64 aO,.sl bC 1 aL,.str aB,.str ak,.int .i64 au,.sl aX 3 aI,.int .i64 aj]::[.pp c0,.pp c1]) AV.bool (bP (p (Ntc.mk number day kind target aY aName atX atY aZ aP aC aJ bg aO aM aB ak au aD aj)))):AP 289 [.sl t 20 rs,.fn g [.pp c0,.pp c1]] AV.bool (bP (∃v∈l,p v)):=by
 refine a0 Tryz.func289 λE K hE hK=>?_;refine aQ (Hq hl hp) λy hy=>?_;conv=>cbv
 refine leI (λh=>?_) (λh=>?_)<;>conv=>cbv
 ·exact aH hK (aG.2 (iW.1 (by omega)))
 ·exact aH hK (ah.2 λh'=>by have:=iW.2 h';omega)
theorem XU [St] (number day kind target aY:Int) (aName:ByteArray) (atX atY aZ aP:Int) (aC aJ bg:ByteArray) (aO:Int) (aB ak:ByteArray) (au aj:Int) {aL aI:List (List AV)} {bC aX:Bool} {aM:List Int} {aD:List Scr} (aW:aL=aM.map aN) (aS:aI=aD.map Scr.cs) (number' Dj kind' target' lJ:Int) (sV:ByteArray) (nA ny lK jM:Int) (gy iD mU:ByteArray) (jl:Int) (fA fB:ByteArray) (fq dY:Int) {fE eD:List (List AV)} {jT jg:Bool} {jm:List Int} {gV:List Scr} (kP:fE=jm.map aN) (jQ:eD=gV.map Scr.cs) (d:Int):AP 290 [.agg [.int .i64 number,.int .i64 day,.int .i64 kind,.int .i64 target,.int .i64 aY,.str aName,.int .i64 atX,.int .i64 atY,.int .i64 aZ,.int .i64 aP,.str aC,.str aJ,.str bg,.int .i64 aO,.sl bC 1 aL,.str aB,.str ak,.int .i64 au,.sl aX 3 aI,.int .i64 aj],.pp [.int .i64 number',.int .i64 Dj,.int .i64 kind',.int .i64 target',.int .i64 lJ,.str sV,.int .i64 nA,.int .i64 ny,.int .i64 lK,.int .i64 jM,.str gy,.str iD,.str mU,.int .i64 jl,.sl jT 1 fE,.str fA,.str fB,.int .i64 fq,.sl jg 3 eD,.int .i64 dY],.pp [.int .i64 d]] AV.bool (bP ((λv:Ntc=>v.kind=4/\v.target=number'/\v.day<=d) (Ntc.mk number day kind target aY aName atX atY aZ aP aC aJ bg aO aM aB ak au aD aj))):=by
  refine a0 Tryz.func290 λE K hE hK=>?_
  repeat' first
    |((first
   |refine B0 ?_|refine B1 ?_ ?_)<;>intros<;>(try conv=>cbv))
  all_goals exact fz
theorem aaH [St] {rs:List (List AV)} {b:Bool} {l:List Ntc} (d:Int) (hl:rs=l.map (Ntc.cs b)) (hb:l.length<=1000):ACS Tryz.prog 214 [.sl false 20 rs,.int .i64 d] (λr ys=>∃rs',rs'=(oV l d).map (Ntc.cs false)/\r= .sl true 20 rs'/\ys=[.any,.any]):=by
  refine acs 0 Tryz.func214 λE K hE hK=>?_;refine bn hl λn hn hb2=>?_;conv=>cbv
  refine bO [0,3,10,11] [12,5] (λ(i:Int) (es:List (List AV))=>([(12,.int .i64 i),(5,.ob 1)],[.box [.int .i64 d],.row 20 es],l.length - i,(0<=i/\i<=l.length)/\es=(tZ (uN l d) l i).map (Ntc.cs false))) [0,1] ((0,[])) (by dsimp only;exact ⟨by omega,by rw [vE (by omega)];rfl⟩) λi es hi Kn hN=>?_;obtain ⟨⟨h0,h1⟩,h2⟩:=hi;have hlen:=tY (uN l d) l i
  repeat' first
    |(refine hN _ _ [0,4] rfl ⟨?_,?_⟩)
    |(refine hN _ _ [0,1] rfl ⟨?_,?_⟩)
    |((first
   |(refine kK hl (by omega) (λc0 c1 c2 c3 c4 c5 c6 c7 c8 c9 d0 d1 d2 d3 d4 d5 d6 d7 d8 d9 rg rx hv hg hx=>?_);(have hsel:=λm hm2=>om (uN l d) (n:=m) h0 hv hm2);simp only [uN] at hsel)
   |refine aF (Bh (p:=λv:Ntc=>v.kind=4/\v.target=c0/\v.day<=d) hl (λa0 a1 a2 a3 a4 a5 a6 a7 a8 a9 b0 b1 b2 b3 b4 b5 b6 b7 _ _ _ _ _ _ g1 g2=>XU a0 a1 a2 a3 a4 a5 a6 a7 a8 a9 b0 b1 b2 b3 b4 b5 b6 b7 g1 g2 _ _ _ _ _ _ _ _ _ _ _ _ _ _ _ _ _ _ hg hx d)) (λhc=>?_) (λhc=>?_)
   |refine jA (R:=Ntc.cs false) (v:=(⟨_,_,_,_,_,_,_,_,_,_,_,_,_,_,_,_,_,_,_,_⟩:Ntc)) (by assumption) (by rw [hg,hx];rfl) (by omega) (λ_ _=>?_)
   |refine B0 ?_|refine B1 ?_ ?_)<;>intros<;>(try conv=>cbv))
  all_goals (try clear hN)
  all_goals first
   |omega
   |(rw [(hsel _ (by assumption)).1 ⟨by omega,by omega,hc⟩];assumption)
   |(rw [(hsel _ (by assumption)).2 (λ⟨g1,g2,g3⟩=>by first|omega|exact g3 hc)];assumption)
   |(refine hK _ _ ⟨es,?_,rfl,rfl⟩;rw [h2,mF (by omega)];rfl)
theorem aep [St] (number day kind target aY:Int) (aName:ByteArray) (atX atY aZ aP:Int) (aC aJ bg:ByteArray) (aO:Int) (aB ak:ByteArray) (au aj:Int) {aL aI:List (List AV)} {bC aX:Bool} {aM:List Int} {aD:List Scr} (aW:aL=aM.map aN) (aS:aI=aD.map Scr.cs) {rs:List (List AV)} {t b:Bool} {l:List Aid} (hl:rs=l.map (Aid.cs b)) (hok:dn l) (hv:kind=1∨kind=2->Aid.ok (Ntc.aid (Ntc.mk number day kind target aY aName atX atY aZ aP aC aJ bg aO aM aB ak au aD aj))):AP 215 [.agg [.int .i64 number,.int .i64 day,.int .i64 kind,.int .i64 target,.int .i64 aY,.str aName,.int .i64 atX,.int .i64 atY,.int .i64 aZ,.int .i64 aP,.str aC,.str aJ,.str bg,.int .i64 aO,.sl bC 1 aL,.str aB,.str ak,.int .i64 au,.sl aX 3 aI,.int .i64 aj],.sl t 16 rs] jG (doR l (Ntc.mk number day kind target aY aName atX atY aZ aP aC aJ bg aO aM aB ak au aD aj)):=by
  refine ac Tryz.func215 (.jG _) λE K hE hK=>?_
  repeat' first
    |((first
   |refine iK (R:=Aid.cs true) (aeO _ _ _ _ _ _ _ _ _ _ _ _ _ _ aW aS hl hok (hv (by omega))) (λrs2 n2 gY hn2=>?_)
   |refine iK (R:=Aid.cs true) (NI _ _ _ _ _ _ _ _ _ _ _ _ _ _ aW aS hl hok (hv (by omega))) (λrs2 n2 gY hn2=>?_)
   |refine iK (R:=Aid.cs true) (abf target hl hok) (λrs2 n2 gY hn2=>?_)
   |refine B0 ?_|refine B1 ?_ ?_)<;>intros<;>(try conv=>cbv))
  all_goals first
   |(refine hK _ ?_;rw [doR,if_pos (by assumption),gY,hn2];rfl)
   |(refine hK _ ?_;rw [doR,if_neg (by simp only;omega),if_pos (by assumption),gY,hn2];rfl)
   |(refine hK _ ?_;rw [doR,if_neg (by simp only;omega),if_neg (by simp only;omega),gY,hn2];rfl)
theorem afS [St] (number day kind target aY:Int) (aName:ByteArray) (atX atY aZ aP:Int) (aC aJ bg:ByteArray) (aO:Int) (aB ak:ByteArray) (au aj:Int) {aL aI:List (List AV)} {bC aX:Bool} {aM:List Int} {aD:List Scr} (aW:aL=aM.map aN) (aS:aI=aD.map Scr.cs) {rs:List (List AV)} {t b:Bool} {l:List Aid} (hl:rs=l.map (Aid.cs b)) (hok:dn l) (hv:kind=1∨kind=2->Aid.ok (Ntc.aid (Ntc.mk number day kind target aY aName atX atY aZ aP aC aJ bg aO aM aB ak au aD aj))):AP 185 [.sl t 16 rs,.pp [.int .i64 number,.int .i64 day,.int .i64 kind,.int .i64 target,.int .i64 aY,.str aName,.int .i64 atX,.int .i64 atY,.int .i64 aZ,.int .i64 aP,.str aC,.str aJ,.str bg,.int .i64 aO,.sl bC 1 aL,.str aB,.str ak,.int .i64 au,.sl aX 3 aI,.int .i64 aj]] jG (doR l (Ntc.mk number day kind target aY aName atX atY aZ aP aC aJ bg aO aM aB ak au aD aj)):=by
  refine ac Tryz.func185 (.jG _) λE K hE hK=>?_
  repeat' first
    |((first
   |refine iK (R:=Aid.cs true) (adG _ _ _ _ _ _ _ _ _ _ _ _ _ _ aW aS hl hok (hv (by omega))) (λrs2 n2 gY hn2=>?_)
   |refine iK (R:=Aid.cs true) (OT _ _ _ _ _ _ _ _ _ _ _ _ _ _ aW aS hl hok (hv (by omega))) (λrs2 n2 gY hn2=>?_)
   |refine iK (R:=Aid.cs true) (aal target hl hok) (λrs2 n2 gY hn2=>?_)
   |refine B0 ?_|refine B1 ?_ ?_)<;>intros<;>(try conv=>cbv))
  all_goals first
   |(refine hK _ ?_;rw [doR,if_pos (by assumption),gY,hn2];rfl)
   |(refine hK _ ?_;rw [doR,if_neg (by simp only;omega),if_pos (by assumption),gY,hn2];rfl)
   |(refine hK _ ?_;rw [doR,if_neg (by simp only;omega),if_neg (by simp only;omega),gY,hn2];rfl)
set_option maxHeartbeats 2000000
theorem ah1 [St] {rs:List (List AV)} {t:Bool} {l:List Int} (x:Int) (hl:rs=l.map aN):AP 115 [.sl t 1 rs,.int .i64 x] AV.bool (bP (x∈l)):=by
  refine a0 Tryz.func115 λE K hE hK=>?_;refine cu [0,1] [5] (λ(i:Int)=>([(5,.int .i64 i)],[],l.length - i,0<=i/\Up (λj=>l[j]?≠some x) i)) [] (0) (by dsimp only;exact ⟨by omega,.zero (by omega)⟩) λi hi Kn hN=>?_;obtain ⟨h0,hinv⟩:=hi
  repeat' first
    |(refine hN _ [] rfl ⟨?_,?_⟩)
    |((first
   |refine bQ (R:=aN) hl (by omega) (λv hv=>?_)
   |refine B0 ?_|refine B1 ?_ ?_)<;>intros<;>(try conv=>cbv))
  all_goals (try clear hN)
  all_goals first
   |omega
   |exact aH hK (aG.2 (by subst_vars;exact ae hv))
   |(refine hinv.succ (λh=>?_) (by assumption);rw [hv] at h;cases h;contradiction)
   |(refine aH hK (ah.2 λh=>?_);obtain ⟨j,hj⟩:=ap h;exact hinv j (by have:=(aa.1 hj).1;omega) hj)
theorem adW [St] {rs:List (List AV)} {t:Bool} {l:List Int} (x:Int) (hl:rs=l.map aN):AP 350 [.sl t 1 rs,.int .i64 x] (AV.int .i64) (lF (λy=>x=y) l):=by
  refine a0 Tryz.func350 λE K hE hK=>?_;refine bn hl λn hn hb=>?_;conv=>cbv
  refine cu [0,1,7] [8] (λ(i:Int)=>([(8,.int .i64 i)],[],l.length - i,0<=i/\Up (λj=>∀v,l[j]? =some v->¬x=v) i)) [] (0) (by dsimp only;exact ⟨by omega,.zero (by omega)⟩) λi hi Kn hN=>?_;obtain ⟨h0,hinv⟩:=hi
  repeat' first
    |(refine hN _ [] rfl ⟨?_,?_⟩)
    |((first
   |refine bQ (R:=aN) hl (by omega) (λv hv=>?_)
   |refine B0 ?_|refine B1 ?_ ?_)<;>intros<;>(try conv=>cbv))
  all_goals (try clear hN)
  all_goals first
   |omega
   |(refine hK _ ?_;rw [kQ h0 hv (by assumption) hinv];rfl)
   |(refine hinv.succ (λw h=>?_) (by assumption);rw [hv] at h;cases h;assumption)
   |(refine hK _ ?_;rw [jR (by omega) hinv];rfl)
theorem Tz [St] {rs:List (List AV)} {t:Bool} {l:List Int} (x:Int) (hl:rs=l.map aN):AP 287 [.sl t 1 rs,.int .i64 x] AV.bool (bP (x∈l)):=by
 refine a0 Tryz.func287 λE K hE hK=>?_;refine aQ (adW x hl) λy hy=>?_;conv=>cbv
 refine leI (λh=>?_) (λh=>?_)<;>conv=>cbv
 ·refine aH hK (aG.2 ?_);obtain ⟨v,hv,e⟩:=iW.1 (hy ▸ h);rw [e];exact hv
 ·exact aH hK (ah.2 λh'=>by have:0<=y:=hy ▸ iW.2 ⟨x,h',rfl⟩;omega)
def pq (n:ByteArray) (s l d:Int):Prop:=yu n/\(1<=s/\s<=2000)/\(0<=l/\l<=1000)/\1<=d/\d<=200
theorem QM [St] (n:ByteArray) (s l d:Int):AP 208 [.agg [.str n,.int .i64 s,.int .i64 l,.int .i64 d]] AV.bool (bP (pq n s l d)):=by
  refine a0 Tryz.func208 λE K hE hK=>?_
  repeat' first
    |((first
   |refine aF (zf _) (λ_=>?_) (λ_=>?_)
   |refine aF (eU _ _ _) (λ_=>?_) (λ_=>?_)
   |refine B0 ?_|refine B1 ?_ ?_)<;>intros<;>(try conv=>cbv))
  all_goals (try clear hN)
  all_goals first
   |(omega)
   |(refine aH hK (aG.2 ?_);first|omega|grind [pq])
   |(refine aH hK (ah.2 ?_);first|omega|(intro h;grind [pq]))
   |(refine ⟨by omega,Up.succ (by assumption) ?_ (by assumption)⟩;grind [pq])
   |(refine hK _ ?_;simp_all [gP,pq];done)
   |(grind [pq])
theorem aag [St] (n:ByteArray) (s l d:Int):AP 108 [.pp [.str n,.int .i64 s,.int .i64 l,.int .i64 d]] AV.bool (bP (pq n s l d)):=by
  refine a0 Tryz.func108 λE K hE hK=>?_
  repeat' first
    |((first
   |refine aF (uI _) (λ_=>?_) (λ_=>?_)
   |refine aF (in_ _ _ _) (λ_=>?_) (λ_=>?_)
   |refine B0 ?_|refine B1 ?_ ?_)<;>intros<;>(try conv=>cbv))
  all_goals (try clear hN)
  all_goals first
   |(omega)
   |(refine aH hK (aG.2 ?_);first|omega|grind [pq])
   |(refine aH hK (ah.2 ?_);first|omega|(intro h;grind [pq]))
   |(refine ⟨by omega,Up.succ (by assumption) ?_ (by assumption)⟩;grind [pq])
   |(refine hK _ ?_;simp_all [gP,pq];done)
   |(grind [pq])
def Wrk.ok (v:Wrk):Prop:=yu v.name/\dZ v.atX v.atY/\(0<=v.load/\v.load<=1000)/\(1<=v.minutes/\v.minutes<=600)/\(0<=v.frm/\v.frm<=4320)/\(v.frm+v.minutes<=v.til/\v.til<=4320)
theorem wP [St] (t:Int):AP 211 [.int .i64 t] AV.bool (bP (0<=t/\t<=4320)):=by
  refine a0 Tryz.func211 λE K hE hK=>?_
  repeat' first
    |((first
   |refine aF (eU _ _ _) (λ_=>?_) (λ_=>?_)
   |refine B0 ?_|refine B1 ?_ ?_)<;>intros<;>(try conv=>cbv))
  all_goals exact fz
theorem QL [St] (n:ByteArray) (x y l m f t:Int):AP 286 [.agg [.str n,.int .i64 x,.int .i64 y,.int .i64 l,.int .i64 m,.int .i64 f,.int .i64 t]] AV.bool (bP (Wrk.ok ⟨n,x,y,l,m,f,t⟩)):=by
  refine a0 Tryz.func286 λE K hE hK=>?_
  repeat' first
    |((first
   |refine aF (zf _) (λ_=>?_) (λ_=>?_)
   |refine aF (jI _ _) (λ_=>?_) (λ_=>?_)
   |refine aF (wP _) (λ_=>?_) (λ_=>?_)
   |refine aF (eU _ _ _) (λ_=>?_) (λ_=>?_)
   |refine B0 ?_|refine B1 ?_ ?_)<;>intros<;>(try conv=>cbv))
  all_goals (try clear hN)
  all_goals first
   |(omega)
   |(refine aH hK (aG.2 ?_);first|omega|grind [Wrk.ok])
   |(refine aH hK (ah.2 ?_);first|omega|(intro h;grind [Wrk.ok]))
   |(refine ⟨by omega,Up.succ (by assumption) ?_ (by assumption)⟩;grind [Wrk.ok])
   |(refine hK _ ?_;simp_all [gP,Wrk.ok];done)
   |(grind [Wrk.ok])
theorem aaf [St] (n:ByteArray) (x y l m f t:Int):AP 180 [.pp [.str n,.int .i64 x,.int .i64 y,.int .i64 l,.int .i64 m,.int .i64 f,.int .i64 t]] AV.bool (bP (Wrk.ok ⟨n,x,y,l,m,f,t⟩)):=by
  refine a0 Tryz.func180 λE K hE hK=>?_
  repeat' first
    |((first
   |refine aF (uI _) (λ_=>?_) (λ_=>?_)
   |refine aF (xI _ _) (λ_=>?_) (λ_=>?_)
   |refine aF (in_ _ _ _) (λ_=>?_) (λ_=>?_)
   |refine B0 ?_|refine B1 ?_ ?_)<;>intros<;>(try conv=>cbv))
  all_goals (try clear hN)
  all_goals first
   |(omega)
   |(refine aH hK (aG.2 ?_);first|omega|grind [Wrk.ok])
   |(refine aH hK (ah.2 ?_);first|omega|(intro h;grind [Wrk.ok]))
   |(refine ⟨by omega,Up.succ (by assumption) ?_ (by assumption)⟩;grind [Wrk.ok])
   |(refine hK _ ?_;simp_all [gP,Wrk.ok];done)
   |(grind [Wrk.ok])
def Dgr.ok (v:Dgr):Prop:=yu v.name/\dZ v.atX v.atY/\(1<=v.kV/\v.kV<=20000)
theorem JN [St] (n:ByteArray) (x y r:Int):AP 206 [.agg [.str n,.int .i64 x,.int .i64 y,.int .i64 r]] AV.bool (bP (Dgr.ok ⟨n,x,y,r⟩)):=by
  refine a0 Tryz.func206 λE K hE hK=>?_
  repeat' first
    |((first
   |refine aF (zf _) (λ_=>?_) (λ_=>?_)
   |refine aF (jI _ _) (λ_=>?_) (λ_=>?_)
   |refine aF (eU _ _ _) (λ_=>?_) (λ_=>?_)
   |refine B0 ?_|refine B1 ?_ ?_)<;>intros<;>(try conv=>cbv))
  all_goals (try clear hN)
  all_goals first
   |(omega)
   |(refine aH hK (aG.2 ?_);first|omega|grind [Dgr.ok])
   |(refine aH hK (ah.2 ?_);first|omega|(intro h;grind [Dgr.ok]))
   |(refine ⟨by omega,Up.succ (by assumption) ?_ (by assumption)⟩;grind [Dgr.ok])
   |(refine hK _ ?_;simp_all [gP,Dgr.ok];done)
   |(grind [Dgr.ok])
theorem adF [St] (n:ByteArray) (x y r:Int):AP 199 [.pp [.str n,.int .i64 x,.int .i64 y,.int .i64 r]] AV.bool (bP (Dgr.ok ⟨n,x,y,r⟩)):=by
  refine a0 Tryz.func199 λE K hE hK=>?_
  repeat' first
    |((first
   |refine aF (uI _) (λ_=>?_) (λ_=>?_)
   |refine aF (xI _ _) (λ_=>?_) (λ_=>?_)
   |refine aF (in_ _ _ _) (λ_=>?_) (λ_=>?_)
   |refine B0 ?_|refine B1 ?_ ?_)<;>intros<;>(try conv=>cbv))
  all_goals (try clear hN)
  all_goals first
   |(omega)
   |(refine aH hK (aG.2 ?_);first|omega|grind [Dgr.ok])
   |(refine aH hK (ah.2 ?_);first|omega|(intro h;grind [Dgr.ok]))
   |(refine ⟨by omega,Up.succ (by assumption) ?_ (by assumption)⟩;grind [Dgr.ok])
   |(refine hK _ ?_;simp_all [gP,Dgr.ok];done)
   |(grind [Dgr.ok])
def Wrk.C (l:List Wrk) (j:Nat):Prop:=∃v,l[j]? =some v/\v.ok/\(0<j->∃w,l[j - 1]? =some w/\Op.bytesLess w.name.toList v.name.toList=true)
def BG (l:List Wrk):Prop:=(∀j,j<l.length->Wrk.C l j)/\l.length<=12
theorem Wrk.bad {l:List Wrk} {i:Int} {v w:Wrk} (h0:0<i) (hv:l[i.toNat]? =some v) {k:Int} (hk:k=i - 1) (hw:l[k.toNat]? =some w) {c:Bool} (hc:c=Op.bytesLess w.name.toList v.name.toList) (h:BG l):c=true:=by
 obtain ⟨v',e1,e2,e3⟩:=h.1 i.toNat (aa.1 hv).1;rw [hv] at e1;cases e1;obtain ⟨w',g1,g2⟩:=e3 (by omega);rw [show i.toNat - 1=k.toNat by omega,hw] at g1;cases g1;rw [hc];exact g2
theorem ab3 [St] {rs:List (List AV)} {t:Bool} {l:List Wrk} (hl:rs=l.map Wrk.cs):AP 210 [.sl t 7 rs] AV.bool (bP (BG l)):=by
  refine a0 Tryz.func210 λE K hE hK=>?_;refine bn hl λn hn hb=>?_;conv=>cbv
  refine cu [0,5,6] [7] (λ(i:Int)=>([(7,.int .i64 i)],[],l.length - i,0<=i/\Up (Wrk.C l) i)) [] (0) (by dsimp only;exact ⟨by omega,.zero (by omega)⟩) λi hi Kn hN=>?_;obtain ⟨h0,hinv⟩:=hi
  repeat' first
    |(refine hN _ [] rfl ⟨?_,?_⟩)
    |((first
   |(refine bQ (R:=Wrk.cs) hl (by omega) (λv hv=>?_);obtain ⟨nm,x1,x2,x3,x4,x5,x6⟩:=v;(try conv=>cbv);refine aF (QL _ _ _ _ _ _ _) (λh1=>?_) (λh1=>?_)<;>(try conv=>cbv);rotate_left;exact aH hK (ah.2 λh=>(by obtain ⟨v',e1,e2,e3⟩:=h.1 i.toNat (aa.1 hv).1;rw [hv] at e1;cases e1;exact h1 e2));refine ltI (λh2=>?_) (λh2=>?_)<;>(try conv=>cbv);refine eX (by omega) (λk hk=>?_);(try conv=>cbv);refine bQ (R:=Wrk.cs) hl (by omega) (λw hw=>?_);obtain ⟨nm',y1,y2,y3,y4,y5,y6⟩:=w;(try conv=>cbv);refine Zf (λc hc=>?_);cases hc2:c)
   |refine aF (F4 _ _) (λ_=>?_) (λ_=>?_)
   |refine B0 ?_|refine B1 ?_ ?_)<;>intros<;>(try conv=>cbv))
  all_goals (try clear hN)
  all_goals first
   |omega
   |exact aH hK (aG.2 ⟨hinv.all (by omega),by omega⟩)
   |(refine aH hK (ah.2 λh=>?_);have:=h.2;omega)
   |(refine aH hK (ah.2 λh=>?_);have:=Wrk.bad h2 hv hk hw hc h;rw [hc2] at this;cases this)
   |exact hinv.succ ⟨_,hv,h1,λ_=>⟨_,by rw [show i.toNat - 1=k.toNat by omega];exact hw,by rw [←hc];exact hc2⟩⟩ (by assumption)
   |exact hinv.succ ⟨_,hv,h1,λ_=>by omega⟩ (by assumption)
theorem sW_ [St] {rs:List (List AV)} {t:Bool} {l:List Wrk} (hl:rs=l.map Wrk.cs):AP 110 [.sl t 7 rs] AV.bool (bP (BG l)):=by
  refine a0 Tryz.func110 λE K hE hK=>?_;refine cu [0] [3] (λ(i:Int)=>([(3,.int .i64 i)],[],l.length - i,0<=i/\Up (Wrk.C l) i)) [] (0) (by dsimp only;exact ⟨by omega,.zero (by omega)⟩) λi hi Kn hN=>?_;obtain ⟨h0,hinv⟩:=hi;refine bn hl λn hn hb=>?_;conv=>cbv
  refine ltI (λhlt=>?_) (λhge=>?_)<;>conv=>cbv
  ·refine bQ (R:=Wrk.cs) hl (by omega) (λv hv=>?_);obtain ⟨nm,x1,x2,x3,x4,x5,x6⟩:=v;(conv=>cbv);refine aF (aaf _ _ _ _ _ _ _) (λh1=>?_) (λh1=>?_)<;>conv=>cbv
   ·refine ltI (λh2=>?_) (λh2=>?_)<;>conv=>cbv
    ·refine eX (by omega) (λk hk=>?_);(conv=>cbv);refine bQ (R:=Wrk.cs) hl (by omega) (λw hw=>?_);obtain ⟨nm',y1,y2,y3,y4,y5,y6⟩:=w;(conv=>cbv);refine gK (R:=Wrk.cs) hl (by omega) hv ?_;(conv=>cbv);refine Zf (λc hc=>?_);cases hc2:c<;>conv=>cbv
     ·refine aH hK (ah.2 λh=>?_);have:=Wrk.bad h2 hv hk hw hc h;rw [hc2] at this;cases this
     ·skip
      repeat' first
        |(refine hN _ [] rfl ⟨?_,?_⟩)
        |((first
       |refine B0 ?_|refine B1 ?_ ?_)<;>intros<;>(try conv=>cbv))
      all_goals (try clear hN)
      all_goals first
       |omega
       |exact hinv.succ ⟨_,hv,h1,λ_=>⟨_,by rw [show i.toNat - 1=k.toNat by omega];exact hw,by rw [←hc];exact hc2⟩⟩ (by assumption)
    ·skip
     repeat' first
       |(refine hN _ [] rfl ⟨?_,?_⟩)
       |((first
      |refine B0 ?_|refine B1 ?_ ?_)<;>intros<;>(try conv=>cbv))
     all_goals (try clear hN)
     all_goals first
      |omega
      |exact hinv.succ ⟨_,hv,h1,λ_=>by omega⟩ (by assumption)
   ·exact aH hK (ah.2 λh=>(by obtain ⟨v',e1,e2,e3⟩:=h.1 i.toNat (aa.1 hv).1;rw [hv] at e1;cases e1;exact h1 e2))
  ·skip
   repeat' first
     |((first
    |refine B0 ?_|refine B1 ?_ ?_)<;>intros<;>(try conv=>cbv))
   all_goals first
    |exact aH hK (aG.2 ⟨hinv.all (by omega),by omega⟩)
    |(refine aH hK (ah.2 λh=>?_);have:=h.2;omega)
def Dgr.C (l:List Dgr) (j:Nat):Prop:=∃v,l[j]? =some v/\v.ok/\(0<j->∃w,l[j - 1]? =some w/\Op.bytesLess w.name.toList v.name.toList=true)
def MG (l:List Dgr):Prop:=(∀j,j<l.length->Dgr.C l j)/\l.length<=24
theorem Dgr.bad {l:List Dgr} {i:Int} {v w:Dgr} (h0:0<i) (hv:l[i.toNat]? =some v) {k:Int} (hk:k=i - 1) (hw:l[k.toNat]? =some w) {c:Bool} (hc:c=Op.bytesLess w.name.toList v.name.toList) (h:MG l):c=true:=by
 obtain ⟨v',e1,e2,e3⟩:=h.1 i.toNat (aa.1 hv).1;rw [hv] at e1;cases e1;obtain ⟨w',g1,g2⟩:=e3 (by omega);rw [show i.toNat - 1=k.toNat by omega,hw] at g1;cases g1;rw [hc];exact g2
theorem ab4 [St] {rs:List (List AV)} {t:Bool} {l:List Dgr} (hl:rs=l.map Dgr.cs):AP 137 [.sl t 4 rs] AV.bool (bP (MG l)):=by
  refine a0 Tryz.func137 λE K hE hK=>?_;refine bn hl λn hn hb=>?_;conv=>cbv
  refine cu [0,5,6] [7] (λ(i:Int)=>([(7,.int .i64 i)],[],l.length - i,0<=i/\Up (Dgr.C l) i)) [] (0) (by dsimp only;exact ⟨by omega,.zero (by omega)⟩) λi hi Kn hN=>?_;obtain ⟨h0,hinv⟩:=hi
  repeat' first
    |(refine hN _ [] rfl ⟨?_,?_⟩)
    |((first
   |(refine bQ (R:=Dgr.cs) hl (by omega) (λv hv=>?_);obtain ⟨nm,x1,x2,x3⟩:=v;(try conv=>cbv);refine aF (JN _ _ _ _) (λh1=>?_) (λh1=>?_)<;>(try conv=>cbv);rotate_left;exact aH hK (ah.2 λh=>(by obtain ⟨v',e1,e2,e3⟩:=h.1 i.toNat (aa.1 hv).1;rw [hv] at e1;cases e1;exact h1 e2));refine ltI (λh2=>?_) (λh2=>?_)<;>(try conv=>cbv);refine eX (by omega) (λk hk=>?_);(try conv=>cbv);refine bQ (R:=Dgr.cs) hl (by omega) (λw hw=>?_);obtain ⟨nm',y1,y2,y3⟩:=w;(try conv=>cbv);refine Zf (λc hc=>?_);cases hc2:c)
   |refine aF (F4 _ _) (λ_=>?_) (λ_=>?_)
   |refine B0 ?_|refine B1 ?_ ?_)<;>intros<;>(try conv=>cbv))
  all_goals (try clear hN)
  all_goals first
   |omega
   |exact aH hK (aG.2 ⟨hinv.all (by omega),by omega⟩)
   |(refine aH hK (ah.2 λh=>?_);have:=h.2;omega)
   |(refine aH hK (ah.2 λh=>?_);have:=Dgr.bad h2 hv hk hw hc h;rw [hc2] at this;cases this)
   |exact hinv.succ ⟨_,hv,h1,λ_=>⟨_,by rw [show i.toNat - 1=k.toNat by omega];exact hw,by rw [←hc];exact hc2⟩⟩ (by assumption)
   |exact hinv.succ ⟨_,hv,h1,λ_=>by omega⟩ (by assumption)
theorem sD_ [St] {rs:List (List AV)} {t:Bool} {l:List Dgr} (hl:rs=l.map Dgr.cs):AP 177 [.sl t 4 rs] AV.bool (bP (MG l)):=by
  refine a0 Tryz.func177 λE K hE hK=>?_;refine cu [0] [3] (λ(i:Int)=>([(3,.int .i64 i)],[],l.length - i,0<=i/\Up (Dgr.C l) i)) [] (0) (by dsimp only;exact ⟨by omega,.zero (by omega)⟩) λi hi Kn hN=>?_;obtain ⟨h0,hinv⟩:=hi;refine bn hl λn hn hb=>?_;conv=>cbv
  refine ltI (λhlt=>?_) (λhge=>?_)<;>conv=>cbv
  ·refine bQ (R:=Dgr.cs) hl (by omega) (λv hv=>?_);obtain ⟨nm,x1,x2,x3⟩:=v;(conv=>cbv);refine aF (adF _ _ _ _) (λh1=>?_) (λh1=>?_)<;>conv=>cbv
   ·refine ltI (λh2=>?_) (λh2=>?_)<;>conv=>cbv
    ·refine eX (by omega) (λk hk=>?_);(conv=>cbv);refine bQ (R:=Dgr.cs) hl (by omega) (λw hw=>?_);obtain ⟨nm',y1,y2,y3⟩:=w;(conv=>cbv);refine gK (R:=Dgr.cs) hl (by omega) hv ?_;(conv=>cbv);refine Zf (λc hc=>?_);cases hc2:c<;>conv=>cbv
     ·refine aH hK (ah.2 λh=>?_);have:=Dgr.bad h2 hv hk hw hc h;rw [hc2] at this;cases this
     ·skip
      repeat' first
        |(refine hN _ [] rfl ⟨?_,?_⟩)
        |((first
       |refine B0 ?_|refine B1 ?_ ?_)<;>intros<;>(try conv=>cbv))
      all_goals (try clear hN)
      all_goals first
       |omega
       |exact hinv.succ ⟨_,hv,h1,λ_=>⟨_,by rw [show i.toNat - 1=k.toNat by omega];exact hw,by rw [←hc];exact hc2⟩⟩ (by assumption)
    ·skip
     repeat' first
       |(refine hN _ [] rfl ⟨?_,?_⟩)
       |((first
      |refine B0 ?_|refine B1 ?_ ?_)<;>intros<;>(try conv=>cbv))
     all_goals (try clear hN)
     all_goals first
      |omega
      |exact hinv.succ ⟨_,hv,h1,λ_=>by omega⟩ (by assumption)
   ·exact aH hK (ah.2 λh=>(by obtain ⟨v',e1,e2,e3⟩:=h.1 i.toNat (aa.1 hv).1;rw [hv] at e1;cases e1;exact h1 e2))
  ·skip
   repeat' first
     |((first
    |refine B0 ?_|refine B1 ?_ ?_)<;>intros<;>(try conv=>cbv))
   all_goals first
    |exact aH hK (aG.2 ⟨hinv.all (by omega),by omega⟩)
    |(refine aH hK (ah.2 λh=>?_);have:=h.2;omega)
def agX (a b:Int) (l:List Int) (j:Nat):Prop:=∃v,l[j]? =some v/\(a<=v/\v<=b)/\(0<j->∃w,l[j - 1]? =some w/\w<v)
def pz (a b:Int) (l:List Int):Prop:=∀j,j<l.length->agX a b l j
theorem pz.of {a b:Int} {l:List Int} (h:pz a b l) {i:Int} {v:Int} (hv:l[i.toNat]? =some v):(a<=v/\v<=b)/\(0<i->∀w,l[(i - 1).toNat]? =some w->w<v):=by
 obtain ⟨v',e1,e2,e3⟩:=h i.toNat (aa.1 hv).1;rw [hv] at e1;cases e1;refine ⟨e2,λh0 w hw=>?_⟩;obtain ⟨w',g1,g2⟩:=e3 (by omega);rw [show i.toNat - 1=(i - 1).toNat by omega,hw] at g1;cases g1;exact g2
theorem abO [St] {rs:List (List AV)} {t:Bool} {l:List Int}  (hl:rs=l.map aN):AP 139 [.sl t 1 rs] AV.bool (bP (pz 1 9999 l/\l.length<=24)):=by
  refine a0 Tryz.func139 λE K hE hK=>?_
  repeat' first
    |((refine cu [0,5,6] [7] (λ(i:Int)=>([(7,.int .i64 i)],[],l.length - i,0<=i/\Up (agX (1) (9999) l) i)) [] (0) (by dsimp only;exact ⟨by omega,.zero (by omega)⟩) λi hi2 Kn2 hN2=>?_);obtain ⟨h0,hinv⟩:=hi2)
    |(refine hN2 _ [] rfl ⟨?_,?_⟩)
    |((first
   |refine bn hl (λn hn hb=>?_)
   |(refine eX (by omega) (λk hk=>?_);(try conv=>cbv);refine bQ (R:=aN) hl (by omega) (λw hw=>?_))
   |refine gK (R:=aN) hl (by omega) hv ?_
   |refine bQ (R:=aN) hl (by omega) (λv hv=>?_)
   |refine aF (AU _) (λ_=>?_) (λ_=>?_)
   |refine aF (F4 _ _) (λ_=>?_) (λ_=>?_)
   |refine B0 ?_|refine B1 ?_ ?_)<;>intros<;>(try conv=>cbv))
  all_goals (try clear hN2)
  all_goals first
   |omega
   |exact hinv.succ ⟨_,hv,by omega,λ_=>⟨_,by rw [show i.toNat - 1=k.toNat by omega];exact hw,by omega⟩⟩ (by assumption)
   |exact hinv.succ ⟨_,hv,by omega,λ_=>by omega⟩ (by assumption)
   |exact aH hK (aG.2 ⟨hinv.all (by omega),by omega⟩)
   |exact aH hK (aG.2 (hinv.all (by omega)))
   |(refine aH hK (ah.2 λh=>?_);have h5:=pz.of h.1 hv;have h6:=h5.2 (by omega) w (by rw [show i - 1=k by omega];exact hw);omega)
   |(refine aH hK (ah.2 λh=>?_);have h5:=pz.of h hv;have h6:=h5.2 (by omega) w (by rw [show i - 1=k by omega];exact hw);omega)
   |(refine aH hK (ah.2 λh=>?_);have h5:=pz.of h.1 hv;omega)
   |(refine aH hK (ah.2 λh=>?_);have h5:=pz.of h hv;omega)
   |(refine aH hK (ah.2 λh=>?_);have h5:=h.2;omega)
theorem XJ [St] {rs:List (List AV)} {t:Bool} {l:List Int} (a b:Int) (hl:rs=l.map aN):AP 107 [.sl t 1 rs,.int .i64 a,.int .i64 b] AV.bool (bP (pz a b l)):=by
  refine a0 Tryz.func107 λE K hE hK=>?_
  repeat' first
    |((refine cu [0,1,2] [7] (λ(i:Int)=>([(7,.int .i64 i)],[],l.length - i,0<=i/\Up (agX (a) (b) l) i)) [] (0) (by dsimp only;exact ⟨by omega,.zero (by omega)⟩) λi hi2 Kn2 hN2=>?_);obtain ⟨h0,hinv⟩:=hi2)
    |(refine hN2 _ [] rfl ⟨?_,?_⟩)
    |((first
   |refine bn hl (λn hn hb=>?_)
   |(refine eX (by omega) (λk hk=>?_);(try conv=>cbv);refine bQ (R:=aN) hl (by omega) (λw hw=>?_))
   |refine gK (R:=aN) hl (by omega) hv ?_
   |refine bQ (R:=aN) hl (by omega) (λv hv=>?_)
   |refine aF (in_ _ _ _) (λ_=>?_) (λ_=>?_)
   |refine aF (F4 _ _) (λ_=>?_) (λ_=>?_)
   |refine B0 ?_|refine B1 ?_ ?_)<;>intros<;>(try conv=>cbv))
  all_goals (try clear hN2)
  all_goals first
   |omega
   |exact hinv.succ ⟨_,hv,by omega,λ_=>⟨_,by rw [show i.toNat - 1=k.toNat by omega];exact hw,by omega⟩⟩ (by assumption)
   |exact hinv.succ ⟨_,hv,by omega,λ_=>by omega⟩ (by assumption)
   |exact aH hK (aG.2 ⟨hinv.all (by omega),by omega⟩)
   |exact aH hK (aG.2 (hinv.all (by omega)))
   |(refine aH hK (ah.2 λh=>?_);have h5:=pz.of h.1 hv;have h6:=h5.2 (by omega) w (by rw [show i - 1=k by omega];exact hw);omega)
   |(refine aH hK (ah.2 λh=>?_);have h5:=pz.of h hv;have h6:=h5.2 (by omega) w (by rw [show i - 1=k by omega];exact hw);omega)
   |(refine aH hK (ah.2 λh=>?_);have h5:=pz.of h.1 hv;omega)
   |(refine aH hK (ah.2 λh=>?_);have h5:=pz.of h hv;omega)
   |(refine aH hK (ah.2 λh=>?_);have h5:=h.2;omega)
def agY (m:Nat) (o:List Int) (j:Nat):Prop:=∃k,o[j]? =some k/\(0<=k/\k<m)/\k∉o.take j
def GN (m:Nat) (o:List Int):Prop:=∀j,j<o.length->agY m o j
theorem GN.of {m:Nat} {o:List Int} (h:GN m o) {i:Int} {k:Int} (hk:o[i.toNat]? =some k):(0<=k/\k<m)/\k∉o.take i.toNat:=by
 obtain ⟨v',e1,e2⟩:=h i.toNat (aa.1 hk).1;rw [hk] at e1;cases e1;exact e2
theorem aaB [St] {rs ro:List (List AV)} {t t':Bool} {l:List Wrk} {o:List Int} (hl:rs=l.map Wrk.cs) (ho:ro=o.map aN):AP 212 [.sl t 7 rs,.sl t' 1 ro] AV.bool (bP (GN l.length o)):=by
  refine a0 Tryz.func212 λE K hE hK=>?_
  repeat' first
    |((refine cu [0,1,7,8] [9] (λ(i:Int)=>([(9,.int .i64 i)],[],o.length - i,0<=i/\Up (agY l.length o) i)) [] (0) (by dsimp only;exact ⟨by omega,.zero (by omega)⟩) λi hi2 Kn2 hN2=>?_);obtain ⟨h0,hinv⟩:=hi2)
    |(refine hN2 _ [] rfl ⟨?_,?_⟩)
    |((first
   |refine bn ho (λn hn hb=>?_)
   |refine bn hl (λm hm hb3=>?_)
   |refine gK (R:=aN) ho (by omega) (by assumption) ?_
   |refine bQ (R:=aN) ho (by omega) (λv hv=>?_)
   |(refine tQ (R:=aN) ho (by simp only [bp,cD];omega) (λrs2 gY=>?_);(have A9:rs2=(o.take i.toNat).map aN:=by rw [gY];simp))
   |refine aF (at_ _ _) (λ_=>?_) (λ_=>?_)
   |refine aF (Tz _ A9) (λ_=>?_) (λ_=>?_)
   |refine B0 ?_|refine B1 ?_ ?_)<;>intros<;>(try conv=>cbv))
  all_goals (try clear hN2)
  all_goals first
   |omega
   |exact hinv.succ ⟨_,hv,by omega,by assumption⟩ (by assumption)
   |exact aH hK (aG.2 (hinv.all (by omega)))
   |(refine aH hK (ah.2 λh=>?_);have h5:=h.of hv;omega)
   |(refine aH hK (ah.2 λh=>?_);have h5:=h.of hv;exact h5.2 (by assumption))
theorem Xk [St] {rs ro:List (List AV)} {t t':Bool} {l:List Wrk} {o:List Int} (hl:rs=l.map Wrk.cs) (ho:ro=o.map aN):AP 111 [.sl t 7 rs,.sl t' 1 ro] AV.bool (bP (GN l.length o)):=by
  refine a0 Tryz.func111 λE K hE hK=>?_
  repeat' first
    |((refine cu [0,1] [5] (λ(i:Int)=>([(5,.int .i64 i)],[],o.length - i,0<=i/\Up (agY l.length o) i)) [] (0) (by dsimp only;exact ⟨by omega,.zero (by omega)⟩) λi hi2 Kn2 hN2=>?_);obtain ⟨h0,hinv⟩:=hi2)
    |(refine hN2 _ [] rfl ⟨?_,?_⟩)
    |((first
   |refine bn ho (λn hn hb=>?_)
   |refine bn hl (λm hm hb3=>?_)
   |refine gK (R:=aN) ho (by omega) (by assumption) ?_
   |refine bQ (R:=aN) ho (by omega) (λv hv=>?_)
   |(refine tQ (R:=aN) ho (by simp only [bp,cD];omega) (λrs2 gY=>?_);(have A9:rs2=(o.take i.toNat).map aN:=by rw [gY];simp))
   |refine aF (in_ _ _ _) (λ_=>?_) (λ_=>?_)
   |refine aF (ah1 _ A9) (λ_=>?_) (λ_=>?_)
   |refine B0 ?_|refine B1 ?_ ?_)<;>intros<;>(try conv=>cbv))
  all_goals (try clear hN2)
  all_goals first
   |omega
   |exact hinv.succ ⟨_,hv,by omega,by assumption⟩ (by assumption)
   |exact aH hK (aG.2 (hinv.all (by omega)))
   |(refine aH hK (ah.2 λh=>?_);have h5:=h.of hv;omega)
   |(refine aH hK (ah.2 λh=>?_);have h5:=h.of hv;exact h5.2 (by assumption))
theorem Le [St] (n:Int):AP 86 [.int .i64 n] AV.bool (bP (0<=n/\n<=20)):=by
  refine a0 Tryz.func86 λE K hE hK=>?_
  repeat' first
    |((first
   |refine aF (eU _ _ _) (λ_=>?_) (λ_=>?_)
   |refine B0 ?_|refine B1 ?_ ?_)<;>intros<;>(try conv=>cbv))
  all_goals exact fz
theorem Hg [St] (n:Int):AP 178 [.int .i64 n] AV.bool (bP (0<=n/\n<=20)):=by
  refine a0 Tryz.func178 λE K hE hK=>?_
  repeat' first
    |((first
   |refine aF (in_ _ _ _) (λ_=>?_) (λ_=>?_)
   |refine B0 ?_|refine B1 ?_ ?_)<;>intros<;>(try conv=>cbv))
  all_goals exact fz
noncomputable def Tq (e:List Aid) (l:List Ntc) (d:Int):Int:=if dn e/\sW l then (if 0<=d/\d<=99999 then 0 else 2) else 1
theorem Bg {e:List Aid} {l:List Ntc} {d:Int}:Tq e l d=0↔dn e/\sW l/\0<=d/\d<=99999:=by
 unfold Tq;split
 ·split
  ·rename_i h1 h2;exact ⟨λ_=>⟨h1.1,h1.2,h2⟩,λ_=>rfl⟩
  ·rename_i h1 h2;exact ⟨λh=>by omega,λh=>absurd h.2.2 h2⟩
 ·rename_i h1;exact ⟨λh=>by omega,λh=>absurd ⟨h.1,h.2.1⟩ h1⟩
theorem zy [St] {re rn:List (List AV)} {t t' b b':Bool} {e:List Aid} {l:List Ntc} (d:Int) (he:re=e.map (Aid.cs b)) (hl:rn=l.map (Ntc.cs b')):AP 135 [.sl t 16 re,.sl t' 20 rn,.int .i64 d] (AV.int .i64) (Tq e l d):=by
  refine a0 Tryz.func135 λE K hE hK=>?_
  repeat' first
    |((first
   |refine aF (oI he) (λ_=>?_) (λ_=>?_)
   |refine aF (GY hl) (λ_=>?_) (λ_=>?_)
   |refine aF (aaF _) (λ_=>?_) (λ_=>?_)
   |refine B0 ?_|refine B1 ?_ ?_)<;>intros<;>(try conv=>cbv))
  all_goals first
   |(refine hK _ ?_;rw [Tq,if_pos ⟨by assumption,by assumption⟩,if_pos (by assumption)];rfl)
   |(refine hK _ ?_;rw [Tq,if_pos ⟨by assumption,by assumption⟩,if_neg (by assumption)];rfl)
   |(refine hK _ ?_;rw [Tq,if_neg (λh=>absurd h.1 (by assumption))];rfl)
   |(refine hK _ ?_;rw [Tq,if_neg (λh=>absurd h.2 (by assumption))];rfl)
noncomputable def QK (n:ByteArray) (s l d x y:Int) (ws:List Wrk) (o:List Int) (t:Int):Int:=if pq n s l d/\dZ x y/\BG ws then (if 0<=t/\t<=4320 then (if GN ws.length o then 0 else 7) else 2) else 1
theorem H6 {n:ByteArray} {s l d x y:Int} {ws:List Wrk} {o:List Int} {t:Int}:QK n s l d x y ws o t=0↔pq n s l d/\dZ x y/\BG ws/\(0<=t/\t<=4320)/\GN ws.length o:=by
 unfold QK;split
 ·rename_i h1;split
  ·rename_i h2;split
   ·rename_i h3;exact ⟨λ_=>⟨h1.1,h1.2.1,h1.2.2,h2,h3⟩,λ_=>rfl⟩
   ·rename_i h3;exact ⟨λh=>by omega,λh=>absurd h.2.2.2.2 h3⟩
  ·rename_i h2;exact ⟨λh=>by omega,λh=>absurd h.2.2.2.1 h2⟩
 ·rename_i h1;exact ⟨λh=>by omega,λh=>absurd ⟨h.1,h.2.1,h.2.2.1⟩ h1⟩
theorem ML [St] (n:ByteArray) (s l d x y st:Int) {rw ro:List (List AV)} {t t':Bool} {ws:List Wrk} {o:List Int} (hw:rw=ws.map Wrk.cs) (ho:ro=o.map aN):AP 140 [.agg [.str n,.int .i64 s,.int .i64 l,.int .i64 d],.agg [.int .i64 x,.int .i64 y],.sl t 7 rw,.sl t' 1 ro,.int .i64 st] (AV.int .i64) (QK n s l d x y ws o st):=by
  refine a0 Tryz.func140 λE K hE hK=>?_
  repeat' first
    |((first
   |refine aF (QM _ _ _ _) (λ_=>?_) (λ_=>?_)
   |refine aF (jI _ _) (λ_=>?_) (λ_=>?_)
   |refine aF (ab3 hw) (λ_=>?_) (λ_=>?_)
   |refine aF (wP _) (λ_=>?_) (λ_=>?_)
   |refine aF (aaB hw ho) (λ_=>?_) (λ_=>?_)
   |refine B0 ?_|refine B1 ?_ ?_)<;>intros<;>(try conv=>cbv))
  all_goals first
   |(refine hK _ ?_;rw [QK,if_pos ⟨by assumption,by assumption,by assumption⟩,if_pos (by assumption),if_pos (by assumption)];rfl)
   |(refine hK _ ?_;rw [QK,if_pos ⟨by assumption,by assumption,by assumption⟩,if_pos (by assumption),if_neg (by assumption)];rfl)
   |(refine hK _ ?_;rw [QK,if_pos ⟨by assumption,by assumption,by assumption⟩,if_neg (by assumption)];rfl)
   |(refine hK _ ?_;rw [QK,if_neg (λh=>by first|exact absurd h.1 (by assumption)|exact absurd h.2.1 (by assumption)|exact absurd h.2.2 (by assumption))];rfl)
def abX (f:List Fwy) (o:List Obv) (g:List Dgr) (w t:Int):Prop:=(∀v∈f,v.ok)/\(∀v∈o,v.ok)/\f.length<=8/\o.length<=16/\MG g/\(0<=w/\w<=20000)/\(0<=t/\t<=20)
def Aut.ok (a:Aut):Prop:=abX a.bq a.aT a.bK a.away a.aK/\(dn a.bJ/\sW a.bH/\0<=a.day/\a.day<=99999)/\(pz 1 9999 a.full/\a.full.length<=24)/\(pq a.dB a.bT a.dD a.bA/\dZ a.bX a.bY/\BG a.works/\(0<=a.start/\a.start<=4320)/\GN a.works.length a.order)
theorem YQ {α:Type} {l:List α} {p:α->Prop} {i:Int} (h:Up (λj=>∀w,l[j]? =some w->p w) i) (hi:l.length<=i):∀w∈l,p w:=λw hw=>by
 obtain ⟨j,hj⟩:=ap hw;exact h j (by have:=(aa.1 hj).1;omega) w hj
theorem VJ {os:List Obv}:rF [] os↔∀o∈os,o.ok:=⟨λh=>h.2,λh=>⟨⟨λj hj=>absurd hj (by simp),by simp⟩,h⟩⟩
set_option maxHeartbeats 8000000
theorem CX [St] (day away aK:Int) (dB:ByteArray) (bT dD bA bX bY start:Int) {bE bD bf bF aV dw bU bV:List (List AV)} {cZ cO bZ dh bN fG dU dV dA dz cK:Bool} {bJ:List Aid} {bH:List Ntc} {bq:List Fwy} {bK:List Dgr} {aT:List Obv} {full order:List Int} {works:List Wrk} (dH:bE=bJ.map (Aid.cs dA)) (dG:bD=bH.map (Ntc.cs dz)) (cB:bf=bq.map (Fwy.cs cK)) (dO:bF=bK.map Dgr.cs) (bS:aV=aT.map Obv.cs) (fI:dw=full.map aN) (fC:bU=works.map Wrk.cs) (fK:bV=order.map aN):AP 73 [.agg [.sl cZ 16 bE,.sl cO 20 bD,.int .i64 day,.sl bZ 5 bf,.sl dh 4 bF,.int .i64 away,.sl bN 4 aV,.int .i64 aK,.sl fG 1 dw,.str dB,.int .i64 bT,.int .i64 dD,.int .i64 bA,.int .i64 bX,.int .i64 bY,.sl dU 7 bU,.sl dV 1 bV,.int .i64 start]] AV.bool (bP (Aut.ok (Aut.mk bJ bH day bq bK away aT aK full dB bT dD bA bX bY works order start))):=by
  refine a0 Tryz.func73 λE K hE hK=>?_;refine bn cB λnf hnf hbf=>?_;conv=>cbv
  refine cu [1,6,7] [8] (λ(i:Int)=>([(8,.int .i64 i)],[.box [.sl cZ 16 bE,.sl cO 20 bD,.int .i64 day,.sl bZ 5 bf,.sl dh 4 bF,.int .i64 away,.sl bN 4 aV,.int .i64 aK,.sl fG 1 dw,.str dB,.int .i64 bT,.int .i64 dD,.int .i64 bA,.int .i64 bX,.int .i64 bY,.sl dU 7 bU,.sl dV 1 bV,.int .i64 start]],bq.length - i,0<=i/\Up (λj=>∀w,bq[j]? =some w->Fwy.ok w) i)) [0] (0) (by dsimp only;exact ⟨by omega,.zero (by omega)⟩) λi hi Kn hN=>?_;obtain ⟨h0,hinv⟩:=hi;refine ltI (λhlt=>?_) (λhge=>?_)<;>conv=>cbv
  ·refine AY cB (by omega) λf1 f2 f3 f4 f5 rln hv hln=>?_;(conv=>cbv);refine aF (R9 _ _ _ _ hln) (λh1=>?_) (λh1=>?_)<;>conv=>cbv
   ·skip
    repeat' first
      |(refine hN _ [0] rfl ⟨?_,?_⟩)
      |((first
     |refine B0 ?_|refine B1 ?_ ?_)<;>intros<;>(try conv=>cbv))
    all_goals (try clear hN)
    all_goals first
     |omega
     |(refine hinv.succ (λw hw=>?_) (by assumption);rw [hv] at hw;cases hw;exact h1)
   ·exact aH hK (ah.2 λh=>h1 (h.1.1 _ (ae hv)))
  ·have hall:=YQ hinv (by omega);clear hN hinv;refine aQ (zy day dH dG) λc hc=>?_;(conv=>cbv);refine eqI (λh1=>?_) (λh1=>?_)<;>conv=>cbv
   ·have h1':=Bg.1 (hc.symm.trans h1)
    repeat' first
      |((first
     |refine bn cB (λ_ _ _=>?_)
     |refine bn bS (λ_ _ _=>?_)
     |refine aQ (ML _ _ _ _ _ _ _ fC fK) (λv hv=>?_)
     |refine aF (F4 _ _) (λ_=>?_) (λ_=>?_)
     |refine aF (ab4 dO) (λ_=>?_) (λ_=>?_)
     |refine aF (adS _) (λ_=>?_) (λ_=>?_)
     |refine aF (AC.aiR (t:=true) (qD (b:=true) (l:=[]) (rs:=[]) rfl bS)) (λ_=>?_) (λ_=>?_)
     |refine aF (Le _) (λ_=>?_) (λ_=>?_)
     |refine aF (abO fI) (λ_=>?_) (λ_=>?_)
     |refine B0 ?_|refine B1 ?_ ?_)<;>intros<;>(try conv=>cbv))
    all_goals first
     |(refine aH hK (aG.2 ?_);unfold Aut.ok abX;dsimp only;exact ⟨⟨hall,VJ.1 (by assumption),by omega,by omega,by assumption,by assumption,by assumption⟩,h1',by assumption,H6.1 (hv.symm.trans (by assumption))⟩)
     |(refine aH hK (ah.2 λh=>?_);have h2:=H6.2 h.2.2.2;simp only at h2;omega)
     |(refine aH hK (ah.2 λh=>?_);have h2:=h.2.2.1;simp only at h2;contradiction)
     |(refine aH hK (ah.2 λh=>?_);have h2:=h.1.2.2.1;have h3:=h.1.2.2.2.1;simp only at h2 h3;omega)
     |(refine aH hK (ah.2 λh=>?_);have h2:=h.1.2.2.2.2.1;simp only at h2;contradiction)
     |(refine aH hK (ah.2 λh=>?_);have h2:=h.1.2.2.2.2.2.1;simp only at h2;contradiction)
     |(refine aH hK (ah.2 λh=>?_);have h2:=h.1.2.2.2.2.2.2;simp only at h2;contradiction)
     |(refine aH hK (ah.2 λh=>?_);have h2:=VJ.2 h.1.2.1;simp only at h2;contradiction)
   ·exact aH hK (ah.2 λh=>h1 (hc.trans (Bg.2 h.2.1)))
theorem RQ [St] (day away aK:Int) (dB:ByteArray) (bT dD bA bX bY start:Int) {bE bD bf bF aV dw bU bV:List (List AV)} {cZ cO bZ dh bN fG dU dV dA dz cK:Bool} {bJ:List Aid} {bH:List Ntc} {bq:List Fwy} {bK:List Dgr} {aT:List Obv} {full order:List Int} {works:List Wrk} (dH:bE=bJ.map (Aid.cs dA)) (dG:bD=bH.map (Ntc.cs dz)) (cB:bf=bq.map (Fwy.cs cK)) (dO:bF=bK.map Dgr.cs) (bS:aV=aT.map Obv.cs) (fI:dw=full.map aN) (fC:bU=works.map Wrk.cs) (fK:bV=order.map aN):AP 106 [.pp [.sl cZ 16 bE,.sl cO 20 bD,.int .i64 day,.sl bZ 5 bf,.sl dh 4 bF,.int .i64 away,.sl bN 4 aV,.int .i64 aK,.sl fG 1 dw,.str dB,.int .i64 bT,.int .i64 dD,.int .i64 bA,.int .i64 bX,.int .i64 bY,.sl dU 7 bU,.sl dV 1 bV,.int .i64 start]] AV.bool (bP (abX bq aT bK away aK)):=by
  refine a0 Tryz.func106 λE K hE hK=>?_
  repeat' first
    |((refine cu [0] [3] (λ(i:Int)=>([(3,.int .i64 i)],[],bq.length - i,0<=i/\Up (λj=>∀w,bq[j]? =some w->Fwy.ok w) i)) [] (0) (by dsimp only;exact ⟨by omega,.zero (by omega)⟩) λi hi2 Kn2 hN2=>?_);obtain ⟨h02,ae8⟩:=hi2)
    |((refine cu [0] [4] (λ(i:Int)=>([(4,.int .i64 i)],[],aT.length - i,0<=i/\Up (λj=>∀w,aT[j]? =some w->Obv.ok w) i)) [] (0) (by dsimp only;exact ⟨by omega,.zero (by omega)⟩) λi hi3 Kn3 hN3=>?_);obtain ⟨h03,ae7⟩:=hi3)
    |(refine hN3 _ [] rfl ⟨?_,?_⟩)
    |(refine hN2 _ [] rfl ⟨?_,?_⟩)
    |((first
   |refine bn cB (λ_ _ _=>?_)
   |refine bn bS (λ_ _ _=>?_)
   |refine AY cB (by omega) (λf1 f2 f3 f4 f5 rln hv hln=>?_)
   |(refine bQ (R:=Obv.cs) bS (by omega) (λo ho=>?_);obtain ⟨ox,oy,oe,ov⟩:=o)
   |refine aF (OO _ _ _ _ hln) (λ_=>?_) (λ_=>?_)
   |refine aF (Va _ _ _ _) (λ_=>?_) (λ_=>?_)
   |refine aF (sD_ dO) (λ_=>?_) (λ_=>?_)
   |refine aF (in_ _ _ _) (λ_=>?_) (λ_=>?_)
   |refine aF (Hg _) (λ_=>?_) (λ_=>?_)
   |refine B0 ?_|refine B1 ?_ ?_)<;>intros<;>(try conv=>cbv))
  all_goals (try clear hN2)
  all_goals (try clear hN3)
  all_goals first
   |omega
   |(refine ae8.succ (λw hw=>?_) (by assumption);rw [hv] at hw;cases hw;assumption)
   |(refine ae7.succ (λw hw=>?_) (by assumption);rw [ho] at hw;cases hw;assumption)
   |exact aH hK (aG.2 ⟨YQ ae8 (by omega),YQ ae7 (by omega),by omega,by omega,by assumption,by assumption,by assumption⟩)
   |(refine aH hK (ah.2 λh=>?_);have h2:=h.1 _ (ae hv);contradiction)
   |(refine aH hK (ah.2 λh=>?_);have h2:=h.2.1 _ (ae ho);contradiction)
   |(refine aH hK (ah.2 λh=>?_);have h2:=h.2.2.1;have h3:=h.2.2.2.1;omega)
   |(refine aH hK (ah.2 λh=>?_);have h2:=h.2.2.2.2.1;contradiction)
   |(refine aH hK (ah.2 λh=>?_);have h2:=h.2.2.2.2.2.1;contradiction)
   |(refine aH hK (ah.2 λh=>?_);have h2:=h.2.2.2.2.2.2;contradiction)
theorem afQ [St] (day away aK:Int) (dB:ByteArray) (bT dD bA bX bY start:Int) {bE bD bf bF aV dw bU bV:List (List AV)} {cZ cO bZ dh bN fG dU dV dA dz cK:Bool} {bJ:List Aid} {bH:List Ntc} {bq:List Fwy} {bK:List Dgr} {aT:List Obv} {full order:List Int} {works:List Wrk} (dH:bE=bJ.map (Aid.cs dA)) (dG:bD=bH.map (Ntc.cs dz)) (cB:bf=bq.map (Fwy.cs cK)) (dO:bF=bK.map Dgr.cs) (bS:aV=aT.map Obv.cs) (fI:dw=full.map aN) (fC:bU=works.map Wrk.cs) (fK:bV=order.map aN):AP 61 [.pp [.sl cZ 16 bE,.sl cO 20 bD,.int .i64 day,.sl bZ 5 bf,.sl dh 4 bF,.int .i64 away,.sl bN 4 aV,.int .i64 aK,.sl fG 1 dw,.str dB,.int .i64 bT,.int .i64 dD,.int .i64 bA,.int .i64 bX,.int .i64 bY,.sl dU 7 bU,.sl dV 1 bV,.int .i64 start]] AV.bool (bP (Aut.ok (Aut.mk bJ bH day bq bK away aT aK full dB bT dD bA bX bY works order start))):=by
  refine a0 Tryz.func61 λE K hE hK=>?_
  repeat' first
    |((first
   |refine bn fI (λ_ _ _=>?_)
   |refine aF (aak dH) (λ_=>?_) (λ_=>?_)
   |refine aF (afR dG) (λ_=>?_) (λ_=>?_)
   |refine aF (Vd _) (λ_=>?_) (λ_=>?_)
   |refine aF (RQ _ _ _ _ _ _ _ _ _ _ dH dG cB dO bS fI fC fK) (λ_=>?_) (λ_=>?_)
   |refine aF (XJ _ _ fI) (λ_=>?_) (λ_=>?_)
   |refine aF (AC.tl1 (aag _ _ _ _)) (λ_=>?_) (λ_=>?_)
   |refine aF (xI _ _) (λ_=>?_) (λ_=>?_)
   |refine aF (sW_ fC) (λ_=>?_) (λ_=>?_)
   |refine aF (Xk fC fK) (λ_=>?_) (λ_=>?_)
   |refine aF (in_ _ _ _) (λ_=>?_) (λ_=>?_)
   |refine B0 ?_|refine B1 ?_ ?_)<;>intros<;>(try conv=>cbv))
  all_goals first
   |(refine aH hK (aG.2 ?_);unfold Aut.ok;dsimp only;exact ⟨by assumption,⟨by assumption,by assumption,by assumption⟩,⟨by assumption,by omega⟩,by assumption,by assumption,by assumption,by omega,by assumption⟩)
   |(refine aH hK (ah.2 λh=>?_);obtain ⟨e1,⟨e2,e3,e4⟩,⟨e5,e6⟩,e7,e8,e9,e10,e11⟩:=h;simp only at e1 e2 e3 e4 e5 e6 e7 e8 e9 e10 e11;first|contradiction|omega)
set_option maxHeartbeats 2000000
set_option maxHeartbeats 4000000
theorem FW {ns:List Ntc} {d:Int} {v:Ntc} (h:v∈oV ns d):v∈ns/\v.kind≠4:=by
 obtain ⟨h1,h2⟩:=cV.1 h;exact ⟨h1,(aG.1 h2).1⟩
theorem SS (ns:List Ntc) (d:Int):(oV ns d).length<=ns.length:=dm _ _
theorem abm [St] {re rn:List (List AV)} {t t' b b':Bool} {e:List Aid} {ns:List Ntc} (d:Int) (he:re=e.map (Aid.cs b)) (hn:rn=ns.map (Ntc.cs b')) (hok:dn e) (hns:sW ns):AP 141 [.sl t 16 re,.sl t' 20 rn,.int .i64 d] Tt (runN e (oV ns d)):=by
  refine ac Tryz.func141 (.Tt _) λE K hE hK=>?_;have h24:=hok.2;have h32:=hns.2;refine dJ (wo he (λv hv=>Aid.iC (hok.mem hv)) (by omega)) λrs0 agh=>?_;conv=>cbv
  refine abC (aaH d hn (by omega)) ?_;rintro r ys ⟨rf,hrf,rfl,rfl⟩;conv=>cbv
  obtain ⟨F,hF⟩:∃F,F=oV ns d:=⟨_,rfl⟩
  have hFl:=SS ns d;have hFm:∀v∈F,v∈ns/\v.kind≠4:=λv hv=>FW (by rw [←hF];exact hv);rw [←hF] at hrf hFl hK;refine bn hrf λn hn2 hb2=>?_;conv=>cbv
  refine iR [18,19] [20,9] (λ(i:Int) (L:List Aid) (es:List (List AV))=>([(20,.int .i64 i),(9,.ob 0)],[.row 16 es,.row 20 rf],F.length - i,(0<=i/\i<=F.length)/\es=L.map (Aid.cs true)/\dn L/\runN e F=runN L (F.drop i.toNat))) [0,1] ((0,e,rs0)) (by dsimp only;exact ⟨by omega,agh,hok,rfl⟩) λi L es hi Kn hN=>?_;obtain ⟨⟨h0,h1⟩,h2,hL,hrun⟩:=hi
  repeat' first
    |(refine hN _ _ _ [3,1] rfl ⟨?_,gY,?_,?_⟩)
    |(refine hN _ _ _ [2,1] rfl ⟨?_,gY,?_,?_⟩)
    |(refine hN _ _ _ [4,1] rfl ⟨?_,gY,?_,?_⟩)
    |((first
   |(refine kK hrf (by omega) (λc0 c1 c2 c3 c4 c5 c6 c7 c8 c9 d0 d1 d2 d3 d4 d5 d6 d7 d8 d9 rg rx hv hg hx=>?_);(have hvm:=ae hv);(have hvo:=KI hns _ (hFm _ hvm).1);(have hst:=WK (L:=L) hv))
   |refine iK (R:=Aid.cs true) (aep _ _ _ _ _ _ _ _ _ _ _ _ _ _ _ _ _ _ hg hx h2 hL (λh=>(hvo.2.2.2.1 h).1)) (λrs2 n2 gY hn3=>?_)
   |refine eqI (a:=n2) (b:=0) (λhz0=>?_) (λhz1=>?_)
   |refine dW 16 ?_
   |refine B0 ?_|refine B1 ?_ ?_)<;>intros<;>(try conv=>cbv))
  all_goals (try clear hN)
  all_goals first
   |omega
   |exact Tj hL (λh=>(hvo.2.2.2.1 h).1) (hn3.symm.trans hz0)
   |(rename_i hm2;rw [hrun,hst,if_pos (hn3.symm.trans hz0),hm2,show (i+1).toNat=i.toNat+1 by omega])
   |(refine hK _ ?_;rw [hrun,hst,if_neg (λe=>hz1 (hn3.trans e)),←hn3];rfl)
   |(refine hK _ ?_;rw [hrun,fw (by omega),Nq,h2];rfl)
theorem Xl [St] {rs:List (List AV)} {t b:Bool} {l:List Ntc} {v:Ntc} (i d:Int) (hl:rs=l.map (Ntc.cs b)) (hv:l[i.toNat]? =some v) (h0:0<=i):AP 184 [.sl t 20 rs,.int .i64 i,.int .i64 d] AV.bool (bP (uN l d v)):=by
  refine a0 Tryz.func184 λE K hE hK=>?_;have hil:=(aa.1 hv).1;obtain ⟨c0,c1,c2,c3,c4,c5,c6,c7,c8,c9,d0,d1,d2,d3,d4,d5,d6,d7,d8,d9⟩:=v;obtain ⟨rg,hg⟩:∃r,r=d4.map aN:=⟨_,rfl⟩
  obtain ⟨rx,hx⟩:∃r,r=d8.map Scr.cs:=⟨_,rfl⟩
  repeat' first
    |((first
   |refine sF hl (by omega) hv hg hx ?_
   |refine aF (wO c0 d hl) (λhc=>?_) (λhc=>?_)
   |refine B0 ?_|refine B1 ?_ ?_)<;>intros<;>(try conv=>cbv))
  all_goals first
   |exact aH hK (aG.2 ⟨by assumption,by assumption,by assumption⟩)
   |(refine aH hK (ah.2 λh=>?_);obtain ⟨g1,g2,g3⟩:=h;simp only at g1 g2 g3;first|contradiction|omega)
theorem OP [St] {re rn:List (List AV)} {t t' b b':Bool} {e:List Aid} {ns:List Ntc} (d:Int) (he:re=e.map (Aid.cs b)) (hn:rn=ns.map (Ntc.cs b')) (hok:dn e) (hns:sW ns):AP 116 [.sl t 16 re,.sl t' 20 rn,.int .i64 d] Tt (runN e (oV ns d)):=by
  refine ac Tryz.func116 (.Tt _) λE K hE hK=>?_;have h24:=hok.2;have h32:=hns.2;refine dJ (lZ he (λv hv=>Aid.iC (hok.mem hv)) (by omega)) λrs0 agh=>?_;conv=>cbv
  refine iR [1,2] [10,9] (λ(i:Int) (L:List Aid) (es:List (List AV))=>([(10,.int .i64 i),(9,.ob 0)],[.row 16 es],ns.length - i,(0<=i/\i<=ns.length)/\es=L.map (Aid.cs true)/\dn L/\runN e (oV ns d)=runN L ((ns.drop i.toNat).filter λv=>bP (uN ns d v)))) [0] ((0,e,rs0)) (by dsimp only;exact ⟨by omega,agh,hok,rfl⟩) λi L es hi Kn hN=>?_;obtain ⟨⟨h0,h1⟩,h2,hL,hrun⟩:=hi;refine bn hn λn hn2 hb2=>?_;conv=>cbv
  refine ltI (λhlt=>?_) (λhge=>?_)<;>conv=>cbv
  ·(obtain ⟨v,hv⟩:∃v,ns[i.toNat]? =some v:=⟨_,ag (by omega)⟩);have hvo:=KI hns _ (ae hv);have hfs:=X9 (p:=λv=>bP (uN ns d v)) hv;have hfo:=Xl (t:=t') i d hn hv h0;obtain ⟨c0,c1,c2,c3,c4,c5,c6,c7,c8,c9,d0,d1,d2,d3,d4,d5,d6,d7,d8,d9⟩:=v;(obtain ⟨rg,hg⟩:∃r,r=d4.map aN:=⟨_,rfl⟩);obtain ⟨rx,hx⟩:∃r,r=d8.map Scr.cs:=⟨_,rfl⟩
   repeat' first
     |(refine hN _ _ _ [1] rfl ⟨?_,gY,?_,?_⟩)
     |(refine hN _ _ _ [0] rfl ⟨?_,h2,hL,?_⟩)
     |(refine hN _ _ _ [2] rfl ⟨?_,gY,?_,?_⟩)
     |((first
    |refine aF hfo (λhf=>?_) (λhf=>?_)
    |refine sF hn (by omega) hv hg hx ?_
    |refine iK (R:=Aid.cs true) (afS _ _ _ _ _ _ _ _ _ _ _ _ _ _ _ _ _ _ hg hx h2 hL (λh=>(hvo.2.2.2.1 h).1)) (λrs2 n2 gY hn3=>?_)
    |refine eqI (a:=n2) (b:=0) (λhz0=>?_) (λhz1=>?_)
    |refine dW 16 ?_
    |refine B0 ?_|refine B1 ?_ ?_)<;>intros<;>(try conv=>cbv))
   all_goals (try clear hN)
   all_goals first
    |omega
    |exact Tj hL (λh=>(hvo.2.2.2.1 h).1) (hn3.symm.trans hz0)
    |(rename_i hm2;rw [hrun,hfs,if_pos (aG.2 hf),runN,if_pos (hn3.symm.trans hz0),hm2,show (i+1).toNat=i.toNat+1 by omega])
    |(rename_i hm2;rw [hrun,hfs,if_neg (by rw [ah.2 hf];decide),hm2,show (i+1).toNat=i.toNat+1 by omega])
    |(refine hK _ ?_;rw [hrun,hfs,if_pos (aG.2 hf),runN,if_neg (λe=>hz1 (hn3.trans e)),←hn3];rfl)
  ·refine hK _ ?_;rw [hrun,fw (by omega),ml,Nq,h2];rfl
theorem LH [St] {re rn:List (List AV)} {t t' b b':Bool} {e:List Aid} {ns:List Ntc} (d:Int) (he:re=e.map (Aid.cs b)) (hn:rn=ns.map (Ntc.cs b')) (hok:dn e) (hns:sW ns) (hd:0<=d/\d<=99999):AP 74 [.sl t 16 re,.sl t' 20 rn,.int .i64 d] jG ((runN e (oV ns d)).1,(runN e (oV ns d)).2.2):=by
 refine ac Tryz.func74 (.jG _) λE K hE hK=>?_;refine aQ (zy d he hn) λc hc=>?_;rw [Bg.2 ⟨hok,hns,hd⟩] at hc;conv=>cbv
 refine eqT hc ?_;conv=>cbv
 refine VB (abm d he hn hok hns) λrs n m h1 h2 h3=>?_;conv=>cbv
 exact hK _ (by rw [h1,h3];rfl)
noncomputable def jN (a:Aut):List Aid×Int:=if a.ok then ((runN a.bJ (oV a.bH a.day)).1,(runN a.bJ (oV a.bH a.day)).2.2) else ([],1)
theorem adu [St] (day away aK:Int) (dB:ByteArray) (bT dD bA bX bY start:Int) {bE bD bf bF aV dw bU bV:List (List AV)} {cZ cO bZ dh bN fG dU dV dA dz cK:Bool} {bJ:List Aid} {bH:List Ntc} {bq:List Fwy} {bK:List Dgr} {aT:List Obv} {full order:List Int} {works:List Wrk} (dH:bE=bJ.map (Aid.cs dA)) (dG:bD=bH.map (Ntc.cs dz)) (cB:bf=bq.map (Fwy.cs cK)) (dO:bF=bK.map Dgr.cs) (bS:aV=aT.map Obv.cs) (fI:dw=full.map aN) (fC:bU=works.map Wrk.cs) (fK:bV=order.map aN):AP 31 [.agg [.sl cZ 16 bE,.sl cO 20 bD,.int .i64 day,.sl bZ 5 bf,.sl dh 4 bF,.int .i64 away,.sl bN 4 aV,.int .i64 aK,.sl fG 1 dw,.str dB,.int .i64 bT,.int .i64 dD,.int .i64 bA,.int .i64 bX,.int .i64 bY,.sl dU 7 bU,.sl dV 1 bV,.int .i64 start]] jG (jN (Aut.mk bJ bH day bq bK away aT aK full dB bT dD bA bX bY works order start)):=by
 refine ac Tryz.func31 (.jG _) λE K hE hK=>?_;refine aF (CX _ _ _ _ _ _ _ _ _ _ (by assumption) (by assumption) (by assumption) (by assumption) (by assumption) (by assumption) (by assumption) (by assumption)) (λhok=>?_) (λhok=>?_)<;>conv=>cbv
 ·refine iK (R:=Aid.cs true) (LH day dH dG hok.2.1.1 hok.2.1.2.1 hok.2.1.2.2) λrs n hrs hn=>?_;(conv=>cbv);exact hK _ (by rw [jN,if_pos hok,hrs,hn];rfl)
 ·refine dW 16 ?_;(conv=>cbv);exact hK _ (by rw [jN,if_neg hok];rfl)
theorem aae [St] (day away aK:Int) (dB:ByteArray) (bT dD bA bX bY start:Int) {bE bD bf bF aV dw bU bV:List (List AV)} {cZ cO bZ dh bN fG dU dV dA dz cK:Bool} {bJ:List Aid} {bH:List Ntc} {bq:List Fwy} {bK:List Dgr} {aT:List Obv} {full order:List Int} {works:List Wrk} (dH:bE=bJ.map (Aid.cs dA)) (dG:bD=bH.map (Ntc.cs dz)) (cB:bf=bq.map (Fwy.cs cK)) (dO:bF=bK.map Dgr.cs) (bS:aV=aT.map Obv.cs) (fI:dw=full.map aN) (fC:bU=works.map Wrk.cs) (fK:bV=order.map aN) (hok:Aut.ok (Aut.mk bJ bH day bq bK away aT aK full dB bT dD bA bX bY works order start)):AC Tryz.prog 63 [.pp [.sl cZ 16 bE,.sl cO 20 bD,.int .i64 day,.sl bZ 5 bf,.sl dh 4 bF,.int .i64 away,.sl bN 4 aV,.int .i64 aK,.sl fG 1 dw,.str dB,.int .i64 bT,.int .i64 dD,.int .i64 bA,.int .i64 bX,.int .i64 bY,.sl dU 7 bU,.sl dV 1 bV,.int .i64 start]] jG (jN (Aut.mk bJ bH day bq bK away aT aK full dB bT dD bA bX bY works order start)):=by
  refine acT 12 Tryz.func63 (by kernel_rfl) (.jG _) λE K hE hK=>?_;conv=>cbv
  repeat' first
    |((first
   |refine VB (OP day dH dG hok.2.1.1 hok.2.1.2.1) (λrs n m h1 h2 h3=>?_)
   |refine uz ?_ ?_
   |refine B0 ?_|refine B1 ?_ ?_)<;>intros<;>(try conv=>cbv))
  all_goals first
   |(refine hK _ ?_;rw [jN,if_pos hok,h1,h3];rfl)
theorem Nr:∀(vs:List Ntc) (L:List Aid),dn L->(∀v∈vs,v.kind=1∨v.kind=2->v.aid.ok)->dn (runN L vs).1
 |[],L,h,_=>h
 | v::vs,L,h,hv=>by
   rw [runN];split
   ·exact Nr vs _ (Tj h (hv v (ep ..)) (by assumption)) λu hu=>hv u (ew _ hu)
   ·exact ⟨λj hj=>by simp at hj,by simp⟩
theorem EZ (a:Aut):dn (jN a).1:=by
 unfold jN;split
 ·rename_i h;exact Nr _ _ h.2.1.1 λv hv hk=>((KI h.2.1.2.1 v (FW hv).1).2.2.2.1 hk).1
 ·exact ⟨λj hj=>by simp at hj,by simp⟩
theorem IX {a:Aut} (h:(jN a).2=0):a.ok:=by
 unfold jN at h;split at h
 ·assumption
 ·exact absurd h (by decide)
end Go.Proofs.YtnlhnideeaobpaaGreatDoor
