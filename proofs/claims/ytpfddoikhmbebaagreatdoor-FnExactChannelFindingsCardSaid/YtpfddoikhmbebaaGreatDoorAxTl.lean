/- A drawn region whose last part waits for all of its first part: the last part is walked in every order. -/
import Derived.Test.YtpfddoikhmbebaaGreatDoorAxU
namespace Go.Proofs.YtpfddoikhmbebaaGreatDoor
set_option linter.unusedVariables false
set_option linter.unusedSimpArgs false
open Go Go.RowKit
section
variable {P:Program} {np:Nat} {L:Lay} {W:WM} {w w':World} {A A':Nat->Prop} {os os':List Obj} {hd hd':Nat->Value} {F F':Nat->Nat->Prop} {s s1:AS} {a:Act}
def tailOK (n:Nat):List Nat->Bool
 |[]=>true
 | m::ms=>match Nat.beq (m &&& ((1 <<< n) - 1)) ((1 <<< n) - 1) with
  |true=>tailOK n ms
  |false=>false
theorem tailOK_spec {n:Nat}:∀{ms:List Nat},tailOK n ms=true->∀m∈ms,∀j,j<n->m.testBit j=true
 |[],_,m,h=>by cases h
 | x ::ms,h,m,hm=>by
  unfold tailOK at h
  split at h
  ·rename_i hb
   intro j hj
   rcases List.mem_cons.1 hm with rfl|hm
   ·have e:=Nat.eq_of_beq_eq_true hb
    have h1:((1 <<< n) - 1).testBit j=true:=by rw [Nat.one_shiftLeft,Nat.testBit_two_pow_sub_one];simp;omega
    rw [←e,Nat.testBit_and,Bool.and_eq_true] at h1
    exact h1.1
   ·exact tailOK_spec h m hm j hj
  ·cases h
noncomputable def axTl (E:Env) (L:Lay) (ops:List Oper) (n:Nat) (s:AS) (K:AS->Prop):Prop:=match drawOK (ops.take n) 0 (ops.take n),tailOK n ((masks [] ops).drop n),Nat.ble n ops.length with
 |true,true,true=>aops E L true (ops.take n) (ops.take n) s λs'=>aany E L ops (ops.length+1) (List.range n) s' K
 |_,_,_=>False
theorem atail_sound (hL:L.ty=layOf P) (hm:P.follows .mixedOrders=true) {id:Nat} {ops:Array Oper} {n:Nat} {Q:Exit->Act->World->Prop} {K:AS->Prop} (hQ:∀s' a' w' A' hd' F',K s'->CW W w' A' s'.os hd' F'->FR w' A' s'.os hd' s'.fr a'->Q .normal a' w')
  (hw:CW W w A s.os hd F) (hf:FR w A s.os hd s.fr a) (hk0:axTl (stdE np P) L ops.toList n s K):(Code.region id ops true).wp P Q a w:=by
 unfold axTl at hk0
 split at hk0
 rotate_left
 ·exact hk0.elim
 rename_i hdr htl hle
 have hk:=hk0
 have hnle:n<=ops.size:=by simpa using Nat.le_of_ble_eq_true hle
 have hcut:∀(i:Nat) o,n<=i->ops.toList[i]? =some o->∀S:Nat->Prop,Closed ops.toList S->(∀e∈o.after,bnd e=true->S e.on)->∀j,j<n->S j:=by
  intro i o hi ho S hS hr j hj
  have hl:(masks [] ops.toList).length=ops.toList.length:=by
   have:=(masks_spec (S:=λ_=>True) (ops:=ops.toList) (λ_ _ _ _ _ _ _=>trivial) ops.toList [] (λm _=>by simp) (λi j m h=>by simp at h) (λi j m o h=>by simp at h)).1
   simpa using this
  have hlt:=(List.getElem?_eq_some_iff.1 ho).1
  have hmm:(masks [] ops.toList)[i]? =some (masks [] ops.toList)[i]:=List.getElem?_eq_getElem (by omega)
  have hb:=tailOK_spec htl _ (List.mem_of_getElem? (i:=i - n) (by rw [List.getElem?_drop,show n+(i - n)=i by omega];exact hmm)) j hj
  rcases (masks_spec hS ops.toList [] (λm _=>by simp) (λi j m h=>by simp at h) (λi j m o h=>by simp at h)).2 i j _ o hmm ho hb hr with h|h
  ·omega
  ·exact h
 have hkp:=Keeps.drew w
 have hw':=hw.keep hkp
 have hf':FR w.drew A s.os hd s.fr a:=hf.to λy u hy=>hy.keep (λb hb=>(hw.hA b hb).1) hkp
 obtain ⟨xs,sf,ht,hK⟩:=txt_sim hL (ops.toList.take n) s a w.drew A hw' hf' hk
 obtain ⟨hlen,hos,hfr,_⟩:=txt_at (ops.toList.take n) s xs sf ht 0
 refine wp_region_any hm (adraw_any hL (λ_=>False) hdr ht hnle (λi o hi ho S hS he j hj _=>hcut i o hi ho S hS he j hj) (λfuel listed a' w' A' g1 gc gge g2 _ h1 h2=>?_) ops.size (Array.replicate ops.size false) a w.drew A (by simp) ?_ ?_ ?_ hw' ?_)
 ·have hall:∀i,i<n->listed.getD i false=true:=λi hi=>by
   cases h:listed.getD i false
   ·exact (g2 i hi h).elim
   ·rfl
  have e:puts (λj=>listed.getD j false) 0 (ops.toList.take n) xs s.fr=sf.fr:=by
   rw [hfr]
   refine List.ext_getElem? λt=>puts_agree _ _ _ _ _ (λm o ho _=>?_) rfl
   have:m<n:=by have:=(List.getElem?_eq_some_iff.1 ho).1;simp at this;omega
   simpa using hall m this
  rw [e] at h2
  refine aany_sound hL hQ fuel listed (ops.toList.length+1) (List.range n) sf a' w' A' hd F g1 (λj hj=>?_) (λj hj=>by have:=List.mem_range.1 hj;omega) gc (by rw [hos];exact h1) (by rw [hos];exact h2) hK
  by_cases hjn:j<n
  ·rw [hall j hjn];simp [hjn]
  ·rw [gge j (by omega) hj];simp [hjn]
 ·exact Nat.le_trans (List.length_filter_le _ _) (by simp)
 ·intro j _ hj;simp [hj]
 ·intro i o ho hi
  exfalso
  have:i<ops.size:=by simpa using (List.getElem?_eq_some_iff.1 ho).1
  simp [this] at hi
 ·have e:puts (λj=>(Array.replicate ops.size false).getD j false) 0 (ops.toList.take n) xs s.fr=s.fr:=by
   have h0:(λj=>(Array.replicate ops.size false).getD j false)=λ_=>false:=by
    funext j
    by_cases h:j<ops.size<;>simp [h]
   rw [h0]
   have e2:∀(l:List Oper) (i:Nat) (xs fr:List AV),puts (λ_=>false) i l xs fr=fr:=by
    intro l
    induction l with
    |nil=>intro i xs fr;simp [puts]
    |cons o l ih=>intro i xs fr;cases xs with|nil=>simp [puts]|cons x xs=>simp [puts,put1,ih]
   exact e2 _ _ _ _
  rw [e];exact hf'
noncomputable def axT (E:Env) (L:Lay) (n:Nat):Code->AS->(XE->AS->Prop)->Prop
 | .seq x y,s,K=>axT E L n x s λe s'=>match e with
  | .normal=>axT E L n y s' K
  |e=>K e s'
 | .region _ ops true,s,K=>axTl E L ops.toList n s (K .normal)
 | .region id ops false,s,K=>ax E L (.region id ops false) s K
 | .ret,s,K=>K .ret s
 |_,_,_=>False
theorem axT_sound (hL:L.ty=layOf P) (hm:P.follows .mixedOrders=true) (hnp:∀p∈W.pin,p.1<np) (n:Nat):∀(c:Code) (s:AS) (K:XE->AS->Prop) (a:Act) (w:World) (A:Nat->Prop) (hd:Nat->Value) (F:Nat->Nat->Prop) (Q:Exit->Act->World->Prop),
  (∀e s' a' w' A' hd' F',K e s'->CW W w' A' s'.os hd' F'->FR w' A' s'.os hd' s'.fr a'->Q e.ex a' w')->CW W w A s.os hd F->FR w A s.os hd s.fr a->axT (stdE np P) L n c s K->c.wp P Q a w
 | .seq x y,s,K,a,w,A,hd,F,Q,hQ,hw,hf,hk=>by
  refine wp_seq (axT_sound hL hm hnp n x s _ a w A hd F _ (λe s' a' w' A' hd' F' h1 h2 h3=>?_) hw hf hk)
  cases e with
  |normal=>exact axT_sound hL hm hnp n y s' K a' w' A' hd' F' Q hQ h2 h3 h1
  |exit id=>exact hQ (.exit id) s' a' w' A' hd' F' h1 h2 h3
  |ret=>exact hQ .ret s' a' w' A' hd' F' h1 h2 h3
 | .region id ops true,s,K,a,w,A,hd,F,Q,hQ,hw,hf,hk=>atail_sound hL hm (λs' a' w' A' hd' F' h1 h2 h3=>hQ .normal s' a' w' A' hd' F' h1 h2 h3) hw hf hk
 | .region id ops false,s,K,a,w,A,hd,F,Q,hQ,hw,hf,hk=>ax_sound hL hm hnp _ s K a w A hd F Q hQ hw hf hk
 | .ret,s,K,a,w,A,hd,F,Q,hQ,hw,hf,hk=>wp_ret (hQ .ret s a w A hd F hk hw hf)
 | .skip,_,_,_,_,_,_,_,_,_,_,_,hk=>hk.elim
 | .cond ..,_,_,_,_,_,_,_,_,_,_,_,hk=>hk.elim
 | .block ..,_,_,_,_,_,_,_,_,_,_,_,hk=>hk.elim
 | .loop ..,_,_,_,_,_,_,_,_,_,_,_,hk=>hk.elim
 | .exit ..,_,_,_,_,_,_,_,_,_,_,_,hk=>hk.elim
 | .rangeFunc ..,_,_,_,_,_,_,_,_,_,_,_,hk=>hk.elim
 | .scope _,_,_,_,_,_,_,_,_,_,_,_,hk=>hk.elim
 | .label _,_,_,_,_,_,_,_,_,_,_,_,hk=>hk.elim
 | .goto _,_,_,_,_,_,_,_,_,_,_,_,hk=>hk.elim
 | .refuse _,_,_,_,_,_,_,_,_,_,_,_,hk=>hk.elim
noncomputable def afunT (E:Env) (L:Lay) (n:Nat) (fn:Func) (args:List AV) (K:AV->Prop):Prop:=match fn.body with
 | some c=>axT E L n c ⟨args++List.replicate (fn.ntmps - args.length) .und,[]⟩ λe s=>match e with
  | .ret=>aret E L fn.results.toList s λvs=>K (atup vs)
  | .normal=>aret E L fn.results.toList s λvs=>K (atup vs)
  |_=>False
 |none=>False
theorem AC_of_axT (n:Nat) (hL:L.ty=layOf P) (hm:P.follows .mixedOrders=true) {f:FuncId} {fn:Func} {c:Code} (hf:P.funcs[f]? =some fn) (hname:(fn.name == "runtime.NumGoroutine")=false) (hb:fn.body=some c)
  {α:Type} {args:List AV} {R:α->AV} {x:α} (hn:NoB (R x)) (h:afunT (stdE np P) L n fn args λr=>r=R x):AC P f args R x:=by
 refine ⟨λxs w=>enters_go hf hname hb xs w,λw vs hg ⟨hsz,hr⟩=>calls_of_wp hf hb ?_⟩
 unfold afunT at h
 rw [hb] at h
 simp only at h
 refine axT_sound (W:=⟨w,λ_=>False,[],λ_=>True⟩) hL hm (λp hp=>by simp at hp) n c _ _ _ w (λb=>b<w.heap.size) (λ_=>undef) (λ_ _=>False) _ (λe s' a' w' A' hd' F' hK hw hfr=>?_) ⟨⟨rfl,rfl,rfl,Nat.le_refl _,λ_ _ _=>rfl,λ_ _=>rfl,DrawLe.refl _,hg,λ_ h=>h.elim⟩,λx hx=>⟨hx,λ_ h=>h⟩,λ_ _ h=>h.elim,λ_ _ _ h=>h.elim,λid k es ho=>by simp at ho,λid cs ho=>by simp at ho,λid s p ho=>by simp at ho,λp hp=>by simp at hp,λ_ _ _=>trivial⟩ ⟨rfl,by simp [hsz],λt x hx=>?_⟩ h
 ·have fin:aret (stdE np P) L fn.results.toList s' (λvs=>atup vs=R x)->a'.defers=[]/\∃v,(results fn a'.tmps).run P w'= .ok v w'/\∃u F,Ending.returned v= .returned u/\Keeps (λ_=>False) w w'/\XRel w' (λ_=>False) (R x) u F/\∀b,F b->w.heap.size<=b/\b<w'.heap.size:=λhk=>by
   obtain ⟨vs,l,G,h1,h2,h3,h4,h5,h6⟩:=aret_sound hL _ s' F' _ hw hfr hk
   refine ⟨hfr.nodef,_,?_,_,_,rfl,⟨hw.below.os,hw.below.tape,hw.below.output,hw.below.size,λx hx _=>hw.below.block x hx (λh=>h),hw.below.frz,hw.below.drawn⟩,(h1 ▸ atup_rel h3 h4 h6).noB hn,λb ⟨i,hi,hb⟩=>?_⟩
   ·rw [results_eq,Sem.run_bind,h2];rfl
   ·obtain ⟨id,hid⟩:=h5 i b hi hb
    exact ⟨(hw.fsz id b hid).1.elim (λh=>h) (λh=>h.elim),(hw.fsz id b hid).2⟩
  cases e with
  |normal=>exact fin hK
  |ret=>exact fin hK
  |exit id=>exact hK.elim
 ·rw [List.getElem?_append] at hx
  split at hx
  ·rename_i hlt
   have:=hr t x hx
   refine .pure _ _ ?_
   have e:(vs++Array.replicate (fn.ntmps - vs.size) undef).getD t undef=vs.getD t undef:=by
    have h1:t<vs.size:=by omega
    rw [←toList_getD,←toList_getD,List.getD_eq_getElem?_getD,List.getD_eq_getElem?_getD,Array.toList_append,List.getElem?_append_left (by simpa using h1)]
   rw [e];exact this
  ·rename_i hlt
   rw [List.getElem?_replicate] at hx
   split at hx
   ·cases hx
    refine .pure _ _ ?_
    have e:(vs++Array.replicate (fn.ntmps - vs.size) undef).getD t undef=undef:=by
     have h1:¬t<vs.size:=by omega
     simp [Array.getD,Array.getElem_append,h1]
    rw [e];exact .und
   ·cases hx
def lOff (f:FuncId) (b:Bool):Bool:=match Nat.beq f 58 with
 |false=>b
 |_=>false
noncomputable def LT2:Lay:=⟨tyT,λf=>lOff f (muT f),λf=>lOff f (srT f),fzT⟩
theorem LT2_ty:LT2.ty=layOf Tryz.prog:=LT_ty
theorem acT (n:Nat) {f:FuncId} {fn:Func} {α:Type} {args:List AV} {R:α->AV} {x:α} (hf:Tryz.prog.funcs[f]? =some fn) (hname:(fn.name == "runtime.NumGoroutine")=false) (hn:NoB (R x))
  (h:∀(E:Env) (K:AV->Prop),E=stdE 0 Tryz.prog->(∀r,r=R x->K r)->afunT E LT2 n fn args K):AC Tryz.prog f args R x:=by
 have h1:=h _ (λr=>r=R x) rfl (λ_ h=>h)
 cases hb:fn.body with
 |none=>unfold afunT at h1;rw [hb] at h1;exact h1.elim
 |some c=>exact AC_of_axT n LT2_ty wide hf hname hb hn h1
theorem acL {f:FuncId} {fn:Func} {α:Type} {args:List AV} {R:α->AV} {x:α} (hf:Tryz.prog.funcs[f]? =some fn) (hname:(fn.name == "runtime.NumGoroutine")=false) (hn:NoB (R x))
  (h:∀(E:Env) (K:AV->Prop),E=stdE 0 Tryz.prog->(∀r,r=R x->K r)->afun E LT2 fn args K):AC Tryz.prog f args R x:=by
 have h1:=h _ (λr=>r=R x) rfl (λ_ h=>h)
 cases hb:fn.body with
 |none=>unfold afun at h1;rw [hb] at h1;exact h1.elim
 |some c=>exact AC_of_ax LT2_ty wide hf hname hb hn h1
end
end Go.Proofs.YtpfddoikhmbebaaGreatDoor
