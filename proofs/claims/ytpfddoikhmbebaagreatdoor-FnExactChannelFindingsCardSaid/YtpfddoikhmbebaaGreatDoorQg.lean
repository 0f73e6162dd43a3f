/- Contracts: what an observer sees; the law; Contracts: the buoys that mark the sides of channels; the law; Contracts: how many aids each observer sees; the law. -/
import Derived.Test.YtpfddoikhmbebaaGreatDoorQf
import Derived.Test.YtpfddoikhmbebaaGreatDoorQi
namespace Go.Proofs.YtpfddoikhmbebaaGreatDoor
open Go Go.RowKit Classical
set_option maxRecDepth 100000
set_option maxHeartbeats 2000000
set_option linter.unusedVariables false
set_option linter.unusedSimpArgs false
theorem take_map {α β:Type} {f:α->β} {l:List α} {i n:Int} {v:α} (h0:0<=i) (hv:l[i.toNat]? =some v) (hn:n=i+1):(l.take n.toNat).map f=(l.take i.toNat).map f++[f v]:=by
  rw [show n.toNat=i.toNat+1 by omega,List.take_add_one,hv];simp
set_option maxHeartbeats 4000000
set_option maxHeartbeats 2000000
structure Buo where
  atX:Int
  atY:Int
  kind:Int
def Buo.cs (v:Buo):List AV:=[.int .i64 v.atX,.int .i64 v.atY,.int .i64 v.kind]
theorem NoB.oBuo (v:Buo):NoB (.agg v.cs):=(.aggC (.int _ _) (.aggC (.int _ _) (.aggC (.int _ _) .agg0)))
def Buo.mk' (k:Int):Buo:=⟨k+0,k+1,k+2⟩
def Buo.mks (n:Nat) (k:Int):List Buo:=(List.range n).map λi:Nat=>Buo.mk' (k+3*(i:Int))
theorem Buo.mks_len (n:Nat) (k:Int):(Buo.mks n k).length=n:=by simp [Buo.mks]
theorem Buo.mks_get {n:Nat} {k i:Int} {v:Buo} (h0:0<=i) (h:(Buo.mks n k)[i.toNat]? =some v):v=Buo.mk' (k+3*i):=by
  unfold Buo.mks at h
  rw [List.getElem?_map] at h
  by_cases hi:i.toNat<n
  · rw [List.getElem?_range hi] at h
    simp only [Option.map_some,Option.some.injEq] at h
    rw [←h,Int.toNat_of_nonneg h0]
  · rw [List.getElem?_eq_none (by simpa using Nat.le_of_not_lt hi)] at h;cases h
def Aid.lateral (v:Aid):Prop:=v.mKind=1∨v.mKind=2
def Aid.buo (v:Aid):Buo:=⟨v.atX,v.atY,v.mKind⟩
theorem isLateral_ (number atX atY height mKind lKind lPeriod intensity:Int) (name mColors mShape mTop lLetter lColors:ByteArray) {rg rx:List (List AV)} {t t':Bool} {g:List Int} {l:List Scr} (hg:rg=g.map intR) (hl:rx=l.map Scr.cs):AC Tryz.prog 75 [.agg [.int .i64 number,.str name,.int .i64 atX,.int .i64 atY,.int .i64 height,.int .i64 mKind,.str mColors,.str mShape,.str mTop,.int .i64 lKind,.sl t 1 rg,.str lLetter,.str lColors,.int .i64 lPeriod,.sl t' 3 rx,.int .i64 intensity]] AV.bool (bP (Aid.lateral ⟨number,name,atX,atY,height,mKind,mColors,mShape,mTop,lKind,g,lLetter,lColors,lPeriod,l,intensity⟩)):=by
  refine ac Tryz.func75 (.bool _) λE K hE hK=>?_
  conv=>cbv
  repeat' first
    |((first
   |refine q0 hE ?_
   |refine B0 hE ?_|refine B1 hE ?_ ?_|refine B2 hE ?_)<;>intros<;>(try conv=>cbv))
  all_goals first
    |exact finB hK (bP_true.2 (.inl (by assumption)))
    |exact finB hK (bP_true.2 (.inr (by assumption)))
    |exact finB hK (bP_false.2 λh=>h.elim (by assumption) (by assumption))
theorem l31Lateral_ (number atX atY height mKind lKind lPeriod intensity:Int) (name mColors mShape mTop lLetter lColors:ByteArray) {rg rx:List (List AV)} {t t':Bool} {g:List Int} {l:List Scr} (hg:rg=g.map intR) (hl:rx=l.map Scr.cs):AC Tryz.prog 110 [.pp [.int .i64 number,.str name,.int .i64 atX,.int .i64 atY,.int .i64 height,.int .i64 mKind,.str mColors,.str mShape,.str mTop,.int .i64 lKind,.sl t 1 rg,.str lLetter,.str lColors,.int .i64 lPeriod,.sl t' 3 rx,.int .i64 intensity]] AV.bool (bP (Aid.lateral ⟨number,name,atX,atY,height,mKind,mColors,mShape,mTop,lKind,g,lLetter,lColors,lPeriod,l,intensity⟩)):=by
  refine ac Tryz.func110 (.bool _) λE K hE hK=>?_
  conv=>cbv
  repeat' first
    |((first
   |refine q0 hE ?_
   |refine B0 hE ?_|refine B1 hE ?_ ?_|refine B2 hE ?_)<;>intros<;>(try conv=>cbv))
  all_goals first
    |exact finB hK (bP_true.2 (.inl (by assumption)))
    |exact finB hK (bP_true.2 (.inr (by assumption)))
    |exact finB hK (bP_false.2 λh=>h.elim (by assumption) (by assumption))
noncomputable def buoysL (l:List Aid) (i:Int):List Buo:=(selI Aid.lateral l i).map Aid.buo
theorem buoysL_len (l:List Aid) (i:Int):(buoysL l i).length<=l.length:=by unfold buoysL;rw [List.length_map];exact selI_len _ _ _
theorem buoysL_step {l:List Aid} {i n:Int} {v:Aid} (h0:0<=i) (hv:l[i.toNat]? =some v) (hn:n=i+1):(v.lateral->buoysL l n=buoysL l i++[v.buo])/\(¬v.lateral->buoysL l n=buoysL l i):=by
  have h:=selI_step Aid.lateral h0 hv hn
  unfold buoysL
  constructor
  · intro hp;rw [h.1 hp];simp
  · intro hp;rw [h.2 hp]
theorem buoysL_all {l:List Aid} {i:Int} (h:l.length<=i):buoysL l i=buoysL l l.length:=by unfold buoysL;rw [selI_all h,selI_all (by omega)]
noncomputable def lateralR (l:List Aid):List Buo×Int:=if AidsOk l then (buoysL l l.length,0) else ([],1)
def buoLI (p:List Buo×Int):AV:= .tup [.sl true 3 (p.1.map Buo.cs),.int .i64 p.2]
theorem NoB.buoLI (p:List Buo×Int):NoB (buoLI p):= .tupC (.rows .oBuo) (.tupC (.int _ _) .tup0)
set_option maxHeartbeats 4000000
theorem lateralBuoys_ {rs:List (List AV)} {t b:Bool} {l:List Aid} (hl:rs=l.map (Aid.cs b)):AC Tryz.prog 70 [.sl t 16 rs] buoLI (lateralR l):=by
  refine ac Tryz.func70 (.buoLI _) λE K hE hK=>?_
  conv=>cbv
  refine callP hE (validAids_ hl) (λhok=>?_) (λhok=>?_)<;>conv=>cbv
  · refine lenL hE hl λn hn hb=>?_
    conv=>cbv
    have h24:=hok.2
    refine loop2 hE [11,12] [13,4] (λ(i:Int) (es:List (List AV))=>([(13,.int .i64 i),(4,.ob 0)],[.row 3 es],l.length - i,(0<=i/\i<=l.length)/\es=(buoysL l i).map Buo.cs)) [0] ((0,[])) rfl rfl (by dsimp only;exact ⟨by omega,by rw [buoysL,selI_zero (by omega)];rfl⟩) λi es hi Kn hN=>?_
    (try dsimp only at hi)
    conv=>cbv
    obtain ⟨⟨h0,h1⟩,h2⟩:=hi
    have hlen:=buoysL_len l i
    repeat' first
      |(refine hN (_,_) _ [3] (by decide) rfl ⟨?_,?_⟩ ?_<;>(try dsimp only))
      |(refine hN (_,_) _ [0] (by decide) rfl ⟨?_,?_⟩ ?_<;>(try dsimp only))
      |((first
     |refine idxAid hE hl (by omega) (λnumber name atX atY height mKind mColors mShape mTop lKind lGroup lLetter lColors lPeriod sectors intensity rg rx hv hg hx=>?_)
     |refine q0 hE ?_
     |refine callP hE (isLateral_ _ _ _ _ _ _ _ _ _ _ _ _ _ _ hg hx) (λ_=>?_) (λ_=>?_)
     |refine catP hE (R:=Buo.cs) (v:=⟨atX,atY,mKind⟩) h2 rfl (by omega) (λ_ _=>?_)
     |refine B0 hE ?_|refine B1 hE ?_ ?_|refine B2 hE ?_)<;>intros<;>(try conv=>cbv))
    all_goals (try clear hN)
    all_goals first
      |omega
      |(rw [(buoysL_step h0 hv (by assumption)).1 (by assumption)];assumption)
      |(rw [(buoysL_step h0 hv (by assumption)).2 (by assumption)];assumption)
      |(refine hK _ ?_;rw [lateralR,if_pos hok,h2,buoysL_all (by omega)];rfl)
  · refine nilOwnI hE 3 ?_
    conv=>cbv
    exact hK _ (by rw [lateralR,if_neg hok];rfl)
theorem l31Buoys_ {rs:List (List AV)} {t b:Bool} {l:List Aid} (hl:rs=l.map (Aid.cs b)) (hb0:l.length<=1048576):AC Tryz.prog 104 [.sl t 16 rs] (λl:List Buo=> .sl true 3 (l.map Buo.cs)) (buoysL l l.length):=by
  refine ac Tryz.func104 (.rows .oBuo) λE K hE hK=>?_
  conv=>cbv
  refine loop2 hE [0] [4,3] (λ(i:Int) (es:List (List AV))=>([(4,.int .i64 i),(3,.ob 0)],[.row 3 es],l.length - i,(0<=i/\i<=l.length)/\es=(buoysL l i).map Buo.cs)) [0] ((0,[])) rfl rfl (by dsimp only;exact ⟨by omega,by rw [buoysL,selI_zero (by omega)];rfl⟩) λi es hi Kn hN=>?_
  (try dsimp only at hi)
  conv=>cbv
  obtain ⟨⟨h0,h1⟩,h2⟩:=hi
  have hlen:=buoysL_len l i
  repeat' first
    |(refine hN (_,_) _ [0] (by decide) rfl ⟨?_,?_⟩ ?_<;>(try dsimp only))
    |(refine hN (_,_) _ [1] (by decide) rfl ⟨?_,?_⟩ ?_<;>(try dsimp only))
    |(refine hN (_,_) _ [2] (by decide) rfl ⟨?_,?_⟩ ?_<;>(try dsimp only))
    |((first
   |refine idxAidV hE hl (by omega) (by assumption) (by assumption) (by assumption) ?_
   |refine idxAid hE hl (by omega) (λnumber name atX atY height mKind mColors mShape mTop lKind lGroup lLetter lColors lPeriod sectors intensity rg rx hv hg hx=>?_)
   |refine q0 hE ?_
   |refine callP hE (l31Lateral_ _ _ _ _ _ _ _ _ _ _ _ _ _ _ hg hx) (λ_=>?_) (λ_=>?_)
   |refine catP hE (R:=Buo.cs) (v:=⟨atX,atY,mKind⟩) h2 rfl (by omega) (λ_ _=>?_)
   |refine B0 hE ?_|refine B1 hE ?_ ?_|refine B2 hE ?_)<;>intros<;>(try conv=>cbv))
  all_goals (try clear hN)
  all_goals first
    |omega
    |(rw [(buoysL_step h0 hv (by assumption)).1 (by assumption)];assumption)
    |(rw [(buoysL_step h0 hv (by assumption)).2 (by assumption)];assumption)
    |(refine hK _ ?_;rw [h2,buoysL_all (by omega)];rfl)
set_option maxHeartbeats 2000000
theorem indexObserver0_ {rs:List (List AV)} {t:Bool} {l:List Obv} {g:FuncId} {p:Obv->Prop} (hl:rs=l.map Obv.cs) (hp:∀atX atY eye vis,AC Tryz.prog g (.agg [.int .i64 atX,.int .i64 atY,.int .i64 eye,.int .i64 vis]::[]) AV.bool (bP (p ⟨atX,atY,eye,vis⟩))):AC Tryz.prog 244 [.sl t 4 rs,.fn g []] (AV.int .i64) (firstI p l):=by
  refine ac Tryz.func244 (.int _ _) λE K hE hK=>?_
  conv=>cbv
  refine lenL hE hl λn hn hb=>?_
  conv=>cbv
  refine loop1 hE [0,1,7] [8] (λ(i:Int)=>([(8,.int .i64 i)],[],l.length - i,0<=i/\Up (λj=>∀v,l[j]? =some v->¬p v) i)) [] (0) rfl rfl (by dsimp only;exact ⟨by omega,.zero (by omega)⟩) λi hi Kn hN=>?_
  (try dsimp only at hi)
  conv=>cbv
  obtain ⟨h0,hinv⟩:=hi
  repeat' first
    |(refine hN _ _ [] (by decide) rfl ⟨?_,?_⟩ ?_<;>(try dsimp only))
    |((first
   |refine q0 hE ?_
   |refine callP hE (hp _ _ _ _) (λ_=>?_) (λ_=>?_)
   |(refine idxL (R:=Obv.cs) hE (by assumption) (by first|omega|(simp only [List.length_set,mix_len];omega)) ?_;rintro ⟨⟩ _)
   |refine B0 hE ?_|refine B1 hE ?_ ?_|refine B2 hE ?_)<;>intros<;>(try conv=>cbv))
  · refine hK _ ?_
    rw [firstI_in h0 (by assumption) (by assumption) hinv];rfl
  · omega
  · refine hinv.succ ?_ (by assumption)
    clear hN;simp_all
  · omega
  · refine hK _ ?_
    rw [firstI_out (by omega) hinv];rfl
theorem containsObserver0_ {rs:List (List AV)} {t:Bool} {l:List Obv} {g:FuncId} {p:Obv->Prop} (hl:rs=l.map Obv.cs) (hp:∀atX atY eye vis,AC Tryz.prog g (.agg [.int .i64 atX,.int .i64 atY,.int .i64 eye,.int .i64 vis]::[]) AV.bool (bP (p ⟨atX,atY,eye,vis⟩))):AC Tryz.prog 187 [.sl t 4 rs,.fn g []] AV.bool (bP (∃v∈l,p v)):=by
  refine ac Tryz.func187 (.bool _) λE K hE hK=>?_
  conv=>cbv
  refine callI hE (indexObserver0_ hl hp) λy hy=>?_
  conv=>cbv
  refine leI hE (λh=>?_) (λh=>?_)<;>conv=>cbv
  · exact finB hK (bP_true.2 (firstI_ge.1 (by omega)))
  · exact finB hK (bP_false.2 λh'=>by have:=firstI_ge.2 h';omega)
def Obv.ok (o:Obv):Prop:=ObvOk o.atX o.atY o.eye o.vis
def AskOk (l:List Aid) (os:List Obv):Prop:=AidsOk l/\∀o∈os,o.ok
theorem areObservers1_ (atX atY eye vis:Int):AC Tryz.prog 188 [.agg [.int .i64 atX,.int .i64 atY,.int .i64 eye,.int .i64 vis]] AV.bool (bP (¬Obv.ok ⟨atX,atY,eye,vis⟩)):=by
  refine ac Tryz.func188 (.bool _) λE K hE hK=>?_
  conv=>cbv
  repeat' first
    |((first
   |refine q0 hE ?_
   |refine callP hE (validObserver_ _ _ _ _) (λ_=>?_) (λ_=>?_)
   |refine B0 hE ?_|refine B1 hE ?_ ?_|refine B2 hE ?_)<;>intros<;>(try conv=>cbv))
  all_goals first
    |exact finB hK (bP_false.2 λh=>h (by assumption))
    |exact finB hK (bP_true.2 (by assumption))
theorem areObservers_ {rs ro:List (List AV)} {t t' b:Bool} {l:List Aid} {os:List Obv} (hl:rs=l.map (Aid.cs b)) (ho:ro=os.map Obv.cs):AC Tryz.prog 126 [.sl t 16 rs,.sl t' 4 ro] AV.bool (bP (AskOk l os)):=by
  refine ac Tryz.func126 (.bool _) λE K hE hK=>?_
  conv=>cbv
  refine callP hE (validAids_ hl) (λh1=>?_) (λh1=>?_)<;>conv=>cbv
  · refine callP hE (containsObserver0_ (p:=λo=>¬Obv.ok o) ho areObservers1_) (λh2=>?_) (λh2=>?_)<;>conv=>cbv
    · refine finB hK (bP_false.2 λh=>?_)
      obtain ⟨o,g1,g2⟩:=h2
      exact g2 (h.2 o g1)
    · exact finB hK (bP_true.2 ⟨h1,λo ho=>Classical.byContradiction λhn=>h2 ⟨o,ho,hn⟩⟩)
  · exact finB hK (bP_false.2 λh=>h1 h.1)
set_option maxHeartbeats 4000000
end Go.Proofs.YtpfddoikhmbebaaGreatDoor
