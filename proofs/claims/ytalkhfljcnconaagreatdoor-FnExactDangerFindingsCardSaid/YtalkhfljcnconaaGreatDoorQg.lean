/- Contracts: what an observer sees; the law; Contracts: the buoys that mark the sides of channels; the law; Contracts: how many aids each observer sees; the law. -/
import Derived.Test.YtalkhfljcnconaaGreatDoorQf
import Derived.Test.YtalkhfljcnconaaGreatDoorQi
namespace Go.Proofs.YtalkhfljcnconaaGreatDoor
open Go Go.RowKit Classical
set_option maxRecDepth 100000
set_option maxHeartbeats 2000000
set_option linter.unusedVariables false
set_option linter.unusedSimpArgs false
theorem take_map {α β:Type} {f:α->β} {l:List α} {i n:Int} {v:α} (h0:0<=i) (hv:l[i.toNat]?=some v) (hn:n=i+1):(l.take n.toNat).map f=(l.take i.toNat).map f++[f v]:=by
  rw [show n.toNat=i.toNat+1 by omega,List.take_add_one,hv];simp
set_option maxHeartbeats 4000000
end Go.Proofs.YtalkhfljcnconaaGreatDoor
namespace Go.Proofs.YtalkhfljcnconaaGreatDoor
open Go Go.RowKit Classical
set_option maxRecDepth 100000
set_option maxHeartbeats 2000000
set_option linter.unusedVariables false
set_option linter.unusedSimpArgs false
structure Buo where
  atX:Int
  atY:Int
  kind:Int
def Buo.cs (v:Buo):List AV:=[.int .i64 v.atX,.int .i64 v.atY,.int .i64 v.kind]
theorem NoB.oBuo (v:Buo):NoB (.agg v.cs):=(.aggC (.int _ _) (.aggC (.int _ _) (.aggC (.int _ _) .agg0)))
def Buo.mk' (k:Int):Buo:=⟨k+0,k+1,k+2⟩
def Buo.mks (n:Nat) (k:Int):List Buo:=(List.range n).map λi:Nat=>Buo.mk' (k+3*(i:Int))
theorem Buo.mks_len (n:Nat) (k:Int):(Buo.mks n k).length=n:=by simp [Buo.mks]
theorem Buo.mks_get {n:Nat} {k i:Int} {v:Buo} (h0:0<=i) (h:(Buo.mks n k)[i.toNat]?=some v):v=Buo.mk' (k+3*i):=by
  unfold Buo.mks at h
  rw [List.getElem?_map] at h
  by_cases hi:i.toNat<n
  · rw [List.getElem?_range hi] at h
    simp only [Option.map_some,Option.some.injEq] at h
    rw [←h,Int.toNat_of_nonneg h0]
  · rw [List.getElem?_eq_none (by simpa using Nat.le_of_not_lt hi)] at h;cases h
def buoLI (p:List Buo×Int):AV:= .tup [.sl true 3 (p.1.map Buo.cs),.int .i64 p.2]
theorem NoB.buoLI (p:List Buo×Int):NoB (buoLI p):= .tupC (.rows .oBuo) (.tupC (.int _ _) .tup0)
set_option maxHeartbeats 4000000
end Go.Proofs.YtalkhfljcnconaaGreatDoor
namespace Go.Proofs.YtalkhfljcnconaaGreatDoor
open Go Go.RowKit Classical
set_option maxRecDepth 100000
set_option maxHeartbeats 2000000
set_option linter.unusedVariables false
set_option linter.unusedSimpArgs false
theorem indexObserver0_ {rs:List (List AV)} {t:Bool} {l:List Obv} {g:FuncId} {p:Obv->Prop} (hl:rs=l.map Obv.cs) (hp:∀atX atY eye vis,AC Tryz.prog g (.agg [.int .i64 atX,.int .i64 atY,.int .i64 eye,.int .i64 vis]::[]) AV.bool (bP (p ⟨atX,atY,eye,vis⟩))):AC Tryz.prog 196 [.sl t 4 rs,.fn g []] (AV.int .i64) (firstI p l):=by
  refine ac Tryz.func196 (by kernel_rfl) (.int _ _) λE K hE hK=>?_
  conv=>cbv
  refine lenL hE hl λn hn hb=>?_
  conv=>cbv
  refine loopC hE (ι:=Int) [0,1,7] [8] (λq=>(λ(i:Int)=>[(8,.int .i64 i)]) q) (λq=>(λ(i:Int)=>[]) q) (λq=>(λ(i:Int)=>(l.length - i).toNat) q) (λq=>(λ(i:Int)=>0<=i/\Up (λj=>∀v,l[j]?=some v->¬p v) i) q) [] (by decide) (0) (by conv=>lhs;cbv) (by conv=>lhs;cbv) rfl rfl (by dsimp only;exact ⟨by omega,.zero (by omega)⟩) λi hi Kn hN=>?_
  (try dsimp only at hi)
  conv=>cbv
  obtain ⟨h0,hinv⟩:=hi
  repeat' first
    |(refine hN _ _ [] (by decide) rfl ⟨?_,?_⟩ ?_<;>(try dsimp only))
    |((first
   |refine q0 hE ?_
   |refine callP hE (hp _ _ _ _) (λ_=>?_) (λ_=>?_)
   |(refine idxL (R:=Obv.cs) hE (by assumption) (by first|omega|(simp only [List.length_set,mix_len];omega)) ?_;rintro ⟨⟩ _)
   |refine B0 hE ?_|refine B1 hE (λ_=>?_) λ_=>?_|refine B3 hE λ_ _ _=>?_|refine B2 hE λ_ _=>?_|refine B4 hE λ_ _ _ _=>?_)<;>(try conv=>cbv))
  · refine hK _ ?_
    rw [firstI_in h0 (by assumption) (by assumption) hinv];rfl
  · omega
  · refine hinv.succ ?_ (by assumption)
    clear hN;simp_all
  · omega
  · refine hK _ ?_
    rw [firstI_out (by omega) hinv];rfl
theorem containsObserver0_ {rs:List (List AV)} {t:Bool} {l:List Obv} {g:FuncId} {p:Obv->Prop} (hl:rs=l.map Obv.cs) (hp:∀atX atY eye vis,AC Tryz.prog g (.agg [.int .i64 atX,.int .i64 atY,.int .i64 eye,.int .i64 vis]::[]) AV.bool (bP (p ⟨atX,atY,eye,vis⟩))):AC Tryz.prog 135 [.sl t 4 rs,.fn g []] AV.bool (bP (∃v∈l,p v)):=by
  refine ac Tryz.func135 (by kernel_rfl) (.bool _) λE K hE hK=>?_
  conv=>cbv
  refine callI hE (indexObserver0_ hl hp) λy hy=>?_
  conv=>cbv
  refine leI hE (λh=>?_) (λh=>?_)<;>conv=>cbv
  · exact finB hK (bP_true.2 (firstI_ge.1 (by omega)))
  · exact finB hK (bP_false.2 λh'=>by have:=firstI_ge.2 h';omega)
def Obv.ok (o:Obv):Prop:=ObvOk o.atX o.atY o.eye o.vis
def AskOk (l:List Aid) (os:List Obv):Prop:=AidsOk l/\∀o∈os,o.ok
theorem areObservers1_ (atX atY eye vis:Int):AC Tryz.prog 136 [.agg [.int .i64 atX,.int .i64 atY,.int .i64 eye,.int .i64 vis]] AV.bool (bP (¬Obv.ok ⟨atX,atY,eye,vis⟩)):=by
  refine ac Tryz.func136 (by kernel_rfl) (.bool _) λE K hE hK=>?_
  conv=>cbv
  repeat' first
    |((first
   |refine q0 hE ?_
   |refine callP hE (validObserver_ _ _ _ _) (λ_=>?_) (λ_=>?_)
   |refine B0 hE ?_|refine B1 hE (λ_=>?_) λ_=>?_|refine B3 hE λ_ _ _=>?_|refine B2 hE λ_ _=>?_|refine B4 hE λ_ _ _ _=>?_)<;>(try conv=>cbv))
  all_goals first
    |exact finB hK (bP_false.2 λh=>h (by assumption))
    |exact finB hK (bP_true.2 (by assumption))
    |trace_state
theorem areObservers_ {rs ro:List (List AV)} {t t' b:Bool} {l:List Aid} {os:List Obv} (hl:rs=l.map (Aid.cs b)) (ho:ro=os.map Obv.cs):AC Tryz.prog 89 [.sl t 16 rs,.sl t' 4 ro] AV.bool (bP (AskOk l os)):=by
  refine ac Tryz.func89 (by kernel_rfl) (.bool _) λE K hE hK=>?_
  conv=>cbv
  refine callP hE (validAids_ hl) (λh1=>?_) (λh1=>?_)<;>conv=>cbv
  · refine callP hE (containsObserver0_ (p:=λo=>¬Obv.ok o) ho areObservers1_) (λh2=>?_) (λh2=>?_)<;>conv=>cbv
    · refine finB hK (bP_false.2 λh=>?_)
      obtain ⟨o,g1,g2⟩:=h2
      exact g2 (h.2 o g1)
    · exact finB hK (bP_true.2 ⟨h1,λo ho=>Classical.byContradiction λhn=>h2 ⟨o,ho,hn⟩⟩)
  · exact finB hK (bP_false.2 λh=>h1 h.1)
set_option maxHeartbeats 4000000
end Go.Proofs.YtalkhfljcnconaaGreatDoor
