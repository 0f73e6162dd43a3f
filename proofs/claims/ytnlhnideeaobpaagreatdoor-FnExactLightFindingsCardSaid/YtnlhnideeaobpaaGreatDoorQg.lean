/- Contracts: what an observer sees; the law; Contracts: the buoys that mark the sides of channels; the law; Contracts: how many aids each observer sees; the law. -/
import Derived.Test.YtnlhnideeaobpaaGreatDoorQf
import Derived.Test.YtnlhnideeaobpaaGreatDoorQi
namespace Go.Proofs.YtnlhnideeaobpaaGreatDoor
open Go Go.RowKit Classical
set_option maxRecDepth 100000
set_option maxHeartbeats 2000000
set_option linter.unusedVariables false
set_option linter.unusedSimpArgs false
theorem Y1 {α β:Type} {f:α->β} {l:List α} {i n:Int} {v:α} (h0:0<=i) (hv:l[i.toNat]? =some v) (hn:n=i+1):(l.take n.toNat).map f=(l.take i.toNat).map f++[f v]:=by
 rw [show n.toNat=i.toNat+1 by omega,cq,hv];simp
set_option maxHeartbeats 4000000
set_option maxHeartbeats 2000000
structure Buo where
 atX:Int
 atY:Int
 kind:Int
def Buo.cs (v:Buo):List AV:=[.int .i64 v.atX,.int .i64 v.atY,.int .i64 v.kind]
theorem NoB.aiP (v:Buo):NoB (.agg v.cs):=(.bW (.int _ _) (.bW (.int _ _) (.bW (.int _ _) .o9)))
def Buo.mk' (k:Int):Buo:=⟨k+0,k+1,k+2⟩
def Buo.mks (n:Nat) (k:Int):List Buo:=(List.range n).map λi:Nat=>Buo.mk' (k+3*(i:Int))
theorem Buo.jX (n:Nat) (k:Int):(Buo.mks n k).length=n:=by simp [Buo.mks]
theorem Buo.nS {n:Nat} {k i:Int} {v:Buo} (h0:0<=i) (h:(Buo.mks n k)[i.toNat]? =some v):v=Buo.mk' (k+3*i):=by
 unfold Buo.mks at h;rw [ai] at h;by_cases hi:i.toNat<n
 ·rw [cM hi] at h;simp only [cF,cH] at h;rw [←h,cP h0]
 ·rw [ar (by simpa using Nat.le_of_not_lt hi)] at h;cases h
def Aid.ady (v:Aid):Prop:=v.aP=1∨v.aP=2
def Aid.buo (v:Aid):Buo:=⟨v.atX,v.atY,v.aP⟩
noncomputable def agQ (l:List Aid) (i:Int):List Buo:=(tZ Aid.ady l i).map Aid.buo
def VE (p:List Buo×Int):AV:= .tup [.sl true 3 (p.1.map Buo.cs),.int .i64 p.2]
theorem NoB.VE (p:List Buo×Int):NoB (VE p):= .nH (.rows .aiP) (.nH (.int _ _) .CY)
set_option maxHeartbeats 4000000
set_option maxHeartbeats 2000000
theorem Dh [St] {rs:List (List AV)} {t:Bool} {l:List Obv} {g:FuncId} {p:Obv->Prop} (hl:rs=l.map Obv.cs) (hp:∀atX atY eye vis,AC Tryz.prog g (.agg [.int .i64 atX,.int .i64 atY,.int .i64 eye,.int .i64 vis]::[]) AV.bool (bP (p ⟨atX,atY,eye,vis⟩))):AP 235 [.sl t 4 rs,.fn g []] (AV.int .i64) (lF p l):=by
  refine a0 Tryz.func235 λE K hE hK=>?_;refine bn hl λn hn hb=>?_;conv=>cbv
  refine cu [0,1,7] [8] (λ(i:Int)=>([(8,.int .i64 i)],[],l.length - i,0<=i/\Up (λj=>∀v,l[j]? =some v->¬p v) i)) [] (0) (by dsimp only;exact ⟨by omega,.zero (by omega)⟩) λi hi Kn hN=>?_;obtain ⟨h0,hinv⟩:=hi
  repeat' first
    |(refine hN _ [] rfl ⟨?_,?_⟩)
    |((first
   |refine aF (hp _ _ _ _) (λ_=>?_) (λ_=>?_)
   |(refine bQ (R:=Obv.cs) (by assumption) (by first|omega|(simp only [bo,dP];omega)) ?_;rintro ⟨⟩ _)
   |refine B0 ?_|refine B1 ?_ ?_)<;>intros<;>(try conv=>cbv))
  ·refine hK _ ?_;rw [kQ h0 (by assumption) (by assumption) hinv];rfl
  ·omega
  ·refine hinv.succ ?_ (by assumption);clear hN;simp_all
  ·refine hK _ ?_;rw [jR (by omega) hinv];rfl
theorem xS [St] {rs:List (List AV)} {t:Bool} {l:List Obv} {g:FuncId} {p:Obv->Prop} (hl:rs=l.map Obv.cs) (hp:∀atX atY eye vis,AC Tryz.prog g (.agg [.int .i64 atX,.int .i64 atY,.int .i64 eye,.int .i64 vis]::[]) AV.bool (bP (p ⟨atX,atY,eye,vis⟩))):AP 156 [.sl t 4 rs,.fn g []] AV.bool (bP (∃v∈l,p v)):=by
 refine a0 Tryz.func156 λE K hE hK=>?_;refine aQ (Dh hl hp) λy hy=>?_;conv=>cbv
 refine leI (λh=>?_) (λh=>?_)<;>conv=>cbv
 ·exact aH hK (aG.2 (iW.1 (by omega)))
 ·exact aH hK (ah.2 λh'=>by have:=iW.2 h';omega)
def Obv.ok (o:Obv):Prop:=nD o.atX o.atY o.eye o.vis
def rF (l:List Aid) (os:List Obv):Prop:=dn l/\∀o∈os,o.ok
theorem GA [St] (atX atY eye vis:Int):AP 157 [.agg [.int .i64 atX,.int .i64 atY,.int .i64 eye,.int .i64 vis]] AV.bool (bP (¬Obv.ok ⟨atX,atY,eye,vis⟩)):=by
  refine a0 Tryz.func157 λE K hE hK=>?_
  repeat' first
    |((first
   |refine aF (Ed _ _ _ _) (λ_=>?_) (λ_=>?_)
   |refine B0 ?_|refine B1 ?_ ?_)<;>intros<;>(try conv=>cbv))
  all_goals first
   |exact aH hK (ah.2 λh=>h (by assumption))
   |exact aH hK (aG.2 (by assumption))
theorem qD [St] {rs ro:List (List AV)} {t t' b:Bool} {l:List Aid} {os:List Obv} (hl:rs=l.map (Aid.cs b)) (ho:ro=os.map Obv.cs):AP 85 [.sl t 16 rs,.sl t' 4 ro] AV.bool (bP (rF l os)):=by
 refine a0 Tryz.func85 λE K hE hK=>?_;refine aF (oI hl) (λh1=>?_) (λh1=>?_)<;>conv=>cbv
 ·refine aF (xS (p:=λo=>¬Obv.ok o) ho GA) (λh2=>?_) (λh2=>?_)<;>conv=>cbv
  ·refine aH hK (ah.2 λh=>?_);obtain ⟨o,g1,g2⟩:=h2;exact g2 (h.2 o g1)
  ·exact aH hK (aG.2 ⟨h1,λo ho=>aw λhn=>h2 ⟨o,ho,hn⟩⟩)
 ·exact aH hK (ah.2 λh=>h1 h.1)
noncomputable def Dn (l:List Aid) (os:List Obv):Int:=if rF l os then (if os.length<=16 then 0 else 5) else 1
theorem aeR {α:Type} {l:List α} {p:α->Prop} {i:Int} (h:Up (λj=>∃w,l[j]? =some w/\p w) i) (hi:l.length<=i):∀w∈l,p w:=λw hw=>by
 obtain ⟨j,hj⟩:=ap hw;obtain ⟨w',h1,h2⟩:=h j (by have:=(aa.1 hj).1;omega);rw [hj] at h1;cases h1;exact h2
theorem adD [St] {rs ro:List (List AV)} {t t' b:Bool} {l:List Aid} {os:List Obv} (hl:rs=l.map (Aid.cs b)) (ho:ro=os.map Obv.cs):AP 196 [.sl t 16 rs,.sl t' 4 ro] (AV.int .i64) (Dn l os):=by
  refine a0 Tryz.func196 λE K hE hK=>?_;refine aF (aak hl) (λh1=>?_) (λh1=>?_)<;>conv=>cbv
  ·refine cu [1] [5] (λ(i:Int)=>([(5,.int .i64 i)],[],os.length - i,0<=i/\Up (λj=>∃o,os[j]? =some o/\Obv.ok o) i)) [] (0) (by dsimp only;exact ⟨by omega,.zero (by omega)⟩) λi hi Kn hN=>?_;obtain ⟨h0,hinv⟩:=hi
   repeat' first
     |(refine hN _ [] rfl ⟨?_,?_⟩)
     |((first
    |(refine bQ (R:=Obv.cs) ho (by omega) (λo hv=>?_);obtain ⟨ox,oy,oe,ov⟩:=o)
    |refine aF (Va _ _ _ _) (λ_=>?_) (λ_=>?_)
    |refine B0 ?_|refine B1 ?_ ?_)<;>intros<;>(try conv=>cbv))
   all_goals (try clear hN)
   all_goals first
    |omega
    |exact hinv.succ ⟨_,hv,by assumption⟩ (by assumption)
    |(refine hK _ ?_;rw [Dn,if_neg (λh:rF l os=>by have:=h.2 _ (ae hv);contradiction)];rfl)
    |(refine hK _ ?_;rw [Dn,if_pos ⟨h1,aeR hinv (by omega)⟩,if_neg (by omega)];rfl)
    |(refine hK _ ?_;rw [Dn,if_pos ⟨h1,aeR hinv (by omega)⟩,if_pos (by omega)];rfl)
  ·exact hK _ (by rw [Dn,if_neg λh=>h1 h.1];rfl)
theorem aeI {l:List Aid} {os:List Obv} (h:rF l os) (h16:os.length<=16):Dn l os=0:=by rw [Dn,if_pos h,if_pos h16]
theorem aeJ {l:List Aid} {os:List Obv} (h:Dn l os=0):rF l os/\os.length<=16:=by
 unfold Dn at h;split at h
 ·split at h
  ·exact ⟨by assumption,by assumption⟩
  ·omega
 ·omega
set_option maxHeartbeats 4000000
end Go.Proofs.YtnlhnideeaobpaaGreatDoor
