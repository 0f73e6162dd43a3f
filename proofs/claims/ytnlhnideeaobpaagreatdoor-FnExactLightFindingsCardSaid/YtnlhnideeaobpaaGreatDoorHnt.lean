/- Contracts: notices. -/
import Derived.Test.YtnlhnideeaobpaaGreatDoorQf
namespace Go.Proofs.YtnlhnideeaobpaaGreatDoor
open Go Go.RowKit Classical
set_option maxRecDepth 100000
set_option maxHeartbeats 2000000
set_option linter.unusedVariables false
set_option linter.unusedSimpArgs false
theorem WI [St] {rs rs':List (List AV)} {t t':Bool} {l m:List Scr} (hl:rs=l.map Scr.cs) (hm:rs'=m.map Scr.cs):AP 405 [.sl t 3 rs,.sl t' 3 rs'] AV.bool (bP (l=m)):=by
  refine a0 Tryz.func405 λE K hE hK=>?_;refine bn hl λn hn hb=>?_;conv=>cbv
  refine bn hm λn' hn' hb'=>?_;conv=>cbv
  refine eqI (λhe=>?_) (λhe=>?_)<;>conv=>cbv
  ·skip
   repeat' first
     |((refine cu [0,1,12] [13] (λ(i:Int)=>([(13,.int .i64 i)],[],l.length - i,0<=i/\Up (λj=>l[j]? =m[j]?) i)) [] (0) (by dsimp only;exact ⟨by omega,.zero (by omega)⟩) λi hi2 Kn2 hN2=>?_);obtain ⟨h0,hinv⟩:=hi2)
     |(refine hN2 _ [] rfl ⟨?_,?_⟩)
     |((first
    |(refine bQ (R:=Scr.cs) (by assumption) (by first|omega|(simp only [bo,dP];omega)) ?_;rintro ⟨⟩ _)
    |refine Dt (λhq=>?_) (λhq=>?_)
    |refine B0 ?_|refine B1 ?_ ?_)<;>intros<;>(try conv=>cbv))
   all_goals first
    |omega
    |(refine hinv.succ ?_ (by assumption);clear hN2;simp_all [gJ];done)
    |(refine aH hK (ah.2 λh=>?_);clear hN2;simp_all [gJ];done)
    |exact aH hK (aG.2 (eP (by omega) hinv (by omega)))
  ·refine aH hK (ah.2 λh=>?_);subst h;omega
theorem Ry [St] {rs rs':List (List AV)} {t t':Bool} {l m:List Scr} (hl:rs=l.map Scr.cs) (hm:rs'=m.map Scr.cs):AP 329 [.sl t 3 rs,.sl t' 3 rs'] AV.bool (bP (l=m)):=by
  refine a0 Tryz.func329 λE K hE hK=>?_;refine bn hl λn hn hb=>?_;conv=>cbv
  refine bn hm λn' hn' hb'=>?_;conv=>cbv
  refine eqI (λhe=>?_) (λhe=>?_)<;>conv=>cbv
  ·skip
   repeat' first
     |((refine cu [0,1] [5] (λ(i:Int)=>([(5,.int .i64 i)],[],l.length - i,0<=i/\Up (λj=>l[j]? =m[j]?) i)) [] (0) (by dsimp only;exact ⟨by omega,.zero (by omega)⟩) λi hi2 Kn2 hN2=>?_);obtain ⟨h0,hinv⟩:=hi2)
     |(refine hN2 _ [] rfl ⟨?_,?_⟩)
     |((first
    |(refine bQ (R:=Scr.cs) (by assumption) (by first|omega|(simp only [bo,dP];omega)) ?_;rintro ⟨⟩ _)
    |refine Dt (λhq=>?_) (λhq=>?_)
    |refine B0 ?_|refine B1 ?_ ?_)<;>intros<;>(try conv=>cbv))
   all_goals first
    |omega
    |(refine hinv.succ ?_ (by assumption);clear hN2;simp_all [gJ];done)
    |(refine aH hK (ah.2 λh=>?_);clear hN2;simp_all [gJ];done)
    |exact aH hK (aG.2 (eP (by omega) hinv (by omega)))
  ·refine aH hK (ah.2 λh=>?_);subst h;omega
theorem XI [St] {rs rs':List (List AV)} {t t':Bool} {l m:List Int} (hl:rs=l.map aN) (hm:rs'=m.map aN):AP 272 [.sl t 1 rs,.sl t' 1 rs'] AV.bool (bP (l=m)):=by
  refine a0 Tryz.func272 λE K hE hK=>?_;refine bn hl λn hn hb=>?_;conv=>cbv
  refine bn hm λn' hn' hb'=>?_;conv=>cbv
  refine eqI (λhe=>?_) (λhe=>?_)<;>conv=>cbv
  ·skip
   repeat' first
     |((refine cu [0,1] [5] (λ(i:Int)=>([(5,.int .i64 i)],[],l.length - i,0<=i/\Up (λj=>l[j]? =m[j]?) i)) [] (0) (by dsimp only;exact ⟨by omega,.zero (by omega)⟩) λi hi2 Kn2 hN2=>?_);obtain ⟨h0,hinv⟩:=hi2)
     |(refine hN2 _ [] rfl ⟨?_,?_⟩)
     |((first
    |refine bQ (R:=aN) (by assumption) (by omega) (λ_ _=>?_)
    |refine B0 ?_|refine B1 ?_ ?_)<;>intros<;>(try conv=>cbv))
   all_goals first
    |omega
    |(refine hinv.succ ?_ (by assumption);clear hN2;simp_all [gJ];done)
    |(refine aH hK (ah.2 λh=>?_);clear hN2;simp_all [gJ];done)
    |exact aH hK (aG.2 (eP (by omega) hinv (by omega)))
  ·refine aH hK (ah.2 λh=>?_);subst h;omega
theorem Vd [St] (x:Int):AP 105 [.int .i64 x] AV.bool (bP (0<=x/\x<=99999)):=by
  refine a0 Tryz.func105 λE K hE hK=>?_
  repeat' first
    |((first
   |refine aF (in_ _ _ _) (λ_=>?_) (λ_=>?_)
   |refine B0 ?_|refine B1 ?_ ?_)<;>intros<;>(try conv=>cbv))
  all_goals exact fz
def Aid.zero:Aid:=⟨0,noS,0,0,0,0,noS,noS,noS,0,[],noS,noS,0,[],0⟩
def Ntc.aid (v:Ntc):Aid:=⟨v.aY,v.aName,v.atX,v.atY,v.aZ,v.aP,v.aC,v.aJ,v.bg,v.aO,v.aM,v.aB,v.ak,v.au,v.aD,v.aj⟩
def Ntc.ok (v:Ntc):Prop:=(1<=v.number/\v.number<=9999)/\(0<=v.day/\v.day<=99999)/\(1<=v.kind/\v.kind<=4)/\((v.kind=1∨v.kind=2)->v.aid.ok/\v.target=0)/\(¬(v.kind=1∨v.kind=2)->v.aid=Aid.zero/\(1<=v.target/\v.target<=9999))
def ag0 (b:List Ntc) (t:Int):Prop:=(∃w,b[(lF (λv:Ntc=>v.number=t) b).toNat]? =some w/\0<=lF (λv:Ntc=>v.number=t) b/\w.kind≠4)/\¬∃m∈b,m.kind=4/\m.target=t
def Ntc.C (l:List Ntc) (j:Nat):Prop:=∃v,l[j]? =some v/\v.ok/\(0<j->∃w,l[j - 1]? =some w/\w.number<v.number/\w.day<=v.day)/\(v.kind=4->ag0 (l.take j) v.target)
def sW (l:List Ntc):Prop:=(∀j,j<l.length->Ntc.C l j)/\l.length<=32
theorem WH [St] (number:Int) (name:ByteArray) (atX atY height aP:Int) (aC aJ bg:ByteArray) (aO:Int) (aB ak:ByteArray) (au aj:Int) {aL aI:List (List AV)} {bC aX:Bool} {aM:List Int} {aD:List Scr} (aW:aL=aM.map aN) (aS:aI=aD.map Scr.cs):AP 345 [.agg [.int .i64 number,.str name,.int .i64 atX,.int .i64 atY,.int .i64 height,.int .i64 aP,.str aC,.str aJ,.str bg,.int .i64 aO,.sl bC 1 aL,.str aB,.str ak,.int .i64 au,.sl aX 3 aI,.int .i64 aj],.agg [.int .i64 0,.str ⟨#[]⟩,.int .i64 0,.int .i64 0,.int .i64 0,.int .i64 0,.str ⟨#[]⟩,.str ⟨#[]⟩,.str ⟨#[]⟩,.int .i64 0,.fV,.str ⟨#[]⟩,.str ⟨#[]⟩,.int .i64 0,.fV,.int .i64 0]] AV.bool (bP ((Aid.mk number name atX atY height aP aC aJ bg aO aM aB ak au aD aj)=Aid.zero)):=by
  refine a0 Tryz.func345 λE K hE hK=>?_
  repeat' first
    |((first
   |refine aF (Ii _ _ _ _ aW) (λ_=>?_) (λ_=>?_)
   |refine aF (AC.adk (WI (m:=[]) (t':=true) aS rfl)) (λ_=>?_) (λ_=>?_)
   |refine Dt (λhq=>?_) (λhq=>?_)
   |refine B0 ?_|refine B1 ?_ ?_)<;>intros<;>(try conv=>cbv))
  all_goals (clear aW aS)
  all_goals first|(refine aH hK (aG.2 ?_);simp only [gJ,Aid.zero,Aid.mk.injEq] at *;simp_all [noS];done)|(refine aH hK (ah.2 ?_);simp only [gJ,Aid.zero,Aid.mk.injEq] at *;simp_all [noS];done)
theorem XA [St] (kind:Int) (letter colors:ByteArray) (period:Int) {iB:List (List AV)} {nQ:Bool} {group:List Int} (pW:iB=group.map aN):AP 328 [.pp [.int .i64 kind,.sl nQ 1 iB,.str letter,.str colors,.int .i64 period],.pp [.int .i64 0,.fV,.str ⟨#[]⟩,.str ⟨#[]⟩,.int .i64 0]] AV.bool (bP (kind=0/\group=[]/\letter=noS/\colors=noS/\period=0)):=by
  refine a0 Tryz.func328 λE K hE hK=>?_
  repeat' first
    |((first
   |refine aF (AC.adk (XI (m:=[]) (t':=true) pW rfl)) (λ_=>?_) (λ_=>?_)
   |refine Dt (λhq=>?_) (λhq=>?_)
   |refine B0 ?_|refine B1 ?_ ?_)<;>intros<;>(try conv=>cbv))
  all_goals (clear pW)
  all_goals first|(refine aH hK (aG.2 ?_);(try simp only [gJ] at *);simp_all [noS];done)|(refine aH hK (ah.2 ?_);(try simp only [gJ] at *);simp_all [noS];done)
theorem Xr [St] (number:Int) (name:ByteArray) (atX atY height aP:Int) (aC aJ bg:ByteArray) (aO:Int) (aB ak:ByteArray) (au aj:Int) {aL aI:List (List AV)} {bC aX:Bool} {aM:List Int} {aD:List Scr} (aW:aL=aM.map aN) (aS:aI=aD.map Scr.cs):AP 255 [.pp [.int .i64 number,.str name,.int .i64 atX,.int .i64 atY,.int .i64 height,.int .i64 aP,.str aC,.str aJ,.str bg,.int .i64 aO,.sl bC 1 aL,.str aB,.str ak,.int .i64 au,.sl aX 3 aI,.int .i64 aj],.pp [.int .i64 0,.str ⟨#[]⟩,.int .i64 0,.int .i64 0,.int .i64 0,.int .i64 0,.str ⟨#[]⟩,.str ⟨#[]⟩,.str ⟨#[]⟩,.int .i64 0,.fV,.str ⟨#[]⟩,.str ⟨#[]⟩,.int .i64 0,.fV,.int .i64 0]] AV.bool (bP ((Aid.mk number name atX atY height aP aC aJ bg aO aM aB ak au aD aj)=Aid.zero)):=by
  refine a0 Tryz.func255 λE K hE hK=>?_
  repeat' first
    |((first
   |refine aF (AC.aiI (XA _ _ _ _ aW)) (λ_=>?_) (λ_=>?_)
   |refine aF (AC.adk (Ry (m:=[]) (t':=true) aS rfl)) (λ_=>?_) (λ_=>?_)
   |refine Dt (λhq=>?_) (λhq=>?_)
   |refine B0 ?_|refine B1 ?_ ?_)<;>intros<;>(try conv=>cbv))
  all_goals (clear aW aS)
  all_goals first|(refine aH hK (aG.2 ?_);simp only [gJ,Aid.zero,Aid.mk.injEq] at *;simp_all [noS];done)|(refine aH hK (ah.2 ?_);simp only [gJ,Aid.zero,Aid.mk.injEq] at *;simp_all [noS];done)
theorem aea [St] (number day kind target aY:Int) (aName:ByteArray) (atX atY aZ aP:Int) (aC aJ bg:ByteArray) (aO:Int) (aB ak:ByteArray) (au aj:Int) {aL aI:List (List AV)} {bC aX:Bool} {aM:List Int} {aD:List Scr} (aW:aL=aM.map aN) (aS:aI=aD.map Scr.cs):AP 344 [.agg [.int .i64 number,.int .i64 day,.int .i64 kind,.int .i64 target,.int .i64 aY,.str aName,.int .i64 atX,.int .i64 atY,.int .i64 aZ,.int .i64 aP,.str aC,.str aJ,.str bg,.int .i64 aO,.sl bC 1 aL,.str aB,.str ak,.int .i64 au,.sl aX 3 aI,.int .i64 aj]] AV.bool (bP (kind=1∨kind=2)):=by
  refine a0 Tryz.func344 λE K hE hK=>?_
  repeat' first
    |((first
   |refine B0 ?_|refine B1 ?_ ?_)<;>intros<;>(try conv=>cbv))
  all_goals exact fz
theorem JM [St] (number day kind target aY:Int) (aName:ByteArray) (atX atY aZ aP:Int) (aC aJ bg:ByteArray) (aO:Int) (aB ak:ByteArray) (au aj:Int) {aL aI:List (List AV)} {bC aX:Bool} {aM:List Int} {aD:List Scr} (aW:aL=aM.map aN) (aS:aI=aD.map Scr.cs):AP 283 [.agg [.int .i64 number,.int .i64 day,.int .i64 kind,.int .i64 target,.int .i64 aY,.str aName,.int .i64 atX,.int .i64 atY,.int .i64 aZ,.int .i64 aP,.str aC,.str aJ,.str bg,.int .i64 aO,.sl bC 1 aL,.str aB,.str ak,.int .i64 au,.sl aX 3 aI,.int .i64 aj]] AV.bool (bP (Ntc.ok (Ntc.mk number day kind target aY aName atX atY aZ aP aC aJ bg aO aM aB ak au aD aj))):=by
  refine a0 Tryz.func283 λE K hE hK=>?_
  repeat' first
    |((first
   |refine aF (AU _) (λ_=>?_) (λ_=>?_)
   |refine aF (aaF _) (λ_=>?_) (λ_=>?_)
   |refine aF (eU _ _ _) (λ_=>?_) (λ_=>?_)
   |refine aF (aea _ _ _ _ _ _ _ _ _ _ _ _ _ _ _ _ _ _ aW aS) (λ_=>?_) (λ_=>?_)
   |refine aF (vv _ _ _ _ _ _ _ _ _ _ _ _ _ _ aW aS) (λ_=>?_) (λ_=>?_)
   |refine aF (WH _ _ _ _ _ _ _ _ _ _ _ _ _ _ aW aS) (λ_=>?_) (λ_=>?_)
   |refine B0 ?_|refine B1 ?_ ?_)<;>intros<;>(try conv=>cbv))
  all_goals (clear aW aS)
  all_goals (try clear hN)
  all_goals first
   |(omega)
   |(refine aH hK (aG.2 ?_);first|omega|grind [Ntc.ok,Ntc.aid])
   |(refine aH hK (ah.2 ?_);first|omega|(intro h;grind [Ntc.ok,Ntc.aid]))
   |(refine ⟨by omega,Up.succ (by assumption) ?_ (by assumption)⟩;grind [Ntc.ok,Ntc.aid])
   |(refine hK _ ?_;simp_all [gP,Ntc.ok,Ntc.aid];done)
   |(grind [Ntc.ok,Ntc.aid])
theorem adB [St] (number day kind target aY:Int) (aName:ByteArray) (atX atY aZ aP:Int) (aC aJ bg:ByteArray) (aO:Int) (aB ak:ByteArray) (au aj:Int) {aL aI:List (List AV)} {bC aX:Bool} {aM:List Int} {aD:List Scr} (aW:aL=aM.map aN) (aS:aI=aD.map Scr.cs):AP 173 [.pp [.int .i64 number,.int .i64 day,.int .i64 kind,.int .i64 target,.int .i64 aY,.str aName,.int .i64 atX,.int .i64 atY,.int .i64 aZ,.int .i64 aP,.str aC,.str aJ,.str bg,.int .i64 aO,.sl bC 1 aL,.str aB,.str ak,.int .i64 au,.sl aX 3 aI,.int .i64 aj]] AV.bool (bP (Ntc.ok (Ntc.mk number day kind target aY aName atX atY aZ aP aC aJ bg aO aM aB ak au aD aj))):=by
  refine a0 Tryz.func173 λE K hE hK=>?_
  repeat' first
    |((first
   |refine aF (in_ _ _ _) (λ_=>?_) (λ_=>?_)
   |refine aF (Vd _) (λ_=>?_) (λ_=>?_)
   |refine aF (Vb _ _ _ _ _ _ _ _ _ _ _ _ _ _ aW aS) (λ_=>?_) (λ_=>?_)
   |refine aF (Xr _ _ _ _ _ _ _ _ _ _ _ _ _ _ aW aS) (λ_=>?_) (λ_=>?_)
   |refine B0 ?_|refine B1 ?_ ?_)<;>intros<;>(try conv=>cbv))
  all_goals (clear aW aS)
  all_goals (try clear hN)
  all_goals first
   |(omega)
   |(refine aH hK (aG.2 ?_);first|omega|grind [Ntc.ok,Ntc.aid])
   |(refine aH hK (ah.2 ?_);first|omega|(intro h;grind [Ntc.ok,Ntc.aid]))
   |(refine ⟨by omega,Up.succ (by assumption) ?_ (by assumption)⟩;grind [Ntc.ok,Ntc.aid])
   |(refine hK _ ?_;simp_all [gP,Ntc.ok,Ntc.aid];done)
   |(grind [Ntc.ok,Ntc.aid])
theorem wQ [St] {rs:List (List AV)} {t b:Bool} {l:List Ntc} {g:FuncId} {c0:List AV} {p:Ntc->Prop} (hl:rs=l.map (Ntc.cs b)) (hp:∀(number day kind target aY:Int) (aName:ByteArray) (atX atY aZ aP:Int) (aC aJ bg:ByteArray) (aO:Int) (aB ak:ByteArray) (au aj:Int) {aL aI:List (List AV)} {bC aX:Bool} {aM:List Int} {aD:List Scr} (aW:aL=aM.map aN) (aS:aI=aD.map Scr.cs) ,AC Tryz.prog g (.agg [.int .i64 number,.int .i64 day,.int .i64 kind,.int .i64 target,.int .i64 aY,.str aName,.int .i64 atX,.int .i64 atY,.int .i64 aZ,.int .i64 aP,.str aC,.str aJ,.str bg,.int .i64 aO,.sl bC 1 aL,.str aB,.str ak,.int .i64 au,.sl aX 3 aI,.int .i64 aj]::[.pp c0]) AV.bool (bP (p (Ntc.mk number day kind target aY aName atX atY aZ aP aC aJ bg aO aM aB ak au aD aj)))):AP 346 [.sl t 20 rs,.fn g [.pp c0]] (AV.int .i64) (lF p l):=by
  refine a0 Tryz.func346 λE K hE hK=>?_;refine bn hl λn hn hb=>?_;conv=>cbv
  refine cu [0,1,7] [8] (λ(i:Int)=>([(8,.int .i64 i)],[],l.length - i,0<=i/\Up (λj=>∀v,l[j]? =some v->¬p v) i)) [] (0) (by dsimp only;exact ⟨by omega,.zero (by omega)⟩) λi hi Kn hN=>?_;obtain ⟨h0,hinv⟩:=hi
  repeat' first
    |(refine hN _ [] rfl ⟨?_,?_⟩)
    |((first
   |refine kK hl (by omega) (λnumber day kind target aY aName atX atY aZ aP aC aJ bg aO aM aB ak au aD aj aL aI hv aW aS=>?_)
   |refine aF (hp _ _ _ _ _ _ _ _ _ _ _ _ _ _ _ _ _ _ (by assumption) (by assumption)) (λ_=>?_) (λ_=>?_)
   |refine B0 ?_|refine B1 ?_ ?_)<;>intros<;>(try conv=>cbv))
  all_goals (try clear hN)
  all_goals first
   |omega
   |(refine hK _ ?_;rw [kQ h0 hv (by assumption) hinv];rfl)
   |(refine hinv.succ (λv hw=>?_) (by assumption);rw [hv] at hw;cases hw;assumption)
   |(refine hK _ ?_;rw [jR (by omega) hinv];rfl)
theorem Bj [St] {rs:List (List AV)} {t b:Bool} {l:List Ntc} {g:FuncId} {c0:List AV} {p:Ntc->Prop} (hl:rs=l.map (Ntc.cs b)) (hp:∀(number day kind target aY:Int) (aName:ByteArray) (atX atY aZ aP:Int) (aC aJ bg:ByteArray) (aO:Int) (aB ak:ByteArray) (au aj:Int) {aL aI:List (List AV)} {bC aX:Bool} {aM:List Int} {aD:List Scr} (aW:aL=aM.map aN) (aS:aI=aD.map Scr.cs) ,AC Tryz.prog g (.agg [.int .i64 number,.int .i64 day,.int .i64 kind,.int .i64 target,.int .i64 aY,.str aName,.int .i64 atX,.int .i64 atY,.int .i64 aZ,.int .i64 aP,.str aC,.str aJ,.str bg,.int .i64 aO,.sl bC 1 aL,.str aB,.str ak,.int .i64 au,.sl aX 3 aI,.int .i64 aj]::[.pp c0]) AV.bool (bP (p (Ntc.mk number day kind target aY aName atX atY aZ aP aC aJ bg aO aM aB ak au aD aj)))):AP 289 [.sl t 20 rs,.fn g [.pp c0]] AV.bool (bP (∃v∈l,p v)):=by
 refine a0 Tryz.func289 λE K hE hK=>?_;refine aQ (wQ hl hp) λy hy=>?_;conv=>cbv
 refine leI (λh=>?_) (λh=>?_)<;>conv=>cbv
 ·exact aH hK (aG.2 (iW.1 (by omega)))
 ·exact aH hK (ah.2 λh'=>by have:=iW.2 h';omega)
theorem Qk [St] (number day kind target aY:Int) (aName:ByteArray) (atX atY aZ aP:Int) (aC aJ bg:ByteArray) (aO:Int) (aB ak:ByteArray) (au aj:Int) {aL aI:List (List AV)} {bC aX:Bool} {aM:List Int} {aD:List Scr} (aW:aL=aM.map aN) (aS:aI=aD.map Scr.cs) (number' Dj kind' target' lJ:Int) (sV:ByteArray) (nA ny lK jM:Int) (gy iD mU:ByteArray) (jl:Int) (fA fB:ByteArray) (fq dY:Int) {fE eD:List (List AV)} {jT jg:Bool} {jm:List Int} {gV:List Scr} (kP:fE=jm.map aN) (jQ:eD=gV.map Scr.cs):AP 347 [.agg [.int .i64 number,.int .i64 day,.int .i64 kind,.int .i64 target,.int .i64 aY,.str aName,.int .i64 atX,.int .i64 atY,.int .i64 aZ,.int .i64 aP,.str aC,.str aJ,.str bg,.int .i64 aO,.sl bC 1 aL,.str aB,.str ak,.int .i64 au,.sl aX 3 aI,.int .i64 aj],.pp [.int .i64 number',.int .i64 Dj,.int .i64 kind',.int .i64 target',.int .i64 lJ,.str sV,.int .i64 nA,.int .i64 ny,.int .i64 lK,.int .i64 jM,.str gy,.str iD,.str mU,.int .i64 jl,.sl jT 1 fE,.str fA,.str fB,.int .i64 fq,.sl jg 3 eD,.int .i64 dY]] AV.bool (bP ((λv:Ntc=>v.number=target') (Ntc.mk number day kind target aY aName atX atY aZ aP aC aJ bg aO aM aB ak au aD aj))):=by
  refine a0 Tryz.func347 λE K hE hK=>?_
  repeat' first
    |((first
   |refine B0 ?_|refine B1 ?_ ?_)<;>intros<;>(try conv=>cbv))
  all_goals exact fz
theorem Qj [St] (number day kind target aY:Int) (aName:ByteArray) (atX atY aZ aP:Int) (aC aJ bg:ByteArray) (aO:Int) (aB ak:ByteArray) (au aj:Int) {aL aI:List (List AV)} {bC aX:Bool} {aM:List Int} {aD:List Scr} (aW:aL=aM.map aN) (aS:aI=aD.map Scr.cs) (number' Dj kind' target' lJ:Int) (sV:ByteArray) (nA ny lK jM:Int) (gy iD mU:ByteArray) (jl:Int) (fA fB:ByteArray) (fq dY:Int) {fE eD:List (List AV)} {jT jg:Bool} {jm:List Int} {gV:List Scr} (kP:fE=jm.map aN) (jQ:eD=gV.map Scr.cs):AP 348 [.agg [.int .i64 number,.int .i64 day,.int .i64 kind,.int .i64 target,.int .i64 aY,.str aName,.int .i64 atX,.int .i64 atY,.int .i64 aZ,.int .i64 aP,.str aC,.str aJ,.str bg,.int .i64 aO,.sl bC 1 aL,.str aB,.str ak,.int .i64 au,.sl aX 3 aI,.int .i64 aj],.pp [.int .i64 number',.int .i64 Dj,.int .i64 kind',.int .i64 target',.int .i64 lJ,.str sV,.int .i64 nA,.int .i64 ny,.int .i64 lK,.int .i64 jM,.str gy,.str iD,.str mU,.int .i64 jl,.sl jT 1 fE,.str fA,.str fB,.int .i64 fq,.sl jg 3 eD,.int .i64 dY]] AV.bool (bP ((λv:Ntc=>v.kind=4/\v.target=target') (Ntc.mk number day kind target aY aName atX atY aZ aP aC aJ bg aO aM aB ak au aD aj))):=by
  refine a0 Tryz.func348 λE K hE hK=>?_
  repeat' first
    |((first
   |refine B0 ?_|refine B1 ?_ ?_)<;>intros<;>(try conv=>cbv))
  all_goals exact fz
theorem Gv [St] (number day kind target aY:Int) (aName:ByteArray) (atX atY aZ aP:Int) (aC aJ bg:ByteArray) (aO:Int) (aB ak:ByteArray) (au aj:Int) {aL aI:List (List AV)} {bC aX:Bool} {aM:List Int} {aD:List Scr} (aW:aL=aM.map aN) (aS:aI=aD.map Scr.cs) {rs:List (List AV)} {t b:Bool} {l:List Ntc} (hl:rs=l.map (Ntc.cs b)):AP 284 [.agg [.int .i64 number,.int .i64 day,.int .i64 kind,.int .i64 target,.int .i64 aY,.str aName,.int .i64 atX,.int .i64 atY,.int .i64 aZ,.int .i64 aP,.str aC,.str aJ,.str bg,.int .i64 aO,.sl bC 1 aL,.str aB,.str ak,.int .i64 au,.sl aX 3 aI,.int .i64 aj],.sl t 20 rs] AV.bool (bP (ag0 l target)):=by
  refine a0 Tryz.func284 λE K hE hK=>?_;refine aQ (wQ (p:=λv:Ntc=>v.number=target) hl (λa0 a1 a2 a3 a4 a5 a6 a7 a8 a9 b0 b1 b2 b3 b4 b5 b6 b7 _ _ _ _ _ _ h1 h2=>Qk a0 a1 a2 a3 a4 a5 a6 a7 a8 a9 b0 b1 b2 b3 b4 b5 b6 b7 h1 h2 number day kind target aY aName atX atY aZ aP aC aJ bg aO aB ak au aj aW aS)) λy hy=>?_;conv=>cbv
  refine ltI (λhlt=>?_) (λhge=>?_)<;>conv=>cbv
  ·refine aH hK (ah.2 λ⟨⟨w,h1,h2,h3⟩,_⟩=>?_);omega
  ·obtain ⟨hle,w,hw,hp⟩:y<l.length/\∃w,l[y.toNat]? =some w/\w.number=target:=by
    rcases mY (λv:Ntc=>v.number=target) l with ⟨g1,g2,⟨v0,g3,g4⟩,_⟩|⟨g1,_⟩
    ·rw [←hy] at g2 g3;exact ⟨g2,v0,g3,g4⟩
    ·omega
   repeat' first
     |((first
    |refine sF hl (by omega) (by assumption) (by assumption) (by assumption) ?_
    |refine kK hl (by omega) (λc0 c1 c2 c3 c4 c5 c6 c7 c8 c9 d0 d1 d2 d3 d4 d5 d6 d7 d8 d9 rg rx hv hg hx=>?_)
    |refine aF (Bj (p:=λv:Ntc=>v.kind=4/\v.target=target) hl (λa0 a1 a2 a3 a4 a5 a6 a7 a8 a9 b0 b1 b2 b3 b4 b5 b6 b7 _ _ _ _ _ _ h1 h2=>Qj a0 a1 a2 a3 a4 a5 a6 a7 a8 a9 b0 b1 b2 b3 b4 b5 b6 b7 h1 h2 number day kind target aY aName atX atY aZ aP aC aJ bg aO aB ak au aj aW aS)) (λ_=>?_) (λ_=>?_)
    |refine B0 ?_|refine B1 ?_ ?_)<;>intros<;>(try conv=>cbv))
   all_goals first
    |(refine aH hK (ah.2 λ⟨⟨w',h1,h2,h3⟩,_⟩=>?_);rw [←hy,hv] at h1;cases h1;exact h3 (by assumption))
    |(refine aH hK (ah.2 λh=>h.2 ?_);assumption)
    |exact aH hK (aG.2 ⟨⟨_,by rw [←hy];exact hv,by omega,by simp only;omega⟩,by assumption⟩)
set_option maxHeartbeats 4000000
theorem wO [St] {rs:List (List AV)} {t b:Bool} {l:List Ntc} (m d:Int) (hl:rs=l.map (Ntc.cs b)):AP 256 [.sl t 20 rs,.int .i64 m,.int .i64 d] AV.bool (bP (∃v∈l,v.kind=4/\v.target=m/\v.day<=d)):=by
  refine a0 Tryz.func256 λE K hE hK=>?_;refine cu [0,1,2] [7] (λ(i:Int)=>([(7,.int .i64 i)],[],l.length - i,0<=i/\Up (λj=>∀v,l[j]? =some v->¬(v.kind=4/\v.target=m/\v.day<=d)) i)) [] (0) (by dsimp only;exact ⟨by omega,.zero (by omega)⟩) λi hi Kn hN=>?_;obtain ⟨h0,hinv⟩:=hi
  repeat' first
    |(refine hN _ [] rfl ⟨?_,?_⟩)
    |((first
   |refine bn hl (λ_ _ _=>?_)
   |refine sF hl (by omega) (by assumption) (by assumption) (by assumption) ?_
   |refine kK hl (by omega) (λc0 c1 c2 c3 c4 c5 c6 c7 c8 c9 d0 d1 d2 d3 d4 d5 d6 d7 d8 d9 rg rx hv hg hx=>?_)
   |refine B0 ?_|refine B1 ?_ ?_)<;>intros<;>(try conv=>cbv))
  all_goals (try clear hN)
  all_goals first
   |omega
   |exact aH hK (aG.2 ⟨_,ae hv,by simp only;omega⟩)
   |(refine hinv.succ (λv hw=>?_) (by assumption);rw [hv] at hw;cases hw;simp only;omega)
   |(refine aH hK (ah.2 λ⟨v,hv,hp⟩=>?_);obtain ⟨j,hj⟩:=ap hv;exact hinv j (by have:=(aa.1 hj).1;omega) v hj hp)
theorem Vy {l:List Ntc} {t:Int} (hd:∀v∈l,v.day<=99999):(∃m∈l,m.kind=4/\m.target=t)↔∃v∈l,v.kind=4/\v.target=t/\v.day<=99999:=
 ⟨λ⟨m,h1,h2,h3⟩=>⟨m,h1,h2,h3,hd m h1⟩,λ⟨m,h1,h2,h3,_⟩=>⟨m,h1,h2,h3⟩⟩
theorem Ci [St] (number day kind target aY:Int) (aName:ByteArray) (atX atY aZ aP:Int) (aC aJ bg:ByteArray) (aO:Int) (aB ak:ByteArray) (au aj:Int) {aL aI:List (List AV)} {bC aX:Bool} {aM:List Int} {aD:List Scr} (aW:aL=aM.map aN) (aS:aI=aD.map Scr.cs) {rs:List (List AV)} {t b:Bool} {l:List Ntc} (hl:rs=l.map (Ntc.cs b)) (hd:∀v∈l,v.day<=99999):AP 174 [.sl t 20 rs,.pp [.int .i64 number,.int .i64 day,.int .i64 kind,.int .i64 target,.int .i64 aY,.str aName,.int .i64 atX,.int .i64 atY,.int .i64 aZ,.int .i64 aP,.str aC,.str aJ,.str bg,.int .i64 aO,.sl bC 1 aL,.str aB,.str ak,.int .i64 au,.sl aX 3 aI,.int .i64 aj]] AV.bool (bP (kind=4->ag0 l target)):=by
  refine a0 Tryz.func174 λE K hE hK=>?_;refine eqI (λhk=>?_) (λhk=>?_)<;>conv=>cbv
  ·refine cu [0,1] [5] (λ(i:Int)=>([(5,.int .i64 i)],[],l.length - i,0<=i/\Up (λj=>∀v,l[j]? =some v->¬v.number=target) i)) [] (0) (by dsimp only;exact ⟨by omega,.zero (by omega)⟩) λi hi Kn hN=>?_;obtain ⟨h0,hinv⟩:=hi
   repeat' first
     |(refine hN _ [] rfl ⟨?_,?_⟩)
     |((first
    |refine bn hl (λ_ _ _=>?_)
    |refine sF hl (by omega) (by assumption) (by assumption) (by assumption) ?_
    |refine kK hl (by omega) (λc0 c1 c2 c3 c4 c5 c6 c7 c8 c9 d0 d1 d2 d3 d4 d5 d6 d7 d8 d9 rg rx hv hg hx=>?_)
    |refine aF (wO _ _ hl) (λ_=>?_) (λ_=>?_)
    |refine B0 ?_|refine B1 ?_ ?_)<;>intros<;>(try conv=>cbv))
   all_goals (try clear hN)
   all_goals first
    |omega
    |(refine hinv.succ (λv hw=>?_) (by assumption);rw [hv] at hw;cases hw;simp only;omega)
    | (have hf:=kQ (p:=λv:Ntc=>v.number=target) h0 hv (by simp only;omega) hinv
       first
        |(refine aH hK (ah.2 λh=>?_);obtain ⟨⟨w',h1,h2,h3⟩,_⟩:=h hk;rw [hf,hv] at h1;cases h1;exact h3 (by assumption))
        |(refine aH hK (ah.2 λh=>(h hk).2 ((Vy hd).2 ?_));assumption)
        |exact aH hK (aG.2 λ_=>⟨⟨_,by rw [hf];exact hv,by rw [hf];omega,by simp only;omega⟩,λh=>by have:=(Vy hd).1 h;contradiction⟩))
    |(refine aH hK (ah.2 λh=>?_);obtain ⟨⟨w',h1,h2,h3⟩,_⟩:=h hk;have:=jR (p:=λv:Ntc=>v.number=target) (i:=i) (by omega) hinv;omega)
  ·exact aH hK (aG.2 λh=>absurd h hk)
theorem Ob {l:List Ntc} {i:Int} (h:Up (Ntc.C l) i):∀v∈l.take i.toNat,v.day<=99999:=λv hv=>by
 obtain ⟨j,hj⟩:=ap hv;rw [be] at hj;split at hj
 ·obtain ⟨w,h1,h2,_⟩:=h j (by omega);rw [hj] at h1;cases h1;exact h2.2.1.2
 ·cases hj
set_option maxHeartbeats 8000000
theorem GY [St] {rs:List (List AV)} {t b:Bool} {l:List Ntc} (hl:rs=l.map (Ntc.cs b)):AP 204 [.sl t 20 rs] AV.bool (bP (sW l)):=by
  refine a0 Tryz.func204 λE K hE hK=>?_;refine bn hl λn hn hb=>?_;conv=>cbv
  refine cu [0,5,6] [7] (λ(i:Int)=>([(7,.int .i64 i)],[],l.length - i,0<=i/\Up (Ntc.C l) i)) [] (0) (by dsimp only;exact ⟨by omega,.zero (by omega)⟩) λi hi Kn hN=>?_;obtain ⟨h0,hinv⟩:=hi;refine ltI (λhlt=>?_) (λhge=>?_)<;>conv=>cbv
  ·refine kK hl (by omega) (λnumber day kind target aY aName atX atY aZ aP aC aJ bg aO aM aB ak au aD aj rg rx hv hg hx=>?_);(conv=>cbv);refine aF (JM _ _ _ _ _ _ _ _ _ _ _ _ _ _ _ _ _ _ hg hx) (λh1=>?_) (λh1=>?_)<;>conv=>cbv
   ·refine ltI (λh2=>?_) (λh2=>?_)<;>conv=>cbv
    ·refine eX (by omega) λk hk=>?_;(conv=>cbv);refine kK hl (by omega) (λc0 c1 c2 c3 c4 c5 c6 c7 c8 c9 d0 d1 d2 d3 d4 d5 d6 d7 d8 d9 rg' rx' hw hg' hx'=>?_);conv=>cbv
     repeat' first
       |(refine hN _ [] rfl ⟨?_,?_⟩)
       |((first
      |(refine eX (by omega) (λk2 hk2=>?_);(have hk3:k=k2:=by omega);subst hk3)
      |refine sF hl (by omega) hw hg' hx' ?_
      |(refine tQ (R:=Ntc.cs b) hl (by simp only [bp,cD];omega) (λrs2 gY=>?_);(have A9:rs2=(l.take i.toNat).map (Ntc.cs b):=by rw [gY];simp))
      |refine aF (Gv _ _ _ _ _ _ _ _ _ _ _ _ _ _ _ _ _ _ hg hx A9) (λ_=>?_) (λ_=>?_)
      |refine B0 ?_|refine B1 ?_ ?_)<;>intros<;>(try conv=>cbv))
     all_goals (try clear hN)
     all_goals first
      |omega
      | (refine aH hK (ah.2 λh=>?_)
         obtain ⟨v',e1,e2,e3,e4⟩:=h.1 i.toNat (by omega);rw [hv] at e1;cases e1;obtain ⟨w',g1,g2⟩:=e3 (by omega);rw [show i.toNat - 1=k.toNat by omega,hw] at g1;cases g1;simp only at g2 e4
         first
          |omega
          |exact absurd (e4 (by assumption)) (by assumption))
      | (refine hinv.succ ⟨_,hv,h1,λ_=>⟨_,by rw [show i.toNat - 1=k.toNat by omega];exact hw,by simp only;omega⟩,λh4=>?_⟩ (by assumption)
         simp only at h4 ⊢
         first
          |assumption
          |exact absurd h4 (by assumption))
    ·skip
     repeat' first
       |(refine hN _ [] rfl ⟨?_,?_⟩)
       |((first
      |(refine tQ (R:=Ntc.cs b) hl (by simp only [bp,cD];omega) (λrs2 gY=>?_);(have A9:rs2=(l.take i.toNat).map (Ntc.cs b):=by rw [gY];simp))
      |refine aF (Gv _ _ _ _ _ _ _ _ _ _ _ _ _ _ _ _ _ _ hg hx A9) (λ_=>?_) (λ_=>?_)
      |refine B0 ?_|refine B1 ?_ ?_)<;>intros<;>(try conv=>cbv))
     all_goals (try clear hN)
     all_goals first
      |omega
      | (refine aH hK (ah.2 λh=>?_)
         obtain ⟨v',e1,e2,e3,e4⟩:=h.1 i.toNat (by omega);rw [hv] at e1;cases e1;simp only at e4
         exact absurd (e4 (by assumption)) (by assumption))
      | (refine hinv.succ ⟨_,hv,h1,λ_=>by omega,λh4=>?_⟩ (by assumption)
         simp only at h4 ⊢
         first
          |assumption
          |exact absurd h4 (by assumption))
   ·refine aH hK (ah.2 λh=>?_);obtain ⟨v',e1,e2,e3⟩:=h.1 i.toNat (by omega);rw [hv] at e1;cases e1;exact h1 e2
  ·skip
   repeat' first
     |((first
    |refine aF (F4 _ _) (λ_=>?_) (λ_=>?_)
    |refine B0 ?_|refine B1 ?_ ?_)<;>intros<;>(try conv=>cbv))
   all_goals first
    |exact aH hK (aG.2 ⟨hinv.all (by omega),by omega⟩)
    |(refine aH hK (ah.2 λh=>?_);have:=h.2;omega)
theorem afR [St] {rs:List (List AV)} {t b:Bool} {l:List Ntc} (hl:rs=l.map (Ntc.cs b)):AP 104 [.sl t 20 rs] AV.bool (bP (sW l)):=by
  refine a0 Tryz.func104 λE K hE hK=>?_;refine cu [0] [3] (λ(i:Int)=>([(3,.int .i64 i)],[],l.length - i,0<=i/\Up (Ntc.C l) i)) [] (0) (by dsimp only;exact ⟨by omega,.zero (by omega)⟩) λi hi Kn hN=>?_;obtain ⟨h0,hinv⟩:=hi;refine bn hl λn hn hb=>?_;conv=>cbv
  refine ltI (λhlt=>?_) (λhge=>?_)<;>conv=>cbv
  ·refine kK hl (by omega) (λnumber day kind target aY aName atX atY aZ aP aC aJ bg aO aM aB ak au aD aj rg rx hv hg hx=>?_);(conv=>cbv);refine aF (adB _ _ _ _ _ _ _ _ _ _ _ _ _ _ _ _ _ _ hg hx) (λh1=>?_) (λh1=>?_)<;>conv=>cbv
   ·refine ltI (λh2=>?_) (λh2=>?_)<;>conv=>cbv
    ·refine eX (by omega) λk hk=>?_;(conv=>cbv);refine kK hl (by omega) (λc0 c1 c2 c3 c4 c5 c6 c7 c8 c9 d0 d1 d2 d3 d4 d5 d6 d7 d8 d9 rg' rx' hw hg' hx'=>?_);conv=>cbv
     repeat' first
       |(refine hN _ [] rfl ⟨?_,?_⟩)
       |((first
      |(refine eX (by omega) (λk2 hk2=>?_);(have hk3:k=k2:=by omega);subst hk3)
      |refine sF hl (by omega) hw hg' hx' ?_
      |(refine tQ (R:=Ntc.cs b) hl (by simp only [bp,cD];omega) (λrs2 gY=>?_);(have A9:rs2=(l.take i.toNat).map (Ntc.cs b):=by rw [gY];simp))
      |refine aF (Ci _ _ _ _ _ _ _ _ _ _ _ _ _ _ _ _ _ _ hg hx A9 (Ob hinv)) (λ_=>?_) (λ_=>?_)
      |refine B0 ?_|refine B1 ?_ ?_)<;>intros<;>(try conv=>cbv))
     all_goals (try clear hN)
     all_goals first
      |omega
      | (refine aH hK (ah.2 λh=>?_)
         obtain ⟨v',e1,e2,e3,e4⟩:=h.1 i.toNat (by omega);rw [hv] at e1;cases e1;obtain ⟨w',g1,g2⟩:=e3 (by omega);rw [show i.toNat - 1=k.toNat by omega,hw] at g1;cases g1;simp only at g2 e4
         first
          |omega
          |exact absurd e4 (by assumption))
      |exact hinv.succ ⟨_,hv,h1,λ_=>⟨_,by rw [show i.toNat - 1=k.toNat by omega];exact hw,by simp only;omega⟩,by assumption⟩ (by assumption)
    ·skip
     repeat' first
       |(refine hN _ [] rfl ⟨?_,?_⟩)
       |((first
      |(refine tQ (R:=Ntc.cs b) hl (by simp only [bp,cD];omega) (λrs2 gY=>?_);(have A9:rs2=(l.take i.toNat).map (Ntc.cs b):=by rw [gY];simp))
      |refine aF (Ci _ _ _ _ _ _ _ _ _ _ _ _ _ _ _ _ _ _ hg hx A9 (Ob hinv)) (λ_=>?_) (λ_=>?_)
      |refine B0 ?_|refine B1 ?_ ?_)<;>intros<;>(try conv=>cbv))
     all_goals (try clear hN)
     all_goals first
      |omega
      | (refine aH hK (ah.2 λh=>?_)
         obtain ⟨v',e1,e2,e3,e4⟩:=h.1 i.toNat (by omega);rw [hv] at e1;cases e1;simp only at e4
         exact absurd e4 (by assumption))
      |exact hinv.succ ⟨_,hv,h1,λ_=>by omega,by assumption⟩ (by assumption)
   ·refine aH hK (ah.2 λh=>?_);obtain ⟨v',e1,e2,e3⟩:=h.1 i.toNat (by omega);rw [hv] at e1;cases e1;exact h1 e2
  ·skip
   repeat' first
     |((first
    |refine B0 ?_|refine B1 ?_ ?_)<;>intros<;>(try conv=>cbv))
   all_goals first
    |exact aH hK (aG.2 ⟨hinv.all (by omega),by omega⟩)
    |(refine aH hK (ah.2 λh=>?_);have:=h.2;omega)
end Go.Proofs.YtnlhnideeaobpaaGreatDoor
