/- Contracts: notices. -/
import Derived.Test.YtpfddoikhmbebaaGreatDoorQf
namespace Go.Proofs.YtpfddoikhmbebaaGreatDoor
open Go Go.RowKit Classical
set_option maxRecDepth 100000
set_option maxHeartbeats 2000000
set_option linter.unusedVariables false
set_option linter.unusedSimpArgs false
theorem same0Scr_ {rs rs':List (List AV)} {t t':Bool} {l m:List Scr} (hl:rs=l.map Scr.cs) (hm:rs'=m.map Scr.cs):AC Tryz.prog 332 [.sl t 3 rs,.sl t' 3 rs'] AV.bool (bP (l=m)):=by
  refine ac Tryz.func332 (.bool _) λE K hE hK=>?_
  conv=>cbv
  refine lenL hE hl λn hn hb=>?_
  conv=>cbv
  refine lenL hE hm λn' hn' hb'=>?_
  conv=>cbv
  refine eqI hE (λhe=>?_) (λhe=>?_)<;>conv=>cbv
  · skip
    repeat' first
      |((refine loop1 hE [0,1,12] [13] (λ(i:Int)=>([(13,.int .i64 i)],[],l.length - i,0<=i/\Up (λj=>l[j]? =m[j]?) i)) [] (0) rfl rfl (by dsimp only;exact ⟨by omega,.zero (by omega)⟩) λi hi2 Kn2 hN2=>?_;(try dsimp only at hi2);conv=>cbv);obtain ⟨h0,hinv⟩:=hi2)
      |(refine hN2 _ _ [] (by decide) rfl ⟨?_,?_⟩ ?_<;>(try dsimp only))
      |((first
     |refine q0 hE ?_
     |(refine idxL (R:=Scr.cs) hE (by assumption) (by first|omega|(simp only [List.length_set,mix_len];omega)) ?_;rintro ⟨⟩ _)
     |refine aeqI hE (λhq=>?_) (λhq=>?_)
     |refine B0 hE ?_|refine B1 hE ?_ ?_|refine B2 hE ?_)<;>intros<;>(try conv=>cbv))
    all_goals first
      |omega
      |(refine hinv.succ ?_ (by assumption);clear hN2;simp_all [pairsP];done)
      |(refine finB hK (bP_false.2 λh=>?_);clear hN2;simp_all [pairsP];done)
      |exact finB hK (bP_true.2 (list_eq_of (by omega) hinv (by omega)))
  · refine finB hK (bP_false.2 λh=>?_);subst h;omega
theorem sSame0Scr_ {rs rs':List (List AV)} {t t':Bool} {l m:List Scr} (hl:rs=l.map Scr.cs) (hm:rs'=m.map Scr.cs):AC Tryz.prog 270 [.sl t 3 rs,.sl t' 3 rs'] AV.bool (bP (l=m)):=by
  refine ac Tryz.func270 (.bool _) λE K hE hK=>?_
  conv=>cbv
  refine lenL hE hl λn hn hb=>?_
  conv=>cbv
  refine lenL hE hm λn' hn' hb'=>?_
  conv=>cbv
  refine eqI hE (λhe=>?_) (λhe=>?_)<;>conv=>cbv
  · skip
    repeat' first
      |((refine loop1 hE [0,1] [5] (λ(i:Int)=>([(5,.int .i64 i)],[],l.length - i,0<=i/\Up (λj=>l[j]? =m[j]?) i)) [] (0) rfl rfl (by dsimp only;exact ⟨by omega,.zero (by omega)⟩) λi hi2 Kn2 hN2=>?_;(try dsimp only at hi2);conv=>cbv);obtain ⟨h0,hinv⟩:=hi2)
      |(refine hN2 _ _ [] (by decide) rfl ⟨?_,?_⟩ ?_<;>(try dsimp only))
      |((first
     |refine q0 hE ?_
     |(refine idxL (R:=Scr.cs) hE (by assumption) (by first|omega|(simp only [List.length_set,mix_len];omega)) ?_;rintro ⟨⟩ _)
     |refine aeqI hE (λhq=>?_) (λhq=>?_)
     |refine B0 hE ?_|refine B1 hE ?_ ?_|refine B2 hE ?_)<;>intros<;>(try conv=>cbv))
    all_goals first
      |omega
      |(refine hinv.succ ?_ (by assumption);clear hN2;simp_all [pairsP];done)
      |(refine finB hK (bP_false.2 λh=>?_);clear hN2;simp_all [pairsP];done)
      |exact finB hK (bP_true.2 (list_eq_of (by omega) hinv (by omega)))
  · refine finB hK (bP_false.2 λh=>?_);subst h;omega
theorem l00Same0_ {rs rs':List (List AV)} {t t':Bool} {l m:List Int} (hl:rs=l.map intR) (hm:rs'=m.map intR):AC Tryz.prog 233 [.sl t 1 rs,.sl t' 1 rs'] AV.bool (bP (l=m)):=by
  refine ac Tryz.func233 (.bool _) λE K hE hK=>?_
  conv=>cbv
  refine lenL hE hl λn hn hb=>?_
  conv=>cbv
  refine lenL hE hm λn' hn' hb'=>?_
  conv=>cbv
  refine eqI hE (λhe=>?_) (λhe=>?_)<;>conv=>cbv
  · skip
    repeat' first
      |((refine loop1 hE [0,1] [5] (λ(i:Int)=>([(5,.int .i64 i)],[],l.length - i,0<=i/\Up (λj=>l[j]? =m[j]?) i)) [] (0) rfl rfl (by dsimp only;exact ⟨by omega,.zero (by omega)⟩) λi hi2 Kn2 hN2=>?_;(try dsimp only at hi2);conv=>cbv);obtain ⟨h0,hinv⟩:=hi2)
      |(refine hN2 _ _ [] (by decide) rfl ⟨?_,?_⟩ ?_<;>(try dsimp only))
      |((first
     |refine q0 hE ?_
     |refine idxL (R:=intR) hE (by assumption) (by omega) (λ_ _=>?_)
     |refine B0 hE ?_|refine B1 hE ?_ ?_|refine B2 hE ?_)<;>intros<;>(try conv=>cbv))
    all_goals first
      |omega
      |(refine hinv.succ ?_ (by assumption);clear hN2;simp_all [pairsP];done)
      |(refine finB hK (bP_false.2 λh=>?_);clear hN2;simp_all [pairsP];done)
      |exact finB hK (bP_true.2 (list_eq_of (by omega) hinv (by omega)))
  · refine finB hK (bP_false.2 λh=>?_);subst h;omega
theorem l03Day_ (x:Int):AC Tryz.prog 92 [.int .i64 x] AV.bool (bP (0<=x/\x<=99999)):=by
  refine ac Tryz.func92 (.bool _) λE K hE hK=>?_
  conv=>cbv
  repeat' first
    |((first
   |refine q0 hE ?_
   |refine callP hE (in_ _ _ _) (λ_=>?_) (λ_=>?_)
   |refine B0 hE ?_|refine B1 hE ?_ ?_|refine B2 hE ?_)<;>intros<;>(try conv=>cbv))
  all_goals (try clear hN)
  all_goals first
    |(omega)
    |(refine finB hK (bP_true.2 ?_);first|omega|grind)
    |(refine finB hK (bP_false.2 ?_);first|omega|(intro h;grind))
    |(refine ⟨by omega,Up.succ (by assumption) ?_ (by assumption)⟩;grind)
    |(refine hK _ ?_;simp_all [atup];done)
    |(grind)
def Aid.zero:Aid:=⟨0,noS,0,0,0,0,noS,noS,noS,0,[],noS,noS,0,[],0⟩
def Ntc.aid (v:Ntc):Aid:=⟨v.aNumber,v.aName,v.atX,v.atY,v.aHeight,v.mKind,v.mColors,v.mShape,v.mTop,v.lKind,v.lGroup,v.lLetter,v.lColors,v.lPeriod,v.sectors,v.intensity⟩
def Ntc.ok (v:Ntc):Prop:=(1<=v.number/\v.number<=9999)/\(0<=v.day/\v.day<=99999)/\(1<=v.kind/\v.kind<=4)/\((v.kind=1∨v.kind=2)->v.aid.ok/\v.target=0)/\(¬(v.kind=1∨v.kind=2)->v.aid=Aid.zero/\(1<=v.target/\v.target<=9999))
def CanC (b:List Ntc) (t:Int):Prop:=(∃w,b[(firstI (λv:Ntc=>v.number=t) b).toNat]? =some w/\0<=firstI (λv:Ntc=>v.number=t) b/\w.kind≠4)/\¬∃m∈b,m.kind=4/\m.target=t
def Ntc.C (l:List Ntc) (j:Nat):Prop:=∃v,l[j]? =some v/\v.ok/\(0<j->∃w,l[j - 1]? =some w/\w.number<v.number/\w.day<=v.day)/\(v.kind=4->CanC (l.take j) v.target)
def NtcsOk (l:List Ntc):Prop:=(∀j,j<l.length->Ntc.C l j)/\l.length<=32
theorem sameAid0_ (number:Int) (name:ByteArray) (atX atY height mKind:Int) (mColors mShape mTop:ByteArray) (lKind:Int) (lLetter lColors:ByteArray) (lPeriod intensity:Int) {r_lGroup r_sectors:List (List AV)} {t_lGroup t_sectors:Bool} {lGroup:List Int} {sectors:List Scr} (h_lGroup:r_lGroup=lGroup.map intR) (h_sectors:r_sectors=sectors.map Scr.cs):AC Tryz.prog 286 [.agg [.int .i64 number,.str name,.int .i64 atX,.int .i64 atY,.int .i64 height,.int .i64 mKind,.str mColors,.str mShape,.str mTop,.int .i64 lKind,.sl t_lGroup 1 r_lGroup,.str lLetter,.str lColors,.int .i64 lPeriod,.sl t_sectors 3 r_sectors,.int .i64 intensity],.agg [.int .i64 0,.str ⟨#[]⟩,.int .i64 0,.int .i64 0,.int .i64 0,.int .i64 0,.str ⟨#[]⟩,.str ⟨#[]⟩,.str ⟨#[]⟩,.int .i64 0,.nils,.str ⟨#[]⟩,.str ⟨#[]⟩,.int .i64 0,.nils,.int .i64 0]] AV.bool (bP ((Aid.mk number name atX atY height mKind mColors mShape mTop lKind lGroup lLetter lColors lPeriod sectors intensity)=Aid.zero)):=by
  refine ac Tryz.func286 (.bool _) λE K hE hK=>?_
  conv=>cbv
  repeat' first
    |((first
   |refine q0 hE ?_
   |refine callP hE (sameZero_ _ _ _ _ h_lGroup) (λ_=>?_) (λ_=>?_)
   |refine callP hE (AC.nil1 (same0Scr_ (m:=[]) (t':=true) h_sectors rfl)) (λ_=>?_) (λ_=>?_)
   |refine aeqI hE (λhq=>?_) (λhq=>?_)
   |refine B0 hE ?_|refine B1 hE ?_ ?_|refine B2 hE ?_)<;>intros<;>(try conv=>cbv))
  all_goals (clear h_lGroup h_sectors)
  all_goals first|(refine finB hK (bP_true.2 ?_);simp only [pairsP,Aid.zero,Aid.mk.injEq] at *;simp_all [noS];done)|(refine finB hK (bP_false.2 ?_);simp only [pairsP,Aid.zero,Aid.mk.injEq] at *;simp_all [noS];done)
theorem l05Same0_ (kind:Int) (letter colors:ByteArray) (period:Int) {r_group:List (List AV)} {t_group:Bool} {group:List Int} (h_group:r_group=group.map intR):AC Tryz.prog 269 [.pp [.int .i64 kind,.sl t_group 1 r_group,.str letter,.str colors,.int .i64 period],.pp [.int .i64 0,.nils,.str ⟨#[]⟩,.str ⟨#[]⟩,.int .i64 0]] AV.bool (bP (kind=0/\group=[]/\letter=noS/\colors=noS/\period=0)):=by
  refine ac Tryz.func269 (.bool _) λE K hE hK=>?_
  conv=>cbv
  repeat' first
    |((first
   |refine q0 hE ?_
   |refine callP hE (AC.nil1 (l00Same0_ (m:=[]) (t':=true) h_group rfl)) (λ_=>?_) (λ_=>?_)
   |refine aeqI hE (λhq=>?_) (λhq=>?_)
   |refine B0 hE ?_|refine B1 hE ?_ ?_|refine B2 hE ?_)<;>intros<;>(try conv=>cbv))
  all_goals (clear h_group)
  all_goals first|(refine finB hK (bP_true.2 ?_);(try simp only [pairsP] at *);simp_all [noS];done)|(refine finB hK (bP_false.2 ?_);(try simp only [pairsP] at *);simp_all [noS];done)
theorem l12Same0_ (number:Int) (name:ByteArray) (atX atY height mKind:Int) (mColors mShape mTop:ByteArray) (lKind:Int) (lLetter lColors:ByteArray) (lPeriod intensity:Int) {r_lGroup r_sectors:List (List AV)} {t_lGroup t_sectors:Bool} {lGroup:List Int} {sectors:List Scr} (h_lGroup:r_lGroup=lGroup.map intR) (h_sectors:r_sectors=sectors.map Scr.cs):AC Tryz.prog 216 [.pp [.int .i64 number,.str name,.int .i64 atX,.int .i64 atY,.int .i64 height,.int .i64 mKind,.str mColors,.str mShape,.str mTop,.int .i64 lKind,.sl t_lGroup 1 r_lGroup,.str lLetter,.str lColors,.int .i64 lPeriod,.sl t_sectors 3 r_sectors,.int .i64 intensity],.pp [.int .i64 0,.str ⟨#[]⟩,.int .i64 0,.int .i64 0,.int .i64 0,.int .i64 0,.str ⟨#[]⟩,.str ⟨#[]⟩,.str ⟨#[]⟩,.int .i64 0,.nils,.str ⟨#[]⟩,.str ⟨#[]⟩,.int .i64 0,.nils,.int .i64 0]] AV.bool (bP ((Aid.mk number name atX atY height mKind mColors mShape mTop lKind lGroup lLetter lColors lPeriod sectors intensity)=Aid.zero)):=by
  refine ac Tryz.func216 (.bool _) λE K hE hK=>?_
  conv=>cbv
  repeat' first
    |((first
   |refine q0 hE ?_
   |refine callP hE (AC.tl11 (l05Same0_ _ _ _ _ h_lGroup)) (λ_=>?_) (λ_=>?_)
   |refine callP hE (AC.nil1 (sSame0Scr_ (m:=[]) (t':=true) h_sectors rfl)) (λ_=>?_) (λ_=>?_)
   |refine aeqI hE (λhq=>?_) (λhq=>?_)
   |refine B0 hE ?_|refine B1 hE ?_ ?_|refine B2 hE ?_)<;>intros<;>(try conv=>cbv))
  all_goals (clear h_lGroup h_sectors)
  all_goals first|(refine finB hK (bP_true.2 ?_);simp only [pairsP,Aid.zero,Aid.mk.injEq] at *;simp_all [noS];done)|(refine finB hK (bP_false.2 ?_);simp only [pairsP,Aid.zero,Aid.mk.injEq] at *;simp_all [noS];done)
theorem hasAid_ (number day kind target aNumber:Int) (aName:ByteArray) (atX atY aHeight mKind:Int) (mColors mShape mTop:ByteArray) (lKind:Int) (lLetter lColors:ByteArray) (lPeriod intensity:Int) {r_lGroup r_sectors:List (List AV)} {t_lGroup t_sectors:Bool} {lGroup:List Int} {sectors:List Scr} (h_lGroup:r_lGroup=lGroup.map intR) (h_sectors:r_sectors=sectors.map Scr.cs):AC Tryz.prog 285 [.agg [.int .i64 number,.int .i64 day,.int .i64 kind,.int .i64 target,.int .i64 aNumber,.str aName,.int .i64 atX,.int .i64 atY,.int .i64 aHeight,.int .i64 mKind,.str mColors,.str mShape,.str mTop,.int .i64 lKind,.sl t_lGroup 1 r_lGroup,.str lLetter,.str lColors,.int .i64 lPeriod,.sl t_sectors 3 r_sectors,.int .i64 intensity]] AV.bool (bP (kind=1∨kind=2)):=by
  refine ac Tryz.func285 (.bool _) λE K hE hK=>?_
  conv=>cbv
  repeat' first
    |((first
   |refine q0 hE ?_
   |refine B0 hE ?_|refine B1 hE ?_ ?_|refine B2 hE ?_)<;>intros<;>(try conv=>cbv))
  all_goals (try clear hN)
  all_goals first
    |(omega)
    |(refine finB hK (bP_true.2 ?_);first|omega|grind)
    |(refine finB hK (bP_false.2 ?_);first|omega|(intro h;grind))
    |(refine ⟨by omega,Up.succ (by assumption) ?_ (by assumption)⟩;grind)
    |(refine hK _ ?_;simp_all [atup];done)
    |(grind)
theorem validNotice_ (number day kind target aNumber:Int) (aName:ByteArray) (atX atY aHeight mKind:Int) (mColors mShape mTop:ByteArray) (lKind:Int) (lLetter lColors:ByteArray) (lPeriod intensity:Int) {r_lGroup r_sectors:List (List AV)} {t_lGroup t_sectors:Bool} {lGroup:List Int} {sectors:List Scr} (h_lGroup:r_lGroup=lGroup.map intR) (h_sectors:r_sectors=sectors.map Scr.cs):AC Tryz.prog 242 [.agg [.int .i64 number,.int .i64 day,.int .i64 kind,.int .i64 target,.int .i64 aNumber,.str aName,.int .i64 atX,.int .i64 atY,.int .i64 aHeight,.int .i64 mKind,.str mColors,.str mShape,.str mTop,.int .i64 lKind,.sl t_lGroup 1 r_lGroup,.str lLetter,.str lColors,.int .i64 lPeriod,.sl t_sectors 3 r_sectors,.int .i64 intensity]] AV.bool (bP (Ntc.ok (Ntc.mk number day kind target aNumber aName atX atY aHeight mKind mColors mShape mTop lKind lGroup lLetter lColors lPeriod sectors intensity))):=by
  refine ac Tryz.func242 (.bool _) λE K hE hK=>?_
  conv=>cbv
  repeat' first
    |((first
   |refine q0 hE ?_
   |refine callP hE (isNumber_ _) (λ_=>?_) (λ_=>?_)
   |refine callP hE (isDay_ _) (λ_=>?_) (λ_=>?_)
   |refine callP hE (within_ _ _ _) (λ_=>?_) (λ_=>?_)
   |refine callP hE (hasAid_ _ _ _ _ _ _ _ _ _ _ _ _ _ _ _ _ _ _ h_lGroup h_sectors) (λ_=>?_) (λ_=>?_)
   |refine callP hE (validAid_ _ _ _ _ _ _ _ _ _ _ _ _ _ _ h_lGroup h_sectors) (λ_=>?_) (λ_=>?_)
   |refine callP hE (sameAid0_ _ _ _ _ _ _ _ _ _ _ _ _ _ _ h_lGroup h_sectors) (λ_=>?_) (λ_=>?_)
   |refine B0 hE ?_|refine B1 hE ?_ ?_|refine B2 hE ?_)<;>intros<;>(try conv=>cbv))
  all_goals (clear h_lGroup h_sectors)
  all_goals (try clear hN)
  all_goals first
    |(omega)
    |(refine finB hK (bP_true.2 ?_);first|omega|grind [Ntc.ok,Ntc.aid])
    |(refine finB hK (bP_false.2 ?_);first|omega|(intro h;grind [Ntc.ok,Ntc.aid]))
    |(refine ⟨by omega,Up.succ (by assumption) ?_ (by assumption)⟩;grind [Ntc.ok,Ntc.aid])
    |(refine hK _ ?_;simp_all [atup,Ntc.ok,Ntc.aid];done)
    |(grind [Ntc.ok,Ntc.aid])
theorem l21One_ (number day kind target aNumber:Int) (aName:ByteArray) (atX atY aHeight mKind:Int) (mColors mShape mTop:ByteArray) (lKind:Int) (lLetter lColors:ByteArray) (lPeriod intensity:Int) {r_lGroup r_sectors:List (List AV)} {t_lGroup t_sectors:Bool} {lGroup:List Int} {sectors:List Scr} (h_lGroup:r_lGroup=lGroup.map intR) (h_sectors:r_sectors=sectors.map Scr.cs):AC Tryz.prog 153 [.pp [.int .i64 number,.int .i64 day,.int .i64 kind,.int .i64 target,.int .i64 aNumber,.str aName,.int .i64 atX,.int .i64 atY,.int .i64 aHeight,.int .i64 mKind,.str mColors,.str mShape,.str mTop,.int .i64 lKind,.sl t_lGroup 1 r_lGroup,.str lLetter,.str lColors,.int .i64 lPeriod,.sl t_sectors 3 r_sectors,.int .i64 intensity]] AV.bool (bP (Ntc.ok (Ntc.mk number day kind target aNumber aName atX atY aHeight mKind mColors mShape mTop lKind lGroup lLetter lColors lPeriod sectors intensity))):=by
  refine ac Tryz.func153 (.bool _) λE K hE hK=>?_
  conv=>cbv
  repeat' first
    |((first
   |refine q0 hE ?_
   |refine callP hE (in_ _ _ _) (λ_=>?_) (λ_=>?_)
   |refine callP hE (l03Day_ _) (λ_=>?_) (λ_=>?_)
   |refine callP hE (l12One_ _ _ _ _ _ _ _ _ _ _ _ _ _ _ h_lGroup h_sectors) (λ_=>?_) (λ_=>?_)
   |refine callP hE (l12Same0_ _ _ _ _ _ _ _ _ _ _ _ _ _ _ h_lGroup h_sectors) (λ_=>?_) (λ_=>?_)
   |refine B0 hE ?_|refine B1 hE ?_ ?_|refine B2 hE ?_)<;>intros<;>(try conv=>cbv))
  all_goals (clear h_lGroup h_sectors)
  all_goals (try clear hN)
  all_goals first
    |(omega)
    |(refine finB hK (bP_true.2 ?_);first|omega|grind [Ntc.ok,Ntc.aid])
    |(refine finB hK (bP_false.2 ?_);first|omega|(intro h;grind [Ntc.ok,Ntc.aid]))
    |(refine ⟨by omega,Up.succ (by assumption) ?_ (by assumption)⟩;grind [Ntc.ok,Ntc.aid])
    |(refine hK _ ?_;simp_all [atup,Ntc.ok,Ntc.aid];done)
    |(grind [Ntc.ok,Ntc.aid])
theorem indexNotice1_ {rs:List (List AV)} {t b:Bool} {l:List Ntc} {g:FuncId} {c0:List AV} {p:Ntc->Prop} (hl:rs=l.map (Ntc.cs b)) (hp:∀(number day kind target aNumber:Int) (aName:ByteArray) (atX atY aHeight mKind:Int) (mColors mShape mTop:ByteArray) (lKind:Int) (lLetter lColors:ByteArray) (lPeriod intensity:Int) {r_lGroup r_sectors:List (List AV)} {t_lGroup t_sectors:Bool} {lGroup:List Int} {sectors:List Scr} (h_lGroup:r_lGroup=lGroup.map intR) (h_sectors:r_sectors=sectors.map Scr.cs) ,AC Tryz.prog g (.agg [.int .i64 number,.int .i64 day,.int .i64 kind,.int .i64 target,.int .i64 aNumber,.str aName,.int .i64 atX,.int .i64 atY,.int .i64 aHeight,.int .i64 mKind,.str mColors,.str mShape,.str mTop,.int .i64 lKind,.sl t_lGroup 1 r_lGroup,.str lLetter,.str lColors,.int .i64 lPeriod,.sl t_sectors 3 r_sectors,.int .i64 intensity]::[.pp c0]) AV.bool (bP (p (Ntc.mk number day kind target aNumber aName atX atY aHeight mKind mColors mShape mTop lKind lGroup lLetter lColors lPeriod sectors intensity)))):AC Tryz.prog 287 [.sl t 20 rs,.fn g [.pp c0]] (AV.int .i64) (firstI p l):=by
  refine ac Tryz.func287 (.int _ _) λE K hE hK=>?_
  conv=>cbv
  refine lenL hE hl λn hn hb=>?_
  conv=>cbv
  refine loop1 hE [0,1,7] [8] (λ(i:Int)=>([(8,.int .i64 i)],[],l.length - i,0<=i/\Up (λj=>∀v,l[j]? =some v->¬p v) i)) [] (0) rfl rfl (by dsimp only;exact ⟨by omega,.zero (by omega)⟩) λi hi Kn hN=>?_
  (try dsimp only at hi)
  conv=>cbv
  obtain ⟨h0,hinv⟩:=hi
  repeat' first
    |(refine hN _ _ [] (by decide) rfl ⟨?_,?_⟩ ?_<;>(try dsimp only))
    |((first
   |refine idxNtc hE hl (by omega) (λnumber day kind target aNumber aName atX atY aHeight mKind mColors mShape mTop lKind lGroup lLetter lColors lPeriod sectors intensity r_lGroup r_sectors hv h_lGroup h_sectors=>?_)
   |refine q0 hE ?_
   |refine callP hE (hp _ _ _ _ _ _ _ _ _ _ _ _ _ _ _ _ _ _ (by assumption) (by assumption)) (λ_=>?_) (λ_=>?_)
   |refine B0 hE ?_|refine B1 hE ?_ ?_|refine B2 hE ?_)<;>intros<;>(try conv=>cbv))
  all_goals (try clear hN)
  all_goals first
    |omega
    |(refine hK _ ?_;rw [firstI_in h0 hv (by assumption) hinv];rfl)
    |(refine hinv.succ (λv hw=>?_) (by assumption);rw [hv] at hw;cases hw;assumption)
    |(refine hK _ ?_;rw [firstI_out (by omega) hinv];rfl)
theorem containsNotice1_ {rs:List (List AV)} {t b:Bool} {l:List Ntc} {g:FuncId} {c0:List AV} {p:Ntc->Prop} (hl:rs=l.map (Ntc.cs b)) (hp:∀(number day kind target aNumber:Int) (aName:ByteArray) (atX atY aHeight mKind:Int) (mColors mShape mTop:ByteArray) (lKind:Int) (lLetter lColors:ByteArray) (lPeriod intensity:Int) {r_lGroup r_sectors:List (List AV)} {t_lGroup t_sectors:Bool} {lGroup:List Int} {sectors:List Scr} (h_lGroup:r_lGroup=lGroup.map intR) (h_sectors:r_sectors=sectors.map Scr.cs) ,AC Tryz.prog g (.agg [.int .i64 number,.int .i64 day,.int .i64 kind,.int .i64 target,.int .i64 aNumber,.str aName,.int .i64 atX,.int .i64 atY,.int .i64 aHeight,.int .i64 mKind,.str mColors,.str mShape,.str mTop,.int .i64 lKind,.sl t_lGroup 1 r_lGroup,.str lLetter,.str lColors,.int .i64 lPeriod,.sl t_sectors 3 r_sectors,.int .i64 intensity]::[.pp c0]) AV.bool (bP (p (Ntc.mk number day kind target aNumber aName atX atY aHeight mKind mColors mShape mTop lKind lGroup lLetter lColors lPeriod sectors intensity)))):AC Tryz.prog 250 [.sl t 20 rs,.fn g [.pp c0]] AV.bool (bP (∃v∈l,p v)):=by
  refine ac Tryz.func250 (.bool _) λE K hE hK=>?_
  conv=>cbv
  refine callI hE (indexNotice1_ hl hp) λy hy=>?_
  conv=>cbv
  refine leI hE (λh=>?_) (λh=>?_)<;>conv=>cbv
  · exact finB hK (bP_true.2 (firstI_ge.1 (by omega)))
  · exact finB hK (bP_false.2 λh'=>by have:=firstI_ge.2 h';omega)
theorem canCancel1_ (number day kind target aNumber:Int) (aName:ByteArray) (atX atY aHeight mKind:Int) (mColors mShape mTop:ByteArray) (lKind:Int) (lLetter lColors:ByteArray) (lPeriod intensity:Int) {r_lGroup r_sectors:List (List AV)} {t_lGroup t_sectors:Bool} {lGroup:List Int} {sectors:List Scr} (h_lGroup:r_lGroup=lGroup.map intR) (h_sectors:r_sectors=sectors.map Scr.cs) (number' day' kind' target' aNumber':Int) (aName':ByteArray) (atX' atY' aHeight' mKind':Int) (mColors' mShape' mTop':ByteArray) (lKind':Int) (lLetter' lColors':ByteArray) (lPeriod' intensity':Int) {r_lGroup' r_sectors':List (List AV)} {t_lGroup' t_sectors':Bool} {lGroup':List Int} {sectors':List Scr} (h_lGroup':r_lGroup'=lGroup'.map intR) (h_sectors':r_sectors'=sectors'.map Scr.cs):AC Tryz.prog 288 [.agg [.int .i64 number,.int .i64 day,.int .i64 kind,.int .i64 target,.int .i64 aNumber,.str aName,.int .i64 atX,.int .i64 atY,.int .i64 aHeight,.int .i64 mKind,.str mColors,.str mShape,.str mTop,.int .i64 lKind,.sl t_lGroup 1 r_lGroup,.str lLetter,.str lColors,.int .i64 lPeriod,.sl t_sectors 3 r_sectors,.int .i64 intensity],.pp [.int .i64 number',.int .i64 day',.int .i64 kind',.int .i64 target',.int .i64 aNumber',.str aName',.int .i64 atX',.int .i64 atY',.int .i64 aHeight',.int .i64 mKind',.str mColors',.str mShape',.str mTop',.int .i64 lKind',.sl t_lGroup' 1 r_lGroup',.str lLetter',.str lColors',.int .i64 lPeriod',.sl t_sectors' 3 r_sectors',.int .i64 intensity']] AV.bool (bP ((λv:Ntc=>v.number=target') (Ntc.mk number day kind target aNumber aName atX atY aHeight mKind mColors mShape mTop lKind lGroup lLetter lColors lPeriod sectors intensity))):=by
  refine ac Tryz.func288 (.bool _) λE K hE hK=>?_
  conv=>cbv
  repeat' first
    |((first
   |refine q0 hE ?_
   |refine B0 hE ?_|refine B1 hE ?_ ?_|refine B2 hE ?_)<;>intros<;>(try conv=>cbv))
  all_goals (try clear hN)
  all_goals first
    |(omega)
    |(refine finB hK (bP_true.2 ?_);first|omega|grind)
    |(refine finB hK (bP_false.2 ?_);first|omega|(intro h;grind))
    |(refine ⟨by omega,Up.succ (by assumption) ?_ (by assumption)⟩;grind)
    |(refine hK _ ?_;simp_all [atup];done)
    |(grind)
theorem canCancel2_ (number day kind target aNumber:Int) (aName:ByteArray) (atX atY aHeight mKind:Int) (mColors mShape mTop:ByteArray) (lKind:Int) (lLetter lColors:ByteArray) (lPeriod intensity:Int) {r_lGroup r_sectors:List (List AV)} {t_lGroup t_sectors:Bool} {lGroup:List Int} {sectors:List Scr} (h_lGroup:r_lGroup=lGroup.map intR) (h_sectors:r_sectors=sectors.map Scr.cs) (number' day' kind' target' aNumber':Int) (aName':ByteArray) (atX' atY' aHeight' mKind':Int) (mColors' mShape' mTop':ByteArray) (lKind':Int) (lLetter' lColors':ByteArray) (lPeriod' intensity':Int) {r_lGroup' r_sectors':List (List AV)} {t_lGroup' t_sectors':Bool} {lGroup':List Int} {sectors':List Scr} (h_lGroup':r_lGroup'=lGroup'.map intR) (h_sectors':r_sectors'=sectors'.map Scr.cs):AC Tryz.prog 289 [.agg [.int .i64 number,.int .i64 day,.int .i64 kind,.int .i64 target,.int .i64 aNumber,.str aName,.int .i64 atX,.int .i64 atY,.int .i64 aHeight,.int .i64 mKind,.str mColors,.str mShape,.str mTop,.int .i64 lKind,.sl t_lGroup 1 r_lGroup,.str lLetter,.str lColors,.int .i64 lPeriod,.sl t_sectors 3 r_sectors,.int .i64 intensity],.pp [.int .i64 number',.int .i64 day',.int .i64 kind',.int .i64 target',.int .i64 aNumber',.str aName',.int .i64 atX',.int .i64 atY',.int .i64 aHeight',.int .i64 mKind',.str mColors',.str mShape',.str mTop',.int .i64 lKind',.sl t_lGroup' 1 r_lGroup',.str lLetter',.str lColors',.int .i64 lPeriod',.sl t_sectors' 3 r_sectors',.int .i64 intensity']] AV.bool (bP ((λv:Ntc=>v.kind=4/\v.target=target') (Ntc.mk number day kind target aNumber aName atX atY aHeight mKind mColors mShape mTop lKind lGroup lLetter lColors lPeriod sectors intensity))):=by
  refine ac Tryz.func289 (.bool _) λE K hE hK=>?_
  conv=>cbv
  repeat' first
    |((first
   |refine q0 hE ?_
   |refine B0 hE ?_|refine B1 hE ?_ ?_|refine B2 hE ?_)<;>intros<;>(try conv=>cbv))
  all_goals (try clear hN)
  all_goals first
    |(omega)
    |(refine finB hK (bP_true.2 ?_);first|omega|grind)
    |(refine finB hK (bP_false.2 ?_);first|omega|(intro h;grind))
    |(refine ⟨by omega,Up.succ (by assumption) ?_ (by assumption)⟩;grind)
    |(refine hK _ ?_;simp_all [atup];done)
    |(grind)
theorem canCancel_ (number day kind target aNumber:Int) (aName:ByteArray) (atX atY aHeight mKind:Int) (mColors mShape mTop:ByteArray) (lKind:Int) (lLetter lColors:ByteArray) (lPeriod intensity:Int) {r_lGroup r_sectors:List (List AV)} {t_lGroup t_sectors:Bool} {lGroup:List Int} {sectors:List Scr} (h_lGroup:r_lGroup=lGroup.map intR) (h_sectors:r_sectors=sectors.map Scr.cs) {rs:List (List AV)} {t b:Bool} {l:List Ntc} (hl:rs=l.map (Ntc.cs b)):AC Tryz.prog 243 [.agg [.int .i64 number,.int .i64 day,.int .i64 kind,.int .i64 target,.int .i64 aNumber,.str aName,.int .i64 atX,.int .i64 atY,.int .i64 aHeight,.int .i64 mKind,.str mColors,.str mShape,.str mTop,.int .i64 lKind,.sl t_lGroup 1 r_lGroup,.str lLetter,.str lColors,.int .i64 lPeriod,.sl t_sectors 3 r_sectors,.int .i64 intensity],.sl t 20 rs] AV.bool (bP (CanC l target)):=by
  refine ac Tryz.func243 (.bool _) λE K hE hK=>?_
  conv=>cbv
  refine callI hE (indexNotice1_ (p:=λv:Ntc=>v.number=target) hl (λa0 a1 a2 a3 a4 a5 a6 a7 a8 a9 b0 b1 b2 b3 b4 b5 b6 b7 _ _ _ _ _ _ h1 h2=>canCancel1_ a0 a1 a2 a3 a4 a5 a6 a7 a8 a9 b0 b1 b2 b3 b4 b5 b6 b7 h1 h2 number day kind target aNumber aName atX atY aHeight mKind mColors mShape mTop lKind lLetter lColors lPeriod intensity h_lGroup h_sectors)) λy hy=>?_
  conv=>cbv
  refine ltI hE (λhlt=>?_) (λhge=>?_)<;>conv=>cbv
  · refine finB hK (bP_false.2 λ⟨⟨w,h1,h2,h3⟩,_⟩=>?_)
    omega
  · obtain ⟨hle,w,hw,hp⟩:y<l.length/\∃w,l[y.toNat]? =some w/\w.number=target:=by
      rcases firstI_spec (λv:Ntc=>v.number=target) l with ⟨g1,g2,⟨v0,g3,g4⟩,_⟩|⟨g1,_⟩
      · rw [←hy] at g2 g3;exact ⟨g2,v0,g3,g4⟩
      · omega
    repeat' first
      |((first
     |refine idxNtcV hE hl (by omega) (by assumption) (by assumption) (by assumption) ?_
     |refine idxNtc hE hl (by omega) (λc0 c1 c2 c3 c4 c5 c6 c7 c8 c9 d0 d1 d2 d3 d4 d5 d6 d7 d8 d9 rg rx hv hg hx=>?_)
     |refine q0 hE ?_
     |refine callP hE (containsNotice1_ (p:=λv:Ntc=>v.kind=4/\v.target=target) hl (λa0 a1 a2 a3 a4 a5 a6 a7 a8 a9 b0 b1 b2 b3 b4 b5 b6 b7 _ _ _ _ _ _ h1 h2=>canCancel2_ a0 a1 a2 a3 a4 a5 a6 a7 a8 a9 b0 b1 b2 b3 b4 b5 b6 b7 h1 h2 number day kind target aNumber aName atX atY aHeight mKind mColors mShape mTop lKind lLetter lColors lPeriod intensity h_lGroup h_sectors)) (λ_=>?_) (λ_=>?_)
     |refine B0 hE ?_|refine B1 hE ?_ ?_|refine B2 hE ?_)<;>intros<;>(try conv=>cbv))
    all_goals first
      |(refine finB hK (bP_false.2 λ⟨⟨w',h1,h2,h3⟩,_⟩=>?_);rw [←hy,hv] at h1;cases h1;exact h3 (by assumption))
      |(refine finB hK (bP_false.2 λh=>h.2 ?_);assumption)
      |exact finB hK (bP_true.2 ⟨⟨_,by rw [←hy];exact hv,by omega,by simp only;omega⟩,by assumption⟩)
set_option maxHeartbeats 4000000
theorem l21Cancelled_ {rs:List (List AV)} {t b:Bool} {l:List Ntc} (m d:Int) (hl:rs=l.map (Ntc.cs b)):AC Tryz.prog 217 [.sl t 20 rs,.int .i64 m,.int .i64 d] AV.bool (bP (∃v∈l,v.kind=4/\v.target=m/\v.day<=d)):=by
  refine ac Tryz.func217 (.bool _) λE K hE hK=>?_
  conv=>cbv
  refine loop1 hE [0,1,2] [7] (λ(i:Int)=>([(7,.int .i64 i)],[],l.length - i,0<=i/\Up (λj=>∀v,l[j]? =some v->¬(v.kind=4/\v.target=m/\v.day<=d)) i)) [] (0) rfl rfl (by dsimp only;exact ⟨by omega,.zero (by omega)⟩) λi hi Kn hN=>?_
  (try dsimp only at hi)
  conv=>cbv
  obtain ⟨h0,hinv⟩:=hi
  repeat' first
    |(refine hN _ _ [] (by decide) rfl ⟨?_,?_⟩ ?_<;>(try dsimp only))
    |((first
   |refine lenL hE hl (λ_ _ _=>?_)
   |refine idxNtcV hE hl (by omega) (by assumption) (by assumption) (by assumption) ?_
   |refine idxNtc hE hl (by omega) (λc0 c1 c2 c3 c4 c5 c6 c7 c8 c9 d0 d1 d2 d3 d4 d5 d6 d7 d8 d9 rg rx hv hg hx=>?_)
   |refine q0 hE ?_
   |refine B0 hE ?_|refine B1 hE ?_ ?_|refine B2 hE ?_)<;>intros<;>(try conv=>cbv))
  all_goals (try clear hN)
  all_goals first
    |omega
    |exact finB hK (bP_true.2 ⟨_,List.mem_of_getElem? hv,by simp only;omega⟩)
    |(refine hinv.succ (λv hw=>?_) (by assumption);rw [hv] at hw;cases hw;simp only;omega)
    |(refine finB hK (bP_false.2 λ⟨v,hv,hp⟩=>?_);obtain ⟨j,hj⟩:=List.getElem?_of_mem hv;exact hinv j (by have:=(List.getElem?_eq_some_iff.1 hj).1;omega) v hj hp)
theorem can_iff {l:List Ntc} {t:Int} (hd:∀v∈l,v.day<=99999):(∃m∈l,m.kind=4/\m.target=t)↔∃v∈l,v.kind=4/\v.target=t/\v.day<=99999:=
  ⟨λ⟨m,h1,h2,h3⟩=>⟨m,h1,h2,h3,hd m h1⟩,λ⟨m,h1,h2,h3,_⟩=>⟨m,h1,h2,h3⟩⟩
theorem l21Cancels_ (number day kind target aNumber:Int) (aName:ByteArray) (atX atY aHeight mKind:Int) (mColors mShape mTop:ByteArray) (lKind:Int) (lLetter lColors:ByteArray) (lPeriod intensity:Int) {r_lGroup r_sectors:List (List AV)} {t_lGroup t_sectors:Bool} {lGroup:List Int} {sectors:List Scr} (h_lGroup:r_lGroup=lGroup.map intR) (h_sectors:r_sectors=sectors.map Scr.cs) {rs:List (List AV)} {t b:Bool} {l:List Ntc} (hl:rs=l.map (Ntc.cs b)) (hd:∀v∈l,v.day<=99999):AC Tryz.prog 154 [.sl t 20 rs,.pp [.int .i64 number,.int .i64 day,.int .i64 kind,.int .i64 target,.int .i64 aNumber,.str aName,.int .i64 atX,.int .i64 atY,.int .i64 aHeight,.int .i64 mKind,.str mColors,.str mShape,.str mTop,.int .i64 lKind,.sl t_lGroup 1 r_lGroup,.str lLetter,.str lColors,.int .i64 lPeriod,.sl t_sectors 3 r_sectors,.int .i64 intensity]] AV.bool (bP (kind=4->CanC l target)):=by
  refine ac Tryz.func154 (.bool _) λE K hE hK=>?_
  conv=>cbv
  refine eqI hE (λhk=>?_) (λhk=>?_)<;>conv=>cbv
  · refine loop1 hE [0,1] [5] (λ(i:Int)=>([(5,.int .i64 i)],[],l.length - i,0<=i/\Up (λj=>∀v,l[j]? =some v->¬v.number=target) i)) [] (0) rfl rfl (by dsimp only;exact ⟨by omega,.zero (by omega)⟩) λi hi Kn hN=>?_
    (try dsimp only at hi)
    conv=>cbv
    obtain ⟨h0,hinv⟩:=hi
    repeat' first
      |(refine hN _ _ [] (by decide) rfl ⟨?_,?_⟩ ?_<;>(try dsimp only))
      |((first
     |refine lenL hE hl (λ_ _ _=>?_)
     |refine idxNtcV hE hl (by omega) (by assumption) (by assumption) (by assumption) ?_
     |refine idxNtc hE hl (by omega) (λc0 c1 c2 c3 c4 c5 c6 c7 c8 c9 d0 d1 d2 d3 d4 d5 d6 d7 d8 d9 rg rx hv hg hx=>?_)
     |refine q0 hE ?_
     |refine callP hE (l21Cancelled_ _ _ hl) (λ_=>?_) (λ_=>?_)
     |refine B0 hE ?_|refine B1 hE ?_ ?_|refine B2 hE ?_)<;>intros<;>(try conv=>cbv))
    all_goals (try clear hN)
    all_goals first
      |omega
      |(refine hinv.succ (λv hw=>?_) (by assumption);rw [hv] at hw;cases hw;simp only;omega)
      | (have hf:=firstI_in (p:=λv:Ntc=>v.number=target) h0 hv (by simp only;omega) hinv
         first
          |(refine finB hK (bP_false.2 λh=>?_);obtain ⟨⟨w',h1,h2,h3⟩,_⟩:=h hk;rw [hf,hv] at h1;cases h1;exact h3 (by assumption))
          |(refine finB hK (bP_false.2 λh=>(h hk).2 ((can_iff hd).2 ?_));assumption)
          |exact finB hK (bP_true.2 λ_=>⟨⟨_,by rw [hf];exact hv,by rw [hf];omega,by simp only;omega⟩,λh=>by have:=(can_iff hd).1 h;contradiction⟩))
      |(refine finB hK (bP_false.2 λh=>?_);obtain ⟨⟨w',h1,h2,h3⟩,_⟩:=h hk;have:=firstI_out (p:=λv:Ntc=>v.number=target) (i:=i) (by omega) hinv;omega)
  · exact finB hK (bP_true.2 λh=>absurd h hk)
theorem ntc_take {l:List Ntc} {i:Int} (h:Up (Ntc.C l) i):∀v∈l.take i.toNat,v.day<=99999:=λv hv=>by
  obtain ⟨j,hj⟩:=List.getElem?_of_mem hv
  rw [List.getElem?_take] at hj
  split at hj
  · obtain ⟨w,h1,h2,_⟩:=h j (by omega)
    rw [hj] at h1;cases h1
    exact h2.2.1.2
  · cases hj
set_option maxHeartbeats 8000000
theorem validNotices_ {rs:List (List AV)} {t b:Bool} {l:List Ntc} (hl:rs=l.map (Ntc.cs b)):AC Tryz.prog 184 [.sl t 20 rs] AV.bool (bP (NtcsOk l)):=by
  refine ac Tryz.func184 (.bool _) λE K hE hK=>?_
  conv=>cbv
  refine lenL hE hl λn hn hb=>?_
  conv=>cbv
  refine loop1 hE [0,5,6] [7] (λ(i:Int)=>([(7,.int .i64 i)],[],l.length - i,0<=i/\Up (Ntc.C l) i)) [] (0) rfl rfl (by dsimp only;exact ⟨by omega,.zero (by omega)⟩) λi hi Kn hN=>?_
  (try dsimp only at hi)
  conv=>cbv
  obtain ⟨h0,hinv⟩:=hi
  refine ltI hE (λhlt=>?_) (λhge=>?_)<;>conv=>cbv
  · refine idxNtc hE hl (by omega) (λnumber day kind target aNumber aName atX atY aHeight mKind mColors mShape mTop lKind lGroup lLetter lColors lPeriod sectors intensity rg rx hv hg hx=>?_)
    conv=>cbv
    refine callP hE (validNotice_ _ _ _ _ _ _ _ _ _ _ _ _ _ _ _ _ _ _ hg hx) (λh1=>?_) (λh1=>?_)<;>conv=>cbv
    · refine ltI hE (λh2=>?_) (λh2=>?_)<;>conv=>cbv
      · refine sub64 hE (by omega) λk hk=>?_
        conv=>cbv
        refine idxNtc hE hl (by omega) (λc0 c1 c2 c3 c4 c5 c6 c7 c8 c9 d0 d1 d2 d3 d4 d5 d6 d7 d8 d9 rg' rx' hw hg' hx'=>?_)
        conv=>cbv
        repeat' first
          |(refine hN _ _ [] (by decide) rfl ⟨?_,?_⟩ ?_<;>(try dsimp only))
          |((first
         |(refine sub64 hE (by omega) (λk2 hk2=>?_);(have hk3:k=k2:=by omega);subst hk3)
         |refine idxNtcV hE hl (by omega) hw hg' hx' ?_
         |(refine subL (R:=Ntc.cs b) hE hl (by simp only [Option.getD_some,Option.getD_none];omega) (λrs2 hrs2=>?_);(have hrs3:rs2=(l.take i.toNat).map (Ntc.cs b):=by rw [hrs2];simp))
         |refine q0 hE ?_
         |refine callP hE (canCancel_ _ _ _ _ _ _ _ _ _ _ _ _ _ _ _ _ _ _ hg hx hrs3) (λ_=>?_) (λ_=>?_)
         |refine B0 hE ?_|refine B1 hE ?_ ?_|refine B2 hE ?_)<;>intros<;>(try conv=>cbv))
        all_goals (try clear hN)
        all_goals first
          |omega
          | (refine finB hK (bP_false.2 λh=>?_)
             obtain ⟨v',e1,e2,e3,e4⟩:=h.1 i.toNat (by omega)
             rw [hv] at e1;cases e1
             obtain ⟨w',g1,g2⟩:=e3 (by omega)
             rw [show i.toNat - 1=k.toNat by omega,hw] at g1;cases g1
             simp only at g2 e4
             first
              |omega
              |exact absurd (e4 (by assumption)) (by assumption))
          | (refine hinv.succ ⟨_,hv,h1,λ_=>⟨_,by rw [show i.toNat - 1=k.toNat by omega];exact hw,by simp only;omega⟩,λh4=>?_⟩ (by assumption)
             simp only at h4 ⊢
             first
              |assumption
              |exact absurd h4 (by assumption))
      · skip
        repeat' first
          |(refine hN _ _ [] (by decide) rfl ⟨?_,?_⟩ ?_<;>(try dsimp only))
          |((first
         |(refine subL (R:=Ntc.cs b) hE hl (by simp only [Option.getD_some,Option.getD_none];omega) (λrs2 hrs2=>?_);(have hrs3:rs2=(l.take i.toNat).map (Ntc.cs b):=by rw [hrs2];simp))
         |refine q0 hE ?_
         |refine callP hE (canCancel_ _ _ _ _ _ _ _ _ _ _ _ _ _ _ _ _ _ _ hg hx hrs3) (λ_=>?_) (λ_=>?_)
         |refine B0 hE ?_|refine B1 hE ?_ ?_|refine B2 hE ?_)<;>intros<;>(try conv=>cbv))
        all_goals (try clear hN)
        all_goals first
          |omega
          | (refine finB hK (bP_false.2 λh=>?_)
             obtain ⟨v',e1,e2,e3,e4⟩:=h.1 i.toNat (by omega)
             rw [hv] at e1;cases e1
             simp only at e4
             exact absurd (e4 (by assumption)) (by assumption))
          | (refine hinv.succ ⟨_,hv,h1,λ_=>by omega,λh4=>?_⟩ (by assumption)
             simp only at h4 ⊢
             first
              |assumption
              |exact absurd h4 (by assumption))
    · refine finB hK (bP_false.2 λh=>?_)
      obtain ⟨v',e1,e2,e3⟩:=h.1 i.toNat (by omega)
      rw [hv] at e1;cases e1
      exact h1 e2
  · skip
    repeat' first
      |((first
     |refine q0 hE ?_
     |refine callP hE (few_ _ _) (λ_=>?_) (λ_=>?_)
     |refine B0 hE ?_|refine B1 hE ?_ ?_|refine B2 hE ?_)<;>intros<;>(try conv=>cbv))
    all_goals first
      |exact finB hK (bP_true.2 ⟨hinv.all (by omega),by omega⟩)
      |(refine finB hK (bP_false.2 λh=>?_);have:=h.2;omega)
theorem l21Ok_ {rs:List (List AV)} {t b:Bool} {l:List Ntc} (hl:rs=l.map (Ntc.cs b)):AC Tryz.prog 91 [.sl t 20 rs] AV.bool (bP (NtcsOk l)):=by
  refine ac Tryz.func91 (.bool _) λE K hE hK=>?_
  conv=>cbv
  refine loop1 hE [0] [3] (λ(i:Int)=>([(3,.int .i64 i)],[],l.length - i,0<=i/\Up (Ntc.C l) i)) [] (0) rfl rfl (by dsimp only;exact ⟨by omega,.zero (by omega)⟩) λi hi Kn hN=>?_
  (try dsimp only at hi)
  conv=>cbv
  obtain ⟨h0,hinv⟩:=hi
  refine lenL hE hl λn hn hb=>?_
  conv=>cbv
  refine ltI hE (λhlt=>?_) (λhge=>?_)<;>conv=>cbv
  · refine idxNtc hE hl (by omega) (λnumber day kind target aNumber aName atX atY aHeight mKind mColors mShape mTop lKind lGroup lLetter lColors lPeriod sectors intensity rg rx hv hg hx=>?_)
    conv=>cbv
    refine callP hE (l21One_ _ _ _ _ _ _ _ _ _ _ _ _ _ _ _ _ _ _ hg hx) (λh1=>?_) (λh1=>?_)<;>conv=>cbv
    · refine ltI hE (λh2=>?_) (λh2=>?_)<;>conv=>cbv
      · refine sub64 hE (by omega) λk hk=>?_
        conv=>cbv
        refine idxNtc hE hl (by omega) (λc0 c1 c2 c3 c4 c5 c6 c7 c8 c9 d0 d1 d2 d3 d4 d5 d6 d7 d8 d9 rg' rx' hw hg' hx'=>?_)
        conv=>cbv
        repeat' first
          |(refine hN _ _ [] (by decide) rfl ⟨?_,?_⟩ ?_<;>(try dsimp only))
          |((first
         |(refine sub64 hE (by omega) (λk2 hk2=>?_);(have hk3:k=k2:=by omega);subst hk3)
         |refine idxNtcV hE hl (by omega) hw hg' hx' ?_
         |(refine subL (R:=Ntc.cs b) hE hl (by simp only [Option.getD_some,Option.getD_none];omega) (λrs2 hrs2=>?_);(have hrs3:rs2=(l.take i.toNat).map (Ntc.cs b):=by rw [hrs2];simp))
         |refine q0 hE ?_
         |refine callP hE (l21Cancels_ _ _ _ _ _ _ _ _ _ _ _ _ _ _ _ _ _ _ hg hx hrs3 (ntc_take hinv)) (λ_=>?_) (λ_=>?_)
         |refine B0 hE ?_|refine B1 hE ?_ ?_|refine B2 hE ?_)<;>intros<;>(try conv=>cbv))
        all_goals (try clear hN)
        all_goals first
          |omega
          | (refine finB hK (bP_false.2 λh=>?_)
             obtain ⟨v',e1,e2,e3,e4⟩:=h.1 i.toNat (by omega)
             rw [hv] at e1;cases e1
             obtain ⟨w',g1,g2⟩:=e3 (by omega)
             rw [show i.toNat - 1=k.toNat by omega,hw] at g1;cases g1
             simp only at g2 e4
             first
              |omega
              |exact absurd e4 (by assumption))
          |exact hinv.succ ⟨_,hv,h1,λ_=>⟨_,by rw [show i.toNat - 1=k.toNat by omega];exact hw,by simp only;omega⟩,by assumption⟩ (by assumption)
      · skip
        repeat' first
          |(refine hN _ _ [] (by decide) rfl ⟨?_,?_⟩ ?_<;>(try dsimp only))
          |((first
         |(refine subL (R:=Ntc.cs b) hE hl (by simp only [Option.getD_some,Option.getD_none];omega) (λrs2 hrs2=>?_);(have hrs3:rs2=(l.take i.toNat).map (Ntc.cs b):=by rw [hrs2];simp))
         |refine q0 hE ?_
         |refine callP hE (l21Cancels_ _ _ _ _ _ _ _ _ _ _ _ _ _ _ _ _ _ _ hg hx hrs3 (ntc_take hinv)) (λ_=>?_) (λ_=>?_)
         |refine B0 hE ?_|refine B1 hE ?_ ?_|refine B2 hE ?_)<;>intros<;>(try conv=>cbv))
        all_goals (try clear hN)
        all_goals first
          |omega
          | (refine finB hK (bP_false.2 λh=>?_)
             obtain ⟨v',e1,e2,e3,e4⟩:=h.1 i.toNat (by omega)
             rw [hv] at e1;cases e1
             simp only at e4
             exact absurd e4 (by assumption))
          |exact hinv.succ ⟨_,hv,h1,λ_=>by omega,by assumption⟩ (by assumption)
    · refine finB hK (bP_false.2 λh=>?_)
      obtain ⟨v',e1,e2,e3⟩:=h.1 i.toNat (by omega)
      rw [hv] at e1;cases e1
      exact h1 e2
  · skip
    repeat' first
      |((first
     |refine q0 hE ?_
     |refine B0 hE ?_|refine B1 hE ?_ ?_|refine B2 hE ?_)<;>intros<;>(try conv=>cbv))
    all_goals first
      |exact finB hK (bP_true.2 ⟨hinv.all (by omega),by omega⟩)
      |(refine finB hK (bP_false.2 λh=>?_);have:=h.2;omega)
end Go.Proofs.YtpfddoikhmbebaaGreatDoor
