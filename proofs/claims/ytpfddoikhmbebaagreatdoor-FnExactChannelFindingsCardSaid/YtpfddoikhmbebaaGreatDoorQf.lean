/- Contracts: logarithms, ranges; Contracts: valid aids; Contracts: aids that are seen; Contracts: lists of aids; those that an observer sees. -/
import Derived.Test.YtpfddoikhmbebaaGreatDoorFC
import Derived.Test.YtpfddoikhmbebaaGreatDoorGmk
import Derived.Test.YtpfddoikhmbebaaGreatDoorQk
import Derived.Test.YtpfddoikhmbebaaGreatDoorFA
namespace Go.Proofs.YtpfddoikhmbebaaGreatDoor
open Go Go.RowKit Classical
set_option maxRecDepth 100000
set_option maxHeartbeats 2000000
set_option linter.unusedVariables false
set_option linter.unusedSimpArgs false
theorem isIntensity_ (n:Int):AC Tryz.prog 301 [.int .i64 n] AV.bool (bP (1<=n/\n<=100000000)):=by
  refine ac Tryz.func301 (.bool _) λE K hE hK=>?_
  conv=>cbv
  repeat' first
    |((first
   |refine q0 hE ?_
   |refine callP hE (within_ _ _ _) (λ_=>?_) (λ_=>?_)
   |refine B0 hE ?_|refine B1 hE ?_ ?_|refine B2 hE ?_)<;>intros<;>(try conv=>cbv))
  all_goals (try clear hN)
  all_goals first
    |(omega)
    |(refine finB hK (bP_true.2 ?_);first|omega|grind)
    |(refine finB hK (bP_false.2 ?_);first|omega|(intro h;grind))
    |(refine ⟨by omega,Up.succ (by assumption) ?_ (by assumption)⟩;grind)
    |(refine hK _ ?_;simp_all [atup];done)
    |(grind)
theorem same0I_ {rs rs':List (List AV)} {t t':Bool} {l m:List Int} (hl:rs=l.map intR) (hm:rs'=m.map intR):AC Tryz.prog 345 [.sl t 1 rs,.sl t' 1 rs'] AV.bool (bP (l=m)):=by
  refine ac Tryz.func345 (.bool _) λE K hE hK=>?_
  conv=>cbv
  refine lenL hE hl λn hn hb=>?_
  conv=>cbv
  refine lenL hE hm λn' hn' hb'=>?_
  conv=>cbv
  refine eqI hE (λhe=>?_) (λhe=>?_)<;>conv=>cbv
  · skip
    repeat' first
      |((refine loop1 hE [0,1,12] [13] (λ(i:Int)=>([(13,.int .i64 i)],[],l.length - i,0<=i/\Up (λj=>l[j]? =m[j]?) i)) [] (0) rfl rfl (by dsimp only;exact ⟨by omega,.zero (by omega)⟩) λi hi2 Kn2 hN2=>?_;(try dsimp only at hi2);conv=>cbv);obtain ⟨h0,hinv⟩:=hi2)
      |(refine hN2 _ _ [] (by decide) rfl ⟨?_,?_⟩ ?_<;>(try dsimp only))
      |((first
     |refine q0 hE ?_
     |refine idxL (R:=intR) hE (by assumption) (by omega) (λ_ _=>?_)
     |refine B0 hE ?_|refine B1 hE ?_ ?_|refine B2 hE ?_)<;>intros<;>(try conv=>cbv))
    all_goals first
      |omega
      |(refine hinv.succ ?_ (by assumption);clear hN2;simp_all [pairsP];done)
      |(refine finB hK (bP_false.2 λh=>?_);clear hN2;simp_all [pairsP];done)
      |exact finB hK (bP_true.2 (list_eq_of (by omega) hinv (by omega)))
  · refine finB hK (bP_false.2 λh=>?_);subst h;omega
theorem sameZero_ (k p:Int) (le co:ByteArray) {rs:List (List AV)} {t:Bool} {l:List Int} (hl:rs=l.map intR):AC Tryz.prog 304 [.agg [.int .i64 k,.sl t 1 rs,.str le,.str co,.int .i64 p],.agg [.int .i64 0,.nils,.str ⟨#[]⟩,.str ⟨#[]⟩,.int .i64 0]] AV.bool (bP (k=0/\l=[]/\le=noS/\co=noS/\p=0)):=by
  refine ac Tryz.func304 (.bool _) λE K hE hK=>?_
  conv=>cbv
  repeat' first
    |((first
   |refine q0 hE ?_
   |refine callP hE (AC.nil1 (same0I_ (m:=[]) (t':=true) hl rfl)) (λ_=>?_) (λ_=>?_)
   |refine B0 hE ?_|refine B1 hE ?_ ?_|refine B2 hE ?_)<;>intros<;>(try conv=>cbv))
  all_goals first
    |(refine finB hK (bP_true.2 ⟨by assumption,by assumption,by assumption,by assumption,by assumption⟩))
    |(refine finB hK (bP_false.2 λ⟨h1,h2,h3,h4,h5⟩=>?_);contradiction)
theorem lit_ (number atX atY height mKind lKind lPeriod intensity:Int) (name mColors mShape mTop lLetter lColors:ByteArray) {rg rx:List (List AV)} {t t':Bool} {g:List Int} {l:List Scr} (hg:rg=g.map intR) (hl:rx=l.map Scr.cs):AC Tryz.prog 256 [.agg [.int .i64 number,.str name,.int .i64 atX,.int .i64 atY,.int .i64 height,.int .i64 mKind,.str mColors,.str mShape,.str mTop,.int .i64 lKind,.sl t 1 rg,.str lLetter,.str lColors,.int .i64 lPeriod,.sl t' 3 rx,.int .i64 intensity]] AV.bool (bP (LitOk lKind g lLetter lColors lPeriod l intensity)):=by
  refine ac Tryz.func256 (.bool _) λE K hE hK=>?_
  conv=>cbv
  repeat' first
    |((first
   |refine callP hE (validCharacter_ _ _ _ _ hg) (λh1=>?_) (λh1=>?_)
   |refine callP hE (isIntensity_ _) (λh2=>?_) (λh2=>?_)
   |refine callP hE (validSectors_ hl) (λh3=>?_) (λh3=>?_)
   |refine callI hE (colorsOf_ hl) (λcc hcc=>?_)
   |refine lenL hE hl (λn hn hb=>?_)
   |refine q0 hE ?_
   |refine B0 hE ?_|refine B1 hE ?_ ?_|refine B2 hE ?_)<;>intros<;>(try conv=>cbv))
  all_goals first
    |(refine finB hK (bP_false.2 λh=>?_);first|exact h1 h.1|exact h2 h.2.1|exact h3 h.2.2.1)
    | (have hz:l=[]:=List.eq_nil_of_length_eq_zero (by omega);first
        |(refine finB hK (bP_true.2 ⟨h1,h2,h3,λ_=>by omega,λh=>absurd hz h⟩))
        |(refine finB hK (bP_false.2 λh=>?_);have:=h.2.2.2.1 hz;omega))
    | (have hz:l≠[]:=by (rintro rfl;simp at hn;omega)
       first
        |(refine finB hK (bP_true.2 ⟨h1,h2,h3,λh=>absurd h hz,λ_=>?_⟩);rw [←hcc];assumption)
        |(refine finB hK (bP_false.2 λh=>?_);have h5:=h.2.2.2.2 hz;rw [←hcc] at h5;contradiction))
theorem unlit_ (number atX atY height mKind lKind lPeriod intensity:Int) (name mColors mShape mTop lLetter lColors:ByteArray) {rg rx:List (List AV)} {t t':Bool} {g:List Int} {l:List Scr} (hg:rg=g.map intR) (hl:rx=l.map Scr.cs):AC Tryz.prog 257 [.agg [.int .i64 number,.str name,.int .i64 atX,.int .i64 atY,.int .i64 height,.int .i64 mKind,.str mColors,.str mShape,.str mTop,.int .i64 lKind,.sl t 1 rg,.str lLetter,.str lColors,.int .i64 lPeriod,.sl t' 3 rx,.int .i64 intensity]] AV.bool (bP (UnlitOk lKind g lLetter lColors lPeriod l intensity)):=by
  refine ac Tryz.func257 (.bool _) λE K hE hK=>?_
  conv=>cbv
  repeat' first
    |((first
   |refine callP hE (sameZero_ _ _ _ _ hg) (λh1=>?_) (λh1=>?_)
   |refine lenL hE hl (λn hn hb=>?_)
   |refine q0 hE ?_
   |refine B0 hE ?_|refine B1 hE ?_ ?_|refine B2 hE ?_)<;>intros<;>(try conv=>cbv))
  all_goals first
    |(refine finB hK (bP_true.2 ⟨h1,List.eq_nil_of_length_eq_zero (by omega),by assumption⟩))
    |(refine finB hK (bP_false.2 λh=>?_);first|exact h1 h.1|(have:=h.2.1;subst this;simp at hn;omega)|(have:=h.2.2;contradiction))
set_option maxHeartbeats 4000000
theorem validAid_ (number atX atY height mKind lKind lPeriod intensity:Int) (name mColors mShape mTop lLetter lColors:ByteArray) {rg rx:List (List AV)} {t t':Bool} {g:List Int} {l:List Scr} (hg:rg=g.map intR) (hl:rx=l.map Scr.cs):AC Tryz.prog 198 [.agg [.int .i64 number,.str name,.int .i64 atX,.int .i64 atY,.int .i64 height,.int .i64 mKind,.str mColors,.str mShape,.str mTop,.int .i64 lKind,.sl t 1 rg,.str lLetter,.str lColors,.int .i64 lPeriod,.sl t' 3 rx,.int .i64 intensity]] AV.bool (bP (Aid.ok ⟨number,name,atX,atY,height,mKind,mColors,mShape,mTop,lKind,g,lLetter,lColors,lPeriod,l,intensity⟩)):=by
  refine ac Tryz.func198 (.bool _) λE K hE hK=>?_
  conv=>cbv
  repeat' first
    |((first
   |refine callP hE (isNumber_ _) (λh1=>?_) (λh1=>?_)
   |refine callP hE (isName_ _) (λh2=>?_) (λh2=>?_)
   |refine callP hE (validPoint_ _ _) (λh3=>?_) (λh3=>?_)
   |refine callP hE (isHeight_ _) (λh4=>?_) (λh4=>?_)
   |refine callP hE (validMark_ _ _ _ _) (λh5=>?_) (λh5=>?_)
   |refine callP hE (lit_ _ _ _ _ _ _ _ _ _ _ _ _ _ _ hg hl) (λh6=>?_) (λh6=>?_)
   |refine callP hE (unlit_ _ _ _ _ _ _ _ _ _ _ _ _ _ _ hg hl) (λh7=>?_) (λh7=>?_)
   |refine q0 hE ?_
   |refine B0 hE ?_|refine B1 hE ?_ ?_|refine B2 hE ?_)<;>intros<;>(try conv=>cbv))
  all_goals first
    |exact finB hK (bP_true.2 ⟨h1,h2,h3,h4,h5,.inl h6⟩)
    |exact finB hK (bP_true.2 ⟨h1,h2,h3,h4,h5,.inr h7⟩)
    |exact finB hK (bP_false.2 λh=>h1 h.1)
    |exact finB hK (bP_false.2 λh=>h2 h.2.1)
    |exact finB hK (bP_false.2 λh=>h3 h.2.2.1)
    |exact finB hK (bP_false.2 λh=>h4 h.2.2.2.1)
    |exact finB hK (bP_false.2 λh=>h5 h.2.2.2.2.1)
    |exact finB hK (bP_false.2 λh=>h.2.2.2.2.2.elim h6 h7)
theorem l12Plain_ (k p:Int) (le co:ByteArray) {rs:List (List AV)} {t:Bool} {l:List Int} (hl:rs=l.map intR):AC Tryz.prog 212 [.pp [.int .i64 k,.sl t 1 rs,.str le,.str co,.int .i64 p]] AV.bool (bP (k=0/\l=[]/\le=noS/\co=noS/\p=0)):=by
  refine ac Tryz.func212 (.bool _) λE K hE hK=>?_
  conv=>cbv
  repeat' first
    |((first
   |(refine lenL hE hl (λn hn hb=>?_);(have hnl:=nil_len hn))
   |refine q0 hE ?_
   |refine B0 hE ?_|refine B1 hE ?_ ?_|refine B2 hE ?_)<;>intros<;>(try conv=>cbv))
  all_goals first
    |(refine finB hK (bP_true.2 ⟨by assumption,hnl.1 (by assumption),by assumption,by assumption,by assumption⟩))
    |(refine finB hK (bP_false.2 λ⟨h1,h2,h3,h4,h5⟩=>?_);first|contradiction|(have:=hnl.2 h2;contradiction))
set_option maxHeartbeats 8000000
theorem l12One_ (number atX atY height mKind lKind lPeriod intensity:Int) (name mColors mShape mTop lLetter lColors:ByteArray) {rg rx:List (List AV)} {t t':Bool} {g:List Int} {l:List Scr} (hg:rg=g.map intR) (hl:rx=l.map Scr.cs):AC Tryz.prog 152 [.pp [.int .i64 number,.str name,.int .i64 atX,.int .i64 atY,.int .i64 height,.int .i64 mKind,.str mColors,.str mShape,.str mTop,.int .i64 lKind,.sl t 1 rg,.str lLetter,.str lColors,.int .i64 lPeriod,.sl t' 3 rx,.int .i64 intensity]] AV.bool (bP (Aid.ok ⟨number,name,atX,atY,height,mKind,mColors,mShape,mTop,lKind,g,lLetter,lColors,lPeriod,l,intensity⟩)):=by
  refine ac Tryz.func152 (.bool _) λE K hE hK=>?_
  conv=>cbv
  refine callP hE (in_ _ _ _) (λh1=>?_) (λh1=>?_)<;>conv=>cbv
  · skip
    repeat' first
      |((first
     |refine callP hE (l01Name_ _) (λh2=>?_) (λh2=>?_)
     |refine callP hE (l02Ok_ _ _) (λh3=>?_) (λh3=>?_)
     |refine callP hE (in_ height _ _) (λh4=>?_) (λh4=>?_)
     |refine callP hE (sValidMark_ _ _ _ _) (λh5=>?_) (λh5=>?_)
     |refine callP hE (AC.tl1 (l12Plain_ _ _ _ _ hg)) (λh6=>?_) (λh6=>?_)
     |refine callP hE (AC.tl1 (l05Ok_ _ _ _ _ hg)) (λh7=>?_) (λh7=>?_)
     |refine callP hE (in_ intensity _ _) (λh8=>?_) (λh8=>?_)
     |refine callP hE (l08Ok_ hl) (λh9=>?_) (λh9=>?_)
     |refine callI hE (l08Colors_ hl) (λcc hcc=>?_)
     |refine lenL hE hl (λn hn hb=>?_)
     |refine q0 hE ?_
     |refine B0 hE ?_|refine B1 hE ?_ ?_|refine B2 hE ?_)<;>intros<;>(try conv=>cbv))
    all_goals first
      |exact finB hK (bP_false.2 λh=>h2 h.2.1)
      |exact finB hK (bP_false.2 λh=>h3 h.2.2.1)
      |exact finB hK (bP_false.2 λh=>h4 h.2.2.2.1)
      |exact finB hK (bP_false.2 λh=>h5 h.2.2.2.2.1)
      | (have hnl:¬LitOk lKind g lLetter lColors lPeriod l intensity:=(λh=>by have:=h.kind;omega);first
          |(have hu:UnlitOk lKind g lLetter lColors lPeriod l intensity:=⟨h6,List.eq_nil_of_length_eq_zero (by omega),by assumption⟩;exact finB hK (bP_true.2 ⟨h1,h2,h3,h4,h5,.inr hu⟩))
          |(refine finB hK (bP_false.2 λh=>?_);rcases h.2.2.2.2.2 with h'|h';exact hnl h';first|(have:=h'.2.1;simp only at this;subst this;simp at hn;omega)|(have:=h'.2.2;contradiction)))
      | (have hnu:¬UnlitOk lKind g lLetter lColors lPeriod l intensity:=λh=>h6 h.1
         first
          |(refine finB hK (bP_false.2 λh=>?_);rcases h.2.2.2.2.2 with h'|h';(first|exact h7 h'.1|exact h8 h'.2.1|exact h9 h'.2.2.1);exact hnu h')
          | (have hz:l=[]:=List.eq_nil_of_length_eq_zero (by omega);first
              |(have hu:LitOk lKind g lLetter lColors lPeriod l intensity:=⟨h7,h8,h9,λ_=>(by omega),λh=>absurd hz h⟩;exact finB hK (bP_true.2 ⟨h1,h2,h3,h4,h5,.inl hu⟩))
              |(refine finB hK (bP_false.2 λh=>?_);rcases h.2.2.2.2.2 with h'|h';(have:=h'.2.2.2.1 hz;simp only at this;omega);exact hnu h'))
          | (have hz:l≠[]:=by (rintro rfl;simp at hn;omega)
             first
              |(have hu:LitOk lKind g lLetter lColors lPeriod l intensity:=⟨h7,h8,h9,λh=>absurd h hz,λ_=>(by rw [←hcc];assumption)⟩;exact finB hK (bP_true.2 ⟨h1,h2,h3,h4,h5,.inl hu⟩))
              |(refine finB hK (bP_false.2 λh=>?_);rcases h.2.2.2.2.2 with h'|h';(have h5:=h'.2.2.2.2 hz;simp only at h5;rw [←hcc] at h5;contradiction);exact hnu h')))
  · exact finB hK (bP_false.2 λh=>h1 h.1)
set_option maxHeartbeats 2000000
set_option maxHeartbeats 4000000
set_option maxHeartbeats 2000000
noncomputable def selI {α:Type} (p:α->Prop) (l:List α) (i:Int):List α:=(l.take i.toNat).filter λv=>bP (p v)
theorem selI_zero {α:Type} {p:α->Prop} {l:List α} {i:Int} (h:i<=0):selI p l i=[]:=by
  unfold selI;rw [show i.toNat=0 by omega];simp
theorem selI_step {α:Type} (p:α->Prop) {l:List α} {i n:Int} {v:α} (h0:0<=i) (hv:l[i.toNat]? =some v) (hn:n=i+1):(p v->selI p l n=selI p l i++[v])/\(¬p v->selI p l n=selI p l i):=by
  unfold selI
  rw [show n.toNat=i.toNat+1 by omega,List.take_add_one,hv,List.filter_append]
  constructor
  · intro h;simp [bP_true.2 h]
  · intro h;simp [bP_false.2 h]
theorem selI_all {α:Type} {p:α->Prop} {l:List α} {i:Int} (h:l.length<=i):selI p l i=l.filter λv=>bP (p v):=by
  unfold selI;rw [List.take_of_length_le (by omega)]
theorem selI_len {α:Type} (p:α->Prop) (l:List α) (i:Int):(selI p l i).length<=l.length:=
  Nat.le_trans (List.length_filter_le _ _) (by rw [List.length_take];omega)
theorem AidsOk.all {l:List Aid} (h:AidsOk l):∀v∈l,v.ok:=λv hv=>h.mem hv
set_option maxHeartbeats 4000000
theorem validAids_ {rs:List (List AV)} {t b:Bool} {l:List Aid} (hl:rs=l.map (Aid.cs b)):AC Tryz.prog 131 [.sl t 16 rs] AV.bool (bP (AidsOk l)):=by
  refine ac Tryz.func131 (.bool _) λE K hE hK=>?_
  conv=>cbv
  refine lenL hE hl λn hn hb=>?_
  conv=>cbv
  refine loop1 hE [0,5,6] [7] (λ(i:Int)=>([(7,.int .i64 i)],[],l.length - i,0<=i/\Up (Aid.C l) i)) [] (0) rfl rfl (by dsimp only;exact ⟨by omega,.zero (by omega)⟩) λi hi Kn hN=>?_
  (try dsimp only at hi)
  conv=>cbv
  obtain ⟨h0,hinv⟩:=hi
  refine ltI hE (λhlt=>?_) (λhge=>?_)<;>conv=>cbv
  · refine idxAid hE hl (by omega) (λnumber name atX atY height mKind mColors mShape mTop lKind lGroup lLetter lColors lPeriod sectors intensity rg rx hv hg hx=>?_)
    conv=>cbv
    refine callP hE (validAid_ _ _ _ _ _ _ _ _ _ _ _ _ _ _ hg hx) (λh1=>?_) (λh1=>?_)<;>conv=>cbv
    · refine ltI hE (λh2=>?_) (λh2=>?_)<;>conv=>cbv
      · refine sub64 hE (by omega) λk hk=>?_
        conv=>cbv
        refine idxAid hE hl (by omega) (λnumber' name' atX' atY' height' mKind' mColors' mShape' mTop' lKind' lGroup' lLetter' lColors' lPeriod' sectors' intensity' rg' rx' hw hg' hx'=>?_)
        conv=>cbv
        have hk2:i.toNat - 1=k.toNat:=by omega
        repeat' first
          |(refine hN _ _ [] (by decide) rfl ⟨?_,?_⟩ ?_<;>(try dsimp only))
          |((first
         |refine q0 hE ?_
         |refine B0 hE ?_|refine B1 hE ?_ ?_|refine B2 hE ?_)<;>intros<;>(try conv=>cbv))
        all_goals (try clear hN)
        all_goals first
          |omega
          | (refine finB hK (bP_false.2 λh=>?_)
             obtain ⟨v',e1,e2,e3⟩:=h.1 i.toNat (by omega)
             rw [hv] at e1;cases e1
             obtain ⟨w',g1,g2⟩:=e3 (by omega)
             rw [hk2,hw] at g1;cases g1
             simp only at g2;omega)
          |exact hinv.succ ⟨_,hv,h1,λ_=>⟨_,by rw [hk2];exact hw,by simp only;omega⟩⟩ (by assumption)
      · skip
        repeat' first
          |(refine hN _ _ [] (by decide) rfl ⟨?_,?_⟩ ?_<;>(try dsimp only))
          |((first
         |refine q0 hE ?_
         |refine B0 hE ?_|refine B1 hE ?_ ?_|refine B2 hE ?_)<;>intros<;>(try conv=>cbv))
        all_goals (try clear hN)
        all_goals first
          |omega
          |exact hinv.succ ⟨_,hv,h1,λ_=>by omega⟩ (by assumption)
    · refine finB hK (bP_false.2 λh=>?_)
      obtain ⟨v',e1,e2,e3⟩:=h.1 i.toNat (by omega)
      rw [hv] at e1;cases e1
      exact h1 e2
  · skip
    repeat' first
      |((first
     |refine q0 hE ?_
     |refine callP hE (few_ _ _) (λ_=>?_) (λ_=>?_)
     |refine B0 hE ?_|refine B1 hE ?_ ?_|refine B2 hE ?_)<;>intros<;>(try conv=>cbv))
    all_goals first
      |exact finB hK (bP_true.2 ⟨hinv.all (by omega),by omega⟩)
      |(refine finB hK (bP_false.2 λh=>?_);have:=h.2;omega)
theorem l12Ok_ {rs:List (List AV)} {t b:Bool} {l:List Aid} (hl:rs=l.map (Aid.cs b)):AC Tryz.prog 90 [.sl t 16 rs] AV.bool (bP (AidsOk l)):=by
  refine ac Tryz.func90 (.bool _) λE K hE hK=>?_
  conv=>cbv
  refine loop1 hE [0] [3] (λ(i:Int)=>([(3,.int .i64 i)],[],l.length - i,0<=i/\Up (Aid.C l) i)) [] (0) rfl rfl (by dsimp only;exact ⟨by omega,.zero (by omega)⟩) λi hi Kn hN=>?_
  (try dsimp only at hi)
  conv=>cbv
  obtain ⟨h0,hinv⟩:=hi
  refine lenL hE hl λn hn hb=>?_
  conv=>cbv
  refine ltI hE (λhlt=>?_) (λhge=>?_)<;>conv=>cbv
  · refine idxAid hE hl (by omega) (λnumber name atX atY height mKind mColors mShape mTop lKind lGroup lLetter lColors lPeriod sectors intensity rg rx hv hg hx=>?_)
    conv=>cbv
    refine callP hE (l12One_ _ _ _ _ _ _ _ _ _ _ _ _ _ _ hg hx) (λh1=>?_) (λh1=>?_)<;>conv=>cbv
    · refine ltI hE (λh2=>?_) (λh2=>?_)<;>conv=>cbv
      · refine sub64 hE (by omega) λk hk=>?_
        conv=>cbv
        refine idxAid hE hl (by omega) (λnumber' name' atX' atY' height' mKind' mColors' mShape' mTop' lKind' lGroup' lLetter' lColors' lPeriod' sectors' intensity' rg' rx' hw hg' hx'=>?_)
        conv=>cbv
        have hk2:i.toNat - 1=k.toNat:=by omega
        repeat' first
          |(refine hN _ _ [] (by decide) rfl ⟨?_,?_⟩ ?_<;>(try dsimp only))
          |((first
         |refine idxAidV hE hl (by omega) hv hg hx ?_
         |refine q0 hE ?_
         |refine B0 hE ?_|refine B1 hE ?_ ?_|refine B2 hE ?_)<;>intros<;>(try conv=>cbv))
        all_goals (try clear hN)
        all_goals first
          |omega
          | (refine finB hK (bP_false.2 λh=>?_)
             obtain ⟨v',e1,e2,e3⟩:=h.1 i.toNat (by omega)
             rw [hv] at e1;cases e1
             obtain ⟨w',g1,g2⟩:=e3 (by omega)
             rw [hk2,hw] at g1;cases g1
             simp only at g2;omega)
          |exact hinv.succ ⟨_,hv,h1,λ_=>⟨_,by rw [hk2];exact hw,by simp only;omega⟩⟩ (by assumption)
      · skip
        repeat' first
          |(refine hN _ _ [] (by decide) rfl ⟨?_,?_⟩ ?_<;>(try dsimp only))
          |((first
         |refine q0 hE ?_
         |refine B0 hE ?_|refine B1 hE ?_ ?_|refine B2 hE ?_)<;>intros<;>(try conv=>cbv))
        all_goals (try clear hN)
        all_goals first
          |omega
          |exact hinv.succ ⟨_,hv,h1,λ_=>by omega⟩ (by assumption)
    · refine finB hK (bP_false.2 λh=>?_)
      obtain ⟨v',e1,e2,e3⟩:=h.1 i.toNat (by omega)
      rw [hv] at e1;cases e1
      exact h1 e2
  · skip
    repeat' first
      |((first
     |refine q0 hE ?_
     |refine B0 hE ?_|refine B1 hE ?_ ?_|refine B2 hE ?_)<;>intros<;>(try conv=>cbv))
    all_goals first
      |exact finB hK (bP_true.2 ⟨hinv.all (by omega),by omega⟩)
      |(refine finB hK (bP_false.2 λh=>?_);have:=h.2;omega)
end Go.Proofs.YtpfddoikhmbebaaGreatDoor
