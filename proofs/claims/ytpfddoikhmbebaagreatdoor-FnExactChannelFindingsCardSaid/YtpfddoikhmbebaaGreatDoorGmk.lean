/- Contracts: marks. -/
import Derived.Test.YtpfddoikhmbebaaGreatDoorFC
import Derived.Test.YtpfddoikhmbebaaGreatDoorQi
namespace Go.Proofs.YtpfddoikhmbebaaGreatDoor
open Go Go.RowKit Classical
set_option maxRecDepth 100000
set_option maxHeartbeats 2000000
set_option linter.unusedVariables false
set_option linter.unusedSimpArgs false
theorem isMarkKind_ (n:Int):AC Tryz.prog 200 [.int .i64 n] AV.bool (bP (1<=n/\n<=9)):=by
  refine ac Tryz.func200 (.bool _) λE K hE hK=>?_
  conv=>cbv
  repeat' first
    |((first
   |refine q0 hE ?_
   |refine callP hE (within_ _ _ _) (λ_=>?_) (λ_=>?_)
   |refine B0 hE ?_|refine B1 hE ?_ ?_|refine B2 hE ?_)<;>intros<;>(try conv=>cbv))
  all_goals (try clear hN)
  all_goals first
    |(omega)
    |(refine finB hK (bP_true.2 ?_);first|omega|grind)
    |(refine finB hK (bP_false.2 ?_);first|omega|(intro h;grind))
    |(refine ⟨by omega,Up.succ (by assumption) ?_ (by assumption)⟩;grind)
    |(refine hK _ ?_;simp_all [atup];done)
    |(grind)
theorem l11Kind_ (n:Int):AC Tryz.prog 226 [.int .i64 n] AV.bool (bP (1<=n/\n<=9)):=by
  refine ac Tryz.func226 (.bool _) λE K hE hK=>?_
  conv=>cbv
  repeat' first
    |((first
   |refine q0 hE ?_
   |refine callP hE (in_ _ _ _) (λ_=>?_) (λ_=>?_)
   |refine B0 hE ?_|refine B1 hE ?_ ?_|refine B2 hE ?_)<;>intros<;>(try conv=>cbv))
  all_goals (try clear hN)
  all_goals first
    |(omega)
    |(refine finB hK (bP_true.2 ?_);first|omega|grind)
    |(refine finB hK (bP_false.2 ?_);first|omega|(intro h;grind))
    |(refine ⟨by omega,Up.succ (by assumption) ?_ (by assumption)⟩;grind)
    |(refine hK _ ?_;simp_all [atup];done)
    |(grind)
theorem markColors_ (k:Int):AC Tryz.prog 296 [.int .i64 k] AV.str (pickS k mcols):=by
  refine ac Tryz.func296 (.str _) λE K hE hK=>?_
  conv=>cbv
  repeat' first
    |((first
   |refine q0 hE ?_
   |refine callI hE (npick_ (es:=mcols) k (by rfl)) (λ_ _=>?_)
   |refine B0 hE ?_|refine B1 hE ?_ ?_|refine B2 hE ?_)<;>intros<;>(try conv=>cbv))
  exact hK _ (by simp_all [atup])
theorem markTop_ (k:Int):AC Tryz.prog 299 [.int .i64 k] AV.str (pickS k mtops):=by
  refine ac Tryz.func299 (.str _) λE K hE hK=>?_
  conv=>cbv
  repeat' first
    |((first
   |refine q0 hE ?_
   |refine callI hE (npick_ (es:=mtops) k (by rfl)) (λ_ _=>?_)
   |refine B0 hE ?_|refine B1 hE ?_ ?_|refine B2 hE ?_)<;>intros<;>(try conv=>cbv))
  exact hK _ (by simp_all [atup])
theorem indexStr_ {rs:List (List AV)} {t:Bool} {l:List ByteArray} (v:ByteArray) (hl:rs=l.map strR):AC Tryz.prog 335 [.sl t 1 rs,.str v] (AV.int .i64) (firstI (λx=>x=v) l):=by
  refine ac Tryz.func335 (.int _ _) λE K hE hK=>?_
  conv=>cbv
  refine lenL hE hl λn hn hb=>?_
  conv=>cbv
  refine loop1 hE [0,1,7] [8] (λ(i:Int)=>([(8,.int .i64 i)],[],n - i,0<=i/\Up (λj=>∀x,l[j]? =some x->¬x=v) i)) [] (0) rfl rfl (by dsimp only;exact ⟨by omega,.zero (by omega)⟩) λi hi Kn hN=>?_
  (try dsimp only at hi)
  conv=>cbv
  obtain ⟨h0,hinv⟩:=hi
  repeat' first
    |(refine hN _ _ [] (by decide) rfl ⟨?_,?_⟩ ?_<;>(try dsimp only))
    |((first
   |refine idxL (R:=strR) hE hl (by omega) (λx hx=>?_)
   |refine seqI hE (λhe=>?_) (λhe=>?_)
   |refine q0 hE ?_
   |refine B0 hE ?_|refine B1 hE ?_ ?_|refine B2 hE ?_)<;>intros<;>(try conv=>cbv))
  all_goals (try clear hN)
  all_goals first
    |omega
    |(refine hK _ ?_;rw [firstI_in (p:=λx=>x=v) h0 hx he.symm hinv];rfl)
    |(refine hinv.succ (λy hy=>?_) (by assumption);rw [hx] at hy;cases hy;exact λh=>he h.symm)
    |(refine hK _ ?_;rw [firstI_out (by omega) hinv];rfl)
theorem containsStr_ {rs:List (List AV)} {t:Bool} {l:List ByteArray} (v:ByteArray) (hl:rs=l.map strR):AC Tryz.prog 297 [.sl t 1 rs,.str v] AV.bool (bP (v∈l)):=by
  refine ac Tryz.func297 (.bool _) λE K hE hK=>?_
  conv=>cbv
  refine callI hE (indexStr_ v hl) λy hy=>?_
  have hf:=firstI_spec (λx=>x=v) l
  rw [←hy] at hf
  conv=>cbv
  repeat' first
    |((first
   |refine q0 hE ?_
   |refine B0 hE ?_|refine B1 hE ?_ ?_|refine B2 hE ?_)<;>intros<;>(try conv=>cbv))
  · refine finB hK (bP_true.2 ?_)
    rcases hf with ⟨_,_,⟨w,hw,rfl⟩,_⟩|⟨h,_⟩
    · exact List.mem_of_getElem? hw
    · omega
  · refine finB hK (bP_false.2 λh=>?_)
    rcases hf with ⟨_,_,_,_⟩|⟨_,h'⟩
    · omega
    · obtain ⟨j,hj⟩:=List.getElem?_of_mem h
      exact h' j _ hj rfl
theorem markShapes_ (k:Int) (h:1<=k/\k<=9):AC Tryz.prog 298 [.int .i64 k] (λl:List ByteArray=> .sl true 1 (l.map strR)) (mshapes k):=by
  refine ac Tryz.func298 (.strs _) λE K hE hK=>?_
  conv=>cbv
  have hm:=mtexts_ok h
  have hf:=shapes_fields h
  refine callI hE (npick_ (es:=mtexts) k (by rfl)) λy hy=>?_
  rw [←hy] at hm hf
  conv=>cbv
  refine callR hE (fields_ y hm.1 (λj b hb=>hm.2.1 b (List.mem_of_getElem? hb)) (by rw [hf];unfold maxLen;omega) (λx hx=>by have:=hm.2.2.2 x (by rw [←hf];exact hx);unfold maxLen;omega)) λrs hrs=>?_
  rw [hf] at hrs
  conv=>cbv
  exact hK _ (by rw [hrs];rfl)
theorem validMark_ (k:Int) (c s t:ByteArray):AC Tryz.prog 255 [.agg [.int .i64 k,.str c,.str s,.str t]] AV.bool (bP (MarkOk k c s t)):=by
  refine ac Tryz.func255 (.bool _) λE K hE hK=>?_
  conv=>cbv
  refine aeqI hE (λhe=>?_) (λhe=>?_)<;>conv=>cbv
  · obtain ⟨e1,e2,e3,e4,_⟩:=he
    exact finB hK (bP_true.2 (.inl ⟨e1,e2,e3,e4⟩))
  · have hnz:¬(k=0/\c=noS/\s=noS/\t=noS):=λ⟨a,b,c,d⟩=>he ⟨a,b,c,d,trivial⟩
    refine callP hE (isMarkKind_ k) (λhk=>?_) (λhk=>?_)<;>conv=>cbv
    · skip
      repeat' first
        |((first
       |(refine callI hE (markColors_ k) (λcc hcc=>?_);(try conv=>cbv);refine seqI hE (λhc=>?_) (λhc=>?_))
       |(refine callI hE (markTop_ k) (λtt htt=>?_);(try conv=>cbv);refine seqI hE (λht=>?_) (λht=>?_))
       |refine callP hE (containsStr_ s (by assumption)) (λhs=>?_) (λhs=>?_)
       |refine q0 hE ?_
       |refine callR hE (markShapes_ k hk) (λ_ _=>?_)
       |refine B0 hE ?_|refine B1 hE ?_ ?_|refine B2 hE ?_)<;>intros<;>(try conv=>cbv))
      all_goals first
        |(refine finB hK (bP_true.2 (.inr ⟨hk,hc.trans hcc,hs,?_⟩));first|exact .inl (by assumption)|exact .inr (ht.trans htt))
        |(refine finB hK (bP_false.2 λh=>?_);rcases h with h|⟨h1,h2,h3,h4⟩;exact hnz h;first|exact hc (h2.trans hcc.symm)|exact hs h3|(rcases h4 with h4|h4;contradiction;exact ht (h4.trans htt.symm)))
    · refine finB hK (bP_false.2 λh=>?_)
      rcases h with h|h
      · exact hnz h
      · exact hk h.1
theorem pickS_get {i:Int} {es:List ByteArray} {v:ByteArray} (h0:0<=i) (hv:es[i.toNat]? =some v):v=pickS i es:=by
  have:=(List.getElem?_eq_some_iff.1 hv).1
  unfold pickS
  rw [if_pos (by omega),List.getD_eq_getElem?_getD,hv];rfl
theorem mcols_len:mcols.length=10:=rfl
theorem mtops_len:mtops.length=10:=rfl
theorem l11Colors_ (k:Int) (h:1<=k/\k<=9):AC Tryz.prog 310 [.int .i64 k] AV.str (pickS k mcols):=by
  refine ac Tryz.func310 (.str _) λE K hE hK=>?_
  conv=>cbv
  have h10:=mcols_len
  refine idxL (R:=strR) (l:=mcols) hE (by rfl) (by omega) λv hv=>?_
  conv=>cbv
  refine idxV (R:=strR) (l:=mcols) hE (by rfl) (by omega) hv ?_
  conv=>cbv
  exact hK _ (by rw [←pickS_get (by omega) hv];rfl)
theorem l11Topmark_ (k:Int) (h:1<=k/\k<=9):AC Tryz.prog 311 [.int .i64 k] AV.str (pickS k mtops):=by
  refine ac Tryz.func311 (.str _) λE K hE hK=>?_
  conv=>cbv
  have h10:=mtops_len
  refine idxL (R:=strR) (l:=mtops) hE (by rfl) (by omega) λv hv=>?_
  conv=>cbv
  refine idxV (R:=strR) (l:=mtops) hE (by rfl) (by omega) hv ?_
  conv=>cbv
  exact hK _ (by rw [←pickS_get (by omega) hv];rfl)
theorem l11Shapes_ (k:Int):AC Tryz.prog 312 [.int .i64 k] (λl:List ByteArray=> .sl true 1 (l.map strR)) (mshapes k):=by
  refine ac Tryz.func312 (.strs _) λE K hE hK=>?_
  conv=>cbv
  repeat' first
    |((first
   |refine q0 hE ?_
   |refine B0 hE ?_|refine B1 hE ?_ ?_|refine B2 hE ?_)<;>intros<;>(try conv=>cbv))
  all_goals (refine hK _ ?_;unfold mshapes;(repeat' first|rw [if_pos (by omega)]|rw [if_neg (by omega)]);rfl)
theorem l11Ok_ (k:Int) (c s t:ByteArray):AC Tryz.prog 264 [.pp [.int .i64 k,.str c,.str s,.str t]] AV.bool (bP (MarkOk k c s t)):=by
  refine ac Tryz.func264 (.bool _) λE K hE hK=>?_
  conv=>cbv
  refine eqI hE (λh0=>?_) (λh0=>?_)<;>conv=>cbv
  · refine aeqI hE (λhe=>?_) (λhe=>?_)<;>conv=>cbv
    · obtain ⟨e1,e2,e3,e4,_⟩:=he
      exact finB hK (bP_true.2 (.inl ⟨e1,e2,e3,e4⟩))
    · refine finB hK (bP_false.2 λh=>?_)
      rcases h with ⟨a,b,c,d⟩|h
      · exact he ⟨a,b,c,d,trivial⟩
      · omega
  · refine callP hE (l11Kind_ k) (λhk=>?_) (λhk=>?_)<;>conv=>cbv
    · have hno:∀{q:Prop},(c=pickS k mcols->s∈mshapes k->(t=noS∨t=pickS k mtops)->q)->MarkOk k c s t->q:=λhq h=>by
        rcases h with h|⟨_,h2,h3,h4⟩
        · exact absurd h.1 h0
        · exact hq h2 h3 h4
      repeat' first
        |(refine callR hE (l11Shapes_ k) (λrs hrs=>?_);(try conv=>cbv);(refine loop1 hE [0,3] [4] (λ(i:Int)=>([(4,.int .i64 i)],[.row 1 rs],(mshapes k).length - i,0<=i/\Up (λj=>∀x,(mshapes k)[j]? =some x->¬x=s) i)) [0] (0) rfl rfl (by dsimp only;exact ⟨by omega,.zero (by omega)⟩) λi hi2 Kn2 hN2=>?_;(try dsimp only at hi2);conv=>cbv);obtain ⟨hi0,hinv⟩:=hi2)
        |(refine hN2 _ _ [0] (by decide) rfl ⟨?_,?_⟩ ?_<;>(try dsimp only))
        |((first
       |(refine callI hE (l11Colors_ k hk) (λcc hcc=>?_);(try conv=>cbv);refine seqI hE (λhc=>?_) (λhc=>?_))
       |(refine callI hE (l11Topmark_ k hk) (λtt htt=>?_);(try conv=>cbv);refine seqI hE (λht=>?_) (λht=>?_))
       |(refine idxL (R:=strR) hE hrs (by omega) (λx hx=>?_);(try conv=>cbv);refine seqI hE (λhe=>?_) (λhe=>?_))
       |refine q0 hE ?_
       |refine B0 hE ?_|refine B1 hE ?_ ?_|refine B2 hE ?_)<;>intros<;>(try conv=>cbv))
      all_goals (try clear hN2)
      all_goals first
        |omega
        |(refine hinv.succ (λy hy=>?_) (by assumption);rw [hx] at hy;cases hy;exact he)
        |(refine finB hK (bP_true.2 (.inr ⟨hk,hc.trans hcc,by rw [←he];exact List.mem_of_getElem? hx,?_⟩));first|exact .inl (by assumption)|exact .inr (ht.trans htt))
        |(refine finB hK (bP_false.2 (hno λh2 h3 h4=>?_));first|exact hc (h2.trans hcc.symm)|(rcases h4 with h4|h4;contradiction;exact ht (h4.trans htt.symm))|(obtain ⟨j,hj⟩:=List.getElem?_of_mem h3;exact hinv j (by have:=(List.getElem?_eq_some_iff.1 hj).1;omega) _ hj rfl))
    · refine finB hK (bP_false.2 λh=>?_)
      rcases h with h|h
      · exact h0 h.1
      · exact hk h.1
theorem sValidMark_ (k:Int) (c s t:ByteArray):AC Tryz.prog 211 [.agg [.int .i64 k,.str c,.str s,.str t]] AV.bool (bP (MarkOk k c s t)):=by
  refine ac Tryz.func211 (.bool _) λE K hE hK=>?_
  conv=>cbv
  repeat' first
    |((first
   |refine q0 hE ?_
   |refine callP hE (l11Ok_ _ _ _ _) (λ_=>?_) (λ_=>?_)
   |refine B0 hE ?_|refine B1 hE ?_ ?_|refine B2 hE ?_)<;>intros<;>(try conv=>cbv))
  all_goals (try clear hN)
  all_goals first
    |(omega)
    |(refine finB hK (bP_true.2 ?_);first|omega|grind)
    |(refine finB hK (bP_false.2 ?_);first|omega|(intro h;grind))
    |(refine ⟨by omega,Up.succ (by assumption) ?_ (by assumption)⟩;grind)
    |(refine hK _ ?_;simp_all [atup];done)
    |(grind)
end Go.Proofs.YtpfddoikhmbebaaGreatDoor
