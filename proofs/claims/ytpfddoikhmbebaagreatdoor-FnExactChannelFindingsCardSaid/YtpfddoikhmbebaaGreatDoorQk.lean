/- Contracts: characters: small functions, groups, signs; Contracts: the times of a character; Contracts: valid characters. -/
import Derived.Test.YtpfddoikhmbebaaGreatDoorQj
namespace Go.Proofs.YtpfddoikhmbebaaGreatDoor
open Go Go.RowKit Classical
set_option maxRecDepth 100000
set_option maxHeartbeats 2000000
set_option linter.unusedVariables false
set_option linter.unusedSimpArgs false
def three (p:Int×Int×Int):AV:= .tup [.int .i64 p.1,.int .i64 p.2.1,.int .i64 p.2.2]
theorem NoB.three (p:Int×Int×Int):NoB (three p):= .tupC (.int _ _) (.tupC (.int _ _) (.tupC (.int _ _) .tup0))
theorem callIII {E:Env} {np:Nat} {P:Program} (hE:E=stdE np P) {f:FuncId} {args:List AV} {x:Int×Int×Int} {K:AV->Prop} (h:AC P f args three x) (hk:∀a b c,a=x.1->b=x.2.1->c=x.2.2->K (.tup [.int .i64 a,.int .i64 b,.int .i64 c])):E.call f args K:=
  callI hE h λy hy=>hk _ _ _ (by rw [hy]) (by rw [hy]) (by rw [hy])
theorem l05Rank_ (n:Int):AC Tryz.prog 348 [.int .u8 n] (AV.int .i64) (rk n):=by
  refine ac Tryz.func348 (.int _ _) λE K hE hK=>?_
  conv=>cbv
  repeat' first
    |((first
   |refine q0 hE ?_
   |refine B0 hE ?_|refine B1 hE ?_ ?_|refine B2 hE ?_)<;>intros<;>(try conv=>cbv))
  all_goals first
    |(refine hK _ ?_;show AV.int _ _=AV.int _ _;congr 1;unfold rk;repeat' split<;>omega)
theorem rk_bd (c:Int):0<=rk c/\rk c<=4:=by unfold rk;repeat' split<;>omega
theorem colC_of {s:ByteArray} {i a b:Int} (h0:0<=i) (ha:a=chr s i.toNat) (h1:rk a≠0) (h2:i<=0∨(b=chr s (i - 1).toNat/\rk b<rk a)):ColC s i.toNat:=by
  subst ha
  refine ⟨h1,λhp=>?_⟩
  rcases h2 with h2|⟨rfl,h2⟩
  · omega
  · rw [show i.toNat - 1=(i - 1).toNat by omega];exact h2
theorem l05Colors_ (s:ByteArray):AC Tryz.prog 314 [.str s] AV.bool (bP (ColOk s)):=by
  refine ac Tryz.func314 (.bool _) λE K hE hK=>?_
  conv=>cbv
  refine loop1 hE [0] [3] (λ(i:Int)=>([(3,.int .i64 i)],[],s.size - i,(0<=i/\i<=s.size)/\Up (ColC s) i)) [] (0) rfl rfl (by dsimp only;exact ⟨by omega,.zero (by omega)⟩) λi hi Kn hN=>?_
  (try dsimp only at hi)
  conv=>cbv
  obtain ⟨h0,hinv⟩:=hi
  refine slenI hE λn hn hb=>?_
  conv=>cbv
  refine ltI hE (λhlt=>?_) (λhge=>?_)<;>conv=>cbv
  · refine sidxI hE (by omega) λa ha ha1 ha2=>?_
    replace ha:a=chr s i.toNat:=ha
    conv=>cbv
    repeat' first
      |(refine hN _ _ [] (by decide) rfl ⟨?_,?_⟩ ?_<;>(try dsimp only))
      |((first
     |refine callI hE (l05Rank_ _) (λy hy=>?_)
     |(refine sidxI hE (by omega) (λb hb0 _ _=>?_);(first|(replace hb0:b=chr s i.toNat:=hb0;(have hb1:a=b:=ha.trans hb0.symm);clear hb0;subst hb1)|(replace hb0:b=chr s q.toNat:=hb0)))
     |refine sub64 hE (by omega) (λq hq=>?_)
     |refine q0 hE ?_
     |refine B0 hE ?_|refine B1 hE ?_ ?_|refine B2 hE ?_)<;>intros<;>(try conv=>cbv))
    all_goals (try clear hN)
    all_goals first
      |omega
      |(refine hinv.succ (colC_of (b:=0) h0.1 ha (by omega) (.inl (by omega))) (by assumption))
      |(refine hinv.succ (colC_of h0.1 ha (by omega) (.inr ⟨hq ▸ hb0,by omega⟩)) (by assumption))
      |(refine finB hK (bP_false.2 λh=>?_);have:=(h.1 i.toNat (by omega)).1;rw [←ha] at this;omega)
      |(refine finB hK (bP_false.2 λh=>?_);have:=(h.1 i.toNat (by omega)).2 (by omega);rw [←ha,show i.toNat - 1=(i - 1).toNat by omega,←hq,←hb0] at this;omega)
  · skip
    repeat' first
      |((first
     |refine q0 hE ?_
     |refine B0 hE ?_|refine B1 hE ?_ ?_|refine B2 hE ?_)<;>intros<;>(try conv=>cbv))
    all_goals (try clear hN)
    all_goals first
      |(refine finB hK (bP_true.2 ⟨hinv.all (by omega),by omega,by omega⟩))
      |(refine finB hK (bP_false.2 λh=>?_);have:=h.2;omega)
theorem areCharacterColors_ (s:ByteArray):AC Tryz.prog 337 [.str s] AV.bool (bP (ColOk s)):=by
  refine ac Tryz.func337 (.bool _) λE K hE hK=>?_
  conv=>cbv
  refine loop2 hE [0] [4,3] (λ(i last:Int)=>([(4,.int .i64 i),(3,.int .i64 last)],[],s.size - i,(0<=i/\i<=s.size)/\Up (ColC s) i/\(i<=0/\last= -1∨0<i/\last=rk (chr s (i - 1).toNat) - 1))) [] ((0, -1)) rfl rfl (by dsimp only;exact ⟨by omega,.zero (by omega),by omega⟩) λi last hi Kn hN=>?_
  (try dsimp only at hi)
  conv=>cbv
  obtain ⟨h0,hinv,hla⟩:=hi
  refine slenI hE λn hn hb=>?_
  conv=>cbv
  refine ltI hE (λhlt=>?_) (λhge=>?_)<;>conv=>cbv
  · refine sidxI hE (by omega) λa ha ha1 ha2=>?_
    replace ha:a=chr s i.toNat:=ha
    conv=>cbv
    refine callI hE (indexByte_ cAll a) λy hy=>?_
    rw [idx_rk ⟨ha1,ha2⟩] at hy
    conv=>cbv
    have hrk:=rk_bd a
    have hrk2:=rk_bd (chr s (i - 1).toNat)
    repeat' first
      |(refine hN (_,_) _ [] (by decide) rfl ⟨?_,?_,?_⟩ ?_<;>(try dsimp only))
      |((first
     |refine q0 hE ?_
     |refine B0 hE ?_|refine B1 hE ?_ ?_|refine B2 hE ?_)<;>intros<;>(try conv=>cbv))
    all_goals (try clear hN)
    all_goals first
      |omega
      |(refine hinv.succ (colC_of (b:=chr s (i - 1).toNat) h0.1 ha (by omega) ?_) (by assumption);rcases hla with hla|hla;exact .inl (by omega);exact .inr ⟨rfl,by omega⟩)
      |(right;rename_i hi1;rw [hi1,show (i+1 - 1).toNat=i.toNat by omega,←ha];omega)
      |(refine finB hK (bP_false.2 λh=>?_);have h1:=h.1 i.toNat (by omega);unfold ColC at h1;rw [←ha] at h1;rcases hla with hla|hla;omega;(have h2:=h1.2 (by omega));rw [show i.toNat - 1=(i - 1).toNat by omega] at h2;omega)
  · skip
    repeat' first
      |((first
     |refine q0 hE ?_
     |refine callP hE (within_ _ _ _) (λ_=>?_) (λ_=>?_)
     |refine B0 hE ?_|refine B1 hE ?_ ?_|refine B2 hE ?_)<;>intros<;>(try conv=>cbv))
    all_goals (try clear hN)
    all_goals first
      |(refine finB hK (bP_true.2 ⟨hinv.all (by omega),by omega,by omega⟩))
      |(refine finB hK (bP_false.2 λh=>?_);have:=h.2;omega)
theorem nil_len {l:List Int} {n:Int} (hn:n=l.length):n=0↔l=[]:=⟨λh=>List.eq_nil_of_length_eq_zero (by omega),λh=>by rw [h] at hn;simpa using hn⟩
theorem one_len {l:List Int} {n v:Int} (hn:n=l.length) (h1:n=1) (hv:l[(0:Int).toNat]? =some v):l=[v]:=by
  match l,hv,hn with
  |[a],hv,_=>simp at hv;rw [hv]
  |[],_,hn=>simp at hn;omega
  |_::_::_,_,hn=>simp at hn;omega
theorem tL_ne:tL≠noS:=by
  intro h
  have:=congrArg ByteArray.size h
  exact absurd this (by decide)
theorem grp_nil:GrpOk []:=⟨by simp,by simp,by simp,by simp⟩
theorem grp_one {x:Int} (h:2<=x/\x<=9):GrpOk [x]:=by
  refine ⟨λy hy=>?_,by simp,?_,λh1=>?_⟩
  · rw [List.mem_singleton] at hy;omega
  · simp only [List.sum_cons,List.sum_nil];omega
  · simp only [List.cons.injEq] at h1;omega
theorem grp_le1 {l:List Int} (h:GrpOk l) (h1:l.length<=1):l=[]∨∃x,l=[x]/\2<=x/\x<=9:=by
  cases l with
  |nil=>exact .inl rfl
  | cons x m=>
    cases m with
    | nil=>
      refine .inr ⟨x,rfl,?_⟩
      have h2:=h.1 x (List.mem_cons_self ..)
      have h3:=h.2.2.2
      by_cases e:x=1
      · subst e;exact absurd rfl h3
      · omega
    |cons y m=>simp only [List.length_cons] at h1;omega
theorem equalI_ {rs rs':List (List AV)} {t t':Bool} {l m:List Int} (hl:rs=l.map intR) (hm:rs'=m.map intR):AC Tryz.prog 366 [.sl t 1 rs,.sl t' 1 rs'] AV.bool (bP (l=m)):=by
  refine ac Tryz.func366 (.bool _) λE K hE hK=>?_
  conv=>cbv
  refine lenL hE hl λn hn hb=>?_
  conv=>cbv
  refine lenL hE hm λn' hn' hb'=>?_
  conv=>cbv
  refine eqI hE (λhe=>?_) (λhe=>?_)<;>conv=>cbv
  · skip
    repeat' first
      |((refine loop1 hE [0,1,12] [13] (λ(i:Int)=>([(13,.int .i64 i)],[],l.length - i,0<=i/\Up (λj=>l[j]? =m[j]?) i)) [] (0) rfl rfl (by dsimp only;exact ⟨by omega,.zero (by omega)⟩) λi hi2 Kn2 hN2=>?_;(try dsimp only at hi2);conv=>cbv);obtain ⟨h0,hinv⟩:=hi2)
      |(refine hN2 _ _ [] (by decide) rfl ⟨?_,?_⟩ ?_<;>(try dsimp only))
      |((first
     |refine q0 hE ?_
     |refine idxL (R:=intR) hE (by assumption) (by omega) (λ_ _=>?_)
     |refine B0 hE ?_|refine B1 hE ?_ ?_|refine B2 hE ?_)<;>intros<;>(try conv=>cbv))
    all_goals first
      |omega
      |(refine hinv.succ ?_ (by assumption);clear hN2;simp_all [pairsP];done)
      |(refine finB hK (bP_false.2 λh=>?_);clear hN2;simp_all [pairsP];done)
      |exact finB hK (bP_true.2 (list_eq_of (by omega) hinv (by omega)))
  · refine finB hK (bP_false.2 λh=>?_);subst h;omega
theorem grp_up {l:List Int} {i:Int} (h:Up (λj=>∀x,l[j]? =some x->1<=x/\x<=9) i) (hi:(l.length:Int)<=i):∀x∈l,1<=x/\x<=9:=λx hx=>by
  obtain ⟨j,hj⟩:=List.getElem?_of_mem hx
  exact h j (by have:=(List.getElem?_eq_some_iff.1 hj).1;omega) x hj
theorem isGroup_ {rs:List (List AV)} {t:Bool} {l:List Int} (hl:rs=l.map intR):AC Tryz.prog 365 [.sl t 1 rs] AV.bool (bP (GrpOk l)):=by
  refine ac Tryz.func365 (.bool _) λE K hE hK=>?_
  conv=>cbv
  refine lenL hE hl λn hn hb=>?_
  conv=>cbv
  refine loop2 hE [0,6,7] [8,3] (λ(i total:Int)=>([(8,.int .i64 i),(3,.int .i64 total)],[],n - i,(0<=i/\i<=l.length)/\Up (λj=>∀x,l[j]? =some x->1<=x/\x<=9) i/\(l.length<=4->total=sumI l i/\0<=total/\total<=9*i))) [] ((0,0)) rfl rfl (by dsimp only;exact ⟨by omega,.zero (by omega),λ_=>by rw [sumI_zero (by omega)];omega⟩) λi total hi Kn hN=>?_
  (try dsimp only at hi)
  conv=>cbv
  obtain ⟨h0,hinv,htot⟩:=hi
  repeat' first
    |(refine hN (_,_) _ [] (by decide) rfl ⟨?_,?_,?_⟩ ?_<;>(try dsimp only))
    |((first
   |(refine idxL (R:=intR) hE hl (by omega) (λv hv=>?_);have hsum:=sumI_succ h0.1 hv)
   |(refine addI hE (λtot2 htot2=>?_);(try conv=>cbv);refine add64 hE (by omega) (λi1 hi1=>?_))
   |refine q0 hE ?_
   |refine callP hE (within_ _ _ _) (λ_=>?_) (λ_=>?_)
   |refine callP hE (few_ _ _) (λ_=>?_) (λ_=>?_)
   |refine callP hE (equalI_ (m:=[1]) hl (by rfl)) (λ_=>?_) (λ_=>?_)
   |refine B0 hE ?_|refine B1 hE ?_ ?_|refine B2 hE ?_)<;>intros<;>(try conv=>cbv))
  all_goals (try clear hN)
  all_goals first
    |omega
    |(refine hinv.succ (λx hx=>?_) (by assumption);rw [hv] at hx;cases hx;assumption)
    |(intro h4;obtain ⟨g1,g2⟩:=htot h4;rw [IntWalk.i64_in _ ⟨by omega,by omega⟩] at htot2;rw [hi1,hsum];omega)
    |(refine finB hK (bP_false.2 λh=>?_);have:=h.1 _ (List.mem_of_getElem? hv);contradiction)
    | (have hall:=grp_up hinv (by omega);first
        |(refine finB hK (bP_true.2 ⟨hall,by omega,?_,by assumption⟩);have h2:=htot (by omega);have h3:=sumI_all (l:=l) (i:=i) (by omega);omega)
        |(refine finB hK (bP_false.2 λh=>?_);exact h.2.2.2 (by assumption))
        |(refine finB hK (bP_false.2 λh=>?_);have h1:=h.2.1;have h4:=h.2.2.1;have h2:=htot (by omega);have h3:=sumI_all (l:=l) (i:=i) (by omega);omega))
theorem l05Sum_ {rs:List (List AV)} {t:Bool} {l:List Int} (hl:rs=l.map intR) (hg:∀x∈l,1<=x/\x<=9) (h4:l.length<=4):AC Tryz.prog 349 [.sl t 1 rs] (AV.int .i64) (if l=[] then 1 else l.sum):=by
  refine ac Tryz.func349 (.int _ _) λE K hE hK=>?_
  conv=>cbv
  refine lenL hE hl λn hn hb=>?_
  conv=>cbv
  refine eqI hE (λhe=>?_) (λhe=>?_)<;>conv=>cbv
  · exact hK _ (by rw [if_pos (List.eq_nil_of_length_eq_zero (by omega))];rfl)
  · have hne:l≠[]:=by rintro rfl;simp at hn;omega
    refine loop2 hE [0] [4,3] (λ(i s:Int)=>([(4,.int .i64 i),(3,.int .i64 s)],[],l.length - i,(0<=i/\i<=l.length)/\s=sumI l i/\0<=s/\s<=9*i)) [] ((0,0)) rfl rfl (by dsimp only;exact ⟨by omega,by rw [sumI_zero (by omega)],by omega⟩) λi s hi Kn hN=>?_
    (try dsimp only at hi)
    conv=>cbv
    obtain ⟨h0,hs,hs2⟩:=hi
    repeat' first
      |(refine hN (_,_) _ [] (by decide) rfl ⟨?_,?_,?_⟩ ?_<;>(try dsimp only))
      |((first
     |(refine idxL (R:=intR) hE hl (by omega) (λv hv=>?_);have hsum:=sumI_succ h0.1 hv;have hv2:=hg v (List.mem_of_getElem? hv))
     |refine q0 hE ?_
     |refine B0 hE ?_|refine B1 hE ?_ ?_|refine B2 hE ?_)<;>intros<;>(try conv=>cbv))
    all_goals (try clear hN)
    all_goals first
      |omega
      |(rename_i hi1;rw [hi1,hsum];omega)
      |(refine hK _ ?_;rw [if_neg hne,←sumI_all (l:=l) (i:=i) (by omega),hs];rfl)
theorem l05Group_ {rs:List (List AV)} {t:Bool} {l:List Int} (hl:rs=l.map intR):AC Tryz.prog 315 [.sl t 1 rs] AV.bool (bP (GrpOk l)):=by
  refine ac Tryz.func315 (.bool _) λE K hE hK=>?_
  conv=>cbv
  refine loop1 hE [0] [3] (λ(i:Int)=>([(3,.int .i64 i)],[],l.length - i,(0<=i/\i<=l.length)/\Up (λj=>∀x,l[j]? =some x->1<=x/\x<=9) i)) [] (0) rfl rfl (by dsimp only;exact ⟨by omega,.zero (by omega)⟩) λi hi Kn hN=>?_
  (try dsimp only at hi)
  conv=>cbv
  obtain ⟨h0,hinv⟩:=hi
  refine lenL hE hl λn hn hb=>?_
  conv=>cbv
  refine ltI hE (λhlt=>?_) (λhge=>?_)<;>conv=>cbv
  · skip
    repeat' first
      |(refine hN _ _ [] (by decide) rfl ⟨?_,?_⟩ ?_<;>(try dsimp only))
      |((first
     |refine idxL (R:=intR) hE hl (by omega) (λv hv=>?_)
     |refine q0 hE ?_
     |refine callP hE (in_ _ _ _) (λ_=>?_) (λ_=>?_)
     |refine B0 hE ?_|refine B1 hE ?_ ?_|refine B2 hE ?_)<;>intros<;>(try conv=>cbv))
    all_goals (try clear hN)
    all_goals first
      |omega
      |(refine hinv.succ (λx hx=>?_) (by assumption);rw [hv] at hx;cases hx;assumption)
      |(refine finB hK (bP_false.2 λh=>?_);have:=h.1 _ (List.mem_of_getElem? hv);contradiction)
  · have hall:=grp_up hinv (by omega)
    repeat' first
      |((first
     |refine idxL (R:=intR) hE hl (by omega) (λv hv=>?_)
     |refine callI hE (l05Sum_ hl hall (by omega)) (λs hs=>?_)
     |refine q0 hE ?_
     |refine B0 hE ?_|refine B1 hE ?_ ?_|refine B2 hE ?_)<;>intros<;>(try conv=>cbv))
    all_goals (try clear hN)
    all_goals first
      | (have hsum:l.sum<=12:=(by
           by_cases h:l=[]
           · subst h;simp
           · rw [if_neg h] at hs;omega)
         refine finB hK (bP_true.2 ⟨hall,by omega,hsum,λh1=>?_⟩)
         have h2:=congrArg List.length h1
         simp only [List.length_cons,List.length_nil] at h2
         first|omega|(rw [h1] at hv;simp at hv;omega))
      |(refine finB hK (bP_false.2 λh=>?_);have:=h.2.1;omega)
      |(refine finB hK (bP_false.2 λh=>h.2.2.2 ?_);rw [one_len (n:=(l.length:Int)) rfl (by omega) hv];subst_vars;rfl)
      |(refine finB hK (bP_false.2 λh=>?_);have h3:=h.2.2.1;split at hs<;>omega)
theorem str1_lt {s:ByteArray} (h:s.size=1) (c:UInt8):(strLt s ⟨#[c]⟩↔chr s 0<c.toNat)/\(strLt ⟨#[c]⟩ s↔(c.toNat:Int)<chr s 0):=by
  have e:=size1 h
  have hc:chr s 0=((s.data.getD 0 0).toNat:Int):=rfl
  generalize s.data.getD 0 0=b at e hc
  subst e
  rw [hc]
  have t:∀x:UInt8,(⟨#[x]⟩:ByteArray).toList=[x]:=λx=>by rw [bytes_toList]
  unfold strLt
  rw [t,t]
  simp only [Op.bytesLess,Bool.or_eq_true,decide_eq_true_iff,Bool.and_eq_true,Bool.false_eq_true,and_false,or_false,UInt8.lt_iff_toNat_lt]
  omega
theorem codes_get {t:ByteArray} (h:LetOk t) {i:Int} {v:ByteArray} (hi:i=chr t 0 - 65) (hv:codes[i.toNat]? =some v):v=sgnT t:=sgnT_get hi hv
theorem signsOf_ (s:ByteArray):AC Tryz.prog 367 [.str s] AV.str (if LetOk s then sgnT s else noS):=by
  refine ac Tryz.func367 (.str _) λE K hE hK=>?_
  conv=>cbv
  have h26:=codes_len
  refine slenI hE λn hn hb=>?_
  conv=>cbv
  refine eqI hE (λh1=>?_) (λh1=>?_)<;>conv=>cbv
  · have hs1:s.size=1:=by omega
    have hA:=(str1_lt hs1 65).1
    have hZ:=(str1_lt hs1 90).2
    have e65:(65:UInt8).toNat=65:=rfl
    have e90:(90:UInt8).toNat=90:=rfl
    rw [e65] at hA
    rw [e90] at hZ
    refine sltP hE (λhlt=>?_) (λhlt=>?_)<;>conv=>cbv
    · exact hK _ (by rw [if_neg (λh=>by have h2:=hA.1 hlt;have h3:=h.2;omega)];rfl)
    · refine sltP hE (λhgt=>?_) (λhgt=>?_)<;>conv=>cbv
      · exact hK _ (by rw [if_neg (λh=>by have h2:=hZ.1 hgt;have h3:=h.2;omega)];rfl)
      · have hok:LetOk s:=⟨hs1,by have:=mt hA.2 hlt;omega,by have:=mt hZ.2 hgt;omega⟩
        have hok2:=hok.2
        refine sidxI hE (by omega) λa ha ha1 ha2=>?_
        replace ha:a=chr s 0:=ha
        conv=>cbv
        refine subI hE λb hb2=>?_
        rw [IntWalk.u8_in _ ⟨by omega,by omega⟩] at hb2
        conv=>cbv
        refine idxL (R:=strR) (l:=codes) hE (by rfl) (by omega) λv hv=>?_
        conv=>cbv
        exact hK _ (by rw [if_pos hok,←codes_get hok (by omega) hv];rfl)
  · exact hK _ (by rw [if_neg (λh=>by have:=h.1;omega)];rfl)
theorem rhythm_ (k:Int) (h:k=2∨k=4∨k=5∨k=6∨k=7∨k=8):AC Tryz.prog 369 [.int .i64 k] three (flashR k,gapR k,restR k):=by
  refine ac Tryz.func369 (.three _) λE K hE hK=>?_
  conv=>cbv
  repeat' first
    |((first
   |refine q0 hE ?_
   |refine B0 hE ?_|refine B1 hE ?_ ?_|refine B2 hE ?_)<;>intros<;>(try conv=>cbv))
  all_goals first
    |omega
    |(exact hK _ (by subst_vars;rfl))
    | (have e:k=8:=by omega
       subst e;exact hK _ rfl)
    |trace_state
theorem isQuick_ (k:Int):AC Tryz.prog 368 [.int .i64 k] AV.bool (bP (k=6∨k=7)):=by
  refine ac Tryz.func368 (.bool _) λE K hE hK=>?_
  conv=>cbv
  repeat' first
    |((first
   |refine q0 hE ?_
   |refine B0 hE ?_|refine B1 hE ?_ ?_|refine B2 hE ?_)<;>intros<;>(try conv=>cbv))
  all_goals (try clear hN)
  all_goals first
    |(omega)
    |(refine finB hK (bP_true.2 ?_);first|omega|grind)
    |(refine finB hK (bP_false.2 ?_);first|omega|(intro h;grind))
    |(refine ⟨by omega,Up.succ (by assumption) ?_ (by assumption)⟩;grind)
    |(refine hK _ ?_;simp_all [atup];done)
    |(grind)
theorem l05Flash_ (k:Int):AC Tryz.prog 351 [.int .i64 k] (AV.int .i64) (flashR k):=by
  refine ac Tryz.func351 (.int _ _) λE K hE hK=>?_
  conv=>cbv
  repeat' first
    |((first
   |refine q0 hE ?_
   |refine B0 hE ?_|refine B1 hE ?_ ?_|refine B2 hE ?_)<;>intros<;>(try conv=>cbv))
  all_goals (refine hK _ ?_;show AV.int _ _=AV.int _ _;congr 1;unfold flashR;repeat' split<;>omega)
theorem l05Gap_ (k:Int):AC Tryz.prog 328 [.int .i64 k] (AV.int .i64) (gapR k):=by
  refine ac Tryz.func328 (.int _ _) λE K hE hK=>?_
  conv=>cbv
  repeat' first
    |((first
   |refine q0 hE ?_
   |refine B0 hE ?_|refine B1 hE ?_ ?_|refine B2 hE ?_)<;>intros<;>(try conv=>cbv))
  all_goals (refine hK _ ?_;show AV.int _ _=AV.int _ _;congr 1;unfold gapR;repeat' split<;>omega)
theorem l05Kind_ (k:Int):AC Tryz.prog 313 [.int .i64 k] AV.bool (bP (1<=k/\k<=8)):=by
  refine ac Tryz.func313 (.bool _) λE K hE hK=>?_
  conv=>cbv
  repeat' first
    |((first
   |refine q0 hE ?_
   |refine callP hE (in_ _ _ _) (λ_=>?_) (λ_=>?_)
   |refine B0 hE ?_|refine B1 hE ?_ ?_|refine B2 hE ?_)<;>intros<;>(try conv=>cbv))
  all_goals (try clear hN)
  all_goals first
    |(omega)
    |(refine finB hK (bP_true.2 ?_);first|omega|grind)
    |(refine finB hK (bP_false.2 ?_);first|omega|(intro h;grind))
    |(refine ⟨by omega,Up.succ (by assumption) ?_ (by assumption)⟩;grind)
    |(refine hK _ ?_;simp_all [atup];done)
    |(grind)
theorem sumOf_ {rs:List (List AV)} {t:Bool} {l:List Int} (hl:rs=l.map intR) (hg:∀x∈l,0<=x/\x<=100) (h4:l.length<=1000000):AC Tryz.prog 370 [.sl t 1 rs] (AV.int .i64) l.sum:=by
  refine ac Tryz.func370 (.int _ _) λE K hE hK=>?_
  conv=>cbv
  have hbd:=sumI_bd hg
  refine lenL hE hl λn hn hb=>?_
  conv=>cbv
  refine loop2 hE [6,7] [8,3] (λ(i s:Int)=>([(8,.int .i64 i),(3,.int .i64 s)],[],l.length - i,(0<=i/\i<=l.length)/\s=sumI l i)) [] ((0,0)) rfl rfl (by dsimp only;exact ⟨by omega,by rw [sumI_zero (by omega)]⟩) λi s hi Kn hN=>?_
  (try dsimp only at hi)
  conv=>cbv
  obtain ⟨h0,hs⟩:=hi
  have hb1:=hbd i
  repeat' first
    |(refine hN (_,_) _ [] (by decide) rfl ⟨?_,?_⟩ ?_<;>(try dsimp only))
    |((first
   |(refine idxL (R:=intR) hE hl (by omega) (λv hv=>?_);have hsum:=sumI_succ h0.1 hv;have hb2:=hbd (i+1))
   |refine q0 hE ?_
   |refine B0 hE ?_|refine B1 hE ?_ ?_|refine B2 hE ?_)<;>intros<;>(try conv=>cbv))
  all_goals (try clear hN)
  all_goals first
    |omega
    |(rename_i hi1;rw [hi1,hsum];omega)
    |(refine hK _ ?_;rw [←sumI_all (l:=l) (i:=i) (by omega),hs];rfl)
theorem l05Total_ {rs:List (List AV)} {t:Bool} {l:List Int} (hl:rs=l.map intR) (hg:∀x∈l,0<=x/\x<=100) (h4:l.length<=1000000):AC Tryz.prog 316 [.sl t 1 rs] (AV.int .i64) l.sum:=by
  refine ac Tryz.func316 (.int _ _) λE K hE hK=>?_
  conv=>cbv
  have hbd:=sumI_bd hg
  refine loop2 hE [0] [4,3] (λ(i s:Int)=>([(4,.int .i64 i),(3,.int .i64 s)],[],l.length - i,(0<=i/\i<=l.length)/\s=sumI l i)) [] ((0,0)) rfl rfl (by dsimp only;exact ⟨by omega,by rw [sumI_zero (by omega)]⟩) λi s hi Kn hN=>?_
  (try dsimp only at hi)
  conv=>cbv
  obtain ⟨h0,hs⟩:=hi
  have hb1:=hbd i
  repeat' first
    |(refine hN (_,_) _ [] (by decide) rfl ⟨?_,?_⟩ ?_<;>(try dsimp only))
    |((first
   |(refine idxL (R:=intR) hE hl (by omega) (λv hv=>?_);have hsum:=sumI_succ h0.1 hv;have hb2:=hbd (i+1))
   |refine q0 hE ?_
   |refine B0 hE ?_|refine B1 hE ?_ ?_|refine B2 hE ?_)<;>intros<;>(try conv=>cbv))
  all_goals (try clear hN)
  all_goals first
    |omega
    |(rename_i hi1;rw [hi1,hsum];omega)
    |(refine hK _ ?_;rw [←sumI_all (l:=l) (i:=i) (by omega),hs];rfl)
theorem isSteady_ (k p:Int) (le co:ByteArray) {rs:List (List AV)} {t:Bool} {l:List Int} (hl:rs=l.map intR):AC Tryz.prog 339 [.agg [.int .i64 k,.sl t 1 rs,.str le,.str co,.int .i64 p]] AV.bool (bP (Steady k l)):=by
  refine ac Tryz.func339 (.bool _) λE K hE hK=>?_
  conv=>cbv
  repeat' first
    |((first
   |refine q0 hE ?_
   |refine callP hE (isQuick_ _) (λ_=>?_) (λ_=>?_)
   |refine B0 hE ?_|refine B1 hE ?_ ?_|refine B2 hE ?_)<;>intros<;>(try conv=>cbv))
  all_goals (have hz:l=[]↔l.length=0:=⟨λh=>by rw [h];rfl,List.eq_nil_of_length_eq_zero⟩)
  all_goals first
    |(refine finB hK (bP_true.2 ?_);unfold Steady;rw [hz];omega)
    |(refine finB hK (bP_false.2 ?_);unfold Steady;rw [hz];omega)
theorem l05Steady_ (k p:Int) (le co:ByteArray) {rs:List (List AV)} {t:Bool} {l:List Int} (hl:rs=l.map intR):AC Tryz.prog 266 [.pp [.int .i64 k,.sl t 1 rs,.str le,.str co,.int .i64 p]] AV.bool (bP (Steady k l)):=by
  refine ac Tryz.func266 (.bool _) λE K hE hK=>?_
  conv=>cbv
  repeat' first
    |((first
   |refine q0 hE ?_
   |refine B0 hE ?_|refine B1 hE ?_ ?_|refine B2 hE ?_)<;>intros<;>(try conv=>cbv))
  all_goals (have hz:l=[]↔l.length=0:=⟨λh=>by rw [h];rfl,List.eq_nil_of_length_eq_zero⟩)
  all_goals first
    |(refine finB hK (bP_true.2 ?_);unfold Steady;rw [hz];omega)
    |(refine finB hK (bP_false.2 ?_);unfold Steady;rw [hz];omega)
set_option maxHeartbeats 4000000
theorem fits_ (k p:Int) (le co:ByteArray) {rs:List (List AV)} {t:Bool} {l:List Int} (hl:rs=l.map intR):AC Tryz.prog 338 [.agg [.int .i64 k,.sl t 1 rs,.str le,.str co,.int .i64 p]] AV.bool (bP (ShapeOk k l le)):=by
  refine ac Tryz.func338 (.bool _) λE K hE hK=>?_
  conv=>cbv
  repeat' first
    |((first
   |refine callI hE (signsOf_ le) (λy hy=>?_)
   |(refine lenL hE hl (λn hn hb=>?_);(have hnl:=nil_len hn))
   |(refine idxL (R:=intR) hE hl (by omega) (λv hv=>?_);(have hv1:=one_len (by assumption) (by omega) hv))
   |refine q0 hE ?_
   |refine callP hE (isGroup_ hl) (λ_=>?_) (λ_=>?_)
   |refine callP hE (within_ _ _ _) (λ_=>?_) (λ_=>?_)
   |refine callP hE (equalI_ (m:=[6]) hl (by rfl)) (λ_=>?_) (λ_=>?_)
   |refine B0 hE ?_|refine B1 hE ?_ ?_|refine B2 hE ?_)<;>intros<;>(try conv=>cbv))
  all_goals first
    | (refine finB hK (bP_true.2 ?_);unfold ShapeOk;first
        |exact .inl ⟨by omega,hnl.1 (by assumption),by assumption⟩
        |exact .inr (.inl ⟨by omega,by assumption,by assumption⟩)
        |exact .inr (.inr (.inl ⟨by omega,.inl ⟨by assumption,.inl (hnl.1 (by assumption))⟩⟩))
        |exact .inr (.inr (.inl ⟨by omega,.inl ⟨by assumption,.inr ⟨v,hv1,by omega⟩⟩⟩))
        |exact .inr (.inr (.inl ⟨by omega,.inr ⟨by assumption,by assumption⟩⟩))
        |exact .inr (.inr (.inr ⟨by omega,by (split at hy;assumption;contradiction),hnl.1 (by assumption)⟩)))
    | (refine finB hK (bP_false.2 λh=>?_);rcases h with ⟨g1,g2,g3⟩|⟨g1,g2,g3⟩|⟨g1,⟨g2,g3|⟨x,g3,g4⟩⟩|⟨g2,g3⟩⟩|⟨g1,g2,g3⟩<;>first
        |omega
        |contradiction
        |exact absurd (hnl.2 g2) (by assumption)
        |exact absurd (hnl.2 g3) (by assumption)
        |(have:=hnl.2 g3;omega)
        |exact tL_ne (g2.symm.trans (by assumption))
        |exact tL_ne ((show le=tL by assumption).symm.trans g2)
        |(rw [g3] at hv1;cases hv1;omega)
        |(rw [g3] at hn;simp only [List.length_cons,List.length_nil] at hn;omega)
        |(rw [if_pos g2] at hy;exact (codes_ok _ (sgnT_mem g2)).1 (by rw [←hy];assumption)))
theorem l05Shape_ (k p:Int) (le co:ByteArray) {rs:List (List AV)} {t:Bool} {l:List Int} (hl:rs=l.map intR):AC Tryz.prog 265 [.pp [.int .i64 k,.sl t 1 rs,.str le,.str co,.int .i64 p]] AV.bool (bP (ColOk co/\ShapeOk k l le)):=by
  refine ac Tryz.func265 (.bool _) λE K hE hK=>?_
  conv=>cbv
  repeat' first
    |((first
   |(refine lenL hE hl (λn hn hb=>?_);(have hnl:=nil_len hn))
   |(refine idxL (R:=intR) hE hl (by omega) (λv hv=>?_);(have hv1:=one_len (by assumption) (by omega) hv))
   |(refine sidxI hE (by omega) (λa ha _ _=>?_);(replace ha:a=chr le 0:=ha))
   |refine q0 hE ?_
   |refine callP hE (l05Kind_ _) (λ_=>?_) (λ_=>?_)
   |refine callP hE (l05Colors_ _) (λ_=>?_) (λ_=>?_)
   |refine callP hE (l05Group_ hl) (λ_=>?_) (λ_=>?_)
   |refine callP hE (in_ _ _ _) (λ_=>?_) (λ_=>?_)
   |refine B0 hE ?_|refine B1 hE ?_ ?_|refine B2 hE ?_)<;>intros<;>(try conv=>cbv))
  all_goals first
    | (refine finB hK (bP_true.2 ⟨by assumption,?_⟩);unfold ShapeOk;first
        |exact .inl ⟨by omega,hnl.1 (by assumption),by assumption⟩
        |exact .inr (.inl ⟨by omega,by assumption,by assumption⟩)
        |exact .inr (.inr (.inl ⟨by omega,.inr ⟨by assumption,by rw [hv1,show v=6 by omega]⟩⟩))
        |exact .inr (.inr (.inl ⟨by omega,.inl ⟨by assumption,grp_le1 (by assumption) (by omega)⟩⟩))
        |exact .inr (.inr (.inr ⟨by omega,⟨by omega,by omega,by omega⟩,hnl.1 (by assumption)⟩)))
    | (refine finB hK (bP_false.2 λ⟨h0,h⟩=>?_);have hkk:=h.kind;rcases h with ⟨g1,g2,g3⟩|⟨g1,g2,g3⟩|⟨g1,⟨g2,g3|⟨x,g3,g4⟩⟩|⟨g2,g3⟩⟩|⟨g1,g2,g3⟩<;>first
        |omega
        |contradiction
        |exact absurd (hnl.2 g2) (by assumption)
        |exact absurd (hnl.2 g3) (by assumption)
        |(have:=hnl.2 g3;omega)
        |exact tL_ne (g2.symm.trans (by assumption))
        |exact tL_ne ((show le=tL by assumption).symm.trans g2)
        |(have:=g2.1;have:=g2.2;omega)
        |(rw [g3] at hv1;cases hv1;contradiction)
        |(rw [g3] at hn;simp only [List.length_cons,List.length_nil] at hn;omega)
        |(refine absurd ?_ (show ¬GrpOk l by assumption);rw [g3];first|exact grp_nil|exact grp_one g4))
set_option maxHeartbeats 2000000
theorem codes_dec {s:ByteArray} (h:s∈codes):∀p,p<s.size->((Utf8.decode s p).1:Int)=chr s p/\(Utf8.decode s p).2=1:=by
  have h2:∀s∈codes,∀p:Fin 4,p.1<s.size->((Utf8.decode s p.1).1:Int)=chr s p.1/\(Utf8.decode s p.1).2=1:=by decide +kernel
  exact λp hp=>h2 s h ⟨p,by have:=(codes_ok s h).2.1;omega⟩ hp
theorem morL_zero {s:ByteArray} {q n:Nat} {x:Int} (h:q=0) (hn:n=q+1) (hx:x=if chr s q=45 then 15 else 5):morL s q++[x]=morL s n:=by
  subst h hn hx;rfl
theorem morL_pos {s:ByteArray} {q n:Nat} {x g:Int} (h:0<q) (hg:g=5) (hn:n=q+1) (hx:x=if chr s q=45 then 15 else 5):(morL s q++[g])++[x]=morL s n:=by
  subst hn hx hg
  conv=>rhs;unfold morL
  rw [if_neg (show ¬q=0 by omega),List.append_assoc]
theorem inner_pos {f g:Int} {A:List Int} {b:Bool} {j n:Int} (h:0<j) (hn:n=j+1):((A++innerL f g b j.toNat)++[g])++[f]=A++innerL f g b n.toNat:=by
  rw [hn,show (j+1).toNat=j.toNat+1 by omega]
  conv=>rhs;unfold innerL
  rw [if_neg (show ¬j.toNat=0 by omega)]
  simp only [List.append_assoc]
theorem inner_gap {f g x:Int} {A:List Int} {i:Int} {j n:Int} (h:j=0) (hi:0<i) (hn:n=j+1) (hx:x=g+20):((A++innerL f g (i.toNat == 0) j.toNat)++[x])++[f]=A++innerL f g (i.toNat == 0) n.toNat:=by
  subst h hn hx
  have e:(i.toNat == 0)=false:=by simp;omega
  rw [e]
  show ((A++[])++[g+20])++[f]=A++([]++([g+20]++[f]))
  simp
theorem inner_first {f g:Int} {A:List Int} {i:Int} {j n:Int} (h:j=0) (hi:i=0) (hn:n=j+1):(A++innerL f g (i.toNat == 0) j.toNat)++[f]=A++innerL f g (i.toNat == 0) n.toNat:=by
  subst h hi hn
  show (A++[])++[f]=A++([]++([]++[f]))
  simp
theorem inner_zero {f g:Int} {A:List Int} {b:Bool}:A=A++innerL f g b (0:Int).toNat:=by
  show A=A++[]
  simp
theorem outer_step {f g v:Int} {l:List Int} {i n j:Int} (h0:0<=i) (hv:l[i.toNat]? =some v) (hj:j=v) (hn:n=i+1):outerL f g l i.toNat++innerL f g (i.toNat == 0) j.toNat=outerL f g l n.toNat:=by
  subst hj
  rw [hn,show (i+1).toNat=i.toNat+1 by omega]
  conv=>rhs;unfold outerL
  rw [List.getD_eq_getElem?_getD,hv];rfl
theorem outIn_len {f g:Int} {l:List Int} (h:∀x∈l,1<=x/\x<=9) {i j:Nat} (b:Bool) (hi:i<=4) (hj:j<=9):(outerL f g l i++innerL f g b j).length<=90:=by
  have h1:=outerL_len (f:=f) (g:=g) h i
  have h2:=innerL_len f g b j
  rw [List.length_append];omega
/- Morse -/
theorem timesM_ (p:Int) (le co:ByteArray) (hle:LetOk le) {rs:List (List AV)} {t:Bool}:AC Tryz.prog 371 [.agg [.int .i64 8,.sl t 1 rs,.str le,.str co,.int .i64 p]] (λl:List Int=> .sl true 1 (l.map intR)) (timesR 8 [] le):=by
  refine ac Tryz.func371 (.ints _) λE K hE hK=>?_
  conv=>cbv
  refine callIII hE (rhythm_ 8 (by omega)) λf g r hf hg hr=>?_
  replace hf:f=5:=hf
  replace hg:g=5:=hg
  conv=>cbv
  refine eqT hE rfl ?_
  conv=>cbv
  refine callI hE (signsOf_ le) λs hs=>?_
  rw [if_pos hle] at hs
  have hmem:=sgnT_mem hle
  rw [←hs] at hmem
  have hok:=codes_ok s hmem
  conv=>cbv
  refine loop2 hE [3,4,28] [6] (λ(q:Nat) (es:List (List AV))=>([(6,.ob 1)],[.box [.int .i64 8,.sl t 1 rs,.str le,.str co,.int .i64 p],.row 1 es,.iter s q],((s.size:Int) - q),q<=s.size/\es=(morL s q).map intR)) [0,1,2] ((0,[])) rfl rfl (by dsimp only;exact ⟨by omega,rfl⟩) λq es hi Kn hN=>?_
  (try dsimp only at hi)
  conv=>cbv
  obtain ⟨h0,hinv⟩:=hi
  have hlen:=morL_len s q
  refine nxtI hE (chr s) (codes_dec hmem) (λq' r' n hq hq' hr' hn=>?_) (λhq=>?_)<;>conv=>cbv
  · have hch:=hok.2.2 q hq
    repeat' first
      |(refine hN (_,_) _ [0,6,2] (by decide) rfl ⟨?_,?_⟩ ?_<;>(try dsimp only))
      |(refine hN (_,_) _ [0,4,2] (by decide) rfl ⟨?_,?_⟩ ?_<;>(try dsimp only))
      |((first
     |refine mul64 hE (by omega) (λm hm=>?_)
     |refine q0 hE ?_
     |refine catP (R:=intR) hE (by assumption) (by rfl) (by (first|omega|(rw [List.length_append];simp only [List.length_cons,List.length_nil];omega))) (λ_ _=>?_)
     |refine B0 hE ?_|refine B1 hE ?_ ?_|refine B2 hE ?_)<;>intros<;>(try conv=>cbv))
    all_goals (try clear hN)
    all_goals first
      |omega
      |(subst_vars;refine congrArg (List.map intR) (morL_pos (by omega) rfl rfl ?_);((first|rw [if_pos (by omega)]|rw [if_neg (by omega)])<;>omega))
      |(subst_vars;refine congrArg (List.map intR) (morL_zero (by omega) rfl ?_);((first|rw [if_pos (by omega)]|rw [if_neg (by omega)])<;>omega))
  · refine hK _ ?_
    rw [hinv,show q=s.size by omega]
    unfold timesR
    rw [if_pos rfl,←hs];rfl
/- flashes -/
theorem timesN_ (k p:Int) (le co:ByteArray) {rs:List (List AV)} {t:Bool} {l:List Int} (hl:rs=l.map intR) (hs:ShapeOk k l le) (hk:k=2∨k=4∨k=5∨k=6∨k=7) (hne:l≠[]):AC Tryz.prog 371 [.agg [.int .i64 k,.sl t 1 rs,.str le,.str co,.int .i64 p]] (λl:List Int=> .sl true 1 (l.map intR)) (timesR k l le):=by
  refine ac Tryz.func371 (.ints _) λE K hE hK=>?_
  conv=>cbv
  have hgb:=grpOr_bd hs.grp
  have hor:grpOr l=l:=by unfold grpOr;rw [if_neg hne]
  rw [hor] at hgb
  have hfb:=flashR_bd k
  have hgp:=gapR_bd k
  refine callIII hE (rhythm_ k (by omega)) λf g r hf hg hr=>?_
  simp only at hf hg
  rw [←hf] at hfb
  rw [←hg] at hgp
  conv=>cbv
  refine eqF hE (by omega) ?_
  conv=>cbv
  refine lenL hE hl λn0 hn0 hb0=>?_
  have hnl:=nil_len hn0
  conv=>cbv
  (first|refine eqT hE (hnl.2 hne) ?_|refine eqF hE (λh=>hne (hnl.1 h)) ?_)
  conv=>cbv
  refine lenL (R:=intR) (l:=l) hE hl λn hn hb=>?_
  conv=>cbv
  refine loop2 hE [1,3,4,58,59] [60,10] (λ(i:Int) (es:List (List AV))=>([(60,.int .i64 i),(10,.ob 1)],[.box [.int .i64 k,.sl t 1 rs,.str le,.str co,.int .i64 p],.row 1 es],n - i,(0<=i/\i<=n)/\es=(outerL f g l i.toNat).map intR)) [0,1] ((0,[])) rfl rfl (by dsimp only;exact ⟨by omega,rfl⟩) λi es hi Kn hN=>?_
  (try dsimp only at hi)
  conv=>cbv
  obtain ⟨h0,hinv⟩:=hi
  refine ltI hE (λhlt=>?_) (λhge=>?_)<;>conv=>cbv
  · refine idxL (R:=intR) (l:=l) hE hl (by omega) λv hv=>?_
    have hv2:=hgb.1 v (List.mem_of_getElem? hv)
    conv=>cbv
    repeat' first
      |((refine loop2 hE [1,3,4,11,58,59,60,65] [66,10] (λ(j:Int) (es2:List (List AV))=>([(66,.int .i64 j),(10,.ob 1)],[.box [.int .i64 k,.sl t 1 rs,.str le,.str co,.int .i64 p],.row 1 es2],v - j,(0<=j/\j<=v)/\es2=(outerL f g l i.toNat++innerL f g (i.toNat == 0) j.toNat).map intR)) [0,1] ((0,es)) rfl rfl (by dsimp only;exact ⟨by omega,by rw [hinv];exact congrArg (List.map intR) inner_zero⟩) λj es2 hi2 Kn2 hN2=>?_;(try dsimp only at hi2);conv=>cbv);obtain ⟨h1,h2⟩:=hi2;have hln:=outIn_len (f:=f) (g:=g) hgb.1 (i:=i.toNat) (j:=j.toNat) (i.toNat == 0) (by omega) (by omega))
      |(refine hN (_,_) _ [0,1] (by decide) rfl ⟨?_,?_⟩ ?_<;>(try dsimp only))
      |(refine hN2 (_,_) _ [0,5] (by decide) rfl ⟨?_,?_⟩ ?_<;>(try dsimp only))
      |(refine hN2 (_,_) _ [0,3] (by decide) rfl ⟨?_,?_⟩ ?_<;>(try dsimp only))
      |((first
     |refine idxV (R:=intR) (l:=l) hE hl (by omega) hv ?_
     |refine q0 hE ?_
     |refine catP (R:=intR) hE (by assumption) (by rfl) (by (first|omega|(rw [List.length_append];simp only [List.length_cons,List.length_nil];omega))) (λ_ _=>?_)
     |refine B0 hE ?_|refine B1 hE ?_ ?_|refine B2 hE ?_)<;>intros<;>(try conv=>cbv))
    all_goals (try clear hN)
    all_goals (try clear hN2)
    all_goals first
      |omega
      |(clear hK hf hg;subst_vars;exact congrArg (List.map intR) (inner_pos (by omega) rfl))
      |(clear hK hf hg;subst_vars;exact congrArg (List.map intR) (inner_gap (by omega) (by omega) rfl rfl))
      |(clear hK hf hg;subst_vars;exact congrArg (List.map intR) (inner_first (by omega) (by omega) rfl))
      |(rw [h2];exact congrArg (List.map intR) (outer_step h0.1 hv (by omega) (by assumption)))
  · have hlen:=outerL_len (f:=f) (g:=g) hgb.1 i.toNat
    have hil:i.toNat=(l).length:=by omega
    repeat' first
      |((first
     |refine q0 hE ?_
     |refine catL (R:=intR) (m:=[_,20]) hE (by assumption) (by rfl) (by simp only [List.length_cons,List.length_nil];omega) (λ_ _=>?_)
     |refine B0 hE ?_|refine B1 hE ?_ ?_|refine B2 hE ?_)<;>intros<;>(try conv=>cbv))
    all_goals (try clear hN)
    all_goals first
      |(refine hK _ ?_;unfold timesR;rw [if_neg (by omega),if_neg (by assumption),hor,←hf,←hg,←hil];rename_i e;rw [e];rfl)
      |(refine hK _ ?_;unfold timesR;rw [if_neg (by omega),if_pos (by assumption),hor,←hf,←hg,←hil,hinv,List.append_nil];rfl)
theorem timesE_ (k p:Int) (le co:ByteArray) {rs:List (List AV)} {t:Bool} {l:List Int} (hl:rs=l.map intR) (hs:ShapeOk k l le) (hk:k=2∨k=4∨k=5∨k=6∨k=7) (hne:l=[]):AC Tryz.prog 371 [.agg [.int .i64 k,.sl t 1 rs,.str le,.str co,.int .i64 p]] (λl:List Int=> .sl true 1 (l.map intR)) (timesR k l le):=by
  refine ac Tryz.func371 (.ints _) λE K hE hK=>?_
  conv=>cbv
  have hgb:=grpOr_bd hs.grp
  have hor:grpOr l=([1]:List Int):=by unfold grpOr;rw [if_pos hne]
  rw [hor] at hgb
  have hfb:=flashR_bd k
  have hgp:=gapR_bd k
  refine callIII hE (rhythm_ k (by omega)) λf g r hf hg hr=>?_
  simp only at hf hg
  rw [←hf] at hfb
  rw [←hg] at hgp
  conv=>cbv
  refine eqF hE (by omega) ?_
  conv=>cbv
  refine lenL hE hl λn0 hn0 hb0=>?_
  have hnl:=nil_len hn0
  conv=>cbv
  (first|refine eqT hE (hnl.2 hne) ?_|refine eqF hE (λh=>hne (hnl.1 h)) ?_)
  conv=>cbv
  refine lenL (R:=intR) (l:=([1]:List Int)) hE (by rfl) λn hn hb=>?_
  conv=>cbv
  refine loop2 hE [1,3,4,58,59] [60,10] (λ(i:Int) (es:List (List AV))=>([(60,.int .i64 i),(10,.ob 2)],[.box [.int .i64 k,.sl t 1 rs,.str le,.str co,.int .i64 p],.row 1 [[.int .i64 1]],.row 1 es],n - i,(0<=i/\i<=n)/\es=(outerL f g ([1]:List Int) i.toNat).map intR)) [0,1,2] ((0,[])) rfl rfl (by dsimp only;exact ⟨by omega,rfl⟩) λi es hi Kn hN=>?_
  (try dsimp only at hi)
  conv=>cbv
  obtain ⟨h0,hinv⟩:=hi
  refine ltI hE (λhlt=>?_) (λhge=>?_)<;>conv=>cbv
  · refine idxL (R:=intR) (l:=([1]:List Int)) hE (by rfl) (by omega) λv hv=>?_
    have hv2:=hgb.1 v (List.mem_of_getElem? hv)
    conv=>cbv
    repeat' first
      |((refine loop2 hE [1,3,4,11,58,59,60,65] [66,10] (λ(j:Int) (es2:List (List AV))=>([(66,.int .i64 j),(10,.ob 2)],[.box [.int .i64 k,.sl t 1 rs,.str le,.str co,.int .i64 p],.row 1 [[.int .i64 1]],.row 1 es2],v - j,(0<=j/\j<=v)/\es2=(outerL f g ([1]:List Int) i.toNat++innerL f g (i.toNat == 0) j.toNat).map intR)) [0,1,2] ((0,es)) rfl rfl (by dsimp only;exact ⟨by omega,by rw [hinv];exact congrArg (List.map intR) inner_zero⟩) λj es2 hi2 Kn2 hN2=>?_;(try dsimp only at hi2);conv=>cbv);obtain ⟨h1,h2⟩:=hi2;have hln:=outIn_len (f:=f) (g:=g) hgb.1 (i:=i.toNat) (j:=j.toNat) (i.toNat == 0) (by omega) (by omega))
      |(refine hN (_,_) _ [0,1,2] (by decide) rfl ⟨?_,?_⟩ ?_<;>(try dsimp only))
      |(refine hN2 (_,_) _ [0,1,6] (by decide) rfl ⟨?_,?_⟩ ?_<;>(try dsimp only))
      |(refine hN2 (_,_) _ [0,1,4] (by decide) rfl ⟨?_,?_⟩ ?_<;>(try dsimp only))
      |((first
     |refine idxV (R:=intR) (l:=([1]:List Int)) hE (by rfl) (by omega) hv ?_
     |refine q0 hE ?_
     |refine catP (R:=intR) hE (by assumption) (by rfl) (by (first|omega|(rw [List.length_append];simp only [List.length_cons,List.length_nil];omega))) (λ_ _=>?_)
     |refine B0 hE ?_|refine B1 hE ?_ ?_|refine B2 hE ?_)<;>intros<;>(try conv=>cbv))
    all_goals (try clear hN)
    all_goals (try clear hN2)
    all_goals first
      |omega
      |(clear hK hf hg;subst_vars;exact congrArg (List.map intR) (inner_pos (by omega) rfl))
      |(clear hK hf hg;subst_vars;exact congrArg (List.map intR) (inner_gap (by omega) (by omega) rfl rfl))
      |(clear hK hf hg;subst_vars;exact congrArg (List.map intR) (inner_first (by omega) (by omega) rfl))
      |(rw [h2];exact congrArg (List.map intR) (outer_step h0.1 hv (by omega) (by assumption)))
  · have hlen:=outerL_len (f:=f) (g:=g) hgb.1 i.toNat
    have hil:i.toNat=(([1]:List Int)).length:=by omega
    repeat' first
      |((first
     |refine q0 hE ?_
     |refine catL (R:=intR) (m:=[_,20]) hE (by assumption) (by rfl) (by simp only [List.length_cons,List.length_nil];omega) (λ_ _=>?_)
     |refine B0 hE ?_|refine B1 hE ?_ ?_|refine B2 hE ?_)<;>intros<;>(try conv=>cbv))
    all_goals (try clear hN)
    all_goals first
      |(refine hK _ ?_;unfold timesR;rw [if_neg (by omega),if_neg (by assumption),hor,←hf,←hg,←hil];rename_i e;rw [e];rfl)
      |(refine hK _ ?_;unfold timesR;rw [if_neg (by omega),if_pos (by assumption),hor,←hf,←hg,←hil,hinv,List.append_nil];rfl)
theorem times_ (k p:Int) (le co:ByteArray) {rs:List (List AV)} {t:Bool} {l:List Int} (hl:rs=l.map intR) (hs:ShapeOk k l le) (hk:k≠1/\k≠3):AC Tryz.prog 371 [.agg [.int .i64 k,.sl t 1 rs,.str le,.str co,.int .i64 p]] (λl:List Int=> .sl true 1 (l.map intR)) (timesR k l le):=by
  have hkk:=hs.kind
  by_cases h8:k=8
  · subst h8
    have hle:LetOk le/\l=[]:=by
      rcases hs with h|h|h|h
      · omega
      · omega
      · omega
      · exact h.2
    rw [hle.2]
    exact timesM_ p le co hle.1
  · by_cases hne:l=[]
    · exact timesE_ k p le co hl hs (by omega) hne
    · exact timesN_ k p le co hl hs (by omega) hne
def morD (s:ByteArray):Nat->List Int
  |0=>[]
  |j+1=>morD s j++[if chr s j=46 then 5 else 15]
theorem morD_len (s:ByteArray):∀j,(morD s j).length=j
  |0=>rfl
  |j+1=>by unfold morD;rw [List.length_append,morD_len s j];rfl
theorem morD_get {s:ByteArray} {i:Nat}:∀{j:Nat},i<j->(morD s j)[i]? =some (if chr s i=46 then 5 else 15)
  |0,h=>by omega
  | j +1,h=>by
    unfold morD
    by_cases e:i=j
    · subst e
      rw [List.getElem?_append_right (by rw [morD_len];omega),morD_len,Nat.sub_self];rfl
    · rw [List.getElem?_append_left (by rw [morD_len];omega)]
      exact morD_get (by omega)
theorem morD_succ {s:ByteArray} {i n x:Int} (h0:0<=i) (hn:n=i+1) (hx:x=if chr s i.toNat=46 then 5 else 15):morD s i.toNat++[x]=morD s n.toNat:=by
  rw [hn,show (i+1).toNat=i.toNat+1 by omega,hx];rfl
theorem l05Morse_ (le:ByteArray) (n0:Int) (hle:LetOk le) (hn0:n0=chr le 0):AC Tryz.prog 350 [.int .u8 n0] (λl:List Int=> .sl true 1 (l.map intR)) (morD (sgnT le) (sgnT le).size):=by
  refine ac Tryz.func350 (.ints _) λE K hE hK=>?_
  conv=>cbv
  have h26:=codes_len
  have hle2:=hle.2
  have hmem:=sgnT_mem hle
  have hok:=codes_ok _ hmem
  refine subI hE λb hb2=>?_
  rw [IntWalk.u8_in _ ⟨by omega,by omega⟩] at hb2
  conv=>cbv
  refine idxL (R:=strR) (l:=codes) hE (by rfl) (by omega) λs hv=>?_
  have hs:=codes_get hle (by omega) hv
  rw [←hs] at hok hK
  conv=>cbv
  refine idxV (R:=strR) (l:=codes) hE (by rfl) (by omega) hv ?_
  conv=>cbv
  refine loop2 hE [4] [6,5] (λ(i:Int) (es:List (List AV))=>([(6,.int .i64 i),(5,.ob 0)],[.row 1 es],s.size - i,(0<=i/\i<=s.size)/\es=(morD s i.toNat).map intR)) [1] ((0,[])) rfl rfl (by dsimp only;exact ⟨by omega,rfl⟩) λi es hi Kn hN=>?_
  (try dsimp only at hi)
  conv=>cbv
  obtain ⟨h0,hinv⟩:=hi
  have hlen:=morD_len s i.toNat
  repeat' first
    |(refine hN (_,_) _ [2] (by decide) rfl ⟨?_,?_⟩ ?_<;>(try dsimp only))
    |((first
   |(refine sidxI hE (by omega) (λa ha _ _=>?_);(replace ha:a=chr s i.toNat:=ha))
   |refine q0 hE ?_
   |refine catP (R:=intR) hE (by assumption) (by rfl) (by omega) (λ_ _=>?_)
   |refine B0 hE ?_|refine B1 hE ?_ ?_|refine B2 hE ?_)<;>intros<;>(try conv=>cbv))
  all_goals (try clear hN)
  all_goals first
    |omega
    |(rename_i e1 _ e2;clear hK;rw [e1];refine congrArg (List.map intR) (morD_succ h0.1 (by assumption) ?_);first|rw [if_pos (by omega)]|rw [if_neg (by omega)])
    |(refine hK _ ?_;rw [hinv,show i.toNat=s.size by omega];rfl)
theorem sTimesM_ (p:Int) (le co:ByteArray) (hle:LetOk le) {rs:List (List AV)} {t:Bool}:AC Tryz.prog 317 [.pp [.int .i64 8,.sl t 1 rs,.str le,.str co,.int .i64 p]] (λl:List Int=> .sl true 1 (l.map intR)) (timesR 8 [] le):=by
  refine ac Tryz.func317 (.ints _) λE K hE hK=>?_
  conv=>cbv
  have hok:=codes_ok _ (sgnT_mem hle)
  refine eqT hE rfl ?_
  conv=>cbv
  refine sidxI hE (by have:=hle.1;omega) λa ha _ _=>?_
  replace ha:a=chr le 0:=ha
  conv=>cbv
  refine callR hE (l05Morse_ le a hle ha) λds hds=>?_
  obtain ⟨s,hs⟩:∃s,s=sgnT le:=⟨_,rfl⟩
  rw [←hs] at hds hok
  have hdl:=morD_len s s.size
  conv=>cbv
  refine loop2 hE [4] [5,3] (λ(i:Int) (es:List (List AV))=>([(5,.int .i64 i),(3,.ob 0)],[.row 1 es,.row 1 ds],s.size - i,(0<=i/\i<=s.size)/\es=(morL s i.toNat).map intR)) [0,1] ((0,[])) rfl rfl (by dsimp only;exact ⟨by omega,rfl⟩) λi es hi Kn hN=>?_
  (try dsimp only at hi)
  conv=>cbv
  obtain ⟨h0,hinv⟩:=hi
  have hlen:=morL_len s i.toNat
  repeat' first
    |(refine hN (_,_) _ [5,1] (by decide) rfl ⟨?_,?_⟩ ?_<;>(try dsimp only))
    |(refine hN (_,_) _ [3,1] (by decide) rfl ⟨?_,?_⟩ ?_<;>(try dsimp only))
    |((first
   |(refine idxL (R:=intR) hE hds (by omega) (λv hv=>?_);rw [morD_get (by omega)] at hv;(replace hv:=(Option.some.inj hv).symm);have hch:=hok.2.2 i.toNat (by omega))
   |refine q0 hE ?_
   |refine catP (R:=intR) hE (by assumption) (by rfl) (by (first|omega|(rw [List.length_append];simp only [List.length_cons,List.length_nil];omega))) (λ_ _=>?_)
   |refine B0 hE ?_|refine B1 hE ?_ ?_|refine B2 hE ?_)<;>intros<;>(try conv=>cbv))
  all_goals (try clear hN)
  all_goals first
    |omega
    |(clear hK;subst_vars;refine congrArg (List.map intR) (morL_pos (n:=(i+1).toNat) (by omega) rfl (by omega) ?_);rcases hch with hch|hch<;>rw [hch]<;>rfl)
    |(clear hK;subst_vars;refine congrArg (List.map intR) (morL_zero (n:=(i+1).toNat) (by omega) (by omega) ?_);rcases hch with hch|hch<;>rw [hch]<;>rfl)
    |(refine hK _ ?_;unfold timesR;rw [if_pos rfl,←hs,hinv,show i.toNat=s.size by omega];rfl)
theorem sTimesN_ (k p:Int) (le co:ByteArray) {rs:List (List AV)} {t:Bool} {l:List Int} (hl:rs=l.map intR) (hs:ShapeOk k l le) (hk:k=2∨k=4∨k=5∨k=6∨k=7) (hne:l≠[]):AC Tryz.prog 317 [.pp [.int .i64 k,.sl t 1 rs,.str le,.str co,.int .i64 p]] (λl:List Int=> .sl true 1 (l.map intR)) (timesR k l le):=by
  refine ac Tryz.func317 (.ints _) λE K hE hK=>?_
  conv=>cbv
  have hgb:=grpOr_bd hs.grp
  have hor:grpOr l=l:=by unfold grpOr;rw [if_neg hne]
  rw [hor] at hgb
  have hfb:=flashR_bd k
  have hgp:=gapR_bd k
  have hF:=l05Flash_ k
  have hG:=l05Gap_ k
  have hlet:=hs.letter
  obtain ⟨f,hf⟩:∃f,f=flashR k:=⟨_,rfl⟩
  obtain ⟨g,hg⟩:∃g,g=gapR k:=⟨_,rfl⟩
  rw [←hf] at hfb hF
  rw [←hg] at hgp hG
  refine eqF hE (by omega) ?_
  conv=>cbv
  refine lenL hE hl λn0 hn0 hb0=>?_
  have hnl:=nil_len hn0
  conv=>cbv
  (first|refine eqT hE (hnl.2 hne) ?_|refine eqF hE (λh=>hne (hnl.1 h)) ?_)
  conv=>cbv
  refine loop2 hE [0,6] [7,3] (λ(i:Int) (es:List (List AV))=>([(7,.int .i64 i),(3,.ob 0)],[.row 1 es],(l).length - i,(0<=i/\i<=(l).length)/\es=(outerL f g l i.toNat).map intR)) [0] ((0,[])) rfl rfl (by dsimp only;exact ⟨by simp,rfl⟩) λi es hi Kn hN=>?_
  (try dsimp only at hi)
  conv=>cbv
  obtain ⟨h0,hinv⟩:=hi
  refine lenL (R:=intR) (l:=l) hE hl λn hn hb=>?_
  conv=>cbv
  refine ltI hE (λhlt=>?_) (λhge=>?_)<;>conv=>cbv
  · obtain ⟨v,hv⟩:∃v,(l)[i.toNat]? =some v:=⟨_,List.getElem?_eq_getElem (by omega)⟩
    have hv2:=hgb.1 v (List.mem_of_getElem? hv)
    repeat' first
      |((refine loop2 hE [0,6,7] [8,3] (λ(j:Int) (es2:List (List AV))=>([(8,.int .i64 j),(3,.ob 0)],[.row 1 es2],v - j,(0<=j/\j<=v)/\es2=(outerL f g l i.toNat++innerL f g (i.toNat == 0) j.toNat).map intR)) [0] ((0,es)) rfl rfl (by dsimp only;exact ⟨by omega,by rw [hinv];exact congrArg (List.map intR) inner_zero⟩) λj es2 hi2 Kn2 hN2=>?_;(try dsimp only at hi2);conv=>cbv);obtain ⟨h1,h2⟩:=hi2;have hln:=outIn_len (f:=f) (g:=g) hgb.1 (i:=i.toNat) (j:=j.toNat) (i.toNat == 0) (by omega) (by omega))
      |(refine hN (_,_) _ [0] (by decide) rfl ⟨?_,?_⟩ ?_<;>(try dsimp only))
      |(refine hN2 (_,_) _ [4] (by decide) rfl ⟨?_,?_⟩ ?_<;>(try dsimp only))
      |(refine hN2 (_,_) _ [2] (by decide) rfl ⟨?_,?_⟩ ?_<;>(try dsimp only))
      |((first
     |refine idxV (R:=intR) (l:=l) hE hl (by omega) hv ?_
     |((refine callI hE hG (λy hy=>?_);subst hy))
     |((refine callI hE hF (λy hy=>?_);subst hy))
     |refine q0 hE ?_
     |refine catP (R:=intR) hE (by assumption) (by rfl) (by (first|omega|(rw [List.length_append];simp only [List.length_cons,List.length_nil];omega))) (λ_ _=>?_)
     |refine B0 hE ?_|refine B1 hE ?_ ?_|refine B2 hE ?_)<;>intros<;>(try conv=>cbv))
    all_goals (try clear hN)
    all_goals (try clear hN2)
    all_goals first
      |omega
      |(clear hK hf hg hF hG;subst_vars;exact congrArg (List.map intR) (inner_pos (by omega) rfl))
      |(clear hK hf hg hF hG;subst_vars;exact congrArg (List.map intR) (inner_gap (by omega) (by omega) rfl rfl))
      |(clear hK hf hg hF hG;subst_vars;exact congrArg (List.map intR) (inner_first (by omega) (by omega) rfl))
      |(rw [h2];exact congrArg (List.map intR) (outer_step h0.1 hv (by omega) (by assumption)))
  · have hlen:=outerL_len (f:=f) (g:=g) hgb.1 i.toNat
    have hil:i.toNat=(l).length:=by omega
    repeat' first
      |((first
     |((refine callI hE hG (λy hy=>?_);subst hy))
     |refine q0 hE ?_
     |refine catL (R:=intR) (m:=[_,20]) hE (by assumption) (by rfl) (by simp only [List.length_cons,List.length_nil];omega) (λ_ _=>?_)
     |refine B0 hE ?_|refine B1 hE ?_ ?_|refine B2 hE ?_)<;>intros<;>(try conv=>cbv))
    all_goals (try clear hN)
    all_goals first
      |(refine hK _ ?_;unfold timesR;rw [if_neg (by omega),if_neg (by rintro rfl;contradiction),hor,←hf,←hg,←hil];rename_i e;rw [e];rfl)
      |(refine hK _ ?_;unfold timesR;rw [if_neg (by omega),if_pos (by rcases hlet with h|⟨_,h|h⟩;omega;exact h;contradiction),hor,←hf,←hg,←hil,hinv,List.append_nil];rfl)
theorem sTimesE_ (k p:Int) (le co:ByteArray) {rs:List (List AV)} {t:Bool} {l:List Int} (hl:rs=l.map intR) (hs:ShapeOk k l le) (hk:k=2∨k=4∨k=5∨k=6∨k=7) (hne:l=[]):AC Tryz.prog 317 [.pp [.int .i64 k,.sl t 1 rs,.str le,.str co,.int .i64 p]] (λl:List Int=> .sl true 1 (l.map intR)) (timesR k l le):=by
  refine ac Tryz.func317 (.ints _) λE K hE hK=>?_
  conv=>cbv
  have hgb:=grpOr_bd hs.grp
  have hor:grpOr l=([1]:List Int):=by unfold grpOr;rw [if_pos hne]
  rw [hor] at hgb
  have hfb:=flashR_bd k
  have hgp:=gapR_bd k
  have hF:=l05Flash_ k
  have hG:=l05Gap_ k
  have hlet:=hs.letter
  obtain ⟨f,hf⟩:∃f,f=flashR k:=⟨_,rfl⟩
  obtain ⟨g,hg⟩:∃g,g=gapR k:=⟨_,rfl⟩
  rw [←hf] at hfb hF
  rw [←hg] at hgp hG
  refine eqF hE (by omega) ?_
  conv=>cbv
  refine lenL hE hl λn0 hn0 hb0=>?_
  have hnl:=nil_len hn0
  conv=>cbv
  (first|refine eqT hE (hnl.2 hne) ?_|refine eqF hE (λh=>hne (hnl.1 h)) ?_)
  conv=>cbv
  refine loop2 hE [0,6] [7,3] (λ(i:Int) (es:List (List AV))=>([(7,.int .i64 i),(3,.ob 0)],[.row 1 es,.row 1 [[.int .i64 1]]],(([1]:List Int)).length - i,(0<=i/\i<=(([1]:List Int)).length)/\es=(outerL f g ([1]:List Int) i.toNat).map intR)) [0,1] ((0,[])) rfl rfl (by dsimp only;exact ⟨by simp,rfl⟩) λi es hi Kn hN=>?_
  (try dsimp only at hi)
  conv=>cbv
  obtain ⟨h0,hinv⟩:=hi
  refine lenL (R:=intR) (l:=([1]:List Int)) hE (by rfl) λn hn hb=>?_
  conv=>cbv
  refine ltI hE (λhlt=>?_) (λhge=>?_)<;>conv=>cbv
  · obtain ⟨v,hv⟩:∃v,(([1]:List Int))[i.toNat]? =some v:=⟨_,List.getElem?_eq_getElem (by omega)⟩
    have hv2:=hgb.1 v (List.mem_of_getElem? hv)
    repeat' first
      |((refine loop2 hE [0,6,7] [8,3] (λ(j:Int) (es2:List (List AV))=>([(8,.int .i64 j),(3,.ob 0)],[.row 1 es2,.row 1 [[.int .i64 1]]],v - j,(0<=j/\j<=v)/\es2=(outerL f g ([1]:List Int) i.toNat++innerL f g (i.toNat == 0) j.toNat).map intR)) [0,1] ((0,es)) rfl rfl (by dsimp only;exact ⟨by omega,by rw [hinv];exact congrArg (List.map intR) inner_zero⟩) λj es2 hi2 Kn2 hN2=>?_;(try dsimp only at hi2);conv=>cbv);obtain ⟨h1,h2⟩:=hi2;have hln:=outIn_len (f:=f) (g:=g) hgb.1 (i:=i.toNat) (j:=j.toNat) (i.toNat == 0) (by omega) (by omega))
      |(refine hN (_,_) _ [0,1] (by decide) rfl ⟨?_,?_⟩ ?_<;>(try dsimp only))
      |(refine hN2 (_,_) _ [5,1] (by decide) rfl ⟨?_,?_⟩ ?_<;>(try dsimp only))
      |(refine hN2 (_,_) _ [3,1] (by decide) rfl ⟨?_,?_⟩ ?_<;>(try dsimp only))
      |((first
     |refine idxV (R:=intR) (l:=([1]:List Int)) hE (by rfl) (by omega) hv ?_
     |((refine callI hE hG (λy hy=>?_);subst hy))
     |((refine callI hE hF (λy hy=>?_);subst hy))
     |refine q0 hE ?_
     |refine catP (R:=intR) hE (by assumption) (by rfl) (by (first|omega|(rw [List.length_append];simp only [List.length_cons,List.length_nil];omega))) (λ_ _=>?_)
     |refine B0 hE ?_|refine B1 hE ?_ ?_|refine B2 hE ?_)<;>intros<;>(try conv=>cbv))
    all_goals (try clear hN)
    all_goals (try clear hN2)
    all_goals first
      |omega
      |(clear hK hf hg hF hG;subst_vars;exact congrArg (List.map intR) (inner_pos (by omega) rfl))
      |(clear hK hf hg hF hG;subst_vars;exact congrArg (List.map intR) (inner_gap (by omega) (by omega) rfl rfl))
      |(clear hK hf hg hF hG;subst_vars;exact congrArg (List.map intR) (inner_first (by omega) (by omega) rfl))
      |(rw [h2];exact congrArg (List.map intR) (outer_step h0.1 hv (by omega) (by assumption)))
  · have hlen:=outerL_len (f:=f) (g:=g) hgb.1 i.toNat
    have hil:i.toNat=(([1]:List Int)).length:=by omega
    repeat' first
      |((first
     |((refine callI hE hG (λy hy=>?_);subst hy))
     |refine q0 hE ?_
     |refine catL (R:=intR) (m:=[_,20]) hE (by assumption) (by rfl) (by simp only [List.length_cons,List.length_nil];omega) (λ_ _=>?_)
     |refine B0 hE ?_|refine B1 hE ?_ ?_|refine B2 hE ?_)<;>intros<;>(try conv=>cbv))
    all_goals (try clear hN)
    all_goals first
      |(refine hK _ ?_;unfold timesR;rw [if_neg (by omega),if_neg (by rintro rfl;contradiction),hor,←hf,←hg,←hil];rename_i e;rw [e];rfl)
      |(refine hK _ ?_;unfold timesR;rw [if_neg (by omega),if_pos (by rcases hlet with h|⟨_,h|h⟩;omega;exact h;contradiction),hor,←hf,←hg,←hil,hinv,List.append_nil];rfl)
theorem sTimes_ (k p:Int) (le co:ByteArray) {rs:List (List AV)} {t:Bool} {l:List Int} (hl:rs=l.map intR) (hs:ShapeOk k l le) (hk:k≠1/\k≠3):AC Tryz.prog 317 [.pp [.int .i64 k,.sl t 1 rs,.str le,.str co,.int .i64 p]] (λl:List Int=> .sl true 1 (l.map intR)) (timesR k l le):=by
  have hkk:=hs.kind
  by_cases h8:k=8
  · subst h8
    have hle:LetOk le/\l=[]:=by
      rcases hs with h|h|h|h
      · omega
      · omega
      · omega
      · exact h.2
    rw [hle.2]
    exact sTimesM_ p le co hle.1
  · by_cases hne:l=[]
    · exact sTimesE_ k p le co hl hs (by omega) hne
    · exact sTimesN_ k p le co hl hs (by omega) hne
theorem rest_gap (k:Int):((k=2∨k=4∨k=5)->gapR k+5=restR k)/\(k=6->restR k=20)/\(k=7->restR k=10)/\(k=8->restR k=30):=by
  refine ⟨?_,?_,?_,?_⟩
  · rintro (rfl|rfl|rfl)<;>rfl
  · rintro rfl;rfl
  · rintro rfl;rfl
  · rintro rfl;rfl
theorem leastPeriod_ (k p:Int) (le co:ByteArray) {rs:List (List AV)} {t:Bool} {l:List Int} (hl:rs=l.map intR) (hs:ShapeOk k l le):AC Tryz.prog 340 [.agg [.int .i64 k,.sl t 1 rs,.str le,.str co,.int .i64 p]] (AV.int .i64) (leastR k l le):=by
  refine ac Tryz.func340 (.int _ _) λE K hE hK=>?_
  conv=>cbv
  have htb:=timesR_bd hs
  have hsb:=sum_bd htb.2
  have hrb:=restR_bd k
  have hkk:=hs.kind
  refine callP hE (isSteady_ k p le co hl) (λhst=>?_) (λhst=>?_)<;>conv=>cbv
  · exact hK _ (by unfold leastR;rw [if_pos hst];rfl)
  · refine eqI hE (λh3=>?_) (λh3=>?_)<;>conv=>cbv
    · exact hK _ (by unfold leastR;rw [if_neg hst,if_pos h3];rfl)
    · have hk1:k≠1:=λh=>hst (.inl h)
      refine callIII hE (rhythm_ k (by omega)) λf g r hf hg hr=>?_
      simp only at hr
      rw [←hr] at hrb
      conv=>cbv
      repeat' first
        |((first
       |refine callR hE (times_ k p le co hl hs ⟨hk1,h3⟩) (λts hts=>?_)
       |refine callI hE (sumOf_ (by assumption) htb.2 (by omega)) (λs hs2=>?_)
       |refine q0 hE ?_
       |refine B0 hE ?_|refine B1 hE ?_ ?_|refine B2 hE ?_)<;>intros<;>(try conv=>cbv))
      all_goals (refine hK _ ?_;unfold leastR;rw [if_neg hst,if_neg h3,←hr];show AV.int _ _=AV.int _ _;congr 1;(first|rw [if_pos (by omega)]|rw [if_neg (by omega)]);omega)
theorem l05Rest_ (k p:Int) (le co:ByteArray) {rs:List (List AV)} {t:Bool} {l:List Int} (hl:rs=l.map intR) (hs:ShapeOk k l le) (hk:k≠1/\k≠3):AC Tryz.prog 318 [.pp [.int .i64 k,.sl t 1 rs,.str le,.str co,.int .i64 p]] (AV.int .i64) (restR k+(if 1<l.length then 20 else 0)):=by
  refine ac Tryz.func318 (.int _ _) λE K hE hK=>?_
  conv=>cbv
  have hkk:=hs.kind
  have hgp:=gapR_bd k
  have hlen:(k=6∨k=7∨k=8)->l.length<=1:=λh=>by
    rcases hs with h1|h1|⟨_,⟨_,rfl|⟨x,rfl,_⟩⟩|⟨_,rfl⟩⟩|⟨_,_,rfl⟩
    · omega
    · omega
    · simp
    · simp
    · simp
    · simp
  repeat' first
    |((first
   |refine q0 hE ?_
   |refine callI hE (l05Gap_ _) (λ_ _=>?_)
   |refine B0 hE ?_|refine B1 hE ?_ ?_|refine B2 hE ?_)<;>intros<;>(try conv=>cbv))
  all_goals (have hgr:=rest_gap k;refine hK _ ?_;show AV.int _ _=AV.int _ _;congr 1;(first|rw [if_pos (by omega)]|rw [if_neg (by omega)]);omega)
theorem l05Least_ (k p:Int) (le co:ByteArray) {rs:List (List AV)} {t:Bool} {l:List Int} (hl:rs=l.map intR) (hs:ShapeOk k l le):AC Tryz.prog 267 [.pp [.int .i64 k,.sl t 1 rs,.str le,.str co,.int .i64 p]] (AV.int .i64) (leastR k l le):=by
  refine ac Tryz.func267 (.int _ _) λE K hE hK=>?_
  conv=>cbv
  have htb:=timesR_bd hs
  have hsb:=sum_bd htb.2
  have hrb:=restR_bd k
  refine callP hE (l05Steady_ k p le co hl) (λhst=>?_) (λhst=>?_)<;>conv=>cbv
  · exact hK _ (by unfold leastR;rw [if_pos hst];rfl)
  · refine eqI hE (λh3=>?_) (λh3=>?_)<;>conv=>cbv
    · exact hK _ (by unfold leastR;rw [if_neg hst,if_pos h3];rfl)
    · have hk1:k≠1:=λh=>hst (.inl h)
      repeat' first
        |((first
       |refine callR hE (sTimes_ k p le co hl hs ⟨hk1,h3⟩) (λts hts=>?_)
       |refine callI hE (l05Total_ (by assumption) htb.2 (by omega)) (λs hs2=>?_)
       |(refine callI hE (l05Rest_ k p le co hl hs ⟨hk1,h3⟩) (λr hr=>?_);(have hr2:r=restR k∨r=restR k+20:=by (split at hr<;>omega)))
       |refine q0 hE ?_
       |refine B0 hE ?_|refine B1 hE ?_ ?_|refine B2 hE ?_)<;>intros<;>(try conv=>cbv))
      all_goals (refine hK _ ?_;unfold leastR;rw [if_neg hst,if_neg h3];show AV.int _ _=AV.int _ _;congr 1;omega)
theorem validCharacter_ (k p:Int) (le co:ByteArray) {rs:List (List AV)} {t:Bool} {l:List Int} (hl:rs=l.map intR):AC Tryz.prog 300 [.agg [.int .i64 k,.sl t 1 rs,.str le,.str co,.int .i64 p]] AV.bool (bP (ChrOk k l le co p)):=by
  refine ac Tryz.func300 (.bool _) λE K hE hK=>?_
  conv=>cbv
  refine callP hE (areCharacterColors_ co) (λhc=>?_) (λhc=>?_)<;>conv=>cbv
  · refine callP hE (fits_ k p le co hl) (λhs=>?_) (λhs=>?_)<;>conv=>cbv
    · have hlb:=leastR_bd hs
      refine callP hE (isSteady_ k p le co hl) (λhst=>?_) (λhst=>?_)<;>conv=>cbv
      · refine eqI hE (λh=>?_) (λh=>?_)<;>conv=>cbv
        · exact finB hK (bP_true.2 ⟨hc,hs,λ_=>h,λh'=>absurd hst h'⟩)
        · exact finB hK (bP_false.2 λh'=>h (h'.2.2.1 hst))
      · skip
        repeat' first
          |((first
         |refine callI hE (leastPeriod_ k p le co hl hs) (λy hy=>?_)
         |refine q0 hE ?_
         |refine callP hE (within_ _ _ _) (λ_=>?_) (λ_=>?_)
         |refine B0 hE ?_|refine B1 hE ?_ ?_|refine B2 hE ?_)<;>intros<;>(try conv=>cbv))
        all_goals first
          |(refine finB hK (bP_true.2 ⟨hc,hs,λh'=>absurd h' hst,λ_=>⟨by omega,by omega,λ_=>by omega⟩⟩))
          |(refine finB hK (bP_false.2 λh'=>?_);have h2:=h'.2.2.2 hst;omega)
    · exact finB hK (bP_false.2 λh'=>hs h'.2.1)
  · exact finB hK (bP_false.2 λh'=>hc h'.1)
theorem l05Ok_ (k p:Int) (le co:ByteArray) {rs:List (List AV)} {t:Bool} {l:List Int} (hl:rs=l.map intR):AC Tryz.prog 213 [.pp [.int .i64 k,.sl t 1 rs,.str le,.str co,.int .i64 p]] AV.bool (bP (ChrOk k l le co p)):=by
  refine ac Tryz.func213 (.bool _) λE K hE hK=>?_
  conv=>cbv
  refine callP hE (l05Shape_ k p le co hl) (λhcs=>?_) (λhcs=>?_)<;>conv=>cbv
  · obtain ⟨hc,hs⟩:=hcs
    have hlb:=leastR_bd hs
    refine callP hE (l05Steady_ k p le co hl) (λhst=>?_) (λhst=>?_)<;>conv=>cbv
    · refine eqI hE (λh=>?_) (λh=>?_)<;>conv=>cbv
      · exact finB hK (bP_true.2 ⟨hc,hs,λ_=>h,λh'=>absurd hst h'⟩)
      · exact finB hK (bP_false.2 λh'=>h (h'.2.2.1 hst))
    · skip
      repeat' first
        |((first
       |refine callI hE (l05Least_ k p le co hl hs) (λy hy=>?_)
       |(refine remI hE (λm hm=>?_);(have hm2:=tmod2 p);rw [←hm] at hm2)
       |refine q0 hE ?_
       |refine callP hE (in_ _ _ _) (λ_=>?_) (λ_=>?_)
       |refine B0 hE ?_|refine B1 hE ?_ ?_|refine B2 hE ?_)<;>intros<;>(try conv=>cbv))
      all_goals first
        |(refine finB hK (bP_true.2 ⟨hc,hs,λh'=>absurd h' hst,λ_=>⟨by omega,by omega,λ_=>by omega⟩⟩))
        |(refine finB hK (bP_false.2 λh'=>?_);have h2:=h'.2.2.2 hst;omega)
  · exact finB hK (bP_false.2 λh'=>hcs ⟨h'.1,h'.2.1⟩)
end Go.Proofs.YtpfddoikhmbebaaGreatDoor
