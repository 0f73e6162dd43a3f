/- Contracts: names, times, comparisons of texts. -/
import Derived.Test.YtpfddoikhmbebaaGreatDoorFA
namespace Go.Proofs.YtpfddoikhmbebaaGreatDoor
open Go Go.RowKit Classical
set_option maxRecDepth 100000
set_option maxHeartbeats 2000000
set_option linter.unusedVariables false
set_option linter.unusedSimpArgs false
def chr (s:ByteArray) (j:Nat):Int:=((s.data.getD j 0).toNat:Int)
def isSm (n:Int):Prop:=97<=n/\n<=122
def isDg (n:Int):Prop:=48<=n/\n<=57
def NameC (s:ByteArray) (j:Nat):Prop:=isSm (chr s j)∨(j≠0/\isDg (chr s j))
def NameOk (s:ByteArray):Prop:=(0<s.size/\s.size<=10)/\∀j,j<s.size->NameC s j
theorem empty_iff (s:ByteArray):s=⟨#[]⟩↔s.size=0:=by
  constructor
  · rintro rfl;rfl
  · intro h;cases s with|mk d=>exact congrArg _ (Array.eq_empty_of_size_eq_zero h)
theorem isDigit_ (n:Int):AC Tryz.prog 258 [.int .u8 n] AV.bool (bP (isDg n)):=by
  refine ac Tryz.func258 (.bool _) λE K hE hK=>?_
  conv=>cbv
  repeat' first
    |((first
   |refine q0 hE ?_
   |refine B0 hE ?_|refine B1 hE ?_ ?_|refine B2 hE ?_)<;>intros<;>(try conv=>cbv))
  all_goals (try clear hN)
  all_goals first
    |(omega)
    |(refine finB hK (bP_true.2 ?_);first|omega|grind [isDg])
    |(refine finB hK (bP_false.2 ?_);first|omega|(intro h;grind [isDg]))
    |(refine ⟨by omega,Up.succ (by assumption) ?_ (by assumption)⟩;grind [isDg])
    |(refine hK _ ?_;simp_all [atup,isDg];done)
    |(grind [isDg])
theorem l01Digit_ (n:Int):AC Tryz.prog 219 [.int .u8 n] AV.bool (bP (isDg n)):=by
  refine ac Tryz.func219 (.bool _) λE K hE hK=>?_
  conv=>cbv
  repeat' first
    |((first
   |refine q0 hE ?_
   |refine B0 hE ?_|refine B1 hE ?_ ?_|refine B2 hE ?_)<;>intros<;>(try conv=>cbv))
  all_goals (try clear hN)
  all_goals first
    |(omega)
    |(refine finB hK (bP_true.2 ?_);first|omega|grind [isDg])
    |(refine finB hK (bP_false.2 ?_);first|omega|(intro h;grind [isDg]))
    |(refine ⟨by omega,Up.succ (by assumption) ?_ (by assumption)⟩;grind [isDg])
    |(refine hK _ ?_;simp_all [atup,isDg];done)
    |(grind [isDg])
theorem l01Small_ (n:Int):AC Tryz.prog 218 [.int .u8 n] AV.bool (bP (isSm n)):=by
  refine ac Tryz.func218 (.bool _) λE K hE hK=>?_
  conv=>cbv
  repeat' first
    |((first
   |refine q0 hE ?_
   |refine B0 hE ?_|refine B1 hE ?_ ?_|refine B2 hE ?_)<;>intros<;>(try conv=>cbv))
  all_goals (try clear hN)
  all_goals first
    |(omega)
    |(refine finB hK (bP_true.2 ?_);first|omega|grind [isSm])
    |(refine finB hK (bP_false.2 ?_);first|omega|(intro h;grind [isSm]))
    |(refine ⟨by omega,Up.succ (by assumption) ?_ (by assumption)⟩;grind [isSm])
    |(refine hK _ ?_;simp_all [atup,isSm];done)
    |(grind [isSm])
theorem isName_ (s:ByteArray):AC Tryz.prog 199 [.str s] AV.bool (bP (NameOk s)):=by
  refine ac Tryz.func199 (.bool _) λE K hE hK=>?_
  conv=>cbv
  refine loop1 hE [0] [3] (λ(i:Int)=>([(3,.int .i64 i)],[],s.size - i,0<=i/\Up (NameC s) i)) [] (0) rfl rfl (by dsimp only;exact ⟨by omega,.zero (by omega)⟩) λi hi Kn hN=>?_
  (try dsimp only at hi)
  conv=>cbv
  obtain ⟨h0,hinv⟩:=hi
  repeat' first
    |(refine hN _ _ [] (by decide) rfl ⟨?_,?_⟩ ?_<;>(try dsimp only))
    |((first
   |refine q0 hE ?_
   |refine callP hE (isDigit_ _) (λ_=>?_) (λ_=>?_)
   |refine callP hE (few_ _ _) (λ_=>?_) (λ_=>?_)
   |refine B0 hE ?_|refine B1 hE ?_ ?_|refine B2 hE ?_)<;>intros<;>(try conv=>cbv))
  all_goals (try clear hN)
  all_goals first
    |omega
    |(refine hinv.succ ?_ (by assumption);subst_vars;first|exact .inl ⟨by assumption,by assumption⟩|exact .inr ⟨by omega,by assumption⟩)
    |(refine finB hK (bP_true.2 ⟨⟨?_,by omega⟩,hinv.all (by omega)⟩);have:=mt (empty_iff s).2 (by assumption);omega)
    |(refine finB hK (bP_false.2 λh=>?_);have:=h.2 i.toNat (by omega);subst_vars;rcases this with ⟨k1,k2⟩|⟨k1,k2⟩<;>first|omega|(exact absurd k2 (by assumption))|(unfold chr at *;omega)|(unfold isDg chr at *;omega))
    |(refine finB hK (bP_false.2 λh=>?_);have:=h.1;omega)
    |(refine finB hK (bP_false.2 λh=>?_);have:=h.1;have:=(empty_iff s).1 (by assumption);omega)
theorem l01Name_ (s:ByteArray):AC Tryz.prog 159 [.str s] AV.bool (bP (NameOk s)):=by
  refine ac Tryz.func159 (.bool _) λE K hE hK=>?_
  conv=>cbv
  refine seqI hE (λhe=>?_) (λhe=>?_)<;>conv=>cbv
  · refine finB hK (bP_false.2 λh=>?_)
    have:=h.1;have:=(empty_iff s).1 he;omega
  · have hpos:0<s.size:=by have:=mt (empty_iff s).2 he;omega
    refine slenI hE λn hn hb=>?_
    conv=>cbv
    refine ltI hE (λhlt=>?_) (λhge=>?_)<;>conv=>cbv
    · exact finB hK (bP_false.2 λh=>by have:=h.1;omega)
    · refine sidxI hE (by omega) λc hc _ _=>?_
      conv=>cbv
      refine callP hE (l01Small_ _) (λhsm=>?_) (λhsm=>?_)<;>conv=>cbv
      · refine loop1 hE [0] [3] (λ(i:Int)=>([(3,.int .i64 i)],[],s.size - i,0<=i/\Up (NameC s) i)) [] (0) rfl rfl (by dsimp only;exact ⟨by omega,.zero (by omega)⟩) λi hi Kn hN=>?_
        (try dsimp only at hi)
        conv=>cbv
        obtain ⟨h0,hinv⟩:=hi
        repeat' first
          |(refine hN _ _ [] (by decide) rfl ⟨?_,?_⟩ ?_<;>(try dsimp only))
          |((first
         |refine q0 hE ?_
         |refine callP hE (l01Small_ _) (λ_=>?_) (λ_=>?_)
         |refine callP hE (l01Digit_ _) (λ_=>?_) (λ_=>?_)
         |refine B0 hE ?_|refine B1 hE ?_ ?_|refine B2 hE ?_)<;>intros<;>(try conv=>cbv))
        all_goals (try clear hN)
        all_goals first
          |omega
          |(refine hinv.succ ?_ (by assumption);subst_vars;by_cases h0:i=0<;>first|exact .inl (by assumption)|exact .inr ⟨by omega,by assumption⟩|(subst h0;exact .inl hsm))
          |(refine finB hK (bP_true.2 ⟨⟨by omega,by omega⟩,hinv.all (by omega)⟩))
          |(refine finB hK (bP_false.2 λh=>?_);have:=h.2 i.toNat (by omega);subst_vars;rcases this with k1|⟨k1,k2⟩<;>contradiction)
      · refine finB hK (bP_false.2 λh=>?_)
        subst_vars
        rcases h.2 0 (by omega) with k1|⟨k1,k2⟩
        · exact hsm k1
        · exact k1 rfl
def strLt (a b:ByteArray):Prop:=Op.bytesLess a.toList b.toList=true
theorem sltP {E:Env} {np:Nat} {P:Program} (hE:E=stdE np P) {a b:ByteArray} {K:Bool->Prop} (h1:strLt a b->K true) (h2:¬strLt a b->K false):E.slt a b K:=
  sltI hE λc hc=>by
    cases c with
    |true=>exact h1 hc.symm
    |false=>exact h2 (by unfold strLt;rw [←hc];simp)
end Go.Proofs.YtpfddoikhmbebaaGreatDoor
/- Contracts: roots, distances. -/
namespace Go.Proofs.YtpfddoikhmbebaaGreatDoor
open Go Go.RowKit Classical
set_option maxRecDepth 100000
set_option maxHeartbeats 2000000
set_option linter.unusedVariables false
set_option linter.unusedSimpArgs false
theorem mul_bd {a b B:Int} (h:(-B<=a/\a<=B)/\ -B<=b/\b<=B): -(B*B)<=a*b/\a*b<=B*B:=by
  have h1:0<=(B - a)*(B+b):=Int.mul_nonneg (by omega) (by omega)
  have h2:0<=(B+a)*(B - b):=Int.mul_nonneg (by omega) (by omega)
  have h3:0<=(B - a)*(B - b):=Int.mul_nonneg (by omega) (by omega)
  have h4:0<=(B+a)*(B+b):=Int.mul_nonneg (by omega) (by omega)
  simp only [Int.sub_mul,Int.add_mul,Int.mul_sub,Int.mul_add,Int.mul_comm b B] at h1 h2 h3 h4
  have e1:a*B=B*a:=Int.mul_comm _ _
  rw [e1] at h1 h2 h3 h4
  omega
theorem mulC {E:Env} {np:Nat} {P:Program} (hE:E=stdE np P) (B:Int) {a b:Int} {K:Int->Prop} (h:(-B<=a/\a<=B)/\ -B<=b/\b<=B) (hB:B*B<=9223372036854775807) (hk:∀m,m=a*b-> -(B*B)<=m->m<=B*B->K m):E.mul .i64 a b K:=by
  have h1:=mul_bd h
  exact mul64 hE (by omega) λm hm=>hk m hm (by omega) (by omega)
def IsRoot (n r:Int):Prop:=0<=r/\r*r<=n/\n<(r+1)*(r+1)
theorem sq_mono {a b:Int} (h0:0<=a) (h:a<=b):a*a<=b*b:=by
  have:=Int.mul_le_mul h h h0 (Int.le_trans h0 h)
  exact this
theorem IsRoot.uniq {n r s:Int} (h:IsRoot n r) (k:IsRoot n s):r=s:=by
  obtain ⟨h1,h2,h3⟩:=h
  obtain ⟨k1,k2,k3⟩:=k
  rcases Int.lt_trichotomy r s with h|h|h
  · have:=sq_mono (a:=r+1) (b:=s) (by omega) (by omega);omega
  · exact h
  · have:=sq_mono (a:=s+1) (b:=r) (by omega) (by omega);omega
theorem IsRoot.ex:∀n:Nat,∃r,IsRoot n r
  |0=>⟨0,by omega,by simp,by simp⟩
  | n + 1=>by
    obtain ⟨r,h1,h2,h3⟩:=IsRoot.ex n
    by_cases h:((n+1:Nat):Int)<(r+1)*(r+1)
    · exact ⟨r,h1,by omega,h⟩
    · refine ⟨r+1,by omega,by omega,?_⟩
      have:(r+1+1)*(r+1+1)=(r+1)*(r+1)+2*(r+1)+1:=by
        simp only [Int.add_mul,Int.mul_add];omega
      omega
noncomputable def rootI (n:Int):Int:=if n<0 then 0 else (IsRoot.ex n.toNat).choose
theorem rootI_spec {n:Int} (h:0<=n):IsRoot n (rootI n):=by
  unfold rootI
  rw [if_neg (by omega)]
  have h1:=(IsRoot.ex n.toNat).choose_spec
  generalize (IsRoot.ex n.toNat).choose=r at*
  rwa [Int.toNat_of_nonneg h] at h1
theorem rootI_eq {n r:Int} (hr:IsRoot n r):rootI n=r:=by
  have h0:0<=n:=Int.le_trans (Int.mul_nonneg hr.1 hr.1) hr.2.1
  exact (rootI_spec h0).uniq hr
theorem rootI_neg {n:Int} (h:n<0):rootI n=0:=by unfold rootI;rw [if_pos h]
theorem rootOf_ (n:Int) (hn:n<=9223372036854775807):AC Tryz.prog 203 [.int .i64 n] (AV.int .i64) (rootI n):=by
  refine ac Tryz.func203 (.int _ _) λE K hE hK=>?_
  conv=>cbv
  (try refine ltI hE (λh=>?_) (λh=>?_)<;>conv=>cbv)
  all_goals first
    |(refine hK _ ?_;rw [rootI_neg (by assumption)];rfl)
    |skip
  refine loop2 hE [0] [3,4] (λ(lo hi0:Int)=>([(3,.int .i64 lo),(4,.int .i64 hi0)],[],hi0 - lo,(0<=lo/\lo<=hi0/\hi0<=3037000499)/\((0<=n/\lo*lo<=n)∨(n<0/\lo=0))/\n<(hi0+1)*(hi0+1))) [] ((0,3037000499)) rfl rfl (by dsimp only;exact ⟨by omega,by omega,by omega⟩) λlo hi0 hi Kn hN=>?_
  (try dsimp only at hi)
  conv=>cbv
  obtain ⟨h0,h1,h2⟩:=hi
  repeat' first
    |(refine hN (_,_) _ [] (by decide) rfl ⟨?_,?_,?_⟩ ?_<;>(try dsimp only))
    |((first
   |refine mulC hE 3037000499 (by omega) (by omega) (λm hm _ _=>?_)
   |refine q0 hE ?_
   |refine B0 hE ?_|refine B1 hE ?_ ?_|refine B2 hE ?_)<;>intros<;>(try conv=>cbv))
  all_goals (try clear hN)
  all_goals first
    |omega
    |(subst_vars;left;exact ⟨by have:=sq_mono (a:=0) (b:=(lo+hi0+1) / 2) (by omega) (by omega);omega,by assumption⟩)
    | (rcases h1 with h1|h1
       · exact .inl h1
       · exact .inr h1)
    |(subst_vars;rw [show ∀a:Int,a - 1+1=a from λa=>by omega];omega)
    | (refine hK _ ?_
       have e:lo=hi0:=by omega
       rcases h1 with h1|h1
       · rw [rootI_eq ⟨h0.1,h1.2,by rw [e];exact h2⟩];rfl
       · rw [rootI_neg h1.1,h1.2];rfl)
    |trace_state
theorem l01Root_ (n:Int) (hn:n<=9223372036854775807):AC Tryz.prog 275 [.int .i64 n] (AV.int .i64) (rootI n):=by
  refine ac Tryz.func275 (.int _ _) λE K hE hK=>?_
  conv=>cbv
  (try refine ltI hE (λh=>?_) (λh=>?_)<;>conv=>cbv)
  all_goals first
    |(refine hK _ ?_;rw [rootI_neg (by assumption)];rfl)
    |skip
  refine loop2 hE [0] [3,4] (λ(lo hi0:Int)=>([(3,.int .i64 lo),(4,.int .i64 hi0)],[],hi0 - lo,(0<=lo/\lo<=hi0/\hi0<=3037000499)/\((0<=n/\lo*lo<=n)∨(n<0/\lo=0))/\n<(hi0+1)*(hi0+1))) [] ((0,3037000499)) rfl rfl (by dsimp only;exact ⟨by omega,by omega,by omega⟩) λlo hi0 hi Kn hN=>?_
  (try dsimp only at hi)
  conv=>cbv
  obtain ⟨h0,h1,h2⟩:=hi
  repeat' first
    |(refine hN (_,_) _ [] (by decide) rfl ⟨?_,?_,?_⟩ ?_<;>(try dsimp only))
    |((first
   |refine mulC hE 3037000499 (by omega) (by omega) (λm hm _ _=>?_)
   |refine q0 hE ?_
   |refine B0 hE ?_|refine B1 hE ?_ ?_|refine B2 hE ?_)<;>intros<;>(try conv=>cbv))
  all_goals (try clear hN)
  all_goals first
    |omega
    |(subst_vars;left;exact ⟨by have:=sq_mono (a:=0) (b:=(lo+hi0+1) / 2) (by omega) (by omega);omega,by assumption⟩)
    | (rcases h1 with h1|h1
       · exact .inl h1
       · exact .inr h1)
    |(subst_vars;rw [show ∀a:Int,a - 1+1=a from λa=>by omega];omega)
    | (refine hK _ ?_
       have e:lo=hi0:=by omega
       rcases h1 with h1|h1
       · rw [rootI_eq ⟨h0.1,h1.2,by rw [e];exact h2⟩];rfl
       · rw [rootI_neg h1.1,h1.2];rfl)
    |trace_state
end Go.Proofs.YtpfddoikhmbebaaGreatDoor
/- Contracts: the flat types of an authority: marks, sectors, dangers, observers, ships, works. -/
namespace Go.Proofs.YtpfddoikhmbebaaGreatDoor
open Go Go.RowKit Classical
set_option maxRecDepth 100000
set_option maxHeartbeats 2000000
set_option linter.unusedVariables false
set_option linter.unusedSimpArgs false
theorem szN_or2 {n y:Int} {k:Nat} (h:y=szN n k):y= -1/\n<k∨y=n - k/\k<=n:=by
  have:=szN_or n k
  omega
theorem sum_get {α:Type} (f:α->Nat) {l:List α} {n:Nat} {v:α} (h:l[n]? =some v):f v<=(l.map f).sum:=sum_ge f (List.mem_of_getElem? h)
structure Mrk where
  kind:Int
  colors:ByteArray
  shape:ByteArray
  top:ByteArray
def Mrk.cs (v:Mrk):List AV:=[.int .i64 v.kind,.str v.colors,.str v.shape,.str v.top]
theorem NoB.oMrk (v:Mrk):NoB (.agg v.cs):=(.aggC (.int _ _) (.aggC (.str _) (.aggC (.str _) (.aggC (.str _) .agg0))))
def Mrk.sz (v:Mrk):Nat:=v.colors.size+v.shape.size+v.top.size
theorem szMark_ (kind:Int) (colors:ByteArray) (shape:ByteArray) (top:ByteArray) (n:Int) (hn:0<=n/\n<=1048576):AC Tryz.prog 86 [.agg [.int .i64 kind,.str colors,.str shape,.str top],.int .i64 n] (AV.int .i64) (szN n (Mrk.sz ⟨kind,colors,shape,top⟩)):=by
  refine ac Tryz.func86 (.int _ _) λE K hE hK=>?_
  conv=>cbv
  repeat' first
    |((first
   |refine q0 hE ?_
   |refine B0 hE ?_|refine B1 hE ?_ ?_|refine B2 hE ?_)<;>intros<;>(try conv=>cbv))
  all_goals (refine hK _ ?_;show AV.int _ _=AV.int _ _;congr 1;unfold szN Mrk.sz;simp only at *;split<;>omega)
theorem toMark_ (kind:Int) (colors:ByteArray) (shape:ByteArray) (top:ByteArray):AC Tryz.prog 117 [.agg [.int .i64 kind,.str colors,.str shape,.str top]] (λv:Mrk=> .agg v.cs) ⟨kind,colors,shape,top⟩:=by
  refine ac Tryz.func117 (.oMrk _) λE K hE hK=>?_
  conv=>cbv
  exact hK _ rfl
theorem eqMark_ (kind:Int) (colors:ByteArray) (shape:ByteArray) (top:ByteArray) (kind':Int) (colors':ByteArray) (shape':ByteArray) (top':ByteArray):AC Tryz.prog 146 [.agg [.int .i64 kind,.str colors,.str shape,.str top],.agg [.int .i64 kind',.str colors',.str shape',.str top']] AV.bool (bP ((Mrk.mk kind colors shape top)=(Mrk.mk kind' colors' shape' top'))):=by
  refine ac Tryz.func146 (.bool _) λE K hE hK=>?_
  conv=>cbv
  repeat' first
    |((first
   |refine q0 hE ?_
   |refine B0 hE ?_|refine B1 hE ?_ ?_|refine B2 hE ?_)<;>intros<;>(try conv=>cbv))
  all_goals first|(refine finB hK (bP_true.2 ?_);simp only [Mrk.mk.injEq,Pnt.mk.injEq] at *;simp_all;done)|(refine finB hK (bP_false.2 ?_);simp only [Mrk.mk.injEq,Pnt.mk.injEq] at *;simp_all;done)
def Mrk.mk' (k:Int):Mrk:=⟨k+0,mText (k+1),mText (k+2),mText (k+3)⟩
def Mrk.mks (n:Nat) (k:Int):List Mrk:=(List.range n).map λi:Nat=>Mrk.mk' (k+4*(i:Int))
theorem Mrk.mks_len (n:Nat) (k:Int):(Mrk.mks n k).length=n:=by simp [Mrk.mks]
theorem Mrk.mks_get {n:Nat} {k i:Int} {v:Mrk} (h0:0<=i) (h:(Mrk.mks n k)[i.toNat]? =some v):v=Mrk.mk' (k+4*i):=by
  unfold Mrk.mks at h
  rw [List.getElem?_map] at h
  by_cases hi:i.toNat<n
  · rw [List.getElem?_range hi] at h
    simp only [Option.map_some,Option.some.injEq] at h
    rw [←h,Int.toNat_of_nonneg h0]
  · rw [List.getElem?_eq_none (by simpa using Nat.le_of_not_lt hi)] at h;cases h
structure Scr where
  frm:Int
  til:Int
  color:ByteArray
def Scr.cs (v:Scr):List AV:=[.int .i64 v.frm,.int .i64 v.til,.str v.color]
theorem NoB.oScr (v:Scr):NoB (.agg v.cs):=(.aggC (.int _ _) (.aggC (.int _ _) (.aggC (.str _) .agg0)))
def Scr.sz (v:Scr):Nat:=v.color.size
theorem szSector_ (frm:Int) (til:Int) (color:ByteArray) (n:Int) (hn:0<=n/\n<=1048576):AC Tryz.prog 150 [.agg [.int .i64 frm,.int .i64 til,.str color],.int .i64 n] (AV.int .i64) (szN n (Scr.sz ⟨frm,til,color⟩)):=by
  refine ac Tryz.func150 (.int _ _) λE K hE hK=>?_
  conv=>cbv
  repeat' first
    |((first
   |refine q0 hE ?_
   |refine B0 hE ?_|refine B1 hE ?_ ?_|refine B2 hE ?_)<;>intros<;>(try conv=>cbv))
  all_goals (refine hK _ ?_;show AV.int _ _=AV.int _ _;congr 1;unfold szN Scr.sz;simp only at *;split<;>omega)
theorem szSectorS_ {rs:List (List AV)} {t:Bool} {l:List Scr} (n:Int) (hl:rs=l.map Scr.cs) (hn:0<=n/\n<=1048576):AC Tryz.prog 88 [.sl t 3 rs,.int .i64 n] (AV.int .i64) (szN n (l.length+(l.map Scr.sz).sum)):=by
  refine ac Tryz.func88 (.int _ _) λE K hE hK=>?_
  conv=>cbv
  repeat' first
    |((first
   |refine q0 hE ?_
   |refine B0 hE ?_|refine B1 hE ?_ ?_|refine B2 hE ?_)<;>intros<;>(try conv=>cbv))
  · refine hK _ ?_
    rw [szN,if_pos (by omega)];rfl
  · refine loop2 hE [0] [5,1] (λ(i m:Int)=>([(5,.int .i64 i),(1,.int .i64 m)],[],l.length - i,(0<=i/\i<=l.length)/\(0<=m/\m<=1048576)/\m+sumTo Scr.sz l i+l.length=n)) [] ((0,_)) rfl rfl (by dsimp only;exact ⟨by omega,by omega,by rw [sumTo_zero (by omega)];omega⟩) λi m hi Kn hN=>?_
    (try dsimp only at hi)
    conv=>cbv
    obtain ⟨⟨h0,h1⟩,h2,h3⟩:=hi
    have hle:=sumTo_le Scr.sz l
    repeat' first
      |(refine hN (_,_) _ [] (by decide) rfl ⟨?_,?_,?_⟩ ?_<;>(try dsimp only))
      |((first
     |(refine idxL hE hl (by omega) (λv hv=>?_);have hs:=sumTo_succ Scr.sz h0 hv;have hs2:=hle (i+1);obtain ⟨frm,til,color⟩:=v)
     |(refine callI hE (szSector_ _ _ _ _ (by omega)) (λy hy=>?_);have hz:=szN_or m (Scr.sz ⟨frm,til,color⟩);rw [←hy] at hz;clear hy)
     |refine q0 hE ?_
     |refine B0 hE ?_|refine B1 hE ?_ ?_|refine B2 hE ?_)<;>intros<;>(try conv=>cbv))
    all_goals first
      |omega
      |(refine hK _ ?_;rw [szN_lt (by omega)];rfl)
      |(rename_i hn2;rw [hn2,hs];omega)
      |(refine hK _ ?_;have:=sumTo_all Scr.sz l (i:=i) (by omega);rw [szN_ge (by omega)];show AV.int _ _=AV.int _ _;congr 1;omega)
theorem toSector_ (frm:Int) (til:Int) (color:ByteArray):AC Tryz.prog 181 [.agg [.int .i64 frm,.int .i64 til,.str color]] (λv:Scr=> .agg v.cs) ⟨frm,til,color⟩:=by
  refine ac Tryz.func181 (.oScr _) λE K hE hK=>?_
  conv=>cbv
  exact hK _ rfl
theorem toSectorS_ {rs:List (List AV)} {t:Bool} {l:List Scr} (hl:rs=l.map Scr.cs) (hb0:l.length<=1048576):AC Tryz.prog 119 [.sl t 3 rs] (λl:List Scr=> .sl true 3 (l.map Scr.cs)) l:=by
  refine ac Tryz.func119 (.rows .oScr) λE K hE hK=>?_
  conv=>cbv
  refine lenL hE hl λn hn hb=>?_
  conv=>cbv
  refine makeL hE (l:=l) Scr.cs hn rfl (by omega) λes hes=>?_
  conv=>cbv
  refine loop2 hE [0] [4,3] (λ(i:Int) (es':List (List AV))=>([(4,.int .i64 i),(3,.ob 0)],[.row 3 es'],l.length - i,0<=i/\es'=fillRow Scr.cs [.int .i64 0,.int .i64 0,.str ⟨#[]⟩] l i)) [0] ((0,es)) rfl rfl (by dsimp only;exact ⟨by omega,hes⟩) λi es' hi Kn hN=>?_
  (try dsimp only at hi)
  conv=>cbv
  obtain ⟨h0,hinv⟩:=hi
  repeat' first
    |(refine hN (_,_) _ [0] (by decide) rfl ⟨?_,?_⟩ ?_<;>(try dsimp only))
    |((first
   |refine q0 hE ?_
   |(refine idxL (R:=Scr.cs) hE (by assumption) (by first|omega|(simp only [List.length_set,mix_len];omega)) ?_;rintro ⟨⟩ _)
   |(refine callI hE (toSector_ _ _ _) (λ_ hy=>?_);subst hy)
   |refine updFill (R:=Scr.cs) hE (by assumption) (by omega) (by assumption) (by exact Nat.le_refl _) (by rfl) (λ_ _=>?_)
   |refine B0 hE ?_|refine B1 hE ?_ ?_|refine B2 hE ?_)<;>intros<;>(try conv=>cbv))
  · omega
  · subst_vars;rfl
  · omega
  · refine hK _ ?_
    rw [hinv,fillRow_all (by omega)];rfl
theorem eqSector_ (frm:Int) (til:Int) (color:ByteArray) (frm':Int) (til':Int) (color':ByteArray):AC Tryz.prog 209 [.agg [.int .i64 frm,.int .i64 til,.str color],.agg [.int .i64 frm',.int .i64 til',.str color']] AV.bool (bP ((Scr.mk frm til color)=(Scr.mk frm' til' color'))):=by
  refine ac Tryz.func209 (.bool _) λE K hE hK=>?_
  conv=>cbv
  repeat' first
    |((first
   |refine q0 hE ?_
   |refine B0 hE ?_|refine B1 hE ?_ ?_|refine B2 hE ?_)<;>intros<;>(try conv=>cbv))
  all_goals first|(refine finB hK (bP_true.2 ?_);simp only [Scr.mk.injEq,Pnt.mk.injEq] at *;simp_all;done)|(refine finB hK (bP_false.2 ?_);simp only [Scr.mk.injEq,Pnt.mk.injEq] at *;simp_all;done)
theorem eqSectorS_ {rs rs':List (List AV)} {t t':Bool} {l m:List Scr} (hl:rs=l.map Scr.cs) (hm:rs'=m.map Scr.cs):AC Tryz.prog 148 [.sl t 3 rs,.sl t' 3 rs'] AV.bool (bP (l=m)):=by
  refine ac Tryz.func148 (.bool _) λE K hE hK=>?_
  conv=>cbv
  refine lenL hE hl λn hn hb=>?_
  conv=>cbv
  refine lenL hE hm λn' hn' hb'=>?_
  conv=>cbv
  refine eqI hE (λhe=>?_) (λhe=>?_)<;>conv=>cbv
  · refine loop1 hE [0,1] [5] (λ(i:Int)=>([(5,.int .i64 i)],[],l.length - i,0<=i/\Up (λj=>l[j]? =m[j]?) i)) [] (0) rfl rfl (by dsimp only;exact ⟨by omega,.zero (by omega)⟩) λi hi Kn hN=>?_
    (try dsimp only at hi)
    conv=>cbv
    obtain ⟨h0,hinv⟩:=hi
    repeat' first
      |(refine hN _ _ [] (by decide) rfl ⟨?_,?_⟩ ?_<;>(try dsimp only))
      |((first
     |refine q0 hE ?_
     |refine callP hE (eqSector_ _ _ _ _ _ _) (λ_=>?_) (λ_=>?_)
     |(refine idxL (R:=Scr.cs) hE (by assumption) (by first|omega|(simp only [List.length_set,mix_len];omega)) ?_;rintro ⟨⟩ _)
     |refine B0 hE ?_|refine B1 hE ?_ ?_|refine B2 hE ?_)<;>intros<;>(try conv=>cbv))
    · omega
    · refine hinv.succ ?_ (by assumption);clear hN;simp_all
    · omega
    · refine finB hK (bP_false.2 λh=>?_);clear hN;simp_all
    · exact finB hK (bP_true.2 (list_eq_of (by omega) hinv (by omega)))
  · refine finB hK (bP_false.2 λh=>?_);subst h;omega
def Scr.mk' (k:Int):Scr:=⟨k+0,k+1,mText (k+2)⟩
def Scr.mks (n:Nat) (k:Int):List Scr:=(List.range n).map λi:Nat=>Scr.mk' (k+3*(i:Int))
theorem Scr.mks_len (n:Nat) (k:Int):(Scr.mks n k).length=n:=by simp [Scr.mks]
theorem Scr.mks_get {n:Nat} {k i:Int} {v:Scr} (h0:0<=i) (h:(Scr.mks n k)[i.toNat]? =some v):v=Scr.mk' (k+3*i):=by
  unfold Scr.mks at h
  rw [List.getElem?_map] at h
  by_cases hi:i.toNat<n
  · rw [List.getElem?_range hi] at h
    simp only [Option.map_some,Option.some.injEq] at h
    rw [←h,Int.toNat_of_nonneg h0]
  · rw [List.getElem?_eq_none (by simpa using Nat.le_of_not_lt hi)] at h;cases h
theorem markSectorS_ {rs:List (List AV)} {l:List Scr} (k:Int) (hl:rs=l.map Scr.cs) (hk0:0<=k/\k<=1000000000000000) (hb:l.length<=100000000000):ACM Tryz.prog 84 [.sl true 3 rs,.int .i64 k] (λr ys=>∃(n:Int) (rs':List (List AV)),n=k+3*l.length/\rs'=(Scr.mks l.length k).map Scr.cs/\r= .int .i64 n/\ys=[.sl true 3 rs',.any]):=by
  refine acm 1 Tryz.func84 (λr ys ⟨n,rs',_,h3,h1,h2⟩=>⟨by rw [h1];exact .int _ _,by rw [h2,h3];simp;exact ⟨.rows .oScr,.any⟩⟩) λE K hE hK=>?_
  conv=>cbv
  refine loop3 hE [] [5,1,0] (λ(i k':Int) (es:List (List AV))=>([(5,.int .i64 i),(1,.int .i64 k'),(0,.ob 0)],[.row 3 es],l.length - i,(0<=i/\i<=l.length)/\k'=k+3*i/\es=(mix (λi:Nat=>Scr.mk' (k+3*(i:Int))) l i).map Scr.cs)) [0] ((0,k,rs)) rfl rfl (by dsimp only;exact ⟨by omega,by omega,by rw [mix_zero (by omega)];exact hl⟩) λi k' es hi Kn hN=>?_
  (try dsimp only at hi)
  conv=>cbv
  obtain ⟨⟨h0,h1⟩,h2,h3⟩:=hi
  have hlen:=mix_len (λi:Nat=>Scr.mk' (k+3*(i:Int))) l i
  obtain ⟨L,hL⟩:∃L,L=mix (λi:Nat=>Scr.mk' (k+3*(i:Int))) l i:=⟨_,rfl⟩
  rw [←hL] at h3 hlen
  repeat' first
    |(refine hN (_,_,_) _ [0] (by decide) rfl ⟨?_,?_,?_⟩ ?_<;>(try dsimp only))
    |((first
   |refine idxS hE (by assumption) (by omega) ?_
   |refine q0 hE ?_
   |(refine idxL (R:=Scr.cs) hE (by assumption) (by first|omega|(simp only [List.length_set,mix_len];omega)) ?_;rintro ⟨⟩ _)
   |refine callI hE (markText_ _ (by omega)) (λ_ _=>?_)
   |refine updS hE (v':=(⟨_,_,_⟩:Scr)) (by assumption) (by omega) (by exact Nat.le_of_ble_eq_true rfl) (by first|rfl|((conv=>lhs;cbv);rfl)) (λ_ _=>?_)
   |refine updL hE (v':=(⟨_,_,_⟩:Scr)) (by assumption) (by omega) (by assumption) (by exact Nat.le_of_ble_eq_true rfl) (by first|rfl|((conv=>lhs;cbv);rfl)) (λ_ _=>?_)
   |refine B0 hE ?_|refine B1 hE ?_ ?_|refine B2 hE ?_)<;>intros<;>(try conv=>cbv))
  · omega
  · omega
  · clear hN hK
    rename_i hes _ hfin _ hi1
    rw [hes,hL,mix_set h0 (by omega) (v:=_) ?_ hi1]
    clear hL h3 hlen
    subst_vars
    rw [Int.toNat_of_nonneg h0]
    simp only [Scr.mk',Scr.mk.injEq,Int.add_zero]
    all_goals (refine ⟨?_,?_,?_⟩<;>first|trivial|omega|rfl|(congr 1;omega))
  · omega
  · have hi:i=l.length:=by omega
    refine hK _ _ ⟨k',es,?_,?_,rfl,rfl⟩
    · rw [h2,hi]
    · rw [h3,hL,mix_all (by omega)];rfl
structure Dgr where
  name:ByteArray
  atX:Int
  atY:Int
  radius:Int
def Dgr.cs (v:Dgr):List AV:=[.str v.name,.int .i64 v.atX,.int .i64 v.atY,.int .i64 v.radius]
theorem NoB.oDgr (v:Dgr):NoB (.agg v.cs):=(.aggC (.str _) (.aggC (.int _ _) (.aggC (.int _ _) (.aggC (.int _ _) .agg0))))
def Dgr.sz (v:Dgr):Nat:=v.name.size
theorem szDanger_ (name:ByteArray) (atX:Int) (atY:Int) (radius:Int) (n:Int) (hn:0<=n/\n<=1048576):AC Tryz.prog 54 [.agg [.str name,.int .i64 atX,.int .i64 atY,.int .i64 radius],.int .i64 n] (AV.int .i64) (szN n (Dgr.sz ⟨name,atX,atY,radius⟩)):=by
  refine ac Tryz.func54 (.int _ _) λE K hE hK=>?_
  conv=>cbv
  repeat' first
    |((first
   |refine q0 hE ?_
   |refine B0 hE ?_|refine B1 hE ?_ ?_|refine B2 hE ?_)<;>intros<;>(try conv=>cbv))
  all_goals (refine hK _ ?_;show AV.int _ _=AV.int _ _;congr 1;unfold szN Dgr.sz;simp only at *;split<;>omega)
theorem szDangerS_ {rs:List (List AV)} {t:Bool} {l:List Dgr} (n:Int) (hl:rs=l.map Dgr.cs) (hn:0<=n/\n<=1048576):AC Tryz.prog 16 [.sl t 4 rs,.int .i64 n] (AV.int .i64) (szN n (l.length+(l.map Dgr.sz).sum)):=by
  refine ac Tryz.func16 (.int _ _) λE K hE hK=>?_
  conv=>cbv
  repeat' first
    |((first
   |refine q0 hE ?_
   |refine B0 hE ?_|refine B1 hE ?_ ?_|refine B2 hE ?_)<;>intros<;>(try conv=>cbv))
  · refine hK _ ?_
    rw [szN,if_pos (by omega)];rfl
  · refine loop2 hE [0] [5,1] (λ(i m:Int)=>([(5,.int .i64 i),(1,.int .i64 m)],[],l.length - i,(0<=i/\i<=l.length)/\(0<=m/\m<=1048576)/\m+sumTo Dgr.sz l i+l.length=n)) [] ((0,_)) rfl rfl (by dsimp only;exact ⟨by omega,by omega,by rw [sumTo_zero (by omega)];omega⟩) λi m hi Kn hN=>?_
    (try dsimp only at hi)
    conv=>cbv
    obtain ⟨⟨h0,h1⟩,h2,h3⟩:=hi
    have hle:=sumTo_le Dgr.sz l
    repeat' first
      |(refine hN (_,_) _ [] (by decide) rfl ⟨?_,?_,?_⟩ ?_<;>(try dsimp only))
      |((first
     |(refine idxL hE hl (by omega) (λv hv=>?_);have hs:=sumTo_succ Dgr.sz h0 hv;have hs2:=hle (i+1);obtain ⟨name,atX,atY,radius⟩:=v)
     |(refine callI hE (szDanger_ _ _ _ _ _ (by omega)) (λy hy=>?_);have hz:=szN_or m (Dgr.sz ⟨name,atX,atY,radius⟩);rw [←hy] at hz;clear hy)
     |refine q0 hE ?_
     |refine B0 hE ?_|refine B1 hE ?_ ?_|refine B2 hE ?_)<;>intros<;>(try conv=>cbv))
    all_goals first
      |omega
      |(refine hK _ ?_;rw [szN_lt (by omega)];rfl)
      |(rename_i hn2;rw [hn2,hs];omega)
      |(refine hK _ ?_;have:=sumTo_all Dgr.sz l (i:=i) (by omega);rw [szN_ge (by omega)];show AV.int _ _=AV.int _ _;congr 1;omega)
theorem toDanger_ (name:ByteArray) (atX:Int) (atY:Int) (radius:Int):AC Tryz.prog 65 [.agg [.str name,.int .i64 atX,.int .i64 atY,.int .i64 radius]] (λv:Dgr=> .agg v.cs) ⟨name,atX,atY,radius⟩:=by
  refine ac Tryz.func65 (.oDgr _) λE K hE hK=>?_
  conv=>cbv
  repeat' first
    |((first
   |refine q0 hE ?_
   |(refine callI hE (toPoint_ _ _) (λ_ hy=>?_);subst hy)
   |refine B0 hE ?_|refine B1 hE ?_ ?_|refine B2 hE ?_)<;>intros<;>(try conv=>cbv))
  all_goals exact hK _ rfl
theorem toDangerS_ {rs:List (List AV)} {t:Bool} {l:List Dgr} (hl:rs=l.map Dgr.cs) (hb0:l.length<=1048576):AC Tryz.prog 25 [.sl t 4 rs] (λl:List Dgr=> .sl true 4 (l.map Dgr.cs)) l:=by
  refine ac Tryz.func25 (.rows .oDgr) λE K hE hK=>?_
  conv=>cbv
  refine lenL hE hl λn hn hb=>?_
  conv=>cbv
  refine makeL hE (l:=l) Dgr.cs hn rfl (by omega) λes hes=>?_
  conv=>cbv
  refine loop2 hE [0] [4,3] (λ(i:Int) (es':List (List AV))=>([(4,.int .i64 i),(3,.ob 0)],[.row 4 es'],l.length - i,0<=i/\es'=fillRow Dgr.cs [.str ⟨#[]⟩,.int .i64 0,.int .i64 0,.int .i64 0] l i)) [0] ((0,es)) rfl rfl (by dsimp only;exact ⟨by omega,hes⟩) λi es' hi Kn hN=>?_
  (try dsimp only at hi)
  conv=>cbv
  obtain ⟨h0,hinv⟩:=hi
  repeat' first
    |(refine hN (_,_) _ [0] (by decide) rfl ⟨?_,?_⟩ ?_<;>(try dsimp only))
    |((first
   |refine q0 hE ?_
   |(refine idxL (R:=Dgr.cs) hE (by assumption) (by first|omega|(simp only [List.length_set,mix_len];omega)) ?_;rintro ⟨⟩ _)
   |(refine callI hE (toDanger_ _ _ _ _) (λ_ hy=>?_);subst hy)
   |refine updFill (R:=Dgr.cs) hE (by assumption) (by omega) (by assumption) (by exact Nat.le_refl _) (by rfl) (λ_ _=>?_)
   |refine B0 hE ?_|refine B1 hE ?_ ?_|refine B2 hE ?_)<;>intros<;>(try conv=>cbv))
  · omega
  · subst_vars;rfl
  · omega
  · refine hK _ ?_
    rw [hinv,fillRow_all (by omega)];rfl
theorem eqDanger_ (name:ByteArray) (atX:Int) (atY:Int) (radius:Int) (name':ByteArray) (atX':Int) (atY':Int) (radius':Int):AC Tryz.prog 81 [.agg [.str name,.int .i64 atX,.int .i64 atY,.int .i64 radius],.agg [.str name',.int .i64 atX',.int .i64 atY',.int .i64 radius']] AV.bool (bP ((Dgr.mk name atX atY radius)=(Dgr.mk name' atX' atY' radius'))):=by
  refine ac Tryz.func81 (.bool _) λE K hE hK=>?_
  conv=>cbv
  repeat' first
    |((first
   |refine q0 hE ?_
   |refine callP hE (eqPoint_ _ _ _ _) (λ_=>?_) (λ_=>?_)
   |refine B0 hE ?_|refine B1 hE ?_ ?_|refine B2 hE ?_)<;>intros<;>(try conv=>cbv))
  all_goals first|(refine finB hK (bP_true.2 ?_);simp only [Dgr.mk.injEq,Pnt.mk.injEq] at *;simp_all;done)|(refine finB hK (bP_false.2 ?_);simp only [Dgr.mk.injEq,Pnt.mk.injEq] at *;simp_all;done)
theorem eqDangerS_ {rs rs':List (List AV)} {t t':Bool} {l m:List Dgr} (hl:rs=l.map Dgr.cs) (hm:rs'=m.map Dgr.cs):AC Tryz.prog 37 [.sl t 4 rs,.sl t' 4 rs'] AV.bool (bP (l=m)):=by
  refine ac Tryz.func37 (.bool _) λE K hE hK=>?_
  conv=>cbv
  refine lenL hE hl λn hn hb=>?_
  conv=>cbv
  refine lenL hE hm λn' hn' hb'=>?_
  conv=>cbv
  refine eqI hE (λhe=>?_) (λhe=>?_)<;>conv=>cbv
  · refine loop1 hE [0,1] [5] (λ(i:Int)=>([(5,.int .i64 i)],[],l.length - i,0<=i/\Up (λj=>l[j]? =m[j]?) i)) [] (0) rfl rfl (by dsimp only;exact ⟨by omega,.zero (by omega)⟩) λi hi Kn hN=>?_
    (try dsimp only at hi)
    conv=>cbv
    obtain ⟨h0,hinv⟩:=hi
    repeat' first
      |(refine hN _ _ [] (by decide) rfl ⟨?_,?_⟩ ?_<;>(try dsimp only))
      |((first
     |refine q0 hE ?_
     |refine callP hE (eqDanger_ _ _ _ _ _ _ _ _) (λ_=>?_) (λ_=>?_)
     |(refine idxL (R:=Dgr.cs) hE (by assumption) (by first|omega|(simp only [List.length_set,mix_len];omega)) ?_;rintro ⟨⟩ _)
     |refine B0 hE ?_|refine B1 hE ?_ ?_|refine B2 hE ?_)<;>intros<;>(try conv=>cbv))
    · omega
    · refine hinv.succ ?_ (by assumption);clear hN;simp_all
    · omega
    · refine finB hK (bP_false.2 λh=>?_);clear hN;simp_all
    · exact finB hK (bP_true.2 (list_eq_of (by omega) hinv (by omega)))
  · refine finB hK (bP_false.2 λh=>?_);subst h;omega
def Dgr.mk' (k:Int):Dgr:=⟨mText (k+0),k+1,k+2,k+3⟩
def Dgr.mks (n:Nat) (k:Int):List Dgr:=(List.range n).map λi:Nat=>Dgr.mk' (k+4*(i:Int))
theorem Dgr.mks_len (n:Nat) (k:Int):(Dgr.mks n k).length=n:=by simp [Dgr.mks]
theorem Dgr.mks_get {n:Nat} {k i:Int} {v:Dgr} (h0:0<=i) (h:(Dgr.mks n k)[i.toNat]? =some v):v=Dgr.mk' (k+4*i):=by
  unfold Dgr.mks at h
  rw [List.getElem?_map] at h
  by_cases hi:i.toNat<n
  · rw [List.getElem?_range hi] at h
    simp only [Option.map_some,Option.some.injEq] at h
    rw [←h,Int.toNat_of_nonneg h0]
  · rw [List.getElem?_eq_none (by simpa using Nat.le_of_not_lt hi)] at h;cases h
theorem markDangerS_ {rs:List (List AV)} {l:List Dgr} (k:Int) (hl:rs=l.map Dgr.cs) (hk0:0<=k/\k<=1000000000000000) (hb:l.length<=100000000000):ACM Tryz.prog 46 [.sl true 4 rs,.int .i64 k] (λr ys=>∃(n:Int) (rs':List (List AV)),n=k+4*l.length/\rs'=(Dgr.mks l.length k).map Dgr.cs/\r= .int .i64 n/\ys=[.sl true 4 rs',.any]):=by
  refine acm 1 Tryz.func46 (λr ys ⟨n,rs',_,h3,h1,h2⟩=>⟨by rw [h1];exact .int _ _,by rw [h2,h3];simp;exact ⟨.rows .oDgr,.any⟩⟩) λE K hE hK=>?_
  conv=>cbv
  refine loop3 hE [] [5,1,0] (λ(i k':Int) (es:List (List AV))=>([(5,.int .i64 i),(1,.int .i64 k'),(0,.ob 0)],[.row 4 es],l.length - i,(0<=i/\i<=l.length)/\k'=k+4*i/\es=(mix (λi:Nat=>Dgr.mk' (k+4*(i:Int))) l i).map Dgr.cs)) [0] ((0,k,rs)) rfl rfl (by dsimp only;exact ⟨by omega,by omega,by rw [mix_zero (by omega)];exact hl⟩) λi k' es hi Kn hN=>?_
  (try dsimp only at hi)
  conv=>cbv
  obtain ⟨⟨h0,h1⟩,h2,h3⟩:=hi
  have hlen:=mix_len (λi:Nat=>Dgr.mk' (k+4*(i:Int))) l i
  obtain ⟨L,hL⟩:∃L,L=mix (λi:Nat=>Dgr.mk' (k+4*(i:Int))) l i:=⟨_,rfl⟩
  rw [←hL] at h3 hlen
  repeat' first
    |(refine hN (_,_,_) _ [0] (by decide) rfl ⟨?_,?_,?_⟩ ?_<;>(try dsimp only))
    |((first
   |refine idxS hE (by assumption) (by omega) ?_
   |refine q0 hE ?_
   |(refine idxL (R:=Dgr.cs) hE (by assumption) (by first|omega|(simp only [List.length_set,mix_len];omega)) ?_;rintro ⟨⟩ _)
   |refine callI hE (markText_ _ (by omega)) (λ_ _=>?_)
   |refine updS hE (v':=(⟨_,_,_,_⟩:Dgr)) (by assumption) (by omega) (by exact Nat.le_of_ble_eq_true rfl) (by first|rfl|((conv=>lhs;cbv);rfl)) (λ_ _=>?_)
   |refine updL hE (v':=(⟨_,_,_,_⟩:Dgr)) (by assumption) (by omega) (by assumption) (by exact Nat.le_of_ble_eq_true rfl) (by first|rfl|((conv=>lhs;cbv);rfl)) (λ_ _=>?_)
   |refine B0 hE ?_|refine B1 hE ?_ ?_|refine B2 hE ?_)<;>intros<;>(try conv=>cbv))
  · omega
  · omega
  · clear hN hK
    rename_i hes _ hfin _ hi1
    rw [hes,hL,mix_set h0 (by omega) (v:=_) ?_ hi1]
    clear hL h3 hlen
    subst_vars
    rw [Int.toNat_of_nonneg h0]
    simp only [Dgr.mk',Dgr.mk.injEq,Int.add_zero]
    all_goals (refine ⟨?_,?_,?_,?_⟩<;>first|trivial|omega|rfl|(congr 1;omega))
  · omega
  · have hi:i=l.length:=by omega
    refine hK _ _ ⟨k',es,?_,?_,rfl,rfl⟩
    · rw [h2,hi]
    · rw [h3,hL,mix_all (by omega)];rfl
structure Obv where
  atX:Int
  atY:Int
  eye:Int
  vis:Int
def Obv.cs (v:Obv):List AV:=[.int .i64 v.atX,.int .i64 v.atY,.int .i64 v.eye,.int .i64 v.vis]
theorem NoB.oObv (v:Obv):NoB (.agg v.cs):=(.aggC (.int _ _) (.aggC (.int _ _) (.aggC (.int _ _) (.aggC (.int _ _) .agg0))))
theorem szObserverS_ {rs:List (List AV)} {t:Bool} {l:List Obv} (n:Int) (hl:rs=l.map Obv.cs) (hn:0<=n/\n<=1048576):AC Tryz.prog 17 [.sl t 4 rs,.int .i64 n] (AV.int .i64) (szN n l.length):=by
  refine ac Tryz.func17 (.int _ _) λE K hE hK=>?_
  conv=>cbv
  repeat' first
    |((first
   |refine q0 hE ?_
   |refine B0 hE ?_|refine B1 hE ?_ ?_|refine B2 hE ?_)<;>intros<;>(try conv=>cbv))
  all_goals (try clear hN)
  all_goals (refine hK _ ?_;first|(simp only [atup];grind [szN])|(simp_all [atup,szN];done))
theorem toObserver_ (atX:Int) (atY:Int) (eye:Int) (vis:Int):AC Tryz.prog 66 [.agg [.int .i64 atX,.int .i64 atY,.int .i64 eye,.int .i64 vis]] (λv:Obv=> .agg v.cs) ⟨atX,atY,eye,vis⟩:=by
  refine ac Tryz.func66 (.oObv _) λE K hE hK=>?_
  conv=>cbv
  repeat' first
    |((first
   |refine q0 hE ?_
   |(refine callI hE (toPoint_ _ _) (λ_ hy=>?_);subst hy)
   |refine B0 hE ?_|refine B1 hE ?_ ?_|refine B2 hE ?_)<;>intros<;>(try conv=>cbv))
  all_goals exact hK _ rfl
theorem toObserverS_ {rs:List (List AV)} {t:Bool} {l:List Obv} (hl:rs=l.map Obv.cs) (hb0:l.length<=1048576):AC Tryz.prog 26 [.sl t 4 rs] (λl:List Obv=> .sl true 4 (l.map Obv.cs)) l:=by
  refine ac Tryz.func26 (.rows .oObv) λE K hE hK=>?_
  conv=>cbv
  refine lenL hE hl λn hn hb=>?_
  conv=>cbv
  refine makeL hE (l:=l) Obv.cs hn rfl (by omega) λes hes=>?_
  conv=>cbv
  refine loop2 hE [0] [4,3] (λ(i:Int) (es':List (List AV))=>([(4,.int .i64 i),(3,.ob 0)],[.row 4 es'],l.length - i,0<=i/\es'=fillRow Obv.cs [.int .i64 0,.int .i64 0,.int .i64 0,.int .i64 0] l i)) [0] ((0,es)) rfl rfl (by dsimp only;exact ⟨by omega,hes⟩) λi es' hi Kn hN=>?_
  (try dsimp only at hi)
  conv=>cbv
  obtain ⟨h0,hinv⟩:=hi
  repeat' first
    |(refine hN (_,_) _ [0] (by decide) rfl ⟨?_,?_⟩ ?_<;>(try dsimp only))
    |((first
   |refine q0 hE ?_
   |(refine idxL (R:=Obv.cs) hE (by assumption) (by first|omega|(simp only [List.length_set,mix_len];omega)) ?_;rintro ⟨⟩ _)
   |(refine callI hE (toObserver_ _ _ _ _) (λ_ hy=>?_);subst hy)
   |refine updFill (R:=Obv.cs) hE (by assumption) (by omega) (by assumption) (by exact Nat.le_refl _) (by rfl) (λ_ _=>?_)
   |refine B0 hE ?_|refine B1 hE ?_ ?_|refine B2 hE ?_)<;>intros<;>(try conv=>cbv))
  · omega
  · subst_vars;rfl
  · omega
  · refine hK _ ?_
    rw [hinv,fillRow_all (by omega)];rfl
theorem eqObserver_ (atX:Int) (atY:Int) (eye:Int) (vis:Int) (atX':Int) (atY':Int) (eye':Int) (vis':Int):AC Tryz.prog 82 [.agg [.int .i64 atX,.int .i64 atY,.int .i64 eye,.int .i64 vis],.agg [.int .i64 atX',.int .i64 atY',.int .i64 eye',.int .i64 vis']] AV.bool (bP ((Obv.mk atX atY eye vis)=(Obv.mk atX' atY' eye' vis'))):=by
  refine ac Tryz.func82 (.bool _) λE K hE hK=>?_
  conv=>cbv
  repeat' first
    |((first
   |refine q0 hE ?_
   |refine callP hE (eqPoint_ _ _ _ _) (λ_=>?_) (λ_=>?_)
   |refine B0 hE ?_|refine B1 hE ?_ ?_|refine B2 hE ?_)<;>intros<;>(try conv=>cbv))
  all_goals first|(refine finB hK (bP_true.2 ?_);simp only [Obv.mk.injEq,Pnt.mk.injEq] at *;simp_all;done)|(refine finB hK (bP_false.2 ?_);simp only [Obv.mk.injEq,Pnt.mk.injEq] at *;simp_all;done)
theorem eqObserverS_ {rs rs':List (List AV)} {t t':Bool} {l m:List Obv} (hl:rs=l.map Obv.cs) (hm:rs'=m.map Obv.cs):AC Tryz.prog 38 [.sl t 4 rs,.sl t' 4 rs'] AV.bool (bP (l=m)):=by
  refine ac Tryz.func38 (.bool _) λE K hE hK=>?_
  conv=>cbv
  refine lenL hE hl λn hn hb=>?_
  conv=>cbv
  refine lenL hE hm λn' hn' hb'=>?_
  conv=>cbv
  refine eqI hE (λhe=>?_) (λhe=>?_)<;>conv=>cbv
  · refine loop1 hE [0,1] [5] (λ(i:Int)=>([(5,.int .i64 i)],[],l.length - i,0<=i/\Up (λj=>l[j]? =m[j]?) i)) [] (0) rfl rfl (by dsimp only;exact ⟨by omega,.zero (by omega)⟩) λi hi Kn hN=>?_
    (try dsimp only at hi)
    conv=>cbv
    obtain ⟨h0,hinv⟩:=hi
    repeat' first
      |(refine hN _ _ [] (by decide) rfl ⟨?_,?_⟩ ?_<;>(try dsimp only))
      |((first
     |refine q0 hE ?_
     |refine callP hE (eqObserver_ _ _ _ _ _ _ _ _) (λ_=>?_) (λ_=>?_)
     |(refine idxL (R:=Obv.cs) hE (by assumption) (by first|omega|(simp only [List.length_set,mix_len];omega)) ?_;rintro ⟨⟩ _)
     |refine B0 hE ?_|refine B1 hE ?_ ?_|refine B2 hE ?_)<;>intros<;>(try conv=>cbv))
    · omega
    · refine hinv.succ ?_ (by assumption);clear hN;simp_all
    · omega
    · refine finB hK (bP_false.2 λh=>?_);clear hN;simp_all
    · exact finB hK (bP_true.2 (list_eq_of (by omega) hinv (by omega)))
  · refine finB hK (bP_false.2 λh=>?_);subst h;omega
def Obv.mk' (k:Int):Obv:=⟨k+0,k+1,k+2,k+3⟩
def Obv.mks (n:Nat) (k:Int):List Obv:=(List.range n).map λi:Nat=>Obv.mk' (k+4*(i:Int))
theorem Obv.mks_len (n:Nat) (k:Int):(Obv.mks n k).length=n:=by simp [Obv.mks]
theorem Obv.mks_get {n:Nat} {k i:Int} {v:Obv} (h0:0<=i) (h:(Obv.mks n k)[i.toNat]? =some v):v=Obv.mk' (k+4*i):=by
  unfold Obv.mks at h
  rw [List.getElem?_map] at h
  by_cases hi:i.toNat<n
  · rw [List.getElem?_range hi] at h
    simp only [Option.map_some,Option.some.injEq] at h
    rw [←h,Int.toNat_of_nonneg h0]
  · rw [List.getElem?_eq_none (by simpa using Nat.le_of_not_lt hi)] at h;cases h
theorem markObserverS_ {rs:List (List AV)} {l:List Obv} (k:Int) (hl:rs=l.map Obv.cs) (hk0:0<=k/\k<=1000000000000000) (hb:l.length<=100000000000):ACM Tryz.prog 47 [.sl true 4 rs,.int .i64 k] (λr ys=>∃(n:Int) (rs':List (List AV)),n=k+4*l.length/\rs'=(Obv.mks l.length k).map Obv.cs/\r= .int .i64 n/\ys=[.sl true 4 rs',.any]):=by
  refine acm 1 Tryz.func47 (λr ys ⟨n,rs',_,h3,h1,h2⟩=>⟨by rw [h1];exact .int _ _,by rw [h2,h3];simp;exact ⟨.rows .oObv,.any⟩⟩) λE K hE hK=>?_
  conv=>cbv
  refine loop3 hE [] [5,1,0] (λ(i k':Int) (es:List (List AV))=>([(5,.int .i64 i),(1,.int .i64 k'),(0,.ob 0)],[.row 4 es],l.length - i,(0<=i/\i<=l.length)/\k'=k+4*i/\es=(mix (λi:Nat=>Obv.mk' (k+4*(i:Int))) l i).map Obv.cs)) [0] ((0,k,rs)) rfl rfl (by dsimp only;exact ⟨by omega,by omega,by rw [mix_zero (by omega)];exact hl⟩) λi k' es hi Kn hN=>?_
  (try dsimp only at hi)
  conv=>cbv
  obtain ⟨⟨h0,h1⟩,h2,h3⟩:=hi
  have hlen:=mix_len (λi:Nat=>Obv.mk' (k+4*(i:Int))) l i
  obtain ⟨L,hL⟩:∃L,L=mix (λi:Nat=>Obv.mk' (k+4*(i:Int))) l i:=⟨_,rfl⟩
  rw [←hL] at h3 hlen
  repeat' first
    |(refine hN (_,_,_) _ [0] (by decide) rfl ⟨?_,?_,?_⟩ ?_<;>(try dsimp only))
    |((first
   |refine idxS hE (by assumption) (by omega) ?_
   |refine q0 hE ?_
   |(refine idxL (R:=Obv.cs) hE (by assumption) (by first|omega|(simp only [List.length_set,mix_len];omega)) ?_;rintro ⟨⟩ _)
   |refine callI hE (markText_ _ (by omega)) (λ_ _=>?_)
   |refine updS hE (v':=(⟨_,_,_,_⟩:Obv)) (by assumption) (by omega) (by exact Nat.le_of_ble_eq_true rfl) (by first|rfl|((conv=>lhs;cbv);rfl)) (λ_ _=>?_)
   |refine updL hE (v':=(⟨_,_,_,_⟩:Obv)) (by assumption) (by omega) (by assumption) (by exact Nat.le_of_ble_eq_true rfl) (by first|rfl|((conv=>lhs;cbv);rfl)) (λ_ _=>?_)
   |refine B0 hE ?_|refine B1 hE ?_ ?_|refine B2 hE ?_)<;>intros<;>(try conv=>cbv))
  · omega
  · omega
  · clear hN hK
    rename_i hes _ hfin _ hi1
    rw [hes,hL,mix_set h0 (by omega) (v:=_) ?_ hi1]
    clear hL h3 hlen
    subst_vars
    rw [Int.toNat_of_nonneg h0]
    simp only [Obv.mk',Obv.mk.injEq,Int.add_zero]
    all_goals (refine ⟨?_,?_,?_,?_⟩<;>first|trivial|omega|rfl|(congr 1;omega))
  · omega
  · have hi:i=l.length:=by omega
    refine hK _ _ ⟨k',es,?_,?_,rfl,rfl⟩
    · rw [h2,hi]
    · rw [h3,hL,mix_all (by omega)];rfl
structure Shp where
  name:ByteArray
  speed:Int
  load:Int
  draught:Int
def Shp.cs (v:Shp):List AV:=[.str v.name,.int .i64 v.speed,.int .i64 v.load,.int .i64 v.draught]
theorem NoB.oShp (v:Shp):NoB (.agg v.cs):=(.aggC (.str _) (.aggC (.int _ _) (.aggC (.int _ _) (.aggC (.int _ _) .agg0))))
def Shp.sz (v:Shp):Nat:=v.name.size
theorem szShip_ (name:ByteArray) (speed:Int) (load:Int) (draught:Int) (n:Int) (hn:0<=n/\n<=1048576):AC Tryz.prog 19 [.agg [.str name,.int .i64 speed,.int .i64 load,.int .i64 draught],.int .i64 n] (AV.int .i64) (szN n (Shp.sz ⟨name,speed,load,draught⟩)):=by
  refine ac Tryz.func19 (.int _ _) λE K hE hK=>?_
  conv=>cbv
  repeat' first
    |((first
   |refine q0 hE ?_
   |refine B0 hE ?_|refine B1 hE ?_ ?_|refine B2 hE ?_)<;>intros<;>(try conv=>cbv))
  all_goals (refine hK _ ?_;show AV.int _ _=AV.int _ _;congr 1;unfold szN Shp.sz;simp only at *;split<;>omega)
theorem toShip_ (name:ByteArray) (speed:Int) (load:Int) (draught:Int):AC Tryz.prog 28 [.agg [.str name,.int .i64 speed,.int .i64 load,.int .i64 draught]] (λv:Shp=> .agg v.cs) ⟨name,speed,load,draught⟩:=by
  refine ac Tryz.func28 (.oShp _) λE K hE hK=>?_
  conv=>cbv
  exact hK _ rfl
theorem eqShip_ (name:ByteArray) (speed:Int) (load:Int) (draught:Int) (name':ByteArray) (speed':Int) (load':Int) (draught':Int):AC Tryz.prog 40 [.agg [.str name,.int .i64 speed,.int .i64 load,.int .i64 draught],.agg [.str name',.int .i64 speed',.int .i64 load',.int .i64 draught']] AV.bool (bP ((Shp.mk name speed load draught)=(Shp.mk name' speed' load' draught'))):=by
  refine ac Tryz.func40 (.bool _) λE K hE hK=>?_
  conv=>cbv
  repeat' first
    |((first
   |refine q0 hE ?_
   |refine B0 hE ?_|refine B1 hE ?_ ?_|refine B2 hE ?_)<;>intros<;>(try conv=>cbv))
  all_goals first|(refine finB hK (bP_true.2 ?_);simp only [Shp.mk.injEq,Pnt.mk.injEq] at *;simp_all;done)|(refine finB hK (bP_false.2 ?_);simp only [Shp.mk.injEq,Pnt.mk.injEq] at *;simp_all;done)
def Shp.mk' (k:Int):Shp:=⟨mText (k+0),k+1,k+2,k+3⟩
def Shp.mks (n:Nat) (k:Int):List Shp:=(List.range n).map λi:Nat=>Shp.mk' (k+4*(i:Int))
theorem Shp.mks_len (n:Nat) (k:Int):(Shp.mks n k).length=n:=by simp [Shp.mks]
theorem Shp.mks_get {n:Nat} {k i:Int} {v:Shp} (h0:0<=i) (h:(Shp.mks n k)[i.toNat]? =some v):v=Shp.mk' (k+4*i):=by
  unfold Shp.mks at h
  rw [List.getElem?_map] at h
  by_cases hi:i.toNat<n
  · rw [List.getElem?_range hi] at h
    simp only [Option.map_some,Option.some.injEq] at h
    rw [←h,Int.toNat_of_nonneg h0]
  · rw [List.getElem?_eq_none (by simpa using Nat.le_of_not_lt hi)] at h;cases h
structure Wrk where
  name:ByteArray
  atX:Int
  atY:Int
  load:Int
  minutes:Int
  frm:Int
  til:Int
def Wrk.cs (v:Wrk):List AV:=[.str v.name,.int .i64 v.atX,.int .i64 v.atY,.int .i64 v.load,.int .i64 v.minutes,.int .i64 v.frm,.int .i64 v.til]
theorem NoB.oWrk (v:Wrk):NoB (.agg v.cs):=(.aggC (.str _) (.aggC (.int _ _) (.aggC (.int _ _) (.aggC (.int _ _) (.aggC (.int _ _) (.aggC (.int _ _) (.aggC (.int _ _) .agg0)))))))
def Wrk.sz (v:Wrk):Nat:=v.name.size
theorem szWork_ (name:ByteArray) (atX:Int) (atY:Int) (load:Int) (minutes:Int) (frm:Int) (til:Int) (n:Int) (hn:0<=n/\n<=1048576):AC Tryz.prog 55 [.agg [.str name,.int .i64 atX,.int .i64 atY,.int .i64 load,.int .i64 minutes,.int .i64 frm,.int .i64 til],.int .i64 n] (AV.int .i64) (szN n (Wrk.sz ⟨name,atX,atY,load,minutes,frm,til⟩)):=by
  refine ac Tryz.func55 (.int _ _) λE K hE hK=>?_
  conv=>cbv
  repeat' first
    |((first
   |refine q0 hE ?_
   |refine B0 hE ?_|refine B1 hE ?_ ?_|refine B2 hE ?_)<;>intros<;>(try conv=>cbv))
  all_goals (refine hK _ ?_;show AV.int _ _=AV.int _ _;congr 1;unfold szN Wrk.sz;simp only at *;split<;>omega)
theorem szWorkS_ {rs:List (List AV)} {t:Bool} {l:List Wrk} (n:Int) (hl:rs=l.map Wrk.cs) (hn:0<=n/\n<=1048576):AC Tryz.prog 20 [.sl t 7 rs,.int .i64 n] (AV.int .i64) (szN n (l.length+(l.map Wrk.sz).sum)):=by
  refine ac Tryz.func20 (.int _ _) λE K hE hK=>?_
  conv=>cbv
  repeat' first
    |((first
   |refine q0 hE ?_
   |refine B0 hE ?_|refine B1 hE ?_ ?_|refine B2 hE ?_)<;>intros<;>(try conv=>cbv))
  · refine hK _ ?_
    rw [szN,if_pos (by omega)];rfl
  · refine loop2 hE [0] [5,1] (λ(i m:Int)=>([(5,.int .i64 i),(1,.int .i64 m)],[],l.length - i,(0<=i/\i<=l.length)/\(0<=m/\m<=1048576)/\m+sumTo Wrk.sz l i+l.length=n)) [] ((0,_)) rfl rfl (by dsimp only;exact ⟨by omega,by omega,by rw [sumTo_zero (by omega)];omega⟩) λi m hi Kn hN=>?_
    (try dsimp only at hi)
    conv=>cbv
    obtain ⟨⟨h0,h1⟩,h2,h3⟩:=hi
    have hle:=sumTo_le Wrk.sz l
    repeat' first
      |(refine hN (_,_) _ [] (by decide) rfl ⟨?_,?_,?_⟩ ?_<;>(try dsimp only))
      |((first
     |(refine idxL hE hl (by omega) (λv hv=>?_);have hs:=sumTo_succ Wrk.sz h0 hv;have hs2:=hle (i+1);obtain ⟨name,atX,atY,load,minutes,frm,til⟩:=v)
     |(refine callI hE (szWork_ _ _ _ _ _ _ _ _ (by omega)) (λy hy=>?_);have hz:=szN_or m (Wrk.sz ⟨name,atX,atY,load,minutes,frm,til⟩);rw [←hy] at hz;clear hy)
     |refine q0 hE ?_
     |refine B0 hE ?_|refine B1 hE ?_ ?_|refine B2 hE ?_)<;>intros<;>(try conv=>cbv))
    all_goals first
      |omega
      |(refine hK _ ?_;rw [szN_lt (by omega)];rfl)
      |(rename_i hn2;rw [hn2,hs];omega)
      |(refine hK _ ?_;have:=sumTo_all Wrk.sz l (i:=i) (by omega);rw [szN_ge (by omega)];show AV.int _ _=AV.int _ _;congr 1;omega)
theorem toWork_ (name:ByteArray) (atX:Int) (atY:Int) (load:Int) (minutes:Int) (frm:Int) (til:Int):AC Tryz.prog 67 [.agg [.str name,.int .i64 atX,.int .i64 atY,.int .i64 load,.int .i64 minutes,.int .i64 frm,.int .i64 til]] (λv:Wrk=> .agg v.cs) ⟨name,atX,atY,load,minutes,frm,til⟩:=by
  refine ac Tryz.func67 (.oWrk _) λE K hE hK=>?_
  conv=>cbv
  repeat' first
    |((first
   |refine q0 hE ?_
   |(refine callI hE (toPoint_ _ _) (λ_ hy=>?_);subst hy)
   |refine B0 hE ?_|refine B1 hE ?_ ?_|refine B2 hE ?_)<;>intros<;>(try conv=>cbv))
  all_goals exact hK _ rfl
theorem toWorkS_ {rs:List (List AV)} {t:Bool} {l:List Wrk} (hl:rs=l.map Wrk.cs) (hb0:l.length<=1048576):AC Tryz.prog 30 [.sl t 7 rs] (λl:List Wrk=> .sl true 7 (l.map Wrk.cs)) l:=by
  refine ac Tryz.func30 (.rows .oWrk) λE K hE hK=>?_
  conv=>cbv
  refine lenL hE hl λn hn hb=>?_
  conv=>cbv
  refine makeL hE (l:=l) Wrk.cs hn rfl (by omega) λes hes=>?_
  conv=>cbv
  refine loop2 hE [0] [4,3] (λ(i:Int) (es':List (List AV))=>([(4,.int .i64 i),(3,.ob 0)],[.row 7 es'],l.length - i,0<=i/\es'=fillRow Wrk.cs [.str ⟨#[]⟩,.int .i64 0,.int .i64 0,.int .i64 0,.int .i64 0,.int .i64 0,.int .i64 0] l i)) [0] ((0,es)) rfl rfl (by dsimp only;exact ⟨by omega,hes⟩) λi es' hi Kn hN=>?_
  (try dsimp only at hi)
  conv=>cbv
  obtain ⟨h0,hinv⟩:=hi
  repeat' first
    |(refine hN (_,_) _ [0] (by decide) rfl ⟨?_,?_⟩ ?_<;>(try dsimp only))
    |((first
   |refine q0 hE ?_
   |(refine idxL (R:=Wrk.cs) hE (by assumption) (by first|omega|(simp only [List.length_set,mix_len];omega)) ?_;rintro ⟨⟩ _)
   |(refine callI hE (toWork_ _ _ _ _ _ _ _) (λ_ hy=>?_);subst hy)
   |refine updFill (R:=Wrk.cs) hE (by assumption) (by omega) (by assumption) (by exact Nat.le_refl _) (by rfl) (λ_ _=>?_)
   |refine B0 hE ?_|refine B1 hE ?_ ?_|refine B2 hE ?_)<;>intros<;>(try conv=>cbv))
  · omega
  · subst_vars;rfl
  · omega
  · refine hK _ ?_
    rw [hinv,fillRow_all (by omega)];rfl
theorem eqWork_ (name:ByteArray) (atX:Int) (atY:Int) (load:Int) (minutes:Int) (frm:Int) (til:Int) (name':ByteArray) (atX':Int) (atY':Int) (load':Int) (minutes':Int) (frm':Int) (til':Int):AC Tryz.prog 83 [.agg [.str name,.int .i64 atX,.int .i64 atY,.int .i64 load,.int .i64 minutes,.int .i64 frm,.int .i64 til],.agg [.str name',.int .i64 atX',.int .i64 atY',.int .i64 load',.int .i64 minutes',.int .i64 frm',.int .i64 til']] AV.bool (bP ((Wrk.mk name atX atY load minutes frm til)=(Wrk.mk name' atX' atY' load' minutes' frm' til'))):=by
  refine ac Tryz.func83 (.bool _) λE K hE hK=>?_
  conv=>cbv
  repeat' first
    |((first
   |refine q0 hE ?_
   |refine callP hE (eqPoint_ _ _ _ _) (λ_=>?_) (λ_=>?_)
   |refine B0 hE ?_|refine B1 hE ?_ ?_|refine B2 hE ?_)<;>intros<;>(try conv=>cbv))
  all_goals first|(refine finB hK (bP_true.2 ?_);simp only [Wrk.mk.injEq,Pnt.mk.injEq] at *;simp_all;done)|(refine finB hK (bP_false.2 ?_);simp only [Wrk.mk.injEq,Pnt.mk.injEq] at *;simp_all;done)
theorem eqWorkS_ {rs rs':List (List AV)} {t t':Bool} {l m:List Wrk} (hl:rs=l.map Wrk.cs) (hm:rs'=m.map Wrk.cs):AC Tryz.prog 42 [.sl t 7 rs,.sl t' 7 rs'] AV.bool (bP (l=m)):=by
  refine ac Tryz.func42 (.bool _) λE K hE hK=>?_
  conv=>cbv
  refine lenL hE hl λn hn hb=>?_
  conv=>cbv
  refine lenL hE hm λn' hn' hb'=>?_
  conv=>cbv
  refine eqI hE (λhe=>?_) (λhe=>?_)<;>conv=>cbv
  · refine loop1 hE [0,1] [5] (λ(i:Int)=>([(5,.int .i64 i)],[],l.length - i,0<=i/\Up (λj=>l[j]? =m[j]?) i)) [] (0) rfl rfl (by dsimp only;exact ⟨by omega,.zero (by omega)⟩) λi hi Kn hN=>?_
    (try dsimp only at hi)
    conv=>cbv
    obtain ⟨h0,hinv⟩:=hi
    repeat' first
      |(refine hN _ _ [] (by decide) rfl ⟨?_,?_⟩ ?_<;>(try dsimp only))
      |((first
     |refine q0 hE ?_
     |refine callP hE (eqWork_ _ _ _ _ _ _ _ _ _ _ _ _ _ _) (λ_=>?_) (λ_=>?_)
     |(refine idxL (R:=Wrk.cs) hE (by assumption) (by first|omega|(simp only [List.length_set,mix_len];omega)) ?_;rintro ⟨⟩ _)
     |refine B0 hE ?_|refine B1 hE ?_ ?_|refine B2 hE ?_)<;>intros<;>(try conv=>cbv))
    · omega
    · refine hinv.succ ?_ (by assumption);clear hN;simp_all
    · omega
    · refine finB hK (bP_false.2 λh=>?_);clear hN;simp_all
    · exact finB hK (bP_true.2 (list_eq_of (by omega) hinv (by omega)))
  · refine finB hK (bP_false.2 λh=>?_);subst h;omega
def Wrk.mk' (k:Int):Wrk:=⟨mText (k+0),k+1,k+2,k+3,k+4,k+5,k+6⟩
def Wrk.mks (n:Nat) (k:Int):List Wrk:=(List.range n).map λi:Nat=>Wrk.mk' (k+7*(i:Int))
theorem Wrk.mks_len (n:Nat) (k:Int):(Wrk.mks n k).length=n:=by simp [Wrk.mks]
theorem Wrk.mks_get {n:Nat} {k i:Int} {v:Wrk} (h0:0<=i) (h:(Wrk.mks n k)[i.toNat]? =some v):v=Wrk.mk' (k+7*i):=by
  unfold Wrk.mks at h
  rw [List.getElem?_map] at h
  by_cases hi:i.toNat<n
  · rw [List.getElem?_range hi] at h
    simp only [Option.map_some,Option.some.injEq] at h
    rw [←h,Int.toNat_of_nonneg h0]
  · rw [List.getElem?_eq_none (by simpa using Nat.le_of_not_lt hi)] at h;cases h
theorem markWorkS_ {rs:List (List AV)} {l:List Wrk} (k:Int) (hl:rs=l.map Wrk.cs) (hk0:0<=k/\k<=1000000000000000) (hb:l.length<=100000000000):ACM Tryz.prog 49 [.sl true 7 rs,.int .i64 k] (λr ys=>∃(n:Int) (rs':List (List AV)),n=k+7*l.length/\rs'=(Wrk.mks l.length k).map Wrk.cs/\r= .int .i64 n/\ys=[.sl true 7 rs',.any]):=by
  refine acm 1 Tryz.func49 (λr ys ⟨n,rs',_,h3,h1,h2⟩=>⟨by rw [h1];exact .int _ _,by rw [h2,h3];simp;exact ⟨.rows .oWrk,.any⟩⟩) λE K hE hK=>?_
  conv=>cbv
  refine loop3 hE [] [5,1,0] (λ(i k':Int) (es:List (List AV))=>([(5,.int .i64 i),(1,.int .i64 k'),(0,.ob 0)],[.row 7 es],l.length - i,(0<=i/\i<=l.length)/\k'=k+7*i/\es=(mix (λi:Nat=>Wrk.mk' (k+7*(i:Int))) l i).map Wrk.cs)) [0] ((0,k,rs)) rfl rfl (by dsimp only;exact ⟨by omega,by omega,by rw [mix_zero (by omega)];exact hl⟩) λi k' es hi Kn hN=>?_
  (try dsimp only at hi)
  conv=>cbv
  obtain ⟨⟨h0,h1⟩,h2,h3⟩:=hi
  have hlen:=mix_len (λi:Nat=>Wrk.mk' (k+7*(i:Int))) l i
  obtain ⟨L,hL⟩:∃L,L=mix (λi:Nat=>Wrk.mk' (k+7*(i:Int))) l i:=⟨_,rfl⟩
  rw [←hL] at h3 hlen
  repeat' first
    |(refine hN (_,_,_) _ [0] (by decide) rfl ⟨?_,?_,?_⟩ ?_<;>(try dsimp only))
    |((first
   |refine idxS hE (by assumption) (by omega) ?_
   |refine q0 hE ?_
   |(refine idxL (R:=Wrk.cs) hE (by assumption) (by first|omega|(simp only [List.length_set,mix_len];omega)) ?_;rintro ⟨⟩ _)
   |refine callI hE (markText_ _ (by omega)) (λ_ _=>?_)
   |refine updS hE (v':=(⟨_,_,_,_,_,_,_⟩:Wrk)) (by assumption) (by omega) (by exact Nat.le_of_ble_eq_true rfl) (by first|rfl|((conv=>lhs;cbv);rfl)) (λ_ _=>?_)
   |refine updL hE (v':=(⟨_,_,_,_,_,_,_⟩:Wrk)) (by assumption) (by omega) (by assumption) (by exact Nat.le_of_ble_eq_true rfl) (by first|rfl|((conv=>lhs;cbv);rfl)) (λ_ _=>?_)
   |refine B0 hE ?_|refine B1 hE ?_ ?_|refine B2 hE ?_)<;>intros<;>(try conv=>cbv))
  · omega
  · omega
  · clear hN hK
    rename_i hes _ hfin _ hi1
    rw [hes,hL,mix_set h0 (by omega) (v:=_) ?_ hi1]
    clear hL h3 hlen
    subst_vars
    rw [Int.toNat_of_nonneg h0]
    simp only [Wrk.mk',Wrk.mk.injEq,Int.add_zero]
    all_goals (refine ⟨?_,?_,?_,?_,?_,?_,?_⟩<;>first|trivial|omega|rfl|(congr 1;omega))
  · omega
  · have hi:i=l.length:=by omega
    refine hK _ _ ⟨k',es,?_,?_,rfl,rfl⟩
    · rw [h2,hi]
    · rw [h3,hL,mix_all (by omega)];rfl
end Go.Proofs.YtpfddoikhmbebaaGreatDoor
/- Contracts: characters of lights, channels. -/
namespace Go.Proofs.YtpfddoikhmbebaaGreatDoor
open Go Go.RowKit Classical
set_option maxRecDepth 100000
set_option maxHeartbeats 2000000
set_option linter.unusedVariables false
set_option linter.unusedSimpArgs false
structure Chr where
  kind:Int
  group:List Int
  letter:ByteArray
  colors:ByteArray
  period:Int
def Chr.cs (b:Bool) (v:Chr):List AV:=[.int .i64 v.kind,.sl b 1 (v.group.map intR),.str v.letter,.str v.colors,.int .i64 v.period]
theorem NoB.oChr (v:Chr):NoB (.agg (v.cs true)):=(.aggC (.int _ _) (.aggC (.ints _) (.aggC (.str _) (.aggC (.str _) (.aggC (.int _ _) .agg0)))))
def Chr.sz (v:Chr):Nat:=v.group.length+v.letter.size+v.colors.size
theorem callChr {E:Env} {np:Nat} {P:Program} (hE:E=stdE np P) {f:FuncId} {args:List AV} {K:AV->Prop} {kind:Int} {group:List Int} {letter:ByteArray} {colors:ByteArray} {period:Int} (h:AC P f args (λv:Chr=> .agg (v.cs true)) (Chr.mk kind group letter colors period)) (hk:∀(r_group:List (List AV)),r_group=group.map intR->K (.agg [.int .i64 kind,.sl true 1 r_group,.str letter,.str colors,.int .i64 period])):E.call f args K:=
  callI hE h λy hy=>by subst hy;exact hk _ rfl
theorem szCharacter_ (kind:Int) (letter colors:ByteArray) (period:Int) {r_group:List (List AV)} {t_group:Bool} {group:List Int} (h_group:r_group=group.map intR) (n:Int) (hn:0<=n/\n<=1048576):AC Tryz.prog 87 [.agg [.int .i64 kind,.sl t_group 1 r_group,.str letter,.str colors,.int .i64 period],.int .i64 n] (AV.int .i64) (szN n (Chr.sz (Chr.mk kind group letter colors period))):=by
  refine ac Tryz.func87 (.int _ _) λE K hE hK=>?_
  conv=>cbv
  repeat' first
    |((first
   |(refine callI hE (szInt64S_ _ (by assumption) (by omega)) (λy hy=>?_);have hz:=szN_or2 hy;clear hy)
   |refine q0 hE ?_
   |refine B0 hE ?_|refine B1 hE ?_ ?_|refine B2 hE ?_)<;>intros<;>(try conv=>cbv))
  all_goals (refine hK _ ?_;show AV.int _ _=AV.int _ _;congr 1;unfold szN Chr.sz;simp only at *;split<;>omega)
theorem toCharacter_ (kind:Int) (letter colors:ByteArray) (period:Int) {r_group:List (List AV)} {t_group:Bool} {group:List Int} (h_group:r_group=group.map intR) (hz:Chr.sz (Chr.mk kind group letter colors period)<=1048576):AC Tryz.prog 118 [.agg [.int .i64 kind,.sl t_group 1 r_group,.str letter,.str colors,.int .i64 period]] (λv:Chr=> .agg (v.cs true)) (Chr.mk kind group letter colors period):=by
  refine ac Tryz.func118 (.oChr _) λE K hE hK=>?_
  conv=>cbv
  have hz':=hz
  simp only [Chr.sz] at hz'
  repeat' first
    |((first
   |refine q0 hE ?_
   |refine callR hE (toInt64S_ (by assumption) (by omega)) (λ_ _=>?_)
   |refine B0 hE ?_|refine B1 hE ?_ ?_|refine B2 hE ?_)<;>intros<;>(try conv=>cbv))
  all_goals first
    |(refine hK _ ?_;subst_vars;rfl)
theorem eqCharacter_ (kind:Int) (letter colors:ByteArray) (period:Int) (kind':Int) (letter' colors':ByteArray) (period':Int) {r_group:List (List AV)} {t_group:Bool} {group:List Int} {r_group':List (List AV)} {t_group':Bool} {group':List Int} (h_group:r_group=group.map intR) (h_group':r_group'=group'.map intR):AC Tryz.prog 147 [.agg [.int .i64 kind,.sl t_group 1 r_group,.str letter,.str colors,.int .i64 period],.agg [.int .i64 kind',.sl t_group' 1 r_group',.str letter',.str colors',.int .i64 period']] AV.bool (bP ((Chr.mk kind group letter colors period)=(Chr.mk kind' group' letter' colors' period'))):=by
  refine ac Tryz.func147 (.bool _) λE K hE hK=>?_
  conv=>cbv
  repeat' first
    |((first
   |refine q0 hE ?_
   |refine callP hE (eqInt64S_ (by assumption) (by assumption)) (λ_=>?_) (λ_=>?_)
   |refine B0 hE ?_|refine B1 hE ?_ ?_|refine B2 hE ?_)<;>intros<;>(try conv=>cbv))
  all_goals (clear h_group h_group')
  all_goals first|(refine finB hK (bP_true.2 ?_);simp only [Chr.mk.injEq] at *;simp_all;done)|(refine finB hK (bP_false.2 ?_);simp only [Chr.mk.injEq] at *;simp_all;done)
structure Chn where
  name:ByteArray
  line:List Pnt
  width:Int
def Chn.cs (b:Bool) (v:Chn):List AV:=[.str v.name,.sl b 2 (v.line.map Pnt.cs),.int .i64 v.width]
theorem NoB.oChn (v:Chn):NoB (.agg (v.cs true)):=(.aggC (.str _) (.aggC (.rows .oPnt) (.aggC (.int _ _) .agg0)))
def Chn.sz (v:Chn):Nat:=v.name.size+v.line.length
theorem callChn {E:Env} {np:Nat} {P:Program} (hE:E=stdE np P) {f:FuncId} {args:List AV} {K:AV->Prop} {name:ByteArray} {line:List Pnt} {width:Int} (h:AC P f args (λv:Chn=> .agg (v.cs true)) (Chn.mk name line width)) (hk:∀(r_line:List (List AV)),r_line=line.map Pnt.cs->K (.agg [.str name,.sl true 2 r_line,.int .i64 width])):E.call f args K:=
  callI hE h λy hy=>by subst hy;exact hk _ rfl
theorem szChannel_ (name:ByteArray) (width:Int) {r_line:List (List AV)} {t_line:Bool} {line:List Pnt} (h_line:r_line=line.map Pnt.cs) (n:Int) (hn:0<=n/\n<=1048576):AC Tryz.prog 89 [.agg [.str name,.sl t_line 2 r_line,.int .i64 width],.int .i64 n] (AV.int .i64) (szN n (Chn.sz (Chn.mk name line width))):=by
  refine ac Tryz.func89 (.int _ _) λE K hE hK=>?_
  conv=>cbv
  repeat' first
    |((first
   |(refine callI hE (szPointS_ _ (by assumption) (by omega)) (λy hy=>?_);have hz:=szN_or2 hy;clear hy)
   |refine q0 hE ?_
   |refine B0 hE ?_|refine B1 hE ?_ ?_|refine B2 hE ?_)<;>intros<;>(try conv=>cbv))
  all_goals (refine hK _ ?_;show AV.int _ _=AV.int _ _;congr 1;unfold szN Chn.sz;simp only at *;split<;>omega)
theorem toChannel_ (name:ByteArray) (width:Int) {r_line:List (List AV)} {t_line:Bool} {line:List Pnt} (h_line:r_line=line.map Pnt.cs) (hz:Chn.sz (Chn.mk name line width)<=1048576):AC Tryz.prog 120 [.agg [.str name,.sl t_line 2 r_line,.int .i64 width]] (λv:Chn=> .agg (v.cs true)) (Chn.mk name line width):=by
  refine ac Tryz.func120 (.oChn _) λE K hE hK=>?_
  conv=>cbv
  have hz':=hz
  simp only [Chn.sz] at hz'
  repeat' first
    |((first
   |refine q0 hE ?_
   |refine callR hE (toPointS_ (by assumption) (by omega)) (λ_ _=>?_)
   |refine B0 hE ?_|refine B1 hE ?_ ?_|refine B2 hE ?_)<;>intros<;>(try conv=>cbv))
  all_goals first
    |(refine hK _ ?_;subst_vars;rfl)
theorem eqChannel_ (name:ByteArray) (width:Int) (name':ByteArray) (width':Int) {r_line:List (List AV)} {t_line:Bool} {line:List Pnt} {r_line':List (List AV)} {t_line':Bool} {line':List Pnt} (h_line:r_line=line.map Pnt.cs) (h_line':r_line'=line'.map Pnt.cs):AC Tryz.prog 149 [.agg [.str name,.sl t_line 2 r_line,.int .i64 width],.agg [.str name',.sl t_line' 2 r_line',.int .i64 width']] AV.bool (bP ((Chn.mk name line width)=(Chn.mk name' line' width'))):=by
  refine ac Tryz.func149 (.bool _) λE K hE hK=>?_
  conv=>cbv
  repeat' first
    |((first
   |refine q0 hE ?_
   |refine callP hE (eqPointS_ (by assumption) (by assumption)) (λ_=>?_) (λ_=>?_)
   |refine B0 hE ?_|refine B1 hE ?_ ?_|refine B2 hE ?_)<;>intros<;>(try conv=>cbv))
  all_goals (clear h_line h_line')
  all_goals first|(refine finB hK (bP_true.2 ?_);simp only [Chn.mk.injEq] at *;simp_all;done)|(refine finB hK (bP_false.2 ?_);simp only [Chn.mk.injEq] at *;simp_all;done)
end Go.Proofs.YtpfddoikhmbebaaGreatDoor
/- Contracts: aids. -/
namespace Go.Proofs.YtpfddoikhmbebaaGreatDoor
open Go Go.RowKit Classical
set_option maxRecDepth 100000
set_option maxHeartbeats 2000000
set_option linter.unusedVariables false
set_option linter.unusedSimpArgs false
structure Aid where
  number:Int
  name:ByteArray
  atX:Int
  atY:Int
  height:Int
  mKind:Int
  mColors:ByteArray
  mShape:ByteArray
  mTop:ByteArray
  lKind:Int
  lGroup:List Int
  lLetter:ByteArray
  lColors:ByteArray
  lPeriod:Int
  sectors:List Scr
  intensity:Int
def Aid.cs (b:Bool) (v:Aid):List AV:=[.int .i64 v.number,.str v.name,.int .i64 v.atX,.int .i64 v.atY,.int .i64 v.height,.int .i64 v.mKind,.str v.mColors,.str v.mShape,.str v.mTop,.int .i64 v.lKind,.sl b 1 (v.lGroup.map intR),.str v.lLetter,.str v.lColors,.int .i64 v.lPeriod,.sl b 3 (v.sectors.map Scr.cs),.int .i64 v.intensity]
theorem NoB.oAid (v:Aid):NoB (.agg (v.cs true)):=(.aggC (.int _ _) (.aggC (.str _) (.aggC (.int _ _) (.aggC (.int _ _) (.aggC (.int _ _) (.aggC (.int _ _) (.aggC (.str _) (.aggC (.str _) (.aggC (.str _) (.aggC (.int _ _) (.aggC (.ints _) (.aggC (.str _) (.aggC (.str _) (.aggC (.int _ _) (.aggC (.rows .oScr) (.aggC (.int _ _) .agg0))))))))))))))))
def Aid.sz (v:Aid):Nat:=v.name.size+Mrk.sz ⟨v.mKind,v.mColors,v.mShape,v.mTop⟩+Chr.sz ⟨v.lKind,v.lGroup,v.lLetter,v.lColors,v.lPeriod⟩+(v.sectors.length+(v.sectors.map Scr.sz).sum)
theorem idxAid {E:Env} {np:Nat} {P:Program} (hE:E=stdE np P) {es:List (List AV)} {i:Int} {K:List AV->Prop} {l:List Aid} {b:Bool} (hl:es=l.map (Aid.cs b)) (h0:0<=i/\i<l.length) (hk:∀(number:Int) (name:ByteArray) (atX:Int) (atY:Int) (height:Int) (mKind:Int) (mColors:ByteArray) (mShape:ByteArray) (mTop:ByteArray) (lKind:Int) (lGroup:List Int) (lLetter:ByteArray) (lColors:ByteArray) (lPeriod:Int) (sectors:List Scr) (intensity:Int) (r_lGroup r_sectors:List (List AV)),l[i.toNat]? =some (Aid.mk number name atX atY height mKind mColors mShape mTop lKind lGroup lLetter lColors lPeriod sectors intensity)->r_lGroup=lGroup.map intR->r_sectors=sectors.map Scr.cs->K [.int .i64 number,.str name,.int .i64 atX,.int .i64 atY,.int .i64 height,.int .i64 mKind,.str mColors,.str mShape,.str mTop,.int .i64 lKind,.sl b 1 r_lGroup,.str lLetter,.str lColors,.int .i64 lPeriod,.sl b 3 r_sectors,.int .i64 intensity]):E.idx es i K:=
  idxL hE hl h0 λv hv=>by
    obtain ⟨number,name,atX,atY,height,mKind,mColors,mShape,mTop,lKind,lGroup,lLetter,lColors,lPeriod,sectors,intensity⟩:=v
    exact hk number name atX atY height mKind mColors mShape mTop lKind lGroup lLetter lColors lPeriod sectors intensity _ _ hv rfl rfl
theorem idxAidV {E:Env} {np:Nat} {P:Program} (hE:E=stdE np P) {es:List (List AV)} {i:Int} {K:List AV->Prop} {l:List Aid} {b:Bool} {number:Int} {name:ByteArray} {atX:Int} {atY:Int} {height:Int} {mKind:Int} {mColors:ByteArray} {mShape:ByteArray} {mTop:ByteArray} {lKind:Int} {lGroup:List Int} {lLetter:ByteArray} {lColors:ByteArray} {lPeriod:Int} {sectors:List Scr} {intensity:Int} {r_lGroup r_sectors:List (List AV)} (hl:es=l.map (Aid.cs b)) (h0:0<=i) (hv:l[i.toNat]? =some (Aid.mk number name atX atY height mKind mColors mShape mTop lKind lGroup lLetter lColors lPeriod sectors intensity)) (h_lGroup:r_lGroup=lGroup.map intR) (h_sectors:r_sectors=sectors.map Scr.cs) (hk:K [.int .i64 number,.str name,.int .i64 atX,.int .i64 atY,.int .i64 height,.int .i64 mKind,.str mColors,.str mShape,.str mTop,.int .i64 lKind,.sl b 1 r_lGroup,.str lLetter,.str lColors,.int .i64 lPeriod,.sl b 3 r_sectors,.int .i64 intensity]):E.idx es i K:=by
  subst h_lGroup h_sectors
  exact idxV hE hl h0 hv hk
theorem callAid {E:Env} {np:Nat} {P:Program} (hE:E=stdE np P) {f:FuncId} {args:List AV} {K:AV->Prop} {number:Int} {name:ByteArray} {atX:Int} {atY:Int} {height:Int} {mKind:Int} {mColors:ByteArray} {mShape:ByteArray} {mTop:ByteArray} {lKind:Int} {lGroup:List Int} {lLetter:ByteArray} {lColors:ByteArray} {lPeriod:Int} {sectors:List Scr} {intensity:Int} (h:AC P f args (λv:Aid=> .agg (v.cs true)) (Aid.mk number name atX atY height mKind mColors mShape mTop lKind lGroup lLetter lColors lPeriod sectors intensity)) (hk:∀(r_lGroup r_sectors:List (List AV)),r_lGroup=lGroup.map intR->r_sectors=sectors.map Scr.cs->K (.agg [.int .i64 number,.str name,.int .i64 atX,.int .i64 atY,.int .i64 height,.int .i64 mKind,.str mColors,.str mShape,.str mTop,.int .i64 lKind,.sl true 1 r_lGroup,.str lLetter,.str lColors,.int .i64 lPeriod,.sl true 3 r_sectors,.int .i64 intensity])):E.call f args K:=
  callI hE h λy hy=>by subst hy;exact hk _ _ rfl rfl
theorem szAid_ (number:Int) (name:ByteArray) (atX atY height mKind:Int) (mColors mShape mTop:ByteArray) (lKind:Int) (lLetter lColors:ByteArray) (lPeriod intensity:Int) {r_lGroup r_sectors:List (List AV)} {t_lGroup t_sectors:Bool} {lGroup:List Int} {sectors:List Scr} (h_lGroup:r_lGroup=lGroup.map intR) (h_sectors:r_sectors=sectors.map Scr.cs) (n:Int) (hn:0<=n/\n<=1048576):AC Tryz.prog 51 [.agg [.int .i64 number,.str name,.int .i64 atX,.int .i64 atY,.int .i64 height,.int .i64 mKind,.str mColors,.str mShape,.str mTop,.int .i64 lKind,.sl t_lGroup 1 r_lGroup,.str lLetter,.str lColors,.int .i64 lPeriod,.sl t_sectors 3 r_sectors,.int .i64 intensity],.int .i64 n] (AV.int .i64) (szN n (Aid.sz (Aid.mk number name atX atY height mKind mColors mShape mTop lKind lGroup lLetter lColors lPeriod sectors intensity))):=by
  refine ac Tryz.func51 (.int _ _) λE K hE hK=>?_
  conv=>cbv
  repeat' first
    |((first
   |(refine callI hE (szMark_ _ _ _ _ _ (by omega)) (λy hy=>?_);have hz:=szN_or2 hy;clear hy)
   |(refine callI hE (szCharacter_ _ _ _ _ (by assumption) _ (by omega)) (λy hy=>?_);have hz:=szN_or2 hy;clear hy)
   |(refine callI hE (szSectorS_ _ (by assumption) (by omega)) (λy hy=>?_);have hz:=szN_or2 hy;clear hy)
   |refine q0 hE ?_
   |refine B0 hE ?_|refine B1 hE ?_ ?_|refine B2 hE ?_)<;>intros<;>(try conv=>cbv))
  all_goals (refine hK _ ?_;show AV.int _ _=AV.int _ _;congr 1;unfold szN Aid.sz;simp only at *;split<;>omega)
theorem szAidS_ {rs:List (List AV)} {t b:Bool} {l:List Aid} (n:Int) (hl:rs=l.map (Aid.cs b)) (hn:0<=n/\n<=1048576):AC Tryz.prog 13 [.sl t 16 rs,.int .i64 n] (AV.int .i64) (szN n (l.length+(l.map Aid.sz).sum)):=by
  refine ac Tryz.func13 (.int _ _) λE K hE hK=>?_
  conv=>cbv
  repeat' first
    |((first
   |refine q0 hE ?_
   |refine B0 hE ?_|refine B1 hE ?_ ?_|refine B2 hE ?_)<;>intros<;>(try conv=>cbv))
  · refine hK _ ?_
    rw [szN,if_pos (by omega)];rfl
  · refine loop2 hE [0] [5,1] (λ(i m:Int)=>([(5,.int .i64 i),(1,.int .i64 m)],[],l.length - i,(0<=i/\i<=l.length)/\(0<=m/\m<=1048576)/\m+sumTo Aid.sz l i+l.length=n)) [] ((0,_)) rfl rfl (by dsimp only;exact ⟨by omega,by omega,by rw [sumTo_zero (by omega)];omega⟩) λi m hi Kn hN=>?_
    (try dsimp only at hi)
    conv=>cbv
    obtain ⟨⟨h0,h1⟩,h2,h3⟩:=hi
    have hle:=sumTo_le Aid.sz l
    repeat' first
      |(refine hN (_,_) _ [] (by decide) rfl ⟨?_,?_,?_⟩ ?_<;>(try dsimp only))
      |((first
     |(refine idxAid hE hl (by omega) (λnumber name atX atY height mKind mColors mShape mTop lKind lGroup lLetter lColors lPeriod sectors intensity r_lGroup r_sectors hv h_lGroup h_sectors=>?_);have hs:=sumTo_succ Aid.sz h0 hv;have hs2:=hle (i+1))
     |(refine callI hE (szAid_ _ _ _ _ _ _ _ _ _ _ _ _ _ _ (by assumption) (by assumption) _ (by omega)) (λy hy=>?_);have hz:=szN_or2 hy;clear hy)
     |refine q0 hE ?_
     |refine B0 hE ?_|refine B1 hE ?_ ?_|refine B2 hE ?_)<;>intros<;>(try conv=>cbv))
    all_goals first
      |omega
      |(refine hK _ ?_;rw [szN_lt (by omega)];rfl)
      |(rename_i hn2;rw [hn2,hs];omega)
      |(refine hK _ ?_;have:=sumTo_all Aid.sz l (i:=i) (by omega);rw [szN_ge (by omega)];show AV.int _ _=AV.int _ _;congr 1;omega)
theorem toAid_ (number:Int) (name:ByteArray) (atX atY height mKind:Int) (mColors mShape mTop:ByteArray) (lKind:Int) (lLetter lColors:ByteArray) (lPeriod intensity:Int) {r_lGroup r_sectors:List (List AV)} {t_lGroup t_sectors:Bool} {lGroup:List Int} {sectors:List Scr} (h_lGroup:r_lGroup=lGroup.map intR) (h_sectors:r_sectors=sectors.map Scr.cs) (hz:Aid.sz (Aid.mk number name atX atY height mKind mColors mShape mTop lKind lGroup lLetter lColors lPeriod sectors intensity)<=1048576):AC Tryz.prog 62 [.agg [.int .i64 number,.str name,.int .i64 atX,.int .i64 atY,.int .i64 height,.int .i64 mKind,.str mColors,.str mShape,.str mTop,.int .i64 lKind,.sl t_lGroup 1 r_lGroup,.str lLetter,.str lColors,.int .i64 lPeriod,.sl t_sectors 3 r_sectors,.int .i64 intensity]] (λv:Aid=> .agg (v.cs true)) (Aid.mk number name atX atY height mKind mColors mShape mTop lKind lGroup lLetter lColors lPeriod sectors intensity):=by
  refine ac Tryz.func62 (.oAid _) λE K hE hK=>?_
  conv=>cbv
  have hz':=hz
  simp only [Aid.sz] at hz'
  repeat' first
    |((first
   |refine q0 hE ?_
   |(refine callI hE (toPoint_ _ _) (λ_ hy=>?_);subst hy)
   |(refine callI hE (toMark_ _ _ _ _) (λ_ hy=>?_);subst hy)
   |refine callChr hE (toCharacter_ _ _ _ _ (by assumption) (by omega)) (λ_ _=>?_)
   |refine callR hE (toSectorS_ (by assumption) (by omega)) (λ_ _=>?_)
   |refine B0 hE ?_|refine B1 hE ?_ ?_|refine B2 hE ?_)<;>intros<;>(try conv=>cbv))
  all_goals first
    |(refine hK _ ?_;subst_vars;rfl)
theorem toAidS_ {rs:List (List AV)} {t b:Bool} {l:List Aid} (hl:rs=l.map (Aid.cs b)) (hz:l.length+(l.map Aid.sz).sum<=1048576):AC Tryz.prog 22 [.sl t 16 rs] (λl:List Aid=> .sl true 16 (l.map (Aid.cs true))) l:=by
  refine ac Tryz.func22 (.rows .oAid) λE K hE hK=>?_
  conv=>cbv
  refine lenL hE hl λn hn hb=>?_
  conv=>cbv
  refine makeL hE (l:=l) (Aid.cs true) hn rfl (by omega) λes hes=>?_
  conv=>cbv
  refine loop2 hE [0] [4,3] (λ(i:Int) (es':List (List AV))=>([(4,.int .i64 i),(3,.ob 0)],[.row 16 es'],l.length - i,0<=i/\es'=fillRow (Aid.cs true) [.int .i64 0,.str ⟨#[]⟩,.int .i64 0,.int .i64 0,.int .i64 0,.int .i64 0,.str ⟨#[]⟩,.str ⟨#[]⟩,.str ⟨#[]⟩,.int .i64 0,.nils,.str ⟨#[]⟩,.str ⟨#[]⟩,.int .i64 0,.nils,.int .i64 0] l i)) [0] ((0,es)) rfl rfl (by dsimp only;exact ⟨by omega,hes⟩) λi es' hi Kn hN=>?_
  (try dsimp only at hi)
  conv=>cbv
  obtain ⟨h0,hinv⟩:=hi
  repeat' first
    |(refine hN (_,_) _ [0] (by decide) rfl ⟨?_,?_⟩ ?_<;>(try dsimp only))
    |((first
   |(refine idxAid hE hl (by omega) (λnumber name atX atY height mKind mColors mShape mTop lKind lGroup lLetter lColors lPeriod sectors intensity r_lGroup r_sectors hv h_lGroup h_sectors=>?_);have hsz:=sum_get Aid.sz hv)
   |refine q0 hE ?_
   |refine callAid hE (toAid_ _ _ _ _ _ _ _ _ _ _ _ _ _ _ (by assumption) (by assumption) (by omega)) (λ_ _ _ _=>?_)
   |refine updFill (R:=Aid.cs true) hE (by assumption) (by omega) (by assumption) (by exact Nat.le_refl _) (by subst_vars;rfl) (λ_ _=>?_)
   |refine B0 hE ?_|refine B1 hE ?_ ?_|refine B2 hE ?_)<;>intros<;>(try conv=>cbv))
  · omega
  · subst_vars;rfl
  · omega
  · refine hK _ ?_
    rw [hinv,fillRow_all (by omega)];rfl
theorem eqAid_ (number:Int) (name:ByteArray) (atX atY height mKind:Int) (mColors mShape mTop:ByteArray) (lKind:Int) (lLetter lColors:ByteArray) (lPeriod intensity:Int) (number':Int) (name':ByteArray) (atX' atY' height' mKind':Int) (mColors' mShape' mTop':ByteArray) (lKind':Int) (lLetter' lColors':ByteArray) (lPeriod' intensity':Int) {r_lGroup r_sectors:List (List AV)} {t_lGroup t_sectors:Bool} {lGroup:List Int} {sectors:List Scr} {r_lGroup' r_sectors':List (List AV)} {t_lGroup' t_sectors':Bool} {lGroup':List Int} {sectors':List Scr} (h_lGroup:r_lGroup=lGroup.map intR) (h_sectors:r_sectors=sectors.map Scr.cs) (h_lGroup':r_lGroup'=lGroup'.map intR) (h_sectors':r_sectors'=sectors'.map Scr.cs):AC Tryz.prog 78 [.agg [.int .i64 number,.str name,.int .i64 atX,.int .i64 atY,.int .i64 height,.int .i64 mKind,.str mColors,.str mShape,.str mTop,.int .i64 lKind,.sl t_lGroup 1 r_lGroup,.str lLetter,.str lColors,.int .i64 lPeriod,.sl t_sectors 3 r_sectors,.int .i64 intensity],.agg [.int .i64 number',.str name',.int .i64 atX',.int .i64 atY',.int .i64 height',.int .i64 mKind',.str mColors',.str mShape',.str mTop',.int .i64 lKind',.sl t_lGroup' 1 r_lGroup',.str lLetter',.str lColors',.int .i64 lPeriod',.sl t_sectors' 3 r_sectors',.int .i64 intensity']] AV.bool (bP ((Aid.mk number name atX atY height mKind mColors mShape mTop lKind lGroup lLetter lColors lPeriod sectors intensity)=(Aid.mk number' name' atX' atY' height' mKind' mColors' mShape' mTop' lKind' lGroup' lLetter' lColors' lPeriod' sectors' intensity'))):=by
  refine ac Tryz.func78 (.bool _) λE K hE hK=>?_
  conv=>cbv
  repeat' first
    |((first
   |refine q0 hE ?_
   |refine callP hE (eqPoint_ _ _ _ _) (λ_=>?_) (λ_=>?_)
   |refine callP hE (eqMark_ _ _ _ _ _ _ _ _) (λ_=>?_) (λ_=>?_)
   |refine callP hE (eqCharacter_ _ _ _ _ _ _ _ _ (by assumption) (by assumption)) (λ_=>?_) (λ_=>?_)
   |refine callP hE (eqSectorS_ (by assumption) (by assumption)) (λ_=>?_) (λ_=>?_)
   |refine B0 hE ?_|refine B1 hE ?_ ?_|refine B2 hE ?_)<;>intros<;>(try conv=>cbv))
  all_goals (clear h_lGroup h_sectors h_lGroup' h_sectors')
  all_goals first|(refine finB hK (bP_true.2 ?_);simp only [Aid.mk.injEq,Pnt.mk.injEq,Mrk.mk.injEq,Chr.mk.injEq] at *;simp_all;done)|(refine finB hK (bP_false.2 ?_);simp only [Aid.mk.injEq,Pnt.mk.injEq,Mrk.mk.injEq,Chr.mk.injEq] at *;simp_all;done)
theorem eqAidS_ {rs rs':List (List AV)} {t t' b b':Bool} {l m:List Aid} (hl:rs=l.map (Aid.cs b)) (hm:rs'=m.map (Aid.cs b')):AC Tryz.prog 34 [.sl t 16 rs,.sl t' 16 rs'] AV.bool (bP (l=m)):=by
  refine ac Tryz.func34 (.bool _) λE K hE hK=>?_
  conv=>cbv
  refine lenL hE hl λn hn hb=>?_
  conv=>cbv
  refine lenL hE hm λn' hn' hb'=>?_
  conv=>cbv
  refine eqI hE (λhe=>?_) (λhe=>?_)<;>conv=>cbv
  · refine loop1 hE [0,1] [5] (λ(i:Int)=>([(5,.int .i64 i)],[],l.length - i,0<=i/\Up (λj=>l[j]? =m[j]?) i)) [] (0) rfl rfl (by dsimp only;exact ⟨by omega,.zero (by omega)⟩) λi hi Kn hN=>?_
    (try dsimp only at hi)
    conv=>cbv
    obtain ⟨h0,hinv⟩:=hi
    repeat' first
      |(refine hN _ _ [] (by decide) rfl ⟨?_,?_⟩ ?_<;>(try dsimp only))
      |((first
     |refine idxAid hE hl (by omega) (λnumber name atX atY height mKind mColors mShape mTop lKind lGroup lLetter lColors lPeriod sectors intensity r_lGroup r_sectors hv h_lGroup h_sectors=>?_)
     |refine idxAid hE hm (by omega) (λnumber' name' atX' atY' height' mKind' mColors' mShape' mTop' lKind' lGroup' lLetter' lColors' lPeriod' sectors' intensity' r_lGroup' r_sectors' hv' h_lGroup' h_sectors'=>?_)
     |refine callP hE (eqAid_ _ _ _ _ _ _ _ _ _ _ _ _ _ _ _ _ _ _ _ _ _ _ _ _ _ _ _ _ (by assumption) (by assumption) (by assumption) (by assumption)) (λhq=>?_) (λhq=>?_)
     |refine q0 hE ?_
     |refine B0 hE ?_|refine B1 hE ?_ ?_|refine B2 hE ?_)<;>intros<;>(try conv=>cbv))
    all_goals first
      |omega
      |exact hinv.succ (hv.trans ((congrArg some hq).trans hv'.symm)) (by assumption)
      |(refine finB hK (bP_false.2 λh=>hq ?_);rw [h,hv'] at hv;exact (Option.some.inj hv).symm)
      |exact finB hK (bP_true.2 (list_eq_of (by omega) hinv (by omega)))
  · refine finB hK (bP_false.2 λh=>?_);subst h;omega
end Go.Proofs.YtpfddoikhmbebaaGreatDoor
/- Contracts: notices, fairways. -/
namespace Go.Proofs.YtpfddoikhmbebaaGreatDoor
open Go Go.RowKit Classical
set_option maxRecDepth 100000
set_option maxHeartbeats 2000000
set_option linter.unusedVariables false
set_option linter.unusedSimpArgs false
structure Ntc where
  number:Int
  day:Int
  kind:Int
  target:Int
  aNumber:Int
  aName:ByteArray
  atX:Int
  atY:Int
  aHeight:Int
  mKind:Int
  mColors:ByteArray
  mShape:ByteArray
  mTop:ByteArray
  lKind:Int
  lGroup:List Int
  lLetter:ByteArray
  lColors:ByteArray
  lPeriod:Int
  sectors:List Scr
  intensity:Int
def Ntc.cs (b:Bool) (v:Ntc):List AV:=[.int .i64 v.number,.int .i64 v.day,.int .i64 v.kind,.int .i64 v.target,.int .i64 v.aNumber,.str v.aName,.int .i64 v.atX,.int .i64 v.atY,.int .i64 v.aHeight,.int .i64 v.mKind,.str v.mColors,.str v.mShape,.str v.mTop,.int .i64 v.lKind,.sl b 1 (v.lGroup.map intR),.str v.lLetter,.str v.lColors,.int .i64 v.lPeriod,.sl b 3 (v.sectors.map Scr.cs),.int .i64 v.intensity]
theorem NoB.oNtc (v:Ntc):NoB (.agg (v.cs true)):=(.aggC (.int _ _) (.aggC (.int _ _) (.aggC (.int _ _) (.aggC (.int _ _) (.aggC (.int _ _) (.aggC (.str _) (.aggC (.int _ _) (.aggC (.int _ _) (.aggC (.int _ _) (.aggC (.int _ _) (.aggC (.str _) (.aggC (.str _) (.aggC (.str _) (.aggC (.int _ _) (.aggC (.ints _) (.aggC (.str _) (.aggC (.str _) (.aggC (.int _ _) (.aggC (.rows .oScr) (.aggC (.int _ _) .agg0))))))))))))))))))))
def Ntc.sz (v:Ntc):Nat:=Aid.sz ⟨v.aNumber,v.aName,v.atX,v.atY,v.aHeight,v.mKind,v.mColors,v.mShape,v.mTop,v.lKind,v.lGroup,v.lLetter,v.lColors,v.lPeriod,v.sectors,v.intensity⟩
theorem idxNtc {E:Env} {np:Nat} {P:Program} (hE:E=stdE np P) {es:List (List AV)} {i:Int} {K:List AV->Prop} {l:List Ntc} {b:Bool} (hl:es=l.map (Ntc.cs b)) (h0:0<=i/\i<l.length) (hk:∀(number:Int) (day:Int) (kind:Int) (target:Int) (aNumber:Int) (aName:ByteArray) (atX:Int) (atY:Int) (aHeight:Int) (mKind:Int) (mColors:ByteArray) (mShape:ByteArray) (mTop:ByteArray) (lKind:Int) (lGroup:List Int) (lLetter:ByteArray) (lColors:ByteArray) (lPeriod:Int) (sectors:List Scr) (intensity:Int) (r_lGroup r_sectors:List (List AV)),l[i.toNat]? =some (Ntc.mk number day kind target aNumber aName atX atY aHeight mKind mColors mShape mTop lKind lGroup lLetter lColors lPeriod sectors intensity)->r_lGroup=lGroup.map intR->r_sectors=sectors.map Scr.cs->K [.int .i64 number,.int .i64 day,.int .i64 kind,.int .i64 target,.int .i64 aNumber,.str aName,.int .i64 atX,.int .i64 atY,.int .i64 aHeight,.int .i64 mKind,.str mColors,.str mShape,.str mTop,.int .i64 lKind,.sl b 1 r_lGroup,.str lLetter,.str lColors,.int .i64 lPeriod,.sl b 3 r_sectors,.int .i64 intensity]):E.idx es i K:=
  idxL hE hl h0 λv hv=>by
    obtain ⟨number,day,kind,target,aNumber,aName,atX,atY,aHeight,mKind,mColors,mShape,mTop,lKind,lGroup,lLetter,lColors,lPeriod,sectors,intensity⟩:=v
    exact hk number day kind target aNumber aName atX atY aHeight mKind mColors mShape mTop lKind lGroup lLetter lColors lPeriod sectors intensity _ _ hv rfl rfl
theorem idxNtcV {E:Env} {np:Nat} {P:Program} (hE:E=stdE np P) {es:List (List AV)} {i:Int} {K:List AV->Prop} {l:List Ntc} {b:Bool} {number:Int} {day:Int} {kind:Int} {target:Int} {aNumber:Int} {aName:ByteArray} {atX:Int} {atY:Int} {aHeight:Int} {mKind:Int} {mColors:ByteArray} {mShape:ByteArray} {mTop:ByteArray} {lKind:Int} {lGroup:List Int} {lLetter:ByteArray} {lColors:ByteArray} {lPeriod:Int} {sectors:List Scr} {intensity:Int} {r_lGroup r_sectors:List (List AV)} (hl:es=l.map (Ntc.cs b)) (h0:0<=i) (hv:l[i.toNat]? =some (Ntc.mk number day kind target aNumber aName atX atY aHeight mKind mColors mShape mTop lKind lGroup lLetter lColors lPeriod sectors intensity)) (h_lGroup:r_lGroup=lGroup.map intR) (h_sectors:r_sectors=sectors.map Scr.cs) (hk:K [.int .i64 number,.int .i64 day,.int .i64 kind,.int .i64 target,.int .i64 aNumber,.str aName,.int .i64 atX,.int .i64 atY,.int .i64 aHeight,.int .i64 mKind,.str mColors,.str mShape,.str mTop,.int .i64 lKind,.sl b 1 r_lGroup,.str lLetter,.str lColors,.int .i64 lPeriod,.sl b 3 r_sectors,.int .i64 intensity]):E.idx es i K:=by
  subst h_lGroup h_sectors
  exact idxV hE hl h0 hv hk
theorem callNtc {E:Env} {np:Nat} {P:Program} (hE:E=stdE np P) {f:FuncId} {args:List AV} {K:AV->Prop} {number:Int} {day:Int} {kind:Int} {target:Int} {aNumber:Int} {aName:ByteArray} {atX:Int} {atY:Int} {aHeight:Int} {mKind:Int} {mColors:ByteArray} {mShape:ByteArray} {mTop:ByteArray} {lKind:Int} {lGroup:List Int} {lLetter:ByteArray} {lColors:ByteArray} {lPeriod:Int} {sectors:List Scr} {intensity:Int} (h:AC P f args (λv:Ntc=> .agg (v.cs true)) (Ntc.mk number day kind target aNumber aName atX atY aHeight mKind mColors mShape mTop lKind lGroup lLetter lColors lPeriod sectors intensity)) (hk:∀(r_lGroup r_sectors:List (List AV)),r_lGroup=lGroup.map intR->r_sectors=sectors.map Scr.cs->K (.agg [.int .i64 number,.int .i64 day,.int .i64 kind,.int .i64 target,.int .i64 aNumber,.str aName,.int .i64 atX,.int .i64 atY,.int .i64 aHeight,.int .i64 mKind,.str mColors,.str mShape,.str mTop,.int .i64 lKind,.sl true 1 r_lGroup,.str lLetter,.str lColors,.int .i64 lPeriod,.sl true 3 r_sectors,.int .i64 intensity])):E.call f args K:=
  callI hE h λy hy=>by subst hy;exact hk _ _ rfl rfl
theorem szNotice_ (number day kind target aNumber:Int) (aName:ByteArray) (atX atY aHeight mKind:Int) (mColors mShape mTop:ByteArray) (lKind:Int) (lLetter lColors:ByteArray) (lPeriod intensity:Int) {r_lGroup r_sectors:List (List AV)} {t_lGroup t_sectors:Bool} {lGroup:List Int} {sectors:List Scr} (h_lGroup:r_lGroup=lGroup.map intR) (h_sectors:r_sectors=sectors.map Scr.cs) (n:Int) (hn:0<=n/\n<=1048576):AC Tryz.prog 52 [.agg [.int .i64 number,.int .i64 day,.int .i64 kind,.int .i64 target,.int .i64 aNumber,.str aName,.int .i64 atX,.int .i64 atY,.int .i64 aHeight,.int .i64 mKind,.str mColors,.str mShape,.str mTop,.int .i64 lKind,.sl t_lGroup 1 r_lGroup,.str lLetter,.str lColors,.int .i64 lPeriod,.sl t_sectors 3 r_sectors,.int .i64 intensity],.int .i64 n] (AV.int .i64) (szN n (Ntc.sz (Ntc.mk number day kind target aNumber aName atX atY aHeight mKind mColors mShape mTop lKind lGroup lLetter lColors lPeriod sectors intensity))):=by
  refine ac Tryz.func52 (.int _ _) λE K hE hK=>?_
  conv=>cbv
  repeat' first
    |((first
   |(refine callI hE (szAid_ _ _ _ _ _ _ _ _ _ _ _ _ _ _ (by assumption) (by assumption) _ (by omega)) (λy hy=>?_);have hz:=szN_or2 hy;clear hy)
   |refine q0 hE ?_
   |refine B0 hE ?_|refine B1 hE ?_ ?_|refine B2 hE ?_)<;>intros<;>(try conv=>cbv))
  all_goals (refine hK _ ?_;show AV.int _ _=AV.int _ _;congr 1;unfold szN Ntc.sz;simp only at *;split<;>omega)
theorem szNoticeS_ {rs:List (List AV)} {t b:Bool} {l:List Ntc} (n:Int) (hl:rs=l.map (Ntc.cs b)) (hn:0<=n/\n<=1048576):AC Tryz.prog 14 [.sl t 20 rs,.int .i64 n] (AV.int .i64) (szN n (l.length+(l.map Ntc.sz).sum)):=by
  refine ac Tryz.func14 (.int _ _) λE K hE hK=>?_
  conv=>cbv
  repeat' first
    |((first
   |refine q0 hE ?_
   |refine B0 hE ?_|refine B1 hE ?_ ?_|refine B2 hE ?_)<;>intros<;>(try conv=>cbv))
  · refine hK _ ?_
    rw [szN,if_pos (by omega)];rfl
  · refine loop2 hE [0] [5,1] (λ(i m:Int)=>([(5,.int .i64 i),(1,.int .i64 m)],[],l.length - i,(0<=i/\i<=l.length)/\(0<=m/\m<=1048576)/\m+sumTo Ntc.sz l i+l.length=n)) [] ((0,_)) rfl rfl (by dsimp only;exact ⟨by omega,by omega,by rw [sumTo_zero (by omega)];omega⟩) λi m hi Kn hN=>?_
    (try dsimp only at hi)
    conv=>cbv
    obtain ⟨⟨h0,h1⟩,h2,h3⟩:=hi
    have hle:=sumTo_le Ntc.sz l
    repeat' first
      |(refine hN (_,_) _ [] (by decide) rfl ⟨?_,?_,?_⟩ ?_<;>(try dsimp only))
      |((first
     |(refine idxNtc hE hl (by omega) (λnumber day kind target aNumber aName atX atY aHeight mKind mColors mShape mTop lKind lGroup lLetter lColors lPeriod sectors intensity r_lGroup r_sectors hv h_lGroup h_sectors=>?_);have hs:=sumTo_succ Ntc.sz h0 hv;have hs2:=hle (i+1))
     |(refine callI hE (szNotice_ _ _ _ _ _ _ _ _ _ _ _ _ _ _ _ _ _ _ (by assumption) (by assumption) _ (by omega)) (λy hy=>?_);have hz:=szN_or2 hy;clear hy)
     |refine q0 hE ?_
     |refine B0 hE ?_|refine B1 hE ?_ ?_|refine B2 hE ?_)<;>intros<;>(try conv=>cbv))
    all_goals first
      |omega
      |(refine hK _ ?_;rw [szN_lt (by omega)];rfl)
      |(rename_i hn2;rw [hn2,hs];omega)
      |(refine hK _ ?_;have:=sumTo_all Ntc.sz l (i:=i) (by omega);rw [szN_ge (by omega)];show AV.int _ _=AV.int _ _;congr 1;omega)
theorem toNotice_ (number day kind target aNumber:Int) (aName:ByteArray) (atX atY aHeight mKind:Int) (mColors mShape mTop:ByteArray) (lKind:Int) (lLetter lColors:ByteArray) (lPeriod intensity:Int) {r_lGroup r_sectors:List (List AV)} {t_lGroup t_sectors:Bool} {lGroup:List Int} {sectors:List Scr} (h_lGroup:r_lGroup=lGroup.map intR) (h_sectors:r_sectors=sectors.map Scr.cs) (hz:Ntc.sz (Ntc.mk number day kind target aNumber aName atX atY aHeight mKind mColors mShape mTop lKind lGroup lLetter lColors lPeriod sectors intensity)<=1048576):AC Tryz.prog 63 [.agg [.int .i64 number,.int .i64 day,.int .i64 kind,.int .i64 target,.int .i64 aNumber,.str aName,.int .i64 atX,.int .i64 atY,.int .i64 aHeight,.int .i64 mKind,.str mColors,.str mShape,.str mTop,.int .i64 lKind,.sl t_lGroup 1 r_lGroup,.str lLetter,.str lColors,.int .i64 lPeriod,.sl t_sectors 3 r_sectors,.int .i64 intensity]] (λv:Ntc=> .agg (v.cs true)) (Ntc.mk number day kind target aNumber aName atX atY aHeight mKind mColors mShape mTop lKind lGroup lLetter lColors lPeriod sectors intensity):=by
  refine ac Tryz.func63 (.oNtc _) λE K hE hK=>?_
  conv=>cbv
  have hz':=hz
  simp only [Ntc.sz] at hz'
  repeat' first
    |((first
   |refine q0 hE ?_
   |refine callAid hE (toAid_ _ _ _ _ _ _ _ _ _ _ _ _ _ _ (by assumption) (by assumption) (by omega)) (λ_ _ _ _=>?_)
   |refine B0 hE ?_|refine B1 hE ?_ ?_|refine B2 hE ?_)<;>intros<;>(try conv=>cbv))
  all_goals first
    |(refine hK _ ?_;subst_vars;rfl)
theorem toNoticeS_ {rs:List (List AV)} {t b:Bool} {l:List Ntc} (hl:rs=l.map (Ntc.cs b)) (hz:l.length+(l.map Ntc.sz).sum<=1048576):AC Tryz.prog 23 [.sl t 20 rs] (λl:List Ntc=> .sl true 20 (l.map (Ntc.cs true))) l:=by
  refine ac Tryz.func23 (.rows .oNtc) λE K hE hK=>?_
  conv=>cbv
  refine lenL hE hl λn hn hb=>?_
  conv=>cbv
  refine makeL hE (l:=l) (Ntc.cs true) hn rfl (by omega) λes hes=>?_
  conv=>cbv
  refine loop2 hE [0] [4,3] (λ(i:Int) (es':List (List AV))=>([(4,.int .i64 i),(3,.ob 0)],[.row 20 es'],l.length - i,0<=i/\es'=fillRow (Ntc.cs true) [.int .i64 0,.int .i64 0,.int .i64 0,.int .i64 0,.int .i64 0,.str ⟨#[]⟩,.int .i64 0,.int .i64 0,.int .i64 0,.int .i64 0,.str ⟨#[]⟩,.str ⟨#[]⟩,.str ⟨#[]⟩,.int .i64 0,.nils,.str ⟨#[]⟩,.str ⟨#[]⟩,.int .i64 0,.nils,.int .i64 0] l i)) [0] ((0,es)) rfl rfl (by dsimp only;exact ⟨by omega,hes⟩) λi es' hi Kn hN=>?_
  (try dsimp only at hi)
  conv=>cbv
  obtain ⟨h0,hinv⟩:=hi
  repeat' first
    |(refine hN (_,_) _ [0] (by decide) rfl ⟨?_,?_⟩ ?_<;>(try dsimp only))
    |((first
   |(refine idxNtc hE hl (by omega) (λnumber day kind target aNumber aName atX atY aHeight mKind mColors mShape mTop lKind lGroup lLetter lColors lPeriod sectors intensity r_lGroup r_sectors hv h_lGroup h_sectors=>?_);have hsz:=sum_get Ntc.sz hv)
   |refine q0 hE ?_
   |refine callNtc hE (toNotice_ _ _ _ _ _ _ _ _ _ _ _ _ _ _ _ _ _ _ (by assumption) (by assumption) (by omega)) (λ_ _ _ _=>?_)
   |refine updFill (R:=Ntc.cs true) hE (by assumption) (by omega) (by assumption) (by exact Nat.le_refl _) (by subst_vars;rfl) (λ_ _=>?_)
   |refine B0 hE ?_|refine B1 hE ?_ ?_|refine B2 hE ?_)<;>intros<;>(try conv=>cbv))
  · omega
  · subst_vars;rfl
  · omega
  · refine hK _ ?_
    rw [hinv,fillRow_all (by omega)];rfl
theorem eqNotice_ (number day kind target aNumber:Int) (aName:ByteArray) (atX atY aHeight mKind:Int) (mColors mShape mTop:ByteArray) (lKind:Int) (lLetter lColors:ByteArray) (lPeriod intensity:Int) (number' day' kind' target' aNumber':Int) (aName':ByteArray) (atX' atY' aHeight' mKind':Int) (mColors' mShape' mTop':ByteArray) (lKind':Int) (lLetter' lColors':ByteArray) (lPeriod' intensity':Int) {r_lGroup r_sectors:List (List AV)} {t_lGroup t_sectors:Bool} {lGroup:List Int} {sectors:List Scr} {r_lGroup' r_sectors':List (List AV)} {t_lGroup' t_sectors':Bool} {lGroup':List Int} {sectors':List Scr} (h_lGroup:r_lGroup=lGroup.map intR) (h_sectors:r_sectors=sectors.map Scr.cs) (h_lGroup':r_lGroup'=lGroup'.map intR) (h_sectors':r_sectors'=sectors'.map Scr.cs):AC Tryz.prog 79 [.agg [.int .i64 number,.int .i64 day,.int .i64 kind,.int .i64 target,.int .i64 aNumber,.str aName,.int .i64 atX,.int .i64 atY,.int .i64 aHeight,.int .i64 mKind,.str mColors,.str mShape,.str mTop,.int .i64 lKind,.sl t_lGroup 1 r_lGroup,.str lLetter,.str lColors,.int .i64 lPeriod,.sl t_sectors 3 r_sectors,.int .i64 intensity],.agg [.int .i64 number',.int .i64 day',.int .i64 kind',.int .i64 target',.int .i64 aNumber',.str aName',.int .i64 atX',.int .i64 atY',.int .i64 aHeight',.int .i64 mKind',.str mColors',.str mShape',.str mTop',.int .i64 lKind',.sl t_lGroup' 1 r_lGroup',.str lLetter',.str lColors',.int .i64 lPeriod',.sl t_sectors' 3 r_sectors',.int .i64 intensity']] AV.bool (bP ((Ntc.mk number day kind target aNumber aName atX atY aHeight mKind mColors mShape mTop lKind lGroup lLetter lColors lPeriod sectors intensity)=(Ntc.mk number' day' kind' target' aNumber' aName' atX' atY' aHeight' mKind' mColors' mShape' mTop' lKind' lGroup' lLetter' lColors' lPeriod' sectors' intensity'))):=by
  refine ac Tryz.func79 (.bool _) λE K hE hK=>?_
  conv=>cbv
  repeat' first
    |((first
   |refine q0 hE ?_
   |refine callP hE (eqAid_ _ _ _ _ _ _ _ _ _ _ _ _ _ _ _ _ _ _ _ _ _ _ _ _ _ _ _ _ (by assumption) (by assumption) (by assumption) (by assumption)) (λ_=>?_) (λ_=>?_)
   |refine B0 hE ?_|refine B1 hE ?_ ?_|refine B2 hE ?_)<;>intros<;>(try conv=>cbv))
  all_goals (clear h_lGroup h_sectors h_lGroup' h_sectors')
  all_goals first|(refine finB hK (bP_true.2 ?_);simp only [Ntc.mk.injEq,Aid.mk.injEq] at *;simp_all;done)|(refine finB hK (bP_false.2 ?_);simp only [Ntc.mk.injEq,Aid.mk.injEq] at *;simp_all;done)
theorem eqNoticeS_ {rs rs':List (List AV)} {t t' b b':Bool} {l m:List Ntc} (hl:rs=l.map (Ntc.cs b)) (hm:rs'=m.map (Ntc.cs b')):AC Tryz.prog 35 [.sl t 20 rs,.sl t' 20 rs'] AV.bool (bP (l=m)):=by
  refine ac Tryz.func35 (.bool _) λE K hE hK=>?_
  conv=>cbv
  refine lenL hE hl λn hn hb=>?_
  conv=>cbv
  refine lenL hE hm λn' hn' hb'=>?_
  conv=>cbv
  refine eqI hE (λhe=>?_) (λhe=>?_)<;>conv=>cbv
  · refine loop1 hE [0,1] [5] (λ(i:Int)=>([(5,.int .i64 i)],[],l.length - i,0<=i/\Up (λj=>l[j]? =m[j]?) i)) [] (0) rfl rfl (by dsimp only;exact ⟨by omega,.zero (by omega)⟩) λi hi Kn hN=>?_
    (try dsimp only at hi)
    conv=>cbv
    obtain ⟨h0,hinv⟩:=hi
    repeat' first
      |(refine hN _ _ [] (by decide) rfl ⟨?_,?_⟩ ?_<;>(try dsimp only))
      |((first
     |refine idxNtc hE hl (by omega) (λnumber day kind target aNumber aName atX atY aHeight mKind mColors mShape mTop lKind lGroup lLetter lColors lPeriod sectors intensity r_lGroup r_sectors hv h_lGroup h_sectors=>?_)
     |refine idxNtc hE hm (by omega) (λnumber' day' kind' target' aNumber' aName' atX' atY' aHeight' mKind' mColors' mShape' mTop' lKind' lGroup' lLetter' lColors' lPeriod' sectors' intensity' r_lGroup' r_sectors' hv' h_lGroup' h_sectors'=>?_)
     |refine callP hE (eqNotice_ _ _ _ _ _ _ _ _ _ _ _ _ _ _ _ _ _ _ _ _ _ _ _ _ _ _ _ _ _ _ _ _ _ _ _ _ (by assumption) (by assumption) (by assumption) (by assumption)) (λhq=>?_) (λhq=>?_)
     |refine q0 hE ?_
     |refine B0 hE ?_|refine B1 hE ?_ ?_|refine B2 hE ?_)<;>intros<;>(try conv=>cbv))
    all_goals first
      |omega
      |exact hinv.succ (hv.trans ((congrArg some hq).trans hv'.symm)) (by assumption)
      |(refine finB hK (bP_false.2 λh=>hq ?_);rw [h,hv'] at hv;exact (Option.some.inj hv).symm)
      |exact finB hK (bP_true.2 (list_eq_of (by omega) hinv (by omega)))
  · refine finB hK (bP_false.2 λh=>?_);subst h;omega
structure Fwy where
  name:ByteArray
  line:List Pnt
  width:Int
  spacing:Int
  tolerance:Int
def Fwy.cs (b:Bool) (v:Fwy):List AV:=[.str v.name,.sl b 2 (v.line.map Pnt.cs),.int .i64 v.width,.int .i64 v.spacing,.int .i64 v.tolerance]
theorem NoB.oFwy (v:Fwy):NoB (.agg (v.cs true)):=(.aggC (.str _) (.aggC (.rows .oPnt) (.aggC (.int _ _) (.aggC (.int _ _) (.aggC (.int _ _) .agg0)))))
def Fwy.sz (v:Fwy):Nat:=Chn.sz ⟨v.name,v.line,v.width⟩
theorem idxFwy {E:Env} {np:Nat} {P:Program} (hE:E=stdE np P) {es:List (List AV)} {i:Int} {K:List AV->Prop} {l:List Fwy} {b:Bool} (hl:es=l.map (Fwy.cs b)) (h0:0<=i/\i<l.length) (hk:∀(name:ByteArray) (line:List Pnt) (width:Int) (spacing:Int) (tolerance:Int) (r_line:List (List AV)),l[i.toNat]? =some (Fwy.mk name line width spacing tolerance)->r_line=line.map Pnt.cs->K [.str name,.sl b 2 r_line,.int .i64 width,.int .i64 spacing,.int .i64 tolerance]):E.idx es i K:=
  idxL hE hl h0 λv hv=>by
    obtain ⟨name,line,width,spacing,tolerance⟩:=v
    exact hk name line width spacing tolerance _ hv rfl
theorem callFwy {E:Env} {np:Nat} {P:Program} (hE:E=stdE np P) {f:FuncId} {args:List AV} {K:AV->Prop} {name:ByteArray} {line:List Pnt} {width:Int} {spacing:Int} {tolerance:Int} (h:AC P f args (λv:Fwy=> .agg (v.cs true)) (Fwy.mk name line width spacing tolerance)) (hk:∀(r_line:List (List AV)),r_line=line.map Pnt.cs->K (.agg [.str name,.sl true 2 r_line,.int .i64 width,.int .i64 spacing,.int .i64 tolerance])):E.call f args K:=
  callI hE h λy hy=>by subst hy;exact hk _ rfl
theorem szFairway_ (name:ByteArray) (width spacing tolerance:Int) {r_line:List (List AV)} {t_line:Bool} {line:List Pnt} (h_line:r_line=line.map Pnt.cs) (n:Int) (hn:0<=n/\n<=1048576):AC Tryz.prog 53 [.agg [.str name,.sl t_line 2 r_line,.int .i64 width,.int .i64 spacing,.int .i64 tolerance],.int .i64 n] (AV.int .i64) (szN n (Fwy.sz (Fwy.mk name line width spacing tolerance))):=by
  refine ac Tryz.func53 (.int _ _) λE K hE hK=>?_
  conv=>cbv
  repeat' first
    |((first
   |(refine callI hE (szChannel_ _ _ (by assumption) _ (by omega)) (λy hy=>?_);have hz:=szN_or2 hy;clear hy)
   |refine q0 hE ?_
   |refine B0 hE ?_|refine B1 hE ?_ ?_|refine B2 hE ?_)<;>intros<;>(try conv=>cbv))
  all_goals (refine hK _ ?_;show AV.int _ _=AV.int _ _;congr 1;unfold szN Fwy.sz;simp only at *;split<;>omega)
theorem szFairwayS_ {rs:List (List AV)} {t b:Bool} {l:List Fwy} (n:Int) (hl:rs=l.map (Fwy.cs b)) (hn:0<=n/\n<=1048576):AC Tryz.prog 15 [.sl t 5 rs,.int .i64 n] (AV.int .i64) (szN n (l.length+(l.map Fwy.sz).sum)):=by
  refine ac Tryz.func15 (.int _ _) λE K hE hK=>?_
  conv=>cbv
  repeat' first
    |((first
   |refine q0 hE ?_
   |refine B0 hE ?_|refine B1 hE ?_ ?_|refine B2 hE ?_)<;>intros<;>(try conv=>cbv))
  · refine hK _ ?_
    rw [szN,if_pos (by omega)];rfl
  · refine loop2 hE [0] [5,1] (λ(i m:Int)=>([(5,.int .i64 i),(1,.int .i64 m)],[],l.length - i,(0<=i/\i<=l.length)/\(0<=m/\m<=1048576)/\m+sumTo Fwy.sz l i+l.length=n)) [] ((0,_)) rfl rfl (by dsimp only;exact ⟨by omega,by omega,by rw [sumTo_zero (by omega)];omega⟩) λi m hi Kn hN=>?_
    (try dsimp only at hi)
    conv=>cbv
    obtain ⟨⟨h0,h1⟩,h2,h3⟩:=hi
    have hle:=sumTo_le Fwy.sz l
    repeat' first
      |(refine hN (_,_) _ [] (by decide) rfl ⟨?_,?_,?_⟩ ?_<;>(try dsimp only))
      |((first
     |(refine idxFwy hE hl (by omega) (λname line width spacing tolerance r_line hv h_line=>?_);have hs:=sumTo_succ Fwy.sz h0 hv;have hs2:=hle (i+1))
     |(refine callI hE (szFairway_ _ _ _ _ (by assumption) _ (by omega)) (λy hy=>?_);have hz:=szN_or2 hy;clear hy)
     |refine q0 hE ?_
     |refine B0 hE ?_|refine B1 hE ?_ ?_|refine B2 hE ?_)<;>intros<;>(try conv=>cbv))
    all_goals first
      |omega
      |(refine hK _ ?_;rw [szN_lt (by omega)];rfl)
      |(rename_i hn2;rw [hn2,hs];omega)
      |(refine hK _ ?_;have:=sumTo_all Fwy.sz l (i:=i) (by omega);rw [szN_ge (by omega)];show AV.int _ _=AV.int _ _;congr 1;omega)
theorem toFairway_ (name:ByteArray) (width spacing tolerance:Int) {r_line:List (List AV)} {t_line:Bool} {line:List Pnt} (h_line:r_line=line.map Pnt.cs) (hz:Fwy.sz (Fwy.mk name line width spacing tolerance)<=1048576):AC Tryz.prog 64 [.agg [.str name,.sl t_line 2 r_line,.int .i64 width,.int .i64 spacing,.int .i64 tolerance]] (λv:Fwy=> .agg (v.cs true)) (Fwy.mk name line width spacing tolerance):=by
  refine ac Tryz.func64 (.oFwy _) λE K hE hK=>?_
  conv=>cbv
  have hz':=hz
  simp only [Fwy.sz] at hz'
  repeat' first
    |((first
   |refine q0 hE ?_
   |refine callChn hE (toChannel_ _ _ (by assumption) (by omega)) (λ_ _=>?_)
   |refine B0 hE ?_|refine B1 hE ?_ ?_|refine B2 hE ?_)<;>intros<;>(try conv=>cbv))
  all_goals first
    |(refine hK _ ?_;subst_vars;rfl)
theorem toFairwayS_ {rs:List (List AV)} {t b:Bool} {l:List Fwy} (hl:rs=l.map (Fwy.cs b)) (hz:l.length+(l.map Fwy.sz).sum<=1048576):AC Tryz.prog 24 [.sl t 5 rs] (λl:List Fwy=> .sl true 5 (l.map (Fwy.cs true))) l:=by
  refine ac Tryz.func24 (.rows .oFwy) λE K hE hK=>?_
  conv=>cbv
  refine lenL hE hl λn hn hb=>?_
  conv=>cbv
  refine makeL hE (l:=l) (Fwy.cs true) hn rfl (by omega) λes hes=>?_
  conv=>cbv
  refine loop2 hE [0] [4,3] (λ(i:Int) (es':List (List AV))=>([(4,.int .i64 i),(3,.ob 0)],[.row 5 es'],l.length - i,0<=i/\es'=fillRow (Fwy.cs true) [.str ⟨#[]⟩,.nils,.int .i64 0,.int .i64 0,.int .i64 0] l i)) [0] ((0,es)) rfl rfl (by dsimp only;exact ⟨by omega,hes⟩) λi es' hi Kn hN=>?_
  (try dsimp only at hi)
  conv=>cbv
  obtain ⟨h0,hinv⟩:=hi
  repeat' first
    |(refine hN (_,_) _ [0] (by decide) rfl ⟨?_,?_⟩ ?_<;>(try dsimp only))
    |((first
   |(refine idxFwy hE hl (by omega) (λname line width spacing tolerance r_line hv h_line=>?_);have hsz:=sum_get Fwy.sz hv)
   |refine q0 hE ?_
   |refine callFwy hE (toFairway_ _ _ _ _ (by assumption) (by omega)) (λ_ _=>?_)
   |refine updFill (R:=Fwy.cs true) hE (by assumption) (by omega) (by assumption) (by exact Nat.le_refl _) (by subst_vars;rfl) (λ_ _=>?_)
   |refine B0 hE ?_|refine B1 hE ?_ ?_|refine B2 hE ?_)<;>intros<;>(try conv=>cbv))
  · omega
  · subst_vars;rfl
  · omega
  · refine hK _ ?_
    rw [hinv,fillRow_all (by omega)];rfl
theorem eqFairway_ (name:ByteArray) (width spacing tolerance:Int) (name':ByteArray) (width' spacing' tolerance':Int) {r_line:List (List AV)} {t_line:Bool} {line:List Pnt} {r_line':List (List AV)} {t_line':Bool} {line':List Pnt} (h_line:r_line=line.map Pnt.cs) (h_line':r_line'=line'.map Pnt.cs):AC Tryz.prog 80 [.agg [.str name,.sl t_line 2 r_line,.int .i64 width,.int .i64 spacing,.int .i64 tolerance],.agg [.str name',.sl t_line' 2 r_line',.int .i64 width',.int .i64 spacing',.int .i64 tolerance']] AV.bool (bP ((Fwy.mk name line width spacing tolerance)=(Fwy.mk name' line' width' spacing' tolerance'))):=by
  refine ac Tryz.func80 (.bool _) λE K hE hK=>?_
  conv=>cbv
  repeat' first
    |((first
   |refine q0 hE ?_
   |refine callP hE (eqChannel_ _ _ _ _ (by assumption) (by assumption)) (λ_=>?_) (λ_=>?_)
   |refine B0 hE ?_|refine B1 hE ?_ ?_|refine B2 hE ?_)<;>intros<;>(try conv=>cbv))
  all_goals (clear h_line h_line')
  all_goals first|(refine finB hK (bP_true.2 ?_);simp only [Fwy.mk.injEq,Chn.mk.injEq] at *;simp_all;done)|(refine finB hK (bP_false.2 ?_);simp only [Fwy.mk.injEq,Chn.mk.injEq] at *;simp_all;done)
theorem eqFairwayS_ {rs rs':List (List AV)} {t t' b b':Bool} {l m:List Fwy} (hl:rs=l.map (Fwy.cs b)) (hm:rs'=m.map (Fwy.cs b')):AC Tryz.prog 36 [.sl t 5 rs,.sl t' 5 rs'] AV.bool (bP (l=m)):=by
  refine ac Tryz.func36 (.bool _) λE K hE hK=>?_
  conv=>cbv
  refine lenL hE hl λn hn hb=>?_
  conv=>cbv
  refine lenL hE hm λn' hn' hb'=>?_
  conv=>cbv
  refine eqI hE (λhe=>?_) (λhe=>?_)<;>conv=>cbv
  · refine loop1 hE [0,1] [5] (λ(i:Int)=>([(5,.int .i64 i)],[],l.length - i,0<=i/\Up (λj=>l[j]? =m[j]?) i)) [] (0) rfl rfl (by dsimp only;exact ⟨by omega,.zero (by omega)⟩) λi hi Kn hN=>?_
    (try dsimp only at hi)
    conv=>cbv
    obtain ⟨h0,hinv⟩:=hi
    repeat' first
      |(refine hN _ _ [] (by decide) rfl ⟨?_,?_⟩ ?_<;>(try dsimp only))
      |((first
     |refine idxFwy hE hl (by omega) (λname line width spacing tolerance r_line hv h_line=>?_)
     |refine idxFwy hE hm (by omega) (λname' line' width' spacing' tolerance' r_line' hv' h_line'=>?_)
     |refine callP hE (eqFairway_ _ _ _ _ _ _ _ _ (by assumption) (by assumption)) (λhq=>?_) (λhq=>?_)
     |refine q0 hE ?_
     |refine B0 hE ?_|refine B1 hE ?_ ?_|refine B2 hE ?_)<;>intros<;>(try conv=>cbv))
    all_goals first
      |omega
      |exact hinv.succ (hv.trans ((congrArg some hq).trans hv'.symm)) (by assumption)
      |(refine finB hK (bP_false.2 λh=>hq ?_);rw [h,hv'] at hv;exact (Option.some.inj hv).symm)
      |exact finB hK (bP_true.2 (list_eq_of (by omega) hinv (by omega)))
  · refine finB hK (bP_false.2 λh=>?_);subst h;omega
end Go.Proofs.YtpfddoikhmbebaaGreatDoor
/- Contracts: authorities. -/
namespace Go.Proofs.YtpfddoikhmbebaaGreatDoor
open Go Go.RowKit Classical
set_option maxRecDepth 100000
set_option maxHeartbeats 2000000
set_option linter.unusedVariables false
set_option linter.unusedSimpArgs false
structure Aut where
  edition:List Aid
  notices:List Ntc
  day:Int
  fairways:List Fwy
  dangers:List Dgr
  away:Int
  observers:List Obv
  tolerance:Int
  full:List Int
  sName:ByteArray
  sSpeed:Int
  sLoad:Int
  sDraught:Int
  bX:Int
  bY:Int
  works:List Wrk
  order:List Int
  start:Int
def Aut.cs (b:Bool) (v:Aut):List AV:=[.sl b 16 (v.edition.map (Aid.cs b)),.sl b 20 (v.notices.map (Ntc.cs b)),.int .i64 v.day,.sl b 5 (v.fairways.map (Fwy.cs b)),.sl b 4 (v.dangers.map Dgr.cs),.int .i64 v.away,.sl b 4 (v.observers.map Obv.cs),.int .i64 v.tolerance,.sl b 1 (v.full.map intR),.str v.sName,.int .i64 v.sSpeed,.int .i64 v.sLoad,.int .i64 v.sDraught,.int .i64 v.bX,.int .i64 v.bY,.sl b 7 (v.works.map Wrk.cs),.sl b 1 (v.order.map intR),.int .i64 v.start]
theorem NoB.oAut (v:Aut):NoB (.agg (v.cs true)):=(.aggC (.rows .oAid) (.aggC (.rows .oNtc) (.aggC (.int _ _) (.aggC (.rows .oFwy) (.aggC (.rows .oDgr) (.aggC (.int _ _) (.aggC (.rows .oObv) (.aggC (.int _ _) (.aggC (.ints _) (.aggC (.str _) (.aggC (.int _ _) (.aggC (.int _ _) (.aggC (.int _ _) (.aggC (.int _ _) (.aggC (.int _ _) (.aggC (.rows .oWrk) (.aggC (.ints _) (.aggC (.int _ _) .agg0))))))))))))))))))
def Aut.sz (v:Aut):Nat:=(v.edition.length+(v.edition.map Aid.sz).sum)+(v.notices.length+(v.notices.map Ntc.sz).sum)+(v.fairways.length+(v.fairways.map Fwy.sz).sum)+(v.dangers.length+(v.dangers.map Dgr.sz).sum)+v.observers.length+v.full.length+Shp.sz ⟨v.sName,v.sSpeed,v.sLoad,v.sDraught⟩+(v.works.length+(v.works.map Wrk.sz).sum)+v.order.length
theorem callAut {E:Env} {np:Nat} {P:Program} (hE:E=stdE np P) {f:FuncId} {args:List AV} {K:AV->Prop} {edition:List Aid} {notices:List Ntc} {day:Int} {fairways:List Fwy} {dangers:List Dgr} {away:Int} {observers:List Obv} {tolerance:Int} {full:List Int} {sName:ByteArray} {sSpeed:Int} {sLoad:Int} {sDraught:Int} {bX:Int} {bY:Int} {works:List Wrk} {order:List Int} {start:Int} (h:AC P f args (λv:Aut=> .agg (v.cs true)) (Aut.mk edition notices day fairways dangers away observers tolerance full sName sSpeed sLoad sDraught bX bY works order start)) (hk:∀(r_edition r_notices r_fairways r_dangers r_observers r_full r_works r_order:List (List AV)),r_edition=edition.map (Aid.cs true)->r_notices=notices.map (Ntc.cs true)->r_fairways=fairways.map (Fwy.cs true)->r_dangers=dangers.map Dgr.cs->r_observers=observers.map Obv.cs->r_full=full.map intR->r_works=works.map Wrk.cs->r_order=order.map intR->K (.agg [.sl true 16 r_edition,.sl true 20 r_notices,.int .i64 day,.sl true 5 r_fairways,.sl true 4 r_dangers,.int .i64 away,.sl true 4 r_observers,.int .i64 tolerance,.sl true 1 r_full,.str sName,.int .i64 sSpeed,.int .i64 sLoad,.int .i64 sDraught,.int .i64 bX,.int .i64 bY,.sl true 7 r_works,.sl true 1 r_order,.int .i64 start])):E.call f args K:=
  callI hE h λy hy=>by subst hy;exact hk _ _ _ _ _ _ _ _ rfl rfl rfl rfl rfl rfl rfl rfl
theorem szAuthority_ (day away tolerance:Int) (sName:ByteArray) (sSpeed sLoad sDraught bX bY start:Int) {r_edition r_notices r_fairways r_dangers r_observers r_full r_works r_order:List (List AV)} {t_edition t_notices t_fairways t_dangers t_observers t_full t_works t_order b_edition b_notices b_fairways:Bool} {edition:List Aid} {notices:List Ntc} {fairways:List Fwy} {dangers:List Dgr} {observers:List Obv} {full order:List Int} {works:List Wrk} (h_edition:r_edition=edition.map (Aid.cs b_edition)) (h_notices:r_notices=notices.map (Ntc.cs b_notices)) (h_fairways:r_fairways=fairways.map (Fwy.cs b_fairways)) (h_dangers:r_dangers=dangers.map Dgr.cs) (h_observers:r_observers=observers.map Obv.cs) (h_full:r_full=full.map intR) (h_works:r_works=works.map Wrk.cs) (h_order:r_order=order.map intR) (n:Int) (hn:0<=n/\n<=1048576):AC Tryz.prog 4 [.agg [.sl t_edition 16 r_edition,.sl t_notices 20 r_notices,.int .i64 day,.sl t_fairways 5 r_fairways,.sl t_dangers 4 r_dangers,.int .i64 away,.sl t_observers 4 r_observers,.int .i64 tolerance,.sl t_full 1 r_full,.str sName,.int .i64 sSpeed,.int .i64 sLoad,.int .i64 sDraught,.int .i64 bX,.int .i64 bY,.sl t_works 7 r_works,.sl t_order 1 r_order,.int .i64 start],.int .i64 n] (AV.int .i64) (szN n (Aut.sz (Aut.mk edition notices day fairways dangers away observers tolerance full sName sSpeed sLoad sDraught bX bY works order start))):=by
  refine ac Tryz.func4 (.int _ _) λE K hE hK=>?_
  conv=>cbv
  repeat' first
    |((first
   |(refine callI hE (szAidS_ _ (by assumption) (by omega)) (λy hy=>?_);have hz:=szN_or2 hy;clear hy)
   |(refine callI hE (szNoticeS_ _ (by assumption) (by omega)) (λy hy=>?_);have hz:=szN_or2 hy;clear hy)
   |(refine callI hE (szFairwayS_ _ (by assumption) (by omega)) (λy hy=>?_);have hz:=szN_or2 hy;clear hy)
   |(refine callI hE (szDangerS_ _ (by assumption) (by omega)) (λy hy=>?_);have hz:=szN_or2 hy;clear hy)
   |(refine callI hE (szObserverS_ _ (by assumption) (by omega)) (λy hy=>?_);have hz:=szN_or2 hy;clear hy)
   |(refine callI hE (szInt64S_ _ (by assumption) (by omega)) (λy hy=>?_);have hz:=szN_or2 hy;clear hy)
   |(refine callI hE (szShip_ _ _ _ _ _ (by omega)) (λy hy=>?_);have hz:=szN_or2 hy;clear hy)
   |(refine callI hE (szWorkS_ _ (by assumption) (by omega)) (λy hy=>?_);have hz:=szN_or2 hy;clear hy)
   |refine q0 hE ?_
   |refine B0 hE ?_|refine B1 hE ?_ ?_|refine B2 hE ?_)<;>intros<;>(try conv=>cbv))
  all_goals (refine hK _ ?_;show AV.int _ _=AV.int _ _;congr 1;unfold szN Aut.sz;simp only at *;split<;>omega)
theorem toAuthority_ (day away tolerance:Int) (sName:ByteArray) (sSpeed sLoad sDraught bX bY start:Int) {r_edition r_notices r_fairways r_dangers r_observers r_full r_works r_order:List (List AV)} {t_edition t_notices t_fairways t_dangers t_observers t_full t_works t_order b_edition b_notices b_fairways:Bool} {edition:List Aid} {notices:List Ntc} {fairways:List Fwy} {dangers:List Dgr} {observers:List Obv} {full order:List Int} {works:List Wrk} (h_edition:r_edition=edition.map (Aid.cs b_edition)) (h_notices:r_notices=notices.map (Ntc.cs b_notices)) (h_fairways:r_fairways=fairways.map (Fwy.cs b_fairways)) (h_dangers:r_dangers=dangers.map Dgr.cs) (h_observers:r_observers=observers.map Obv.cs) (h_full:r_full=full.map intR) (h_works:r_works=works.map Wrk.cs) (h_order:r_order=order.map intR) (hz:Aut.sz (Aut.mk edition notices day fairways dangers away observers tolerance full sName sSpeed sLoad sDraught bX bY works order start)<=1048576):AC Tryz.prog 6 [.agg [.sl t_edition 16 r_edition,.sl t_notices 20 r_notices,.int .i64 day,.sl t_fairways 5 r_fairways,.sl t_dangers 4 r_dangers,.int .i64 away,.sl t_observers 4 r_observers,.int .i64 tolerance,.sl t_full 1 r_full,.str sName,.int .i64 sSpeed,.int .i64 sLoad,.int .i64 sDraught,.int .i64 bX,.int .i64 bY,.sl t_works 7 r_works,.sl t_order 1 r_order,.int .i64 start]] (λv:Aut=> .agg (v.cs true)) (Aut.mk edition notices day fairways dangers away observers tolerance full sName sSpeed sLoad sDraught bX bY works order start):=by
  refine ac Tryz.func6 (.oAut _) λE K hE hK=>?_
  conv=>cbv
  have hz':=hz
  simp only [Aut.sz] at hz'
  repeat' first
    |((first
   |refine q0 hE ?_
   |refine callR hE (toAidS_ (by assumption) (by omega)) (λ_ _=>?_)
   |refine callR hE (toNoticeS_ (by assumption) (by omega)) (λ_ _=>?_)
   |refine callR hE (toFairwayS_ (by assumption) (by omega)) (λ_ _=>?_)
   |refine callR hE (toDangerS_ (by assumption) (by omega)) (λ_ _=>?_)
   |refine callR hE (toObserverS_ (by assumption) (by omega)) (λ_ _=>?_)
   |refine callR hE (toInt64S_ (by assumption) (by omega)) (λ_ _=>?_)
   |(refine callI hE (toShip_ _ _ _ _) (λ_ hy=>?_);subst hy)
   |(refine callI hE (toPoint_ _ _) (λ_ hy=>?_);subst hy)
   |refine callR hE (toWorkS_ (by assumption) (by omega)) (λ_ _=>?_)
   |refine B0 hE ?_|refine B1 hE ?_ ?_|refine B2 hE ?_)<;>intros<;>(try conv=>cbv))
  all_goals first
    |(refine hK _ ?_;subst_vars;rfl)
theorem eqAuthority_ (day away tolerance:Int) (sName:ByteArray) (sSpeed sLoad sDraught bX bY start:Int) (day' away' tolerance':Int) (sName':ByteArray) (sSpeed' sLoad' sDraught' bX' bY' start':Int) {r_edition r_notices r_fairways r_dangers r_observers r_full r_works r_order:List (List AV)} {t_edition t_notices t_fairways t_dangers t_observers t_full t_works t_order b_edition b_notices b_fairways:Bool} {edition:List Aid} {notices:List Ntc} {fairways:List Fwy} {dangers:List Dgr} {observers:List Obv} {full order:List Int} {works:List Wrk} {r_edition' r_notices' r_fairways' r_dangers' r_observers' r_full' r_works' r_order':List (List AV)} {t_edition' t_notices' t_fairways' t_dangers' t_observers' t_full' t_works' t_order' b_edition' b_notices' b_fairways':Bool} {edition':List Aid} {notices':List Ntc} {fairways':List Fwy} {dangers':List Dgr} {observers':List Obv} {full' order':List Int} {works':List Wrk} (h_edition:r_edition=edition.map (Aid.cs b_edition)) (h_notices:r_notices=notices.map (Ntc.cs b_notices)) (h_fairways:r_fairways=fairways.map (Fwy.cs b_fairways)) (h_dangers:r_dangers=dangers.map Dgr.cs) (h_observers:r_observers=observers.map Obv.cs) (h_full:r_full=full.map intR) (h_works:r_works=works.map Wrk.cs) (h_order:r_order=order.map intR) (h_edition':r_edition'=edition'.map (Aid.cs b_edition')) (h_notices':r_notices'=notices'.map (Ntc.cs b_notices')) (h_fairways':r_fairways'=fairways'.map (Fwy.cs b_fairways')) (h_dangers':r_dangers'=dangers'.map Dgr.cs) (h_observers':r_observers'=observers'.map Obv.cs) (h_full':r_full'=full'.map intR) (h_works':r_works'=works'.map Wrk.cs) (h_order':r_order'=order'.map intR):AC Tryz.prog 9 [.agg [.sl t_edition 16 r_edition,.sl t_notices 20 r_notices,.int .i64 day,.sl t_fairways 5 r_fairways,.sl t_dangers 4 r_dangers,.int .i64 away,.sl t_observers 4 r_observers,.int .i64 tolerance,.sl t_full 1 r_full,.str sName,.int .i64 sSpeed,.int .i64 sLoad,.int .i64 sDraught,.int .i64 bX,.int .i64 bY,.sl t_works 7 r_works,.sl t_order 1 r_order,.int .i64 start],.agg [.sl t_edition' 16 r_edition',.sl t_notices' 20 r_notices',.int .i64 day',.sl t_fairways' 5 r_fairways',.sl t_dangers' 4 r_dangers',.int .i64 away',.sl t_observers' 4 r_observers',.int .i64 tolerance',.sl t_full' 1 r_full',.str sName',.int .i64 sSpeed',.int .i64 sLoad',.int .i64 sDraught',.int .i64 bX',.int .i64 bY',.sl t_works' 7 r_works',.sl t_order' 1 r_order',.int .i64 start']] AV.bool (bP ((Aut.mk edition notices day fairways dangers away observers tolerance full sName sSpeed sLoad sDraught bX bY works order start)=(Aut.mk edition' notices' day' fairways' dangers' away' observers' tolerance' full' sName' sSpeed' sLoad' sDraught' bX' bY' works' order' start'))):=by
  refine ac Tryz.func9 (.bool _) λE K hE hK=>?_
  conv=>cbv
  repeat' first
    |((first
   |refine q0 hE ?_
   |refine callP hE (eqAidS_ (by assumption) (by assumption)) (λ_=>?_) (λ_=>?_)
   |refine callP hE (eqNoticeS_ (by assumption) (by assumption)) (λ_=>?_) (λ_=>?_)
   |refine callP hE (eqFairwayS_ (by assumption) (by assumption)) (λ_=>?_) (λ_=>?_)
   |refine callP hE (eqDangerS_ (by assumption) (by assumption)) (λ_=>?_) (λ_=>?_)
   |refine callP hE (eqObserverS_ (by assumption) (by assumption)) (λ_=>?_) (λ_=>?_)
   |refine callP hE (eqInt64S_ (by assumption) (by assumption)) (λ_=>?_) (λ_=>?_)
   |refine callP hE (eqShip_ _ _ _ _ _ _ _ _) (λ_=>?_) (λ_=>?_)
   |refine callP hE (eqPoint_ _ _ _ _) (λ_=>?_) (λ_=>?_)
   |refine callP hE (eqWorkS_ (by assumption) (by assumption)) (λ_=>?_) (λ_=>?_)
   |refine B0 hE ?_|refine B1 hE ?_ ?_|refine B2 hE ?_)<;>intros<;>(try conv=>cbv))
  all_goals (clear h_edition h_notices h_fairways h_dangers h_observers h_full h_works h_order h_edition' h_notices' h_fairways' h_dangers' h_observers' h_full' h_works' h_order')
  all_goals first|(refine finB hK (bP_true.2 ?_);simp only [Aut.mk.injEq,Shp.mk.injEq,Pnt.mk.injEq] at *;simp_all;done)|(refine finB hK (bP_false.2 ?_);simp only [Aut.mk.injEq,Shp.mk.injEq,Pnt.mk.injEq] at *;simp_all;done)
end Go.Proofs.YtpfddoikhmbebaaGreatDoor
/- Contracts: points, distances (the lines of Fwb and Fne that need no warnings). -/
namespace Go.Proofs.YtpfddoikhmbebaaGreatDoor
open Go Go.RowKit Classical
set_option maxRecDepth 100000
set_option maxHeartbeats 2000000
set_option linter.unusedVariables false
set_option linter.unusedSimpArgs false
def PtOk (x y:Int):Prop:=(0<=x/\x<=200000)/\0<=y/\y<=200000
theorem validPoint_ (x y:Int):AC Tryz.prog 142 [.agg [.int .i64 x,.int .i64 y]] AV.bool (bP (PtOk x y)):=by
  refine ac Tryz.func142 (.bool _) λE K hE hK=>?_
  conv=>cbv
  repeat' first
    |((first
   |refine q0 hE ?_
   |refine callP hE (within_ _ _ _) (λ_=>?_) (λ_=>?_)
   |refine B0 hE ?_|refine B1 hE ?_ ?_|refine B2 hE ?_)<;>intros<;>(try conv=>cbv))
  all_goals (try clear hN)
  all_goals first
    |(omega)
    |(refine finB hK (bP_true.2 ?_);first|omega|grind [PtOk])
    |(refine finB hK (bP_false.2 ?_);first|omega|(intro h;grind [PtOk]))
    |(refine ⟨by omega,Up.succ (by assumption) ?_ (by assumption)⟩;grind [PtOk])
    |(refine hK _ ?_;simp_all [atup,PtOk];done)
    |(grind [PtOk])
theorem l02Ok_ (x y:Int):AC Tryz.prog 96 [.agg [.int .i64 x,.int .i64 y]] AV.bool (bP (PtOk x y)):=by
  refine ac Tryz.func96 (.bool _) λE K hE hK=>?_
  conv=>cbv
  repeat' first
    |((first
   |refine q0 hE ?_
   |refine callP hE (in_ _ _ _) (λ_=>?_) (λ_=>?_)
   |refine B0 hE ?_|refine B1 hE ?_ ?_|refine B2 hE ?_)<;>intros<;>(try conv=>cbv))
  all_goals (try clear hN)
  all_goals first
    |(omega)
    |(refine finB hK (bP_true.2 ?_);first|omega|grind [PtOk])
    |(refine finB hK (bP_false.2 ?_);first|omega|(intro h;grind [PtOk]))
    |(refine ⟨by omega,Up.succ (by assumption) ?_ (by assumption)⟩;grind [PtOk])
    |(refine hK _ ?_;simp_all [atup,PtOk];done)
    |(grind [PtOk])
theorem isAway_ (n:Int):AC Tryz.prog 125 [.int .i64 n] AV.bool (bP (0<=n/\n<=20000)):=by
  refine ac Tryz.func125 (.bool _) λE K hE hK=>?_
  conv=>cbv
  repeat' first
    |((first
   |refine q0 hE ?_
   |refine callP hE (within_ _ _ _) (λ_=>?_) (λ_=>?_)
   |refine B0 hE ?_|refine B1 hE ?_ ?_|refine B2 hE ?_)<;>intros<;>(try conv=>cbv))
  all_goals (try clear hN)
  all_goals first
    |(omega)
    |(refine finB hK (bP_true.2 ?_);first|omega|grind)
    |(refine finB hK (bP_false.2 ?_);first|omega|(intro h;grind))
    |(refine ⟨by omega,Up.succ (by assumption) ?_ (by assumption)⟩;grind)
    |(refine hK _ ?_;simp_all [atup];done)
    |(grind)
def sqd (x y x' y':Int):Int:=(x - x')*(x - x')+(y - y')*(y - y')
theorem sq_nn (a:Int):0<=a*a:=by
  rcases Int.le_total 0 a with h|h
  · exact Int.mul_nonneg h h
  · have:=Int.mul_nonneg (a:= -a) (b:= -a) (by omega) (by omega)
    rwa [Int.neg_mul_neg] at this
theorem sqd_bd {x y x' y':Int} (h:PtOk x y) (k:PtOk x' y'):0<=sqd x y x' y'/\sqd x y x' y'<=80000000000:=by
  unfold PtOk at*
  unfold sqd
  have h1:=mul_bd (a:=x - x') (b:=x - x') (B:=200000) (by omega)
  have h2:=mul_bd (a:=y - y') (b:=y - y') (B:=200000) (by omega)
  have h3:=sq_nn (x - x')
  have h4:=sq_nn (y - y')
  omega
theorem rootI_bd {n:Int} (h:0<=n/\n<=80000000000):0<=rootI n/\rootI n<=300000:=by
  obtain ⟨h1,h2,_⟩:=rootI_spec h.1
  refine ⟨h1,?_⟩
  rcases Int.lt_or_le 300000 (rootI n) with h3|h3
  · have:=sq_mono (a:=300000) (b:=rootI n) (by omega) (by omega);omega
  · exact h3
noncomputable def distR (x y x' y':Int):Int:=if PtOk x y/\PtOk x' y' then rootI (sqd x y x' y') else 0
theorem squared_ (x y x' y':Int) (h:PtOk x y) (k:PtOk x' y'):AC Tryz.prog 204 [.agg [.int .i64 x,.int .i64 y],.agg [.int .i64 x',.int .i64 y']] (AV.int .i64) (sqd x y x' y'):=by
  refine ac Tryz.func204 (.int _ _) λE K hE hK=>?_
  conv=>cbv
  unfold PtOk at h k
  repeat' first
    |((first
   |refine mulC hE 200000 (by omega) (by omega) (λm hm _ _=>?_)
   |refine q0 hE ?_
   |refine B0 hE ?_|refine B1 hE ?_ ?_|refine B2 hE ?_)<;>intros<;>(try conv=>cbv))
  all_goals (refine hK _ ?_;subst_vars;rfl)
theorem l02Square_ (x y x' y':Int) (h:PtOk x y) (k:PtOk x' y'):AC Tryz.prog 229 [.agg [.int .i64 x,.int .i64 y],.agg [.int .i64 x',.int .i64 y']] (AV.int .i64) (sqd x y x' y'):=by
  refine ac Tryz.func229 (.int _ _) λE K hE hK=>?_
  conv=>cbv
  unfold PtOk at h k
  repeat' first
    |((first
   |refine mulC hE 200000 (by omega) (by omega) (λm hm _ _=>?_)
   |refine q0 hE ?_
   |refine B0 hE ?_|refine B1 hE ?_ ?_|refine B2 hE ?_)<;>intros<;>(try conv=>cbv))
  all_goals (refine hK _ ?_;subst_vars;rfl)
theorem pt_some {l:List Pnt} {i:Int} {x y:Int} (hv:l[i.toNat]? =some ⟨x,y⟩) (h:PtOk x y):∀p,l[i.toNat]? =some p->PtOk p.x p.y:=λp hp=>by rw [hv] at hp;cases hp;exact h
theorem arePoints_ {rs:List (List AV)} {t:Bool} {l:List Pnt} (hl:rs=l.map Pnt.cs):AC Tryz.prog 202 [.sl t 2 rs] AV.bool (bP (∀p∈l,PtOk p.x p.y)):=by
  refine ac Tryz.func202 (.bool _) λE K hE hK=>?_
  conv=>cbv
  refine lenL hE hl λn hn hb=>?_
  conv=>cbv
  refine loop1 hE [5,6] [7] (λ(i:Int)=>([(7,.int .i64 i)],[],n - i,0<=i/\Up (λj=>∀p,l[j]? =some p->PtOk p.x p.y) i)) [] (0) rfl rfl (by dsimp only;exact ⟨by omega,.zero (by omega)⟩) λi hi Kn hN=>?_
  (try dsimp only at hi)
  conv=>cbv
  obtain ⟨h0,hinv⟩:=hi
  repeat' first
    |(refine hN _ _ [] (by decide) rfl ⟨?_,?_⟩ ?_<;>(try dsimp only))
    |((first
   |refine q0 hE ?_
   |(refine idxL (R:=Pnt.cs) hE (by assumption) (by first|omega|(simp only [List.length_set,mix_len];omega)) ?_;rintro ⟨⟩ _)
   |refine callP hE (validPoint_ _ _) (λ_=>?_) (λ_=>?_)
   |refine B0 hE ?_|refine B1 hE ?_ ?_|refine B2 hE ?_)<;>intros<;>(try conv=>cbv))
  all_goals (try clear hN)
  all_goals first
    |omega
    |exact hinv.succ (pt_some (by assumption) (by assumption)) (by assumption)
    |(refine finB hK (bP_true.2 λp hp=>?_);obtain ⟨j,hj⟩:=List.getElem?_of_mem hp;exact hinv j (by have:=(List.getElem?_eq_some_iff.1 hj).1;omega) p hj)
    |(refine finB hK (bP_false.2 λh=>?_);have:=h _ (List.mem_of_getElem? (by assumption));contradiction)
theorem distance_ (x y x' y':Int):AC Tryz.prog 140 [.agg [.int .i64 x,.int .i64 y],.agg [.int .i64 x',.int .i64 y']] (AV.int .i64) (distR x y x' y'):=by
  refine ac Tryz.func140 (.int _ _) λE K hE hK=>?_
  conv=>cbv
  refine callP hE (arePoints_ (l:=[(⟨x,y⟩:Pnt),⟨x',y'⟩]) (by rfl)) (λh=>?_) (λh=>?_)<;>conv=>cbv
  · have h1:=h ⟨x,y⟩ (by simp)
    have h2:=h ⟨x',y'⟩ (by simp)
    simp only at h1 h2
    refine callI hE (squared_ _ _ _ _ h1 h2) λs hs=>?_
    have hbd:=sqd_bd h1 h2
    conv=>cbv
    refine callI hE (rootOf_ _ (by omega)) λr hr=>?_
    conv=>cbv
    exact hK _ (by rw [distR,if_pos ⟨h1,h2⟩,hr,hs];rfl)
  · exact hK _ (by rw [distR,if_neg (λk=>h λp hp=>by
      simp only [List.mem_cons,List.not_mem_nil,or_false] at hp
      rcases hp with rfl|rfl
      · exact k.1
      · exact k.2)];rfl)
theorem l02Apart_ (x y x' y':Int) (h1:PtOk x y) (h2:PtOk x' y'):AC Tryz.prog 228 [.agg [.int .i64 x,.int .i64 y],.agg [.int .i64 x',.int .i64 y']] (AV.int .i64) (distR x y x' y'):=by
  refine ac Tryz.func228 (.int _ _) λE K hE hK=>?_
  conv=>cbv
  refine callI hE (l02Square_ _ _ _ _ h1 h2) λs hs=>?_
  have hbd:=sqd_bd h1 h2
  conv=>cbv
  refine callI hE (l01Root_ _ (by omega)) λr hr=>?_
  conv=>cbv
  exact hK _ (by rw [distR,if_pos ⟨h1,h2⟩,hr,hs];rfl)
theorem distR_bd (x y x' y':Int):0<=distR x y x' y'/\distR x y x' y'<=300000:=by
  unfold distR
  split
  · rename_i h;exact rootI_bd (sqd_bd h.1 h.2)
  · omega
end Go.Proofs.YtpfddoikhmbebaaGreatDoor
