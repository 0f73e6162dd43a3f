/- Contracts: small functions, visits. -/
import Derived.Test.YtpfddoikhmbebaaGreatDoorAxU
namespace Go.Proofs.YtpfddoikhmbebaaGreatDoor
open Go Go.RowKit Classical
set_option maxRecDepth 100000
set_option maxHeartbeats 2000000
set_option linter.unusedVariables false
set_option linter.unusedSimpArgs false
theorem within_ (x a b:Int):AC Tryz.prog 134 [.int .i64 x,.int .i64 a,.int .i64 b] AV.bool (bP (a<=x/\x<=b)):=by
  refine ac Tryz.func134 (.bool _) λE K hE hK=>?_
  conv=>cbv
  repeat' first
    |((first
   |refine q0 hE ?_
   |refine B0 hE ?_|refine B1 hE ?_ ?_|refine B2 hE ?_)<;>intros<;>(try conv=>cbv))
  all_goals (try clear hN)
  all_goals first
    |(omega)
    |(refine finB hK (bP_true.2 ?_);first|omega|grind)
    |(refine finB hK (bP_false.2 ?_);first|omega|(intro h;grind))
    |(refine ⟨by omega,Up.succ (by assumption) ?_ (by assumption)⟩;grind)
    |(refine hK _ ?_;simp_all [atup];done)
    |(grind)
theorem in_ (x a b:Int):AC Tryz.prog 99 [.int .i64 x,.int .i64 a,.int .i64 b] AV.bool (bP (a<=x/\x<=b)):=by
  refine ac Tryz.func99 (.bool _) λE K hE hK=>?_
  conv=>cbv
  repeat' first
    |((first
   |refine q0 hE ?_
   |refine B0 hE ?_|refine B1 hE ?_ ?_|refine B2 hE ?_)<;>intros<;>(try conv=>cbv))
  all_goals (try clear hN)
  all_goals first
    |(omega)
    |(refine finB hK (bP_true.2 ?_);first|omega|grind)
    |(refine finB hK (bP_false.2 ?_);first|omega|(intro h;grind))
    |(refine ⟨by omega,Up.succ (by assumption) ?_ (by assumption)⟩;grind)
    |(refine hK _ ?_;simp_all [atup];done)
    |(grind)
theorem isNumber_ (x:Int):AC Tryz.prog 190 [.int .i64 x] AV.bool (bP (1<=x/\x<=9999)):=by
  refine ac Tryz.func190 (.bool _) λE K hE hK=>?_
  conv=>cbv
  repeat' first
    |((first
   |refine q0 hE ?_
   |refine callP hE (within_ _ _ _) (λ_=>?_) (λ_=>?_)
   |refine B0 hE ?_|refine B1 hE ?_ ?_|refine B2 hE ?_)<;>intros<;>(try conv=>cbv))
  all_goals (try clear hN)
  all_goals first
    |(omega)
    |(refine finB hK (bP_true.2 ?_);first|omega|grind)
    |(refine finB hK (bP_false.2 ?_);first|omega|(intro h;grind))
    |(refine ⟨by omega,Up.succ (by assumption) ?_ (by assumption)⟩;grind)
    |(refine hK _ ?_;simp_all [atup];done)
    |(grind)
theorem isDay_ (x:Int):AC Tryz.prog 185 [.int .i64 x] AV.bool (bP (0<=x/\x<=99999)):=by
  refine ac Tryz.func185 (.bool _) λE K hE hK=>?_
  conv=>cbv
  repeat' first
    |((first
   |refine q0 hE ?_
   |refine callP hE (within_ _ _ _) (λ_=>?_) (λ_=>?_)
   |refine B0 hE ?_|refine B1 hE ?_ ?_|refine B2 hE ?_)<;>intros<;>(try conv=>cbv))
  all_goals (try clear hN)
  all_goals first
    |(omega)
    |(refine finB hK (bP_true.2 ?_);first|omega|grind)
    |(refine finB hK (bP_false.2 ?_);first|omega|(intro h;grind))
    |(refine ⟨by omega,Up.succ (by assumption) ?_ (by assumption)⟩;grind)
    |(refine hK _ ?_;simp_all [atup];done)
    |(grind)
theorem few_ (n m:Int):AC Tryz.prog 123 [.int .i64 n,.int .i64 m] AV.bool (bP (n<=m)):=by
  refine ac Tryz.func123 (.bool _) λE K hE hK=>?_
  conv=>cbv
  repeat' first
    |((first
   |refine q0 hE ?_
   |refine B0 hE ?_|refine B1 hE ?_ ?_|refine B2 hE ?_)<;>intros<;>(try conv=>cbv))
  all_goals (try clear hN)
  all_goals first
    |(omega)
    |(refine finB hK (bP_true.2 ?_);first|omega|grind)
    |(refine finB hK (bP_false.2 ?_);first|omega|(intro h;grind))
    |(refine ⟨by omega,Up.succ (by assumption) ?_ (by assumption)⟩;grind)
    |(refine hK _ ?_;simp_all [atup];done)
    |(grind)
theorem at_ (i n:Int):AC Tryz.prog 205 [.int .i64 i,.int .i64 n] AV.bool (bP (0<=i/\i<n)):=by
  refine ac Tryz.func205 (.bool _) λE K hE hK=>?_
  conv=>cbv
  repeat' first
    |((first
   |refine q0 hE ?_
   |refine B0 hE ?_|refine B1 hE ?_ ?_|refine B2 hE ?_)<;>intros<;>(try conv=>cbv))
  all_goals (try clear hN)
  all_goals first
    |(omega)
    |(refine finB hK (bP_true.2 ?_);first|omega|grind)
    |(refine finB hK (bP_false.2 ?_);first|omega|(intro h;grind))
    |(refine ⟨by omega,Up.succ (by assumption) ?_ (by assumption)⟩;grind)
    |(refine hK _ ?_;simp_all [atup];done)
    |(grind)
structure Vis where
  aid:Int
  every:Int
  last:Int
def Vis.cs (v:Vis):List AV:=[.int .i64 v.aid,.int .i64 v.every,.int .i64 v.last]
def Vis.ok (v:Vis):Prop:=(1<=v.aid/\v.aid<=9999)/\(1<=v.every/\v.every<=3650)/\0<=v.last/\v.last<=99999
theorem NoB.vis (v:Vis):NoB (.agg v.cs):= .aggC (.int _ _) (.aggC (.int _ _) (.aggC (.int _ _) .agg0))
def Vis.C (l:List Vis) (j:Nat):Prop:=∃v,l[j]? =some v/\v.ok/\(0<j->∃w,l[j - 1]? =some w/\w.aid<v.aid)
theorem list_eq_of {α:Type} {l m:List α} {i:Int} (hl:l.length=m.length) (h:Up (λj=>l[j]? =m[j]?) i) (hi:(l.length:Int)<=i):l=m:=by
  apply List.ext_getElem?
  intro j
  by_cases hj:j<l.length
  · exact h j (by omega)
  · rw [List.getElem?_eq_none (by omega),List.getElem?_eq_none (by omega)]
def FirstIs {α:Type} (p:α->Prop) (l:List α) (r:Int):Prop:=(0<=r/\r<l.length/\(∃v,l[r.toNat]? =some v/\p v)/\∀(j:Nat) v,(j:Int)<r->l[j]? =some v->¬p v)∨(r= -1/\∀(j:Nat) v,l[j]? =some v->¬p v)
theorem FirstIs.uniq {α:Type} {p:α->Prop} {l:List α} {r s:Int} (h:FirstIs p l r) (k:FirstIs p l s):r=s:=by
  rcases h with ⟨h1,h2,⟨v,h3,h4⟩,h5⟩|⟨h1,h2⟩<;>rcases k with ⟨k1,k2,⟨u,k3,k4⟩,k5⟩|⟨k1,k2⟩
  · rcases Int.lt_trichotomy r s with h6|h6|h6
    · exact (k5 _ _ (by omega) h3 h4).elim
    · exact h6
    · exact (h5 _ _ (by omega) k3 k4).elim
  · exact (k2 _ _ h3 h4).elim
  · exact (h2 _ _ k3 k4).elim
  · omega
theorem FirstIs.ex {α:Type} (p:α->Prop):∀l:List α,∃r,FirstIs p l r
  |[]=>⟨-1,.inr ⟨rfl,λj v h=>by simp at h⟩⟩
  | a :: l =>by
    by_cases h:p a
    · exact ⟨0,.inl ⟨by omega,by simp,⟨a,by simp,h⟩,λj v hj=>by omega⟩⟩
    · obtain ⟨r,hr⟩:=FirstIs.ex p l
      rcases hr with ⟨h1,h2,⟨v,h3,h4⟩,h5⟩|⟨h1,h2⟩
      · refine ⟨r+1,.inl ⟨by omega,by simp;omega,⟨v,?_,h4⟩,λj v hj hv=>?_⟩⟩
        · rw [show (r+1).toNat=r.toNat+1 by omega];simpa using h3
        · cases j with
          |zero=>simp at hv;subst hv;exact h
          |succ j=>exact h5 j v (by omega) (by simpa using hv)
      · refine ⟨-1,.inr ⟨rfl,λj v hv=>?_⟩⟩
        cases j with
        |zero=>simp at hv;subst hv;exact h
        |succ j=>exact h2 j v (by simpa using hv)
noncomputable def firstI {α:Type} (p:α->Prop) (l:List α):Int:=(FirstIs.ex p l).choose
theorem firstI_spec {α:Type} (p:α->Prop) (l:List α):FirstIs p l (firstI p l):=(FirstIs.ex p l).choose_spec
theorem firstI_eq {α:Type} {p:α->Prop} {l:List α} {r:Int} (h:FirstIs p l r):firstI p l=r:=(firstI_spec p l).uniq h
theorem firstI_in {α:Type} {p:α->Prop} {l:List α} {i:Int} {v:α} (h0:0<=i) (hv:l[i.toNat]? =some v) (hp:p v) (h:Up (λj=>∀v,l[j]? =some v->¬p v) i):firstI p l=i:=
  firstI_eq (.inl ⟨h0,by have:=(List.getElem?_eq_some_iff.1 hv).1;omega,⟨v,hv,hp⟩,λj v hj=>h j hj v⟩)
theorem firstI_out {α:Type} {p:α->Prop} {l:List α} {i:Int} (hi:(l.length:Int)<=i) (h:Up (λj=>∀v,l[j]? =some v->¬p v) i):firstI p l= -1:=
  firstI_eq (.inr ⟨rfl,λj v hv=>h j (by have:=(List.getElem?_eq_some_iff.1 hv).1;omega) v hv⟩)
end Go.Proofs.YtpfddoikhmbebaaGreatDoor
/- Contracts: inspections. -/
namespace Go.Proofs.YtpfddoikhmbebaaGreatDoor
open Go Go.RowKit Classical
set_option maxRecDepth 100000
set_option maxHeartbeats 2000000
set_option linter.unusedVariables false
set_option linter.unusedSimpArgs false
end Go.Proofs.YtpfddoikhmbebaaGreatDoor
/- Contracts: the laws' helpers over visits; the laws of late visits. -/
namespace Go.Proofs.YtpfddoikhmbebaaGreatDoor
open Go Go.RowKit Classical
set_option maxRecDepth 100000
set_option maxHeartbeats 2000000
set_option linter.unusedVariables false
set_option linter.unusedSimpArgs false
def szN (n:Int) (k:Nat):Int:=if n - k<0 then -1 else n - k
end Go.Proofs.YtpfddoikhmbebaaGreatDoor
/- Contracts: names and texts of findings. -/
namespace Go.Proofs.YtpfddoikhmbebaaGreatDoor
open Go Go.RowKit Classical
set_option maxRecDepth 100000
set_option maxHeartbeats 2000000
set_option linter.unusedVariables false
set_option linter.unusedSimpArgs false
def strR (s:ByteArray):List AV:=[.str s]
theorem NoB.strs (es:List ByteArray):NoB (.sl true 1 (es.map strR)):= .rows λv=> .aggC (.str _) .agg0
def pickS (i:Int) (es:List ByteArray):ByteArray:=if 0<=i/\i<es.length then es.getD i.toNat ⟨#[]⟩ else ⟨#[]⟩
theorem npick_ {rs:List (List AV)} {t:Bool} {es:List ByteArray} (i:Int) (hl:rs=es.map strR):AC Tryz.prog 141 [.int .i64 i,.sl t 1 rs] AV.str (pickS i es):=by
  refine ac Tryz.func141 (.str _) λE K hE hK=>?_
  conv=>cbv
  repeat' first
    |((first
   |refine q0 hE ?_
   |refine callP hE (at_ _ _) (λ_=>?_) (λ_=>?_)
   |(refine idxL (R:=strR) hE (by assumption) (by first|omega|(simp only [List.length_set,mix_len];omega)) ?_;rintro ⟨⟩ _)
   |refine B0 hE ?_|refine B1 hE ?_ ?_|refine B2 hE ?_)<;>intros<;>(try conv=>cbv))
  · rename_i s hs
    refine hK _ ?_
    unfold pickS
    rw [if_pos (by omega),List.getD_eq_getElem?_getD,hs];rfl
  · refine hK _ ?_
    unfold pickS
    rw [if_neg (by omega)];rfl
structure Fnd where
  kind:Int
  who:ByteArray
  what:ByteArray
def Fnd.cs (f:Fnd):List AV:=[.int .i64 f.kind,.str f.who,.str f.what]
end Go.Proofs.YtpfddoikhmbebaaGreatDoor
/- Contracts: the laws' marks. -/
namespace Go.Proofs.YtpfddoikhmbebaaGreatDoor
open Go Go.RowKit Classical
set_option maxRecDepth 100000
set_option maxHeartbeats 2000000
set_option linter.unusedVariables false
set_option linter.unusedSimpArgs false
def mtF:Nat->Int->ByteArray->ByteArray
  |0,_,out=>out
  |n+1,k,out=>if 0<k then mtF n (k / 10) (bytesOf [48+k % 10]++out) else out
def mText (k:Int):ByteArray:=if k<=0 then ⟨#[109,48]⟩ else ⟨#[109]⟩++mtF 64 k ⟨#[]⟩
theorem mtF_zero (n:Nat) (out:ByteArray):mtF n 0 out=out:=by cases n<;>simp [mtF]
theorem markText_ (k:Int) (hk0:k<=4611686018427387904):AC Tryz.prog 50 [.int .i64 k] AV.str (mText k):=by
  refine ac Tryz.func50 (.str _) λE K hE hK=>?_
  conv=>cbv
  repeat' first
    |((first
   |refine q0 hE ?_
   |refine B0 hE ?_|refine B1 hE ?_ ?_|refine B2 hE ?_)<;>intros<;>(try conv=>cbv))
  · refine hK _ ?_
    rw [mText,if_pos (by assumption)];rfl
  · rename_i hpos
    refine loopK hE (ι:=Int×ByteArray×Nat) [0,3] (λp=>⟨reF _ [(0,.int .i64 p.1),(3,.str p.2.1)],[]⟩) (λp=>p.1.toNat) (λp=>(0<=p.1/\p.1<=4611686018427387904)/\p.1<2 ^ p.2.2/\p.2.2<=64/\p.2.1.size+p.2.2<=64/\mtF 64 k ⟨#[]⟩=mtF p.2.2 p.1 p.2.1) [] (by decide) (k,⟨#[]⟩,64) rfl ⟨⟨by simp;omega,by simp;omega⟩,by simp;omega,by simp,by simp [ByteArray.size],rfl⟩ λp hi Kn hN=>?_
    obtain ⟨k',out,n⟩:=p
    obtain ⟨h0,h1,h2,h3,h4⟩:=hi
    simp only at h0 h1 h2 h3 h4
    conv=>cbv
    repeat' first
      |((first
     |refine toStrI hE [_] (by rfl) (λ_ _ _=>?_)
     |refine q0 hE ?_
     |refine B0 hE ?_|refine B1 hE ?_ ?_|refine B2 hE ?_)<;>intros<;>(try conv=>cbv))
    · cases n with
      |zero=>simp at h1;omega
      | succ n=>
        have e2:(2:Int) ^ (n+1)=2 ^ n*2:=Int.pow_succ ..
        refine hN (_,_,n) _ [] (by decide) rfl ⟨?_,?_,?_,?_,?_⟩ ?_
        · simp only;omega
        · simp only;omega
        · simp only;omega
        · simp only [List.length_singleton] at *;omega
        · clear hN hK;rw [h4,mtF,if_pos (by assumption)];subst_vars;rfl
        · simp only;omega
    · refine hK _ ?_
      have:k'=0:=by omega
      subst this
      rw [mText,if_neg (by omega),h4,mtF_zero]
      clear hN hK;subst_vars;rfl
def intR (n:Int):List AV:=[.int .i64 n]
theorem NoB.ints (l:List Int):NoB (.sl true 1 (l.map intR)):= .rows λv=> .aggC (.int _ _) .agg0
def markL (n:Nat) (k:Int):List Int:=(List.range n).map λi:Nat=>k+(i:Int)
theorem markL_len (n:Nat) (k:Int):(markL n k).length=n:=by simp [markL]
theorem markInt64S_ {rs:List (List AV)} {l:List Int} (k:Int) (hl:rs=l.map intR) (hk0:0<=k/\k<=1000000000000000) (hb:l.length<=100000000000):ACM Tryz.prog 48 [.sl true 1 rs,.int .i64 k] (λr ys=>r= .int .i64 (k+l.length)/\∃rs',rs'=(markL l.length k).map intR/\ys=[.sl true 1 rs',.any]):=by
  refine acm 1 Tryz.func48 (λr ys ⟨h1,rs',h3,h2⟩=>⟨by rw [h1];exact .int _ _,by rw [h2,h3];simp;exact ⟨.ints _,.any⟩⟩) λE K hE hK=>?_
  conv=>cbv
  refine loopK hE (ι:=Int×Int×List (List AV)) [0,1,5] (λp=>⟨reF _ [(0,.ob 0),(1,.int .i64 p.2.1),(5,.int .i64 p.1)],[.row 1 p.2.2]⟩) (λp=>(l.length - p.1).toNat) (λp=>(0<=p.1/\p.1<=l.length)/\p.2.1=k+p.1/\p.2.2=(mix (λi:Nat=>k+(i:Int)) l p.1).map intR) [0] (by decide) (0,k,rs) rfl ⟨by simp,by simp,by simp only;rw [mix_zero (by omega)];exact hl⟩ λp hi Kn hN=>?_
  obtain ⟨i,k',es⟩:=p
  obtain ⟨⟨h0,h1⟩,h2,h3⟩:=hi
  simp only at h0 h1 h2 h3
  have hlen:=mix_len (λi:Nat=>k+(i:Int)) l i
  conv=>cbv
  repeat' first
    |(refine hN (_,_,_) _ [0] (by decide) rfl ⟨?_,?_,?_⟩ ?_)
    |((first
   |refine q0 hE ?_
   |refine updL hE _ (by assumption) (by omega) (by assumption) (by exact Nat.le_of_ble_eq_true rfl) (by first|rfl|((conv=>lhs;cbv);rfl)) (λ_ _=>?_)
   |refine B0 hE ?_|refine B1 hE ?_ ?_|refine B2 hE ?_)<;>intros<;>(try conv=>cbv))
  · simp only;omega
  · simp only;omega
  · simp only
    rename_i e' he' a ha b hb'
    rw [he',mix_set h0 (by omega) (by omega) hb']
  · simp only;omega
  · have hi:i=l.length:=by omega
    refine hK _ _ ⟨?_,es,?_,rfl⟩
    · rw [h2,hi];rfl
    · rw [h3,mix_all (by omega)];rfl
theorem eqInt64S_ {rs rs':List (List AV)} {t t':Bool} {l m:List Int} (hl:rs=l.map intR) (hm:rs'=m.map intR):AC Tryz.prog 39 [.sl t 1 rs,.sl t' 1 rs'] AV.bool (bP (l=m)):=by
  refine ac Tryz.func39 (.bool _) λE K hE hK=>?_
  conv=>cbv
  refine lenL hE hl λn hn hb=>?_
  conv=>cbv
  refine lenL hE hm λn' hn' hb'=>?_
  conv=>cbv
  refine eqI hE (λhe=>?_) (λhe=>?_)<;>conv=>cbv
  · refine loopK hE (ι:=Int) [0,1,5] (λi=>⟨reF _ [(0,.sl t 1 rs),(1,.sl t' 1 rs'),(5,.int .i64 i)],[]⟩) (λi=>(l.length - i).toNat) (λi=>0<=i/\Up (λj=>l[j]? =m[j]?) i) [] (by decide) 0 rfl ⟨by omega,.zero (by omega)⟩ λi hi Kn hN=>?_
    obtain ⟨h0,hinv⟩:=hi
    conv=>cbv
    repeat' first
      |( refine hN _ _ [] (by decide) rfl ⟨by omega,?_⟩ ?_)
      |((first
     |refine q0 hE ?_
     |refine B0 hE ?_|refine B1 hE ?_ ?_|refine B2 hE ?_)<;>intros<;>(try conv=>cbv))
    · refine hinv.succ ?_ (by assumption);grind
    · omega
    · refine finB hK (bP_false.2 λh=>?_);grind
    · exact finB hK (bP_true.2 (list_eq_of (by omega) hinv (by omega)))
  · refine finB hK (bP_false.2 λh=>?_);subst h;omega
end Go.Proofs.YtpfddoikhmbebaaGreatDoor
/- Contracts: what is due next. -/
namespace Go.Proofs.YtpfddoikhmbebaaGreatDoor
open Go Go.RowKit
set_option maxRecDepth 100000
set_option maxHeartbeats 2000000
set_option linter.unusedVariables false
set_option linter.unusedSimpArgs false
def Vis.due (v:Vis):Int:=IntKind.i64.wrap (v.last+v.every)
end Go.Proofs.YtpfddoikhmbebaaGreatDoor
/- Contracts: lists of lists of integers; the greatest delay. -/
namespace Go.Proofs.YtpfddoikhmbebaaGreatDoor
open Go Go.RowKit Classical
set_option maxRecDepth 100000
set_option maxHeartbeats 2000000
set_option linter.unusedVariables false
set_option linter.unusedSimpArgs false
def llR (b:Bool) (x:List Int):List AV:=[.sl b 1 (x.map intR)]
theorem szInt64S_ {rs:List (List AV)} {t:Bool} {l:List Int} (n:Int) (hl:rs=l.map intR) (hn:0<=n/\n<=1048576):AC Tryz.prog 18 [.sl t 1 rs,.int .i64 n] (AV.int .i64) (szN n l.length):=by
  refine ac Tryz.func18 (.int _ _) λE K hE hK=>?_
  conv=>cbv
  repeat' first
    |((first
   |refine q0 hE ?_
   |refine B0 hE ?_|refine B1 hE ?_ ?_|refine B2 hE ?_)<;>intros<;>(try conv=>cbv))
  all_goals (try clear hN)
  all_goals (refine hK _ ?_;first|(simp only [atup];grind [szN])|(simp_all [atup,szN];done))
theorem toInt64S_ {rs:List (List AV)} {t:Bool} {l:List Int} (hl:rs=l.map intR) (hb0:l.length<=1048576):AC Tryz.prog 27 [.sl t 1 rs] (λl:List Int=> .sl true 1 (l.map intR)) l:=by
  refine ac Tryz.func27 (.ints _) λE K hE hK=>?_
  conv=>cbv
  refine lenL hE hl λn hn hb=>?_
  conv=>cbv
  refine makeL hE (l:=l) intR hn rfl (by omega) λes hes=>?_
  conv=>cbv
  refine loopK hE (ι:=Int×List (List AV)) [0,3,4] (λp=>⟨reF _ [(0,.sl t 1 rs),(3,.ob 0),(4,.int .i64 p.1)],[.row 1 p.2]⟩) (λp=>(l.length - p.1).toNat) (λp=>0<=p.1/\p.2=fillRow intR [.int .i64 0] l p.1) [0] (by decide) (0,es) rfl ⟨by simp,hes⟩ λp hi Kn hN=>?_
  obtain ⟨i,es'⟩:=p
  obtain ⟨h0,hinv⟩:=hi
  simp only at h0 hinv
  conv=>cbv
  repeat' first
    |( refine hN (_,_) _ [0] (by decide) rfl ⟨?_,?_⟩ ?_)
    |((first
   |refine updFill (R:=intR) hE (by assumption) (by omega) (by assumption) (by exact Nat.le_refl _) (by rfl) (λ_ _=>?_)
   |refine q0 hE ?_
   |refine B0 hE ?_|refine B1 hE ?_ ?_|refine B2 hE ?_)<;>intros<;>(try conv=>cbv))
  · omega
  · grind
  · omega
  · refine hK _ ?_
    rw [hinv,fillRow_all (by omega)];rfl
end Go.Proofs.YtpfddoikhmbebaaGreatDoor
/- Contracts: the greatest delay. -/
namespace Go.Proofs.YtpfddoikhmbebaaGreatDoor
open Go Go.RowKit Classical
set_option maxRecDepth 100000
set_option maxHeartbeats 2000000
set_option linter.unusedVariables false
set_option linter.unusedSimpArgs false
theorem firstI_ge {α:Type} {p:α->Prop} {l:List α}:0<=firstI p l↔∃v∈l,p v:=by
  rcases firstI_spec p l with ⟨h1,h2,⟨v,h3,h4⟩,h5⟩|⟨h1,h2⟩
  · exact ⟨λ_=>⟨v,List.mem_of_getElem? h3,h4⟩,λ_=>h1⟩
  · refine ⟨λh=>by omega,λ⟨v,hv,hp⟩=>?_⟩
    obtain ⟨j,hj⟩:=List.getElem?_of_mem hv
    exact (h2 j v hj hp).elim
def two (q:Int×Int):AV:= .tup [.int .i64 q.1,.int .i64 q.2]
theorem NoB.two (q:Int×Int):NoB (two q):= .tupC (.int _ _) (.tupC (.int _ _) .tup0)
end Go.Proofs.YtpfddoikhmbebaaGreatDoor
/- What the flat types' contracts lean on; points. -/
namespace Go.Proofs.YtpfddoikhmbebaaGreatDoor
open Go Go.RowKit Classical
set_option maxRecDepth 100000
set_option maxHeartbeats 2000000
set_option linter.unusedVariables false
set_option linter.unusedSimpArgs false
theorem szN_or (n:Int) (k:Nat):szN n k= -1/\n<k∨szN n k=n - k/\k<=n:=by unfold szN;split<;>omega
theorem szN_lt {n:Int} {k:Nat} (h:n<k):szN n k= -1:=by unfold szN;rw [if_pos (by omega)]
theorem szN_ge {n:Int} {k:Nat} (h:k<=n):szN n k=n - k:=by unfold szN;rw [if_neg (by omega)]
def sumTo {α:Type} (f:α->Nat) (l:List α) (i:Int):Nat:=((l.take i.toNat).map f).sum
theorem sumTo_zero {α:Type} {f:α->Nat} {l:List α} {i:Int} (h:i<=0):sumTo f l i=0:=by
  unfold sumTo;rw [show i.toNat=0 by omega];simp
theorem sumTo_succ {α:Type} (f:α->Nat) {l:List α} {i:Int} {v:α} (h0:0<=i) (hv:l[i.toNat]? =some v):sumTo f l (i+1)=sumTo f l i+f v:=by
  unfold sumTo
  rw [show (i+1).toNat=i.toNat+1 by omega,List.take_add_one,hv]
  simp
theorem sumTo_all {α:Type} (f:α->Nat) (l:List α) {i:Int} (h:l.length<=i):sumTo f l i=(l.map f).sum:=by
  unfold sumTo;rw [List.take_of_length_le (by omega)]
theorem sumTo_le {α:Type} (f:α->Nat) (l:List α) (i:Int):sumTo f l i<=(l.map f).sum:=by
  unfold sumTo
  have:=congrArg (λm=>(m.map f).sum) (List.take_append_drop i.toNat l)
  simp only [List.map_append,List.sum_append] at this
  omega
theorem sum_ge {α:Type} (f:α->Nat):∀{l:List α} {v:α},v∈l->f v<=(l.map f).sum
  | x::l,v,h=>by
    rcases List.mem_cons.1 h with rfl|h
    · simp
    · have:=sum_ge f h;simp;omega
section
variable {E:Env} {np:Nat} {P:Program}
theorem idxSet (hE:E=stdE np P) {α:Type} {R:α->List AV} {m:List α} {es:List (List AV)} {i:Int} {v:α} {K:List AV->Prop} (hes:es=(m.set i.toNat v).map R) (h:0<=i/\i<m.length) (hk:(m.set i.toNat v)[i.toNat]? =some v->K (R v)):E.idx es i K:=by
  have h1:(m.set i.toNat v)[i.toNat]? =some v:=by rw [List.getElem?_set_self (by omega)]
  exact idxV hE hes h.1 h1 (hk h1)
theorem idxS (hE:E=stdE np P) {α:Type} {R:α->List AV} {m:List α} {es:List (List AV)} {i:Int} {v:α} {K:List AV->Prop} (hes:es=(m.set i.toNat v).map R) (h:0<=i/\i<m.length) (hk:K (R v)):E.idx es i K:=idxSet hE hes h λ_=>hk
theorem updS (hE:E=stdE np P) {α:Type} {R:α->List AV} {cs:List AV} {m:List α} {es:List (List AV)} {i:Int} {j:Nat} {K:List (List AV)->Prop} {v:α} (v':α) (hes:es=(m.set i.toNat v).map R) (h:0<=i/\i<m.length) (hl:j+cs.length<=(R v).length) (hz:splice (R v) j cs=R v')
    (hk:∀es',es'=(m.set i.toNat v').map R->K es'):E.upd es i j cs K:=
  updL hE v' hes h.1 (List.getElem?_set_self (by omega)) hl hz λes' h'=>hk es' (by rw [h',List.set_set])
theorem seqT (hE:E=stdE np P) {a b:ByteArray} {K:Bool->Prop} (h:a=b) (hk:K true):E.seq a b K:=seqI hE (λ_=>hk) (λh'=>absurd h h')
theorem subG (hE:E=stdE np P) {es:List (List AV)} {lo hi:Option Int} {K:List (List AV)->Prop} (h:0<=lo.getD 0/\lo.getD 0<=hi.getD es.length/\hi.getD es.length<=es.length)
    (hk:∀rs,rs=(es.take (hi.getD es.length).toNat).drop (lo.getD 0).toNat->K rs):E.sub_ es lo hi K:=by
  subst hE;exact ⟨h.1,h.2.1,h.2.2,hk _ rfl⟩
theorem callLI (hE:E=stdE np P) {α:Type} {f:FuncId} {args:List AV} {R:α->List AV} {k:Nat} {x:List α×Int} {K:AV->Prop} (h:AC P f args (λp:List α×Int=> .tup [.sl true k (p.1.map R),.int .i64 p.2]) x) (hk:∀rs n,rs=x.1.map R->n=x.2->K (.tup [.sl true k rs,.int .i64 n])):E.call f args K:=
  callI hE h λy hy=>hk _ _ (by rw [hy]) (by rw [hy])
theorem callII (hE:E=stdE np P) {f:FuncId} {args:List AV} {x:Int×Int} {K:AV->Prop} (h:AC P f args two x) (hk:∀m n,m=x.1->n=x.2->K (.tup [.int .i64 m,.int .i64 n])):E.call f args K:=
  callI hE h λy hy=>hk _ _ (by rw [hy]) (by rw [hy])
theorem mvH (hE:E=stdE np P) {α:Type} {R:α->List AV} {es:List (List AV)} {m:List α} {hi lo hi':Int} {K:List (List AV)->Int->Prop} (hes:es=m.map R) (hfl:∀v,∀c∈R v,c.flatH=true) (h:0<=hi/\hi<=lo/\lo<=hi'/\hi'<=m.length)
    (hk:∀es' n,es'=(m.take hi.toNat++((m.take hi'.toNat).drop lo.toNat++m.drop (hi+(hi' - lo)).toNat)).map R->n=hi+(hi' - lo)->K es' n):E.mv es hi lo hi' K:=by
  subst hE
  refine ⟨h.2.1,λe he c hc=>?_,hk _ _ ?_ rfl⟩
  · rw [hes] at he
    obtain ⟨v,_,rfl⟩:=List.mem_map.1 (List.mem_of_mem_take (List.mem_of_mem_drop he))
    exact hfl v c hc
  · rw [hes];simp only [List.map_append,List.map_take,List.map_drop]
theorem clrG (hE:E=stdE np P) {es:List (List AV)} {lo hi:Int} {z:List AV} {K:List (List AV)->Prop} (h:0<=lo/\lo<=hi/\hi<=es.length)
    (hk:∀es',es'.length=es.length->es'.take lo.toNat=es.take lo.toNat->K es'):E.clr es lo hi z K:=by
  subst hE
  refine hk _ ?_ ?_
  · simp;omega
  · rw [List.take_append_of_le_length (by simp;omega),List.take_of_length_le (by rw [List.length_take];omega)]
end
theorem del_done {α:Type} {R:α->List AV} {l:List α} {i j n m m2:Int} {es es2 rs:List (List AV)} (h:0<=i/\i<=j/\j<=l.length) (hn:n=l.length) (he:es=(l.take i.toNat++((l.take n.toNat).drop j.toNat++l.drop (i+(n - j)).toNat)).map R) (hm:m=i+(n - j)) (hm2:m2=m - 0) (ht:es2.take m2.toNat=es.take m2.toNat)
    (hr:rs=(es2.take ((some m).getD (es2.length:Int)).toNat).drop ((some (0:Int)).getD 0).toNat):rs=(l.take i.toNat++l.drop j.toNat).map R:=by
  rw [hr]
  show (es2.take m.toNat).drop 0=_
  rw [List.drop_zero]
  rw [show m2=m by omega] at ht
  rw [ht,he,←List.map_take]
  have e1:l.take n.toNat=l:=List.take_of_length_le (by omega)
  have e2:(l.take i.toNat++l.drop j.toNat).length=m.toNat:=by
    rw [List.length_append,List.length_take,List.length_drop];omega
  rw [e1,←List.append_assoc,List.take_append_of_le_length (by omega),List.take_of_length_le (by omega)]
noncomputable def rej {α:Type} (p:α->Prop) (l:List α):List α:=l.filter λv=>decide (¬p v)
theorem rej_len {α:Type} (p:α->Prop) (l:List α):(rej p l).length<=l.length:=List.length_filter_le _ _
theorem rej_step {α:Type} (p:α->Prop) {l:List α} {i n:Int} {v:α} (h0:0<=i) (hv:l[i.toNat]? =some v) (hn:n=i+1):(p v->rej p (l.take n.toNat)=rej p (l.take i.toNat))/\(¬p v->rej p (l.take n.toNat)=rej p (l.take i.toNat)++[v]):=by
  unfold rej
  rw [show n.toNat=i.toNat+1 by omega,List.take_add_one,hv,List.filter_append]
  by_cases h:p v<;>simp [h]
theorem filt_start {α:Type} {p:α->Prop} {l:List α} {y n1:Int} {v0:α} (h0:0<=y) (hn:n1=y+1) (h:l[y.toNat]? =some v0) (hp:p v0) (hb:∀(j:Nat) v,(j:Int)<y->l[j]? =some v->¬p v):l.take y.toNat=(l.take n1.toNat).filter (λv=>decide (¬p v)):=by
  have e:(l.take y.toNat).filter (λv=>decide (¬p v))=l.take y.toNat:=List.filter_eq_self.2 λa ha=>by
    obtain ⟨j,hj⟩:=List.getElem?_of_mem ha
    have hlt:=(List.getElem?_eq_some_iff.1 hj).1
    rw [List.getElem?_take,if_pos (by simp at hlt;omega)] at hj
    exact decide_eq_true (hb j a (by simp at hlt;omega) hj)
  rw [show n1.toNat=y.toNat+1 by omega,List.take_add_one,h,List.filter_append,e]
  simp [hp]
theorem filt_none {α:Type} {p:α->Prop} {l:List α} (h:∀(j:Nat) v,l[j]? =some v->¬p v):rej p l=l:=List.filter_eq_self.2 λa ha=>by
  obtain ⟨j,hj⟩:=List.getElem?_of_mem ha
  exact decide_eq_true (h j a hj)
theorem filt_get {α:Type} {m l:List α} {j:Int} {v:α} (h5:m.drop j.toNat=l.drop j.toNat) (hv:m[j.toNat]? =some v):l[j.toNat]? =some v:=by
  have:=congrArg (λx=>x[0]?) h5
  simp only [List.getElem?_drop,Nat.add_zero] at this
  rw [←this,hv]
theorem filt_skip {α:Type} {p:α->Prop} {m l:List α} {i j n:Int} {v:α} (h0:0<=j) (hv:l[j.toNat]? =some v) (hp:p v) (hn:n=j+1) (h4:m.take i.toNat=(l.take j.toNat).filter (λv=>decide (¬p v))):m.take i.toNat=(l.take n.toNat).filter (λv=>decide (¬p v)):=by
  rw [show n.toNat=j.toNat+1 by omega,List.take_add_one,hv,List.filter_append,h4]
  simp [hp]
theorem filt_keep {α:Type} {p:α->Prop} {m l:List α} {i j i' n:Int} {v:α} (h0:0<=i/\0<=j) (hi:i<m.length) (hv:l[j.toNat]? =some v) (hp:¬p v) (hi':i'=i+1) (hn:n=j+1) (h4:m.take i.toNat=(l.take j.toNat).filter (λv=>decide (¬p v))):(m.set i.toNat v).take i'.toNat=(l.take n.toNat).filter (λv=>decide (¬p v)):=by
  rw [show n.toNat=j.toNat+1 by omega,show i'.toNat=i.toNat+1 by omega,List.take_add_one,List.take_add_one,hv,List.filter_append,←h4,List.getElem?_set_self (by omega),List.take_set_of_le (Nat.le_refl _)]
  simp [hp]
theorem filt_drop {α:Type} {m l:List α} {j n:Int} (h0:0<=j) (hn:n=j+1) (h5:m.drop j.toNat=l.drop j.toNat):m.drop n.toNat=l.drop n.toNat:=by
  rw [show n.toNat=j.toNat+1 by omega,←List.drop_drop,←List.drop_drop,h5]
theorem filt_dropS {α:Type} {m l:List α} {i j n:Int} {v:α} (h0:0<=i/\i<j) (hn:n=j+1) (h5:m.drop j.toNat=l.drop j.toNat):(m.set i.toNat v).drop n.toNat=l.drop n.toNat:=by
  rw [List.drop_set_of_lt (by omega)]
  exact filt_drop (by omega) hn h5
theorem filt_done {α:Type} {R:α->List AV} {p:α->Prop} {m l:List α} {i j:Int} {es es' rs:List (List AV)} (hes:es=m.map R) (h1:es'.take i.toNat=es.take i.toNat) (h4:m.take i.toNat=(l.take j.toNat).filter (λv=>decide (¬p v))) (hj:l.length<=j) (hrs:rs=(es'.take i.toNat).drop (0:Int).toNat):rs=(rej p l).map R:=by
  unfold rej
  rw [hrs,h1,hes,←List.map_take,h4,List.take_of_length_le (by omega)];rfl
theorem ACM.mono {P:Program} {f:FuncId} {args:List AV} {Q Q':AV->List AV->Prop} (h:ACM P f args Q) (hq:∀r ys,Q r ys->Q' r ys):ACM P f args Q':=
  ⟨h.1,λw A vs F h0 h1 h2 h3 h4=>(h.2 w A vs F h0 h1 h2 h3 h4).mono λe w' ⟨v,G,r,ys,g0,g⟩=>⟨v,G,r,ys,hq r ys g0,g⟩⟩
theorem markI_ {rs:List (List AV)} {l:List Int} (k:Int) (hl:rs=l.map intR) (hk0:0<=k/\k<=1000000000000000) (hb:l.length<=100000000000):ACM Tryz.prog 48 [.sl true 1 rs,.int .i64 k] (λr ys=>∃(n:Int) (rs':List (List AV)),n=k+l.length/\rs'=(markL l.length k).map intR/\r= .int .i64 n/\ys=[.sl true 1 rs',.any]):=
  (markInt64S_ k hl hk0 hb).mono λr ys ⟨h1,rs',h2,h3⟩=>⟨_,rs',rfl,h2,h1,h3⟩
structure Pnt where
  x:Int
  y:Int
def Pnt.cs (v:Pnt):List AV:=[.int .i64 v.x,.int .i64 v.y]
theorem NoB.oPnt (v:Pnt):NoB (.agg v.cs):=(.aggC (.int _ _) (.aggC (.int _ _) .agg0))
theorem szPointS_ {rs:List (List AV)} {t:Bool} {l:List Pnt} (n:Int) (hl:rs=l.map Pnt.cs) (hn:0<=n/\n<=1048576):AC Tryz.prog 151 [.sl t 2 rs,.int .i64 n] (AV.int .i64) (szN n l.length):=by
  refine ac Tryz.func151 (.int _ _) λE K hE hK=>?_
  conv=>cbv
  repeat' first
    |((first
   |refine q0 hE ?_
   |refine B0 hE ?_|refine B1 hE ?_ ?_|refine B2 hE ?_)<;>intros<;>(try conv=>cbv))
  all_goals (try clear hN)
  all_goals (refine hK _ ?_;first|(simp only [atup];grind [szN])|(simp_all [atup,szN];done))
theorem toPoint_ (x:Int) (y:Int):AC Tryz.prog 29 [.agg [.int .i64 x,.int .i64 y]] (λv:Pnt=> .agg v.cs) ⟨x,y⟩:=by
  refine ac Tryz.func29 (.oPnt _) λE K hE hK=>?_
  conv=>cbv
  exact hK _ rfl
theorem toPointS_ {rs:List (List AV)} {t:Bool} {l:List Pnt} (hl:rs=l.map Pnt.cs) (hb0:l.length<=1048576):AC Tryz.prog 182 [.sl t 2 rs] (λl:List Pnt=> .sl true 2 (l.map Pnt.cs)) l:=by
  refine ac Tryz.func182 (.rows .oPnt) λE K hE hK=>?_
  conv=>cbv
  refine lenL hE hl λn hn hb=>?_
  conv=>cbv
  refine makeL hE (l:=l) Pnt.cs hn rfl (by omega) λes hes=>?_
  conv=>cbv
  refine loop2 hE [0] [4,3] (λ(i:Int) (es':List (List AV))=>([(4,.int .i64 i),(3,.ob 0)],[.row 2 es'],l.length - i,0<=i/\es'=fillRow Pnt.cs [.int .i64 0,.int .i64 0] l i)) [0] ((0,es)) rfl rfl (by dsimp only;exact ⟨by omega,hes⟩) λi es' hi Kn hN=>?_
  (try dsimp only at hi)
  conv=>cbv
  obtain ⟨h0,hinv⟩:=hi
  repeat' first
    |(refine hN (_,_) _ [0] (by decide) rfl ⟨?_,?_⟩ ?_<;>(try dsimp only))
    |((first
   |refine q0 hE ?_
   |(refine idxL (R:=Pnt.cs) hE (by assumption) (by first|omega|(simp only [List.length_set,mix_len];omega)) ?_;rintro ⟨⟩ _)
   |(refine callI hE (toPoint_ _ _) (λ_ hy=>?_);subst hy)
   |refine updFill (R:=Pnt.cs) hE (by assumption) (by omega) (by assumption) (by exact Nat.le_refl _) (by rfl) (λ_ _=>?_)
   |refine B0 hE ?_|refine B1 hE ?_ ?_|refine B2 hE ?_)<;>intros<;>(try conv=>cbv))
  · omega
  · subst_vars;rfl
  · omega
  · refine hK _ ?_
    rw [hinv,fillRow_all (by omega)];rfl
theorem eqPoint_ (x:Int) (y:Int) (x':Int) (y':Int):AC Tryz.prog 41 [.agg [.int .i64 x,.int .i64 y],.agg [.int .i64 x',.int .i64 y']] AV.bool (bP ((Pnt.mk x y)=(Pnt.mk x' y'))):=by
  refine ac Tryz.func41 (.bool _) λE K hE hK=>?_
  conv=>cbv
  repeat' first
    |((first
   |refine q0 hE ?_
   |refine B0 hE ?_|refine B1 hE ?_ ?_|refine B2 hE ?_)<;>intros<;>(try conv=>cbv))
  all_goals first|(refine finB hK (bP_true.2 ?_);simp only [Pnt.mk.injEq,Pnt.mk.injEq] at *;simp_all;done)|(refine finB hK (bP_false.2 ?_);simp only [Pnt.mk.injEq,Pnt.mk.injEq] at *;simp_all;done)
theorem eqPointS_ {rs rs':List (List AV)} {t t':Bool} {l m:List Pnt} (hl:rs=l.map Pnt.cs) (hm:rs'=m.map Pnt.cs):AC Tryz.prog 210 [.sl t 2 rs,.sl t' 2 rs'] AV.bool (bP (l=m)):=by
  refine ac Tryz.func210 (.bool _) λE K hE hK=>?_
  conv=>cbv
  refine lenL hE hl λn hn hb=>?_
  conv=>cbv
  refine lenL hE hm λn' hn' hb'=>?_
  conv=>cbv
  refine eqI hE (λhe=>?_) (λhe=>?_)<;>conv=>cbv
  · refine loop1 hE [0,1] [5] (λ(i:Int)=>([(5,.int .i64 i)],[],l.length - i,0<=i/\Up (λj=>l[j]? =m[j]?) i)) [] (0) rfl rfl (by dsimp only;exact ⟨by omega,.zero (by omega)⟩) λi hi Kn hN=>?_
    (try dsimp only at hi)
    conv=>cbv
    obtain ⟨h0,hinv⟩:=hi
    repeat' first
      |(refine hN _ _ [] (by decide) rfl ⟨?_,?_⟩ ?_<;>(try dsimp only))
      |((first
     |refine q0 hE ?_
     |refine callP hE (eqPoint_ _ _ _ _) (λ_=>?_) (λ_=>?_)
     |(refine idxL (R:=Pnt.cs) hE (by assumption) (by first|omega|(simp only [List.length_set,mix_len];omega)) ?_;rintro ⟨⟩ _)
     |refine B0 hE ?_|refine B1 hE ?_ ?_|refine B2 hE ?_)<;>intros<;>(try conv=>cbv))
    · omega
    · refine hinv.succ ?_ (by assumption);clear hN;simp_all
    · omega
    · refine finB hK (bP_false.2 λh=>?_);clear hN;simp_all
    · exact finB hK (bP_true.2 (list_eq_of (by omega) hinv (by omega)))
  · refine finB hK (bP_false.2 λh=>?_);subst h;omega
def Pnt.mk' (k:Int):Pnt:=⟨k+0,k+1⟩
def Pnt.mks (n:Nat) (k:Int):List Pnt:=(List.range n).map λi:Nat=>Pnt.mk' (k+2*(i:Int))
theorem Pnt.mks_len (n:Nat) (k:Int):(Pnt.mks n k).length=n:=by simp [Pnt.mks]
theorem Pnt.mks_get {n:Nat} {k i:Int} {v:Pnt} (h0:0<=i) (h:(Pnt.mks n k)[i.toNat]? =some v):v=Pnt.mk' (k+2*i):=by
  unfold Pnt.mks at h
  rw [List.getElem?_map] at h
  by_cases hi:i.toNat<n
  · rw [List.getElem?_range hi] at h
    simp only [Option.map_some,Option.some.injEq] at h
    rw [←h,Int.toNat_of_nonneg h0]
  · rw [List.getElem?_eq_none (by simpa using Nat.le_of_not_lt hi)] at h;cases h
theorem markPointS_ {rs:List (List AV)} {l:List Pnt} (k:Int) (hl:rs=l.map Pnt.cs) (hk0:0<=k/\k<=1000000000000000) (hb:l.length<=100000000000):ACM Tryz.prog 85 [.sl true 2 rs,.int .i64 k] (λr ys=>∃(n:Int) (rs':List (List AV)),n=k+2*l.length/\rs'=(Pnt.mks l.length k).map Pnt.cs/\r= .int .i64 n/\ys=[.sl true 2 rs',.any]):=by
  refine acm 1 Tryz.func85 (λr ys ⟨n,rs',_,h3,h1,h2⟩=>⟨by rw [h1];exact .int _ _,by rw [h2,h3];simp;exact ⟨.rows .oPnt,.any⟩⟩) λE K hE hK=>?_
  conv=>cbv
  refine loop3 hE [] [5,1,0] (λ(i k':Int) (es:List (List AV))=>([(5,.int .i64 i),(1,.int .i64 k'),(0,.ob 0)],[.row 2 es],l.length - i,(0<=i/\i<=l.length)/\k'=k+2*i/\es=(mix (λi:Nat=>Pnt.mk' (k+2*(i:Int))) l i).map Pnt.cs)) [0] ((0,k,rs)) rfl rfl (by dsimp only;exact ⟨by omega,by omega,by rw [mix_zero (by omega)];exact hl⟩) λi k' es hi Kn hN=>?_
  (try dsimp only at hi)
  conv=>cbv
  obtain ⟨⟨h0,h1⟩,h2,h3⟩:=hi
  have hlen:=mix_len (λi:Nat=>Pnt.mk' (k+2*(i:Int))) l i
  obtain ⟨L,hL⟩:∃L,L=mix (λi:Nat=>Pnt.mk' (k+2*(i:Int))) l i:=⟨_,rfl⟩
  rw [←hL] at h3 hlen
  repeat' first
    |(refine hN (_,_,_) _ [0] (by decide) rfl ⟨?_,?_,?_⟩ ?_<;>(try dsimp only))
    |((first
   |refine idxS hE (by assumption) (by omega) ?_
   |refine q0 hE ?_
   |(refine idxL (R:=Pnt.cs) hE (by assumption) (by first|omega|(simp only [List.length_set,mix_len];omega)) ?_;rintro ⟨⟩ _)
   |refine callI hE (markText_ _ (by omega)) (λ_ _=>?_)
   |refine updS hE (v':=(⟨_,_⟩:Pnt)) (by assumption) (by omega) (by exact Nat.le_of_ble_eq_true rfl) (by first|rfl|((conv=>lhs;cbv);rfl)) (λ_ _=>?_)
   |refine updL hE (v':=(⟨_,_⟩:Pnt)) (by assumption) (by omega) (by assumption) (by exact Nat.le_of_ble_eq_true rfl) (by first|rfl|((conv=>lhs;cbv);rfl)) (λ_ _=>?_)
   |refine B0 hE ?_|refine B1 hE ?_ ?_|refine B2 hE ?_)<;>intros<;>(try conv=>cbv))
  · omega
  · omega
  · clear hN hK
    rename_i hes _ hfin _ hi1
    rw [hes,hL,mix_set h0 (by omega) (v:=_) ?_ hi1]
    clear hL h3 hlen
    subst_vars
    rw [Int.toNat_of_nonneg h0]
    simp only [Pnt.mk',Pnt.mk.injEq,Int.add_zero]
    all_goals (refine ⟨?_,?_⟩<;>first|trivial|omega|rfl|(congr 1;omega))
  · omega
  · have hi:i=l.length:=by omega
    refine hK _ _ ⟨k',es,?_,?_,rfl,rfl⟩
    · rw [h2,hi]
    · rw [h3,hL,mix_all (by omega)];rfl
end Go.Proofs.YtpfddoikhmbebaaGreatDoor
/- Rules: a row of an own list that is changed cell by cell. -/
namespace Go.Proofs.YtpfddoikhmbebaaGreatDoor
open Go Go.RowKit Classical
set_option maxRecDepth 100000
set_option maxHeartbeats 2000000
set_option linter.unusedVariables false
set_option linter.unusedSimpArgs false
section
variable {E:Env} {np:Nat} {P:Program}
theorem idxRS (hE:E=stdE np P) {es es':List (List AV)} {i:Int} {e:List AV} {K:List AV->Prop} (hes:es'=es.set i.toNat e) (h:0<=i/\i<es.length) (hk:K e):E.idx es' i K:=
  idxI hE h.1 (e:=e) (by rw [hes,List.getElem?_set_self (by omega)]) hk
theorem updR0 (hE:E=stdE np P) {es:List (List AV)} {i:Int} {j:Nat} {cs e:List AV} {K:List (List AV)->Prop} (h:0<=i) (hv:es[i.toNat]? =some e) (hl:j+cs.length<=e.length)
    (hk:∀es',es'=es.set i.toNat (splice e j cs)->es'.length=es.length->K es'):E.upd es i j cs K:=by
  subst hE
  exact ⟨h,e,hv,hl,hk _ rfl (by simp)⟩
theorem updRS (hE:E=stdE np P) {es es1:List (List AV)} {i:Int} {j:Nat} {cs e:List AV} {K:List (List AV)->Prop} (hes:es1=es.set i.toNat e) (h:0<=i/\i<es.length) (hl:j+cs.length<=e.length)
    (hk:∀es',es'=es.set i.toNat (splice e j cs)->es'.length=es.length->K es'):E.upd es1 i j cs K:=
  updR0 hE h.1 (by rw [hes,List.getElem?_set_self (by omega)]) hl λes' h1 h2=>hk es' (by rw [h1,hes,List.set_set]) (by rw [h2,hes,List.length_set])
end
end Go.Proofs.YtpfddoikhmbebaaGreatDoor
/- A pointer to more cells than a contract speaks of. -/
namespace Go.Proofs.YtpfddoikhmbebaaGreatDoor
open Go Go.RowKit Classical
set_option maxRecDepth 100000
set_option maxHeartbeats 2000000
set_option linter.unusedVariables false
set_option linter.unusedSimpArgs false
theorem Rel.ppTail {w:World} {A:Nat->Prop} {cs tl:List AV} {v:Value} (h:Rel w A (.pp (cs++tl)) v):Rel w A (.pp cs) v:=by
  cases h with
  |pp _ b off val hb hc hr=>exact .pp cs b off val hb (λj hj=>hc j (by rw [List.length_append];omega)) (λj a ha=>hr j a (by rw [List.getElem?_append_left (List.getElem?_eq_some_iff.1 ha).1];exact ha))
theorem AC.tl {P:Program} {α:Type} {f:FuncId} {us us':List AV} {R:α->AV} {x:α} (h:AC P f us R x) (hl:us'.length=us.length) (hp:∀i:Nat,us'[i]? =us[i]?∨∃cs tl:List AV,us[i]? =some (AV.pp cs)/\us'[i]? =some (AV.pp (cs++tl))):AC P f us' R x:=
  ⟨h.1,λw vs hg hr=>h.2 w vs hg ⟨hr.1.trans hl,λi a ha=>by
    rcases hp i with h1|⟨cs,tl,h1,h2⟩
    · exact hr.2 i a (h1.trans ha)
    · rw [ha] at h1;cases h1
      exact (hr.2 i _ h2).ppTail⟩⟩
theorem AC.tl11 {P:Program} {α:Type} {f:FuncId} {cs ds tl tm:List AV} {R:α->AV} {x:α} (h:AC P f [.pp cs,.pp ds] R x):AC P f [.pp (cs++tl),.pp (ds++tm)] R x:=
  AC.tl h rfl λi=>match i with
    |0=> .inr ⟨_,_,rfl,rfl⟩
    |1=> .inr ⟨_,_,rfl,rfl⟩
    |_+2=> .inl rfl
theorem AC.tl1 {P:Program} {α:Type} {f:FuncId} {cs tl:List AV} {R:α->AV} {x:α} (h:AC P f [.pp cs] R x):AC P f [.pp (cs++tl)] R x:=
  AC.tl h rfl λi=>match i with
    |0=> .inr ⟨_,_,rfl,rfl⟩
    |_+1=> .inl rfl
theorem AC.tl1v {P:Program} {α:Type} {f:FuncId} {cs tl:List AV} {a:AV} {R:α->AV} {x:α} (h:AC P f [.pp cs,a] R x):AC P f [.pp (cs++tl),a] R x:=
  AC.tl h rfl λi=>match i with
    |0=> .inr ⟨_,_,rfl,rfl⟩
    |_+1=> .inl rfl
end Go.Proofs.YtpfddoikhmbebaaGreatDoor
