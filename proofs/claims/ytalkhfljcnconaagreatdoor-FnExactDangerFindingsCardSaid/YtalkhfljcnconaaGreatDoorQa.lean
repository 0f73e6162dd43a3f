/- Plain laws: insertion into a sorted list; Contracts: a number put into a rising list. -/
import Derived.Test.YtalkhfljcnconaaGreatDoorFA
namespace Go.Proofs.YtalkhfljcnconaaGreatDoor
open Go Go.RowKit Classical
set_option maxRecDepth 100000
set_option maxHeartbeats 2000000
set_option linter.unusedVariables false
set_option linter.unusedSimpArgs false
theorem ins_pw {α:Type} {R:α->α->Prop} (tr:∀x y z,R x y->R y z->R x z) {l:List α} {f:α} {k:Nat} (hs:l.Pairwise R) (hd:∀y∈l,R y f∨R f y) (h1:∀y∈l.take k,R y f) (h2:∀y,l[k]?=some y->¬R y f):(l.take k++f::l.drop k).Pairwise R:=by
  have hs':=hs
  rw [←List.take_append_drop k l,List.pairwise_append] at hs
  rw [List.pairwise_append,List.pairwise_cons]
  have h3:∀w∈l.drop k,R f w:=λw hw=>by
    cases hdk:l.drop k with
    |nil=>rw [hdk] at hw;cases hw
    | cons y t=>
      have hy:l[k]?=some y:=by
        have:=congrArg (λx=>x[0]?) hdk
        simpa using this
      have hfy:R f y:=by
        rcases hd y (List.mem_of_getElem? hy) with h|h
        · exact absurd h (h2 y hy)
        · exact h
      rw [hdk] at hw
      rcases List.mem_cons.1 hw with rfl|hw
      · exact hfy
      · have:=hs.2.1
        rw [hdk] at this
        exact tr _ _ _ hfy ((List.pairwise_cons.1 this).1 w hw)
  refine ⟨hs.1,⟨h3,hs.2.1⟩,λv hv w hw=>?_⟩
  rcases List.mem_cons.1 hw with rfl|hw
  · exact h1 v hv
  · exact hs.2.2 v hv w hw
theorem ins_perm {α:Type} (l:List α) (f:α) (k:Nat):(l++[f]).Perm (l.take k++f::l.drop k):=by
  refine List.Perm.trans ?_ List.perm_middle.symm
  rw [List.take_append_drop]
  exact List.perm_append_singleton f l
noncomputable def fro {α:Type} (p:α->Prop):List α->Nat
  |[]=>0
  |x::l=>if p x then fro p l+1 else 0
theorem fro_le {α:Type} (p:α->Prop):∀l:List α,fro p l<=l.length
  |[]=>Nat.le_refl _
  | x::l=>by
    unfold fro
    have:=fro_le p l
    split<;>simp<;>omega
theorem fro_spec {α:Type} (p:α->Prop):∀l:List α,(∀y∈l.take (fro p l),p y)/\∀y,l[fro p l]?=some y->¬p y
  |[]=>⟨λy h=>by simp at h,λy h=>by simp at h⟩
  | x ::l=>by
    obtain ⟨h1,h2⟩:=fro_spec p l
    unfold fro
    split
    · rename_i h
      refine ⟨λy hy=>?_,λy hy=>h2 y (by simpa using hy)⟩
      rw [List.take_succ_cons] at hy
      rcases List.mem_cons.1 hy with rfl|hy
      · exact h
      · exact h1 y hy
    · rename_i h
      refine ⟨λy hy=>by simp at hy,λy hy=>?_⟩
      simp at hy;subst hy;exact h
noncomputable def insF {α:Type} (p:α->Prop) (l:List α) (f:α):List α:=l.take (fro p l)++f::l.drop (fro p l)
theorem insF_pw {α:Type} {R:α->α->Prop} (tr:∀x y z,R x y->R y z->R x z) {l:List α} {f:α} (hs:l.Pairwise R) (hd:∀y∈l,R y f∨R f y):(insF (λw=>R w f) l f).Pairwise R:=
  ins_pw tr hs hd (fro_spec _ l).1 (fro_spec _ l).2
end Go.Proofs.YtalkhfljcnconaaGreatDoor
namespace Go.Proofs.YtalkhfljcnconaaGreatDoor
open Go Go.RowKit Classical
set_option maxRecDepth 100000
set_option maxHeartbeats 2000000
set_option linter.unusedVariables false
set_option linter.unusedSimpArgs false
noncomputable def putI (l:List Int) (n:Int):List Int:=if l[fro (·<n) l]?=some n then l else insF (·<n) l n
noncomputable def putAt (l:List Int) (n i:Int):List Int:=if (fro (·<n) l:Int)<i then (if l[fro (·<n) l]?=some n then l.take i.toNat else l.take (fro (·<n) l)++n::(l.take i.toNat).drop (fro (·<n) l)) else l.take i.toNat
theorem putAt_len (l:List Int) (n i:Int):(putAt l n i).length<=l.length+1:=by
  unfold putAt
  split
  · split
    · rw [List.length_take];omega
    · rw [List.length_append,List.length_cons,List.length_take,List.length_drop,List.length_take];omega
  · rw [List.length_take];omega
theorem fro_at {p:Int->Prop} {l:List Int} {i:Int} {x:Int} (h0:0<=i) (hx:l[i.toNat]?=some x) (hf:i<=fro p l):(p x->i<fro p l)/\(¬p x->(fro p l:Int)=i):=by
  obtain ⟨g1,g2⟩:=fro_spec p l
  refine ⟨λhp=>?_,λhp=>?_⟩
  · rcases Int.lt_or_le i (fro p l) with h|h
    · exact h
    · have e:fro p l=i.toNat:=by omega
      exact absurd hp (g2 x (by rw [e];exact hx))
  · rcases Int.lt_or_le i (fro p l) with h|h
    · refine absurd (g1 x ?_) hp
      exact List.mem_of_getElem? (i:=i.toNat) (by rw [List.getElem?_take,if_pos (by omega)];exact hx)
    · omega
theorem putAt_zero (l:List Int) (n:Int):putAt l n 0=[]:=by
  unfold putAt;rw [if_neg (by omega)];rfl
theorem take_snoc {l:List Int} {i n:Int} {x:Int} (h0:0<=i) (hn:n=i+1) (hx:l[i.toNat]?=some x):l.take n.toNat=l.take i.toNat++[x]:=by
  rw [show n.toNat=i.toNat+1 by omega,List.take_add_one,hx];rfl
theorem putAt_done {l:List Int} {m i n x:Int} (h0:0<=i) (hn:n=i+1) (hx:l[i.toNat]?=some x) (hd:(fro (·<m) l:Int)<i):putAt l m n=putAt l m i++[x]:=by
  unfold putAt
  rw [if_pos (by omega),if_pos hd,take_snoc h0 hn hx]
  split
  · rfl
  · have hl:fro (·<m) l<=(l.take i.toNat).length:=by
      have:=(List.getElem?_eq_some_iff.1 hx).1
      rw [List.length_take];omega
    rw [List.drop_append_of_le_length hl,←List.cons_append,List.append_assoc]
theorem putAt_less {l:List Int} {m i n x:Int} (h0:0<=i) (hn:n=i+1) (hx:l[i.toNat]?=some x) (hd:i<=fro (·<m) l) (hlt:x<m):putAt l m n=putAt l m i++[x]/\n<=fro (·<m) l:=by
  have h1:=(fro_at h0 hx hd).1 hlt
  unfold putAt
  rw [if_neg (by omega),if_neg (by omega),take_snoc h0 hn hx]
  exact ⟨rfl,by omega⟩
theorem putAt_eq {l:List Int} {m i n x:Int} (h0:0<=i) (hn:n=i+1) (hx:l[i.toNat]?=some x) (hd:i<=fro (·<m) l) (he:x=m):putAt l m n=putAt l m i++[x]/\(fro (·<m) l:Int)<n:=by
  have h1:=(fro_at h0 hx hd).2 (by omega)
  have e:fro (·<m) l=i.toNat:=by omega
  have hlen:=(List.getElem?_eq_some_iff.1 hx).1
  have e1:putAt l m i=l.take i.toNat:=by unfold putAt;exact if_neg (by omega)
  have e2:putAt l m n=l.take n.toNat:=by
    unfold putAt
    rw [if_pos (show (fro (·<m) l:Int)<n by omega),if_pos (by rw [e,hx,he])]
  rw [e1,e2,take_snoc h0 hn hx]
  exact ⟨rfl,by omega⟩
theorem putAt_more {l:List Int} {m i n x:Int} (h0:0<=i) (hn:n=i+1) (hx:l[i.toNat]?=some x) (hd:i<=fro (·<m) l) (he:m<x):putAt l m n=putAt l m i++[m]++[x]/\(fro (·<m) l:Int)<n:=by
  have h1:=(fro_at h0 hx hd).2 (by omega)
  have e:fro (·<m) l=i.toNat:=by omega
  have hlen:=(List.getElem?_eq_some_iff.1 hx).1
  have e1:putAt l m i=l.take i.toNat:=by unfold putAt;exact if_neg (by omega)
  have e2:putAt l m n=l.take i.toNat++m::(l.take n.toNat).drop i.toNat:=by
    unfold putAt
    rw [if_pos (show (fro (·<m) l:Int)<n by omega),if_neg (by rw [e,hx];intro h;injection h with h;omega),e]
  rw [e1,e2,take_snoc h0 hn hx]
  refine ⟨?_,by omega⟩
  rw [List.drop_append_of_le_length (by rw [List.length_take];omega),List.drop_eq_nil_of_le (by rw [List.length_take];omega),List.nil_append,List.append_assoc]
  rfl
theorem putAt_end {l:List Int} {m i:Int} (hi:l.length<=i):((fro (·<m) l:Int)<i->i<=l.length->putAt l m i=putI l m)/\(i<=fro (·<m) l->putAt l m i++[m]=putI l m):=by
  have hle:=fro_le (·<m) l
  have ht:l.take i.toNat=l:=List.take_of_length_le (by omega)
  constructor
  · intro h _
    unfold putAt putI insF
    rw [if_pos h,ht]
  · intro h
    have e:fro (·<m) l=l.length:=by omega
    unfold putAt putI insF
    rw [if_neg (by omega),ht,e,if_neg (by simp),List.take_length,List.drop_length]
theorem l00Put_ {rs:List (List AV)} {b:Bool} {l:List Int} (m:Int) (hl:rs=l.map intR) (hb:l.length<=1000000):AC Tryz.prog 266 [.sl b 1 rs,.int .i64 m] (λl:List Int=> .sl true 1 (l.map intR)) (putI l m):=by
  refine ac Tryz.func266 (by kernel_rfl) (.ints _) λE K hE hK=>?_
  conv=>cbv
  refine loopC hE (ι:=Int×(List (List AV))×Bool) [0,1] [7,5,6] (λq=>(λ(i:Int) (es:List (List AV)) (d:Bool)=>[(7,.int .i64 i),(5,.ob 0),(6,.bool d)]) q.1 q.2.1 q.2.2) (λq=>(λ(i:Int) (es:List (List AV)) (d:Bool)=>[.row 1 es]) q.1 q.2.1 q.2.2) (λq=>(λ(i:Int) (es:List (List AV)) (d:Bool)=>(l.length - i).toNat) q.1 q.2.1 q.2.2) (λq=>(λ(i:Int) (es:List (List AV)) (d:Bool)=>(0<=i/\i<=l.length)/\es=(putAt l m i).map intR/\(d=true->(fro (·<m) l:Int)<i)/\(d=false->i<=fro (·<m) l)) q.1 q.2.1 q.2.2) [0] (by decide) ((0,[],false)) (by conv=>lhs;cbv) (by conv=>lhs;cbv) rfl rfl (by dsimp only;exact ⟨by omega,by rw [putAt_zero];rfl,λh=>(by cases h),λ_=>by omega⟩) λq hi Kn hN=>?_
  obtain ⟨i,es,d⟩:=q
  (try dsimp only at hi)
  conv=>cbv
  obtain ⟨⟨h0,h1⟩,h2,h3,h4⟩:=hi
  have hlen:=putAt_len l m i
  have hend:=putAt_end (l:=l) (m:=m) (i:=i)
  cases d
  · have hd:=h4 rfl
    conv=>cbv
    repeat' first
      |(refine idxV hE hl (by omega) (by assumption) ?_;(try conv=>cbv))
      |(refine idxL hE hl (by omega) (λx hx=>?_);(try conv=>cbv))
      |(refine hN (_,_,true) _ [2] (by decide) rfl ⟨?_,?_,λ_=>?_,λh=>(by cases h)⟩ ?_<;>(try dsimp only))
      |(refine hN (_,_,true) _ [4] (by decide) rfl ⟨?_,?_,λ_=>?_,λh=>(by cases h)⟩ ?_<;>(try dsimp only))
      |(refine hN (_,_,false) _ [2] (by decide) rfl ⟨?_,?_,λh=>(by cases h),λ_=>?_⟩ ?_<;>(try dsimp only))
      |((first
     |refine q0 hE ?_
     |refine catP hE (R:=intR) (by assumption) rfl (by first|omega|(simp only [List.length_append,List.length_cons,List.length_nil];omega)) (λ_ _=>?_)
     |refine B0 hE ?_|refine B1 hE (λ_=>?_) λ_=>?_|refine B3 hE λ_ _ _=>?_|refine B2 hE λ_ _=>?_|refine B4 hE λ_ _ _ _=>?_)<;>(try conv=>cbv))
    all_goals (try clear hN)
    all_goals first
      |omega
      |(rw [(putAt_more h0 (by assumption) hx hd (by omega)).1];assumption)
      |exact (putAt_more h0 (by assumption) hx hd (by omega)).2
      |(rw [(putAt_eq h0 (by assumption) hx hd (by omega)).1];assumption)
      |exact (putAt_eq h0 (by assumption) hx hd (by omega)).2
      |(rw [(putAt_less h0 (by assumption) hx hd (by omega)).1];assumption)
      |exact (putAt_less h0 (by assumption) hx hd (by omega)).2
      |(refine hK _ ?_;rw [←(hend (by omega)).2 hd];subst_vars;rfl)
      |trace_state
  · have hd:=h3 rfl
    conv=>cbv
    repeat' first
      |(refine idxV hE hl (by omega) (by assumption) ?_;(try conv=>cbv))
      |(refine idxL hE hl (by omega) (λx hx=>?_);(try conv=>cbv))
      |(refine hN (_,_,true) _ [2] (by decide) rfl ⟨?_,?_,λ_=>?_,λh=>(by cases h)⟩ ?_<;>(try dsimp only))
      |((first
     |refine q0 hE ?_
     |refine catP hE (R:=intR) (by assumption) rfl (by first|omega|(simp only [List.length_append,List.length_cons,List.length_nil];omega)) (λ_ _=>?_)
     |refine B0 hE ?_|refine B1 hE (λ_=>?_) λ_=>?_|refine B3 hE λ_ _ _=>?_|refine B2 hE λ_ _=>?_|refine B4 hE λ_ _ _ _=>?_)<;>(try conv=>cbv))
    all_goals (try clear hN)
    all_goals first
      |omega
      |(rw [putAt_done h0 (by assumption) hx hd];assumption)
      |(refine hK _ ?_;rw [←(hend (by omega)).1 hd (by omega)];subst_vars;rfl)
      |trace_state
end Go.Proofs.YtalkhfljcnconaaGreatDoor
