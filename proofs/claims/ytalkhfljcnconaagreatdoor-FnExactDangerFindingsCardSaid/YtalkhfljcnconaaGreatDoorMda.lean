/- Plain laws: dangers that are marked. -/
import Derived.Test.YtalkhfljcnconaaGreatDoorHwk
import Derived.Test.YtalkhfljcnconaaGreatDoorFC
import Derived.Test.YtalkhfljcnconaaGreatDoorQa
namespace Go.Proofs.YtalkhfljcnconaaGreatDoor
open Go Go.RowKit Classical
set_option maxRecDepth 100000
set_option maxHeartbeats 2000000
set_option linter.unusedVariables false
set_option linter.unusedSimpArgs false
def quadR (b:Int):Int:=if 315<=b∨b<45 then 3 else if b<135 then 4 else if b<225 then 5 else 6
def marksP (d:Dgr) (w:Int) (a:Aid):Prop:=(3<=a.mKind/\a.mKind<=6)/\(d.radius<=distR d.atX d.atY a.atX a.atY/\distR d.atX d.atY a.atX a.atY<=d.radius+w)/\a.mKind=quadR (beaR d.atX d.atY a.atX a.atY)
def sideP (d:Dgr) (l:List Aid) (w k:Int):Prop:=∃a∈l,a.mKind=k/\marksP d w a
def markedP (d:Dgr) (l:List Aid) (w:Int):Prop:=sideP d l w 3/\sideP d l w 4/\sideP d l w 5/\sideP d l w 6
noncomputable section
def upTo (p:Int->Prop):Nat->List Int
  |0=>[]
  |j+1=>if p (j+3) then upTo p j++[(j:Int)+3] else upTo p j
end
theorem upTo_len (p:Int->Prop):∀j,(upTo p j).length<=j
  |0=>Nat.le_refl _
  | j+1=>by
    have:=upTo_len p j
    unfold upTo
    split
    · rw [List.length_append];simp;omega
    · omega
theorem upTo_step {p:Int->Prop} {k n:Int} (h0:3<=k) (hn:n=k+1):(p k->upTo p (n - 3).toNat=upTo p (k - 3).toNat++[k])/\(¬p k->upTo p (n - 3).toNat=upTo p (k - 3).toNat):=by
  rw [show (n - 3).toNat=(k - 3).toNat+1 by omega]
  have e:(((k - 3).toNat:Nat):Int)+3=k:=by omega
  have eu:∀j:Nat,upTo p (j+1)=if p (j+3) then upTo p j++[(j:Int)+3] else upTo p j:=λ_=>rfl
  rw [eu,e]
  exact ⟨λh=>by rw [if_pos h],λh=>by rw [if_neg h]⟩
theorem upTo_four {p:Int->Prop}:(upTo p 4).length=4↔p 3/\p 4/\p 5/\p 6:=by
  by_cases h3:p 3<;>by_cases h4:p 4<;>by_cases h5:p 5<;>by_cases h6:p 6<;>simp [upTo,h3,h4,h5,h6]
theorem upTo_mem {p:Int->Prop}:∀(j:Nat) (x:Int),x∈upTo p j↔(3<=x/\x<j+3)/\p x
  |0,x=>by simp [upTo];omega
  | j + 1,x=>by
    unfold upTo
    split
    · rename_i h
      rw [List.mem_append,upTo_mem j x,List.mem_singleton]
      constructor
      · rintro (h1|rfl)
        · exact ⟨by omega,h1.2⟩
        · exact ⟨by omega,h⟩
      · rintro ⟨h1,h2⟩
        by_cases e:x=j+3
        · exact .inr e
        · exact .inl ⟨by omega,h2⟩
    · rename_i h
      rw [upTo_mem j x]
      constructor
      · rintro ⟨h1,h2⟩;exact ⟨by omega,h2⟩
      · rintro ⟨h1,h2⟩
        refine ⟨?_,h2⟩
        by_cases e:x=j+3
        · rw [e] at h2;exact absurd h2 h
        · omega
theorem upTo_inc {p:Int->Prop}:∀j:Nat,(upTo p j).Pairwise (·<·)
  |0=> .nil
  | j +1=>by
    unfold upTo
    split
    · refine List.pairwise_append.2 ⟨upTo_inc j,List.pairwise_singleton _ _,λx hx y hy=>?_⟩
      have:=((upTo_mem j x).1 hx).1
      rw [List.mem_singleton.1 hy];omega
    · exact upTo_inc j
theorem inc_ext:∀{l m:List Int},l.Pairwise (·<·)->m.Pairwise (·<·)->(∀x,x∈l↔x∈m)->l=m
  |[],[],_,_,_=>rfl
  |[],b::m,_,_,h=>by have:=(h b).2 (List.mem_cons_self ..);cases this
  |a::l,[],_,_,h=>by have:=(h a).1 (List.mem_cons_self ..);cases this
  | a :: l,b::m,hl,hm,h=>by
    obtain ⟨l1,l2⟩:=List.pairwise_cons.1 hl
    obtain ⟨m1,m2⟩:=List.pairwise_cons.1 hm
    have e:a=b:=by
      rcases List.mem_cons.1 ((h a).1 (List.mem_cons_self ..)) with e|e
      · exact e
      · rcases List.mem_cons.1 ((h b).2 (List.mem_cons_self ..)) with e'|e'
        · exact e'.symm
        · have:=m1 a e;have:=l1 b e';omega
    subst e
    congr 1
    refine inc_ext l2 m2 λx=>⟨λhx=>?_,λhx=>?_⟩
    · rcases List.mem_cons.1 ((h x).1 (List.mem_cons_of_mem _ hx)) with e|e
      · have:=l1 x hx;omega
      · exact e
    · rcases List.mem_cons.1 ((h x).2 (List.mem_cons_of_mem _ hx)) with e|e
      · have:=m1 x hx;omega
      · exact e
theorem putI_spec {o:List Int} (n:Int) (hs:o.Pairwise (·<·)):(putI o n).Pairwise (·<·)/\∀x,x∈putI o n↔x∈o∨x=n:=by
  obtain ⟨g1,g2⟩:=fro_spec (·<n) o
  by_cases hf:o[fro (·<n) o]?=some n
  · have hm:=List.mem_of_getElem? hf
    rw [putI,if_pos hf]
    exact ⟨hs,λx=>⟨.inl,λh=>h.elim id λe=>e ▸ hm⟩⟩
  · rw [putI,if_neg hf]
    have hno:n∉o:=λhm=>by
      obtain ⟨j,hj⟩:=List.getElem?_of_mem hm
      have hjl:=(List.getElem?_eq_some_iff.1 hj).1
      rcases Nat.lt_trichotomy j (fro (·<n) o) with h|h|h
      · have:=g1 n (List.mem_of_getElem? (i:=j) (by rw [List.getElem?_take,if_pos h];exact hj))
        omega
      · rw [←h] at hf;exact hf hj
      · have hx:o[fro (·<n) o]?=some o[fro (·<n) o]:=List.getElem?_eq_getElem (by omega)
        have h3:=g2 _ hx
        have h4:=List.pairwise_iff_getElem.1 hs (fro (·<n) o) j (by omega) hjl h
        rw [(List.getElem?_eq_some_iff.1 hj).2] at h4
        exact h3 h4
    refine ⟨insF_pw (R:=(·<·)) (λx y z h1 h2=>Int.lt_trans h1 h2) hs λy hy=>?_,λx=>?_⟩
    · have:y≠n:=λe=>hno (e ▸ hy)
      omega
    · rw [show insF (·<n) o n=o.take (fro (·<n) o)++n::o.drop (fro (·<n) o) from rfl,←(ins_perm o n (fro (·<n) o)).mem_iff,List.mem_append,List.mem_singleton]
def markI (d:Dgr) (w:Int) (l:List Aid) (S:List Int):Prop:=S.Pairwise (·<·)/\∀x,x∈S↔sideP d l w x
theorem markI_nil (d:Dgr) (w:Int):markI d w [] []:=⟨.nil,λx=>⟨λh=>(by cases h),λ⟨a,h,_⟩=>(by cases h)⟩⟩
theorem markI_put {d:Dgr} {w:Int} {l:List Aid} {S:List Int} {i n:Int} {a:Aid} (h0:0<=i) (hv:l[i.toNat]?=some a) (hn:n=i+1) (h:markI d w (l.take i.toNat) S) (hm:marksP d w a):markI d w (l.take n.toNat) (putI S a.mKind):=by
  obtain ⟨h1,h2⟩:=putI_spec a.mKind h.1
  refine ⟨h1,λx=>?_⟩
  rw [h2,h.2,show n.toNat=i.toNat+1 by omega,List.take_add_one,hv]
  constructor
  · rintro (⟨b,g1,g2⟩|rfl)
    · exact ⟨b,List.mem_append_left _ g1,g2⟩
    · exact ⟨a,by simp,rfl,hm⟩
  · rintro ⟨b,g1,g2,g3⟩
    rcases List.mem_append.1 g1 with g|g
    · exact .inl ⟨b,g,g2,g3⟩
    · simp at g;subst g;exact .inr g2.symm
theorem markI_skip {d:Dgr} {w:Int} {l:List Aid} {S:List Int} {i n:Int} {a:Aid} (h0:0<=i) (hv:l[i.toNat]?=some a) (hn:n=i+1) (h:markI d w (l.take i.toNat) S) (hm:¬marksP d w a):markI d w (l.take n.toNat) S:=by
  refine ⟨h.1,λx=>?_⟩
  rw [h.2,show n.toNat=i.toNat+1 by omega,List.take_add_one,hv]
  constructor
  · rintro ⟨b,g1,g2⟩;exact ⟨b,List.mem_append_left _ g1,g2⟩
  · rintro ⟨b,g1,g2,g3⟩
    rcases List.mem_append.1 g1 with g|g
    · exact ⟨b,g,g2,g3⟩
    · simp at g;subst g;exact absurd g3 hm
theorem markI_len {d:Dgr} {w:Int} {l:List Aid} {S:List Int} (h:markI d w l S):S=upTo (sideP d l w) 4:=
  inc_ext h.1 (upTo_inc 4) λx=>by
    rw [h.2,upTo_mem]
    constructor
    · rintro ⟨a,g1,g2,g3⟩
      exact ⟨by have:=g3.1;omega,a,g1,g2,g3⟩
    · exact λh=>h.2
theorem markI_bd {d:Dgr} {w:Int} {l:List Aid} {S:List Int} (h:markI d w l S):S.length<=4:=by
  rw [markI_len h];exact upTo_len _ 4
theorem dist_self0 (x y:Int):distR x y x y<=0:=by
  unfold distR
  split
  · have:sqd x y x y=0:=by unfold sqd;simp
    rw [this,rootI_eq (r:=0) ⟨by omega,by omega,by omega⟩]
    exact Int.le_refl _
  · exact Int.le_refl _
theorem marksP_at {d:Dgr} {w:Int} {a:Aid} (hd:d.ok) (h:marksP d w a):¬(a.atX=d.atX/\a.atY=d.atY):=λ⟨e1,e2⟩=>by
  have h1:=h.2.1.1
  rw [e1,e2] at h1
  have:=dist_self0 d.atX d.atY
  have:=hd.2.2.1
  omega
end Go.Proofs.YtalkhfljcnconaaGreatDoor
