/- Sectors: plain laws. -/
import Derived.Test.YtpfddoikhmbebaaGreatDoorQi
import Derived.Test.YtpfddoikhmbebaaGreatDoorFB
namespace Go.Proofs.YtpfddoikhmbebaaGreatDoor
open Go Go.RowKit Classical
set_option maxRecDepth 100000
set_option maxHeartbeats 2000000
set_option linter.unusedVariables false
set_option linter.unusedSimpArgs false
def cW:ByteArray:=⟨#[87]⟩
def cR:ByteArray:=⟨#[82]⟩
def cG:ByteArray:=⟨#[71]⟩
def cY:ByteArray:=⟨#[89]⟩
def isCol (c:ByteArray):Prop:=c=cW∨c=cR∨c=cG∨c=cY
def ScrOk (f t:Int) (c:ByteArray):Prop:=(0<=f/\f<=359)/\(0<=t/\t<=359)/\isCol c
def arcR (f t:Int):Int:=(t - f - 1) % 360+1
theorem arcR_bd (f t:Int):1<=arcR f t/\arcR f t<=360:=by unfold arcR;omega
def hasR (f t b:Int):Prop:=(b - f) % 360<arcR f t
def ScrC (l:List Scr) (j:Nat):Prop:=∃s,l[j]? =some s/\ScrOk s.frm s.til s.color/\(0<j->∃p,l[j - 1]? =some p/\p.frm<s.frm)
def ScsAp (l:List Scr):Prop:=∀(i k:Nat) s u,i≠k->l[i]? =some s->l[k]? =some u->¬hasR s.frm s.til u.frm
def ScsOk (l:List Scr):Prop:=(∀j,j<l.length->ScrC l j)/\l.length<=12/\ScsAp l
theorem scr_at {l:List Scr} (h:∀j,j<l.length->ScrC l j) {i:Nat} {s:Scr} (hs:l[i]? =some s):ScrOk s.frm s.til s.color:=by
  obtain ⟨s',h1,h2,_⟩:=h i (List.getElem?_eq_some_iff.1 hs).1
  rw [hs] at h1;cases h1;exact h2
theorem scr_inc {l:List Scr} (h:∀j,j<l.length->ScrC l j) {i:Nat} {s:Scr} (hs:l[i]? =some s):∀(k:Nat) u,i<k->l[k]? =some u->s.frm<u.frm
  |0,_,hik,_=>absurd hik (by omega)
  | k+1,u,hik,hu=>by
    obtain ⟨u',h1,_,h3⟩:=h (k+1) (List.getElem?_eq_some_iff.1 hu).1
    rw [hu] at h1;cases h1
    obtain ⟨p,h4,h5⟩:=h3 (by omega)
    rw [Nat.add_sub_cancel] at h4
    by_cases e:i=k
    · subst e;rw [hs] at h4;cases h4;exact h5
    · have:=scr_inc h hs k p (by omega) h4;omega
def ScsNx (l:List Scr) (i:Nat):Prop:=∀s u,1<l.length->l[i]? =some s->l[(i+1) % l.length]? =some u->arcR s.frm s.til<=(u.frm - s.frm+360) % 360
theorem scs_nx {l:List Scr} (h:∀j,j<l.length->ScrC l j):ScsAp l↔∀i,i<l.length->ScsNx l i:=by
  constructor
  · intro ha i hi s u hn hs hu
    have hne:i≠(i+1) % l.length:=by
      by_cases e:i+1=l.length
      · rw [e,Nat.mod_self];omega
      · rw [Nat.mod_eq_of_lt (by omega)];omega
    have:=ha i _ s u hne hs hu
    unfold hasR at this
    have h1:=scr_at h hs
    have h2:=scr_at h hu
    unfold ScrOk at h1 h2
    omega
  · intro hn i k s u hik hs hu hh
    have hi:=(List.getElem?_eq_some_iff.1 hs).1
    have hk:=(List.getElem?_eq_some_iff.1 hu).1
    have hlt:(i+1) % l.length<l.length:=Nat.mod_lt _ (by omega)
    have hv:l[(i+1) % l.length]? =some l[(i+1) % l.length]:=by simp [hlt]
    generalize l[(i+1) % l.length]=v at hv
    have h0:=hn i hi s v (by omega) hs hv
    have h1:=scr_at h hs
    have h2:=scr_at h hu
    have h3:=scr_at h hv
    unfold ScrOk at h1 h2 h3
    unfold hasR at hh
    have hvu:(i+1) % l.length=k∨(i+1) % l.length<k∨k<(i+1) % l.length:=by omega
    have key:v.frm=u.frm∨((i+1) % l.length<k/\v.frm<u.frm)∨(k<(i+1) % l.length/\u.frm<v.frm):=by
      rcases hvu with e|e|e
      · rw [e,hu] at hv;cases hv;exact .inl rfl
      · exact .inr (.inl ⟨e,scr_inc h hv k u e hu⟩)
      · exact .inr (.inr ⟨e,scr_inc h hu _ v e hv⟩)
    have hsu:(i<k/\s.frm<u.frm)∨(k<i/\u.frm<s.frm):=by
      rcases Nat.lt_or_ge i k with e|e
      · exact .inl ⟨e,scr_inc h hs k u e hu⟩
      · exact .inr ⟨by omega,scr_inc h hu i s (by omega) hs⟩
    by_cases e:i+1=l.length
    · have e0:(i+1) % l.length=0:=by rw [e,Nat.mod_self]
      rw [e0] at key hv
      have hv0:v.frm<s.frm:=scr_inc h hv i s (by omega) hs
      omega
    · have e0:(i+1) % l.length=i+1:=Nat.mod_eq_of_lt (by omega)
      rw [e0] at key hv
      have hv0:s.frm<v.frm:=scr_inc h hs (i+1) v (by omega) hv
      omega
def arcN (s:Scr):Nat:=(arcR s.frm s.til).toNat
theorem arcN_bd (s:Scr):1<=arcN s/\arcN s<=360/\(arcN s:Int)=arcR s.frm s.til:=by
  have:=arcR_bd s.frm s.til
  unfold arcN;omega
theorem scs_total {l:List Scr} (h:∀j,j<l.length->ScrC l j) (ha:ScsAp l):sumTo arcN l l.length<=360:=by
  cases hl:l with
  |nil=>simp [sumTo]
  | cons s0 l0=>
    rw [←hl]
    have hs0:l[0]? =some s0:=by rw [hl];rfl
    have hpos:0<l.length:=by rw [hl];simp
    have main:∀(i:Nat) u,l[i]? =some u->(sumTo arcN l i:Int)<=u.frm - s0.frm:=by
      intro i
      induction i with
      |zero=>intro u hu;rw [hs0] at hu;cases hu;rw [sumTo_zero (by omega)];omega
      | succ i ih=>
        intro u hu
        have hi:=(List.getElem?_eq_some_iff.1 hu).1
        have hv:l[i]? =some l[i]:=by simp
        generalize l[i]=v at hv
        have h1:=ih v hv
        have h2:=ha i (i+1) v u (by omega) hv hu
        have h3:=scr_inc h hv (i+1) u (by omega) hu
        have h4:=sumTo_succ arcN (l:=l) (i:=i) (by omega) (by simpa using hv)
        have h5:=arcN_bd v
        have h6:=scr_at h hv
        have h7:=scr_at h hu
        unfold ScrOk at h6 h7
        unfold hasR at h2
        rw [show ((i+1:Nat):Int)=(i:Int)+1 by omega,h4]
        omega
    have hi:l.length - 1<l.length:=by omega
    have hu:l[l.length - 1]? =some l[l.length - 1]:=by simp
    generalize l[l.length - 1]=u at hu
    have h1:=main _ u hu
    have h4:=sumTo_succ arcN (l:=l) (i:=(l.length - 1:Nat)) (by omega) (by simpa using hu)
    rw [show ((l.length - 1:Nat):Int)+1=l.length by omega] at h4
    rw [h4]
    have h5:=arcN_bd u
    by_cases e:l.length=1
    · have:sumTo arcN l ((l.length - 1:Nat):Int)=0:=sumTo_zero (by omega)
      omega
    · have h2:=ha _ 0 u s0 (by omega) hu hs0
      have h3:=scr_inc h hs0 (l.length - 1) u (by omega) hu
      have h6:=scr_at h hs0
      have h7:=scr_at h hu
      unfold ScrOk at h6 h7
      unfold hasR at h2
      omega
def noS:ByteArray:=⟨#[]⟩
noncomputable def colAt:List Scr->Int->ByteArray
  |[],_=>noS
  |s::l,b=>if hasR s.frm s.til b then s.color else colAt l b
theorem map_set {α:Type} (f:Nat->α) (n i:Nat) (v:α):((List.range n).map f).set i v=(List.range n).map λd=>if d=i then v else f d:=by
  apply List.ext_getElem?
  intro j
  rw [List.getElem?_set]
  by_cases hj:j<n
  · simp only [List.length_map,List.length_range,List.getElem?_map,List.getElem?_range hj,Option.map_some]
    by_cases e:i=j
    · subst e;simp [hj]
    · rw [if_neg e,if_neg (Ne.symm e)]
  · have h1:((List.range n).map f)[j]? =none:=by rw [List.getElem?_eq_none (by simp;omega)]
    have h2:((List.range n).map λd=>if d=i then v else f d)[j]? =none:=by rw [List.getElem?_eq_none (by simp;omega)]
    rw [h1,h2]
    split
    · rename_i e;subst e;rw [if_neg (by simp;omega)]
    · rfl
def allC:List ByteArray:=[cW,cR,cG,cY]
noncomputable def occ (l:List Scr) (c:ByteArray):Bool:=bP (∃s∈l,s.color=c)
def fl (c:ByteArray) (b:Bool):ByteArray:=if b then c else noS
noncomputable def colsTo (l:List Scr):Nat->ByteArray
  |0=>noS
  |i+1=>colsTo l i++fl (allC.getD i noS) (occ l (allC.getD i noS))
noncomputable def colsR (l:List Scr):ByteArray:=colsTo l 4
theorem occ_nil (c:ByteArray):occ [] c=false:=bP_false.2 (by simp)
theorem occ_take {l:List Scr} {i:Int} {s:Scr} (c:ByteArray) (h0:0<=i) (hs:l[i.toNat]? =some s):occ (l.take (i+1).toNat) c=(occ (l.take i.toNat) c || bP (s.color=c)):=by
  apply bP_eq
  rw [Bool.or_eq_true,bP_true,occ,bP_true,show (i+1).toNat=i.toNat+1 by omega,List.take_add_one,hs]
  simp only [Option.toList_some,List.mem_append,List.mem_singleton]
  constructor
  · rintro (⟨u,h1,h2⟩|h)
    · exact ⟨u,.inl h1,h2⟩
    · exact ⟨s,.inr rfl,h⟩
  · rintro ⟨u,h1|h1,h2⟩
    · exact .inl ⟨u,h1,h2⟩
    · subst h1;exact .inr h2
theorem fl_size (c:ByteArray) (b:Bool):(fl c b).size<=c.size:=by
  cases b
  · exact Nat.zero_le _
  · exact Nat.le_refl _
theorem allC_size (i:Nat):(allC.getD i noS).size<=1:=by
  match i with
  |0=>decide
  |1=>decide
  |2=>decide
  |3=>decide
  |n+4=>exact (show noS.size<=1 from by decide)
theorem colsTo_size (l:List Scr):∀i:Nat,(colsTo l i).size<=i
  |0=>by simp [colsTo,noS,ByteArray.size]
  | i+1=>by
    unfold colsTo
    rw [ByteArray.size_append]
    have h1:=colsTo_size l i
    have h2:=fl_size (allC.getD i noS) (occ l (allC.getD i noS))
    have h3:=allC_size i
    omega
theorem cat_noS (s:ByteArray):s++noS=s:=ByteArray.append_empty
def colB:Nat->Bool->Bool->Bool->ByteArray
  |0,_,_,_=>noS
  |1,a,_,_=>noS++fl cW a
  |2,a,b,_=>noS++fl cW a++fl cR b
  |_,a,b,c=>noS++fl cW a++fl cR b++fl cG c
theorem colsTo_B (l:List Scr) {i:Nat} (h:i<4):∃a b c,colsTo l i=colB i a b c:=by
  match i,h with
  |0,_=>exact ⟨true,true,true,rfl⟩
  |1,_=>exact ⟨_,true,true,rfl⟩
  |2,_=>exact ⟨_,_,true,rfl⟩
  |3,_=>exact ⟨_,_,_,rfl⟩
theorem colB_idx:∀(i:Fin 4) (a b c d:Bool),decide (0<=Lib.indexByte (colB i.1 a b c++fl (allC.getD i.1 noS) d).data.toList ((allC.getD i.1 noS).data.getD 0 0))=d:=by decide +kernel
theorem cols_has (l:List Scr) {i:Nat} (h:i<4) (d:Bool):decide (0<=Lib.indexByte (colsTo l i++fl (allC.getD i noS) d).data.toList ((allC.getD i noS).data.getD 0 0))=d:=by
  obtain ⟨a,b,c,e⟩:=colsTo_B l h
  rw [e]
  exact colB_idx ⟨i,h⟩ a b c d
end Go.Proofs.YtpfddoikhmbebaaGreatDoor
/- Characters: plain laws. -/
namespace Go.Proofs.YtpfddoikhmbebaaGreatDoor
open Go Go.RowKit Classical
set_option maxRecDepth 100000
set_option maxHeartbeats 2000000
set_option linter.unusedVariables false
set_option linter.unusedSimpArgs false
def cAll:ByteArray:=⟨#[87,82,71,89]⟩
def rk (c:Int):Int:=if c=87 then 1 else if c=82 then 2 else if c=71 then 3 else if c=89 then 4 else 0
def ColC (s:ByteArray) (j:Nat):Prop:=rk (chr s j)≠0/\(0<j->rk (chr s (j - 1))<rk (chr s j))
def ColOk (s:ByteArray):Prop:=(∀j,j<s.size->ColC s j)/\1<=s.size/\s.size<=3
theorem idx_rk0:∀n:Fin 256,Lib.indexByte cAll.data.toList n.1.toUInt8=rk (n.1:Int) - 1:=by decide +kernel
theorem idx_rk {n:Int} (h:0<=n/\n<=255):Lib.indexByte cAll.data.toList n.toNat.toUInt8=rk n - 1:=by
  have:=idx_rk0 ⟨n.toNat,by omega⟩
  simp only at this
  rw [this,Int.toNat_of_nonneg h.1]
def GrpOk (l:List Int):Prop:=(∀x∈l,1<=x/\x<=9)/\l.length<=4/\l.sum<=12/\l≠[1]
def sumI (l:List Int) (i:Int):Int:=(l.take i.toNat).sum
theorem sumI_zero {l:List Int} {i:Int} (h:i<=0):sumI l i=0:=by unfold sumI;rw [show i.toNat=0 by omega];simp
theorem sumI_succ {l:List Int} {i v:Int} (h0:0<=i) (hv:l[i.toNat]? =some v):sumI l (i+1)=sumI l i+v:=by
  unfold sumI
  rw [show (i+1).toNat=i.toNat+1 by omega,List.take_add_one,hv]
  simp
theorem sumI_all {l:List Int} {i:Int} (h:l.length<=i):sumI l i=l.sum:=by unfold sumI;rw [List.take_of_length_le (by omega)]
def tL:ByteArray:=⟨#[76]⟩
def LetOk (t:ByteArray):Prop:=t.size=1/\65<=chr t 0/\chr t 0<=90
def ShapeOk (k:Int) (g:List Int) (t:ByteArray):Prop:=
  ((k=1∨k=3)/\g=[]/\t=noS)∨((k=2∨k=4∨k=5)/\t=noS/\GrpOk g)∨((k=6∨k=7)/\(t=noS/\(g=[]∨∃x,g=[x]/\2<=x/\x<=9)∨t=tL/\g=[6]))∨(k=8/\LetOk t/\g=[])
theorem ShapeOk.kind {k:Int} {g:List Int} {t:ByteArray} (h:ShapeOk k g t):1<=k/\k<=8:=by
  rcases h with h|h|h|h<;>omega
theorem ShapeOk.grp {k:Int} {g:List Int} {t:ByteArray} (h:ShapeOk k g t):(∀x∈g,1<=x/\x<=9)/\g.length<=4:=by
  rcases h with ⟨_,rfl,_⟩|⟨_,_,h⟩|⟨_,⟨_,rfl|⟨x,rfl,h⟩⟩|⟨_,rfl⟩⟩|⟨_,_,rfl⟩
  · simp
  · exact ⟨h.1,h.2.1⟩
  · simp
  · simp;omega
  · simp
  · simp
theorem ShapeOk.letter {k:Int} {g:List Int} {t:ByteArray} (h:ShapeOk k g t):(k=8/\LetOk t)∨(k≠8/\(t=noS∨t=tL)):=by
  rcases h with ⟨_,_,h⟩|⟨_,h,_⟩|⟨_,⟨h,_⟩|⟨h,_⟩⟩|⟨_,h,_⟩
  · exact .inr ⟨by omega,.inl h⟩
  · exact .inr ⟨by omega,.inl h⟩
  · exact .inr ⟨by omega,.inl h⟩
  · exact .inr ⟨by omega,.inr h⟩
  · exact .inl ⟨by omega,h⟩
def flashR (k:Int):Int:=if k=2 then 10 else if k=5 then 20 else if k=7 then 2 else 5
def gapR (k:Int):Int:=if k=2 then 10 else if k=4 then 15 else if k=5 then 20 else if k=7 then 3 else 5
def restR (k:Int):Int:=if k=2 then 15 else if k=4 then 20 else if k=5 then 25 else if k=6 then 20 else if k=7 then 10 else 30
theorem flashR_bd (k:Int):2<=flashR k/\flashR k<=20:=by unfold flashR;repeat' split<;>omega
theorem gapR_bd (k:Int):3<=gapR k/\gapR k<=20:=by unfold gapR;repeat' split<;>omega
theorem restR_bd (k:Int):10<=restR k/\restR k<=30:=by unfold restR;repeat' split<;>omega
def innerL (f g:Int) (first:Bool):Nat->List Int
  |0=>[]
  |k+1=>innerL f g first k++((if k=0 then (if first then [] else [g+20]) else [g])++[f])
def outerL (f g:Int) (l:List Int):Nat->List Int
  |0=>[]
  |i+1=>outerL f g l i++innerL f g (i == 0) (l.getD i 0).toNat
def grpOr (g:List Int):List Int:=if g=[] then [1] else g
theorem grpOr_bd {g:List Int} (h:(∀x∈g,1<=x/\x<=9)/\g.length<=4):(∀x∈grpOr g,1<=x/\x<=9)/\(grpOr g).length<=4/\1<=(grpOr g).length:=by
  unfold grpOr
  split
  · simp
  · rename_i h0
    exact ⟨h.1,h.2,List.length_pos_iff.2 h0⟩
def codes : List ByteArray := [".-", "-...", "-.-.", "-..", ".", "..-.", "--.", "....", "..", ".---", "-.-", ".-..", "--", "-.", "---", ".--.", "--.-", ".-.", "...", "-", "..-", "...-", ".--", "-..-", "-.--", "--.."].map String.toUTF8
theorem codes_len:codes.length=26:=rfl
theorem codes_ok:∀s∈codes,s≠noS/\s.size<=4/\∀j,j<s.size->chr s j=45∨chr s j=46:=by
  have h:∀s∈codes,s.data.toList≠[]/\s.data.toList.length<=4/\∀b∈s.data.toList,b=45∨b=46:=by decide +kernel
  intro s hs
  obtain ⟨h1,h2,h3⟩:=h s hs
  rw [Array.length_toList] at h2
  refine ⟨λe=>h1 (by rw [e];rfl),h2,λj hj=>?_⟩
  have hj':j<s.data.size:=hj
  have h4:=h3 s.data[j] (Array.mem_toList_iff.2 (Array.getElem_mem _))
  have e:(s.data.getD j 0)=s.data[j]:=by
    rw [Array.getD_eq_getD_getElem?,Array.getElem?_eq_getElem hj']
    rfl
  unfold chr
  rw [e]
  rcases h4 with h4|h4<;>rw [h4]<;>simp
def sgnT (t:ByteArray):ByteArray:=codes.getD (chr t 0 - 65).toNat noS
theorem sgnT_mem {t:ByteArray} (h:LetOk t):sgnT t∈codes:=by
  have hl:=codes_len
  obtain ⟨_,h1,h2⟩:=h
  unfold sgnT
  rw [List.getD_eq_getElem?_getD,List.getElem?_eq_getElem (by omega)]
  simp
theorem sgnT_get {t v:ByteArray} {i:Int} (hi:i=chr t 0 - 65) (h:codes[i.toNat]? =some v):v=sgnT t:=by
  unfold sgnT
  rw [List.getD_eq_getElem?_getD,←hi,h];rfl
def morL (s:ByteArray):Nat->List Int
  |0=>[]
  |j+1=>morL s j++((if j=0 then [] else [5])++[if chr s j=45 then 15 else 5])
theorem morL_len (s:ByteArray):∀j:Nat,(morL s j).length<=2*j
  |0=>by simp [morL]
  | j+1=>by
    have:=morL_len s j
    unfold morL
    split<;>simp<;>omega
theorem morL_bd (s:ByteArray):∀j:Nat,∀x∈morL s j,0<=x/\x<=100
  |0,x,h=>by simp [morL] at h
  | j +1,x,h=>by
    unfold morL at h
    rw [List.mem_append,List.mem_append,List.mem_singleton] at h
    rcases h with h|h|h
    · exact morL_bd s j x h
    · split at h
      · simp at h
      · simp at h;omega
    · rw [h];split<;>omega
theorem innerL_len (f g:Int) (b:Bool):∀k:Nat,(innerL f g b k).length<=2*k
  |0=>by simp [innerL]
  | k+1=>by
    have:=innerL_len f g b k
    unfold innerL
    split
    · split<;>simp<;>omega
    · simp;omega
theorem innerL_bd {f g:Int} (b:Bool) (hf:0<=f/\f<=100) (hg:0<=g/\g<=80):∀k:Nat,∀x∈innerL f g b k,0<=x/\x<=100
  |0,x,h=>by simp [innerL] at h
  | k + 1,x,h=>by
    unfold innerL at h
    rw [List.mem_append,List.mem_append,List.mem_singleton] at h
    rcases h with h|h|h
    · exact innerL_bd b hf hg k x h
    · split at h
      · split at h
        · simp at h
        · simp at h;omega
      · simp at h;omega
    · omega
theorem getD_bd {l:List Int} (h:∀x∈l,1<=x/\x<=9) (i:Nat):0<=l.getD i 0/\l.getD i 0<=9:=by
  rw [List.getD_eq_getElem?_getD]
  cases hv:l[i]? with
  |none=>simp
  |some v=>have:=h v (List.mem_of_getElem? hv);simp;omega
theorem outerL_len {f g:Int} {l:List Int} (h:∀x∈l,1<=x/\x<=9):∀i:Nat,(outerL f g l i).length<=18*i
  |0=>by simp [outerL]
  | i+1=>by
    have h1:=outerL_len (f:=f) (g:=g) h i
    have h2:=innerL_len f g (i == 0) (l.getD i 0).toNat
    have h3:=getD_bd h i
    unfold outerL
    rw [List.length_append]
    omega
theorem outerL_bd {f g:Int} {l:List Int} (hf:0<=f/\f<=100) (hg:0<=g/\g<=80):∀i:Nat,∀x∈outerL f g l i,0<=x/\x<=100
  |0,x,h=>by simp [outerL] at h
  | i+1,x,h=>by
    unfold outerL at h
    rw [List.mem_append] at h
    rcases h with h|h
    · exact outerL_bd hf hg i x h
    · exact innerL_bd _ hf hg _ x h
noncomputable def timesR (k:Int) (g:List Int) (t:ByteArray):List Int:=
  if k=8 then morL (sgnT t) (sgnT t).size else outerL (flashR k) (gapR k) (grpOr g) (grpOr g).length++(if t=noS then [] else [gapR k,20])
theorem timesR_bd {k:Int} {g:List Int} {t:ByteArray} (h:ShapeOk k g t):(timesR k g t).length<=80/\∀x∈timesR k g t,0<=x/\x<=100:=by
  have hf:=flashR_bd k
  have hg:=gapR_bd k
  unfold timesR
  split
  · rename_i h8
    rcases h.letter with ⟨_,h1⟩|⟨h1,_⟩
    · have h2:=codes_ok _ (sgnT_mem h1)
      have h3:=morL_len (sgnT t) (sgnT t).size
      exact ⟨by omega,morL_bd _ _⟩
    · exact absurd h8 h1
  · have h1:=grpOr_bd h.grp
    have h2:=outerL_len (f:=flashR k) (g:=gapR k) h1.1 (grpOr g).length
    constructor
    · rw [List.length_append]
      split<;>simp<;>omega
    · intro x hx
      rw [List.mem_append] at hx
      rcases hx with hx|hx
      · exact outerL_bd (by omega) (by omega) _ x hx
      · split at hx
        · simp at hx
        · simp at hx;omega
theorem sum_bd {l:List Int} (h:∀x∈l,0<=x/\x<=100):0<=l.sum/\l.sum<=100*l.length:=by
  induction l with
  |nil=>simp
  | cons a l ih=>
    have h1:=ih λx hx=>h x (by simp [hx])
    have h2:=h a (by simp)
    simp only [List.sum_cons,List.length_cons]
    omega
theorem sumI_bd {l:List Int} (h:∀x∈l,0<=x/\x<=100) (i:Int):0<=sumI l i/\sumI l i<=100*l.length:=by
  have h1:=sum_bd (l:=l.take i.toNat) λx hx=>h x (List.mem_of_mem_take hx)
  have h2:=List.length_take_le i.toNat l
  rw [List.length_take] at h1
  unfold sumI
  omega
def Steady (k:Int) (g:List Int):Prop:=k=1∨(k=6∨k=7)/\g=[]
noncomputable def leastR (k:Int) (g:List Int) (t:ByteArray):Int:=if Steady k g then 0 else if k=3 then 20 else (timesR k g t).sum+restR k+(if 1<g.length then 20 else 0)
theorem leastR_bd {k:Int} {g:List Int} {t:ByteArray} (h:ShapeOk k g t):0<=leastR k g t/\leastR k g t<=10000:=by
  have h1:=timesR_bd h
  have h2:=sum_bd h1.2
  have h3:=restR_bd k
  unfold leastR
  repeat' split<;>omega
def ChrOk (k:Int) (g:List Int) (t c:ByteArray) (p:Int):Prop:=ColOk c/\ShapeOk k g t/\(Steady k g->p=0)/\(¬Steady k g->leastR k g t<=p/\p<=600/\(k=3->p % 2=0))
theorem tmod2 (p:Int):p.tmod 2=0↔p % 2=0:=by
  rw [←Int.dvd_iff_tmod_eq_zero,Int.dvd_iff_emod_eq_zero]
theorem size1 {s:ByteArray} (h:s.size=1):s=⟨#[s.data.getD 0 0]⟩:=by
  cases s with|mk d=>
    have:d.size=1:=h
    congr 1
    apply Array.ext
    · simpa using this
    · intro i h1 h2
      have:i=0:=by simp at h2;omega
      subst this
      simp [Array.getD,h1]
theorem isCol_iff {s:ByteArray} (h:s.size=1):isCol s↔0<=Lib.indexByte cAll.data.toList (s.data.getD 0 0):=by
  rw [size1 h]
  generalize s.data.getD 0 0=b
  have:∀n:Fin 256,(decide ((⟨#[n.1.toUInt8]⟩:ByteArray).data.toList=[87]) || decide ((⟨#[n.1.toUInt8]⟩:ByteArray).data.toList=[82]) || decide ((⟨#[n.1.toUInt8]⟩:ByteArray).data.toList=[71]) || decide ((⟨#[n.1.toUInt8]⟩:ByteArray).data.toList=[89]))=decide (0<=Lib.indexByte cAll.data.toList n.1.toUInt8):=by decide +kernel
  have h2:=this ⟨b.toNat,b.toNat_lt⟩
  have hb:b.toNat.toUInt8=b:=by simp
  simp only [hb] at h2
  have e:∀(x y:UInt8),((⟨#[x]⟩:ByteArray)=⟨#[y]⟩)↔((⟨#[x]⟩:ByteArray).data.toList=[y]):=λx y=>by simp
  unfold isCol cW cR cG cY
  rw [e,e,e,e]
  show _↔0<=Lib.indexByte cAll.data.toList b
  rw [←decide_eq_true_iff (p:=0<=Lib.indexByte cAll.data.toList b),←h2]
  simp only [Bool.or_eq_true,decide_eq_true_iff]
  constructor
  · rintro (h|h|h|h)<;>simp [h]
  · rintro (((h|h)|h)|h)<;>simp [h]
theorem isCol_size {s:ByteArray} (h:isCol s):s.size=1:=by
  rcases h with rfl|rfl|rfl|rfl<;>rfl
end Go.Proofs.YtpfddoikhmbebaaGreatDoor
/- Sines, bearings: plain. -/
namespace Go.Proofs.YtpfddoikhmbebaaGreatDoor
open Go Go.RowKit Classical
set_option maxRecDepth 100000
set_option maxHeartbeats 2000000
set_option linter.unusedVariables false
set_option linter.unusedSimpArgs false
def sinT:List Int:=[0,17452,34899,52336,69756,87156,104528,121869,139173,156434,173648,190809,207912,224951,241922,258819,275637,292372,309017,325568,342020,358368,374607,390731,406737,422618,438371,453990,469472,484810,500000,515038,529919,544639,559193,573576,587785,601815,615661,629320,642788,656059,669131,681998,694658,707107,719340,731354,743145,754710,766044,777146,788011,798636,809017,819152,829038,838671,848048,857167,866025,874620,882948,891007,898794,906308,913545,920505,927184,933580,939693,945519,951057,956305,961262,965926,970296,974370,978148,981627,984808,987688,990268,992546,994522,996195,997564,998630,999391,999848,1000000]
def sinQ (d:Int):Int:=sinT.getD d.toNat 0
def sinH (d:Int):Int:=if 90<d then sinQ (180 - d) else sinQ d
def sinR (d:Int):Int:=if 180<=d % 360 then -(sinH (d % 360 - 180)) else sinH (d % 360)
def cosR (d:Int):Int:=sinR (d % 360+90)
theorem angR (d:Int):(d.tmod 360+360).tmod 360=d % 360:=by
  rcases Int.le_total 0 d with h|h
  · rw [Int.tmod_eq_emod_of_nonneg h,Int.tmod_eq_emod_of_nonneg (by omega)];omega
  · have h1:=Int.neg_tmod (a:= -d) (b:=360)
    rw [Int.neg_neg] at h1
    rw [h1,Int.tmod_eq_emod_of_nonneg (by omega:0<= -d),Int.tmod_eq_emod_of_nonneg (by omega)]
    omega
theorem tmod_bd (d:Int): -360<d.tmod 360/\d.tmod 360<360:=by
  rcases Int.le_total 0 d with h|h
  · rw [Int.tmod_eq_emod_of_nonneg h];omega
  · have h1:=Int.neg_tmod (a:= -d) (b:=360)
    rw [Int.neg_neg] at h1
    rw [h1,Int.tmod_eq_emod_of_nonneg (by omega:0<= -d)];omega
def vecR (x y x' y' d:Int):Int:=(x' - x)*sinR d+(y' - y)*cosR d
def argm (f:Int->Int):Nat->Int
  |0=>0
  |n+1=>if f (argm f n)<f (n+1:Nat) then (n+1:Nat) else argm f n
def beaR (x y x' y':Int):Int:=argm (vecR x y x' y') 359
end Go.Proofs.YtpfddoikhmbebaaGreatDoor
/- Logarithms: the steps, and that they rise. -/
namespace Go.Proofs.YtpfddoikhmbebaaGreatDoor
open Go Go.RowKit Classical
set_option maxRecDepth 100000
set_option maxHeartbeats 2000000
set_option linter.unusedVariables false
set_option linter.unusedSimpArgs false
def ilog (n:Int):Int:=if n<10 then 0 else if n<100 then 1 else if n<1000 then 2 else if n<10000 then 3 else if n<100000 then 4 else if n<1000000 then 5 else if n<10000000 then 6 else if n<100000000 then 7 else 8
def p10 (k:Int):Int:=if k<=0 then 1 else if k<=1 then 10 else if k<=2 then 100 else if k<=3 then 1000 else if k<=4 then 10000 else if k<=5 then 100000 else if k<=6 then 1000000 else if k<=7 then 10000000 else 100000000
theorem ilog_cases {n:Int} (h:1<=n/\n<=100000000):(ilog n=0/\n<10)∨(ilog n=1/\10<=n/\n<100)∨(ilog n=2/\100<=n/\n<1000)∨(ilog n=3/\1000<=n/\n<10000)∨(ilog n=4/\10000<=n/\n<100000)∨(ilog n=5/\100000<=n/\n<1000000)∨(ilog n=6/\1000000<=n/\n<10000000)∨(ilog n=7/\10000000<=n/\n<100000000)∨(ilog n=8/\n=100000000):=by
  unfold ilog;repeat' split<;>omega
theorem p10_pos (k:Int):1<=p10 k:=by unfold p10;repeat' split<;>omega
def sc (n:Int):Int:=n*p10 (8 - ilog n)
theorem sc_bd {n:Int} (h:1<=n/\n<=100000000):100000000<=sc n/\sc n<1000000000:=by
  unfold sc
  rcases ilog_cases h with ⟨e,k⟩|⟨e,k⟩|⟨e,k⟩|⟨e,k⟩|⟨e,k⟩|⟨e,k⟩|⟨e,k⟩|⟨e,k⟩|⟨e,k⟩<;>rw [e]<;>simp [p10]<;>omega
def LexLe (a b:Int×Int):Prop:=a.1<b.1∨a.1=b.1/\a.2<=b.2
theorem sc_mono {n m:Int} (h:1<=n) (hnm:n<=m) (hm:m<=100000000):LexLe (ilog n,sc n) (ilog m,sc m):=by
  have h1:=ilog_cases (n:=n) (by omega)
  have h2:=ilog_cases (n:=m) (by omega)
  by_cases e:ilog n=ilog m
  · refine .inr ⟨e,?_⟩
    show sc n<=sc m
    unfold sc;rw [e]
    exact Int.mul_le_mul_of_nonneg_right hnm (by have:=p10_pos (8 - ilog m);omega)
  · left
    show ilog n<ilog m
    omega
def yd (y x:Int):Int:=y*x / 100000000
def stp (x:Int) (q:Int×Int):Int×Int:=if 1000000000<=yd q.2 x then (q.1+1,yd q.2 x / 10) else (q.1,yd q.2 x)
def itr (x:Int):Nat->Int×Int
  |0=>(0,100000000)
  |n+1=>stp x (itr x n)
def Man (x:Int):Prop:=100000000<=x/\x<1000000000
theorem yd_bd {y x:Int} (hy:Man y) (hx:Man x):100000000<=yd y x/\yd y x<10000000000/\0<=y*x/\y*x<=1000000000000000000:=by
  unfold Man at hx hy
  have h1:100000000*100000000<=y*x:=Int.mul_le_mul hy.1 hx.1 (by omega) (by omega)
  have h2:y*x<=999999999*999999999:=Int.mul_le_mul (by omega) (by omega) (by omega) (by omega)
  unfold yd
  generalize y*x=z at*
  omega
theorem itr_bd {x:Int} (hx:Man x):∀n:Nat,Man (itr x n).2/\0<=(itr x n).1/\(itr x n).1<=n
  |0=>⟨by unfold itr Man;simp,by unfold itr;simp,by unfold itr;simp⟩
  | n+1=>by
    obtain ⟨h1,h2,h3⟩:=itr_bd hx n
    have h4:=yd_bd h1 hx
    show Man (stp x (itr x n)).2/\0<=(stp x (itr x n)).1/\(stp x (itr x n)).1<=(n+1:Nat)
    unfold stp
    split<;>simp only [Man] at*<;>omega
theorem itr_one {x:Int} (hx:Man x):itr x 1=(0,x):=by
  have:yd 100000000 x=x:=by unfold yd;omega
  unfold Man at hx
  show stp x (0,100000000)=_
  unfold stp
  rw [if_neg (by simp only;rw [this];omega),this]
theorem itr_le {x:Int} (hx:Man x):∀n:Nat,(itr x (n+1)).1<=n
  |0=>by rw [itr_one hx];simp
  | n+1=>by
    have:=itr_le hx n
    show (stp x (itr x (n+1))).1<=_
    unfold stp
    split<;>simp only<;>omega
theorem stp_mono {x x':Int} {q q':Int×Int} (hx:Man x) (hx':Man x') (hq:Man q.2) (hq':Man q'.2) (h:x<=x') (hl:LexLe q q'):LexLe (stp x q) (stp x' q'):=by
  obtain ⟨d,y⟩:=q
  obtain ⟨d',y'⟩:=q'
  have b1:=yd_bd hq hx
  have b2:=yd_bd hq' hx'
  simp only at hq hq' b1 b2
  rcases hl with hl|⟨hl,hy⟩
  · simp only at hl
    -- y * x / 10 is below x, and y' * x' is x' at least
    have h1:y*x<=999999999*x:=Int.mul_le_mul_of_nonneg_right (by unfold Man at hq;omega) (by unfold Man at hx;omega)
    have h2:100000000*x'<=y'*x':=Int.mul_le_mul_of_nonneg_right (by unfold Man at hq';omega) (by unfold Man at hx';omega)
    have h3:yd y x / 10<=yd y' x':=by
      unfold yd
      generalize y*x=z at*
      generalize y'*x'=z' at*
      unfold Man at*
      omega
    unfold stp LexLe
    split<;>split<;>simp only at*<;>omega
  · simp only at hl hy
    have h1:y*x<=y'*x':=Int.mul_le_mul hy h (by unfold Man at hx;omega) (by unfold Man at hq';omega)
    have h2:yd y x<=yd y' x':=by unfold yd;generalize y*x=z at *;generalize y'*x'=z' at *;omega
    unfold stp LexLe
    split<;>split<;>simp only at*<;>omega
theorem itr_mono {x x':Int} (hx:Man x) (hx':Man x') (h:x<=x'):∀n:Nat,LexLe (itr x n) (itr x' n)
  |0=> .inr ⟨rfl,by unfold itr;simp⟩
  |n+1=>stp_mono hx hx' (itr_bd hx n).1 (itr_bd hx' n).1 h (itr_mono hx hx' h n)
def lev (q:Int×Int):Int×Int:=(10*q.1+(itr q.2 10).1,(itr q.2 10).2)
theorem lev_bd {q:Int×Int} (h:Man q.2):Man (lev q).2/\10*q.1<=(lev q).1/\(lev q).1<=10*q.1+9:=by
  have h1:=itr_bd h 10
  have h2:(itr q.2 10).1<=9:=itr_le h 9
  unfold lev
  simp only at*
  exact ⟨h1.1,by omega,by omega⟩
theorem lev_mono {q q':Int×Int} (h:Man q.2) (h':Man q'.2) (hl:LexLe q q'):LexLe (lev q) (lev q'):=by
  have b1:=lev_bd h
  have b2:=lev_bd h'
  rcases hl with hl|⟨hl,hy⟩
  · exact .inl (by omega)
  · have h3:=itr_mono h h' hy 10
    unfold lev LexLe at*
    simp only at*
    omega
def tlog (n:Int):Int:=(lev (lev (lev (ilog n,sc n)))).1
theorem tlog_mono {n m:Int} (h:1<=n) (hnm:n<=m) (hm:m<=100000000):tlog n<=tlog m:=by
  have h0:Man (ilog n,sc n).2:=sc_bd (by omega)
  have h0':Man (ilog m,sc m).2:=sc_bd (by omega)
  have h1:=lev_mono (lev_bd (lev_bd h0).1).1 (lev_bd (lev_bd h0').1).1 (lev_mono (lev_bd h0).1 (lev_bd h0').1 (lev_mono h0 h0' (sc_mono h hnm hm)))
  unfold tlog
  rcases h1 with h1|h1<;>omega
def EnO (I v d:Int):Prop:=2*tlog d<=tlog I+6699 - 1301*d / v
theorem EnO.mono {I v d e:Int} (hv:1<=v) (hd:1<=d) (hde:d<=e) (he:e<=100000000) (h:EnO I v e):EnO I v d:=by
  have h1:=tlog_mono hd hde he
  have h2:1301*d / v<=1301*e / v:=Int.ediv_le_ediv (by omega) (by omega)
  unfold EnO at*
  omega
def IsLum (I v L:Int):Prop:=(0<=L/\L<=100000)/\∀d,1<=d->d<=100000->(EnO I v d↔d<=L)
theorem IsLum.ex (I v:Int) (hv:1<=v):∃L,IsLum I v L:=by
  have : ∀ n:Nat,(n:Int)<=100000->∃L,(0<=L/\L<=(n:Int))/\∀d,1<=d->d<=(n:Int)->(EnO I v d↔d<=L):=by
    intro n
    induction n with
    |zero=>intro _;exact ⟨0,by omega,λd h1 h2=>by omega⟩
    | succ n ih=>
      intro hn
      obtain ⟨L,h1,h2⟩:=ih (by omega)
      by_cases h:EnO I v (n+1:Nat)
      · refine ⟨(n+1:Nat),by omega,λd h3 h4=>⟨λ_=>h4,λ_=>h.mono hv h3 h4 (by omega)⟩⟩
      · refine ⟨L,by omega,λd h3 h4=>?_⟩
        by_cases e:d=(n+1:Nat)
        · subst e
          exact ⟨λk=>absurd k h,λk=>by omega⟩
        · exact h2 d h3 (by omega)
  obtain ⟨L,h1,h2⟩:=this 100000 (by omega)
  exact ⟨L,h1,h2⟩
theorem IsLum.uniq {I v L M:Int} (h:IsLum I v L) (k:IsLum I v M):L=M:=by
  obtain ⟨h1,h2⟩:=h
  obtain ⟨k1,k2⟩:=k
  rcases Int.lt_trichotomy L M with e|e|e
  · have:=(h2 M (by omega) (by omega)).1 ((k2 M (by omega) (by omega)).2 (Int.le_refl _));omega
  · exact e
  · have:=(k2 L (by omega) (by omega)).1 ((h2 L (by omega) (by omega)).2 (Int.le_refl _));omega
noncomputable def lumR (I v:Int):Int:=if h:1<=v then (IsLum.ex I v h).choose else 0
noncomputable def horR (h:Int):Int:=rootI (1483790*h)
noncomputable def rngR (I h e v:Int):Int:=min (lumR I v) (horR h+horR e)
end Go.Proofs.YtpfddoikhmbebaaGreatDoor
/- Aids: what makes them valid, lit, seen: plain. -/
namespace Go.Proofs.YtpfddoikhmbebaaGreatDoor
open Go Go.RowKit Classical
set_option maxRecDepth 100000
set_option maxHeartbeats 2000000
set_option linter.unusedVariables false
set_option linter.unusedSimpArgs false
def mcols:List ByteArray:=["", "R", "G", "BY", "BYB", "YB", "YBY", "BRB", "RW", "Y"].map String.toUTF8
def mtops:List ByteArray:=["", "can", "cone", "up", "base", "down", "point", "balls", "ball", "cross"].map String.toUTF8
def mtexts:List ByteArray:=["", "can pillar spar", "cone pillar spar", "pillar spar", "pillar spar", "pillar spar", "pillar spar", "pillar spar", "sphere pillar spar", "can cone pillar spar sphere"].map String.toUTF8
def mshapes (k:Int):List ByteArray:=(if k=1 then ["can", "pillar", "spar"] else if k=2 then ["cone", "pillar", "spar"] else if k=8 then ["sphere", "pillar", "spar"] else if k=9 then ["can", "cone", "pillar", "spar", "sphere"] else ["pillar", "spar"]).map String.toUTF8
def MarkOk (k:Int) (c s t:ByteArray):Prop:=(k=0/\c=noS/\s=noS/\t=noS)∨((1<=k/\k<=9)/\c=pickS k mcols/\s∈mshapes k/\(t=noS∨t=pickS k mtops))
def LitOk (k:Int) (g:List Int) (t c:ByteArray) (p:Int) (l:List Scr) (I:Int):Prop:=ChrOk k g t c p/\(1<=I/\I<=100000000)/\ScsOk l/\(l=[]->c.size=1)/\(l≠[]->colsR l=c)
def UnlitOk (k:Int) (g:List Int) (t c:ByteArray) (p:Int) (l:List Scr) (I:Int):Prop:=(k=0/\g=[]/\t=noS/\c=noS/\p=0)/\l=[]/\I=0
def Aid.lit (v:Aid):Prop:=LitOk v.lKind v.lGroup v.lLetter v.lColors v.lPeriod v.sectors v.intensity
def Aid.unlit (v:Aid):Prop:=UnlitOk v.lKind v.lGroup v.lLetter v.lColors v.lPeriod v.sectors v.intensity
def Aid.ok (v:Aid):Prop:=(1<=v.number/\v.number<=9999)/\NameOk v.name/\PtOk v.atX v.atY/\(0<=v.height/\v.height<=3000)/\MarkOk v.mKind v.mColors v.mShape v.mTop/\(v.lit∨v.unlit)
theorem LitOk.kind {k:Int} {g:List Int} {t c:ByteArray} {p:Int} {l:List Scr} {I:Int} (h:LitOk k g t c p l I):1<=k/\k<=8:=h.1.2.1.kind
noncomputable def Aid.col (v:Aid) (x y:Int):ByteArray:=if v.sectors=[] then v.lColors else colAt v.sectors (beaR v.atX v.atY x y)
def Aid.seen (v:Aid) (x y e s:Int):Prop:=v.lit/\¬(v.atX=x/\v.atY=y)/\distR v.atX v.atY x y<=rngR v.intensity v.height e s/\v.col x y≠noS
def Aid.C (l:List Aid) (j:Nat):Prop:=∃v,l[j]? =some v/\v.ok/\(0<j->∃w,l[j - 1]? =some w/\w.number<v.number)
def AidsOk (l:List Aid):Prop:=(∀j,j<l.length->Aid.C l j)/\l.length<=24
theorem AidsOk.mem {l:List Aid} (h:AidsOk l) {v:Aid} (hv:v∈l):v.ok:=by
  obtain ⟨j,hj⟩:=List.getElem?_of_mem hv
  obtain ⟨v',h1,h2,_⟩:=h.1 j (List.getElem?_eq_some_iff.1 hj).1
  rw [hj] at h1;cases h1;exact h2
theorem AidsOk.inc {l:List Aid} (h:AidsOk l) {i:Nat} {s:Aid} (hs:l[i]? =some s):∀(k:Nat) u,i<k->l[k]? =some u->s.number<u.number
  |0,_,hik,_=>absurd hik (by omega)
  | k+1,u,hik,hu=>by
    obtain ⟨u',h1,_,h3⟩:=h.1 (k+1) (List.getElem?_eq_some_iff.1 hu).1
    rw [hu] at h1;cases h1
    obtain ⟨p,h4,h5⟩:=h3 (by omega)
    rw [Nat.add_sub_cancel] at h4
    by_cases e:i=k
    · subst e;rw [hs] at h4;cases h4;exact h5
    · have:=AidsOk.inc h hs k p (by omega) h4;omega
theorem mk9 {p:Int->Prop} (h1:p 1) (h2:p 2) (h3:p 3) (h4:p 4) (h5:p 5) (h6:p 6) (h7:p 7) (h8:p 8) (h9:p 9) {k:Int} (h:1<=k/\k<=9):p k:=by
  have:k=1∨k=2∨k=3∨k=4∨k=5∨k=6∨k=7∨k=8∨k=9:=by omega
  rcases this with rfl|rfl|rfl|rfl|rfl|rfl|rfl|rfl|rfl<;>assumption
theorem shapes_fields {k:Int} (h:1<=k/\k<=9):fieldsOf (pickS k mtexts)=mshapes k:=by
  refine mk9 (p:=λk=>fieldsOf (pickS k mtexts)=mshapes k) ?_ ?_ ?_ ?_ ?_ ?_ ?_ ?_ ?_ h<;>decide +kernel
theorem mtexts_ok {k:Int} (h:1<=k/\k<=9):(pickS k mtexts).size<4294967281/\(∀b∈(pickS k mtexts).data.toList,b.toNat<128)/\(mshapes k).length<=5/\∀x∈mshapes k,x.size<=6:=by
  refine mk9 (p:=λk=>(pickS k mtexts).size<4294967281/\(∀b∈(pickS k mtexts).data.toList,b.toNat<128)/\(mshapes k).length<=5/\∀x∈mshapes k,x.size<=6) ?_ ?_ ?_ ?_ ?_ ?_ ?_ ?_ ?_ h<;>decide +kernel
end Go.Proofs.YtpfddoikhmbebaaGreatDoor
