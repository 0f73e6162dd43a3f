/- Plain laws: aids are put into a list, replaced and dropped; Contracts: aids of their own; Contracts: an aid is put in, replaced, dropped. -/
import Derived.Test.YtpfddoikhmbebaaGreatDoorFC
import Derived.Test.YtpfddoikhmbebaaGreatDoorQc
import Derived.Test.YtpfddoikhmbebaaGreatDoorQf
namespace Go.Proofs.YtpfddoikhmbebaaGreatDoor
set_option linter.unusedVariables false
set_option linter.unusedSimpArgs false
open Go Go.RowKit Classical
theorem aidsOk_pw {l:List Aid} (h:AidsOk l):l.Pairwise λa b=>a.number<b.number:=
  List.pairwise_iff_getElem.2 λi j hi hj hij=>h.inc (List.getElem?_eq_getElem hi) j _ hij (List.getElem?_eq_getElem hj)
theorem aidsOk_of {l:List Aid} (h1:∀v∈l,v.ok) (h2:l.Pairwise λa b=>a.number<b.number) (h3:l.length<=24):AidsOk l:=
  ⟨λj hj=>⟨l[j],List.getElem?_eq_getElem hj,h1 _ (List.getElem_mem hj),λh0=>⟨l[j - 1],List.getElem?_eq_getElem (by omega),List.pairwise_iff_getElem.1 h2 (j - 1) j (by omega) hj (by omega)⟩⟩,h3⟩
def posN (l:List Aid) (n:Int):Nat:=(l.takeWhile λa=>decide (a.number<n)).length
theorem posN_le (l:List Aid) (n:Int):posN l n<=l.length:=(List.takeWhile_prefix _).length_le
theorem tw_len {α:Type} {p:α->Bool}:∀{l:List α} {k:Nat},(∀j,j<k->∃v,l[j]? =some v/\p v=true)->(k=l.length∨∃v,l[k]? =some v/\p v=false)->(l.takeWhile p).length=k
  | [],k,h,h2=>by
    rcases h2 with h2|⟨v,h2,_⟩
    · rw [h2];rfl
    · simp at h2
  | x ::l,0,h,h2=>by
    rcases h2 with h2|⟨v,h2,h3⟩
    · simp at h2
    · simp at h2;subst h2
      simp [List.takeWhile,h3]
  | x::l,k+1,h,h2=>by
    obtain ⟨v,h3,h4⟩:=h 0 (by omega)
    simp at h3;subst h3
    rw [List.takeWhile_cons_of_pos h4,List.length_cons,tw_len (k:=k) (λj hj=>by have:=h (j+1) (by omega);simpa using this) (by simpa using h2)]
theorem posN_of {l:List Aid} {n i:Int} (h0:0<=i) (h:Up (λj=>∃v,l[j]? =some v/\v.number<n) i) (h2:i=l.length∨∃v,l[i.toNat]? =some v/\¬v.number<n):(posN l n:Int)=i:=by
  have:=tw_len (p:=λa:Aid=>decide (a.number<n)) (l:=l) (k:=i.toNat) (λj hj=>by obtain ⟨v,h1,h2⟩:=h j (by omega);exact ⟨v,h1,by simpa using h2⟩) (by
    rcases h2 with h2|⟨v,h2,h3⟩
    · exact .inl (by omega)
    · exact .inr ⟨v,h2,by simpa using h3⟩)
  unfold posN;omega
theorem tw_get {α:Type} {p:α->Bool}:∀{l:List α} {j:Nat} {v:α},j<(l.takeWhile p).length->l[j]? =some v->p v=true
  |[],j,v,h,_=>by simp at h
  | x ::l,j,v,h,hv=>by
    by_cases hx:p x=true
    · rw [List.takeWhile_cons_of_pos hx,List.length_cons] at h
      cases j with
      |zero=>simp at hv;subst hv;exact hx
      |succ j=>exact tw_get (l:=l) (j:=j) (by omega) (by simpa using hv)
    · rw [List.takeWhile_cons_of_neg hx] at h;simp at h
theorem tw_end {α:Type} {p:α->Bool}:∀{l:List α} {v:α},l[(l.takeWhile p).length]? =some v->p v=false
  |[],v,hv=>by simp at hv
  | x ::l,v,hv=>by
    by_cases hx:p x=true
    · rw [List.takeWhile_cons_of_pos hx,List.length_cons,List.getElem?_cons_succ] at hv
      exact tw_end hv
    · rw [List.takeWhile_cons_of_neg hx] at hv
      simp at hv;subst hv;simpa using hx
theorem posN_lt {l:List Aid} {n:Int} {j:Nat} {v:Aid} (hj:j<posN l n) (hv:l[j]? =some v):v.number<n:=by
  simpa using tw_get (p:=λa:Aid=>decide (a.number<n)) hj hv
theorem posN_ge {l:List Aid} {n:Int} {v:Aid} (hv:l[posN l n]? =some v):¬v.number<n:=by
  have:=tw_end (p:=λa:Aid=>decide (a.number<n)) hv
  simpa using this
def hasN (l:List Aid) (n:Int):Prop:=∃v,l[posN l n]? =some v/\v.number=n
theorem find_hit {l:List Aid} (hpw:l.Pairwise λa b=>a.number<b.number) {n:Int} {i:Nat} {v:Aid} (hv:l[i]? =some v) (hn:v.number=n):posN l n=i:=by
  refine tw_len (p:=λa:Aid=>decide (a.number<n)) (λj hj=>?_) (.inr ⟨v,hv,by simp;omega⟩)
  have hi:=(List.getElem?_eq_some_iff.1 hv).1
  refine ⟨l[j],List.getElem?_eq_getElem (by omega),?_⟩
  have:=List.pairwise_iff_getElem.1 hpw j i (by omega) hi hj
  rw [(List.getElem?_eq_some_iff.1 hv).2] at this
  simp;omega
theorem hasN_of {l:List Aid} (hpw:l.Pairwise λa b=>a.number<b.number) {n:Int} {i:Nat} {v:Aid} (hv:l[i]? =some v) (hn:v.number=n):hasN l n:=⟨v,by rw [find_hit hpw hv hn];exact hv,hn⟩
noncomputable section
def putR (l:List Aid) (a:Aid):List Aid×Int:=if hasN l a.number then ([],4) else if l.length=24 then ([],5) else (l.take (posN l a.number)++a::l.drop (posN l a.number),0)
def replR (l:List Aid) (a:Aid):List Aid×Int:=if hasN l a.number then (l.set (posN l a.number) a,0) else ([],3)
def dropR (l:List Aid) (n:Int):List Aid×Int:=if hasN l n then (l.take (posN l n)++l.drop (posN l n+1),0) else ([],3)
end
theorem drop_gt {l:List Aid} (hpw:l.Pairwise λa b=>a.number<b.number) {n:Int} (hn:¬hasN l n) {v:Aid} (hv:v∈l.drop (posN l n)):n<v.number:=by
  obtain ⟨j,hj⟩:=List.getElem?_of_mem hv
  rw [List.getElem?_drop] at hj
  obtain ⟨hl,he⟩:=List.getElem?_eq_some_iff.1 hj
  have h0:posN l n<l.length:=by omega
  have hg:=posN_ge (List.getElem?_eq_getElem h0)
  have hne:l[posN l n].number≠n:=λh=>hn ⟨_,List.getElem?_eq_getElem h0,h⟩
  by_cases e:j=0
  · subst e
    simp only [Nat.add_zero] at he
    subst he;omega
  · have:=List.pairwise_iff_getElem.1 hpw (posN l n) (posN l n+j) h0 hl (by omega)
    rw [he] at this;omega
theorem take_lt {l:List Aid} {n:Int} {v:Aid} (hv:v∈l.take (posN l n)):v.number<n:=by
  obtain ⟨j,hj⟩:=List.getElem?_of_mem hv
  rw [List.getElem?_take] at hj
  split at hj
  · exact posN_lt (by assumption) hj
  · cases hj
theorem putR_ok {l:List Aid} {a:Aid} (h:AidsOk l) (ha:a.ok) (h0:(putR l a).2=0):AidsOk (putR l a).1:=by
  have hpw:=aidsOk_pw h
  have hl:=h.2
  unfold putR at h0 ⊢
  split at h0<;>rename_i h1
  · exact absurd h0 (by decide)
  rw [if_neg h1]
  split at h0<;>rename_i h2
  · exact absurd h0 (by decide)
  rw [if_neg h2]
  have e:=List.take_append_drop (posN l a.number) l
  have hpw2:=hpw
  rw [←e] at hpw2
  obtain ⟨p1,p2,p3⟩:=List.pairwise_append.1 hpw2
  refine aidsOk_of (λv hv=>?_) (List.pairwise_append.2 ⟨p1,List.pairwise_cons.2 ⟨λv hv=>drop_gt hpw h1 hv,p2⟩,λu hu v hv=>?_⟩) ?_
  · rcases List.mem_append.1 hv with hv|hv
    · exact h.mem (List.mem_of_mem_take hv)
    · rcases List.mem_cons.1 hv with rfl|hv
      · exact ha
      · exact h.mem (List.mem_of_mem_drop hv)
  · have:=take_lt hu
    rcases List.mem_cons.1 hv with rfl|hv
    · exact this
    · have:=drop_gt hpw h1 hv;omega
  · have:=congrArg List.length e
    simp only [List.length_append,List.length_cons] at this ⊢
    omega
theorem replR_ok {l:List Aid} {a:Aid} (h:AidsOk l) (ha:a.ok) (h0:(replR l a).2=0):AidsOk (replR l a).1:=by
  unfold replR at h0 ⊢
  split at h0<;>rename_i h1
  · rw [if_pos h1]
    obtain ⟨v,hv,hn⟩:=h1
    have hm:(l.set (posN l a.number) a).map Aid.number=l.map Aid.number:=by
      rw [List.map_set,←hn]
      refine List.ext_getElem? λj=>?_
      rw [List.getElem?_set]
      split
      · rename_i e
        subst e
        rw [hn,List.getElem?_map,hv]
        simp only [hn,Option.map_some,List.length_map,(List.getElem?_eq_some_iff.1 hv).1,if_true]
      · rfl
    refine aidsOk_of (λu hu=>?_) ?_ (by rw [List.length_set];exact h.2)
    · rcases List.mem_or_eq_of_mem_set hu with hu|rfl
      · exact h.mem hu
      · exact ha
    · have:=List.pairwise_map.2 (aidsOk_pw h)
      rw [←hm] at this
      exact List.pairwise_map.1 this
  · exact absurd h0 (by decide)
theorem dropR_ok {l:List Aid} {n:Int} (h:AidsOk l) (h0:(dropR l n).2=0):AidsOk (dropR l n).1:=by
  unfold dropR at h0 ⊢
  split at h0<;>rename_i h1
  · rw [if_pos h1]
    have hs:(l.take (posN l n)++l.drop (posN l n+1)).Sublist l:=by
      rw [←List.eraseIdx_eq_take_drop_succ];exact List.eraseIdx_sublist _ _
    exact aidsOk_of (λv hv=>h.mem (hs.subset hv)) ((aidsOk_pw h).sublist hs) (Nat.le_trans hs.length_le h.2)
  · exact absurd h0 (by decide)
theorem take_put {α:Type} {R:α->List AV} {l:List α} {i:Int} {v:α} (h0:0<=i) (hv:l[i.toNat]? =some v) (n:Int) (hn:n=i+1):(l.take i.toNat++[v]).map R=(l.take n.toNat).map R:=by
  rw [show n.toNat=i.toNat+1 by omega,List.take_add_one,hv];rfl
set_option maxRecDepth 100000
set_option maxHeartbeats 2000000
theorem int_nown (l:List Int):∀e∈l.map intR,∀c∈e,c.isOwn=false:=λe he c hc=>by
  obtain ⟨x,_,rfl⟩:=List.mem_map.1 he
  simp only [intR,List.mem_singleton] at hc
  subst hc;rfl
theorem scr_nown (l:List Scr):∀e∈l.map Scr.cs,∀c∈e,c.isOwn=false:=λe he c hc=>by
  obtain ⟨x,_,rfl⟩:=List.mem_map.1 he
  simp only [Scr.cs,List.mem_cons,List.not_mem_nil,or_false] at hc
  rcases hc with rfl|rfl|rfl<;>rfl
def Aid.short (v:Aid):Prop:=v.lGroup.length<=1000/\v.sectors.length<=1000
theorem Aid.ok_short {v:Aid} (h:v.ok):v.short:=by
  rcases h.2.2.2.2.2 with h|h
  · obtain ⟨h1,_,h2,_⟩:=h
    refine ⟨?_,by have:=h2.2.1;omega⟩
    rcases h1.2.1 with ⟨_,g,_⟩|⟨_,_,g⟩|⟨_,⟨_,g|⟨x,g,_⟩⟩|⟨_,g⟩⟩|⟨_,_,g⟩
    · rw [g];simp
    · have:=g.2.1;omega
    · rw [g];simp
    · rw [g];simp
    · rw [g];simp
    · rw [g];simp
  · obtain ⟨⟨_,g,_⟩,g2,_⟩:=h
    exact ⟨by rw [g];simp,by rw [g2];simp⟩
theorem cloneInt_ {rs:List (List AV)} {t:Bool} {l:List Int} (hl:rs=l.map intR) (hb0:l.length<=1048576):AC Tryz.prog 291 [.sl t 1 rs] (λl:List Int=> .sl true 1 (l.map intR)) l:=by
  refine ac Tryz.func291 (.ints _) λE K hE hK=>?_
  conv=>cbv
  refine lenL hE hl λn hn hb=>?_
  conv=>cbv
  refine makeI hE (by omega) λes hes=>?_
  conv=>cbv
  refine noownI hE (by rw [hl];exact int_nown l) ?_
  conv=>cbv
  refine catL hE (l:=[]) (R:=intR) (by rw [hes];rfl) hl (by simp;omega) λes2 hes2=>?_
  conv=>cbv
  exact hK _ (by rw [hes2];rfl)
theorem cloneScr_ {rs:List (List AV)} {t:Bool} {l:List Scr} (hl:rs=l.map Scr.cs) (hb0:l.length<=1048576):AC Tryz.prog 292 [.sl t 3 rs] (λl:List Scr=> .sl true 3 (l.map Scr.cs)) l:=by
  refine ac Tryz.func292 (.rows .oScr) λE K hE hK=>?_
  conv=>cbv
  refine lenL hE hl λn hn hb=>?_
  conv=>cbv
  refine makeI hE (by omega) λes hes=>?_
  conv=>cbv
  refine noownI hE (by rw [hl];exact scr_nown l) ?_
  conv=>cbv
  refine catL hE (l:=[]) (R:=Scr.cs) (by rw [hes];rfl) hl (by simp;omega) λes2 hes2=>?_
  conv=>cbv
  exact hK _ (by rw [hes2];rfl)
theorem l00Own_ {rs:List (List AV)} {t:Bool} {l:List Int} (hl:rs=l.map intR) (hb0:l.length<=1048576):AC Tryz.prog 321 [.sl t 1 rs] (λl:List Int=> .sl true 1 (l.map intR)) l:=by
  refine ac Tryz.func321 (.ints _) λE K hE hK=>?_
  conv=>cbv
  refine noownI hE (by rw [hl];exact int_nown l) ?_
  conv=>cbv
  refine catL hE (l:=[]) (R:=intR) rfl hl (by simp;omega) λes2 hes2=>?_
  conv=>cbv
  exact hK _ (by rw [hes2];rfl)
theorem copyAid_ (number:Int) (name:ByteArray) (atX atY height mKind:Int) (mColors mShape mTop:ByteArray) (lKind:Int) (lLetter lColors:ByteArray) (lPeriod intensity:Int) {r_lGroup r_sectors:List (List AV)} {t_lGroup t_sectors:Bool} {lGroup:List Int} {sectors:List Scr} (h_lGroup:r_lGroup=lGroup.map intR) (h_sectors:r_sectors=sectors.map Scr.cs) (hsh:lGroup.length<=1000/\sectors.length<=1000):AC Tryz.prog 249 [.agg [.int .i64 number,.str name,.int .i64 atX,.int .i64 atY,.int .i64 height,.int .i64 mKind,.str mColors,.str mShape,.str mTop,.int .i64 lKind,.sl t_lGroup 1 r_lGroup,.str lLetter,.str lColors,.int .i64 lPeriod,.sl t_sectors 3 r_sectors,.int .i64 intensity]] (λv:Aid=> .agg (v.cs true)) (Aid.mk number name atX atY height mKind mColors mShape mTop lKind lGroup lLetter lColors lPeriod sectors intensity):=by
  refine ac Tryz.func249 (.oAid _) λE K hE hK=>?_
  conv=>cbv
  repeat' first
    |((first
   |refine needI hE ?_ ?_
   |refine q0 hE ?_
   |refine callR hE (cloneInt_ h_lGroup (by omega)) (λ_ _=>?_)
   |refine callR hE (cloneScr_ h_sectors (by omega)) (λ_ _=>?_)
   |refine B0 hE ?_|refine B1 hE ?_ ?_|refine B2 hE ?_)<;>intros<;>(try conv=>cbv))
  all_goals first
    |(refine hK _ ?_;subst_vars;rfl)
theorem l05Own_ (kind:Int) (letter colors:ByteArray) (period:Int) {r_group:List (List AV)} {t_group:Bool} {group:List Int} (h_group:r_group=group.map intR) (hsh:group.length<=1000):AC Tryz.prog 272 [.pp [.int .i64 kind,.sl t_group 1 r_group,.str letter,.str colors,.int .i64 period]] (λv:Chr=> .agg (v.cs true)) (Chr.mk kind group letter colors period):=by
  refine ac Tryz.func272 (.oChr _) λE K hE hK=>?_
  conv=>cbv
  repeat' first
    |((first
   |refine q0 hE ?_
   |refine callR hE (l00Own_ h_group (by omega)) (λ_ _=>?_)
   |refine B0 hE ?_|refine B1 hE ?_ ?_|refine B2 hE ?_)<;>intros<;>(try conv=>cbv))
  all_goals first
    |(refine hK _ ?_;subst_vars;rfl)
theorem l12Own_ (number:Int) (name:ByteArray) (atX atY height mKind:Int) (mColors mShape mTop:ByteArray) (lKind:Int) (lLetter lColors:ByteArray) (lPeriod intensity:Int) {r_lGroup r_sectors:List (List AV)} {t_lGroup t_sectors:Bool} {lGroup:List Int} {sectors:List Scr} (h_lGroup:r_lGroup=lGroup.map intR) (h_sectors:r_sectors=sectors.map Scr.cs) (hsh:lGroup.length<=1000/\sectors.length<=1000):AC Tryz.prog 222 [.pp [.int .i64 number,.str name,.int .i64 atX,.int .i64 atY,.int .i64 height,.int .i64 mKind,.str mColors,.str mShape,.str mTop,.int .i64 lKind,.sl t_lGroup 1 r_lGroup,.str lLetter,.str lColors,.int .i64 lPeriod,.sl t_sectors 3 r_sectors,.int .i64 intensity]] (λv:Aid=> .agg (v.cs true)) (Aid.mk number name atX atY height mKind mColors mShape mTop lKind lGroup lLetter lColors lPeriod sectors intensity):=by
  refine ac Tryz.func222 (.oAid _) λE K hE hK=>?_
  conv=>cbv
  repeat' first
    |((first
   |refine callChr hE (AC.tl1 (l05Own_ _ _ _ _ h_lGroup hsh.1)) (λrg hrg=>?_)
   |(refine noownI hE (by rw [h_sectors];exact scr_nown sectors) ?_)
   |(refine catL hE (l:=[]) (R:=Scr.cs) rfl h_sectors (by simp;omega) (λes2 hes2=>?_))
   |refine q0 hE ?_
   |refine B0 hE ?_|refine B1 hE ?_ ?_|refine B2 hE ?_)<;>intros<;>(try conv=>cbv))
  all_goals first
    |(refine hK _ ?_;subst_vars;rfl)
theorem copyAids_ {rs:List (List AV)} {t b:Bool} {l:List Aid} (hl:rs=l.map (Aid.cs b)) (hsh:∀v∈l,v.short) (hb0:l.length<=1000):AC Tryz.prog 195 [.sl t 16 rs] (λl:List Aid=> .sl true 16 (l.map (Aid.cs true))) l:=by
  refine ac Tryz.func195 (.rows .oAid) λE K hE hK=>?_
  conv=>cbv
  refine lenL hE hl λn hn hb=>?_
  conv=>cbv
  refine add64 hE (by omega) λn2 hn2=>?_
  conv=>cbv
  refine makeI hE (by omega) λes0 hes0=>?_
  conv=>cbv
  refine lenL hE hl λn3 hn3 hb3=>?_
  conv=>cbv
  refine loop2 hE [10,11] [12,3] (λ(i:Int) (es:List (List AV))=>([(12,.int .i64 i),(3,.ob 0)],[.row 16 es],l.length - i,(0<=i/\i<=l.length)/\es=(l.take i.toNat).map (Aid.cs true))) [0] ((0,_)) rfl rfl (by dsimp only;exact ⟨by omega,by rw [hes0];rfl⟩) λi es hi Kn hN=>?_
  (try dsimp only at hi)
  conv=>cbv
  obtain ⟨⟨h0,h1⟩,h2⟩:=hi
  repeat' first
    |(refine hN (_,_) _ [0] (by decide) rfl ⟨?_,?_⟩ ?_<;>(try dsimp only))
    |(refine hN (_,_) _ [1] (by decide) rfl ⟨?_,?_⟩ ?_<;>(try dsimp only))
    |(refine hN (_,_) _ [2] (by decide) rfl ⟨?_,?_⟩ ?_<;>(try dsimp only))
    |(refine hN (_,_) _ [3] (by decide) rfl ⟨?_,?_⟩ ?_<;>(try dsimp only))
    |(refine hN (_,_) _ [4] (by decide) rfl ⟨?_,?_⟩ ?_<;>(try dsimp only))
    |(refine hN (_,_) _ [5] (by decide) rfl ⟨?_,?_⟩ ?_<;>(try dsimp only))
    |(refine hN (_,_) _ [6] (by decide) rfl ⟨?_,?_⟩ ?_<;>(try dsimp only))
    |((first
   |(refine idxAid hE hl (by omega) (λnumber name atX atY height mKind mColors mShape mTop lKind lGroup lLetter lColors lPeriod sectors intensity rg rx hv hg hx=>?_);have hvs:=hsh _ (List.mem_of_getElem? hv);have hst:=take_put (R:=Aid.cs true) h0 hv)
   |refine callAid hE (copyAid_ _ _ _ _ _ _ _ _ _ _ _ _ _ _ hg hx hvs) (λrg2 rx2 hg2 hx2=>?_)
   |(refine catP hE (R:=Aid.cs true) (v:=(⟨number,name,atX,atY,height,mKind,mColors,mShape,mTop,lKind,lGroup,lLetter,lColors,lPeriod,sectors,intensity⟩:Aid)) h2 (by rw [hg2,hx2];rfl) (by rw [List.length_take];omega) (λes5 hes5=>?_))
   |refine q0 hE ?_
   |refine B0 hE ?_|refine B1 hE ?_ ?_|refine B2 hE ?_)<;>intros<;>(try conv=>cbv))
  all_goals (try clear hN)
  all_goals first
    |omega
    |(rw [hes5];exact hst _ (by assumption))
    |(refine hK _ ?_;rw [h2,List.take_of_length_le (by omega)];rfl)
theorem l12OwnAll_ {rs:List (List AV)} {t b:Bool} {l:List Aid} (hl:rs=l.map (Aid.cs b)) (hsh:∀v∈l,v.short) (hb0:l.length<=1000):AC Tryz.prog 163 [.sl t 16 rs] (λl:List Aid=> .sl true 16 (l.map (Aid.cs true))) l:=by
  refine ac Tryz.func163 (.rows .oAid) λE K hE hK=>?_
  conv=>cbv
  refine loop2 hE [0] [4,3] (λ(i:Int) (es:List (List AV))=>([(4,.int .i64 i),(3,.ob 0)],[.row 16 es],l.length - i,(0<=i/\i<=l.length)/\es=(l.take i.toNat).map (Aid.cs true))) [0] ((0,[])) rfl rfl (by dsimp only;exact ⟨by omega,rfl⟩) λi es hi Kn hN=>?_
  (try dsimp only at hi)
  conv=>cbv
  obtain ⟨⟨h0,h1⟩,h2⟩:=hi
  repeat' first
    |(refine hN (_,_) _ [0] (by decide) rfl ⟨?_,?_⟩ ?_<;>(try dsimp only))
    |(refine hN (_,_) _ [1] (by decide) rfl ⟨?_,?_⟩ ?_<;>(try dsimp only))
    |(refine hN (_,_) _ [2] (by decide) rfl ⟨?_,?_⟩ ?_<;>(try dsimp only))
    |(refine hN (_,_) _ [3] (by decide) rfl ⟨?_,?_⟩ ?_<;>(try dsimp only))
    |(refine hN (_,_) _ [4] (by decide) rfl ⟨?_,?_⟩ ?_<;>(try dsimp only))
    |(refine hN (_,_) _ [5] (by decide) rfl ⟨?_,?_⟩ ?_<;>(try dsimp only))
    |(refine hN (_,_) _ [6] (by decide) rfl ⟨?_,?_⟩ ?_<;>(try dsimp only))
    |((first
   |refine lenL hE hl (λn hn _=>?_)
   |(refine idxAid hE hl (by omega) (λnumber name atX atY height mKind mColors mShape mTop lKind lGroup lLetter lColors lPeriod sectors intensity rg rx hv hg hx=>?_);have hvs:=hsh _ (List.mem_of_getElem? hv);have hst:=take_put (R:=Aid.cs true) h0 hv)
   |refine callAid hE (l12Own_ _ _ _ _ _ _ _ _ _ _ _ _ _ _ hg hx hvs) (λrg2 rx2 hg2 hx2=>?_)
   |(refine catP hE (R:=Aid.cs true) (v:=(⟨number,name,atX,atY,height,mKind,mColors,mShape,mTop,lKind,lGroup,lLetter,lColors,lPeriod,sectors,intensity⟩:Aid)) h2 (by rw [hg2,hx2];rfl) (by rw [List.length_take];omega) (λes5 hes5=>?_))
   |refine q0 hE ?_
   |refine B0 hE ?_|refine B1 hE ?_ ?_|refine B2 hE ?_)<;>intros<;>(try conv=>cbv))
  all_goals (try clear hN)
  all_goals first
    |omega
    |(rw [hes5];exact hst _ (by assumption))
    |(refine hK _ ?_;rw [h2,List.take_of_length_le (by omega)];rfl)
set_option maxHeartbeats 4000000
def idxB2 (p:Int×Bool):AV:= .tup [.int .i64 p.1,.bool p.2]
theorem NoB.idxB2 (p:Int×Bool):NoB (idxB2 p):= .tupC (.int _ _) (.tupC (.bool _) .tup0)
def aidsI (p:List Aid×Int):AV:= .tup [.sl true 16 (p.1.map (Aid.cs true)),.int .i64 p.2]
theorem NoB.aidsI (p:List Aid×Int):NoB (aidsI p):= .tupC (.rows .oAid) (.tupC (.int _ _) .tup0)
theorem posN_end {l:List Aid} {n i:Int} (h0:0<=i) (h:Up (λj=>∃v,l[j]? =some v/\v.number<n) i) (hi:(l.length:Int)<=i) (h1:i<=l.length):(posN l n:Int)=i/\¬hasN l n:=by
  have e:=posN_of h0 h (.inl (by omega))
  exact ⟨e,λ⟨v,hv,_⟩=>by have:=(List.getElem?_eq_some_iff.1 hv).1;omega⟩
theorem posN_at {l:List Aid} {n i:Int} {v:Aid} (h0:0<=i) (h:Up (λj=>∃v,l[j]? =some v/\v.number<n) i) (hv:l[i.toNat]? =some v) (h1:¬v.number<n):(posN l n:Int)=i/\(hasN l n↔v.number=n):=by
  have e:=posN_of h0 h (.inr ⟨v,hv,h1⟩)
  refine ⟨e,λ⟨u,hu,hn⟩=>?_,λhn=>⟨v,by rw [show posN l n=i.toNat by omega];exact hv,hn⟩⟩
  rw [show posN l n=i.toNat by omega,hv] at hu
  cases hu;exact hn
theorem aidOfN_ {rs:List (List AV)} {t b:Bool} {l:List Aid} (n:Int) (hl:rs=l.map (Aid.cs b)) (h24:l.length<=1000):AC Tryz.prog 293 [.sl t 16 rs,.int .i64 n] idxB2 ((posN l n:Int),bP (hasN l n)):=by
  refine ac Tryz.func293 (.idxB2 _) λE K hE hK=>?_
  conv=>cbv
  refine loop1 hE [0,1] [6] (λ(i:Int)=>([(6,.int .i64 i)],[],l.length - i,(0<=i/\i<=l.length)/\Up (λj=>∃v,l[j]? =some v/\v.number<n) i)) [] (0) rfl rfl (by dsimp only;exact ⟨by omega,.zero (by omega)⟩) λi hi Kn hN=>?_
  (try dsimp only at hi)
  conv=>cbv
  obtain ⟨⟨h0,h1⟩,hinv⟩:=hi
  repeat' first
    |(refine hN _ _ [] (by decide) rfl ⟨?_,?_⟩ ?_<;>(try dsimp only))
    |((first
   |refine lenL hE hl (λm hm _=>?_)
   |refine idxAidV hE hl (by omega) hw hg hx ?_
   |refine idxAid hE hl (by omega) (λnumber name atX atY height mKind mColors mShape mTop lKind lGroup lLetter lColors lPeriod sectors intensity rg rx hw hg hx=>?_)
   |refine q0 hE ?_
   |refine B0 hE ?_|refine B1 hE ?_ ?_|refine B2 hE ?_)<;>intros<;>(try conv=>cbv))
  all_goals (try clear hN)
  all_goals first
    |omega
    |exact hinv.succ ⟨_,hw,by assumption⟩ (by assumption)
    | (by_cases hq:(l.length:Int)<=i
       · obtain ⟨e1,e2⟩:=posN_end h0 hinv hq h1;refine hK _ ?_;rw [e1,bP_false.2 e2];rfl
       · exfalso;omega)
    |(obtain ⟨e1,e2⟩:=posN_at h0 hinv hw (by simp only;omega);simp only at e2;refine hK _ ?_;rw [e1];by_cases e3:number=n<;>first|contradiction|(rw [bP_true.2 (e2.2 e3)];rfl)|(rw [bP_false.2 (λh=>e3 (e2.1 h))];rfl))
theorem callN {E:Env} {np:Nat} {P:Program} (hE:E=stdE np P) {f:FuncId} {args:List AV} {l:List Aid} {n:Int} {K:AV->Prop} (h:AC P f args idxB2 ((posN l n:Int),bP (hasN l n))) (h1:∀a:Int,a=posN l n->hasN l n->K (.tup [.int .i64 a,.bool true])) (h2:∀a:Int,a=posN l n->¬hasN l n->K (.tup [.int .i64 a,.bool false])):E.call f args K:=
  callI hE h λy hy=>by
    subst hy
    by_cases hn:hasN l n
    · show K (.tup [.int .i64 _,.bool (bP (hasN l n))])
      rw [bP_true.2 hn];exact h1 _ rfl hn
    · show K (.tup [.int .i64 _,.bool (bP (hasN l n))])
      rw [bP_false.2 hn];exact h2 _ rfl hn
theorem addAid_ (number:Int) (name:ByteArray) (atX atY height mKind:Int) (mColors mShape mTop:ByteArray) (lKind:Int) (lLetter lColors:ByteArray) (lPeriod intensity:Int) {r_lGroup r_sectors:List (List AV)} {t_lGroup t_sectors:Bool} {lGroup:List Int} {sectors:List Scr} (h_lGroup:r_lGroup=lGroup.map intR) (h_sectors:r_sectors=sectors.map Scr.cs) {rs:List (List AV)} {t b:Bool} {l:List Aid} (hl:rs=l.map (Aid.cs b)) (hok:AidsOk l) (ha:Aid.ok (Aid.mk number name atX atY height mKind mColors mShape mTop lKind lGroup lLetter lColors lPeriod sectors intensity)):AC Tryz.prog 252 [.sl t 16 rs,.agg [.int .i64 number,.str name,.int .i64 atX,.int .i64 atY,.int .i64 height,.int .i64 mKind,.str mColors,.str mShape,.str mTop,.int .i64 lKind,.sl t_lGroup 1 r_lGroup,.str lLetter,.str lColors,.int .i64 lPeriod,.sl t_sectors 3 r_sectors,.int .i64 intensity]] aidsI (putR l (Aid.mk number name atX atY height mKind mColors mShape mTop lKind lGroup lLetter lColors lPeriod sectors intensity)):=by
  refine ac Tryz.func252 (.aidsI _) λE K hE hK=>?_
  conv=>cbv
  have h24:=hok.2
  have hpl:=posN_le l number
  have hsh:=Aid.ok_short ha
  repeat' first
    |((first
   |refine callPT hE (validAids_ hl) hok ?_
   |refine callPT hE (validAid_ _ _ _ _ _ _ _ _ _ _ _ _ _ _ h_lGroup h_sectors) ha ?_
   |refine callN hE (aidOfN_ number hl (by omega)) (λa ha1 hf=>?_) (λa ha1 hf=>?_)
   |refine lenL hE hl (λm hm _=>?_)
   |refine callR hE (copyAids_ hl (λv hv=>Aid.ok_short (hok.mem hv)) (by omega)) (λrs2 hrs2=>?_)
   |refine callAid hE (copyAid_ _ _ _ _ _ _ _ _ _ _ _ _ _ _ h_lGroup h_sectors hsh) (λrg2 rx2 hg2 hx2=>?_)
   |(refine callMI hE (insA_ (Aid.mk number name atX atY height mKind mColors mShape mTop lKind lGroup lLetter lColors lPeriod sectors intensity) a hrs2 (by rw [hg2,hx2];rfl) (by omega) (by omega)) ?_;rintro r ys ⟨rs3,h3,rfl,rfl⟩)
   |refine needI hE ?_ ?_
   |refine q0 hE ?_
   |refine nilOwnI hE 16 ?_
   |refine B0 hE ?_|refine B1 hE ?_ ?_|refine B2 hE ?_)<;>intros<;>(try conv=>cbv))
  all_goals first
    |(refine hK _ ?_;rw [putR,if_pos hf];rfl)
    |(refine hK _ ?_;rw [putR,if_neg hf,if_pos (by omega)];rfl)
    |(refine hK _ ?_;rw [putR,if_neg hf,if_neg (by omega),h3,show a.toNat=posN l number by omega];rfl)
theorem dropAid_ {rs:List (List AV)} {t b:Bool} {l:List Aid} (n:Int) (hl:rs=l.map (Aid.cs b)) (hok:AidsOk l):AC Tryz.prog 254 [.sl t 16 rs,.int .i64 n] aidsI (dropR l n):=by
  refine ac Tryz.func254 (.aidsI _) λE K hE hK=>?_
  conv=>cbv
  have h24:=hok.2
  repeat' first
    |((first
   |refine callPT hE (validAids_ hl) hok ?_
   |refine callN hE (aidOfN_ n hl (by omega)) (λa ha1 hf=>?_) (λa ha1 hf=>?_)
   |(refine callR hE (copyAids_ hl (λv hv=>Aid.ok_short (hok.mem hv)) (by omega)) (λrs2 hrs2=>?_);(have hal:a+1<=l.length:=by obtain ⟨v,hv,_⟩:=hf;have:=(List.getElem?_eq_some_iff.1 hv).1;omega))
   |refine add64 hE (a:=a) (by omega) (λa1 ha2=>?_)
   |(refine callMI hE (delAid_ a a1 hrs2 (by omega) (by omega)) ?_;rintro r ys ⟨rs3,h3,rfl,rfl⟩)
   |refine needI hE ?_ ?_
   |refine q0 hE ?_
   |refine nilOwnI hE 16 ?_
   |refine B0 hE ?_|refine B1 hE ?_ ?_|refine B2 hE ?_)<;>intros<;>(try conv=>cbv))
  all_goals first
    |(refine hK _ ?_;rw [dropR,if_neg hf];rfl)
    |(refine hK _ ?_;rw [dropR,if_pos hf,h3,show a.toNat=posN l n by omega,show a1.toNat=posN l n+1 by omega];rfl)
theorem replaceAid_ (number:Int) (name:ByteArray) (atX atY height mKind:Int) (mColors mShape mTop:ByteArray) (lKind:Int) (lLetter lColors:ByteArray) (lPeriod intensity:Int) {r_lGroup r_sectors:List (List AV)} {t_lGroup t_sectors:Bool} {lGroup:List Int} {sectors:List Scr} (h_lGroup:r_lGroup=lGroup.map intR) (h_sectors:r_sectors=sectors.map Scr.cs) {rs:List (List AV)} {t b:Bool} {l:List Aid} (hl:rs=l.map (Aid.cs b)) (hok:AidsOk l) (ha:Aid.ok (Aid.mk number name atX atY height mKind mColors mShape mTop lKind lGroup lLetter lColors lPeriod sectors intensity)):AC Tryz.prog 253 [.sl t 16 rs,.agg [.int .i64 number,.str name,.int .i64 atX,.int .i64 atY,.int .i64 height,.int .i64 mKind,.str mColors,.str mShape,.str mTop,.int .i64 lKind,.sl t_lGroup 1 r_lGroup,.str lLetter,.str lColors,.int .i64 lPeriod,.sl t_sectors 3 r_sectors,.int .i64 intensity]] aidsI (replR l (Aid.mk number name atX atY height mKind mColors mShape mTop lKind lGroup lLetter lColors lPeriod sectors intensity)):=by
  refine ac Tryz.func253 (.aidsI _) λE K hE hK=>?_
  conv=>cbv
  have h24:=hok.2
  have hsh:=Aid.ok_short ha
  repeat' first
    |((first
   |refine callPT hE (validAids_ hl) hok ?_
   |refine callPT hE (validAid_ _ _ _ _ _ _ _ _ _ _ _ _ _ _ h_lGroup h_sectors) ha ?_
   |refine callN hE (aidOfN_ number hl (by omega)) (λa ha1 hf=>?_) (λa ha1 hf=>?_)
   |refine callR hE (copyAids_ hl (λv hv=>Aid.ok_short (hok.mem hv)) (by omega)) (λrs2 hrs2=>?_)
   |(refine callAid hE (copyAid_ _ _ _ _ _ _ _ _ _ _ _ _ _ _ h_lGroup h_sectors hsh) (λrg2 rx2 hg2 hx2=>?_);(obtain ⟨v0,hv0,hv1⟩:=hf);(have hva:l[a.toNat]? =some v0:=by rw [show a.toNat=posN l number by omega];exact hv0))
   |refine idxV (R:=Aid.cs true) (i:=a) hE hrs2 (by omega) hva ?_
   |(refine updL hE (R:=Aid.cs true) (v:=v0) (Aid.mk number name atX atY height mKind mColors mShape mTop lKind lGroup lLetter lColors lPeriod sectors intensity) hrs2 (by omega) (by rw [show a.toNat=posN l number by omega];exact hv0) (by exact Nat.le_of_ble_eq_true rfl) (by rw [hg2,hx2];rfl) (λes2 hes2=>?_))
   |refine q0 hE ?_
   |refine nilOwnI hE 16 ?_
   |refine B0 hE ?_|refine B1 hE ?_ ?_|refine B2 hE ?_)<;>intros<;>(try conv=>cbv))
  all_goals first
    |(refine hK _ ?_;rw [replR,if_neg hf];rfl)
    |(refine hK _ ?_;rw [replR,if_pos ⟨v0,hv0,hv1⟩,hes2,show a.toNat=posN l number by omega];rfl)
noncomputable def findR (l:List Aid) (n:Int):Int:=if hasN l n then posN l n else -1
theorem l12Find_ {rs:List (List AV)} {t b:Bool} {l:List Aid} (n:Int) (hl:rs=l.map (Aid.cs b)) (hpw:l.Pairwise λa b=>a.number<b.number) (h24:l.length<=1000):AC Tryz.prog 174 [.sl t 16 rs,.int .i64 n] (AV.int .i64) (findR l n):=by
  refine ac Tryz.func174 (.int _ _) λE K hE hK=>?_
  conv=>cbv
  refine loop1 hE [0,1] [5] (λ(i:Int)=>([(5,.int .i64 i)],[],l.length - i,(0<=i/\i<=l.length)/\Up (λj=>∀v,l[j]? =some v->¬v.number=n) i)) [] (0) rfl rfl (by dsimp only;exact ⟨by omega,.zero (by omega)⟩) λi hi Kn hN=>?_
  (try dsimp only at hi)
  conv=>cbv
  obtain ⟨⟨h0,h1⟩,hinv⟩:=hi
  repeat' first
    |(refine hN _ _ [] (by decide) rfl ⟨?_,?_⟩ ?_<;>(try dsimp only))
    |((first
   |refine lenL hE hl (λm hm _=>?_)
   |refine idxAid hE hl (by omega) (λnumber name atX atY height mKind mColors mShape mTop lKind lGroup lLetter lColors lPeriod sectors intensity rg rx hw hg hx=>?_)
   |refine q0 hE ?_
   |refine B0 hE ?_|refine B1 hE ?_ ?_|refine B2 hE ?_)<;>intros<;>(try conv=>cbv))
  all_goals (try clear hN)
  all_goals first
    |omega
    |(refine hinv.succ (λv hv=>?_) (by assumption);rw [hw] at hv;cases hv;assumption)
    |(refine hK _ ?_;rw [findR,if_pos (hasN_of hpw hw (by assumption)),find_hit hpw hw (by assumption)];show AV.int _ _=AV.int _ _;congr 1;omega)
    |(refine hK _ ?_;rw [findR,if_neg (λ⟨v,hv,hn⟩=>hinv _ (by have:=(List.getElem?_eq_some_iff.1 hv).1;omega) v hv hn)];rfl)
theorem put_no {l:List Aid} {n i:Int} (h0:0<=i) (h1:i<=l.length) (h:Up (λj=>∃v,l[j]? =some v/\v.number<n) i) (h2:∀v,l[i.toNat]? =some v->n<v.number):¬hasN l n/\posN l n=i.toNat:=by
  by_cases hi:(l.length:Int)<=i
  · obtain ⟨e1,e2⟩:=posN_end h0 h hi h1
    exact ⟨e2,by omega⟩
  · obtain ⟨v,hv⟩:∃v,l[i.toNat]? =some v:=⟨_,List.getElem?_eq_getElem (by omega)⟩
    have h3:=h2 v hv
    obtain ⟨e1,e2⟩:=posN_at h0 h hv (by omega)
    exact ⟨λhn=>by have:=e2.1 hn;omega,by omega⟩
theorem l12Put_ (number:Int) (name:ByteArray) (atX atY height mKind:Int) (mColors mShape mTop:ByteArray) (lKind:Int) (lLetter lColors:ByteArray) (lPeriod intensity:Int) {r_lGroup r_sectors:List (List AV)} {t_lGroup t_sectors:Bool} {lGroup:List Int} {sectors:List Scr} (h_lGroup:r_lGroup=lGroup.map intR) (h_sectors:r_sectors=sectors.map Scr.cs) {rs:List (List AV)} {t b:Bool} {l:List Aid} (hl:rs=l.map (Aid.cs b)) (hok:AidsOk l) (ha:Aid.ok (Aid.mk number name atX atY height mKind mColors mShape mTop lKind lGroup lLetter lColors lPeriod sectors intensity)):AC Tryz.prog 223 [.sl t 16 rs,.pp [.int .i64 number,.str name,.int .i64 atX,.int .i64 atY,.int .i64 height,.int .i64 mKind,.str mColors,.str mShape,.str mTop,.int .i64 lKind,.sl t_lGroup 1 r_lGroup,.str lLetter,.str lColors,.int .i64 lPeriod,.sl t_sectors 3 r_sectors,.int .i64 intensity]] aidsI (putR l (Aid.mk number name atX atY height mKind mColors mShape mTop lKind lGroup lLetter lColors lPeriod sectors intensity)):=by
  refine ac Tryz.func223 (.aidsI _) λE K hE hK=>?_
  conv=>cbv
  have h24:=hok.2
  have hsh:=Aid.ok_short ha
  refine loop1 hE [0,1] [6] (λ(i:Int)=>([(6,.int .i64 i)],[],l.length - i,(0<=i/\i<=l.length)/\Up (λj=>∃v,l[j]? =some v/\v.number<number) i)) [] (0) rfl rfl (by dsimp only;exact ⟨by omega,.zero (by omega)⟩) λi hi Kn hN=>?_
  (try dsimp only at hi)
  conv=>cbv
  obtain ⟨⟨h0,h1⟩,hinv⟩:=hi
  have hsh1:∀v∈l.take i.toNat,v.short:=λv hv=>Aid.ok_short (hok.mem (List.mem_of_mem_take hv))
  have hsh2:∀v∈l.drop i.toNat,v.short:=λv hv=>Aid.ok_short (hok.mem (List.mem_of_mem_drop hv))
  have hl1:(l.take i.toNat).length<=1000:=by rw [List.length_take];omega
  have hl2:(l.drop i.toNat).length<=1000:=by rw [List.length_drop];omega
  repeat' first
    |(refine hN _ _ [] (by decide) rfl ⟨?_,?_⟩ ?_<;>(try dsimp only))
    |((first
   |refine lenL hE hl (λm hm _=>?_)
   |refine idxAidV hE hl (by omega) hw hg hx ?_
   |refine idxAid hE hl (by omega) (λnumber2 name2 atX2 atY2 height2 mKind2 mColors2 mShape2 mTop2 lKind2 lGroup2 lLetter2 lColors2 lPeriod2 sectors2 intensity2 rg rx hw hg hx=>?_)
   |refine callR hE (l12OwnAll_ hs1 hsh1 hl1) (λrs2 hrs2=>?_)
   |refine callR hE (l12OwnAll_ hs2 hsh2 hl2) (λrs4 hrs4=>?_)
   |(refine subL hE hl (lo:=none) (by simp only [Option.getD_some,Option.getD_none];omega) (λr1 hs1'=>?_);(have hs1:r1=(l.take i.toNat).map (Aid.cs b):=by rw [hs1'];simp))
   |(refine subL hE hl (hi:=none) (by simp only [Option.getD_some,Option.getD_none];omega) (λr2 hs2'=>?_);(have hs2:r2=(l.drop i.toNat).map (Aid.cs b):=by rw [hs2'];simp))
   |refine callAid hE (l12Own_ _ _ _ _ _ _ _ _ _ _ _ _ _ _ h_lGroup h_sectors hsh) (λrg2 rx2 hg2 hx2=>?_)
   |(refine catP hE (R:=Aid.cs true) (v:=(Aid.mk number name atX atY height mKind mColors mShape mTop lKind lGroup lLetter lColors lPeriod sectors intensity)) hrs2 (by rw [hg2,hx2];rfl) (by rw [List.length_take];omega) (λrs3 hrs3=>?_))
   |(refine catL hE (R:=Aid.cs true) hrs3 hrs4 (by simp only [List.length_append,List.length_take,List.length_drop,List.length_cons,List.length_nil];omega) (λrs5 hrs5=>?_))
   |refine q0 hE ?_
   |refine nilOwnI hE 16 ?_
   |refine B0 hE ?_|refine B1 hE ?_ ?_|refine B2 hE ?_)<;>intros<;>(try conv=>cbv))
  all_goals (try clear hN)
  all_goals first
    |omega
    |exact hinv.succ ⟨_,hw,by assumption⟩ (by assumption)
    |(refine hK _ ?_;obtain ⟨e1,e2⟩:=posN_at h0 hinv hw (by simp only;omega);rw [putR,if_pos (e2.2 (by simp only;omega))];rfl)
    |(refine hK _ ?_;rw [putR,if_neg (put_no h0 h1 hinv (λv hv=>by rw [hw] at hv;cases hv;simp only;omega)).1,if_pos (by omega)];rfl)
    |(refine hK _ ?_;rw [putR,if_neg (put_no h0 h1 hinv (λv hv=>by have:=(List.getElem?_eq_some_iff.1 hv).1;omega)).1,if_pos (by omega)];rfl)
    |(refine hK _ ?_;have hno:=put_no h0 h1 hinv (n:=number) (λv hv=>by rw [hw] at hv;cases hv;simp only;omega);rw [putR,if_neg hno.1,if_neg (by omega),hrs5,hno.2,List.append_assoc];rfl)
    |(refine hK _ ?_;have hno:=put_no h0 h1 hinv (n:=number) (λv hv=>by have:=(List.getElem?_eq_some_iff.1 hv).1;omega);rw [putR,if_neg hno.1,if_neg (by omega),hrs5,hno.2,List.append_assoc];rfl)
theorem l12Drop_ {rs:List (List AV)} {t b:Bool} {l:List Aid} (n:Int) (hl:rs=l.map (Aid.cs b)) (hok:AidsOk l):AC Tryz.prog 225 [.sl t 16 rs,.int .i64 n] aidsI (dropR l n):=by
  refine ac Tryz.func225 (.aidsI _) λE K hE hK=>?_
  conv=>cbv
  have h24:=hok.2
  refine callI hE (l12Find_ n hl (aidsOk_pw hok) (by omega)) λi hi=>?_
  conv=>cbv
  by_cases hf:hasN l n
  · rw [findR,if_pos hf] at hi
    have hal:i+1<=l.length:=by
      obtain ⟨v,hv,_⟩:=hf
      have:=(List.getElem?_eq_some_iff.1 hv).1;omega
    have hsh1:∀v∈l.take i.toNat,v.short:=λv hv=>Aid.ok_short (hok.mem (List.mem_of_mem_take hv))
    have hsh2:∀v∈l.drop (i+1).toNat,v.short:=λv hv=>Aid.ok_short (hok.mem (List.mem_of_mem_drop hv))
    have hl1:(l.take i.toNat).length<=1000:=by rw [List.length_take];omega
    have hl2:(l.drop (i+1).toNat).length<=1000:=by rw [List.length_drop];omega
    repeat' first
      |((first
     |refine callR hE (l12OwnAll_ hs1 hsh1 hl1) (λrs2 hrs2=>?_)
     |refine callR hE (l12OwnAll_ hs2 hsh2 hl2) (λrs4 hrs4=>?_)
     |refine add64 hE (a:=i) (by omega) (λi1 hi1=>?_)
     |(refine subL hE hl (lo:=none) (by simp only [Option.getD_some,Option.getD_none];omega) (λr1 hs1'=>?_);(have hs1:r1=(l.take i.toNat).map (Aid.cs b):=by rw [hs1'];simp))
     |(refine subL hE hl (hi:=none) (by simp only [Option.getD_some,Option.getD_none];omega) (λr2 hs2'=>?_);(have hs2:r2=(l.drop (i+1).toNat).map (Aid.cs b):=by rw [hs2',hi1];simp))
     |(refine catL hE (R:=Aid.cs true) hrs2 hrs4 (by simp only [List.length_append,List.length_take,List.length_drop,List.length_cons,List.length_nil];omega) (λrs5 hrs5=>?_))
     |refine q0 hE ?_
     |refine B0 hE ?_|refine B1 hE ?_ ?_|refine B2 hE ?_)<;>intros<;>(try conv=>cbv))
    all_goals first
      |(exfalso;omega)
      |(refine hK _ ?_;rw [dropR,if_pos hf,hrs5,show i.toNat=posN l n by omega,show (i+1).toNat=posN l n+1 by omega];rfl)
  · rw [findR,if_neg hf] at hi
    repeat' first
      |((first
     |refine q0 hE ?_
     |refine nilOwnI hE 16 ?_
     |refine B0 hE ?_|refine B1 hE ?_ ?_|refine B2 hE ?_)<;>intros<;>(try conv=>cbv))
    all_goals first
      |(exfalso;omega)
      |(refine hK _ ?_;rw [dropR,if_neg hf];rfl)
theorem l12Replace_ (number:Int) (name:ByteArray) (atX atY height mKind:Int) (mColors mShape mTop:ByteArray) (lKind:Int) (lLetter lColors:ByteArray) (lPeriod intensity:Int) {r_lGroup r_sectors:List (List AV)} {t_lGroup t_sectors:Bool} {lGroup:List Int} {sectors:List Scr} (h_lGroup:r_lGroup=lGroup.map intR) (h_sectors:r_sectors=sectors.map Scr.cs) {rs:List (List AV)} {t b:Bool} {l:List Aid} (hl:rs=l.map (Aid.cs b)) (hok:AidsOk l) (ha:Aid.ok (Aid.mk number name atX atY height mKind mColors mShape mTop lKind lGroup lLetter lColors lPeriod sectors intensity)):AC Tryz.prog 224 [.sl t 16 rs,.pp [.int .i64 number,.str name,.int .i64 atX,.int .i64 atY,.int .i64 height,.int .i64 mKind,.str mColors,.str mShape,.str mTop,.int .i64 lKind,.sl t_lGroup 1 r_lGroup,.str lLetter,.str lColors,.int .i64 lPeriod,.sl t_sectors 3 r_sectors,.int .i64 intensity]] aidsI (replR l (Aid.mk number name atX atY height mKind mColors mShape mTop lKind lGroup lLetter lColors lPeriod sectors intensity)):=by
  refine ac Tryz.func224 (.aidsI _) λE K hE hK=>?_
  conv=>cbv
  have h24:=hok.2
  have hsh:=Aid.ok_short ha
  refine callI hE (l12Find_ number hl (aidsOk_pw hok) (by omega)) λi hi=>?_
  conv=>cbv
  by_cases hf:hasN l number
  · rw [findR,if_pos hf] at hi
    have hf2:=hf
    obtain ⟨v0,hv0,hv1⟩:=hf
    have hva:l[i.toNat]? =some v0:=by rw [show i.toNat=posN l number by omega];exact hv0
    repeat' first
      |((first
     |refine callR hE (l12OwnAll_ hl (λv hv=>Aid.ok_short (hok.mem hv)) (by omega)) (λrs2 hrs2=>?_)
     |refine idxV (R:=Aid.cs true) (i:=i) hE hrs2 (by omega) hva ?_
     |refine callAid hE (l12Own_ _ _ _ _ _ _ _ _ _ _ _ _ _ _ h_lGroup h_sectors hsh) (λrg2 rx2 hg2 hx2=>?_)
     |(refine updL hE (R:=Aid.cs true) (v:=v0) (Aid.mk number name atX atY height mKind mColors mShape mTop lKind lGroup lLetter lColors lPeriod sectors intensity) hrs2 (by omega) (by rw [show i.toNat=posN l number by omega];exact hv0) (by exact Nat.le_of_ble_eq_true rfl) (by rw [hg2,hx2];rfl) (λes2 hes2=>?_))
     |refine q0 hE ?_
     |refine B0 hE ?_|refine B1 hE ?_ ?_|refine B2 hE ?_)<;>intros<;>(try conv=>cbv))
    all_goals first
      |(exfalso;omega)
      |(refine hK _ ?_;rw [replR,if_pos hf2,hes2,show i.toNat=posN l number by omega];rfl)
  · rw [findR,if_neg hf] at hi
    repeat' first
      |((first
     |refine q0 hE ?_
     |refine nilOwnI hE 16 ?_
     |refine B0 hE ?_|refine B1 hE ?_ ?_|refine B2 hE ?_)<;>intros<;>(try conv=>cbv))
    all_goals first
      |(exfalso;omega)
      |(refine hK _ ?_;rw [replR,if_neg hf];rfl)
end Go.Proofs.YtpfddoikhmbebaaGreatDoor
