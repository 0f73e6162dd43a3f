/- Contracts: dangers that are marked; findings of dangers; the law. -/
import Derived.Test.YtalkhfljcnconaaGreatDoorMda
import Derived.Test.YtalkhfljcnconaaGreatDoorLfe
import Derived.Test.YtalkhfljcnconaaGreatDoorQl
namespace Go.Proofs.YtalkhfljcnconaaGreatDoor
open Go Go.RowKit Classical
set_option maxRecDepth 100000
set_option maxHeartbeats 2000000
set_option linter.unusedVariables false
set_option linter.unusedSimpArgs false
set_option maxHeartbeats 4000000
theorem quadrantOf_ (b:Int) (hb:0<=b/\b<=359):AC Tryz.prog 269 [.int .i64 b] two (quadR b,0):=by
  refine ac Tryz.func269 (by kernel_rfl) (.two _) λE K hE hK=>?_
  conv=>cbv
  repeat' first
    |(refine callPT hE (isBearing_ b) hb ?_;(try conv=>cbv))
    |((first
   |refine q0 hE ?_
   |refine B0 hE ?_|refine B1 hE (λ_=>?_) λ_=>?_|refine B3 hE λ_ _ _=>?_|refine B2 hE λ_ _=>?_|refine B4 hE λ_ _ _ _=>?_)<;>(try conv=>cbv))
  all_goals (refine hK _ ?_;show AV.tup _=AV.tup _;congr 2;unfold quadR;(repeat' split)<;>first|rfl|omega)
theorem l11Quadrant_ (b:Int):AC Tryz.prog 359 [.int .i64 b] (AV.int .i64) (quadR b):=by
  refine ac Tryz.func359 (by kernel_rfl) (.int _ _) λE K hE hK=>?_
  conv=>cbv
  repeat' first
    |((first
   |refine q0 hE ?_
   |refine B0 hE ?_|refine B1 hE (λ_=>?_) λ_=>?_|refine B3 hE λ_ _ _=>?_|refine B2 hE λ_ _=>?_|refine B4 hE λ_ _ _ _=>?_)<;>(try conv=>cbv))
  all_goals (refine hK _ ?_;show AV.int _ _=AV.int _ _;congr 1;unfold quadR;(repeat' split)<;>first|rfl|omega)
theorem sQuadrantOf_ (b:Int) (hb:0<=b/\b<=359):AC Tryz.prog 335 [.int .i64 b] two (quadR b,0):=by
  refine ac Tryz.func335 (by kernel_rfl) (.two _) λE K hE hK=>?_
  conv=>cbv
  repeat' first
    |(refine callPT hE (in_ b _ _) hb ?_;(try conv=>cbv))
    |((first
   |refine q0 hE ?_
   |refine callI hE (l11Quadrant_ _) (λ_ _=>?_)
   |refine B0 hE ?_|refine B1 hE (λ_=>?_) λ_=>?_|refine B3 hE λ_ _ _=>?_|refine B2 hE λ_ _=>?_|refine B4 hE λ_ _ _ _=>?_)<;>(try conv=>cbv))
  all_goals exact hK _ (by subst_vars;rfl)
theorem cardinal_ (n:ByteArray) (x y r x' y':Int) (h:PtOk x y) (k:PtOk x' y'):AC Tryz.prog 226 [.agg [.str n,.int .i64 x,.int .i64 y,.int .i64 r],.agg [.int .i64 x',.int .i64 y']] (AV.int .i64) (quadR (beaR x y x' y')):=by
  refine ac Tryz.func226 (by kernel_rfl) (.int _ _) λE K hE hK=>?_
  conv=>cbv
  have hbb:=beaR_bd x y x' y'
  repeat' first
    |(refine callI hE (bearing_ _ _ _ _ h k) (λb hb2=>?_);rw [←hb2] at hbb;(try conv=>cbv))
    |(refine callII hE (quadrantOf_ b hbb) (λq z hq _=>?_);(try conv=>cbv))
    |((first
   |refine q0 hE ?_
   |refine B0 hE ?_|refine B1 hE (λ_=>?_) λ_=>?_|refine B3 hE λ_ _ _=>?_|refine B2 hE λ_ _=>?_|refine B4 hE λ_ _ _ _=>?_)<;>(try conv=>cbv))
  all_goals exact hK _ (by subst_vars;rfl)
theorem l14Kind_ (n:ByteArray) (x y r x' y':Int) (h:PtOk x y) (k:PtOk x' y'):AC Tryz.prog 306 [.pp [.str n,.int .i64 x,.int .i64 y,.int .i64 r],.agg [.int .i64 x',.int .i64 y']] (AV.int .i64) (quadR (beaR x y x' y')):=by
  refine ac Tryz.func306 (by kernel_rfl) (.int _ _) λE K hE hK=>?_
  conv=>cbv
  have hbb:=beaR_bd x y x' y'
  repeat' first
    |(refine callI hE (l02Bearing_ _ _ _ _ h k) (λb hb2=>?_);rw [←hb2] at hbb;(try conv=>cbv))
    |(refine callII hE (sQuadrantOf_ b hbb) (λq z hq _=>?_);(try conv=>cbv))
    |((first
   |refine q0 hE ?_
   |refine B0 hE ?_|refine B1 hE (λ_=>?_) λ_=>?_|refine B3 hE λ_ _ _=>?_|refine B2 hE λ_ _=>?_|refine B4 hE λ_ _ _ _=>?_)<;>(try conv=>cbv))
  all_goals exact hK _ (by subst_vars;rfl)
theorem marks_ (n:ByteArray) (x y r w:Int) (number:Int) (name:ByteArray) (atX:Int) (atY:Int) (height:Int) (mKind:Int) (mColors:ByteArray) (mShape:ByteArray) (mTop:ByteArray) (lKind:Int) (lLetter:ByteArray) (lColors:ByteArray) (lPeriod:Int) (intensity:Int) {r_lGroup:List (List AV)} {t_lGroup:Bool} {lGroup:List Int} {r_sectors:List (List AV)} {t_sectors:Bool} {sectors:List Scr} (h_lGroup:r_lGroup=lGroup.map intR) (h_sectors:r_sectors=sectors.map Scr.cs) (hd:Dgr.ok ⟨n,x,y,r⟩) (hw:0<=w/\w<=20000) (ha:PtOk atX atY):AC Tryz.prog 166 [.agg [.str n,.int .i64 x,.int .i64 y,.int .i64 r],.agg [.int .i64 number,.str name,.int .i64 atX,.int .i64 atY,.int .i64 height,.int .i64 mKind,.str mColors,.str mShape,.str mTop,.int .i64 lKind,.sl t_lGroup 1 r_lGroup,.str lLetter,.str lColors,.int .i64 lPeriod,.sl t_sectors 3 r_sectors,.int .i64 intensity],.int .i64 w] AV.bool (bP (marksP ⟨n,x,y,r⟩ w (Aid.mk number name atX atY height mKind mColors mShape mTop lKind lGroup lLetter lColors lPeriod sectors intensity))):=by
  refine ac Tryz.func166 (by kernel_rfl) (.bool _) λE K hE hK=>?_
  conv=>cbv
  have hr:=hd.2.2
  have hp:=hd.2.1
  simp only at hr hp
  repeat' first
    |(refine add64 hE (a:=r) (b:=w) (by omega) (λrw2 hrw=>?_);(try conv=>cbv))
    |((first
   |refine q0 hE ?_
   |refine callP hE (within_ _ _ _) (λ_=>?_) (λ_=>?_)
   |refine callI hE (distance_ _ _ _ _) (λ_ _=>?_)
   |refine callI hE (cardinal_ _ _ _ _ _ _ hp ha) (λ_ _=>?_)
   |refine B0 hE ?_|refine B1 hE (λ_=>?_) λ_=>?_|refine B3 hE λ_ _ _=>?_|refine B2 hE λ_ _=>?_|refine B4 hE λ_ _ _ _=>?_)<;>(try conv=>cbv))
  all_goals first
    |(refine finB hK (bP_true.2 ⟨by assumption,by simp only;omega,by simp only;omega⟩))
    |(refine finB hK (bP_false.2 λh=>?_);obtain ⟨h1,h2,h3⟩:=h;simp only at h1 h2 h3;omega)
    |trace_state
theorem l14Marks_ (n:ByteArray) (x y r w:Int) (number:Int) (name:ByteArray) (atX:Int) (atY:Int) (height:Int) (mKind:Int) (mColors:ByteArray) (mShape:ByteArray) (mTop:ByteArray) (lKind:Int) (lLetter:ByteArray) (lColors:ByteArray) (lPeriod:Int) (intensity:Int) {r_lGroup:List (List AV)} {t_lGroup:Bool} {lGroup:List Int} {r_sectors:List (List AV)} {t_sectors:Bool} {sectors:List Scr} (h_lGroup:r_lGroup=lGroup.map intR) (h_sectors:r_sectors=sectors.map Scr.cs) (hd:Dgr.ok ⟨n,x,y,r⟩) (hw:0<=w/\w<=20000) (ha:PtOk atX atY):AC Tryz.prog 265 [.pp [.str n,.int .i64 x,.int .i64 y,.int .i64 r],.pp [.int .i64 number,.str name,.int .i64 atX,.int .i64 atY,.int .i64 height,.int .i64 mKind,.str mColors,.str mShape,.str mTop,.int .i64 lKind,.sl t_lGroup 1 r_lGroup,.str lLetter,.str lColors,.int .i64 lPeriod,.sl t_sectors 3 r_sectors,.int .i64 intensity],.int .i64 w] AV.bool (bP (marksP ⟨n,x,y,r⟩ w (Aid.mk number name atX atY height mKind mColors mShape mTop lKind lGroup lLetter lColors lPeriod sectors intensity))):=by
  refine ac Tryz.func265 (by kernel_rfl) (.bool _) λE K hE hK=>?_
  conv=>cbv
  have hr:=hd.2.2
  have hp:=hd.2.1
  simp only at hr hp
  repeat' first
    |(refine aeqI hE (λhq=>?_) (λhq=>?_)<;>(try conv=>cbv))
    |(refine add64 hE (a:=r) (b:=w) (by omega) (λrw2 hrw=>?_);(try conv=>cbv))
    |((first
   |refine q0 hE ?_
   |refine callP hE (in_ _ _ _) (λ_=>?_) (λ_=>?_)
   |refine callI hE (l02Apart_ _ _ _ _ hp ha) (λ_ _=>?_)
   |refine callI hE (l14Kind_ _ _ _ _ _ _ hp ha) (λ_ _=>?_)
   |refine B0 hE ?_|refine B1 hE (λ_=>?_) λ_=>?_|refine B3 hE λ_ _ _=>?_|refine B2 hE λ_ _=>?_|refine B4 hE λ_ _ _ _=>?_)<;>(try conv=>cbv))
  all_goals first
    |(refine finB hK (bP_true.2 ⟨by assumption,by simp only;omega,by simp only;omega⟩))
    |(refine finB hK (bP_false.2 λh=>marksP_at hd h ⟨hq.1,hq.2.1⟩))
    |(refine finB hK (bP_false.2 λh=>?_);obtain ⟨h1,h2,h3⟩:=h;simp only at h1 h2 h3;omega)
    |trace_state
theorem indexAidM3_ {rs:List (List AV)} {t b:Bool} {l:List Aid} {g:FuncId} {c0:List AV} {c1:List AV} {c2:List AV} {p:Aid->Prop} (hl:rs=l.map (Aid.cs b)) (hp:∀(number:Int) (name:ByteArray) (atX:Int) (atY:Int) (height:Int) (mKind:Int) (mColors:ByteArray) (mShape:ByteArray) (mTop:ByteArray) (lKind:Int) (lLetter:ByteArray) (lColors:ByteArray) (lPeriod:Int) (intensity:Int) {r_lGroup:List (List AV)} {t_lGroup:Bool} {lGroup:List Int} {r_sectors:List (List AV)} {t_sectors:Bool} {sectors:List Scr} (h_lGroup:r_lGroup=lGroup.map intR) (h_sectors:r_sectors=sectors.map Scr.cs) (hm:(Aid.mk number name atX atY height mKind mColors mShape mTop lKind lGroup lLetter lColors lPeriod sectors intensity)∈l),AC Tryz.prog g (.agg [.int .i64 number,.str name,.int .i64 atX,.int .i64 atY,.int .i64 height,.int .i64 mKind,.str mColors,.str mShape,.str mTop,.int .i64 lKind,.sl t_lGroup 1 r_lGroup,.str lLetter,.str lColors,.int .i64 lPeriod,.sl t_sectors 3 r_sectors,.int .i64 intensity]::[.pp c0,.pp c1,.pp c2]) AV.bool (bP (p (Aid.mk number name atX atY height mKind mColors mShape mTop lKind lGroup lLetter lColors lPeriod sectors intensity)))):AC Tryz.prog 224 [.sl t 16 rs,.fn g [.pp c0,.pp c1,.pp c2]] (AV.int .i64) (firstI p l):=by
  refine ac Tryz.func224 (by kernel_rfl) (.int _ _) λE K hE hK=>?_
  conv=>cbv
  refine lenL hE hl λn hn hb=>?_
  conv=>cbv
  refine loopC hE (ι:=Int) [0,1,7] [8] (λq=>(λ(i:Int)=>[(8,.int .i64 i)]) q) (λq=>(λ(i:Int)=>[]) q) (λq=>(λ(i:Int)=>(l.length - i).toNat) q) (λq=>(λ(i:Int)=>0<=i/\Up (λj=>∀v,l[j]?=some v->¬p v) i) q) [] (by decide) (0) (by conv=>lhs;cbv) (by conv=>lhs;cbv) rfl rfl (by dsimp only;exact ⟨by omega,.zero (by omega)⟩) λi hi Kn hN=>?_
  (try dsimp only at hi)
  conv=>cbv
  obtain ⟨h0,hinv⟩:=hi
  repeat' first
    |(refine idxAid hE hl (by omega) (λnumber name atX atY height mKind mColors mShape mTop lKind lGroup lLetter lColors lPeriod sectors intensity r_lGroup r_sectors hv h_lGroup h_sectors=>?_);(try conv=>cbv))
    |(refine hN _ _ [] (by decide) rfl ⟨?_,?_⟩ ?_<;>(try dsimp only))
    |((first
   |refine q0 hE ?_
   |refine callP hE (hp _ _ _ _ _ _ _ _ _ _ _ _ _ _ (by assumption) (by assumption) (List.mem_of_getElem? hv)) (λ_=>?_) (λ_=>?_)
   |refine B0 hE ?_|refine B1 hE (λ_=>?_) λ_=>?_|refine B3 hE λ_ _ _=>?_|refine B2 hE λ_ _=>?_|refine B4 hE λ_ _ _ _=>?_)<;>(try conv=>cbv))
  all_goals (try clear hN)
  all_goals first
    |omega
    |(refine hK _ ?_;rw [firstI_in h0 hv (by assumption) hinv];rfl)
    |(refine hinv.succ (λv hw=>?_) (by assumption);rw [hv] at hw;cases hw;assumption)
    |(refine hK _ ?_;rw [firstI_out (by omega) hinv];rfl)
    |trace_state
theorem containsAidM3_ {rs:List (List AV)} {t b:Bool} {l:List Aid} {g:FuncId} {c0:List AV} {c1:List AV} {c2:List AV} {p:Aid->Prop} (hl:rs=l.map (Aid.cs b)) (hp:∀(number:Int) (name:ByteArray) (atX:Int) (atY:Int) (height:Int) (mKind:Int) (mColors:ByteArray) (mShape:ByteArray) (mTop:ByteArray) (lKind:Int) (lLetter:ByteArray) (lColors:ByteArray) (lPeriod:Int) (intensity:Int) {r_lGroup:List (List AV)} {t_lGroup:Bool} {lGroup:List Int} {r_sectors:List (List AV)} {t_sectors:Bool} {sectors:List Scr} (h_lGroup:r_lGroup=lGroup.map intR) (h_sectors:r_sectors=sectors.map Scr.cs) (hm:(Aid.mk number name atX atY height mKind mColors mShape mTop lKind lGroup lLetter lColors lPeriod sectors intensity)∈l),AC Tryz.prog g (.agg [.int .i64 number,.str name,.int .i64 atX,.int .i64 atY,.int .i64 height,.int .i64 mKind,.str mColors,.str mShape,.str mTop,.int .i64 lKind,.sl t_lGroup 1 r_lGroup,.str lLetter,.str lColors,.int .i64 lPeriod,.sl t_sectors 3 r_sectors,.int .i64 intensity]::[.pp c0,.pp c1,.pp c2]) AV.bool (bP (p (Aid.mk number name atX atY height mKind mColors mShape mTop lKind lGroup lLetter lColors lPeriod sectors intensity)))):AC Tryz.prog 164 [.sl t 16 rs,.fn g [.pp c0,.pp c1,.pp c2]] AV.bool (bP (∃v∈l,p v)):=by
  refine ac Tryz.func164 (by kernel_rfl) (.bool _) λE K hE hK=>?_
  conv=>cbv
  refine callI hE (indexAidM3_ hl hp) λy hy=>?_
  conv=>cbv
  refine leI hE (λh=>?_) (λh=>?_)<;>conv=>cbv
  · exact finB hK (bP_true.2 (firstI_ge.1 (by omega)))
  · exact finB hK (bP_false.2 λh'=>by have:=firstI_ge.2 h';omega)
theorem markedSides1_ (n:ByteArray) (x y r w k:Int) (number:Int) (name:ByteArray) (atX:Int) (atY:Int) (height:Int) (mKind:Int) (mColors:ByteArray) (mShape:ByteArray) (mTop:ByteArray) (lKind:Int) (lLetter:ByteArray) (lColors:ByteArray) (lPeriod:Int) (intensity:Int) {r_lGroup:List (List AV)} {t_lGroup:Bool} {lGroup:List Int} {r_sectors:List (List AV)} {t_sectors:Bool} {sectors:List Scr} (h_lGroup:r_lGroup=lGroup.map intR) (h_sectors:r_sectors=sectors.map Scr.cs) (hd:Dgr.ok ⟨n,x,y,r⟩) (hw:0<=w/\w<=20000) (ha:PtOk atX atY):AC Tryz.prog 165 [.agg [.int .i64 number,.str name,.int .i64 atX,.int .i64 atY,.int .i64 height,.int .i64 mKind,.str mColors,.str mShape,.str mTop,.int .i64 lKind,.sl t_lGroup 1 r_lGroup,.str lLetter,.str lColors,.int .i64 lPeriod,.sl t_sectors 3 r_sectors,.int .i64 intensity],.pp [.int .i64 k],.pp [.str n,.int .i64 x,.int .i64 y,.int .i64 r],.pp [.int .i64 w]] AV.bool (bP ((λa:Aid=>a.mKind=k/\marksP ⟨n,x,y,r⟩ w a) (Aid.mk number name atX atY height mKind mColors mShape mTop lKind lGroup lLetter lColors lPeriod sectors intensity))):=by
  refine ac Tryz.func165 (by kernel_rfl) (.bool _) λE K hE hK=>?_
  conv=>cbv
  repeat' first
    |((first
   |refine q0 hE ?_
   |refine callP hE (marks_ n x y r w _ _ _ _ _ _ _ _ _ _ _ _ _ _ h_lGroup h_sectors hd hw ha) (λ_=>?_) (λ_=>?_)
   |refine B0 hE ?_|refine B1 hE (λ_=>?_) λ_=>?_|refine B3 hE λ_ _ _=>?_|refine B2 hE λ_ _=>?_|refine B4 hE λ_ _ _ _=>?_)<;>(try conv=>cbv))
  all_goals first
    |(refine finB hK (bP_true.2 ⟨by assumption,by assumption⟩))
    |(refine finB hK (bP_false.2 λh=>?_);obtain ⟨h1,h2⟩:=h;contradiction)
    |trace_state
theorem l14Sides_ (n:ByteArray) (x y r w:Int) {rs:List (List AV)} {t b:Bool} {l:List Aid} (hl:rs=l.map (Aid.cs b)) (hok:AidsOk l) (hd:Dgr.ok ⟨n,x,y,r⟩) (hw:0<=w/\w<=20000):AC Tryz.prog 223 [.pp [.str n,.int .i64 x,.int .i64 y,.int .i64 r],.sl t 16 rs,.int .i64 w] (λl:List Int=> .sl true 1 (l.map intR)) (upTo (sideP ⟨n,x,y,r⟩ l w) 4):=by
  refine ac Tryz.func223 (by kernel_rfl) (.ints _) λE K hE hK=>?_
  conv=>cbv
  have h24:=hok.2
  refine loopC hE (ι:=Int×(List Int)×(List (List AV))) [0,1,2] [8,7] (λq=>(λ(i:Int) (S:List Int) (es:List (List AV))=>[(8,.int .i64 i),(7,.ob 0)]) q.1 q.2.1 q.2.2) (λq=>(λ(i:Int) (S:List Int) (es:List (List AV))=>[.row 1 es]) q.1 q.2.1 q.2.2) (λq=>(λ(i:Int) (S:List Int) (es:List (List AV))=>(l.length - i).toNat) q.1 q.2.1 q.2.2) (λq=>(λ(i:Int) (S:List Int) (es:List (List AV))=>(0<=i/\i<=l.length)/\es=S.map intR/\markI ⟨n,x,y,r⟩ w (l.take i.toNat) S) q.1 q.2.1 q.2.2) [0] (by decide) ((0,[],[])) (by conv=>lhs;cbv) (by conv=>lhs;cbv) rfl rfl (by dsimp only;exact ⟨by omega,rfl,markI_nil _ _⟩) λq hi Kn hN=>?_
  obtain ⟨i,S,es⟩:=q
  (try dsimp only at hi)
  conv=>cbv
  obtain ⟨⟨h0,h1⟩,h2,h3⟩:=hi
  have h4:=markI_bd h3
  repeat' first
    |(refine lenL hE hl (λm hm _=>?_);(try conv=>cbv))
    |(refine idxAidV hE hl (by omega) hv hg hx ?_;(try conv=>cbv))
    |(refine idxAid hE hl (by omega) (λnumber name atX atY height mKind mColors mShape mTop lKind lGroup lLetter lColors lPeriod sectors intensity rg rx hv hg hx=>?_);have hpt:=(hok.mem (List.mem_of_getElem? hv)).2.2.1;have hput:=λm hn2=>markI_put (d:=⟨n,x,y,r⟩) (w:=w) (n:=m) h0 hv hn2 h3;have hskip:=λm hn2=>markI_skip (d:=⟨n,x,y,r⟩) (w:=w) (n:=m) h0 hv hn2 h3;(try conv=>cbv))
    |(refine callP hE (l14Marks_ n x y r w _ _ _ _ _ _ _ _ _ _ _ _ _ _ hg hx hd hw hpt) (λhmk=>?_) (λhmk=>?_)<;>(try conv=>cbv))
    |(refine callR hE (l00Put_ mKind h2 (by omega)) (λrs2 hrs2=>?_);(try conv=>cbv))
    |(refine hN (_,S,_) _ [0] (by decide) rfl ⟨?_,h2,?_⟩ ?_<;>(try dsimp only))
    |(refine hN (_,putI S mKind,_) _ [1] (by decide) rfl ⟨?_,hrs2,?_⟩ ?_<;>(try dsimp only))
    |(refine hN (_,putI S mKind,_) _ [2] (by decide) rfl ⟨?_,hrs2,?_⟩ ?_<;>(try dsimp only))
    |((first
   |refine q0 hE ?_
   |refine B0 hE ?_|refine B1 hE (λ_=>?_) λ_=>?_|refine B3 hE λ_ _ _=>?_|refine B2 hE λ_ _=>?_|refine B4 hE λ_ _ _ _=>?_)<;>(try conv=>cbv))
  all_goals (try clear hN)
  all_goals first
    |omega
    |exact hput _ (by assumption) hmk
    |exact hskip _ (by assumption) hmk
    |(refine hK _ ?_;rw [h2,markI_len h3,List.take_of_length_le (by omega)];rfl)
    |trace_state
theorem markedSides_ (n:ByteArray) (x y r w:Int) {rs:List (List AV)} {t b:Bool} {l:List Aid} (hl:rs=l.map (Aid.cs b)) (hok:AidsOk l) (hd:Dgr.ok ⟨n,x,y,r⟩) (hw:0<=w/\w<=20000):AC Tryz.prog 107 [.agg [.str n,.int .i64 x,.int .i64 y,.int .i64 r],.sl t 16 rs,.int .i64 w] intLI (upTo (sideP ⟨n,x,y,r⟩ l w) 4,0):=by
  refine ac Tryz.func107 (by kernel_rfl) (.intLI _) λE K hE hK=>?_
  conv=>cbv
  have h24:=hok.2
  refine callPT hE (validDanger_ n x y r) hd ?_
  conv=>cbv
  refine callPT hE (validAids_ hl) hok ?_
  conv=>cbv
  refine callPT hE (isAway_ w) hw ?_
  conv=>cbv
  repeat' first
    |((refine loopC hE (ι:=Int×(List (List AV))) [1,3,5] [9,8] (λq=>(λ(k:Int) (es:List (List AV))=>[(9,.pb 3 0),(8,.ob 2)]) q.1 q.2) (λq=>(λ(k:Int) (es:List (List AV))=>[.box [.str n,.int .i64 x,.int .i64 y,.int .i64 r],.box [.int .i64 w],.row 1 es,.box [.int .i64 k]]) q.1 q.2) (λq=>(λ(k:Int) (es:List (List AV))=>(7 - k).toNat) q.1 q.2) (λq=>(λ(k:Int) (es:List (List AV))=>(3<=k/\k<=7)/\es=(upTo (sideP ⟨n,x,y,r⟩ l w) (k - 3).toNat).map intR) q.1 q.2) [0,1,2,3] (by decide) ((3,[])) (by conv=>lhs;cbv) (by conv=>lhs;cbv) rfl rfl (by dsimp only;exact ⟨by omega,rfl⟩) λq hi2 Kn2 hN2=>?_;obtain ⟨k,es⟩:=q;(try dsimp only at hi2);conv=>cbv);obtain ⟨⟨h0,h1⟩,h2⟩:=hi2;have hlen:=upTo_len (sideP ⟨n,x,y,r⟩ l w) (k - 3).toNat;have hst:=λm hm=>upTo_step (p:=sideP ⟨n,x,y,r⟩ l w) (k:=k) (n:=m) h0 hm)
    |(refine callP hE (containsAidM3_ (p:=λa:Aid=>a.mKind=k/\marksP ⟨n,x,y,r⟩ w a) hl (λa0 a1 a2 a3 a4 a5 a6 a7 a8 a9 b0 b1 b2 b3 _ _ _ _ _ _ g1 g2 hm=>markedSides1_ n x y r w k a0 a1 a2 a3 a4 a5 a6 a7 a8 a9 b0 b1 b2 b3 g1 g2 hd hw (hok.mem hm).2.2.1)) (λhc=>?_) (λhc=>?_)<;>(try conv=>cbv))
    |(refine catP hE (R:=intR) (v:=k) h2 rfl (by omega) (λes2 hes2=>?_);(try conv=>cbv))
    |(refine hN2 (_,_) _ [0,1,2,4] (by decide) rfl ⟨?_,?_⟩ ?_<;>(try dsimp only))
    |(refine hN2 (_,_) _ [0,1,2,5] (by decide) rfl ⟨?_,?_⟩ ?_<;>(try dsimp only))
    |(refine hN2 (_,_) _ [0,1,5,6] (by decide) rfl ⟨?_,?_⟩ ?_<;>(try dsimp only))
    |(refine hN2 (_,_) _ [0,1,4,5] (by decide) rfl ⟨?_,?_⟩ ?_<;>(try dsimp only))
    |((first
   |refine q0 hE ?_
   |refine B0 hE ?_|refine B1 hE (λ_=>?_) λ_=>?_|refine B3 hE λ_ _ _=>?_|refine B2 hE λ_ _=>?_|refine B4 hE λ_ _ _ _=>?_)<;>(try conv=>cbv))
  all_goals (try clear hN2)
  all_goals first
    |omega
    |exact hes2.trans (congrArg (List.map intR) ((hst _ (by assumption)).1 hc).symm)
    |exact h2.trans (congrArg (List.map intR) ((hst _ (by assumption)).2 hc).symm)
    |(refine hK _ ?_;rw [h2,show (k - 3).toNat=4 by omega];rfl)
    |trace_state
theorem isMarked_ (n:ByteArray) (x y r w:Int) {rs:List (List AV)} {t b:Bool} {l:List Aid} (hl:rs=l.map (Aid.cs b)) (hok:AidsOk l) (hd:Dgr.ok ⟨n,x,y,r⟩) (hw:0<=w/\w<=20000):AC Tryz.prog 60 [.agg [.str n,.int .i64 x,.int .i64 y,.int .i64 r],.sl t 16 rs,.int .i64 w] AV.bool (bP (markedP ⟨n,x,y,r⟩ l w)):=by
  refine ac Tryz.func60 (by kernel_rfl) (.bool _) λE K hE hK=>?_
  conv=>cbv
  refine callLI hE (markedSides_ n x y r w hl hok hd hw) λrs c hrs _=>?_
  simp only at hrs
  conv=>cbv
  repeat' first
    |(refine lenL hE hrs (λm hm _=>?_);(try conv=>cbv))
    |((first
   |refine q0 hE ?_
   |refine B0 hE ?_|refine B1 hE (λ_=>?_) λ_=>?_|refine B3 hE λ_ _ _=>?_|refine B2 hE λ_ _=>?_|refine B4 hE λ_ _ _ _=>?_)<;>(try conv=>cbv))
  all_goals first
    |exact finB hK (bP_true.2 (upTo_four.1 (by omega)))
    |(refine finB hK (bP_false.2 λh=>?_);have:=upTo_four.2 h;omega)
    |trace_state
theorem sIsMarked_ (n:ByteArray) (x y r w:Int) {rs:List (List AV)} {t b:Bool} {l:List Aid} (hl:rs=l.map (Aid.cs b)) (hok:AidsOk l) (hd:Dgr.ok ⟨n,x,y,r⟩) (hw:0<=w/\w<=20000):AC Tryz.prog 163 [.agg [.str n,.int .i64 x,.int .i64 y,.int .i64 r],.sl t 16 rs,.int .i64 w] AV.bool (bP (markedP ⟨n,x,y,r⟩ l w)):=by
  refine ac Tryz.func163 (by kernel_rfl) (.bool _) λE K hE hK=>?_
  conv=>cbv
  repeat' first
    |(refine callPT hE (l14One_ n x y r) hd ?_;(try conv=>cbv))
    |(refine callPT hE (l12Ok_ hl) hok ?_;(try conv=>cbv))
    |(refine callPT hE (in_ w _ _) hw ?_;(try conv=>cbv))
    |(refine callR hE (l14Sides_ n x y r w hl hok hd hw) (λrs2 hrs2=>?_);(try conv=>cbv))
    |(refine lenL hE hrs2 (λm hm _=>?_);(try conv=>cbv))
    |((first
   |refine q0 hE ?_
   |refine B0 hE ?_|refine B1 hE (λ_=>?_) λ_=>?_|refine B3 hE λ_ _ _=>?_|refine B2 hE λ_ _=>?_|refine B4 hE λ_ _ _ _=>?_)<;>(try conv=>cbv))
  all_goals first
    |exact finB hK (bP_true.2 (upTo_four.1 (by omega)))
    |(refine finB hK (bP_false.2 λh=>?_);have:=upTo_four.2 h;omega)
    |trace_state
noncomputable section
def unmL (g:List Dgr) (l:List Aid) (w:Int) (i:Nat):List Fdg:=((g.take i).filter λd=>bP (¬markedP d l w)).map λd=>⟨6,d.name,noS⟩
def dfR (a:Aut):List Fdg×Int:=if (listR a).2=0 then (unmL a.dangers (listR a).1 a.away a.dangers.length,0) else ([],(listR a).2)
end
theorem unmL_len (g:List Dgr) (l:List Aid) (w:Int) (i:Nat):(unmL g l w i).length<=g.length:=by
  unfold unmL
  rw [List.length_map]
  exact Nat.le_trans (List.length_filter_le _ _) (by rw [List.length_take];omega)
theorem unmL_step {g:List Dgr} {l:List Aid} {w i n:Int} {d:Dgr} (h0:0<=i) (hv:g[i.toNat]?=some d) (hn:n=i+1):(markedP d l w->unmL g l w n.toNat=unmL g l w i.toNat)/\(¬markedP d l w->unmL g l w n.toNat=unmL g l w i.toNat++[⟨6,d.name,noS⟩]):=by
  unfold unmL
  rw [show n.toNat=i.toNat+1 by omega,List.take_add_one,hv,List.filter_append,List.map_append]
  constructor
  · intro h
    have:bP (¬markedP d l w)=false:=bP_false.2 λh2=>h2 h
    simp [this]
  · intro h
    have:bP (¬markedP d l w)=true:=bP_true.2 h
    simp [this]
theorem dgr_ok {l:List Dgr} (h:DgrsOk l):∀v∈l,v.ok:=λv hv=>by
  obtain ⟨j,hj⟩:=List.getElem?_of_mem hv
  obtain ⟨w,h1,h2,_⟩:=h.1 j (List.getElem?_eq_some_iff.1 hj).1
  rw [hj] at h1;cases h1;exact h2
theorem listR_aut {a:Aut} (h:(listR a).2=0):a.ok:=by
  unfold listR at h
  split at h
  · assumption
  · exact absurd h (by decide)
theorem dangerFindings_ (day:Int) (away:Int) (tolerance:Int) (sName:ByteArray) (sSpeed:Int) (sLoad:Int) (sDraught:Int) (bX:Int) (bY:Int) (start:Int) {r_edition:List (List AV)} {t_edition:Bool} {b_edition:Bool} {edition:List Aid} {r_notices:List (List AV)} {t_notices:Bool} {b_notices:Bool} {notices:List Ntc} {r_fairways:List (List AV)} {t_fairways:Bool} {b_fairways:Bool} {fairways:List Fwy} {r_dangers:List (List AV)} {t_dangers:Bool} {dangers:List Dgr} {r_observers:List (List AV)} {t_observers:Bool} {observers:List Obv} {r_full:List (List AV)} {t_full:Bool} {full:List Int} {r_works:List (List AV)} {t_works:Bool} {works:List Wrk} {r_order:List (List AV)} {t_order:Bool} {order:List Int} (h_edition:r_edition=edition.map (Aid.cs b_edition)) (h_notices:r_notices=notices.map (Ntc.cs b_notices)) (h_fairways:r_fairways=fairways.map (Fwy.cs b_fairways)) (h_dangers:r_dangers=dangers.map Dgr.cs) (h_observers:r_observers=observers.map Obv.cs) (h_full:r_full=full.map intR) (h_works:r_works=works.map Wrk.cs) (h_order:r_order=order.map intR):AC Tryz.prog 15 [.agg [.sl t_edition 16 r_edition,.sl t_notices 20 r_notices,.int .i64 day,.sl t_fairways 5 r_fairways,.sl t_dangers 4 r_dangers,.int .i64 away,.sl t_observers 4 r_observers,.int .i64 tolerance,.sl t_full 1 r_full,.str sName,.int .i64 sSpeed,.int .i64 sLoad,.int .i64 sDraught,.int .i64 bX,.int .i64 bY,.sl t_works 7 r_works,.sl t_order 1 r_order,.int .i64 start]] fdgLI (dfR (Aut.mk edition notices day fairways dangers away observers tolerance full sName sSpeed sLoad sDraught bX bY works order start)):=by
  refine ac Tryz.func15 (by kernel_rfl) (.fdgLI _) λE K hE hK=>?_
  conv=>cbv
  refine callLI (R:=Aid.cs true) (k:=16) hE (listOf_ _ _ _ _ _ _ _ _ _ _ (by assumption) (by assumption) (by assumption) (by assumption) (by assumption) (by assumption) (by assumption) (by assumption)) λrs c hrs hc=>?_
  conv=>cbv
  refine eqI hE (λh0=>?_) (λh0=>?_)<;>conv=>cbv
  · have hl0:(listR (Aut.mk edition notices day fairways dangers away observers tolerance full sName sSpeed sLoad sDraught bX bY works order start)).2=0:=by rw [←hc];exact h0
    have hok:=listR_aut hl0
    have hlo:=listR_ok (Aut.mk edition notices day fairways dangers away observers tolerance full sName sSpeed sLoad sDraught bX bY works order start)
    obtain ⟨L,hL⟩:∃L,L=(listR (Aut.mk edition notices day fairways dangers away observers tolerance full sName sSpeed sLoad sDraught bX bY works order start)).1:=⟨_,rfl⟩
    rw [←hL] at hrs hlo
    have hdg:=dgr_ok hok.1.2.2.2.2.1
    have hw:=hok.1.2.2.2.2.2.1
    have hd24:=hok.1.2.2.2.2.1.2
    simp only at hdg hw hd24
    repeat' first
      |((refine loopC hE (ι:=Int×(List (List AV))) [1,4,19,20] [21,6] (λq=>(λ(i:Int) (es:List (List AV))=>[(21,.int .i64 i),(6,.ob 2)]) q.1 q.2) (λq=>(λ(i:Int) (es:List (List AV))=>[.box [.sl t_edition 16 r_edition,.sl t_notices 20 r_notices,.int .i64 day,.sl t_fairways 5 r_fairways,.sl t_dangers 4 r_dangers,.int .i64 away,.sl t_observers 4 r_observers,.int .i64 tolerance,.sl t_full 1 r_full,.str sName,.int .i64 sSpeed,.int .i64 sLoad,.int .i64 sDraught,.int .i64 bX,.int .i64 bY,.sl t_works 7 r_works,.sl t_order 1 r_order,.int .i64 start],.row 16 rs,.row 3 es]) q.1 q.2) (λq=>(λ(i:Int) (es:List (List AV))=>(dangers.length - i).toNat) q.1 q.2) (λq=>(λ(i:Int) (es:List (List AV))=>(0<=i/\i<=dangers.length)/\es=(unmL dangers L away i.toNat).map Fdg.cs) q.1 q.2) [0,1,2] (by decide) ((0,[])) (by conv=>lhs;cbv) (by conv=>lhs;cbv) rfl rfl (by dsimp only;exact ⟨by omega,rfl⟩) λq hi2 Kn2 hN2=>?_;obtain ⟨i,es⟩:=q;(try dsimp only at hi2);conv=>cbv);obtain ⟨⟨i0,i1⟩,h2⟩:=hi2;have hul:=unmL_len dangers L away i.toNat)
      |(refine lenL hE h_dangers (λm hm _=>?_);(try conv=>cbv))
      |(refine idxL (R:=Dgr.cs) hE h_dangers (by omega) (λd hv=>?_);have hdo:=hdg _ (List.mem_of_getElem? hv);have hst:=λm hn2=>unmL_step (l:=L) (w:=away) (n:=m) i0 hv hn2;obtain ⟨dn,dx,dy,dr⟩:=d;(try conv=>cbv))
      |(refine callP hE (isMarked_ dn dx dy dr away hrs hlo hdo hw) (λhmk=>?_) (λhmk=>?_)<;>(try conv=>cbv))
      |(refine catP (R:=Fdg.cs) (v:=(⟨6,dn,noS⟩:Fdg)) hE h2 (by rfl) (by omega) (λes4 hes4=>?_);(try conv=>cbv))
      |(refine hN2 (_,_) _ [0,1,2] (by decide) rfl ⟨?_,?_⟩ ?_<;>(try dsimp only))
      |(refine hN2 (_,_) _ [0,1,4] (by decide) rfl ⟨?_,?_⟩ ?_<;>(try dsimp only))
      |(refine hN2 (_,_) _ [0,1,5] (by decide) rfl ⟨?_,?_⟩ ?_<;>(try dsimp only))
      |((first
     |refine q0 hE ?_
     |refine B0 hE ?_|refine B1 hE (λ_=>?_) λ_=>?_|refine B3 hE λ_ _ _=>?_|refine B2 hE λ_ _=>?_|refine B4 hE λ_ _ _ _=>?_)<;>(try conv=>cbv))
    all_goals (try clear hN2)
    all_goals first
      |omega
      |exact h2.trans (congrArg (List.map Fdg.cs) ((hst _ (by assumption)).1 hmk).symm)
      |exact hes4.trans (congrArg (List.map Fdg.cs) ((hst _ (by assumption)).2 hmk).symm)
      |(refine hK _ ?_;rw [dfR,if_pos hl0,h2,←hL,show i.toNat=dangers.length by omega];rfl)
      |trace_state
  · refine nilOwnI hE 3 ?_
    conv=>cbv
    exact hK _ (by rw [dfR,if_neg (by rw [←hc];exact h0),←hc];rfl)
theorem l31Dangers_ (day:Int) (away:Int) (tolerance:Int) (sName:ByteArray) (sSpeed:Int) (sLoad:Int) (sDraught:Int) (bX:Int) (bY:Int) (start:Int) {r_edition:List (List AV)} {t_edition:Bool} {b_edition:Bool} {edition:List Aid} {r_notices:List (List AV)} {t_notices:Bool} {b_notices:Bool} {notices:List Ntc} {r_fairways:List (List AV)} {t_fairways:Bool} {b_fairways:Bool} {fairways:List Fwy} {r_dangers:List (List AV)} {t_dangers:Bool} {dangers:List Dgr} {r_observers:List (List AV)} {t_observers:Bool} {observers:List Obv} {r_full:List (List AV)} {t_full:Bool} {full:List Int} {r_works:List (List AV)} {t_works:Bool} {works:List Wrk} {r_order:List (List AV)} {t_order:Bool} {order:List Int} (h_edition:r_edition=edition.map (Aid.cs b_edition)) (h_notices:r_notices=notices.map (Ntc.cs b_notices)) (h_fairways:r_fairways=fairways.map (Fwy.cs b_fairways)) (h_dangers:r_dangers=dangers.map Dgr.cs) (h_observers:r_observers=observers.map Obv.cs) (h_full:r_full=full.map intR) (h_works:r_works=works.map Wrk.cs) (h_order:r_order=order.map intR) {rs:List (List AV)} {tl bl:Bool} {L:List Aid} (hrs:rs=L.map (Aid.cs bl)) (hlo:AidsOk L) (hok:Aut.ok (Aut.mk edition notices day fairways dangers away observers tolerance full sName sSpeed sLoad sDraught bX bY works order start)):AC Tryz.prog 106 [.pp [.sl t_edition 16 r_edition,.sl t_notices 20 r_notices,.int .i64 day,.sl t_fairways 5 r_fairways,.sl t_dangers 4 r_dangers,.int .i64 away,.sl t_observers 4 r_observers,.int .i64 tolerance,.sl t_full 1 r_full,.str sName,.int .i64 sSpeed,.int .i64 sLoad,.int .i64 sDraught,.int .i64 bX,.int .i64 bY,.sl t_works 7 r_works,.sl t_order 1 r_order,.int .i64 start],.sl tl 16 rs] (λl:List Fdg=> .sl true 3 (l.map Fdg.cs)) (unmL dangers L away dangers.length):=by
  refine ac Tryz.func106 (by kernel_rfl) (.fdgs _) λE K hE hK=>?_
  conv=>cbv
  have hdg:=dgr_ok hok.1.2.2.2.2.1
  have hw:=hok.1.2.2.2.2.2.1
  have hd24:=hok.1.2.2.2.2.1.2
  simp only at hdg hw hd24
  refine loopC hE (ι:=Int×(List (List AV))) [0,1] [6,5] (λq=>(λ(i:Int) (es:List (List AV))=>[(6,.int .i64 i),(5,.ob 0)]) q.1 q.2) (λq=>(λ(i:Int) (es:List (List AV))=>[.row 3 es]) q.1 q.2) (λq=>(λ(i:Int) (es:List (List AV))=>(dangers.length - i).toNat) q.1 q.2) (λq=>(λ(i:Int) (es:List (List AV))=>(0<=i/\i<=dangers.length)/\es=(unmL dangers L away i.toNat).map Fdg.cs) q.1 q.2) [0] (by decide) ((0,[])) (by conv=>lhs;cbv) (by conv=>lhs;cbv) rfl rfl (by dsimp only;exact ⟨by omega,rfl⟩) λq hi Kn hN=>?_
  obtain ⟨i,es⟩:=q
  (try dsimp only at hi)
  conv=>cbv
  obtain ⟨⟨i0,i1⟩,h2⟩:=hi
  have hul:=unmL_len dangers L away i.toNat
  refine lenL hE h_dangers λm hm _=>?_
  conv=>cbv
  refine ltI hE (λhlt=>?_) (λhge=>?_)<;>conv=>cbv
  · obtain ⟨d,hv⟩:∃d,dangers[i.toNat]?=some d:=⟨_,List.getElem?_eq_getElem (by omega)⟩
    have hdo:=hdg _ (List.mem_of_getElem? hv)
    have hst:=λm hn2=>unmL_step (l:=L) (w:=away) (n:=m) i0 hv hn2
    obtain ⟨dn,dx,dy,dr⟩:=d
    repeat' first
      |(refine idxV (R:=Dgr.cs) hE h_dangers (by omega) hv ?_;(try conv=>cbv))
      |(refine callP hE (sIsMarked_ dn dx dy dr away hrs hlo hdo hw) (λhmk=>?_) (λhmk=>?_)<;>(try conv=>cbv))
      |(refine catP (R:=Fdg.cs) (v:=(⟨6,dn,noS⟩:Fdg)) hE h2 (by rfl) (by omega) (λes4 hes4=>?_);(try conv=>cbv))
      |(refine hN (_,_) _ [0] (by decide) rfl ⟨?_,?_⟩ ?_<;>(try dsimp only))
      |(refine hN (_,_) _ [1] (by decide) rfl ⟨?_,?_⟩ ?_<;>(try dsimp only))
      |(refine hN (_,_) _ [2] (by decide) rfl ⟨?_,?_⟩ ?_<;>(try dsimp only))
      |((first
     |refine q0 hE ?_
     |refine B0 hE ?_|refine B1 hE (λ_=>?_) λ_=>?_|refine B3 hE λ_ _ _=>?_|refine B2 hE λ_ _=>?_|refine B4 hE λ_ _ _ _=>?_)<;>(try conv=>cbv))
    all_goals (try clear hN)
    all_goals first
      |omega
      |exact h2.trans (congrArg (List.map Fdg.cs) ((hst _ (by assumption)).1 hmk).symm)
      |exact hes4.trans (congrArg (List.map Fdg.cs) ((hst _ (by assumption)).2 hmk).symm)
      |trace_state
  · refine hK _ ?_
    rw [h2,show i.toNat=dangers.length by omega];rfl
theorem l31Part3_ (day:Int) (away:Int) (tolerance:Int) (sName:ByteArray) (sSpeed:Int) (sLoad:Int) (sDraught:Int) (bX:Int) (bY:Int) (start:Int) {r_edition:List (List AV)} {t_edition:Bool} {b_edition:Bool} {edition:List Aid} {r_notices:List (List AV)} {t_notices:Bool} {b_notices:Bool} {notices:List Ntc} {r_fairways:List (List AV)} {t_fairways:Bool} {b_fairways:Bool} {fairways:List Fwy} {r_dangers:List (List AV)} {t_dangers:Bool} {dangers:List Dgr} {r_observers:List (List AV)} {t_observers:Bool} {observers:List Obv} {r_full:List (List AV)} {t_full:Bool} {full:List Int} {r_works:List (List AV)} {t_works:Bool} {works:List Wrk} {r_order:List (List AV)} {t_order:Bool} {order:List Int} (h_edition:r_edition=edition.map (Aid.cs b_edition)) (h_notices:r_notices=notices.map (Ntc.cs b_notices)) (h_fairways:r_fairways=fairways.map (Fwy.cs b_fairways)) (h_dangers:r_dangers=dangers.map Dgr.cs) (h_observers:r_observers=observers.map Obv.cs) (h_full:r_full=full.map intR) (h_works:r_works=works.map Wrk.cs) (h_order:r_order=order.map intR):AC Tryz.prog 59 [.pp [.sl t_edition 16 r_edition,.sl t_notices 20 r_notices,.int .i64 day,.sl t_fairways 5 r_fairways,.sl t_dangers 4 r_dangers,.int .i64 away,.sl t_observers 4 r_observers,.int .i64 tolerance,.sl t_full 1 r_full,.str sName,.int .i64 sSpeed,.int .i64 sLoad,.int .i64 sDraught,.int .i64 bX,.int .i64 bY,.sl t_works 7 r_works,.sl t_order 1 r_order,.int .i64 start],.int .i64 3] fdgLI (dfR (Aut.mk edition notices day fairways dangers away observers tolerance full sName sSpeed sLoad sDraught bX bY works order start)):=by
  refine acL Tryz.func59 (by kernel_rfl) (.fdgLI _) λE K hE hK=>?_
  conv=>cbv
  refine callP hE (l31Ok_ _ _ _ _ _ _ _ _ _ _ h_edition h_notices h_fairways h_dangers h_observers h_full h_works h_order) (λhok=>?_) (λhok=>?_)<;>conv=>cbv
  · have hlo:=listR_ok (Aut.mk edition notices day fairways dangers away observers tolerance full sName sSpeed sLoad sDraught bX bY works order start)
    obtain ⟨L,hL⟩:∃L,L=(listR (Aut.mk edition notices day fairways dangers away observers tolerance full sName sSpeed sLoad sDraught bX bY works order start)).1:=⟨_,rfl⟩
    rw [←hL] at hlo
    repeat' first
      |(refine callLI (R:=Aid.cs true) (k:=16) hE (l31List_ _ _ _ _ _ _ _ _ _ _ (by assumption) (by assumption) (by assumption) (by assumption) (by assumption) (by assumption) (by assumption) (by assumption) hok) (λrs c hrs hc=>?_);rw [←hL] at hrs;(try conv=>cbv))
      |(refine eqI hE (a:=c) (b:=0) (λh0=>?_) (λh0=>?_)<;>(try conv=>cbv))
      |(refine callR hE (l31Dangers_ _ _ _ _ _ _ _ _ _ _ (by assumption) (by assumption) (by assumption) (by assumption) (by assumption) (by assumption) (by assumption) (by assumption) hrs hlo hok) (λrs2 hrs2=>?_);(try conv=>cbv))
      |((first
     |refine q0 hE ?_
     |refine nilOwnI hE 3 ?_
     |refine B0 hE ?_|refine B1 hE (λ_=>?_) λ_=>?_|refine B3 hE λ_ _ _=>?_|refine B2 hE λ_ _=>?_|refine B4 hE λ_ _ _ _=>?_)<;>(try conv=>cbv))
    all_goals first
      |(refine hK _ ?_;rw [dfR,if_pos (by rw [←hc];exact h0),hrs2,←hL];rfl)
      |(refine hK _ ?_;rw [dfR,if_neg (by rw [←hc];exact h0),←hc];rfl)
      |trace_state
  · have e:listR (Aut.mk edition notices day fairways dangers away observers tolerance full sName sSpeed sLoad sDraught bX bY works order start)=([],1):=by rw [listR,if_neg hok]
    refine nilOwnI hE 3 ?_
    conv=>cbv
    exact hK _ (by rw [dfR,if_neg (by rw [e];decide),e];rfl)
theorem sDangerFindings_ (day:Int) (away:Int) (tolerance:Int) (sName:ByteArray) (sSpeed:Int) (sLoad:Int) (sDraught:Int) (bX:Int) (bY:Int) (start:Int) {r_edition:List (List AV)} {t_edition:Bool} {b_edition:Bool} {edition:List Aid} {r_notices:List (List AV)} {t_notices:Bool} {b_notices:Bool} {notices:List Ntc} {r_fairways:List (List AV)} {t_fairways:Bool} {b_fairways:Bool} {fairways:List Fwy} {r_dangers:List (List AV)} {t_dangers:Bool} {dangers:List Dgr} {r_observers:List (List AV)} {t_observers:Bool} {observers:List Obv} {r_full:List (List AV)} {t_full:Bool} {full:List Int} {r_works:List (List AV)} {t_works:Bool} {works:List Wrk} {r_order:List (List AV)} {t_order:Bool} {order:List Int} (h_edition:r_edition=edition.map (Aid.cs b_edition)) (h_notices:r_notices=notices.map (Ntc.cs b_notices)) (h_fairways:r_fairways=fairways.map (Fwy.cs b_fairways)) (h_dangers:r_dangers=dangers.map Dgr.cs) (h_observers:r_observers=observers.map Obv.cs) (h_full:r_full=full.map intR) (h_works:r_works=works.map Wrk.cs) (h_order:r_order=order.map intR):AC Tryz.prog 14 [.agg [.sl t_edition 16 r_edition,.sl t_notices 20 r_notices,.int .i64 day,.sl t_fairways 5 r_fairways,.sl t_dangers 4 r_dangers,.int .i64 away,.sl t_observers 4 r_observers,.int .i64 tolerance,.sl t_full 1 r_full,.str sName,.int .i64 sSpeed,.int .i64 sLoad,.int .i64 sDraught,.int .i64 bX,.int .i64 bY,.sl t_works 7 r_works,.sl t_order 1 r_order,.int .i64 start]] fdgLI (dfR (Aut.mk edition notices day fairways dangers away observers tolerance full sName sSpeed sLoad sDraught bX bY works order start)):=by
  refine ac Tryz.func14 (by kernel_rfl) (.fdgLI _) λE K hE hK=>?_
  conv=>cbv
  refine callLI (R:=Fdg.cs) (k:=3) hE (l31Part3_ _ _ _ _ _ _ _ _ _ _ h_edition h_notices h_fairways h_dangers h_observers h_full h_works h_order) λrs c hrs hc=>?_
  conv=>cbv
  exact hK _ (by rw [hrs,hc];rfl)
theorem dfR_len (a:Aut):(dfR a).1.length<=a.dangers.length:=by
  unfold dfR
  split
  · exact unmL_len _ _ _ _
  · simp
theorem lawDangerFindings (day:Int) (away:Int) (tolerance:Int) (sName:ByteArray) (sSpeed:Int) (sLoad:Int) (sDraught:Int) (bX:Int) (bY:Int) (start:Int) {r_edition:List (List AV)} {t_edition:Bool} {b_edition:Bool} {edition:List Aid} {r_notices:List (List AV)} {t_notices:Bool} {b_notices:Bool} {notices:List Ntc} {r_fairways:List (List AV)} {t_fairways:Bool} {b_fairways:Bool} {fairways:List Fwy} {r_dangers:List (List AV)} {t_dangers:Bool} {dangers:List Dgr} {r_observers:List (List AV)} {t_observers:Bool} {observers:List Obv} {r_full:List (List AV)} {t_full:Bool} {full:List Int} {r_works:List (List AV)} {t_works:Bool} {works:List Wrk} {r_order:List (List AV)} {t_order:Bool} {order:List Int} (h_edition:r_edition=edition.map (Aid.cs b_edition)) (h_notices:r_notices=notices.map (Ntc.cs b_notices)) (h_fairways:r_fairways=fairways.map (Fwy.cs b_fairways)) (h_dangers:r_dangers=dangers.map Dgr.cs) (h_observers:r_observers=observers.map Obv.cs) (h_full:r_full=full.map intR) (h_works:r_works=works.map Wrk.cs) (h_order:r_order=order.map intR):AC Tryz.prog 4 [.agg [.sl t_edition 16 r_edition,.sl t_notices 20 r_notices,.int .i64 day,.sl t_fairways 5 r_fairways,.sl t_dangers 4 r_dangers,.int .i64 away,.sl t_observers 4 r_observers,.int .i64 tolerance,.sl t_full 1 r_full,.str sName,.int .i64 sSpeed,.int .i64 sLoad,.int .i64 sDraught,.int .i64 bX,.int .i64 bY,.sl t_works 7 r_works,.sl t_order 1 r_order,.int .i64 start]] id (.bool true):=by
  refine ac Tryz.func4 (by kernel_rfl) (.bool _) λE K hE hK=>?_
  conv=>cbv
  refine callI hE (szAuthority_ _ _ _ _ _ _ _ _ _ _ h_edition h_notices h_fairways h_dangers h_observers h_full h_works h_order _ (by decide)) λz hz=>?_
  have hz2:=szN_or2 hz
  clear hz
  conv=>cbv
  refine ltI hE (λhlt=>?_) (λhge=>?_)<;>conv=>cbv
  · exact hK _ rfl
  have hsz:Aut.sz (Aut.mk edition notices day fairways dangers away observers tolerance full sName sSpeed sLoad sDraught bX bY works order start)<=1048576:=by omega
  have hvl:=dfR_len (Aut.mk edition notices day fairways dangers away observers tolerance full sName sSpeed sLoad sDraught bX bY works order start)
  have hw8:dangers.length<=1048576:=by simp only [Aut.sz] at hsz;omega
  simp only at hvl
  repeat' first
    |(refine callMI hE (markAuthority_ _ _ _ _ _ _ _ _ _ _ (by assumption) (by assumption) (by assumption) (by assumption) (by assumption) (by assumption) (by assumption) (by assumption) _ (by omega) hsz) ?_;rintro _ _ ⟨n9,hn9,rfl,rfl⟩;conv=>cbv)
    |(refine callMI hE (markFindingS_ _ (by assumption) (by omega) (by omega)) ?_;rintro _ _ ⟨n,rs',hn,hrs',rfl,rfl⟩;conv=>cbv)
    |((first
   |refine q0 hE ?_
   |refine callAut hE (toAuthority_ _ _ _ _ _ _ _ _ _ _ h_edition h_notices h_fairways h_dangers h_observers h_full h_works h_order hsz) (λ_ _ _ _ _ _ _ _ _ _ _ _ _ _ _ _=>?_)
   |refine callLI (R:=Fdg.cs) (k:=3) hE (sDangerFindings_ _ _ _ _ _ _ _ _ _ _ (by assumption) (by assumption) (by assumption) (by assumption) (by assumption) (by assumption) (by assumption) (by assumption)) (λ_ _ _ _=>?_)
   |refine callLI (R:=Fdg.cs) (k:=3) hE (dangerFindings_ _ _ _ _ _ _ _ _ _ _ (by assumption) (by assumption) (by assumption) (by assumption) (by assumption) (by assumption) (by assumption) (by assumption)) (λ_ _ _ _=>?_)
   |refine callPT hE (eqAuthority_ _ _ _ _ _ _ _ _ _ _ _ _ _ _ _ _ _ _ _ _ (by assumption) (by assumption) (by assumption) (by assumption) (by assumption) (by assumption) (by assumption) (by assumption) (by assumption) (by assumption) (by assumption) (by assumption) (by assumption) (by assumption) (by assumption) (by assumption)) rfl ?_
   |refine callPT hE (eqFindingS_ (by assumption) (by assumption)) rfl ?_
   |refine sameI hE (by subst_vars;simp only [List.length_map,Fdg.mks_len];first|done|omega) ?_
   |refine callI hE (heldFindingS_ _ (by assumption) (by omega) (by omega)) (λ_ _=>?_)
   |refine B0 hE ?_|refine B1 hE (λ_=>?_) λ_=>?_|refine B3 hE λ_ _ _=>?_|refine B2 hE λ_ _=>?_|refine B4 hE λ_ _ _ _=>?_)<;>(try conv=>cbv))
  all_goals first
    |exact hK _ rfl
    |omega
    |trace_state
theorem lawDangerFindings2 (a:Aut):AC Tryz.prog 4 [.agg (a.cs false)] id (.bool true):=
  lawDangerFindings a.day a.away a.tolerance a.sName a.sSpeed a.sLoad a.sDraught a.bX a.bY a.start rfl rfl rfl rfl rfl rfl rfl rfl
end Go.Proofs.YtalkhfljcnconaaGreatDoor
