/- Contracts: sines, bearings; Contracts: sectors; Contracts: the colors of sectors. -/
import Derived.Test.YtalkhfljcnconaaGreatDoorFC
namespace Go.Proofs.YtalkhfljcnconaaGreatDoor
open Go Go.RowKit Classical
set_option maxRecDepth 100000
set_option maxHeartbeats 2000000
set_option linter.unusedVariables false
set_option linter.unusedSimpArgs false
theorem turned_ (d:Int):AC Tryz.prog 337 [.int .i64 d] (AV.int .i64) (d % 360):=by
  refine ac Tryz.func337 (by kernel_rfl) (.int _ _) λE K hE hK=>?_
  conv=>cbv
  have hb:=tmod_bd d
  repeat' first
    |(refine remI hE (λm hm=>?_);(try conv=>cbv))
    |((first
   |refine q0 hE ?_
   |refine B0 hE ?_|refine B1 hE (λ_=>?_) λ_=>?_|refine B3 hE λ_ _ _=>?_|refine B2 hE λ_ _=>?_|refine B4 hE λ_ _ _ _=>?_)<;>(try conv=>cbv))
  all_goals first
    |(exact hK _ (by subst_vars;rw [angR];rfl))
    |trace_state
theorem l02Angle_ (d:Int):AC Tryz.prog 374 [.int .i64 d] (AV.int .i64) (d % 360):=by
  refine ac Tryz.func374 (by kernel_rfl) (.int _ _) λE K hE hK=>?_
  conv=>cbv
  have hb:=tmod_bd d
  repeat' first
    |(refine remI hE (λm hm=>?_);(try conv=>cbv))
    |((first
   |refine q0 hE ?_
   |refine B0 hE ?_|refine B1 hE (λ_=>?_) λ_=>?_|refine B3 hE λ_ _ _=>?_|refine B2 hE λ_ _=>?_|refine B4 hE λ_ _ _ _=>?_)<;>(try conv=>cbv))
  all_goals first
    |(exact hK _ (by subst_vars;rw [angR];rfl))
    |trace_state
theorem quarter_ (d:Int) (h:0<=d/\d<=90):AC Tryz.prog 338 [.int .i64 d] (AV.int .i64) (sinQ d):=by
  refine ac Tryz.func338 (by kernel_rfl) (.int _ _) λE K hE hK=>?_
  conv=>cbv
  have h91:=sinT_len
  refine idxL (R:=intR) (l:=sinT) hE (by rfl) (by omega) λv hv=>?_
  conv=>cbv
  exact hK _ (by rw [sinQ_get hv];rfl)
theorem sineH_ (d:Int) (h:0<=d/\d<180):AC Tryz.prog 309 [.int .i64 d] (AV.int .i64) (sinR d):=by
  refine ac Tryz.func309 (by kernel_rfl) (.int _ _) λE K hE hK=>?_
  conv=>cbv
  have h360:d % 360=d:=by omega
  repeat' first
    |(refine callI hE (turned_ _) (λe he=>?_);(have he2:d=e:=by omega);subst he2;(try conv=>cbv))
    |((first
   |refine q0 hE ?_
   |refine callI hE (quarter_ _ (by omega)) (λ_ _=>?_)
   |refine B0 hE ?_|refine B1 hE (λ_=>?_) λ_=>?_|refine B3 hE λ_ _ _=>?_|refine B2 hE λ_ _=>?_|refine B4 hE λ_ _ _ _=>?_)<;>(try conv=>cbv))
  all_goals first
    |omega
    |(refine hK _ ?_;unfold sinR sinH;rw [h360,if_neg (by omega)];(first|rw [if_pos (by omega)]|rw [if_neg (by omega)]);subst_vars;rfl)
    |trace_state
theorem sinR_half {d:Int} (h:180<=d % 360):sinR d= -(sinR (d % 360 - 180)):=by
  have h2:(d % 360 - 180) % 360=d % 360 - 180:=by omega
  unfold sinR
  rw [if_pos h,h2,if_neg (by omega)]
theorem sine_ (d:Int):AC Tryz.prog 309 [.int .i64 d] (AV.int .i64) (sinR d):=by
  refine ac Tryz.func309 (by kernel_rfl) (.int _ _) λE K hE hK=>?_
  conv=>cbv
  refine callI hE (turned_ _) λe he=>?_
  conv=>cbv
  have hb:=sinR_bd (e - 180)
  repeat' first
    |(refine callI hE (sineH_ _ (by omega)) (λs hs=>?_);(have hb2: -1000000<=s/\s<=1000000:=by rw [hs];exact sinR_bd _);(try conv=>cbv))
    |((first
   |refine q0 hE ?_
   |refine callI hE (quarter_ _ (by omega)) (λ_ _=>?_)
   |refine B0 hE ?_|refine B1 hE (λ_=>?_) λ_=>?_|refine B3 hE λ_ _ _=>?_|refine B2 hE λ_ _=>?_|refine B4 hE λ_ _ _ _=>?_)<;>(try conv=>cbv))
  all_goals first
    |omega
    |(refine hK _ ?_;rw [sinR_half (by omega)];show AV.int _ _=AV.int _ _;congr 1;subst_vars;omega)
    |(refine hK _ ?_;unfold sinR sinH;rw [←he,if_neg (by omega)];(first|rw [if_pos (by omega)]|rw [if_neg (by omega)]);subst_vars;rfl)
    |trace_state
theorem cosine_ (d:Int):AC Tryz.prog 310 [.int .i64 d] (AV.int .i64) (cosR d):=by
  refine ac Tryz.func310 (by kernel_rfl) (.int _ _) λE K hE hK=>?_
  conv=>cbv
  repeat' first
    |((first
   |refine q0 hE ?_
   |refine callI hE (turned_ _) (λ_ _=>?_)
   |refine callI hE (sine_ _) (λ_ _=>?_)
   |refine B0 hE ?_|refine B1 hE (λ_=>?_) λ_=>?_|refine B3 hE λ_ _ _=>?_|refine B2 hE λ_ _=>?_|refine B4 hE λ_ _ _ _=>?_)<;>(try conv=>cbv))
  all_goals first
    |omega
    |exact hK _ (by subst_vars;rfl)
    |trace_state
theorem l02Table_:AC Tryz.prog 360 [] (λl:List Int=> .sl true 1 (l.map intR)) sinT:=by
  refine ac Tryz.func360 (by kernel_rfl) (.ints _) λE K hE hK=>?_
  conv=>cbv
  exact hK _ rfl
theorem l02SineIn_ {rs:List (List AV)} {t:Bool} (d:Int) (hl:rs=sinT.map intR):AC Tryz.prog 361 [.sl t 1 rs,.int .i64 d] (AV.int .i64) (sinR d):=by
  refine ac Tryz.func361 (by kernel_rfl) (.int _ _) λE K hE hK=>?_
  conv=>cbv
  have h91:=sinT_len
  refine callI hE (l02Angle_ _) λe he=>?_
  conv=>cbv
  repeat' first
    |(refine idxL (R:=intR) (l:=sinT) hE hl (by omega) (λv hv=>?_);have hv2:=sinQ_get hv;have hv3:=sinQ_bd 0;have hv4:=sinT_bd v (List.mem_of_getElem? hv);(try conv=>cbv))
    |(refine mul64 hE (by omega) (λ_ _=>?_);(try conv=>cbv))
    |((first
   |refine q0 hE ?_
   |refine B0 hE ?_|refine B1 hE (λ_=>?_) λ_=>?_|refine B3 hE λ_ _ _=>?_|refine B2 hE λ_ _=>?_|refine B4 hE λ_ _ _ _=>?_)<;>(try conv=>cbv))
  all_goals (try clear hv3 hv4)
  all_goals first
    |omega
    |(refine hK _ ?_;unfold sinR sinH;rw [←he];(first|rw [if_pos (by omega)]|rw [if_neg (by omega)]);(first|rw [if_pos (by omega)]|rw [if_neg (by omega)]);show AV.int _ _=AV.int _ _;congr 1;rename_i hm;rw [hm,hv2];subst_vars;omega)
    |trace_state
theorem bearing1_ (x y x' y' d:Int) (h:PtOk x y) (k:PtOk x' y'):AC Tryz.prog 308 [.int .i64 d,.pp [.int .i64 x',.int .i64 y'],.pp [.int .i64 x,.int .i64 y]] (AV.int .i64) (vecR x y x' y' d):=by
  refine ac Tryz.func308 (by kernel_rfl) (.int _ _) λE K hE hK=>?_
  conv=>cbv
  unfold PtOk at h k
  have hs:=sinR_bd d
  have hc:=cosR_bd d
  have hS:=sine_ d
  have hC:=cosine_ d
  have hv:vecR x y x' y' d=(x' - x)*sinR d+(y' - y)*cosR d:=rfl
  obtain ⟨sn,hsn⟩:∃s,s=sinR d:=⟨_,rfl⟩
  obtain ⟨cn,hcn⟩:∃s,s=cosR d:=⟨_,rfl⟩
  obtain ⟨dx,hdx⟩:∃s,s=x' - x:=⟨_,rfl⟩
  obtain ⟨dy,hdy⟩:∃s,s=y' - y:=⟨_,rfl⟩
  rw [←hsn,←hcn,←hdx,←hdy] at hv
  rw [←hsn] at hs hS
  rw [←hcn] at hc hC
  have h1:=vec_bd (a:=dx) (by omega) hs
  have h2:=vec_bd (a:=dy) (by omega) hc
  repeat' first
    |((refine callI hE hS (λz hz=>?_);subst hz);(try conv=>cbv))
    |((refine callI hE hC (λz hz=>?_);subst hz);(try conv=>cbv))
    |(refine sub64 hE (by omega) (λq hq=>?_);(first|((have hq2:dx=q:=by omega);subst hq2;clear hq)|((have hq2:dy=q:=by omega);subst hq2;clear hq));(try conv=>cbv))
    |(refine mul64 hE (by omega) (λ_ _=>?_);(try conv=>cbv))
    |((first
   |refine q0 hE ?_
   |refine B0 hE ?_|refine B1 hE (λ_=>?_) λ_=>?_|refine B3 hE λ_ _ _=>?_|refine B2 hE λ_ _=>?_|refine B4 hE λ_ _ _ _=>?_)<;>(try conv=>cbv))
  all_goals first
    |exact hK _ (by rw [hv];subst_vars;rfl)
    |trace_state
set_option maxHeartbeats 4000000
theorem bearing_ (x y x' y':Int) (h:PtOk x y) (k:PtOk x' y'):AC Tryz.prog 270 [.agg [.int .i64 x,.int .i64 y],.agg [.int .i64 x',.int .i64 y']] (AV.int .i64) (beaR x y x' y'):=by
  refine ac Tryz.func270 (by kernel_rfl) (.int _ _) λE K hE hK=>?_
  conv=>cbv
  refine callPT hE (arePoints_ (l:=[(⟨x,y⟩:Pnt),⟨x',y'⟩]) (by rfl)) (by
    intro p hp
    simp only [List.mem_cons,List.not_mem_nil,or_false] at hp
    rcases hp with rfl|rfl
    · exact h
    · exact k) ?_
  conv=>cbv
  refine aeqI hE (λhe=>?_) (λhe=>?_)<;>conv=>cbv
  · obtain ⟨e1,e2,_⟩:=he
    subst e1 e2
    exact hK _ (by rw [beaR_self];rfl)
  · refine callI hE (bearing1_ x y x' y' 0 h k) λm0 hm0=>?_
    conv=>cbv
    refine loopC hE (ι:=Int×Int×Int) [5] [23,6,7] (λq=>(λ(d:Int) (best:Int) (most:Int)=>[(23,.int .i64 d),(6,.int .i64 best),(7,.int .i64 most)]) q.1 q.2.1 q.2.2) (λq=>(λ(d:Int) (best:Int) (most:Int)=>[.box [.int .i64 x,.int .i64 y],.box [.int .i64 x',.int .i64 y']]) q.1 q.2.1 q.2.2) (λq=>(λ(d:Int) (best:Int) (most:Int)=>(360 - d).toNat) q.1 q.2.1 q.2.2) (λq=>(λ(d:Int) (best:Int) (most:Int)=>(0<=d/\d<=360)/\best=argS (vecR x y x' y') d/\most=vecR x y x' y' best) q.1 q.2.1 q.2.2) [0,1] (by decide) ((0,0,m0)) (by conv=>lhs;cbv) (by conv=>lhs;cbv) rfl rfl (by dsimp only;exact ⟨by omega,(argS_zero _ (by omega)).symm,hm0⟩) λq hi Kn hN=>?_
    obtain ⟨d,best,most⟩:=q
    (try dsimp only at hi)
    conv=>cbv
    obtain ⟨h0,e1,e2⟩:=hi
    repeat' first
      |(refine callI hE (bearing1_ x y x' y' _ h k) (λn hn=>?_);(try conv=>cbv))
      |(refine hN (_,_,_) _ [0,1] (by decide) rfl ⟨?_,?_,?_⟩ ?_<;>(try dsimp only))
      |((first
     |refine q0 hE ?_
     |refine B0 hE ?_|refine B1 hE (λ_=>?_) λ_=>?_|refine B3 hE λ_ _ _=>?_|refine B2 hE λ_ _=>?_|refine B4 hE λ_ _ _ _=>?_)<;>(try conv=>cbv))
    all_goals (try clear hN)
    all_goals first
      |omega
      |(rw [argS_yes h0.1 (by assumption) (by rw [←e1,←e2,←hn];assumption)])
      |(rw [argS_no h0.1 (by assumption) (by rw [←e1,←e2,←hn];omega)];exact e1)
      |exact hn
      |exact e2
      |(refine hK _ ?_;rw [e1,argS_all (by omega)];rfl)
      |trace_state
theorem l02Bearing_ (x y x' y':Int) (h:PtOk x y) (k:PtOk x' y'):AC Tryz.prog 336 [.agg [.int .i64 x,.int .i64 y],.agg [.int .i64 x',.int .i64 y']] (AV.int .i64) (beaR x y x' y'):=by
  refine ac Tryz.func336 (by kernel_rfl) (.int _ _) λE K hE hK=>?_
  conv=>cbv
  have hp:PtOk x y/\PtOk x' y':=⟨h,k⟩
  unfold PtOk at h k
  refine callR hE l02Table_ λrs hrs=>?_
  conv=>cbv
  refine loopC hE (ι:=Int×Int×Int) [2,3,7] [8,5,6] (λq=>(λ(d:Int) (best:Int) (most:Int)=>[(8,.int .i64 d),(5,.int .i64 best),(6,.int .i64 most)]) q.1 q.2.1 q.2.2) (λq=>(λ(d:Int) (best:Int) (most:Int)=>[.box [.int .i64 x,.int .i64 y],.box [.int .i64 x',.int .i64 y'],.row 1 rs]) q.1 q.2.1 q.2.2) (λq=>(λ(d:Int) (best:Int) (most:Int)=>(360 - d).toNat) q.1 q.2.1 q.2.2) (λq=>(λ(d:Int) (best:Int) (most:Int)=>(0<=d/\d<=360)/\best=argS (vecR x y x' y') d/\(1<=d->most=vecR x y x' y' best)) q.1 q.2.1 q.2.2) [0,1,2] (by decide) ((0,0,0)) (by conv=>lhs;cbv) (by conv=>lhs;cbv) rfl rfl (by dsimp only;exact ⟨by omega,(argS_zero _ (by omega)).symm,by omega⟩) λq hi Kn hN=>?_
  obtain ⟨d,best,most⟩:=q
  (try dsimp only at hi)
  conv=>cbv
  obtain ⟨h0,e1,e2⟩:=hi
  have hs:=sinR_bd d
  have hc:=sinR_bd (d+90)
  have hS:=l02SineIn_ (t:=true) d hrs
  have hC:=l02SineIn_ (t:=true) (d+90) hrs
  have hv:d<360->vecR x y x' y' d=(x' - x)*sinR d+(y' - y)*sinR (d+90):=λh3=>by unfold vecR;rw [cos_in ⟨h0.1,h3⟩]
  obtain ⟨sn,hsn⟩:∃s,s=sinR d:=⟨_,rfl⟩
  obtain ⟨d9,hd9⟩:∃s,s=d+90:=⟨_,rfl⟩
  rw [←hd9] at hv hc hC
  obtain ⟨cn,hcn⟩:∃s,s=sinR d9:=⟨_,rfl⟩
  obtain ⟨dx,hdx⟩:∃s,s=x' - x:=⟨_,rfl⟩
  obtain ⟨dy,hdy⟩:∃s,s=y' - y:=⟨_,rfl⟩
  rw [←hsn,←hcn,←hdx,←hdy] at hv
  rw [←hsn] at hs hS
  rw [←hcn] at hc hC
  have h1:=vec_bd (a:=dx) (by omega) hs
  have h2:=vec_bd (a:=dy) (by omega) hc
  repeat' first
    |((refine callI hE hS (λz hz=>?_);subst hz);(try conv=>cbv))
    |((refine callI hE hC (λz hz=>?_);subst hz);(try conv=>cbv))
    |(refine sub64 hE (by omega) (λq hq=>?_);(first|((have hq2:dx=q:=by omega);subst hq2;clear hq)|((have hq2:dy=q:=by omega);subst hq2;clear hq));(try conv=>cbv))
    |(refine mul64 hE (by omega) (λ_ _=>?_);(try conv=>cbv))
    |(refine add64 hE (by omega) (λq hq=>?_);(first|((have hq2:d9=q:=by omega);subst hq2;clear hq)|skip);(try conv=>cbv))
    |(refine hN (_,_,_) _ [0,1,2] (by decide) rfl ⟨?_,?_,?_⟩ ?_<;>(try dsimp only))
    |((first
   |refine q0 hE ?_
   |refine B0 hE ?_|refine B1 hE (λ_=>?_) λ_=>?_|refine B3 hE λ_ _ _=>?_|refine B2 hE λ_ _=>?_|refine B4 hE λ_ _ _ _=>?_)<;>(try conv=>cbv))
  all_goals (try clear hN)
  all_goals (first|(have hv2:=hv (by omega))|skip)
  all_goals first
    |omega
    |(rw [argS_zero _ (by omega)];omega)
    |(rw [argS_yes h0.1 hq (by rw [←e1,←e2 (by omega)];omega)])
    |(rw [argS_no h0.1 hq (by rw [←e1,←e2 (by omega)];omega)];exact e1)
    |(intro _;omega)
    |(intro _;exact e2 (by omega))
    |(refine hK _ ?_;rw [e1,argS_all (by omega)];rfl)
    |trace_state
end Go.Proofs.YtalkhfljcnconaaGreatDoor
namespace Go.Proofs.YtalkhfljcnconaaGreatDoor
open Go Go.RowKit Classical
set_option maxRecDepth 100000
set_option maxHeartbeats 2000000
set_option linter.unusedVariables false
set_option linter.unusedSimpArgs false
theorem modulo_ (a:Int):AC Tryz.prog 351 [.int .i64 a,.int .i64 360] (AV.int .i64) (a % 360):=by
  refine ac Tryz.func351 (by kernel_rfl) (.int _ _) λE K hE hK=>?_
  conv=>cbv
  have hb:=tmod_bd a
  repeat' first
    |(refine remI hE (λm hm=>?_);(try conv=>cbv))
    |((first
   |refine q0 hE ?_
   |refine B0 hE ?_|refine B1 hE (λ_=>?_) λ_=>?_|refine B3 hE λ_ _ _=>?_|refine B2 hE λ_ _=>?_|refine B4 hE λ_ _ _ _=>?_)<;>(try conv=>cbv))
  all_goals first
    |(exact hK _ (by subst_vars;rw [angR];rfl))
    |trace_state
theorem isBearing_ (n:Int):AC Tryz.prog 307 [.int .i64 n] AV.bool (bP (0<=n/\n<=359)):=by
  refine ac Tryz.func307 (by kernel_rfl) (.bool _) λE K hE hK=>?_
  conv=>cbv
  repeat' first
    |((first
   |refine q0 hE ?_
   |refine callP hE (within_ _ _ _) (λ_=>?_) (λ_=>?_)
   |refine B0 hE ?_|refine B1 hE (λ_=>?_) λ_=>?_|refine B3 hE λ_ _ _=>?_|refine B2 hE λ_ _=>?_|refine B4 hE λ_ _ _ _=>?_)<;>(try conv=>cbv))
  all_goals (try clear hN)
  all_goals first
    |(omega)
    |(refine finB hK (bP_true.2 ?_);first|omega|grind)
    |(refine finB hK (bP_false.2 ?_);first|omega|(intro h;grind))
    |(refine ⟨by omega,Up.succ (by assumption) ?_ (by assumption)⟩;grind)
    |(refine hK _ ?_;simp_all [atup];done)
    |(grind)
theorem isCol_B (c:UInt8):bP (isCol ⟨#[c]⟩)=decide (0<=Lib.indexByte cAll.data.toList c):=by
  have h:=isCol_iff (s:=⟨#[c]⟩) rfl
  apply bP_eq
  rw [decide_eq_true_iff]
  exact h.symm
theorem isColor_ (s:ByteArray):AC Tryz.prog 350 [.str s] AV.bool (bP (isCol s)):=by
  refine ac Tryz.func350 (by kernel_rfl) (.bool _) λE K hE hK=>?_
  conv=>cbv
  refine slenI hE λn hn hb=>?_
  conv=>cbv
  refine eqI hE (λh1=>?_) (λh1=>?_)<;>conv=>cbv
  · obtain ⟨c,rfl⟩:∃c,s=⟨#[c]⟩:=⟨_,size1 (by omega)⟩
    refine callB hE (containsOne_ cAll c) (λh=>?_) (λh=>?_)<;>conv=>cbv
    · exact finB hK (by rw [isCol_B];exact h)
    · exact finB hK (by rw [isCol_B];exact h)
  · exact finB hK (bP_false.2 λh=>by have:=isCol_size h;omega)
theorem l08Color_ (s:ByteArray):AC Tryz.prog 281 [.str s] AV.bool (bP (isCol s)):=by
  refine ac Tryz.func281 (by kernel_rfl) (.bool _) λE K hE hK=>?_
  conv=>cbv
  repeat' first
    |((first
   |refine q0 hE ?_
   |refine B0 hE ?_|refine B1 hE (λ_=>?_) λ_=>?_|refine B3 hE λ_ _ _=>?_|refine B2 hE λ_ _=>?_|refine B4 hE λ_ _ _ _=>?_)<;>(try conv=>cbv))
  all_goals first
    |(refine finB hK (bP_true.2 ?_);first|exact .inl (by assumption)|exact .inr (.inl (by assumption))|exact .inr (.inr (.inl (by assumption)))|exact .inr (.inr (.inr (by assumption))))
    |(refine finB hK (bP_false.2 ?_);rintro (h|h|h|h)<;>contradiction)
    |trace_state
theorem validSector_ (f u:Int) (c:ByteArray):AC Tryz.prog 326 [.agg [.int .i64 f,.int .i64 u,.str c]] AV.bool (bP (ScrOk f u c)):=by
  refine ac Tryz.func326 (by kernel_rfl) (.bool _) λE K hE hK=>?_
  conv=>cbv
  repeat' first
    |((first
   |refine q0 hE ?_
   |refine callP hE (isBearing_ _) (λ_=>?_) (λ_=>?_)
   |refine callP hE (isColor_ _) (λ_=>?_) (λ_=>?_)
   |refine B0 hE ?_|refine B1 hE (λ_=>?_) λ_=>?_|refine B3 hE λ_ _ _=>?_|refine B2 hE λ_ _=>?_|refine B4 hE λ_ _ _ _=>?_)<;>(try conv=>cbv))
  all_goals (try clear hN)
  all_goals first
    |(omega)
    |(refine finB hK (bP_true.2 ?_);first|omega|grind [ScrOk])
    |(refine finB hK (bP_false.2 ?_);first|omega|(intro h;grind [ScrOk]))
    |(refine ⟨by omega,Up.succ (by assumption) ?_ (by assumption)⟩;grind [ScrOk])
    |(refine hK _ ?_;simp_all [atup,ScrOk];done)
    |(grind [ScrOk])
theorem arc_ (f u:Int) (c:ByteArray) (h:(0<=f/\f<=359)/\0<=u/\u<=359):AC Tryz.prog 328 [.agg [.int .i64 f,.int .i64 u,.str c]] (AV.int .i64) (arcR f u):=by
  refine ac Tryz.func328 (by kernel_rfl) (.int _ _) λE K hE hK=>?_
  conv=>cbv
  repeat' first
    |((first
   |refine q0 hE ?_
   |refine callI hE (modulo_ _) (λ_ _=>?_)
   |refine B0 hE ?_|refine B1 hE (λ_=>?_) λ_=>?_|refine B3 hE λ_ _ _=>?_|refine B2 hE λ_ _=>?_|refine B4 hE λ_ _ _ _=>?_)<;>(try conv=>cbv))
  all_goals (refine hK _ ?_;show AV.int _ _=AV.int _ _;congr 1;unfold arcR;subst_vars;first|rfl|omega)
def hasW (f u b:Int):Prop:=(IntKind.i64.wrap (b - f)) % 360<arcR f u
theorem hasW_in {f u b:Int} (hf:0<=f/\f<=359) (hb:0<=b/\b<=359):hasW f u b↔hasR f u b:=by
  unfold hasW hasR
  rw [IntWalk.i64_in _ ⟨by omega,by omega⟩]
theorem has_ (f u b:Int) (c:ByteArray) (h:(0<=f/\f<=359)/\0<=u/\u<=359):AC Tryz.prog 327 [.agg [.int .i64 f,.int .i64 u,.str c],.int .i64 b] AV.bool (bP (hasW f u b)):=by
  refine ac Tryz.func327 (by kernel_rfl) (.bool _) λE K hE hK=>?_
  conv=>cbv
  repeat' first
    |(refine subI hE (λ_ _=>?_);(try conv=>cbv))
    |((first
   |refine q0 hE ?_
   |refine callI hE (modulo_ _) (λ_ _=>?_)
   |refine callI hE (arc_ f u c h) (λ_ _=>?_)
   |refine B0 hE ?_|refine B1 hE (λ_=>?_) λ_=>?_|refine B3 hE λ_ _ _=>?_|refine B2 hE λ_ _=>?_|refine B4 hE λ_ _ _ _=>?_)<;>(try conv=>cbv))
  all_goals first
    |(refine finB hK (bP_true.2 ?_);unfold hasW;subst_vars;assumption)
    |(refine finB hK (bP_false.2 ?_);unfold hasW;subst_vars;omega)
    |trace_state
theorem l08Ends_ (f u:Int) (tl:List AV):AC Tryz.prog 280 [.pp (.int .i64 f:: .int .i64 u::tl)] AV.bool (bP ((0<=f/\f<=359)/\0<=u/\u<=359)):=by
  refine ac Tryz.func280 (by kernel_rfl) (.bool _) λE K hE hK=>?_
  conv=>cbv
  repeat' first
    |((first
   |refine q0 hE ?_
   |refine callP hE (in_ _ _ _) (λ_=>?_) (λ_=>?_)
   |refine B0 hE ?_|refine B1 hE (λ_=>?_) λ_=>?_|refine B3 hE λ_ _ _=>?_|refine B2 hE λ_ _=>?_|refine B4 hE λ_ _ _ _=>?_)<;>(try conv=>cbv))
  all_goals (try clear hN)
  all_goals first
    |(omega)
    |(refine finB hK (bP_true.2 ?_);first|omega|grind)
    |(refine finB hK (bP_false.2 ?_);first|omega|(intro h;grind))
    |(refine ⟨by omega,Up.succ (by assumption) ?_ (by assumption)⟩;grind)
    |(refine hK _ ?_;simp_all [atup];done)
    |(grind)
theorem l08One_ (f u:Int) (c:ByteArray):AC Tryz.prog 231 [.pp [.int .i64 f,.int .i64 u,.str c]] AV.bool (bP (ScrOk f u c)):=by
  refine ac Tryz.func231 (by kernel_rfl) (.bool _) λE K hE hK=>?_
  conv=>cbv
  repeat' first
    |((first
   |refine q0 hE ?_
   |refine callP hE (l08Ends_ _ _ _) (λ_=>?_) (λ_=>?_)
   |refine callP hE (l08Color_ _) (λ_=>?_) (λ_=>?_)
   |refine B0 hE ?_|refine B1 hE (λ_=>?_) λ_=>?_|refine B3 hE λ_ _ _=>?_|refine B2 hE λ_ _=>?_|refine B4 hE λ_ _ _ _=>?_)<;>(try conv=>cbv))
  all_goals (try clear hN)
  all_goals first
    |(omega)
    |(refine finB hK (bP_true.2 ?_);first|omega|grind [ScrOk])
    |(refine finB hK (bP_false.2 ?_);first|omega|(intro h;grind [ScrOk]))
    |(refine ⟨by omega,Up.succ (by assumption) ?_ (by assumption)⟩;grind [ScrOk])
    |(refine hK _ ?_;simp_all [atup,ScrOk];done)
    |(grind [ScrOk])
theorem l08Arc_ (f u:Int) (c:ByteArray) (h:(0<=f/\f<=359)/\0<=u/\u<=359):AC Tryz.prog 219 [.pp [.int .i64 f,.int .i64 u,.str c]] (AV.int .i64) (arcR f u):=by
  refine ac Tryz.func219 (by kernel_rfl) (.int _ _) λE K hE hK=>?_
  conv=>cbv
  repeat' first
    |((first
   |refine q0 hE ?_
   |refine B0 hE ?_|refine B1 hE (λ_=>?_) λ_=>?_|refine B3 hE λ_ _ _=>?_|refine B2 hE λ_ _=>?_|refine B4 hE λ_ _ _ _=>?_)<;>(try conv=>cbv))
  all_goals (refine hK _ ?_;show AV.int _ _=AV.int _ _;congr 1;unfold arcR;omega)
def ScsW (l:List Scr) (i:Int):Prop:=∀(j k:Nat) s u,(j:Int)<i->j≠k->l[j]?=some s->l[k]?=some u->¬hasW s.frm s.til u.frm
theorem scsW_ap {l:List Scr} (h:∀j,j<l.length->ScrC l j) (hw:ScsW l l.length):ScsAp l:=λi k s u hik hs hu=>by
  have h1:=hw i k s u (by have:=(List.getElem?_eq_some_iff.1 hs).1;omega) hik hs hu
  have h2:=scr_at h hs
  have h3:=scr_at h hu
  rwa [hasW_in h2.1 h3.1] at h1
theorem scsOk_W {l:List Scr} (h:ScsOk l) {j k:Nat} {s u:Scr} (hjk:j≠k) (hs:l[j]?=some s) (hu:l[k]?=some u):¬hasW s.frm s.til u.frm:=by
  have h2:=scr_at h.1 hs
  have h3:=scr_at h.1 hu
  rw [hasW_in h2.1 h3.1]
  exact h.2.2 j k s u hjk hs hu
theorem scrC_bad {l:List Scr} {i:Int} {s:Scr} (hs:l[i.toNat]?=some s) (h:¬ScrOk s.frm s.til s.color):¬ScsOk l:=λhk=>h (scr_at hk.1 hs)
theorem scrC_no {l:List Scr} {i:Int} {s p:Scr} (h0:0<i) (hs:l[i.toNat]?=some s) (hp:l[(i - 1).toNat]?=some p) (h:s.frm<=p.frm):¬ScsOk l:=λhk=>by
  have:=scr_inc hk.1 hp i.toNat s (by omega) hs;omega
theorem scrC_of {l:List Scr} {i:Int} {s:Scr} (h0:0<=i) (hs:l[i.toNat]?=some s) (hk:ScrOk s.frm s.til s.color) (h:i<=0∨∃p,l[(i - 1).toNat]?=some p/\p.frm<s.frm):ScrC l i.toNat:=
  ⟨s,hs,hk,λhi=>by
    rcases h with h|⟨p,h1,h2⟩
    · omega
    · exact ⟨p,by rw [show i.toNat - 1=(i - 1).toNat by omega];exact h1,h2⟩⟩
theorem ScsW.succ {l:List Scr} {i n:Int} {s:Scr} (h0:0<=i) (h:ScsW l i) (hn:n=i+1) (hs:l[i.toNat]?=some s) (hk:∀(k:Nat) u,(k:Int)≠i->l[k]?=some u->¬hasW s.frm s.til u.frm):ScsW l n:=λj k s' u hj hjk hs' hu=>by
  by_cases e:(j:Int)<i
  · exact h j k s' u e hjk hs' hu
  · have e2:j=i.toNat:=by omega
    subst e2
    rw [hs] at hs';cases hs'
    exact hk k u (by omega) hu
theorem validSectors_ {rs:List (List AV)} {t:Bool} {l:List Scr} (hl:rs=l.map Scr.cs):AC Tryz.prog 293 [.sl t 3 rs] AV.bool (bP (ScsOk l)):=by
  refine ac Tryz.func293 (by kernel_rfl) (.bool _) λE K hE hK=>?_
  conv=>cbv
  refine lenL hE hl λn hn hb=>?_
  conv=>cbv
  refine loopC hE (ι:=Int×Int) [0,8,9] [10,3] (λq=>(λ(i:Int) (total:Int)=>[(10,.int .i64 i),(3,.int .i64 total)]) q.1 q.2) (λq=>(λ(i:Int) (total:Int)=>[]) q.1 q.2) (λq=>(λ(i:Int) (total:Int)=>(n - i).toNat) q.1 q.2) (λq=>(λ(i:Int) (total:Int)=>(0<=i/\i<=l.length)/\Up (ScrC l) i/\ScsW l i/\(l.length<=12->total=(sumTo arcN l i:Nat)/\total<=360*i)) q.1 q.2) [] (by decide) ((0,0)) (by conv=>lhs;cbv) (by conv=>lhs;cbv) rfl rfl (by dsimp only;exact ⟨by omega,.zero (by omega),λj k s u hj=>by omega,λ_=>by rw [sumTo_zero (by omega)];omega⟩) λq hi Kn hN=>?_
  obtain ⟨i,total⟩:=q
  (try dsimp only at hi)
  conv=>cbv
  obtain ⟨h0,hinv,hw,htot⟩:=hi
  refine ltI hE (λhlt=>?_) (λhge=>?_)<;>conv=>cbv
  · refine idxL (R:=Scr.cs) hE hl (by omega) λv hv=>?_
    obtain ⟨f,u,c⟩:=v
    have hsum:=sumTo_succ arcN h0.1 hv
    have harc:=arcN_bd ⟨f,u,c⟩
    simp only at harc
    conv=>cbv
    refine callP hE (validSector_ f u c) (λhok=>?_) (λhok=>?_)<;>conv=>cbv
    · have hrg:(0<=f/\f<=359)/\0<=u/\u<=359:=⟨hok.1,hok.2.1⟩
      repeat' first
        |(refine sub64 hE (by omega) (λq hq=>?_);(try conv=>cbv))
        |(refine idxV hE hl (by omega) hv ?_;(try conv=>cbv))
        |(refine idxL (R:=Scr.cs) hE hl (by omega) (λv2 hv2=>?_);obtain ⟨f2,u2,c2⟩:=v2;(try conv=>cbv))
        |((refine loopC hE (ι:=Int) [0,3,4,5,8,9,10,33,34] [35] (λq=>(λ(k:Int)=>[(35,.int .i64 k)]) q) (λq=>(λ(k:Int)=>[.box [.int .i64 f,.int .i64 u,.str c]]) q) (λq=>(λ(k:Int)=>(n - k).toNat) q) (λq=>(λ(k:Int)=>(0<=k/\k<=l.length)/\∀(m:Nat) u2,(m:Int)<k->(m:Int)≠i->l[m]?=some u2->¬hasW f u u2.frm) q) [0] (by decide) (0) (by conv=>lhs;cbv) (by conv=>lhs;cbv) rfl rfl (by dsimp only;exact ⟨by omega,λm u2 hm=>by omega⟩) λk hi2 Kn2 hN2=>?_;(try dsimp only at hi2);conv=>cbv);obtain ⟨h3,hin⟩:=hi2)
        |(refine callI hE (arc_ f u c hrg) (λa ha=>?_);(try conv=>cbv);refine addI hE (λtot2 htot2=>?_);(try conv=>cbv))
        |(refine hN (_,_) _ [] (by decide) rfl ⟨?_,?_,?_,?_⟩ ?_<;>(try dsimp only))
        |(refine hN2 _ _ [0] (by decide) rfl ⟨?_,?_⟩ ?_<;>(try dsimp only))
        |((first
       |refine q0 hE ?_
       |refine callP hE (has_ f u _ c hrg) (λ_=>?_) (λ_=>?_)
       |refine B0 hE ?_|refine B1 hE (λ_=>?_) λ_=>?_|refine B3 hE λ_ _ _=>?_|refine B2 hE λ_ _=>?_|refine B4 hE λ_ _ _ _=>?_)<;>(try conv=>cbv))
      all_goals (try clear hN)
      all_goals (try clear hN2)
      all_goals first
        |omega
        |(refine hinv.succ (scrC_of h0.1 hv hok (.inl (by omega))) (by assumption))
        |(refine hinv.succ (scrC_of h0.1 hv hok (.inr ⟨_,hq ▸ hv2,by omega⟩)) (by assumption))
        |(refine hw.succ h0.1 (by assumption) hv λm u2 hm hu=>hin m u2 (by have:=(List.getElem?_eq_some_iff.1 hu).1;omega) hm hu)
        |(intro h12;obtain ⟨g1,g2⟩:=htot h12;rw [IntWalk.i64_in _ ⟨by omega,by omega⟩] at htot2;rename_i hi1;rw [hi1,hsum];omega)
        |(intro m u3 hm hmi hu;by_cases e:(m:Int)=k;(rw [show m=k.toNat by omega,hv2] at hu;cases hu;assumption);exact hin m u3 (by omega) hmi hu)
        |(intro m u3 hm hmi hu;exact hin m u3 (by omega) hmi hu)
        |(refine finB hK (bP_false.2 (scrC_no (by omega) hv (hq ▸ hv2) (by omega))))
        |(refine finB hK (bP_false.2 λh=>?_);exact absurd (by assumption) (scsOk_W h (j:=i.toNat) (k:=k.toNat) (by omega) hv hv2))
        |trace_state
    · exact finB hK (bP_false.2 (scrC_bad hv hok))
  · have hall:∀j,j<l.length->ScrC l j:=hinv.all (by omega)
    have hap:l.length<=12->ScsAp l/\sumTo arcN l l.length<=360:=λ_=>by
      have h1:ScsAp l:=scsW_ap hall (by rw [show (l.length:Int)=i by omega];exact hw)
      exact ⟨h1,scs_total hall h1⟩
    have hil:i=l.length:=by omega
    rw [hil] at htot
    repeat' first
      |((first
     |refine q0 hE ?_
     |refine callP hE (few_ _ _) (λ_=>?_) (λ_=>?_)
     |refine B0 hE ?_|refine B1 hE (λ_=>?_) λ_=>?_|refine B3 hE λ_ _ _=>?_|refine B2 hE λ_ _=>?_|refine B4 hE λ_ _ _ _=>?_)<;>(try conv=>cbv))
    all_goals (try clear hN)
    all_goals first
      |(refine finB hK (bP_true.2 ⟨hall,by omega,(hap (by omega)).1⟩))
      |(exfalso;have h1:=hap (by omega);have h2:=htot (by omega);omega)
      |(refine finB hK (bP_false.2 λh=>?_);have:=h.2.1;omega)
      |trace_state
theorem l08Ok_ {rs:List (List AV)} {t:Bool} {l:List Scr} (hl:rs=l.map Scr.cs):AC Tryz.prog 172 [.sl t 3 rs] AV.bool (bP (ScsOk l)):=by
  refine ac Tryz.func172 (by kernel_rfl) (.bool _) λE K hE hK=>?_
  conv=>cbv
  refine lenL hE hl λn hn hb=>?_
  conv=>cbv
  refine ltI hE (λh12=>?_) (λh12=>?_)<;>conv=>cbv
  · exact finB hK (bP_false.2 λh=>by have:=h.2.1;omega)
  refine loopC hE (ι:=Int) [0,3] [4] (λq=>(λ(i:Int)=>[(4,.int .i64 i)]) q) (λq=>(λ(i:Int)=>[]) q) (λq=>(λ(i:Int)=>(n - i).toNat) q) (λq=>(λ(i:Int)=>(0<=i/\i<=l.length)/\Up (ScrC l) i) q) [] (by decide) (0) (by conv=>lhs;cbv) (by conv=>lhs;cbv) rfl rfl (by dsimp only;exact ⟨by omega,.zero (by omega)⟩) λi hi Kn hN=>?_
  (try dsimp only at hi)
  conv=>cbv
  obtain ⟨h0,hinv⟩:=hi
  refine ltI hE (λhlt=>?_) (λhge=>?_)<;>conv=>cbv
  · refine idxL (R:=Scr.cs) hE hl (by omega) λv hv=>?_
    obtain ⟨f,u,c⟩:=v
    conv=>cbv
    refine callP hE (l08One_ f u c) (λhok=>?_) (λhok=>?_)<;>conv=>cbv
    · skip
      repeat' first
        |(refine sub64 hE (by omega) (λq hq=>?_);(try conv=>cbv))
        |(refine idxV hE hl (by omega) hv ?_;(try conv=>cbv))
        |(refine idxL (R:=Scr.cs) hE hl (by omega) (λv2 hv2=>?_);obtain ⟨f2,u2,c2⟩:=v2;(try conv=>cbv))
        |(refine hN _ _ [] (by decide) rfl ⟨?_,?_⟩ ?_<;>(try dsimp only))
        |((first
       |refine q0 hE ?_
       |refine B0 hE ?_|refine B1 hE (λ_=>?_) λ_=>?_|refine B3 hE λ_ _ _=>?_|refine B2 hE λ_ _=>?_|refine B4 hE λ_ _ _ _=>?_)<;>(try conv=>cbv))
      all_goals (try clear hN)
      all_goals first
        |omega
        |(refine hinv.succ (scrC_of h0.1 hv hok (.inl (by omega))) (by assumption))
        |(refine hinv.succ (scrC_of h0.1 hv hok (.inr ⟨_,hq ▸ hv2,by omega⟩)) (by assumption))
        |(refine finB hK (bP_false.2 (scrC_no (by omega) hv (hq ▸ hv2) (by omega))))
        |trace_state
    · exact finB hK (bP_false.2 (scrC_bad hv hok))
  · have hall:∀j,j<l.length->ScrC l j:=hinv.all (by omega)
    clear hN
    refine loopC hE (ι:=Int) [0,3] [5] (λq=>(λ(i:Int)=>[(5,.int .i64 i)]) q) (λq=>(λ(i:Int)=>[]) q) (λq=>(λ(i:Int)=>(n - i).toNat) q) (λq=>(λ(i:Int)=>(0<=i/\i<=l.length)/\Up (ScsNx l) i) q) [] (by decide) (0) (by conv=>lhs;cbv) (by conv=>lhs;cbv) rfl rfl (by dsimp only;exact ⟨by omega,.zero (by omega)⟩) λi hi Kn hN=>?_
    (try dsimp only at hi)
    conv=>cbv
    obtain ⟨h0,hnx⟩:=hi
    refine ltI hE (λhlt=>?_) (λhge=>?_)<;>conv=>cbv
    · refine ltI hE (λh1=>?_) (λh1=>?_)<;>conv=>cbv
      · refine idxL (R:=Scr.cs) hE hl (by omega) λv hv=>?_
        obtain ⟨f,u,c⟩:=v
        have hok:=scr_at hall hv
        have hrg:(0<=f/\f<=359)/\0<=u/\u<=359:=⟨hok.1,hok.2.1⟩
        conv=>cbv
        refine callI hE (l08Arc_ f u c hrg) λa ha=>?_
        conv=>cbv
        refine add64 hE (by omega) λi1 hi1=>?_
        conv=>cbv
        refine needI hE (by omega) ?_
        refine rem64 hE (by omega) λm hm=>?_
        have hm0:0<=m/\m<l.length:=by rw [hm,hn];exact ⟨Int.emod_nonneg _ (by omega),Int.emod_lt_of_pos _ (by omega)⟩
        have hmn:m.toNat=(i.toNat+1) % l.length:=by
          have h2:(i+1) % (l.length:Int)=(((i.toNat+1) % l.length:Nat):Int):=by
            rw [Int.natCast_emod,show ((i.toNat+1:Nat):Int)=i+1 by omega]
          rw [hm,hi1,hn,h2]
          exact Int.toNat_natCast _
        conv=>cbv
        refine idxL (R:=Scr.cs) hE hl hm0 λv2 hv2=>?_
        obtain ⟨f2,u2,c2⟩:=v2
        have hok2:=scr_at hall hv2
        have hrg2:(0<=f2/\f2<=359)/\0<=u2/\u2<=359:=⟨hok2.1,hok2.2.1⟩
        rw [hmn] at hv2
        conv=>cbv
        repeat' first
          |(refine idxV hE hl (by omega) hv ?_;(try conv=>cbv))
          |(refine hN _ _ [] (by decide) rfl ⟨?_,?_⟩ ?_<;>(try dsimp only))
          |((first
         |refine q0 hE ?_
         |refine B0 hE ?_|refine B1 hE (λ_=>?_) λ_=>?_|refine B3 hE λ_ _ _=>?_|refine B2 hE λ_ _=>?_|refine B4 hE λ_ _ _ _=>?_)<;>(try conv=>cbv))
        all_goals (try clear hN)
        all_goals first
          |omega
          |(refine hnx.succ (λs w _ hs hw=>?_) (by assumption);rw [hv] at hs;cases hs;rw [hv2] at hw;cases hw;simp only;omega)
          |(refine finB hK (bP_false.2 λh=>?_);have:=(scs_nx hall).1 h.2.2 i.toNat (by omega) _ _ (by omega) hv hv2;simp only at this;omega)
          |trace_state
      · refine finB hK (bP_true.2 ⟨hall,by omega,(scs_nx hall).2 λj hj s w h2=>by omega⟩)
    · refine finB hK (bP_true.2 ⟨hall,by omega,(scs_nx hall).2 (hnx.all (by omega))⟩)
end Go.Proofs.YtalkhfljcnconaaGreatDoor
namespace Go.Proofs.YtalkhfljcnconaaGreatDoor
open Go Go.RowKit Classical
set_option maxRecDepth 100000
set_option maxHeartbeats 2000000
set_option linter.unusedVariables false
set_option linter.unusedSimpArgs false
theorem nxtI {E:Env} {np:Nat} {P:Program} (hE:E=stdE np P) {s:ByteArray} {p:Nat} {K:Int->Int->Nat->Prop} {K0:Prop} (f:Nat->Int) (hd:∀p,p<s.size->((Utf8.decode s p).1:Int)=f p/\(Utf8.decode s p).2=1) (h1:∀(q r:Int) (n:Nat),p<s.size->q=p->r=f p->n=p+1->K q r n) (h2:¬p<s.size->K0):E.nxt s p K K0:=by
  subst hE
  show if p<s.size then _ else _
  split
  · rename_i h
    obtain ⟨e1,e2⟩:=hd p h
    exact h1 _ _ _ h rfl e1 (by rw [e2])
  · rename_i h;exact h2 h
theorem ssub2 {E:Env} {np:Nat} {P:Program} (hE:E=stdE np P) {a:ByteArray} {lo hi:Int} {K:ByteArray->Prop} (h:0<=lo/\lo<=hi/\hi<=a.size) (hk:∀s,s=a.extract lo.toNat hi.toNat->K s):E.ssub a (some lo) (some hi) K:=
  ssubI hE h hk
theorem decode_cAll:∀p,p<cAll.size->((Utf8.decode cAll p).1:Int)=chr cAll p/\(Utf8.decode cAll p).2=1:=by
  have h:∀p:Fin 4,((Utf8.decode cAll p.1).1:Int)=chr cAll p.1/\(Utf8.decode cAll p.1).2=1:=by decide +kernel
  exact λp hp=>h ⟨p,hp⟩
theorem cAll_sub:∀p:Fin 4,cAll.extract p.1 (p.1+1)=allC.getD p.1 noS:=by
  have h:∀p:Fin 4,(cAll.extract p.1 (p.1+1)).data.toList=(allC.getD p.1 noS).data.toList:=by decide +kernel
  exact λp=>bytes_ext (by rw [bytes_toList,bytes_toList];exact h p)
theorem allC_one:∀p:Fin 4,(allC.getD p.1 noS).size=1:=by decide +kernel
theorem containsV_ (s c:ByteArray) (h:c.size=1):AC Tryz.prog 329 [.str s,.str c] AV.bool (decide (0<=Lib.indexByte s.data.toList (c.data.getD 0 0))):=by
  have:=containsOne_ s (c.data.getD 0 0)
  rwa [←size1 h] at this
theorem colsM_size (l:List Scr) (p:Nat) (b:Bool):(colsTo l p++fl (allC.getD p noS) b).size<=p+1:=by
  have h1:=colsTo_size l p
  have h2:=fl_size (allC.getD p noS) b
  have h3:=allC_size p
  rw [ByteArray.size_append];omega
theorem cols_zero (l:List Scr) (p:Nat):colsTo l p=colsTo l p++fl (allC.getD p noS) (occ (l.take 0) (allC.getD p noS)):=by
  rw [List.take_zero,occ_nil]
  exact (cat_noS _).symm
theorem cols_add {l:List Scr} {p:Nat} {k n:Int} {s:Scr} (h0:0<=k) (hs:l[k.toNat]?=some s) (hn:n=k+1) (hc:s.color=allC.getD p noS) (ho:occ (l.take k.toNat) (allC.getD p noS)=false):(colsTo l p++fl (allC.getD p noS) (occ (l.take k.toNat) (allC.getD p noS)))++allC.getD p noS=colsTo l p++fl (allC.getD p noS) (occ (l.take n.toNat) (allC.getD p noS)):=by
  rw [hn,occ_take _ h0 hs,ho,bP_eq (b:=true) ⟨λ_=>hc,λ_=>rfl⟩]
  show (colsTo l p++noS)++_=_++_
  rw [cat_noS];rfl
theorem cols_same {l:List Scr} {p:Nat} {k n:Int} {s:Scr} (h0:0<=k) (hs:l[k.toNat]?=some s) (hn:n=k+1) (h:s.color≠allC.getD p noS∨occ (l.take k.toNat) (allC.getD p noS)=true):occ (l.take n.toNat) (allC.getD p noS)=occ (l.take k.toNat) (allC.getD p noS):=by
  rw [hn,occ_take _ h0 hs]
  rcases h with h|h
  · rw [bP_eq (b:=false) ⟨λh'=>(by cases h'),λh'=>absurd h' h⟩];simp
  · rw [h];rfl
theorem colorsOf_ {rs:List (List AV)} {t:Bool} {l:List Scr} (hl:rs=l.map Scr.cs):AC Tryz.prog 294 [.sl t 3 rs] AV.str (colsR l):=by
  refine ac Tryz.func294 (by kernel_rfl) (.str _) λE K hE hK=>?_
  conv=>cbv
  refine loopC hE (ι:=Nat×ByteArray) [0,8] [3] (λq=>(λ(p:Nat) (out:ByteArray)=>[(3,.str out)]) q.1 q.2) (λq=>(λ(p:Nat) (out:ByteArray)=>[.iter cAll p]) q.1 q.2) (λq=>(λ(p:Nat) (out:ByteArray)=>((4 - (p:Int))).toNat) q.1 q.2) (λq=>(λ(p:Nat) (out:ByteArray)=>p<=4/\out=colsTo l p) q.1 q.2) [0] (by decide) ((0,noS)) (by conv=>lhs;cbv) (by conv=>lhs;cbv) rfl rfl (by dsimp only;exact ⟨by omega,rfl⟩) λq hi Kn hN=>?_
  obtain ⟨p,out⟩:=q
  (try dsimp only at hi)
  conv=>cbv
  obtain ⟨h0,hinv⟩:=hi
  refine nxtI hE (chr cAll) decode_cAll (λq r n hp hq hr hn=>?_) (λhp=>?_)<;>conv=>cbv
  · have hp4:p<4:=hp
    have hsub:=cAll_sub ⟨p,hp4⟩
    have hone:=allC_one ⟨p,hp4⟩
    simp only at hsub hone
    have hmz:=colsM_size l p
    refine lenL hE hl λm hm hb=>?_
    conv=>cbv
    repeat' first
      |((refine loopC hE (ι:=Int×ByteArray) [0,4,8,12,13] [14,3] (λq=>(λ(k:Int) (out2:ByteArray)=>[(14,.int .i64 k),(3,.str out2)]) q.1 q.2) (λq=>(λ(k:Int) (out2:ByteArray)=>[.iter cAll n]) q.1 q.2) (λq=>(λ(k:Int) (out2:ByteArray)=>(m - k).toNat) q.1 q.2) (λq=>(λ(k:Int) (out2:ByteArray)=>(0<=k/\k<=l.length)/\out2=colsTo l p++fl (allC.getD p noS) (occ (l.take k.toNat) (allC.getD p noS))) q.1 q.2) [0] (by decide) ((0,out)) (by conv=>lhs;cbv) (by conv=>lhs;cbv) rfl rfl (by dsimp only;exact ⟨by omega,by rw [hinv];exact cols_zero l p⟩) λq hi2 Kn2 hN2=>?_;obtain ⟨k,out2⟩:=q;(try dsimp only at hi2);conv=>cbv);obtain ⟨h1,h2⟩:=hi2;have hz2:=hmz (occ (l.take k.toNat) (allC.getD p noS));rw [←h2] at hz2)
      |(refine idxL (R:=Scr.cs) hE hl (by omega) (λv hv=>?_);obtain ⟨f,u,c⟩:=v;(try conv=>cbv))
      |(refine ssub2 hE (by refine ⟨by omega,by omega,?_⟩;show _<=((4:Nat):Int);omega) (λc2 hc2=>?_);(have hc3:c2=allC.getD p noS:=by rw [hc2,←hsub];congr 1<;>omega);clear hc2;(try conv=>cbv))
      |(refine callB hE (containsV_ out2 c2 (by rw [hc3];exact hone)) (λhin=>?_) (λhin=>?_)<;>(rw [h2,hc3,cols_has l hp4] at hin)<;>(try conv=>cbv))
      |(refine scatI hE (by rw [hc3];omega) (λout3 hout3 _=>?_);(try conv=>cbv))
      |(refine hN (_,_) _ [0] (by decide) rfl ⟨?_,?_⟩ ?_<;>(try dsimp only))
      |(refine hN2 (_,_) _ [0] (by decide) rfl ⟨?_,?_⟩ ?_<;>(try dsimp only))
      |((first
     |refine q0 hE ?_
     |refine B0 hE ?_|refine B1 hE (λ_=>?_) λ_=>?_|refine B3 hE λ_ _ _=>?_|refine B2 hE λ_ _=>?_|refine B4 hE λ_ _ _ _=>?_)<;>(try conv=>cbv))
    all_goals (try clear hN)
    all_goals (try clear hN2)
    all_goals first
      |omega
      |(rename_i hk1;rw [hout3,hc3,h2];exact cols_add h1.1 hv hk1 (by rw [←hc3];assumption) hin)
      |(rename_i hk1;rw [cols_same h1.1 hv hk1 (.inr hin)];exact h2)
      |(rename_i hk1;rw [cols_same h1.1 hv hk1 (.inl (by rw [←hc3];assumption))];exact h2)
      |(rw [h2,hn,List.take_of_length_le (by omega)];rfl)
      |trace_state
  · have hp4:¬p<4:=hp
    exact hK _ (by rw [hinv,show p=4 by omega];rfl)
theorem l08Colors_ {rs:List (List AV)} {t:Bool} {l:List Scr} (hl:rs=l.map Scr.cs):AC Tryz.prog 173 [.sl t 3 rs] AV.str (colsR l):=by
  refine ac Tryz.func173 (by kernel_rfl) (.str _) λE K hE hK=>?_
  conv=>cbv
  refine loopC hE (ι:=Int×ByteArray) [0,4] [5,3] (λq=>(λ(i:Int) (out:ByteArray)=>[(5,.int .i64 i),(3,.str out)]) q.1 q.2) (λq=>(λ(i:Int) (out:ByteArray)=>[.row 1 (allC.map strR)]) q.1 q.2) (λq=>(λ(i:Int) (out:ByteArray)=>(4 - i).toNat) q.1 q.2) (λq=>(λ(i:Int) (out:ByteArray)=>(0<=i/\i<=4)/\out=colsTo l i.toNat) q.1 q.2) [0] (by decide) ((0,noS)) (by conv=>lhs;cbv) (by conv=>lhs;cbv) rfl rfl (by dsimp only;exact ⟨by omega,rfl⟩) λq hi Kn hN=>?_
  obtain ⟨i,out⟩:=q
  (try dsimp only at hi)
  conv=>cbv
  obtain ⟨h0,hinv⟩:=hi
  have hz:=colsTo_size l i.toNat
  refine lenL (R:=strR) (l:=allC) hE (by rfl) λn4 hn4 _=>?_
  have hn5:n4=4:=hn4
  conv=>cbv
  refine ltI hE (λhlt=>?_) (λhge=>?_)<;>conv=>cbv
  · have hi4:i.toNat<4:=by omega
    have hone:=allC_one ⟨i.toNat,hi4⟩
    simp only at hone
    obtain ⟨cc,hcc⟩:∃c,c=allC.getD i.toNat noS:=⟨_,rfl⟩
    have hv4:allC[i.toNat]?=some cc:=by
      rw [hcc,List.getD_eq_getElem?_getD,List.getElem?_eq_getElem (show i.toNat<allC.length from hi4)];rfl
    have hstep:colsTo l (i+1).toNat=colsTo l i.toNat++fl (allC.getD i.toNat noS) (occ l (allC.getD i.toNat noS)):=by rw [show (i+1).toNat=i.toNat+1 by omega];rfl
    repeat' first
      |((refine loopC hE (ι:=Int×ByteArray) [0,4,5] [6,3] (λq=>(λ(k:Int) (out2:ByteArray)=>[(6,.int .i64 k),(3,.str out2)]) q.1 q.2) (λq=>(λ(k:Int) (out2:ByteArray)=>[.row 1 (allC.map strR)]) q.1 q.2) (λq=>(λ(k:Int) (out2:ByteArray)=>(l.length - k).toNat) q.1 q.2) (λq=>(λ(k:Int) (out2:ByteArray)=>(0<=k/\k<=l.length)/\out2=out/\occ (l.take k.toNat) (allC.getD i.toNat noS)=false) q.1 q.2) [0] (by decide) ((0,out)) (by conv=>lhs;cbv) (by conv=>lhs;cbv) rfl rfl (by dsimp only;exact ⟨by omega,rfl,by rw [show (0:Int).toNat=0 from rfl,List.take_zero];exact occ_nil _⟩) λq hi2 Kn2 hN2=>?_;obtain ⟨k,out2⟩:=q;(try dsimp only at hi2);conv=>cbv);obtain ⟨h1,ho2,h2⟩:=hi2;(have hz2:out2.size<=i.toNat:=by rw [ho2,hinv];exact hz))
      |(refine idxL (R:=Scr.cs) hE hl (by omega) (λv hv=>?_);obtain ⟨f,u,c⟩:=v;(try conv=>cbv))
      |(refine idxV (R:=strR) (l:=allC) hE (by rfl) (by omega) hv4 ?_;(try conv=>cbv))
      |(refine scatI hE (by rw [hcc];omega) (λout3 hout3 _=>?_);(try conv=>cbv))
      |(refine hN (_,_) _ [0] (by decide) rfl ⟨?_,?_⟩ ?_<;>(try dsimp only))
      |(refine hN2 (_,_) _ [0] (by decide) rfl ⟨?_,?_,?_⟩ ?_<;>(try dsimp only))
      |((first
     |refine q0 hE ?_
     |refine B0 hE ?_|refine B1 hE (λ_=>?_) λ_=>?_|refine B3 hE λ_ _ _=>?_|refine B2 hE λ_ _=>?_|refine B4 hE λ_ _ _ _=>?_)<;>(try conv=>cbv))
    all_goals (try clear hN)
    all_goals (try clear hN2)
    all_goals first
      |omega
      |exact ho2
      |(rename_i hk1;rw [cols_same h1.1 hv hk1 (.inl (by rw [←hcc];assumption))];exact h2)
      |(rename_i hi1;rw [hi1,hstep,hout3,hcc,ho2,hinv];congr 1;rw [occ,bP_eq (b:=true) (by simp only [true_iff];exact ⟨_,List.mem_of_getElem? hv,by rw [←hcc];assumption⟩)];rfl)
      |(rename_i hi1;rw [hi1,hstep,ho2,hinv];rw [List.take_of_length_le (by omega)] at h2;rw [h2];exact (cat_noS _).symm)
      |trace_state
  · exact hK _ (by rw [hinv,show i.toNat=4 by omega];rfl)
end Go.Proofs.YtalkhfljcnconaaGreatDoor
