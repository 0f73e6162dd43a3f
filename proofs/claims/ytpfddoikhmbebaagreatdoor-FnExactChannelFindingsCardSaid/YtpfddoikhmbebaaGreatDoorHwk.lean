/- Contracts: ships, works, orders, dangers, rising numbers. -/
import Derived.Test.YtpfddoikhmbebaaGreatDoorQf
namespace Go.Proofs.YtpfddoikhmbebaaGreatDoor
open Go Go.RowKit Classical
set_option maxRecDepth 100000
set_option maxHeartbeats 2000000
set_option linter.unusedVariables false
set_option linter.unusedSimpArgs false
theorem hasJ_ {rs:List (List AV)} {t:Bool} {l:List Int} (x:Int) (hl:rs=l.map intR):AC Tryz.prog 102 [.sl t 1 rs,.int .i64 x] AV.bool (bP (x∈l)):=by
  refine ac Tryz.func102 (.bool _) λE K hE hK=>?_
  conv=>cbv
  refine loop1 hE [0,1] [5] (λ(i:Int)=>([(5,.int .i64 i)],[],l.length - i,0<=i/\Up (λj=>l[j]?≠some x) i)) [] (0) rfl rfl (by dsimp only;exact ⟨by omega,.zero (by omega)⟩) λi hi Kn hN=>?_
  (try dsimp only at hi)
  conv=>cbv
  obtain ⟨h0,hinv⟩:=hi
  repeat' first
    |(refine hN _ _ [] (by decide) rfl ⟨?_,?_⟩ ?_<;>(try dsimp only))
    |((first
   |refine idxL (R:=intR) hE hl (by omega) (λv hv=>?_)
   |refine q0 hE ?_
   |refine B0 hE ?_|refine B1 hE ?_ ?_|refine B2 hE ?_)<;>intros<;>(try conv=>cbv))
  all_goals (try clear hN)
  all_goals first
    |omega
    |exact finB hK (bP_true.2 (by subst_vars;exact List.mem_of_getElem? hv))
    |(refine hinv.succ (λh=>?_) (by assumption);rw [hv] at h;cases h;contradiction)
    |(refine finB hK (bP_false.2 λh=>?_);obtain ⟨j,hj⟩:=List.getElem?_of_mem h;exact hinv j (by have:=(List.getElem?_eq_some_iff.1 hj).1;omega) hj)
theorem indexJ_ {rs:List (List AV)} {t:Bool} {l:List Int} (x:Int) (hl:rs=l.map intR):AC Tryz.prog 290 [.sl t 1 rs,.int .i64 x] (AV.int .i64) (firstI (λy=>x=y) l):=by
  refine ac Tryz.func290 (.int _ _) λE K hE hK=>?_
  conv=>cbv
  refine lenL hE hl λn hn hb=>?_
  conv=>cbv
  refine loop1 hE [0,1,7] [8] (λ(i:Int)=>([(8,.int .i64 i)],[],l.length - i,0<=i/\Up (λj=>∀v,l[j]? =some v->¬x=v) i)) [] (0) rfl rfl (by dsimp only;exact ⟨by omega,.zero (by omega)⟩) λi hi Kn hN=>?_
  (try dsimp only at hi)
  conv=>cbv
  obtain ⟨h0,hinv⟩:=hi
  repeat' first
    |(refine hN _ _ [] (by decide) rfl ⟨?_,?_⟩ ?_<;>(try dsimp only))
    |((first
   |refine idxL (R:=intR) hE hl (by omega) (λv hv=>?_)
   |refine q0 hE ?_
   |refine B0 hE ?_|refine B1 hE ?_ ?_|refine B2 hE ?_)<;>intros<;>(try conv=>cbv))
  all_goals (try clear hN)
  all_goals first
    |omega
    |(refine hK _ ?_;rw [firstI_in h0 hv (by assumption) hinv];rfl)
    |(refine hinv.succ (λw h=>?_) (by assumption);rw [hv] at h;cases h;assumption)
    |(refine hK _ ?_;rw [firstI_out (by omega) hinv];rfl)
theorem containsJ_ {rs:List (List AV)} {t:Bool} {l:List Int} (x:Int) (hl:rs=l.map intR):AC Tryz.prog 248 [.sl t 1 rs,.int .i64 x] AV.bool (bP (x∈l)):=by
  refine ac Tryz.func248 (.bool _) λE K hE hK=>?_
  conv=>cbv
  refine callI hE (indexJ_ x hl) λy hy=>?_
  conv=>cbv
  refine leI hE (λh=>?_) (λh=>?_)<;>conv=>cbv
  · refine finB hK (bP_true.2 ?_)
    obtain ⟨v,hv,e⟩:=firstI_ge.1 (hy ▸ h)
    rw [e];exact hv
  · exact finB hK (bP_false.2 λh'=>by have:0<=y:=hy ▸ firstI_ge.2 ⟨x,h',rfl⟩;omega)
def ShpOk (n:ByteArray) (s l d:Int):Prop:=NameOk n/\(1<=s/\s<=2000)/\(0<=l/\l<=1000)/\1<=d/\d<=200
theorem validShip_ (n:ByteArray) (s l d:Int):AC Tryz.prog 191 [.agg [.str n,.int .i64 s,.int .i64 l,.int .i64 d]] AV.bool (bP (ShpOk n s l d)):=by
  refine ac Tryz.func191 (.bool _) λE K hE hK=>?_
  conv=>cbv
  repeat' first
    |((first
   |refine q0 hE ?_
   |refine callP hE (isName_ _) (λ_=>?_) (λ_=>?_)
   |refine callP hE (within_ _ _ _) (λ_=>?_) (λ_=>?_)
   |refine B0 hE ?_|refine B1 hE ?_ ?_|refine B2 hE ?_)<;>intros<;>(try conv=>cbv))
  all_goals (try clear hN)
  all_goals first
    |(omega)
    |(refine finB hK (bP_true.2 ?_);first|omega|grind [ShpOk])
    |(refine finB hK (bP_false.2 ?_);first|omega|(intro h;grind [ShpOk]))
    |(refine ⟨by omega,Up.succ (by assumption) ?_ (by assumption)⟩;grind [ShpOk])
    |(refine hK _ ?_;simp_all [atup,ShpOk];done)
    |(grind [ShpOk])
theorem l25Ship_ (n:ByteArray) (s l d:Int):AC Tryz.prog 95 [.pp [.str n,.int .i64 s,.int .i64 l,.int .i64 d]] AV.bool (bP (ShpOk n s l d)):=by
  refine ac Tryz.func95 (.bool _) λE K hE hK=>?_
  conv=>cbv
  repeat' first
    |((first
   |refine q0 hE ?_
   |refine callP hE (l01Name_ _) (λ_=>?_) (λ_=>?_)
   |refine callP hE (in_ _ _ _) (λ_=>?_) (λ_=>?_)
   |refine B0 hE ?_|refine B1 hE ?_ ?_|refine B2 hE ?_)<;>intros<;>(try conv=>cbv))
  all_goals (try clear hN)
  all_goals first
    |(omega)
    |(refine finB hK (bP_true.2 ?_);first|omega|grind [ShpOk])
    |(refine finB hK (bP_false.2 ?_);first|omega|(intro h;grind [ShpOk]))
    |(refine ⟨by omega,Up.succ (by assumption) ?_ (by assumption)⟩;grind [ShpOk])
    |(refine hK _ ?_;simp_all [atup,ShpOk];done)
    |(grind [ShpOk])
def Wrk.ok (v:Wrk):Prop:=NameOk v.name/\PtOk v.atX v.atY/\(0<=v.load/\v.load<=1000)/\(1<=v.minutes/\v.minutes<=600)/\(0<=v.frm/\v.frm<=4320)/\(v.frm+v.minutes<=v.til/\v.til<=4320)
theorem isVoyageTime_ (t:Int):AC Tryz.prog 193 [.int .i64 t] AV.bool (bP (0<=t/\t<=4320)):=by
  refine ac Tryz.func193 (.bool _) λE K hE hK=>?_
  conv=>cbv
  repeat' first
    |((first
   |refine q0 hE ?_
   |refine callP hE (within_ _ _ _) (λ_=>?_) (λ_=>?_)
   |refine B0 hE ?_|refine B1 hE ?_ ?_|refine B2 hE ?_)<;>intros<;>(try conv=>cbv))
  all_goals (try clear hN)
  all_goals first
    |(omega)
    |(refine finB hK (bP_true.2 ?_);first|omega|grind)
    |(refine finB hK (bP_false.2 ?_);first|omega|(intro h;grind))
    |(refine ⟨by omega,Up.succ (by assumption) ?_ (by assumption)⟩;grind)
    |(refine hK _ ?_;simp_all [atup];done)
    |(grind)
theorem validWork_ (n:ByteArray) (x y l m f t:Int):AC Tryz.prog 247 [.agg [.str n,.int .i64 x,.int .i64 y,.int .i64 l,.int .i64 m,.int .i64 f,.int .i64 t]] AV.bool (bP (Wrk.ok ⟨n,x,y,l,m,f,t⟩)):=by
  refine ac Tryz.func247 (.bool _) λE K hE hK=>?_
  conv=>cbv
  repeat' first
    |((first
   |refine q0 hE ?_
   |refine callP hE (isName_ _) (λ_=>?_) (λ_=>?_)
   |refine callP hE (validPoint_ _ _) (λ_=>?_) (λ_=>?_)
   |refine callP hE (isVoyageTime_ _) (λ_=>?_) (λ_=>?_)
   |refine callP hE (within_ _ _ _) (λ_=>?_) (λ_=>?_)
   |refine B0 hE ?_|refine B1 hE ?_ ?_|refine B2 hE ?_)<;>intros<;>(try conv=>cbv))
  all_goals (try clear hN)
  all_goals first
    |(omega)
    |(refine finB hK (bP_true.2 ?_);first|omega|grind [Wrk.ok])
    |(refine finB hK (bP_false.2 ?_);first|omega|(intro h;grind [Wrk.ok]))
    |(refine ⟨by omega,Up.succ (by assumption) ?_ (by assumption)⟩;grind [Wrk.ok])
    |(refine hK _ ?_;simp_all [atup,Wrk.ok];done)
    |(grind [Wrk.ok])
theorem l25Work_ (n:ByteArray) (x y l m f t:Int):AC Tryz.prog 160 [.pp [.str n,.int .i64 x,.int .i64 y,.int .i64 l,.int .i64 m,.int .i64 f,.int .i64 t]] AV.bool (bP (Wrk.ok ⟨n,x,y,l,m,f,t⟩)):=by
  refine ac Tryz.func160 (.bool _) λE K hE hK=>?_
  conv=>cbv
  repeat' first
    |((first
   |refine q0 hE ?_
   |refine callP hE (l01Name_ _) (λ_=>?_) (λ_=>?_)
   |refine callP hE (l02Ok_ _ _) (λ_=>?_) (λ_=>?_)
   |refine callP hE (in_ _ _ _) (λ_=>?_) (λ_=>?_)
   |refine B0 hE ?_|refine B1 hE ?_ ?_|refine B2 hE ?_)<;>intros<;>(try conv=>cbv))
  all_goals (try clear hN)
  all_goals first
    |(omega)
    |(refine finB hK (bP_true.2 ?_);first|omega|grind [Wrk.ok])
    |(refine finB hK (bP_false.2 ?_);first|omega|(intro h;grind [Wrk.ok]))
    |(refine ⟨by omega,Up.succ (by assumption) ?_ (by assumption)⟩;grind [Wrk.ok])
    |(refine hK _ ?_;simp_all [atup,Wrk.ok];done)
    |(grind [Wrk.ok])
def Dgr.ok (v:Dgr):Prop:=NameOk v.name/\PtOk v.atX v.atY/\(1<=v.radius/\v.radius<=20000)
theorem validDanger_ (n:ByteArray) (x y r:Int):AC Tryz.prog 186 [.agg [.str n,.int .i64 x,.int .i64 y,.int .i64 r]] AV.bool (bP (Dgr.ok ⟨n,x,y,r⟩)):=by
  refine ac Tryz.func186 (.bool _) λE K hE hK=>?_
  conv=>cbv
  repeat' first
    |((first
   |refine q0 hE ?_
   |refine callP hE (isName_ _) (λ_=>?_) (λ_=>?_)
   |refine callP hE (validPoint_ _ _) (λ_=>?_) (λ_=>?_)
   |refine callP hE (within_ _ _ _) (λ_=>?_) (λ_=>?_)
   |refine B0 hE ?_|refine B1 hE ?_ ?_|refine B2 hE ?_)<;>intros<;>(try conv=>cbv))
  all_goals (try clear hN)
  all_goals first
    |(omega)
    |(refine finB hK (bP_true.2 ?_);first|omega|grind [Dgr.ok])
    |(refine finB hK (bP_false.2 ?_);first|omega|(intro h;grind [Dgr.ok]))
    |(refine ⟨by omega,Up.succ (by assumption) ?_ (by assumption)⟩;grind [Dgr.ok])
    |(refine hK _ ?_;simp_all [atup,Dgr.ok];done)
    |(grind [Dgr.ok])
theorem l14One_ (n:ByteArray) (x y r:Int):AC Tryz.prog 179 [.pp [.str n,.int .i64 x,.int .i64 y,.int .i64 r]] AV.bool (bP (Dgr.ok ⟨n,x,y,r⟩)):=by
  refine ac Tryz.func179 (.bool _) λE K hE hK=>?_
  conv=>cbv
  repeat' first
    |((first
   |refine q0 hE ?_
   |refine callP hE (l01Name_ _) (λ_=>?_) (λ_=>?_)
   |refine callP hE (l02Ok_ _ _) (λ_=>?_) (λ_=>?_)
   |refine callP hE (in_ _ _ _) (λ_=>?_) (λ_=>?_)
   |refine B0 hE ?_|refine B1 hE ?_ ?_|refine B2 hE ?_)<;>intros<;>(try conv=>cbv))
  all_goals (try clear hN)
  all_goals first
    |(omega)
    |(refine finB hK (bP_true.2 ?_);first|omega|grind [Dgr.ok])
    |(refine finB hK (bP_false.2 ?_);first|omega|(intro h;grind [Dgr.ok]))
    |(refine ⟨by omega,Up.succ (by assumption) ?_ (by assumption)⟩;grind [Dgr.ok])
    |(refine hK _ ?_;simp_all [atup,Dgr.ok];done)
    |(grind [Dgr.ok])
def Wrk.C (l:List Wrk) (j:Nat):Prop:=∃v,l[j]? =some v/\v.ok/\(0<j->∃w,l[j - 1]? =some w/\Op.bytesLess w.name.toList v.name.toList=true)
def WrksOk (l:List Wrk):Prop:=(∀j,j<l.length->Wrk.C l j)/\l.length<=12
theorem Wrk.bad {l:List Wrk} {i:Int} {v w:Wrk} (h0:0<i) (hv:l[i.toNat]? =some v) {k:Int} (hk:k=i - 1) (hw:l[k.toNat]? =some w) {c:Bool} (hc:c=Op.bytesLess w.name.toList v.name.toList) (h:WrksOk l):c=true:=by
  obtain ⟨v',e1,e2,e3⟩:=h.1 i.toNat (List.getElem?_eq_some_iff.1 hv).1
  rw [hv] at e1;cases e1
  obtain ⟨w',g1,g2⟩:=e3 (by omega)
  rw [show i.toNat - 1=k.toNat by omega,hw] at g1;cases g1
  rw [hc];exact g2
theorem validW_ {rs:List (List AV)} {t:Bool} {l:List Wrk} (hl:rs=l.map Wrk.cs):AC Tryz.prog 192 [.sl t 7 rs] AV.bool (bP (WrksOk l)):=by
  refine ac Tryz.func192 (.bool _) λE K hE hK=>?_
  conv=>cbv
  refine lenL hE hl λn hn hb=>?_
  conv=>cbv
  refine loop1 hE [0,5,6] [7] (λ(i:Int)=>([(7,.int .i64 i)],[],l.length - i,0<=i/\Up (Wrk.C l) i)) [] (0) rfl rfl (by dsimp only;exact ⟨by omega,.zero (by omega)⟩) λi hi Kn hN=>?_
  (try dsimp only at hi)
  conv=>cbv
  obtain ⟨h0,hinv⟩:=hi
  repeat' first
    |(refine hN _ _ [] (by decide) rfl ⟨?_,?_⟩ ?_<;>(try dsimp only))
    |((first
   |(refine idxL (R:=Wrk.cs) hE hl (by omega) (λv hv=>?_);obtain ⟨nm,x1,x2,x3,x4,x5,x6⟩:=v;(try conv=>cbv);refine callP hE (validWork_ _ _ _ _ _ _ _) (λh1=>?_) (λh1=>?_)<;>(try conv=>cbv);rotate_left;exact finB hK (bP_false.2 λh=>(by obtain ⟨v',e1,e2,e3⟩:=h.1 i.toNat (List.getElem?_eq_some_iff.1 hv).1;rw [hv] at e1;cases e1;exact h1 e2));refine ltI hE (λh2=>?_) (λh2=>?_)<;>(try conv=>cbv);refine sub64 hE (by omega) (λk hk=>?_);(try conv=>cbv);refine idxL (R:=Wrk.cs) hE hl (by omega) (λw hw=>?_);obtain ⟨nm',y1,y2,y3,y4,y5,y6⟩:=w;(try conv=>cbv);refine sltI hE (λc hc=>?_);cases hc2:c)
   |refine q0 hE ?_
   |refine callP hE (few_ _ _) (λ_=>?_) (λ_=>?_)
   |refine B0 hE ?_|refine B1 hE ?_ ?_|refine B2 hE ?_)<;>intros<;>(try conv=>cbv))
  all_goals (try clear hN)
  all_goals first
    |omega
    |exact finB hK (bP_true.2 ⟨hinv.all (by omega),by omega⟩)
    |(refine finB hK (bP_false.2 λh=>?_);have:=h.2;omega)
    |(refine finB hK (bP_false.2 λh=>?_);have:=Wrk.bad h2 hv hk hw hc h;rw [hc2] at this;cases this)
    |exact hinv.succ ⟨_,hv,h1,λ_=>⟨_,by rw [show i.toNat - 1=k.toNat by omega];exact hw,by rw [←hc];exact hc2⟩⟩ (by assumption)
    |exact hinv.succ ⟨_,hv,h1,λ_=>by omega⟩ (by assumption)
theorem sW_ {rs:List (List AV)} {t:Bool} {l:List Wrk} (hl:rs=l.map Wrk.cs):AC Tryz.prog 97 [.sl t 7 rs] AV.bool (bP (WrksOk l)):=by
  refine ac Tryz.func97 (.bool _) λE K hE hK=>?_
  conv=>cbv
  refine loop1 hE [0] [3] (λ(i:Int)=>([(3,.int .i64 i)],[],l.length - i,0<=i/\Up (Wrk.C l) i)) [] (0) rfl rfl (by dsimp only;exact ⟨by omega,.zero (by omega)⟩) λi hi Kn hN=>?_
  (try dsimp only at hi)
  conv=>cbv
  obtain ⟨h0,hinv⟩:=hi
  refine lenL hE hl λn hn hb=>?_
  conv=>cbv
  refine ltI hE (λhlt=>?_) (λhge=>?_)<;>conv=>cbv
  · refine idxL (R:=Wrk.cs) hE hl (by omega) (λv hv=>?_)
    obtain ⟨nm,x1,x2,x3,x4,x5,x6⟩:=v
    conv=>cbv
    refine callP hE (l25Work_ _ _ _ _ _ _ _) (λh1=>?_) (λh1=>?_)<;>conv=>cbv
    · refine ltI hE (λh2=>?_) (λh2=>?_)<;>conv=>cbv
      · refine sub64 hE (by omega) (λk hk=>?_)
        conv=>cbv
        refine idxL (R:=Wrk.cs) hE hl (by omega) (λw hw=>?_)
        obtain ⟨nm',y1,y2,y3,y4,y5,y6⟩:=w
        conv=>cbv
        refine idxV (R:=Wrk.cs) hE hl (by omega) hv ?_
        conv=>cbv
        refine sltI hE (λc hc=>?_)
        cases hc2:c<;>conv=>cbv
        · refine finB hK (bP_false.2 λh=>?_)
          have:=Wrk.bad h2 hv hk hw hc h;rw [hc2] at this;cases this
        · skip
          repeat' first
            |(refine hN _ _ [] (by decide) rfl ⟨?_,?_⟩ ?_<;>(try dsimp only))
            |((first
           |refine q0 hE ?_
           |refine B0 hE ?_|refine B1 hE ?_ ?_|refine B2 hE ?_)<;>intros<;>(try conv=>cbv))
          all_goals (try clear hN)
          all_goals first
            |omega
            |exact hinv.succ ⟨_,hv,h1,λ_=>⟨_,by rw [show i.toNat - 1=k.toNat by omega];exact hw,by rw [←hc];exact hc2⟩⟩ (by assumption)
      · skip
        repeat' first
          |(refine hN _ _ [] (by decide) rfl ⟨?_,?_⟩ ?_<;>(try dsimp only))
          |((first
         |refine q0 hE ?_
         |refine B0 hE ?_|refine B1 hE ?_ ?_|refine B2 hE ?_)<;>intros<;>(try conv=>cbv))
        all_goals (try clear hN)
        all_goals first
          |omega
          |exact hinv.succ ⟨_,hv,h1,λ_=>by omega⟩ (by assumption)
    · exact finB hK (bP_false.2 λh=>(by obtain ⟨v',e1,e2,e3⟩:=h.1 i.toNat (List.getElem?_eq_some_iff.1 hv).1;rw [hv] at e1;cases e1;exact h1 e2))
  · skip
    repeat' first
      |((first
     |refine q0 hE ?_
     |refine B0 hE ?_|refine B1 hE ?_ ?_|refine B2 hE ?_)<;>intros<;>(try conv=>cbv))
    all_goals first
      |exact finB hK (bP_true.2 ⟨hinv.all (by omega),by omega⟩)
      |(refine finB hK (bP_false.2 λh=>?_);have:=h.2;omega)
def Dgr.C (l:List Dgr) (j:Nat):Prop:=∃v,l[j]? =some v/\v.ok/\(0<j->∃w,l[j - 1]? =some w/\Op.bytesLess w.name.toList v.name.toList=true)
def DgrsOk (l:List Dgr):Prop:=(∀j,j<l.length->Dgr.C l j)/\l.length<=24
theorem Dgr.bad {l:List Dgr} {i:Int} {v w:Dgr} (h0:0<i) (hv:l[i.toNat]? =some v) {k:Int} (hk:k=i - 1) (hw:l[k.toNat]? =some w) {c:Bool} (hc:c=Op.bytesLess w.name.toList v.name.toList) (h:DgrsOk l):c=true:=by
  obtain ⟨v',e1,e2,e3⟩:=h.1 i.toNat (List.getElem?_eq_some_iff.1 hv).1
  rw [hv] at e1;cases e1
  obtain ⟨w',g1,g2⟩:=e3 (by omega)
  rw [show i.toNat - 1=k.toNat by omega,hw] at g1;cases g1
  rw [hc];exact g2
theorem validD_ {rs:List (List AV)} {t:Bool} {l:List Dgr} (hl:rs=l.map Dgr.cs):AC Tryz.prog 124 [.sl t 4 rs] AV.bool (bP (DgrsOk l)):=by
  refine ac Tryz.func124 (.bool _) λE K hE hK=>?_
  conv=>cbv
  refine lenL hE hl λn hn hb=>?_
  conv=>cbv
  refine loop1 hE [0,5,6] [7] (λ(i:Int)=>([(7,.int .i64 i)],[],l.length - i,0<=i/\Up (Dgr.C l) i)) [] (0) rfl rfl (by dsimp only;exact ⟨by omega,.zero (by omega)⟩) λi hi Kn hN=>?_
  (try dsimp only at hi)
  conv=>cbv
  obtain ⟨h0,hinv⟩:=hi
  repeat' first
    |(refine hN _ _ [] (by decide) rfl ⟨?_,?_⟩ ?_<;>(try dsimp only))
    |((first
   |(refine idxL (R:=Dgr.cs) hE hl (by omega) (λv hv=>?_);obtain ⟨nm,x1,x2,x3⟩:=v;(try conv=>cbv);refine callP hE (validDanger_ _ _ _ _) (λh1=>?_) (λh1=>?_)<;>(try conv=>cbv);rotate_left;exact finB hK (bP_false.2 λh=>(by obtain ⟨v',e1,e2,e3⟩:=h.1 i.toNat (List.getElem?_eq_some_iff.1 hv).1;rw [hv] at e1;cases e1;exact h1 e2));refine ltI hE (λh2=>?_) (λh2=>?_)<;>(try conv=>cbv);refine sub64 hE (by omega) (λk hk=>?_);(try conv=>cbv);refine idxL (R:=Dgr.cs) hE hl (by omega) (λw hw=>?_);obtain ⟨nm',y1,y2,y3⟩:=w;(try conv=>cbv);refine sltI hE (λc hc=>?_);cases hc2:c)
   |refine q0 hE ?_
   |refine callP hE (few_ _ _) (λ_=>?_) (λ_=>?_)
   |refine B0 hE ?_|refine B1 hE ?_ ?_|refine B2 hE ?_)<;>intros<;>(try conv=>cbv))
  all_goals (try clear hN)
  all_goals first
    |omega
    |exact finB hK (bP_true.2 ⟨hinv.all (by omega),by omega⟩)
    |(refine finB hK (bP_false.2 λh=>?_);have:=h.2;omega)
    |(refine finB hK (bP_false.2 λh=>?_);have:=Dgr.bad h2 hv hk hw hc h;rw [hc2] at this;cases this)
    |exact hinv.succ ⟨_,hv,h1,λ_=>⟨_,by rw [show i.toNat - 1=k.toNat by omega];exact hw,by rw [←hc];exact hc2⟩⟩ (by assumption)
    |exact hinv.succ ⟨_,hv,h1,λ_=>by omega⟩ (by assumption)
theorem sD_ {rs:List (List AV)} {t:Bool} {l:List Dgr} (hl:rs=l.map Dgr.cs):AC Tryz.prog 157 [.sl t 4 rs] AV.bool (bP (DgrsOk l)):=by
  refine ac Tryz.func157 (.bool _) λE K hE hK=>?_
  conv=>cbv
  refine loop1 hE [0] [3] (λ(i:Int)=>([(3,.int .i64 i)],[],l.length - i,0<=i/\Up (Dgr.C l) i)) [] (0) rfl rfl (by dsimp only;exact ⟨by omega,.zero (by omega)⟩) λi hi Kn hN=>?_
  (try dsimp only at hi)
  conv=>cbv
  obtain ⟨h0,hinv⟩:=hi
  refine lenL hE hl λn hn hb=>?_
  conv=>cbv
  refine ltI hE (λhlt=>?_) (λhge=>?_)<;>conv=>cbv
  · refine idxL (R:=Dgr.cs) hE hl (by omega) (λv hv=>?_)
    obtain ⟨nm,x1,x2,x3⟩:=v
    conv=>cbv
    refine callP hE (l14One_ _ _ _ _) (λh1=>?_) (λh1=>?_)<;>conv=>cbv
    · refine ltI hE (λh2=>?_) (λh2=>?_)<;>conv=>cbv
      · refine sub64 hE (by omega) (λk hk=>?_)
        conv=>cbv
        refine idxL (R:=Dgr.cs) hE hl (by omega) (λw hw=>?_)
        obtain ⟨nm',y1,y2,y3⟩:=w
        conv=>cbv
        refine idxV (R:=Dgr.cs) hE hl (by omega) hv ?_
        conv=>cbv
        refine sltI hE (λc hc=>?_)
        cases hc2:c<;>conv=>cbv
        · refine finB hK (bP_false.2 λh=>?_)
          have:=Dgr.bad h2 hv hk hw hc h;rw [hc2] at this;cases this
        · skip
          repeat' first
            |(refine hN _ _ [] (by decide) rfl ⟨?_,?_⟩ ?_<;>(try dsimp only))
            |((first
           |refine q0 hE ?_
           |refine B0 hE ?_|refine B1 hE ?_ ?_|refine B2 hE ?_)<;>intros<;>(try conv=>cbv))
          all_goals (try clear hN)
          all_goals first
            |omega
            |exact hinv.succ ⟨_,hv,h1,λ_=>⟨_,by rw [show i.toNat - 1=k.toNat by omega];exact hw,by rw [←hc];exact hc2⟩⟩ (by assumption)
      · skip
        repeat' first
          |(refine hN _ _ [] (by decide) rfl ⟨?_,?_⟩ ?_<;>(try dsimp only))
          |((first
         |refine q0 hE ?_
         |refine B0 hE ?_|refine B1 hE ?_ ?_|refine B2 hE ?_)<;>intros<;>(try conv=>cbv))
        all_goals (try clear hN)
        all_goals first
          |omega
          |exact hinv.succ ⟨_,hv,h1,λ_=>by omega⟩ (by assumption)
    · exact finB hK (bP_false.2 λh=>(by obtain ⟨v',e1,e2,e3⟩:=h.1 i.toNat (List.getElem?_eq_some_iff.1 hv).1;rw [hv] at e1;cases e1;exact h1 e2))
  · skip
    repeat' first
      |((first
     |refine q0 hE ?_
     |refine B0 hE ?_|refine B1 hE ?_ ?_|refine B2 hE ?_)<;>intros<;>(try conv=>cbv))
    all_goals first
      |exact finB hK (bP_true.2 ⟨hinv.all (by omega),by omega⟩)
      |(refine finB hK (bP_false.2 λh=>?_);have:=h.2;omega)
def RisC (a b:Int) (l:List Int) (j:Nat):Prop:=∃v,l[j]? =some v/\(a<=v/\v<=b)/\(0<j->∃w,l[j - 1]? =some w/\w<v)
def RisOk (a b:Int) (l:List Int):Prop:=∀j,j<l.length->RisC a b l j
theorem RisOk.of {a b:Int} {l:List Int} (h:RisOk a b l) {i:Int} {v:Int} (hv:l[i.toNat]? =some v):(a<=v/\v<=b)/\(0<i->∀w,l[(i - 1).toNat]? =some w->w<v):=by
  obtain ⟨v',e1,e2,e3⟩:=h i.toNat (List.getElem?_eq_some_iff.1 hv).1
  rw [hv] at e1;cases e1
  refine ⟨e2,λh0 w hw=>?_⟩
  obtain ⟨w',g1,g2⟩:=e3 (by omega)
  rw [show i.toNat - 1=(i - 1).toNat by omega,hw] at g1;cases g1;exact g2
theorem areFull_ {rs:List (List AV)} {t:Bool} {l:List Int}  (hl:rs=l.map intR):AC Tryz.prog 128 [.sl t 1 rs] AV.bool (bP (RisOk 1 9999 l/\l.length<=24)):=by
  refine ac Tryz.func128 (.bool _) λE K hE hK=>?_
  conv=>cbv
  repeat' first
    |((refine loop1 hE [0,5,6] [7] (λ(i:Int)=>([(7,.int .i64 i)],[],l.length - i,0<=i/\Up (RisC (1) (9999) l) i)) [] (0) rfl rfl (by dsimp only;exact ⟨by omega,.zero (by omega)⟩) λi hi2 Kn2 hN2=>?_;(try dsimp only at hi2);conv=>cbv);obtain ⟨h0,hinv⟩:=hi2)
    |(refine hN2 _ _ [] (by decide) rfl ⟨?_,?_⟩ ?_<;>(try dsimp only))
    |((first
   |refine lenL hE hl (λn hn hb=>?_)
   |(refine sub64 hE (by omega) (λk hk=>?_);(try conv=>cbv);refine idxL (R:=intR) hE hl (by omega) (λw hw=>?_))
   |refine idxV (R:=intR) hE hl (by omega) hv ?_
   |refine idxL (R:=intR) hE hl (by omega) (λv hv=>?_)
   |refine q0 hE ?_
   |refine callP hE (isNumber_ _) (λ_=>?_) (λ_=>?_)
   |refine callP hE (few_ _ _) (λ_=>?_) (λ_=>?_)
   |refine B0 hE ?_|refine B1 hE ?_ ?_|refine B2 hE ?_)<;>intros<;>(try conv=>cbv))
  all_goals (try clear hN2)
  all_goals first
    |omega
    |exact hinv.succ ⟨_,hv,by omega,λ_=>⟨_,by rw [show i.toNat - 1=k.toNat by omega];exact hw,by omega⟩⟩ (by assumption)
    |exact hinv.succ ⟨_,hv,by omega,λ_=>by omega⟩ (by assumption)
    |exact finB hK (bP_true.2 ⟨hinv.all (by omega),by omega⟩)
    |exact finB hK (bP_true.2 (hinv.all (by omega)))
    |(refine finB hK (bP_false.2 λh=>?_);have h5:=RisOk.of h.1 hv;have h6:=h5.2 (by omega) w (by rw [show i - 1=k by omega];exact hw);omega)
    |(refine finB hK (bP_false.2 λh=>?_);have h5:=RisOk.of h hv;have h6:=h5.2 (by omega) w (by rw [show i - 1=k by omega];exact hw);omega)
    |(refine finB hK (bP_false.2 λh=>?_);have h5:=RisOk.of h.1 hv;omega)
    |(refine finB hK (bP_false.2 λh=>?_);have h5:=RisOk.of h hv;omega)
    |(refine finB hK (bP_false.2 λh=>?_);have h5:=h.2;omega)
theorem l00Rises_ {rs:List (List AV)} {t:Bool} {l:List Int} (a b:Int) (hl:rs=l.map intR):AC Tryz.prog 94 [.sl t 1 rs,.int .i64 a,.int .i64 b] AV.bool (bP (RisOk a b l)):=by
  refine ac Tryz.func94 (.bool _) λE K hE hK=>?_
  conv=>cbv
  repeat' first
    |((refine loop1 hE [0,1,2] [7] (λ(i:Int)=>([(7,.int .i64 i)],[],l.length - i,0<=i/\Up (RisC (a) (b) l) i)) [] (0) rfl rfl (by dsimp only;exact ⟨by omega,.zero (by omega)⟩) λi hi2 Kn2 hN2=>?_;(try dsimp only at hi2);conv=>cbv);obtain ⟨h0,hinv⟩:=hi2)
    |(refine hN2 _ _ [] (by decide) rfl ⟨?_,?_⟩ ?_<;>(try dsimp only))
    |((first
   |refine lenL hE hl (λn hn hb=>?_)
   |(refine sub64 hE (by omega) (λk hk=>?_);(try conv=>cbv);refine idxL (R:=intR) hE hl (by omega) (λw hw=>?_))
   |refine idxV (R:=intR) hE hl (by omega) hv ?_
   |refine idxL (R:=intR) hE hl (by omega) (λv hv=>?_)
   |refine q0 hE ?_
   |refine callP hE (in_ _ _ _) (λ_=>?_) (λ_=>?_)
   |refine callP hE (few_ _ _) (λ_=>?_) (λ_=>?_)
   |refine B0 hE ?_|refine B1 hE ?_ ?_|refine B2 hE ?_)<;>intros<;>(try conv=>cbv))
  all_goals (try clear hN2)
  all_goals first
    |omega
    |exact hinv.succ ⟨_,hv,by omega,λ_=>⟨_,by rw [show i.toNat - 1=k.toNat by omega];exact hw,by omega⟩⟩ (by assumption)
    |exact hinv.succ ⟨_,hv,by omega,λ_=>by omega⟩ (by assumption)
    |exact finB hK (bP_true.2 ⟨hinv.all (by omega),by omega⟩)
    |exact finB hK (bP_true.2 (hinv.all (by omega)))
    |(refine finB hK (bP_false.2 λh=>?_);have h5:=RisOk.of h.1 hv;have h6:=h5.2 (by omega) w (by rw [show i - 1=k by omega];exact hw);omega)
    |(refine finB hK (bP_false.2 λh=>?_);have h5:=RisOk.of h hv;have h6:=h5.2 (by omega) w (by rw [show i - 1=k by omega];exact hw);omega)
    |(refine finB hK (bP_false.2 λh=>?_);have h5:=RisOk.of h.1 hv;omega)
    |(refine finB hK (bP_false.2 λh=>?_);have h5:=RisOk.of h hv;omega)
    |(refine finB hK (bP_false.2 λh=>?_);have h5:=h.2;omega)
def OrdC (m:Nat) (o:List Int) (j:Nat):Prop:=∃k,o[j]? =some k/\(0<=k/\k<m)/\k∉o.take j
def OrdOk (m:Nat) (o:List Int):Prop:=∀j,j<o.length->OrdC m o j
theorem OrdOk.of {m:Nat} {o:List Int} (h:OrdOk m o) {i:Int} {k:Int} (hk:o[i.toNat]? =some k):(0<=k/\k<m)/\k∉o.take i.toNat:=by
  obtain ⟨v',e1,e2⟩:=h i.toNat (List.getElem?_eq_some_iff.1 hk).1
  rw [hk] at e1;cases e1;exact e2
theorem isOrder_ {rs ro:List (List AV)} {t t':Bool} {l:List Wrk} {o:List Int} (hl:rs=l.map Wrk.cs) (ho:ro=o.map intR):AC Tryz.prog 194 [.sl t 7 rs,.sl t' 1 ro] AV.bool (bP (OrdOk l.length o)):=by
  refine ac Tryz.func194 (.bool _) λE K hE hK=>?_
  conv=>cbv
  repeat' first
    |((refine loop1 hE [0,1,7,8] [9] (λ(i:Int)=>([(9,.int .i64 i)],[],o.length - i,0<=i/\Up (OrdC l.length o) i)) [] (0) rfl rfl (by dsimp only;exact ⟨by omega,.zero (by omega)⟩) λi hi2 Kn2 hN2=>?_;(try dsimp only at hi2);conv=>cbv);obtain ⟨h0,hinv⟩:=hi2)
    |(refine hN2 _ _ [] (by decide) rfl ⟨?_,?_⟩ ?_<;>(try dsimp only))
    |((first
   |refine lenL hE ho (λn hn hb=>?_)
   |refine lenL hE hl (λm hm hb3=>?_)
   |refine idxV (R:=intR) hE ho (by omega) (by assumption) ?_
   |refine idxL (R:=intR) hE ho (by omega) (λv hv=>?_)
   |(refine subL (R:=intR) hE ho (by simp only [Option.getD_some,Option.getD_none];omega) (λrs2 hrs2=>?_);(have hrs3:rs2=(o.take i.toNat).map intR:=by rw [hrs2];simp))
   |refine q0 hE ?_
   |refine callP hE (at_ _ _) (λ_=>?_) (λ_=>?_)
   |refine callP hE (containsJ_ _ hrs3) (λ_=>?_) (λ_=>?_)
   |refine B0 hE ?_|refine B1 hE ?_ ?_|refine B2 hE ?_)<;>intros<;>(try conv=>cbv))
  all_goals (try clear hN2)
  all_goals first
    |omega
    |exact hinv.succ ⟨_,hv,by omega,by assumption⟩ (by assumption)
    |exact finB hK (bP_true.2 (hinv.all (by omega)))
    |(refine finB hK (bP_false.2 λh=>?_);have h5:=h.of hv;omega)
    |(refine finB hK (bP_false.2 λh=>?_);have h5:=h.of hv;exact h5.2 (by assumption))
theorem l25Order_ {rs ro:List (List AV)} {t t':Bool} {l:List Wrk} {o:List Int} (hl:rs=l.map Wrk.cs) (ho:ro=o.map intR):AC Tryz.prog 98 [.sl t 7 rs,.sl t' 1 ro] AV.bool (bP (OrdOk l.length o)):=by
  refine ac Tryz.func98 (.bool _) λE K hE hK=>?_
  conv=>cbv
  repeat' first
    |((refine loop1 hE [0,1] [5] (λ(i:Int)=>([(5,.int .i64 i)],[],o.length - i,0<=i/\Up (OrdC l.length o) i)) [] (0) rfl rfl (by dsimp only;exact ⟨by omega,.zero (by omega)⟩) λi hi2 Kn2 hN2=>?_;(try dsimp only at hi2);conv=>cbv);obtain ⟨h0,hinv⟩:=hi2)
    |(refine hN2 _ _ [] (by decide) rfl ⟨?_,?_⟩ ?_<;>(try dsimp only))
    |((first
   |refine lenL hE ho (λn hn hb=>?_)
   |refine lenL hE hl (λm hm hb3=>?_)
   |refine idxV (R:=intR) hE ho (by omega) (by assumption) ?_
   |refine idxL (R:=intR) hE ho (by omega) (λv hv=>?_)
   |(refine subL (R:=intR) hE ho (by simp only [Option.getD_some,Option.getD_none];omega) (λrs2 hrs2=>?_);(have hrs3:rs2=(o.take i.toNat).map intR:=by rw [hrs2];simp))
   |refine q0 hE ?_
   |refine callP hE (in_ _ _ _) (λ_=>?_) (λ_=>?_)
   |refine callP hE (hasJ_ _ hrs3) (λ_=>?_) (λ_=>?_)
   |refine B0 hE ?_|refine B1 hE ?_ ?_|refine B2 hE ?_)<;>intros<;>(try conv=>cbv))
  all_goals (try clear hN2)
  all_goals first
    |omega
    |exact hinv.succ ⟨_,hv,by omega,by assumption⟩ (by assumption)
    |exact finB hK (bP_true.2 (hinv.all (by omega)))
    |(refine finB hK (bP_false.2 λh=>?_);have h5:=h.of hv;omega)
    |(refine finB hK (bP_false.2 λh=>?_);have h5:=h.of hv;exact h5.2 (by assumption))
end Go.Proofs.YtpfddoikhmbebaaGreatDoor
