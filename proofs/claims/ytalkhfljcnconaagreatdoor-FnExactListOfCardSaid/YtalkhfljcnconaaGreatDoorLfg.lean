/- Contracts: the list of lights after the notices by the reference; the law. -/
import Derived.Test.YtalkhfljcnconaaGreatDoorLfe
import Derived.Test.YtalkhfljcnconaaGreatDoorQe
namespace Go.Proofs.YtalkhfljcnconaaGreatDoor
open Go Go.RowKit Classical
set_option maxRecDepth 100000
set_option maxHeartbeats 2000000
set_option linter.unusedVariables false
set_option linter.unusedSimpArgs false
set_option maxHeartbeats 4000000
theorem sListOf_ (day:Int) (away:Int) (tolerance:Int) (sName:ByteArray) (sSpeed:Int) (sLoad:Int) (sDraught:Int) (bX:Int) (bY:Int) (start:Int) {r_edition:List (List AV)} {t_edition:Bool} {b_edition:Bool} {edition:List Aid} {r_notices:List (List AV)} {t_notices:Bool} {b_notices:Bool} {notices:List Ntc} {r_fairways:List (List AV)} {t_fairways:Bool} {b_fairways:Bool} {fairways:List Fwy} {r_dangers:List (List AV)} {t_dangers:Bool} {dangers:List Dgr} {r_observers:List (List AV)} {t_observers:Bool} {observers:List Obv} {r_full:List (List AV)} {t_full:Bool} {full:List Int} {r_works:List (List AV)} {t_works:Bool} {works:List Wrk} {r_order:List (List AV)} {t_order:Bool} {order:List Int} (h_edition:r_edition=edition.map (Aid.cs b_edition)) (h_notices:r_notices=notices.map (Ntc.cs b_notices)) (h_fairways:r_fairways=fairways.map (Fwy.cs b_fairways)) (h_dangers:r_dangers=dangers.map Dgr.cs) (h_observers:r_observers=observers.map Obv.cs) (h_full:r_full=full.map intR) (h_works:r_works=works.map Wrk.cs) (h_order:r_order=order.map intR):AC Tryz.prog 6 [.agg [.sl t_edition 16 r_edition,.sl t_notices 20 r_notices,.int .i64 day,.sl t_fairways 5 r_fairways,.sl t_dangers 4 r_dangers,.int .i64 away,.sl t_observers 4 r_observers,.int .i64 tolerance,.sl t_full 1 r_full,.str sName,.int .i64 sSpeed,.int .i64 sLoad,.int .i64 sDraught,.int .i64 bX,.int .i64 bY,.sl t_works 7 r_works,.sl t_order 1 r_order,.int .i64 start]] aidsI (listR (Aut.mk edition notices day fairways dangers away observers tolerance full sName sSpeed sLoad sDraught bX bY works order start)):=by
  refine acL Tryz.func6 (by kernel_rfl) (.aidsI _) λE K hE hK=>?_
  conv=>cbv
  refine callP hE (l31Ok_ _ _ _ _ _ _ _ _ _ _ h_edition h_notices h_fairways h_dangers h_observers h_full h_works h_order) (λhok=>?_) (λhok=>?_)<;>conv=>cbv
  · refine callLI (R:=Aid.cs true) hE (l31List_ _ _ _ _ _ _ _ _ _ _ (by assumption) (by assumption) (by assumption) (by assumption) (by assumption) (by assumption) (by assumption) (by assumption) hok) λrs n hrs hn=>?_
    conv=>cbv
    exact hK _ (by rw [hrs,hn];rfl)
  · refine nilOwnI hE 16 ?_
    conv=>cbv
    exact hK _ (by rw [listR,if_neg hok];rfl)
theorem lawListOf (day:Int) (away:Int) (tolerance:Int) (sName:ByteArray) (sSpeed:Int) (sLoad:Int) (sDraught:Int) (bX:Int) (bY:Int) (start:Int) {r_edition:List (List AV)} {t_edition:Bool} {b_edition:Bool} {edition:List Aid} {r_notices:List (List AV)} {t_notices:Bool} {b_notices:Bool} {notices:List Ntc} {r_fairways:List (List AV)} {t_fairways:Bool} {b_fairways:Bool} {fairways:List Fwy} {r_dangers:List (List AV)} {t_dangers:Bool} {dangers:List Dgr} {r_observers:List (List AV)} {t_observers:Bool} {observers:List Obv} {r_full:List (List AV)} {t_full:Bool} {full:List Int} {r_works:List (List AV)} {t_works:Bool} {works:List Wrk} {r_order:List (List AV)} {t_order:Bool} {order:List Int} (h_edition:r_edition=edition.map (Aid.cs b_edition)) (h_notices:r_notices=notices.map (Ntc.cs b_notices)) (h_fairways:r_fairways=fairways.map (Fwy.cs b_fairways)) (h_dangers:r_dangers=dangers.map Dgr.cs) (h_observers:r_observers=observers.map Obv.cs) (h_full:r_full=full.map intR) (h_works:r_works=works.map Wrk.cs) (h_order:r_order=order.map intR):AC Tryz.prog 3 [.agg [.sl t_edition 16 r_edition,.sl t_notices 20 r_notices,.int .i64 day,.sl t_fairways 5 r_fairways,.sl t_dangers 4 r_dangers,.int .i64 away,.sl t_observers 4 r_observers,.int .i64 tolerance,.sl t_full 1 r_full,.str sName,.int .i64 sSpeed,.int .i64 sLoad,.int .i64 sDraught,.int .i64 bX,.int .i64 bY,.sl t_works 7 r_works,.sl t_order 1 r_order,.int .i64 start]] id (.bool true):=by
  refine acL Tryz.func3 (by kernel_rfl) (.bool _) λE K hE hK=>?_
  conv=>cbv
  refine callI hE (szAuthority_ _ _ _ _ _ _ _ _ _ _ h_edition h_notices h_fairways h_dangers h_observers h_full h_works h_order _ (by decide)) λz hz=>?_
  have hz2:=szN_or2 hz
  clear hz
  conv=>cbv
  refine ltI hE (λhlt=>?_) (λhge=>?_)<;>conv=>cbv
  · exact hK _ rfl
  have hsz:Aut.sz (Aut.mk edition notices day fairways dangers away observers tolerance full sName sSpeed sLoad sDraught bX bY works order start)<=1048576:=by omega
  have hlo:=listR_ok (Aut.mk edition notices day fairways dangers away observers tolerance full sName sSpeed sLoad sDraught bX bY works order start)
  have hl24:=hlo.2
  have hmk:∀v∈(listR (Aut.mk edition notices day fairways dangers away observers tolerance full sName sSpeed sLoad sDraught bX bY works order start)).1,Aid.mk1 v<=10000000:=λv hv=>by
    have:=Aid.ok_short (hlo.mem hv)
    unfold Aid.short at this
    unfold Aid.mk1
    omega
  repeat' first
    |(refine callMI hE (markAuthority_ _ _ _ _ _ _ _ _ _ _ (by assumption) (by assumption) (by assumption) (by assumption) (by assumption) (by assumption) (by assumption) (by assumption) _ (by omega) hsz) ?_;rintro _ _ ⟨n9,hn9,rfl,rfl⟩;conv=>cbv)
    |(refine callMI hE (markAidX_ _ (by assumption) (by omega) (by omega) hmk) ?_;rintro _ _ ⟨n,rs',hn,hrs',rfl,rfl⟩;conv=>cbv)
    |((first
   |refine q0 hE ?_
   |refine callAut hE (toAuthority_ _ _ _ _ _ _ _ _ _ _ h_edition h_notices h_fairways h_dangers h_observers h_full h_works h_order hsz) (λ_ _ _ _ _ _ _ _ _ _ _ _ _ _ _ _=>?_)
   |refine callLI (R:=Aid.cs true) (k:=16) hE (sListOf_ _ _ _ _ _ _ _ _ _ _ (by assumption) (by assumption) (by assumption) (by assumption) (by assumption) (by assumption) (by assumption) (by assumption)) (λ_ _ _ _=>?_)
   |refine callLI (R:=Aid.cs true) (k:=16) hE (listOf_ _ _ _ _ _ _ _ _ _ _ (by assumption) (by assumption) (by assumption) (by assumption) (by assumption) (by assumption) (by assumption) (by assumption)) (λ_ _ _ _=>?_)
   |refine callPT hE (eqAuthority_ _ _ _ _ _ _ _ _ _ _ _ _ _ _ _ _ _ _ _ _ (by assumption) (by assumption) (by assumption) (by assumption) (by assumption) (by assumption) (by assumption) (by assumption) (by assumption) (by assumption) (by assumption) (by assumption) (by assumption) (by assumption) (by assumption) (by assumption)) rfl ?_
   |refine callPT hE (eqAidS_ (by assumption) (by assumption)) rfl ?_
   |refine sameI hE (by subst_vars;simp only [List.length_map,mkA_len];first|done|omega) ?_
   |refine callI hE (heldAidS_ _ (by assumption) (by omega) (by omega) hmk) (λ_ _=>?_)
   |refine B0 hE ?_|refine B1 hE (λ_=>?_) λ_=>?_|refine B3 hE λ_ _ _=>?_|refine B2 hE λ_ _=>?_|refine B4 hE λ_ _ _ _=>?_)<;>(try conv=>cbv))
  all_goals first
    |exact hK _ rfl
    |omega
    |trace_state
theorem lawListOf2 (a:Aut):AC Tryz.prog 3 [.agg (a.cs false)] id (.bool true):=
  lawListOf a.day a.away a.tolerance a.sName a.sSpeed a.sLoad a.sDraught a.bX a.bY a.start rfl rfl rfl rfl rfl rfl rfl rfl
end Go.Proofs.YtalkhfljcnconaaGreatDoor
