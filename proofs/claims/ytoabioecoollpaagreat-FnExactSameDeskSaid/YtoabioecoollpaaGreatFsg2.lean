/- Contracts: the law of desks that are alike. -/
import Derived.Test.YtoabioecoollpaaGreatFsf2
namespace Go.Proofs.YtoabioecoollpaaGreat
open Go Go.RowKit Classical
set_option maxRecDepth 100000
set_option maxHeartbeats 2000000
set_option linter.unusedVariables false
set_option linter.unusedSimpArgs false
set_option maxHeartbeats 40000000
theorem lawSameDesk (day : Int) (away : Int) (tolerance : Int) (sName : ByteArray) (sSpeed : Int) (sLoad : Int) (sDraught : Int) (bX : Int) (bY : Int) (start : Int) (day' : Int) (away' : Int) (tolerance' : Int) (sName' : ByteArray) (sSpeed' : Int) (sLoad' : Int) (sDraught' : Int) (bX' : Int) (bY' : Int) (start' : Int) {r_edition : List (List AV)} {t_edition : Bool} {b_edition : Bool} {edition : List Aid} {r_notices : List (List AV)} {t_notices : Bool} {b_notices : Bool} {notices : List Ntc} {r_fairways : List (List AV)} {t_fairways : Bool} {b_fairways : Bool} {fairways : List Fwy} {r_dangers : List (List AV)} {t_dangers : Bool} {dangers : List Dgr} {r_observers : List (List AV)} {t_observers : Bool} {observers : List Obv} {r_full : List (List AV)} {t_full : Bool} {full : List Int} {r_works : List (List AV)} {t_works : Bool} {works : List Wrk} {r_order : List (List AV)} {t_order : Bool} {order : List Int} {r_faults : List (List AV)} {t_faults : Bool} {faults : List Fau} {r_warnings : List (List AV)} {t_warnings : Bool} {warnings : List War} {r_duties : List (List AV)} {t_duties : Bool} {duties : List Dut} {r_visits : List (List AV)} {t_visits : Bool} {visits : List Vis} {r_edition' : List (List AV)} {t_edition' : Bool} {b_edition' : Bool} {edition' : List Aid} {r_notices' : List (List AV)} {t_notices' : Bool} {b_notices' : Bool} {notices' : List Ntc} {r_fairways' : List (List AV)} {t_fairways' : Bool} {b_fairways' : Bool} {fairways' : List Fwy} {r_dangers' : List (List AV)} {t_dangers' : Bool} {dangers' : List Dgr} {r_observers' : List (List AV)} {t_observers' : Bool} {observers' : List Obv} {r_full' : List (List AV)} {t_full' : Bool} {full' : List Int} {r_works' : List (List AV)} {t_works' : Bool} {works' : List Wrk} {r_order' : List (List AV)} {t_order' : Bool} {order' : List Int} {r_faults' : List (List AV)} {t_faults' : Bool} {faults' : List Fau} {r_warnings' : List (List AV)} {t_warnings' : Bool} {warnings' : List War} {r_duties' : List (List AV)} {t_duties' : Bool} {duties' : List Dut} {r_visits' : List (List AV)} {t_visits' : Bool} {visits' : List Vis} (h_edition : r_edition = edition.map (Aid.cs b_edition)) (h_notices : r_notices = notices.map (Ntc.cs b_notices)) (h_fairways : r_fairways = fairways.map (Fwy.cs b_fairways)) (h_dangers : r_dangers = dangers.map Dgr.cs) (h_observers : r_observers = observers.map Obv.cs) (h_full : r_full = full.map intR) (h_works : r_works = works.map Wrk.cs) (h_order : r_order = order.map intR) (h_faults : r_faults = faults.map Fau.cs) (h_warnings : r_warnings = warnings.map War.cs) (h_duties : r_duties = duties.map Dut.cs) (h_visits : r_visits = visits.map Vis.cs) (h_edition' : r_edition' = edition'.map (Aid.cs b_edition')) (h_notices' : r_notices' = notices'.map (Ntc.cs b_notices')) (h_fairways' : r_fairways' = fairways'.map (Fwy.cs b_fairways')) (h_dangers' : r_dangers' = dangers'.map Dgr.cs) (h_observers' : r_observers' = observers'.map Obv.cs) (h_full' : r_full' = full'.map intR) (h_works' : r_works' = works'.map Wrk.cs) (h_order' : r_order' = order'.map intR) (h_faults' : r_faults' = faults'.map Fau.cs) (h_warnings' : r_warnings' = warnings'.map War.cs) (h_duties' : r_duties' = duties'.map Dut.cs) (h_visits' : r_visits' = visits'.map Vis.cs) : AC Tryz.prog 3 [.agg [.sl t_edition 16 r_edition, .sl t_notices 20 r_notices, .int .i64 day, .sl t_fairways 5 r_fairways, .sl t_dangers 4 r_dangers, .int .i64 away, .sl t_observers 4 r_observers, .int .i64 tolerance, .sl t_full 1 r_full, .str sName, .int .i64 sSpeed, .int .i64 sLoad, .int .i64 sDraught, .int .i64 bX, .int .i64 bY, .sl t_works 7 r_works, .sl t_order 1 r_order, .int .i64 start, .sl t_faults 4 r_faults, .sl t_warnings 8 r_warnings, .sl t_duties 3 r_duties, .sl t_visits 3 r_visits], .agg [.sl t_edition' 16 r_edition', .sl t_notices' 20 r_notices', .int .i64 day', .sl t_fairways' 5 r_fairways', .sl t_dangers' 4 r_dangers', .int .i64 away', .sl t_observers' 4 r_observers', .int .i64 tolerance', .sl t_full' 1 r_full', .str sName', .int .i64 sSpeed', .int .i64 sLoad', .int .i64 sDraught', .int .i64 bX', .int .i64 bY', .sl t_works' 7 r_works', .sl t_order' 1 r_order', .int .i64 start', .sl t_faults' 4 r_faults', .sl t_warnings' 8 r_warnings', .sl t_duties' 3 r_duties', .sl t_visits' 3 r_visits']] id (.bool true) := by
  refine ac Tryz.func3 (by kernel_rfl) (.bool _) fun E K hE hK => ?_
  conv => cbv
  repeat' first
    | (refine callI hE (szDesk_ _ _ _ _ _ _ _ _ _ _ (by assumption) (by assumption) (by assumption) (by assumption) (by assumption) (by assumption) (by assumption) (by assumption) (by assumption) (by assumption) (by assumption) (by assumption) _ (by omega)) (fun y hy => ?_); have hz := szN_or2 hy; clear hy; (try conv => cbv))
    | ((first
     | refine idxV hE (by assumption) (by omega) (by assumption) ?_
     | refine callDsk hE (toDesk_ _ _ _ _ _ _ _ _ _ _ (by assumption) (by assumption) (by assumption) (by assumption) (by assumption) (by assumption) (by assumption) (by assumption) (by assumption) (by assumption) (by assumption) (by assumption) (by omega)) (fun _ _ _ _ _ _ _ _ _ _ _ _ _ _ _ _ _ _ _ _ _ _ _ _ => ?_)
     | refine callPT hE (sSameDsk_ _ _ _ _ _ _ _ _ _ _ _ _ _ _ _ _ _ _ _ _ (by assumption) (by assumption) (by assumption) (by assumption) (by assumption) (by assumption) (by assumption) (by assumption) (by assumption) (by assumption) (by assumption) (by assumption) (by assumption) (by assumption) (by assumption) (by assumption) (by assumption) (by assumption) (by assumption) (by assumption) (by assumption) (by assumption) (by assumption) (by assumption)) (by assumption) ?_
     | refine callPF hE (sSameDsk_ _ _ _ _ _ _ _ _ _ _ _ _ _ _ _ _ _ _ _ _ (by assumption) (by assumption) (by assumption) (by assumption) (by assumption) (by assumption) (by assumption) (by assumption) (by assumption) (by assumption) (by assumption) (by assumption) (by assumption) (by assumption) (by assumption) (by assumption) (by assumption) (by assumption) (by assumption) (by assumption) (by assumption) (by assumption) (by assumption) (by assumption)) (by assumption) ?_
     | refine callP hE (sSameDsk_ _ _ _ _ _ _ _ _ _ _ _ _ _ _ _ _ _ _ _ _ (by assumption) (by assumption) (by assumption) (by assumption) (by assumption) (by assumption) (by assumption) (by assumption) (by assumption) (by assumption) (by assumption) (by assumption) (by assumption) (by assumption) (by assumption) (by assumption) (by assumption) (by assumption) (by assumption) (by assumption) (by assumption) (by assumption) (by assumption) (by assumption)) (fun _ => ?_) (fun _ => ?_)
     | refine callPT hE (sameDsk_ _ _ _ _ _ _ _ _ _ _ _ _ _ _ _ _ _ _ _ _ (by assumption) (by assumption) (by assumption) (by assumption) (by assumption) (by assumption) (by assumption) (by assumption) (by assumption) (by assumption) (by assumption) (by assumption) (by assumption) (by assumption) (by assumption) (by assumption) (by assumption) (by assumption) (by assumption) (by assumption) (by assumption) (by assumption) (by assumption) (by assumption)) (by assumption) ?_
     | refine callPF hE (sameDsk_ _ _ _ _ _ _ _ _ _ _ _ _ _ _ _ _ _ _ _ _ (by assumption) (by assumption) (by assumption) (by assumption) (by assumption) (by assumption) (by assumption) (by assumption) (by assumption) (by assumption) (by assumption) (by assumption) (by assumption) (by assumption) (by assumption) (by assumption) (by assumption) (by assumption) (by assumption) (by assumption) (by assumption) (by assumption) (by assumption) (by assumption)) (by assumption) ?_
     | refine callP hE (sameDsk_ _ _ _ _ _ _ _ _ _ _ _ _ _ _ _ _ _ _ _ _ (by assumption) (by assumption) (by assumption) (by assumption) (by assumption) (by assumption) (by assumption) (by assumption) (by assumption) (by assumption) (by assumption) (by assumption) (by assumption) (by assumption) (by assumption) (by assumption) (by assumption) (by assumption) (by assumption) (by assumption) (by assumption) (by assumption) (by assumption) (by assumption)) (fun _ => ?_) (fun _ => ?_)
     | refine callPT hE (eqDesk_ _ _ _ _ _ _ _ _ _ _ _ _ _ _ _ _ _ _ _ _ (by assumption) (by assumption) (by assumption) (by assumption) (by assumption) (by assumption) (by assumption) (by assumption) (by assumption) (by assumption) (by assumption) (by assumption) (by assumption) (by assumption) (by assumption) (by assumption) (by assumption) (by assumption) (by assumption) (by assumption) (by assumption) (by assumption) (by assumption) (by assumption)) rfl ?_
     | refine ltT hE (by omega) ?_
     | refine ltF hE (by omega) ?_
     | refine ltI hE (fun _ => ?_) (fun _ => ?_)
     | refine leT hE (by omega) ?_
     | refine leF hE (by omega) ?_
     | refine leI hE (fun _ => ?_) (fun _ => ?_)
     | refine eqT hE (by omega) ?_
     | refine eqF hE (by omega) ?_
     | refine eqI hE (fun _ => ?_) (fun _ => ?_)
     | refine add64 hE (by omega) (fun _ _ => ?_)
     | refine sub64 hE (by omega) (fun _ _ => ?_)
     | refine addI hE (fun _ _ => ?_)
     | refine subI hE (fun _ _ => ?_)
     | refine lenL hE (by assumption) (fun _ _ _ => ?_)
     | refine len0 hE (fun _ _ => ?_)
     | refine idxL hE (by assumption) (by first | omega | (simp only [List.length_set, mix_len]; omega)) (fun _ _ => ?_)
     | refine idxFill hE (by assumption) (by omega) ?_
     | refine idxI hE (by decide) (by rfl) ?_
     | refine iteB (fun _ => ?_) (fun _ => ?_)
     | refine maxI hE (fun _ _ => ?_)
     | refine minI hE (fun _ _ => ?_)
     | refine seqI hE (fun _ => ?_) (fun _ => ?_)
     | refine scatI hE (by first | omega | (simp only [ByteArray.size, Array.size, List.length_cons, List.length_nil] at *; omega)) (fun _ _ _ => ?_)
     | refine slenI hE (fun _ _ _ => ?_)
     | refine sidxI hE (by omega) (fun _ _ _ _ => ?_)
     | refine needI hE (by first | decide | omega) ?_
     | refine rem64 hE (by omega) (fun _ _ => ?_)
     | refine quo64 hE (by omega) (fun _ _ => ?_)
     | refine wrapU8 hE (by omega) (fun _ _ => ?_)
     | refine wrap64 hE (by omega) (fun _ _ => ?_)
     | refine noownI hE (by simp [AV.isOwn]) ?_) <;> (try conv => cbv))
  all_goals first
    | exact hK _ rfl
    | omega
    | trace_state
theorem lawSameDesk2 (a b : Dsk) : AC Tryz.prog 3 [.agg (a.cs false), .agg (b.cs false)] id (.bool true) :=
  lawSameDesk a.day a.away a.tolerance a.sName a.sSpeed a.sLoad a.sDraught a.bX a.bY a.start b.day b.away b.tolerance b.sName b.sSpeed b.sLoad b.sDraught b.bX b.bY b.start rfl rfl rfl rfl rfl rfl rfl rfl rfl rfl rfl rfl rfl rfl rfl rfl rfl rfl rfl rfl rfl rfl rfl rfl
end Go.Proofs.YtoabioecoollpaaGreat
