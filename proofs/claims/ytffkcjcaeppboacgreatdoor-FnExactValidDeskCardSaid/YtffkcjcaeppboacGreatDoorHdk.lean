/- Contracts: valid desks; the law. -/
import Derived.Test.YtffkcjcaeppboacGreatDoorHau
import Derived.Test.YtffkcjcaeppboacGreatDoorFyf
import Derived.Test.YtffkcjcaeppboacGreatDoorFfa
import Derived.Test.YtffkcjcaeppboacGreatDoorFwb
import Derived.Test.YtffkcjcaeppboacGreatDoorFu
namespace Go.Proofs.YtffkcjcaeppboacGreatDoor
open Go Go.RowKit Classical
set_option maxRecDepth 100000
set_option maxHeartbeats 2000000
set_option linter.unusedVariables false
set_option linter.unusedSimpArgs false
def Dsk.aut (d : Dsk) : Aut := ⟨d.edition, d.notices, d.day, d.fairways, d.dangers, d.away, d.observers, d.tolerance, d.full, d.sName, d.sSpeed, d.sLoad, d.sDraught, d.bX, d.bY, d.works, d.order, d.start⟩
def Dsk.ok (d : Dsk) : Prop := d.aut.ok ∧ FaultsOk d.faults ∧ WarnsOk d.warnings ∧ DutiesOk d.duties ∧ VisitsOk d.visits
set_option maxHeartbeats 8000000
theorem validDesk_ (day : Int) (away : Int) (tolerance : Int) (sName : ByteArray) (sSpeed : Int) (sLoad : Int) (sDraught : Int) (bX : Int) (bY : Int) (start : Int) {r_edition : List (List AV)} {t_edition : Bool} {b_edition : Bool} {edition : List Aid} {r_notices : List (List AV)} {t_notices : Bool} {b_notices : Bool} {notices : List Ntc} {r_fairways : List (List AV)} {t_fairways : Bool} {b_fairways : Bool} {fairways : List Fwy} {r_dangers : List (List AV)} {t_dangers : Bool} {dangers : List Dgr} {r_observers : List (List AV)} {t_observers : Bool} {observers : List Obv} {r_full : List (List AV)} {t_full : Bool} {full : List Int} {r_works : List (List AV)} {t_works : Bool} {works : List Wrk} {r_order : List (List AV)} {t_order : Bool} {order : List Int} {r_faults : List (List AV)} {t_faults : Bool} {faults : List Fau} {r_warnings : List (List AV)} {t_warnings : Bool} {warnings : List War} {r_duties : List (List AV)} {t_duties : Bool} {duties : List Dut} {r_visits : List (List AV)} {t_visits : Bool} {visits : List Vis} (h_edition : r_edition = edition.map (Aid.cs b_edition)) (h_notices : r_notices = notices.map (Ntc.cs b_notices)) (h_fairways : r_fairways = fairways.map (Fwy.cs b_fairways)) (h_dangers : r_dangers = dangers.map Dgr.cs) (h_observers : r_observers = observers.map Obv.cs) (h_full : r_full = full.map intR) (h_works : r_works = works.map Wrk.cs) (h_order : r_order = order.map intR) (h_faults : r_faults = faults.map Fau.cs) (h_warnings : r_warnings = warnings.map War.cs) (h_duties : r_duties = duties.map Dut.cs) (h_visits : r_visits = visits.map Vis.cs) : AC Tryz.prog 7 [.agg [.sl t_edition 16 r_edition, .sl t_notices 20 r_notices, .int .i64 day, .sl t_fairways 5 r_fairways, .sl t_dangers 4 r_dangers, .int .i64 away, .sl t_observers 4 r_observers, .int .i64 tolerance, .sl t_full 1 r_full, .str sName, .int .i64 sSpeed, .int .i64 sLoad, .int .i64 sDraught, .int .i64 bX, .int .i64 bY, .sl t_works 7 r_works, .sl t_order 1 r_order, .int .i64 start, .sl t_faults 4 r_faults, .sl t_warnings 8 r_warnings, .sl t_duties 3 r_duties, .sl t_visits 3 r_visits]] AV.bool (bP (Dsk.ok (Dsk.mk edition notices day fairways dangers away observers tolerance full sName sSpeed sLoad sDraught bX bY works order start faults warnings duties visits))) := by
  refine ac Tryz.func7 (by kernel_rfl) (.bool _) fun E K hE hK => ?_
  conv => cbv
  repeat' first
    | ((first
   | refine q0 hE ?_
   | refine callP hE (validAuthority_ _ _ _ _ _ _ _ _ _ _ h_edition h_notices h_fairways h_dangers h_observers h_full h_works h_order) (fun _ => ?_) (fun _ => ?_)
   | refine callP hE (validFaults_ h_faults) (fun _ => ?_) (fun _ => ?_)
   | refine callP hE (validWarnings_ h_warnings) (fun _ => ?_) (fun _ => ?_)
   | refine callP hE (validDuties_ h_duties) (fun _ => ?_) (fun _ => ?_)
   | refine callP hE (validVisits_ h_visits) (fun _ => ?_) (fun _ => ?_)
   | refine B0 hE ?_|refine B1 hE (fun _=>?_) fun _=>?_|refine B3 hE fun _ _ _=>?_|refine B2 hE fun _ _=>?_|refine B4 hE fun _ _ _ _=>?_) <;> (try conv => cbv))
  all_goals first
    | exact finB hK (bP_true.2 ⟨by assumption, by assumption, by assumption, by assumption, by assumption⟩)
    | (refine finB hK (bP_false.2 fun h => ?_); obtain ⟨e1, e2, e3, e4, e5⟩ := h; first | exact absurd e1 (by assumption) | exact absurd e2 (by assumption) | exact absurd e3 (by assumption) | exact absurd e4 (by assumption) | exact absurd e5 (by assumption))
    | trace_state
theorem l32Ok_ (day : Int) (away : Int) (tolerance : Int) (sName : ByteArray) (sSpeed : Int) (sLoad : Int) (sDraught : Int) (bX : Int) (bY : Int) (start : Int) {r_edition : List (List AV)} {t_edition : Bool} {b_edition : Bool} {edition : List Aid} {r_notices : List (List AV)} {t_notices : Bool} {b_notices : Bool} {notices : List Ntc} {r_fairways : List (List AV)} {t_fairways : Bool} {b_fairways : Bool} {fairways : List Fwy} {r_dangers : List (List AV)} {t_dangers : Bool} {dangers : List Dgr} {r_observers : List (List AV)} {t_observers : Bool} {observers : List Obv} {r_full : List (List AV)} {t_full : Bool} {full : List Int} {r_works : List (List AV)} {t_works : Bool} {works : List Wrk} {r_order : List (List AV)} {t_order : Bool} {order : List Int} {r_faults : List (List AV)} {t_faults : Bool} {faults : List Fau} {r_warnings : List (List AV)} {t_warnings : Bool} {warnings : List War} {r_duties : List (List AV)} {t_duties : Bool} {duties : List Dut} {r_visits : List (List AV)} {t_visits : Bool} {visits : List Vis} (h_edition : r_edition = edition.map (Aid.cs b_edition)) (h_notices : r_notices = notices.map (Ntc.cs b_notices)) (h_fairways : r_fairways = fairways.map (Fwy.cs b_fairways)) (h_dangers : r_dangers = dangers.map Dgr.cs) (h_observers : r_observers = observers.map Obv.cs) (h_full : r_full = full.map intR) (h_works : r_works = works.map Wrk.cs) (h_order : r_order = order.map intR) (h_faults : r_faults = faults.map Fau.cs) (h_warnings : r_warnings = warnings.map War.cs) (h_duties : r_duties = duties.map Dut.cs) (h_visits : r_visits = visits.map Vis.cs) : AC Tryz.prog 14 [.pp [.sl t_edition 16 r_edition, .sl t_notices 20 r_notices, .int .i64 day, .sl t_fairways 5 r_fairways, .sl t_dangers 4 r_dangers, .int .i64 away, .sl t_observers 4 r_observers, .int .i64 tolerance, .sl t_full 1 r_full, .str sName, .int .i64 sSpeed, .int .i64 sLoad, .int .i64 sDraught, .int .i64 bX, .int .i64 bY, .sl t_works 7 r_works, .sl t_order 1 r_order, .int .i64 start, .sl t_faults 4 r_faults, .sl t_warnings 8 r_warnings, .sl t_duties 3 r_duties, .sl t_visits 3 r_visits]] AV.bool (bP (Dsk.ok (Dsk.mk edition notices day fairways dangers away observers tolerance full sName sSpeed sLoad sDraught bX bY works order start faults warnings duties visits))) := by
  refine ac Tryz.func14 (by kernel_rfl) (.bool _) fun E K hE hK => ?_
  conv => cbv
  repeat' first
    | ((first
   | refine q0 hE ?_
   | refine callP hE (AC.tl1 (l31Ok_ _ _ _ _ _ _ _ _ _ _ h_edition h_notices h_fairways h_dangers h_observers h_full h_works h_order)) (fun _ => ?_) (fun _ => ?_)
   | refine callP hE (l20Ok_ h_faults) (fun _ => ?_) (fun _ => ?_)
   | refine callP hE (l22Ok_ h_warnings) (fun _ => ?_) (fun _ => ?_)
   | refine callP hE (l28Ok_ h_duties) (fun _ => ?_) (fun _ => ?_)
   | refine callP hE (l30Ok_ h_visits) (fun _ => ?_) (fun _ => ?_)
   | refine B0 hE ?_|refine B1 hE (fun _=>?_) fun _=>?_|refine B3 hE fun _ _ _=>?_|refine B2 hE fun _ _=>?_|refine B4 hE fun _ _ _ _=>?_) <;> (try conv => cbv))
  all_goals first
    | exact finB hK (bP_true.2 ⟨by assumption, by assumption, by assumption, by assumption, by assumption⟩)
    | (refine finB hK (bP_false.2 fun h => ?_); obtain ⟨e1, e2, e3, e4, e5⟩ := h; first | exact absurd e1 (by assumption) | exact absurd e2 (by assumption) | exact absurd e3 (by assumption) | exact absurd e4 (by assumption) | exact absurd e5 (by assumption))
    | trace_state
theorem sValidDesk_ (day : Int) (away : Int) (tolerance : Int) (sName : ByteArray) (sSpeed : Int) (sLoad : Int) (sDraught : Int) (bX : Int) (bY : Int) (start : Int) {r_edition : List (List AV)} {t_edition : Bool} {b_edition : Bool} {edition : List Aid} {r_notices : List (List AV)} {t_notices : Bool} {b_notices : Bool} {notices : List Ntc} {r_fairways : List (List AV)} {t_fairways : Bool} {b_fairways : Bool} {fairways : List Fwy} {r_dangers : List (List AV)} {t_dangers : Bool} {dangers : List Dgr} {r_observers : List (List AV)} {t_observers : Bool} {observers : List Obv} {r_full : List (List AV)} {t_full : Bool} {full : List Int} {r_works : List (List AV)} {t_works : Bool} {works : List Wrk} {r_order : List (List AV)} {t_order : Bool} {order : List Int} {r_faults : List (List AV)} {t_faults : Bool} {faults : List Fau} {r_warnings : List (List AV)} {t_warnings : Bool} {warnings : List War} {r_duties : List (List AV)} {t_duties : Bool} {duties : List Dut} {r_visits : List (List AV)} {t_visits : Bool} {visits : List Vis} (h_edition : r_edition = edition.map (Aid.cs b_edition)) (h_notices : r_notices = notices.map (Ntc.cs b_notices)) (h_fairways : r_fairways = fairways.map (Fwy.cs b_fairways)) (h_dangers : r_dangers = dangers.map Dgr.cs) (h_observers : r_observers = observers.map Obv.cs) (h_full : r_full = full.map intR) (h_works : r_works = works.map Wrk.cs) (h_order : r_order = order.map intR) (h_faults : r_faults = faults.map Fau.cs) (h_warnings : r_warnings = warnings.map War.cs) (h_duties : r_duties = duties.map Dut.cs) (h_visits : r_visits = visits.map Vis.cs) : AC Tryz.prog 5 [.agg [.sl t_edition 16 r_edition, .sl t_notices 20 r_notices, .int .i64 day, .sl t_fairways 5 r_fairways, .sl t_dangers 4 r_dangers, .int .i64 away, .sl t_observers 4 r_observers, .int .i64 tolerance, .sl t_full 1 r_full, .str sName, .int .i64 sSpeed, .int .i64 sLoad, .int .i64 sDraught, .int .i64 bX, .int .i64 bY, .sl t_works 7 r_works, .sl t_order 1 r_order, .int .i64 start, .sl t_faults 4 r_faults, .sl t_warnings 8 r_warnings, .sl t_duties 3 r_duties, .sl t_visits 3 r_visits]] AV.bool (bP (Dsk.ok (Dsk.mk edition notices day fairways dangers away observers tolerance full sName sSpeed sLoad sDraught bX bY works order start faults warnings duties visits))) := by
  refine ac Tryz.func5 (by kernel_rfl) (.bool _) fun E K hE hK => ?_
  conv => cbv
  repeat' first
    | ((first
   | refine q0 hE ?_
   | refine callP hE (l32Ok_ _ _ _ _ _ _ _ _ _ _ h_edition h_notices h_fairways h_dangers h_observers h_full h_works h_order h_faults h_warnings h_duties h_visits) (fun _ => ?_) (fun _ => ?_)
   | refine B0 hE ?_|refine B1 hE (fun _=>?_) fun _=>?_|refine B3 hE fun _ _ _=>?_|refine B2 hE fun _ _=>?_|refine B4 hE fun _ _ _ _=>?_) <;> (try conv => cbv))
  all_goals first
    | exact finB hK (bP_true.2 (by assumption))
    | exact finB hK (bP_false.2 (by assumption))
    | trace_state
theorem lawValidDesk (day : Int) (away : Int) (tolerance : Int) (sName : ByteArray) (sSpeed : Int) (sLoad : Int) (sDraught : Int) (bX : Int) (bY : Int) (start : Int) {r_edition : List (List AV)} {t_edition : Bool} {b_edition : Bool} {edition : List Aid} {r_notices : List (List AV)} {t_notices : Bool} {b_notices : Bool} {notices : List Ntc} {r_fairways : List (List AV)} {t_fairways : Bool} {b_fairways : Bool} {fairways : List Fwy} {r_dangers : List (List AV)} {t_dangers : Bool} {dangers : List Dgr} {r_observers : List (List AV)} {t_observers : Bool} {observers : List Obv} {r_full : List (List AV)} {t_full : Bool} {full : List Int} {r_works : List (List AV)} {t_works : Bool} {works : List Wrk} {r_order : List (List AV)} {t_order : Bool} {order : List Int} {r_faults : List (List AV)} {t_faults : Bool} {faults : List Fau} {r_warnings : List (List AV)} {t_warnings : Bool} {warnings : List War} {r_duties : List (List AV)} {t_duties : Bool} {duties : List Dut} {r_visits : List (List AV)} {t_visits : Bool} {visits : List Vis} (h_edition : r_edition = edition.map (Aid.cs b_edition)) (h_notices : r_notices = notices.map (Ntc.cs b_notices)) (h_fairways : r_fairways = fairways.map (Fwy.cs b_fairways)) (h_dangers : r_dangers = dangers.map Dgr.cs) (h_observers : r_observers = observers.map Obv.cs) (h_full : r_full = full.map intR) (h_works : r_works = works.map Wrk.cs) (h_order : r_order = order.map intR) (h_faults : r_faults = faults.map Fau.cs) (h_warnings : r_warnings = warnings.map War.cs) (h_duties : r_duties = duties.map Dut.cs) (h_visits : r_visits = visits.map Vis.cs) : AC Tryz.prog 3 [.agg [.sl t_edition 16 r_edition, .sl t_notices 20 r_notices, .int .i64 day, .sl t_fairways 5 r_fairways, .sl t_dangers 4 r_dangers, .int .i64 away, .sl t_observers 4 r_observers, .int .i64 tolerance, .sl t_full 1 r_full, .str sName, .int .i64 sSpeed, .int .i64 sLoad, .int .i64 sDraught, .int .i64 bX, .int .i64 bY, .sl t_works 7 r_works, .sl t_order 1 r_order, .int .i64 start, .sl t_faults 4 r_faults, .sl t_warnings 8 r_warnings, .sl t_duties 3 r_duties, .sl t_visits 3 r_visits]] id (.bool true) := by
  refine ac Tryz.func3 (by kernel_rfl) (.bool _) fun E K hE hK => ?_
  conv => cbv
  refine callI hE (szDesk_ _ _ _ _ _ _ _ _ _ _ h_edition h_notices h_fairways h_dangers h_observers h_full h_works h_order h_faults h_warnings h_duties h_visits _ (by decide)) fun z hz => ?_
  have hz2 := szN_or2 hz
  clear hz
  conv => cbv
  repeat' first
    | ((first
   | refine q0 hE ?_
   | refine callDsk hE (toDesk_ _ _ _ _ _ _ _ _ _ _ h_edition h_notices h_fairways h_dangers h_observers h_full h_works h_order h_faults h_warnings h_duties h_visits (by omega)) (fun _ _ _ _ _ _ _ _ _ _ _ _ _ _ _ _ _ _ _ _ _ _ _ _ => ?_)
   | refine callPT hE (sValidDesk_ _ _ _ _ _ _ _ _ _ _ (by assumption) (by assumption) (by assumption) (by assumption) (by assumption) (by assumption) (by assumption) (by assumption) (by assumption) (by assumption) (by assumption) (by assumption)) (by assumption) ?_
   | refine callPF hE (sValidDesk_ _ _ _ _ _ _ _ _ _ _ (by assumption) (by assumption) (by assumption) (by assumption) (by assumption) (by assumption) (by assumption) (by assumption) (by assumption) (by assumption) (by assumption) (by assumption)) (by assumption) ?_
   | refine callP hE (sValidDesk_ _ _ _ _ _ _ _ _ _ _ (by assumption) (by assumption) (by assumption) (by assumption) (by assumption) (by assumption) (by assumption) (by assumption) (by assumption) (by assumption) (by assumption) (by assumption)) (fun _ => ?_) (fun _ => ?_)
   | refine callPT hE (validDesk_ _ _ _ _ _ _ _ _ _ _ (by assumption) (by assumption) (by assumption) (by assumption) (by assumption) (by assumption) (by assumption) (by assumption) (by assumption) (by assumption) (by assumption) (by assumption)) (by assumption) ?_
   | refine callPF hE (validDesk_ _ _ _ _ _ _ _ _ _ _ (by assumption) (by assumption) (by assumption) (by assumption) (by assumption) (by assumption) (by assumption) (by assumption) (by assumption) (by assumption) (by assumption) (by assumption)) (by assumption) ?_
   | refine callP hE (validDesk_ _ _ _ _ _ _ _ _ _ _ (by assumption) (by assumption) (by assumption) (by assumption) (by assumption) (by assumption) (by assumption) (by assumption) (by assumption) (by assumption) (by assumption) (by assumption)) (fun _ => ?_) (fun _ => ?_)
   | refine callP hE (eqDesk_ _ _ _ _ _ _ _ _ _ _ _ _ _ _ _ _ _ _ _ _ (by assumption) (by assumption) (by assumption) (by assumption) (by assumption) (by assumption) (by assumption) (by assumption) (by assumption) (by assumption) (by assumption) (by assumption) (by assumption) (by assumption) (by assumption) (by assumption) (by assumption) (by assumption) (by assumption) (by assumption) (by assumption) (by assumption) (by assumption) (by assumption)) (fun _ => ?_) (fun _ => ?_)
   | refine B0 hE ?_|refine B1 hE (fun _=>?_) fun _=>?_|refine B3 hE fun _ _ _=>?_|refine B2 hE fun _ _=>?_|refine B4 hE fun _ _ _ _=>?_) <;> (try conv => cbv))
  all_goals first
    | exact hK _ rfl
    | contradiction
    | (exfalso; exact absurd rfl (by assumption))
    | trace_state
theorem lawValidDesk2 (a : Dsk) : AC Tryz.prog 3 [.agg (a.cs false)] id (.bool true) :=
  lawValidDesk a.day a.away a.tolerance a.sName a.sSpeed a.sLoad a.sDraught a.bX a.bY a.start rfl rfl rfl rfl rfl rfl rfl rfl rfl rfl rfl rfl
end Go.Proofs.YtffkcjcaeppboacGreatDoor
