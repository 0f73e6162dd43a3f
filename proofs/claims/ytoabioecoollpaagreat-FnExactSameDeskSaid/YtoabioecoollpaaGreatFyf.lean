/- Contracts: desks. -/
import Derived.Test.YtoabioecoollpaaGreatFye
import Derived.Test.YtoabioecoollpaaGreatFwa
import Derived.Test.YtoabioecoollpaaGreatFt
import Derived.Test.YtoabioecoollpaaGreatFfa
namespace Go.Proofs.YtoabioecoollpaaGreat
open Go Go.RowKit Classical
set_option maxRecDepth 100000
set_option maxHeartbeats 2000000
set_option linter.unusedVariables false
set_option linter.unusedSimpArgs false
structure Dsk where
  edition : List Aid
  notices : List Ntc
  day : Int
  fairways : List Fwy
  dangers : List Dgr
  away : Int
  observers : List Obv
  tolerance : Int
  full : List Int
  sName : ByteArray
  sSpeed : Int
  sLoad : Int
  sDraught : Int
  bX : Int
  bY : Int
  works : List Wrk
  order : List Int
  start : Int
  faults : List Fau
  warnings : List War
  duties : List Dut
  visits : List Vis
def Dsk.cs (b : Bool) (v : Dsk) : List AV := [.sl b 16 (v.edition.map (Aid.cs b)), .sl b 20 (v.notices.map (Ntc.cs b)), .int .i64 v.day, .sl b 5 (v.fairways.map (Fwy.cs b)), .sl b 4 (v.dangers.map Dgr.cs), .int .i64 v.away, .sl b 4 (v.observers.map Obv.cs), .int .i64 v.tolerance, .sl b 1 (v.full.map intR), .str v.sName, .int .i64 v.sSpeed, .int .i64 v.sLoad, .int .i64 v.sDraught, .int .i64 v.bX, .int .i64 v.bY, .sl b 7 (v.works.map Wrk.cs), .sl b 1 (v.order.map intR), .int .i64 v.start, .sl b 4 (v.faults.map Fau.cs), .sl b 8 (v.warnings.map War.cs), .sl b 3 (v.duties.map Dut.cs), .sl b 3 (v.visits.map Vis.cs)]
theorem NoB.oDsk (v : Dsk) : NoB (.agg (v.cs true)) := (.aggC (.rows .oAid) (.aggC (.rows .oNtc) (.aggC (.int _ _) (.aggC (.rows .oFwy) (.aggC (.rows .oDgr) (.aggC (.int _ _) (.aggC (.rows .oObv) (.aggC (.int _ _) (.aggC (.ints _) (.aggC (.str _) (.aggC (.int _ _) (.aggC (.int _ _) (.aggC (.int _ _) (.aggC (.int _ _) (.aggC (.int _ _) (.aggC (.rows .oWrk) (.aggC (.ints _) (.aggC (.int _ _) (.aggC (.rows .oFau) (.aggC (.rows .oWar) (.aggC (.rows .oDut) (.aggC (.rows .oVis) .agg0))))))))))))))))))))))
def Dsk.sz (v : Dsk) : Nat := Aut.sz ⟨v.edition, v.notices, v.day, v.fairways, v.dangers, v.away, v.observers, v.tolerance, v.full, v.sName, v.sSpeed, v.sLoad, v.sDraught, v.bX, v.bY, v.works, v.order, v.start⟩ + v.faults.length + (v.warnings.length + (v.warnings.map War.sz).sum) + (v.duties.length + (v.duties.map Dut.sz).sum) + v.visits.length
theorem idxDsk {E : Env} {np : Nat} {P : Program} (hE : E = stdE np P) {es : List (List AV)} {i : Int} {K : List AV → Prop} {l : List Dsk} {b : Bool} (hl : es = l.map (Dsk.cs b)) (h0 : 0 ≤ i ∧ i < l.length) (hk : ∀ (edition : List Aid) (notices : List Ntc) (day : Int) (fairways : List Fwy) (dangers : List Dgr) (away : Int) (observers : List Obv) (tolerance : Int) (full : List Int) (sName : ByteArray) (sSpeed : Int) (sLoad : Int) (sDraught : Int) (bX : Int) (bY : Int) (works : List Wrk) (order : List Int) (start : Int) (faults : List Fau) (warnings : List War) (duties : List Dut) (visits : List Vis) (r_edition r_notices r_fairways r_dangers r_observers r_full r_works r_order r_faults r_warnings r_duties r_visits : List (List AV)), l[i.toNat]? = some (Dsk.mk edition notices day fairways dangers away observers tolerance full sName sSpeed sLoad sDraught bX bY works order start faults warnings duties visits) → r_edition = edition.map (Aid.cs b) → r_notices = notices.map (Ntc.cs b) → r_fairways = fairways.map (Fwy.cs b) → r_dangers = dangers.map Dgr.cs → r_observers = observers.map Obv.cs → r_full = full.map intR → r_works = works.map Wrk.cs → r_order = order.map intR → r_faults = faults.map Fau.cs → r_warnings = warnings.map War.cs → r_duties = duties.map Dut.cs → r_visits = visits.map Vis.cs → K [.sl b 16 r_edition, .sl b 20 r_notices, .int .i64 day, .sl b 5 r_fairways, .sl b 4 r_dangers, .int .i64 away, .sl b 4 r_observers, .int .i64 tolerance, .sl b 1 r_full, .str sName, .int .i64 sSpeed, .int .i64 sLoad, .int .i64 sDraught, .int .i64 bX, .int .i64 bY, .sl b 7 r_works, .sl b 1 r_order, .int .i64 start, .sl b 4 r_faults, .sl b 8 r_warnings, .sl b 3 r_duties, .sl b 3 r_visits]) : E.idx es i K :=
  idxL hE hl h0 fun v hv => by
    obtain ⟨edition, notices, day, fairways, dangers, away, observers, tolerance, full, sName, sSpeed, sLoad, sDraught, bX, bY, works, order, start, faults, warnings, duties, visits⟩ := v
    exact hk edition notices day fairways dangers away observers tolerance full sName sSpeed sLoad sDraught bX bY works order start faults warnings duties visits _ _ _ _ _ _ _ _ _ _ _ _ hv rfl rfl rfl rfl rfl rfl rfl rfl rfl rfl rfl rfl
theorem idxDskV {E : Env} {np : Nat} {P : Program} (hE : E = stdE np P) {es : List (List AV)} {i : Int} {K : List AV → Prop} {l : List Dsk} {b : Bool} {edition : List Aid} {notices : List Ntc} {day : Int} {fairways : List Fwy} {dangers : List Dgr} {away : Int} {observers : List Obv} {tolerance : Int} {full : List Int} {sName : ByteArray} {sSpeed : Int} {sLoad : Int} {sDraught : Int} {bX : Int} {bY : Int} {works : List Wrk} {order : List Int} {start : Int} {faults : List Fau} {warnings : List War} {duties : List Dut} {visits : List Vis} {r_edition r_notices r_fairways r_dangers r_observers r_full r_works r_order r_faults r_warnings r_duties r_visits : List (List AV)} (hl : es = l.map (Dsk.cs b)) (h0 : 0 ≤ i) (hv : l[i.toNat]? = some (Dsk.mk edition notices day fairways dangers away observers tolerance full sName sSpeed sLoad sDraught bX bY works order start faults warnings duties visits)) (h_edition : r_edition = edition.map (Aid.cs b)) (h_notices : r_notices = notices.map (Ntc.cs b)) (h_fairways : r_fairways = fairways.map (Fwy.cs b)) (h_dangers : r_dangers = dangers.map Dgr.cs) (h_observers : r_observers = observers.map Obv.cs) (h_full : r_full = full.map intR) (h_works : r_works = works.map Wrk.cs) (h_order : r_order = order.map intR) (h_faults : r_faults = faults.map Fau.cs) (h_warnings : r_warnings = warnings.map War.cs) (h_duties : r_duties = duties.map Dut.cs) (h_visits : r_visits = visits.map Vis.cs) (hk : K [.sl b 16 r_edition, .sl b 20 r_notices, .int .i64 day, .sl b 5 r_fairways, .sl b 4 r_dangers, .int .i64 away, .sl b 4 r_observers, .int .i64 tolerance, .sl b 1 r_full, .str sName, .int .i64 sSpeed, .int .i64 sLoad, .int .i64 sDraught, .int .i64 bX, .int .i64 bY, .sl b 7 r_works, .sl b 1 r_order, .int .i64 start, .sl b 4 r_faults, .sl b 8 r_warnings, .sl b 3 r_duties, .sl b 3 r_visits]) : E.idx es i K := by
  subst h_edition h_notices h_fairways h_dangers h_observers h_full h_works h_order h_faults h_warnings h_duties h_visits
  exact idxV hE hl h0 hv hk
theorem callDsk {E : Env} {np : Nat} {P : Program} (hE : E = stdE np P) {f : FuncId} {args : List AV} {K : AV → Prop} {edition : List Aid} {notices : List Ntc} {day : Int} {fairways : List Fwy} {dangers : List Dgr} {away : Int} {observers : List Obv} {tolerance : Int} {full : List Int} {sName : ByteArray} {sSpeed : Int} {sLoad : Int} {sDraught : Int} {bX : Int} {bY : Int} {works : List Wrk} {order : List Int} {start : Int} {faults : List Fau} {warnings : List War} {duties : List Dut} {visits : List Vis} (h : AC P f args (fun v : Dsk => .agg (v.cs true)) (Dsk.mk edition notices day fairways dangers away observers tolerance full sName sSpeed sLoad sDraught bX bY works order start faults warnings duties visits)) (hk : ∀ (r_edition r_notices r_fairways r_dangers r_observers r_full r_works r_order r_faults r_warnings r_duties r_visits : List (List AV)), r_edition = edition.map (Aid.cs true) → r_notices = notices.map (Ntc.cs true) → r_fairways = fairways.map (Fwy.cs true) → r_dangers = dangers.map Dgr.cs → r_observers = observers.map Obv.cs → r_full = full.map intR → r_works = works.map Wrk.cs → r_order = order.map intR → r_faults = faults.map Fau.cs → r_warnings = warnings.map War.cs → r_duties = duties.map Dut.cs → r_visits = visits.map Vis.cs → K (.agg [.sl true 16 r_edition, .sl true 20 r_notices, .int .i64 day, .sl true 5 r_fairways, .sl true 4 r_dangers, .int .i64 away, .sl true 4 r_observers, .int .i64 tolerance, .sl true 1 r_full, .str sName, .int .i64 sSpeed, .int .i64 sLoad, .int .i64 sDraught, .int .i64 bX, .int .i64 bY, .sl true 7 r_works, .sl true 1 r_order, .int .i64 start, .sl true 4 r_faults, .sl true 8 r_warnings, .sl true 3 r_duties, .sl true 3 r_visits])) : E.call f args K :=
  callI hE h fun y hy => by subst hy; exact hk _ _ _ _ _ _ _ _ _ _ _ _ rfl rfl rfl rfl rfl rfl rfl rfl rfl rfl rfl rfl
theorem szDesk_ (day : Int) (away : Int) (tolerance : Int) (sName : ByteArray) (sSpeed : Int) (sLoad : Int) (sDraught : Int) (bX : Int) (bY : Int) (start : Int) {r_edition : List (List AV)} {t_edition : Bool} {b_edition : Bool} {edition : List Aid} {r_notices : List (List AV)} {t_notices : Bool} {b_notices : Bool} {notices : List Ntc} {r_fairways : List (List AV)} {t_fairways : Bool} {b_fairways : Bool} {fairways : List Fwy} {r_dangers : List (List AV)} {t_dangers : Bool} {dangers : List Dgr} {r_observers : List (List AV)} {t_observers : Bool} {observers : List Obv} {r_full : List (List AV)} {t_full : Bool} {full : List Int} {r_works : List (List AV)} {t_works : Bool} {works : List Wrk} {r_order : List (List AV)} {t_order : Bool} {order : List Int} {r_faults : List (List AV)} {t_faults : Bool} {faults : List Fau} {r_warnings : List (List AV)} {t_warnings : Bool} {warnings : List War} {r_duties : List (List AV)} {t_duties : Bool} {duties : List Dut} {r_visits : List (List AV)} {t_visits : Bool} {visits : List Vis} (h_edition : r_edition = edition.map (Aid.cs b_edition)) (h_notices : r_notices = notices.map (Ntc.cs b_notices)) (h_fairways : r_fairways = fairways.map (Fwy.cs b_fairways)) (h_dangers : r_dangers = dangers.map Dgr.cs) (h_observers : r_observers = observers.map Obv.cs) (h_full : r_full = full.map intR) (h_works : r_works = works.map Wrk.cs) (h_order : r_order = order.map intR) (h_faults : r_faults = faults.map Fau.cs) (h_warnings : r_warnings = warnings.map War.cs) (h_duties : r_duties = duties.map Dut.cs) (h_visits : r_visits = visits.map Vis.cs) (n : Int) (hn : 0 ≤ n ∧ n ≤ 1048576) : AC Tryz.prog 4 [.agg [.sl t_edition 16 r_edition, .sl t_notices 20 r_notices, .int .i64 day, .sl t_fairways 5 r_fairways, .sl t_dangers 4 r_dangers, .int .i64 away, .sl t_observers 4 r_observers, .int .i64 tolerance, .sl t_full 1 r_full, .str sName, .int .i64 sSpeed, .int .i64 sLoad, .int .i64 sDraught, .int .i64 bX, .int .i64 bY, .sl t_works 7 r_works, .sl t_order 1 r_order, .int .i64 start, .sl t_faults 4 r_faults, .sl t_warnings 8 r_warnings, .sl t_duties 3 r_duties, .sl t_visits 3 r_visits], .int .i64 n] (AV.int .i64) (szN n (Dsk.sz (Dsk.mk edition notices day fairways dangers away observers tolerance full sName sSpeed sLoad sDraught bX bY works order start faults warnings duties visits))) := by
  refine ac Tryz.func4 (by kernel_rfl) (.int _ _) fun E K hE hK => ?_
  conv => cbv
  repeat' first
    | (refine callI hE (szAuthority_ _ _ _ _ _ _ _ _ _ _ (by assumption) (by assumption) (by assumption) (by assumption) (by assumption) (by assumption) (by assumption) (by assumption) _ (by omega)) (fun y hy => ?_); have hz := szN_or2 hy; clear hy; (try conv => cbv))
    | (refine callI hE (szFaultS_ _ (by assumption) (by omega)) (fun y hy => ?_); have hz := szN_or2 hy; clear hy; (try conv => cbv))
    | (refine callI hE (szWarningS_ _ (by assumption) (by omega)) (fun y hy => ?_); have hz := szN_or2 hy; clear hy; (try conv => cbv))
    | (refine callI hE (szDutyS_ _ (by assumption) (by omega)) (fun y hy => ?_); have hz := szN_or2 hy; clear hy; (try conv => cbv))
    | (refine callI hE (szVisitS_ _ (by assumption) (by omega)) (fun y hy => ?_); have hz := szN_or2 hy; clear hy; (try conv => cbv))
    | ((first
     | refine idxV hE (by assumption) (by omega) (by assumption) ?_
     | refine ltT hE (by omega) ?_
     | refine ltF hE (by omega) ?_
     | refine ltI hE (fun _ => ?_) (fun _ => ?_)
     | refine leT hE (by omega) ?_
     | refine leF hE (by omega) ?_
     | refine leI hE (fun _ => ?_) (fun _ => ?_)
     | refine eqT hE (by omega) ?_
     | refine eqF hE (by omega) ?_
     | refine eqI hE (fun _ => ?_) (fun _ => ?_)
     | refine add64 hE (by omega) (fun _ _ => ?_)
     | refine sub64 hE (by omega) (fun _ _ => ?_)
     | refine addI hE (fun _ _ => ?_)
     | refine subI hE (fun _ _ => ?_)
     | refine lenL hE (by assumption) (fun _ _ _ => ?_)
     | refine len0 hE (fun _ _ => ?_)
     | refine idxL hE (by assumption) (by first | omega | (simp only [List.length_set, mix_len]; omega)) (fun _ _ => ?_)
     | refine idxFill hE (by assumption) (by omega) ?_
     | refine idxI hE (by decide) (by rfl) ?_
     | refine iteB (fun _ => ?_) (fun _ => ?_)
     | refine maxI hE (fun _ _ => ?_)
     | refine minI hE (fun _ _ => ?_)
     | refine seqI hE (fun _ => ?_) (fun _ => ?_)
     | refine scatI hE (by first | omega | (simp only [ByteArray.size, Array.size, List.length_cons, List.length_nil] at *; omega)) (fun _ _ _ => ?_)
     | refine slenI hE (fun _ _ _ => ?_)
     | refine sidxI hE (by omega) (fun _ _ _ _ => ?_)
     | refine needI hE (by first | decide | omega) ?_
     | refine rem64 hE (by omega) (fun _ _ => ?_)
     | refine quo64 hE (by omega) (fun _ _ => ?_)
     | refine wrapU8 hE (by omega) (fun _ _ => ?_)
     | refine wrap64 hE (by omega) (fun _ _ => ?_)
     | refine noownI hE (by simp [AV.isOwn]) ?_) <;> (try conv => cbv))
  all_goals (refine hK _ ?_; show AV.int _ _ = AV.int _ _; congr 1; unfold szN Dsk.sz; simp only at *; split <;> omega)
theorem toDesk_ (day : Int) (away : Int) (tolerance : Int) (sName : ByteArray) (sSpeed : Int) (sLoad : Int) (sDraught : Int) (bX : Int) (bY : Int) (start : Int) {r_edition : List (List AV)} {t_edition : Bool} {b_edition : Bool} {edition : List Aid} {r_notices : List (List AV)} {t_notices : Bool} {b_notices : Bool} {notices : List Ntc} {r_fairways : List (List AV)} {t_fairways : Bool} {b_fairways : Bool} {fairways : List Fwy} {r_dangers : List (List AV)} {t_dangers : Bool} {dangers : List Dgr} {r_observers : List (List AV)} {t_observers : Bool} {observers : List Obv} {r_full : List (List AV)} {t_full : Bool} {full : List Int} {r_works : List (List AV)} {t_works : Bool} {works : List Wrk} {r_order : List (List AV)} {t_order : Bool} {order : List Int} {r_faults : List (List AV)} {t_faults : Bool} {faults : List Fau} {r_warnings : List (List AV)} {t_warnings : Bool} {warnings : List War} {r_duties : List (List AV)} {t_duties : Bool} {duties : List Dut} {r_visits : List (List AV)} {t_visits : Bool} {visits : List Vis} (h_edition : r_edition = edition.map (Aid.cs b_edition)) (h_notices : r_notices = notices.map (Ntc.cs b_notices)) (h_fairways : r_fairways = fairways.map (Fwy.cs b_fairways)) (h_dangers : r_dangers = dangers.map Dgr.cs) (h_observers : r_observers = observers.map Obv.cs) (h_full : r_full = full.map intR) (h_works : r_works = works.map Wrk.cs) (h_order : r_order = order.map intR) (h_faults : r_faults = faults.map Fau.cs) (h_warnings : r_warnings = warnings.map War.cs) (h_duties : r_duties = duties.map Dut.cs) (h_visits : r_visits = visits.map Vis.cs) (hz : Dsk.sz (Dsk.mk edition notices day fairways dangers away observers tolerance full sName sSpeed sLoad sDraught bX bY works order start faults warnings duties visits) ≤ 1048576) : AC Tryz.prog 6 [.agg [.sl t_edition 16 r_edition, .sl t_notices 20 r_notices, .int .i64 day, .sl t_fairways 5 r_fairways, .sl t_dangers 4 r_dangers, .int .i64 away, .sl t_observers 4 r_observers, .int .i64 tolerance, .sl t_full 1 r_full, .str sName, .int .i64 sSpeed, .int .i64 sLoad, .int .i64 sDraught, .int .i64 bX, .int .i64 bY, .sl t_works 7 r_works, .sl t_order 1 r_order, .int .i64 start, .sl t_faults 4 r_faults, .sl t_warnings 8 r_warnings, .sl t_duties 3 r_duties, .sl t_visits 3 r_visits]] (fun v : Dsk => .agg (v.cs true)) (Dsk.mk edition notices day fairways dangers away observers tolerance full sName sSpeed sLoad sDraught bX bY works order start faults warnings duties visits) := by
  refine ac Tryz.func6 (by kernel_rfl) (.oDsk _) fun E K hE hK => ?_
  conv => cbv
  have hz' := hz
  simp only [Dsk.sz] at hz'
  repeat' first
    | ((first
     | refine idxV hE (by assumption) (by omega) (by assumption) ?_
     | refine callAut hE (toAuthority_ _ _ _ _ _ _ _ _ _ _ (by assumption) (by assumption) (by assumption) (by assumption) (by assumption) (by assumption) (by assumption) (by assumption) (by omega)) (fun _ _ _ _ _ _ _ _ _ _ _ _ _ _ _ _ => ?_)
     | refine callR hE (toFaultS_ (by assumption) (by omega)) (fun _ _ => ?_)
     | refine callR hE (toWarningS_ (by assumption) (by omega)) (fun _ _ => ?_)
     | refine callR hE (toDutyS_ (by assumption) (by omega)) (fun _ _ => ?_)
     | refine callR hE (toVisitS_ (by assumption) (by omega)) (fun _ _ => ?_)
     | refine ltT hE (by omega) ?_
     | refine ltF hE (by omega) ?_
     | refine ltI hE (fun _ => ?_) (fun _ => ?_)
     | refine leT hE (by omega) ?_
     | refine leF hE (by omega) ?_
     | refine leI hE (fun _ => ?_) (fun _ => ?_)
     | refine eqT hE (by omega) ?_
     | refine eqF hE (by omega) ?_
     | refine eqI hE (fun _ => ?_) (fun _ => ?_)
     | refine add64 hE (by omega) (fun _ _ => ?_)
     | refine sub64 hE (by omega) (fun _ _ => ?_)
     | refine addI hE (fun _ _ => ?_)
     | refine subI hE (fun _ _ => ?_)
     | refine lenL hE (by assumption) (fun _ _ _ => ?_)
     | refine len0 hE (fun _ _ => ?_)
     | refine idxL hE (by assumption) (by first | omega | (simp only [List.length_set, mix_len]; omega)) (fun _ _ => ?_)
     | refine idxFill hE (by assumption) (by omega) ?_
     | refine idxI hE (by decide) (by rfl) ?_
     | refine iteB (fun _ => ?_) (fun _ => ?_)
     | refine maxI hE (fun _ _ => ?_)
     | refine minI hE (fun _ _ => ?_)
     | refine seqI hE (fun _ => ?_) (fun _ => ?_)
     | refine scatI hE (by first | omega | (simp only [ByteArray.size, Array.size, List.length_cons, List.length_nil] at *; omega)) (fun _ _ _ => ?_)
     | refine slenI hE (fun _ _ _ => ?_)
     | refine sidxI hE (by omega) (fun _ _ _ _ => ?_)
     | refine needI hE (by first | decide | omega) ?_
     | refine rem64 hE (by omega) (fun _ _ => ?_)
     | refine quo64 hE (by omega) (fun _ _ => ?_)
     | refine wrapU8 hE (by omega) (fun _ _ => ?_)
     | refine wrap64 hE (by omega) (fun _ _ => ?_)
     | refine noownI hE (by simp [AV.isOwn]) ?_) <;> (try conv => cbv))
  all_goals first
    | (refine hK _ ?_; subst_vars; rfl)
    | trace_state
theorem eqDesk_ (day : Int) (away : Int) (tolerance : Int) (sName : ByteArray) (sSpeed : Int) (sLoad : Int) (sDraught : Int) (bX : Int) (bY : Int) (start : Int) (day' : Int) (away' : Int) (tolerance' : Int) (sName' : ByteArray) (sSpeed' : Int) (sLoad' : Int) (sDraught' : Int) (bX' : Int) (bY' : Int) (start' : Int) {r_edition : List (List AV)} {t_edition : Bool} {b_edition : Bool} {edition : List Aid} {r_notices : List (List AV)} {t_notices : Bool} {b_notices : Bool} {notices : List Ntc} {r_fairways : List (List AV)} {t_fairways : Bool} {b_fairways : Bool} {fairways : List Fwy} {r_dangers : List (List AV)} {t_dangers : Bool} {dangers : List Dgr} {r_observers : List (List AV)} {t_observers : Bool} {observers : List Obv} {r_full : List (List AV)} {t_full : Bool} {full : List Int} {r_works : List (List AV)} {t_works : Bool} {works : List Wrk} {r_order : List (List AV)} {t_order : Bool} {order : List Int} {r_faults : List (List AV)} {t_faults : Bool} {faults : List Fau} {r_warnings : List (List AV)} {t_warnings : Bool} {warnings : List War} {r_duties : List (List AV)} {t_duties : Bool} {duties : List Dut} {r_visits : List (List AV)} {t_visits : Bool} {visits : List Vis} {r_edition' : List (List AV)} {t_edition' : Bool} {b_edition' : Bool} {edition' : List Aid} {r_notices' : List (List AV)} {t_notices' : Bool} {b_notices' : Bool} {notices' : List Ntc} {r_fairways' : List (List AV)} {t_fairways' : Bool} {b_fairways' : Bool} {fairways' : List Fwy} {r_dangers' : List (List AV)} {t_dangers' : Bool} {dangers' : List Dgr} {r_observers' : List (List AV)} {t_observers' : Bool} {observers' : List Obv} {r_full' : List (List AV)} {t_full' : Bool} {full' : List Int} {r_works' : List (List AV)} {t_works' : Bool} {works' : List Wrk} {r_order' : List (List AV)} {t_order' : Bool} {order' : List Int} {r_faults' : List (List AV)} {t_faults' : Bool} {faults' : List Fau} {r_warnings' : List (List AV)} {t_warnings' : Bool} {warnings' : List War} {r_duties' : List (List AV)} {t_duties' : Bool} {duties' : List Dut} {r_visits' : List (List AV)} {t_visits' : Bool} {visits' : List Vis} (h_edition : r_edition = edition.map (Aid.cs b_edition)) (h_notices : r_notices = notices.map (Ntc.cs b_notices)) (h_fairways : r_fairways = fairways.map (Fwy.cs b_fairways)) (h_dangers : r_dangers = dangers.map Dgr.cs) (h_observers : r_observers = observers.map Obv.cs) (h_full : r_full = full.map intR) (h_works : r_works = works.map Wrk.cs) (h_order : r_order = order.map intR) (h_faults : r_faults = faults.map Fau.cs) (h_warnings : r_warnings = warnings.map War.cs) (h_duties : r_duties = duties.map Dut.cs) (h_visits : r_visits = visits.map Vis.cs) (h_edition' : r_edition' = edition'.map (Aid.cs b_edition')) (h_notices' : r_notices' = notices'.map (Ntc.cs b_notices')) (h_fairways' : r_fairways' = fairways'.map (Fwy.cs b_fairways')) (h_dangers' : r_dangers' = dangers'.map Dgr.cs) (h_observers' : r_observers' = observers'.map Obv.cs) (h_full' : r_full' = full'.map intR) (h_works' : r_works' = works'.map Wrk.cs) (h_order' : r_order' = order'.map intR) (h_faults' : r_faults' = faults'.map Fau.cs) (h_warnings' : r_warnings' = warnings'.map War.cs) (h_duties' : r_duties' = duties'.map Dut.cs) (h_visits' : r_visits' = visits'.map Vis.cs) : AC Tryz.prog 8 [.agg [.sl t_edition 16 r_edition, .sl t_notices 20 r_notices, .int .i64 day, .sl t_fairways 5 r_fairways, .sl t_dangers 4 r_dangers, .int .i64 away, .sl t_observers 4 r_observers, .int .i64 tolerance, .sl t_full 1 r_full, .str sName, .int .i64 sSpeed, .int .i64 sLoad, .int .i64 sDraught, .int .i64 bX, .int .i64 bY, .sl t_works 7 r_works, .sl t_order 1 r_order, .int .i64 start, .sl t_faults 4 r_faults, .sl t_warnings 8 r_warnings, .sl t_duties 3 r_duties, .sl t_visits 3 r_visits], .agg [.sl t_edition' 16 r_edition', .sl t_notices' 20 r_notices', .int .i64 day', .sl t_fairways' 5 r_fairways', .sl t_dangers' 4 r_dangers', .int .i64 away', .sl t_observers' 4 r_observers', .int .i64 tolerance', .sl t_full' 1 r_full', .str sName', .int .i64 sSpeed', .int .i64 sLoad', .int .i64 sDraught', .int .i64 bX', .int .i64 bY', .sl t_works' 7 r_works', .sl t_order' 1 r_order', .int .i64 start', .sl t_faults' 4 r_faults', .sl t_warnings' 8 r_warnings', .sl t_duties' 3 r_duties', .sl t_visits' 3 r_visits']] AV.bool (bP ((Dsk.mk edition notices day fairways dangers away observers tolerance full sName sSpeed sLoad sDraught bX bY works order start faults warnings duties visits) = (Dsk.mk edition' notices' day' fairways' dangers' away' observers' tolerance' full' sName' sSpeed' sLoad' sDraught' bX' bY' works' order' start' faults' warnings' duties' visits'))) := by
  refine ac Tryz.func8 (by kernel_rfl) (.bool _) fun E K hE hK => ?_
  conv => cbv
  repeat' first
    | ((first
     | refine idxV hE (by assumption) (by omega) (by assumption) ?_
     | refine callP hE (eqAuthority_ _ _ _ _ _ _ _ _ _ _ _ _ _ _ _ _ _ _ _ _ (by assumption) (by assumption) (by assumption) (by assumption) (by assumption) (by assumption) (by assumption) (by assumption) (by assumption) (by assumption) (by assumption) (by assumption) (by assumption) (by assumption) (by assumption) (by assumption)) (fun _ => ?_) (fun _ => ?_)
     | refine callP hE (eqFaultS_ (by assumption) (by assumption)) (fun _ => ?_) (fun _ => ?_)
     | refine callP hE (eqWarningS_ (by assumption) (by assumption)) (fun _ => ?_) (fun _ => ?_)
     | refine callP hE (eqDutyS_ (by assumption) (by assumption)) (fun _ => ?_) (fun _ => ?_)
     | refine callP hE (eqVisitS_ (by assumption) (by assumption)) (fun _ => ?_) (fun _ => ?_)
     | refine ltT hE (by omega) ?_
     | refine ltF hE (by omega) ?_
     | refine ltI hE (fun _ => ?_) (fun _ => ?_)
     | refine leT hE (by omega) ?_
     | refine leF hE (by omega) ?_
     | refine leI hE (fun _ => ?_) (fun _ => ?_)
     | refine eqT hE (by omega) ?_
     | refine eqF hE (by omega) ?_
     | refine eqI hE (fun _ => ?_) (fun _ => ?_)
     | refine add64 hE (by omega) (fun _ _ => ?_)
     | refine sub64 hE (by omega) (fun _ _ => ?_)
     | refine addI hE (fun _ _ => ?_)
     | refine subI hE (fun _ _ => ?_)
     | refine lenL hE (by assumption) (fun _ _ _ => ?_)
     | refine len0 hE (fun _ _ => ?_)
     | refine idxL hE (by assumption) (by first | omega | (simp only [List.length_set, mix_len]; omega)) (fun _ _ => ?_)
     | refine idxFill hE (by assumption) (by omega) ?_
     | refine idxI hE (by decide) (by rfl) ?_
     | refine iteB (fun _ => ?_) (fun _ => ?_)
     | refine maxI hE (fun _ _ => ?_)
     | refine minI hE (fun _ _ => ?_)
     | refine seqI hE (fun _ => ?_) (fun _ => ?_)
     | refine scatI hE (by first | omega | (simp only [ByteArray.size, Array.size, List.length_cons, List.length_nil] at *; omega)) (fun _ _ _ => ?_)
     | refine slenI hE (fun _ _ _ => ?_)
     | refine sidxI hE (by omega) (fun _ _ _ _ => ?_)
     | refine needI hE (by first | decide | omega) ?_
     | refine rem64 hE (by omega) (fun _ _ => ?_)
     | refine quo64 hE (by omega) (fun _ _ => ?_)
     | refine wrapU8 hE (by omega) (fun _ _ => ?_)
     | refine wrap64 hE (by omega) (fun _ _ => ?_)
     | refine noownI hE (by simp [AV.isOwn]) ?_) <;> (try conv => cbv))
  all_goals (clear h_edition h_notices h_fairways h_dangers h_observers h_full h_works h_order h_faults h_warnings h_duties h_visits h_edition' h_notices' h_fairways' h_dangers' h_observers' h_full' h_works' h_order' h_faults' h_warnings' h_duties' h_visits')
  all_goals first | (refine finB hK (bP_true.2 ?_); simp only [Dsk.mk.injEq, Aut.mk.injEq] at *; simp_all; done) | (refine finB hK (bP_false.2 ?_); simp only [Dsk.mk.injEq, Aut.mk.injEq] at *; simp_all; done)
end Go.Proofs.YtoabioecoollpaaGreat
