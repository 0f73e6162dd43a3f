/- Contracts: authorities. -/
import Derived.Test.YtoabioecoollpaaGreatFyd
namespace Go.Proofs.YtoabioecoollpaaGreat
open Go Go.RowKit Classical
set_option maxRecDepth 100000
set_option maxHeartbeats 2000000
set_option linter.unusedVariables false
set_option linter.unusedSimpArgs false
structure Aut where
  edition : List Aid
  notices : List Ntc
  day : Int
  fairways : List Fwy
  dangers : List Dgr
  away : Int
  observers : List Obv
  tolerance : Int
  full : List Int
  sName : ByteArray
  sSpeed : Int
  sLoad : Int
  sDraught : Int
  bX : Int
  bY : Int
  works : List Wrk
  order : List Int
  start : Int
def Aut.cs (b : Bool) (v : Aut) : List AV := [.sl b 16 (v.edition.map (Aid.cs b)), .sl b 20 (v.notices.map (Ntc.cs b)), .int .i64 v.day, .sl b 5 (v.fairways.map (Fwy.cs b)), .sl b 4 (v.dangers.map Dgr.cs), .int .i64 v.away, .sl b 4 (v.observers.map Obv.cs), .int .i64 v.tolerance, .sl b 1 (v.full.map intR), .str v.sName, .int .i64 v.sSpeed, .int .i64 v.sLoad, .int .i64 v.sDraught, .int .i64 v.bX, .int .i64 v.bY, .sl b 7 (v.works.map Wrk.cs), .sl b 1 (v.order.map intR), .int .i64 v.start]
theorem NoB.oAut (v : Aut) : NoB (.agg (v.cs true)) := (.aggC (.rows .oAid) (.aggC (.rows .oNtc) (.aggC (.int _ _) (.aggC (.rows .oFwy) (.aggC (.rows .oDgr) (.aggC (.int _ _) (.aggC (.rows .oObv) (.aggC (.int _ _) (.aggC (.ints _) (.aggC (.str _) (.aggC (.int _ _) (.aggC (.int _ _) (.aggC (.int _ _) (.aggC (.int _ _) (.aggC (.int _ _) (.aggC (.rows .oWrk) (.aggC (.ints _) (.aggC (.int _ _) .agg0))))))))))))))))))
def Aut.sz (v : Aut) : Nat := (v.edition.length + (v.edition.map Aid.sz).sum) + (v.notices.length + (v.notices.map Ntc.sz).sum) + (v.fairways.length + (v.fairways.map Fwy.sz).sum) + (v.dangers.length + (v.dangers.map Dgr.sz).sum) + v.observers.length + v.full.length + Shp.sz ⟨v.sName, v.sSpeed, v.sLoad, v.sDraught⟩ + (v.works.length + (v.works.map Wrk.sz).sum) + v.order.length
theorem idxAut {E : Env} {np : Nat} {P : Program} (hE : E = stdE np P) {es : List (List AV)} {i : Int} {K : List AV → Prop} {l : List Aut} {b : Bool} (hl : es = l.map (Aut.cs b)) (h0 : 0 ≤ i ∧ i < l.length) (hk : ∀ (edition : List Aid) (notices : List Ntc) (day : Int) (fairways : List Fwy) (dangers : List Dgr) (away : Int) (observers : List Obv) (tolerance : Int) (full : List Int) (sName : ByteArray) (sSpeed : Int) (sLoad : Int) (sDraught : Int) (bX : Int) (bY : Int) (works : List Wrk) (order : List Int) (start : Int) (r_edition r_notices r_fairways r_dangers r_observers r_full r_works r_order : List (List AV)), l[i.toNat]? = some (Aut.mk edition notices day fairways dangers away observers tolerance full sName sSpeed sLoad sDraught bX bY works order start) → r_edition = edition.map (Aid.cs b) → r_notices = notices.map (Ntc.cs b) → r_fairways = fairways.map (Fwy.cs b) → r_dangers = dangers.map Dgr.cs → r_observers = observers.map Obv.cs → r_full = full.map intR → r_works = works.map Wrk.cs → r_order = order.map intR → K [.sl b 16 r_edition, .sl b 20 r_notices, .int .i64 day, .sl b 5 r_fairways, .sl b 4 r_dangers, .int .i64 away, .sl b 4 r_observers, .int .i64 tolerance, .sl b 1 r_full, .str sName, .int .i64 sSpeed, .int .i64 sLoad, .int .i64 sDraught, .int .i64 bX, .int .i64 bY, .sl b 7 r_works, .sl b 1 r_order, .int .i64 start]) : E.idx es i K :=
  idxL hE hl h0 fun v hv => by
    obtain ⟨edition, notices, day, fairways, dangers, away, observers, tolerance, full, sName, sSpeed, sLoad, sDraught, bX, bY, works, order, start⟩ := v
    exact hk edition notices day fairways dangers away observers tolerance full sName sSpeed sLoad sDraught bX bY works order start _ _ _ _ _ _ _ _ hv rfl rfl rfl rfl rfl rfl rfl rfl
theorem idxAutV {E : Env} {np : Nat} {P : Program} (hE : E = stdE np P) {es : List (List AV)} {i : Int} {K : List AV → Prop} {l : List Aut} {b : Bool} {edition : List Aid} {notices : List Ntc} {day : Int} {fairways : List Fwy} {dangers : List Dgr} {away : Int} {observers : List Obv} {tolerance : Int} {full : List Int} {sName : ByteArray} {sSpeed : Int} {sLoad : Int} {sDraught : Int} {bX : Int} {bY : Int} {works : List Wrk} {order : List Int} {start : Int} {r_edition r_notices r_fairways r_dangers r_observers r_full r_works r_order : List (List AV)} (hl : es = l.map (Aut.cs b)) (h0 : 0 ≤ i) (hv : l[i.toNat]? = some (Aut.mk edition notices day fairways dangers away observers tolerance full sName sSpeed sLoad sDraught bX bY works order start)) (h_edition : r_edition = edition.map (Aid.cs b)) (h_notices : r_notices = notices.map (Ntc.cs b)) (h_fairways : r_fairways = fairways.map (Fwy.cs b)) (h_dangers : r_dangers = dangers.map Dgr.cs) (h_observers : r_observers = observers.map Obv.cs) (h_full : r_full = full.map intR) (h_works : r_works = works.map Wrk.cs) (h_order : r_order = order.map intR) (hk : K [.sl b 16 r_edition, .sl b 20 r_notices, .int .i64 day, .sl b 5 r_fairways, .sl b 4 r_dangers, .int .i64 away, .sl b 4 r_observers, .int .i64 tolerance, .sl b 1 r_full, .str sName, .int .i64 sSpeed, .int .i64 sLoad, .int .i64 sDraught, .int .i64 bX, .int .i64 bY, .sl b 7 r_works, .sl b 1 r_order, .int .i64 start]) : E.idx es i K := by
  subst h_edition h_notices h_fairways h_dangers h_observers h_full h_works h_order
  exact idxV hE hl h0 hv hk
theorem callAut {E : Env} {np : Nat} {P : Program} (hE : E = stdE np P) {f : FuncId} {args : List AV} {K : AV → Prop} {edition : List Aid} {notices : List Ntc} {day : Int} {fairways : List Fwy} {dangers : List Dgr} {away : Int} {observers : List Obv} {tolerance : Int} {full : List Int} {sName : ByteArray} {sSpeed : Int} {sLoad : Int} {sDraught : Int} {bX : Int} {bY : Int} {works : List Wrk} {order : List Int} {start : Int} (h : AC P f args (fun v : Aut => .agg (v.cs true)) (Aut.mk edition notices day fairways dangers away observers tolerance full sName sSpeed sLoad sDraught bX bY works order start)) (hk : ∀ (r_edition r_notices r_fairways r_dangers r_observers r_full r_works r_order : List (List AV)), r_edition = edition.map (Aid.cs true) → r_notices = notices.map (Ntc.cs true) → r_fairways = fairways.map (Fwy.cs true) → r_dangers = dangers.map Dgr.cs → r_observers = observers.map Obv.cs → r_full = full.map intR → r_works = works.map Wrk.cs → r_order = order.map intR → K (.agg [.sl true 16 r_edition, .sl true 20 r_notices, .int .i64 day, .sl true 5 r_fairways, .sl true 4 r_dangers, .int .i64 away, .sl true 4 r_observers, .int .i64 tolerance, .sl true 1 r_full, .str sName, .int .i64 sSpeed, .int .i64 sLoad, .int .i64 sDraught, .int .i64 bX, .int .i64 bY, .sl true 7 r_works, .sl true 1 r_order, .int .i64 start])) : E.call f args K :=
  callI hE h fun y hy => by subst hy; exact hk _ _ _ _ _ _ _ _ rfl rfl rfl rfl rfl rfl rfl rfl
theorem szAuthority_ (day : Int) (away : Int) (tolerance : Int) (sName : ByteArray) (sSpeed : Int) (sLoad : Int) (sDraught : Int) (bX : Int) (bY : Int) (start : Int) {r_edition : List (List AV)} {t_edition : Bool} {b_edition : Bool} {edition : List Aid} {r_notices : List (List AV)} {t_notices : Bool} {b_notices : Bool} {notices : List Ntc} {r_fairways : List (List AV)} {t_fairways : Bool} {b_fairways : Bool} {fairways : List Fwy} {r_dangers : List (List AV)} {t_dangers : Bool} {dangers : List Dgr} {r_observers : List (List AV)} {t_observers : Bool} {observers : List Obv} {r_full : List (List AV)} {t_full : Bool} {full : List Int} {r_works : List (List AV)} {t_works : Bool} {works : List Wrk} {r_order : List (List AV)} {t_order : Bool} {order : List Int} (h_edition : r_edition = edition.map (Aid.cs b_edition)) (h_notices : r_notices = notices.map (Ntc.cs b_notices)) (h_fairways : r_fairways = fairways.map (Fwy.cs b_fairways)) (h_dangers : r_dangers = dangers.map Dgr.cs) (h_observers : r_observers = observers.map Obv.cs) (h_full : r_full = full.map intR) (h_works : r_works = works.map Wrk.cs) (h_order : r_order = order.map intR) (n : Int) (hn : 0 ≤ n ∧ n ≤ 1048576) : AC Tryz.prog 9 [.agg [.sl t_edition 16 r_edition, .sl t_notices 20 r_notices, .int .i64 day, .sl t_fairways 5 r_fairways, .sl t_dangers 4 r_dangers, .int .i64 away, .sl t_observers 4 r_observers, .int .i64 tolerance, .sl t_full 1 r_full, .str sName, .int .i64 sSpeed, .int .i64 sLoad, .int .i64 sDraught, .int .i64 bX, .int .i64 bY, .sl t_works 7 r_works, .sl t_order 1 r_order, .int .i64 start], .int .i64 n] (AV.int .i64) (szN n (Aut.sz (Aut.mk edition notices day fairways dangers away observers tolerance full sName sSpeed sLoad sDraught bX bY works order start))) := by
  refine ac Tryz.func9 (by kernel_rfl) (.int _ _) fun E K hE hK => ?_
  conv => cbv
  repeat' first
    | (refine callI hE (szAidS_ _ (by assumption) (by omega)) (fun y hy => ?_); have hz := szN_or2 hy; clear hy; (try conv => cbv))
    | (refine callI hE (szNoticeS_ _ (by assumption) (by omega)) (fun y hy => ?_); have hz := szN_or2 hy; clear hy; (try conv => cbv))
    | (refine callI hE (szFairwayS_ _ (by assumption) (by omega)) (fun y hy => ?_); have hz := szN_or2 hy; clear hy; (try conv => cbv))
    | (refine callI hE (szDangerS_ _ (by assumption) (by omega)) (fun y hy => ?_); have hz := szN_or2 hy; clear hy; (try conv => cbv))
    | (refine callI hE (szObserverS_ _ (by assumption) (by omega)) (fun y hy => ?_); have hz := szN_or2 hy; clear hy; (try conv => cbv))
    | (refine callI hE (szInt64S_ _ (by assumption) (by omega)) (fun y hy => ?_); have hz := szN_or2 hy; clear hy; (try conv => cbv))
    | (refine callI hE (szShip_ _ _ _ _ _ (by omega)) (fun y hy => ?_); have hz := szN_or2 hy; clear hy; (try conv => cbv))
    | (refine callI hE (szWorkS_ _ (by assumption) (by omega)) (fun y hy => ?_); have hz := szN_or2 hy; clear hy; (try conv => cbv))
    | ((first
     | refine idxV hE (by assumption) (by omega) (by assumption) ?_
     | refine ltT hE (by omega) ?_
     | refine ltF hE (by omega) ?_
     | refine ltI hE (fun _ => ?_) (fun _ => ?_)
     | refine leT hE (by omega) ?_
     | refine leF hE (by omega) ?_
     | refine leI hE (fun _ => ?_) (fun _ => ?_)
     | refine eqT hE (by omega) ?_
     | refine eqF hE (by omega) ?_
     | refine eqI hE (fun _ => ?_) (fun _ => ?_)
     | refine add64 hE (by omega) (fun _ _ => ?_)
     | refine sub64 hE (by omega) (fun _ _ => ?_)
     | refine addI hE (fun _ _ => ?_)
     | refine subI hE (fun _ _ => ?_)
     | refine lenL hE (by assumption) (fun _ _ _ => ?_)
     | refine len0 hE (fun _ _ => ?_)
     | refine idxL hE (by assumption) (by first | omega | (simp only [List.length_set, mix_len]; omega)) (fun _ _ => ?_)
     | refine idxFill hE (by assumption) (by omega) ?_
     | refine idxI hE (by decide) (by rfl) ?_
     | refine iteB (fun _ => ?_) (fun _ => ?_)
     | refine maxI hE (fun _ _ => ?_)
     | refine minI hE (fun _ _ => ?_)
     | refine seqI hE (fun _ => ?_) (fun _ => ?_)
     | refine scatI hE (by first | omega | (simp only [ByteArray.size, Array.size, List.length_cons, List.length_nil] at *; omega)) (fun _ _ _ => ?_)
     | refine slenI hE (fun _ _ _ => ?_)
     | refine sidxI hE (by omega) (fun _ _ _ _ => ?_)
     | refine needI hE (by first | decide | omega) ?_
     | refine rem64 hE (by omega) (fun _ _ => ?_)
     | refine quo64 hE (by omega) (fun _ _ => ?_)
     | refine wrapU8 hE (by omega) (fun _ _ => ?_)
     | refine wrap64 hE (by omega) (fun _ _ => ?_)
     | refine noownI hE (by simp [AV.isOwn]) ?_) <;> (try conv => cbv))
  all_goals (refine hK _ ?_; show AV.int _ _ = AV.int _ _; congr 1; unfold szN Aut.sz; simp only at *; split <;> omega)
theorem toAuthority_ (day : Int) (away : Int) (tolerance : Int) (sName : ByteArray) (sSpeed : Int) (sLoad : Int) (sDraught : Int) (bX : Int) (bY : Int) (start : Int) {r_edition : List (List AV)} {t_edition : Bool} {b_edition : Bool} {edition : List Aid} {r_notices : List (List AV)} {t_notices : Bool} {b_notices : Bool} {notices : List Ntc} {r_fairways : List (List AV)} {t_fairways : Bool} {b_fairways : Bool} {fairways : List Fwy} {r_dangers : List (List AV)} {t_dangers : Bool} {dangers : List Dgr} {r_observers : List (List AV)} {t_observers : Bool} {observers : List Obv} {r_full : List (List AV)} {t_full : Bool} {full : List Int} {r_works : List (List AV)} {t_works : Bool} {works : List Wrk} {r_order : List (List AV)} {t_order : Bool} {order : List Int} (h_edition : r_edition = edition.map (Aid.cs b_edition)) (h_notices : r_notices = notices.map (Ntc.cs b_notices)) (h_fairways : r_fairways = fairways.map (Fwy.cs b_fairways)) (h_dangers : r_dangers = dangers.map Dgr.cs) (h_observers : r_observers = observers.map Obv.cs) (h_full : r_full = full.map intR) (h_works : r_works = works.map Wrk.cs) (h_order : r_order = order.map intR) (hz : Aut.sz (Aut.mk edition notices day fairways dangers away observers tolerance full sName sSpeed sLoad sDraught bX bY works order start) ≤ 1048576) : AC Tryz.prog 19 [.agg [.sl t_edition 16 r_edition, .sl t_notices 20 r_notices, .int .i64 day, .sl t_fairways 5 r_fairways, .sl t_dangers 4 r_dangers, .int .i64 away, .sl t_observers 4 r_observers, .int .i64 tolerance, .sl t_full 1 r_full, .str sName, .int .i64 sSpeed, .int .i64 sLoad, .int .i64 sDraught, .int .i64 bX, .int .i64 bY, .sl t_works 7 r_works, .sl t_order 1 r_order, .int .i64 start]] (fun v : Aut => .agg (v.cs true)) (Aut.mk edition notices day fairways dangers away observers tolerance full sName sSpeed sLoad sDraught bX bY works order start) := by
  refine ac Tryz.func19 (by kernel_rfl) (.oAut _) fun E K hE hK => ?_
  conv => cbv
  have hz' := hz
  simp only [Aut.sz] at hz'
  repeat' first
    | ((first
     | refine idxV hE (by assumption) (by omega) (by assumption) ?_
     | refine callR hE (toAidS_ (by assumption) (by omega)) (fun _ _ => ?_)
     | refine callR hE (toNoticeS_ (by assumption) (by omega)) (fun _ _ => ?_)
     | refine callR hE (toFairwayS_ (by assumption) (by omega)) (fun _ _ => ?_)
     | refine callR hE (toDangerS_ (by assumption) (by omega)) (fun _ _ => ?_)
     | refine callR hE (toObserverS_ (by assumption) (by omega)) (fun _ _ => ?_)
     | refine callR hE (toInt64S_ (by assumption) (by omega)) (fun _ _ => ?_)
     | (refine callI hE (toShip_ _ _ _ _) (fun _ hy => ?_); subst hy)
     | (refine callI hE (toPoint_ _ _) (fun _ hy => ?_); subst hy)
     | refine callR hE (toWorkS_ (by assumption) (by omega)) (fun _ _ => ?_)
     | refine ltT hE (by omega) ?_
     | refine ltF hE (by omega) ?_
     | refine ltI hE (fun _ => ?_) (fun _ => ?_)
     | refine leT hE (by omega) ?_
     | refine leF hE (by omega) ?_
     | refine leI hE (fun _ => ?_) (fun _ => ?_)
     | refine eqT hE (by omega) ?_
     | refine eqF hE (by omega) ?_
     | refine eqI hE (fun _ => ?_) (fun _ => ?_)
     | refine add64 hE (by omega) (fun _ _ => ?_)
     | refine sub64 hE (by omega) (fun _ _ => ?_)
     | refine addI hE (fun _ _ => ?_)
     | refine subI hE (fun _ _ => ?_)
     | refine lenL hE (by assumption) (fun _ _ _ => ?_)
     | refine len0 hE (fun _ _ => ?_)
     | refine idxL hE (by assumption) (by first | omega | (simp only [List.length_set, mix_len]; omega)) (fun _ _ => ?_)
     | refine idxFill hE (by assumption) (by omega) ?_
     | refine idxI hE (by decide) (by rfl) ?_
     | refine iteB (fun _ => ?_) (fun _ => ?_)
     | refine maxI hE (fun _ _ => ?_)
     | refine minI hE (fun _ _ => ?_)
     | refine seqI hE (fun _ => ?_) (fun _ => ?_)
     | refine scatI hE (by first | omega | (simp only [ByteArray.size, Array.size, List.length_cons, List.length_nil] at *; omega)) (fun _ _ _ => ?_)
     | refine slenI hE (fun _ _ _ => ?_)
     | refine sidxI hE (by omega) (fun _ _ _ _ => ?_)
     | refine needI hE (by first | decide | omega) ?_
     | refine rem64 hE (by omega) (fun _ _ => ?_)
     | refine quo64 hE (by omega) (fun _ _ => ?_)
     | refine wrapU8 hE (by omega) (fun _ _ => ?_)
     | refine wrap64 hE (by omega) (fun _ _ => ?_)
     | refine noownI hE (by simp [AV.isOwn]) ?_) <;> (try conv => cbv))
  all_goals first
    | (refine hK _ ?_; subst_vars; rfl)
    | trace_state
theorem eqAuthority_ (day : Int) (away : Int) (tolerance : Int) (sName : ByteArray) (sSpeed : Int) (sLoad : Int) (sDraught : Int) (bX : Int) (bY : Int) (start : Int) (day' : Int) (away' : Int) (tolerance' : Int) (sName' : ByteArray) (sSpeed' : Int) (sLoad' : Int) (sDraught' : Int) (bX' : Int) (bY' : Int) (start' : Int) {r_edition : List (List AV)} {t_edition : Bool} {b_edition : Bool} {edition : List Aid} {r_notices : List (List AV)} {t_notices : Bool} {b_notices : Bool} {notices : List Ntc} {r_fairways : List (List AV)} {t_fairways : Bool} {b_fairways : Bool} {fairways : List Fwy} {r_dangers : List (List AV)} {t_dangers : Bool} {dangers : List Dgr} {r_observers : List (List AV)} {t_observers : Bool} {observers : List Obv} {r_full : List (List AV)} {t_full : Bool} {full : List Int} {r_works : List (List AV)} {t_works : Bool} {works : List Wrk} {r_order : List (List AV)} {t_order : Bool} {order : List Int} {r_edition' : List (List AV)} {t_edition' : Bool} {b_edition' : Bool} {edition' : List Aid} {r_notices' : List (List AV)} {t_notices' : Bool} {b_notices' : Bool} {notices' : List Ntc} {r_fairways' : List (List AV)} {t_fairways' : Bool} {b_fairways' : Bool} {fairways' : List Fwy} {r_dangers' : List (List AV)} {t_dangers' : Bool} {dangers' : List Dgr} {r_observers' : List (List AV)} {t_observers' : Bool} {observers' : List Obv} {r_full' : List (List AV)} {t_full' : Bool} {full' : List Int} {r_works' : List (List AV)} {t_works' : Bool} {works' : List Wrk} {r_order' : List (List AV)} {t_order' : Bool} {order' : List Int} (h_edition : r_edition = edition.map (Aid.cs b_edition)) (h_notices : r_notices = notices.map (Ntc.cs b_notices)) (h_fairways : r_fairways = fairways.map (Fwy.cs b_fairways)) (h_dangers : r_dangers = dangers.map Dgr.cs) (h_observers : r_observers = observers.map Obv.cs) (h_full : r_full = full.map intR) (h_works : r_works = works.map Wrk.cs) (h_order : r_order = order.map intR) (h_edition' : r_edition' = edition'.map (Aid.cs b_edition')) (h_notices' : r_notices' = notices'.map (Ntc.cs b_notices')) (h_fairways' : r_fairways' = fairways'.map (Fwy.cs b_fairways')) (h_dangers' : r_dangers' = dangers'.map Dgr.cs) (h_observers' : r_observers' = observers'.map Obv.cs) (h_full' : r_full' = full'.map intR) (h_works' : r_works' = works'.map Wrk.cs) (h_order' : r_order' = order'.map intR) : AC Tryz.prog 29 [.agg [.sl t_edition 16 r_edition, .sl t_notices 20 r_notices, .int .i64 day, .sl t_fairways 5 r_fairways, .sl t_dangers 4 r_dangers, .int .i64 away, .sl t_observers 4 r_observers, .int .i64 tolerance, .sl t_full 1 r_full, .str sName, .int .i64 sSpeed, .int .i64 sLoad, .int .i64 sDraught, .int .i64 bX, .int .i64 bY, .sl t_works 7 r_works, .sl t_order 1 r_order, .int .i64 start], .agg [.sl t_edition' 16 r_edition', .sl t_notices' 20 r_notices', .int .i64 day', .sl t_fairways' 5 r_fairways', .sl t_dangers' 4 r_dangers', .int .i64 away', .sl t_observers' 4 r_observers', .int .i64 tolerance', .sl t_full' 1 r_full', .str sName', .int .i64 sSpeed', .int .i64 sLoad', .int .i64 sDraught', .int .i64 bX', .int .i64 bY', .sl t_works' 7 r_works', .sl t_order' 1 r_order', .int .i64 start']] AV.bool (bP ((Aut.mk edition notices day fairways dangers away observers tolerance full sName sSpeed sLoad sDraught bX bY works order start) = (Aut.mk edition' notices' day' fairways' dangers' away' observers' tolerance' full' sName' sSpeed' sLoad' sDraught' bX' bY' works' order' start'))) := by
  refine ac Tryz.func29 (by kernel_rfl) (.bool _) fun E K hE hK => ?_
  conv => cbv
  repeat' first
    | ((first
     | refine idxV hE (by assumption) (by omega) (by assumption) ?_
     | refine callP hE (eqAidS_ (by assumption) (by assumption)) (fun _ => ?_) (fun _ => ?_)
     | refine callP hE (eqNoticeS_ (by assumption) (by assumption)) (fun _ => ?_) (fun _ => ?_)
     | refine callP hE (eqFairwayS_ (by assumption) (by assumption)) (fun _ => ?_) (fun _ => ?_)
     | refine callP hE (eqDangerS_ (by assumption) (by assumption)) (fun _ => ?_) (fun _ => ?_)
     | refine callP hE (eqObserverS_ (by assumption) (by assumption)) (fun _ => ?_) (fun _ => ?_)
     | refine callP hE (eqInt64S_ (by assumption) (by assumption)) (fun _ => ?_) (fun _ => ?_)
     | refine callP hE (eqShip_ _ _ _ _ _ _ _ _) (fun _ => ?_) (fun _ => ?_)
     | refine callP hE (eqPoint_ _ _ _ _) (fun _ => ?_) (fun _ => ?_)
     | refine callP hE (eqWorkS_ (by assumption) (by assumption)) (fun _ => ?_) (fun _ => ?_)
     | refine ltT hE (by omega) ?_
     | refine ltF hE (by omega) ?_
     | refine ltI hE (fun _ => ?_) (fun _ => ?_)
     | refine leT hE (by omega) ?_
     | refine leF hE (by omega) ?_
     | refine leI hE (fun _ => ?_) (fun _ => ?_)
     | refine eqT hE (by omega) ?_
     | refine eqF hE (by omega) ?_
     | refine eqI hE (fun _ => ?_) (fun _ => ?_)
     | refine add64 hE (by omega) (fun _ _ => ?_)
     | refine sub64 hE (by omega) (fun _ _ => ?_)
     | refine addI hE (fun _ _ => ?_)
     | refine subI hE (fun _ _ => ?_)
     | refine lenL hE (by assumption) (fun _ _ _ => ?_)
     | refine len0 hE (fun _ _ => ?_)
     | refine idxL hE (by assumption) (by first | omega | (simp only [List.length_set, mix_len]; omega)) (fun _ _ => ?_)
     | refine idxFill hE (by assumption) (by omega) ?_
     | refine idxI hE (by decide) (by rfl) ?_
     | refine iteB (fun _ => ?_) (fun _ => ?_)
     | refine maxI hE (fun _ _ => ?_)
     | refine minI hE (fun _ _ => ?_)
     | refine seqI hE (fun _ => ?_) (fun _ => ?_)
     | refine scatI hE (by first | omega | (simp only [ByteArray.size, Array.size, List.length_cons, List.length_nil] at *; omega)) (fun _ _ _ => ?_)
     | refine slenI hE (fun _ _ _ => ?_)
     | refine sidxI hE (by omega) (fun _ _ _ _ => ?_)
     | refine needI hE (by first | decide | omega) ?_
     | refine rem64 hE (by omega) (fun _ _ => ?_)
     | refine quo64 hE (by omega) (fun _ _ => ?_)
     | refine wrapU8 hE (by omega) (fun _ _ => ?_)
     | refine wrap64 hE (by omega) (fun _ _ => ?_)
     | refine noownI hE (by simp [AV.isOwn]) ?_) <;> (try conv => cbv))
  all_goals (clear h_edition h_notices h_fairways h_dangers h_observers h_full h_works h_order h_edition' h_notices' h_fairways' h_dangers' h_observers' h_full' h_works' h_order')
  all_goals first | (refine finB hK (bP_true.2 ?_); simp only [Aut.mk.injEq, Shp.mk.injEq, Pnt.mk.injEq] at *; simp_all; done) | (refine finB hK (bP_false.2 ?_); simp only [Aut.mk.injEq, Shp.mk.injEq, Pnt.mk.injEq] at *; simp_all; done)
end Go.Proofs.YtoabioecoollpaaGreat
