/- Contracts: authorities. -/
import Derived.Test.YtlfnlgbojbgcnaaGreatDoorFyd
namespace Go.Proofs.YtlfnlgbojbgcnaaGreatDoor
open Go Go.RowKit Classical
set_option maxRecDepth 100000
set_option maxHeartbeats 2000000
set_option linter.unusedVariables false
set_option linter.unusedSimpArgs false
structure Aut where
  edition : List Aid
  notices : List Ntc
  day : Int
  fairways : List Fwy
  dangers : List Dgr
  away : Int
  observers : List Obv
  tolerance : Int
  full : List Int
  sName : ByteArray
  sSpeed : Int
  sLoad : Int
  sDraught : Int
  bX : Int
  bY : Int
  works : List Wrk
  order : List Int
  start : Int
def Aut.cs (b : Bool) (v : Aut) : List AV := [.sl b 16 (v.edition.map (Aid.cs b)), .sl b 20 (v.notices.map (Ntc.cs b)), .int .i64 v.day, .sl b 5 (v.fairways.map (Fwy.cs b)), .sl b 4 (v.dangers.map Dgr.cs), .int .i64 v.away, .sl b 4 (v.observers.map Obv.cs), .int .i64 v.tolerance, .sl b 1 (v.full.map intR), .str v.sName, .int .i64 v.sSpeed, .int .i64 v.sLoad, .int .i64 v.sDraught, .int .i64 v.bX, .int .i64 v.bY, .sl b 7 (v.works.map Wrk.cs), .sl b 1 (v.order.map intR), .int .i64 v.start]
theorem NoB.oAut (v : Aut) : NoB (.agg (v.cs true)) := (.aggC (.rows .oAid) (.aggC (.rows .oNtc) (.aggC (.int _ _) (.aggC (.rows .oFwy) (.aggC (.rows .oDgr) (.aggC (.int _ _) (.aggC (.rows .oObv) (.aggC (.int _ _) (.aggC (.ints _) (.aggC (.str _) (.aggC (.int _ _) (.aggC (.int _ _) (.aggC (.int _ _) (.aggC (.int _ _) (.aggC (.int _ _) (.aggC (.rows .oWrk) (.aggC (.ints _) (.aggC (.int _ _) .agg0))))))))))))))))))
def Aut.sz (v : Aut) : Nat := (v.edition.length + (v.edition.map Aid.sz).sum) + (v.notices.length + (v.notices.map Ntc.sz).sum) + (v.fairways.length + (v.fairways.map Fwy.sz).sum) + (v.dangers.length + (v.dangers.map Dgr.sz).sum) + v.observers.length + v.full.length + Shp.sz ⟨v.sName, v.sSpeed, v.sLoad, v.sDraught⟩ + (v.works.length + (v.works.map Wrk.sz).sum) + v.order.length
theorem idxAut {E : Env} {np : Nat} {P : Program} (hE : E = stdE np P) {es : List (List AV)} {i : Int} {K : List AV → Prop} {l : List Aut} {b : Bool} (hl : es = l.map (Aut.cs b)) (h0 : 0 ≤ i ∧ i < l.length) (hk : ∀ (edition : List Aid) (notices : List Ntc) (day : Int) (fairways : List Fwy) (dangers : List Dgr) (away : Int) (observers : List Obv) (tolerance : Int) (full : List Int) (sName : ByteArray) (sSpeed : Int) (sLoad : Int) (sDraught : Int) (bX : Int) (bY : Int) (works : List Wrk) (order : List Int) (start : Int) (r_edition r_notices r_fairways r_dangers r_observers r_full r_works r_order : List (List AV)), l[i.toNat]? = some (Aut.mk edition notices day fairways dangers away observers tolerance full sName sSpeed sLoad sDraught bX bY works order start) → r_edition = edition.map (Aid.cs b) → r_notices = notices.map (Ntc.cs b) → r_fairways = fairways.map (Fwy.cs b) → r_dangers = dangers.map Dgr.cs → r_observers = observers.map Obv.cs → r_full = full.map intR → r_works = works.map Wrk.cs → r_order = order.map intR → K [.sl b 16 r_edition, .sl b 20 r_notices, .int .i64 day, .sl b 5 r_fairways, .sl b 4 r_dangers, .int .i64 away, .sl b 4 r_observers, .int .i64 tolerance, .sl b 1 r_full, .str sName, .int .i64 sSpeed, .int .i64 sLoad, .int .i64 sDraught, .int .i64 bX, .int .i64 bY, .sl b 7 r_works, .sl b 1 r_order, .int .i64 start]) : E.idx es i K :=
  idxL hE hl h0 fun v hv => by
    obtain ⟨edition, notices, day, fairways, dangers, away, observers, tolerance, full, sName, sSpeed, sLoad, sDraught, bX, bY, works, order, start⟩ := v
    exact hk edition notices day fairways dangers away observers tolerance full sName sSpeed sLoad sDraught bX bY works order start _ _ _ _ _ _ _ _ hv rfl rfl rfl rfl rfl rfl rfl rfl
theorem idxAutV {E : Env} {np : Nat} {P : Program} (hE : E = stdE np P) {es : List (List AV)} {i : Int} {K : List AV → Prop} {l : List Aut} {b : Bool} {edition : List Aid} {notices : List Ntc} {day : Int} {fairways : List Fwy} {dangers : List Dgr} {away : Int} {observers : List Obv} {tolerance : Int} {full : List Int} {sName : ByteArray} {sSpeed : Int} {sLoad : Int} {sDraught : Int} {bX : Int} {bY : Int} {works : List Wrk} {order : List Int} {start : Int} {r_edition r_notices r_fairways r_dangers r_observers r_full r_works r_order : List (List AV)} (hl : es = l.map (Aut.cs b)) (h0 : 0 ≤ i) (hv : l[i.toNat]? = some (Aut.mk edition notices day fairways dangers away observers tolerance full sName sSpeed sLoad sDraught bX bY works order start)) (h_edition : r_edition = edition.map (Aid.cs b)) (h_notices : r_notices = notices.map (Ntc.cs b)) (h_fairways : r_fairways = fairways.map (Fwy.cs b)) (h_dangers : r_dangers = dangers.map Dgr.cs) (h_observers : r_observers = observers.map Obv.cs) (h_full : r_full = full.map intR) (h_works : r_works = works.map Wrk.cs) (h_order : r_order = order.map intR) (hk : K [.sl b 16 r_edition, .sl b 20 r_notices, .int .i64 day, .sl b 5 r_fairways, .sl b 4 r_dangers, .int .i64 away, .sl b 4 r_observers, .int .i64 tolerance, .sl b 1 r_full, .str sName, .int .i64 sSpeed, .int .i64 sLoad, .int .i64 sDraught, .int .i64 bX, .int .i64 bY, .sl b 7 r_works, .sl b 1 r_order, .int .i64 start]) : E.idx es i K := by
  subst h_edition h_notices h_fairways h_dangers h_observers h_full h_works h_order
  exact idxV hE hl h0 hv hk
theorem callAut {E : Env} {np : Nat} {P : Program} (hE : E = stdE np P) {f : FuncId} {args : List AV} {K : AV → Prop} {edition : List Aid} {notices : List Ntc} {day : Int} {fairways : List Fwy} {dangers : List Dgr} {away : Int} {observers : List Obv} {tolerance : Int} {full : List Int} {sName : ByteArray} {sSpeed : Int} {sLoad : Int} {sDraught : Int} {bX : Int} {bY : Int} {works : List Wrk} {order : List Int} {start : Int} (h : AC P f args (fun v : Aut => .agg (v.cs true)) (Aut.mk edition notices day fairways dangers away observers tolerance full sName sSpeed sLoad sDraught bX bY works order start)) (hk : ∀ (r_edition r_notices r_fairways r_dangers r_observers r_full r_works r_order : List (List AV)), r_edition = edition.map (Aid.cs true) → r_notices = notices.map (Ntc.cs true) → r_fairways = fairways.map (Fwy.cs true) → r_dangers = dangers.map Dgr.cs → r_observers = observers.map Obv.cs → r_full = full.map intR → r_works = works.map Wrk.cs → r_order = order.map intR → K (.agg [.sl true 16 r_edition, .sl true 20 r_notices, .int .i64 day, .sl true 5 r_fairways, .sl true 4 r_dangers, .int .i64 away, .sl true 4 r_observers, .int .i64 tolerance, .sl true 1 r_full, .str sName, .int .i64 sSpeed, .int .i64 sLoad, .int .i64 sDraught, .int .i64 bX, .int .i64 bY, .sl true 7 r_works, .sl true 1 r_order, .int .i64 start])) : E.call f args K :=
  callI hE h fun y hy => by subst hy; exact hk _ _ _ _ _ _ _ _ rfl rfl rfl rfl rfl rfl rfl rfl
end Go.Proofs.YtlfnlgbojbgcnaaGreatDoor
