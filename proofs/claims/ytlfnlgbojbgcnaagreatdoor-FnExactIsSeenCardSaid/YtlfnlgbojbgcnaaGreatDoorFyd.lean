/- Contracts: notices, fairways. -/
import Derived.Test.YtlfnlgbojbgcnaaGreatDoorFyc
namespace Go.Proofs.YtlfnlgbojbgcnaaGreatDoor
open Go Go.RowKit Classical
set_option maxRecDepth 100000
set_option maxHeartbeats 2000000
set_option linter.unusedVariables false
set_option linter.unusedSimpArgs false
structure Ntc where
  number : Int
  day : Int
  kind : Int
  target : Int
  aNumber : Int
  aName : ByteArray
  atX : Int
  atY : Int
  aHeight : Int
  mKind : Int
  mColors : ByteArray
  mShape : ByteArray
  mTop : ByteArray
  lKind : Int
  lGroup : List Int
  lLetter : ByteArray
  lColors : ByteArray
  lPeriod : Int
  sectors : List Scr
  intensity : Int
def Ntc.cs (b : Bool) (v : Ntc) : List AV := [.int .i64 v.number, .int .i64 v.day, .int .i64 v.kind, .int .i64 v.target, .int .i64 v.aNumber, .str v.aName, .int .i64 v.atX, .int .i64 v.atY, .int .i64 v.aHeight, .int .i64 v.mKind, .str v.mColors, .str v.mShape, .str v.mTop, .int .i64 v.lKind, .sl b 1 (v.lGroup.map intR), .str v.lLetter, .str v.lColors, .int .i64 v.lPeriod, .sl b 3 (v.sectors.map Scr.cs), .int .i64 v.intensity]
theorem NoB.oNtc (v : Ntc) : NoB (.agg (v.cs true)) := (.aggC (.int _ _) (.aggC (.int _ _) (.aggC (.int _ _) (.aggC (.int _ _) (.aggC (.int _ _) (.aggC (.str _) (.aggC (.int _ _) (.aggC (.int _ _) (.aggC (.int _ _) (.aggC (.int _ _) (.aggC (.str _) (.aggC (.str _) (.aggC (.str _) (.aggC (.int _ _) (.aggC (.ints _) (.aggC (.str _) (.aggC (.str _) (.aggC (.int _ _) (.aggC (.rows .oScr) (.aggC (.int _ _) .agg0))))))))))))))))))))
def Ntc.sz (v : Ntc) : Nat := Aid.sz ⟨v.aNumber, v.aName, v.atX, v.atY, v.aHeight, v.mKind, v.mColors, v.mShape, v.mTop, v.lKind, v.lGroup, v.lLetter, v.lColors, v.lPeriod, v.sectors, v.intensity⟩
theorem idxNtc {E : Env} {np : Nat} {P : Program} (hE : E = stdE np P) {es : List (List AV)} {i : Int} {K : List AV → Prop} {l : List Ntc} {b : Bool} (hl : es = l.map (Ntc.cs b)) (h0 : 0 ≤ i ∧ i < l.length) (hk : ∀ (number : Int) (day : Int) (kind : Int) (target : Int) (aNumber : Int) (aName : ByteArray) (atX : Int) (atY : Int) (aHeight : Int) (mKind : Int) (mColors : ByteArray) (mShape : ByteArray) (mTop : ByteArray) (lKind : Int) (lGroup : List Int) (lLetter : ByteArray) (lColors : ByteArray) (lPeriod : Int) (sectors : List Scr) (intensity : Int) (r_lGroup r_sectors : List (List AV)), l[i.toNat]? = some (Ntc.mk number day kind target aNumber aName atX atY aHeight mKind mColors mShape mTop lKind lGroup lLetter lColors lPeriod sectors intensity) → r_lGroup = lGroup.map intR → r_sectors = sectors.map Scr.cs → K [.int .i64 number, .int .i64 day, .int .i64 kind, .int .i64 target, .int .i64 aNumber, .str aName, .int .i64 atX, .int .i64 atY, .int .i64 aHeight, .int .i64 mKind, .str mColors, .str mShape, .str mTop, .int .i64 lKind, .sl b 1 r_lGroup, .str lLetter, .str lColors, .int .i64 lPeriod, .sl b 3 r_sectors, .int .i64 intensity]) : E.idx es i K :=
  idxL hE hl h0 fun v hv => by
    obtain ⟨number, day, kind, target, aNumber, aName, atX, atY, aHeight, mKind, mColors, mShape, mTop, lKind, lGroup, lLetter, lColors, lPeriod, sectors, intensity⟩ := v
    exact hk number day kind target aNumber aName atX atY aHeight mKind mColors mShape mTop lKind lGroup lLetter lColors lPeriod sectors intensity _ _ hv rfl rfl
theorem idxNtcV {E : Env} {np : Nat} {P : Program} (hE : E = stdE np P) {es : List (List AV)} {i : Int} {K : List AV → Prop} {l : List Ntc} {b : Bool} {number : Int} {day : Int} {kind : Int} {target : Int} {aNumber : Int} {aName : ByteArray} {atX : Int} {atY : Int} {aHeight : Int} {mKind : Int} {mColors : ByteArray} {mShape : ByteArray} {mTop : ByteArray} {lKind : Int} {lGroup : List Int} {lLetter : ByteArray} {lColors : ByteArray} {lPeriod : Int} {sectors : List Scr} {intensity : Int} {r_lGroup r_sectors : List (List AV)} (hl : es = l.map (Ntc.cs b)) (h0 : 0 ≤ i) (hv : l[i.toNat]? = some (Ntc.mk number day kind target aNumber aName atX atY aHeight mKind mColors mShape mTop lKind lGroup lLetter lColors lPeriod sectors intensity)) (h_lGroup : r_lGroup = lGroup.map intR) (h_sectors : r_sectors = sectors.map Scr.cs) (hk : K [.int .i64 number, .int .i64 day, .int .i64 kind, .int .i64 target, .int .i64 aNumber, .str aName, .int .i64 atX, .int .i64 atY, .int .i64 aHeight, .int .i64 mKind, .str mColors, .str mShape, .str mTop, .int .i64 lKind, .sl b 1 r_lGroup, .str lLetter, .str lColors, .int .i64 lPeriod, .sl b 3 r_sectors, .int .i64 intensity]) : E.idx es i K := by
  subst h_lGroup h_sectors
  exact idxV hE hl h0 hv hk
theorem callNtc {E : Env} {np : Nat} {P : Program} (hE : E = stdE np P) {f : FuncId} {args : List AV} {K : AV → Prop} {number : Int} {day : Int} {kind : Int} {target : Int} {aNumber : Int} {aName : ByteArray} {atX : Int} {atY : Int} {aHeight : Int} {mKind : Int} {mColors : ByteArray} {mShape : ByteArray} {mTop : ByteArray} {lKind : Int} {lGroup : List Int} {lLetter : ByteArray} {lColors : ByteArray} {lPeriod : Int} {sectors : List Scr} {intensity : Int} (h : AC P f args (fun v : Ntc => .agg (v.cs true)) (Ntc.mk number day kind target aNumber aName atX atY aHeight mKind mColors mShape mTop lKind lGroup lLetter lColors lPeriod sectors intensity)) (hk : ∀ (r_lGroup r_sectors : List (List AV)), r_lGroup = lGroup.map intR → r_sectors = sectors.map Scr.cs → K (.agg [.int .i64 number, .int .i64 day, .int .i64 kind, .int .i64 target, .int .i64 aNumber, .str aName, .int .i64 atX, .int .i64 atY, .int .i64 aHeight, .int .i64 mKind, .str mColors, .str mShape, .str mTop, .int .i64 lKind, .sl true 1 r_lGroup, .str lLetter, .str lColors, .int .i64 lPeriod, .sl true 3 r_sectors, .int .i64 intensity])) : E.call f args K :=
  callI hE h fun y hy => by subst hy; exact hk _ _ rfl rfl
structure Fwy where
  name : ByteArray
  line : List Pnt
  width : Int
  spacing : Int
  tolerance : Int
def Fwy.cs (b : Bool) (v : Fwy) : List AV := [.str v.name, .sl b 2 (v.line.map Pnt.cs), .int .i64 v.width, .int .i64 v.spacing, .int .i64 v.tolerance]
theorem NoB.oFwy (v : Fwy) : NoB (.agg (v.cs true)) := (.aggC (.str _) (.aggC (.rows .oPnt) (.aggC (.int _ _) (.aggC (.int _ _) (.aggC (.int _ _) .agg0)))))
def Fwy.sz (v : Fwy) : Nat := Chn.sz ⟨v.name, v.line, v.width⟩
theorem idxFwy {E : Env} {np : Nat} {P : Program} (hE : E = stdE np P) {es : List (List AV)} {i : Int} {K : List AV → Prop} {l : List Fwy} {b : Bool} (hl : es = l.map (Fwy.cs b)) (h0 : 0 ≤ i ∧ i < l.length) (hk : ∀ (name : ByteArray) (line : List Pnt) (width : Int) (spacing : Int) (tolerance : Int) (r_line : List (List AV)), l[i.toNat]? = some (Fwy.mk name line width spacing tolerance) → r_line = line.map Pnt.cs → K [.str name, .sl b 2 r_line, .int .i64 width, .int .i64 spacing, .int .i64 tolerance]) : E.idx es i K :=
  idxL hE hl h0 fun v hv => by
    obtain ⟨name, line, width, spacing, tolerance⟩ := v
    exact hk name line width spacing tolerance _ hv rfl
theorem idxFwyV {E : Env} {np : Nat} {P : Program} (hE : E = stdE np P) {es : List (List AV)} {i : Int} {K : List AV → Prop} {l : List Fwy} {b : Bool} {name : ByteArray} {line : List Pnt} {width : Int} {spacing : Int} {tolerance : Int} {r_line : List (List AV)} (hl : es = l.map (Fwy.cs b)) (h0 : 0 ≤ i) (hv : l[i.toNat]? = some (Fwy.mk name line width spacing tolerance)) (h_line : r_line = line.map Pnt.cs) (hk : K [.str name, .sl b 2 r_line, .int .i64 width, .int .i64 spacing, .int .i64 tolerance]) : E.idx es i K := by
  subst h_line
  exact idxV hE hl h0 hv hk
theorem callFwy {E : Env} {np : Nat} {P : Program} (hE : E = stdE np P) {f : FuncId} {args : List AV} {K : AV → Prop} {name : ByteArray} {line : List Pnt} {width : Int} {spacing : Int} {tolerance : Int} (h : AC P f args (fun v : Fwy => .agg (v.cs true)) (Fwy.mk name line width spacing tolerance)) (hk : ∀ (r_line : List (List AV)), r_line = line.map Pnt.cs → K (.agg [.str name, .sl true 2 r_line, .int .i64 width, .int .i64 spacing, .int .i64 tolerance])) : E.call f args K :=
  callI hE h fun y hy => by subst hy; exact hk _ rfl
end Go.Proofs.YtlfnlgbojbgcnaaGreatDoor
