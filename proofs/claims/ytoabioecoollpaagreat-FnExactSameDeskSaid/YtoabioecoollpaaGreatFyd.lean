/- Contracts: notices, fairways. -/
import Derived.Test.YtoabioecoollpaaGreatFyc
namespace Go.Proofs.YtoabioecoollpaaGreat
open Go Go.RowKit Classical
set_option maxRecDepth 100000
set_option maxHeartbeats 2000000
set_option linter.unusedVariables false
set_option linter.unusedSimpArgs false
structure Ntc where
  number : Int
  day : Int
  kind : Int
  target : Int
  aNumber : Int
  aName : ByteArray
  atX : Int
  atY : Int
  aHeight : Int
  mKind : Int
  mColors : ByteArray
  mShape : ByteArray
  mTop : ByteArray
  lKind : Int
  lGroup : List Int
  lLetter : ByteArray
  lColors : ByteArray
  lPeriod : Int
  sectors : List Scr
  intensity : Int
def Ntc.cs (b : Bool) (v : Ntc) : List AV := [.int .i64 v.number, .int .i64 v.day, .int .i64 v.kind, .int .i64 v.target, .int .i64 v.aNumber, .str v.aName, .int .i64 v.atX, .int .i64 v.atY, .int .i64 v.aHeight, .int .i64 v.mKind, .str v.mColors, .str v.mShape, .str v.mTop, .int .i64 v.lKind, .sl b 1 (v.lGroup.map intR), .str v.lLetter, .str v.lColors, .int .i64 v.lPeriod, .sl b 3 (v.sectors.map Scr.cs), .int .i64 v.intensity]
theorem NoB.oNtc (v : Ntc) : NoB (.agg (v.cs true)) := (.aggC (.int _ _) (.aggC (.int _ _) (.aggC (.int _ _) (.aggC (.int _ _) (.aggC (.int _ _) (.aggC (.str _) (.aggC (.int _ _) (.aggC (.int _ _) (.aggC (.int _ _) (.aggC (.int _ _) (.aggC (.str _) (.aggC (.str _) (.aggC (.str _) (.aggC (.int _ _) (.aggC (.ints _) (.aggC (.str _) (.aggC (.str _) (.aggC (.int _ _) (.aggC (.rows .oScr) (.aggC (.int _ _) .agg0))))))))))))))))))))
def Ntc.sz (v : Ntc) : Nat := Aid.sz ⟨v.aNumber, v.aName, v.atX, v.atY, v.aHeight, v.mKind, v.mColors, v.mShape, v.mTop, v.lKind, v.lGroup, v.lLetter, v.lColors, v.lPeriod, v.sectors, v.intensity⟩
theorem idxNtc {E : Env} {np : Nat} {P : Program} (hE : E = stdE np P) {es : List (List AV)} {i : Int} {K : List AV → Prop} {l : List Ntc} {b : Bool} (hl : es = l.map (Ntc.cs b)) (h0 : 0 ≤ i ∧ i < l.length) (hk : ∀ (number : Int) (day : Int) (kind : Int) (target : Int) (aNumber : Int) (aName : ByteArray) (atX : Int) (atY : Int) (aHeight : Int) (mKind : Int) (mColors : ByteArray) (mShape : ByteArray) (mTop : ByteArray) (lKind : Int) (lGroup : List Int) (lLetter : ByteArray) (lColors : ByteArray) (lPeriod : Int) (sectors : List Scr) (intensity : Int) (r_lGroup r_sectors : List (List AV)), l[i.toNat]? = some (Ntc.mk number day kind target aNumber aName atX atY aHeight mKind mColors mShape mTop lKind lGroup lLetter lColors lPeriod sectors intensity) → r_lGroup = lGroup.map intR → r_sectors = sectors.map Scr.cs → K [.int .i64 number, .int .i64 day, .int .i64 kind, .int .i64 target, .int .i64 aNumber, .str aName, .int .i64 atX, .int .i64 atY, .int .i64 aHeight, .int .i64 mKind, .str mColors, .str mShape, .str mTop, .int .i64 lKind, .sl b 1 r_lGroup, .str lLetter, .str lColors, .int .i64 lPeriod, .sl b 3 r_sectors, .int .i64 intensity]) : E.idx es i K :=
  idxL hE hl h0 fun v hv => by
    obtain ⟨number, day, kind, target, aNumber, aName, atX, atY, aHeight, mKind, mColors, mShape, mTop, lKind, lGroup, lLetter, lColors, lPeriod, sectors, intensity⟩ := v
    exact hk number day kind target aNumber aName atX atY aHeight mKind mColors mShape mTop lKind lGroup lLetter lColors lPeriod sectors intensity _ _ hv rfl rfl
theorem idxNtcV {E : Env} {np : Nat} {P : Program} (hE : E = stdE np P) {es : List (List AV)} {i : Int} {K : List AV → Prop} {l : List Ntc} {b : Bool} {number : Int} {day : Int} {kind : Int} {target : Int} {aNumber : Int} {aName : ByteArray} {atX : Int} {atY : Int} {aHeight : Int} {mKind : Int} {mColors : ByteArray} {mShape : ByteArray} {mTop : ByteArray} {lKind : Int} {lGroup : List Int} {lLetter : ByteArray} {lColors : ByteArray} {lPeriod : Int} {sectors : List Scr} {intensity : Int} {r_lGroup r_sectors : List (List AV)} (hl : es = l.map (Ntc.cs b)) (h0 : 0 ≤ i) (hv : l[i.toNat]? = some (Ntc.mk number day kind target aNumber aName atX atY aHeight mKind mColors mShape mTop lKind lGroup lLetter lColors lPeriod sectors intensity)) (h_lGroup : r_lGroup = lGroup.map intR) (h_sectors : r_sectors = sectors.map Scr.cs) (hk : K [.int .i64 number, .int .i64 day, .int .i64 kind, .int .i64 target, .int .i64 aNumber, .str aName, .int .i64 atX, .int .i64 atY, .int .i64 aHeight, .int .i64 mKind, .str mColors, .str mShape, .str mTop, .int .i64 lKind, .sl b 1 r_lGroup, .str lLetter, .str lColors, .int .i64 lPeriod, .sl b 3 r_sectors, .int .i64 intensity]) : E.idx es i K := by
  subst h_lGroup h_sectors
  exact idxV hE hl h0 hv hk
theorem callNtc {E : Env} {np : Nat} {P : Program} (hE : E = stdE np P) {f : FuncId} {args : List AV} {K : AV → Prop} {number : Int} {day : Int} {kind : Int} {target : Int} {aNumber : Int} {aName : ByteArray} {atX : Int} {atY : Int} {aHeight : Int} {mKind : Int} {mColors : ByteArray} {mShape : ByteArray} {mTop : ByteArray} {lKind : Int} {lGroup : List Int} {lLetter : ByteArray} {lColors : ByteArray} {lPeriod : Int} {sectors : List Scr} {intensity : Int} (h : AC P f args (fun v : Ntc => .agg (v.cs true)) (Ntc.mk number day kind target aNumber aName atX atY aHeight mKind mColors mShape mTop lKind lGroup lLetter lColors lPeriod sectors intensity)) (hk : ∀ (r_lGroup r_sectors : List (List AV)), r_lGroup = lGroup.map intR → r_sectors = sectors.map Scr.cs → K (.agg [.int .i64 number, .int .i64 day, .int .i64 kind, .int .i64 target, .int .i64 aNumber, .str aName, .int .i64 atX, .int .i64 atY, .int .i64 aHeight, .int .i64 mKind, .str mColors, .str mShape, .str mTop, .int .i64 lKind, .sl true 1 r_lGroup, .str lLetter, .str lColors, .int .i64 lPeriod, .sl true 3 r_sectors, .int .i64 intensity])) : E.call f args K :=
  callI hE h fun y hy => by subst hy; exact hk _ _ rfl rfl
theorem szNotice_ (number : Int) (day : Int) (kind : Int) (target : Int) (aNumber : Int) (aName : ByteArray) (atX : Int) (atY : Int) (aHeight : Int) (mKind : Int) (mColors : ByteArray) (mShape : ByteArray) (mTop : ByteArray) (lKind : Int) (lLetter : ByteArray) (lColors : ByteArray) (lPeriod : Int) (intensity : Int) {r_lGroup : List (List AV)} {t_lGroup : Bool} {lGroup : List Int} {r_sectors : List (List AV)} {t_sectors : Bool} {sectors : List Scr} (h_lGroup : r_lGroup = lGroup.map intR) (h_sectors : r_sectors = sectors.map Scr.cs) (n : Int) (hn : 0 ≤ n ∧ n ≤ 1048576) : AC Tryz.prog 84 [.agg [.int .i64 number, .int .i64 day, .int .i64 kind, .int .i64 target, .int .i64 aNumber, .str aName, .int .i64 atX, .int .i64 atY, .int .i64 aHeight, .int .i64 mKind, .str mColors, .str mShape, .str mTop, .int .i64 lKind, .sl t_lGroup 1 r_lGroup, .str lLetter, .str lColors, .int .i64 lPeriod, .sl t_sectors 3 r_sectors, .int .i64 intensity], .int .i64 n] (AV.int .i64) (szN n (Ntc.sz (Ntc.mk number day kind target aNumber aName atX atY aHeight mKind mColors mShape mTop lKind lGroup lLetter lColors lPeriod sectors intensity))) := by
  refine ac Tryz.func84 (by kernel_rfl) (.int _ _) fun E K hE hK => ?_
  conv => cbv
  repeat' first
    | (refine callI hE (szAid_ _ _ _ _ _ _ _ _ _ _ _ _ _ _ (by assumption) (by assumption) _ (by omega)) (fun y hy => ?_); have hz := szN_or2 hy; clear hy; (try conv => cbv))
    | ((first
     | refine idxV hE (by assumption) (by omega) (by assumption) ?_
     | refine ltT hE (by omega) ?_
     | refine ltF hE (by omega) ?_
     | refine ltI hE (fun _ => ?_) (fun _ => ?_)
     | refine leT hE (by omega) ?_
     | refine leF hE (by omega) ?_
     | refine leI hE (fun _ => ?_) (fun _ => ?_)
     | refine eqT hE (by omega) ?_
     | refine eqF hE (by omega) ?_
     | refine eqI hE (fun _ => ?_) (fun _ => ?_)
     | refine add64 hE (by omega) (fun _ _ => ?_)
     | refine sub64 hE (by omega) (fun _ _ => ?_)
     | refine addI hE (fun _ _ => ?_)
     | refine subI hE (fun _ _ => ?_)
     | refine lenL hE (by assumption) (fun _ _ _ => ?_)
     | refine len0 hE (fun _ _ => ?_)
     | refine idxL hE (by assumption) (by first | omega | (simp only [List.length_set, mix_len]; omega)) (fun _ _ => ?_)
     | refine idxFill hE (by assumption) (by omega) ?_
     | refine idxI hE (by decide) (by rfl) ?_
     | refine iteB (fun _ => ?_) (fun _ => ?_)
     | refine maxI hE (fun _ _ => ?_)
     | refine minI hE (fun _ _ => ?_)
     | refine seqI hE (fun _ => ?_) (fun _ => ?_)
     | refine scatI hE (by first | omega | (simp only [ByteArray.size, Array.size, List.length_cons, List.length_nil] at *; omega)) (fun _ _ _ => ?_)
     | refine slenI hE (fun _ _ _ => ?_)
     | refine sidxI hE (by omega) (fun _ _ _ _ => ?_)
     | refine needI hE (by first | decide | omega) ?_
     | refine rem64 hE (by omega) (fun _ _ => ?_)
     | refine quo64 hE (by omega) (fun _ _ => ?_)
     | refine wrapU8 hE (by omega) (fun _ _ => ?_)
     | refine wrap64 hE (by omega) (fun _ _ => ?_)
     | refine noownI hE (by simp [AV.isOwn]) ?_) <;> (try conv => cbv))
  all_goals (refine hK _ ?_; show AV.int _ _ = AV.int _ _; congr 1; unfold szN Ntc.sz; simp only at *; split <;> omega)
theorem szNoticeS_ {rs : List (List AV)} {t b : Bool} {l : List Ntc} (n : Int) (hl : rs = l.map (Ntc.cs b)) (hn : 0 ≤ n ∧ n ≤ 1048576) : AC Tryz.prog 35 [.sl t 20 rs, .int .i64 n] (AV.int .i64) (szN n (l.length + (l.map Ntc.sz).sum)) := by
  refine ac Tryz.func35 (by kernel_rfl) (.int _ _) fun E K hE hK => ?_
  conv => cbv
  repeat' first
    | ((first
     | refine idxV hE (by assumption) (by omega) (by assumption) ?_
     | refine ltT hE (by omega) ?_
     | refine ltF hE (by omega) ?_
     | refine ltI hE (fun _ => ?_) (fun _ => ?_)
     | refine leT hE (by omega) ?_
     | refine leF hE (by omega) ?_
     | refine leI hE (fun _ => ?_) (fun _ => ?_)
     | refine eqT hE (by omega) ?_
     | refine eqF hE (by omega) ?_
     | refine eqI hE (fun _ => ?_) (fun _ => ?_)
     | refine add64 hE (by omega) (fun _ _ => ?_)
     | refine sub64 hE (by omega) (fun _ _ => ?_)
     | refine addI hE (fun _ _ => ?_)
     | refine subI hE (fun _ _ => ?_)
     | refine lenL hE (by assumption) (fun _ _ _ => ?_)
     | refine len0 hE (fun _ _ => ?_)
     | refine idxL hE (by assumption) (by first | omega | (simp only [List.length_set, mix_len]; omega)) (fun _ _ => ?_)
     | refine idxFill hE (by assumption) (by omega) ?_
     | refine idxI hE (by decide) (by rfl) ?_
     | refine iteB (fun _ => ?_) (fun _ => ?_)
     | refine maxI hE (fun _ _ => ?_)
     | refine minI hE (fun _ _ => ?_)
     | refine seqI hE (fun _ => ?_) (fun _ => ?_)
     | refine scatI hE (by first | omega | (simp only [ByteArray.size, Array.size, List.length_cons, List.length_nil] at *; omega)) (fun _ _ _ => ?_)
     | refine slenI hE (fun _ _ _ => ?_)
     | refine sidxI hE (by omega) (fun _ _ _ _ => ?_)
     | refine needI hE (by first | decide | omega) ?_
     | refine rem64 hE (by omega) (fun _ _ => ?_)
     | refine quo64 hE (by omega) (fun _ _ => ?_)
     | refine wrapU8 hE (by omega) (fun _ _ => ?_)
     | refine wrap64 hE (by omega) (fun _ _ => ?_)
     | refine noownI hE (by simp [AV.isOwn]) ?_) <;> (try conv => cbv))
  · refine hK _ ?_
    rw [szN, if_pos (by omega)]; rfl
  · refine loopC hE (ι := Int × Int) [0] [5, 1] (fun q => (fun (i : Int) (m : Int) => [(5, .int .i64 i), (1, .int .i64 m)]) q.1 q.2) (fun q => (fun (i : Int) (m : Int) => []) q.1 q.2) (fun q => (fun (i : Int) (m : Int) => (l.length - i).toNat) q.1 q.2) (fun q => (fun (i : Int) (m : Int) => (0 ≤ i ∧ i ≤ l.length) ∧ (0 ≤ m ∧ m ≤ 1048576) ∧ m + sumTo Ntc.sz l i + l.length = n) q.1 q.2) [] (by decide) ((0, _)) (by conv => lhs; cbv) (by conv => lhs; cbv) rfl rfl (by dsimp only; exact ⟨by omega, by omega, by rw [sumTo_zero (by omega)]; omega⟩) fun q hi Kn hN => ?_
    obtain ⟨i, m⟩ := q
    (try dsimp only at hi)
    conv => cbv
    obtain ⟨⟨h0, h1⟩, h2, h3⟩ := hi
    have hle := sumTo_le Ntc.sz l
    repeat' first
      | (refine idxNtc hE hl (by omega) (fun number day kind target aNumber aName atX atY aHeight mKind mColors mShape mTop lKind lGroup lLetter lColors lPeriod sectors intensity r_lGroup r_sectors hv h_lGroup h_sectors => ?_); have hs := sumTo_succ Ntc.sz h0 hv; have hs2 := hle (i + 1); (try conv => cbv))
      | (refine callI hE (szNotice_ _ _ _ _ _ _ _ _ _ _ _ _ _ _ _ _ _ _ (by assumption) (by assumption) _ (by omega)) (fun y hy => ?_); have hz := szN_or2 hy; clear hy; (try conv => cbv))
      | (refine hN (_, _) _ [] (by decide) rfl ⟨?_, ?_, ?_⟩ ?_ <;> (try dsimp only))
      | ((first
       | refine idxV hE (by assumption) (by omega) (by assumption) ?_
       | refine ltT hE (by omega) ?_
       | refine ltF hE (by omega) ?_
       | refine ltI hE (fun _ => ?_) (fun _ => ?_)
       | refine leT hE (by omega) ?_
       | refine leF hE (by omega) ?_
       | refine leI hE (fun _ => ?_) (fun _ => ?_)
       | refine eqT hE (by omega) ?_
       | refine eqF hE (by omega) ?_
       | refine eqI hE (fun _ => ?_) (fun _ => ?_)
       | refine add64 hE (by omega) (fun _ _ => ?_)
       | refine sub64 hE (by omega) (fun _ _ => ?_)
       | refine addI hE (fun _ _ => ?_)
       | refine subI hE (fun _ _ => ?_)
       | refine lenL hE (by assumption) (fun _ _ _ => ?_)
       | refine len0 hE (fun _ _ => ?_)
       | refine idxL hE (by assumption) (by first | omega | (simp only [List.length_set, mix_len]; omega)) (fun _ _ => ?_)
       | refine idxFill hE (by assumption) (by omega) ?_
       | refine idxI hE (by decide) (by rfl) ?_
       | refine iteB (fun _ => ?_) (fun _ => ?_)
       | refine maxI hE (fun _ _ => ?_)
       | refine minI hE (fun _ _ => ?_)
       | refine seqI hE (fun _ => ?_) (fun _ => ?_)
       | refine scatI hE (by first | omega | (simp only [ByteArray.size, Array.size, List.length_cons, List.length_nil] at *; omega)) (fun _ _ _ => ?_)
       | refine slenI hE (fun _ _ _ => ?_)
       | refine sidxI hE (by omega) (fun _ _ _ _ => ?_)
       | refine needI hE (by first | decide | omega) ?_
       | refine rem64 hE (by omega) (fun _ _ => ?_)
       | refine quo64 hE (by omega) (fun _ _ => ?_)
       | refine wrapU8 hE (by omega) (fun _ _ => ?_)
       | refine wrap64 hE (by omega) (fun _ _ => ?_)
       | refine noownI hE (by simp [AV.isOwn]) ?_) <;> (try conv => cbv))
    all_goals first
      | omega
      | (refine hK _ ?_; rw [szN_lt (by omega)]; rfl)
      | (rename_i hn2; rw [hn2, hs]; omega)
      | (refine hK _ ?_; have := sumTo_all Ntc.sz l (i := i) (by omega); rw [szN_ge (by omega)]; show AV.int _ _ = AV.int _ _; congr 1; omega)
      | trace_state
theorem toNotice_ (number : Int) (day : Int) (kind : Int) (target : Int) (aNumber : Int) (aName : ByteArray) (atX : Int) (atY : Int) (aHeight : Int) (mKind : Int) (mColors : ByteArray) (mShape : ByteArray) (mTop : ByteArray) (lKind : Int) (lLetter : ByteArray) (lColors : ByteArray) (lPeriod : Int) (intensity : Int) {r_lGroup : List (List AV)} {t_lGroup : Bool} {lGroup : List Int} {r_sectors : List (List AV)} {t_sectors : Bool} {sectors : List Scr} (h_lGroup : r_lGroup = lGroup.map intR) (h_sectors : r_sectors = sectors.map Scr.cs) (hz : Ntc.sz (Ntc.mk number day kind target aNumber aName atX atY aHeight mKind mColors mShape mTop lKind lGroup lLetter lColors lPeriod sectors intensity) ≤ 1048576) : AC Tryz.prog 91 [.agg [.int .i64 number, .int .i64 day, .int .i64 kind, .int .i64 target, .int .i64 aNumber, .str aName, .int .i64 atX, .int .i64 atY, .int .i64 aHeight, .int .i64 mKind, .str mColors, .str mShape, .str mTop, .int .i64 lKind, .sl t_lGroup 1 r_lGroup, .str lLetter, .str lColors, .int .i64 lPeriod, .sl t_sectors 3 r_sectors, .int .i64 intensity]] (fun v : Ntc => .agg (v.cs true)) (Ntc.mk number day kind target aNumber aName atX atY aHeight mKind mColors mShape mTop lKind lGroup lLetter lColors lPeriod sectors intensity) := by
  refine ac Tryz.func91 (by kernel_rfl) (.oNtc _) fun E K hE hK => ?_
  conv => cbv
  have hz' := hz
  simp only [Ntc.sz] at hz'
  repeat' first
    | ((first
     | refine idxV hE (by assumption) (by omega) (by assumption) ?_
     | refine callAid hE (toAid_ _ _ _ _ _ _ _ _ _ _ _ _ _ _ (by assumption) (by assumption) (by omega)) (fun _ _ _ _ => ?_)
     | refine ltT hE (by omega) ?_
     | refine ltF hE (by omega) ?_
     | refine ltI hE (fun _ => ?_) (fun _ => ?_)
     | refine leT hE (by omega) ?_
     | refine leF hE (by omega) ?_
     | refine leI hE (fun _ => ?_) (fun _ => ?_)
     | refine eqT hE (by omega) ?_
     | refine eqF hE (by omega) ?_
     | refine eqI hE (fun _ => ?_) (fun _ => ?_)
     | refine add64 hE (by omega) (fun _ _ => ?_)
     | refine sub64 hE (by omega) (fun _ _ => ?_)
     | refine addI hE (fun _ _ => ?_)
     | refine subI hE (fun _ _ => ?_)
     | refine lenL hE (by assumption) (fun _ _ _ => ?_)
     | refine len0 hE (fun _ _ => ?_)
     | refine idxL hE (by assumption) (by first | omega | (simp only [List.length_set, mix_len]; omega)) (fun _ _ => ?_)
     | refine idxFill hE (by assumption) (by omega) ?_
     | refine idxI hE (by decide) (by rfl) ?_
     | refine iteB (fun _ => ?_) (fun _ => ?_)
     | refine maxI hE (fun _ _ => ?_)
     | refine minI hE (fun _ _ => ?_)
     | refine seqI hE (fun _ => ?_) (fun _ => ?_)
     | refine scatI hE (by first | omega | (simp only [ByteArray.size, Array.size, List.length_cons, List.length_nil] at *; omega)) (fun _ _ _ => ?_)
     | refine slenI hE (fun _ _ _ => ?_)
     | refine sidxI hE (by omega) (fun _ _ _ _ => ?_)
     | refine needI hE (by first | decide | omega) ?_
     | refine rem64 hE (by omega) (fun _ _ => ?_)
     | refine quo64 hE (by omega) (fun _ _ => ?_)
     | refine wrapU8 hE (by omega) (fun _ _ => ?_)
     | refine wrap64 hE (by omega) (fun _ _ => ?_)
     | refine noownI hE (by simp [AV.isOwn]) ?_) <;> (try conv => cbv))
  all_goals first
    | (refine hK _ ?_; subst_vars; rfl)
    | trace_state
theorem toNoticeS_ {rs : List (List AV)} {t b : Bool} {l : List Ntc} (hl : rs = l.map (Ntc.cs b)) (hz : l.length + (l.map Ntc.sz).sum ≤ 1048576) : AC Tryz.prog 49 [.sl t 20 rs] (fun l : List Ntc => .sl true 20 (l.map (Ntc.cs true))) l := by
  refine ac Tryz.func49 (by kernel_rfl) (.rows .oNtc) fun E K hE hK => ?_
  conv => cbv
  refine lenL hE hl fun n hn hb => ?_
  conv => cbv
  refine makeL hE (l := l) (Ntc.cs true) hn rfl (by omega) fun es hes => ?_
  conv => cbv
  refine loopC hE (ι := Int × (List (List AV))) [0] [4, 3] (fun q => (fun (i : Int) (es' : List (List AV)) => [(4, .int .i64 i), (3, .ob 0)]) q.1 q.2) (fun q => (fun (i : Int) (es' : List (List AV)) => [.row 20 es']) q.1 q.2) (fun q => (fun (i : Int) (es' : List (List AV)) => (l.length - i).toNat) q.1 q.2) (fun q => (fun (i : Int) (es' : List (List AV)) => 0 ≤ i ∧ es' = fillRow (Ntc.cs true) [.int .i64 0, .int .i64 0, .int .i64 0, .int .i64 0, .int .i64 0, .str ⟨#[]⟩, .int .i64 0, .int .i64 0, .int .i64 0, .int .i64 0, .str ⟨#[]⟩, .str ⟨#[]⟩, .str ⟨#[]⟩, .int .i64 0, .nils, .str ⟨#[]⟩, .str ⟨#[]⟩, .int .i64 0, .nils, .int .i64 0] l i) q.1 q.2) [0] (by decide) ((0, es)) (by conv => lhs; cbv) (by conv => lhs; cbv) rfl rfl (by dsimp only; exact ⟨by omega, hes⟩) fun q hi Kn hN => ?_
  obtain ⟨i, es'⟩ := q
  (try dsimp only at hi)
  conv => cbv
  obtain ⟨h0, hinv⟩ := hi
  repeat' first
    | (refine idxNtc hE hl (by omega) (fun number day kind target aNumber aName atX atY aHeight mKind mColors mShape mTop lKind lGroup lLetter lColors lPeriod sectors intensity r_lGroup r_sectors hv h_lGroup h_sectors => ?_); have hsz := sum_get Ntc.sz hv; (try conv => cbv))
    | (refine hN (_, _) _ [0] (by decide) rfl ⟨?_, ?_⟩ ?_ <;> (try dsimp only))
    | ((first
     | refine idxV hE (by assumption) (by omega) (by assumption) ?_
     | refine callNtc hE (toNotice_ _ _ _ _ _ _ _ _ _ _ _ _ _ _ _ _ _ _ (by assumption) (by assumption) (by omega)) (fun _ _ _ _ => ?_)
     | refine updFill (R := Ntc.cs true) hE (by assumption) (by omega) (by assumption) (by exact Nat.le_refl _) (by subst_vars; rfl) (fun _ _ => ?_)
     | refine ltT hE (by omega) ?_
     | refine ltF hE (by omega) ?_
     | refine ltI hE (fun _ => ?_) (fun _ => ?_)
     | refine leT hE (by omega) ?_
     | refine leF hE (by omega) ?_
     | refine leI hE (fun _ => ?_) (fun _ => ?_)
     | refine eqT hE (by omega) ?_
     | refine eqF hE (by omega) ?_
     | refine eqI hE (fun _ => ?_) (fun _ => ?_)
     | refine add64 hE (by omega) (fun _ _ => ?_)
     | refine sub64 hE (by omega) (fun _ _ => ?_)
     | refine addI hE (fun _ _ => ?_)
     | refine subI hE (fun _ _ => ?_)
     | refine lenL hE (by assumption) (fun _ _ _ => ?_)
     | refine len0 hE (fun _ _ => ?_)
     | refine idxL hE (by assumption) (by first | omega | (simp only [List.length_set, mix_len]; omega)) (fun _ _ => ?_)
     | refine idxFill hE (by assumption) (by omega) ?_
     | refine idxI hE (by decide) (by rfl) ?_
     | refine iteB (fun _ => ?_) (fun _ => ?_)
     | refine maxI hE (fun _ _ => ?_)
     | refine minI hE (fun _ _ => ?_)
     | refine seqI hE (fun _ => ?_) (fun _ => ?_)
     | refine scatI hE (by first | omega | (simp only [ByteArray.size, Array.size, List.length_cons, List.length_nil] at *; omega)) (fun _ _ _ => ?_)
     | refine slenI hE (fun _ _ _ => ?_)
     | refine sidxI hE (by omega) (fun _ _ _ _ => ?_)
     | refine needI hE (by first | decide | omega) ?_
     | refine rem64 hE (by omega) (fun _ _ => ?_)
     | refine quo64 hE (by omega) (fun _ _ => ?_)
     | refine wrapU8 hE (by omega) (fun _ _ => ?_)
     | refine wrap64 hE (by omega) (fun _ _ => ?_)
     | refine noownI hE (by simp [AV.isOwn]) ?_) <;> (try conv => cbv))
  · omega
  · subst_vars; rfl
  · omega
  · refine hK _ ?_
    rw [hinv, fillRow_all (by omega)]; rfl
theorem eqNotice_ (number : Int) (day : Int) (kind : Int) (target : Int) (aNumber : Int) (aName : ByteArray) (atX : Int) (atY : Int) (aHeight : Int) (mKind : Int) (mColors : ByteArray) (mShape : ByteArray) (mTop : ByteArray) (lKind : Int) (lLetter : ByteArray) (lColors : ByteArray) (lPeriod : Int) (intensity : Int) (number' : Int) (day' : Int) (kind' : Int) (target' : Int) (aNumber' : Int) (aName' : ByteArray) (atX' : Int) (atY' : Int) (aHeight' : Int) (mKind' : Int) (mColors' : ByteArray) (mShape' : ByteArray) (mTop' : ByteArray) (lKind' : Int) (lLetter' : ByteArray) (lColors' : ByteArray) (lPeriod' : Int) (intensity' : Int) {r_lGroup : List (List AV)} {t_lGroup : Bool} {lGroup : List Int} {r_sectors : List (List AV)} {t_sectors : Bool} {sectors : List Scr} {r_lGroup' : List (List AV)} {t_lGroup' : Bool} {lGroup' : List Int} {r_sectors' : List (List AV)} {t_sectors' : Bool} {sectors' : List Scr} (h_lGroup : r_lGroup = lGroup.map intR) (h_sectors : r_sectors = sectors.map Scr.cs) (h_lGroup' : r_lGroup' = lGroup'.map intR) (h_sectors' : r_sectors' = sectors'.map Scr.cs) : AC Tryz.prog 102 [.agg [.int .i64 number, .int .i64 day, .int .i64 kind, .int .i64 target, .int .i64 aNumber, .str aName, .int .i64 atX, .int .i64 atY, .int .i64 aHeight, .int .i64 mKind, .str mColors, .str mShape, .str mTop, .int .i64 lKind, .sl t_lGroup 1 r_lGroup, .str lLetter, .str lColors, .int .i64 lPeriod, .sl t_sectors 3 r_sectors, .int .i64 intensity], .agg [.int .i64 number', .int .i64 day', .int .i64 kind', .int .i64 target', .int .i64 aNumber', .str aName', .int .i64 atX', .int .i64 atY', .int .i64 aHeight', .int .i64 mKind', .str mColors', .str mShape', .str mTop', .int .i64 lKind', .sl t_lGroup' 1 r_lGroup', .str lLetter', .str lColors', .int .i64 lPeriod', .sl t_sectors' 3 r_sectors', .int .i64 intensity']] AV.bool (bP ((Ntc.mk number day kind target aNumber aName atX atY aHeight mKind mColors mShape mTop lKind lGroup lLetter lColors lPeriod sectors intensity) = (Ntc.mk number' day' kind' target' aNumber' aName' atX' atY' aHeight' mKind' mColors' mShape' mTop' lKind' lGroup' lLetter' lColors' lPeriod' sectors' intensity'))) := by
  refine ac Tryz.func102 (by kernel_rfl) (.bool _) fun E K hE hK => ?_
  conv => cbv
  repeat' first
    | ((first
     | refine idxV hE (by assumption) (by omega) (by assumption) ?_
     | refine callP hE (eqAid_ _ _ _ _ _ _ _ _ _ _ _ _ _ _ _ _ _ _ _ _ _ _ _ _ _ _ _ _ (by assumption) (by assumption) (by assumption) (by assumption)) (fun _ => ?_) (fun _ => ?_)
     | refine ltT hE (by omega) ?_
     | refine ltF hE (by omega) ?_
     | refine ltI hE (fun _ => ?_) (fun _ => ?_)
     | refine leT hE (by omega) ?_
     | refine leF hE (by omega) ?_
     | refine leI hE (fun _ => ?_) (fun _ => ?_)
     | refine eqT hE (by omega) ?_
     | refine eqF hE (by omega) ?_
     | refine eqI hE (fun _ => ?_) (fun _ => ?_)
     | refine add64 hE (by omega) (fun _ _ => ?_)
     | refine sub64 hE (by omega) (fun _ _ => ?_)
     | refine addI hE (fun _ _ => ?_)
     | refine subI hE (fun _ _ => ?_)
     | refine lenL hE (by assumption) (fun _ _ _ => ?_)
     | refine len0 hE (fun _ _ => ?_)
     | refine idxL hE (by assumption) (by first | omega | (simp only [List.length_set, mix_len]; omega)) (fun _ _ => ?_)
     | refine idxFill hE (by assumption) (by omega) ?_
     | refine idxI hE (by decide) (by rfl) ?_
     | refine iteB (fun _ => ?_) (fun _ => ?_)
     | refine maxI hE (fun _ _ => ?_)
     | refine minI hE (fun _ _ => ?_)
     | refine seqI hE (fun _ => ?_) (fun _ => ?_)
     | refine scatI hE (by first | omega | (simp only [ByteArray.size, Array.size, List.length_cons, List.length_nil] at *; omega)) (fun _ _ _ => ?_)
     | refine slenI hE (fun _ _ _ => ?_)
     | refine sidxI hE (by omega) (fun _ _ _ _ => ?_)
     | refine needI hE (by first | decide | omega) ?_
     | refine rem64 hE (by omega) (fun _ _ => ?_)
     | refine quo64 hE (by omega) (fun _ _ => ?_)
     | refine wrapU8 hE (by omega) (fun _ _ => ?_)
     | refine wrap64 hE (by omega) (fun _ _ => ?_)
     | refine noownI hE (by simp [AV.isOwn]) ?_) <;> (try conv => cbv))
  all_goals (clear h_lGroup h_sectors h_lGroup' h_sectors')
  all_goals first | (refine finB hK (bP_true.2 ?_); simp only [Ntc.mk.injEq, Aid.mk.injEq] at *; simp_all; done) | (refine finB hK (bP_false.2 ?_); simp only [Ntc.mk.injEq, Aid.mk.injEq] at *; simp_all; done)
theorem eqNoticeS_ {rs rs' : List (List AV)} {t t' b b' : Bool} {l m : List Ntc} (hl : rs = l.map (Ntc.cs b)) (hm : rs' = m.map (Ntc.cs b')) : AC Tryz.prog 71 [.sl t 20 rs, .sl t' 20 rs'] AV.bool (bP (l = m)) := by
  refine ac Tryz.func71 (by kernel_rfl) (.bool _) fun E K hE hK => ?_
  conv => cbv
  refine lenL hE hl fun n hn hb => ?_
  conv => cbv
  refine lenL hE hm fun n' hn' hb' => ?_
  conv => cbv
  refine eqI hE (fun he => ?_) (fun he => ?_) <;> conv => cbv
  · refine loopC hE (ι := Int) [0, 1] [5] (fun q => (fun (i : Int) => [(5, .int .i64 i)]) q) (fun q => (fun (i : Int) => []) q) (fun q => (fun (i : Int) => (l.length - i).toNat) q) (fun q => (fun (i : Int) => 0 ≤ i ∧ Up (fun j => l[j]? = m[j]?) i) q) [] (by decide) (0) (by conv => lhs; cbv) (by conv => lhs; cbv) rfl rfl (by dsimp only; exact ⟨by omega, .zero (by omega)⟩) fun i hi Kn hN => ?_
    (try dsimp only at hi)
    conv => cbv
    obtain ⟨h0, hinv⟩ := hi
    repeat' first
      | (refine idxNtc hE hl (by omega) (fun number day kind target aNumber aName atX atY aHeight mKind mColors mShape mTop lKind lGroup lLetter lColors lPeriod sectors intensity r_lGroup r_sectors hv h_lGroup h_sectors => ?_); (try conv => cbv))
      | (refine idxNtc hE hm (by omega) (fun number' day' kind' target' aNumber' aName' atX' atY' aHeight' mKind' mColors' mShape' mTop' lKind' lGroup' lLetter' lColors' lPeriod' sectors' intensity' r_lGroup' r_sectors' hv' h_lGroup' h_sectors' => ?_); (try conv => cbv))
      | (refine callP hE (eqNotice_ _ _ _ _ _ _ _ _ _ _ _ _ _ _ _ _ _ _ _ _ _ _ _ _ _ _ _ _ _ _ _ _ _ _ _ _ (by assumption) (by assumption) (by assumption) (by assumption)) (fun hq => ?_) (fun hq => ?_) <;> (try conv => cbv))
      | (refine hN _ _ [] (by decide) rfl ⟨?_, ?_⟩ ?_ <;> (try dsimp only))
      | ((first
       | refine idxV hE (by assumption) (by omega) (by assumption) ?_
       | refine ltT hE (by omega) ?_
       | refine ltF hE (by omega) ?_
       | refine ltI hE (fun _ => ?_) (fun _ => ?_)
       | refine leT hE (by omega) ?_
       | refine leF hE (by omega) ?_
       | refine leI hE (fun _ => ?_) (fun _ => ?_)
       | refine eqT hE (by omega) ?_
       | refine eqF hE (by omega) ?_
       | refine eqI hE (fun _ => ?_) (fun _ => ?_)
       | refine add64 hE (by omega) (fun _ _ => ?_)
       | refine sub64 hE (by omega) (fun _ _ => ?_)
       | refine addI hE (fun _ _ => ?_)
       | refine subI hE (fun _ _ => ?_)
       | refine lenL hE (by assumption) (fun _ _ _ => ?_)
       | refine len0 hE (fun _ _ => ?_)
       | refine idxL hE (by assumption) (by first | omega | (simp only [List.length_set, mix_len]; omega)) (fun _ _ => ?_)
       | refine idxFill hE (by assumption) (by omega) ?_
       | refine idxI hE (by decide) (by rfl) ?_
       | refine iteB (fun _ => ?_) (fun _ => ?_)
       | refine maxI hE (fun _ _ => ?_)
       | refine minI hE (fun _ _ => ?_)
       | refine seqI hE (fun _ => ?_) (fun _ => ?_)
       | refine scatI hE (by first | omega | (simp only [ByteArray.size, Array.size, List.length_cons, List.length_nil] at *; omega)) (fun _ _ _ => ?_)
       | refine slenI hE (fun _ _ _ => ?_)
       | refine sidxI hE (by omega) (fun _ _ _ _ => ?_)
       | refine needI hE (by first | decide | omega) ?_
       | refine rem64 hE (by omega) (fun _ _ => ?_)
       | refine quo64 hE (by omega) (fun _ _ => ?_)
       | refine wrapU8 hE (by omega) (fun _ _ => ?_)
       | refine wrap64 hE (by omega) (fun _ _ => ?_)
       | refine noownI hE (by simp [AV.isOwn]) ?_) <;> (try conv => cbv))
    all_goals first
      | omega
      | exact hinv.succ (hv.trans ((congrArg some hq).trans hv'.symm)) (by assumption)
      | (refine finB hK (bP_false.2 fun h => hq ?_); rw [h, hv'] at hv; exact (Option.some.inj hv).symm)
      | exact finB hK (bP_true.2 (list_eq_of (by omega) hinv (by omega)))
      | trace_state
  · refine finB hK (bP_false.2 fun h => ?_); subst h; omega
structure Fwy where
  name : ByteArray
  line : List Pnt
  width : Int
  spacing : Int
  tolerance : Int
def Fwy.cs (b : Bool) (v : Fwy) : List AV := [.str v.name, .sl b 2 (v.line.map Pnt.cs), .int .i64 v.width, .int .i64 v.spacing, .int .i64 v.tolerance]
theorem NoB.oFwy (v : Fwy) : NoB (.agg (v.cs true)) := (.aggC (.str _) (.aggC (.rows .oPnt) (.aggC (.int _ _) (.aggC (.int _ _) (.aggC (.int _ _) .agg0)))))
def Fwy.sz (v : Fwy) : Nat := Chn.sz ⟨v.name, v.line, v.width⟩
theorem idxFwy {E : Env} {np : Nat} {P : Program} (hE : E = stdE np P) {es : List (List AV)} {i : Int} {K : List AV → Prop} {l : List Fwy} {b : Bool} (hl : es = l.map (Fwy.cs b)) (h0 : 0 ≤ i ∧ i < l.length) (hk : ∀ (name : ByteArray) (line : List Pnt) (width : Int) (spacing : Int) (tolerance : Int) (r_line : List (List AV)), l[i.toNat]? = some (Fwy.mk name line width spacing tolerance) → r_line = line.map Pnt.cs → K [.str name, .sl b 2 r_line, .int .i64 width, .int .i64 spacing, .int .i64 tolerance]) : E.idx es i K :=
  idxL hE hl h0 fun v hv => by
    obtain ⟨name, line, width, spacing, tolerance⟩ := v
    exact hk name line width spacing tolerance _ hv rfl
theorem idxFwyV {E : Env} {np : Nat} {P : Program} (hE : E = stdE np P) {es : List (List AV)} {i : Int} {K : List AV → Prop} {l : List Fwy} {b : Bool} {name : ByteArray} {line : List Pnt} {width : Int} {spacing : Int} {tolerance : Int} {r_line : List (List AV)} (hl : es = l.map (Fwy.cs b)) (h0 : 0 ≤ i) (hv : l[i.toNat]? = some (Fwy.mk name line width spacing tolerance)) (h_line : r_line = line.map Pnt.cs) (hk : K [.str name, .sl b 2 r_line, .int .i64 width, .int .i64 spacing, .int .i64 tolerance]) : E.idx es i K := by
  subst h_line
  exact idxV hE hl h0 hv hk
theorem callFwy {E : Env} {np : Nat} {P : Program} (hE : E = stdE np P) {f : FuncId} {args : List AV} {K : AV → Prop} {name : ByteArray} {line : List Pnt} {width : Int} {spacing : Int} {tolerance : Int} (h : AC P f args (fun v : Fwy => .agg (v.cs true)) (Fwy.mk name line width spacing tolerance)) (hk : ∀ (r_line : List (List AV)), r_line = line.map Pnt.cs → K (.agg [.str name, .sl true 2 r_line, .int .i64 width, .int .i64 spacing, .int .i64 tolerance])) : E.call f args K :=
  callI hE h fun y hy => by subst hy; exact hk _ rfl
theorem szFairway_ (name : ByteArray) (width : Int) (spacing : Int) (tolerance : Int) {r_line : List (List AV)} {t_line : Bool} {line : List Pnt} (h_line : r_line = line.map Pnt.cs) (n : Int) (hn : 0 ≤ n ∧ n ≤ 1048576) : AC Tryz.prog 85 [.agg [.str name, .sl t_line 2 r_line, .int .i64 width, .int .i64 spacing, .int .i64 tolerance], .int .i64 n] (AV.int .i64) (szN n (Fwy.sz (Fwy.mk name line width spacing tolerance))) := by
  refine ac Tryz.func85 (by kernel_rfl) (.int _ _) fun E K hE hK => ?_
  conv => cbv
  repeat' first
    | (refine callI hE (szChannel_ _ _ (by assumption) _ (by omega)) (fun y hy => ?_); have hz := szN_or2 hy; clear hy; (try conv => cbv))
    | ((first
     | refine idxV hE (by assumption) (by omega) (by assumption) ?_
     | refine ltT hE (by omega) ?_
     | refine ltF hE (by omega) ?_
     | refine ltI hE (fun _ => ?_) (fun _ => ?_)
     | refine leT hE (by omega) ?_
     | refine leF hE (by omega) ?_
     | refine leI hE (fun _ => ?_) (fun _ => ?_)
     | refine eqT hE (by omega) ?_
     | refine eqF hE (by omega) ?_
     | refine eqI hE (fun _ => ?_) (fun _ => ?_)
     | refine add64 hE (by omega) (fun _ _ => ?_)
     | refine sub64 hE (by omega) (fun _ _ => ?_)
     | refine addI hE (fun _ _ => ?_)
     | refine subI hE (fun _ _ => ?_)
     | refine lenL hE (by assumption) (fun _ _ _ => ?_)
     | refine len0 hE (fun _ _ => ?_)
     | refine idxL hE (by assumption) (by first | omega | (simp only [List.length_set, mix_len]; omega)) (fun _ _ => ?_)
     | refine idxFill hE (by assumption) (by omega) ?_
     | refine idxI hE (by decide) (by rfl) ?_
     | refine iteB (fun _ => ?_) (fun _ => ?_)
     | refine maxI hE (fun _ _ => ?_)
     | refine minI hE (fun _ _ => ?_)
     | refine seqI hE (fun _ => ?_) (fun _ => ?_)
     | refine scatI hE (by first | omega | (simp only [ByteArray.size, Array.size, List.length_cons, List.length_nil] at *; omega)) (fun _ _ _ => ?_)
     | refine slenI hE (fun _ _ _ => ?_)
     | refine sidxI hE (by omega) (fun _ _ _ _ => ?_)
     | refine needI hE (by first | decide | omega) ?_
     | refine rem64 hE (by omega) (fun _ _ => ?_)
     | refine quo64 hE (by omega) (fun _ _ => ?_)
     | refine wrapU8 hE (by omega) (fun _ _ => ?_)
     | refine wrap64 hE (by omega) (fun _ _ => ?_)
     | refine noownI hE (by simp [AV.isOwn]) ?_) <;> (try conv => cbv))
  all_goals (refine hK _ ?_; show AV.int _ _ = AV.int _ _; congr 1; unfold szN Fwy.sz; simp only at *; split <;> omega)
theorem szFairwayS_ {rs : List (List AV)} {t b : Bool} {l : List Fwy} (n : Int) (hl : rs = l.map (Fwy.cs b)) (hn : 0 ≤ n ∧ n ≤ 1048576) : AC Tryz.prog 36 [.sl t 5 rs, .int .i64 n] (AV.int .i64) (szN n (l.length + (l.map Fwy.sz).sum)) := by
  refine ac Tryz.func36 (by kernel_rfl) (.int _ _) fun E K hE hK => ?_
  conv => cbv
  repeat' first
    | ((first
     | refine idxV hE (by assumption) (by omega) (by assumption) ?_
     | refine ltT hE (by omega) ?_
     | refine ltF hE (by omega) ?_
     | refine ltI hE (fun _ => ?_) (fun _ => ?_)
     | refine leT hE (by omega) ?_
     | refine leF hE (by omega) ?_
     | refine leI hE (fun _ => ?_) (fun _ => ?_)
     | refine eqT hE (by omega) ?_
     | refine eqF hE (by omega) ?_
     | refine eqI hE (fun _ => ?_) (fun _ => ?_)
     | refine add64 hE (by omega) (fun _ _ => ?_)
     | refine sub64 hE (by omega) (fun _ _ => ?_)
     | refine addI hE (fun _ _ => ?_)
     | refine subI hE (fun _ _ => ?_)
     | refine lenL hE (by assumption) (fun _ _ _ => ?_)
     | refine len0 hE (fun _ _ => ?_)
     | refine idxL hE (by assumption) (by first | omega | (simp only [List.length_set, mix_len]; omega)) (fun _ _ => ?_)
     | refine idxFill hE (by assumption) (by omega) ?_
     | refine idxI hE (by decide) (by rfl) ?_
     | refine iteB (fun _ => ?_) (fun _ => ?_)
     | refine maxI hE (fun _ _ => ?_)
     | refine minI hE (fun _ _ => ?_)
     | refine seqI hE (fun _ => ?_) (fun _ => ?_)
     | refine scatI hE (by first | omega | (simp only [ByteArray.size, Array.size, List.length_cons, List.length_nil] at *; omega)) (fun _ _ _ => ?_)
     | refine slenI hE (fun _ _ _ => ?_)
     | refine sidxI hE (by omega) (fun _ _ _ _ => ?_)
     | refine needI hE (by first | decide | omega) ?_
     | refine rem64 hE (by omega) (fun _ _ => ?_)
     | refine quo64 hE (by omega) (fun _ _ => ?_)
     | refine wrapU8 hE (by omega) (fun _ _ => ?_)
     | refine wrap64 hE (by omega) (fun _ _ => ?_)
     | refine noownI hE (by simp [AV.isOwn]) ?_) <;> (try conv => cbv))
  · refine hK _ ?_
    rw [szN, if_pos (by omega)]; rfl
  · refine loopC hE (ι := Int × Int) [0] [5, 1] (fun q => (fun (i : Int) (m : Int) => [(5, .int .i64 i), (1, .int .i64 m)]) q.1 q.2) (fun q => (fun (i : Int) (m : Int) => []) q.1 q.2) (fun q => (fun (i : Int) (m : Int) => (l.length - i).toNat) q.1 q.2) (fun q => (fun (i : Int) (m : Int) => (0 ≤ i ∧ i ≤ l.length) ∧ (0 ≤ m ∧ m ≤ 1048576) ∧ m + sumTo Fwy.sz l i + l.length = n) q.1 q.2) [] (by decide) ((0, _)) (by conv => lhs; cbv) (by conv => lhs; cbv) rfl rfl (by dsimp only; exact ⟨by omega, by omega, by rw [sumTo_zero (by omega)]; omega⟩) fun q hi Kn hN => ?_
    obtain ⟨i, m⟩ := q
    (try dsimp only at hi)
    conv => cbv
    obtain ⟨⟨h0, h1⟩, h2, h3⟩ := hi
    have hle := sumTo_le Fwy.sz l
    repeat' first
      | (refine idxFwy hE hl (by omega) (fun name line width spacing tolerance r_line hv h_line => ?_); have hs := sumTo_succ Fwy.sz h0 hv; have hs2 := hle (i + 1); (try conv => cbv))
      | (refine callI hE (szFairway_ _ _ _ _ (by assumption) _ (by omega)) (fun y hy => ?_); have hz := szN_or2 hy; clear hy; (try conv => cbv))
      | (refine hN (_, _) _ [] (by decide) rfl ⟨?_, ?_, ?_⟩ ?_ <;> (try dsimp only))
      | ((first
       | refine idxV hE (by assumption) (by omega) (by assumption) ?_
       | refine ltT hE (by omega) ?_
       | refine ltF hE (by omega) ?_
       | refine ltI hE (fun _ => ?_) (fun _ => ?_)
       | refine leT hE (by omega) ?_
       | refine leF hE (by omega) ?_
       | refine leI hE (fun _ => ?_) (fun _ => ?_)
       | refine eqT hE (by omega) ?_
       | refine eqF hE (by omega) ?_
       | refine eqI hE (fun _ => ?_) (fun _ => ?_)
       | refine add64 hE (by omega) (fun _ _ => ?_)
       | refine sub64 hE (by omega) (fun _ _ => ?_)
       | refine addI hE (fun _ _ => ?_)
       | refine subI hE (fun _ _ => ?_)
       | refine lenL hE (by assumption) (fun _ _ _ => ?_)
       | refine len0 hE (fun _ _ => ?_)
       | refine idxL hE (by assumption) (by first | omega | (simp only [List.length_set, mix_len]; omega)) (fun _ _ => ?_)
       | refine idxFill hE (by assumption) (by omega) ?_
       | refine idxI hE (by decide) (by rfl) ?_
       | refine iteB (fun _ => ?_) (fun _ => ?_)
       | refine maxI hE (fun _ _ => ?_)
       | refine minI hE (fun _ _ => ?_)
       | refine seqI hE (fun _ => ?_) (fun _ => ?_)
       | refine scatI hE (by first | omega | (simp only [ByteArray.size, Array.size, List.length_cons, List.length_nil] at *; omega)) (fun _ _ _ => ?_)
       | refine slenI hE (fun _ _ _ => ?_)
       | refine sidxI hE (by omega) (fun _ _ _ _ => ?_)
       | refine needI hE (by first | decide | omega) ?_
       | refine rem64 hE (by omega) (fun _ _ => ?_)
       | refine quo64 hE (by omega) (fun _ _ => ?_)
       | refine wrapU8 hE (by omega) (fun _ _ => ?_)
       | refine wrap64 hE (by omega) (fun _ _ => ?_)
       | refine noownI hE (by simp [AV.isOwn]) ?_) <;> (try conv => cbv))
    all_goals first
      | omega
      | (refine hK _ ?_; rw [szN_lt (by omega)]; rfl)
      | (rename_i hn2; rw [hn2, hs]; omega)
      | (refine hK _ ?_; have := sumTo_all Fwy.sz l (i := i) (by omega); rw [szN_ge (by omega)]; show AV.int _ _ = AV.int _ _; congr 1; omega)
      | trace_state
theorem toFairway_ (name : ByteArray) (width : Int) (spacing : Int) (tolerance : Int) {r_line : List (List AV)} {t_line : Bool} {line : List Pnt} (h_line : r_line = line.map Pnt.cs) (hz : Fwy.sz (Fwy.mk name line width spacing tolerance) ≤ 1048576) : AC Tryz.prog 92 [.agg [.str name, .sl t_line 2 r_line, .int .i64 width, .int .i64 spacing, .int .i64 tolerance]] (fun v : Fwy => .agg (v.cs true)) (Fwy.mk name line width spacing tolerance) := by
  refine ac Tryz.func92 (by kernel_rfl) (.oFwy _) fun E K hE hK => ?_
  conv => cbv
  have hz' := hz
  simp only [Fwy.sz] at hz'
  repeat' first
    | ((first
     | refine idxV hE (by assumption) (by omega) (by assumption) ?_
     | refine callChn hE (toChannel_ _ _ (by assumption) (by omega)) (fun _ _ => ?_)
     | refine ltT hE (by omega) ?_
     | refine ltF hE (by omega) ?_
     | refine ltI hE (fun _ => ?_) (fun _ => ?_)
     | refine leT hE (by omega) ?_
     | refine leF hE (by omega) ?_
     | refine leI hE (fun _ => ?_) (fun _ => ?_)
     | refine eqT hE (by omega) ?_
     | refine eqF hE (by omega) ?_
     | refine eqI hE (fun _ => ?_) (fun _ => ?_)
     | refine add64 hE (by omega) (fun _ _ => ?_)
     | refine sub64 hE (by omega) (fun _ _ => ?_)
     | refine addI hE (fun _ _ => ?_)
     | refine subI hE (fun _ _ => ?_)
     | refine lenL hE (by assumption) (fun _ _ _ => ?_)
     | refine len0 hE (fun _ _ => ?_)
     | refine idxL hE (by assumption) (by first | omega | (simp only [List.length_set, mix_len]; omega)) (fun _ _ => ?_)
     | refine idxFill hE (by assumption) (by omega) ?_
     | refine idxI hE (by decide) (by rfl) ?_
     | refine iteB (fun _ => ?_) (fun _ => ?_)
     | refine maxI hE (fun _ _ => ?_)
     | refine minI hE (fun _ _ => ?_)
     | refine seqI hE (fun _ => ?_) (fun _ => ?_)
     | refine scatI hE (by first | omega | (simp only [ByteArray.size, Array.size, List.length_cons, List.length_nil] at *; omega)) (fun _ _ _ => ?_)
     | refine slenI hE (fun _ _ _ => ?_)
     | refine sidxI hE (by omega) (fun _ _ _ _ => ?_)
     | refine needI hE (by first | decide | omega) ?_
     | refine rem64 hE (by omega) (fun _ _ => ?_)
     | refine quo64 hE (by omega) (fun _ _ => ?_)
     | refine wrapU8 hE (by omega) (fun _ _ => ?_)
     | refine wrap64 hE (by omega) (fun _ _ => ?_)
     | refine noownI hE (by simp [AV.isOwn]) ?_) <;> (try conv => cbv))
  all_goals first
    | (refine hK _ ?_; subst_vars; rfl)
    | trace_state
theorem toFairwayS_ {rs : List (List AV)} {t b : Bool} {l : List Fwy} (hl : rs = l.map (Fwy.cs b)) (hz : l.length + (l.map Fwy.sz).sum ≤ 1048576) : AC Tryz.prog 50 [.sl t 5 rs] (fun l : List Fwy => .sl true 5 (l.map (Fwy.cs true))) l := by
  refine ac Tryz.func50 (by kernel_rfl) (.rows .oFwy) fun E K hE hK => ?_
  conv => cbv
  refine lenL hE hl fun n hn hb => ?_
  conv => cbv
  refine makeL hE (l := l) (Fwy.cs true) hn rfl (by omega) fun es hes => ?_
  conv => cbv
  refine loopC hE (ι := Int × (List (List AV))) [0] [4, 3] (fun q => (fun (i : Int) (es' : List (List AV)) => [(4, .int .i64 i), (3, .ob 0)]) q.1 q.2) (fun q => (fun (i : Int) (es' : List (List AV)) => [.row 5 es']) q.1 q.2) (fun q => (fun (i : Int) (es' : List (List AV)) => (l.length - i).toNat) q.1 q.2) (fun q => (fun (i : Int) (es' : List (List AV)) => 0 ≤ i ∧ es' = fillRow (Fwy.cs true) [.str ⟨#[]⟩, .nils, .int .i64 0, .int .i64 0, .int .i64 0] l i) q.1 q.2) [0] (by decide) ((0, es)) (by conv => lhs; cbv) (by conv => lhs; cbv) rfl rfl (by dsimp only; exact ⟨by omega, hes⟩) fun q hi Kn hN => ?_
  obtain ⟨i, es'⟩ := q
  (try dsimp only at hi)
  conv => cbv
  obtain ⟨h0, hinv⟩ := hi
  repeat' first
    | (refine idxFwy hE hl (by omega) (fun name line width spacing tolerance r_line hv h_line => ?_); have hsz := sum_get Fwy.sz hv; (try conv => cbv))
    | (refine hN (_, _) _ [0] (by decide) rfl ⟨?_, ?_⟩ ?_ <;> (try dsimp only))
    | ((first
     | refine idxV hE (by assumption) (by omega) (by assumption) ?_
     | refine callFwy hE (toFairway_ _ _ _ _ (by assumption) (by omega)) (fun _ _ => ?_)
     | refine updFill (R := Fwy.cs true) hE (by assumption) (by omega) (by assumption) (by exact Nat.le_refl _) (by subst_vars; rfl) (fun _ _ => ?_)
     | refine ltT hE (by omega) ?_
     | refine ltF hE (by omega) ?_
     | refine ltI hE (fun _ => ?_) (fun _ => ?_)
     | refine leT hE (by omega) ?_
     | refine leF hE (by omega) ?_
     | refine leI hE (fun _ => ?_) (fun _ => ?_)
     | refine eqT hE (by omega) ?_
     | refine eqF hE (by omega) ?_
     | refine eqI hE (fun _ => ?_) (fun _ => ?_)
     | refine add64 hE (by omega) (fun _ _ => ?_)
     | refine sub64 hE (by omega) (fun _ _ => ?_)
     | refine addI hE (fun _ _ => ?_)
     | refine subI hE (fun _ _ => ?_)
     | refine lenL hE (by assumption) (fun _ _ _ => ?_)
     | refine len0 hE (fun _ _ => ?_)
     | refine idxL hE (by assumption) (by first | omega | (simp only [List.length_set, mix_len]; omega)) (fun _ _ => ?_)
     | refine idxFill hE (by assumption) (by omega) ?_
     | refine idxI hE (by decide) (by rfl) ?_
     | refine iteB (fun _ => ?_) (fun _ => ?_)
     | refine maxI hE (fun _ _ => ?_)
     | refine minI hE (fun _ _ => ?_)
     | refine seqI hE (fun _ => ?_) (fun _ => ?_)
     | refine scatI hE (by first | omega | (simp only [ByteArray.size, Array.size, List.length_cons, List.length_nil] at *; omega)) (fun _ _ _ => ?_)
     | refine slenI hE (fun _ _ _ => ?_)
     | refine sidxI hE (by omega) (fun _ _ _ _ => ?_)
     | refine needI hE (by first | decide | omega) ?_
     | refine rem64 hE (by omega) (fun _ _ => ?_)
     | refine quo64 hE (by omega) (fun _ _ => ?_)
     | refine wrapU8 hE (by omega) (fun _ _ => ?_)
     | refine wrap64 hE (by omega) (fun _ _ => ?_)
     | refine noownI hE (by simp [AV.isOwn]) ?_) <;> (try conv => cbv))
  · omega
  · subst_vars; rfl
  · omega
  · refine hK _ ?_
    rw [hinv, fillRow_all (by omega)]; rfl
theorem eqFairway_ (name : ByteArray) (width : Int) (spacing : Int) (tolerance : Int) (name' : ByteArray) (width' : Int) (spacing' : Int) (tolerance' : Int) {r_line : List (List AV)} {t_line : Bool} {line : List Pnt} {r_line' : List (List AV)} {t_line' : Bool} {line' : List Pnt} (h_line : r_line = line.map Pnt.cs) (h_line' : r_line' = line'.map Pnt.cs) : AC Tryz.prog 103 [.agg [.str name, .sl t_line 2 r_line, .int .i64 width, .int .i64 spacing, .int .i64 tolerance], .agg [.str name', .sl t_line' 2 r_line', .int .i64 width', .int .i64 spacing', .int .i64 tolerance']] AV.bool (bP ((Fwy.mk name line width spacing tolerance) = (Fwy.mk name' line' width' spacing' tolerance'))) := by
  refine ac Tryz.func103 (by kernel_rfl) (.bool _) fun E K hE hK => ?_
  conv => cbv
  repeat' first
    | ((first
     | refine idxV hE (by assumption) (by omega) (by assumption) ?_
     | refine callP hE (eqChannel_ _ _ _ _ (by assumption) (by assumption)) (fun _ => ?_) (fun _ => ?_)
     | refine ltT hE (by omega) ?_
     | refine ltF hE (by omega) ?_
     | refine ltI hE (fun _ => ?_) (fun _ => ?_)
     | refine leT hE (by omega) ?_
     | refine leF hE (by omega) ?_
     | refine leI hE (fun _ => ?_) (fun _ => ?_)
     | refine eqT hE (by omega) ?_
     | refine eqF hE (by omega) ?_
     | refine eqI hE (fun _ => ?_) (fun _ => ?_)
     | refine add64 hE (by omega) (fun _ _ => ?_)
     | refine sub64 hE (by omega) (fun _ _ => ?_)
     | refine addI hE (fun _ _ => ?_)
     | refine subI hE (fun _ _ => ?_)
     | refine lenL hE (by assumption) (fun _ _ _ => ?_)
     | refine len0 hE (fun _ _ => ?_)
     | refine idxL hE (by assumption) (by first | omega | (simp only [List.length_set, mix_len]; omega)) (fun _ _ => ?_)
     | refine idxFill hE (by assumption) (by omega) ?_
     | refine idxI hE (by decide) (by rfl) ?_
     | refine iteB (fun _ => ?_) (fun _ => ?_)
     | refine maxI hE (fun _ _ => ?_)
     | refine minI hE (fun _ _ => ?_)
     | refine seqI hE (fun _ => ?_) (fun _ => ?_)
     | refine scatI hE (by first | omega | (simp only [ByteArray.size, Array.size, List.length_cons, List.length_nil] at *; omega)) (fun _ _ _ => ?_)
     | refine slenI hE (fun _ _ _ => ?_)
     | refine sidxI hE (by omega) (fun _ _ _ _ => ?_)
     | refine needI hE (by first | decide | omega) ?_
     | refine rem64 hE (by omega) (fun _ _ => ?_)
     | refine quo64 hE (by omega) (fun _ _ => ?_)
     | refine wrapU8 hE (by omega) (fun _ _ => ?_)
     | refine wrap64 hE (by omega) (fun _ _ => ?_)
     | refine noownI hE (by simp [AV.isOwn]) ?_) <;> (try conv => cbv))
  all_goals (clear h_line h_line')
  all_goals first | (refine finB hK (bP_true.2 ?_); simp only [Fwy.mk.injEq, Chn.mk.injEq] at *; simp_all; done) | (refine finB hK (bP_false.2 ?_); simp only [Fwy.mk.injEq, Chn.mk.injEq] at *; simp_all; done)
theorem eqFairwayS_ {rs rs' : List (List AV)} {t t' b b' : Bool} {l m : List Fwy} (hl : rs = l.map (Fwy.cs b)) (hm : rs' = m.map (Fwy.cs b')) : AC Tryz.prog 72 [.sl t 5 rs, .sl t' 5 rs'] AV.bool (bP (l = m)) := by
  refine ac Tryz.func72 (by kernel_rfl) (.bool _) fun E K hE hK => ?_
  conv => cbv
  refine lenL hE hl fun n hn hb => ?_
  conv => cbv
  refine lenL hE hm fun n' hn' hb' => ?_
  conv => cbv
  refine eqI hE (fun he => ?_) (fun he => ?_) <;> conv => cbv
  · refine loopC hE (ι := Int) [0, 1] [5] (fun q => (fun (i : Int) => [(5, .int .i64 i)]) q) (fun q => (fun (i : Int) => []) q) (fun q => (fun (i : Int) => (l.length - i).toNat) q) (fun q => (fun (i : Int) => 0 ≤ i ∧ Up (fun j => l[j]? = m[j]?) i) q) [] (by decide) (0) (by conv => lhs; cbv) (by conv => lhs; cbv) rfl rfl (by dsimp only; exact ⟨by omega, .zero (by omega)⟩) fun i hi Kn hN => ?_
    (try dsimp only at hi)
    conv => cbv
    obtain ⟨h0, hinv⟩ := hi
    repeat' first
      | (refine idxFwy hE hl (by omega) (fun name line width spacing tolerance r_line hv h_line => ?_); (try conv => cbv))
      | (refine idxFwy hE hm (by omega) (fun name' line' width' spacing' tolerance' r_line' hv' h_line' => ?_); (try conv => cbv))
      | (refine callP hE (eqFairway_ _ _ _ _ _ _ _ _ (by assumption) (by assumption)) (fun hq => ?_) (fun hq => ?_) <;> (try conv => cbv))
      | (refine hN _ _ [] (by decide) rfl ⟨?_, ?_⟩ ?_ <;> (try dsimp only))
      | ((first
       | refine idxV hE (by assumption) (by omega) (by assumption) ?_
       | refine ltT hE (by omega) ?_
       | refine ltF hE (by omega) ?_
       | refine ltI hE (fun _ => ?_) (fun _ => ?_)
       | refine leT hE (by omega) ?_
       | refine leF hE (by omega) ?_
       | refine leI hE (fun _ => ?_) (fun _ => ?_)
       | refine eqT hE (by omega) ?_
       | refine eqF hE (by omega) ?_
       | refine eqI hE (fun _ => ?_) (fun _ => ?_)
       | refine add64 hE (by omega) (fun _ _ => ?_)
       | refine sub64 hE (by omega) (fun _ _ => ?_)
       | refine addI hE (fun _ _ => ?_)
       | refine subI hE (fun _ _ => ?_)
       | refine lenL hE (by assumption) (fun _ _ _ => ?_)
       | refine len0 hE (fun _ _ => ?_)
       | refine idxL hE (by assumption) (by first | omega | (simp only [List.length_set, mix_len]; omega)) (fun _ _ => ?_)
       | refine idxFill hE (by assumption) (by omega) ?_
       | refine idxI hE (by decide) (by rfl) ?_
       | refine iteB (fun _ => ?_) (fun _ => ?_)
       | refine maxI hE (fun _ _ => ?_)
       | refine minI hE (fun _ _ => ?_)
       | refine seqI hE (fun _ => ?_) (fun _ => ?_)
       | refine scatI hE (by first | omega | (simp only [ByteArray.size, Array.size, List.length_cons, List.length_nil] at *; omega)) (fun _ _ _ => ?_)
       | refine slenI hE (fun _ _ _ => ?_)
       | refine sidxI hE (by omega) (fun _ _ _ _ => ?_)
       | refine needI hE (by first | decide | omega) ?_
       | refine rem64 hE (by omega) (fun _ _ => ?_)
       | refine quo64 hE (by omega) (fun _ _ => ?_)
       | refine wrapU8 hE (by omega) (fun _ _ => ?_)
       | refine wrap64 hE (by omega) (fun _ _ => ?_)
       | refine noownI hE (by simp [AV.isOwn]) ?_) <;> (try conv => cbv))
    all_goals first
      | omega
      | exact hinv.succ (hv.trans ((congrArg some hq).trans hv'.symm)) (by assumption)
      | (refine finB hK (bP_false.2 fun h => hq ?_); rw [h, hv'] at hv; exact (Option.some.inj hv).symm)
      | exact finB hK (bP_true.2 (list_eq_of (by omega) hinv (by omega)))
      | trace_state
  · refine finB hK (bP_false.2 fun h => ?_); subst h; omega
end Go.Proofs.YtoabioecoollpaaGreat
