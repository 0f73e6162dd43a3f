/- Contracts: aids. -/
import Derived.Test.YtlfnlgbojbgcnaaGreatDoorFyb
namespace Go.Proofs.YtlfnlgbojbgcnaaGreatDoor
open Go Go.RowKit Classical
set_option maxRecDepth 100000
set_option maxHeartbeats 2000000
set_option linter.unusedVariables false
set_option linter.unusedSimpArgs false
structure Aid where
  number : Int
  name : ByteArray
  atX : Int
  atY : Int
  height : Int
  mKind : Int
  mColors : ByteArray
  mShape : ByteArray
  mTop : ByteArray
  lKind : Int
  lGroup : List Int
  lLetter : ByteArray
  lColors : ByteArray
  lPeriod : Int
  sectors : List Scr
  intensity : Int
def Aid.cs (b : Bool) (v : Aid) : List AV := [.int .i64 v.number, .str v.name, .int .i64 v.atX, .int .i64 v.atY, .int .i64 v.height, .int .i64 v.mKind, .str v.mColors, .str v.mShape, .str v.mTop, .int .i64 v.lKind, .sl b 1 (v.lGroup.map intR), .str v.lLetter, .str v.lColors, .int .i64 v.lPeriod, .sl b 3 (v.sectors.map Scr.cs), .int .i64 v.intensity]
theorem NoB.oAid (v : Aid) : NoB (.agg (v.cs true)) := (.aggC (.int _ _) (.aggC (.str _) (.aggC (.int _ _) (.aggC (.int _ _) (.aggC (.int _ _) (.aggC (.int _ _) (.aggC (.str _) (.aggC (.str _) (.aggC (.str _) (.aggC (.int _ _) (.aggC (.ints _) (.aggC (.str _) (.aggC (.str _) (.aggC (.int _ _) (.aggC (.rows .oScr) (.aggC (.int _ _) .agg0))))))))))))))))
def Aid.sz (v : Aid) : Nat := v.name.size + Mrk.sz ⟨v.mKind, v.mColors, v.mShape, v.mTop⟩ + Chr.sz ⟨v.lKind, v.lGroup, v.lLetter, v.lColors, v.lPeriod⟩ + (v.sectors.length + (v.sectors.map Scr.sz).sum)
theorem idxAid {E : Env} {np : Nat} {P : Program} (hE : E = stdE np P) {es : List (List AV)} {i : Int} {K : List AV → Prop} {l : List Aid} {b : Bool} (hl : es = l.map (Aid.cs b)) (h0 : 0 ≤ i ∧ i < l.length) (hk : ∀ (number : Int) (name : ByteArray) (atX : Int) (atY : Int) (height : Int) (mKind : Int) (mColors : ByteArray) (mShape : ByteArray) (mTop : ByteArray) (lKind : Int) (lGroup : List Int) (lLetter : ByteArray) (lColors : ByteArray) (lPeriod : Int) (sectors : List Scr) (intensity : Int) (r_lGroup r_sectors : List (List AV)), l[i.toNat]? = some (Aid.mk number name atX atY height mKind mColors mShape mTop lKind lGroup lLetter lColors lPeriod sectors intensity) → r_lGroup = lGroup.map intR → r_sectors = sectors.map Scr.cs → K [.int .i64 number, .str name, .int .i64 atX, .int .i64 atY, .int .i64 height, .int .i64 mKind, .str mColors, .str mShape, .str mTop, .int .i64 lKind, .sl b 1 r_lGroup, .str lLetter, .str lColors, .int .i64 lPeriod, .sl b 3 r_sectors, .int .i64 intensity]) : E.idx es i K :=
  idxL hE hl h0 fun v hv => by
    obtain ⟨number, name, atX, atY, height, mKind, mColors, mShape, mTop, lKind, lGroup, lLetter, lColors, lPeriod, sectors, intensity⟩ := v
    exact hk number name atX atY height mKind mColors mShape mTop lKind lGroup lLetter lColors lPeriod sectors intensity _ _ hv rfl rfl
theorem idxAidV {E : Env} {np : Nat} {P : Program} (hE : E = stdE np P) {es : List (List AV)} {i : Int} {K : List AV → Prop} {l : List Aid} {b : Bool} {number : Int} {name : ByteArray} {atX : Int} {atY : Int} {height : Int} {mKind : Int} {mColors : ByteArray} {mShape : ByteArray} {mTop : ByteArray} {lKind : Int} {lGroup : List Int} {lLetter : ByteArray} {lColors : ByteArray} {lPeriod : Int} {sectors : List Scr} {intensity : Int} {r_lGroup r_sectors : List (List AV)} (hl : es = l.map (Aid.cs b)) (h0 : 0 ≤ i) (hv : l[i.toNat]? = some (Aid.mk number name atX atY height mKind mColors mShape mTop lKind lGroup lLetter lColors lPeriod sectors intensity)) (h_lGroup : r_lGroup = lGroup.map intR) (h_sectors : r_sectors = sectors.map Scr.cs) (hk : K [.int .i64 number, .str name, .int .i64 atX, .int .i64 atY, .int .i64 height, .int .i64 mKind, .str mColors, .str mShape, .str mTop, .int .i64 lKind, .sl b 1 r_lGroup, .str lLetter, .str lColors, .int .i64 lPeriod, .sl b 3 r_sectors, .int .i64 intensity]) : E.idx es i K := by
  subst h_lGroup h_sectors
  exact idxV hE hl h0 hv hk
theorem callAid {E : Env} {np : Nat} {P : Program} (hE : E = stdE np P) {f : FuncId} {args : List AV} {K : AV → Prop} {number : Int} {name : ByteArray} {atX : Int} {atY : Int} {height : Int} {mKind : Int} {mColors : ByteArray} {mShape : ByteArray} {mTop : ByteArray} {lKind : Int} {lGroup : List Int} {lLetter : ByteArray} {lColors : ByteArray} {lPeriod : Int} {sectors : List Scr} {intensity : Int} (h : AC P f args (fun v : Aid => .agg (v.cs true)) (Aid.mk number name atX atY height mKind mColors mShape mTop lKind lGroup lLetter lColors lPeriod sectors intensity)) (hk : ∀ (r_lGroup r_sectors : List (List AV)), r_lGroup = lGroup.map intR → r_sectors = sectors.map Scr.cs → K (.agg [.int .i64 number, .str name, .int .i64 atX, .int .i64 atY, .int .i64 height, .int .i64 mKind, .str mColors, .str mShape, .str mTop, .int .i64 lKind, .sl true 1 r_lGroup, .str lLetter, .str lColors, .int .i64 lPeriod, .sl true 3 r_sectors, .int .i64 intensity])) : E.call f args K :=
  callI hE h fun y hy => by subst hy; exact hk _ _ rfl rfl
theorem szAid_ (number : Int) (name : ByteArray) (atX : Int) (atY : Int) (height : Int) (mKind : Int) (mColors : ByteArray) (mShape : ByteArray) (mTop : ByteArray) (lKind : Int) (lLetter : ByteArray) (lColors : ByteArray) (lPeriod : Int) (intensity : Int) {r_lGroup : List (List AV)} {t_lGroup : Bool} {lGroup : List Int} {r_sectors : List (List AV)} {t_sectors : Bool} {sectors : List Scr} (h_lGroup : r_lGroup = lGroup.map intR) (h_sectors : r_sectors = sectors.map Scr.cs) (n : Int) (hn : 0 ≤ n ∧ n ≤ 1048576) : AC Tryz.prog 18 [.agg [.int .i64 number, .str name, .int .i64 atX, .int .i64 atY, .int .i64 height, .int .i64 mKind, .str mColors, .str mShape, .str mTop, .int .i64 lKind, .sl t_lGroup 1 r_lGroup, .str lLetter, .str lColors, .int .i64 lPeriod, .sl t_sectors 3 r_sectors, .int .i64 intensity], .int .i64 n] (AV.int .i64) (szN n (Aid.sz (Aid.mk number name atX atY height mKind mColors mShape mTop lKind lGroup lLetter lColors lPeriod sectors intensity))) := by
  refine ac Tryz.func18 (by kernel_rfl) (.int _ _) fun E K hE hK => ?_
  conv => cbv
  repeat' first
    | (refine callI hE (szMark_ _ _ _ _ _ (by omega)) (fun y hy => ?_); have hz := szN_or2 hy; clear hy; (try conv => cbv))
    | (refine callI hE (szCharacter_ _ _ _ _ (by assumption) _ (by omega)) (fun y hy => ?_); have hz := szN_or2 hy; clear hy; (try conv => cbv))
    | (refine callI hE (szSectorS_ _ (by assumption) (by omega)) (fun y hy => ?_); have hz := szN_or2 hy; clear hy; (try conv => cbv))
    | ((first
     | refine idxV hE (by assumption) (by omega) (by assumption) ?_
     | refine ltT hE (by omega) ?_
     | refine ltF hE (by omega) ?_
     | refine ltI hE (fun _ => ?_) (fun _ => ?_)
     | refine leT hE (by omega) ?_
     | refine leF hE (by omega) ?_
     | refine leI hE (fun _ => ?_) (fun _ => ?_)
     | refine eqT hE (by omega) ?_
     | refine eqF hE (by omega) ?_
     | refine eqI hE (fun _ => ?_) (fun _ => ?_)
     | refine add64 hE (by omega) (fun _ _ => ?_)
     | refine sub64 hE (by omega) (fun _ _ => ?_)
     | refine addI hE (fun _ _ => ?_)
     | refine subI hE (fun _ _ => ?_)
     | refine lenL hE (by assumption) (fun _ _ _ => ?_)
     | refine len0 hE (fun _ _ => ?_)
     | refine idxL hE (by assumption) (by first | omega | (simp only [List.length_set, mix_len]; omega)) (fun _ _ => ?_)
     | refine idxFill hE (by assumption) (by omega) ?_
     | refine idxI hE (by decide) (by rfl) ?_
     | refine iteB (fun _ => ?_) (fun _ => ?_)
     | refine maxI hE (fun _ _ => ?_)
     | refine minI hE (fun _ _ => ?_)
     | refine seqI hE (fun _ => ?_) (fun _ => ?_)
     | refine scatI hE (by first | omega | (simp only [ByteArray.size, Array.size, List.length_cons, List.length_nil] at *; omega)) (fun _ _ _ => ?_)
     | refine slenI hE (fun _ _ _ => ?_)
     | refine sidxI hE (by omega) (fun _ _ _ _ => ?_)
     | refine needI hE (by first | decide | omega) ?_
     | refine rem64 hE (by omega) (fun _ _ => ?_)
     | refine quo64 hE (by omega) (fun _ _ => ?_)
     | refine wrapU8 hE (by omega) (fun _ _ => ?_)
     | refine wrap64 hE (by omega) (fun _ _ => ?_)
     | refine noownI hE (by simp [AV.isOwn]) ?_) <;> (try conv => cbv))
  all_goals (refine hK _ ?_; show AV.int _ _ = AV.int _ _; congr 1; unfold szN Aid.sz; simp only at *; split <;> omega)
theorem szAidS_ {rs : List (List AV)} {t b : Bool} {l : List Aid} (n : Int) (hl : rs = l.map (Aid.cs b)) (hn : 0 ≤ n ∧ n ≤ 1048576) : AC Tryz.prog 9 [.sl t 16 rs, .int .i64 n] (AV.int .i64) (szN n (l.length + (l.map Aid.sz).sum)) := by
  refine ac Tryz.func9 (by kernel_rfl) (.int _ _) fun E K hE hK => ?_
  conv => cbv
  repeat' first
    | ((first
     | refine idxV hE (by assumption) (by omega) (by assumption) ?_
     | refine ltT hE (by omega) ?_
     | refine ltF hE (by omega) ?_
     | refine ltI hE (fun _ => ?_) (fun _ => ?_)
     | refine leT hE (by omega) ?_
     | refine leF hE (by omega) ?_
     | refine leI hE (fun _ => ?_) (fun _ => ?_)
     | refine eqT hE (by omega) ?_
     | refine eqF hE (by omega) ?_
     | refine eqI hE (fun _ => ?_) (fun _ => ?_)
     | refine add64 hE (by omega) (fun _ _ => ?_)
     | refine sub64 hE (by omega) (fun _ _ => ?_)
     | refine addI hE (fun _ _ => ?_)
     | refine subI hE (fun _ _ => ?_)
     | refine lenL hE (by assumption) (fun _ _ _ => ?_)
     | refine len0 hE (fun _ _ => ?_)
     | refine idxL hE (by assumption) (by first | omega | (simp only [List.length_set, mix_len]; omega)) (fun _ _ => ?_)
     | refine idxFill hE (by assumption) (by omega) ?_
     | refine idxI hE (by decide) (by rfl) ?_
     | refine iteB (fun _ => ?_) (fun _ => ?_)
     | refine maxI hE (fun _ _ => ?_)
     | refine minI hE (fun _ _ => ?_)
     | refine seqI hE (fun _ => ?_) (fun _ => ?_)
     | refine scatI hE (by first | omega | (simp only [ByteArray.size, Array.size, List.length_cons, List.length_nil] at *; omega)) (fun _ _ _ => ?_)
     | refine slenI hE (fun _ _ _ => ?_)
     | refine sidxI hE (by omega) (fun _ _ _ _ => ?_)
     | refine needI hE (by first | decide | omega) ?_
     | refine rem64 hE (by omega) (fun _ _ => ?_)
     | refine quo64 hE (by omega) (fun _ _ => ?_)
     | refine wrapU8 hE (by omega) (fun _ _ => ?_)
     | refine wrap64 hE (by omega) (fun _ _ => ?_)
     | refine noownI hE (by simp [AV.isOwn]) ?_) <;> (try conv => cbv))
  · refine hK _ ?_
    rw [szN, if_pos (by omega)]; rfl
  · refine loopC hE (ι := Int × Int) [0] [5, 1] (fun q => (fun (i : Int) (m : Int) => [(5, .int .i64 i), (1, .int .i64 m)]) q.1 q.2) (fun q => (fun (i : Int) (m : Int) => []) q.1 q.2) (fun q => (fun (i : Int) (m : Int) => (l.length - i).toNat) q.1 q.2) (fun q => (fun (i : Int) (m : Int) => (0 ≤ i ∧ i ≤ l.length) ∧ (0 ≤ m ∧ m ≤ 1048576) ∧ m + sumTo Aid.sz l i + l.length = n) q.1 q.2) [] (by decide) ((0, _)) (by conv => lhs; cbv) (by conv => lhs; cbv) rfl rfl (by dsimp only; exact ⟨by omega, by omega, by rw [sumTo_zero (by omega)]; omega⟩) fun q hi Kn hN => ?_
    obtain ⟨i, m⟩ := q
    (try dsimp only at hi)
    conv => cbv
    obtain ⟨⟨h0, h1⟩, h2, h3⟩ := hi
    have hle := sumTo_le Aid.sz l
    repeat' first
      | (refine idxAid hE hl (by omega) (fun number name atX atY height mKind mColors mShape mTop lKind lGroup lLetter lColors lPeriod sectors intensity r_lGroup r_sectors hv h_lGroup h_sectors => ?_); have hs := sumTo_succ Aid.sz h0 hv; have hs2 := hle (i + 1); (try conv => cbv))
      | (refine callI hE (szAid_ _ _ _ _ _ _ _ _ _ _ _ _ _ _ (by assumption) (by assumption) _ (by omega)) (fun y hy => ?_); have hz := szN_or2 hy; clear hy; (try conv => cbv))
      | (refine hN (_, _) _ [] (by decide) rfl ⟨?_, ?_, ?_⟩ ?_ <;> (try dsimp only))
      | ((first
       | refine idxV hE (by assumption) (by omega) (by assumption) ?_
       | refine ltT hE (by omega) ?_
       | refine ltF hE (by omega) ?_
       | refine ltI hE (fun _ => ?_) (fun _ => ?_)
       | refine leT hE (by omega) ?_
       | refine leF hE (by omega) ?_
       | refine leI hE (fun _ => ?_) (fun _ => ?_)
       | refine eqT hE (by omega) ?_
       | refine eqF hE (by omega) ?_
       | refine eqI hE (fun _ => ?_) (fun _ => ?_)
       | refine add64 hE (by omega) (fun _ _ => ?_)
       | refine sub64 hE (by omega) (fun _ _ => ?_)
       | refine addI hE (fun _ _ => ?_)
       | refine subI hE (fun _ _ => ?_)
       | refine lenL hE (by assumption) (fun _ _ _ => ?_)
       | refine len0 hE (fun _ _ => ?_)
       | refine idxL hE (by assumption) (by first | omega | (simp only [List.length_set, mix_len]; omega)) (fun _ _ => ?_)
       | refine idxFill hE (by assumption) (by omega) ?_
       | refine idxI hE (by decide) (by rfl) ?_
       | refine iteB (fun _ => ?_) (fun _ => ?_)
       | refine maxI hE (fun _ _ => ?_)
       | refine minI hE (fun _ _ => ?_)
       | refine seqI hE (fun _ => ?_) (fun _ => ?_)
       | refine scatI hE (by first | omega | (simp only [ByteArray.size, Array.size, List.length_cons, List.length_nil] at *; omega)) (fun _ _ _ => ?_)
       | refine slenI hE (fun _ _ _ => ?_)
       | refine sidxI hE (by omega) (fun _ _ _ _ => ?_)
       | refine needI hE (by first | decide | omega) ?_
       | refine rem64 hE (by omega) (fun _ _ => ?_)
       | refine quo64 hE (by omega) (fun _ _ => ?_)
       | refine wrapU8 hE (by omega) (fun _ _ => ?_)
       | refine wrap64 hE (by omega) (fun _ _ => ?_)
       | refine noownI hE (by simp [AV.isOwn]) ?_) <;> (try conv => cbv))
    all_goals first
      | omega
      | (refine hK _ ?_; rw [szN_lt (by omega)]; rfl)
      | (rename_i hn2; rw [hn2, hs]; omega)
      | (refine hK _ ?_; have := sumTo_all Aid.sz l (i := i) (by omega); rw [szN_ge (by omega)]; show AV.int _ _ = AV.int _ _; congr 1; omega)
      | trace_state
theorem toAid_ (number : Int) (name : ByteArray) (atX : Int) (atY : Int) (height : Int) (mKind : Int) (mColors : ByteArray) (mShape : ByteArray) (mTop : ByteArray) (lKind : Int) (lLetter : ByteArray) (lColors : ByteArray) (lPeriod : Int) (intensity : Int) {r_lGroup : List (List AV)} {t_lGroup : Bool} {lGroup : List Int} {r_sectors : List (List AV)} {t_sectors : Bool} {sectors : List Scr} (h_lGroup : r_lGroup = lGroup.map intR) (h_sectors : r_sectors = sectors.map Scr.cs) (hz : Aid.sz (Aid.mk number name atX atY height mKind mColors mShape mTop lKind lGroup lLetter lColors lPeriod sectors intensity) ≤ 1048576) : AC Tryz.prog 20 [.agg [.int .i64 number, .str name, .int .i64 atX, .int .i64 atY, .int .i64 height, .int .i64 mKind, .str mColors, .str mShape, .str mTop, .int .i64 lKind, .sl t_lGroup 1 r_lGroup, .str lLetter, .str lColors, .int .i64 lPeriod, .sl t_sectors 3 r_sectors, .int .i64 intensity]] (fun v : Aid => .agg (v.cs true)) (Aid.mk number name atX atY height mKind mColors mShape mTop lKind lGroup lLetter lColors lPeriod sectors intensity) := by
  refine ac Tryz.func20 (by kernel_rfl) (.oAid _) fun E K hE hK => ?_
  conv => cbv
  have hz' := hz
  simp only [Aid.sz] at hz'
  repeat' first
    | ((first
     | refine idxV hE (by assumption) (by omega) (by assumption) ?_
     | (refine callI hE (toPoint_ _ _) (fun _ hy => ?_); subst hy)
     | (refine callI hE (toMark_ _ _ _ _) (fun _ hy => ?_); subst hy)
     | refine callChr hE (toCharacter_ _ _ _ _ (by assumption) (by omega)) (fun _ _ => ?_)
     | refine callR hE (toSectorS_ (by assumption) (by omega)) (fun _ _ => ?_)
     | refine ltT hE (by omega) ?_
     | refine ltF hE (by omega) ?_
     | refine ltI hE (fun _ => ?_) (fun _ => ?_)
     | refine leT hE (by omega) ?_
     | refine leF hE (by omega) ?_
     | refine leI hE (fun _ => ?_) (fun _ => ?_)
     | refine eqT hE (by omega) ?_
     | refine eqF hE (by omega) ?_
     | refine eqI hE (fun _ => ?_) (fun _ => ?_)
     | refine add64 hE (by omega) (fun _ _ => ?_)
     | refine sub64 hE (by omega) (fun _ _ => ?_)
     | refine addI hE (fun _ _ => ?_)
     | refine subI hE (fun _ _ => ?_)
     | refine lenL hE (by assumption) (fun _ _ _ => ?_)
     | refine len0 hE (fun _ _ => ?_)
     | refine idxL hE (by assumption) (by first | omega | (simp only [List.length_set, mix_len]; omega)) (fun _ _ => ?_)
     | refine idxFill hE (by assumption) (by omega) ?_
     | refine idxI hE (by decide) (by rfl) ?_
     | refine iteB (fun _ => ?_) (fun _ => ?_)
     | refine maxI hE (fun _ _ => ?_)
     | refine minI hE (fun _ _ => ?_)
     | refine seqI hE (fun _ => ?_) (fun _ => ?_)
     | refine scatI hE (by first | omega | (simp only [ByteArray.size, Array.size, List.length_cons, List.length_nil] at *; omega)) (fun _ _ _ => ?_)
     | refine slenI hE (fun _ _ _ => ?_)
     | refine sidxI hE (by omega) (fun _ _ _ _ => ?_)
     | refine needI hE (by first | decide | omega) ?_
     | refine rem64 hE (by omega) (fun _ _ => ?_)
     | refine quo64 hE (by omega) (fun _ _ => ?_)
     | refine wrapU8 hE (by omega) (fun _ _ => ?_)
     | refine wrap64 hE (by omega) (fun _ _ => ?_)
     | refine noownI hE (by simp [AV.isOwn]) ?_) <;> (try conv => cbv))
  all_goals first
    | (refine hK _ ?_; subst_vars; rfl)
    | trace_state
theorem toAidS_ {rs : List (List AV)} {t b : Bool} {l : List Aid} (hl : rs = l.map (Aid.cs b)) (hz : l.length + (l.map Aid.sz).sum ≤ 1048576) : AC Tryz.prog 11 [.sl t 16 rs] (fun l : List Aid => .sl true 16 (l.map (Aid.cs true))) l := by
  refine ac Tryz.func11 (by kernel_rfl) (.rows .oAid) fun E K hE hK => ?_
  conv => cbv
  refine lenL hE hl fun n hn hb => ?_
  conv => cbv
  refine makeL hE (l := l) (Aid.cs true) hn rfl (by omega) fun es hes => ?_
  conv => cbv
  refine loopC hE (ι := Int × (List (List AV))) [0] [4, 3] (fun q => (fun (i : Int) (es' : List (List AV)) => [(4, .int .i64 i), (3, .ob 0)]) q.1 q.2) (fun q => (fun (i : Int) (es' : List (List AV)) => [.row 16 es']) q.1 q.2) (fun q => (fun (i : Int) (es' : List (List AV)) => (l.length - i).toNat) q.1 q.2) (fun q => (fun (i : Int) (es' : List (List AV)) => 0 ≤ i ∧ es' = fillRow (Aid.cs true) [.int .i64 0, .str ⟨#[]⟩, .int .i64 0, .int .i64 0, .int .i64 0, .int .i64 0, .str ⟨#[]⟩, .str ⟨#[]⟩, .str ⟨#[]⟩, .int .i64 0, .nils, .str ⟨#[]⟩, .str ⟨#[]⟩, .int .i64 0, .nils, .int .i64 0] l i) q.1 q.2) [0] (by decide) ((0, es)) (by conv => lhs; cbv) (by conv => lhs; cbv) rfl rfl (by dsimp only; exact ⟨by omega, hes⟩) fun q hi Kn hN => ?_
  obtain ⟨i, es'⟩ := q
  (try dsimp only at hi)
  conv => cbv
  obtain ⟨h0, hinv⟩ := hi
  repeat' first
    | (refine idxAid hE hl (by omega) (fun number name atX atY height mKind mColors mShape mTop lKind lGroup lLetter lColors lPeriod sectors intensity r_lGroup r_sectors hv h_lGroup h_sectors => ?_); have hsz := sum_get Aid.sz hv; (try conv => cbv))
    | (refine hN (_, _) _ [0] (by decide) rfl ⟨?_, ?_⟩ ?_ <;> (try dsimp only))
    | ((first
     | refine idxV hE (by assumption) (by omega) (by assumption) ?_
     | refine callAid hE (toAid_ _ _ _ _ _ _ _ _ _ _ _ _ _ _ (by assumption) (by assumption) (by omega)) (fun _ _ _ _ => ?_)
     | refine updFill (R := Aid.cs true) hE (by assumption) (by omega) (by assumption) (by exact Nat.le_refl _) (by subst_vars; rfl) (fun _ _ => ?_)
     | refine ltT hE (by omega) ?_
     | refine ltF hE (by omega) ?_
     | refine ltI hE (fun _ => ?_) (fun _ => ?_)
     | refine leT hE (by omega) ?_
     | refine leF hE (by omega) ?_
     | refine leI hE (fun _ => ?_) (fun _ => ?_)
     | refine eqT hE (by omega) ?_
     | refine eqF hE (by omega) ?_
     | refine eqI hE (fun _ => ?_) (fun _ => ?_)
     | refine add64 hE (by omega) (fun _ _ => ?_)
     | refine sub64 hE (by omega) (fun _ _ => ?_)
     | refine addI hE (fun _ _ => ?_)
     | refine subI hE (fun _ _ => ?_)
     | refine lenL hE (by assumption) (fun _ _ _ => ?_)
     | refine len0 hE (fun _ _ => ?_)
     | refine idxL hE (by assumption) (by first | omega | (simp only [List.length_set, mix_len]; omega)) (fun _ _ => ?_)
     | refine idxFill hE (by assumption) (by omega) ?_
     | refine idxI hE (by decide) (by rfl) ?_
     | refine iteB (fun _ => ?_) (fun _ => ?_)
     | refine maxI hE (fun _ _ => ?_)
     | refine minI hE (fun _ _ => ?_)
     | refine seqI hE (fun _ => ?_) (fun _ => ?_)
     | refine scatI hE (by first | omega | (simp only [ByteArray.size, Array.size, List.length_cons, List.length_nil] at *; omega)) (fun _ _ _ => ?_)
     | refine slenI hE (fun _ _ _ => ?_)
     | refine sidxI hE (by omega) (fun _ _ _ _ => ?_)
     | refine needI hE (by first | decide | omega) ?_
     | refine rem64 hE (by omega) (fun _ _ => ?_)
     | refine quo64 hE (by omega) (fun _ _ => ?_)
     | refine wrapU8 hE (by omega) (fun _ _ => ?_)
     | refine wrap64 hE (by omega) (fun _ _ => ?_)
     | refine noownI hE (by simp [AV.isOwn]) ?_) <;> (try conv => cbv))
  · omega
  · subst_vars; rfl
  · omega
  · refine hK _ ?_
    rw [hinv, fillRow_all (by omega)]; rfl
theorem eqAid_ (number : Int) (name : ByteArray) (atX : Int) (atY : Int) (height : Int) (mKind : Int) (mColors : ByteArray) (mShape : ByteArray) (mTop : ByteArray) (lKind : Int) (lLetter : ByteArray) (lColors : ByteArray) (lPeriod : Int) (intensity : Int) (number' : Int) (name' : ByteArray) (atX' : Int) (atY' : Int) (height' : Int) (mKind' : Int) (mColors' : ByteArray) (mShape' : ByteArray) (mTop' : ByteArray) (lKind' : Int) (lLetter' : ByteArray) (lColors' : ByteArray) (lPeriod' : Int) (intensity' : Int) {r_lGroup : List (List AV)} {t_lGroup : Bool} {lGroup : List Int} {r_sectors : List (List AV)} {t_sectors : Bool} {sectors : List Scr} {r_lGroup' : List (List AV)} {t_lGroup' : Bool} {lGroup' : List Int} {r_sectors' : List (List AV)} {t_sectors' : Bool} {sectors' : List Scr} (h_lGroup : r_lGroup = lGroup.map intR) (h_sectors : r_sectors = sectors.map Scr.cs) (h_lGroup' : r_lGroup' = lGroup'.map intR) (h_sectors' : r_sectors' = sectors'.map Scr.cs) : AC Tryz.prog 23 [.agg [.int .i64 number, .str name, .int .i64 atX, .int .i64 atY, .int .i64 height, .int .i64 mKind, .str mColors, .str mShape, .str mTop, .int .i64 lKind, .sl t_lGroup 1 r_lGroup, .str lLetter, .str lColors, .int .i64 lPeriod, .sl t_sectors 3 r_sectors, .int .i64 intensity], .agg [.int .i64 number', .str name', .int .i64 atX', .int .i64 atY', .int .i64 height', .int .i64 mKind', .str mColors', .str mShape', .str mTop', .int .i64 lKind', .sl t_lGroup' 1 r_lGroup', .str lLetter', .str lColors', .int .i64 lPeriod', .sl t_sectors' 3 r_sectors', .int .i64 intensity']] AV.bool (bP ((Aid.mk number name atX atY height mKind mColors mShape mTop lKind lGroup lLetter lColors lPeriod sectors intensity) = (Aid.mk number' name' atX' atY' height' mKind' mColors' mShape' mTop' lKind' lGroup' lLetter' lColors' lPeriod' sectors' intensity'))) := by
  refine ac Tryz.func23 (by kernel_rfl) (.bool _) fun E K hE hK => ?_
  conv => cbv
  repeat' first
    | ((first
     | refine idxV hE (by assumption) (by omega) (by assumption) ?_
     | refine callP hE (eqPoint_ _ _ _ _) (fun _ => ?_) (fun _ => ?_)
     | refine callP hE (eqMark_ _ _ _ _ _ _ _ _) (fun _ => ?_) (fun _ => ?_)
     | refine callP hE (eqCharacter_ _ _ _ _ _ _ _ _ (by assumption) (by assumption)) (fun _ => ?_) (fun _ => ?_)
     | refine callP hE (eqSectorS_ (by assumption) (by assumption)) (fun _ => ?_) (fun _ => ?_)
     | refine ltT hE (by omega) ?_
     | refine ltF hE (by omega) ?_
     | refine ltI hE (fun _ => ?_) (fun _ => ?_)
     | refine leT hE (by omega) ?_
     | refine leF hE (by omega) ?_
     | refine leI hE (fun _ => ?_) (fun _ => ?_)
     | refine eqT hE (by omega) ?_
     | refine eqF hE (by omega) ?_
     | refine eqI hE (fun _ => ?_) (fun _ => ?_)
     | refine add64 hE (by omega) (fun _ _ => ?_)
     | refine sub64 hE (by omega) (fun _ _ => ?_)
     | refine addI hE (fun _ _ => ?_)
     | refine subI hE (fun _ _ => ?_)
     | refine lenL hE (by assumption) (fun _ _ _ => ?_)
     | refine len0 hE (fun _ _ => ?_)
     | refine idxL hE (by assumption) (by first | omega | (simp only [List.length_set, mix_len]; omega)) (fun _ _ => ?_)
     | refine idxFill hE (by assumption) (by omega) ?_
     | refine idxI hE (by decide) (by rfl) ?_
     | refine iteB (fun _ => ?_) (fun _ => ?_)
     | refine maxI hE (fun _ _ => ?_)
     | refine minI hE (fun _ _ => ?_)
     | refine seqI hE (fun _ => ?_) (fun _ => ?_)
     | refine scatI hE (by first | omega | (simp only [ByteArray.size, Array.size, List.length_cons, List.length_nil] at *; omega)) (fun _ _ _ => ?_)
     | refine slenI hE (fun _ _ _ => ?_)
     | refine sidxI hE (by omega) (fun _ _ _ _ => ?_)
     | refine needI hE (by first | decide | omega) ?_
     | refine rem64 hE (by omega) (fun _ _ => ?_)
     | refine quo64 hE (by omega) (fun _ _ => ?_)
     | refine wrapU8 hE (by omega) (fun _ _ => ?_)
     | refine wrap64 hE (by omega) (fun _ _ => ?_)
     | refine noownI hE (by simp [AV.isOwn]) ?_) <;> (try conv => cbv))
  all_goals (clear h_lGroup h_sectors h_lGroup' h_sectors')
  all_goals first | (refine finB hK (bP_true.2 ?_); simp only [Aid.mk.injEq, Pnt.mk.injEq, Mrk.mk.injEq, Chr.mk.injEq] at *; simp_all; done) | (refine finB hK (bP_false.2 ?_); simp only [Aid.mk.injEq, Pnt.mk.injEq, Mrk.mk.injEq, Chr.mk.injEq] at *; simp_all; done)
theorem eqAidS_ {rs rs' : List (List AV)} {t t' b b' : Bool} {l m : List Aid} (hl : rs = l.map (Aid.cs b)) (hm : rs' = m.map (Aid.cs b')) : AC Tryz.prog 14 [.sl t 16 rs, .sl t' 16 rs'] AV.bool (bP (l = m)) := by
  refine ac Tryz.func14 (by kernel_rfl) (.bool _) fun E K hE hK => ?_
  conv => cbv
  refine lenL hE hl fun n hn hb => ?_
  conv => cbv
  refine lenL hE hm fun n' hn' hb' => ?_
  conv => cbv
  refine eqI hE (fun he => ?_) (fun he => ?_) <;> conv => cbv
  · refine loopC hE (ι := Int) [0, 1] [5] (fun q => (fun (i : Int) => [(5, .int .i64 i)]) q) (fun q => (fun (i : Int) => []) q) (fun q => (fun (i : Int) => (l.length - i).toNat) q) (fun q => (fun (i : Int) => 0 ≤ i ∧ Up (fun j => l[j]? = m[j]?) i) q) [] (by decide) (0) (by conv => lhs; cbv) (by conv => lhs; cbv) rfl rfl (by dsimp only; exact ⟨by omega, .zero (by omega)⟩) fun i hi Kn hN => ?_
    (try dsimp only at hi)
    conv => cbv
    obtain ⟨h0, hinv⟩ := hi
    repeat' first
      | (refine idxAid hE hl (by omega) (fun number name atX atY height mKind mColors mShape mTop lKind lGroup lLetter lColors lPeriod sectors intensity r_lGroup r_sectors hv h_lGroup h_sectors => ?_); (try conv => cbv))
      | (refine idxAid hE hm (by omega) (fun number' name' atX' atY' height' mKind' mColors' mShape' mTop' lKind' lGroup' lLetter' lColors' lPeriod' sectors' intensity' r_lGroup' r_sectors' hv' h_lGroup' h_sectors' => ?_); (try conv => cbv))
      | (refine callP hE (eqAid_ _ _ _ _ _ _ _ _ _ _ _ _ _ _ _ _ _ _ _ _ _ _ _ _ _ _ _ _ (by assumption) (by assumption) (by assumption) (by assumption)) (fun hq => ?_) (fun hq => ?_) <;> (try conv => cbv))
      | (refine hN _ _ [] (by decide) rfl ⟨?_, ?_⟩ ?_ <;> (try dsimp only))
      | ((first
       | refine idxV hE (by assumption) (by omega) (by assumption) ?_
       | refine ltT hE (by omega) ?_
       | refine ltF hE (by omega) ?_
       | refine ltI hE (fun _ => ?_) (fun _ => ?_)
       | refine leT hE (by omega) ?_
       | refine leF hE (by omega) ?_
       | refine leI hE (fun _ => ?_) (fun _ => ?_)
       | refine eqT hE (by omega) ?_
       | refine eqF hE (by omega) ?_
       | refine eqI hE (fun _ => ?_) (fun _ => ?_)
       | refine add64 hE (by omega) (fun _ _ => ?_)
       | refine sub64 hE (by omega) (fun _ _ => ?_)
       | refine addI hE (fun _ _ => ?_)
       | refine subI hE (fun _ _ => ?_)
       | refine lenL hE (by assumption) (fun _ _ _ => ?_)
       | refine len0 hE (fun _ _ => ?_)
       | refine idxL hE (by assumption) (by first | omega | (simp only [List.length_set, mix_len]; omega)) (fun _ _ => ?_)
       | refine idxFill hE (by assumption) (by omega) ?_
       | refine idxI hE (by decide) (by rfl) ?_
       | refine iteB (fun _ => ?_) (fun _ => ?_)
       | refine maxI hE (fun _ _ => ?_)
       | refine minI hE (fun _ _ => ?_)
       | refine seqI hE (fun _ => ?_) (fun _ => ?_)
       | refine scatI hE (by first | omega | (simp only [ByteArray.size, Array.size, List.length_cons, List.length_nil] at *; omega)) (fun _ _ _ => ?_)
       | refine slenI hE (fun _ _ _ => ?_)
       | refine sidxI hE (by omega) (fun _ _ _ _ => ?_)
       | refine needI hE (by first | decide | omega) ?_
       | refine rem64 hE (by omega) (fun _ _ => ?_)
       | refine quo64 hE (by omega) (fun _ _ => ?_)
       | refine wrapU8 hE (by omega) (fun _ _ => ?_)
       | refine wrap64 hE (by omega) (fun _ _ => ?_)
       | refine noownI hE (by simp [AV.isOwn]) ?_) <;> (try conv => cbv))
    all_goals first
      | omega
      | exact hinv.succ (hv.trans ((congrArg some hq).trans hv'.symm)) (by assumption)
      | (refine finB hK (bP_false.2 fun h => hq ?_); rw [h, hv'] at hv; exact (Option.some.inj hv).symm)
      | exact finB hK (bP_true.2 (list_eq_of (by omega) hinv (by omega)))
      | trace_state
  · refine finB hK (bP_false.2 fun h => ?_); subst h; omega
end Go.Proofs.YtlfnlgbojbgcnaaGreatDoor
