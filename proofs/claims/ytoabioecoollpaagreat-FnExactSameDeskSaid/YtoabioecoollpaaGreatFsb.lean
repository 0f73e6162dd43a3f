/- Contracts: characters, aids, notices, fairways that are alike. -/
import Derived.Test.YtoabioecoollpaaGreatFsa
namespace Go.Proofs.YtoabioecoollpaaGreat
open Go Go.RowKit Classical
set_option maxRecDepth 100000
set_option maxHeartbeats 2000000
set_option linter.unusedVariables false
set_option linter.unusedSimpArgs false
/-- A pointer to more cells than a contract speaks of. -/
theorem Rel.ppTail {w : World} {A : Nat → Prop} {cs tl : List AV} {v : Value} (h : Rel w A (.pp (cs ++ tl)) v) : Rel w A (.pp cs) v := by
  cases h with
  | pp _ b off val hb hc hr => exact .pp cs b off val hb (fun j hj => hc j (by rw [List.length_append]; omega)) (fun j a ha => hr j a (by rw [List.getElem?_append_left (List.getElem?_eq_some_iff.1 ha).1]; exact ha))
theorem AC.tl {P : Program} {α : Type} {f : FuncId} {us us' : List AV} {R : α → AV} {x : α} (h : AC P f us R x) (hl : us'.length = us.length) (hp : ∀ i : Nat, us'[i]? = us[i]? ∨ ∃ cs tl : List AV, us[i]? = some (AV.pp cs) ∧ us'[i]? = some (AV.pp (cs ++ tl))) : AC P f us' R x :=
  ⟨h.1, fun w vs hg hr => h.2 w vs hg ⟨hr.1.trans hl, fun i a ha => by
    rcases hp i with h1 | ⟨cs, tl, h1, h2⟩
    · exact hr.2 i a (h1.trans ha)
    · rw [ha] at h1; cases h1
      exact (hr.2 i _ h2).ppTail⟩⟩
theorem AC.tl11 {P : Program} {α : Type} {f : FuncId} {cs ds tl tm : List AV} {R : α → AV} {x : α} (h : AC P f [.pp cs, .pp ds] R x) : AC P f [.pp (cs ++ tl), .pp (ds ++ tm)] R x :=
  AC.tl h rfl fun i => match i with
    | 0 => .inr ⟨_, _, rfl, rfl⟩
    | 1 => .inr ⟨_, _, rfl, rfl⟩
    | _ + 2 => .inl rfl
theorem sameChr_ (kind : Int) (letter : ByteArray) (colors : ByteArray) (period : Int) (kind' : Int) (letter' : ByteArray) (colors' : ByteArray) (period' : Int) {r_group : List (List AV)} {t_group : Bool} {group : List Int} {r_group' : List (List AV)} {t_group' : Bool} {group' : List Int} (h_group : r_group = group.map intR) (h_group' : r_group' = group'.map intR) : AC Tryz.prog 118 [.agg [.int .i64 kind, .sl t_group 1 r_group, .str letter, .str colors, .int .i64 period], .agg [.int .i64 kind', .sl t_group' 1 r_group', .str letter', .str colors', .int .i64 period']] AV.bool (bP ((Chr.mk kind group letter colors period) = (Chr.mk kind' group' letter' colors' period'))) := by
  refine ac Tryz.func118 (by kernel_rfl) (.bool _) fun E K hE hK => ?_
  conv => cbv
  repeat' first
    | ((first
     | refine idxV hE (by assumption) (by omega) (by assumption) ?_
     | refine callP hE (sameI_ (by assumption) (by assumption)) (fun _ => ?_) (fun _ => ?_)
     | refine aeqI hE (fun hq => ?_) (fun hq => ?_)
     | refine ltT hE (by omega) ?_
     | refine ltF hE (by omega) ?_
     | refine ltI hE (fun _ => ?_) (fun _ => ?_)
     | refine leT hE (by omega) ?_
     | refine leF hE (by omega) ?_
     | refine leI hE (fun _ => ?_) (fun _ => ?_)
     | refine eqT hE (by omega) ?_
     | refine eqF hE (by omega) ?_
     | refine eqI hE (fun _ => ?_) (fun _ => ?_)
     | refine add64 hE (by omega) (fun _ _ => ?_)
     | refine sub64 hE (by omega) (fun _ _ => ?_)
     | refine addI hE (fun _ _ => ?_)
     | refine subI hE (fun _ _ => ?_)
     | refine lenL hE (by assumption) (fun _ _ _ => ?_)
     | refine len0 hE (fun _ _ => ?_)
     | refine idxL hE (by assumption) (by first | omega | (simp only [List.length_set, mix_len]; omega)) (fun _ _ => ?_)
     | refine idxFill hE (by assumption) (by omega) ?_
     | refine idxI hE (by decide) (by rfl) ?_
     | refine iteB (fun _ => ?_) (fun _ => ?_)
     | refine maxI hE (fun _ _ => ?_)
     | refine minI hE (fun _ _ => ?_)
     | refine seqI hE (fun _ => ?_) (fun _ => ?_)
     | refine scatI hE (by first | omega | (simp only [ByteArray.size, Array.size, List.length_cons, List.length_nil] at *; omega)) (fun _ _ _ => ?_)
     | refine slenI hE (fun _ _ _ => ?_)
     | refine sidxI hE (by omega) (fun _ _ _ _ => ?_)
     | refine needI hE (by first | decide | omega) ?_
     | refine rem64 hE (by omega) (fun _ _ => ?_)
     | refine quo64 hE (by omega) (fun _ _ => ?_)
     | refine wrapU8 hE (by omega) (fun _ _ => ?_)
     | refine wrap64 hE (by omega) (fun _ _ => ?_)
     | refine noownI hE (by simp [AV.isOwn]) ?_) <;> (try conv => cbv))
  all_goals (clear h_group h_group')
  all_goals first | (refine finB hK (bP_true.2 ?_); simp only [pairsP, Chr.mk.injEq] at *; simp_all; done) | (refine finB hK (bP_false.2 ?_); simp only [pairsP, Chr.mk.injEq] at *; simp_all; done)
theorem l05Same_ (kind : Int) (letter : ByteArray) (colors : ByteArray) (period : Int) (kind' : Int) (letter' : ByteArray) (colors' : ByteArray) (period' : Int) {r_group : List (List AV)} {t_group : Bool} {group : List Int} {r_group' : List (List AV)} {t_group' : Bool} {group' : List Int} (h_group : r_group = group.map intR) (h_group' : r_group' = group'.map intR) : AC Tryz.prog 111 [.pp [.int .i64 kind, .sl t_group 1 r_group, .str letter, .str colors, .int .i64 period], .pp [.int .i64 kind', .sl t_group' 1 r_group', .str letter', .str colors', .int .i64 period']] AV.bool (bP ((Chr.mk kind group letter colors period) = (Chr.mk kind' group' letter' colors' period'))) := by
  refine ac Tryz.func111 (by kernel_rfl) (.bool _) fun E K hE hK => ?_
  conv => cbv
  repeat' first
    | ((first
     | refine idxV hE (by assumption) (by omega) (by assumption) ?_
     | refine callP hE (l00Same_ (by assumption) (by assumption)) (fun _ => ?_) (fun _ => ?_)
     | refine aeqI hE (fun hq => ?_) (fun hq => ?_)
     | refine ltT hE (by omega) ?_
     | refine ltF hE (by omega) ?_
     | refine ltI hE (fun _ => ?_) (fun _ => ?_)
     | refine leT hE (by omega) ?_
     | refine leF hE (by omega) ?_
     | refine leI hE (fun _ => ?_) (fun _ => ?_)
     | refine eqT hE (by omega) ?_
     | refine eqF hE (by omega) ?_
     | refine eqI hE (fun _ => ?_) (fun _ => ?_)
     | refine add64 hE (by omega) (fun _ _ => ?_)
     | refine sub64 hE (by omega) (fun _ _ => ?_)
     | refine addI hE (fun _ _ => ?_)
     | refine subI hE (fun _ _ => ?_)
     | refine lenL hE (by assumption) (fun _ _ _ => ?_)
     | refine len0 hE (fun _ _ => ?_)
     | refine idxL hE (by assumption) (by first | omega | (simp only [List.length_set, mix_len]; omega)) (fun _ _ => ?_)
     | refine idxFill hE (by assumption) (by omega) ?_
     | refine idxI hE (by decide) (by rfl) ?_
     | refine iteB (fun _ => ?_) (fun _ => ?_)
     | refine maxI hE (fun _ _ => ?_)
     | refine minI hE (fun _ _ => ?_)
     | refine seqI hE (fun _ => ?_) (fun _ => ?_)
     | refine scatI hE (by first | omega | (simp only [ByteArray.size, Array.size, List.length_cons, List.length_nil] at *; omega)) (fun _ _ _ => ?_)
     | refine slenI hE (fun _ _ _ => ?_)
     | refine sidxI hE (by omega) (fun _ _ _ _ => ?_)
     | refine needI hE (by first | decide | omega) ?_
     | refine rem64 hE (by omega) (fun _ _ => ?_)
     | refine quo64 hE (by omega) (fun _ _ => ?_)
     | refine wrapU8 hE (by omega) (fun _ _ => ?_)
     | refine wrap64 hE (by omega) (fun _ _ => ?_)
     | refine noownI hE (by simp [AV.isOwn]) ?_) <;> (try conv => cbv))
  all_goals (clear h_group h_group')
  all_goals first | (refine finB hK (bP_true.2 ?_); simp only [pairsP, Chr.mk.injEq] at *; simp_all; done) | (refine finB hK (bP_false.2 ?_); simp only [pairsP, Chr.mk.injEq] at *; simp_all; done)
theorem sameAid_ (number : Int) (name : ByteArray) (atX : Int) (atY : Int) (height : Int) (mKind : Int) (mColors : ByteArray) (mShape : ByteArray) (mTop : ByteArray) (lKind : Int) (lLetter : ByteArray) (lColors : ByteArray) (lPeriod : Int) (intensity : Int) (number' : Int) (name' : ByteArray) (atX' : Int) (atY' : Int) (height' : Int) (mKind' : Int) (mColors' : ByteArray) (mShape' : ByteArray) (mTop' : ByteArray) (lKind' : Int) (lLetter' : ByteArray) (lColors' : ByteArray) (lPeriod' : Int) (intensity' : Int) {r_lGroup : List (List AV)} {t_lGroup : Bool} {lGroup : List Int} {r_sectors : List (List AV)} {t_sectors : Bool} {sectors : List Scr} {r_lGroup' : List (List AV)} {t_lGroup' : Bool} {lGroup' : List Int} {r_sectors' : List (List AV)} {t_sectors' : Bool} {sectors' : List Scr} (h_lGroup : r_lGroup = lGroup.map intR) (h_sectors : r_sectors = sectors.map Scr.cs) (h_lGroup' : r_lGroup' = lGroup'.map intR) (h_sectors' : r_sectors' = sectors'.map Scr.cs) : AC Tryz.prog 98 [.agg [.int .i64 number, .str name, .int .i64 atX, .int .i64 atY, .int .i64 height, .int .i64 mKind, .str mColors, .str mShape, .str mTop, .int .i64 lKind, .sl t_lGroup 1 r_lGroup, .str lLetter, .str lColors, .int .i64 lPeriod, .sl t_sectors 3 r_sectors, .int .i64 intensity], .agg [.int .i64 number', .str name', .int .i64 atX', .int .i64 atY', .int .i64 height', .int .i64 mKind', .str mColors', .str mShape', .str mTop', .int .i64 lKind', .sl t_lGroup' 1 r_lGroup', .str lLetter', .str lColors', .int .i64 lPeriod', .sl t_sectors' 3 r_sectors', .int .i64 intensity']] AV.bool (bP ((Aid.mk number name atX atY height mKind mColors mShape mTop lKind lGroup lLetter lColors lPeriod sectors intensity) = (Aid.mk number' name' atX' atY' height' mKind' mColors' mShape' mTop' lKind' lGroup' lLetter' lColors' lPeriod' sectors' intensity'))) := by
  refine ac Tryz.func98 (by kernel_rfl) (.bool _) fun E K hE hK => ?_
  conv => cbv
  repeat' first
    | ((first
     | refine idxV hE (by assumption) (by omega) (by assumption) ?_
     | refine callP hE (sameChr_ _ _ _ _ _ _ _ _ (by assumption) (by assumption)) (fun _ => ?_) (fun _ => ?_)
     | refine callP hE (sameScr_ (by assumption) (by assumption)) (fun _ => ?_) (fun _ => ?_)
     | refine aeqI hE (fun hq => ?_) (fun hq => ?_)
     | refine ltT hE (by omega) ?_
     | refine ltF hE (by omega) ?_
     | refine ltI hE (fun _ => ?_) (fun _ => ?_)
     | refine leT hE (by omega) ?_
     | refine leF hE (by omega) ?_
     | refine leI hE (fun _ => ?_) (fun _ => ?_)
     | refine eqT hE (by omega) ?_
     | refine eqF hE (by omega) ?_
     | refine eqI hE (fun _ => ?_) (fun _ => ?_)
     | refine add64 hE (by omega) (fun _ _ => ?_)
     | refine sub64 hE (by omega) (fun _ _ => ?_)
     | refine addI hE (fun _ _ => ?_)
     | refine subI hE (fun _ _ => ?_)
     | refine lenL hE (by assumption) (fun _ _ _ => ?_)
     | refine len0 hE (fun _ _ => ?_)
     | refine idxL hE (by assumption) (by first | omega | (simp only [List.length_set, mix_len]; omega)) (fun _ _ => ?_)
     | refine idxFill hE (by assumption) (by omega) ?_
     | refine idxI hE (by decide) (by rfl) ?_
     | refine iteB (fun _ => ?_) (fun _ => ?_)
     | refine maxI hE (fun _ _ => ?_)
     | refine minI hE (fun _ _ => ?_)
     | refine seqI hE (fun _ => ?_) (fun _ => ?_)
     | refine scatI hE (by first | omega | (simp only [ByteArray.size, Array.size, List.length_cons, List.length_nil] at *; omega)) (fun _ _ _ => ?_)
     | refine slenI hE (fun _ _ _ => ?_)
     | refine sidxI hE (by omega) (fun _ _ _ _ => ?_)
     | refine needI hE (by first | decide | omega) ?_
     | refine rem64 hE (by omega) (fun _ _ => ?_)
     | refine quo64 hE (by omega) (fun _ _ => ?_)
     | refine wrapU8 hE (by omega) (fun _ _ => ?_)
     | refine wrap64 hE (by omega) (fun _ _ => ?_)
     | refine noownI hE (by simp [AV.isOwn]) ?_) <;> (try conv => cbv))
  all_goals (clear h_lGroup h_sectors h_lGroup' h_sectors')
  all_goals first | (refine finB hK (bP_true.2 ?_); simp only [pairsP, Aid.mk.injEq, Pnt.mk.injEq, Mrk.mk.injEq, Chr.mk.injEq] at *; simp_all; done) | (refine finB hK (bP_false.2 ?_); simp only [pairsP, Aid.mk.injEq, Pnt.mk.injEq, Mrk.mk.injEq, Chr.mk.injEq] at *; simp_all; done)
theorem l12Same_ (number : Int) (name : ByteArray) (atX : Int) (atY : Int) (height : Int) (mKind : Int) (mColors : ByteArray) (mShape : ByteArray) (mTop : ByteArray) (lKind : Int) (lLetter : ByteArray) (lColors : ByteArray) (lPeriod : Int) (intensity : Int) (number' : Int) (name' : ByteArray) (atX' : Int) (atY' : Int) (height' : Int) (mKind' : Int) (mColors' : ByteArray) (mShape' : ByteArray) (mTop' : ByteArray) (lKind' : Int) (lLetter' : ByteArray) (lColors' : ByteArray) (lPeriod' : Int) (intensity' : Int) {r_lGroup : List (List AV)} {t_lGroup : Bool} {lGroup : List Int} {r_sectors : List (List AV)} {t_sectors : Bool} {sectors : List Scr} {r_lGroup' : List (List AV)} {t_lGroup' : Bool} {lGroup' : List Int} {r_sectors' : List (List AV)} {t_sectors' : Bool} {sectors' : List Scr} (h_lGroup : r_lGroup = lGroup.map intR) (h_sectors : r_sectors = sectors.map Scr.cs) (h_lGroup' : r_lGroup' = lGroup'.map intR) (h_sectors' : r_sectors' = sectors'.map Scr.cs) : AC Tryz.prog 88 [.pp [.int .i64 number, .str name, .int .i64 atX, .int .i64 atY, .int .i64 height, .int .i64 mKind, .str mColors, .str mShape, .str mTop, .int .i64 lKind, .sl t_lGroup 1 r_lGroup, .str lLetter, .str lColors, .int .i64 lPeriod, .sl t_sectors 3 r_sectors, .int .i64 intensity], .pp [.int .i64 number', .str name', .int .i64 atX', .int .i64 atY', .int .i64 height', .int .i64 mKind', .str mColors', .str mShape', .str mTop', .int .i64 lKind', .sl t_lGroup' 1 r_lGroup', .str lLetter', .str lColors', .int .i64 lPeriod', .sl t_sectors' 3 r_sectors', .int .i64 intensity']] AV.bool (bP ((Aid.mk number name atX atY height mKind mColors mShape mTop lKind lGroup lLetter lColors lPeriod sectors intensity) = (Aid.mk number' name' atX' atY' height' mKind' mColors' mShape' mTop' lKind' lGroup' lLetter' lColors' lPeriod' sectors' intensity'))) := by
  refine ac Tryz.func88 (by kernel_rfl) (.bool _) fun E K hE hK => ?_
  conv => cbv
  repeat' first
    | ((first
     | refine idxV hE (by assumption) (by omega) (by assumption) ?_
     | refine callP hE (AC.tl11 (l05Same_ _ _ _ _ _ _ _ _ (by assumption) (by assumption))) (fun _ => ?_) (fun _ => ?_)
     | refine callP hE (sSameScr_ (by assumption) (by assumption)) (fun _ => ?_) (fun _ => ?_)
     | refine aeqI hE (fun hq => ?_) (fun hq => ?_)
     | refine ltT hE (by omega) ?_
     | refine ltF hE (by omega) ?_
     | refine ltI hE (fun _ => ?_) (fun _ => ?_)
     | refine leT hE (by omega) ?_
     | refine leF hE (by omega) ?_
     | refine leI hE (fun _ => ?_) (fun _ => ?_)
     | refine eqT hE (by omega) ?_
     | refine eqF hE (by omega) ?_
     | refine eqI hE (fun _ => ?_) (fun _ => ?_)
     | refine add64 hE (by omega) (fun _ _ => ?_)
     | refine sub64 hE (by omega) (fun _ _ => ?_)
     | refine addI hE (fun _ _ => ?_)
     | refine subI hE (fun _ _ => ?_)
     | refine lenL hE (by assumption) (fun _ _ _ => ?_)
     | refine len0 hE (fun _ _ => ?_)
     | refine idxL hE (by assumption) (by first | omega | (simp only [List.length_set, mix_len]; omega)) (fun _ _ => ?_)
     | refine idxFill hE (by assumption) (by omega) ?_
     | refine idxI hE (by decide) (by rfl) ?_
     | refine iteB (fun _ => ?_) (fun _ => ?_)
     | refine maxI hE (fun _ _ => ?_)
     | refine minI hE (fun _ _ => ?_)
     | refine seqI hE (fun _ => ?_) (fun _ => ?_)
     | refine scatI hE (by first | omega | (simp only [ByteArray.size, Array.size, List.length_cons, List.length_nil] at *; omega)) (fun _ _ _ => ?_)
     | refine slenI hE (fun _ _ _ => ?_)
     | refine sidxI hE (by omega) (fun _ _ _ _ => ?_)
     | refine needI hE (by first | decide | omega) ?_
     | refine rem64 hE (by omega) (fun _ _ => ?_)
     | refine quo64 hE (by omega) (fun _ _ => ?_)
     | refine wrapU8 hE (by omega) (fun _ _ => ?_)
     | refine wrap64 hE (by omega) (fun _ _ => ?_)
     | refine noownI hE (by simp [AV.isOwn]) ?_) <;> (try conv => cbv))
  all_goals (clear h_lGroup h_sectors h_lGroup' h_sectors')
  all_goals first | (refine finB hK (bP_true.2 ?_); simp only [pairsP, Aid.mk.injEq, Pnt.mk.injEq, Mrk.mk.injEq, Chr.mk.injEq] at *; simp_all; done) | (refine finB hK (bP_false.2 ?_); simp only [pairsP, Aid.mk.injEq, Pnt.mk.injEq, Mrk.mk.injEq, Chr.mk.injEq] at *; simp_all; done)
theorem sameAidF_ {rs rs' : List (List AV)} {t t' b b' : Bool} {l m : List Aid} (hl : rs = l.map (Aid.cs b)) (hm : rs' = m.map (Aid.cs b')) : AC Tryz.prog 97 [.sl t 16 rs, .sl t' 16 rs', .fn 98 []] AV.bool (bP (l = m)) := by
  refine ac Tryz.func97 (by kernel_rfl) (.bool _) fun E K hE hK => ?_
  conv => cbv
  refine lenL hE hl fun n hn hb => ?_
  conv => cbv
  refine lenL hE hm fun n' hn' hb' => ?_
  conv => cbv
  refine eqI hE (fun he => ?_) (fun he => ?_) <;> conv => cbv
  · skip
    repeat' first
      | ((refine loopC hE (ι := Int) [1, 2, 15, 16] [17] (fun q => (fun (i : Int) => [(17, .int .i64 i)]) q) (fun q => (fun (i : Int) => []) q) (fun q => (fun (i : Int) => (l.length - i).toNat) q) (fun q => (fun (i : Int) => 0 ≤ i ∧ Up (fun j => l[j]? = m[j]?) i) q) [] (by decide) (0) (by conv => lhs; cbv) (by conv => lhs; cbv) rfl rfl (by dsimp only; exact ⟨by omega, .zero (by omega)⟩) fun i hi2 Kn2 hN2 => ?_; (try dsimp only at hi2); conv => cbv); obtain ⟨h0, hinv⟩ := hi2)
      | (refine idxAid hE hl (by omega) (fun number name atX atY height mKind mColors mShape mTop lKind lGroup lLetter lColors lPeriod sectors intensity r_lGroup r_sectors hv h_lGroup h_sectors => ?_); (try conv => cbv))
      | (refine idxAid hE hm (by omega) (fun number' name' atX' atY' height' mKind' mColors' mShape' mTop' lKind' lGroup' lLetter' lColors' lPeriod' sectors' intensity' r_lGroup' r_sectors' hv' h_lGroup' h_sectors' => ?_); (try conv => cbv))
      | (refine callP hE (sameAid_ _ _ _ _ _ _ _ _ _ _ _ _ _ _ _ _ _ _ _ _ _ _ _ _ _ _ _ _ (by assumption) (by assumption) (by assumption) (by assumption)) (fun hq => ?_) (fun hq => ?_) <;> (try conv => cbv))
      | (refine hN2 _ _ [] (by decide) rfl ⟨?_, ?_⟩ ?_ <;> (try dsimp only))
      | ((first
       | refine idxV hE (by assumption) (by omega) (by assumption) ?_
       | refine ltT hE (by omega) ?_
       | refine ltF hE (by omega) ?_
       | refine ltI hE (fun _ => ?_) (fun _ => ?_)
       | refine leT hE (by omega) ?_
       | refine leF hE (by omega) ?_
       | refine leI hE (fun _ => ?_) (fun _ => ?_)
       | refine eqT hE (by omega) ?_
       | refine eqF hE (by omega) ?_
       | refine eqI hE (fun _ => ?_) (fun _ => ?_)
       | refine add64 hE (by omega) (fun _ _ => ?_)
       | refine sub64 hE (by omega) (fun _ _ => ?_)
       | refine addI hE (fun _ _ => ?_)
       | refine subI hE (fun _ _ => ?_)
       | refine lenL hE (by assumption) (fun _ _ _ => ?_)
       | refine len0 hE (fun _ _ => ?_)
       | refine idxL hE (by assumption) (by first | omega | (simp only [List.length_set, mix_len]; omega)) (fun _ _ => ?_)
       | refine idxFill hE (by assumption) (by omega) ?_
       | refine idxI hE (by decide) (by rfl) ?_
       | refine iteB (fun _ => ?_) (fun _ => ?_)
       | refine maxI hE (fun _ _ => ?_)
       | refine minI hE (fun _ _ => ?_)
       | refine seqI hE (fun _ => ?_) (fun _ => ?_)
       | refine scatI hE (by first | omega | (simp only [ByteArray.size, Array.size, List.length_cons, List.length_nil] at *; omega)) (fun _ _ _ => ?_)
       | refine slenI hE (fun _ _ _ => ?_)
       | refine sidxI hE (by omega) (fun _ _ _ _ => ?_)
       | refine needI hE (by first | decide | omega) ?_
       | refine rem64 hE (by omega) (fun _ _ => ?_)
       | refine quo64 hE (by omega) (fun _ _ => ?_)
       | refine wrapU8 hE (by omega) (fun _ _ => ?_)
       | refine wrap64 hE (by omega) (fun _ _ => ?_)
       | refine noownI hE (by simp [AV.isOwn]) ?_) <;> (try conv => cbv))
    all_goals first
      | omega
      | exact hinv.succ (hv.trans ((congrArg some hq).trans hv'.symm)) (by assumption)
      | (refine finB hK (bP_false.2 fun h => hq ?_); rw [h, hv'] at hv; exact (Option.some.inj hv).symm)
      | exact finB hK (bP_true.2 (list_eq_of (by omega) hinv (by omega)))
      | trace_state
  · refine finB hK (bP_false.2 fun h => ?_); subst h; omega
theorem sSameAids_ {rs rs' : List (List AV)} {t t' b b' : Bool} {l m : List Aid} (hl : rs = l.map (Aid.cs b)) (hm : rs' = m.map (Aid.cs b')) : AC Tryz.prog 44 [.sl t 16 rs, .sl t' 16 rs'] AV.bool (bP (l = m)) := by
  refine ac Tryz.func44 (by kernel_rfl) (.bool _) fun E K hE hK => ?_
  conv => cbv
  refine lenL hE hl fun n hn hb => ?_
  conv => cbv
  refine lenL hE hm fun n' hn' hb' => ?_
  conv => cbv
  refine eqI hE (fun he => ?_) (fun he => ?_) <;> conv => cbv
  · skip
    repeat' first
      | ((refine loopC hE (ι := Int) [0, 1] [5] (fun q => (fun (i : Int) => [(5, .int .i64 i)]) q) (fun q => (fun (i : Int) => []) q) (fun q => (fun (i : Int) => (l.length - i).toNat) q) (fun q => (fun (i : Int) => 0 ≤ i ∧ Up (fun j => l[j]? = m[j]?) i) q) [] (by decide) (0) (by conv => lhs; cbv) (by conv => lhs; cbv) rfl rfl (by dsimp only; exact ⟨by omega, .zero (by omega)⟩) fun i hi2 Kn2 hN2 => ?_; (try dsimp only at hi2); conv => cbv); obtain ⟨h0, hinv⟩ := hi2)
      | (refine idxAid hE hl (by omega) (fun number name atX atY height mKind mColors mShape mTop lKind lGroup lLetter lColors lPeriod sectors intensity r_lGroup r_sectors hv h_lGroup h_sectors => ?_); (try conv => cbv))
      | (refine idxAid hE hm (by omega) (fun number' name' atX' atY' height' mKind' mColors' mShape' mTop' lKind' lGroup' lLetter' lColors' lPeriod' sectors' intensity' r_lGroup' r_sectors' hv' h_lGroup' h_sectors' => ?_); (try conv => cbv))
      | (refine callP hE (l12Same_ _ _ _ _ _ _ _ _ _ _ _ _ _ _ _ _ _ _ _ _ _ _ _ _ _ _ _ _ (by assumption) (by assumption) (by assumption) (by assumption)) (fun hq => ?_) (fun hq => ?_) <;> (try conv => cbv))
      | (refine hN2 _ _ [] (by decide) rfl ⟨?_, ?_⟩ ?_ <;> (try dsimp only))
      | ((first
       | refine idxV hE (by assumption) (by omega) (by assumption) ?_
       | refine ltT hE (by omega) ?_
       | refine ltF hE (by omega) ?_
       | refine ltI hE (fun _ => ?_) (fun _ => ?_)
       | refine leT hE (by omega) ?_
       | refine leF hE (by omega) ?_
       | refine leI hE (fun _ => ?_) (fun _ => ?_)
       | refine eqT hE (by omega) ?_
       | refine eqF hE (by omega) ?_
       | refine eqI hE (fun _ => ?_) (fun _ => ?_)
       | refine add64 hE (by omega) (fun _ _ => ?_)
       | refine sub64 hE (by omega) (fun _ _ => ?_)
       | refine addI hE (fun _ _ => ?_)
       | refine subI hE (fun _ _ => ?_)
       | refine lenL hE (by assumption) (fun _ _ _ => ?_)
       | refine len0 hE (fun _ _ => ?_)
       | refine idxL hE (by assumption) (by first | omega | (simp only [List.length_set, mix_len]; omega)) (fun _ _ => ?_)
       | refine idxFill hE (by assumption) (by omega) ?_
       | refine idxI hE (by decide) (by rfl) ?_
       | refine iteB (fun _ => ?_) (fun _ => ?_)
       | refine maxI hE (fun _ _ => ?_)
       | refine minI hE (fun _ _ => ?_)
       | refine seqI hE (fun _ => ?_) (fun _ => ?_)
       | refine scatI hE (by first | omega | (simp only [ByteArray.size, Array.size, List.length_cons, List.length_nil] at *; omega)) (fun _ _ _ => ?_)
       | refine slenI hE (fun _ _ _ => ?_)
       | refine sidxI hE (by omega) (fun _ _ _ _ => ?_)
       | refine needI hE (by first | decide | omega) ?_
       | refine rem64 hE (by omega) (fun _ _ => ?_)
       | refine quo64 hE (by omega) (fun _ _ => ?_)
       | refine wrapU8 hE (by omega) (fun _ _ => ?_)
       | refine wrap64 hE (by omega) (fun _ _ => ?_)
       | refine noownI hE (by simp [AV.isOwn]) ?_) <;> (try conv => cbv))
    all_goals first
      | omega
      | exact hinv.succ (hv.trans ((congrArg some hq).trans hv'.symm)) (by assumption)
      | (refine finB hK (bP_false.2 fun h => hq ?_); rw [h, hv'] at hv; exact (Option.some.inj hv).symm)
      | exact finB hK (bP_true.2 (list_eq_of (by omega) hinv (by omega)))
      | trace_state
  · refine finB hK (bP_false.2 fun h => ?_); subst h; omega
theorem sameNtc1_ (number : Int) (day : Int) (kind : Int) (target : Int) (aNumber : Int) (aName : ByteArray) (atX : Int) (atY : Int) (aHeight : Int) (mKind : Int) (mColors : ByteArray) (mShape : ByteArray) (mTop : ByteArray) (lKind : Int) (lLetter : ByteArray) (lColors : ByteArray) (lPeriod : Int) (intensity : Int) (number' : Int) (day' : Int) (kind' : Int) (target' : Int) (aNumber' : Int) (aName' : ByteArray) (atX' : Int) (atY' : Int) (aHeight' : Int) (mKind' : Int) (mColors' : ByteArray) (mShape' : ByteArray) (mTop' : ByteArray) (lKind' : Int) (lLetter' : ByteArray) (lColors' : ByteArray) (lPeriod' : Int) (intensity' : Int) {r_lGroup : List (List AV)} {t_lGroup : Bool} {lGroup : List Int} {r_sectors : List (List AV)} {t_sectors : Bool} {sectors : List Scr} {r_lGroup' : List (List AV)} {t_lGroup' : Bool} {lGroup' : List Int} {r_sectors' : List (List AV)} {t_sectors' : Bool} {sectors' : List Scr} (h_lGroup : r_lGroup = lGroup.map intR) (h_sectors : r_sectors = sectors.map Scr.cs) (h_lGroup' : r_lGroup' = lGroup'.map intR) (h_sectors' : r_sectors' = sectors'.map Scr.cs) : AC Tryz.prog 100 [.agg [.int .i64 number, .int .i64 day, .int .i64 kind, .int .i64 target, .int .i64 aNumber, .str aName, .int .i64 atX, .int .i64 atY, .int .i64 aHeight, .int .i64 mKind, .str mColors, .str mShape, .str mTop, .int .i64 lKind, .sl t_lGroup 1 r_lGroup, .str lLetter, .str lColors, .int .i64 lPeriod, .sl t_sectors 3 r_sectors, .int .i64 intensity], .agg [.int .i64 number', .int .i64 day', .int .i64 kind', .int .i64 target', .int .i64 aNumber', .str aName', .int .i64 atX', .int .i64 atY', .int .i64 aHeight', .int .i64 mKind', .str mColors', .str mShape', .str mTop', .int .i64 lKind', .sl t_lGroup' 1 r_lGroup', .str lLetter', .str lColors', .int .i64 lPeriod', .sl t_sectors' 3 r_sectors', .int .i64 intensity']] AV.bool (bP ((Ntc.mk number day kind target aNumber aName atX atY aHeight mKind mColors mShape mTop lKind lGroup lLetter lColors lPeriod sectors intensity) = (Ntc.mk number' day' kind' target' aNumber' aName' atX' atY' aHeight' mKind' mColors' mShape' mTop' lKind' lGroup' lLetter' lColors' lPeriod' sectors' intensity'))) := by
  refine ac Tryz.func100 (by kernel_rfl) (.bool _) fun E K hE hK => ?_
  conv => cbv
  repeat' first
    | ((first
     | refine idxV hE (by assumption) (by omega) (by assumption) ?_
     | refine callP hE (sameAid_ _ _ _ _ _ _ _ _ _ _ _ _ _ _ _ _ _ _ _ _ _ _ _ _ _ _ _ _ (by assumption) (by assumption) (by assumption) (by assumption)) (fun _ => ?_) (fun _ => ?_)
     | refine aeqI hE (fun hq => ?_) (fun hq => ?_)
     | refine ltT hE (by omega) ?_
     | refine ltF hE (by omega) ?_
     | refine ltI hE (fun _ => ?_) (fun _ => ?_)
     | refine leT hE (by omega) ?_
     | refine leF hE (by omega) ?_
     | refine leI hE (fun _ => ?_) (fun _ => ?_)
     | refine eqT hE (by omega) ?_
     | refine eqF hE (by omega) ?_
     | refine eqI hE (fun _ => ?_) (fun _ => ?_)
     | refine add64 hE (by omega) (fun _ _ => ?_)
     | refine sub64 hE (by omega) (fun _ _ => ?_)
     | refine addI hE (fun _ _ => ?_)
     | refine subI hE (fun _ _ => ?_)
     | refine lenL hE (by assumption) (fun _ _ _ => ?_)
     | refine len0 hE (fun _ _ => ?_)
     | refine idxL hE (by assumption) (by first | omega | (simp only [List.length_set, mix_len]; omega)) (fun _ _ => ?_)
     | refine idxFill hE (by assumption) (by omega) ?_
     | refine idxI hE (by decide) (by rfl) ?_
     | refine iteB (fun _ => ?_) (fun _ => ?_)
     | refine maxI hE (fun _ _ => ?_)
     | refine minI hE (fun _ _ => ?_)
     | refine seqI hE (fun _ => ?_) (fun _ => ?_)
     | refine scatI hE (by first | omega | (simp only [ByteArray.size, Array.size, List.length_cons, List.length_nil] at *; omega)) (fun _ _ _ => ?_)
     | refine slenI hE (fun _ _ _ => ?_)
     | refine sidxI hE (by omega) (fun _ _ _ _ => ?_)
     | refine needI hE (by first | decide | omega) ?_
     | refine rem64 hE (by omega) (fun _ _ => ?_)
     | refine quo64 hE (by omega) (fun _ _ => ?_)
     | refine wrapU8 hE (by omega) (fun _ _ => ?_)
     | refine wrap64 hE (by omega) (fun _ _ => ?_)
     | refine noownI hE (by simp [AV.isOwn]) ?_) <;> (try conv => cbv))
  all_goals (clear h_lGroup h_sectors h_lGroup' h_sectors')
  all_goals first | (refine finB hK (bP_true.2 ?_); simp only [pairsP, Ntc.mk.injEq, Aid.mk.injEq, Pnt.mk.injEq, Mrk.mk.injEq, Chr.mk.injEq] at *; simp_all; done) | (refine finB hK (bP_false.2 ?_); simp only [pairsP, Ntc.mk.injEq, Aid.mk.injEq, Pnt.mk.injEq, Mrk.mk.injEq, Chr.mk.injEq] at *; simp_all; done)
theorem sameNtcF_ {rs rs' : List (List AV)} {t t' b b' : Bool} {l m : List Ntc} (hl : rs = l.map (Ntc.cs b)) (hm : rs' = m.map (Ntc.cs b')) : AC Tryz.prog 99 [.sl t 20 rs, .sl t' 20 rs', .fn 100 []] AV.bool (bP (l = m)) := by
  refine ac Tryz.func99 (by kernel_rfl) (.bool _) fun E K hE hK => ?_
  conv => cbv
  refine lenL hE hl fun n hn hb => ?_
  conv => cbv
  refine lenL hE hm fun n' hn' hb' => ?_
  conv => cbv
  refine eqI hE (fun he => ?_) (fun he => ?_) <;> conv => cbv
  · skip
    repeat' first
      | ((refine loopC hE (ι := Int) [1, 2, 15, 16] [17] (fun q => (fun (i : Int) => [(17, .int .i64 i)]) q) (fun q => (fun (i : Int) => []) q) (fun q => (fun (i : Int) => (l.length - i).toNat) q) (fun q => (fun (i : Int) => 0 ≤ i ∧ Up (fun j => l[j]? = m[j]?) i) q) [] (by decide) (0) (by conv => lhs; cbv) (by conv => lhs; cbv) rfl rfl (by dsimp only; exact ⟨by omega, .zero (by omega)⟩) fun i hi2 Kn2 hN2 => ?_; (try dsimp only at hi2); conv => cbv); obtain ⟨h0, hinv⟩ := hi2)
      | (refine idxNtc hE hl (by omega) (fun number day kind target aNumber aName atX atY aHeight mKind mColors mShape mTop lKind lGroup lLetter lColors lPeriod sectors intensity r_lGroup r_sectors hv h_lGroup h_sectors => ?_); (try conv => cbv))
      | (refine idxNtc hE hm (by omega) (fun number' day' kind' target' aNumber' aName' atX' atY' aHeight' mKind' mColors' mShape' mTop' lKind' lGroup' lLetter' lColors' lPeriod' sectors' intensity' r_lGroup' r_sectors' hv' h_lGroup' h_sectors' => ?_); (try conv => cbv))
      | (refine callP hE (sameNtc1_ _ _ _ _ _ _ _ _ _ _ _ _ _ _ _ _ _ _ _ _ _ _ _ _ _ _ _ _ _ _ _ _ _ _ _ _ (by assumption) (by assumption) (by assumption) (by assumption)) (fun hq => ?_) (fun hq => ?_) <;> (try conv => cbv))
      | (refine hN2 _ _ [] (by decide) rfl ⟨?_, ?_⟩ ?_ <;> (try dsimp only))
      | ((first
       | refine idxV hE (by assumption) (by omega) (by assumption) ?_
       | refine ltT hE (by omega) ?_
       | refine ltF hE (by omega) ?_
       | refine ltI hE (fun _ => ?_) (fun _ => ?_)
       | refine leT hE (by omega) ?_
       | refine leF hE (by omega) ?_
       | refine leI hE (fun _ => ?_) (fun _ => ?_)
       | refine eqT hE (by omega) ?_
       | refine eqF hE (by omega) ?_
       | refine eqI hE (fun _ => ?_) (fun _ => ?_)
       | refine add64 hE (by omega) (fun _ _ => ?_)
       | refine sub64 hE (by omega) (fun _ _ => ?_)
       | refine addI hE (fun _ _ => ?_)
       | refine subI hE (fun _ _ => ?_)
       | refine lenL hE (by assumption) (fun _ _ _ => ?_)
       | refine len0 hE (fun _ _ => ?_)
       | refine idxL hE (by assumption) (by first | omega | (simp only [List.length_set, mix_len]; omega)) (fun _ _ => ?_)
       | refine idxFill hE (by assumption) (by omega) ?_
       | refine idxI hE (by decide) (by rfl) ?_
       | refine iteB (fun _ => ?_) (fun _ => ?_)
       | refine maxI hE (fun _ _ => ?_)
       | refine minI hE (fun _ _ => ?_)
       | refine seqI hE (fun _ => ?_) (fun _ => ?_)
       | refine scatI hE (by first | omega | (simp only [ByteArray.size, Array.size, List.length_cons, List.length_nil] at *; omega)) (fun _ _ _ => ?_)
       | refine slenI hE (fun _ _ _ => ?_)
       | refine sidxI hE (by omega) (fun _ _ _ _ => ?_)
       | refine needI hE (by first | decide | omega) ?_
       | refine rem64 hE (by omega) (fun _ _ => ?_)
       | refine quo64 hE (by omega) (fun _ _ => ?_)
       | refine wrapU8 hE (by omega) (fun _ _ => ?_)
       | refine wrap64 hE (by omega) (fun _ _ => ?_)
       | refine noownI hE (by simp [AV.isOwn]) ?_) <;> (try conv => cbv))
    all_goals first
      | omega
      | exact hinv.succ (hv.trans ((congrArg some hq).trans hv'.symm)) (by assumption)
      | (refine finB hK (bP_false.2 fun h => hq ?_); rw [h, hv'] at hv; exact (Option.some.inj hv).symm)
      | exact finB hK (bP_true.2 (list_eq_of (by omega) hinv (by omega)))
      | trace_state
  · refine finB hK (bP_false.2 fun h => ?_); subst h; omega
theorem l21Same_ (number : Int) (day : Int) (kind : Int) (target : Int) (aNumber : Int) (aName : ByteArray) (atX : Int) (atY : Int) (aHeight : Int) (mKind : Int) (mColors : ByteArray) (mShape : ByteArray) (mTop : ByteArray) (lKind : Int) (lLetter : ByteArray) (lColors : ByteArray) (lPeriod : Int) (intensity : Int) (number' : Int) (day' : Int) (kind' : Int) (target' : Int) (aNumber' : Int) (aName' : ByteArray) (atX' : Int) (atY' : Int) (aHeight' : Int) (mKind' : Int) (mColors' : ByteArray) (mShape' : ByteArray) (mTop' : ByteArray) (lKind' : Int) (lLetter' : ByteArray) (lColors' : ByteArray) (lPeriod' : Int) (intensity' : Int) {r_lGroup : List (List AV)} {t_lGroup : Bool} {lGroup : List Int} {r_sectors : List (List AV)} {t_sectors : Bool} {sectors : List Scr} {r_lGroup' : List (List AV)} {t_lGroup' : Bool} {lGroup' : List Int} {r_sectors' : List (List AV)} {t_sectors' : Bool} {sectors' : List Scr} (h_lGroup : r_lGroup = lGroup.map intR) (h_sectors : r_sectors = sectors.map Scr.cs) (h_lGroup' : r_lGroup' = lGroup'.map intR) (h_sectors' : r_sectors' = sectors'.map Scr.cs) : AC Tryz.prog 113 [.pp [.int .i64 number, .int .i64 day, .int .i64 kind, .int .i64 target, .int .i64 aNumber, .str aName, .int .i64 atX, .int .i64 atY, .int .i64 aHeight, .int .i64 mKind, .str mColors, .str mShape, .str mTop, .int .i64 lKind, .sl t_lGroup 1 r_lGroup, .str lLetter, .str lColors, .int .i64 lPeriod, .sl t_sectors 3 r_sectors, .int .i64 intensity], .pp [.int .i64 number', .int .i64 day', .int .i64 kind', .int .i64 target', .int .i64 aNumber', .str aName', .int .i64 atX', .int .i64 atY', .int .i64 aHeight', .int .i64 mKind', .str mColors', .str mShape', .str mTop', .int .i64 lKind', .sl t_lGroup' 1 r_lGroup', .str lLetter', .str lColors', .int .i64 lPeriod', .sl t_sectors' 3 r_sectors', .int .i64 intensity']] AV.bool (bP ((Ntc.mk number day kind target aNumber aName atX atY aHeight mKind mColors mShape mTop lKind lGroup lLetter lColors lPeriod sectors intensity) = (Ntc.mk number' day' kind' target' aNumber' aName' atX' atY' aHeight' mKind' mColors' mShape' mTop' lKind' lGroup' lLetter' lColors' lPeriod' sectors' intensity'))) := by
  refine ac Tryz.func113 (by kernel_rfl) (.bool _) fun E K hE hK => ?_
  conv => cbv
  repeat' first
    | ((first
     | refine idxV hE (by assumption) (by omega) (by assumption) ?_
     | refine callP hE (AC.tl11 (l12Same_ _ _ _ _ _ _ _ _ _ _ _ _ _ _ _ _ _ _ _ _ _ _ _ _ _ _ _ _ (by assumption) (by assumption) (by assumption) (by assumption))) (fun _ => ?_) (fun _ => ?_)
     | refine aeqI hE (fun hq => ?_) (fun hq => ?_)
     | refine ltT hE (by omega) ?_
     | refine ltF hE (by omega) ?_
     | refine ltI hE (fun _ => ?_) (fun _ => ?_)
     | refine leT hE (by omega) ?_
     | refine leF hE (by omega) ?_
     | refine leI hE (fun _ => ?_) (fun _ => ?_)
     | refine eqT hE (by omega) ?_
     | refine eqF hE (by omega) ?_
     | refine eqI hE (fun _ => ?_) (fun _ => ?_)
     | refine add64 hE (by omega) (fun _ _ => ?_)
     | refine sub64 hE (by omega) (fun _ _ => ?_)
     | refine addI hE (fun _ _ => ?_)
     | refine subI hE (fun _ _ => ?_)
     | refine lenL hE (by assumption) (fun _ _ _ => ?_)
     | refine len0 hE (fun _ _ => ?_)
     | refine idxL hE (by assumption) (by first | omega | (simp only [List.length_set, mix_len]; omega)) (fun _ _ => ?_)
     | refine idxFill hE (by assumption) (by omega) ?_
     | refine idxI hE (by decide) (by rfl) ?_
     | refine iteB (fun _ => ?_) (fun _ => ?_)
     | refine maxI hE (fun _ _ => ?_)
     | refine minI hE (fun _ _ => ?_)
     | refine seqI hE (fun _ => ?_) (fun _ => ?_)
     | refine scatI hE (by first | omega | (simp only [ByteArray.size, Array.size, List.length_cons, List.length_nil] at *; omega)) (fun _ _ _ => ?_)
     | refine slenI hE (fun _ _ _ => ?_)
     | refine sidxI hE (by omega) (fun _ _ _ _ => ?_)
     | refine needI hE (by first | decide | omega) ?_
     | refine rem64 hE (by omega) (fun _ _ => ?_)
     | refine quo64 hE (by omega) (fun _ _ => ?_)
     | refine wrapU8 hE (by omega) (fun _ _ => ?_)
     | refine wrap64 hE (by omega) (fun _ _ => ?_)
     | refine noownI hE (by simp [AV.isOwn]) ?_) <;> (try conv => cbv))
  all_goals (clear h_lGroup h_sectors h_lGroup' h_sectors')
  all_goals first | (refine finB hK (bP_true.2 ?_); simp only [pairsP, Ntc.mk.injEq, Aid.mk.injEq, Pnt.mk.injEq, Mrk.mk.injEq, Chr.mk.injEq] at *; simp_all; done) | (refine finB hK (bP_false.2 ?_); simp only [pairsP, Ntc.mk.injEq, Aid.mk.injEq, Pnt.mk.injEq, Mrk.mk.injEq, Chr.mk.injEq] at *; simp_all; done)
theorem l21SameAll_ {rs rs' : List (List AV)} {t t' b b' : Bool} {l m : List Ntc} (hl : rs = l.map (Ntc.cs b)) (hm : rs' = m.map (Ntc.cs b')) : AC Tryz.prog 89 [.sl t 20 rs, .sl t' 20 rs'] AV.bool (bP (l = m)) := by
  refine ac Tryz.func89 (by kernel_rfl) (.bool _) fun E K hE hK => ?_
  conv => cbv
  refine lenL hE hl fun n hn hb => ?_
  conv => cbv
  refine lenL hE hm fun n' hn' hb' => ?_
  conv => cbv
  refine eqI hE (fun he => ?_) (fun he => ?_) <;> conv => cbv
  · skip
    repeat' first
      | ((refine loopC hE (ι := Int) [0, 1] [5] (fun q => (fun (i : Int) => [(5, .int .i64 i)]) q) (fun q => (fun (i : Int) => []) q) (fun q => (fun (i : Int) => (l.length - i).toNat) q) (fun q => (fun (i : Int) => 0 ≤ i ∧ Up (fun j => l[j]? = m[j]?) i) q) [] (by decide) (0) (by conv => lhs; cbv) (by conv => lhs; cbv) rfl rfl (by dsimp only; exact ⟨by omega, .zero (by omega)⟩) fun i hi2 Kn2 hN2 => ?_; (try dsimp only at hi2); conv => cbv); obtain ⟨h0, hinv⟩ := hi2)
      | (refine idxNtc hE hl (by omega) (fun number day kind target aNumber aName atX atY aHeight mKind mColors mShape mTop lKind lGroup lLetter lColors lPeriod sectors intensity r_lGroup r_sectors hv h_lGroup h_sectors => ?_); (try conv => cbv))
      | (refine idxNtc hE hm (by omega) (fun number' day' kind' target' aNumber' aName' atX' atY' aHeight' mKind' mColors' mShape' mTop' lKind' lGroup' lLetter' lColors' lPeriod' sectors' intensity' r_lGroup' r_sectors' hv' h_lGroup' h_sectors' => ?_); (try conv => cbv))
      | (refine callP hE (l21Same_ _ _ _ _ _ _ _ _ _ _ _ _ _ _ _ _ _ _ _ _ _ _ _ _ _ _ _ _ _ _ _ _ _ _ _ _ (by assumption) (by assumption) (by assumption) (by assumption)) (fun hq => ?_) (fun hq => ?_) <;> (try conv => cbv))
      | (refine hN2 _ _ [] (by decide) rfl ⟨?_, ?_⟩ ?_ <;> (try dsimp only))
      | ((first
       | refine idxV hE (by assumption) (by omega) (by assumption) ?_
       | refine ltT hE (by omega) ?_
       | refine ltF hE (by omega) ?_
       | refine ltI hE (fun _ => ?_) (fun _ => ?_)
       | refine leT hE (by omega) ?_
       | refine leF hE (by omega) ?_
       | refine leI hE (fun _ => ?_) (fun _ => ?_)
       | refine eqT hE (by omega) ?_
       | refine eqF hE (by omega) ?_
       | refine eqI hE (fun _ => ?_) (fun _ => ?_)
       | refine add64 hE (by omega) (fun _ _ => ?_)
       | refine sub64 hE (by omega) (fun _ _ => ?_)
       | refine addI hE (fun _ _ => ?_)
       | refine subI hE (fun _ _ => ?_)
       | refine lenL hE (by assumption) (fun _ _ _ => ?_)
       | refine len0 hE (fun _ _ => ?_)
       | refine idxL hE (by assumption) (by first | omega | (simp only [List.length_set, mix_len]; omega)) (fun _ _ => ?_)
       | refine idxFill hE (by assumption) (by omega) ?_
       | refine idxI hE (by decide) (by rfl) ?_
       | refine iteB (fun _ => ?_) (fun _ => ?_)
       | refine maxI hE (fun _ _ => ?_)
       | refine minI hE (fun _ _ => ?_)
       | refine seqI hE (fun _ => ?_) (fun _ => ?_)
       | refine scatI hE (by first | omega | (simp only [ByteArray.size, Array.size, List.length_cons, List.length_nil] at *; omega)) (fun _ _ _ => ?_)
       | refine slenI hE (fun _ _ _ => ?_)
       | refine sidxI hE (by omega) (fun _ _ _ _ => ?_)
       | refine needI hE (by first | decide | omega) ?_
       | refine rem64 hE (by omega) (fun _ _ => ?_)
       | refine quo64 hE (by omega) (fun _ _ => ?_)
       | refine wrapU8 hE (by omega) (fun _ _ => ?_)
       | refine wrap64 hE (by omega) (fun _ _ => ?_)
       | refine noownI hE (by simp [AV.isOwn]) ?_) <;> (try conv => cbv))
    all_goals first
      | omega
      | exact hinv.succ (hv.trans ((congrArg some hq).trans hv'.symm)) (by assumption)
      | (refine finB hK (bP_false.2 fun h => hq ?_); rw [h, hv'] at hv; exact (Option.some.inj hv).symm)
      | exact finB hK (bP_true.2 (list_eq_of (by omega) hinv (by omega)))
      | trace_state
  · refine finB hK (bP_false.2 fun h => ?_); subst h; omega
theorem sameChn_ (name : ByteArray) (width : Int) (name' : ByteArray) (width' : Int) {r_line : List (List AV)} {t_line : Bool} {line : List Pnt} {r_line' : List (List AV)} {t_line' : Bool} {line' : List Pnt} (h_line : r_line = line.map Pnt.cs) (h_line' : r_line' = line'.map Pnt.cs) : AC Tryz.prog 63 [.agg [.str name, .sl t_line 2 r_line, .int .i64 width], .agg [.str name', .sl t_line' 2 r_line', .int .i64 width']] AV.bool (bP ((Chn.mk name line width) = (Chn.mk name' line' width'))) := by
  refine ac Tryz.func63 (by kernel_rfl) (.bool _) fun E K hE hK => ?_
  conv => cbv
  repeat' first
    | ((first
     | refine idxV hE (by assumption) (by omega) (by assumption) ?_
     | refine callP hE (samePnt_ (by assumption) (by assumption)) (fun _ => ?_) (fun _ => ?_)
     | refine aeqI hE (fun hq => ?_) (fun hq => ?_)
     | refine ltT hE (by omega) ?_
     | refine ltF hE (by omega) ?_
     | refine ltI hE (fun _ => ?_) (fun _ => ?_)
     | refine leT hE (by omega) ?_
     | refine leF hE (by omega) ?_
     | refine leI hE (fun _ => ?_) (fun _ => ?_)
     | refine eqT hE (by omega) ?_
     | refine eqF hE (by omega) ?_
     | refine eqI hE (fun _ => ?_) (fun _ => ?_)
     | refine add64 hE (by omega) (fun _ _ => ?_)
     | refine sub64 hE (by omega) (fun _ _ => ?_)
     | refine addI hE (fun _ _ => ?_)
     | refine subI hE (fun _ _ => ?_)
     | refine lenL hE (by assumption) (fun _ _ _ => ?_)
     | refine len0 hE (fun _ _ => ?_)
     | refine idxL hE (by assumption) (by first | omega | (simp only [List.length_set, mix_len]; omega)) (fun _ _ => ?_)
     | refine idxFill hE (by assumption) (by omega) ?_
     | refine idxI hE (by decide) (by rfl) ?_
     | refine iteB (fun _ => ?_) (fun _ => ?_)
     | refine maxI hE (fun _ _ => ?_)
     | refine minI hE (fun _ _ => ?_)
     | refine seqI hE (fun _ => ?_) (fun _ => ?_)
     | refine scatI hE (by first | omega | (simp only [ByteArray.size, Array.size, List.length_cons, List.length_nil] at *; omega)) (fun _ _ _ => ?_)
     | refine slenI hE (fun _ _ _ => ?_)
     | refine sidxI hE (by omega) (fun _ _ _ _ => ?_)
     | refine needI hE (by first | decide | omega) ?_
     | refine rem64 hE (by omega) (fun _ _ => ?_)
     | refine quo64 hE (by omega) (fun _ _ => ?_)
     | refine wrapU8 hE (by omega) (fun _ _ => ?_)
     | refine wrap64 hE (by omega) (fun _ _ => ?_)
     | refine noownI hE (by simp [AV.isOwn]) ?_) <;> (try conv => cbv))
  all_goals (clear h_line h_line')
  all_goals first | (refine finB hK (bP_true.2 ?_); simp only [pairsP, Chn.mk.injEq] at *; simp_all; done) | (refine finB hK (bP_false.2 ?_); simp only [pairsP, Chn.mk.injEq] at *; simp_all; done)
theorem sameFwy1_ (name : ByteArray) (width : Int) (spacing : Int) (tolerance : Int) (name' : ByteArray) (width' : Int) (spacing' : Int) (tolerance' : Int) {r_line : List (List AV)} {t_line : Bool} {line : List Pnt} {r_line' : List (List AV)} {t_line' : Bool} {line' : List Pnt} (h_line : r_line = line.map Pnt.cs) (h_line' : r_line' = line'.map Pnt.cs) : AC Tryz.prog 62 [.agg [.str name, .sl t_line 2 r_line, .int .i64 width, .int .i64 spacing, .int .i64 tolerance], .agg [.str name', .sl t_line' 2 r_line', .int .i64 width', .int .i64 spacing', .int .i64 tolerance']] AV.bool (bP ((Fwy.mk name line width spacing tolerance) = (Fwy.mk name' line' width' spacing' tolerance'))) := by
  refine ac Tryz.func62 (by kernel_rfl) (.bool _) fun E K hE hK => ?_
  conv => cbv
  repeat' first
    | ((first
     | refine idxV hE (by assumption) (by omega) (by assumption) ?_
     | refine callP hE (sameChn_ _ _ _ _ (by assumption) (by assumption)) (fun _ => ?_) (fun _ => ?_)
     | refine aeqI hE (fun hq => ?_) (fun hq => ?_)
     | refine ltT hE (by omega) ?_
     | refine ltF hE (by omega) ?_
     | refine ltI hE (fun _ => ?_) (fun _ => ?_)
     | refine leT hE (by omega) ?_
     | refine leF hE (by omega) ?_
     | refine leI hE (fun _ => ?_) (fun _ => ?_)
     | refine eqT hE (by omega) ?_
     | refine eqF hE (by omega) ?_
     | refine eqI hE (fun _ => ?_) (fun _ => ?_)
     | refine add64 hE (by omega) (fun _ _ => ?_)
     | refine sub64 hE (by omega) (fun _ _ => ?_)
     | refine addI hE (fun _ _ => ?_)
     | refine subI hE (fun _ _ => ?_)
     | refine lenL hE (by assumption) (fun _ _ _ => ?_)
     | refine len0 hE (fun _ _ => ?_)
     | refine idxL hE (by assumption) (by first | omega | (simp only [List.length_set, mix_len]; omega)) (fun _ _ => ?_)
     | refine idxFill hE (by assumption) (by omega) ?_
     | refine idxI hE (by decide) (by rfl) ?_
     | refine iteB (fun _ => ?_) (fun _ => ?_)
     | refine maxI hE (fun _ _ => ?_)
     | refine minI hE (fun _ _ => ?_)
     | refine seqI hE (fun _ => ?_) (fun _ => ?_)
     | refine scatI hE (by first | omega | (simp only [ByteArray.size, Array.size, List.length_cons, List.length_nil] at *; omega)) (fun _ _ _ => ?_)
     | refine slenI hE (fun _ _ _ => ?_)
     | refine sidxI hE (by omega) (fun _ _ _ _ => ?_)
     | refine needI hE (by first | decide | omega) ?_
     | refine rem64 hE (by omega) (fun _ _ => ?_)
     | refine quo64 hE (by omega) (fun _ _ => ?_)
     | refine wrapU8 hE (by omega) (fun _ _ => ?_)
     | refine wrap64 hE (by omega) (fun _ _ => ?_)
     | refine noownI hE (by simp [AV.isOwn]) ?_) <;> (try conv => cbv))
  all_goals (clear h_line h_line')
  all_goals first | (refine finB hK (bP_true.2 ?_); simp only [pairsP, Fwy.mk.injEq, Chn.mk.injEq] at *; simp_all; done) | (refine finB hK (bP_false.2 ?_); simp only [pairsP, Fwy.mk.injEq, Chn.mk.injEq] at *; simp_all; done)
theorem sameFwyF_ {rs rs' : List (List AV)} {t t' b b' : Bool} {l m : List Fwy} (hl : rs = l.map (Fwy.cs b)) (hm : rs' = m.map (Fwy.cs b')) : AC Tryz.prog 61 [.sl t 5 rs, .sl t' 5 rs', .fn 62 []] AV.bool (bP (l = m)) := by
  refine ac Tryz.func61 (by kernel_rfl) (.bool _) fun E K hE hK => ?_
  conv => cbv
  refine lenL hE hl fun n hn hb => ?_
  conv => cbv
  refine lenL hE hm fun n' hn' hb' => ?_
  conv => cbv
  refine eqI hE (fun he => ?_) (fun he => ?_) <;> conv => cbv
  · skip
    repeat' first
      | ((refine loopC hE (ι := Int) [1, 2, 15, 16] [17] (fun q => (fun (i : Int) => [(17, .int .i64 i)]) q) (fun q => (fun (i : Int) => []) q) (fun q => (fun (i : Int) => (l.length - i).toNat) q) (fun q => (fun (i : Int) => 0 ≤ i ∧ Up (fun j => l[j]? = m[j]?) i) q) [] (by decide) (0) (by conv => lhs; cbv) (by conv => lhs; cbv) rfl rfl (by dsimp only; exact ⟨by omega, .zero (by omega)⟩) fun i hi2 Kn2 hN2 => ?_; (try dsimp only at hi2); conv => cbv); obtain ⟨h0, hinv⟩ := hi2)
      | (refine idxFwy hE hl (by omega) (fun name line width spacing tolerance r_line hv h_line => ?_); (try conv => cbv))
      | (refine idxFwy hE hm (by omega) (fun name' line' width' spacing' tolerance' r_line' hv' h_line' => ?_); (try conv => cbv))
      | (refine callP hE (sameFwy1_ _ _ _ _ _ _ _ _ (by assumption) (by assumption)) (fun hq => ?_) (fun hq => ?_) <;> (try conv => cbv))
      | (refine hN2 _ _ [] (by decide) rfl ⟨?_, ?_⟩ ?_ <;> (try dsimp only))
      | ((first
       | refine idxV hE (by assumption) (by omega) (by assumption) ?_
       | refine ltT hE (by omega) ?_
       | refine ltF hE (by omega) ?_
       | refine ltI hE (fun _ => ?_) (fun _ => ?_)
       | refine leT hE (by omega) ?_
       | refine leF hE (by omega) ?_
       | refine leI hE (fun _ => ?_) (fun _ => ?_)
       | refine eqT hE (by omega) ?_
       | refine eqF hE (by omega) ?_
       | refine eqI hE (fun _ => ?_) (fun _ => ?_)
       | refine add64 hE (by omega) (fun _ _ => ?_)
       | refine sub64 hE (by omega) (fun _ _ => ?_)
       | refine addI hE (fun _ _ => ?_)
       | refine subI hE (fun _ _ => ?_)
       | refine lenL hE (by assumption) (fun _ _ _ => ?_)
       | refine len0 hE (fun _ _ => ?_)
       | refine idxL hE (by assumption) (by first | omega | (simp only [List.length_set, mix_len]; omega)) (fun _ _ => ?_)
       | refine idxFill hE (by assumption) (by omega) ?_
       | refine idxI hE (by decide) (by rfl) ?_
       | refine iteB (fun _ => ?_) (fun _ => ?_)
       | refine maxI hE (fun _ _ => ?_)
       | refine minI hE (fun _ _ => ?_)
       | refine seqI hE (fun _ => ?_) (fun _ => ?_)
       | refine scatI hE (by first | omega | (simp only [ByteArray.size, Array.size, List.length_cons, List.length_nil] at *; omega)) (fun _ _ _ => ?_)
       | refine slenI hE (fun _ _ _ => ?_)
       | refine sidxI hE (by omega) (fun _ _ _ _ => ?_)
       | refine needI hE (by first | decide | omega) ?_
       | refine rem64 hE (by omega) (fun _ _ => ?_)
       | refine quo64 hE (by omega) (fun _ _ => ?_)
       | refine wrapU8 hE (by omega) (fun _ _ => ?_)
       | refine wrap64 hE (by omega) (fun _ _ => ?_)
       | refine noownI hE (by simp [AV.isOwn]) ?_) <;> (try conv => cbv))
    all_goals first
      | omega
      | exact hinv.succ (hv.trans ((congrArg some hq).trans hv'.symm)) (by assumption)
      | (refine finB hK (bP_false.2 fun h => hq ?_); rw [h, hv'] at hv; exact (Option.some.inj hv).symm)
      | exact finB hK (bP_true.2 (list_eq_of (by omega) hinv (by omega)))
      | trace_state
  · refine finB hK (bP_false.2 fun h => ?_); subst h; omega
end Go.Proofs.YtoabioecoollpaaGreat
