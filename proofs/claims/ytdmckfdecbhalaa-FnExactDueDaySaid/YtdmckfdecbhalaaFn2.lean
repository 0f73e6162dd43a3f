/- Contracts: visits. -/
import Derived.Test.YtdmckfdecbhalaaFn1
namespace Go.Proofs.Ytdmckfdecbhalaa
open Go Go.RowKit
set_option maxRecDepth 100000
structure Vis where
  aid : Int
  every : Int
  last : Int
def Vis.av (v : Vis) : AV := .agg [.int .i64 v.aid, .int .i64 v.every, .int .i64 v.last]
theorem NoB.vis (v : Vis) : NoB v.av := .agg _ fun i c h => by
  match i, h with
  | 0, h => cases h; exact .int _ _
  | 1, h => cases h; exact .int _ _
  | 2, h => cases h; exact .int _ _
theorem toVisit_ (a e l : Int) : AC Try.prog 13 [.agg [.int .i64 a, .int .i64 e, .int .i64 l]] Vis.av ⟨a, e, l⟩ := by
  refine ac Try.func13 (by kernel_rfl) (.vis _) fun E K hE hK => ?_
  cbv
  exact hK _ rfl
theorem due_ (a e l : Int) : AC Try.prog 46 [.agg [.int .i64 a, .int .i64 e, .int .i64 l]] (AV.int .i64) (IntKind.i64.wrap (l + e)) := by
  refine ac Try.func46 (by kernel_rfl) (.int _ _) fun E K hE hK => ?_
  cbv
  exact hK _ (by subst hE; rfl)
theorem l30Due_ (a e l : Int) : AC Try.prog 44 [.pp [.int .i64 a, .int .i64 e, .int .i64 l]] (AV.int .i64) (IntKind.i64.wrap (l + e)) := by
  refine ac Try.func44 (by kernel_rfl) (.int _ _) fun E K hE hK => ?_
  cbv
  exact hK _ (by subst hE; rfl)

theorem within_ (x a b : Int) : AC Try.prog 53 [.int .i64 x, .int .i64 a, .int .i64 b] AV.bool (decide (a ≤ x) && decide (x ≤ b)) := by
  refine ac Try.func53 (by kernel_rfl) (.bool _) fun E K hE hK => ?_
  cbv
  refine br (fun h => ?_) (fun h => ?_)
  · rewrite [h]
    cbv
    refine hK _ ?_
    subst hE
    simp only [stdE] at h ⊢
    simp_all [atup] <;> omega
  · rewrite [h]
    cbv
    refine hK _ ?_
    subst hE
    simp only [stdE] at h ⊢
    simp_all [atup] <;> omega
def inB (x a b : Int) : Bool := decide (a ≤ x) && decide (x ≤ b)
theorem isNumber_ (x : Int) : AC Try.prog 69 [.int .i64 x] AV.bool (inB x 1 9999) := by
  refine ac Try.func69 (by kernel_rfl) (.bool _) fun E K hE hK => ?_
  cbv
  refine callI hE (within_ x 1 9999) fun s hs => ?_
  cbv
  exact hK _ (by rw [hs]; rfl)
theorem isDay_ (x : Int) : AC Try.prog 65 [.int .i64 x] AV.bool (inB x 0 99999) := by
  refine ac Try.func65 (by kernel_rfl) (.bool _) fun E K hE hK => ?_
  cbv
  refine callI hE (within_ x 0 99999) fun s hs => ?_
  cbv
  exact hK _ (by rw [hs]; rfl)
theorem l20Number_ (x : Int) : AC Try.prog 68 [.int .i64 x] AV.bool (inB x 1 9999) := by
  refine ac Try.func68 (by kernel_rfl) (.bool _) fun E K hE hK => ?_
  cbv
  refine callI hE (in_ x 1 9999) fun s hs => ?_
  cbv
  exact hK _ (by rw [hs]; rfl)
theorem l04Day_ (x : Int) : AC Try.prog 48 [.int .i64 x] AV.bool (inB x 0 99999) := by
  refine ac Try.func48 (by kernel_rfl) (.bool _) fun E K hE hK => ?_
  cbv
  refine callI hE (in_ x 0 99999) fun s hs => ?_
  cbv
  exact hK _ (by rw [hs]; rfl)
def visOk (a e l : Int) : Bool := inB a 1 9999 && (inB e 1 3650 && inB l 0 99999)
theorem isVisit_ (a e l : Int) : AC Try.prog 45 [.agg [.int .i64 a, .int .i64 e, .int .i64 l]] AV.bool (visOk a e l) := by
  refine ac Try.func45 (by kernel_rfl) (.bool _) fun E K hE hK => ?_
  cbv
  refine callI hE (isNumber_ a) fun x hx => ?_
  cases x
  · cbv
    exact hK _ (by rw [visOk, ← hx]; rfl)
  · cbv
    refine callI hE (within_ e 1 3650) fun y hy => ?_
    replace hy : y = inB e 1 3650 := hy
    cases y
    · cbv
      exact hK _ (by rw [visOk, ← hx, ← hy]; rfl)
    · cbv
      refine callI hE (isDay_ l) fun z hz => ?_
      cbv
      exact hK _ (by rw [visOk, ← hx, ← hy, hz]; rfl)
theorem l30One_ (a e l : Int) : AC Try.prog 43 [.pp [.int .i64 a, .int .i64 e, .int .i64 l]] AV.bool (visOk a e l) := by
  refine ac Try.func43 (by kernel_rfl) (.bool _) fun E K hE hK => ?_
  cbv
  refine callI hE (l20Number_ a) fun x hx => ?_
  cases x
  · cbv
    exact hK _ (by rw [visOk, ← hx]; rfl)
  · cbv
    refine callI hE (in_ e 1 3650) fun y hy => ?_
    replace hy : y = inB e 1 3650 := hy
    cases y
    · cbv
      exact hK _ (by rw [visOk, ← hx, ← hy]; rfl)
    · cbv
      refine callI hE (l04Day_ l) fun z hz => ?_
      cbv
      exact hK _ (by rw [visOk, ← hx, ← hy, hz]; rfl)
def dueDay (a e l : Int) : Int := if visOk a e l = true then IntKind.i64.wrap (l + e) else 0
theorem dueDay_ (a e l : Int) : AC Try.prog 14 [.agg [.int .i64 a, .int .i64 e, .int .i64 l]] (AV.int .i64) (dueDay a e l) := by
  refine ac Try.func14 (by kernel_rfl) (.int _ _) fun E K hE hK => ?_
  cbv
  refine callI hE (isVisit_ a e l) fun x hx => ?_
  cbv
  refine br (fun h => ?_) (fun h => ?_)
  · rewrite [h]
    cbv
    have h2 := notT hE h
    exact hK _ (by rw [dueDay, ← hx, h2]; rfl)
  · rewrite [h]
    cbv
    have h2 := notF hE h
    refine callI hE (due_ a e l) fun y hy => ?_
    cbv
    exact hK _ (by rw [dueDay, ← hx, h2, hy]; rfl)
theorem sDueDay_ (a e l : Int) : AC Try.prog 12 [.agg [.int .i64 a, .int .i64 e, .int .i64 l]] (AV.int .i64) (dueDay a e l) := by
  refine ac Try.func12 (by kernel_rfl) (.int _ _) fun E K hE hK => ?_
  cbv
  refine callI hE (l30One_ a e l) fun x hx => ?_
  cbv
  refine br (fun h => ?_) (fun h => ?_)
  · rewrite [h]
    cbv
    have h2 := notT hE h
    exact hK _ (by rw [dueDay, ← hx, h2]; rfl)
  · rewrite [h]
    cbv
    have h2 := notF hE h
    refine callI hE (l30Due_ a e l) fun y hy => ?_
    cbv
    exact hK _ (by rw [dueDay, ← hx, h2, hy]; rfl)
theorem eqT {E : Env} {P : Program} (hE : E = stdE P) (a : Int) : E.eq a a = true := by subst hE; simp [stdE]
theorem lawDueDay (a e l : Int) : AC Try.prog 4 [.agg [.int .i64 a, .int .i64 e, .int .i64 l]] id (.bool true) := by
  refine ac Try.func4 (by kernel_rfl) (.bool _) fun E K hE hK => ?_
  cbv
  refine callI hE (toVisit_ a e l) fun v hv => ?_
  subst hv
  cbv
  refine callI hE (sDueDay_ a e l) fun x hx => ?_
  cbv
  refine callI hE (toVisit_ a e l) fun v hv => ?_
  subst hv
  cbv
  refine callI hE (dueDay_ a e l) fun y hy => ?_
  rw [← hx] at hy
  subst hy
  cbv
  refine br (fun h => ?_) (fun h => ?_)
  · have h1 := notT hE h
    have h2 := eqT hE y
    exact absurd (h2.symm.trans h1) (by simp)
  · rewrite [h]
    cbv
    exact hK _ rfl
end Go.Proofs.Ytdmckfdecbhalaa
