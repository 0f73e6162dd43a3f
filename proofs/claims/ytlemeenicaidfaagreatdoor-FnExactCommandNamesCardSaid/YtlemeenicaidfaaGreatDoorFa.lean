/- Contracts: small functions, visits. -/
import Derived.Test.YtlemeenicaidfaaGreatDoorAxU
namespace Go.Proofs.YtlemeenicaidfaaGreatDoor
open Go Go.RowKit Classical
set_option maxRecDepth 100000
set_option maxHeartbeats 2000000
set_option linter.unusedVariables false
set_option linter.unusedSimpArgs false

theorem within_ [St] (x a b : Int) : AP 175 [.int .i64 x, .int .i64 a, .int .i64 b] AV.bool (bP (a ≤ x ∧ x ≤ b)) := by
  refine a0 Tryz.func175 fun E K hE hK => ?_
  repeat' first
    | ((first

   | refine B0 ?_|refine B1 ?_ ?_) <;> intros <;> (try conv => cbv))
  all_goals exact fz
theorem isNumber_ [St] (x : Int) : AP 212 [.int .i64 x] AV.bool (bP (1 ≤ x ∧ x ≤ 9999)) := by
  refine a0 Tryz.func212 fun E K hE hK => ?_
  repeat' first
    | ((first
   | refine callP (within_ _ _ _) (fun _ => ?_) (fun _ => ?_)
   | refine B0 ?_|refine B1 ?_ ?_) <;> intros <;> (try conv => cbv))
  all_goals exact fz
theorem isDay_ [St] (x : Int) : AP 184 [.int .i64 x] AV.bool (bP (0 ≤ x ∧ x ≤ 99999)) := by
  refine a0 Tryz.func184 fun E K hE hK => ?_
  repeat' first
    | ((first
   | refine callP (within_ _ _ _) (fun _ => ?_) (fun _ => ?_)
   | refine B0 ?_|refine B1 ?_ ?_) <;> intros <;> (try conv => cbv))
  all_goals exact fz
theorem few_ [St] (n m : Int) : AP 141 [.int .i64 n, .int .i64 m] AV.bool (bP (n ≤ m)) := by
  refine a0 Tryz.func141 fun E K hE hK => ?_
  repeat' first
    | ((first

   | refine B0 ?_|refine B1 ?_ ?_) <;> intros <;> (try conv => cbv))
  all_goals exact fz
theorem at_ [St] (i n : Int) : AP 321 [.int .i64 i, .int .i64 n] AV.bool (bP (0 ≤ i ∧ i < n)) := by
  refine a0 Tryz.func321 fun E K hE hK => ?_
  repeat' first
    | ((first

   | refine B0 ?_|refine B1 ?_ ?_) <;> intros <;> (try conv => cbv))
  all_goals exact fz
structure Vis where
  aid : Int
  every : Int
  last : Int
def Vis.cs (v : Vis) : List AV := [.int .i64 v.aid, .int .i64 v.every, .int .i64 v.last]
def Vis.ok (v : Vis) : Prop := (1 ≤ v.aid ∧ v.aid ≤ 9999) ∧ (1 ≤ v.every ∧ v.every ≤ 3650) ∧ 0 ≤ v.last ∧ v.last ≤ 99999
theorem NoB.vis (v : Vis) : NoB (.agg v.cs) := .aggC (.int _ _) (.aggC (.int _ _) (.aggC (.int _ _) .agg0))
theorem NoB.oVis (v : Vis) : NoB (.agg v.cs) := NoB.vis v
theorem isVisit_ [St] (a e l : Int) : AP 240 [.agg [.int .i64 a, .int .i64 e, .int .i64 l]] AV.bool (bP (Vis.ok ⟨a, e, l⟩)) := by
  refine a0 Tryz.func240 fun E K hE hK => ?_
  repeat' first
    | ((first
   | refine callP (isNumber_ _) (fun _ => ?_) (fun _ => ?_)
   | refine callP (isDay_ _) (fun _ => ?_) (fun _ => ?_)
   | refine callP (within_ _ _ _) (fun _ => ?_) (fun _ => ?_)
   | refine B0 ?_|refine B1 ?_ ?_) <;> intros <;> (try conv => cbv))
  all_goals (try clear hN)
  all_goals first
    | (omega)
    | (refine finB hK (bP_true.2 ?_); first | omega | grind [Vis.ok])
    | (refine finB hK (bP_false.2 ?_); first | omega | (intro h; grind [Vis.ok]))
    | (refine ⟨by omega, Up.succ (by assumption) ?_ (by assumption)⟩; grind [Vis.ok])
    | (refine hK _ ?_; simp_all [atup, Vis.ok]; done)
    | (grind [Vis.ok])
def Vis.C (l : List Vis) (j : Nat) : Prop := ∃ v, l[j]? = some v ∧ v.ok ∧ (0 < j → ∃ w, l[j - 1]? = some w ∧ w.aid < v.aid)
def VisitsOk (l : List Vis) : Prop := (∀ j, j < l.length → Vis.C l j) ∧ l.length ≤ 24
theorem validVisits_ [St] {rs : List (List AV)} {t : Bool} {l : List Vis} (hl : rs = l.map Vis.cs) : AP 183 [.sl t 3 rs] AV.bool (bP (VisitsOk l)) := by
  refine a0 Tryz.func183 fun E K hE hK => ?_
  refine lenL hl fun n hn hb => ?_
  conv => cbv
  refine loopK (ι := Int) [0, 5, 6, 7] (fun i => ⟨reF _ [(0, .sl t 3 rs), (5, .sl t 3 rs), (6, .int .i64 n), (7, .int .i64 i)], []⟩) (fun i => (l.length - i).toNat) (fun i => 0 ≤ i ∧ Up (Vis.C l) i) [] (by decide) 0 rfl ⟨by omega, .zero (by omega)⟩ fun i hi Kn hN => ?_
  obtain ⟨h0, hinv⟩ := hi
  conv => cbv
  repeat' first
    | ( refine hN _ _ [] (by decide) rfl ?_ ?_)
    | ((first
   | refine q0 ?_
   | refine callP (isVisit_ _ _ _) (fun _ => ?_) (fun _ => ?_)
   | refine callP (few_ _ _) (fun _ => ?_) (fun _ => ?_)
   | (refine idxL (R := Vis.cs) (by assumption) (by first | omega | (simp only [List.length_set, mix_len]; omega)) ?_; rintro ⟨⟩ _)
   | refine B0 ?_|refine B1 ?_ ?_) <;> intros <;> (try conv => cbv))
  all_goals (try clear hN)
  all_goals first
    | (omega)
    | (refine finB hK (bP_true.2 ?_); first | omega | grind [VisitsOk, Vis.C, Up])
    | (refine finB hK (bP_false.2 ?_); first | omega | (intro h; grind [VisitsOk, Vis.C, Up]))
    | (refine ⟨by omega, Up.succ (by assumption) ?_ (by assumption)⟩; grind [VisitsOk, Vis.C])
    | (refine hK _ ?_; simp_all [atup, VisitsOk, Vis.C, Up]; done)
    | (grind [VisitsOk, Vis.C, Up])
theorem due_ [St] (a e l : Int) : AP 186 [.agg [.int .i64 a, .int .i64 e, .int .i64 l]] (AV.int .i64) (IntKind.i64.wrap (l + e)) := by
  refine a0 Tryz.func186 fun E K hE hK => ?_
  repeat' first
    | ((first

   | refine B0 ?_|refine B1 ?_ ?_) <;> intros <;> (try conv => cbv))
  all_goals exact hK _ (by simp [atup, *])
theorem list_eq_of {α : Type} {l m : List α} {i : Int} (hl : l.length = m.length) (h : Up (fun j => l[j]? = m[j]?) i) (hi : (l.length : Int) ≤ i) : l = m := by
  apply List.ext_getElem?
  intro j
  by_cases hj : j < l.length
  · exact h j (by omega)
  · rw [List.getElem?_eq_none (by omega), List.getElem?_eq_none (by omega)]
/-- The first element that p holds of. -/
def FirstIs {α : Type} (p : α → Prop) (l : List α) (r : Int) : Prop := (0 ≤ r ∧ r < l.length ∧ (∃ v, l[r.toNat]? = some v ∧ p v) ∧ ∀ (j : Nat) v, (j : Int) < r → l[j]? = some v → ¬ p v) ∨ (r = -1 ∧ ∀ (j : Nat) v, l[j]? = some v → ¬ p v)
theorem FirstIs.uniq {α : Type} {p : α → Prop} {l : List α} {r s : Int} (h : FirstIs p l r) (k : FirstIs p l s) : r = s := by
  rcases h with ⟨h1, h2, ⟨v, h3, h4⟩, h5⟩ | ⟨h1, h2⟩ <;> rcases k with ⟨k1, k2, ⟨u, k3, k4⟩, k5⟩ | ⟨k1, k2⟩
  · rcases Int.lt_trichotomy r s with h6 | h6 | h6
    · exact (k5 _ _ (by omega) h3 h4).elim
    · exact h6
    · exact (h5 _ _ (by omega) k3 k4).elim
  · exact (k2 _ _ h3 h4).elim
  · exact (h2 _ _ k3 k4).elim
  · omega
theorem FirstIs.ex {α : Type} (p : α → Prop) : ∀ l : List α, ∃ r, FirstIs p l r
  | [] => ⟨-1, .inr ⟨rfl, fun j v h => by simp at h⟩⟩
  | a :: l => by
    by_cases h : p a
    · exact ⟨0, .inl ⟨by omega, by simp, ⟨a, by simp, h⟩, fun j v hj => by omega⟩⟩
    · obtain ⟨r, hr⟩ := FirstIs.ex p l
      rcases hr with ⟨h1, h2, ⟨v, h3, h4⟩, h5⟩ | ⟨h1, h2⟩
      · refine ⟨r + 1, .inl ⟨by omega, by simp; omega, ⟨v, ?_, h4⟩, fun j v hj hv => ?_⟩⟩
        · rw [show (r + 1).toNat = r.toNat + 1 by omega]; simpa using h3
        · cases j with
          | zero => simp at hv; subst hv; exact h
          | succ j => exact h5 j v (by omega) (by simpa using hv)
      · refine ⟨-1, .inr ⟨rfl, fun j v hv => ?_⟩⟩
        cases j with
        | zero => simp at hv; subst hv; exact h
        | succ j => exact h2 j v (by simpa using hv)
noncomputable def firstI {α : Type} (p : α → Prop) (l : List α) : Int := (FirstIs.ex p l).choose
theorem firstI_spec {α : Type} (p : α → Prop) (l : List α) : FirstIs p l (firstI p l) := (FirstIs.ex p l).choose_spec
theorem firstI_eq {α : Type} {p : α → Prop} {l : List α} {r : Int} (h : FirstIs p l r) : firstI p l = r := (firstI_spec p l).uniq h
theorem firstI_in {α : Type} {p : α → Prop} {l : List α} {i : Int} {v : α} (h0 : 0 ≤ i) (hv : l[i.toNat]? = some v) (hp : p v) (h : Up (fun j => ∀ v, l[j]? = some v → ¬ p v) i) : firstI p l = i :=
  firstI_eq (.inl ⟨h0, by have := (List.getElem?_eq_some_iff.1 hv).1; omega, ⟨v, hv, hp⟩, fun j v hj => h j hj v⟩)
theorem firstI_out {α : Type} {p : α → Prop} {l : List α} {i : Int} (hi : (l.length : Int) ≤ i) (h : Up (fun j => ∀ v, l[j]? = some v → ¬ p v) i) : firstI p l = -1 :=
  firstI_eq (.inr ⟨rfl, fun j v hv => h j (by have := (List.getElem?_eq_some_iff.1 hv).1; omega) v hv⟩)
theorem firstI_congr {α : Type} {p q : α → Prop} (l : List α) (h : ∀ v, p v ↔ q v) : firstI p l = firstI q l := by
  have : p = q := funext fun v => propext (h v)
  rw [this]
noncomputable def visAt (l : List Vis) (aid : Int) : Int := firstI (fun v : Vis => v.aid = aid) l
theorem visitOf1_ [St] (a e l x : Int) : AP 242 [.agg [.int .i64 a, .int .i64 e, .int .i64 l], .pp [.int .i64 x]] AV.bool (bP (a = x)) := by
  refine a0 Tryz.func242 fun E K hE hK => ?_
  repeat' first
    | ((first

   | refine B0 ?_|refine B1 ?_ ?_) <;> intros <;> (try conv => cbv))
  all_goals exact fz
theorem indexVis0_ [St] {rs : List (List AV)} {t : Bool} {l : List Vis} {g : FuncId} {c1 : List AV} {p : Vis → Prop} (hl : rs = l.map Vis.cs) (hp : ∀ a e l, AC Tryz.prog g (.agg [.int .i64 a, .int .i64 e, .int .i64 l] :: []) AV.bool (bP (p ⟨a, e, l⟩))) : AP 241 [.sl t 3 rs, .fn g []] (AV.int .i64) (firstI p l) := by
  refine a0 Tryz.func241 fun E K hE hK => ?_
  refine lenL hl fun n hn hb => ?_
  conv => cbv
  refine loopK (ι := Int) [0, 1, 7, 8] (fun i => ⟨reF _ [(0, .sl t 3 rs), (1, .fn g []), (7, .int .i64 n), (8, .int .i64 i)], []⟩) (fun i => (l.length - i).toNat) (fun i => 0 ≤ i ∧ Up (fun j => ∀ v, l[j]? = some v → ¬ p v) i) [] (by decide) 0 rfl ⟨by omega, .zero (by omega)⟩ fun i hi Kn hN => ?_
  obtain ⟨h0, hinv⟩ := hi
  conv => cbv
  repeat' first
    | ( refine hN _ _ [] (by decide) rfl ?_ ?_)
    | ((first
   | refine q0 ?_
   | refine callP (hp _ _ _) (fun _ => ?_) (fun _ => ?_)
   | (refine idxL (R := Vis.cs) (by assumption) (by first | omega | (simp only [List.length_set, mix_len]; omega)) ?_; rintro ⟨⟩ _)
   | refine B0 ?_|refine B1 ?_ ?_) <;> intros <;> (try conv => cbv))
  · refine hK _ ?_
    rw [firstI_in h0 (by assumption) (by assumption) hinv]; rfl
  · refine ⟨by omega, hinv.succ ?_ (by assumption)⟩
    grind
  · omega
  · refine hK _ ?_
    rw [firstI_out (by omega) hinv]; rfl

theorem indexVis1_ [St] {rs : List (List AV)} {t : Bool} {l : List Vis} {g : FuncId} {c1 : List AV} {p : Vis → Prop} (hl : rs = l.map Vis.cs) (hp : ∀ a e l, AC Tryz.prog g (.agg [.int .i64 a, .int .i64 e, .int .i64 l] :: [.pp c1]) AV.bool (bP (p ⟨a, e, l⟩))) : AP 241 [.sl t 3 rs, .fn g [.pp c1]] (AV.int .i64) (firstI p l) := by
  refine a0 Tryz.func241 fun E K hE hK => ?_
  refine lenL hl fun n hn hb => ?_
  conv => cbv
  refine loopK (ι := Int) [0, 1, 7, 8] (fun i => ⟨reF _ [(0, .sl t 3 rs), (1, .fn g [.pp c1]), (7, .int .i64 n), (8, .int .i64 i)], []⟩) (fun i => (l.length - i).toNat) (fun i => 0 ≤ i ∧ Up (fun j => ∀ v, l[j]? = some v → ¬ p v) i) [] (by decide) 0 rfl ⟨by omega, .zero (by omega)⟩ fun i hi Kn hN => ?_
  obtain ⟨h0, hinv⟩ := hi
  conv => cbv
  repeat' first
    | ( refine hN _ _ [] (by decide) rfl ?_ ?_)
    | ((first
   | refine q0 ?_
   | refine callP (hp _ _ _) (fun _ => ?_) (fun _ => ?_)
   | (refine idxL (R := Vis.cs) (by assumption) (by first | omega | (simp only [List.length_set, mix_len]; omega)) ?_; rintro ⟨⟩ _)
   | refine B0 ?_|refine B1 ?_ ?_) <;> intros <;> (try conv => cbv))
  · refine hK _ ?_
    rw [firstI_in h0 (by assumption) (by assumption) hinv]; rfl
  · refine ⟨by omega, hinv.succ ?_ (by assumption)⟩
    grind
  · omega
  · refine hK _ ?_
    rw [firstI_out (by omega) hinv]; rfl

theorem visitOf_ [St] {rs : List (List AV)} {t : Bool} {l : List Vis} (aid : Int) (hl : rs = l.map Vis.cs) : AP 137 [.sl t 3 rs, .int .i64 aid] (AV.int .i64) (visAt l aid) := by
  refine a0 Tryz.func137 fun E K hE hK => ?_
  refine callI (indexVis1_ (p := fun v => v.aid = aid) hl (fun a e l => visitOf1_ a e l aid)) fun y hy => ?_
  conv => cbv
  exact hK _ (by rw [hy]; rfl)
end Go.Proofs.YtlemeenicaidfaaGreatDoor
