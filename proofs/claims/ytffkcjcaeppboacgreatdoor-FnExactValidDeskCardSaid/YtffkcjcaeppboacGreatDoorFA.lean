/- Contracts: small functions, visits. -/
import Derived.Test.YtffkcjcaeppboacGreatDoorAxU
namespace Go.Proofs.YtffkcjcaeppboacGreatDoor
open Go Go.RowKit Classical
set_option maxRecDepth 100000
set_option maxHeartbeats 2000000
set_option linter.unusedVariables false
set_option linter.unusedSimpArgs false
theorem within_ (x a b : Int) : AC Tryz.prog 119 [.int .i64 x, .int .i64 a, .int .i64 b] AV.bool (bP (a ≤ x ∧ x ≤ b)) := by
  refine ac Tryz.func119 (by kernel_rfl) (.bool _) fun E K hE hK => ?_
  conv => cbv
  repeat' first
    | ((first
   | refine q0 hE ?_
   | refine B0 hE ?_|refine B1 hE (fun _=>?_) fun _=>?_|refine B3 hE fun _ _ _=>?_|refine B2 hE fun _ _=>?_|refine B4 hE fun _ _ _ _=>?_) <;> (try conv => cbv))
  all_goals (try clear hN)
  all_goals first
    | (omega)
    | (refine finB hK (bP_true.2 ?_); first | omega | grind)
    | (refine finB hK (bP_false.2 ?_); first | omega | (intro h; grind))
    | (refine ⟨by omega, Up.succ (by assumption) ?_ (by assumption)⟩; grind)
    | (refine hK _ ?_; simp_all [atup]; done)
    | (grind)
theorem in_ (x a b : Int) : AC Tryz.prog 103 [.int .i64 x, .int .i64 a, .int .i64 b] AV.bool (bP (a ≤ x ∧ x ≤ b)) := by
  refine ac Tryz.func103 (by kernel_rfl) (.bool _) fun E K hE hK => ?_
  conv => cbv
  repeat' first
    | ((first
   | refine q0 hE ?_
   | refine B0 hE ?_|refine B1 hE (fun _=>?_) fun _=>?_|refine B3 hE fun _ _ _=>?_|refine B2 hE fun _ _=>?_|refine B4 hE fun _ _ _ _=>?_) <;> (try conv => cbv))
  all_goals (try clear hN)
  all_goals first
    | (omega)
    | (refine finB hK (bP_true.2 ?_); first | omega | grind)
    | (refine finB hK (bP_false.2 ?_); first | omega | (intro h; grind))
    | (refine ⟨by omega, Up.succ (by assumption) ?_ (by assumption)⟩; grind)
    | (refine hK _ ?_; simp_all [atup]; done)
    | (grind)
theorem isNumber_ (x : Int) : AC Tryz.prog 127 [.int .i64 x] AV.bool (bP (1 ≤ x ∧ x ≤ 9999)) := by
  refine ac Tryz.func127 (by kernel_rfl) (.bool _) fun E K hE hK => ?_
  conv => cbv
  repeat' first
    | ((first
   | refine q0 hE ?_
   | refine callP hE (within_ _ _ _) (fun _ => ?_) (fun _ => ?_)
   | refine B0 hE ?_|refine B1 hE (fun _=>?_) fun _=>?_|refine B3 hE fun _ _ _=>?_|refine B2 hE fun _ _=>?_|refine B4 hE fun _ _ _ _=>?_) <;> (try conv => cbv))
  all_goals (try clear hN)
  all_goals first
    | (omega)
    | (refine finB hK (bP_true.2 ?_); first | omega | grind)
    | (refine finB hK (bP_false.2 ?_); first | omega | (intro h; grind))
    | (refine ⟨by omega, Up.succ (by assumption) ?_ (by assumption)⟩; grind)
    | (refine hK _ ?_; simp_all [atup]; done)
    | (grind)
theorem isDay_ (x : Int) : AC Tryz.prog 122 [.int .i64 x] AV.bool (bP (0 ≤ x ∧ x ≤ 99999)) := by
  refine ac Tryz.func122 (by kernel_rfl) (.bool _) fun E K hE hK => ?_
  conv => cbv
  repeat' first
    | ((first
   | refine q0 hE ?_
   | refine callP hE (within_ _ _ _) (fun _ => ?_) (fun _ => ?_)
   | refine B0 hE ?_|refine B1 hE (fun _=>?_) fun _=>?_|refine B3 hE fun _ _ _=>?_|refine B2 hE fun _ _=>?_|refine B4 hE fun _ _ _ _=>?_) <;> (try conv => cbv))
  all_goals (try clear hN)
  all_goals first
    | (omega)
    | (refine finB hK (bP_true.2 ?_); first | omega | grind)
    | (refine finB hK (bP_false.2 ?_); first | omega | (intro h; grind))
    | (refine ⟨by omega, Up.succ (by assumption) ?_ (by assumption)⟩; grind)
    | (refine hK _ ?_; simp_all [atup]; done)
    | (grind)
theorem l20Number_ (x : Int) : AC Tryz.prog 165 [.int .i64 x] AV.bool (bP (1 ≤ x ∧ x ≤ 9999)) := by
  refine ac Tryz.func165 (by kernel_rfl) (.bool _) fun E K hE hK => ?_
  conv => cbv
  repeat' first
    | ((first
   | refine q0 hE ?_
   | refine callP hE (in_ _ _ _) (fun _ => ?_) (fun _ => ?_)
   | refine B0 hE ?_|refine B1 hE (fun _=>?_) fun _=>?_|refine B3 hE fun _ _ _=>?_|refine B2 hE fun _ _=>?_|refine B4 hE fun _ _ _ _=>?_) <;> (try conv => cbv))
  all_goals (try clear hN)
  all_goals first
    | (omega)
    | (refine finB hK (bP_true.2 ?_); first | omega | grind)
    | (refine finB hK (bP_false.2 ?_); first | omega | (intro h; grind))
    | (refine ⟨by omega, Up.succ (by assumption) ?_ (by assumption)⟩; grind)
    | (refine hK _ ?_; simp_all [atup]; done)
    | (grind)
theorem l04Day_ (x : Int) : AC Tryz.prog 169 [.int .i64 x] AV.bool (bP (0 ≤ x ∧ x ≤ 99999)) := by
  refine ac Tryz.func169 (by kernel_rfl) (.bool _) fun E K hE hK => ?_
  conv => cbv
  repeat' first
    | ((first
   | refine q0 hE ?_
   | refine callP hE (in_ _ _ _) (fun _ => ?_) (fun _ => ?_)
   | refine B0 hE ?_|refine B1 hE (fun _=>?_) fun _=>?_|refine B3 hE fun _ _ _=>?_|refine B2 hE fun _ _=>?_|refine B4 hE fun _ _ _ _=>?_) <;> (try conv => cbv))
  all_goals (try clear hN)
  all_goals first
    | (omega)
    | (refine finB hK (bP_true.2 ?_); first | omega | grind)
    | (refine finB hK (bP_false.2 ?_); first | omega | (intro h; grind))
    | (refine ⟨by omega, Up.succ (by assumption) ?_ (by assumption)⟩; grind)
    | (refine hK _ ?_; simp_all [atup]; done)
    | (grind)
theorem few_ (n m : Int) : AC Tryz.prog 60 [.int .i64 n, .int .i64 m] AV.bool (bP (n ≤ m)) := by
  refine ac Tryz.func60 (by kernel_rfl) (.bool _) fun E K hE hK => ?_
  conv => cbv
  repeat' first
    | ((first
   | refine q0 hE ?_
   | refine B0 hE ?_|refine B1 hE (fun _=>?_) fun _=>?_|refine B3 hE fun _ _ _=>?_|refine B2 hE fun _ _=>?_|refine B4 hE fun _ _ _ _=>?_) <;> (try conv => cbv))
  all_goals (try clear hN)
  all_goals first
    | (omega)
    | (refine finB hK (bP_true.2 ?_); first | omega | grind)
    | (refine finB hK (bP_false.2 ?_); first | omega | (intro h; grind))
    | (refine ⟨by omega, Up.succ (by assumption) ?_ (by assumption)⟩; grind)
    | (refine hK _ ?_; simp_all [atup]; done)
    | (grind)
theorem at_ (i n : Int) : AC Tryz.prog 187 [.int .i64 i, .int .i64 n] AV.bool (bP (0 ≤ i ∧ i < n)) := by
  refine ac Tryz.func187 (by kernel_rfl) (.bool _) fun E K hE hK => ?_
  conv => cbv
  repeat' first
    | ((first
   | refine q0 hE ?_
   | refine B0 hE ?_|refine B1 hE (fun _=>?_) fun _=>?_|refine B3 hE fun _ _ _=>?_|refine B2 hE fun _ _=>?_|refine B4 hE fun _ _ _ _=>?_) <;> (try conv => cbv))
  all_goals (try clear hN)
  all_goals first
    | (omega)
    | (refine finB hK (bP_true.2 ?_); first | omega | grind)
    | (refine finB hK (bP_false.2 ?_); first | omega | (intro h; grind))
    | (refine ⟨by omega, Up.succ (by assumption) ?_ (by assumption)⟩; grind)
    | (refine hK _ ?_; simp_all [atup]; done)
    | (grind)
structure Vis where
  aid : Int
  every : Int
  last : Int
def Vis.cs (v : Vis) : List AV := [.int .i64 v.aid, .int .i64 v.every, .int .i64 v.last]
def Vis.ok (v : Vis) : Prop := (1 ≤ v.aid ∧ v.aid ≤ 9999) ∧ (1 ≤ v.every ∧ v.every ≤ 3650) ∧ 0 ≤ v.last ∧ v.last ≤ 99999
theorem NoB.vis (v : Vis) : NoB (.agg v.cs) := .aggC (.int _ _) (.aggC (.int _ _) (.aggC (.int _ _) .agg0))
theorem NoB.oVis (v : Vis) : NoB (.agg v.cs) := NoB.vis v
theorem isVisit_ (a e l : Int) : AC Tryz.prog 75 [.agg [.int .i64 a, .int .i64 e, .int .i64 l]] AV.bool (bP (Vis.ok ⟨a, e, l⟩)) := by
  refine ac Tryz.func75 (by kernel_rfl) (.bool _) fun E K hE hK => ?_
  conv => cbv
  repeat' first
    | ((first
   | refine q0 hE ?_
   | refine callP hE (isNumber_ _) (fun _ => ?_) (fun _ => ?_)
   | refine callP hE (isDay_ _) (fun _ => ?_) (fun _ => ?_)
   | refine callP hE (within_ _ _ _) (fun _ => ?_) (fun _ => ?_)
   | refine B0 hE ?_|refine B1 hE (fun _=>?_) fun _=>?_|refine B3 hE fun _ _ _=>?_|refine B2 hE fun _ _=>?_|refine B4 hE fun _ _ _ _=>?_) <;> (try conv => cbv))
  all_goals (try clear hN)
  all_goals first
    | (omega)
    | (refine finB hK (bP_true.2 ?_); first | omega | grind [Vis.ok])
    | (refine finB hK (bP_false.2 ?_); first | omega | (intro h; grind [Vis.ok]))
    | (refine ⟨by omega, Up.succ (by assumption) ?_ (by assumption)⟩; grind [Vis.ok])
    | (refine hK _ ?_; simp_all [atup, Vis.ok]; done)
    | (grind [Vis.ok])
theorem l30One_ (a e l : Int) : AC Tryz.prog 111 [.pp [.int .i64 a, .int .i64 e, .int .i64 l]] AV.bool (bP (Vis.ok ⟨a, e, l⟩)) := by
  refine ac Tryz.func111 (by kernel_rfl) (.bool _) fun E K hE hK => ?_
  conv => cbv
  repeat' first
    | ((first
   | refine q0 hE ?_
   | refine callP hE (l20Number_ _) (fun _ => ?_) (fun _ => ?_)
   | refine callP hE (l04Day_ _) (fun _ => ?_) (fun _ => ?_)
   | refine callP hE (in_ _ _ _) (fun _ => ?_) (fun _ => ?_)
   | refine B0 hE ?_|refine B1 hE (fun _=>?_) fun _=>?_|refine B3 hE fun _ _ _=>?_|refine B2 hE fun _ _=>?_|refine B4 hE fun _ _ _ _=>?_) <;> (try conv => cbv))
  all_goals (try clear hN)
  all_goals first
    | (omega)
    | (refine finB hK (bP_true.2 ?_); first | omega | grind [Vis.ok])
    | (refine finB hK (bP_false.2 ?_); first | omega | (intro h; grind [Vis.ok]))
    | (refine ⟨by omega, Up.succ (by assumption) ?_ (by assumption)⟩; grind [Vis.ok])
    | (refine hK _ ?_; simp_all [atup, Vis.ok]; done)
    | (grind [Vis.ok])
def Vis.C (l : List Vis) (j : Nat) : Prop := ∃ v, l[j]? = some v ∧ v.ok ∧ (0 < j → ∃ w, l[j - 1]? = some w ∧ w.aid < v.aid)
def VisitsOk (l : List Vis) : Prop := (∀ j, j < l.length → Vis.C l j) ∧ l.length ≤ 24
theorem l30Ok_ {rs : List (List AV)} {t : Bool} {l : List Vis} (hl : rs = l.map Vis.cs) : AC Tryz.prog 44 [.sl t 3 rs] AV.bool (bP (VisitsOk l)) := by
  refine ac Tryz.func44 (by kernel_rfl) (.bool _) fun E K hE hK => ?_
  conv => cbv
  refine loopK hE (ι := Int) [0, 3] (fun i => ⟨reF _ [(0, .sl t 3 rs), (3, .int .i64 i)], []⟩) (fun i => (l.length - i).toNat) (fun i => 0 ≤ i ∧ Up (Vis.C l) i) [] (by decide) 0 rfl ⟨by omega, .zero (by omega)⟩ fun i hi Kn hN => ?_
  obtain ⟨h0, hinv⟩ := hi
  conv => cbv
  repeat' first
    | ( refine hN _ _ [] (by decide) rfl ?_ ?_)
    | ((first
   | refine q0 hE ?_
   | refine callP hE (l30One_ _ _ _) (fun _ => ?_) (fun _ => ?_)
   | (refine idxL (R := Vis.cs) hE (by assumption) (by first | omega | (simp only [List.length_set, mix_len]; omega)) ?_; rintro ⟨⟩ _)
   | refine B0 hE ?_|refine B1 hE (fun _=>?_) fun _=>?_|refine B3 hE fun _ _ _=>?_|refine B2 hE fun _ _=>?_|refine B4 hE fun _ _ _ _=>?_) <;> (try conv => cbv))
  all_goals (try clear hN)
  all_goals first
    | (omega)
    | (refine finB hK (bP_true.2 ?_); first | omega | grind [VisitsOk, Vis.C, Up])
    | (refine finB hK (bP_false.2 ?_); first | omega | (intro h; grind [VisitsOk, Vis.C, Up]))
    | (refine ⟨by omega, Up.succ (by assumption) ?_ (by assumption)⟩; grind [VisitsOk, Vis.C])
    | (refine hK _ ?_; simp_all [atup, VisitsOk, Vis.C, Up]; done)
    | (grind [VisitsOk, Vis.C, Up])
theorem validVisits_ {rs : List (List AV)} {t : Bool} {l : List Vis} (hl : rs = l.map Vis.cs) : AC Tryz.prog 24 [.sl t 3 rs] AV.bool (bP (VisitsOk l)) := by
  refine ac Tryz.func24 (by kernel_rfl) (.bool _) fun E K hE hK => ?_
  conv => cbv
  refine lenL hE hl fun n hn hb => ?_
  conv => cbv
  refine loopK hE (ι := Int) [0, 5, 6, 7] (fun i => ⟨reF _ [(0, .sl t 3 rs), (5, .sl t 3 rs), (6, .int .i64 n), (7, .int .i64 i)], []⟩) (fun i => (l.length - i).toNat) (fun i => 0 ≤ i ∧ Up (Vis.C l) i) [] (by decide) 0 rfl ⟨by omega, .zero (by omega)⟩ fun i hi Kn hN => ?_
  obtain ⟨h0, hinv⟩ := hi
  conv => cbv
  repeat' first
    | ( refine hN _ _ [] (by decide) rfl ?_ ?_)
    | ((first
   | refine q0 hE ?_
   | refine callP hE (isVisit_ _ _ _) (fun _ => ?_) (fun _ => ?_)
   | refine callP hE (few_ _ _) (fun _ => ?_) (fun _ => ?_)
   | (refine idxL (R := Vis.cs) hE (by assumption) (by first | omega | (simp only [List.length_set, mix_len]; omega)) ?_; rintro ⟨⟩ _)
   | refine B0 hE ?_|refine B1 hE (fun _=>?_) fun _=>?_|refine B3 hE fun _ _ _=>?_|refine B2 hE fun _ _=>?_|refine B4 hE fun _ _ _ _=>?_) <;> (try conv => cbv))
  all_goals (try clear hN)
  all_goals first
    | (omega)
    | (refine finB hK (bP_true.2 ?_); first | omega | grind [VisitsOk, Vis.C, Up])
    | (refine finB hK (bP_false.2 ?_); first | omega | (intro h; grind [VisitsOk, Vis.C, Up]))
    | (refine ⟨by omega, Up.succ (by assumption) ?_ (by assumption)⟩; grind [VisitsOk, Vis.C])
    | (refine hK _ ?_; simp_all [atup, VisitsOk, Vis.C, Up]; done)
    | (grind [VisitsOk, Vis.C, Up])
theorem toVisit_ (a e l : Int) : AC Tryz.prog 57 [.agg [.int .i64 a, .int .i64 e, .int .i64 l]] (fun v : Vis => .agg v.cs) ⟨a, e, l⟩ := by
  refine ac Tryz.func57 (by kernel_rfl) (.vis _) fun E K hE hK => ?_
  conv => cbv
  exact hK _ rfl
theorem list_eq_of {α : Type} {l m : List α} {i : Int} (hl : l.length = m.length) (h : Up (fun j => l[j]? = m[j]?) i) (hi : (l.length : Int) ≤ i) : l = m := by
  apply List.ext_getElem?
  intro j
  by_cases hj : j < l.length
  · exact h j (by omega)
  · rw [List.getElem?_eq_none (by omega), List.getElem?_eq_none (by omega)]
def FirstIs {α : Type} (p : α → Prop) (l : List α) (r : Int) : Prop := (0 ≤ r ∧ r < l.length ∧ (∃ v, l[r.toNat]? = some v ∧ p v) ∧ ∀ (j : Nat) v, (j : Int) < r → l[j]? = some v → ¬ p v) ∨ (r = -1 ∧ ∀ (j : Nat) v, l[j]? = some v → ¬ p v)
theorem FirstIs.uniq {α : Type} {p : α → Prop} {l : List α} {r s : Int} (h : FirstIs p l r) (k : FirstIs p l s) : r = s := by
  rcases h with ⟨h1, h2, ⟨v, h3, h4⟩, h5⟩ | ⟨h1, h2⟩ <;> rcases k with ⟨k1, k2, ⟨u, k3, k4⟩, k5⟩ | ⟨k1, k2⟩
  · rcases Int.lt_trichotomy r s with h6 | h6 | h6
    · exact (k5 _ _ (by omega) h3 h4).elim
    · exact h6
    · exact (h5 _ _ (by omega) k3 k4).elim
  · exact (k2 _ _ h3 h4).elim
  · exact (h2 _ _ k3 k4).elim
  · omega
theorem FirstIs.ex {α : Type} (p : α → Prop) : ∀ l : List α, ∃ r, FirstIs p l r
  | [] => ⟨-1, .inr ⟨rfl, fun j v h => by simp at h⟩⟩
  | a :: l => by
    by_cases h : p a
    · exact ⟨0, .inl ⟨by omega, by simp, ⟨a, by simp, h⟩, fun j v hj => by omega⟩⟩
    · obtain ⟨r, hr⟩ := FirstIs.ex p l
      rcases hr with ⟨h1, h2, ⟨v, h3, h4⟩, h5⟩ | ⟨h1, h2⟩
      · refine ⟨r + 1, .inl ⟨by omega, by simp; omega, ⟨v, ?_, h4⟩, fun j v hj hv => ?_⟩⟩
        · rw [show (r + 1).toNat = r.toNat + 1 by omega]; simpa using h3
        · cases j with
          | zero => simp at hv; subst hv; exact h
          | succ j => exact h5 j v (by omega) (by simpa using hv)
      · refine ⟨-1, .inr ⟨rfl, fun j v hv => ?_⟩⟩
        cases j with
        | zero => simp at hv; subst hv; exact h
        | succ j => exact h2 j v (by simpa using hv)
noncomputable def firstI {α : Type} (p : α → Prop) (l : List α) : Int := (FirstIs.ex p l).choose
theorem firstI_spec {α : Type} (p : α → Prop) (l : List α) : FirstIs p l (firstI p l) := (FirstIs.ex p l).choose_spec
theorem firstI_eq {α : Type} {p : α → Prop} {l : List α} {r : Int} (h : FirstIs p l r) : firstI p l = r := (firstI_spec p l).uniq h
theorem firstI_in {α : Type} {p : α → Prop} {l : List α} {i : Int} {v : α} (h0 : 0 ≤ i) (hv : l[i.toNat]? = some v) (hp : p v) (h : Up (fun j => ∀ v, l[j]? = some v → ¬ p v) i) : firstI p l = i :=
  firstI_eq (.inl ⟨h0, by have := (List.getElem?_eq_some_iff.1 hv).1; omega, ⟨v, hv, hp⟩, fun j v hj => h j hj v⟩)
theorem firstI_out {α : Type} {p : α → Prop} {l : List α} {i : Int} (hi : (l.length : Int) ≤ i) (h : Up (fun j => ∀ v, l[j]? = some v → ¬ p v) i) : firstI p l = -1 :=
  firstI_eq (.inr ⟨rfl, fun j v hv => h j (by have := (List.getElem?_eq_some_iff.1 hv).1; omega) v hv⟩)
end Go.Proofs.YtffkcjcaeppboacGreatDoor
/- Contracts: inspections. -/
namespace Go.Proofs.YtffkcjcaeppboacGreatDoor
open Go Go.RowKit Classical
set_option maxRecDepth 100000
set_option maxHeartbeats 2000000
set_option linter.unusedVariables false
set_option linter.unusedSimpArgs false
end Go.Proofs.YtffkcjcaeppboacGreatDoor
/- Contracts: the laws' helpers over visits; the laws of late visits. -/
namespace Go.Proofs.YtffkcjcaeppboacGreatDoor
open Go Go.RowKit Classical
set_option maxRecDepth 100000
set_option maxHeartbeats 2000000
set_option linter.unusedVariables false
set_option linter.unusedSimpArgs false
def szN (n : Int) (k : Nat) : Int := if n - k < 0 then -1 else n - k
theorem szVisitS_ {rs : List (List AV)} {t : Bool} {l : List Vis} (n : Int) (hl : rs = l.map Vis.cs) (hn : 0 ≤ n ∧ n ≤ 1048576) : AC Tryz.prog 13 [.sl t 3 rs, .int .i64 n] (AV.int .i64) (szN n l.length) := by
  refine ac Tryz.func13 (by kernel_rfl) (.int _ _) fun E K hE hK => ?_
  conv => cbv
  repeat' first
    | ((first
   | refine q0 hE ?_
   | refine B0 hE ?_|refine B1 hE (fun _=>?_) fun _=>?_|refine B3 hE fun _ _ _=>?_|refine B2 hE fun _ _=>?_|refine B4 hE fun _ _ _ _=>?_) <;> (try conv => cbv))
  all_goals (try clear hN)
  all_goals (refine hK _ ?_; first | (simp only [atup]; grind [szN]) | (simp_all [atup, szN]; done))
theorem toVisitS_ {rs : List (List AV)} {t : Bool} {l : List Vis} (hl : rs = l.map Vis.cs) (hb0 : l.length ≤ 1048576) : AC Tryz.prog 19 [.sl t 3 rs] (fun l : List Vis => .sl true 3 (l.map Vis.cs)) l := by
  refine ac Tryz.func19 (by kernel_rfl) (.rows .vis) fun E K hE hK => ?_
  conv => cbv
  refine lenL hE hl fun n hn hb => ?_
  conv => cbv
  refine makeL hE (l := l) Vis.cs hn rfl (by omega) fun es hes => ?_
  conv => cbv
  refine loopK hE (ι := Int × List (List AV)) [0, 3, 4] (fun p => ⟨reF _ [(0, .sl t 3 rs), (3, .ob 0), (4, .int .i64 p.1)], [.row 3 p.2]⟩) (fun p => (l.length - p.1).toNat) (fun p => 0 ≤ p.1 ∧ p.2 = fillRow Vis.cs [.int .i64 0, .int .i64 0, .int .i64 0] l p.1) [0] (by decide) (0, es) rfl ⟨by simp, hes⟩ fun p hi Kn hN => ?_
  obtain ⟨i, es'⟩ := p
  obtain ⟨h0, hinv⟩ := hi
  simp only at h0 hinv
  conv => cbv
  repeat' first
    | (refine updFill (R := Vis.cs) hE (by assumption) (by omega) (by assumption) (by exact Nat.le_refl _) (by rfl) (fun _ _ => ?_); (try conv => cbv))
    | ( refine hN (_, _) _ [0] (by decide) rfl ⟨?_, ?_⟩ ?_)
    | ((first
   | refine q0 hE ?_
   | (refine idxL (R := Vis.cs) hE (by assumption) (by first | omega | (simp only [List.length_set, mix_len]; omega)) ?_; rintro ⟨⟩ _)
   | (refine callI hE (toVisit_ _ _ _) (fun _ hy => ?_); subst hy)
   | refine B0 hE ?_|refine B1 hE (fun _=>?_) fun _=>?_|refine B3 hE fun _ _ _=>?_|refine B2 hE fun _ _=>?_|refine B4 hE fun _ _ _ _=>?_) <;> (try conv => cbv))
  · omega
  · grind
  · omega
  · refine hK _ ?_
    rw [hinv, fillRow_all (by omega)]; rfl
theorem eqVisit_ (a e l a' e' l' : Int) : AC Tryz.prog 88 [.agg [.int .i64 a, .int .i64 e, .int .i64 l], .agg [.int .i64 a', .int .i64 e', .int .i64 l']] AV.bool (bP (a = a' ∧ e = e' ∧ l = l')) := by
  refine ac Tryz.func88 (by kernel_rfl) (.bool _) fun E K hE hK => ?_
  conv => cbv
  repeat' first
    | ((first
   | refine q0 hE ?_
   | refine B0 hE ?_|refine B1 hE (fun _=>?_) fun _=>?_|refine B3 hE fun _ _ _=>?_|refine B2 hE fun _ _=>?_|refine B4 hE fun _ _ _ _=>?_) <;> (try conv => cbv))
  all_goals (try clear hN)
  all_goals first
    | (omega)
    | (refine finB hK (bP_true.2 ?_); first | omega | grind)
    | (refine finB hK (bP_false.2 ?_); first | omega | (intro h; grind))
    | (refine ⟨by omega, Up.succ (by assumption) ?_ (by assumption)⟩; grind)
    | (refine hK _ ?_; simp_all [atup]; done)
    | (grind)
theorem eqVisitS_ {rs rs' : List (List AV)} {t t' : Bool} {l m : List Vis} (hl : rs = l.map Vis.cs) (hm : rs' = m.map Vis.cs) : AC Tryz.prog 29 [.sl t 3 rs, .sl t' 3 rs'] AV.bool (bP (l = m)) := by
  refine ac Tryz.func29 (by kernel_rfl) (.bool _) fun E K hE hK => ?_
  conv => cbv
  refine lenL hE hl fun n hn hb => ?_
  conv => cbv
  refine lenL hE hm fun n' hn' hb' => ?_
  conv => cbv
  refine eqI hE (fun he => ?_) (fun he => ?_) <;> conv => cbv
  · refine loopK hE (ι := Int) [0, 1, 5] (fun i => ⟨reF _ [(0, .sl t 3 rs), (1, .sl t' 3 rs'), (5, .int .i64 i)], []⟩) (fun i => (l.length - i).toNat) (fun i => 0 ≤ i ∧ Up (fun j => l[j]? = m[j]?) i) [] (by decide) 0 rfl ⟨by omega, .zero (by omega)⟩ fun i hi Kn hN => ?_
    obtain ⟨h0, hinv⟩ := hi
    conv => cbv
    repeat' first
      | ( refine hN _ _ [] (by decide) rfl ⟨by omega, ?_⟩ ?_)
      | ((first
     | refine q0 hE ?_
     | refine callP hE (eqVisit_ _ _ _ _ _ _) (fun _ => ?_) (fun _ => ?_)
     | (refine idxL (R := Vis.cs) hE (by assumption) (by first | omega | (simp only [List.length_set, mix_len]; omega)) ?_; rintro ⟨⟩ _)
     | refine B0 hE ?_|refine B1 hE (fun _=>?_) fun _=>?_|refine B3 hE fun _ _ _=>?_|refine B2 hE fun _ _=>?_|refine B4 hE fun _ _ _ _=>?_) <;> (try conv => cbv))
    · refine hinv.succ ?_ (by assumption); grind
    · omega
    · refine finB hK (bP_false.2 fun h => ?_); grind
    · exact finB hK (bP_true.2 (list_eq_of (by omega) hinv (by omega)))
  · refine finB hK (bP_false.2 fun h => ?_); subst h; omega
end Go.Proofs.YtffkcjcaeppboacGreatDoor
/- Contracts: names and texts of findings. -/
namespace Go.Proofs.YtffkcjcaeppboacGreatDoor
open Go Go.RowKit Classical
set_option maxRecDepth 100000
set_option maxHeartbeats 2000000
set_option linter.unusedVariables false
set_option linter.unusedSimpArgs false
def strR (s : ByteArray) : List AV := [.str s]
theorem NoB.strs (es : List ByteArray) : NoB (.sl true 1 (es.map strR)) := .rows fun v => .aggC (.str _) .agg0
def pickS (i : Int) (es : List ByteArray) : ByteArray := if 0 ≤ i ∧ i < es.length then es.getD i.toNat ⟨#[]⟩ else ⟨#[]⟩
theorem pick_ {rs : List (List AV)} {t : Bool} {es : List ByteArray} (i : Int) (hl : rs = es.map strR) : AC Tryz.prog 267 [.int .i64 i, .sl t 1 rs] AV.str (pickS i es) := by
  refine ac Tryz.func267 (by kernel_rfl) (.str _) fun E K hE hK => ?_
  conv => cbv
  repeat' first
    | ((first
   | refine q0 hE ?_
   | refine callP hE (at_ _ _) (fun _ => ?_) (fun _ => ?_)
   | (refine idxL (R := strR) hE (by assumption) (by first | omega | (simp only [List.length_set, mix_len]; omega)) ?_; rintro ⟨⟩ _)
   | refine B0 hE ?_|refine B1 hE (fun _=>?_) fun _=>?_|refine B3 hE fun _ _ _=>?_|refine B2 hE fun _ _=>?_|refine B4 hE fun _ _ _ _=>?_) <;> (try conv => cbv))
  · rename_i s hs
    refine hK _ ?_
    unfold pickS
    rw [if_pos (by omega), List.getD_eq_getElem?_getD, hs]; rfl
  · refine hK _ ?_
    unfold pickS
    rw [if_neg (by omega)]; rfl
structure Fnd where
  kind : Int
  who : ByteArray
  what : ByteArray
def Fnd.cs (f : Fnd) : List AV := [.int .i64 f.kind, .str f.who, .str f.what]
end Go.Proofs.YtffkcjcaeppboacGreatDoor
/- Contracts: the laws' marks. -/
namespace Go.Proofs.YtffkcjcaeppboacGreatDoor
open Go Go.RowKit Classical
set_option maxRecDepth 100000
set_option maxHeartbeats 2000000
set_option linter.unusedVariables false
set_option linter.unusedSimpArgs false
def intR (n : Int) : List AV := [.int .i64 n]
theorem NoB.ints (l : List Int) : NoB (.sl true 1 (l.map intR)) := .rows fun v => .aggC (.int _ _) .agg0
theorem eqInt64S_ {rs rs' : List (List AV)} {t t' : Bool} {l m : List Int} (hl : rs = l.map intR) (hm : rs' = m.map intR) : AC Tryz.prog 81 [.sl t 1 rs, .sl t' 1 rs'] AV.bool (bP (l = m)) := by
  refine ac Tryz.func81 (by kernel_rfl) (.bool _) fun E K hE hK => ?_
  conv => cbv
  refine lenL hE hl fun n hn hb => ?_
  conv => cbv
  refine lenL hE hm fun n' hn' hb' => ?_
  conv => cbv
  refine eqI hE (fun he => ?_) (fun he => ?_) <;> conv => cbv
  · refine loopK hE (ι := Int) [0, 1, 5] (fun i => ⟨reF _ [(0, .sl t 1 rs), (1, .sl t' 1 rs'), (5, .int .i64 i)], []⟩) (fun i => (l.length - i).toNat) (fun i => 0 ≤ i ∧ Up (fun j => l[j]? = m[j]?) i) [] (by decide) 0 rfl ⟨by omega, .zero (by omega)⟩ fun i hi Kn hN => ?_
    obtain ⟨h0, hinv⟩ := hi
    conv => cbv
    repeat' first
      | ( refine hN _ _ [] (by decide) rfl ⟨by omega, ?_⟩ ?_)
      | ((first
     | refine q0 hE ?_
     | refine B0 hE ?_|refine B1 hE (fun _=>?_) fun _=>?_|refine B3 hE fun _ _ _=>?_|refine B2 hE fun _ _=>?_|refine B4 hE fun _ _ _ _=>?_) <;> (try conv => cbv))
    · refine hinv.succ ?_ (by assumption); grind
    · omega
    · refine finB hK (bP_false.2 fun h => ?_); grind
    · exact finB hK (bP_true.2 (list_eq_of (by omega) hinv (by omega)))
  · refine finB hK (bP_false.2 fun h => ?_); subst h; omega
end Go.Proofs.YtffkcjcaeppboacGreatDoor
/- Contracts: what is due next. -/
namespace Go.Proofs.YtffkcjcaeppboacGreatDoor
open Go Go.RowKit
set_option maxRecDepth 100000
set_option maxHeartbeats 2000000
set_option linter.unusedVariables false
set_option linter.unusedSimpArgs false
def cmpI (a b : Int) : Int := if a < b then -1 else if b < a then 1 else 0
theorem isNaN_ (x : Int) : AC Tryz.prog 189 [.int .i64 x] AV.bool false := by
  refine ac Tryz.func189 (by kernel_rfl) (.bool _) fun E K hE hK => ?_
  conv => cbv
  repeat' first
    | ((first
   | refine q0 hE ?_
   | refine B0 hE ?_|refine B1 hE (fun _=>?_) fun _=>?_|refine B3 hE fun _ _ _=>?_|refine B2 hE fun _ _=>?_|refine B4 hE fun _ _ _ _=>?_) <;> (try conv => cbv))
  all_goals exact hK _ rfl
theorem compare_ (a b : Int) : AC Tryz.prog 136 [.int .i64 a, .int .i64 b] (AV.int .i64) (cmpI a b) := by
  refine ac Tryz.func136 (by kernel_rfl) (.int _ _) fun E K hE hK => ?_
  conv => cbv
  repeat' first
    | ((first
   | refine q0 hE ?_
   | refine callB hE (isNaN_ _) (fun _ => ?_) (fun _ => ?_)
   | refine B0 hE ?_|refine B1 hE (fun _=>?_) fun _=>?_|refine B3 hE fun _ _ _=>?_|refine B2 hE fun _ _=>?_|refine B4 hE fun _ _ _ _=>?_) <;> (try conv => cbv))
  all_goals first
    | (simp_all; done)
    | (refine hK _ ?_; unfold cmpI; simp only [atup]; congr 1; split <;> (try split) <;> omega)
def orI : List Int → Int
  | [] => 0
  | a :: l => if a ≠ 0 then a else orI l
theorem orI_drop {l : List Int} {i : Int} {v : Int} (h0 : 0 ≤ i) (h : l[i.toNat]? = some v) : orI (l.drop i.toNat) = if v ≠ 0 then v else orI (l.drop (i + 1).toNat) := by
  have hi := (List.getElem?_eq_some_iff.1 h).1
  rw [List.drop_eq_getElem_cons hi, orI, (List.getElem?_eq_some_iff.1 h).2, show (i + 1).toNat = i.toNat + 1 by omega]
theorem cmpOr_ {rs : List (List AV)} {t : Bool} {l : List Int} (hl : rs = l.map intR) : AC Tryz.prog 135 [.sl t 1 rs] (AV.int .i64) (orI l) := by
  refine ac Tryz.func135 (by kernel_rfl) (.int _ _) fun E K hE hK => ?_
  conv => cbv
  refine lenL hE hl fun n hn hb => ?_
  conv => cbv
  refine loopK hE (ι := Int) [0, 3, 6, 7, 8] (fun i => ⟨reF _ [(0, .sl t 1 rs), (3, .int .i64 0), (6, .sl t 1 rs), (7, .int .i64 n), (8, .int .i64 i)], []⟩) (fun i => (l.length - i).toNat) (fun i => (0 ≤ i ∧ i ≤ l.length) ∧ orI l = orI (l.drop i.toNat)) [] (by decide) 0 rfl ⟨by simp, rfl⟩ fun i hi Kn hN => ?_
  obtain ⟨⟨h0, h1⟩, hinv⟩ := hi
  conv => cbv
  repeat' first
    | ( refine hN _ _ [] (by decide) rfl ⟨?_, ?_⟩ ?_)
    | ((first
   | refine q0 hE ?_
   | refine B0 hE ?_|refine B1 hE (fun _=>?_) fun _=>?_|refine B3 hE fun _ _ _=>?_|refine B2 hE fun _ _=>?_|refine B4 hE fun _ _ _ _=>?_) <;> (try conv => cbv))
  · omega
  · rename_i hx hz b hb'
    rw [hinv, orI_drop h0 hx, if_neg (by omega), hb']
  · omega
  · rename_i hx hz
    refine hK _ ?_
    rw [hinv, orI_drop h0 hx, if_pos hz]; rfl
  · refine hK _ ?_
    rw [hinv, List.drop_eq_nil_of_le (by omega)]; rfl
def Vis.due (v : Vis) : Int := IntKind.i64.wrap (v.last + v.every)
def Vis.cmp (v w : Vis) : Int := if cmpI v.due w.due ≠ 0 then cmpI v.due w.due else cmpI v.aid w.aid
end Go.Proofs.YtffkcjcaeppboacGreatDoor
/- Contracts: lists of lists of integers; the greatest delay. -/
namespace Go.Proofs.YtffkcjcaeppboacGreatDoor
open Go Go.RowKit Classical
set_option maxRecDepth 100000
set_option maxHeartbeats 2000000
set_option linter.unusedVariables false
set_option linter.unusedSimpArgs false
def llR (b : Bool) (x : List Int) : List AV := [.sl b 1 (x.map intR)]
theorem szInt64S_ {rs : List (List AV)} {t : Bool} {l : List Int} (n : Int) (hl : rs = l.map intR) (hn : 0 ≤ n ∧ n ≤ 1048576) : AC Tryz.prog 35 [.sl t 1 rs, .int .i64 n] (AV.int .i64) (szN n l.length) := by
  refine ac Tryz.func35 (by kernel_rfl) (.int _ _) fun E K hE hK => ?_
  conv => cbv
  repeat' first
    | ((first
   | refine q0 hE ?_
   | refine B0 hE ?_|refine B1 hE (fun _=>?_) fun _=>?_|refine B3 hE fun _ _ _=>?_|refine B2 hE fun _ _=>?_|refine B4 hE fun _ _ _ _=>?_) <;> (try conv => cbv))
  all_goals (try clear hN)
  all_goals (refine hK _ ?_; first | (simp only [atup]; grind [szN]) | (simp_all [atup, szN]; done))
theorem toInt64S_ {rs : List (List AV)} {t : Bool} {l : List Int} (hl : rs = l.map intR) (hb0 : l.length ≤ 1048576) : AC Tryz.prog 50 [.sl t 1 rs] (fun l : List Int => .sl true 1 (l.map intR)) l := by
  refine ac Tryz.func50 (by kernel_rfl) (.ints _) fun E K hE hK => ?_
  conv => cbv
  refine lenL hE hl fun n hn hb => ?_
  conv => cbv
  refine makeL hE (l := l) intR hn rfl (by omega) fun es hes => ?_
  conv => cbv
  refine loopK hE (ι := Int × List (List AV)) [0, 3, 4] (fun p => ⟨reF _ [(0, .sl t 1 rs), (3, .ob 0), (4, .int .i64 p.1)], [.row 1 p.2]⟩) (fun p => (l.length - p.1).toNat) (fun p => 0 ≤ p.1 ∧ p.2 = fillRow intR [.int .i64 0] l p.1) [0] (by decide) (0, es) rfl ⟨by simp, hes⟩ fun p hi Kn hN => ?_
  obtain ⟨i, es'⟩ := p
  obtain ⟨h0, hinv⟩ := hi
  simp only at h0 hinv
  conv => cbv
  repeat' first
    | (refine updFill (R := intR) hE (by assumption) (by omega) (by assumption) (by exact Nat.le_refl _) (by rfl) (fun _ _ => ?_); (try conv => cbv))
    | ( refine hN (_, _) _ [0] (by decide) rfl ⟨?_, ?_⟩ ?_)
    | ((first
   | refine q0 hE ?_
   | refine B0 hE ?_|refine B1 hE (fun _=>?_) fun _=>?_|refine B3 hE fun _ _ _=>?_|refine B2 hE fun _ _=>?_|refine B4 hE fun _ _ _ _=>?_) <;> (try conv => cbv))
  · omega
  · grind
  · omega
  · refine hK _ ?_
    rw [hinv, fillRow_all (by omega)]; rfl
end Go.Proofs.YtffkcjcaeppboacGreatDoor
/- Contracts: the greatest delay. -/
namespace Go.Proofs.YtffkcjcaeppboacGreatDoor
open Go Go.RowKit Classical
set_option maxRecDepth 100000
set_option maxHeartbeats 2000000
set_option linter.unusedVariables false
set_option linter.unusedSimpArgs false
theorem firstI_ge {α : Type} {p : α → Prop} {l : List α} : 0 ≤ firstI p l ↔ ∃ v ∈ l, p v := by
  rcases firstI_spec p l with ⟨h1, h2, ⟨v, h3, h4⟩, h5⟩ | ⟨h1, h2⟩
  · exact ⟨fun _ => ⟨v, List.mem_of_getElem? h3, h4⟩, fun _ => h1⟩
  · refine ⟨fun h => by omega, fun ⟨v, hv, hp⟩ => ?_⟩
    obtain ⟨j, hj⟩ := List.getElem?_of_mem hv
    exact (h2 j v hj hp).elim
def two (q : Int × Int) : AV := .tup [.int .i64 q.1, .int .i64 q.2]
theorem NoB.two (q : Int × Int) : NoB (two q) := .tupC (.int _ _) (.tupC (.int _ _) .tup0)
end Go.Proofs.YtffkcjcaeppboacGreatDoor
/- What the flat types' contracts lean on; points. -/
namespace Go.Proofs.YtffkcjcaeppboacGreatDoor
open Go Go.RowKit Classical
set_option maxRecDepth 100000
set_option maxHeartbeats 2000000
set_option linter.unusedVariables false
set_option linter.unusedSimpArgs false
theorem szN_or (n : Int) (k : Nat) : szN n k = -1 ∧ n < k ∨ szN n k = n - k ∧ k ≤ n := by unfold szN; split <;> omega
theorem szN_lt {n : Int} {k : Nat} (h : n < k) : szN n k = -1 := by unfold szN; rw [if_pos (by omega)]
theorem szN_ge {n : Int} {k : Nat} (h : k ≤ n) : szN n k = n - k := by unfold szN; rw [if_neg (by omega)]
def sumTo {α : Type} (f : α → Nat) (l : List α) (i : Int) : Nat := ((l.take i.toNat).map f).sum
theorem sumTo_zero {α : Type} {f : α → Nat} {l : List α} {i : Int} (h : i ≤ 0) : sumTo f l i = 0 := by
  unfold sumTo; rw [show i.toNat = 0 by omega]; simp
theorem sumTo_succ {α : Type} (f : α → Nat) {l : List α} {i : Int} {v : α} (h0 : 0 ≤ i) (hv : l[i.toNat]? = some v) : sumTo f l (i + 1) = sumTo f l i + f v := by
  unfold sumTo
  rw [show (i + 1).toNat = i.toNat + 1 by omega, List.take_add_one, hv]
  simp
theorem sumTo_all {α : Type} (f : α → Nat) (l : List α) {i : Int} (h : l.length ≤ i) : sumTo f l i = (l.map f).sum := by
  unfold sumTo; rw [List.take_of_length_le (by omega)]
theorem sumTo_le {α : Type} (f : α → Nat) (l : List α) (i : Int) : sumTo f l i ≤ (l.map f).sum := by
  unfold sumTo
  have := congrArg (fun m => (m.map f).sum) (List.take_append_drop i.toNat l)
  simp only [List.map_append, List.sum_append] at this
  omega
theorem sum_ge {α : Type} (f : α → Nat) : ∀ {l : List α} {v : α}, v ∈ l → f v ≤ (l.map f).sum
  | x :: l, v, h => by
    rcases List.mem_cons.1 h with rfl | h
    · simp
    · have := sum_ge f h; simp; omega
section
variable {E : Env} {np : Nat} {P : Program}
theorem seqT (hE : E = stdE np P) {a b : ByteArray} {K : Bool → Prop} (h : a = b) (hk : K true) : E.seq a b K := seqI hE (fun _ => hk) (fun h' => absurd h h')
theorem callLI (hE : E = stdE np P) {α : Type} {f : FuncId} {args : List AV} {R : α → List AV} {k : Nat} {x : List α × Int} {K : AV → Prop} (h : AC P f args (fun p : List α × Int => .tup [.sl true k (p.1.map R), .int .i64 p.2]) x) (hk : ∀ rs n, rs = x.1.map R → n = x.2 → K (.tup [.sl true k rs, .int .i64 n])) : E.call f args K :=
  callI hE h fun y hy => hk _ _ (by rw [hy]) (by rw [hy])
theorem callII (hE : E = stdE np P) {f : FuncId} {args : List AV} {x : Int × Int} {K : AV → Prop} (h : AC P f args two x) (hk : ∀ m n, m = x.1 → n = x.2 → K (.tup [.int .i64 m, .int .i64 n])) : E.call f args K :=
  callI hE h fun y hy => hk _ _ (by rw [hy]) (by rw [hy])
end
theorem ACM.mono {P : Program} {f : FuncId} {args : List AV} {Q Q' : AV → List AV → Prop} (h : ACM P f args Q) (hq : ∀ r ys, Q r ys → Q' r ys) : ACM P f args Q' :=
  ⟨h.1, fun w A vs F h0 h1 h2 h3 h4 => (h.2 w A vs F h0 h1 h2 h3 h4).mono fun e w' ⟨v, G, r, ys, g0, g⟩ => ⟨v, G, r, ys, hq r ys g0, g⟩⟩
structure Pnt where
  x : Int
  y : Int
def Pnt.cs (v : Pnt) : List AV := [.int .i64 v.x, .int .i64 v.y]
theorem NoB.oPnt (v : Pnt) : NoB (.agg v.cs) := (.aggC (.int _ _) (.aggC (.int _ _) .agg0))
theorem szPointS_ {rs : List (List AV)} {t : Bool} {l : List Pnt} (n : Int) (hl : rs = l.map Pnt.cs) (hn : 0 ≤ n ∧ n ≤ 1048576) : AC Tryz.prog 198 [.sl t 2 rs, .int .i64 n] (AV.int .i64) (szN n l.length) := by
  refine ac Tryz.func198 (by kernel_rfl) (.int _ _) fun E K hE hK => ?_
  conv => cbv
  repeat' first
    | ((first
   | refine q0 hE ?_
   | refine B0 hE ?_|refine B1 hE (fun _=>?_) fun _=>?_|refine B3 hE fun _ _ _=>?_|refine B2 hE fun _ _=>?_|refine B4 hE fun _ _ _ _=>?_) <;> (try conv => cbv))
  all_goals (try clear hN)
  all_goals (refine hK _ ?_; first | (simp only [atup]; grind [szN]) | (simp_all [atup, szN]; done))
theorem toPoint_ (x : Int) (y : Int) : AC Tryz.prog 52 [.agg [.int .i64 x, .int .i64 y]] (fun v : Pnt => .agg v.cs) ⟨x, y⟩ := by
  refine ac Tryz.func52 (by kernel_rfl) (.oPnt _) fun E K hE hK => ?_
  conv => cbv
  exact hK _ rfl
theorem toPointS_ {rs : List (List AV)} {t : Bool} {l : List Pnt} (hl : rs = l.map Pnt.cs) (hb0 : l.length ≤ 1048576) : AC Tryz.prog 211 [.sl t 2 rs] (fun l : List Pnt => .sl true 2 (l.map Pnt.cs)) l := by
  refine ac Tryz.func211 (by kernel_rfl) (.rows .oPnt) fun E K hE hK => ?_
  conv => cbv
  refine lenL hE hl fun n hn hb => ?_
  conv => cbv
  refine makeL hE (l := l) Pnt.cs hn rfl (by omega) fun es hes => ?_
  conv => cbv
  refine loopC hE (ι := Int × (List (List AV))) [0] [4, 3] (fun q => (fun (i : Int) (es' : List (List AV)) => [(4, .int .i64 i), (3, .ob 0)]) q.1 q.2) (fun q => (fun (i : Int) (es' : List (List AV)) => [.row 2 es']) q.1 q.2) (fun q => (fun (i : Int) (es' : List (List AV)) => (l.length - i).toNat) q.1 q.2) (fun q => (fun (i : Int) (es' : List (List AV)) => 0 ≤ i ∧ es' = fillRow Pnt.cs [.int .i64 0, .int .i64 0] l i) q.1 q.2) [0] (by decide) ((0, es)) (by conv => lhs; cbv) (by conv => lhs; cbv) rfl rfl (by dsimp only; exact ⟨by omega, hes⟩) fun q hi Kn hN => ?_
  obtain ⟨i, es'⟩ := q
  (try dsimp only at hi)
  conv => cbv
  obtain ⟨h0, hinv⟩ := hi
  repeat' first
    | (refine hN (_, _) _ [0] (by decide) rfl ⟨?_, ?_⟩ ?_ <;> (try dsimp only))
    | ((first
   | refine q0 hE ?_
   | (refine idxL (R := Pnt.cs) hE (by assumption) (by first | omega | (simp only [List.length_set, mix_len]; omega)) ?_; rintro ⟨⟩ _)
   | (refine callI hE (toPoint_ _ _) (fun _ hy => ?_); subst hy)
   | refine updFill (R := Pnt.cs) hE (by assumption) (by omega) (by assumption) (by exact Nat.le_refl _) (by rfl) (fun _ _ => ?_)
   | refine B0 hE ?_|refine B1 hE (fun _=>?_) fun _=>?_|refine B3 hE fun _ _ _=>?_|refine B2 hE fun _ _=>?_|refine B4 hE fun _ _ _ _=>?_) <;> (try conv => cbv))
  · omega
  · subst_vars; rfl
  · omega
  · refine hK _ ?_
    rw [hinv, fillRow_all (by omega)]; rfl
theorem eqPoint_ (x : Int) (y : Int) (x' : Int) (y' : Int) : AC Tryz.prog 83 [.agg [.int .i64 x, .int .i64 y], .agg [.int .i64 x', .int .i64 y']] AV.bool (bP ((Pnt.mk x y) = (Pnt.mk x' y'))) := by
  refine ac Tryz.func83 (by kernel_rfl) (.bool _) fun E K hE hK => ?_
  conv => cbv
  repeat' first
    | ((first
   | refine q0 hE ?_
   | refine B0 hE ?_|refine B1 hE (fun _=>?_) fun _=>?_|refine B3 hE fun _ _ _=>?_|refine B2 hE fun _ _=>?_|refine B4 hE fun _ _ _ _=>?_) <;> (try conv => cbv))
  all_goals first | (refine finB hK (bP_true.2 ?_); simp only [Pnt.mk.injEq, Pnt.mk.injEq] at *; simp_all; done) | (refine finB hK (bP_false.2 ?_); simp only [Pnt.mk.injEq, Pnt.mk.injEq] at *; simp_all; done)
theorem eqPointS_ {rs rs' : List (List AV)} {t t' : Bool} {l m : List Pnt} (hl : rs = l.map Pnt.cs) (hm : rs' = m.map Pnt.cs) : AC Tryz.prog 227 [.sl t 2 rs, .sl t' 2 rs'] AV.bool (bP (l = m)) := by
  refine ac Tryz.func227 (by kernel_rfl) (.bool _) fun E K hE hK => ?_
  conv => cbv
  refine lenL hE hl fun n hn hb => ?_
  conv => cbv
  refine lenL hE hm fun n' hn' hb' => ?_
  conv => cbv
  refine eqI hE (fun he => ?_) (fun he => ?_) <;> conv => cbv
  · refine loopC hE (ι := Int) [0, 1] [5] (fun q => (fun (i : Int) => [(5, .int .i64 i)]) q) (fun q => (fun (i : Int) => []) q) (fun q => (fun (i : Int) => (l.length - i).toNat) q) (fun q => (fun (i : Int) => 0 ≤ i ∧ Up (fun j => l[j]? = m[j]?) i) q) [] (by decide) (0) (by conv => lhs; cbv) (by conv => lhs; cbv) rfl rfl (by dsimp only; exact ⟨by omega, .zero (by omega)⟩) fun i hi Kn hN => ?_
    (try dsimp only at hi)
    conv => cbv
    obtain ⟨h0, hinv⟩ := hi
    repeat' first
      | (refine hN _ _ [] (by decide) rfl ⟨?_, ?_⟩ ?_ <;> (try dsimp only))
      | ((first
     | refine q0 hE ?_
     | refine callP hE (eqPoint_ _ _ _ _) (fun _ => ?_) (fun _ => ?_)
     | (refine idxL (R := Pnt.cs) hE (by assumption) (by first | omega | (simp only [List.length_set, mix_len]; omega)) ?_; rintro ⟨⟩ _)
     | refine B0 hE ?_|refine B1 hE (fun _=>?_) fun _=>?_|refine B3 hE fun _ _ _=>?_|refine B2 hE fun _ _=>?_|refine B4 hE fun _ _ _ _=>?_) <;> (try conv => cbv))
    · omega
    · refine hinv.succ ?_ (by assumption); clear hN; simp_all
    · omega
    · refine finB hK (bP_false.2 fun h => ?_); clear hN; simp_all
    · exact finB hK (bP_true.2 (list_eq_of (by omega) hinv (by omega)))
  · refine finB hK (bP_false.2 fun h => ?_); subst h; omega
end Go.Proofs.YtffkcjcaeppboacGreatDoor
/- Rules: a row of an own list that is changed cell by cell. -/
namespace Go.Proofs.YtffkcjcaeppboacGreatDoor
open Go Go.RowKit Classical
set_option maxRecDepth 100000
set_option maxHeartbeats 2000000
set_option linter.unusedVariables false
set_option linter.unusedSimpArgs false
section
variable {E : Env} {np : Nat} {P : Program}
end
end Go.Proofs.YtffkcjcaeppboacGreatDoor
/- A pointer to more cells than a contract speaks of. -/
namespace Go.Proofs.YtffkcjcaeppboacGreatDoor
open Go Go.RowKit Classical
set_option maxRecDepth 100000
set_option maxHeartbeats 2000000
set_option linter.unusedVariables false
set_option linter.unusedSimpArgs false
theorem Rel.ppTail {w : World} {A : Nat → Prop} {cs tl : List AV} {v : Value} (h : Rel w A (.pp (cs ++ tl)) v) : Rel w A (.pp cs) v := by
  cases h with
  | pp _ b off val hb hc hr => exact .pp cs b off val hb (fun j hj => hc j (by rw [List.length_append]; omega)) (fun j a ha => hr j a (by rw [List.getElem?_append_left (List.getElem?_eq_some_iff.1 ha).1]; exact ha))
theorem AC.tl {P : Program} {α : Type} {f : FuncId} {us us' : List AV} {R : α → AV} {x : α} (h : AC P f us R x) (hl : us'.length = us.length) (hp : ∀ i : Nat, us'[i]? = us[i]? ∨ ∃ cs tl : List AV, us[i]? = some (AV.pp cs) ∧ us'[i]? = some (AV.pp (cs ++ tl))) : AC P f us' R x :=
  ⟨h.1, fun w vs hg hr => h.2 w vs hg ⟨hr.1.trans hl, fun i a ha => by
    rcases hp i with h1 | ⟨cs, tl, h1, h2⟩
    · exact hr.2 i a (h1.trans ha)
    · rw [ha] at h1; cases h1
      exact (hr.2 i _ h2).ppTail⟩⟩
theorem AC.tl11 {P : Program} {α : Type} {f : FuncId} {cs ds tl tm : List AV} {R : α → AV} {x : α} (h : AC P f [.pp cs, .pp ds] R x) : AC P f [.pp (cs ++ tl), .pp (ds ++ tm)] R x :=
  AC.tl h rfl fun i => match i with
    | 0 => .inr ⟨_, _, rfl, rfl⟩
    | 1 => .inr ⟨_, _, rfl, rfl⟩
    | _ + 2 => .inl rfl
theorem AC.tl1 {P : Program} {α : Type} {f : FuncId} {cs tl : List AV} {R : α → AV} {x : α} (h : AC P f [.pp cs] R x) : AC P f [.pp (cs ++ tl)] R x :=
  AC.tl h rfl fun i => match i with
    | 0 => .inr ⟨_, _, rfl, rfl⟩
    | _ + 1 => .inl rfl
theorem AC.tl1v {P : Program} {α : Type} {f : FuncId} {cs tl : List AV} {a : AV} {R : α → AV} {x : α} (h : AC P f [.pp cs, a] R x) : AC P f [.pp (cs ++ tl), a] R x :=
  AC.tl h rfl fun i => match i with
    | 0 => .inr ⟨_, _, rfl, rfl⟩
    | _ + 1 => .inl rfl
end Go.Proofs.YtffkcjcaeppboacGreatDoor
