/- Contracts: what is due next. -/
import Derived.Test.YtlemeenicaidfaaGreatDoorFd
namespace Go.Proofs.YtlemeenicaidfaaGreatDoor
open Go Go.RowKit
set_option maxRecDepth 100000
set_option maxHeartbeats 2000000
set_option linter.unusedVariables false
set_option linter.unusedSimpArgs false
def cmpI (a b : Int) : Int := if a < b then -1 else if b < a then 1 else 0
theorem isNaN_ [St] (x : Int) : AP 362 [.int .i64 x] AV.bool false := by
  refine a0 Tryz.func362 fun E K hE hK => ?_
  repeat' first
    | ((first

   | refine B0 ?_|refine B1 ?_ ?_) <;> intros <;> (try conv => cbv))
  all_goals exact hK _ rfl
theorem compare_ [St] (a b : Int) : AP 274 [.int .i64 a, .int .i64 b] (AV.int .i64) (cmpI a b) := by
  refine a0 Tryz.func274 fun E K hE hK => ?_
  repeat' first
    | ((first
   | refine callB (isNaN_ _) (fun _ => ?_) (fun _ => ?_)
   | refine B0 ?_|refine B1 ?_ ?_) <;> intros <;> (try conv => cbv))
  all_goals first
    | (simp_all; done)
    | (refine hK _ ?_; unfold cmpI; simp only [atup]; congr 1; split <;> (try split) <;> omega)
def orI : List Int → Int
  | [] => 0
  | a :: l => if a ≠ 0 then a else orI l
theorem orI_drop {l : List Int} {i : Int} {v : Int} (h0 : 0 ≤ i) (h : l[i.toNat]? = some v) : orI (l.drop i.toNat) = if v ≠ 0 then v else orI (l.drop (i + 1).toNat) := by
  have hi := (List.getElem?_eq_some_iff.1 h).1
  rw [List.drop_eq_getElem_cons hi, orI, (List.getElem?_eq_some_iff.1 h).2, show (i + 1).toNat = i.toNat + 1 by omega]
theorem cmpOr_ [St] {rs : List (List AV)} {t : Bool} {l : List Int} (hl : rs = l.map intR) : AP 273 [.sl t 1 rs] (AV.int .i64) (orI l) := by
  refine a0 Tryz.func273 fun E K hE hK => ?_
  refine lenL hl fun n hn hb => ?_
  conv => cbv
  refine loopK (ι := Int) [0, 3, 6, 7, 8] (fun i => ⟨reF _ [(0, .sl t 1 rs), (3, .int .i64 0), (6, .sl t 1 rs), (7, .int .i64 n), (8, .int .i64 i)], []⟩) (fun i => (l.length - i).toNat) (fun i => (0 ≤ i ∧ i ≤ l.length) ∧ orI l = orI (l.drop i.toNat)) [] (by decide) 0 rfl ⟨by simp, rfl⟩ fun i hi Kn hN => ?_
  obtain ⟨⟨h0, h1⟩, hinv⟩ := hi
  conv => cbv
  repeat' first
    | ( refine hN _ _ [] (by decide) rfl ⟨?_, ?_⟩ ?_)
    | ((first

   | refine B0 ?_|refine B1 ?_ ?_) <;> intros <;> (try conv => cbv))
  · omega
  · rename_i hx hz b hb'
    rw [hinv, orI_drop h0 hx, if_neg (by omega), hb']
  · omega
  · rename_i hx hz
    refine hK _ ?_
    rw [hinv, orI_drop h0 hx, if_pos hz]; rfl
  · refine hK _ ?_
    rw [hinv, List.drop_eq_nil_of_le (by omega)]; rfl
def Vis.due (v : Vis) : Int := IntKind.i64.wrap (v.last + v.every)
def Vis.cmp (v w : Vis) : Int := if cmpI v.due w.due ≠ 0 then cmpI v.due w.due else cmpI v.aid w.aid
theorem visCompare_ [St] (a e l a' e' l' : Int) : AP 185 [.agg [.int .i64 a, .int .i64 e, .int .i64 l], .agg [.int .i64 a', .int .i64 e', .int .i64 l']] (AV.int .i64) (Vis.cmp ⟨a, e, l⟩ ⟨a', e', l'⟩) := by
  refine a0 Tryz.func185 fun E K hE hK => ?_
  repeat' first
    | ((first
   | refine callI (due_ _ _ _) (fun _ _ => ?_)
   | refine callI (compare_ _ _) (fun _ _ => ?_)
   | refine callI (cmpOr_ (l := [_, _]) (by rfl)) (fun _ _ => ?_)
   | refine B0 ?_|refine B1 ?_ ?_) <;> intros <;> (try conv => cbv))
  refine hK _ ?_
  rename_i d hd d' hd' c hc c' hc' r hr
  rw [hr]
  subst hc hc' hd hd'
  simp only [orI, Vis.cmp, Vis.due, atup]
  congr 1
  grind
/-- The first of the least. -/
def minF {α : Type} (c : α → α → Int) (a : α) (l : List α) : α := l.foldl (fun m x => if c x m < 0 then x else m) a
theorem minF_take {α : Type} {c : α → α → Int} {a0 x : α} {l : List α} {i : Int} (h0 : 1 ≤ i) (h : (a0 :: l)[i.toNat]? = some x) : minF c a0 (l.take ((i + 1).toNat - 1)) = if c x (minF c a0 (l.take (i.toNat - 1))) < 0 then x else minF c a0 (l.take (i.toNat - 1)) := by
  obtain ⟨j, hj⟩ : ∃ j : Nat, i.toNat = j + 1 := ⟨i.toNat - 1, by omega⟩
  rw [show (i + 1).toNat - 1 = j + 1 by omega, hj]
  rw [hj] at h
  simp only [List.getElem?_cons_succ] at h
  rw [List.take_add_one, h]
  show List.foldl _ _ (_ ++ [x]) = _
  rw [List.foldl_append]; rfl
def dueC (x m : Vis) : Int := if x.due < m.due then -1 else 0
def nextM (a0 : Vis) (l : List Vis) : Vis := minF dueC a0 l
open Classical in
noncomputable def nextDue (l : List Vis) : Int × Int × Int := if VisitsOk l then (match l with
  | [] => (0, 0, 6)
  | a0 :: l => ((nextM a0 l).aid, (nextM a0 l).due, 0)) else (0, 0, 1)
theorem nextDue_bad {l : List Vis} (h : ¬ VisitsOk l) : nextDue l = (0, 0, 1) := by unfold nextDue; exact if_neg h
theorem nextDue_nil (h : VisitsOk []) : nextDue [] = (0, 0, 6) := by unfold nextDue; exact if_pos h
theorem nextDue_cons {a0 : Vis} {l : List Vis} (h : VisitsOk (a0 :: l)) : nextDue (a0 :: l) = ((nextM a0 l).aid, (nextM a0 l).due, 0) := by unfold nextDue; exact if_pos h
theorem min_same : ∀ (l : List Vis) (m : Vis), (∀ x ∈ l, m.aid < x.aid) → l.Pairwise (fun x y => x.aid < y.aid) → minF Vis.cmp m l = minF dueC m l
  | [], _, _, _ => rfl
  | x :: l, m, h, hp => by
    have h1 := h x (by simp)
    have hp' := List.pairwise_cons.1 hp
    have e : (Vis.cmp x m < 0) ↔ (dueC x m < 0) := by
      unfold Vis.cmp dueC cmpI
      grind
    show minF Vis.cmp (if Vis.cmp x m < 0 then x else m) l = minF dueC (if dueC x m < 0 then x else m) l
    by_cases hlt : dueC x m < 0
    · rw [if_pos hlt, if_pos (e.2 hlt)]
      exact min_same l x (fun y hy => hp'.1 y hy) hp'.2
    · rw [if_neg hlt, if_neg (fun h => hlt (e.1 h))]
      exact min_same l m (fun y hy => h y (by simp [hy])) hp'.2
theorem ok_chain {l : List Vis} (h : VisitsOk l) : l.Pairwise (fun x y => x.aid < y.aid) := by
  have step : ∀ i a b, l[i]? = some a → l[i + 1]? = some b → a.aid < b.aid := fun i a b h1 h2 => by
    obtain ⟨v, g1, _, g3⟩ := h.1 (i + 1) (List.getElem?_eq_some_iff.1 h2).1
    obtain ⟨w, g4, g5⟩ := g3 (by omega)
    simp only [Nat.add_sub_cancel] at g4
    rw [h1] at g4; rw [h2] at g1
    cases g4; cases g1; exact g5
  have main : ∀ l : List Vis, (∀ i a b, l[i]? = some a → l[i + 1]? = some b → a.aid < b.aid) → l.Pairwise (fun x y => x.aid < y.aid) := by
    intro l
    induction l with
    | nil => intro _; exact .nil
    | cons a l ih =>
      intro h
      have ih' := ih (fun i x y h1 h2 => h (i + 1) x y (by simpa using h1) (by simpa using h2))
      refine List.pairwise_cons.2 ⟨fun x hx => ?_, ih'⟩
      cases l with
      | nil => simp at hx
      | cons b l =>
        have hab := h 0 a b rfl rfl
        rcases List.mem_cons.1 hx with rfl | hx
        · exact hab
        · have := (List.pairwise_cons.1 ih').1 x hx; omega
  exact main l step
end Go.Proofs.YtlemeenicaidfaaGreatDoor
