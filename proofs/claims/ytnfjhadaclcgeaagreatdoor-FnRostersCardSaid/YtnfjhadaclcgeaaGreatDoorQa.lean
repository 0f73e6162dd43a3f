/- Contracts: small functions, visits; Contracts: inspections; Contracts: the laws' helpers over visits; the laws of late visits; Contracts: names and texts of findings; Contracts: the laws' marks; Contracts: what is due next; Contracts: lists of lists of integers; the greatest delay; Contracts: the greatest delay; What the flat types' contracts lean on; points. -/
import Derived.Test.YtnfjhadaclcgeaaGreatDoorAxU
namespace Go.Proofs.YtnfjhadaclcgeaaGreatDoor
open Go Go.RowKit Classical
set_option maxRecDepth 100000
set_option maxHeartbeats 2000000
set_option linter.unusedVariables false
set_option linter.unusedSimpArgs false
theorem within_ (x a b : Int) : AP 26 [.int .i64 x, .int .i64 a, .int .i64 b] AV.bool (bP (a ≤ x ∧ x ≤ b)) := by
  refine a0 Tryz.func26 fun E K hE hK => ?_
  repeat' first
    | ((first
   | refine B0 ?_|refine B1 ?_ ?_) <;> intros <;> (try conv => cbv))
  all_goals exact fz
theorem in_ (x a b : Int) : AP 80 [.int .i64 x, .int .i64 a, .int .i64 b] AV.bool (bP (a ≤ x ∧ x ≤ b)) := by
  refine a0 Tryz.func80 fun E K hE hK => ?_
  repeat' first
    | ((first
   | refine B0 ?_|refine B1 ?_ ?_) <;> intros <;> (try conv => cbv))
  all_goals exact fz
theorem few_ (n m : Int) : AP 61 [.int .i64 n, .int .i64 m] AV.bool (bP (n ≤ m)) := by
  refine a0 Tryz.func61 fun E K hE hK => ?_
  repeat' first
    | ((first
   | refine B0 ?_|refine B1 ?_ ?_) <;> intros <;> (try conv => cbv))
  all_goals exact fz
structure Vis where
  aid : Int
  every : Int
  last : Int
def Vis.cs (v : Vis) : List AV := [.int .i64 v.aid, .int .i64 v.every, .int .i64 v.last]
def Vis.ok (v : Vis) : Prop := (1 ≤ v.aid ∧ v.aid ≤ 9999) ∧ (1 ≤ v.every ∧ v.every ≤ 3650) ∧ 0 ≤ v.last ∧ v.last ≤ 99999
theorem NoB.vis (v : Vis) : NoB (.agg v.cs) := .aggC (.int _ _) (.aggC (.int _ _) (.aggC (.int _ _) .agg0))
theorem NoB.oVis (v : Vis) : NoB (.agg v.cs) := NoB.vis v
def Vis.C (l : List Vis) (j : Nat) : Prop := ∃ v, l[j]? = some v ∧ v.ok ∧ (0 < j → ∃ w, l[j - 1]? = some w ∧ w.aid < v.aid)
def VisitsOk (l : List Vis) : Prop := (∀ j, j < l.length → Vis.C l j) ∧ l.length ≤ 24
theorem list_eq_of {α : Type} {l m : List α} {i : Int} (hl : l.length = m.length) (h : Up (fun j => l[j]? = m[j]?) i) (hi : (l.length : Int) ≤ i) : l = m := by
  apply List.ext_getElem?
  intro j
  by_cases hj : j < l.length
  · exact h j (by omega)
  · rw [List.getElem?_eq_none (by omega), List.getElem?_eq_none (by omega)]
/-- The first element that p holds of. -/
def FirstIs {α : Type} (p : α → Prop) (l : List α) (r : Int) : Prop := (0 ≤ r ∧ r < l.length ∧ (∃ v, l[r.toNat]? = some v ∧ p v) ∧ ∀ (j : Nat) v, (j : Int) < r → l[j]? = some v → ¬ p v) ∨ (r = -1 ∧ ∀ (j : Nat) v, l[j]? = some v → ¬ p v)
theorem FirstIs.uniq {α : Type} {p : α → Prop} {l : List α} {r s : Int} (h : FirstIs p l r) (k : FirstIs p l s) : r = s := by
  rcases h with ⟨h1, h2, ⟨v, h3, h4⟩, h5⟩ | ⟨h1, h2⟩ <;> rcases k with ⟨k1, k2, ⟨u, k3, k4⟩, k5⟩ | ⟨k1, k2⟩
  · rcases Int.lt_trichotomy r s with h6 | h6 | h6
    · exact (k5 _ _ (by omega) h3 h4).elim
    · exact h6
    · exact (h5 _ _ (by omega) k3 k4).elim
  · exact (k2 _ _ h3 h4).elim
  · exact (h2 _ _ k3 k4).elim
  · omega
theorem FirstIs.ex {α : Type} (p : α → Prop) : ∀ l : List α, ∃ r, FirstIs p l r
  | [] => ⟨-1, .inr ⟨rfl, fun j v h => by simp at h⟩⟩
  | a :: l => by
    by_cases h : p a
    · exact ⟨0, .inl ⟨by omega, by simp, ⟨a, by simp, h⟩, fun j v hj => by omega⟩⟩
    · obtain ⟨r, hr⟩ := FirstIs.ex p l
      rcases hr with ⟨h1, h2, ⟨v, h3, h4⟩, h5⟩ | ⟨h1, h2⟩
      · refine ⟨r + 1, .inl ⟨by omega, by simp; omega, ⟨v, ?_, h4⟩, fun j v hj hv => ?_⟩⟩
        · rw [show (r + 1).toNat = r.toNat + 1 by omega]; simpa using h3
        · cases j with
          | zero => simp at hv; subst hv; exact h
          | succ j => exact h5 j v (by omega) (by simpa using hv)
      · refine ⟨-1, .inr ⟨rfl, fun j v hv => ?_⟩⟩
        cases j with
        | zero => simp at hv; subst hv; exact h
        | succ j => exact h2 j v (by simpa using hv)
noncomputable def firstI {α : Type} (p : α → Prop) (l : List α) : Int := (FirstIs.ex p l).choose
theorem firstI_spec {α : Type} (p : α → Prop) (l : List α) : FirstIs p l (firstI p l) := (FirstIs.ex p l).choose_spec
theorem firstI_eq {α : Type} {p : α → Prop} {l : List α} {r : Int} (h : FirstIs p l r) : firstI p l = r := (firstI_spec p l).uniq h
theorem firstI_in {α : Type} {p : α → Prop} {l : List α} {i : Int} {v : α} (h0 : 0 ≤ i) (hv : l[i.toNat]? = some v) (hp : p v) (h : Up (fun j => ∀ v, l[j]? = some v → ¬ p v) i) : firstI p l = i :=
  firstI_eq (.inl ⟨h0, by have := (List.getElem?_eq_some_iff.1 hv).1; omega, ⟨v, hv, hp⟩, fun j v hj => h j hj v⟩)
theorem firstI_out {α : Type} {p : α → Prop} {l : List α} {i : Int} (hi : (l.length : Int) ≤ i) (h : Up (fun j => ∀ v, l[j]? = some v → ¬ p v) i) : firstI p l = -1 :=
  firstI_eq (.inr ⟨rfl, fun j v hv => h j (by have := (List.getElem?_eq_some_iff.1 hv).1; omega) v hv⟩)
theorem firstI_congr {α : Type} {p q : α → Prop} (l : List α) (h : ∀ v, p v ↔ q v) : firstI p l = firstI q l := by
  have : p = q := funext fun v => propext (h v)
  rw [this]
noncomputable def visAt (l : List Vis) (aid : Int) : Int := firstI (fun v : Vis => v.aid = aid) l
end Go.Proofs.YtnfjhadaclcgeaaGreatDoor
namespace Go.Proofs.YtnfjhadaclcgeaaGreatDoor
open Go Go.RowKit Classical
set_option maxRecDepth 100000
set_option maxHeartbeats 2000000
set_option linter.unusedVariables false
set_option linter.unusedSimpArgs false
noncomputable def visCode (l : List Vis) (aid day : Int) : Int × Int := if VisitsOk l then (if 0 ≤ day ∧ day ≤ 99999 then (if visAt l aid < 0 then (0, 3) else (visAt l aid, 0)) else (0, 2)) else (0, 1)
noncomputable def lateBy (l : List Vis) (aid day : Int) : Int × Int := if (visCode l aid day).2 = 0 then (match l[(visCode l aid day).1.toNat]? with
  | some v => (max 0 (IntKind.i64.wrap (day - IntKind.i64.wrap (v.last + v.every))), 0)
  | none => (0, 0)) else (0, (visCode l aid day).2)
theorem visAt_spec (l : List Vis) (aid : Int) : visAt l aid = -1 ∨ 0 ≤ visAt l aid ∧ visAt l aid < l.length := by
  rcases firstI_spec (fun v : Vis => v.aid = aid) l with ⟨h1, h2, _⟩ | ⟨h1, _⟩
  · exact .inr ⟨h1, h2⟩
  · exact .inl h1
theorem visCode_ok {l : List Vis} {aid day : Int} (h : (visCode l aid day).2 = 0) : 0 ≤ (visCode l aid day).1 ∧ (visCode l aid day).1 < l.length := by
  have := visAt_spec l aid
  unfold visCode at *
  grind
end Go.Proofs.YtnfjhadaclcgeaaGreatDoor
namespace Go.Proofs.YtnfjhadaclcgeaaGreatDoor
open Go Go.RowKit Classical
set_option maxRecDepth 100000
set_option maxHeartbeats 2000000
set_option linter.unusedVariables false
set_option linter.unusedSimpArgs false
def szN (n : Int) (k : Nat) : Int := if n - k < 0 then -1 else n - k
theorem szN_le {k : Nat} (h : ¬ szN 1048576 k < 0) : k ≤ 1048576 ∧ szN 1048576 k = 1048576 - k := by
  unfold szN at *; split at h <;> omega
end Go.Proofs.YtnfjhadaclcgeaaGreatDoor
namespace Go.Proofs.YtnfjhadaclcgeaaGreatDoor
open Go Go.RowKit Classical
set_option maxRecDepth 100000
set_option maxHeartbeats 2000000
set_option linter.unusedVariables false
set_option linter.unusedSimpArgs false
def strR (s : ByteArray) : List AV := [.str s]
theorem NoB.strs (es : List ByteArray) : NoB (.sl true 1 (es.map strR)) := .rows fun v => .aggC (.str _) .agg0
def pickS (i : Int) (es : List ByteArray) : ByteArray := if 0 ≤ i ∧ i < es.length then es.getD i.toNat ⟨#[]⟩ else ⟨#[]⟩
def fnames : List ByteArray := ["", "list", "missing", "side", "confused", "sector", "danger", "rhythm", "voyage"].map String.toUTF8
def fname (k : Int) : ByteArray := pickS k fnames
theorem fname_out {k : Int} (h : ¬ (1 ≤ k ∧ k ≤ 8)) : fname k = ⟨#[]⟩ := by
  unfold fname pickS
  split
  · have : k = 0 := by have : (fnames.length : Int) = 9 := rfl; omega
    subst this; rfl
  · rfl
theorem fname_in {k : Int} {s : ByteArray} (h : 1 ≤ k ∧ k ≤ 8) (hs : fnames[k.toNat]? = some s) : s = fname k := by
  unfold fname pickS
  rw [if_pos (by have : (fnames.length : Int) = 9 := rfl; omega), List.getD_eq_getElem?_getD, hs]; rfl
theorem fname_ne {k : Int} (h : 1 ≤ k ∧ k ≤ 8) : fname k ≠ ⟨#[]⟩ := by
  have h2 : k = 1 ∨ k = 2 ∨ k = 3 ∨ k = 4 ∨ k = 5 ∨ k = 6 ∨ k = 7 ∨ k = 8 := by omega
  rcases h2 with rfl | rfl | rfl | rfl | rfl | rfl | rfl | rfl <;> decide
theorem fname_size (k : Int) : (fname k).size ≤ 100 := by
  unfold fname pickS
  split
  · have h2 : k = 0 ∨ k = 1 ∨ k = 2 ∨ k = 3 ∨ k = 4 ∨ k = 5 ∨ k = 6 ∨ k = 7 ∨ k = 8 := by have : (fnames.length : Int) = 9 := rfl; omega
    rcases h2 with rfl | rfl | rfl | rfl | rfl | rfl | rfl | rfl | rfl <;> decide
  · decide
theorem fnames_len : fnames.length = 9 := rfl
structure Fnd where
  kind : Int
  who : ByteArray
  what : ByteArray
def Fnd.cs (f : Fnd) : List AV := [.int .i64 f.kind, .str f.who, .str f.what]
theorem NoB.fnd (f : Fnd) : NoB (.agg f.cs) := .aggC (.int _ _) (.aggC (.str _) (.aggC (.str _) .agg0))
def szF (a b : ByteArray) (n : Int) : Int := if n - a.size < 0 then -1 else if n - a.size - b.size < 0 then -1 else n - a.size - b.size
def spc : ByteArray := ⟨#[32]⟩
def fText (k : Int) (a b : ByteArray) : ByteArray := if 1 ≤ k ∧ k ≤ 8 then (if b = ⟨#[]⟩ then fname k ++ spc ++ a else fname k ++ spc ++ a ++ spc ++ b) else ⟨#[]⟩
theorem app_assoc (a b c : ByteArray) : a ++ b ++ c = a ++ (b ++ c) := ByteArray.append_assoc
end Go.Proofs.YtnfjhadaclcgeaaGreatDoor
namespace Go.Proofs.YtnfjhadaclcgeaaGreatDoor
open Go Go.RowKit Classical
set_option maxRecDepth 100000
set_option maxHeartbeats 2000000
set_option linter.unusedVariables false
set_option linter.unusedSimpArgs false
def mtF : Nat → Int → ByteArray → ByteArray
  | 0, _, out => out
  | n + 1, k, out => if 0 < k then mtF n (k / 10) (bytesOf [48 + k % 10] ++ out) else out
def mText (k : Int) : ByteArray := if k ≤ 0 then ⟨#[109, 48]⟩ else ⟨#[109]⟩ ++ mtF 64 k ⟨#[]⟩
theorem mtF_zero (n : Nat) (out : ByteArray) : mtF n 0 out = out := by cases n <;> simp [mtF]
theorem mtF_size : ∀ (n : Nat) (k : Int) (out : ByteArray), (mtF n k out).size ≤ out.size + n
  | 0, k, out => by simp [mtF]
  | n + 1, k, out => by
    unfold mtF
    split
    · have := mtF_size n (k / 10) (bytesOf [48 + k % 10] ++ out)
      rw [ByteArray.size_append, bytesOf_size] at this
      simp only [List.length_singleton] at this; omega
    · omega
def intR (n : Int) : List AV := [.int .i64 n]
theorem NoB.ints (l : List Int) : NoB (.sl true 1 (l.map intR)) := .rows fun v => .aggC (.int _ _) .agg0
def markL (n : Nat) (k : Int) : List Int := (List.range n).map fun i : Nat => k + (i : Int)
theorem markL_len (n : Nat) (k : Int) : (markL n k).length = n := by simp [markL]
theorem markL_get {n : Nat} {k i : Int} {v : Int} (h0 : 0 ≤ i) (h : (markL n k)[i.toNat]? = some v) : v = k + i := by
  unfold markL at h
  rw [List.getElem?_map] at h
  by_cases hi : i.toNat < n
  · rw [List.getElem?_range hi] at h; simp at h; omega
  · rw [List.getElem?_eq_none (by simpa using Nat.le_of_not_lt hi)] at h; cases h
end Go.Proofs.YtnfjhadaclcgeaaGreatDoor
namespace Go.Proofs.YtnfjhadaclcgeaaGreatDoor
open Go Go.RowKit
set_option maxRecDepth 100000
set_option maxHeartbeats 2000000
set_option linter.unusedVariables false
set_option linter.unusedSimpArgs false
def cmpI (a b : Int) : Int := if a < b then -1 else if b < a then 1 else 0
theorem isNaN_ (x : Int) : AP 110 [.int .i64 x] AV.bool false := by
  refine a0 Tryz.func110 fun E K hE hK => ?_
  repeat' first
    | ((first
   | refine B0 ?_|refine B1 ?_ ?_) <;> intros <;> (try conv => cbv))
  all_goals exact hK _ rfl
theorem compare_ (a b : Int) : AP 94 [.int .i64 a, .int .i64 b] (AV.int .i64) (cmpI a b) := by
  refine a0 Tryz.func94 fun E K hE hK => ?_
  repeat' first
    | ((first
   | refine callB (isNaN_ _) (fun _ => ?_) (fun _ => ?_)
   | refine B0 ?_|refine B1 ?_ ?_) <;> intros <;> (try conv => cbv))
  all_goals first
    | (simp_all; done)
    | (refine hK _ ?_; unfold cmpI; simp only [atup]; congr 1; split <;> (try split) <;> omega)
def orI : List Int → Int
  | [] => 0
  | a :: l => if a ≠ 0 then a else orI l
theorem orI_drop {l : List Int} {i : Int} {v : Int} (h0 : 0 ≤ i) (h : l[i.toNat]? = some v) : orI (l.drop i.toNat) = if v ≠ 0 then v else orI (l.drop (i + 1).toNat) := by
  have hi := (List.getElem?_eq_some_iff.1 h).1
  rw [List.drop_eq_getElem_cons hi, orI, (List.getElem?_eq_some_iff.1 h).2, show (i + 1).toNat = i.toNat + 1 by omega]
theorem cmpOr_ {rs : List (List AV)} {t : Bool} {l : List Int} (hl : rs = l.map intR) : AP 93 [.sl t 1 rs] (AV.int .i64) (orI l) := by
  refine a0 Tryz.func93 fun E K hE hK => ?_
  refine lenL hl fun n hn hb => ?_
  conv => cbv
  refine loopK (ι := Int) [0, 3, 6, 7, 8] (fun i => ⟨reF _ [(0, .sl t 1 rs), (3, .int .i64 0), (6, .sl t 1 rs), (7, .int .i64 n), (8, .int .i64 i)], []⟩) (fun i => (l.length - i).toNat) (fun i => (0 ≤ i ∧ i ≤ l.length) ∧ orI l = orI (l.drop i.toNat)) [] (by decide) 0 rfl ⟨by simp, rfl⟩ fun i hi Kn hN => ?_
  obtain ⟨⟨h0, h1⟩, hinv⟩ := hi
  conv => cbv
  repeat' first
    | ( refine hN _ _ [] (by decide) rfl ⟨?_, ?_⟩ ?_)
    | ((first
   | refine B0 ?_|refine B1 ?_ ?_) <;> intros <;> (try conv => cbv))
  · omega
  · rename_i hx hz b hb'
    rw [hinv, orI_drop h0 hx, if_neg (by omega), hb']
  · omega
  · rename_i hx hz
    refine hK _ ?_
    rw [hinv, orI_drop h0 hx, if_pos hz]; rfl
  · refine hK _ ?_
    rw [hinv, List.drop_eq_nil_of_le (by omega)]; rfl
def Vis.due (v : Vis) : Int := IntKind.i64.wrap (v.last + v.every)
def Vis.cmp (v w : Vis) : Int := if cmpI v.due w.due ≠ 0 then cmpI v.due w.due else cmpI v.aid w.aid
/-- The first of the least. -/
def minF {α : Type} (c : α → α → Int) (a : α) (l : List α) : α := l.foldl (fun m x => if c x m < 0 then x else m) a
theorem minF_take {α : Type} {c : α → α → Int} {a0 x : α} {l : List α} {i : Int} (h0 : 1 ≤ i) (h : (a0 :: l)[i.toNat]? = some x) : minF c a0 (l.take ((i + 1).toNat - 1)) = if c x (minF c a0 (l.take (i.toNat - 1))) < 0 then x else minF c a0 (l.take (i.toNat - 1)) := by
  obtain ⟨j, hj⟩ : ∃ j : Nat, i.toNat = j + 1 := ⟨i.toNat - 1, by omega⟩
  rw [show (i + 1).toNat - 1 = j + 1 by omega, hj]
  rw [hj] at h
  simp only [List.getElem?_cons_succ] at h
  rw [List.take_add_one, h]
  show List.foldl _ _ (_ ++ [x]) = _
  rw [List.foldl_append]; rfl
def dueC (x m : Vis) : Int := if x.due < m.due then -1 else 0
def nextM (a0 : Vis) (l : List Vis) : Vis := minF dueC a0 l
open Classical in
noncomputable def nextDue (l : List Vis) : Int × Int × Int := if VisitsOk l then (match l with
  | [] => (0, 0, 6)
  | a0 :: l => ((nextM a0 l).aid, (nextM a0 l).due, 0)) else (0, 0, 1)
theorem nextDue_bad {l : List Vis} (h : ¬ VisitsOk l) : nextDue l = (0, 0, 1) := by unfold nextDue; exact if_neg h
theorem nextDue_nil (h : VisitsOk []) : nextDue [] = (0, 0, 6) := by unfold nextDue; exact if_pos h
theorem nextDue_cons {a0 : Vis} {l : List Vis} (h : VisitsOk (a0 :: l)) : nextDue (a0 :: l) = ((nextM a0 l).aid, (nextM a0 l).due, 0) := by unfold nextDue; exact if_pos h
theorem min_same : ∀ (l : List Vis) (m : Vis), (∀ x ∈ l, m.aid < x.aid) → l.Pairwise (fun x y => x.aid < y.aid) → minF Vis.cmp m l = minF dueC m l
  | [], _, _, _ => rfl
  | x :: l, m, h, hp => by
    have h1 := h x (by simp)
    have hp' := List.pairwise_cons.1 hp
    have e : (Vis.cmp x m < 0) ↔ (dueC x m < 0) := by
      unfold Vis.cmp dueC cmpI
      grind
    show minF Vis.cmp (if Vis.cmp x m < 0 then x else m) l = minF dueC (if dueC x m < 0 then x else m) l
    by_cases hlt : dueC x m < 0
    · rw [if_pos hlt, if_pos (e.2 hlt)]
      exact min_same l x (fun y hy => hp'.1 y hy) hp'.2
    · rw [if_neg hlt, if_neg (fun h => hlt (e.1 h))]
      exact min_same l m (fun y hy => h y (by simp [hy])) hp'.2
theorem ok_chain {l : List Vis} (h : VisitsOk l) : l.Pairwise (fun x y => x.aid < y.aid) := by
  have step : ∀ i a b, l[i]? = some a → l[i + 1]? = some b → a.aid < b.aid := fun i a b h1 h2 => by
    obtain ⟨v, g1, _, g3⟩ := h.1 (i + 1) (List.getElem?_eq_some_iff.1 h2).1
    obtain ⟨w, g4, g5⟩ := g3 (by omega)
    simp only [Nat.add_sub_cancel] at g4
    rw [h1] at g4; rw [h2] at g1
    cases g4; cases g1; exact g5
  have main : ∀ l : List Vis, (∀ i a b, l[i]? = some a → l[i + 1]? = some b → a.aid < b.aid) → l.Pairwise (fun x y => x.aid < y.aid) := by
    intro l
    induction l with
    | nil => intro _; exact .nil
    | cons a l ih =>
      intro h
      have ih' := ih (fun i x y h1 h2 => h (i + 1) x y (by simpa using h1) (by simpa using h2))
      refine List.pairwise_cons.2 ⟨fun x hx => ?_, ih'⟩
      cases l with
      | nil => simp at hx
      | cons b l =>
        have hab := h 0 a b rfl rfl
        rcases List.mem_cons.1 hx with rfl | hx
        · exact hab
        · have := (List.pairwise_cons.1 ih').1 x hx; omega
  exact main l step
end Go.Proofs.YtnfjhadaclcgeaaGreatDoor
namespace Go.Proofs.YtnfjhadaclcgeaaGreatDoor
open Go Go.RowKit Classical
set_option maxRecDepth 100000
set_option maxHeartbeats 2000000
set_option linter.unusedVariables false
set_option linter.unusedSimpArgs false
def llR (b : Bool) (x : List Int) : List AV := [.sl b 1 (x.map intR)]
theorem NoB.lls (l : List (List Int)) : NoB (.sl true 1 (l.map (llR true))) := .rows fun v => .aggC (.ints _) .agg0
theorem idxLL {E : Env} {np : Nat} {P : Program} [hE : SE E np P] {es : List (List AV)} {i : Int} {K : List AV → Prop} {l : List (List Int)} {b : Bool} (hl : es = l.map (llR b)) (h0 : 0 ≤ i ∧ i < l.length) (hk : ∀ x rx, l[i.toNat]? = some x → rx = x.map intR → K [.sl b 1 rx]) : E.idx es i K :=
  idxL hl h0 fun v hv => hk v _ hv rfl
theorem idxLV {E : Env} {np : Nat} {P : Program} [hE : SE E np P] {es rx : List (List AV)} {i : Int} {K : List AV → Prop} {l : List (List Int)} {b : Bool} {x : List Int} (hl : es = l.map (llR b)) (h0 : 0 ≤ i) (hx : l[i.toNat]? = some x) (hr : rx = x.map intR) (hk : K [.sl b 1 rx]) : E.idx es i K :=
  idxV hl h0 hx (by rw [llR, ← hr]; exact hk)
def szLs : List (List Int) → Int → Int
  | [], n => n
  | x :: l, n => if szN n x.length < 0 then -1 else szLs l (szN n x.length)
theorem szLs_drop {l : List (List Int)} {i : Nat} {x : List Int} (h : l[i]? = some x) (n : Int) : szLs (l.drop i) n = if szN n x.length < 0 then -1 else szLs (l.drop (i + 1)) (szN n x.length) := by
  have hi := (List.getElem?_eq_some_iff.1 h).1
  rw [List.drop_eq_getElem_cons hi, szLs, (List.getElem?_eq_some_iff.1 h).2]
theorem szN_max (n : Int) (k : Nat) : szN n k ≤ max (-1) n ∧ (¬ szN n k < 0 → (k : Int) ≤ n) := by unfold szN; split <;> omega
theorem szLs_all : ∀ {l : List (List Int)} {n : Int}, 0 ≤ n → ¬ szLs l n < 0 → ∀ x ∈ l, (x.length : Int) ≤ n
  | [], _, _, _, x, hx => by simp at hx
  | y :: l, n, h0, h, x, hx => by
    unfold szLs at h
    have := szN_max n y.length
    split at h
    · omega
    · rename_i h2
      rcases List.mem_cons.1 hx with rfl | hx
      · exact this.2 h2
      · have := szLs_all (by omega) h x hx; omega
end Go.Proofs.YtnfjhadaclcgeaaGreatDoor
namespace Go.Proofs.YtnfjhadaclcgeaaGreatDoor
open Go Go.RowKit Classical
set_option maxRecDepth 100000
set_option maxHeartbeats 2000000
set_option linter.unusedVariables false
set_option linter.unusedSimpArgs false
theorem Vis.nown (l : List Vis) : ∀ e ∈ l.map Vis.cs, ∀ c ∈ e, c.isOwn = false := fun e he c hc => by
  obtain ⟨v, _, rfl⟩ := List.mem_map.1 he
  simp only [Vis.cs, List.mem_cons, List.not_mem_nil, or_false] at hc
  rcases hc with rfl | rfl | rfl <;> rfl
theorem firstI_ge {α : Type} {p : α → Prop} {l : List α} : 0 ≤ firstI p l ↔ ∃ v ∈ l, p v := by
  rcases firstI_spec p l with ⟨h1, h2, ⟨v, h3, h4⟩, h5⟩ | ⟨h1, h2⟩
  · exact ⟨fun _ => ⟨v, List.mem_of_getElem? h3, h4⟩, fun _ => h1⟩
  · refine ⟨fun h => by omega, fun ⟨v, hv, hp⟩ => ?_⟩
    obtain ⟨j, hj⟩ := List.getElem?_of_mem hv
    exact (h2 j v hj hp).elim
/-- What is left of a plan, from a state on. -/
noncomputable def runG : List Vis → Int → Bool → List (List Int) → Int × Int
  | _, most, miss, [] => if miss = true then (0, 3) else (most, 0)
  | now, most, miss, x :: p => if ¬ (0 ≤ x.getD 0 0 ∧ x.getD 0 0 ≤ 99999) then (0, 2) else
    match now[(visAt now (x.getD 1 0)).toNat]? with
    | some v => if visAt now (x.getD 1 0) < 0 then runG now most true p else if x.getD 0 0 < v.last then (0, 2) else
        runG (now.set (visAt now (x.getD 1 0)).toNat ⟨v.aid, v.every, x.getD 0 0⟩) (max most (IntKind.i64.wrap (x.getD 0 0 - v.due))) miss p
    | none => runG now most true p
noncomputable def gdelay (l : List Vis) (p : List (List Int)) : Int × Int := if VisitsOk l then (if ∃ x ∈ p, x.length ≠ 2 then (0, 9) else runG l 0 false p) else (0, 1)
theorem runG_drop {p : List (List Int)} {i : Int} {x : List Int} (h0 : 0 ≤ i) (h : p[i.toNat]? = some x) (now : List Vis) (most : Int) (miss : Bool) : runG now most miss (p.drop i.toNat) = runG now most miss (x :: p.drop (i + 1).toNat) := by
  have hi := (List.getElem?_eq_some_iff.1 h).1
  rw [List.drop_eq_getElem_cons hi, (List.getElem?_eq_some_iff.1 h).2, show (i + 1).toNat = i.toNat + 1 by omega]
theorem runG_day {now : List Vis} {most : Int} {miss : Bool} {x : List Int} {p : List (List Int)} {d : Int} (h1 : x[(0 : Int).toNat]? = some d) (h : ¬ (0 ≤ d ∧ d ≤ 99999)) : runG now most miss (x :: p) = (0, 2) := by
  have : x.getD 0 0 = d := by rw [List.getD_eq_getElem?_getD]; simpa using congrArg (fun o => o.getD 0) h1
  rw [runG, this, if_pos h]
theorem runG_miss {now : List Vis} {most : Int} {miss : Bool} {x : List Int} {p : List (List Int)} {d a k : Int} (h1 : x[(0 : Int).toNat]? = some d) (h2 : x[(1 : Int).toNat]? = some a) (h : 0 ≤ d ∧ d ≤ 99999) (hk : k = visAt now a) (hk0 : k < 0) : runG now most miss (x :: p) = runG now most true p := by
  have e1 : x.getD 0 0 = d := by rw [List.getD_eq_getElem?_getD]; simpa using congrArg (fun o => o.getD 0) h1
  have e2 : x.getD 1 0 = a := by rw [List.getD_eq_getElem?_getD]; simpa using congrArg (fun o => o.getD 0) h2
  rw [runG, e1, e2, if_neg (by simpa using h), ← hk]
  split
  · rw [if_pos hk0]
  · rfl
theorem runG_hit {now : List Vis} {most : Int} {miss : Bool} {x : List Int} {p : List (List Int)} {d a k : Int} {v : Vis} (h1 : x[(0 : Int).toNat]? = some d) (h2 : x[(1 : Int).toNat]? = some a) (h : 0 ≤ d ∧ d ≤ 99999) (hk : k = visAt now a) (hk0 : 0 ≤ k) (hv : now[k.toNat]? = some v) :
    runG now most miss (x :: p) = if d < v.last then (0, 2) else runG (now.set k.toNat ⟨v.aid, v.every, d⟩) (max most (IntKind.i64.wrap (d - v.due))) miss p := by
  have e1 : x.getD 0 0 = d := by rw [List.getD_eq_getElem?_getD]; simpa using congrArg (fun o => o.getD 0) h1
  have e2 : x.getD 1 0 = a := by rw [List.getD_eq_getElem?_getD]; simpa using congrArg (fun o => o.getD 0) h2
  rw [runG, e1, e2, if_neg (by simpa using h), ← hk, hv]
  simp only
  rw [if_neg (by omega)]
def two (q : Int × Int) : AV := .tup [.int .i64 q.1, .int .i64 q.2]
theorem NoB.two (q : Int × Int) : NoB (two q) := .tupC (.int _ _) (.tupC (.int _ _) .tup0)
theorem szLs_ok {l : List (List Int)} {n : Int} (h : ¬ (if n - (l.length : Int) < 0 then (-1 : Int) else szLs l (n - l.length)) < 0) : l.length ≤ n ∧ ∀ x ∈ l, (x.length : Int) ≤ n := by
  split at h
  · omega
  · have := szLs_all (l := l) (n := n - l.length) (by omega) h
    exact ⟨by omega, fun x hx => by have := this x hx; omega⟩
end Go.Proofs.YtnfjhadaclcgeaaGreatDoor
namespace Go.Proofs.YtnfjhadaclcgeaaGreatDoor
open Go Go.RowKit Classical
set_option maxRecDepth 100000
set_option maxHeartbeats 2000000
set_option linter.unusedVariables false
set_option linter.unusedSimpArgs false
theorem szN_or (n : Int) (k : Nat) : szN n k = -1 ∧ n < k ∨ szN n k = n - k ∧ k ≤ n := by unfold szN; split <;> omega
theorem szN_lt {n : Int} {k : Nat} (h : n < k) : szN n k = -1 := by unfold szN; rw [if_pos (by omega)]
theorem szN_ge {n : Int} {k : Nat} (h : k ≤ n) : szN n k = n - k := by unfold szN; rw [if_neg (by omega)]
def sumTo {α : Type} (f : α → Nat) (l : List α) (i : Int) : Nat := ((l.take i.toNat).map f).sum
theorem sumTo_zero {α : Type} {f : α → Nat} {l : List α} {i : Int} (h : i ≤ 0) : sumTo f l i = 0 := by
  unfold sumTo; rw [show i.toNat = 0 by omega]; simp
theorem sumTo_succ {α : Type} (f : α → Nat) {l : List α} {i : Int} {v : α} (h0 : 0 ≤ i) (hv : l[i.toNat]? = some v) : sumTo f l (i + 1) = sumTo f l i + f v := by
  unfold sumTo
  rw [show (i + 1).toNat = i.toNat + 1 by omega, List.take_add_one, hv]
  simp
theorem sumTo_all {α : Type} (f : α → Nat) (l : List α) {i : Int} (h : l.length ≤ i) : sumTo f l i = (l.map f).sum := by
  unfold sumTo; rw [List.take_of_length_le (by omega)]
theorem sumTo_le {α : Type} (f : α → Nat) (l : List α) (i : Int) : sumTo f l i ≤ (l.map f).sum := by
  unfold sumTo
  have := congrArg (fun m => (m.map f).sum) (List.take_append_drop i.toNat l)
  simp only [List.map_append, List.sum_append] at this
  omega
theorem sum_ge {α : Type} (f : α → Nat) : ∀ {l : List α} {v : α}, v ∈ l → f v ≤ (l.map f).sum
  | x :: l, v, h => by
    rcases List.mem_cons.1 h with rfl | h
    · simp
    · have := sum_ge f h; simp; omega
section
variable {E : Env} {np : Nat} {P : Program}
theorem idxSet [hE : SE E np P] {α : Type} {R : α → List AV} {m : List α} {es : List (List AV)} {i : Int} {v : α} {K : List AV → Prop} (hes : es = (m.set i.toNat v).map R) (h : 0 ≤ i ∧ i < m.length) (hk : (m.set i.toNat v)[i.toNat]? = some v → K (R v)) : E.idx es i K := by
  have h1 : (m.set i.toNat v)[i.toNat]? = some v := by rw [List.getElem?_set_self (by omega)]
  exact idxV hes h.1 h1 (hk h1)
theorem idxS [hE : SE E np P] {α : Type} {R : α → List AV} {m : List α} {es : List (List AV)} {i : Int} {v : α} {K : List AV → Prop} (hes : es = (m.set i.toNat v).map R) (h : 0 ≤ i ∧ i < m.length) (hk : K (R v)) : E.idx es i K := idxSet hes h fun _ => hk
theorem updS [hE : SE E np P] {α : Type} {R : α → List AV} {cs : List AV} {m : List α} {es : List (List AV)} {i : Int} {j : Nat} {K : List (List AV) → Prop} {v : α} (v' : α) (hes : es = (m.set i.toNat v).map R) (h : 0 ≤ i ∧ i < m.length) (hl : j + cs.length ≤ (R v).length) (hz : splice (R v) j cs = R v')
    (hk : ∀ es', es' = (m.set i.toNat v').map R → K es') : E.upd es i j cs K :=
  updL v' hes h.1 (List.getElem?_set_self (by omega)) hl hz fun es' h' => hk es' (by rw [h', List.set_set])
theorem seqT [hE : SE E np P] {a b : ByteArray} {K : Bool → Prop} (h : a = b) (hk : K true) : E.seq a b K := seqI (fun _ => hk) (fun h' => absurd h h')
theorem subG [hE : SE E np P] {es : List (List AV)} {lo hi : Option Int} {K : List (List AV) → Prop} (h : 0 ≤ lo.getD 0 ∧ lo.getD 0 ≤ hi.getD es.length ∧ hi.getD es.length ≤ es.length)
    (hk : ∀ rs, rs = (es.take (hi.getD es.length).toNat).drop (lo.getD 0).toNat → K rs) : E.sub_ es lo hi K := by
  cases hE.h; exact ⟨h.1, h.2.1, h.2.2, hk _ rfl⟩
theorem callLI [hE : SE E np P] {α : Type} {f : FuncId} {args : List AV} {R : α → List AV} {k : Nat} {x : List α × Int} {K : AV → Prop} (h : AC P f args (fun p : List α × Int => .tup [.sl true k (p.1.map R), .int .i64 p.2]) x) (hk : ∀ rs n, rs = x.1.map R → n = x.2 → K (.tup [.sl true k rs, .int .i64 n])) : E.call f args K :=
  callI h fun y hy => hk _ _ (by rw [hy]) (by rw [hy])
theorem callII [hE : SE E np P] {f : FuncId} {args : List AV} {x : Int × Int} {K : AV → Prop} (h : AC P f args two x) (hk : ∀ m n, m = x.1 → n = x.2 → K (.tup [.int .i64 m, .int .i64 n])) : E.call f args K :=
  callI h fun y hy => hk _ _ (by rw [hy]) (by rw [hy])
theorem mvH [hE : SE E np P] {α : Type} {R : α → List AV} {es : List (List AV)} {m : List α} {hi lo hi' : Int} {K : List (List AV) → Int → Prop} (hes : es = m.map R) (hfl : ∀ v, ∀ c ∈ R v, c.flatH = true) (h : 0 ≤ hi ∧ hi ≤ lo ∧ lo ≤ hi' ∧ hi' ≤ m.length)
    (hk : ∀ es' n, es' = (m.take hi.toNat ++ ((m.take hi'.toNat).drop lo.toNat ++ m.drop (hi + (hi' - lo)).toNat)).map R → n = hi + (hi' - lo) → K es' n) : E.mv es hi lo hi' K := by
  cases hE.h
  refine ⟨h.2.1, fun e he c hc => ?_, hk _ _ ?_ rfl⟩
  · rw [hes] at he
    obtain ⟨v, _, rfl⟩ := List.mem_map.1 (List.mem_of_mem_take (List.mem_of_mem_drop he))
    exact hfl v c hc
  · rw [hes]; simp only [List.map_append, List.map_take, List.map_drop]
theorem AV.flat_flatH {c : AV} (h : c.flat = true) : c.flatH = true := by
  cases c <;> simp_all [AV.flat, AV.flatH]
theorem mvL [hE : SE E np P] {α : Type} {R : α → List AV} {es : List (List AV)} {m : List α} {hi lo hi' : Int} {K : List (List AV) → Int → Prop} (hes : es = m.map R) (hfl : ∀ v, ∀ c ∈ R v, c.flat = true) (h : 0 ≤ hi ∧ hi ≤ lo ∧ lo ≤ hi' ∧ hi' ≤ m.length)
    (hk : ∀ es' n, es' = (m.take hi.toNat ++ ((m.take hi'.toNat).drop lo.toNat ++ m.drop (hi + (hi' - lo)).toNat)).map R → n = hi + (hi' - lo) → K es' n) : E.mv es hi lo hi' K :=
  mvH hes (fun v c hc => AV.flat_flatH (hfl v c hc)) h hk
theorem clrG [hE : SE E np P] {es : List (List AV)} {lo hi : Int} {z : List AV} {K : List (List AV) → Prop} (h : 0 ≤ lo ∧ lo ≤ hi ∧ hi ≤ es.length)
    (hk : ∀ es', es'.length = es.length → es'.take lo.toNat = es.take lo.toNat → K es') : E.clr es lo hi z K := by
  cases hE.h
  refine hk _ ?_ ?_
  · simp; omega
  · rw [List.take_append_of_le_length (by simp; omega), List.take_of_length_le (by rw [List.length_take]; omega)]
end
theorem del_done {α : Type} {R : α → List AV} {l : List α} {i j n m m2 : Int} {es es2 rs : List (List AV)} (h : 0 ≤ i ∧ i ≤ j ∧ j ≤ l.length) (hn : n = l.length) (he : es = (l.take i.toNat ++ ((l.take n.toNat).drop j.toNat ++ l.drop (i + (n - j)).toNat)).map R) (hm : m = i + (n - j)) (hm2 : m2 = m - 0) (ht : es2.take m2.toNat = es.take m2.toNat)
    (hr : rs = (es2.take ((some m).getD (es2.length : Int)).toNat).drop ((some (0 : Int)).getD 0).toNat) : rs = (l.take i.toNat ++ l.drop j.toNat).map R := by
  rw [hr]
  show (es2.take m.toNat).drop 0 = _
  rw [List.drop_zero]
  rw [show m2 = m by omega] at ht
  rw [ht, he, ← List.map_take]
  have e1 : l.take n.toNat = l := List.take_of_length_le (by omega)
  have e2 : (l.take i.toNat ++ l.drop j.toNat).length = m.toNat := by
    rw [List.length_append, List.length_take, List.length_drop]; omega
  rw [e1, ← List.append_assoc, List.take_append_of_le_length (by omega), List.take_of_length_le (by omega)]
noncomputable def rej {α : Type} (p : α → Prop) (l : List α) : List α := l.filter fun v => decide (¬ p v)
theorem rej_len {α : Type} (p : α → Prop) (l : List α) : (rej p l).length ≤ l.length := List.length_filter_le _ _
theorem rej_step {α : Type} (p : α → Prop) {l : List α} {i n : Int} {v : α} (h0 : 0 ≤ i) (hv : l[i.toNat]? = some v) (hn : n = i + 1) : (p v → rej p (l.take n.toNat) = rej p (l.take i.toNat)) ∧ (¬ p v → rej p (l.take n.toNat) = rej p (l.take i.toNat) ++ [v]) := by
  unfold rej
  rw [show n.toNat = i.toNat + 1 by omega, List.take_add_one, hv, List.filter_append]
  by_cases h : p v <;> simp [h]
theorem filt_start {α : Type} {p : α → Prop} {l : List α} {y n1 : Int} {v0 : α} (h0 : 0 ≤ y) (hn : n1 = y + 1) (h : l[y.toNat]? = some v0) (hp : p v0) (hb : ∀ (j : Nat) v, (j : Int) < y → l[j]? = some v → ¬ p v) : l.take y.toNat = (l.take n1.toNat).filter (fun v => decide (¬ p v)) := by
  have e : (l.take y.toNat).filter (fun v => decide (¬ p v)) = l.take y.toNat := List.filter_eq_self.2 fun a ha => by
    obtain ⟨j, hj⟩ := List.getElem?_of_mem ha
    have hlt := (List.getElem?_eq_some_iff.1 hj).1
    rw [List.getElem?_take, if_pos (by simp at hlt; omega)] at hj
    exact decide_eq_true (hb j a (by simp at hlt; omega) hj)
  rw [show n1.toNat = y.toNat + 1 by omega, List.take_add_one, h, List.filter_append, e]
  simp [hp]
theorem filt_none {α : Type} {p : α → Prop} {l : List α} (h : ∀ (j : Nat) v, l[j]? = some v → ¬ p v) : rej p l = l := List.filter_eq_self.2 fun a ha => by
  obtain ⟨j, hj⟩ := List.getElem?_of_mem ha
  exact decide_eq_true (h j a hj)
theorem filt_get {α : Type} {m l : List α} {j : Int} {v : α} (h5 : m.drop j.toNat = l.drop j.toNat) (hv : m[j.toNat]? = some v) : l[j.toNat]? = some v := by
  have := congrArg (fun x => x[0]?) h5
  simp only [List.getElem?_drop, Nat.add_zero] at this
  rw [← this, hv]
theorem filt_skip {α : Type} {p : α → Prop} {m l : List α} {i j n : Int} {v : α} (h0 : 0 ≤ j) (hv : l[j.toNat]? = some v) (hp : p v) (hn : n = j + 1) (h4 : m.take i.toNat = (l.take j.toNat).filter (fun v => decide (¬ p v))) : m.take i.toNat = (l.take n.toNat).filter (fun v => decide (¬ p v)) := by
  rw [show n.toNat = j.toNat + 1 by omega, List.take_add_one, hv, List.filter_append, h4]
  simp [hp]
theorem filt_keep {α : Type} {p : α → Prop} {m l : List α} {i j i' n : Int} {v : α} (h0 : 0 ≤ i ∧ 0 ≤ j) (hi : i < m.length) (hv : l[j.toNat]? = some v) (hp : ¬ p v) (hi' : i' = i + 1) (hn : n = j + 1) (h4 : m.take i.toNat = (l.take j.toNat).filter (fun v => decide (¬ p v))) : (m.set i.toNat v).take i'.toNat = (l.take n.toNat).filter (fun v => decide (¬ p v)) := by
  rw [show n.toNat = j.toNat + 1 by omega, show i'.toNat = i.toNat + 1 by omega, List.take_add_one, List.take_add_one, hv, List.filter_append, ← h4, List.getElem?_set_self (by omega), List.take_set_of_le (Nat.le_refl _)]
  simp [hp]
theorem filt_drop {α : Type} {m l : List α} {j n : Int} (h0 : 0 ≤ j) (hn : n = j + 1) (h5 : m.drop j.toNat = l.drop j.toNat) : m.drop n.toNat = l.drop n.toNat := by
  rw [show n.toNat = j.toNat + 1 by omega, ← List.drop_drop, ← List.drop_drop, h5]
theorem filt_dropS {α : Type} {m l : List α} {i j n : Int} {v : α} (h0 : 0 ≤ i ∧ i < j) (hn : n = j + 1) (h5 : m.drop j.toNat = l.drop j.toNat) : (m.set i.toNat v).drop n.toNat = l.drop n.toNat := by
  rw [List.drop_set_of_lt (by omega)]
  exact filt_drop (by omega) hn h5
theorem filt_done {α : Type} {R : α → List AV} {p : α → Prop} {m l : List α} {i j : Int} {es es' rs : List (List AV)} (hes : es = m.map R) (h1 : es'.take i.toNat = es.take i.toNat) (h4 : m.take i.toNat = (l.take j.toNat).filter (fun v => decide (¬ p v))) (hj : l.length ≤ j) (hrs : rs = (es'.take i.toNat).drop (0 : Int).toNat) : rs = (rej p l).map R := by
  unfold rej
  rw [hrs, h1, hes, ← List.map_take, h4, List.take_of_length_le (by omega)]; rfl
theorem ACM.mono {P : Program} {f : FuncId} {args : List AV} {Q Q' : AV → List AV → Prop} (h : ACM P f args Q) (hq : ∀ r ys, Q r ys → Q' r ys) : ACM P f args Q' :=
  ⟨h.1, fun w A vs F h0 h1 h2 h3 h4 => (h.2 w A vs F h0 h1 h2 h3 h4).mono fun e w' ⟨v, G, r, ys, g0, g⟩ => ⟨v, G, r, ys, hq r ys g0, g⟩⟩
def intLI (p : List Int × Int) : AV := .tup [.sl true 1 (p.1.map intR), .int .i64 p.2]
theorem NoB.intLI (p : List Int × Int) : NoB (intLI p) := .tupC (.ints _) (.tupC (.int _ _) .tup0)
theorem flatI {E : Env} {np : Nat} {P : Program} [hE : SE E np P] {fs : List (List AV)} {K : Prop} (h : ∀ e ∈ fs, ∀ c ∈ e, c.flat = true) (hk : K) : E.flat fs K := by cases hE.h; exact ⟨h, hk⟩
theorem ints_flat (m : List Int) : ∀ e ∈ m.map intR, ∀ c ∈ e, c.flat = true := fun e he c hc => by
  obtain ⟨v, _, rfl⟩ := List.mem_map.1 he
  simp only [intR, List.mem_cons, List.not_mem_nil, or_false] at hc
  rw [hc]; rfl
theorem flatInts {E : Env} {np : Nat} {P : Program} [hE : SE E np P] {fs : List (List AV)} {m : List Int} {K : Prop} (h : fs = m.map intR) (hk : K) : E.flat fs K := flatI (by rw [h]; exact ints_flat m) hk
theorem strs_flat (m : List ByteArray) : ∀ e ∈ m.map strR, ∀ c ∈ e, c.flat = true := fun e he c hc => by
  obtain ⟨v, _, rfl⟩ := List.mem_map.1 he
  simp only [strR, List.mem_cons, List.not_mem_nil, or_false] at hc
  rw [hc]; rfl
theorem flatStrs {E : Env} {np : Nat} {P : Program} [hE : SE E np P] {fs : List (List AV)} {m : List ByteArray} {K : Prop} (h : fs = m.map strR) (hk : K) : E.flat fs K := flatI (by rw [h]; exact strs_flat m) hk
structure Pnt where
  x : Int
  y : Int
def Pnt.cs (v : Pnt) : List AV := [.int .i64 v.x, .int .i64 v.y]
theorem NoB.oPnt (v : Pnt) : NoB (.agg v.cs) := (.aggC (.int _ _) (.aggC (.int _ _) .agg0))
theorem Pnt.nown (l : List Pnt) : ∀ e ∈ l.map Pnt.cs, ∀ c ∈ e, c.isOwn = false := fun e he c hc => by
  obtain ⟨v, _, rfl⟩ := List.mem_map.1 he
  simp only [Pnt.cs, List.mem_cons, List.not_mem_nil, or_false] at hc
  rcases hc with rfl | rfl <;> rfl
def Pnt.mk' (k : Int) : Pnt := ⟨k + 0, k + 1⟩
def Pnt.mks (n : Nat) (k : Int) : List Pnt := (List.range n).map fun i : Nat => Pnt.mk' (k + 2 * (i : Int))
theorem Pnt.mks_len (n : Nat) (k : Int) : (Pnt.mks n k).length = n := by simp [Pnt.mks]
theorem Pnt.mks_get {n : Nat} {k i : Int} {v : Pnt} (h0 : 0 ≤ i) (h : (Pnt.mks n k)[i.toNat]? = some v) : v = Pnt.mk' (k + 2 * i) := by
  unfold Pnt.mks at h
  rw [List.getElem?_map] at h
  by_cases hi : i.toNat < n
  · rw [List.getElem?_range hi] at h
    simp only [Option.map_some, Option.some.injEq] at h
    rw [← h, Int.toNat_of_nonneg h0]
  · rw [List.getElem?_eq_none (by simpa using Nat.le_of_not_lt hi)] at h; cases h
end Go.Proofs.YtnfjhadaclcgeaaGreatDoor
