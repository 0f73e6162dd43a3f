/- Contracts: the greatest delay. -/
import Derived.Test.YtehobmjmhjgnoaaFk
namespace Go.Proofs.Ytehobmjmhjgnoaa
open Go Go.RowKit Classical
set_option maxRecDepth 100000
set_option maxHeartbeats 2000000
set_option linter.unusedVariables false
set_option linter.unusedSimpArgs false
theorem Vis.nown (l : List Vis) : ∀ e ∈ l.map Vis.cs, ∀ c ∈ e, c.isOwn = false := fun e he c hc => by
  obtain ⟨v, _, rfl⟩ := List.mem_map.1 he
  simp only [Vis.cs, List.mem_cons, List.not_mem_nil, or_false] at hc
  rcases hc with rfl | rfl | rfl <;> rfl
theorem firstI_ge {α : Type} {p : α → Prop} {l : List α} : 0 ≤ firstI p l ↔ ∃ v ∈ l, p v := by
  rcases firstI_spec p l with ⟨h1, h2, ⟨v, h3, h4⟩, h5⟩ | ⟨h1, h2⟩
  · exact ⟨fun _ => ⟨v, List.mem_of_getElem? h3, h4⟩, fun _ => h1⟩
  · refine ⟨fun h => by omega, fun ⟨v, hv, hp⟩ => ?_⟩
    obtain ⟨j, hj⟩ := List.getElem?_of_mem hv
    exact (h2 j v hj hp).elim
/-- What is left of a plan, from a state on. -/
noncomputable def runG : List Vis → Int → Bool → List (List Int) → Int × Int
  | _, most, miss, [] => if miss = true then (0, 3) else (most, 0)
  | now, most, miss, x :: p => if ¬ (0 ≤ x.getD 0 0 ∧ x.getD 0 0 ≤ 99999) then (0, 2) else
    match now[(visAt now (x.getD 1 0)).toNat]? with
    | some v => if visAt now (x.getD 1 0) < 0 then runG now most true p else if x.getD 0 0 < v.last then (0, 2) else
        runG (now.set (visAt now (x.getD 1 0)).toNat ⟨v.aid, v.every, x.getD 0 0⟩) (max most (IntKind.i64.wrap (x.getD 0 0 - v.due))) miss p
    | none => runG now most true p
noncomputable def gdelay (l : List Vis) (p : List (List Int)) : Int × Int := if VisitsOk l then (if ∃ x ∈ p, x.length ≠ 2 then (0, 9) else runG l 0 false p) else (0, 1)
theorem runG_drop {p : List (List Int)} {i : Int} {x : List Int} (h0 : 0 ≤ i) (h : p[i.toNat]? = some x) (now : List Vis) (most : Int) (miss : Bool) : runG now most miss (p.drop i.toNat) = runG now most miss (x :: p.drop (i + 1).toNat) := by
  have hi := (List.getElem?_eq_some_iff.1 h).1
  rw [List.drop_eq_getElem_cons hi, (List.getElem?_eq_some_iff.1 h).2, show (i + 1).toNat = i.toNat + 1 by omega]
theorem runG_day {now : List Vis} {most : Int} {miss : Bool} {x : List Int} {p : List (List Int)} {d : Int} (h1 : x[(0 : Int).toNat]? = some d) (h : ¬ (0 ≤ d ∧ d ≤ 99999)) : runG now most miss (x :: p) = (0, 2) := by
  have : x.getD 0 0 = d := by rw [List.getD_eq_getElem?_getD]; simpa using congrArg (fun o => o.getD 0) h1
  rw [runG, this, if_pos h]
theorem runG_miss {now : List Vis} {most : Int} {miss : Bool} {x : List Int} {p : List (List Int)} {d a k : Int} (h1 : x[(0 : Int).toNat]? = some d) (h2 : x[(1 : Int).toNat]? = some a) (h : 0 ≤ d ∧ d ≤ 99999) (hk : k = visAt now a) (hk0 : k < 0) : runG now most miss (x :: p) = runG now most true p := by
  have e1 : x.getD 0 0 = d := by rw [List.getD_eq_getElem?_getD]; simpa using congrArg (fun o => o.getD 0) h1
  have e2 : x.getD 1 0 = a := by rw [List.getD_eq_getElem?_getD]; simpa using congrArg (fun o => o.getD 0) h2
  rw [runG, e1, e2, if_neg (by simpa using h), ← hk]
  split
  · rw [if_pos hk0]
  · rfl
theorem runG_hit {now : List Vis} {most : Int} {miss : Bool} {x : List Int} {p : List (List Int)} {d a k : Int} {v : Vis} (h1 : x[(0 : Int).toNat]? = some d) (h2 : x[(1 : Int).toNat]? = some a) (h : 0 ≤ d ∧ d ≤ 99999) (hk : k = visAt now a) (hk0 : 0 ≤ k) (hv : now[k.toNat]? = some v) :
    runG now most miss (x :: p) = if d < v.last then (0, 2) else runG (now.set k.toNat ⟨v.aid, v.every, d⟩) (max most (IntKind.i64.wrap (d - v.due))) miss p := by
  have e1 : x.getD 0 0 = d := by rw [List.getD_eq_getElem?_getD]; simpa using congrArg (fun o => o.getD 0) h1
  have e2 : x.getD 1 0 = a := by rw [List.getD_eq_getElem?_getD]; simpa using congrArg (fun o => o.getD 0) h2
  rw [runG, e1, e2, if_neg (by simpa using h), ← hk, hv]
  simp only
  rw [if_neg (by omega)]
def two (q : Int × Int) : AV := .tup [.int .i64 q.1, .int .i64 q.2]
theorem NoB.two (q : Int × Int) : NoB (two q) := .tupC (.int _ _) (.tupC (.int _ _) .tup0)
theorem szLs_ok {l : List (List Int)} {n : Int} (h : ¬ (if n - (l.length : Int) < 0 then (-1 : Int) else szLs l (n - l.length)) < 0) : l.length ≤ n ∧ ∀ x ∈ l, (x.length : Int) ≤ n := by
  split at h
  · omega
  · have := szLs_all (l := l) (n := n - l.length) (by omega) h
    exact ⟨by omega, fun x hx => by have := this x hx; omega⟩
end Go.Proofs.Ytehobmjmhjgnoaa
