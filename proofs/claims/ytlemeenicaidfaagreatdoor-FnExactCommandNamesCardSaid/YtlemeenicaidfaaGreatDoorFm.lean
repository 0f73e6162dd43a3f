/- Contracts: the greatest delay. -/
import Derived.Test.YtlemeenicaidfaaGreatDoorFk
namespace Go.Proofs.YtlemeenicaidfaaGreatDoor
open Go Go.RowKit Classical
set_option maxRecDepth 100000
set_option maxHeartbeats 2000000
set_option linter.unusedVariables false
set_option linter.unusedSimpArgs false
theorem Vis.nown (l : List Vis) : ∀ e ∈ l.map Vis.cs, ∀ c ∈ e, c.isOwn = false := fun e he c hc => by
  obtain ⟨v, _, rfl⟩ := List.mem_map.1 he
  simp only [Vis.cs, List.mem_cons, List.not_mem_nil, or_false] at hc
  rcases hc with rfl | rfl | rfl <;> rfl
theorem cloneVis_ [St] {rs : List (List AV)} {t : Bool} {l : List Vis} (hl : rs = l.map Vis.cs) (hb0 : l.length ≤ 1048576) : AP 136 [.sl t 3 rs] (fun l : List Vis => .sl true 3 (l.map Vis.cs)) l := by
  refine ac Tryz.func136 (.rows .vis) fun E K hE hK => ?_
  refine lenL hl fun n hn hb => ?_
  conv => cbv
  refine makeI (by omega) fun es hes => ?_
  conv => cbv
  refine noownI (by rw [hl]; exact Vis.nown l) ?_
  conv => cbv
  refine catL (l := []) (R := Vis.cs) (by rw [hes]; rfl) hl (by simp; omega) fun es2 hes2 => ?_
  conv => cbv
  exact hK _ (by rw [hes2]; rfl)
theorem indexLL_ [St] {rs : List (List AV)} {t b : Bool} {l : List (List Int)} {g : FuncId} {p : List Int → Prop} (hl : rs = l.map (llR b)) (hp : ∀ (x : List Int) rx, rx = x.map intR → AC Tryz.prog g [.sl b 1 rx] AV.bool (bP (p x))) : AP 458 [.sl t 1 rs, .fn g []] (AV.int .i64) (firstI p l) := by
  refine a0 Tryz.func458 fun E K hE hK => ?_
  refine lenL hl fun n hn hb => ?_
  conv => cbv
  refine loopK (ι := Int) [0, 1, 7, 8] (fun i => ⟨reF _ [(0, .sl t 1 rs), (1, .fn g []), (7, .int .i64 n), (8, .int .i64 i)], []⟩) (fun i => (l.length - i).toNat) (fun i => 0 ≤ i ∧ Up (fun j => ∀ v, l[j]? = some v → ¬ p v) i) [] (by decide) 0 rfl ⟨by omega, .zero (by omega)⟩ fun i hi Kn hN => ?_
  obtain ⟨h0, hinv⟩ := hi
  conv => cbv
  repeat' first
    | ( refine hN _ _ [] (by decide) rfl ?_ ?_)
    | ((first
   | refine idxLL (by assumption) (by omega) (fun x _ hx _ => ?_)
   | refine callP (hp _ _ (by assumption)) (fun _ => ?_) (fun _ => ?_)
   | refine B0 ?_|refine B1 ?_ ?_) <;> intros <;> (try conv => cbv))
  · refine hK _ ?_
    rw [firstI_in h0 (by assumption) (by assumption) hinv]; rfl
  · refine ⟨by omega, hinv.succ ?_ (by assumption)⟩
    grind
  · omega
  · refine hK _ ?_
    rw [firstI_out (by omega) hinv]; rfl
theorem firstI_ge {α : Type} {p : α → Prop} {l : List α} : 0 ≤ firstI p l ↔ ∃ v ∈ l, p v := by
  rcases firstI_spec p l with ⟨h1, h2, ⟨v, h3, h4⟩, h5⟩ | ⟨h1, h2⟩
  · exact ⟨fun _ => ⟨v, List.mem_of_getElem? h3, h4⟩, fun _ => h1⟩
  · refine ⟨fun h => by omega, fun ⟨v, hv, hp⟩ => ?_⟩
    obtain ⟨j, hj⟩ := List.getElem?_of_mem hv
    exact (h2 j v hj hp).elim
/-- What is left of a plan, from a state on. -/
noncomputable def runG : List Vis → Int → Bool → List (List Int) → Int × Int
  | _, most, miss, [] => if miss = true then (0, 3) else (most, 0)
  | now, most, miss, x :: p => if ¬ (0 ≤ x.getD 0 0 ∧ x.getD 0 0 ≤ 99999) then (0, 2) else
    match now[(visAt now (x.getD 1 0)).toNat]? with
    | some v => if visAt now (x.getD 1 0) < 0 then runG now most true p else if x.getD 0 0 < v.last then (0, 2) else
        runG (now.set (visAt now (x.getD 1 0)).toNat ⟨v.aid, v.every, x.getD 0 0⟩) (max most (IntKind.i64.wrap (x.getD 0 0 - v.due))) miss p
    | none => runG now most true p
noncomputable def gdelay (l : List Vis) (p : List (List Int)) : Int × Int := if VisitsOk l then (if ∃ x ∈ p, x.length ≠ 2 then (0, 9) else runG l 0 false p) else (0, 1)
theorem runG_drop {p : List (List Int)} {i : Int} {x : List Int} (h0 : 0 ≤ i) (h : p[i.toNat]? = some x) (now : List Vis) (most : Int) (miss : Bool) : runG now most miss (p.drop i.toNat) = runG now most miss (x :: p.drop (i + 1).toNat) := by
  have hi := (List.getElem?_eq_some_iff.1 h).1
  rw [List.drop_eq_getElem_cons hi, (List.getElem?_eq_some_iff.1 h).2, show (i + 1).toNat = i.toNat + 1 by omega]
theorem runG_day {now : List Vis} {most : Int} {miss : Bool} {x : List Int} {p : List (List Int)} {d : Int} (h1 : x[(0 : Int).toNat]? = some d) (h : ¬ (0 ≤ d ∧ d ≤ 99999)) : runG now most miss (x :: p) = (0, 2) := by
  have : x.getD 0 0 = d := by rw [List.getD_eq_getElem?_getD]; simpa using congrArg (fun o => o.getD 0) h1
  rw [runG, this, if_pos h]
theorem runG_miss {now : List Vis} {most : Int} {miss : Bool} {x : List Int} {p : List (List Int)} {d a k : Int} (h1 : x[(0 : Int).toNat]? = some d) (h2 : x[(1 : Int).toNat]? = some a) (h : 0 ≤ d ∧ d ≤ 99999) (hk : k = visAt now a) (hk0 : k < 0) : runG now most miss (x :: p) = runG now most true p := by
  have e1 : x.getD 0 0 = d := by rw [List.getD_eq_getElem?_getD]; simpa using congrArg (fun o => o.getD 0) h1
  have e2 : x.getD 1 0 = a := by rw [List.getD_eq_getElem?_getD]; simpa using congrArg (fun o => o.getD 0) h2
  rw [runG, e1, e2, if_neg (by simpa using h), ← hk]
  split
  · rw [if_pos hk0]
  · rfl
theorem runG_hit {now : List Vis} {most : Int} {miss : Bool} {x : List Int} {p : List (List Int)} {d a k : Int} {v : Vis} (h1 : x[(0 : Int).toNat]? = some d) (h2 : x[(1 : Int).toNat]? = some a) (h : 0 ≤ d ∧ d ≤ 99999) (hk : k = visAt now a) (hk0 : 0 ≤ k) (hv : now[k.toNat]? = some v) :
    runG now most miss (x :: p) = if d < v.last then (0, 2) else runG (now.set k.toNat ⟨v.aid, v.every, d⟩) (max most (IntKind.i64.wrap (d - v.due))) miss p := by
  have e1 : x.getD 0 0 = d := by rw [List.getD_eq_getElem?_getD]; simpa using congrArg (fun o => o.getD 0) h1
  have e2 : x.getD 1 0 = a := by rw [List.getD_eq_getElem?_getD]; simpa using congrArg (fun o => o.getD 0) h2
  rw [runG, e1, e2, if_neg (by simpa using h), ← hk, hv]
  simp only
  rw [if_neg (by omega)]
def two (q : Int × Int) : AV := .tup [.int .i64 q.1, .int .i64 q.2]
theorem NoB.two (q : Int × Int) : NoB (two q) := .tupC (.int _ _) (.tupC (.int _ _) .tup0)
theorem szLs_ok {l : List (List Int)} {n : Int} (h : ¬ (if n - (l.length : Int) < 0 then (-1 : Int) else szLs l (n - l.length)) < 0) : l.length ≤ n ∧ ∀ x ∈ l, (x.length : Int) ≤ n := by
  split at h
  · omega
  · have := szLs_all (l := l) (n := n - l.length) (by omega) h
    exact ⟨by omega, fun x hx => by have := this x hx; omega⟩
end Go.Proofs.YtlemeenicaidfaaGreatDoor
