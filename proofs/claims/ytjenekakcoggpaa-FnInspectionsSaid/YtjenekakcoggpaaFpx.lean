/- Contracts: a plan of inspections by the reference; the law. -/
import Derived.Test.YtjenekakcoggpaaFpw
namespace Go.Proofs.Ytjenekakcoggpaa
open Go Go.RowKit Go.Sort Classical
set_option maxRecDepth 100000
set_option maxHeartbeats 2000000
set_option linter.unusedVariables false
set_option linter.unusedSimpArgs false
theorem ord_at {now : List Vis} {D day j q : Int} {ps : List Int} {v : Vis} (hq : (ordTo now D now.length)[j.toNat]? = some q) (hv : (markV now ps day)[q.toNat]? = some v) : ((dueM now D).map Vis.aid)[j.toNat]? = some v.aid := by
  obtain ⟨w, h1, h2, _⟩ := markV_get hv
  unfold dueM
  rw [List.getElem?_map, List.getElem?_map, hq]
  show some (vAt now q).aid = _
  rw [vAt_eq h1, h2]
theorem picks_take {now : List Vis} {D room j : Int} (h : (((ordTo now D now.length).length : Int) ≤ j ∧ j ≤ room) ∨ j = room) : ((dueM now D).map Vis.aid).take j.toNat = picksR now D room := by
  unfold picksR
  rw [← List.map_take]
  congr 1
  rcases h with ⟨h1, h2⟩ | h
  · have hl : (dueM now D).length ≤ j.toNat := by unfold dueM; rw [List.length_map]; omega
    rw [List.take_of_length_le hl, List.take_of_length_le (by omega)]
  · rw [h]
theorem mark_step {now : List Vis} (hok : VisitsOk now) {Q : List Int} {day j n : Int} {k : Nat} {u : Vis} (hu : (markV now (Q.take j.toNat) day)[k]? = some u) (hq : Q[j.toNat]? = some u.aid) (h0 : 0 ≤ j) (hn : n = j + 1) : (markV now (Q.take j.toNat) day).set k ⟨u.aid, u.every, day⟩ = markV now (Q.take n.toNat) day := by
  have e := (take_row (plan := []) (day := day) h0 hq hn).2
  rw [e]; exact markV_set hok hu
theorem upNo {α : Type} {l : List α} {p : α → Prop} {i : Int} (h : Up (fun j => ∀ w, l[j]? = some w → ¬ p w) i) (hi : l.length ≤ i) : ¬ ∃ w ∈ l, p w := fun ⟨w, hw, hp⟩ => by
  obtain ⟨j, hj⟩ := List.getElem?_of_mem hw
  have := (List.getElem?_eq_some_iff.1 hj).1
  exact h j (by omega) w hj hp
end Go.Proofs.Ytjenekakcoggpaa
