/- Rules: a row of an own list that is changed cell by cell. -/
import Derived.Test.YtnfjhadaclcgeaaGreatDoorQa
namespace Go.Proofs.YtnfjhadaclcgeaaGreatDoor
open Go Go.RowKit Classical
set_option maxRecDepth 100000
set_option maxHeartbeats 2000000
set_option linter.unusedVariables false
set_option linter.unusedSimpArgs false
section
variable {E : Env} {np : Nat} {P : Program}
theorem idxRS [hE : SE E np P] {es es' : List (List AV)} {i : Int} {e : List AV} {K : List AV → Prop} (hes : es' = es.set i.toNat e) (h : 0 ≤ i ∧ i < es.length) (hk : K e) : E.idx es' i K :=
  idxI h.1 (e := e) (by rw [hes, List.getElem?_set_self (by omega)]) hk
theorem updR0 [hE : SE E np P] {es : List (List AV)} {i : Int} {j : Nat} {cs e : List AV} {K : List (List AV) → Prop} (h : 0 ≤ i) (hv : es[i.toNat]? = some e) (hl : j + cs.length ≤ e.length)
    (hk : ∀ es', es' = es.set i.toNat (splice e j cs) → es'.length = es.length → K es') : E.upd es i j cs K := by
  cases hE.h
  exact ⟨h, e, hv, hl, hk _ rfl (by simp)⟩
theorem updRS [hE : SE E np P] {es es1 : List (List AV)} {i : Int} {j : Nat} {cs e : List AV} {K : List (List AV) → Prop} (hes : es1 = es.set i.toNat e) (h : 0 ≤ i ∧ i < es.length) (hl : j + cs.length ≤ e.length)
    (hk : ∀ es', es' = es.set i.toNat (splice e j cs) → es'.length = es.length → K es') : E.upd es1 i j cs K :=
  updR0 h.1 (by rw [hes, List.getElem?_set_self (by omega)]) hl fun es' h1 h2 => hk es' (by rw [h1, hes, List.set_set]) (by rw [h2, hes, List.length_set])
end
end Go.Proofs.YtnfjhadaclcgeaaGreatDoor
