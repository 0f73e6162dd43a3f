/- A sorted row of names, as the layer speaks of it. -/
import Derived.Test.YtlemeenicaidfaaGreatDoorAxU
import Derived.Laws.AppendOwn
namespace Go.Proofs.YtlemeenicaidfaaGreatDoor
open Go Go.RowKit
set_option maxRecDepth 100000
set_option maxHeartbeats 2000000
set_option linter.unusedVariables false
set_option linter.unusedSimpArgs false
theorem row_xrel {w : World} {base g cap n : Nat} {e : TypeId} {l : List ByteArray} {xs : List Value} (h : w.ownsRow base e 1 (.slice (some ⟨g, 0, none⟩) n cap) n xs) (hn : n = l.length) (hx : xs = l.map fun s => .string s) (hz : ∀ s ∈ l, s.size ≤ maxLen) (hl : l.length ≤ maxLen) :
    XRel w (fun _ => False) (.sl true 1 (l.map fun s => [.str s])) (.slice (some ⟨g, 0, none⟩) n cap) (fun x => x = g) ∧ base ≤ g ∧ g < w.heap.size := by
  subst hx hn
  rcases h.2 with ⟨h0, _⟩ | ⟨g', cap', cur, h0, hb, hc, h1, h2, h3, h4⟩
  · cases h0
  · cases h0
    have hlt : g < w.heap.size := by
      rcases Nat.lt_or_ge g w.heap.size with h | h
      · exact h
      · rw [Array.getElem?_eq_none h] at hc; cases hc
    refine ⟨?_, hb, hlt⟩
    have hcell : ∀ i (s : ByteArray), l[i]? = some s → cur.getD (i * 1 + 0) undef = .string s := fun i s hs => by
      have hi := (List.getElem?_eq_some_iff.1 hs).1
      have h5 : (cur.toList.take (l.length * 1))[i]? = some (Value.string s) := by rw [h4, List.getElem?_map, hs]; rfl
      rw [List.getElem?_take, if_pos (by omega), Array.getElem?_toList] at h5
      rw [Array.getD_eq_getD_getElem?, Nat.mul_one, Nat.add_zero, h5]; rfl
    have key := XRel.sl (w := w) (A := fun _ => False) 1 (l.map fun s => [AV.str s]) cap g e cur (fun x => x = g) (fun _ _ _ => False) hc (by simpa using hl) (by simpa using h1) (by omega) (fun e he => by
      obtain ⟨s, _, rfl⟩ := List.mem_map.1 he; rfl) (fun i j hi hj => by
      obtain rfl : j = 0 := by omega
      rw [List.length_map] at hi
      rw [hcell i _ (List.getElem?_eq_getElem hi)]; rfl) (fun i j e a he ha => by
      rw [List.getElem?_map] at he
      obtain ⟨s, hs, rfl⟩ := Option.map_eq_some_iff.1 he
      match j, ha with
      | 0, ha =>
        simp at ha; subst ha
        rw [hcell i s hs]
        exact .pure _ _ _ (.str s (hz s (List.mem_of_getElem? hs))) rfl (fun _ h => h)) (fun x => ⟨.inl, fun h => h.elim id fun ⟨_, _, _, _, h⟩ => h.elim⟩) (fun _ _ _ _ h => h) (fun _ _ _ _ _ _ _ _ _ h => h.elim)
    rwa [List.length_map] at key
end Go.Proofs.YtlemeenicaidfaaGreatDoor
