/- Contracts: functions of the library over texts, from the shelf. -/
import Derived.Test.YtoafgafkmeghlaaGreatDoorShk
import Derived.Shelf.Small.Strs
import Derived.Shelf.Strings.Search3
import Derived.Shelf.Strings.SplitShaped
namespace Go.Proofs.YtoafgafkmeghlaaGreatDoor
open Go Go.RowKit Classical
set_option maxRecDepth 100000
set_option maxHeartbeats 2000000
set_option linter.unusedVariables false
set_option linter.unusedSimpArgs false
theorem indexByte_ (s : ByteArray) (c : Int) : AC Tryz.prog 238 [.str s, .int .u8 c] (AV.int .i64) (Lib.indexByte s.data.toList c.toNat.toUInt8) :=
  AC.same (fun xs w => enters_go Tryz.func238 (by kernel_rfl) rfl xs w) fun w vs _ hr => by
    obtain ⟨u, v, rfl, h1, h2⟩ := rel2 hr
    cases h1
    cases h2
    exact ⟨_, .int _ _, rfl, Any.strings_IndexByte Tryz.indexByte s c w⟩
theorem containsOne_ (s : ByteArray) (c : UInt8) : AC Tryz.prog 63 [.str s, .str ⟨#[c]⟩] AV.bool (decide (0 ≤ Lib.indexByte s.data.toList c)) :=
  AC.same (fun xs w => enters_go Tryz.func63 (by kernel_rfl) rfl xs w) fun w vs _ hr => by
    obtain ⟨u, v, rfl, h1, h2⟩ := rel2 hr
    cases h1
    cases h2
    exact ⟨_, .bool _, rfl, Any.strings_Contains_one Tryz.containsOne s c w⟩
def fieldsOf (s : ByteArray) : List ByteArray := (Lib.fields s.data.toList).map fun l => (⟨l.toArray⟩ : ByteArray)
theorem fields_ (s : ByteArray) (hs : s.size < 4294967281) (hascii : ∀ (j : Nat) b, s.data.toList[j]? = some b → b.toNat < 128) (hn : (fieldsOf s).length ≤ maxLen) (hl : ∀ x ∈ fieldsOf s, x.size ≤ maxLen) :
    AC Tryz.prog 212 [.str s] (fun l : List ByteArray => .sl true 1 (l.map strR)) (fieldsOf s) :=
  ⟨fun xs w => enters_go Tryz.func212 (by kernel_rfl) rfl xs w, fun w vs hg hr => by
    obtain ⟨v, rfl, h1⟩ := rel1 hr
    cases h1
    refine (Any.strings_Fields_laid Tryz.fields s w hs hascii hg.tabs).mono ?_
    rintro e w' ⟨rfl, rfl⟩
    refine ⟨_, fun b => b = w.heap.size, rfl, Keeps.alloc _ _ _, ?_, fun b hb => by subst hb; simp⟩
    have hlen : ((fieldsOf s).map strR).length = (Lib.fields s.data.toList).length := by simp [fieldsOf]
    have key := XRel.sl (w := w.alloc (.cells ((Lib.fields s.data.toList).map fun l => Value.string ⟨l.toArray⟩).toArray (Tryz.fields_ren.t 9))) (A := fun _ => False) 1 ((fieldsOf s).map strR) (Lib.fields s.data.toList).length w.heap.size _ _ (fun b => b = w.heap.size) (fun _ _ _ => False) (heap_alloc_new w _)
      (by rw [List.length_map]; exact hn) (by rw [hlen]; exact Nat.le_refl _) (by simp) (fun e he => by obtain ⟨x, _, rfl⟩ := List.mem_map.1 he; rfl) (fun i j hi hj => ?_) (fun i j e a he ha => ?_) (fun x => ⟨.inl, fun h => h.elim id fun ⟨_, _, _, _, h⟩ => h.elim⟩) (fun _ _ _ _ h => h) (fun _ _ _ _ _ _ _ _ _ h => h.elim)
    · rw [hlen] at key; exact key
    · rw [hlen] at hi
      have : j = 0 := by omega
      subst this
      simp [Array.getD, hi, Value.oneCell']
    · rw [List.getElem?_map] at he
      cases hx : (fieldsOf s)[i]? with
      | none => rw [hx] at he; cases he
      | some x =>
        rw [hx] at he; cases he
        have hx2 := hl x (List.mem_of_getElem? hx)
        cases j with
        | zero =>
          cases ha
          unfold fieldsOf at hx
          rw [List.getElem?_map] at hx
          cases hy : (Lib.fields s.data.toList)[i]? with
          | none => rw [hy] at hx; cases hx
          | some y =>
            rw [hy] at hx; cases hx
            have e : ((Lib.fields s.data.toList).map fun l => Value.string ⟨l.toArray⟩).toArray.getD (i * 1 + 0) undef = Value.string ⟨y.toArray⟩ := by
              rw [Array.getD_eq_getD_getElem?, List.getElem?_toArray, List.getElem?_map, Nat.mul_one, Nat.add_zero, hy]; rfl
            rw [e]
            exact .pure _ _ _ (.str _ hx2) rfl (fun _ h => h)
        | succ j => simp [strR] at ha⟩
end Go.Proofs.YtoafgafkmeghlaaGreatDoor
