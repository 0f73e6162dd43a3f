/- Contracts: numbers in decimal (over the shelf), the reference's decimals. -/
import Derived.Test.YtnfjhadaclcgeaaGreatDoorShk
import Derived.Test.YtnfjhadaclcgeaaGreatDoorDcd
import Derived.Shelf.Strconv.Itoa4
namespace Go.Proofs.YtnfjhadaclcgeaaGreatDoor
open Go Go.RowKit Go.Sort Go.Shelf Go.Proofs Classical
set_option maxRecDepth 100000
set_option maxHeartbeats 2000000
set_option linter.unusedVariables false
set_option linter.unusedSimpArgs false
/-- Nothing old has turned, and no draw is taken back. -/
def On (w w' : World) : Prop := Below w.heap.size w w' ∧ w.drawn ≤ w'.drawn
theorem On.trans {a b c : World} (h : On a b) (k : On b c) : On a c := ⟨h.1.trans (k.1.mono h.1.size), Nat.le_trans h.2 k.2⟩
theorem frz_old {w w' : World} (h : ∀ x, x < w.heap.size → w'.heap[x]? = w.heap[x]?) (a : Addr) (ha : a.block < w.heap.size) : w'.frozen? a = w.frozen? a := by
  unfold World.frozen?
  rw [h _ ha]
theorem On.keeps {w w' : World} (h : On w w') : Keeps (fun _ => False) w w' :=
  ⟨h.1.os, h.1.tape, h.1.output, h.1.size, fun x hx _ => h.1.block x hx, fun a ha => frz_old h.1.block a ha, DrawLe.of h.2⟩
theorem grow_on (w : World) (k : Nat) (os : Array Go.Obj) : On w (grow (w.drewN k) os) :=
  ⟨⟨rfl, rfl, rfl, by simp [grow, World.drewN], fun x hx => by simp [grow, World.drewN, Array.getElem?_append, hx]⟩, by simp [grow, World.drewN]⟩
theorem On.refl (w : World) : On w w := ⟨Below.refl _ _, Nat.le_refl _⟩
/-- From a contract that returns a flat value and turns nothing old. -/
theorem AC.onto {P : Program} {f : FuncId} {us : List AV} {α : Type} {R : α → AV} {x : α} (hent : Enters P f) (h : ∀ w vs, GOK w → RelL w (fun b => b < w.heap.size) us vs → ∃ v, (∀ w', XRel w' (fun _ => False) (R x) v (fun _ => False)) ∧ Calls P f vs w fun e w' => e = .returned v ∧ On w w') : AC P f us R x :=
  ⟨hent, fun w vs hg hr => by
    obtain ⟨v, h1, h3⟩ := h w vs hg hr
    refine h3.mono ?_
    rintro e w' ⟨rfl, hk⟩
    exact ⟨v, fun _ => False, rfl, hk.keeps, h1 w', fun _ h => h.elim⟩⟩
theorem formatInt_ (n : Int) (h : -9223372036854775808 ≤ n ∧ n ≤ 9223372036854775807) : AC Tryz.prog 75 [.int .i64 n, .int .i64 10] AV.str (decS n) :=
  AC.onto (fun xs w => enters_go Tryz.func75 (by kernel_rfl) rfl xs w) fun w vs hg hr => by
    obtain ⟨u, v, rfl, h1, h2⟩ := rel2 hr
    cases h1
    cases h2
    refine ⟨_, fun w' => .pure _ _ _ (.str _ (Nat.le_trans (decS_size h) (by decide))) rfl (fun _ h => h), (Any.strconv_FormatInt_10 Tryz.formatInt n h.1 h.2 w hg.pow10).mono ?_⟩
    rintro e w' ⟨rfl, k, os, rfl⟩
    exact ⟨rfl, grow_on _ _ _⟩
theorem decimal_ (n : Int) (h : -9223372036854775808 ≤ n ∧ n ≤ 9223372036854775807) : AP 48 [.int .i64 n] AV.str (decS n) := by
  refine a0 Tryz.func48 fun E K hE hK => ?_
  repeat' first
    | ((first
   | refine callI (formatInt_ _ h) (fun _ _ => ?_)
   | refine B0 ?_|refine B1 ?_ ?_) <;> intros <;> (try conv => cbv))
  all_goals exact hK _ (by simp [atup, *])
end Go.Proofs.YtnfjhadaclcgeaaGreatDoor
