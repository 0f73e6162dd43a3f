/- The two maps of commands, as the calls make them. -/
import Derived.Test.YtlemeenicaidfaaGreatDoorShk
import Derived.Maps.RangeWalk
import Derived.Maps.AppendAt
import Derived.Sort.KeysCollected
import Derived.Sort.OwnSorted
import Derived.WalkKit
import Derived.StringKeys
namespace Go.Proofs.YtlemeenicaidfaaGreatDoor
open Go Go.RowKit Go.Maps Go.WideMaps Go.Sort Go.Proofs
set_option maxRecDepth 100000
set_option maxHeartbeats 2000000
set_option linter.unusedVariables false
set_option linter.unusedSimpArgs false
set_option linter.unusedVariables false
theorem lawS : Keyed Tryz.prog 9 := string_keyed Tryz.underlying9
/-- What an element reads as: nothing is said of it. -/
def anyR (_ : Value) : Option (DataW Unit × List MemPlace) := some (.lit (.bool true), [])
/-- An entry of a map literal. -/
theorem wpList_insert_own {H : Type} {P : Program} (w : World) {ops : Array Oper} {rest : List Oper} {o : Oper} {a : Act} {Q : Exit → Act → World → Prop}
    (hg : o.guard = none) (m x v : Operand) (t : TypeId) (hop : o.op = Op.insert t m x v)
    (k e : TypeId) (K : Keyed P k) (ht : P.underlying t = some (.map k e)) (R : Value → Option (DataW H × List MemPlace)) (b n : Nat) (D : DataW H)
    (hm : a.eval m = .map (some b)) (hown : w.ownsMap P k R b n D) (hn : n < maxLen) (key val : Value) (kl : Lit) (hx : a.eval x = key) (hv : a.eval v = val) (hkey : keyOf P k key = some kl)
    (d : DataW H) (ps : List MemPlace) (hval : R val = some (d, ps))
    (hK : ∀ w', w'.ownsMap P k R b (n + 1) (D.put kl d) → w.grownBy w' (some b) → wpList P ops Q rest (a.put o.dst undef) w') :
    wpList P ops Q (o :: rest) a w := by
  refine wpList_plain hg fun K' hK' => ?_
  obtain ⟨w', hrun, r1, r2⟩ := hown.update K ht hn hkey hval
  unfold Oper.wp
  simp [execOp, hop, hm, hx, hv, hrun, Result.andThen]
  exact hK' _ _ (hK w' r1 r2)
def bytesL (l : List String) : List (List UInt8) := l.map fun s => s.toUTF8.data.toList
def actN : List (List UInt8) := bytesL ["active", "audit", "away", "cancel", "day", "due", "duties", "fault", "help", "list", "observer", "remove", "repair", "seen", "tolerance", "visited"]
def txtN : List (List UInt8) := bytesL ["aid", "danger", "duty", "notice", "recognize", "visit", "warning"]
set_option maxHeartbeats 4000000 in
theorem actions_calls (w : World) : Calls Tryz.prog 9 #[] w fun e w' => e = .returned (.map (some w.heap.size)) ∧ (∃ D, w'.ownsMap Tryz.prog 9 anyR w.heap.size 16 D ∧ strKeys D = actN ∧ Maps.size D = 16) ∧ w.grownBy w' none := by
  have hmm := @run_makeMap Tryz.prog
  have hown := World.ownsMap_made w Tryz.prog 9 anyR
  have hgw := World.grownBy_alloc w (.map #[] 0) none
  go_enter Tryz.func9, Tryz.ntmps9
  go_wp2_with (first
    | (refine wpList_insert_own _ rfl _ _ _ 27 rfl 9 37 lawS Tryz.underlying27 anyR w.heap.size _ _ rfl hown (by decide) _ _ _ rfl rfl (keyOf_string_mk Tryz.underlying9 (by decide)) _ _ rfl ?_; intro w1 hown1 hgrow1; have hgw := hgw.andThen hgrow1 (fun j hj => .inl (by cases hj; exact Nat.le_refl _)); clear hown hgrow1; have hown := hown1; clear hown1)
    | go_in)
  go_ret
  exact ⟨rfl, ⟨_, hown, by rfl, by rfl⟩, hgw⟩
theorem taking_0 (p q : Nat) (w : World) : Calls Tryz.prog 29 #[.func (.func p) #[] #[], .func (.func q) #[] #[]] w fun e w' => (∃ x, e = .returned x) ∧ w.grownBy w' none := by
  go_enter Tryz.func29, Tryz.ntmps29
  go_wp2
  go_ret
  exact ⟨⟨_, rfl⟩, (World.grownBy_alloc _ _ _).trans (World.grownBy_alloc _ _ _)⟩
theorem taking_1 (p q : Nat) (w : World) : Calls Tryz.prog 34 #[.func (.func p) #[] #[], .func (.func q) #[] #[]] w fun e w' => (∃ x, e = .returned x) ∧ w.grownBy w' none := by
  go_enter Tryz.func34, Tryz.ntmps34
  go_wp2
  go_ret
  exact ⟨⟨_, rfl⟩, (World.grownBy_alloc _ _ _).trans (World.grownBy_alloc _ _ _)⟩
theorem taking_2 (p q : Nat) (w : World) : Calls Tryz.prog 39 #[.func (.func p) #[] #[], .func (.func q) #[] #[]] w fun e w' => (∃ x, e = .returned x) ∧ w.grownBy w' none := by
  go_enter Tryz.func39, Tryz.ntmps39
  go_wp2
  go_ret
  exact ⟨⟨_, rfl⟩, (World.grownBy_alloc _ _ _).trans (World.grownBy_alloc _ _ _)⟩
theorem taking_3 (p q : Nat) (w : World) : Calls Tryz.prog 44 #[.func (.func p) #[] #[], .func (.func q) #[] #[]] w fun e w' => (∃ x, e = .returned x) ∧ w.grownBy w' none := by
  go_enter Tryz.func44, Tryz.ntmps44
  go_wp2
  go_ret
  exact ⟨⟨_, rfl⟩, (World.grownBy_alloc _ _ _).trans (World.grownBy_alloc _ _ _)⟩
theorem taking_4 (p q : Nat) (w : World) : Calls Tryz.prog 49 #[.func (.func p) #[] #[], .func (.func q) #[] #[]] w fun e w' => (∃ x, e = .returned x) ∧ w.grownBy w' none := by
  go_enter Tryz.func49, Tryz.ntmps49
  go_wp2
  go_ret
  exact ⟨⟨_, rfl⟩, (World.grownBy_alloc _ _ _).trans (World.grownBy_alloc _ _ _)⟩
theorem taking_5 (p q : Nat) (w : World) : Calls Tryz.prog 54 #[.func (.func p) #[] #[], .func (.func q) #[] #[]] w fun e w' => (∃ x, e = .returned x) ∧ w.grownBy w' none := by
  go_enter Tryz.func54, Tryz.ntmps54
  go_wp2
  go_ret
  exact ⟨⟨_, rfl⟩, (World.grownBy_alloc _ _ _).trans (World.grownBy_alloc _ _ _)⟩
theorem taking_6 (p q : Nat) (w : World) : Calls Tryz.prog 59 #[.func (.func p) #[] #[], .func (.func q) #[] #[]] w fun e w' => (∃ x, e = .returned x) ∧ w.grownBy w' none := by
  go_enter Tryz.func59, Tryz.ntmps59
  go_wp2
  go_ret
  exact ⟨⟨_, rfl⟩, (World.grownBy_alloc _ _ _).trans (World.grownBy_alloc _ _ _)⟩
set_option maxHeartbeats 4000000 in
theorem texts_calls (w : World) : Calls Tryz.prog 10 #[] w fun e w' => e = .returned (.map (some w.heap.size)) ∧ (∃ D, w'.ownsMap Tryz.prog 9 anyR w.heap.size 7 D ∧ strKeys D = txtN ∧ Maps.size D = 7) ∧ w.grownBy w' none := by
  have hmm := @run_makeMap Tryz.prog
  have hown := World.ownsMap_made w Tryz.prog 9 anyR
  have hgw := World.grownBy_alloc w (.map #[] 0) none
  go_enter Tryz.func10, Tryz.ntmps10
  go_wp2_with (first
    | (refine wpList_insert_own _ rfl _ _ _ 29 rfl 9 39 lawS Tryz.underlying29 anyR w.heap.size _ _ rfl hown (by decide) _ _ _ rfl rfl (keyOf_string_mk Tryz.underlying9 (by decide)) _ _ rfl ?_; intro w1 hown1 hgrow1; have hgw := hgw.andThen hgrow1 (fun j hj => .inl (by cases hj; exact Nat.le_refl _)); clear hown hgrow1; have hown := hown1; clear hown1)
    | (go_at_call 29; refine (taking_0 _ _ _).mono ?_; rintro e w2 ⟨⟨x, rfl⟩, hg2⟩; have hgw := hgw.andThen hg2 (fun j hj => by cases hj); have hown2 := hown.kept hg2 (by simp); clear hown hg2; have hown := hown2; clear hown2)
    | (go_at_call 34; refine (taking_1 _ _ _).mono ?_; rintro e w2 ⟨⟨x, rfl⟩, hg2⟩; have hgw := hgw.andThen hg2 (fun j hj => by cases hj); have hown2 := hown.kept hg2 (by simp); clear hown hg2; have hown := hown2; clear hown2)
    | (go_at_call 39; refine (taking_2 _ _ _).mono ?_; rintro e w2 ⟨⟨x, rfl⟩, hg2⟩; have hgw := hgw.andThen hg2 (fun j hj => by cases hj); have hown2 := hown.kept hg2 (by simp); clear hown hg2; have hown := hown2; clear hown2)
    | (go_at_call 44; refine (taking_3 _ _ _).mono ?_; rintro e w2 ⟨⟨x, rfl⟩, hg2⟩; have hgw := hgw.andThen hg2 (fun j hj => by cases hj); have hown2 := hown.kept hg2 (by simp); clear hown hg2; have hown := hown2; clear hown2)
    | (go_at_call 49; refine (taking_4 _ _ _).mono ?_; rintro e w2 ⟨⟨x, rfl⟩, hg2⟩; have hgw := hgw.andThen hg2 (fun j hj => by cases hj); have hown2 := hown.kept hg2 (by simp); clear hown hg2; have hown := hown2; clear hown2)
    | (go_at_call 54; refine (taking_5 _ _ _).mono ?_; rintro e w2 ⟨⟨x, rfl⟩, hg2⟩; have hgw := hgw.andThen hg2 (fun j hj => by cases hj); have hown2 := hown.kept hg2 (by simp); clear hown hg2; have hown := hown2; clear hown2)
    | (go_at_call 59; refine (taking_6 _ _ _).mono ?_; rintro e w2 ⟨⟨x, rfl⟩, hg2⟩; have hgw := hgw.andThen hg2 (fun j hj => by cases hj); have hown2 := hown.kept hg2 (by simp); clear hown hg2; have hown := hown2; clear hown2)
    | go_in)
  go_ret
  exact ⟨rfl, ⟨_, hown, by rfl, by rfl⟩, hgw⟩
end Go.Proofs.YtlemeenicaidfaaGreatDoor
