/- Texts joined, divided into a fixed number of parts, cut once (over the shelf). -/
import Derived.Test.YthiecdiiindegaaGreatDoorRdc
import Derived.Shelf.Strings.OnBuilder
import Derived.Shelf.Strings.Cut
namespace Go.Proofs.YthiecdiiindegaaGreatDoor
open Go Go.RowKit Go.Sort Go.Shelf Go.Proofs Classical
set_option maxRecDepth 100000
set_option maxHeartbeats 2000000
set_option linter.unusedVariables false
set_option linter.unusedSimpArgs false
set_option linter.unusedVariables false
/-! Plain. -/
theorem index_no {c : UInt8} : ∀ {x l : List UInt8}, (∀ b ∈ x, b ≠ c) → Lib.index (x ++ c :: l) [c] = ((x.length : Nat) : Int)
  | [], l, _ => by rw [List.nil_append, Lib.index]; simp [List.isPrefixOf]
  | b :: x, l, h => by
    have hb := h b (by simp)
    have ih := index_no (c := c) (x := x) (l := l) (fun b hb => h b (by simp [hb]))
    have hp : ([c] : List UInt8).isPrefixOf (b :: (x ++ c :: l)) = false := by simp [List.isPrefixOf, Ne.symm hb]
    rw [List.cons_append, Lib.index, hp, ih, if_neg (by simp), if_neg (fun e => by have := beq_iff_eq.1 e; omega)]
    simp
theorem splitK_one {c : UInt8} {x l : List UInt8} (k : Nat) (h : ∀ b ∈ x, b ≠ c) : Lib.splitK [c] 0 (k + 1) (x ++ c :: l) = x :: Lib.splitK [c] 0 k l := by
  rw [Lib.splitK, index_no h, if_neg (fun e => by have := beq_iff_eq.1 e; omega)]
  simp
theorem cut_one {c : UInt8} {x l : List UInt8} (h : ∀ b ∈ x, b ≠ c) : Lib.cut (x ++ c :: l) [c] = (x, l, true) := by
  unfold Lib.cut
  rw [index_no h, if_pos (by omega)]
  simp
/-! The functions. -/
theorem rel3 {w : World} {A : Nat → Prop} {a b c : AV} {vs : Array Value} (h : RelL w A [a, b, c] vs) : ∃ u v y, vs = #[u, v, y] ∧ Rel w A a u ∧ Rel w A b v ∧ Rel w A c y := by
  match vs, h with
  | ⟨[u, v, y]⟩, h => exact ⟨u, v, y, rfl, h.2 0 a rfl, h.2 1 b rfl, h.2 2 c rfl⟩
theorem drewN_on (w : World) (n : Nat) : On w (w.drewN n) := ⟨⟨rfl, rfl, rfl, Nat.le_refl _, fun _ _ => rfl⟩, by simp [World.drewN]⟩
theorem below_keeps {w w' : World} (h : Below w.heap.size w w') (hd : DrawLe w w') : Keeps (fun _ => False) w w' :=
  ⟨h.os, h.tape, h.output, h.size, fun x hx _ => h.block x hx, fun a ha => frz_old h.block a ha, hd⟩
/-- From a contract that returns a flat value and turns nothing old (where the count of draws does not matter). -/
theorem AC.ontoB {P : Program} {f : FuncId} {us : List AV} {α : Type} {R : α → AV} {x : α} (hd : ∀ w w', DrawLe w w') (hent : Enters P f) (h : ∀ w vs, GOK w → RelL w (fun b => b < w.heap.size) us vs → ∃ v, (∀ w', XRel w' (fun _ => False) (R x) v (fun _ => False)) ∧ Calls P f vs w fun e w' => e = .returned v ∧ Below w.heap.size w w') : AC P f us R x :=
  ⟨hent, fun w vs hg hr => by
    obtain ⟨v, h1, h3⟩ := h w vs hg hr
    refine h3.mono ?_
    rintro e w' ⟨rfl, hk⟩
    exact ⟨v, fun _ => False, rfl, below_keeps hk (hd _ _), h1 w', fun _ h => h.elim⟩⟩
def joinB (xs : List ByteArray) (sep : ByteArray) : ByteArray := ⟨(Lib.join (xs.map (·.data.toList)) sep.data.toList).toArray⟩
theorem builderExtra : Builder.Extra Tryz.prog Tryz.join_ren where
  sizeBuilder := by kernel_rfl
  liesBuilder := by kernel_rfl
  t5 := Tryz.join.t5
  a5 := Tryz.join.a5
  z5 := Tryz.join.z5
  v5 := Tryz.join.v5
  infoByte := by kernel_rfl
  cellsByte := by kernel_rfl
  sizeByte := by kernel_rfl
  neB5 := by decide
theorem join_ {rs : List (List AV)} {t : Bool} {xs : List ByteArray} (sep : ByteArray) (hd : ∀ w w', DrawLe w w') (hl : rs = xs.map strR) (hne : xs ≠ []) (hxl : xs.length ≤ 1000) (hz : (joinB xs sep).size ≤ 1048576) : AC Tryz.prog 39 [.sl t 1 rs, .str sep] AV.str (joinB xs sep) :=
  AC.ontoB hd (fun xs w => enters_go Tryz.func39 (by kernel_rfl) rfl xs w) fun w vs hg hr => by
    obtain ⟨u, v, rfl, h1, h2⟩ := rel2 hr
    cases h2
    subst hl
    clear hr
    cases h1 with
    | sl _ _ _ p cap b off val hlen hcap hp hk hc h1 hr =>
      have hnil : xs.map strR ≠ [] := by simpa using hne
      obtain ⟨rfl, hb⟩ := hp hnil
      rw [List.length_map] at hlen hcap hc h1 ⊢
      refine ⟨_, fun w' => .pure _ _ _ (.str _ (Nat.le_trans hz (by decide))) rfl (fun _ h => h), ?_⟩
      refine Any.strings_Join { Tryz.join with } builderExtra b off cap xs sep w (fun j x hx => ?_) hb (Nat.le_trans hxl (by decide)) hcap (Nat.le_trans (by show (Lib.join _ _).length ≤ 1048576; have := hz; unfold joinB at this; simpa [ByteArray.size] using this) (by decide))
      have hj := (List.getElem?_eq_some_iff.1 hx).1
      have h3 := hc j 0 hj (by omega)
      rw [Nat.mul_one, Nat.add_zero] at h3
      rw [h3]
      have h4 := hr j 0 (strR x) (.str x) (by rw [List.getElem?_map, hx]; rfl) rfl
      generalize val j 0 = y at h4 ⊢
      cases h4
      rfl
theorem splitN_ (s : ByteArray) (c : UInt8) (n : Nat) (xs : List ByteArray) (hs : s.size ≤ 1048576) (hn : 1 ≤ n ∧ n ≤ 1000) (hx : Lib.splitB ⟨#[c]⟩ 0 (n - 1) s = xs) (hlen : xs.length = n) (hns : n ≤ s.size + 1) (hxs : ∀ x ∈ xs, x.size ≤ 1048576) : AC Tryz.prog 35 [.str s, .str ⟨#[c]⟩, .int .i64 n] (fun l : List ByteArray => .sl true 1 (l.map strR)) xs :=
  AC.strs (fun xs w => enters_go Tryz.func35 (by kernel_rfl) rfl xs w) (by unfold maxLen; omega) (fun x h => Nat.le_trans (hxs x h) (by decide)) fun w vs hg hr => by
    obtain ⟨u, v, y, rfl, h2, h3, h4⟩ := rel3 hr
    cases h2
    cases h3
    cases h4
    obtain ⟨m, hm⟩ := hg.maxLen
    have h := Any.strings_SplitN { Tryz.splitN with } Tryz.splitN.i9 s ⟨#[c]⟩ n m w (by omega) hm (Nat.le_refl 1) hn.1 (by omega)
    rw [Nat.min_eq_left hns, hx, hlen] at h
    have e := Lib.cellsOf_full xs
    rw [hlen] at e
    rw [e] at h
    rw [hlen]
    exact h
def cutP (p : ByteArray × ByteArray × Bool) : AV := .tup [.str p.1, .str p.2.1, .bool p.2.2]
theorem NoB.cutP (p : ByteArray × ByteArray × Bool) : NoB (cutP p) := .tupC (.str _) (.tupC (.str _) (.tupC (.bool _) .tup0))
theorem cutP_rel (w : World) (A : Nat → Prop) (p : ByteArray × ByteArray × Bool) (h1 : p.1.size ≤ maxLen) (h2 : p.2.1.size ≤ maxLen) : XRel w A (cutP p) (.tuple #[.string p.1, .string p.2.1, .bool p.2.2]) (fun _ => False) :=
  .tup _ _ _ (fun _ _ => False) rfl (fun i a h => by
    match i, h with
    | 0, h => cases h; exact .pure _ _ _ (.str _ h1) rfl (fun _ h => h)
    | 1, h => cases h; exact .pure _ _ _ (.str _ h2) rfl (fun _ h => h)
    | 2, h => cases h; exact .pure _ _ _ (.bool _) rfl (fun _ h => h)
    | n + 3, h => simp at h) (fun x => ⟨fun h => h.elim, fun ⟨_, _, h⟩ => h⟩) (fun _ _ _ _ _ h => h.elim)
theorem cut_ (s x y : ByteArray) (c : UInt8) (hs : s.size ≤ 1048576) (hx : ∀ b ∈ x.data.toList, b ≠ c) (h : s.data.toList = x.data.toList ++ c :: y.data.toList) : AC Tryz.prog 64 [.str s, .str ⟨#[c]⟩] cutP (x, y, true) :=
  AC.onto (fun xs w => enters_go Tryz.func64 (by kernel_rfl) rfl xs w) fun w vs hg hr => by
    obtain ⟨u, v, rfl, h2, h3⟩ := rel2 hr
    cases h2
    cases h3
    obtain ⟨m, hm⟩ := hg.maxLen
    have hl := congrArg List.length h
    rw [List.length_append, List.length_cons] at hl
    have z1 : s.data.toList.length = s.size := Array.length_toList
    have z2 : x.data.toList.length = x.size := Array.length_toList
    have z3 : y.data.toList.length = y.size := Array.length_toList
    have hc := Any.strings_Cut { Tryz.cut with } s ⟨#[c]⟩ m w (by omega) hm
    refine ⟨_, fun w' => cutP_rel w' _ (x, y, true) (by show x.size ≤ maxLen; unfold maxLen; omega) (by show y.size ≤ maxLen; unfold maxLen; omega), hc.mono ?_⟩
    rintro e w' ⟨rfl, n, rfl⟩
    have e2 : Lib.cut s.data.toList (⟨#[c]⟩ : ByteArray).data.toList = (x.data.toList, y.data.toList, true) := by rw [h]; exact cut_one hx
    rw [e2]
    exact ⟨rfl, drewN_on w n⟩
end Go.Proofs.YthiecdiiindegaaGreatDoor
