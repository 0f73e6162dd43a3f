/- Contracts: decimals written and read, texts divided (over the shelf). -/
import Derived.Test.YtnfjhadaclcgeaaGreatDoorDec
import Derived.Test.YtnfjhadaclcgeaaGreatDoorPin
import Derived.Test.YtnfjhadaclcgeaaGreatDoorDcb
import Derived.Shelf.Strings.Split
import Derived.Shelf.Strings.Prefix
import Derived.Shelf.Strconv.ParseIntPublic10
namespace Go.Proofs.YtnfjhadaclcgeaaGreatDoor
open Go Go.RowKit Go.Sort Go.Shelf Go.Proofs Classical
set_option maxRecDepth 100000
set_option maxHeartbeats 2000000
set_option linter.unusedVariables false
set_option linter.unusedSimpArgs false
theorem bytes_on (w : World) (T : TypeId) (t : ByteArray) : On w (Lib.bytesWorld w T t) := ⟨Lib.bytesWorld_below _ _ _, bytes_drawn _ _ _⟩
theorem trimPrefix_ (s p : ByteArray) (hs : s.size ≤ maxLen) : AC Tryz.prog 73 [.str s, .str p] AV.str ⟨(Lib.trimPrefix s.data.toList p.data.toList).toArray⟩ :=
  AC.onto (fun xs w => enters_go Tryz.func73 (by kernel_rfl) rfl xs w) fun w vs hg hr => by
    obtain ⟨u, v, rfl, h1, h2⟩ := rel2 hr
    cases h1
    cases h2
    refine ⟨_, fun w' => .pure _ _ _ (.str _ ?_) rfl (fun _ h => h), (Any.strings_TrimPrefix Tryz.trimPrefix s p w).mono ?_⟩
    · refine Nat.le_trans ?_ hs
      show (Lib.trimPrefix s.data.toList p.data.toList).toArray.size ≤ s.data.size
      unfold Lib.trimPrefix
      split
      · simp
      · simp
    · rintro e w' ⟨rfl, rfl⟩
      exact ⟨rfl, On.refl _⟩
def numR (p : Int × Bool) : AV := .tup [.int .i64 p.1, .bool p.2]
theorem NoB.numR (p : Int × Bool) : NoB (numR p) := .tupC (.int _ _) (.tupC (.bool _) .tup0)
theorem numR_rel (w : World) (A : Nat → Prop) (p : Int × Bool) : XRel w A (numR p) (.tuple #[.int .i64 p.1, .bool p.2]) (fun _ => False) :=
  .tup _ _ _ (fun _ _ => False) rfl (fun i a h => by
    match i, h with
    | 0, h => cases h; exact .pure _ _ _ (.int _ _) rfl (fun _ h => h)
    | 1, h => cases h; exact .pure _ _ _ (.bool _) rfl (fun _ h => h)
    | n + 2, h => simp at h) (fun x => ⟨fun h => h.elim, fun ⟨_, _, h⟩ => h⟩) (fun _ _ _ _ _ h => h.elim)
theorem GOK.on {w w' : World} (h : GOK w) (hk : On w w') : GOK w' := h.of hk.1.size fun x hx => hk.1.block x (Nat.lt_of_lt_of_le hx h.sz)
theorem decimal_calls (n : Int) (h : -9223372036854775808 ≤ n ∧ n ≤ 9223372036854775807) (w : World) (hg : GOK w) : Calls Tryz.prog 48 #[.int .i64 n] w fun e w' => e = .returned (.string (decS n)) ∧ On w w' := by
  have hF : Calls Tryz.prog 75 #[.int .i64 n, .int .i64 10] w fun e w' => e = .returned (.string (decS n)) ∧ On w w' := by
    refine (Any.strconv_FormatInt_10 Tryz.formatInt n h.1 h.2 w hg.pow10).mono ?_
    rintro e w' ⟨rfl, k, os, rfl⟩
    exact ⟨rfl, grow_on _ _ _⟩
  go_enter Tryz.func48, Tryz.ntmps48
  go_wp2_with (go_at_call 75; refine hF.mono ?_; rintro e w' ⟨rfl, hk⟩)
  go_ret
  exact ⟨rfl, hk⟩
set_option maxHeartbeats 4000000 in
theorem readDecimal_calls (s : ByteArray) (hs : s.size ≤ 281474976710656) (w : World) (hg : GOK w) : Calls Tryz.prog 47 #[.string s] w fun e w' => e = .returned (.tuple #[.int .i64 (numOf s.data.toList).1, .bool (numOf s.data.toList).2]) ∧ On w w' := by
  have t3 := Tryz.underlying3; have z3 := Tryz.sizeOf3; have t4 := Tryz.underlying4; have z4 := Tryz.sizeOf4
  have tS := Tryz.underlying9; have zS := Tryz.sizeOf9; have tE := Tryz.underlying106; have zE := Tryz.sizeOf106
  have mixed : Tryz.prog.follows .mixedOrders = true := by kernel_rfl
  obtain ⟨t, ht⟩ : ∃ t : ByteArray, t = ⟨(Lib.trimPrefix s.data.toList [45]).toArray⟩ := ⟨_, rfl⟩
  have hts : t.size = (Lib.trimPrefix s.data.toList [45]).length := by rw [ht]; rfl
  have hT : Calls Tryz.prog 73 #[.string s, .string ⟨#[45]⟩] w fun e w' => e = .returned (.string t) ∧ w' = w := by rw [ht]; exact Any.strings_TrimPrefix Tryz.trimPrefix s ⟨#[45]⟩ w
  rw [numOf_parse, ← hts]
  clear ht
  by_cases h18 : 18 < t.size
  · rw [if_pos h18]
    have h18' : (18 : Int) < (t.size : Int) := by omega
    clear hts
    go_enter Tryz.func47, Tryz.ntmps47
    go_wp2_with (go_at_call 73; refine hT.mono ?_; rintro e w' ⟨rfl, rfl⟩)
    go_ret2
    exact ⟨rfl, On.refl _⟩
  · rw [if_neg h18]
    have h18' : ¬ (18 : Int) < (t.size : Int) := by omega
    rcases parseI_cases (l := s.data.toList) (by omega) with h | ⟨n, h, h1, h2⟩
    · rw [h]
      obtain ⟨te, pe, hv⟩ := hg.errSyntax
      have hP := parseNo_on Tryz.parseInt s hs h _ w hv (.inr ⟨te, pe, rfl⟩)
      clear h hts hv
      go_enter Tryz.func47, Tryz.ntmps47
      go_wp2_with (first
        | (go_at_call 73; refine hT.mono ?_; rintro e w' ⟨rfl, rfl⟩)
        | (go_at_call 74; refine hP.mono ?_; rintro e W1 ⟨N, rfl, hk⟩))
      go_ret2
      exact ⟨rfl, hk⟩
    · rw [h]
      have hP : Calls Tryz.prog 74 #[.string s, .int .i64 10, .int .i64 64] w fun e w' => e = .returned (.tuple #[.int .i64 n, .nilIface]) ∧ On w w' := by
        refine (Any.strconv_ParseInt_10_at64_ok Tryz.parseInt s (by omega) n h w).mono ?_
        rintro e w' ⟨rfl, h | ⟨t, h⟩⟩
        · exact ⟨rfl, h ▸ On.refl _⟩
        · exact ⟨rfl, h ▸ bytes_on _ _ _⟩
      have hD : ∀ W, On w W → Calls Tryz.prog 48 #[.int .i64 n] W fun e w' => e = .returned (.string (decS n)) ∧ On W w' := fun W hk => decimal_calls n (by omega) W (hg.on hk)
      clear h hts
      have hds : (decS n = s) ↔ (Lib.itoa n = s.data.toList) := by
        constructor
        · intro e; rw [← e]; rfl
        · intro e; unfold decS; rw [e]
      generalize decS n = d at hD hds
      by_cases he : Lib.itoa n = s.data.toList
      · have hd := hds.2 he
        simp only [he, if_true]
        subst hd
        clear hds he
        go_enter Tryz.func47, Tryz.ntmps47
        go_wp2_with (first
          | (go_at_call 73; refine hT.mono ?_; rintro e w' ⟨rfl, rfl⟩)
          | (go_at_call 74; refine hP.mono ?_; rintro e W1 ⟨rfl, hk⟩)
          | (go_at_call 48; refine (hD _ hk).mono ?_; rintro e W2 ⟨rfl, hk2⟩))
        go_ret2
        exact ⟨rfl, hk.trans hk2⟩
      · have hd : ¬ d = s := fun e => he (hds.1 e)
        simp only [he, if_false]
        have hq : (d.toList == s.toList) = false := beq_eq_false_iff_ne.2 fun h' => hd (bytes_ext h')
        clear hds he
        go_enter Tryz.func47, Tryz.ntmps47
        go_wp2_with (first
          | (go_at_call 73; refine hT.mono ?_; rintro e w' ⟨rfl, rfl⟩)
          | (go_at_call 74; refine hP.mono ?_; rintro e W1 ⟨rfl, hk⟩)
          | (go_at_call 48; refine (hD _ hk).mono ?_; rintro e W2 ⟨rfl, hk2⟩))
        go_ret2
        exact ⟨rfl, hk.trans hk2⟩
theorem readDecimal_ (s : ByteArray) (hs : s.size ≤ 281474976710656) : AC Tryz.prog 47 [.str s] numR (numOf s.data.toList) :=
  AC.onto (fun xs w => enters_go Tryz.func47 (by kernel_rfl) rfl xs w) fun w vs hg hr => by
    obtain ⟨u, rfl, h1⟩ := rel1 hr
    cases h1
    exact ⟨_, fun w' => numR_rel w' _ _, readDecimal_calls s hs w hg⟩
/-- From a contract of the shelf that returns a new list of texts. -/
theorem AC.strs {P : Program} {f : FuncId} {us : List AV} {l : List ByteArray} {T : TypeId} (hent : Enters P f) (hn : l.length ≤ maxLen) (hl : ∀ x ∈ l, x.size ≤ maxLen)
    (h : ∀ w vs, GOK w → RelL w (fun b => b < w.heap.size) us vs → Calls P f vs w fun e w' => e = .returned (.slice (some ⟨w.heap.size, 0, none⟩) l.length l.length) ∧ w' = w.alloc (.cells (l.map Value.string).toArray T)) : AC P f us (fun l : List ByteArray => .sl true 1 (l.map strR)) l :=
  ⟨hent, fun w vs hg hr => by
    refine (h w vs hg hr).mono ?_
    rintro e w' ⟨rfl, rfl⟩
    refine ⟨_, fun b => b = w.heap.size, rfl, Keeps.alloc _ _ _, ?_, fun b hb => by subst hb; simp⟩
    have hlen : (l.map strR).length = l.length := by simp
    have key := XRel.sl (w := w.alloc (.cells (l.map Value.string).toArray T)) (A := fun _ => False) 1 (l.map strR) l.length w.heap.size _ _ (fun b => b = w.heap.size) (fun _ _ _ => False) (heap_alloc_new w _)
      (by rw [List.length_map]; exact hn) (by rw [hlen]; exact Nat.le_refl _) (by simp) (fun e he => by obtain ⟨x, _, rfl⟩ := List.mem_map.1 he; rfl) (fun i j hi hj => ?_) (fun i j e a he ha => ?_) (fun x => ⟨.inl, fun h => h.elim id fun ⟨_, _, _, _, h⟩ => h.elim⟩) (fun _ _ _ _ h => h) (fun _ _ _ _ _ _ _ _ _ h => h.elim)
    · rw [hlen] at key; exact key
    · rw [hlen] at hi
      have : j = 0 := by omega
      subst this
      simp [Array.getD, hi, Value.oneCell']
    · rw [List.getElem?_map] at he
      cases hx : l[i]? with
      | none => rw [hx] at he; cases he
      | some x =>
        rw [hx] at he; cases he
        have hx2 := hl x (List.mem_of_getElem? hx)
        cases j with
        | zero =>
          cases ha
          have e : ((l.map Value.string).toArray).getD (i * 1 + 0) undef = Value.string x := by
            rw [Array.getD_eq_getD_getElem?, List.getElem?_toArray, List.getElem?_map, Nat.mul_one, Nat.add_zero, hx]; rfl
          rw [e]
          exact .pure _ _ _ (.str _ hx2) rfl (fun _ h => h)
        | succ j => simp [strR] at ha⟩
theorem split_ (s sep : ByteArray) (hs : s.size < 4294967281) (h1 : 1 ≤ sep.size) (hl : ∀ x ∈ Lib.splitB sep 0 (Lib.countB s sep) s, x.size ≤ maxLen) : AC Tryz.prog 72 [.str s, .str sep] (fun l : List ByteArray => .sl true 1 (l.map strR)) (Lib.splitB sep 0 (Lib.countB s sep) s) :=
  AC.strs (fun xs w => enters_go Tryz.func72 (by kernel_rfl) rfl xs w) (by
      have e := Lib.splitB_all sep h1 0 _ s rfl
      have h := Lib.countB_le sep h1 s.size s (Nat.le_refl _)
      rw [e]; unfold maxLen; omega) hl fun w vs hg hr => by
    obtain ⟨u, v, rfl, h2, h3⟩ := rel2 hr
    cases h2
    cases h3
    obtain ⟨m, hm⟩ := hg.maxLen
    have e := Lib.splitB_all sep h1 0 _ s rfl
    have := Any.strings_Split { Tryz.split with } Tryz.split.i9 s sep m w hs hm h1
    rw [e]
    exact this
end Go.Proofs.YtnfjhadaclcgeaaGreatDoor
