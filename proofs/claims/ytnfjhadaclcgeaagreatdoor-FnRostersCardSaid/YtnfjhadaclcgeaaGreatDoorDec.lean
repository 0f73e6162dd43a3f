/- Decimals: plain laws. -/
import Derived.WalkKit
import Derived.Lib.ItoaNum
import Derived.Lib.ItoaMem
import Derived.Lib.ParseIntBCases
import Derived.Lib.SplitLaws
import Derived.Lib.Strings
namespace Go.Proofs.YtnfjhadaclcgeaaGreatDoor
open Go Go.RowKit Classical
set_option maxRecDepth 100000
set_option maxHeartbeats 2000000
set_option linter.unusedVariables false
set_option linter.unusedSimpArgs false
def dgB (c : UInt8) : Prop := 48 ≤ c.toNat ∧ c.toNat ≤ 57
def dgStep (a : Nat) (c : UInt8) : Nat := 10 * a + (c.toNat - 48)
def valD (a : Nat) (l : List UInt8) : Nat := l.foldl dgStep a
theorem valD_nil (a : Nat) : valD a [] = a := List.foldl_nil
theorem valD_cons (a : Nat) (c : UInt8) (l : List UInt8) : valD a (c :: l) = valD (10 * a + (c.toNat - 48)) l := List.foldl_cons ..
theorem head_app {l m : List UInt8} (h : l ≠ []) : (l ++ m).head? = l.head? := by
  cases l with
  | nil => exact (h rfl).elim
  | cons c r => rfl
theorem valD_snoc (d : UInt8) : ∀ (l : List UInt8) (a : Nat), valD a (l ++ [d]) = 10 * valD a l + (d.toNat - 48)
  | [], a => rfl
  | c :: l, a => by rw [List.cons_append, valD_cons, valD_cons, valD_snoc d l]
theorem valD_ge : ∀ (l : List UInt8) (a : Nat), a ≤ valD a l
  | [], a => Nat.le_refl _
  | c :: l, a => by rw [valD_cons]; exact Nat.le_trans (by omega) (valD_ge l _)
theorem dg_byte {i : Nat} (h : i < 10) : (UInt8.ofNat (48 + i)).toNat = 48 + i := by
  rw [UInt8.toNat_ofNat']; omega
theorem decD_spec : ∀ u : Nat, (∀ c ∈ Lib.decDigits u, dgB c) ∧ Lib.decDigits u ≠ [] ∧ valD 0 (Lib.decDigits u) = u ∧ ((Lib.decDigits u).head?.map UInt8.toNat = some 48 → u = 0) := fun u => by
  induction u using Nat.strongRecOn with
  | _ u ih =>
    rw [Lib.decDigits]
    split
    · rename_i h
      have e := dg_byte h
      refine ⟨fun c hc => ?_, by simp, ?_, fun hh => ?_⟩
      · rw [List.mem_singleton] at hc; subst hc; unfold dgB; omega
      · simp only [valD_cons, valD_nil, e]; omega
      · simp only [List.head?_cons, Option.map_some, Option.some.injEq, e] at hh; omega
    · rename_i h
      obtain ⟨h1, h2, h3, h4⟩ := ih (u / 10) (by omega)
      have e := dg_byte (i := u % 10) (by omega)
      refine ⟨fun c hc => ?_, by simp, ?_, fun hh => ?_⟩
      · rcases List.mem_append.1 hc with hc | hc
        · exact h1 c hc
        · rw [List.mem_singleton] at hc; subst hc; unfold dgB; omega
      · rw [valD_snoc, h3, e]; omega
      · rw [head_app h2] at hh
        have := h4 hh; omega
/-- A numeral without needless zeros is the numeral of its value. -/
theorem decD_of : ∀ (n : Nat) (l : List UInt8), l.length = n → l ≠ [] → (∀ c ∈ l, dgB c) → (l.head?.map UInt8.toNat = some 48 → l.length = 1) → Lib.decDigits (valD 0 l) = l
  | n, l, hn, hne, hd, hz => by
    rcases List.eq_nil_or_concat l with h | ⟨m, d, rfl⟩
    · exact (hne h).elim
    · rw [List.concat_eq_append] at *
      have hdd := hd d (by simp)
      unfold dgB at hdd
      have ed : UInt8.ofNat (48 + (d.toNat - 48)) = d := by
        rw [show 48 + (d.toNat - 48) = d.toNat by omega]; simp
      rw [valD_snoc]
      by_cases hm : m = []
      · subst hm
        rw [Lib.decDigits, dif_pos (by simp [valD_cons, valD_nil]; omega)]
        simp [valD_cons, valD_nil, ed]
      · have hml : m.length + 1 = n := by simpa using hn
        have hm1 : 1 ≤ m.length := List.length_pos_iff.2 hm
        have hmd : ∀ c ∈ m, dgB c := fun c hc => hd c (List.mem_append_left _ hc)
        have hmz : ¬ m.head?.map UInt8.toNat = some 48 := fun h => by
          have := hz (by rw [head_app hm]; exact h)
          simp only [List.length_append, List.length_singleton] at this; omega
        have ih := decD_of m.length m rfl hm hmd (fun h => (hmz h).elim)
        have hv : 1 ≤ valD 0 m := by
          cases m with
          | nil => exact (hm rfl).elim
          | cons c r =>
            have h1 := hmd c (by simp)
            unfold dgB at h1
            simp only [List.head?_cons, Option.map_some, Option.some.injEq] at hmz
            rw [valD_cons]
            exact Nat.le_trans (by omega) (valD_ge r _)
        rw [Lib.decDigits, dif_neg (by omega), show (10 * valD 0 m + (d.toNat - 48)) / 10 = valD 0 m by omega, show (10 * valD 0 m + (d.toNat - 48)) % 10 = d.toNat - 48 by omega, ih, ed]
termination_by n => n
decreasing_by omega
theorem valD_lt : ∀ (l : List UInt8) (a k : Nat), (∀ c ∈ l, dgB c) → a < 10 ^ k → valD a l < 10 ^ (k + l.length)
  | [], a, k, _, h => by simpa [valD_nil] using h
  | c :: l, a, k, hd, h => by
    have hc := hd c (by simp)
    unfold dgB at hc
    rw [valD_cons, List.length_cons, show k + (l.length + 1) = (k + 1) + l.length by omega]
    exact valD_lt l _ (k + 1) (fun c h => hd c (by simp [h])) (by rw [Nat.pow_succ]; omega)
theorem decD_len : ∀ (k u : Nat), u < 10 ^ (k + 1) → (Lib.decDigits u).length ≤ k + 1
  | 0, u, h => by rw [Lib.decDigits, dif_pos (by simpa using h)]; simp
  | k + 1, u, h => by
    rw [Lib.decDigits]
    split
    · simp
    · rw [List.length_append]
      have := decD_len k (u / 10) (by rw [Nat.pow_succ] at h; omega)
      simp; omega
theorem parse_dg : ∀ (l : List UInt8) (a : Nat), (∀ c ∈ l, dgB c) → valD a l < 1000000000000000000 → Lib.parseUintM 18446744073709551615 a l = .ok (valD a l)
  | [], a, _, _ => rfl
  | c :: l, a, hd, h => by
    have hc := hd c (by simp)
    have hge := valD_ge l (10 * a + (c.toNat - 48))
    rw [valD_cons] at h ⊢
    unfold dgB at hc
    rw [Lib.parseUintM, if_pos hc, if_neg (by omega), if_neg (by omega), show a * 10 + (c.toNat - 48) = 10 * a + (c.toNat - 48) by omega]
    exact parse_dg l _ (fun c h => hd c (by simp [h])) h
def noNat : Lib.NumEnd Nat := Lib.parseUintB 64 []
def noInt : Lib.NumEnd Int := Lib.parseIntB 64 []
theorem parse_cases : ∀ (l : List UInt8) (a k : Nat), a < 10 ^ k → k + l.length ≤ 18 → Lib.parseUintM 18446744073709551615 a l = noNat ∨ ∃ u, Lib.parseUintM 18446744073709551615 a l = .ok u ∧ u < 10 ^ (k + l.length)
  | [], a, k, h, _ => .inr ⟨a, rfl, by simpa using h⟩
  | c :: l, a, k, h, hk => by
    rw [List.length_cons] at hk
    have hb : 10 ^ (k + 1) ≤ 1000000000000000000 := by
      have := Nat.pow_le_pow_right (n := 10) (by decide) (show k + 1 ≤ 18 by omega)
      exact Nat.le_trans this (by decide)
    rw [Nat.pow_succ] at hb
    by_cases hc : 48 ≤ c.toNat ∧ c.toNat ≤ 57
    · rw [Lib.parseUintM, if_pos hc, if_neg (by omega), if_neg (by omega), List.length_cons, show k + (l.length + 1) = (k + 1) + l.length by omega]
      exact parse_cases l _ (k + 1) (by rw [Nat.pow_succ]; omega) (by omega)
    · left; rw [Lib.parseUintM, if_neg hc]; rfl
theorem e64 : (2 : Nat) ^ 64 - 1 = 18446744073709551615 := by decide
theorem e63 : (2 : Nat) ^ (64 - 1) = 9223372036854775808 := by decide
theorem parseB_cases {l : List UInt8} (h : l.length ≤ 18) : Lib.parseUintB 64 l = noNat ∨ ∃ u, Lib.parseUintB 64 l = .ok u ∧ u < 1000000000000000000 := by
  unfold Lib.parseUintB
  rw [e64]
  split
  · exact .inl rfl
  · rcases parse_cases l 0 0 (by decide) (by omega) with h1 | ⟨u, h1, h2⟩
    · exact .inl h1
    · refine .inr ⟨u, h1, Nat.lt_of_lt_of_le h2 ?_⟩
      rw [Nat.zero_add]
      exact Nat.le_trans (Nat.pow_le_pow_right (n := 10) (by decide) h) (by decide)
theorem parseI_cases {l : List UInt8} (h : (Lib.trimPrefix l [45]).length ≤ 18) : Lib.parseIntB 64 l = noInt ∨ ∃ n : Int, Lib.parseIntB 64 l = .ok n ∧ -1000000000000000000 < n ∧ n < 1000000000000000000 := by
  cases l with
  | nil => exact .inl rfl
  | cons c r =>
    by_cases h45 : c.toNat = 45
    · have hc : c = 45 := UInt8.toNat_inj.1 h45
      subst hc
      have hr : r.length ≤ 18 := by simpa [Lib.trimPrefix, Lib.hasPrefix] using h
      rw [Lib.parseIntB_minus, e63]
      rcases parseB_cases hr with h1 | ⟨u, h1, h2⟩
      · rw [h1]; exact .inl rfl
      · rw [h1]; right
        refine ⟨-(u : Int), ?_, by omega, by omega⟩
        rw [Lib.signedC, if_neg (by omega)]
    · have hne : ¬ c = 45 := fun e => h45 (by subst e; rfl)
      have hl : (c :: r).length ≤ 18 := by
        have e : Lib.trimPrefix (c :: r) [45] = c :: r := by
          unfold Lib.trimPrefix
          rw [if_neg]
          simp [Lib.hasPrefix, Ne.symm hne]
        rw [e] at h; exact h
      by_cases h43 : c.toNat = 43
      · have hc : c = 43 := UInt8.toNat_inj.1 h43
        subst hc
        rw [Lib.parseIntB_plus, e63]
        rcases parseB_cases (l := r) (by simp at hl; omega) with h1 | ⟨u, h1, h2⟩
        · rw [h1]; exact .inl rfl
        · rw [h1]; right
          refine ⟨u, ?_, by omega, by omega⟩
          rw [Lib.signlessC, if_neg (by omega)]
      · rw [Lib.parseIntB_plain 64 c r h43 h45, e63]
        rcases parseB_cases hl with h1 | ⟨u, h1, h2⟩
        · rw [h1]; exact .inl rfl
        · rw [h1]; right
          refine ⟨u, ?_, by omega, by omega⟩
          rw [Lib.signlessC, if_neg (by omega)]
/-- The numeral of a number of at most 18 digits. -/
def Numl (l : List UInt8) (n : Int) : Prop := l = Lib.itoa n ∧ -1000000000000000000 < n ∧ n < 1000000000000000000
theorem parseB_dg {u : Nat} (h : u < 1000000000000000000) : Lib.parseUintB 64 (Lib.decDigits u) = .ok u := by
  obtain ⟨h1, h2, h3, _⟩ := decD_spec u
  unfold Lib.parseUintB
  rw [e64, if_neg h2, parse_dg _ 0 h1 (by omega), h3]
theorem itoa_cases (n : Int) : (∃ u : Nat, n = u ∧ Lib.itoa n = Lib.decDigits u) ∨ (∃ u : Nat, 1 ≤ u ∧ n = -(u : Int) ∧ Lib.itoa n = 45 :: Lib.decDigits u) := by
  by_cases h : n < 0
  · right
    refine ⟨n.natAbs, by omega, by omega, ?_⟩
    unfold Lib.itoa; rw [if_pos h]
  · left
    refine ⟨n.toNat, by omega, ?_⟩
    unfold Lib.itoa; rw [if_neg h]
theorem Numl.parse {l : List UInt8} {n : Int} (h : Numl l n) : Lib.parseIntB 64 l = .ok n := by
  obtain ⟨rfl, h1, h2⟩ := h
  rcases itoa_cases n with ⟨u, rfl, e⟩ | ⟨u, hu, rfl, e⟩
  · rw [e]
    obtain ⟨d1, d2, _, _⟩ := decD_spec u
    have hp := parseB_dg (u := u) (by omega)
    cases hl : Lib.decDigits u with
    | nil => exact (d2 hl).elim
    | cons c r =>
      have hc := d1 c (by rw [hl]; simp)
      unfold dgB at hc
      rw [hl] at hp
      rw [Lib.parseIntB_plain 64 c r (by omega) (by omega), hp, e63, Lib.signlessC, if_neg (by omega)]
  · rw [e, Lib.parseIntB_minus, parseB_dg (by omega), e63, Lib.signedC, if_neg (by omega)]
theorem Numl.uniq {l : List UInt8} {n m : Int} (h : Numl l n) (k : Numl l m) : n = m := by
  have := h.parse.symm.trans k.parse
  injection this
theorem Numl.trim {l : List UInt8} {n : Int} (h : Numl l n) : (Lib.trimPrefix l [45]).length ≤ 18 := by
  obtain ⟨rfl, h1, h2⟩ := h
  rcases itoa_cases n with ⟨u, rfl, e⟩ | ⟨u, hu, rfl, e⟩
  · rw [e]
    have hn : ¬ Lib.hasPrefix (Lib.decDigits u) [45] = true := by
      obtain ⟨d1, d2, _, _⟩ := decD_spec u
      cases hl : Lib.decDigits u with
      | nil => exact (d2 hl).elim
      | cons c r =>
        have hc := d1 c (by rw [hl]; simp)
        unfold dgB at hc
        have hne : ¬ c = 45 := fun e => by subst e; simp at hc
        simp [Lib.hasPrefix, Ne.symm hne]
    unfold Lib.trimPrefix
    rw [if_neg hn]
    exact decD_len 17 u (by omega)
  · rw [e]
    have : (Lib.decDigits u).length ≤ 18 := decD_len 17 u (by omega)
    simpa [Lib.trimPrefix, Lib.hasPrefix] using this
noncomputable def numOf (l : List UInt8) : Int × Bool := if h : ∃ n, Numl l n then (h.choose, true) else (0, false)
theorem numOf_yes {l : List UInt8} {n : Int} (h : Numl l n) : numOf l = (n, true) := by
  have hh : ∃ n, Numl l n := ⟨n, h⟩
  unfold numOf
  rw [dif_pos hh, hh.choose_spec.uniq h]
theorem numOf_no {l : List UInt8} (h : ∀ n, ¬ Numl l n) : numOf l = (0, false) := by
  unfold numOf
  rw [dif_neg (fun ⟨n, hn⟩ => h n hn)]
theorem numOf_cases (l : List UInt8) : (∃ n, Numl l n ∧ numOf l = (n, true)) ∨ ((∀ n, ¬ Numl l n) ∧ numOf l = (0, false)) := by
  by_cases h : ∃ n, Numl l n
  · obtain ⟨n, hn⟩ := h; exact .inl ⟨n, hn, numOf_yes hn⟩
  · exact .inr ⟨fun n hn => h ⟨n, hn⟩, numOf_no fun n hn => h ⟨n, hn⟩⟩
/-- What ParseInt and the text of the number say together. -/
theorem numOf_parse (l : List UInt8) : numOf l = if 18 < (Lib.trimPrefix l [45]).length then (0, false) else match Lib.parseIntB 64 l with
    | .ok n => if Lib.itoa n = l then (n, true) else (0, false)
    | _ => (0, false) := by
  rcases numOf_cases l with ⟨n, hn, e⟩ | ⟨hn, e⟩
  · rw [e, if_neg (by have := hn.trim; omega), hn.parse]
    simp only
    rw [if_pos hn.1.symm]
  · rw [e]
    split
    · rfl
    · rename_i h18
      rcases parseI_cases (l := l) (by omega) with h | ⟨n, h, h1, h2⟩
      · rw [h]; rfl
      · rw [h]
        simp only
        rw [if_neg fun e => hn n ⟨e.symm, h1, h2⟩]
theorem Numl.pos {l : List UInt8} (hne : l ≠ []) (hd : ∀ c ∈ l, dgB c) (hz : l.head?.map UInt8.toNat = some 48 → l.length = 1) (hl : l.length ≤ 18) : Numl l (valD 0 l) := by
  have hlt := valD_lt l 0 0 hd (by decide)
  rw [Nat.zero_add] at hlt
  have hb := Nat.lt_of_lt_of_le hlt (Nat.pow_le_pow_right (n := 10) (by decide) hl)
  refine ⟨?_, by omega, by omega⟩
  rw [Lib.itoa_nonneg, decD_of l.length l rfl hne hd hz]
theorem Numl.neg {l : List UInt8} (hne : l ≠ []) (hd : ∀ c ∈ l, dgB c) (hz : l.head?.map UInt8.toNat ≠ some 48) (hl : l.length ≤ 18) : Numl (45 :: l) (-(valD 0 l : Int)) := by
  have hlt := valD_lt l 0 0 hd (by decide)
  rw [Nat.zero_add] at hlt
  have hb := Nat.lt_of_lt_of_le hlt (Nat.pow_le_pow_right (n := 10) (by decide) hl)
  have hv : 1 ≤ valD 0 l := by
    cases l with
    | nil => exact (hne rfl).elim
    | cons c r =>
      have h1 := hd c (by simp)
      unfold dgB at h1
      simp only [List.head?_cons, Option.map_some, ne_eq, Option.some.injEq] at hz
      rw [valD_cons]
      exact Nat.le_trans (by omega) (valD_ge r _)
  refine ⟨?_, by omega, by omega⟩
  rw [Lib.itoa_neg _ hv, decD_of l.length l rfl hne hd (fun h => (hz h).elim)]
/-- The numerals by their letters. -/
theorem Numl.inv {l : List UInt8} {n : Int} (h : Numl l n) : (∃ r, l = 45 :: r ∧ r ≠ [] ∧ (∀ c ∈ r, dgB c) ∧ r.head?.map UInt8.toNat ≠ some 48 ∧ r.length ≤ 18 ∧ n = -(valD 0 r : Int)) ∨ (l ≠ [] ∧ (∀ c ∈ l, dgB c) ∧ (l.head?.map UInt8.toNat = some 48 → l.length = 1) ∧ l.length ≤ 18 ∧ n = (valD 0 l : Int)) := by
  obtain ⟨rfl, h1, h2⟩ := h
  rcases itoa_cases n with ⟨u, rfl, e⟩ | ⟨u, hu, rfl, e⟩
  · right
    obtain ⟨d1, d2, d3, d4⟩ := decD_spec u
    rw [e]
    refine ⟨d2, d1, fun h => ?_, decD_len 17 u (by omega), by rw [d3]⟩
    have := d4 h
    subst this
    rw [Lib.decDigits, dif_pos (by decide)]; rfl
  · left
    obtain ⟨d1, d2, d3, d4⟩ := decD_spec u
    exact ⟨_, e, d2, d1, fun h => by have := d4 h; omega, decD_len 17 u (by omega), by rw [d3]⟩
/-! Texts that are cut. -/
def glue (p : List UInt8) : List (List UInt8) → List (List UInt8)
  | [] => [p]
  | x :: r => (p ++ x) :: r
def cutC (c : UInt8) : List UInt8 → List (List UInt8)
  | [] => [[]]
  | b :: l => if b = c then [] :: cutC c l else glue [b] (cutC c l)
theorem cutC_ne (c : UInt8) : ∀ l, cutC c l ≠ []
  | [] => by simp [cutC]
  | b :: l => by
    rw [cutC]
    split
    · simp
    · cases h : cutC c l with
      | nil => exact (cutC_ne c l h).elim
      | cons x r => simp [glue]
theorem glue_glue (p q : List UInt8) (L : List (List UInt8)) : glue p (glue q L) = glue (p ++ q) L := by
  cases L <;> simp [glue]
theorem glue_nil {L : List (List UInt8)} (h : L ≠ []) : glue [] L = L := by
  cases L with
  | nil => exact (h rfl).elim
  | cons x r => simp [glue]
theorem splitK_cut (c : UInt8) : ∀ s : List UInt8, Lib.splitK [c] 0 (Lib.count s [c]) s = cutC c s
  | [] => by rw [Lib.count_miss (by simp [Lib.index])]; rfl
  | b :: l => by
    have ih := splitK_cut c l
    by_cases h : b = c
    · subst h
      have hix : Lib.index (b :: l) [b] = ((0 : Nat) : Int) := by rw [Lib.index]; simp [List.isPrefixOf]
      rw [Lib.count_cons_eq, Nat.add_comm, Lib.splitK, hix, cutC, if_pos rfl, ← ih]
      rfl
    · have hp : ([c] : List UInt8).isPrefixOf (b :: l) = false := by simp [List.isPrefixOf, Ne.symm h]
      have hix : Lib.index (b :: l) [c] = if Lib.index l [c] == -1 then -1 else Lib.index l [c] + 1 := by rw [Lib.index, hp]; simp
      rw [cutC, if_neg h, ← ih, Lib.count_cons_ne b c l h]
      by_cases hm : Lib.index l [c] = -1
      · rw [Lib.count_miss hm]; rfl
      · have hge := Lib.index_ge l [c]
        obtain ⟨j, hj⟩ : ∃ j : Nat, Lib.index l [c] = j := ⟨(Lib.index l [c]).toNat, by omega⟩
        have hix' : Lib.index (b :: l) [c] = ((j + 1 : Nat) : Int) := by rw [hix, if_neg (fun e => hm (beq_iff_eq.1 e)), hj]; omega
        rw [Lib.count_hit (by simp) hj, Nat.add_comm 1, Lib.splitK, Lib.splitK, hix', hj, if_neg (fun e => by have := beq_iff_eq.1 e; omega), if_neg (fun e => by have := beq_iff_eq.1 e; omega)]
        simp [glue]
def cutS (c : UInt8) (s : ByteArray) : List ByteArray := (cutC c s.data.toList).map fun l => (⟨l.toArray⟩ : ByteArray)
theorem splitB_cut (c : UInt8) (s : ByteArray) : Lib.splitB ⟨#[c]⟩ 0 (Lib.countB s ⟨#[c]⟩) s = cutS c s := by
  have h := Lib.splitB_data ⟨#[c]⟩ 0 (Lib.countB s ⟨#[c]⟩) s
  have h2 : Lib.splitK [c] 0 (Lib.countB s ⟨#[c]⟩) s.data.toList = cutC c s.data.toList := splitK_cut c s.data.toList
  have h3 : (Lib.splitB ⟨#[c]⟩ 0 (Lib.countB s ⟨#[c]⟩) s).map (·.data.toList) = cutC c s.data.toList := h.trans h2
  rw [cutS, ← h3, List.map_map]
  exact (List.map_id' _).symm
def joinC (c : UInt8) : List (List UInt8) → List UInt8
  | [] => []
  | [x] => x
  | x :: y :: r => x ++ c :: joinC c (y :: r)
theorem joinC_cut (c : UInt8) : ∀ l, joinC c (cutC c l) = l
  | [] => rfl
  | b :: l => by
    have ih := joinC_cut c l
    rw [cutC]
    cases h : cutC c l with
    | nil => exact (cutC_ne c l h).elim
    | cons x r =>
      rw [h] at ih
      split
      · rename_i e; subst e
        rw [joinC, ih]; rfl
      · cases r with
        | nil => simp only [glue, joinC] at ih ⊢; rw [ih]; rfl
        | cons y r => simp only [glue, joinC] at ih ⊢; rw [← ih]; rfl
theorem cutC_app (c : UInt8) : ∀ (x l : List UInt8), (∀ b ∈ x, b ≠ c) → cutC c (x ++ l) = glue x (cutC c l)
  | [], l, _ => (glue_nil (cutC_ne c l)).symm
  | b :: x, l, h => by
    rw [List.cons_append, cutC, if_neg (h b (by simp)), cutC_app c x l (fun b hb => h b (by simp [hb])), glue_glue]; rfl
theorem cutC_none (c : UInt8) (x : List UInt8) (h : ∀ b ∈ x, b ≠ c) : cutC c x = [x] := by
  have := cutC_app c x [] h
  rw [List.append_nil] at this
  rw [this]; simp [cutC, glue]
theorem cutC_three (c : UInt8) (x y z : List UInt8) (hx : ∀ b ∈ x, b ≠ c) (hy : ∀ b ∈ y, b ≠ c) (hz : ∀ b ∈ z, b ≠ c) : cutC c (x ++ c :: (y ++ c :: z)) = [x, y, z] := by
  rw [cutC_app c x _ hx, cutC, if_pos rfl, cutC_app c y _ hy, cutC, if_pos rfl, cutC_none c z hz]
  simp [glue]
theorem itoa_no32 (n : Int) : ∀ b ∈ Lib.itoa n, b ≠ 32 := fun b hb e => by
  subst e
  rcases itoa_cases n with ⟨u, rfl, e⟩ | ⟨u, _, rfl, e⟩
  · rw [e] at hb
    have := (decD_spec u).1 _ hb
    unfold dgB at this; simp at this
  · rw [e] at hb
    rcases List.mem_cons.1 hb with h | h
    · simp at h
    · have := (decD_spec u).1 _ h
      unfold dgB at this; simp at this
theorem itoa_ne (n : Int) : Lib.itoa n ≠ [] := by
  rcases itoa_cases n with ⟨u, rfl, e⟩ | ⟨u, _, rfl, e⟩
  · rw [e]; exact (decD_spec u).2.1
  · rw [e]; simp
end Go.Proofs.YtnfjhadaclcgeaaGreatDoor
