/- Contracts: pairs that are seen together; the law. -/
import Derived.Test.YtoafgafkmeghlaaGreatDoorGsq
import Derived.Test.YtoafgafkmeghlaaGreatDoorGtd
import Derived.Test.YtoafgafkmeghlaaGreatDoorFss
namespace Go.Proofs.YtoafgafkmeghlaaGreatDoor
open Go Go.RowKit Classical
set_option maxRecDepth 100000
set_option maxHeartbeats 2000000
set_option linter.unusedVariables false
set_option linter.unusedSimpArgs false
noncomputable def sL (l : List Aid) (o : Obv) : List Aid := seenL l o.atX o.atY o.eye o.vis
def numAt (s : List Aid) (i : Nat) : Int := ((s[i]?).map Aid.number).getD 0
def prB (s : List Aid) (i t : Nat) : List (List Int) := ((s.drop (i + 1)).take t).map fun b => [numAt s i, b.number]
def prA (s : List Aid) : Nat → List (List Int)
  | 0 => []
  | i + 1 => prA s i ++ prB s i s.length
noncomputable def prO (l : List Aid) (os : List Obv) : Nat → List (List Int)
  | 0 => []
  | q + 1 => prO l os q ++ match os[q]? with
    | some o => prA (sL l o) (sL l o).length
    | none => []
theorem prB_len (s : List Aid) (i t : Nat) : (prB s i t).length ≤ s.length := by
  unfold prB; rw [List.length_map, List.length_take, List.length_drop]; omega
theorem prA_len (s : List Aid) : ∀ i, (prA s i).length ≤ i * s.length
  | 0 => by simp [prA]
  | i + 1 => by
    rw [prA, List.length_append, Nat.add_mul]
    have := prA_len s i
    have := prB_len s i s.length
    omega
theorem sL_len (l : List Aid) (o : Obv) : (sL l o).length ≤ l.length := seenL_len _ _ _ _ _
theorem prA_bd {s : List Aid} {i : Nat} (h : s.length ≤ 24) (hi : i ≤ s.length) : (prA s i).length ≤ 576 := by
  have h1 := prA_len s i
  have h2 : i * s.length ≤ 24 * 24 := Nat.mul_le_mul (by omega) h
  omega
theorem prO_len {l : List Aid} (h : l.length ≤ 24) (os : List Obv) : ∀ q, (prO l os q).length ≤ q * 576
  | 0 => by simp [prO]
  | q + 1 => by
    rw [prO, List.length_append, Nat.add_mul]
    have h1 := prO_len h os q
    split
    · rename_i o _
      have h2 := sL_len l o
      have := prA_bd (s := sL l o) (i := (sL l o).length) (by omega) (Nat.le_refl _)
      omega
    · simp; omega
def both (l : List Aid) (os : List Obv) (i k : Nat) : Prop := ∃ o ∈ os, ∃ a b, l[i]? = some a ∧ l[k]? = some b ∧ a.seen o.atX o.atY o.eye o.vis ∧ b.seen o.atX o.atY o.eye o.vis
noncomputable def rowT (P : Nat → Nat → Prop) (i : Nat) : Nat → List (Nat × Nat)
  | 0 => []
  | k + 1 => rowT P i k ++ if i < k ∧ P i k then [(i, k)] else []
noncomputable def allT (P : Nat → Nat → Prop) (n : Nat) : Nat → List (Nat × Nat)
  | 0 => []
  | i + 1 => allT P n i ++ rowT P i n
def numT (l : List Aid) (p : Nat × Nat) : List Int := [numAt l p.1, numAt l p.2]
noncomputable def togR (l : List Aid) (os : List Obv) : List (List Int) × Int := if AskOk l os then (if os.length ≤ 16 then ((allT (both l os) l.length l.length).map (numT l), 0) else ([], 5)) else ([], 1)
theorem prB_succ {s : List Aid} {i t : Nat} {b : Aid} (hb : s[i + 1 + t]? = some b) : prB s i (t + 1) = prB s i t ++ [[numAt s i, b.number]] := by
  unfold prB
  rw [List.take_add_one, List.getElem?_drop, hb]; simp
theorem prB_all {s : List Aid} {i t : Nat} (h : s.length ≤ i + 1 + t) : prB s i t = prB s i s.length := by
  unfold prB
  rw [List.take_of_length_le (by rw [List.length_drop]; omega), List.take_of_length_le (by rw [List.length_drop]; omega)]
theorem numAt_of {s : List Aid} {i : Nat} {v : Aid} (h : s[i]? = some v) : numAt s i = v.number := by unfold numAt; rw [h]; rfl
theorem prA_end {s : List Aid} {X : List (List Int)} {i j ip : Int} (h0 : 0 ≤ i) (hj : 0 ≤ j) (he : (s.length : Int) ≤ i + 1 + j) (hp : ip = i + 1) : X ++ prA s i.toNat ++ prB s i.toNat j.toNat = X ++ prA s ip.toNat := by
  rw [show ip.toNat = i.toNat + 1 by omega, prA, prB_all (by omega), List.append_assoc]
theorem prO_end {l : List Aid} {os : List Obv} {u up i : Int} {o : Obv} {S : List Aid} (h0 : 0 ≤ u) (ho : os[u.toNat]? = some o) (hS : S = sL l o) (hi : (S.length : Int) ≤ i) (hi2 : i ≤ S.length) (hp : up = u + 1) : prO l os u.toNat ++ prA S i.toNat = prO l os up.toNat := by
  rw [show up.toNat = u.toNat + 1 by omega, prO, ho]
  show _ = prO l os u.toNat ++ prA (sL l o) (sL l o).length
  rw [← hS, show i.toNat = S.length by omega]
theorem prB_at {s : List Aid} {X : List (List Int)} {i j m jp : Int} {a b : Aid} (ha : s[i.toNat]? = some a) (hb : s[m.toNat]? = some b) (hm : m = i + 1 + j ∧ 0 ≤ i ∧ 0 ≤ j) (hj : jp = j + 1) : X ++ (prB s i.toNat j.toNat ++ [[a.number, b.number]]) = X ++ prB s i.toNat jp.toNat := by
  rw [show jp.toNat = j.toNat + 1 by omega, prB_succ (b := b) (by rw [show i.toNat + 1 + j.toNat = m.toNat by omega]; exact hb), numAt_of ha]
theorem mem_prB {s : List Aid} {a : Nat} {x : List Int} : x ∈ prB s a s.length ↔ ∃ c b, a < c ∧ s[c]? = some b ∧ x = [numAt s a, b.number] := by
  unfold prB
  rw [List.take_of_length_le (by rw [List.length_drop]; omega), List.mem_map]
  constructor
  · rintro ⟨b, hb, rfl⟩
    obtain ⟨j, hj⟩ := List.getElem?_of_mem hb
    rw [List.getElem?_drop] at hj
    exact ⟨a + 1 + j, b, by omega, hj, rfl⟩
  · rintro ⟨c, b, h1, h2, rfl⟩
    refine ⟨b, List.mem_of_getElem? (i := c - (a + 1)) ?_, rfl⟩
    rw [List.getElem?_drop, show a + 1 + (c - (a + 1)) = c by omega]; exact h2
theorem mem_prA {s : List Aid} {x : List Int} : ∀ {i : Nat}, x ∈ prA s i ↔ ∃ a, a < i ∧ x ∈ prB s a s.length
  | 0 => by simp [prA]
  | i + 1 => by
    rw [prA, List.mem_append, mem_prA]
    constructor
    · rintro (⟨a, h1, h2⟩ | h)
      · exact ⟨a, by omega, h2⟩
      · exact ⟨i, by omega, h⟩
    · rintro ⟨a, h1, h2⟩
      rcases Nat.lt_or_ge a i with h | h
      · exact .inl ⟨a, h, h2⟩
      · have : a = i := by omega
        subst this; exact .inr h2
theorem mem_prO {l : List Aid} {os : List Obv} {x : List Int} : ∀ {u : Nat}, x ∈ prO l os u ↔ ∃ a o, a < u ∧ os[a]? = some o ∧ x ∈ prA (sL l o) (sL l o).length
  | 0 => by simp [prO]
  | u + 1 => by
    rw [prO, List.mem_append, mem_prO]
    constructor
    · rintro (⟨a, o, h1, h2, h3⟩ | h)
      · exact ⟨a, o, by omega, h2, h3⟩
      · cases ho : os[u]? with
        | none => rw [ho] at h; simp at h
        | some o => rw [ho] at h; exact ⟨u, o, by omega, ho, h⟩
    · rintro ⟨a, o, h1, h2, h3⟩
      rcases Nat.lt_or_ge a u with h | h
      · exact .inl ⟨a, o, h, h2, h3⟩
      · have : a = u := by omega
        subst this; rw [h2]; exact .inr h3
theorem mem_rowT {P : Nat → Nat → Prop} {i : Nat} {p : Nat × Nat} : ∀ {k : Nat}, p ∈ rowT P i k ↔ p.1 = i ∧ i < p.2 ∧ p.2 < k ∧ P i p.2
  | 0 => by simp [rowT]
  | k + 1 => by
    rw [rowT, List.mem_append, mem_rowT]
    constructor
    · rintro (⟨h1, h2, h3, h4⟩ | h)
      · exact ⟨h1, h2, by omega, h4⟩
      · split at h
        · rename_i hc
          rw [List.mem_singleton] at h; subst h
          exact ⟨rfl, hc.1, by simp, hc.2⟩
        · simp at h
    · rintro ⟨h1, h2, h3, h4⟩
      rcases Nat.lt_or_ge p.2 k with h | h
      · exact .inl ⟨h1, h2, h, h4⟩
      · have e : p.2 = k := by omega
        rw [if_pos (by rw [← e]; exact ⟨h2, h4⟩)]
        right
        rw [List.mem_singleton]
        exact Prod.ext h1 e
theorem mem_allT {P : Nat → Nat → Prop} {n : Nat} {p : Nat × Nat} : ∀ {m : Nat}, p ∈ allT P n m ↔ p.1 < m ∧ p.1 < p.2 ∧ p.2 < n ∧ P p.1 p.2
  | 0 => by simp [allT]
  | m + 1 => by
    rw [allT, List.mem_append, mem_allT, mem_rowT]
    constructor
    · rintro (⟨h1, h2, h3, h4⟩ | ⟨h1, h2, h3, h4⟩)
      · exact ⟨by omega, h2, h3, h4⟩
      · rw [← h1] at h2 h4; exact ⟨by omega, h2, h3, h4⟩
    · rintro ⟨h1, h2, h3, h4⟩
      rcases Nat.lt_or_ge p.1 m with h | h
      · exact .inl ⟨h, h2, h3, h4⟩
      · have e : p.1 = m := by omega
        rw [e] at h2 h4; exact .inr ⟨e, h2, h3, h4⟩
theorem AidsOk.pw {l : List Aid} (h : AidsOk l) : l.Pairwise fun a b => a.number < b.number :=
  List.pairwise_iff_getElem.2 fun i j hi hj hij => h.inc (List.getElem?_eq_getElem hi) j _ hij (List.getElem?_eq_getElem hj)
def pLt (p q : Nat × Nat) : Prop := p.1 < q.1 ∨ p.1 = q.1 ∧ p.2 < q.2
theorem rowT_pw {P : Nat → Nat → Prop} {i : Nat} : ∀ k, (rowT P i k).Pairwise pLt
  | 0 => .nil
  | k + 1 => by
    rw [rowT, List.pairwise_append]
    refine ⟨rowT_pw k, by split <;> simp, fun p hp q hq => ?_⟩
    split at hq
    · rw [List.mem_singleton] at hq; subst hq
      obtain ⟨h1, _, h3, _⟩ := mem_rowT.1 hp
      exact .inr ⟨h1, h3⟩
    · simp at hq
theorem allT_pw {P : Nat → Nat → Prop} {n : Nat} : ∀ m, (allT P n m).Pairwise pLt
  | 0 => .nil
  | m + 1 => by
    rw [allT, List.pairwise_append]
    refine ⟨allT_pw m, rowT_pw n, fun p hp q hq => .inl ?_⟩
    have h1 := (mem_allT.1 hp).1
    have h2 := (mem_rowT.1 hq).1
    omega
theorem lex2 {a b c d : Int} (h : a < c ∨ a = c ∧ b < d) : lexLt [a, b] [c, d] := by
  unfold lexLt
  rw [lexC]
  rcases h with h | ⟨rfl, h⟩
  · rw [if_pos h]; omega
  · rw [if_neg (Int.lt_irrefl a), if_neg (Int.lt_irrefl a), lexC, if_pos h]; omega
theorem num_lt {s : List Aid} (h : s.Pairwise fun a b => a.number < b.number) {i k : Nat} {a b : Aid} (ha : s[i]? = some a) (hb : s[k]? = some b) : i < k ↔ a.number < b.number := by
  have hi := (List.getElem?_eq_some_iff.1 ha).1
  have hk := (List.getElem?_eq_some_iff.1 hb).1
  have ea := (List.getElem?_eq_some_iff.1 ha).2
  have eb := (List.getElem?_eq_some_iff.1 hb).2
  have hp := List.pairwise_iff_getElem.1 h
  constructor
  · intro hlt; have := hp i k hi hk hlt; rw [ea, eb] at this; exact this
  · intro hlt
    rcases Nat.lt_trichotomy i k with g | g | g
    · exact g
    · subst g; rw [ha] at hb; cases hb; omega
    · have := hp k i hk hi g; rw [ea, eb] at this; omega
theorem tog_eq {l : List Aid} {os : List Obv} {m : List (List Int)} (hpw : l.Pairwise fun a b => a.number < b.number) (hp : m.Perm (prO l os os.length)) (hs : ∀ (i j : Nat) x y, i < j → m[i]? = some x → m[j]? = some y → ¬ lexC y x < 0) : compactL (· = ·) m = (allT (both l os) l.length l.length).map (numT l) := by
  obtain ⟨h1, h2⟩ := compact_sorted hs
  refine strict_uniq h1 ?_ fun x => ?_
  · rw [List.pairwise_map]
    refine (allT_pw l.length).imp_of_mem fun {p q} hp hq hpq => ?_
    obtain ⟨a1, a2, a3, _⟩ := mem_allT.1 hp
    obtain ⟨b1, b2, b3, _⟩ := mem_allT.1 hq
    obtain ⟨v1, e1⟩ : ∃ v, l[p.1]? = some v := ⟨_, List.getElem?_eq_getElem a1⟩
    obtain ⟨v2, e2⟩ : ∃ v, l[p.2]? = some v := ⟨_, List.getElem?_eq_getElem a3⟩
    obtain ⟨w1, f1⟩ : ∃ v, l[q.1]? = some v := ⟨_, List.getElem?_eq_getElem b1⟩
    obtain ⟨w2, f2⟩ : ∃ v, l[q.2]? = some v := ⟨_, List.getElem?_eq_getElem b3⟩
    unfold numT
    rw [numAt_of e1, numAt_of e2, numAt_of f1, numAt_of f2]
    refine lex2 ?_
    rcases hpq with h | ⟨h, h'⟩
    · exact .inl ((num_lt hpw e1 f1).1 h)
    · rw [h, f1] at e1; cases e1
      exact .inr ⟨rfl, (num_lt hpw e2 f2).1 h'⟩
  · rw [h2, hp.mem_iff, mem_prO, List.mem_map]
    constructor
    · rintro ⟨q, o, _, ho, hx⟩
      obtain ⟨a, ha, hx⟩ := mem_prA.1 hx
      obtain ⟨c, b, hac, hb, rfl⟩ := mem_prB.1 hx
      have hpwS : (sL l o).Pairwise fun a b => a.number < b.number := hpw.filter _
      obtain ⟨va, hva⟩ : ∃ v, (sL l o)[a]? = some v := ⟨_, List.getElem?_eq_getElem ha⟩
      have hlt := (num_lt hpwS hva hb).1 hac
      have ma := List.mem_filter.1 (List.mem_of_getElem? hva)
      have mb := List.mem_filter.1 (List.mem_of_getElem? hb)
      obtain ⟨i, hi⟩ := List.getElem?_of_mem ma.1
      obtain ⟨k, hk⟩ := List.getElem?_of_mem mb.1
      have hik := (num_lt hpw hi hk).2 hlt
      refine ⟨(i, k), mem_allT.2 ⟨(List.getElem?_eq_some_iff.1 hi).1, hik, (List.getElem?_eq_some_iff.1 hk).1, o, List.mem_of_getElem? ho, va, b, hi, hk, by simpa using ma.2, by simpa using mb.2⟩, ?_⟩
      unfold numT
      rw [numAt_of hi, numAt_of hk, numAt_of hva]
    · rintro ⟨⟨i, k⟩, hp, rfl⟩
      obtain ⟨h3, h4, h5, o, ho, a, b, ha, hb, sa, sb⟩ := mem_allT.1 hp
      simp only at h3 h4 h5 ha hb
      have hpwS : (sL l o).Pairwise fun a b => a.number < b.number := hpw.filter _
      have ma : a ∈ sL l o := List.mem_filter.2 ⟨List.mem_of_getElem? ha, by simpa using sa⟩
      have mb : b ∈ sL l o := List.mem_filter.2 ⟨List.mem_of_getElem? hb, by simpa using sb⟩
      obtain ⟨i', hi'⟩ := List.getElem?_of_mem ma
      obtain ⟨k', hk'⟩ := List.getElem?_of_mem mb
      have hlt := (num_lt hpwS hi' hk').2 ((num_lt hpw ha hb).1 h4)
      obtain ⟨q, hq⟩ := List.getElem?_of_mem ho
      refine ⟨q, o, (List.getElem?_eq_some_iff.1 hq).1, hq, mem_prA.2 ⟨i', (List.getElem?_eq_some_iff.1 hi').1, mem_prB.2 ⟨k', b, hlt, hk', ?_⟩⟩⟩
      unfold numT
      rw [numAt_of ha, numAt_of hb, numAt_of hi']
theorem tog_val {l : List Aid} {os : List Obv} (h : AskOk l os) (h16 : os.length ≤ 16) : togR l os = ((allT (both l os) l.length l.length).map (numT l), 0) := by rw [togR, if_pos h, if_pos h16]
set_option maxHeartbeats 4000000
theorem seenTogether_ {rs ro : List (List AV)} {t t' b : Bool} {l : List Aid} {os : List Obv} (hl : rs = l.map (Aid.cs b)) (ho : ro = os.map Obv.cs) : AC Tryz.prog 26 [.sl t 16 rs, .sl t' 4 ro] llLI (togR l os) := by
  refine ac Tryz.func26 (by kernel_rfl) (.llLI _) fun E K hE hK => ?_
  conv => cbv
  refine callP hE (areObservers_ hl ho) (fun hok => ?_) (fun hok => ?_) <;> conv => cbv
  · refine lenL hE ho fun n hn hb => ?_
    conv => cbv
    have h24 := hok.1.2
    repeat' first
      | ((refine loopC hE (ι := Int × (List (List AV))) [0, 23, 24] [25, 6] (fun q => (fun (u : Int) (es : List (List AV)) => [(25, .int .i64 u), (6, .ob 0)]) q.1 q.2) (fun q => (fun (u : Int) (es : List (List AV)) => [.row 1 es]) q.1 q.2) (fun q => (fun (u : Int) (es : List (List AV)) => (os.length - u).toNat) q.1 q.2) (fun q => (fun (u : Int) (es : List (List AV)) => (0 ≤ u ∧ u ≤ os.length) ∧ es = (prO l os u.toNat).map (llR true)) q.1 q.2) [0] (by decide) ((0, [])) (by conv => lhs; cbv) (by conv => lhs; cbv) rfl rfl (by dsimp only; exact ⟨by omega, rfl⟩) fun q hi2 Kn2 hN2 => ?_; obtain ⟨u, es⟩ := q; (try dsimp only at hi2); conv => cbv); obtain ⟨⟨h0, h1⟩, h2⟩ := hi2; (have hpo := prO_len h24 os u.toNat))
      | (refine idxL (R := Obv.cs) hE ho (by omega) (fun o hv => ?_); have hob := hok.2 _ (List.mem_of_getElem? hv); obtain ⟨ox, oy, oe, ov⟩ := o; (try conv => cbv))
      | (refine callSI hE (seenFrom_ _ _ _ _ hl hok.1.all hob (by omega)) ?_; rintro r ys ⟨rs', hrs, rfl, rfl⟩; (obtain ⟨S, hS⟩ : ∃ S, S = seenL l ox oy oe ov := ⟨_, rfl⟩); rw [← hS] at hrs; (have hS24 : S.length ≤ 24 := by rw [hS]; exact Nat.le_trans (seenL_len _ _ _ _ _) h24); (try conv => cbv))
      | (refine lenL hE hrs (fun n5 hn5 hb5 => ?_); (try conv => cbv))
      | ((refine loopC hE (ι := Int × (List (List AV))) [0, 9, 23, 24, 25, 32, 33] [34, 6] (fun q => (fun (i : Int) (es3 : List (List AV)) => [(34, .int .i64 i), (6, .ob 0)]) q.1 q.2) (fun q => (fun (i : Int) (es3 : List (List AV)) => [.row 1 es3, .row 16 rs']) q.1 q.2) (fun q => (fun (i : Int) (es3 : List (List AV)) => (S.length - i).toNat) q.1 q.2) (fun q => (fun (i : Int) (es3 : List (List AV)) => (0 ≤ i ∧ i ≤ S.length) ∧ es3 = (prO l os u.toNat ++ prA S i.toNat).map (llR true)) q.1 q.2) [0, 2] (by decide) ((0, es)) (by conv => lhs; cbv) (by conv => lhs; cbv) rfl rfl (by dsimp only; exact ⟨by omega, by rw [h2]; simp [prA]⟩) fun q hi3 Kn3 hN3 => ?_; obtain ⟨i, es3⟩ := q; (try dsimp only at hi3); conv => cbv); obtain ⟨⟨i0, i1⟩, h3⟩ := hi3; (have hpa := prA_bd hS24 (i := i.toNat) (by omega)))
      | (refine idxAid (i := i) hE hrs (by omega) (fun number name atX atY height mKind mColors mShape mTop lKind lGroup lLetter lColors lPeriod sectors intensity rg rx hvA hgA hxA => ?_); (try conv => cbv))
      | (refine add64 hE (a := i) (b := 1) (by omega) (fun ip hip => ?_); (try conv => cbv))
      | ((refine loopC hE (ι := Int × (List (List AV))) [0, 9, 11, 23, 24, 25, 32, 33, 34, 42, 43] [44, 6] (fun q => (fun (j : Int) (es4 : List (List AV)) => [(44, .int .i64 j), (6, .ob 0)]) q.1 q.2) (fun q => (fun (j : Int) (es4 : List (List AV)) => [.row 1 es4, .row 16 rs', .box [.int .i64 number, .str name, .int .i64 atX, .int .i64 atY, .int .i64 height, .int .i64 mKind, .str mColors, .str mShape, .str mTop, .int .i64 lKind, .sl false 1 rg, .str lLetter, .str lColors, .int .i64 lPeriod, .sl false 3 rx, .int .i64 intensity]]) q.1 q.2) (fun q => (fun (j : Int) (es4 : List (List AV)) => (S.length - i - j).toNat) q.1 q.2) (fun q => (fun (j : Int) (es4 : List (List AV)) => (0 ≤ j ∧ j + i + 1 ≤ S.length) ∧ es4 = (prO l os u.toNat ++ prA S i.toNat ++ prB S i.toNat j.toNat).map (llR true)) q.1 q.2) [0, 1, 2] (by decide) ((0, es3)) (by conv => lhs; cbv) (by conv => lhs; cbv) rfl rfl (by dsimp only; exact ⟨by omega, by rw [h3]; simp [prB]⟩) fun q hi4 Kn4 hN4 => ?_; obtain ⟨j, es4⟩ := q; (try dsimp only at hi4); conv => cbv); obtain ⟨⟨j0, j1⟩, h4⟩ := hi4; (have hpb := prB_len S i.toNat j.toNat))
      | (refine subG hE (by simp only [Option.getD_some, Option.getD_none]; rw [hrs, List.length_map]; omega) (fun _ _ => ?_); (try conv => cbv))
      | (refine sub64 hE (a := n5) (b := ip) (by omega) (fun d hd => ?_); (try conv => cbv))
      | (refine needI hE (show 0 ≤ j ∧ j < n5 - ip from ⟨by omega, by omega⟩) ?_; (try conv => cbv))
      | (refine add64 hE (a := ip) (b := j) (by omega) (fun m hm => ?_); (try conv => cbv))
      | (refine idxAid (i := m) hE hrs (by omega) (fun number2 name2 atX2 atY2 height2 mKind2 mColors2 mShape2 mTop2 lKind2 lGroup2 lLetter2 lColors2 lPeriod2 sectors2 intensity2 rg2 rx2 hvB hgB hxB => ?_); (try conv => cbv))
      | (refine catP hE (R := llR true) (v := [number, number2]) h4 (by rfl) (by simp only [List.length_append]; omega) (fun es5 hes5 => ?_); (try conv => cbv))
      | (refine callMI hE (sortLL_ h2 (by omega)) ?_; rintro r ys ⟨m9, rs9, hp9, hs9, hrs9, rfl, rfl⟩; (have hl9 := hp9.length_eq); (try conv => cbv))
      | (refine callMI hE (compactLL_ hrs9 (by omega)) ?_; rintro r ys ⟨rs8, hrs8, rfl, rfl⟩; (try conv => cbv))
      | (refine hN4 (_, _) _ [6, 1, 2] (by decide) rfl ⟨?_, ?_⟩ ?_ <;> (try dsimp only))
      | (refine hN3 (_, _) _ [0, 1] (by decide) rfl ⟨?_, ?_⟩ ?_ <;> (try dsimp only))
      | (refine hN2 (_, _) _ [0] (by decide) rfl ⟨?_, ?_⟩ ?_ <;> (try dsimp only))
      | ((first
     | refine q0 hE ?_
     | refine callP hE (few_ _ _) (fun _ => ?_) (fun _ => ?_)
     | refine nilOwnI hE 1 ?_
     | refine lenL hE ho (fun _ _ _ => ?_)
     | refine sameI hE (by rw [hrs9, h2, List.length_map, List.length_map]; omega) ?_
     | refine B0 hE ?_|refine B1 hE (fun _=>?_) fun _=>?_|refine B3 hE fun _ _ _=>?_|refine B2 hE fun _ _=>?_|refine B4 hE fun _ _ _ _=>?_) <;> (try conv => cbv))
    all_goals (try clear hN2)
    all_goals (try clear hN3)
    all_goals (try clear hN4)
    all_goals first
      | omega
      | (rw [h4, prA_end i0 j0 (by omega) hip])
      | (rw [h3, prO_end h0 hv hS (by omega) i1 (by assumption)])
      | (rw [hes5, List.append_assoc, prB_at hvA hvB (by omega) (by assumption)])
      | (refine hK _ ?_; rw [tog_val hok (by omega), hrs8, tog_eq hok.1.pw (by rw [show os.length = u.toNat by omega]; exact hp9) hs9]; rfl)
      | (refine hK _ ?_; rw [togR, if_pos hok, if_neg (by omega)]; rfl)
      | trace_state
  · refine nilOwnI hE 1 ?_
    conv => cbv
    exact hK _ (by rw [togR, if_neg hok]; rfl)
end Go.Proofs.YtoafgafkmeghlaaGreatDoor
