/- Plain laws: rhythms as lists of lit and dark tenths. -/
import Derived.Test.YtoafgafkmeghlaaGreatDoorGtc
import Derived.Test.YtoafgafkmeghlaaGreatDoorFC
import Derived.Test.YtoafgafkmeghlaaGreatDoorFA
import Derived.Test.YtoafgafkmeghlaaGreatDoorFB
import Derived.Test.YtoafgafkmeghlaaGreatDoorShl
import Derived.Lib.IndexLaws
import Derived.Test.YtoafgafkmeghlaaGreatDoorAxU
import Derived.Test.YtoafgafkmeghlaaGreatDoorShk
import Derived.Shelf.Spec.SlicesGrow
namespace Go.Proofs.YtoafgafkmeghlaaGreatDoor
open Go Go.RowKit Classical
set_option maxRecDepth 100000
set_option maxHeartbeats 2000000
set_option linter.unusedVariables false
set_option linter.unusedSimpArgs false
noncomputable section
def bI (b : Bool) : Int := if b then 1 else 0
theorem bI_inj {a b : Bool} (h : bI a = bI b) : a = b := by cases a <;> cases b <;> simp [bI] at h ⊢
def bval : List Bool → Nat
  | [] => 0
  | b :: l => (if b then 2 ^ l.length else 0) + bval l
theorem bval_lt : ∀ l : List Bool, bval l < 2 ^ l.length
  | [] => by simp [bval]
  | b :: l => by
    have := bval_lt l
    rw [bval, List.length_cons, Nat.pow_succ]
    split <;> omega
theorem bval_app : ∀ a b : List Bool, bval (a ++ b) = bval a * 2 ^ b.length + bval b
  | [], b => by simp [bval]
  | x :: a, b => by
    rw [List.cons_append, bval, bval_app a b, bval, List.length_append, Nat.add_mul]
    split
    · rw [Nat.pow_add]; omega
    · omega
theorem bval_zero : ∀ {l : List Bool}, bval l = 0 → ∀ b ∈ l, b = false
  | [], _ => by simp
  | b :: l, h => by
    rw [bval] at h
    have hp := bval_lt l
    intro x hx
    cases b with
    | true => rw [if_pos rfl] at h; omega
    | false =>
      rcases List.mem_cons.1 hx with e | e
      · exact e
      · exact bval_zero (by omega) x e
theorem lexC_bval : ∀ {a b : List Bool}, a.length = b.length → (lexC (a.map bI) (b.map bI) < 0 ↔ bval a < bval b)
  | [], [], _ => by simp [lexC, bval]
  | [], _ :: _, h => by simp at h
  | _ :: _, [], h => by simp at h
  | x :: a, y :: b, h => by
    have hl : a.length = b.length := by simpa using h
    have ih := lexC_bval hl
    have h1 := bval_lt a
    have h2 := bval_lt b
    rw [hl] at h1
    simp only [List.map_cons, lexC, bval, hl]
    cases x <;> cases y <;> simp [bI] <;> first | exact ih | omega
theorem bval_inj : ∀ {a b : List Bool}, a.length = b.length → bval a = bval b → a = b
  | [], [], _, _ => rfl
  | [], _ :: _, h, _ => by simp at h
  | _ :: _, [], h, _ => by simp at h
  | x :: a, y :: b, h, he => by
    have hl : a.length = b.length := by simpa using h
    have h1 := bval_lt a
    have h2 := bval_lt b
    rw [hl] at h1
    simp only [bval, hl] at he
    have hxy : x = y := by cases x <;> cases y <;> simp at he ⊢ <;> omega
    subst hxy
    rw [bval_inj hl (by split at he <;> omega)]
def rot {α : Type} (l : List α) (k : Nat) : List α := l.drop k ++ l.take k
theorem rot_len {α : Type} (l : List α) (k : Nat) : (rot l k).length = l.length := by
  unfold rot; rw [List.length_append, List.length_drop, List.length_take]; omega
theorem rot_get {α : Type} (l : List α) {k i : Nat} (hk : k ≤ l.length) (hi : i < l.length) : (rot l k)[i]? = l[(k + i) % l.length]? := by
  unfold rot
  rw [List.getElem?_append, List.length_drop]
  split
  · rw [List.getElem?_drop, Nat.mod_eq_of_lt (by omega)]
  · rw [List.getElem?_take, if_pos (by omega)]
    congr 1
    rw [Nat.mod_eq_sub_mod (by omega), Nat.mod_eq_of_lt (by omega)]; omega
theorem rot_zero {α : Type} (l : List α) : rot l 0 = l := by simp [rot]
theorem rot_full {α : Type} (l : List α) : rot l l.length = l := by simp [rot]
def IsNorm (l r : List Bool) : Prop := (∃ t, t ≤ l.length ∧ r = rot l t) ∧ ∀ t, t ≤ l.length → bval r ≤ bval (rot l t)
theorem IsNorm.uniq {l r s : List Bool} (h : IsNorm l r) (g : IsNorm l s) : r = s := by
  obtain ⟨⟨t, ht, rfl⟩, h2⟩ := h
  obtain ⟨⟨u, hu, rfl⟩, g2⟩ := g
  refine bval_inj (by rw [rot_len, rot_len]) ?_
  have := h2 u hu
  have := g2 t ht
  omega
def normB (l : List Bool) : List Bool := Classical.epsilon (IsNorm l)
theorem IsNorm.eq {l r : List Bool} (h : IsNorm l r) : normB l = r := (Classical.epsilon_spec ⟨r, h⟩ : IsNorm l (normB l)).uniq h
theorem rot_back {l : List Bool} {t : Nat} {b : Bool} (h0 : 0 < t) (ht : t ≤ l.length) (hb : l[t - 1]? = some b) : ∃ w, rot l t = w ++ [b] ∧ rot l (t - 1) = b :: w := by
  have hlt : t - 1 < l.length := by omega
  have hb' : l[t - 1] = b := by rw [List.getElem?_eq_getElem hlt] at hb; exact Option.some.inj hb
  refine ⟨l.drop t ++ l.take (t - 1), ?_, ?_⟩
  · unfold rot
    rw [List.append_assoc]
    congr 1
    conv => lhs; rw [show t = t - 1 + 1 by omega, List.take_add_one, hb]
    rfl
  · unfold rot
    rw [List.drop_eq_getElem_cons hlt, hb', show t - 1 + 1 = t by omega]; rfl
theorem norm_boundary {l r : List Bool} (h1 : ∃ t, t ≤ l.length ∧ r = rot l t) (h0 : bval r ≤ bval l)
    (hb : ∀ t, t < l.length → l[t]? ≠ l[(t + l.length - 1) % l.length]? → bval r ≤ bval (rot l t)) : IsNorm l r := by
  refine ⟨h1, ?_⟩
  have hmin : ∃ t, t ≤ l.length ∧ ∀ u, u ≤ l.length → bval (rot l t) ≤ bval (rot l u) := by
    have key : ∀ n, ∃ t, t ≤ n ∧ ∀ u, u ≤ n → bval (rot l t) ≤ bval (rot l u) := by
      intro n
      induction n with
      | zero => exact ⟨0, Nat.le_refl _, fun u hu => by rw [show u = 0 by omega]; exact Nat.le_refl _⟩
      | succ n ih =>
        obtain ⟨t, ht, h⟩ := ih
        by_cases hc : bval (rot l t) ≤ bval (rot l (n + 1))
        · refine ⟨t, by omega, fun u hu => ?_⟩
          by_cases e : u = n + 1
          · rw [e]; exact hc
          · exact h u (by omega)
        · refine ⟨n + 1, Nat.le_refl _, fun u hu => ?_⟩
          by_cases e : u = n + 1
          · rw [e]; exact Nat.le_refl _
          · have := h u (by omega); omega
    exact key _
  obtain ⟨t, ht, hm⟩ := hmin
  suffices h : bval r ≤ bval (rot l t) from fun u hu => Nat.le_trans h (hm u hu)
  by_cases hz : t = 0 ∨ t = l.length
  · have : rot l t = l := by
      rcases hz with e | e
      · rw [e]; exact rot_zero l
      · rw [e]; exact rot_full l
    rw [this]; exact h0
  · have htl : t < l.length := by omega
    by_cases hbd : l[t]? = l[(t + l.length - 1) % l.length]?
    · have e1 : (t + l.length - 1) % l.length = t - 1 := by
        rw [Nat.mod_eq_sub_mod (by omega), show t + l.length - 1 - l.length = t - 1 by omega, Nat.mod_eq_of_lt (by omega)]
      rw [e1] at hbd
      obtain ⟨b, hb1⟩ : ∃ b, l[t - 1]? = some b := ⟨_, List.getElem?_eq_getElem (by omega)⟩
      have hb2 : l[t]? = some b := by rw [hbd, hb1]
      obtain ⟨w, e2, e3⟩ := rot_back (by omega) (by omega) hb1
      have hle := hm (t - 1) (by omega)
      rw [e2, e3, bval_app] at hle
      have hwl := bval_lt w
      have hal : ∀ x ∈ l, x = b := by
        cases b with
        | false =>
          have hw0 : bval w = 0 := by simp [bval] at hle; omega
          intro x hx
          have hmem : x ∈ rot l t := by
            unfold rot
            rw [List.mem_append]
            rw [← List.take_append_drop t l] at hx
            rcases List.mem_append.1 hx with h | h
            · exact .inr h
            · exact .inl h
          rw [e2] at hmem
          rcases List.mem_append.1 hmem with h | h
          · exact bval_zero hw0 x h
          · simpa using h
        | true =>
          intro x hx
          cases hxx : x with
          | true => rfl
          | false =>
            rw [hxx] at hx
            obtain ⟨u, hu⟩ := List.getElem?_of_mem hx
            have hul := (List.getElem?_eq_some_iff.1 hu).1
            have h3 := hm u (by omega)
            have f1 : ∀ (v : Nat) (c : Bool), l[v]? = some c → v < l.length → rot l v = c :: (l.drop (v + 1) ++ l.take v) := by
              intro v c hv hvl
              unfold rot
              rw [List.drop_eq_getElem_cons hvl, (List.getElem?_eq_some_iff.1 hv).2]; rfl
            rw [f1 u _ hu hul, f1 t _ hb2 htl] at h3
            have h4 := bval_lt (l.drop (u + 1) ++ l.take u)
            have e4 : (l.drop (u + 1) ++ l.take u).length = l.length - 1 := by rw [List.length_append, List.length_drop, List.length_take]; omega
            have e5 : (l.drop (t + 1) ++ l.take t).length = l.length - 1 := by rw [List.length_append, List.length_drop, List.length_take]; omega
            rw [bval, bval, e4, e5] at h3
            rw [e4] at h4
            simp at h3
            omega
      have hrep : ∀ (v : Nat), rot l v = l := by
        intro v
        have e : l = List.replicate l.length b := List.eq_replicate_iff.2 ⟨rfl, hal⟩
        refine (List.eq_replicate_iff.2 ⟨rot_len l v, fun x hx => ?_⟩ : rot l v = List.replicate l.length b).trans e.symm
        unfold rot at hx
        rcases List.mem_append.1 hx with h | h
        · exact hal x (List.mem_of_mem_drop h)
        · exact hal x (List.mem_of_mem_take h)
      rw [hrep]; exact h0
    · exact hb t htl hbd
def Rep (l : List Bool) (n : Nat) : Prop := ∀ t, t < l.length → l[t]? = l[(t + n) % l.length]?
def IsPer (l : List Bool) (n : Nat) : Prop := 1 ≤ n ∧ Rep l n ∧ ∀ m, 1 ≤ m → m < n → ¬ Rep l m
theorem IsPer.uniq {l : List Bool} {n m : Nat} (h : IsPer l n) (g : IsPer l m) : n = m := by
  rcases Nat.lt_trichotomy n m with e | e | e
  · exact absurd h.2.1 (g.2.2 n h.1 e)
  · exact e
  · exact absurd g.2.1 (h.2.2 m g.1 e)
def perB (l : List Bool) : Nat := Classical.epsilon (IsPer l)
theorem IsPer.eq {l : List Bool} {n : Nat} (h : IsPer l n) : perB l = n := (Classical.epsilon_spec ⟨n, h⟩ : IsPer l (perB l)).uniq h
theorem Rep.all {l : List Bool} {n : Nat} (h : Rep l n) (t : Nat) : l[t % l.length]? = l[(t + n) % l.length]? := by
  rcases Nat.eq_zero_or_pos l.length with e | e
  · rw [List.eq_nil_of_length_eq_zero e]; simp
  · rw [h _ (Nat.mod_lt t e), Nat.mod_add_mod]
theorem Rep.full (l : List Bool) : Rep l l.length := fun t ht => by rw [Nat.add_mod_right, Nat.mod_eq_of_lt ht]
theorem Rep.sub {l : List Bool} {a b : Nat} (h : Rep l a) (g : Rep l b) (hb : b ≤ a) : Rep l (a - b) := fun t ht => by
  have h1 := h.all t
  have h2 := g.all (t + (a - b))
  rw [show t + (a - b) + b = t + a by omega] at h2
  rw [h2, ← h1, Nat.mod_eq_of_lt ht]
theorem Rep.mod {l : List Bool} {a b : Nat} (h : Rep l a) (g : Rep l b) : Rep l (a % b) := by
  induction a using Nat.strongRecOn with
  | _ a ih =>
    by_cases hb : b = 0
    · rw [hb, Nat.mod_zero]; exact h
    · by_cases hab : a < b
      · rw [Nat.mod_eq_of_lt hab]; exact h
      · rw [Nat.mod_eq_sub_mod (by omega)]
        exact ih (a - b) (by omega) (h.sub g (by omega))
theorem IsPer.dvd {l : List Bool} {n : Nat} (h : IsPer l n) : l.length % n = 0 := by
  have h1 := (Rep.full l).mod h.2.1
  have h2 := Nat.mod_lt l.length (show 0 < n from h.1)
  rcases Nat.eq_zero_or_pos (l.length % n) with e | e
  · exact e
  · exact absurd h1 (h.2.2 _ e h2)
theorem IsPer.le {l : List Bool} {n : Nat} (h : IsPer l n) (hl : 0 < l.length) : n ≤ l.length := by
  refine Nat.le_of_not_lt fun hlt => ?_
  exact h.2.2 l.length hl hlt (Rep.full l)
def Lin (l : List Bool) (n : Nat) : Prop := ∀ t, t + n < l.length → l[t]? = l[t + n]?
theorem Rep.lin {l : List Bool} {n : Nat} (h : Rep l n) : Lin l n := fun t ht => by
  have := h t (by omega)
  rw [this, Nat.mod_eq_of_lt ht]
theorem Lin.mul {l : List Bool} {n : Nat} (h : Lin l n) (t : Nat) : ∀ k, t + k * n < l.length → l[t]? = l[t + k * n]?
  | 0, _ => by simp
  | k + 1, hk => by
    rw [Nat.add_mul, Nat.one_mul, ← Nat.add_assoc] at hk ⊢
    rw [h.mul t k (by omega), h _ hk]
theorem Lin.rep {l : List Bool} {n : Nat} (h : Lin l n) (hn : 1 ≤ n) (hd : l.length % n = 0) (hle : n ≤ l.length) : Rep l n := fun t ht => by
  by_cases hc : t + n < l.length
  · rw [h t hc, Nat.mod_eq_of_lt hc]
  · rw [Nat.mod_eq_sub_mod (by omega), Nat.mod_eq_of_lt (by omega)]
    have hk : l.length = l.length / n * n := by have := Nat.div_add_mod l.length n; rw [hd, Nat.mul_comm] at this; omega
    obtain ⟨k, hk2⟩ : ∃ k, l.length = (k + 1) * n := by
      refine ⟨l.length / n - 1, ?_⟩
      rw [Nat.sub_add_cancel (Nat.div_pos hle hn)]; exact hk
    rw [Nat.add_mul, Nat.one_mul] at hk2
    have := h.mul (t + n - l.length) k (by omega)
    rw [this]; congr 1; omega
theorem isPer_of {l : List Bool} {n : Nat} (hn : 1 ≤ n) (hle : n ≤ l.length) (hd : l.length % n = 0) (hl : Lin l n) (hm : ∀ m, 1 ≤ m → m < n → l.length % m = 0 → ¬ Lin l m) : IsPer l n := by
  refine ⟨hn, hl.rep hn hd hle, fun m h1 h2 hr => ?_⟩
  by_cases hex : ∃ q, IsPer l q ∧ q ≤ m
  · obtain ⟨q, hq, hqm⟩ := hex
    exact hm q hq.1 (by omega) hq.dvd hq.2.1.lin
  · apply hex
    have key : ∀ m, 1 ≤ m → Rep l m → ∃ q, IsPer l q ∧ q ≤ m := by
      intro m
      induction m using Nat.strongRecOn with
      | _ m ih =>
        intro h1 hr
        by_cases hp : ∃ m', 1 ≤ m' ∧ m' < m ∧ Rep l m'
        · obtain ⟨m', a, b, c⟩ := hp
          obtain ⟨q, hq, hle⟩ := ih m' b a c
          exact ⟨q, hq, by omega⟩
        · exact ⟨m, ⟨h1, hr, fun m' a b c => hp ⟨m', a, b, c⟩⟩, Nat.le_refl _⟩
    exact key m h1 hr
def onceB (l : List Bool) : List Bool := l.take (perB l)
abbrev Ph := Bool × Int
def tenB (p : List Ph) : List Bool := p.flatMap fun x => List.replicate x.2.toNat x.1
def stepB (acc : List Ph) (b : Bool) : List Ph :=
  match acc.getLast? with
  | none => acc ++ [(b, 1)]
  | some (c, n) => if c = b then acc.dropLast ++ [(c, n + 1)] else acc ++ [(b, 1)]
def joinB (l : List Bool) : List Ph := l.foldl stepB []
def nrmP (p : List Ph) : List Bool := normB (onceB (tenB p))
def jnP (p : List Ph) : List Ph := joinB (nrmP p)
def nearP (t : Int) (x y : Ph) : Prop := x.1 = y.1 ∧ -t ≤ x.2 - y.2 ∧ x.2 - y.2 ≤ t
def closeJ (t : Int) (a b : List Ph) : Prop := a.length = b.length ∧ ∃ f, f < b.length ∧ ∀ i, i < a.length → ∃ x y, a[i]? = some x ∧ b[(f + i) % b.length]? = some y ∧ nearP t x y
def closeP (t : Int) (p q : List Ph) : Prop := closeJ t (jnP p) (jnP q)
end
end Go.Proofs.YtoafgafkmeghlaaGreatDoor
/- Plain laws: the phases of a character as lit and dark times; joined tenths. -/
namespace Go.Proofs.YtoafgafkmeghlaaGreatDoor
open Go Go.RowKit Classical
set_option maxRecDepth 100000
set_option maxHeartbeats 2000000
set_option linter.unusedVariables false
set_option linter.unusedSimpArgs false
noncomputable section
def litI (k : Int) (i : Nat) : Bool := decide (i % 2 = 0 ↔ k ≠ 2)
def altP (k : Int) (l : List Int) : Nat → List Ph
  | 0 => []
  | i + 1 => altP k l i ++ [(litI k i, l.getD i 0)]
def phsR (k : Int) (g : List Int) (t : ByteArray) (p : Int) : List Ph :=
  if k = 1 then [(true, 10)] else if k = 3 then [(true, p / 2), (false, p / 2)]
  else if Steady k g then [(true, flashR k), (false, gapR k)]
  else altP k (timesR k g t) (timesR k g t).length ++ [(decide (k = 2), p - (timesR k g t).sum)]
theorem altP_len (k : Int) (l : List Int) : ∀ i, (altP k l i).length = i
  | 0 => rfl
  | i + 1 => by rw [altP, List.length_append, altP_len k l i]; rfl
theorem altP_sum (k : Int) (l : List Int) : ∀ i, i ≤ l.length → ((altP k l i).map Prod.snd).sum = (l.take i).sum
  | 0, _ => by simp [altP]
  | i + 1, h => by
    rw [altP, List.map_append, List.sum_append, altP_sum k l i (by omega), List.take_add_one, List.sum_append, List.getD_eq_getElem?_getD, List.getElem?_eq_getElem (by omega)]
    simp
theorem altP_mem (k : Int) (l : List Int) : ∀ i, i ≤ l.length → ∀ x ∈ altP k l i, x.2 ∈ l
  | 0, _, x, h => by simp [altP] at h
  | i + 1, hl, x, h => by
    rw [altP] at h
    rcases List.mem_append.1 h with h | h
    · exact altP_mem k l i (by omega) x h
    · rw [List.mem_singleton] at h
      rw [h, List.getD_eq_getElem?_getD, List.getElem?_eq_getElem (by omega)]
      simp
theorem altP_app (k : Int) (l m : List Int) : ∀ i, i ≤ l.length → altP k (l ++ m) i = altP k l i
  | 0, _ => rfl
  | i + 1, h => by
    rw [altP, altP, altP_app k l m i (by omega), List.getD_eq_getElem?_getD, List.getD_eq_getElem?_getD, List.getElem?_append_left (by omega)]
theorem innerL_par (f g : Int) (b : Bool) : ∀ k : Nat, (innerL f g b k).length % 2 = if b = true ∧ 0 < k then 1 else 0
  | 0 => by simp [innerL]
  | k + 1 => by
    have ih := innerL_par f g b k
    rw [innerL, List.length_append, List.length_append]
    by_cases hk : k = 0
    · subst hk
      cases b <;> simp [innerL]
    · cases b with
      | false => simp [hk] at ih ⊢; omega
      | true => rw [if_pos ⟨rfl, by omega⟩] at ih; simp [hk]; omega
theorem outerL_par {f g : Int} {l : List Int} (h : ∀ x ∈ l, 1 ≤ x) : ∀ i : Nat, i ≤ l.length → (outerL f g l i).length % 2 = if 0 < i then 1 else 0
  | 0, _ => by simp [outerL]
  | i + 1, hi => by
    have ih := outerL_par (f := f) (g := g) h i (by omega)
    have h1 := innerL_par f g (i == 0) (l.getD i 0).toNat
    have h2 : 1 ≤ l.getD i 0 := by
      rw [List.getD_eq_getElem?_getD, List.getElem?_eq_getElem (by omega)]
      exact h _ (List.getElem_mem _)
    rw [outerL, List.length_append, if_pos (by omega)]
    by_cases e : i = 0
    · subst e
      rw [if_pos ⟨rfl, by omega⟩] at h1
      rw [if_neg (by omega)] at ih
      omega
    · rw [if_neg (by simp [e])] at h1
      rw [if_pos (by omega)] at ih
      omega
theorem morL_par (s : ByteArray) : ∀ j : Nat, (morL s j).length % 2 = if 0 < j then 1 else 0
  | 0 => by simp [morL]
  | j + 1 => by
    have ih := morL_par s j
    rw [morL, List.length_append, List.length_append]
    by_cases e : j = 0
    · subst e; simp [morL]
    · rw [if_pos (by omega)] at ih
      simp [e]; omega
theorem timesR_par {k : Int} {g : List Int} {t : ByteArray} (h : ShapeOk k g t) : (timesR k g t).length % 2 = 1 := by
  unfold timesR
  split
  · rename_i h8
    rcases h.letter with ⟨_, h1⟩ | ⟨h1, _⟩
    · have h2 := codes_ok _ (sgnT_mem h1)
      rw [morL_par, if_pos]
      have := h2.1
      rw [Ne, len0_iff] at this
      omega
    · exact absurd h8 h1
  · have h1 := grpOr_bd h.grp
    have h2 := outerL_par (f := flashR k) (g := gapR k) (l := grpOr g) (fun x hx => (h1.1 x hx).1) (grpOr g).length (Nat.le_refl _)
    rw [if_pos (by omega)] at h2
    rw [List.length_append]
    split <;> simp <;> omega
theorem timesR_steady {k : Int} {t : ByteArray} (hk : k = 6 ∨ k = 7) (ht : t = noS) : timesR k [] t = [flashR k] := by
  unfold timesR
  rw [if_neg (by omega), if_pos ht]
  rfl
theorem ShapeOk.noL {k : Int} {t : ByteArray} (h : ShapeOk k [] t) (hk : k = 6 ∨ k = 7) : t = noS := by
  rcases h with h | h | ⟨_, ⟨h, _⟩ | ⟨_, h⟩⟩ | h
  · omega
  · omega
  · exact h
  · simp at h
  · omega
def PhOk (p : List Ph) : Prop := p.length ≤ 100 ∧ (∀ x ∈ p, 0 ≤ x.2) ∧ 1 ≤ (p.map Prod.snd).sum ∧ (p.map Prod.snd).sum ≤ 1000
theorem phsR_ok {k : Int} {g : List Int} {t c : ByteArray} {p : Int} (h : ChrOk k g t c p) : PhOk (phsR k g t p) := by
  obtain ⟨_, hs, h0, h1⟩ := h
  have htb := timesR_bd hs
  have hsb := sum_bd htb.2
  have hrb := restR_bd k
  have hfb := flashR_bd k
  have hgb := gapR_bd k
  unfold phsR
  split
  · exact ⟨by simp, by simp, by simp, by simp⟩
  · rename_i hk1
    have hl3 : k = 3 → 20 ≤ p ∧ p ≤ 600 := fun hk => by
      have hns : ¬ Steady k g := by rintro (h | h) <;> omega
      have := h1 hns
      unfold leastR at this
      rw [if_neg hns, if_pos hk] at this
      omega
    split
    · rename_i hk3
      have := hl3 hk3
      refine ⟨by simp, fun x hx => ?_, ?_, ?_⟩
      · simp at hx; rcases hx with rfl | rfl <;> simp <;> omega
      · simp; omega
      · simp; omega
    · rename_i hk3
      split
      · refine ⟨by simp, fun x hx => ?_, ?_, ?_⟩
        · simp at hx; rcases hx with rfl | rfl <;> simp <;> omega
        · simp; omega
        · simp; omega
      · rename_i hns
        have h2 := h1 hns
        have h3 : (timesR k g t).sum + restR k ≤ p := by
          have := h2.1
          unfold leastR at this
          rw [if_neg hns, if_neg hk3] at this
          split at this <;> omega
        have h4 := altP_sum k (timesR k g t) (timesR k g t).length (Nat.le_refl _)
        rw [List.take_length] at h4
        refine ⟨by rw [List.length_append, altP_len]; simp; omega, fun x hx => ?_, ?_, ?_⟩
        · rcases List.mem_append.1 hx with hx | hx
          · exact (htb.2 _ (altP_mem _ _ _ (Nat.le_refl _) x hx)).1
          · rw [List.mem_singleton] at hx; rw [hx]; simp only; omega
        · rw [List.map_append, List.sum_append, h4]; simp; omega
        · rw [List.map_append, List.sum_append, h4]; simp; omega
theorem tenB_len : ∀ {p : List Ph}, (∀ x ∈ p, 0 ≤ x.2) → ((tenB p).length : Int) = (p.map Prod.snd).sum
  | [], _ => rfl
  | x :: p, h => by
    have ih := tenB_len (p := p) fun y hy => h y (by simp [hy])
    have hx := h x (by simp)
    rw [tenB] at ih ⊢
    rw [List.flatMap_cons, List.length_append, List.length_replicate, List.map_cons, List.sum_cons, ← ih]
    omega
theorem PhOk.ten {p : List Ph} (h : PhOk p) : 1 ≤ (tenB p).length ∧ (tenB p).length ≤ 1000 := by
  have := tenB_len h.2.1
  obtain ⟨_, _, h1, h2⟩ := h
  omega
theorem tenB_take {p : List Ph} {i : Nat} {x : Ph} (hx : p[i]? = some x) : tenB (p.take (i + 1)) = tenB (p.take i) ++ List.replicate x.2.toNat x.1 := by
  rw [List.take_add_one, hx]
  simp [tenB]
theorem tenB_le (p : List Ph) (i : Nat) : (tenB (p.take i)).length ≤ (tenB p).length := by
  conv => rhs; rw [← List.take_append_drop i p]
  unfold tenB
  rw [List.flatMap_append, List.length_append]
  exact Nat.le_add_right _ _
theorem joinB_take {l : List Bool} {i : Nat} {b : Bool} (h : l[i]? = some b) : joinB (l.take (i + 1)) = stepB (joinB (l.take i)) b := by
  unfold joinB
  rw [List.take_add_one, h, List.foldl_append]; rfl
theorem stepB_nil {acc : List Ph} {b : Bool} (h : acc.length = 0) : stepB acc b = acc ++ [(b, 1)] := by
  rw [List.eq_nil_of_length_eq_zero h]; rfl
theorem stepB_new {acc : List Ph} {b : Bool} {x : Ph} (h : acc[acc.length - 1]? = some x) (hne : x.1 ≠ b) : stepB acc b = acc ++ [(b, 1)] := by
  unfold stepB
  rw [List.getLast?_eq_getElem?, h]
  exact if_neg hne
theorem stepB_old {acc : List Ph} {b : Bool} {x : Ph} (h : acc[acc.length - 1]? = some x) (he : x.1 = b) : stepB acc b = acc.set (acc.length - 1) (x.1, x.2 + 1) := by
  have hl := (List.getElem?_eq_some_iff.1 h).1
  unfold stepB
  rw [List.getLast?_eq_getElem?, h]
  show (if x.1 = b then acc.dropLast ++ [(x.1, x.2 + 1)] else _) = _
  rw [if_pos he]
  refine List.ext_getElem? fun j => ?_
  rw [List.getElem?_append, List.length_dropLast, List.getElem?_set]
  by_cases h1 : j < acc.length - 1
  · rw [if_pos h1, if_neg (by omega), List.getElem?_dropLast, if_pos h1]
  · rw [if_neg h1]
    by_cases h2 : j = acc.length - 1
    · subst h2; rw [if_pos rfl, if_pos hl, Nat.sub_self]; rfl
    · rw [if_neg (by omega), List.getElem?_eq_none (by simp; omega), List.getElem?_eq_none (by omega)]
theorem stepB_bd {acc : List Ph} {b : Bool} {n : Int} (h : ∀ x ∈ acc, 1 ≤ x.2 ∧ x.2 ≤ n) (h0 : 0 ≤ n) : (stepB acc b).length ≤ acc.length + 1 ∧ ∀ x ∈ stepB acc b, 1 ≤ x.2 ∧ x.2 ≤ n + 1 := by
  rcases Nat.eq_zero_or_pos acc.length with e | e
  · rw [stepB_nil e]
    refine ⟨by simp, fun x hx => ?_⟩
    rcases List.mem_append.1 hx with hx | hx
    · have := h x hx; omega
    · rw [List.mem_singleton] at hx; rw [hx]; simp only; omega
  · obtain ⟨x, hx⟩ : ∃ x, acc[acc.length - 1]? = some x := ⟨_, List.getElem?_eq_getElem (by omega)⟩
    have hxb := h x (List.mem_of_getElem? hx)
    by_cases he : x.1 = b
    · rw [stepB_old hx he]
      refine ⟨by simp, fun y hy => ?_⟩
      rcases List.mem_or_eq_of_mem_set hy with hy | hy
      · have := h y hy; omega
      · rw [hy]; simp only; omega
    · rw [stepB_new hx he]
      refine ⟨by simp, fun y hy => ?_⟩
      rcases List.mem_append.1 hy with hy | hy
      · have := h y hy; omega
      · rw [List.mem_singleton] at hy; rw [hy]; simp only; omega
theorem joinB_bd {l : List Bool} : ∀ i : Nat, i ≤ l.length → (joinB (l.take i)).length ≤ i ∧ ∀ x ∈ joinB (l.take i), 1 ≤ x.2 ∧ x.2 ≤ i
  | 0, _ => by simp [joinB]
  | i + 1, h => by
    obtain ⟨h1, h2⟩ := joinB_bd (l := l) i (by omega)
    obtain ⟨b, hb⟩ : ∃ b, l[i]? = some b := ⟨_, List.getElem?_eq_getElem (by omega)⟩
    rw [joinB_take hb]
    have := stepB_bd (b := b) h2 (by omega)
    refine ⟨by omega, fun x hx => ?_⟩
    have := this.2 x hx
    omega
theorem joinB_all (l : List Bool) : (joinB l).length ≤ l.length ∧ ∀ x ∈ joinB l, 1 ≤ x.2 ∧ x.2 ≤ l.length := by
  have := joinB_bd (l := l) l.length (Nat.le_refl _)
  rwa [List.take_length] at this
end
end Go.Proofs.YtoafgafkmeghlaaGreatDoor
/- Plain laws: the colours of lit and dark; which characters are confused. -/
namespace Go.Proofs.YtoafgafkmeghlaaGreatDoor
open Go Go.RowKit Classical
set_option maxRecDepth 100000
set_option maxHeartbeats 2000000
set_option linter.unusedVariables false
set_option linter.unusedSimpArgs false
noncomputable section
def colS (c : UInt8) (b : Bool) : ByteArray := if b then ⟨#[c]⟩ else noS
def byI (c : UInt8) (b : Bool) : Int := if b then (c.toNat : Int) else 0
def phR (c : UInt8) (x : Ph) : List AV := [.str (colS c x.1), .int .i64 x.2]
def tnR (c : UInt8) (b : Bool) : List AV := [.str (colS c b)]
def byR (c : UInt8) (b : Bool) : List AV := [.int .u8 (byI c b)]
theorem colS_ne (c : UInt8) : (⟨#[c]⟩ : ByteArray) ≠ noS := by unfold noS; simp
theorem colS_inj {c : UInt8} {a b : Bool} : colS c a = colS c b ↔ a = b := by
  cases a <;> cases b <;> simp [colS, colS_ne, Ne.symm (colS_ne c)]
theorem colS_dark {c : UInt8} {b : Bool} : colS c b = noS ↔ b = false := by
  cases b <;> simp [colS, colS_ne]
theorem byI_inj {c : UInt8} (hc : c ≠ 0) {a b : Bool} : byI c a = byI c b ↔ a = b := by
  have : c.toNat ≠ 0 := fun h => hc (UInt8.toNat_inj.1 h)
  cases a <;> cases b <;> simp [byI] <;> omega
theorem byI_lt {c : UInt8} (hc : c ≠ 0) {a b : Bool} : byI c a < byI c b ↔ bI a < bI b := by
  have : c.toNat ≠ 0 := fun h => hc (UInt8.toNat_inj.1 h)
  cases a <;> cases b <;> simp [byI, bI] <;> omega
theorem byI_zero {c : UInt8} (hc : c ≠ 0) {b : Bool} : byI c b = 0 ↔ b = false := by
  have : c.toNat ≠ 0 := fun h => hc (UInt8.toNat_inj.1 h)
  cases b <;> simp [byI] <;> omega
theorem strLt_col (c : UInt8) (a b : Bool) : strLt (colS c a) (colS c b) ↔ bI a < bI b := by
  unfold strLt
  rw [bytes_toList, bytes_toList]
  cases a <;> cases b <;> simp [colS, noS, bI, Op.bytesLess]
theorem cmpS_col (c : UInt8) (a b : Bool) : cmpS (colS c a) (colS c b) = cmpI (bI a) (bI b) := by
  unfold cmpS cmpI
  simp only [strLt_col]
theorem bytes_one (c : UInt8) : bytesOf [byI c true] = ⟨#[c]⟩ := by
  unfold bytesOf byI
  simp
  rfl
theorem ext_one {s : ByteArray} {i : Nat} (h : i < s.size) : s.extract i (i + 1) = ⟨#[s.data.getD i 0]⟩ := by
  have hd : i < s.data.size := h
  have e : (s.extract i (i + 1)).data = #[s.data.getD i 0] := by
    rw [ByteArray.data_extract]
    apply Array.ext
    · simp; omega
    · intro j h1 h2
      have : j = 0 := by simpa using h2
      subst this
      simp [Array.getD]
      intro h3; exact absurd h3 (by omega)
  cases hx : s.extract i (i + 1) with
  | mk d => rw [hx] at e; simp only at e; rw [e]
def hasC (d : ByteArray) (b : UInt8) : Prop := ∃ j, j < d.size ∧ d.data.getD j 0 = b
def shareC (c d : ByteArray) : Prop := ∃ i, i < c.size ∧ hasC d (c.data.getD i 0)
def confR (c d : Chr) (t : Int) : Prop := shareC c.colors d.colors ∧ closeP t (phsR c.kind c.group c.letter c.period) (phsR d.kind d.group d.letter d.period)
def chrOf (a : Aid) : Chr := ⟨a.lKind, a.lGroup, a.lLetter, a.lColors, a.lPeriod⟩
theorem hasC_iff {d : ByteArray} {b : UInt8} : 0 ≤ Lib.indexByte d.data.toList b ↔ hasC d b := by
  constructor
  · intro h
    obtain ⟨o, ho⟩ : ∃ o : Nat, Lib.indexByte d.data.toList b = o := ⟨(Lib.indexByte d.data.toList b).toNat, by omega⟩
    have h1 := (Lib.indexByte_some ho).1
    have h2 := (List.getElem?_eq_some_iff.1 h1).1
    rw [Array.length_toList] at h2
    refine ⟨o, h2, ?_⟩
    rw [Array.getElem?_toList] at h1
    rw [Array.getD_eq_getD_getElem?, h1]; rfl
  · rintro ⟨j, hj, rfl⟩
    have hg := Lib.indexByte_ge d.data.toList (d.data.getD j 0)
    refine Int.not_lt.1 fun hlt => ?_
    have hn := Lib.indexByte_none (l := d.data.toList) (c := d.data.getD j 0) (by omega) j
    apply hn
    have hj' : j < d.data.size := hj
    rw [Array.getElem?_toList, Array.getD_eq_getD_getElem?, Array.getElem?_eq_getElem hj']; rfl
end
end Go.Proofs.YtoafgafkmeghlaaGreatDoor
/- Contracts: the tenths of a rhythm, its period. -/
namespace Go.Proofs.YtoafgafkmeghlaaGreatDoor
open Go Go.RowKit Classical
set_option maxRecDepth 100000
set_option maxHeartbeats 2000000
set_option linter.unusedVariables false
set_option linter.unusedSimpArgs false
variable {E : Env} {P : Program} {np : Nat}
theorem idxPh (hE : E = stdE np P) {es : List (List AV)} {i : Int} {K : List AV → Prop} {p : List Ph} {c : UInt8} (hl : es = p.map (phR c)) (h0 : 0 ≤ i ∧ i < p.length) (hk : ∀ s b n, p[i.toNat]? = some (b, n) → s = colS c b → K [.str s, .int .i64 n]) : E.idx es i K :=
  idxL hE hl h0 fun v hv => hk _ v.1 v.2 hv rfl
theorem idxPhV (hE : E = stdE np P) {es : List (List AV)} {i : Int} {K : List AV → Prop} {p : List Ph} {c : UInt8} {b : Bool} {n : Int} {s : ByteArray} (hl : es = p.map (phR c)) (h0 : 0 ≤ i) (hv : p[i.toNat]? = some (b, n)) (hs : s = colS c b) (hk : K [.str s, .int .i64 n]) : E.idx es i K :=
  idxV hE hl h0 hv (by subst hs; exact hk)
theorem idxTn (hE : E = stdE np P) {es : List (List AV)} {i : Int} {K : List AV → Prop} {l : List Bool} {c : UInt8} (hl : es = l.map (tnR c)) (h0 : 0 ≤ i ∧ i < l.length) (hk : ∀ s b, l[i.toNat]? = some b → s = colS c b → K [.str s]) : E.idx es i K :=
  idxL hE hl h0 fun v hv => hk _ v hv rfl
theorem NoB.tn (c : UInt8) (l : List Bool) : NoB (.sl true 1 (l.map (tnR c))) := .rows fun _ => .aggC (.str _) .agg0
theorem NoB.ph (c : UInt8) (l : List Ph) : NoB (.sl true 2 (l.map (phR c))) := .rows fun _ => .aggC (.str _) (.aggC (.int _ _) .agg0)
theorem ten_in {c : UInt8} {X : List Bool} {k kp : Int} {b : Bool} (h0 : 0 ≤ k) (hkp : kp = k + 1) : (X ++ List.replicate k.toNat b ++ [b]).map (tnR c) = (X ++ List.replicate kp.toNat b).map (tnR c) := by
  rw [show kp.toNat = k.toNat + 1 by omega, List.replicate_succ', ← List.append_assoc]
theorem ten_out {c : UInt8} {p : List Ph} {i ip k n : Int} {b : Bool} (hp : p[i.toNat]? = some (b, n)) (h0 : 0 ≤ i) (hip : ip = i + 1) (hk : k.toNat = n.toNat) : (tenB (p.take i.toNat) ++ List.replicate k.toNat b).map (tnR c) = (tenB (p.take ip.toNat)).map (tnR c) := by
  rw [show ip.toNat = i.toNat + 1 by omega, tenB_take hp, hk]
theorem ten_lim {p : List Ph} {i k n : Int} {b : Bool} (hok : PhOk p) (hp : p[i.toNat]? = some (b, n)) (hk : k ≤ n ∧ 0 ≤ k) : (tenB (p.take i.toNat) ++ List.replicate k.toNat b).length ≤ 1000 ∧ k ≤ 1000 := by
  have h1 := tenB_le p (i.toNat + 1)
  have h2 := hok.ten
  rw [tenB_take hp, List.length_append, List.length_replicate] at h1
  rw [List.length_append, List.length_replicate]
  simp only at h1
  omega
theorem tenths_ (c : UInt8) {rs : List (List AV)} {t : Bool} {p : List Ph} (hl : rs = p.map (phR c)) (hok : PhOk p) : AC Tryz.prog 185 [.sl t 2 rs] (fun l : List Bool => .sl true 1 (l.map (tnR c))) (tenB p) := by
  refine ac Tryz.func185 (by kernel_rfl) (.tn _ _) fun E K hE hK => ?_
  conv => cbv
  refine lenL hE hl fun n hn hb => ?_
  conv => cbv
  refine loopC hE (ι := Int × (List (List AV))) [7, 8] [9, 3] (fun q => (fun (i : Int) (es : List (List AV)) => [(9, .int .i64 i), (3, .ob 0)]) q.1 q.2) (fun q => (fun (i : Int) (es : List (List AV)) => [.row 1 es]) q.1 q.2) (fun q => (fun (i : Int) (es : List (List AV)) => (n - i).toNat) q.1 q.2) (fun q => (fun (i : Int) (es : List (List AV)) => (0 ≤ i ∧ i ≤ n) ∧ es = (tenB (p.take i.toNat)).map (tnR c)) q.1 q.2) [0] (by decide) ((0, [])) (by conv => lhs; cbv) (by conv => lhs; cbv) rfl rfl (by dsimp only; exact ⟨by omega, rfl⟩) fun q hi Kn hN => ?_
  obtain ⟨i, es⟩ := q
  (try dsimp only at hi)
  conv => cbv
  obtain ⟨⟨h0, h1⟩, h2⟩ := hi
  refine ltI hE (fun hlt => ?_) (fun hge => ?_) <;> conv => cbv
  · refine idxPh hE hl (by omega) fun s b m hp hs => ?_
    have hm := hok.2.1 _ (List.mem_of_getElem? hp)
    simp only at hm
    conv => cbv
    repeat' first
      | ((refine loopC hE (ι := Int × (List (List AV))) [5, 7, 8, 9, 14] [15, 3] (fun q => (fun (k : Int) (es2 : List (List AV)) => [(15, .int .i64 k), (3, .ob 0)]) q.1 q.2) (fun q => (fun (k : Int) (es2 : List (List AV)) => [.row 1 es2, .box [.str s, .int .i64 m]]) q.1 q.2) (fun q => (fun (k : Int) (es2 : List (List AV)) => (m - k).toNat) q.1 q.2) (fun q => (fun (k : Int) (es2 : List (List AV)) => (0 ≤ k ∧ k ≤ m) ∧ es2 = (tenB (p.take i.toNat) ++ List.replicate k.toNat b).map (tnR c)) q.1 q.2) [0, 1] (by decide) ((0, es)) (by conv => lhs; cbv) (by conv => lhs; cbv) rfl rfl (by dsimp only; exact ⟨by omega, by rw [h2]; simp⟩) fun q hi2 Kn2 hN2 => ?_; obtain ⟨k, es2⟩ := q; (try dsimp only at hi2); conv => cbv); obtain ⟨⟨k0, k1⟩, h3⟩ := hi2; have hlim := ten_lim hok hp ⟨k1, k0⟩)
      | (refine hN2 (_, _) _ [3, 1] (by decide) rfl ⟨?_, ?_⟩ ?_ <;> (try dsimp only))
      | (refine hN (_, _) _ [0] (by decide) rfl ⟨?_, ?_⟩ ?_ <;> (try dsimp only))
      | ((first
     | refine q0 hE ?_
     | refine catP (R := tnR c) (v := b) hE h3 (by rw [hs]; rfl) (by omega) (fun _ _ => ?_)
     | refine B0 hE ?_|refine B1 hE (fun _=>?_) fun _=>?_|refine B3 hE fun _ _ _=>?_|refine B2 hE fun _ _=>?_|refine B4 hE fun _ _ _ _=>?_) <;> (try conv => cbv))
    all_goals (try clear hN)
    all_goals (try clear hN2)
    all_goals first
      | omega
      | (rename_i h5 h6; rw [h5]; exact ten_in k0 (by assumption))
      | (subst_vars; exact ten_in k0 rfl)
      | (rw [h3]; exact ten_out hp h0 (by assumption) (by omega))
      | trace_state
  · refine hK _ ?_
    rw [h2, List.take_of_length_le (by omega)]; rfl
theorem modB {k a b : Int} (h : k = a % b) (hb : 0 < b) : 0 ≤ k ∧ k < b := by
  rw [h]; exact ⟨Int.emod_nonneg _ (by omega), Int.emod_lt_of_pos _ hb⟩
theorem rep_get {l : List Bool} {t n m : Int} {k : Int} {a b : Bool} (h0 : 0 ≤ t ∧ 0 ≤ n) (hk : k = (t + n) % m) (hm : m = l.length) (ha : l[t.toNat]? = some a) (hb : l[k.toNat]? = some b) : l[(t.toNat + n.toNat) % l.length]? = some b := by
  have e : ((t.toNat + n.toNat) % l.length : Nat) = k.toNat := by
    have h1 : t = (t.toNat : Int) := by omega
    have h2 : n = (n.toNat : Int) := by omega
    rw [h1, h2, hm] at hk
    rw [hk]
    rw [← Int.natCast_add, ← Int.natCast_emod, Int.toNat_natCast]
  rw [e]; exact hb
theorem repeats_ (c : UInt8) {rs : List (List AV)} {t : Bool} {l : List Bool} {n : Int} (hl : rs = l.map (tnR c)) (hn : 0 ≤ n ∧ n ≤ 100000) (hb : l.length ≤ 100000) : AC Tryz.prog 186 [.sl t 1 rs, .int .i64 n] AV.bool (bP (Rep l n.toNat)) := by
  refine ac Tryz.func186 (by kernel_rfl) (.bool _) fun E K hE hK => ?_
  conv => cbv
  refine lenL hE hl fun m hm hb => ?_
  conv => cbv
  refine loopC hE (ι := Int) [0, 1, 7] [8] (fun q => (fun (i : Int) => [(8, .int .i64 i)]) q) (fun q => (fun (i : Int) => []) q) (fun q => (fun (i : Int) => (m - i).toNat) q) (fun q => (fun (i : Int) => (0 ≤ i ∧ i ≤ m) ∧ Up (fun j => l[j]? = l[(j + n.toNat) % l.length]?) i) q) [] (by decide) (0) (by conv => lhs; cbv) (by conv => lhs; cbv) rfl rfl (by dsimp only; exact ⟨by omega, .zero (by omega)⟩) fun i hi Kn hN => ?_
  (try dsimp only at hi)
  conv => cbv
  obtain ⟨⟨h0, h1⟩, hinv⟩ := hi
  repeat' first
    | (refine lenL hE hl (fun m2 hm2 _ => ?_); (try conv => cbv))
    | (refine add64 hE (a := i) (b := n) (by omega) (fun a1 ha1 => ?_); (try conv => cbv))
    | (refine rem64 hE (by omega) (fun k hk => ?_); have hk2 := modB hk (by omega); (try conv => cbv))
    | (refine idxTn (i := i) hE hl (by omega) (fun s b hb hs => ?_); (try conv => cbv))
    | (refine idxTn (i := k) hE hl (by omega) (fun s2 b2 hb2 hs2 => ?_); (try conv => cbv))
    | (refine seqI hE (fun heq => ?_) (fun hne => ?_) <;> (try conv => cbv))
    | (refine hN _ _ [] (by decide) rfl ⟨?_, ?_⟩ ?_ <;> (try dsimp only))
    | ((first
   | refine q0 hE ?_
   | refine B0 hE ?_|refine B1 hE (fun _=>?_) fun _=>?_|refine B3 hE fun _ _ _=>?_|refine B2 hE fun _ _=>?_|refine B4 hE fun _ _ _ _=>?_) <;> (try conv => cbv))
  all_goals (try clear hN)
  all_goals first
    | omega
    | exact hinv.succ (by rw [rep_get (t := i) (n := n) (m := m2) ⟨h0, hn.1⟩ (by rw [hk, ha1]) (by assumption) hb hb2]; rw [hb]; congr 1; exact colS_inj.1 (hs.symm.trans (heq.trans hs2))) (by assumption)
    | (refine finB hK (bP_false.2 fun h => hne ?_); have h3 := h i.toNat (by omega); rw [rep_get (t := i) (n := n) (m := m2) ⟨h0, hn.1⟩ (by rw [hk, ha1]) (by assumption) hb hb2, hb] at h3; rw [hs, hs2, Option.some.inj h3])
    | exact finB hK (bP_true.2 (hinv.all (by omega)))
    | trace_state
end Go.Proofs.YtoafgafkmeghlaaGreatDoor
/- Contracts: slices.Grow at the nil slice, slices.Concat of two lists; rotations. -/
namespace Go.Proofs.YtoafgafkmeghlaaGreatDoor
open Go Go.RowKit Go.Shelf Classical
set_option maxRecDepth 100000
set_option maxHeartbeats 2000000
set_option linter.unusedVariables false
set_option linter.unusedSimpArgs false
def growOk (P : Program) (t : TypeId) (k b : Nat) : Bool := match P.info? t with
  | some i => match i.zero with
    | some z => decide (0 < i.size) && decide (i.bytes ≤ b) && decide (z.cells.size = k)
    | none => false
  | none => false
theorem growOk_get {P : Program} {t : TypeId} {k b : Nat} (h : growOk P t k b = true) : ∃ i z, P.info? t = some i ∧ i.zero = some z ∧ 0 < i.size ∧ i.bytes ≤ b ∧ z.cells.size = k := by
  unfold growOk at h
  split at h
  · rename_i i hi
    split at h
    · rename_i z hz
      simp only [Bool.and_eq_true, decide_eq_true_eq] at h
      exact ⟨i, z, hi, hz, h.1.1, h.1.2, h.2⟩
    · cases h
  · cases h
theorem AC.grow {P : Program} {ρ : Ren} (L : Lays8.n4 P ρ) (hent : Enters P (ρ.f 4)) {k : Nat} (hok : growOk P (ρ.t 25) k 24 = true) {n : Int} (h : 0 ≤ n ∧ n ≤ 1000000) : AC P (ρ.f 4) [.nils, .int .i64 n] (fun _ : Unit => .sl true k []) () :=
  ⟨hent, fun w vs hg hr => by
    obtain ⟨u, v, rfl, h1, h2⟩ := rel2 hr
    cases h1
    cases h2
    obtain ⟨m, rfl⟩ : ∃ m : Nat, n = m := ⟨n.toNat, by omega⟩
    by_cases h0 : m = 0
    · subst h0
      refine (Any8.slices_Grow_room L none 0 0 0 w (by omega) (by omega) (by omega) (by omega)).mono ?_
      rintro e w' ⟨rfl, rfl⟩
      exact ⟨_, fun _ => False, rfl, Keeps.refl _ _, .nil k _ fun _ h => h, fun b hb => hb.elim⟩
    · obtain ⟨i, z, hi, hz, hs, hb, hk⟩ := growOk_get hok
      have hbig : (0 + m) * i.bytes ≤ 140737488355328 := by
        have : (0 + m) * i.bytes ≤ 1000000 * 24 := Nat.mul_le_mul (by omega) hb
        omega
      refine (Any8.slices_Grow_grow L i z hi hz hs none 0 0 m [] w (by omega) (by omega) hbig (by omega) (by simp) (fun _ => rfl) (fun a ha => by cases ha)).mono ?_
      rintro e w' ⟨rfl, rfl⟩
      have hG := grownCap_ge w (0 + m) 0 (ρ.t 25)
      refine ⟨_, fun b => b = w.heap.size, rfl, (Keeps.drew w).trans (Keeps.alloc _ _ _), ?_, fun b hb => by subst hb; refine ⟨Nat.le_refl _, ?_⟩; simp⟩
      refine .sl k [] _ w.heap.size _ _ _ (fun _ _ _ => False) (heap_alloc_new w.drew _) (by simp) (by simp) ?_ (by simp) (fun i j hi => by simp at hi) (fun i j e a he => by simp at he) (fun x => ⟨.inl, fun h => h.elim id fun ⟨_, _, _, _, h⟩ => h.elim⟩) (fun _ _ _ _ h => h) (fun _ _ _ _ _ _ _ _ _ h => h.elim)
      simp only [Array.size_append, List.size_toArray, size_zeroCells, hk, List.length_nil, Nat.zero_add]
      rw [← Nat.add_mul]
      exact Nat.mul_le_mul_right _ (by omega)⟩
theorem growS_ {n : Int} (h : 0 ≤ n ∧ n ≤ 1000000) : AC Tryz.prog 229 [.nils, .int .i64 n] (fun _ : Unit => .sl true 1 []) () :=
  AC.grow Tryz.growS (fun xs w => enters_go Tryz.func229 (by kernel_rfl) rfl xs w) (by kernel_rfl) h
theorem growP_ {n : Int} (h : 0 ≤ n ∧ n ≤ 1000000) : AC Tryz.prog 138 [.nils, .int .i64 n] (fun _ : Unit => .sl true 2 []) () :=
  AC.grow Tryz.growP (fun xs w => enters_go Tryz.func138 (by kernel_rfl) rfl xs w) (by kernel_rfl) h
def lgR {β : Type} (R : β → List AV) (k : Nat) (x : List β) : List AV := [.sl false k (x.map R)]
theorem idxLg {E : Env} {P : Program} {np : Nat} (hE : E = stdE np P) {β : Type} {R : β → List AV} {k : Nat} {es : List (List AV)} {i : Int} {K : List AV → Prop} {ls : List (List β)} (hl : es = ls.map (lgR R k)) (h0 : 0 ≤ i ∧ i < ls.length) (hk : ∀ x rx, ls[i.toNat]? = some x → rx = x.map R → K [.sl false k rx]) : E.idx es i K :=
  idxL hE hl h0 fun v hv => hk v _ hv rfl
def catN {β : Type} (ls : List (List β)) (i : Nat) : List β := (ls.take i).flatten
theorem catN_succ {β : Type} {ls : List (List β)} {i n : Int} {x : List β} (h0 : 0 ≤ i) (hx : ls[i.toNat]? = some x) (hn : n = i + 1) : catN ls n.toNat = catN ls i.toNat ++ x := by
  unfold catN
  rw [show n.toNat = i.toNat + 1 by omega, List.take_add_one, hx]; simp
theorem catN_le {β : Type} (ls : List (List β)) (i : Nat) : (catN ls i).length ≤ ls.flatten.length := by
  unfold catN
  conv => rhs; rw [← List.take_append_drop i ls]
  rw [List.flatten_append, List.length_append]; omega
theorem catN_all {β : Type} {ls : List (List β)} {i : Int} (h : ls.length ≤ i) : catN ls i.toNat = ls.flatten := by
  unfold catN; rw [List.take_of_length_le (by omega)]
theorem tn_noown (c : UInt8) (x : List Bool) : ∀ e ∈ x.map (tnR c), ∀ a ∈ e, a.isOwn = false := fun e he a ha => by
  obtain ⟨b, _, rfl⟩ := List.mem_map.1 he
  simp only [tnR, List.mem_cons, List.not_mem_nil, or_false] at ha
  subst ha; rfl
theorem ph_noown (c : UInt8) (x : List Ph) : ∀ e ∈ x.map (phR c), ∀ a ∈ e, a.isOwn = false := fun e he a ha => by
  obtain ⟨b, _, rfl⟩ := List.mem_map.1 he
  simp only [phR, List.mem_cons, List.not_mem_nil, or_false] at ha
  rcases ha with rfl | rfl <;> rfl
set_option maxHeartbeats 4000000
theorem concatS_ (c : UInt8) {rs : List (List AV)} {t : Bool} {ls : List (List Bool)} (hl : rs = ls.map (lgR (tnR c) 1)) (hb : ls.flatten.length ≤ 100000) : AC Tryz.prog 187 [.sl t 1 rs] (fun l : List Bool => .sl true 1 (l.map (tnR c))) ls.flatten := by
  refine ac Tryz.func187 (by kernel_rfl) (.tn _ _) fun E K hE hK => ?_
  conv => cbv
  refine lenL hE hl fun n hn _ => ?_
  conv => cbv
  refine loopC hE (ι := Int × Int) [0, 9, 10] [11, 3] (fun q => (fun (i : Int) (z : Int) => [(11, .int .i64 i), (3, .int .i64 z)]) q.1 q.2) (fun q => (fun (i : Int) (z : Int) => []) q.1 q.2) (fun q => (fun (i : Int) (z : Int) => (n - i).toNat) q.1 q.2) (fun q => (fun (i : Int) (z : Int) => (0 ≤ i ∧ i ≤ n) ∧ z = (catN ls i.toNat).length) q.1 q.2) [] (by decide) ((0, 0)) (by conv => lhs; cbv) (by conv => lhs; cbv) rfl rfl (by dsimp only; exact ⟨by omega, rfl⟩) fun q hi Kn hN => ?_
  obtain ⟨i, z⟩ := q
  (try dsimp only at hi)
  conv => cbv
  obtain ⟨⟨h0, h1⟩, h2⟩ := hi
  have hc := catN_le ls i.toNat
  refine ltI hE (fun hlt => ?_) (fun hge => ?_) <;> conv => cbv
  · refine idxLg hE hl (by omega) fun x rx hx hrx => ?_
    conv => cbv
    have hs := catN_succ h0 hx rfl
    have hc2 := catN_le ls (i + 1).toNat
    rw [hs, List.length_append] at hc2
    repeat' first
      | (refine lenL hE hrx (fun m hm _ => ?_); (try conv => cbv))
      | (refine hN (_, _) _ [] (by decide) rfl ⟨?_, ?_⟩ ?_ <;> (try dsimp only))
      | ((first
     | refine q0 hE ?_
     | refine B0 hE ?_|refine B1 hE (fun _=>?_) fun _=>?_|refine B3 hE fun _ _ _=>?_|refine B2 hE fun _ _=>?_|refine B4 hE fun _ _ _ _=>?_) <;> (try conv => cbv))
    all_goals (try clear hN)
    all_goals first
      | omega
      | (rw [catN_succ h0 hx (by assumption), List.length_append]; omega)
      | trace_state
  · refine callI hE (growS_ (by omega)) fun _ _ => ?_
    conv => cbv
    refine lenL hE hl fun n2 hn2 _ => ?_
    conv => cbv
    (refine loopC hE (ι := Int × (List (List AV))) [25, 26] [27, 6] (fun q => (fun (j : Int) (es : List (List AV)) => [(27, .int .i64 j), (6, .ob 0)]) q.1 q.2) (fun q => (fun (j : Int) (es : List (List AV)) => [.row 1 es]) q.1 q.2) (fun q => (fun (j : Int) (es : List (List AV)) => (n2 - j).toNat) q.1 q.2) (fun q => (fun (j : Int) (es : List (List AV)) => (0 ≤ j ∧ j ≤ n2) ∧ es = (catN ls j.toNat).map (tnR c)) q.1 q.2) [0] (by decide) ((0, [])) (by conv => lhs; cbv) (by conv => lhs; cbv) rfl rfl (by dsimp only; exact ⟨by omega, rfl⟩) fun q hi2 Kn2 hN2 => ?_; obtain ⟨j, es⟩ := q; (try dsimp only at hi2); conv => cbv)
    obtain ⟨⟨j0, j1⟩, h3⟩ := hi2
    have hc := catN_le ls j.toNat
    refine ltI hE (fun hlt => ?_) (fun hge => ?_) <;> conv => cbv
    · refine idxLg hE hl (by omega) fun x rx hx hrx => ?_
      conv => cbv
      have hs := catN_succ j0 hx rfl
      have hc2 := catN_le ls (j + 1).toNat
      rw [hs, List.length_append] at hc2
      repeat' first
        | (refine noownI hE (by rw [hrx]; exact tn_noown _ _) ?_; (try conv => cbv))
        | (refine catL hE h3 hrx (by omega) (fun es2 hes2 => ?_); (try conv => cbv))
        | (refine hN2 (_, _) _ [1] (by decide) rfl ⟨?_, ?_⟩ ?_ <;> (try dsimp only))
        | ((first
       | refine q0 hE ?_
       | refine B0 hE ?_|refine B1 hE (fun _=>?_) fun _=>?_|refine B3 hE fun _ _ _=>?_|refine B2 hE fun _ _=>?_|refine B4 hE fun _ _ _ _=>?_) <;> (try conv => cbv))
      all_goals (try clear hN2)
      all_goals first
        | omega
        | (rw [hes2, ← catN_succ j0 hx (by assumption)])
        | trace_state
    · refine hK _ ?_
      rw [h3, catN_all (by omega)]; rfl
theorem concatP_ (c : UInt8) {rs : List (List AV)} {t : Bool} {ls : List (List Ph)} (hl : rs = ls.map (lgR (phR c) 2)) (hb : ls.flatten.length ≤ 100000) : AC Tryz.prog 92 [.sl t 1 rs] (fun l : List Ph => .sl true 2 (l.map (phR c))) ls.flatten := by
  refine ac Tryz.func92 (by kernel_rfl) (.ph _ _) fun E K hE hK => ?_
  conv => cbv
  refine lenL hE hl fun n hn _ => ?_
  conv => cbv
  refine loopC hE (ι := Int × Int) [0, 9, 10] [11, 3] (fun q => (fun (i : Int) (z : Int) => [(11, .int .i64 i), (3, .int .i64 z)]) q.1 q.2) (fun q => (fun (i : Int) (z : Int) => []) q.1 q.2) (fun q => (fun (i : Int) (z : Int) => (n - i).toNat) q.1 q.2) (fun q => (fun (i : Int) (z : Int) => (0 ≤ i ∧ i ≤ n) ∧ z = (catN ls i.toNat).length) q.1 q.2) [] (by decide) ((0, 0)) (by conv => lhs; cbv) (by conv => lhs; cbv) rfl rfl (by dsimp only; exact ⟨by omega, rfl⟩) fun q hi Kn hN => ?_
  obtain ⟨i, z⟩ := q
  (try dsimp only at hi)
  conv => cbv
  obtain ⟨⟨h0, h1⟩, h2⟩ := hi
  have hc := catN_le ls i.toNat
  refine ltI hE (fun hlt => ?_) (fun hge => ?_) <;> conv => cbv
  · refine idxLg hE hl (by omega) fun x rx hx hrx => ?_
    conv => cbv
    have hs := catN_succ h0 hx rfl
    have hc2 := catN_le ls (i + 1).toNat
    rw [hs, List.length_append] at hc2
    repeat' first
      | (refine lenL hE hrx (fun m hm _ => ?_); (try conv => cbv))
      | (refine hN (_, _) _ [] (by decide) rfl ⟨?_, ?_⟩ ?_ <;> (try dsimp only))
      | ((first
     | refine q0 hE ?_
     | refine B0 hE ?_|refine B1 hE (fun _=>?_) fun _=>?_|refine B3 hE fun _ _ _=>?_|refine B2 hE fun _ _=>?_|refine B4 hE fun _ _ _ _=>?_) <;> (try conv => cbv))
    all_goals (try clear hN)
    all_goals first
      | omega
      | (rw [catN_succ h0 hx (by assumption), List.length_append]; omega)
      | trace_state
  · refine callI hE (growP_ (by omega)) fun _ _ => ?_
    conv => cbv
    refine lenL hE hl fun n2 hn2 _ => ?_
    conv => cbv
    (refine loopC hE (ι := Int × (List (List AV))) [25, 26] [27, 6] (fun q => (fun (j : Int) (es : List (List AV)) => [(27, .int .i64 j), (6, .ob 0)]) q.1 q.2) (fun q => (fun (j : Int) (es : List (List AV)) => [.row 2 es]) q.1 q.2) (fun q => (fun (j : Int) (es : List (List AV)) => (n2 - j).toNat) q.1 q.2) (fun q => (fun (j : Int) (es : List (List AV)) => (0 ≤ j ∧ j ≤ n2) ∧ es = (catN ls j.toNat).map (phR c)) q.1 q.2) [0] (by decide) ((0, [])) (by conv => lhs; cbv) (by conv => lhs; cbv) rfl rfl (by dsimp only; exact ⟨by omega, rfl⟩) fun q hi2 Kn2 hN2 => ?_; obtain ⟨j, es⟩ := q; (try dsimp only at hi2); conv => cbv)
    obtain ⟨⟨j0, j1⟩, h3⟩ := hi2
    have hc := catN_le ls j.toNat
    refine ltI hE (fun hlt => ?_) (fun hge => ?_) <;> conv => cbv
    · refine idxLg hE hl (by omega) fun x rx hx hrx => ?_
      conv => cbv
      have hs := catN_succ j0 hx rfl
      have hc2 := catN_le ls (j + 1).toNat
      rw [hs, List.length_append] at hc2
      repeat' first
        | (refine noownI hE (by rw [hrx]; exact ph_noown _ _) ?_; (try conv => cbv))
        | (refine catL hE h3 hrx (by omega) (fun es2 hes2 => ?_); (try conv => cbv))
        | (refine hN2 (_, _) _ [1] (by decide) rfl ⟨?_, ?_⟩ ?_ <;> (try dsimp only))
        | ((first
       | refine q0 hE ?_
       | refine B0 hE ?_|refine B1 hE (fun _=>?_) fun _=>?_|refine B3 hE fun _ _ _=>?_|refine B2 hE fun _ _=>?_|refine B4 hE fun _ _ _ _=>?_) <;> (try conv => cbv))
      all_goals (try clear hN2)
      all_goals first
        | omega
        | (rw [hes2, ← catN_succ j0 hx (by assumption)])
        | trace_state
    · refine hK _ ?_
      rw [h3, catN_all (by omega)]; rfl
end Go.Proofs.YtoafgafkmeghlaaGreatDoor
/- Contracts: one period, rotations, the least rotation, joined tenths. -/
namespace Go.Proofs.YtoafgafkmeghlaaGreatDoor
open Go Go.RowKit Classical
set_option maxRecDepth 100000
set_option maxHeartbeats 2000000
set_option linter.unusedVariables false
set_option linter.unusedSimpArgs false
set_option maxHeartbeats 4000000
theorem Rep.per {l : List Bool} (h : 1 ≤ l.length) : ∃ n, IsPer l n ∧ n ≤ l.length := by
  have key : ∀ m, 1 ≤ m → Rep l m → ∃ q, IsPer l q ∧ q ≤ m := by
    intro m
    induction m using Nat.strongRecOn with
    | _ m ih =>
      intro h1 hr
      by_cases hp : ∃ m', 1 ≤ m' ∧ m' < m ∧ Rep l m'
      · obtain ⟨m', a, b, c⟩ := hp
        obtain ⟨q, hq, hle⟩ := ih m' b a c
        exact ⟨q, hq, by omega⟩
      · exact ⟨m, ⟨h1, hr, fun m' a b c => hp ⟨m', a, b, c⟩⟩, Nat.le_refl _⟩
  exact key _ h (Rep.full l)
theorem onceB_bd {l : List Bool} (h : 1 ≤ l.length) : 1 ≤ (onceB l).length ∧ (onceB l).length ≤ l.length := by
  obtain ⟨n, hn, hl⟩ := Rep.per h
  unfold onceB
  rw [hn.eq, List.length_take]
  have := hn.1
  omega
theorem onePeriod_ (c : UInt8) {rs : List (List AV)} {t : Bool} {p : List Ph} (hl : rs = p.map (phR c)) (hok : PhOk p) : AC Tryz.prog 135 [.sl t 2 rs] (fun l : List Bool => .sl true 1 (l.map (tnR c))) (onceB (tenB p)) := by
  refine ac Tryz.func135 (by kernel_rfl) (.tn _ _) fun E K hE hK => ?_
  conv => cbv
  have hten := hok.ten
  refine callR hE (tenths_ c hl hok) fun r1 hr1 => ?_
  conv => cbv
  obtain ⟨l, hL⟩ : ∃ l, l = tenB p := ⟨_, rfl⟩
  rw [← hL] at hr1 hten
  obtain ⟨pe, hq, hql⟩ := Rep.per hten.1
  refine loopC hE (ι := Int) [] [4, 3] (fun q => (fun (n : Int) => [(4, .int .i64 n), (3, .ob 0)]) q) (fun q => (fun (n : Int) => [.row 1 r1]) q) (fun q => (fun (n : Int) => (pe - n).toNat) q) (fun q => (fun (n : Int) => (1 ≤ n ∧ n ≤ pe) ∧ ∀ m, 1 ≤ m → m < n.toNat → ¬ Rep l m) q) [0] (by decide) (1) (by conv => lhs; cbv) (by conv => lhs; cbv) rfl rfl (by dsimp only; exact ⟨⟨by omega, by have := hq.1; omega⟩, fun m h1 h2 => by omega⟩) fun n hi Kn hN => ?_
  (try dsimp only at hi)
  conv => cbv
  obtain ⟨⟨h0, h1⟩, hinv⟩ := hi
  refine callP hE (repeats_ c hr1 (by omega) (by omega)) (fun hr => ?_) (fun hr => ?_) <;> conv => cbv
  · have hper : IsPer l n.toNat := ⟨by omega, hr, hinv⟩
    repeat' first
      | (refine subL hE hr1 (by simp only [Option.getD_some, Option.getD_none]; omega) (fun r2 hr2 => ?_); (try conv => cbv))
      | ((first
     | refine q0 hE ?_
     | refine B0 hE ?_|refine B1 hE (fun _=>?_) fun _=>?_|refine B3 hE fun _ _ _=>?_|refine B2 hE fun _ _=>?_|refine B4 hE fun _ _ _ _=>?_) <;> (try conv => cbv))
    exact hK _ (by rw [hr2, onceB, ← hL, hper.eq]; simp; rfl)
  · have hlt : n < pe := by
      rcases Int.lt_or_le n pe with h | h
      · exact h
      · exact absurd (by rw [show n.toNat = pe by omega]; exact hq.2.1) hr
    repeat' first
      | (refine hN _ _ [0] (by decide) rfl ⟨?_, ?_⟩ ?_ <;> (try dsimp only))
      | ((first
     | refine q0 hE ?_
     | refine B0 hE ?_|refine B1 hE (fun _=>?_) fun _=>?_|refine B3 hE fun _ _ _=>?_|refine B2 hE fun _ _=>?_|refine B4 hE fun _ _ _ _=>?_) <;> (try conv => cbv))
    all_goals (try clear hN)
    all_goals first
      | omega
      | (intro m h1 h2; by_cases hm : m = n.toNat <;> first | (rw [hm]; exact hr) | exact hinv m h1 (by omega))
      | trace_state
theorem rotated_ (c : UInt8) {rs : List (List AV)} {t : Bool} {l : List Bool} {k : Int} (hl : rs = l.map (tnR c)) (hk : 0 ≤ k ∧ k ≤ l.length) (hb : l.length ≤ 1000) : AC Tryz.prog 136 [.sl t 1 rs, .int .i64 k] (fun l : List Bool => .sl true 1 (l.map (tnR c))) (rot l k.toNat) := by
  refine ac Tryz.func136 (by kernel_rfl) (.tn _ _) fun E K hE hK => ?_
  conv => cbv
  repeat' first
    | (refine subL (lo := some k) (hi := none) hE hl (by simp only [Option.getD_some, Option.getD_none]; omega) (fun ra hra => ?_); (try conv => cbv))
    | (refine subL (lo := none) (hi := some k) hE hl (by simp only [Option.getD_some, Option.getD_none]; omega) (fun rb hrb => ?_); (try conv => cbv))
    | (refine callR hE (concatS_ c (ls := [l.drop k.toNat, l.take k.toNat]) (by rw [hra, hrb]; simp [lgR]) (by simp; omega)) (fun rc hrc => ?_); (try conv => cbv))
    | ((first
   | refine q0 hE ?_
   | refine B0 hE ?_|refine B1 hE (fun _=>?_) fun _=>?_|refine B3 hE fun _ _ _=>?_|refine B2 hE fun _ _=>?_|refine B4 hE fun _ _ _ _=>?_) <;> (try conv => cbv))
  all_goals (refine hK _ ?_; rw [hrc]; simp [rot]; rfl)
end Go.Proofs.YtoafgafkmeghlaaGreatDoor
/- Contracts: the least rotation, joined tenths of the program. -/
namespace Go.Proofs.YtoafgafkmeghlaaGreatDoor
open Go Go.RowKit Classical
set_option maxRecDepth 100000
set_option maxHeartbeats 2000000
set_option linter.unusedVariables false
set_option linter.unusedSimpArgs false
set_option maxHeartbeats 4000000
variable {E : Env} {P : Program} {np : Nat}
def PreB (a b : List Bool) (i : Int) : Prop := ∀ j : Nat, (j : Int) < i → ∃ x, a[j]? = some x ∧ b[j]? = some x
theorem PreB.pre {a b : List Bool} {i : Int} (h : PreB a b i) : Pre (a.map bI) (b.map bI) i := fun j hj => by
  obtain ⟨x, h1, h2⟩ := h j hj
  exact ⟨bI x, by rw [List.getElem?_map, h1]; rfl, by rw [List.getElem?_map, h2]; rfl⟩
theorem map_at {a : List Bool} {i : Nat} {x : Bool} (h : a[i]? = some x) : (a.map bI)[i]? = some (bI x) := by rw [List.getElem?_map, h]; rfl
theorem compareSS_ (c : UInt8) {rs rs' : List (List AV)} {t t' : Bool} {a b : List Bool} (ha : rs = a.map (tnR c)) (hb : rs' = b.map (tnR c)) : AC Tryz.prog 137 [.sl t 1 rs, .sl t' 1 rs'] (AV.int .i64) (lexC (a.map bI) (b.map bI)) := by
  refine ac Tryz.func137 (by kernel_rfl) (.int _ _) fun E K hE hK => ?_
  conv => cbv
  refine lenL hE ha (fun n1 hn1 _ => ?_)
  conv => cbv
  refine loopC hE (ι := Int) [0, 1, 9, 10] [11] (fun q => (fun (i : Int) => [(11, .int .i64 i)]) q) (fun q => (fun (i : Int) => []) q) (fun q => (fun (i : Int) => (a.length - i).toNat) q) (fun q => (fun (i : Int) => (0 ≤ i ∧ i ≤ a.length) ∧ PreB a b i) q) [] (by decide) (0) (by conv => lhs; cbv) (by conv => lhs; cbv) rfl rfl (by dsimp only; exact ⟨by omega, fun j hj => by omega⟩) fun i hi Kn hN => ?_
  (try dsimp only at hi)
  conv => cbv
  obtain ⟨⟨h0, h1⟩, hinv⟩ := hi
  have hpl := hinv.pre.len h0
  rw [List.length_map, List.length_map] at hpl
  repeat' first
    | (refine lenL hE hb (fun n2 hn2 _ => ?_); (try conv => cbv))
    | (refine idxTn hE ha (by omega) (fun s u hu hs => ?_); (try conv => cbv))
    | (refine idxTn hE hb (by omega) (fun s2 v hv hs2 => ?_); (try conv => cbv))
    | (refine lenL hE ha (fun n3 hn3 _ => ?_); (try conv => cbv))
    | (refine callI hE (compareS_ _ _) (fun y hc => ?_); rw [hs, hs2, cmpS_col] at hc; (try conv => cbv))
    | (refine hN _ _ [] (by decide) rfl ⟨⟨?_, ?_⟩, ?_⟩ ?_ <;> (try dsimp only))
    | ((first
   | refine q0 hE ?_
   | refine B0 hE ?_|refine B1 hE (fun _=>?_) fun _=>?_|refine B3 hE fun _ _ _=>?_|refine B2 hE fun _ _=>?_|refine B4 hE fun _ _ _ _=>?_) <;> (try conv => cbv))
  all_goals (try clear hN)
  all_goals first
    | omega
    | (intro j hj; by_cases hji : (j : Int) = i <;> first | (have e : i.toNat = j := by omega); rw [← e]; exact ⟨u, hu, by rw [hv, bI_inj (cmpI_zero (hc.symm.trans (by assumption)))]⟩ | exact hinv j (by omega))
    | (refine hK _ ?_; rw [lexC_at (hinv.pre.nat h0) (map_at hu) (map_at hv) (by omega), ← hc]; rfl)
    | (refine hK _ ?_; rw [lexC_long (hinv.pre.nat h0) (by rw [List.length_map]; omega) (by rw [List.length_map]; omega)]; rfl)
    | (refine hK _ ?_; rw [lexC_short (hinv.pre.nat h0) (by rw [List.length_map]; omega) (by rw [List.length_map]; omega)]; rfl)
    | (refine hK _ ?_; rw [lexC_same (hinv.pre.nat h0) (by rw [List.length_map]; omega) (by rw [List.length_map]; omega)]; rfl)
    | trace_state
def NInv (l b : List Bool) (t : Int) : Prop := (∃ k, k ≤ l.length ∧ b = rot l k) ∧ bval b ≤ bval l ∧ ∀ u : Nat, (u : Int) < t → u < l.length → l[u]? ≠ l[(u + l.length - 1) % l.length]? → bval b ≤ bval (rot l u)
theorem NInv.start (l : List Bool) : NInv l l 0 := ⟨⟨0, Nat.zero_le _, (rot_zero l).symm⟩, Nat.le_refl _, fun u hu => by omega⟩
theorem NInv.skip {l b : List Bool} {t n : Int} {x : Bool} (h : NInv l b t) (h0 : 0 ≤ t) (hx : l[t.toNat]? = some x) (hy : l[(t.toNat + l.length - 1) % l.length]? = some x) (hn : n = t + 1) : NInv l b n :=
  ⟨h.1, h.2.1, fun u hu hl hne => by
    by_cases e : u = t.toNat
    · subst e; exact absurd (hx.trans hy.symm) hne
    · exact h.2.2 u (by omega) hl hne⟩
theorem NInv.keep {l b : List Bool} {t n : Int} (h : NInv l b t) (h0 : 0 ≤ t) (hle : bval b ≤ bval (rot l t.toNat)) (hn : n = t + 1) : NInv l b n :=
  ⟨h.1, h.2.1, fun u hu hl hne => by
    by_cases e : u = t.toNat
    · subst e; exact hle
    · exact h.2.2 u (by omega) hl hne⟩
theorem NInv.take {l b : List Bool} {t n : Int} (h : NInv l b t) (h0 : 0 ≤ t ∧ t ≤ l.length) (hlt : bval (rot l t.toNat) < bval b) (hn : n = t + 1) : NInv l (rot l t.toNat) n :=
  ⟨⟨t.toNat, by omega, rfl⟩, by have := h.2.1; omega, fun u hu hl hne => by
    by_cases e : u = t.toNat
    · subst e; exact Nat.le_refl _
    · have := h.2.2 u (by omega) hl hne; omega⟩
theorem NInv.done {l b : List Bool} {t : Int} (h : NInv l b t) (ht : (l.length : Int) ≤ t) : b = normB l :=
  (norm_boundary h.1 h.2.1 fun u hu hne => h.2.2 u (by omega) hu hne).eq.symm
theorem NInv.len {l b : List Bool} {t : Int} (h : NInv l b t) : b.length = l.length := by
  obtain ⟨k, _, rfl⟩ := h.1; exact rot_len _ _
theorem back_at {l : List Bool} {t a m k : Int} {x : Bool} (h : 0 ≤ t ∧ t < l.length) (hk : k = a % m) (ha : a = t + l.length - 1) (hm : m = l.length) (hx : l[k.toNat]? = some x) : l[(t.toNat + l.length - 1) % l.length]? = some x := by
  have e : ((t.toNat + l.length - 1) % l.length : Nat) = k.toNat := by
    rw [hk, hm, ha]
    have e1 : t + (l.length : Int) - 1 = ((t.toNat + l.length - 1 : Nat) : Int) := by omega
    rw [e1, ← Int.natCast_emod, Int.toNat_natCast]
  rw [e]; exact hx
theorem lex_val {a b : List Bool} {y : Int} (hl : a.length = b.length) (hy : y = lexC (a.map bI) (b.map bI)) : y < 0 ↔ bval a < bval b := by
  rw [hy]; exact lexC_bval hl
theorem normal_ (c : UInt8) {rs : List (List AV)} {t : Bool} {p : List Ph} (hl : rs = p.map (phR c)) (hok : PhOk p) : AC Tryz.prog 91 [.sl t 2 rs] (fun l : List Bool => .sl true 1 (l.map (tnR c))) (nrmP p) := by
  refine ac Tryz.func91 (by kernel_rfl) (.tn _ _) fun E K hE hK => ?_
  conv => cbv
  have hten := hok.ten
  have honce := onceB_bd hten.1
  refine callR hE (onePeriod_ c hl hok) fun r1 hr1 => ?_
  conv => cbv
  obtain ⟨l, hL⟩ : ∃ l, l = onceB (tenB p) := ⟨_, rfl⟩
  rw [← hL] at hr1 honce
  refine lenL hE hr1 fun m hm _ => ?_
  conv => cbv
  refine loopC hE (ι := Int × Bool × (List Bool) × (List (List AV))) [3, 11] [12, 4] (fun q => (fun (t : Int) (fl : Bool) (b : List Bool) (eb : List (List AV)) => [(12, .int .i64 t), (4, (bif fl then .ob 0 else .ob 1))]) q.1 q.2.1 q.2.2.1 q.2.2.2) (fun q => (fun (t : Int) (fl : Bool) (b : List Bool) (eb : List (List AV)) => [.row 1 r1, (bif fl then .dead else .row 1 eb)]) q.1 q.2.1 q.2.2.1 q.2.2.2) (fun q => (fun (t : Int) (fl : Bool) (b : List Bool) (eb : List (List AV)) => (m - t).toNat) q.1 q.2.1 q.2.2.1 q.2.2.2) (fun q => (fun (t : Int) (fl : Bool) (b : List Bool) (eb : List (List AV)) => (0 ≤ t ∧ t ≤ m) ∧ NInv l b t ∧ eb = b.map (tnR c) ∧ (fl = true → b = l)) q.1 q.2.1 q.2.2.1 q.2.2.2) [0, 7] (by decide) ((0, true, l, r1)) (by conv => lhs; cbv) (by conv => lhs; cbv) rfl rfl (by dsimp only; exact ⟨by omega, NInv.start l, hr1, fun _ => rfl⟩) fun q hi Kn hN => ?_
  obtain ⟨t, fl, b, eb⟩ := q
  (try dsimp only at hi)
  conv => cbv
  obtain ⟨⟨h0, h1⟩, hinv, heb, hfl⟩ := hi
  have hbl := hinv.len
  cases fl with
  | true =>
    obtain rfl := hfl rfl
    obtain rfl : eb = r1 := heb.trans hr1.symm
    conv => cbv
    repeat' first
      | (refine lenL hE hr1 (fun _ _ _ => ?_); (try conv => cbv))
      | (refine rem64 hE (by omega) (fun k hk => ?_); have hk2 := modB hk (by omega); (try conv => cbv))
      | (refine idxTn (i := t) hE hr1 (by omega) (fun s x hx hs => ?_); (try conv => cbv))
      | (refine idxTn (i := k) hE hr1 (by omega) (fun s2 x2 hx2 hs2 => ?_); (try conv => cbv))
      | (refine seqI hE (fun heq => ?_) (fun hne => ?_) <;> (try conv => cbv))
      | (refine callR hE (rotated_ c (l := b) (k := t) hr1 (by omega) (by omega)) (fun r3 hr3 => ?_); have hrl := rot_len b t.toNat; (try conv => cbv))
      | (refine callI hE (compareSS_ c hr3 heb) (fun y hy => ?_); have hval := lex_val (by omega) hy; (try conv => cbv))
      | (refine hN (_, true, b, eb) _ [0, 7] (by decide) rfl ⟨?_, ?_, ?_, ?_⟩ ?_ <;> (try dsimp only))
      | (refine hN (_, false, rot b t.toNat, r3) _ [0, 2] (by decide) rfl ⟨?_, ?_, ?_, ?_⟩ ?_ <;> (try dsimp only))
      | ((first
     | refine q0 hE ?_
     | refine B0 hE ?_|refine B1 hE (fun _=>?_) fun _=>?_|refine B3 hE fun _ _ _=>?_|refine B2 hE fun _ _=>?_|refine B4 hE fun _ _ _ _=>?_) <;> (try conv => cbv))
    all_goals (try clear hN)
    all_goals first
      | omega
      | assumption
      | exact fun _ => rfl
      | (exact fun h => Bool.noConfusion h)
      | exact hinv.skip h0 hx (by rw [back_at (by omega) hk (by omega) (by omega) hx2, colS_inj.1 (hs2.symm.trans (heq.symm.trans hs))]) (by assumption)
      | exact hinv.keep h0 (by omega) (by assumption)
      | exact hinv.take (by omega) (hval.1 (by assumption)) (by assumption)
      | (refine hK _ ?_; rw [nrmP, ← hL, ← hinv.done (by omega), heb]; rfl)
      | (refine hK _ ?_; rw [nrmP, ← hL, ← hinv.done (by omega), ← heb]; rfl)
      | (refine hK _ ?_; rw [nrmP, ← hL, ← hinv.done (by omega), hr1]; rfl)
      | trace_state
  | false =>
    conv => cbv
    repeat' first
      | (refine lenL hE hr1 (fun _ _ _ => ?_); (try conv => cbv))
      | (refine rem64 hE (by omega) (fun k hk => ?_); have hk2 := modB hk (by omega); (try conv => cbv))
      | (refine idxTn (i := t) hE hr1 (by omega) (fun s x hx hs => ?_); (try conv => cbv))
      | (refine idxTn (i := k) hE hr1 (by omega) (fun s2 x2 hx2 hs2 => ?_); (try conv => cbv))
      | (refine seqI hE (fun heq => ?_) (fun hne => ?_) <;> (try conv => cbv))
      | (refine callR hE (rotated_ c (l := l) (k := t) hr1 (by omega) (by omega)) (fun r3 hr3 => ?_); have hrl := rot_len l t.toNat; (try conv => cbv))
      | (refine callI hE (compareSS_ c hr3 heb) (fun y hy => ?_); have hval := lex_val (by omega) hy; (try conv => cbv))
      | (refine hN (_, false, b, eb) _ [0, 1] (by decide) rfl ⟨?_, ?_, ?_, ?_⟩ ?_ <;> (try dsimp only))
      | (refine hN (_, false, rot l t.toNat, r3) _ [0, 2] (by decide) rfl ⟨?_, ?_, ?_, ?_⟩ ?_ <;> (try dsimp only))
      | ((first
     | refine q0 hE ?_
     | refine B0 hE ?_|refine B1 hE (fun _=>?_) fun _=>?_|refine B3 hE fun _ _ _=>?_|refine B2 hE fun _ _=>?_|refine B4 hE fun _ _ _ _=>?_) <;> (try conv => cbv))
    all_goals (try clear hN)
    all_goals first
      | omega
      | assumption
      | exact fun _ => rfl
      | (exact fun h => Bool.noConfusion h)
      | exact hinv.skip h0 hx (by rw [back_at (by omega) hk (by omega) (by omega) hx2, colS_inj.1 (hs2.symm.trans (heq.symm.trans hs))]) (by assumption)
      | exact hinv.keep h0 (by omega) (by assumption)
      | exact hinv.take (by omega) (hval.1 (by assumption)) (by assumption)
      | (refine hK _ ?_; rw [nrmP, ← hL, ← hinv.done (by omega), heb]; rfl)
      | (refine hK _ ?_; rw [nrmP, ← hL, ← hinv.done (by omega), ← heb]; rfl)
      | (refine hK _ ?_; rw [nrmP, ← hL, ← hinv.done (by omega), hr1]; rfl)
      | trace_state
end Go.Proofs.YtoafgafkmeghlaaGreatDoor
/- Contracts: joined tenths. -/
namespace Go.Proofs.YtoafgafkmeghlaaGreatDoor
open Go Go.RowKit Classical
set_option maxRecDepth 100000
set_option maxHeartbeats 2000000
set_option linter.unusedVariables false
set_option linter.unusedSimpArgs false
set_option maxHeartbeats 4000000
variable {E : Env} {P : Program} {np : Nat}
theorem joinB_set {X : List Ph} {i : Int} {b : Bool} {x : Ph} (hx : X[i.toNat]? = some x) (hi : i = X.length - 1) (he : x.1 = b) (h0 : 0 ≤ i) : stepB X b = X.set i.toNat (x.1, x.2 + 1) := by
  have e : i.toNat = X.length - 1 := by omega
  rw [e] at hx ⊢
  exact stepB_old hx he
theorem joinB_put {X : List Ph} {i : Int} {b : Bool} {x : Ph} (hx : X[i.toNat]? = some x) (hi : i = X.length - 1) (he : x.1 ≠ b) (h0 : 0 ≤ i) : stepB X b = X ++ [(b, 1)] := by
  have e : i.toNat = X.length - 1 := by omega
  rw [e] at hx
  exact stepB_new hx he
theorem join_ (c : UInt8) {rs : List (List AV)} {t : Bool} {l : List Bool} (hl : rs = l.map (tnR c)) (hb : l.length ≤ 100000) : AC Tryz.prog 90 [.sl t 1 rs] (fun l : List Ph => .sl true 2 (l.map (phR c))) (joinB l) := by
  refine ac Tryz.func90 (by kernel_rfl) (.ph _ _) fun E K hE hK => ?_
  conv => cbv
  refine lenL hE hl fun n hn _ => ?_
  conv => cbv
  refine loopC hE (ι := Int × (List Ph) × (List (List AV))) [8, 9] [10, 3] (fun q => (fun (i : Int) (X : List Ph) (es : List (List AV)) => [(10, .int .i64 i), (3, .ob 0)]) q.1 q.2.1 q.2.2) (fun q => (fun (i : Int) (X : List Ph) (es : List (List AV)) => [.row 2 es]) q.1 q.2.1 q.2.2) (fun q => (fun (i : Int) (X : List Ph) (es : List (List AV)) => (n - i).toNat) q.1 q.2.1 q.2.2) (fun q => (fun (i : Int) (X : List Ph) (es : List (List AV)) => (0 ≤ i ∧ i ≤ n) ∧ es = X.map (phR c) ∧ X = joinB (l.take i.toNat)) q.1 q.2.1 q.2.2) [0] (by decide) ((0, [], [])) (by conv => lhs; cbv) (by conv => lhs; cbv) rfl rfl (by dsimp only; exact ⟨by omega, rfl, rfl⟩) fun q hi Kn hN => ?_
  obtain ⟨i, X, es⟩ := q
  (try dsimp only at hi)
  conv => cbv
  obtain ⟨⟨h0, h1⟩, h2, hX⟩ := hi
  obtain ⟨hbl, hbe⟩ := joinB_bd (l := l) i.toNat (by omega)
  rw [← hX] at hbl hbe
  refine ltI hE (fun hlt => ?_) (fun hge => ?_) <;> conv => cbv
  · refine idxTn hE hl (by omega) fun s b hb hs => ?_
    have hstep := joinB_take hb
    rw [← hX] at hstep
    conv => cbv
    obtain ⟨j, hj⟩ : ∃ j, j = (X.length : Int) - 1 := ⟨_, rfl⟩
    repeat' first
      | (refine lenL hE h2 (fun m hm _ => ?_); (try conv => cbv))
      | (refine sub64 hE (by omega) (fun j' hj' => ?_); obtain rfl : j = j' := by omega; (try conv => cbv))
      | (refine idxPhV hE h2 (by omega) hx hs2 ?_; (try conv => cbv))
      | (refine idxPh hE h2 (by omega) (fun s2 b2 k hx hs2 => ?_); have hkb := hbe _ (List.mem_of_getElem? hx); simp only at hkb; (try conv => cbv))
      | (refine seqI hE (fun heq => ?_) (fun hne => ?_) <;> (try conv => cbv))
      | (refine updL (R := phR c) hE (b2, k2) h2 (by omega) hx (by exact Nat.le_of_ble_eq_true rfl) (by rfl) (fun es2 hes2 => ?_); (try conv => cbv))
      | (refine add64 hE (a := k) (by omega) (fun k2 hk2 => ?_); (try conv => cbv))
      | (refine hN (_, X.set j.toNat (b2, k2), _) _ [0] (by decide) rfl ⟨?_, hes2, ?_⟩ ?_ <;> (try dsimp only))
      | (refine hN (_, X ++ [(b, 1)], _) _ [2] (by decide) rfl ⟨?_, hes3, ?_⟩ ?_ <;> (try dsimp only))
      | ((first
     | refine q0 hE ?_
     | refine catP (R := phR c) (v := (b, 1)) hE h2 (by rw [hs]; rfl) (by omega) (fun es3 hes3 => ?_)
     | refine B0 hE ?_|refine B1 hE (fun _=>?_) fun _=>?_|refine B3 hE fun _ _ _=>?_|refine B2 hE fun _ _=>?_|refine B4 hE fun _ _ _ _=>?_) <;> (try conv => cbv))
    all_goals (try clear hN)
    all_goals first
      | omega
      | (rename_i hip; rw [hip, show (i + 1).toNat = i.toNat + 1 by omega, hstep, joinB_set hx (by omega) (colS_inj.1 (hs2.symm.trans (heq.trans hs))) (by omega), hk2]; done)
      | (rename_i hip; rw [hip, show (i + 1).toNat = i.toNat + 1 by omega, hstep, joinB_set hx (by omega) (colS_inj.1 (hs2.symm.trans (heq.trans hs))) (by omega), hk2]; rfl)
      | (rename_i hip; rw [hip, show (i + 1).toNat = i.toNat + 1 by omega, hstep, joinB_put hx (by omega) (fun e => hne (by rw [hs2, hs, colS_inj]; exact e)) (by omega)])
      | (rename_i hip; rw [hip, show (i + 1).toNat = i.toNat + 1 by omega, hstep, stepB_nil (by omega)])
      | trace_state
  · refine hK _ ?_
    rw [h2, hX, List.take_of_length_le (by omega)]; rfl
end Go.Proofs.YtoafgafkmeghlaaGreatDoor
