/- Channels: lengths, places, gates: plain. -/
import Derived.Test.YtffkcjcaeppboacGreatDoorFB
namespace Go.Proofs.YtffkcjcaeppboacGreatDoor
open Go Go.RowKit Classical
set_option maxRecDepth 100000
set_option maxHeartbeats 2000000
set_option linter.unusedVariables false
set_option linter.unusedSimpArgs false
def halfR (a b : Int) : Int := (2 * a + b) / (2 * b)
def divR (a b : Int) : Int := if a < 0 then -halfR (-a) b else halfR a b
theorem halfR_eq {a b : Int} (hb : 0 < b) : halfR a b = if b - a % b ≤ a % b then a / b + 1 else a / b := by
  have h1 := Int.mul_ediv_add_emod a b
  have h2 := Int.emod_nonneg a (show b ≠ 0 by omega)
  have h3 := Int.emod_lt_of_pos a hb
  unfold halfR
  generalize a / b = q at *
  generalize a % b = r at *
  have e1 : (q + 1) * (2 * b) = 2 * (b * q) + 2 * b := by grind
  have e0 : q * (2 * b) = 2 * (b * q) := by grind
  have e2 : (q + 1 + 1) * (2 * b) = 2 * (b * q) + 4 * b := by grind
  split
  · refine Int.le_antisymm ?_ (Int.le_ediv_of_mul_le (by omega) (by omega))
    have := Int.ediv_lt_of_lt_mul (a := 2 * a + b) (b := q + 1 + 1) (c := 2 * b) (by omega) (by omega)
    omega
  · refine Int.le_antisymm ?_ (Int.le_ediv_of_mul_le (by omega) (by omega))
    have := Int.ediv_lt_of_lt_mul (a := 2 * a + b) (b := q + 1) (c := 2 * b) (by omega) (by omega)
    omega
theorem halfR_bd {a b : Int} (ha : 0 ≤ a) (hb : 0 < b) : 0 ≤ halfR a b ∧ halfR a b ≤ a := by
  unfold halfR
  refine ⟨Int.ediv_nonneg (by omega) (by omega), ?_⟩
  have h1 : 0 ≤ a * (b - 1) := Int.mul_nonneg ha (by omega)
  have e : (a + 1) * (2 * b) = 2 * (a * (b - 1)) + 2 * a + 2 * b := by grind
  have := Int.ediv_lt_of_lt_mul (a := 2 * a + b) (b := a + 1) (c := 2 * b) (by omega) (by omega)
  omega
theorem divR_bd {a b B : Int} (hb : 0 < b) (h : -B ≤ a ∧ a ≤ B) : -B ≤ divR a b ∧ divR a b ≤ B := by
  unfold divR
  split
  · have := halfR_bd (a := -a) (b := b) (by omega) hb; omega
  · have := halfR_bd (a := a) (b := b) (by omega) hb; omega
theorem distR_pos {x y x' y' : Int} (h : PtOk x y) (k : PtOk x' y') (hne : ¬ (x = x' ∧ y = y')) : 1 ≤ distR x y x' y' := by
  rw [distR, if_pos ⟨h, k⟩]
  have hb := sqd_bd h k
  have hp : 1 ≤ sqd x y x' y' := by
    unfold sqd
    have h3 := sq_nn (x - x')
    have h4 := sq_nn (y - y')
    by_cases hx : x = x'
    · have hy : y - y' ≠ 0 := by omega
      rcases Int.lt_or_gt_of_ne hy with h5 | h5
      · have := Int.mul_le_mul (a := 1) (b := 1) (c := -(y - y')) (d := -(y - y')) (by omega) (by omega) (by omega) (by omega)
        rw [Int.neg_mul_neg] at this; omega
      · have := Int.mul_le_mul (a := 1) (b := 1) (c := (y - y')) (d := (y - y')) (by omega) (by omega) (by omega) (by omega)
        omega
    · have hy : x - x' ≠ 0 := by omega
      rcases Int.lt_or_gt_of_ne hy with h5 | h5
      · have := Int.mul_le_mul (a := 1) (b := 1) (c := -(x - x')) (d := -(x - x')) (by omega) (by omega) (by omega) (by omega)
        rw [Int.neg_mul_neg] at this; omega
      · have := Int.mul_le_mul (a := 1) (b := 1) (c := (x - x')) (d := (x - x')) (by omega) (by omega) (by omega) (by omega)
        omega
  obtain ⟨h1, h2, h3⟩ := rootI_spec hb.1
  rcases Int.lt_or_le (rootI (sqd x y x' y')) 1 with h4 | h4
  · have : rootI (sqd x y x' y') = 0 := by omega
    rw [this] at h3; omega
  · exact h4
noncomputable def segs : List Pnt → List Int
  | p :: q :: l => distR p.x p.y q.x q.y :: segs (q :: l)
  | _ => []
theorem segs_len : ∀ l : List Pnt, (segs l).length = l.length - 1
  | [] => rfl
  | [_] => rfl
  | p :: q :: l => by simp only [segs, List.length_cons, segs_len (q :: l)]; omega
theorem segs_get : ∀ (l : List Pnt) (i : Nat) (p q : Pnt), l[i]? = some p → l[i + 1]? = some q → (segs l)[i]? = some (distR p.x p.y q.x q.y)
  | [], i, p, q, h, _ => by simp at h
  | [_], i, p, q, _, h => by simp at h
  | a :: b :: l, 0, p, q, h, k => by
    simp at h k; subst h; subst k; rfl
  | a :: b :: l, i + 1, p, q, h, k => by
    have := segs_get (b :: l) i p q (by simpa using h) (by simpa using k)
    simpa [segs] using this
def LnC (l : List Pnt) (j : Nat) : Prop := ∃ p, l[j]? = some p ∧ PtOk p.x p.y ∧ (0 < j → ∃ q, l[j - 1]? = some q ∧ q ≠ p)
def LnOk (l : List Pnt) : Prop := ∀ j, j < l.length → LnC l j
def ChnOk (n : ByteArray) (l : List Pnt) (w : Int) : Prop := LnOk l ∧ NameOk n ∧ (2 ≤ l.length ∧ l.length ≤ 12) ∧ (10 ≤ w ∧ w ≤ 5000)
theorem LnOk.pt {l : List Pnt} (h : LnOk l) {j : Nat} {p : Pnt} (hp : l[j]? = some p) : PtOk p.x p.y := by
  obtain ⟨p', h1, h2, _⟩ := h j (List.getElem?_eq_some_iff.1 hp).1
  rw [hp] at h1; cases h1; exact h2
theorem LnOk.ne {l : List Pnt} (h : LnOk l) {j : Nat} {p q : Pnt} (hp : l[j]? = some p) (hq : l[j + 1]? = some q) : ¬ (p.x = q.x ∧ p.y = q.y) := by
  obtain ⟨q', h1, _, h3⟩ := h (j + 1) (List.getElem?_eq_some_iff.1 hq).1
  rw [hq] at h1; cases h1
  obtain ⟨p', h4, h5⟩ := h3 (by omega)
  rw [Nat.add_sub_cancel, hp] at h4; cases h4
  intro he
  apply h5
  cases p; cases q; simp at he; simp [he]
theorem LnOk.seg {l : List Pnt} (h : LnOk l) {j : Nat} {p q : Pnt} (hp : l[j]? = some p) (hq : l[j + 1]? = some q) : 1 ≤ distR p.x p.y q.x q.y ∧ distR p.x p.y q.x q.y ≤ 300000 :=
  ⟨distR_pos (h.pt hp) (h.pt hq) (h.ne hp hq), (distR_bd _ _ _ _).2⟩
theorem LnOk.segs {l : List Pnt} (h : LnOk l) : ∀ n ∈ segs l, 1 ≤ n ∧ n ≤ 300000 := fun n hn => by
  obtain ⟨j, hj⟩ := List.getElem?_of_mem hn
  have hlt := (List.getElem?_eq_some_iff.1 hj).1
  rw [segs_len] at hlt
  have hp : l[j]? = some l[j] := List.getElem?_eq_getElem (by omega)
  have hq : l[j + 1]? = some l[j + 1] := List.getElem?_eq_getElem (by omega)
  rw [segs_get l j _ _ hp hq] at hj
  cases hj
  exact h.seg hp hq
def sumS (ds : List Int) (i : Int) : Int := (ds.take i.toNat).sum
theorem sumS_zero {ds : List Int} {i : Int} (h : i ≤ 0) : sumS ds i = 0 := by unfold sumS; rw [show i.toNat = 0 by omega]; rfl
theorem sumS_step {ds : List Int} {i n v : Int} (h0 : 0 ≤ i) (hv : ds[i.toNat]? = some v) (hn : n = i + 1) : sumS ds n = sumS ds i + v := by
  unfold sumS; rw [show n.toNat = i.toNat + 1 by omega, List.take_add_one, hv]; simp
theorem sumS_all {ds : List Int} {i : Int} (h : ds.length ≤ i) : sumS ds i = ds.sum := by unfold sumS; rw [List.take_of_length_le (by omega)]
theorem sum_bdI {B : Int} : ∀ {ds : List Int}, (∀ n ∈ ds, 0 ≤ n ∧ n ≤ B) → 0 ≤ ds.sum ∧ ds.sum ≤ B * ds.length
  | [], _ => by simp
  | d :: ds, h => by
    have ih := sum_bdI (ds := ds) fun n hn => h n (List.mem_cons_of_mem _ hn)
    have h1 := h d (List.mem_cons_self ..)
    simp only [List.sum_cons, List.length_cons]
    rw [show ((ds.length + 1 : Nat) : Int) = (ds.length : Int) + 1 by omega, Int.mul_add]
    omega
theorem sumS_bd {ds : List Int} {B : Int} (h : ∀ n ∈ ds, 0 ≤ n ∧ n ≤ B) (hB : 0 ≤ B) (i : Int) : 0 ≤ sumS ds i ∧ sumS ds i ≤ B * ds.length := by
  unfold sumS
  have h1 := sum_bdI (ds := ds.take i.toNat) fun n hn => h n (List.mem_of_mem_take hn)
  have h2 : B * ((ds.take i.toNat).length : Int) ≤ B * ds.length := Int.mul_le_mul_of_nonneg_left (by rw [List.length_take]; omega) hB
  omega
def findS : List Int → Int → Int → Int × Int
  | [], i, d => (i, d)
  | n :: ds, i, d => if d ≤ n then (i, d) else findS ds (i + 1) (d - n)
theorem findS_spec : ∀ (ds : List Int) (i d : Int), 0 ≤ d → d ≤ ds.sum → (0 < d ∨ ds ≠ []) → ∃ (k : Nat) (n : Int), ds[k]? = some n ∧ (findS ds i d).1 = i + k ∧ 0 ≤ (findS ds i d).2 ∧ (findS ds i d).2 ≤ n
  | [], i, d, h0, h1, h2 => by
    simp at h1
    rcases h2 with h2 | h2
    · omega
    · exact absurd rfl h2
  | n :: ds, i, d, h0, h1, h2 => by
    unfold findS
    split
    · exact ⟨0, n, rfl, by simp, h0, by assumption⟩
    · rename_i hd
      simp only [List.sum_cons] at h1
      obtain ⟨k, m, g1, g2, g3, g4⟩ := findS_spec ds (i + 1) (d - n) (by omega) (by omega) (.inl (by omega))
      exact ⟨k + 1, m, by simpa using g1, by rw [g2]; omega, g3, g4⟩
theorem findS_drop {ds : List Int} {k : Nat} {n : Int} (h : ds[k]? = some n) (i d : Int) : (d ≤ n → findS (ds.drop k) i d = (i, d)) ∧ (¬ d ≤ n → findS (ds.drop k) i d = findS (ds.drop (k + 1)) (i + 1) (d - n)) := by
  have hlt := List.getElem?_eq_some_iff.1 h
  have e : ds.drop k = n :: ds.drop (k + 1) := by rw [List.drop_eq_getElem_cons hlt.1, hlt.2]
  rw [e]
  constructor
  · intro h; rw [findS, if_pos h]
  · intro h; rw [findS, if_neg h]
theorem sum_drop {ds : List Int} {k : Nat} {n : Int} (h : ds[k]? = some n) : (ds.drop k).sum = n + (ds.drop (k + 1)).sum := by
  have hlt := List.getElem?_eq_some_iff.1 h
  rw [List.drop_eq_getElem_cons hlt.1, hlt.2, List.sum_cons]
def btwR (a b : Pnt) (i n : Int) : Pnt := if b.x < a.x ∨ a.x = b.x ∧ b.y < a.y then ⟨b.x + divR ((n - i) * (a.x - b.x)) n, b.y + divR ((n - i) * (a.y - b.y)) n⟩ else ⟨a.x + divR (i * (b.x - a.x)) n, a.y + divR (i * (b.y - a.y)) n⟩
theorem btwR_bd {a b : Pnt} {i n : Int} (ha : PtOk a.x a.y) (hb : PtOk b.x b.y) (hn : 1 ≤ n ∧ n ≤ 300000) (hi : 0 ≤ i ∧ i ≤ n) : (-100000000000 ≤ (btwR a b i n).x ∧ (btwR a b i n).x ≤ 100000000000) ∧ -100000000000 ≤ (btwR a b i n).y ∧ (btwR a b i n).y ≤ 100000000000 := by
  unfold PtOk at ha hb
  have m (u v : Int) (hu : 0 ≤ u ∧ u ≤ 300000) (hv : -200000 ≤ v ∧ v ≤ 200000) : -90000000000 ≤ divR (u * v) n ∧ divR (u * v) n ≤ 90000000000 :=
    divR_bd (by omega) (by have := mul_bd (a := u) (b := v) (B := 300000) (by omega); omega)
  unfold btwR
  split
  · have h1 := m (n - i) (a.x - b.x) (by omega) (by omega)
    have h2 := m (n - i) (a.y - b.y) (by omega) (by omega)
    simp only; omega
  · have h1 := m i (b.x - a.x) (by omega) (by omega)
    have h2 := m i (b.y - a.y) (by omega) (by omega)
    simp only; omega
structure Gat where
  gd : Int
  lx : Int
  ly : Int
  rx : Int
  ry : Int
def Gat.cs (v : Gat) : List AV := [.int .i64 v.gd, .int .i64 v.lx, .int .i64 v.ly, .int .i64 v.rx, .int .i64 v.ry]
theorem NoB.oGat (v : Gat) : NoB (.agg v.cs) := .aggC (.int _ _) (.aggC (.int _ _) (.aggC (.int _ _) (.aggC (.int _ _) (.aggC (.int _ _) .agg0))))
noncomputable def segAt (l : List Pnt) (d : Int) : Pnt × Pnt × Int := (l.getD ((findS (segs l) 1 d).1 - 1).toNat ⟨0, 0⟩, l.getD (findS (segs l) 1 d).1.toNat ⟨0, 0⟩, (findS (segs l) 1 d).2)
theorem segAt_spec {l : List Pnt} (h : LnOk l) (h2 : 2 ≤ l.length) {d : Int} (h0 : 0 ≤ d) (hd : d ≤ (segs l).sum) : ∃ (k : Nat) (p q : Pnt), (findS (segs l) 1 d).1 = 1 + (k : Int) ∧ l[k]? = some p ∧ l[k + 1]? = some q ∧ segAt l d = (p, q, (findS (segs l) 1 d).2) ∧ 0 ≤ (findS (segs l) 1 d).2 ∧ (findS (segs l) 1 d).2 ≤ distR p.x p.y q.x q.y ∧ k + 1 < l.length := by
  have hl := segs_len l
  obtain ⟨k, n, g1, g2, g3, g4⟩ := findS_spec (segs l) 1 d h0 hd (.inr fun e => by rw [e] at hl; simp at hl; omega)
  have hk := (List.getElem?_eq_some_iff.1 g1).1
  have hp : l[k]? = some l[k] := List.getElem?_eq_getElem (by omega)
  have hq : l[k + 1]? = some l[k + 1] := List.getElem?_eq_getElem (by omega)
  have hs := segs_get l k _ _ hp hq
  have hs2 := Option.some.inj (g1.symm.trans hs)
  rw [hs2] at g4
  refine ⟨k, _, _, g2, hp, hq, ?_, g3, g4, by omega⟩
  unfold segAt
  rw [g2, show (1 + (k : Int) - 1).toNat = k by omega, show (1 + (k : Int)).toNat = k + 1 by omega, List.getD_eq_getElem?_getD, List.getD_eq_getElem?_getD, hp, hq]
  rfl
noncomputable def gateOf (w d : Int) (u v : Pnt) (r : Int) : Gat :=
  let n := distR u.x u.y v.x v.y
  let p := btwR u v r n
  ⟨d, p.x - divR ((v.y - u.y) * (w / 2)) n, p.y + divR ((v.x - u.x) * (w / 2)) n, p.x + divR ((v.y - u.y) * (w / 2)) n, p.y - divR ((v.x - u.x) * (w / 2)) n⟩
noncomputable def gateR (l : List Pnt) (w d : Int) : Gat := gateOf w d (segAt l d).1 (segAt l d).2.1 (segAt l d).2.2
def stepsTo (s : Int) (n : Nat) : List Int := (List.range n).map fun k : Nat => s * (k : Int)
theorem stepsTo_succ (s : Int) (n : Nat) : stepsTo s (n + 1) = stepsTo s n ++ [s * (n : Int)] := by unfold stepsTo; rw [List.range_succ, List.map_append]; rfl
theorem stepsTo_len (s : Int) (n : Nat) : (stepsTo s n).length = n := by simp [stepsTo]
def stepsN (s t : Int) : Nat := ((t + s - 1) / s).toNat
noncomputable def placesR (l : List Pnt) (s : Int) : List Int := stepsTo s (stepsN s (segs l).sum) ++ [(segs l).sum]
theorem stepsN_lt {s t : Int} (hs : 0 < s) (ht : 0 ≤ t) (n : Nat) : s * (n : Int) < t ↔ n < stepsN s t := by
  unfold stepsN
  have h1 : 0 ≤ (t + s - 1) / s := Int.ediv_nonneg (by omega) (by omega)
  have h2 : ((n : Int) + 1 ≤ (t + s - 1) / s) ↔ ((n : Int) + 1) * s ≤ t + s - 1 := Int.le_ediv_iff_mul_le hs
  have e : ((n : Int) + 1) * s = s * n + s := by grind
  omega
def Gat.ok (g : Gat) : Prop := PtOk g.lx g.ly ∧ PtOk g.rx g.ry
noncomputable def gatesR (n : ByteArray) (l : List Pnt) (w s : Int) : List Gat × Int :=
  if ChnOk n l w then (if 50 ≤ s ∧ s ≤ 200000 then (if stepsN s (segs l).sum + 1 ≤ 32 then (if ∀ d ∈ placesR l s, (gateR l w d).ok then ((placesR l s).map (gateR l w), 0) else ([], 6)) else ([], 5)) else ([], 2)) else ([], 1)
end Go.Proofs.YtffkcjcaeppboacGreatDoor
