/- Contracts: the reference's pairs that are seen together; the law. -/
import Derived.Test.YtoafgafkmeghlaaGreatDoorGtg
namespace Go.Proofs.YtoafgafkmeghlaaGreatDoor
open Go Go.RowKit Classical
set_option maxRecDepth 100000
set_option maxHeartbeats 2000000
set_option linter.unusedVariables false
set_option linter.unusedSimpArgs false
def bolR (v : Bool) : List AV := [.bool v]
def Sq (n : Nat) (B : List Bool) (M : Nat → Nat → Prop) : Prop := B.length = n * n ∧ ∀ a c, a < n → c < n → B[a * n + c]? = some (bP (M a c))
theorem sq_lt {n a c : Nat} (ha : a < n) (hc : c < n) : a * n + c < n * n := by
  have h1 : (a + 1) * n ≤ n * n := Nat.mul_le_mul_right n (by omega)
  rw [Nat.add_mul] at h1; omega
theorem sq_inj {n a c a' c' : Nat} (hc : c < n) (hc' : c' < n) (h : a * n + c = a' * n + c') : a = a' ∧ c = c' := by
  have h0 : 0 < n := by omega
  have e1 : (a * n + c) / n = a := by rw [Nat.mul_comm, Nat.mul_add_div h0, Nat.div_eq_of_lt hc]; rfl
  have e2 : (a' * n + c') / n = a' := by rw [Nat.mul_comm, Nat.mul_add_div h0, Nat.div_eq_of_lt hc']; rfl
  have : a = a' := by rw [← e1, ← e2, h]
  subst this
  exact ⟨rfl, by omega⟩
theorem Sq.zero {n : Nat} {M : Nat → Nat → Prop} (h : ∀ a c, ¬ M a c) : Sq n (List.replicate (n * n) false) M := by
  refine ⟨by simp, fun a c ha hc => ?_⟩
  rw [List.getElem?_replicate, if_pos (sq_lt ha hc), bP_false.2 (h a c)]
theorem Sq.put {n : Nat} {B : List Bool} {M M' : Nat → Nat → Prop} {x y : Nat} (h : Sq n B M) (hx : x < n) (hy : y < n) (hM : ∀ a c, M' a c ↔ M a c ∨ a = x ∧ c = y) : Sq n (B.set (x * n + y) true) M' := by
  refine ⟨by rw [List.length_set]; exact h.1, fun a c ha hc => ?_⟩
  rw [List.getElem?_set]
  split
  · rename_i e
    obtain ⟨rfl, rfl⟩ := sq_inj hy hc e
    rw [if_pos (by rw [h.1]; exact sq_lt hx hy), bP_true.2 ((hM x y).2 (.inr ⟨rfl, rfl⟩))]
  · rename_i e
    rw [h.2 a c ha hc]
    congr 1
    by_cases hm : M a c
    · rw [bP_true.2 hm, bP_true.2 ((hM a c).2 (.inl hm))]
    · rw [bP_false.2 hm, bP_false.2 fun h' => ?_]
      rcases (hM a c).1 h' with h1 | ⟨rfl, rfl⟩
      · exact hm h1
      · exact e rfl
theorem Sq.congr {n : Nat} {B : List Bool} {M M' : Nat → Nat → Prop} (h : Sq n B M) (hM : ∀ a c, M' a c ↔ M a c) : Sq n B M' :=
  ⟨h.1, fun a c ha hc => by rw [h.2 a c ha hc, show M a c = M' a c from propext (hM a c).symm]⟩
def mJ (X : List Int) (k j : Int) (a c : Nat) : Prop := ∃ j' : Nat, (j' : Int) < j ∧ X[j']? = some (a : Int) ∧ X[k.toNat]? = some (c : Int)
def mK (X : List Int) (k : Int) (a c : Nat) : Prop := ∃ k' : Nat, (k' : Int) < k ∧ ∃ j' : Nat, j' < k' ∧ X[j']? = some (a : Int) ∧ X[k']? = some (c : Int)
def mO (l : List Aid) (os : List Obv) (u : Int) (a c : Nat) : Prop := ∃ q o, ((q : Nat) : Int) < u ∧ os[q]? = some o ∧ mK (seenX l o.atX o.atY o.eye o.vis) (seenX l o.atX o.atY o.eye o.vis).length a c
theorem mJ_succ {X : List Int} {k j jp x y : Int} (h0 : 0 ≤ j) (hx : X[j.toNat]? = some x) (hy : X[k.toNat]? = some y) (hp : jp = j + 1) (hx0 : 0 ≤ x) (hy0 : 0 ≤ y) (a c : Nat) : mJ X k jp a c ↔ mJ X k j a c ∨ a = x.toNat ∧ c = y.toNat := by
  constructor
  · rintro ⟨j', h1, h2, h3⟩
    by_cases e : (j' : Int) < j
    · exact .inl ⟨j', e, h2, h3⟩
    · have e : j' = j.toNat := by omega
      subst e
      rw [hx] at h2; rw [hy] at h3
      cases h2; cases h3
      exact .inr ⟨by omega, by omega⟩
  · rintro (⟨j', h1, h2, h3⟩ | ⟨rfl, rfl⟩)
    · exact ⟨j', by omega, h2, h3⟩
    · exact ⟨j.toNat, by omega, by rw [hx]; congr 1; omega, by rw [hy]; congr 1; omega⟩
theorem mK_succ {X : List Int} {k kp : Int} (h0 : 0 ≤ k) (hp : kp = k + 1) (a c : Nat) : mK X kp a c ↔ mK X k a c ∨ mJ X k k a c := by
  constructor
  · rintro ⟨k', h1, j', h2, h3, h4⟩
    by_cases e : (k' : Int) < k
    · exact .inl ⟨k', e, j', h2, h3, h4⟩
    · have e : k' = k.toNat := by omega
      subst e
      exact .inr ⟨j', by omega, h3, h4⟩
  · rintro (⟨k', h1, h2⟩ | ⟨j', h1, h2, h3⟩)
    · exact ⟨k', by omega, h2⟩
    · exact ⟨k.toNat, by omega, j', by omega, h2, h3⟩
theorem mO_succ {l : List Aid} {os : List Obv} {u up : Int} {o : Obv} (h0 : 0 ≤ u) (ho : os[u.toNat]? = some o) (hp : up = u + 1) (a c : Nat) : mO l os up a c ↔ mO l os u a c ∨ mK (seenX l o.atX o.atY o.eye o.vis) (seenX l o.atX o.atY o.eye o.vis).length a c := by
  constructor
  · rintro ⟨q, o', h1, h2, h3⟩
    by_cases e : (q : Int) < u
    · exact .inl ⟨q, o', e, h2, h3⟩
    · have e : q = u.toNat := by omega
      subst e
      rw [ho] at h2; cases h2
      exact .inr h3
  · rintro (⟨q, o', h1, h2, h3⟩ | h)
    · exact ⟨q, o', by omega, h2, h3⟩
    · exact ⟨u.toNat, o, by omega, ho, h⟩
theorem seenX_inc {l : List Aid} (hpw : l.Pairwise fun a b => a.number < b.number) {x y e s : Int} {j k : Nat} {a c : Int} (hj : (seenX l x y e s)[j]? = some a) (hk : (seenX l x y e s)[k]? = some c) : j < k ↔ a < c := by
  obtain ⟨v, h1, h2, h3, h4⟩ := seenX_get hj
  obtain ⟨w, g1, g2, g3, g4⟩ := seenX_get hk
  have hpS : (seenL l x y e s).Pairwise fun a b => a.number < b.number := hpw.filter _
  rw [num_lt hpS h1 g1, ← num_lt hpw h2 g2]
  omega
theorem mO_all {l : List Aid} {os : List Obv} (hpw : l.Pairwise fun a b => a.number < b.number) {i k : Nat} (hik : i < k) : mO l os os.length i k ↔ both l os i k := by
  constructor
  · rintro ⟨q, o, h1, h2, k', h3, j', h4, h5, h6⟩
    obtain ⟨v, g1, g2, _, _⟩ := seenX_get h5
    obtain ⟨w, f1, f2, _, _⟩ := seenX_get h6
    have mv := List.mem_filter.1 (List.mem_of_getElem? g1)
    have mw := List.mem_filter.1 (List.mem_of_getElem? f1)
    exact ⟨o, List.mem_of_getElem? h2, v, w, g2, f2, by simpa using mv.2, by simpa using mw.2⟩
  · rintro ⟨o, ho, a, b, ha, hb, sa, sb⟩
    obtain ⟨q, hq⟩ := List.getElem?_of_mem ho
    have key : ∀ (i : Nat) (a : Aid), l[i]? = some a → a.seen o.atX o.atY o.eye o.vis → ∃ j : Nat, (seenX l o.atX o.atY o.eye o.vis)[j]? = some (i : Int) := fun i a ha sa => by
      have ma : a ∈ seenL l o.atX o.atY o.eye o.vis := List.mem_filter.2 ⟨List.mem_of_getElem? ha, by simpa using sa⟩
      obtain ⟨j, hj⟩ := List.getElem?_of_mem ma
      have hjl := (List.getElem?_eq_some_iff.1 hj).1
      rw [← seenX_len] at hjl
      obtain ⟨z, hz⟩ : ∃ z, (seenX l o.atX o.atY o.eye o.vis)[j]? = some z := ⟨_, List.getElem?_eq_getElem hjl⟩
      obtain ⟨v, g1, g2, g3, g4⟩ := seenX_get hz
      rw [hj] at g1; cases g1
      have e1 := num_lt hpw ha g2
      have e2 := num_lt hpw g2 ha
      have : z = (i : Int) := by omega
      exact ⟨j, by rw [hz, this]⟩
    obtain ⟨j, hj⟩ := key i a ha sa
    obtain ⟨k', hk⟩ := key k b hb sb
    refine ⟨q, o, by have := (List.getElem?_eq_some_iff.1 hq).1; omega, hq, k', by have := (List.getElem?_eq_some_iff.1 hk).1; omega, j, ?_, hj, hk⟩
    exact (seenX_inc hpw hj hk).2 (by omega)
theorem rowT_low {P : Nat → Nat → Prop} {i : Nat} : ∀ {k : Nat}, k ≤ i + 1 → rowT P i k = []
  | 0, _ => rfl
  | k + 1, h => by rw [rowT, rowT_low (by omega), if_neg (fun h' => by omega)]; rfl
theorem rowT_len (P : Nat → Nat → Prop) (i : Nat) : ∀ k, (rowT P i k).length ≤ k
  | 0 => by simp [rowT]
  | k + 1 => by
    rw [rowT, List.length_append]
    have := rowT_len P i k
    split <;> simp <;> omega
theorem allT_len (P : Nat → Nat → Prop) (n : Nat) : ∀ m, (allT P n m).length ≤ m * n
  | 0 => by simp [allT]
  | m + 1 => by
    rw [allT, List.length_append, Nat.add_mul]
    have := allT_len P n m
    have := rowT_len P m n
    omega
def pI (p : Nat × Nat) : List Int := [(p.1 : Int), (p.2 : Int)]
theorem allT_bd {P : Nat → Nat → Prop} {n m : Nat} (hn : n ≤ 24) (hm : m ≤ n) : (allT P n m).length ≤ 576 := by
  have h1 := allT_len P n m
  have h2 : m * n ≤ 24 * 24 := Nat.mul_le_mul (by omega) hn
  omega
theorem row_put {P : Nat → Nat → Prop} {X : List (Nat × Nat)} {i k kp : Int} (hi : 0 ≤ i) (hik : i < k) (hp : kp = k + 1) (h : P i.toNat k.toNat) : (X ++ rowT P i.toNat k.toNat).map pI ++ [[i, k]] = (X ++ rowT P i.toNat kp.toNat).map pI := by
  rw [show kp.toNat = k.toNat + 1 by omega, rowT, if_pos ⟨by omega, h⟩]
  simp [pI]; omega
theorem row_skip {P : Nat → Nat → Prop} {X : List (Nat × Nat)} {i k kp : Int} (hk : 0 ≤ k) (hp : kp = k + 1) (h : ¬ P i.toNat k.toNat) : (X ++ rowT P i.toNat k.toNat).map pI = (X ++ rowT P i.toNat kp.toNat).map pI := by
  rw [show kp.toNat = k.toNat + 1 by omega, rowT, if_neg (fun h' => h h'.2), List.append_nil]
theorem mul_bd24 {n m a c : Int} (ha : 0 ≤ a ∧ a < n) (hc : 0 ≤ c ∧ c < n) (hn : n ≤ 24) (hm : m = a * n) : 0 ≤ m ∧ m + c ≤ 575 ∧ (m + c).toNat = a.toNat * n.toNat + c.toNat := by
  obtain ⟨N, rfl⟩ : ∃ N : Nat, n = N := ⟨n.toNat, by omega⟩
  obtain ⟨A, rfl⟩ : ∃ A : Nat, a = A := ⟨a.toNat, by omega⟩
  obtain ⟨C, rfl⟩ : ∃ C : Nat, c = C := ⟨c.toNat, by omega⟩
  have h1 := sq_lt (n := N) (a := A) (c := C) (by omega) (by omega)
  have h2 : N * N ≤ 24 * 24 := Nat.mul_le_mul (by omega) (by omega)
  have e : m = ((A * N : Nat) : Int) := by rw [hm]; simp
  simp only [Int.toNat_natCast]
  omega
theorem mulB2 {n m a c : Int} (ha : 0 ≤ a ∧ a < n) (hc : 0 ≤ c ∧ c < n) (hn : n ≤ 24) (hm : m = a * n) : -9223372036854775808 ≤ m + c ∧ m + c ≤ 9223372036854775807 := by
  have := mul_bd24 ha hc hn hm
  omega
theorem bPI {p : Prop} {A B : Prop} (h1 : p → A) (h2 : ¬ p → B) : if bP p = true then A else B := by
  by_cases h : p
  · rw [if_pos (bP_true.2 h)]; exact h1 h
  · rw [if_neg (by rw [bP_false.2 h]; decide)]; exact h2 h
set_option maxHeartbeats 4000000
theorem l16Together_ {rs ro : List (List AV)} {t t' b : Bool} {l : List Aid} {os : List Obv} (hl : rs = l.map (Aid.cs b)) (ho : ro = os.map Obv.cs) (hok : AskOk l os) (h16 : os.length ≤ 16) : AC Tryz.prog 20 [.sl t 16 rs, .sl t' 4 ro] (fun l : List (List Int) => .sl true 1 (l.map (llR true))) ((allT (both l os) l.length l.length).map pI) := by
  refine ac Tryz.func20 (by kernel_rfl) (.lls _) fun E K hE hK => ?_
  conv => cbv
  have h24 := hok.1.2
  have hpw := hok.1.pw
  refine lenL hE hl fun n hn hbn => ?_
  conv => cbv
  refine lenL hE hl fun n' hn' hbn' => ?_
  conv => cbv
  have hnn : 0 ≤ n * n' ∧ n * n' ≤ 576 := by
    have h2 : l.length * l.length ≤ 24 * 24 := Nat.mul_le_mul h24 h24
    rw [hn, hn']
    have : ((l.length : Int)) * (l.length : Int) = ((l.length * l.length : Nat) : Int) := by simp
    omega
  refine mul64 hE (by omega) fun nn hnn2 => ?_
  conv => cbv
  refine makeI hE (by omega) fun es0 hes0 => ?_
  conv => cbv
  have hnnt : nn.toNat = l.length * l.length := by
    rw [hnn2, hn, hn']
    have : ((l.length : Int)) * (l.length : Int) = ((l.length * l.length : Nat) : Int) := by simp
    rw [this, Int.toNat_natCast]
  have hz : es0 = (List.replicate (l.length * l.length) false).map bolR := by rw [hes0, hnnt, List.map_replicate]; rfl
  have hs0 : Sq l.length (List.replicate (l.length * l.length) false) (mO l os 0) := Sq.zero fun a c ⟨q, _, h, _⟩ => by omega
  repeat' first
    | ((refine loopC hE (ι := Int × (List Bool) × (List (List AV))) [0, 1] [6, 5] (fun q => (fun (u : Int) (B : List Bool) (es : List (List AV)) => [(6, .int .i64 u), (5, .ob 0)]) q.1 q.2.1 q.2.2) (fun q => (fun (u : Int) (B : List Bool) (es : List (List AV)) => [.row 1 es]) q.1 q.2.1 q.2.2) (fun q => (fun (u : Int) (B : List Bool) (es : List (List AV)) => (os.length - u).toNat) q.1 q.2.1 q.2.2) (fun q => (fun (u : Int) (B : List Bool) (es : List (List AV)) => (0 ≤ u ∧ u ≤ os.length) ∧ es = B.map bolR ∧ Sq l.length B (mO l os u)) q.1 q.2.1 q.2.2) [0] (by decide) ((0, _, es0)) (by conv => lhs; cbv) (by conv => lhs; cbv) rfl rfl (by dsimp only; exact ⟨by omega, hz, hs0⟩) fun q hi2 Kn2 hN2 => ?_; obtain ⟨u, B, es⟩ := q; (try dsimp only at hi2); conv => cbv); obtain ⟨⟨h0, h1⟩, h2, hsq⟩ := hi2)
    | (refine idxL (R := Obv.cs) hE ho (by omega) (fun o hv => ?_); have hob := hok.2 _ (List.mem_of_getElem? hv); obtain ⟨ox, oy, oe, ov⟩ := o; (try conv => cbv))
    | (refine callR hE (l16All_ _ _ _ _ hl hok.1.all hob (by omega)) (fun rs' hrs => ?_); (obtain ⟨X, hX⟩ : ∃ X, X = seenX l ox oy oe ov := ⟨_, rfl⟩); rw [← hX] at hrs; (have hX24 : X.length ≤ 24 := by rw [hX, seenX_len]; exact Nat.le_trans (seenL_len _ _ _ _ _) h24); (have hXg : ∀ (k : Nat) j, X[k]? = some j → 0 ≤ j ∧ j < l.length := fun k j hj => by rw [hX] at hj; obtain ⟨_, _, _, g1, g2⟩ := seenX_get hj; exact ⟨g1, g2⟩); (try conv => cbv))
    | ((refine loopC hE (ι := Int × (List Bool) × (List (List AV))) [0, 1, 6, 7] [8, 5] (fun q => (fun (k : Int) (Ba : List Bool) (es3 : List (List AV)) => [(8, .int .i64 k), (5, .ob 0)]) q.1 q.2.1 q.2.2) (fun q => (fun (k : Int) (Ba : List Bool) (es3 : List (List AV)) => [.row 1 es3, .row 1 rs']) q.1 q.2.1 q.2.2) (fun q => (fun (k : Int) (Ba : List Bool) (es3 : List (List AV)) => (X.length - k).toNat) q.1 q.2.1 q.2.2) (fun q => (fun (k : Int) (Ba : List Bool) (es3 : List (List AV)) => (0 ≤ k ∧ k ≤ X.length) ∧ es3 = Ba.map bolR ∧ Sq l.length Ba (fun a c => mO l os u a c ∨ mK X k a c)) q.1 q.2.1 q.2.2) [0, 1] (by decide) ((0, B, es)) (by conv => lhs; cbv) (by conv => lhs; cbv) rfl rfl (by dsimp only; exact ⟨by omega, h2, hsq.congr fun a c => ⟨fun h => h.elim id fun ⟨_, h, _⟩ => by omega, .inl⟩⟩) fun q hi3 Kn3 hN3 => ?_; obtain ⟨k, Ba, es3⟩ := q; (try dsimp only at hi3); conv => cbv); obtain ⟨⟨k0, k1⟩, h3, hsq3⟩ := hi3)
    | (refine lenL hE hrs (fun n5 hn5 hb5 => ?_); (try conv => cbv))
    | ((refine loopC hE (ι := Int × (List Bool) × (List (List AV))) [0, 1, 6, 7, 8] [9, 5] (fun q => (fun (j : Int) (Bb : List Bool) (es4 : List (List AV)) => [(9, .int .i64 j), (5, .ob 0)]) q.1 q.2.1 q.2.2) (fun q => (fun (j : Int) (Bb : List Bool) (es4 : List (List AV)) => [.row 1 es4, .row 1 rs']) q.1 q.2.1 q.2.2) (fun q => (fun (j : Int) (Bb : List Bool) (es4 : List (List AV)) => (k - j).toNat) q.1 q.2.1 q.2.2) (fun q => (fun (j : Int) (Bb : List Bool) (es4 : List (List AV)) => (0 ≤ j ∧ j ≤ k) ∧ es4 = Bb.map bolR ∧ Sq l.length Bb (fun a c => (mO l os u a c ∨ mK X k a c) ∨ mJ X k j a c)) q.1 q.2.1 q.2.2) [0, 1] (by decide) ((0, Ba, es3)) (by conv => lhs; cbv) (by conv => lhs; cbv) rfl rfl (by dsimp only; exact ⟨by omega, h3, hsq3.congr fun a c => ⟨fun h => h.elim id fun ⟨_, h, _⟩ => by omega, .inl⟩⟩) fun q hi4 Kn4 hN4 => ?_; obtain ⟨j, Bb, es4⟩ := q; (try dsimp only at hi4); conv => cbv); obtain ⟨⟨j0, j1⟩, h4, hsq4⟩ := hi4)
    | (refine idxL (R := intR) (i := j) hE hrs (by omega) (fun a hA => ?_); (have hAg := hXg _ _ hA); (try conv => cbv))
    | (refine idxL (R := intR) (i := k) hE hrs (by omega) (fun c hC => ?_); (have hCg := hXg _ _ hC); (try conv => cbv))
    | (refine lenL hE hl (fun n6 hn6 hb6 => ?_); (try conv => cbv))
    | (refine mulC hE 24 (a := a) (b := n6) (by omega) (by omega) (fun mm hmm _ _ => ?_); (try conv => cbv))
    | (refine add64 hE (a := mm) (b := c) (mulB2 (a := a) (n := n6) (by omega) (by omega) (by omega) hmm) (fun m2 hm2 => ?_); (obtain ⟨q1, q2, q3⟩ := mul_bd24 (a := a) (c := c) (n := n6) (m := mm) (by omega) (by omega) (by omega) hmm); (have hm2t : m2.toNat = a.toNat * l.length + c.toNat := by rw [hm2, q3, hn6, Int.toNat_natCast]); (have hsl := sq_lt (n := l.length) (a := a.toNat) (c := c.toNat) (by omega) (by omega)); (have hBl := hsq4.1); (try conv => cbv))
    | (refine idxL (R := bolR) (i := m2) hE h4 (by omega) (fun v0 hv0 => ?_); (try conv => cbv))
    | (refine updL hE (R := bolR) true h4 (by omega) hv0 (by exact Nat.le_of_ble_eq_true rfl) (by rfl) (fun es5 hes5 => ?_); (try conv => cbv))
    | ((refine loopC hE (ι := Int × (List (List Int)) × (List (List AV))) [0] [11, 5, 10] (fun q => (fun (i : Int) (out : List (List Int)) (eo : List (List AV)) => [(11, .int .i64 i), (5, .ob 0), (10, .ob 1)]) q.1 q.2.1 q.2.2) (fun q => (fun (i : Int) (out : List (List Int)) (eo : List (List AV)) => [.row 1 es, .row 1 eo]) q.1 q.2.1 q.2.2) (fun q => (fun (i : Int) (out : List (List Int)) (eo : List (List AV)) => (l.length - i).toNat) q.1 q.2.1 q.2.2) (fun q => (fun (i : Int) (out : List (List Int)) (eo : List (List AV)) => (0 ≤ i ∧ i ≤ l.length) ∧ eo = out.map (llR true) ∧ out = (allT (both l os) l.length i.toNat).map pI) q.1 q.2.1 q.2.2) [0, 1] (by decide) ((0, [], [])) (by conv => lhs; cbv) (by conv => lhs; cbv) rfl rfl (by dsimp only; exact ⟨by omega, rfl, rfl⟩) fun q hi5 Kn5 hN5 => ?_; obtain ⟨i, out, eo⟩ := q; (try dsimp only at hi5); conv => cbv); obtain ⟨⟨i0, i1⟩, h6, h7⟩ := hi5; (have hat := allT_bd (P := both l os) h24 (m := i.toNat) (by omega)))
    | (refine add64 hE (a := i) (b := 1) (by omega) (fun ip hip => ?_); (try conv => cbv))
    | ((refine loopC hE (ι := Int × (List (List Int)) × (List (List AV))) [0, 11] [12, 5, 10] (fun q => (fun (k : Int) (out8 : List (List Int)) (eo8 : List (List AV)) => [(12, .int .i64 k), (5, .ob 0), (10, .ob 1)]) q.1 q.2.1 q.2.2) (fun q => (fun (k : Int) (out8 : List (List Int)) (eo8 : List (List AV)) => [.row 1 es, .row 1 eo8]) q.1 q.2.1 q.2.2) (fun q => (fun (k : Int) (out8 : List (List Int)) (eo8 : List (List AV)) => (l.length - k).toNat) q.1 q.2.1 q.2.2) (fun q => (fun (k : Int) (out8 : List (List Int)) (eo8 : List (List AV)) => (i < k ∧ k ≤ l.length) ∧ eo8 = out8.map (llR true) ∧ out8 = (allT (both l os) l.length i.toNat ++ rowT (both l os) i.toNat k.toNat).map pI) q.1 q.2.1 q.2.2) [0, 1] (by decide) ((ip, out, eo)) (by conv => lhs; cbv) (by conv => lhs; cbv) rfl rfl (by dsimp only; exact ⟨by omega, h6, by rw [h7, rowT_low (by omega), List.append_nil]⟩) fun q hi6 Kn6 hN6 => ?_; obtain ⟨k, out8, eo8⟩ := q; (try dsimp only at hi6); conv => cbv); obtain ⟨⟨k0, k1⟩, h8, h9⟩ := hi6; (have hrt := rowT_len (both l os) i.toNat k.toNat))
    | (refine mulC hE 24 (a := i) (b := n6) (by omega) (by omega) (fun mm hmm _ _ => ?_); (try conv => cbv))
    | (refine add64 hE (a := mm) (b := k) (mulB2 (a := i) (n := n6) (by omega) (by omega) (by omega) hmm) (fun m2 hm2 => ?_); (obtain ⟨q1, q2, q3⟩ := mul_bd24 (a := i) (c := k) (n := n6) (m := mm) (by omega) (by omega) (by omega) hmm); (have hm2t : m2.toNat = i.toNat * l.length + k.toNat := by rw [hm2, q3, hn6, Int.toNat_natCast]); (have hsl := sq_lt (n := l.length) (a := i.toNat) (c := k.toNat) (by omega) (by omega)); (have hBl := hsq.1); (try conv => cbv))
    | (refine idxV (R := bolR) (i := m2) hE h2 (by omega) (v := bP (both l os i.toNat k.toNat)) (by rw [hm2t, hsq.2 i.toNat k.toNat (by omega) (by omega), show u = (os.length : Int) by omega, show mO l os (os.length : Int) i.toNat k.toNat = both l os i.toNat k.toNat from propext (mO_all hpw (by omega))]) ?_; (try conv => cbv))
    | (refine bPI (fun hbo => ?_) (fun hbo => ?_) <;> (try conv => cbv))
    | (refine catP hE (R := llR true) (v := [i, k]) h8 (by rfl) (by rw [h9, List.length_map, List.length_append]; omega) (fun eo9 heo9 => ?_); (try conv => cbv))
    | (refine hN4 (_, Bb.set m2.toNat true, _) _ [0, 1] (by decide) rfl ⟨?_, hes5, ?_⟩ ?_ <;> (try dsimp only))
    | (refine hN3 (_, Bb, _) _ [0, 1] (by decide) rfl ⟨?_, h4, ?_⟩ ?_ <;> (try dsimp only))
    | (refine hN2 (_, Ba, _) _ [0] (by decide) rfl ⟨?_, h3, ?_⟩ ?_ <;> (try dsimp only))
    | (refine hN6 (_, out8 ++ [[i, k]], _) _ [0, 4] (by decide) rfl ⟨?_, heo9, ?_⟩ ?_ <;> (try dsimp only))
    | (refine hN6 (_, out8, _) _ [0, 1] (by decide) rfl ⟨?_, h8, ?_⟩ ?_ <;> (try dsimp only))
    | (refine hN5 (_, out8, _) _ [0, 1] (by decide) rfl ⟨?_, h8, ?_⟩ ?_ <;> (try dsimp only))
    | ((first
   | refine q0 hE ?_
   | refine B0 hE ?_|refine B1 hE (fun _=>?_) fun _=>?_|refine B3 hE fun _ _ _=>?_|refine B2 hE fun _ _=>?_|refine B4 hE fun _ _ _ _=>?_) <;> (try conv => cbv))
  all_goals (try clear hN2)
  all_goals (try clear hN3)
  all_goals (try clear hN4)
  all_goals (try clear hN5)
  all_goals (try clear hN6)
  all_goals first
    | omega
    | (rw [hm2t]; exact hsq4.put (by omega) (by omega) fun p q => by rw [mJ_succ j0 hA hC (by assumption) hAg.1 hCg.1]; exact or_assoc.symm)
    | exact hsq4.congr fun p q => by rw [mK_succ k0 (by assumption), show j = k by omega]; exact or_assoc.symm
    | exact hsq3.congr fun p q => by rw [mO_succ h0 hv (by assumption), ← hX, show k = (X.length : Int) by omega]
    | (rw [h9]; exact row_put i0 k0 (by assumption) hbo)
    | (rw [h9]; exact row_skip (by omega) (by assumption) hbo)
    | (rw [h9, show k.toNat = l.length by omega, show ip.toNat = i.toNat + 1 by omega, allT])
    | (refine hK _ ?_; rw [h6, h7, show i.toNat = l.length by omega]; rfl)
    | trace_state
end Go.Proofs.YtoafgafkmeghlaaGreatDoor
