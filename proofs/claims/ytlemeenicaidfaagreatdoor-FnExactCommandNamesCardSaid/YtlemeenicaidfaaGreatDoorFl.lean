/- What the flat types' contracts lean on; points. -/
import Derived.Test.YtlemeenicaidfaaGreatDoorFm
namespace Go.Proofs.YtlemeenicaidfaaGreatDoor
open Go Go.RowKit Classical
set_option maxRecDepth 100000
set_option maxHeartbeats 2000000
set_option linter.unusedVariables false
set_option linter.unusedSimpArgs false
theorem szN_or (n : Int) (k : Nat) : szN n k = -1 ∧ n < k ∨ szN n k = n - k ∧ k ≤ n := by unfold szN; split <;> omega
theorem szN_lt {n : Int} {k : Nat} (h : n < k) : szN n k = -1 := by unfold szN; rw [if_pos (by omega)]
theorem szN_ge {n : Int} {k : Nat} (h : k ≤ n) : szN n k = n - k := by unfold szN; rw [if_neg (by omega)]
def sumTo {α : Type} (f : α → Nat) (l : List α) (i : Int) : Nat := ((l.take i.toNat).map f).sum
theorem sumTo_zero {α : Type} {f : α → Nat} {l : List α} {i : Int} (h : i ≤ 0) : sumTo f l i = 0 := by
  unfold sumTo; rw [show i.toNat = 0 by omega]; simp
theorem sumTo_succ {α : Type} (f : α → Nat) {l : List α} {i : Int} {v : α} (h0 : 0 ≤ i) (hv : l[i.toNat]? = some v) : sumTo f l (i + 1) = sumTo f l i + f v := by
  unfold sumTo
  rw [show (i + 1).toNat = i.toNat + 1 by omega, List.take_add_one, hv]
  simp
theorem sumTo_all {α : Type} (f : α → Nat) (l : List α) {i : Int} (h : l.length ≤ i) : sumTo f l i = (l.map f).sum := by
  unfold sumTo; rw [List.take_of_length_le (by omega)]
theorem sumTo_le {α : Type} (f : α → Nat) (l : List α) (i : Int) : sumTo f l i ≤ (l.map f).sum := by
  unfold sumTo
  have := congrArg (fun m => (m.map f).sum) (List.take_append_drop i.toNat l)
  simp only [List.map_append, List.sum_append] at this
  omega
theorem sum_ge {α : Type} (f : α → Nat) : ∀ {l : List α} {v : α}, v ∈ l → f v ≤ (l.map f).sum
  | x :: l, v, h => by
    rcases List.mem_cons.1 h with rfl | h
    · simp
    · have := sum_ge f h; simp; omega
section
variable {E : Env} {np : Nat} {P : Program}
theorem idxSet [St] [hE : SE E np P] {α : Type} {R : α → List AV} {m : List α} {es : List (List AV)} {i : Int} {v : α} {K : List AV → Prop} (hes : es = (m.set i.toNat v).map R) (h : 0 ≤ i ∧ i < m.length) (hk : (m.set i.toNat v)[i.toNat]? = some v → K (R v)) : E.idx es i K := by
  have h1 : (m.set i.toNat v)[i.toNat]? = some v := by rw [List.getElem?_set_self (by omega)]
  exact idxV hes h.1 h1 (hk h1)
theorem idxS [St] [hE : SE E np P] {α : Type} {R : α → List AV} {m : List α} {es : List (List AV)} {i : Int} {v : α} {K : List AV → Prop} (hes : es = (m.set i.toNat v).map R) (h : 0 ≤ i ∧ i < m.length) (hk : K (R v)) : E.idx es i K := idxSet hes h fun _ => hk
theorem updS [St] [hE : SE E np P] {α : Type} {R : α → List AV} {cs : List AV} {m : List α} {es : List (List AV)} {i : Int} {j : Nat} {K : List (List AV) → Prop} {v : α} (v' : α) (hes : es = (m.set i.toNat v).map R) (h : 0 ≤ i ∧ i < m.length) (hl : j + cs.length ≤ (R v).length) (hz : splice (R v) j cs = R v')
    (hk : ∀ es', es' = (m.set i.toNat v').map R → K es') : E.upd es i j cs K :=
  updL v' hes h.1 (List.getElem?_set_self (by omega)) hl hz fun es' h' => hk es' (by rw [h', List.set_set])
theorem seqT [St] [hE : SE E np P] {a b : ByteArray} {K : Bool → Prop} (h : a = b) (hk : K true) : E.seq a b K := seqI (fun _ => hk) (fun h' => absurd h h')
theorem subG [St] [hE : SE E np P] {es : List (List AV)} {lo hi : Option Int} {K : List (List AV) → Prop} (h : 0 ≤ lo.getD 0 ∧ lo.getD 0 ≤ hi.getD es.length ∧ hi.getD es.length ≤ es.length)
    (hk : ∀ rs, rs = (es.take (hi.getD es.length).toNat).drop (lo.getD 0).toNat → K rs) : E.sub_ es lo hi K := by
  cases hE.h; exact ⟨h.1, h.2.1, h.2.2, hk _ rfl⟩
theorem callLI [St] [hE : SE E np P] {α : Type} {f : FuncId} {args : List AV} {R : α → List AV} {k : Nat} {x : List α × Int} {K : AV → Prop} (h : AC P f args (fun p : List α × Int => .tup [.sl true k (p.1.map R), .int .i64 p.2]) x) (hk : ∀ rs n, rs = x.1.map R → n = x.2 → K (.tup [.sl true k rs, .int .i64 n])) : E.call f args K :=
  callI h fun y hy => hk _ _ (by rw [hy]) (by rw [hy])
theorem callII [St] [hE : SE E np P] {f : FuncId} {args : List AV} {x : Int × Int} {K : AV → Prop} (h : AC P f args two x) (hk : ∀ m n, m = x.1 → n = x.2 → K (.tup [.int .i64 m, .int .i64 n])) : E.call f args K :=
  callI h fun y hy => hk _ _ (by rw [hy]) (by rw [hy])
theorem mvH [St] [hE : SE E np P] {α : Type} {R : α → List AV} {es : List (List AV)} {m : List α} {hi lo hi' : Int} {K : List (List AV) → Int → Prop} (hes : es = m.map R) (hfl : ∀ v, ∀ c ∈ R v, c.flatH = true) (h : 0 ≤ hi ∧ hi ≤ lo ∧ lo ≤ hi' ∧ hi' ≤ m.length)
    (hk : ∀ es' n, es' = (m.take hi.toNat ++ ((m.take hi'.toNat).drop lo.toNat ++ m.drop (hi + (hi' - lo)).toNat)).map R → n = hi + (hi' - lo) → K es' n) : E.mv es hi lo hi' K := by
  cases hE.h
  refine ⟨h.2.1, fun e he c hc => ?_, hk _ _ ?_ rfl⟩
  · rw [hes] at he
    obtain ⟨v, _, rfl⟩ := List.mem_map.1 (List.mem_of_mem_take (List.mem_of_mem_drop he))
    exact hfl v c hc
  · rw [hes]; simp only [List.map_append, List.map_take, List.map_drop]
theorem AV.flat_flatH {c : AV} (h : c.flat = true) : c.flatH = true := by
  cases c <;> simp_all [AV.flat, AV.flatH]
theorem mvL [St] [hE : SE E np P] {α : Type} {R : α → List AV} {es : List (List AV)} {m : List α} {hi lo hi' : Int} {K : List (List AV) → Int → Prop} (hes : es = m.map R) (hfl : ∀ v, ∀ c ∈ R v, c.flat = true) (h : 0 ≤ hi ∧ hi ≤ lo ∧ lo ≤ hi' ∧ hi' ≤ m.length)
    (hk : ∀ es' n, es' = (m.take hi.toNat ++ ((m.take hi'.toNat).drop lo.toNat ++ m.drop (hi + (hi' - lo)).toNat)).map R → n = hi + (hi' - lo) → K es' n) : E.mv es hi lo hi' K :=
  mvH hes (fun v c hc => AV.flat_flatH (hfl v c hc)) h hk
theorem clrG [St] [hE : SE E np P] {es : List (List AV)} {lo hi : Int} {z : List AV} {K : List (List AV) → Prop} (h : 0 ≤ lo ∧ lo ≤ hi ∧ hi ≤ es.length)
    (hk : ∀ es', es'.length = es.length → es'.take lo.toNat = es.take lo.toNat → K es') : E.clr es lo hi z K := by
  cases hE.h
  refine hk _ ?_ ?_
  · simp; omega
  · rw [List.take_append_of_le_length (by simp; omega), List.take_of_length_le (by rw [List.length_take]; omega)]
end
theorem del_done {α : Type} {R : α → List AV} {l : List α} {i j n m m2 : Int} {es es2 rs : List (List AV)} (h : 0 ≤ i ∧ i ≤ j ∧ j ≤ l.length) (hn : n = l.length) (he : es = (l.take i.toNat ++ ((l.take n.toNat).drop j.toNat ++ l.drop (i + (n - j)).toNat)).map R) (hm : m = i + (n - j)) (hm2 : m2 = m - 0) (ht : es2.take m2.toNat = es.take m2.toNat)
    (hr : rs = (es2.take ((some m).getD (es2.length : Int)).toNat).drop ((some (0 : Int)).getD 0).toNat) : rs = (l.take i.toNat ++ l.drop j.toNat).map R := by
  rw [hr]
  show (es2.take m.toNat).drop 0 = _
  rw [List.drop_zero]
  rw [show m2 = m by omega] at ht
  rw [ht, he, ← List.map_take]
  have e1 : l.take n.toNat = l := List.take_of_length_le (by omega)
  have e2 : (l.take i.toNat ++ l.drop j.toNat).length = m.toNat := by
    rw [List.length_append, List.length_take, List.length_drop]; omega
  rw [e1, ← List.append_assoc, List.take_append_of_le_length (by omega), List.take_of_length_le (by omega)]
noncomputable def rej {α : Type} (p : α → Prop) (l : List α) : List α := l.filter fun v => decide (¬ p v)
theorem rej_len {α : Type} (p : α → Prop) (l : List α) : (rej p l).length ≤ l.length := List.length_filter_le _ _
theorem rej_step {α : Type} (p : α → Prop) {l : List α} {i n : Int} {v : α} (h0 : 0 ≤ i) (hv : l[i.toNat]? = some v) (hn : n = i + 1) : (p v → rej p (l.take n.toNat) = rej p (l.take i.toNat)) ∧ (¬ p v → rej p (l.take n.toNat) = rej p (l.take i.toNat) ++ [v]) := by
  unfold rej
  rw [show n.toNat = i.toNat + 1 by omega, List.take_add_one, hv, List.filter_append]
  by_cases h : p v <;> simp [h]
theorem filt_start {α : Type} {p : α → Prop} {l : List α} {y n1 : Int} {v0 : α} (h0 : 0 ≤ y) (hn : n1 = y + 1) (h : l[y.toNat]? = some v0) (hp : p v0) (hb : ∀ (j : Nat) v, (j : Int) < y → l[j]? = some v → ¬ p v) : l.take y.toNat = (l.take n1.toNat).filter (fun v => decide (¬ p v)) := by
  have e : (l.take y.toNat).filter (fun v => decide (¬ p v)) = l.take y.toNat := List.filter_eq_self.2 fun a ha => by
    obtain ⟨j, hj⟩ := List.getElem?_of_mem ha
    have hlt := (List.getElem?_eq_some_iff.1 hj).1
    rw [List.getElem?_take, if_pos (by simp at hlt; omega)] at hj
    exact decide_eq_true (hb j a (by simp at hlt; omega) hj)
  rw [show n1.toNat = y.toNat + 1 by omega, List.take_add_one, h, List.filter_append, e]
  simp [hp]
theorem filt_none {α : Type} {p : α → Prop} {l : List α} (h : ∀ (j : Nat) v, l[j]? = some v → ¬ p v) : rej p l = l := List.filter_eq_self.2 fun a ha => by
  obtain ⟨j, hj⟩ := List.getElem?_of_mem ha
  exact decide_eq_true (h j a hj)
theorem filt_get {α : Type} {m l : List α} {j : Int} {v : α} (h5 : m.drop j.toNat = l.drop j.toNat) (hv : m[j.toNat]? = some v) : l[j.toNat]? = some v := by
  have := congrArg (fun x => x[0]?) h5
  simp only [List.getElem?_drop, Nat.add_zero] at this
  rw [← this, hv]
theorem filt_skip {α : Type} {p : α → Prop} {m l : List α} {i j n : Int} {v : α} (h0 : 0 ≤ j) (hv : l[j.toNat]? = some v) (hp : p v) (hn : n = j + 1) (h4 : m.take i.toNat = (l.take j.toNat).filter (fun v => decide (¬ p v))) : m.take i.toNat = (l.take n.toNat).filter (fun v => decide (¬ p v)) := by
  rw [show n.toNat = j.toNat + 1 by omega, List.take_add_one, hv, List.filter_append, h4]
  simp [hp]
theorem filt_keep {α : Type} {p : α → Prop} {m l : List α} {i j i' n : Int} {v : α} (h0 : 0 ≤ i ∧ 0 ≤ j) (hi : i < m.length) (hv : l[j.toNat]? = some v) (hp : ¬ p v) (hi' : i' = i + 1) (hn : n = j + 1) (h4 : m.take i.toNat = (l.take j.toNat).filter (fun v => decide (¬ p v))) : (m.set i.toNat v).take i'.toNat = (l.take n.toNat).filter (fun v => decide (¬ p v)) := by
  rw [show n.toNat = j.toNat + 1 by omega, show i'.toNat = i.toNat + 1 by omega, List.take_add_one, List.take_add_one, hv, List.filter_append, ← h4, List.getElem?_set_self (by omega), List.take_set_of_le (Nat.le_refl _)]
  simp [hp]
theorem filt_drop {α : Type} {m l : List α} {j n : Int} (h0 : 0 ≤ j) (hn : n = j + 1) (h5 : m.drop j.toNat = l.drop j.toNat) : m.drop n.toNat = l.drop n.toNat := by
  rw [show n.toNat = j.toNat + 1 by omega, ← List.drop_drop, ← List.drop_drop, h5]
theorem filt_dropS {α : Type} {m l : List α} {i j n : Int} {v : α} (h0 : 0 ≤ i ∧ i < j) (hn : n = j + 1) (h5 : m.drop j.toNat = l.drop j.toNat) : (m.set i.toNat v).drop n.toNat = l.drop n.toNat := by
  rw [List.drop_set_of_lt (by omega)]
  exact filt_drop (by omega) hn h5
theorem filt_done {α : Type} {R : α → List AV} {p : α → Prop} {m l : List α} {i j : Int} {es es' rs : List (List AV)} (hes : es = m.map R) (h1 : es'.take i.toNat = es.take i.toNat) (h4 : m.take i.toNat = (l.take j.toNat).filter (fun v => decide (¬ p v))) (hj : l.length ≤ j) (hrs : rs = (es'.take i.toNat).drop (0 : Int).toNat) : rs = (rej p l).map R := by
  unfold rej
  rw [hrs, h1, hes, ← List.map_take, h4, List.take_of_length_le (by omega)]; rfl
theorem ACM.mono [St] {P : Program} {f : FuncId} {args : List AV} {Q Q' : AV → List AV → Prop} (h : ACM P f args Q) (hq : ∀ r ys, Q r ys → Q' r ys) : ACM P f args Q' :=
  ⟨h.1, fun w A vs F h0 h1 h2 h3 h4 => (h.2 w A vs F h0 h1 h2 h3 h4).mono fun e w' ⟨v, G, r, ys, g0, g⟩ => ⟨v, G, r, ys, hq r ys g0, g⟩⟩
def intLI (p : List Int × Int) : AV := .tup [.sl true 1 (p.1.map intR), .int .i64 p.2]
theorem NoB.intLI (p : List Int × Int) : NoB (intLI p) := .tupC (.ints _) (.tupC (.int _ _) .tup0)
theorem flatI [St] {E : Env} {np : Nat} {P : Program} [hE : SE E np P] {fs : List (List AV)} {K : Prop} (h : ∀ e ∈ fs, ∀ c ∈ e, c.flat = true) (hk : K) : E.flat fs K := by cases hE.h; exact ⟨h, hk⟩
theorem ints_flat (m : List Int) : ∀ e ∈ m.map intR, ∀ c ∈ e, c.flat = true := fun e he c hc => by
  obtain ⟨v, _, rfl⟩ := List.mem_map.1 he
  simp only [intR, List.mem_cons, List.not_mem_nil, or_false] at hc
  rw [hc]; rfl
theorem flatInts [St] {E : Env} {np : Nat} {P : Program} [hE : SE E np P] {fs : List (List AV)} {m : List Int} {K : Prop} (h : fs = m.map intR) (hk : K) : E.flat fs K := flatI (by rw [h]; exact ints_flat m) hk
theorem strs_flat (m : List ByteArray) : ∀ e ∈ m.map strR, ∀ c ∈ e, c.flat = true := fun e he c hc => by
  obtain ⟨v, _, rfl⟩ := List.mem_map.1 he
  simp only [strR, List.mem_cons, List.not_mem_nil, or_false] at hc
  rw [hc]; rfl
theorem flatStrs [St] {E : Env} {np : Nat} {P : Program} [hE : SE E np P] {fs : List (List AV)} {m : List ByteArray} {K : Prop} (h : fs = m.map strR) (hk : K) : E.flat fs K := flatI (by rw [h]; exact strs_flat m) hk
structure Pnt where
  x : Int
  y : Int
def Pnt.cs (v : Pnt) : List AV := [.int .i64 v.x, .int .i64 v.y]
theorem NoB.oPnt (v : Pnt) : NoB (.agg v.cs) := (.aggC (.int _ _) (.aggC (.int _ _) .agg0))
theorem Pnt.nown (l : List Pnt) : ∀ e ∈ l.map Pnt.cs, ∀ c ∈ e, c.isOwn = false := fun e he c hc => by
  obtain ⟨v, _, rfl⟩ := List.mem_map.1 he
  simp only [Pnt.cs, List.mem_cons, List.not_mem_nil, or_false] at hc
  rcases hc with rfl | rfl <;> rfl
def Pnt.mk' (k : Int) : Pnt := ⟨k + 0, k + 1⟩
def Pnt.mks (n : Nat) (k : Int) : List Pnt := (List.range n).map fun i : Nat => Pnt.mk' (k + 2 * (i : Int))
theorem Pnt.mks_len (n : Nat) (k : Int) : (Pnt.mks n k).length = n := by simp [Pnt.mks]
theorem Pnt.mks_get {n : Nat} {k i : Int} {v : Pnt} (h0 : 0 ≤ i) (h : (Pnt.mks n k)[i.toNat]? = some v) : v = Pnt.mk' (k + 2 * i) := by
  unfold Pnt.mks at h
  rw [List.getElem?_map] at h
  by_cases hi : i.toNat < n
  · rw [List.getElem?_range hi] at h
    simp only [Option.map_some, Option.some.injEq] at h
    rw [← h, Int.toNat_of_nonneg h0]
  · rw [List.getElem?_eq_none (by simpa using Nat.le_of_not_lt hi)] at h; cases h
end Go.Proofs.YtlemeenicaidfaaGreatDoor
