/- Plain laws: plans of duties, rests, gaps. -/
import Derived.Test.YtnfjhadaclcgeaaGreatDoorQd
import Derived.Test.YtnfjhadaclcgeaaGreatDoorFy
namespace Go.Proofs.YtnfjhadaclcgeaaGreatDoor
open Go Go.RowKit Classical
set_option maxRecDepth 100000
set_option maxHeartbeats 2000000
set_option linter.unusedVariables false
set_option linter.unusedSimpArgs false
/-- A keeper's last duty of a list leaves too little rest before a time. -/
def tired (l : List Dut) (g : Int) (k : ByteArray) : Prop := ∃ v, (ofKeeper l k).getLast? = some v ∧ g < v.til + 480
noncomputable def nextS (l : List Dut) (g : Int) (o : Option ByteArray) (k : ByteArray) : Option ByteArray :=
  if tired l g k then o else match o with
  | none => some k
  | some b => if wkd l k < wkd l b then some k else some b
noncomputable def nextR (l : List Dut) (ks : List ByteArray) (g : Int) : Option ByteArray := ks.foldl (nextS l g) none
theorem nextS_mem {l : List Dut} {g : Int} {o : Option ByteArray} {k b : ByteArray} (h : nextS l g o k = some b) : o = some b ∨ (b = k ∧ ¬ tired l g k) := by
  unfold nextS at h
  by_cases ht : tired l g k
  · rw [if_pos ht] at h; exact .inl h
  · rw [if_neg ht] at h
    cases o with
    | none => simp only [Option.some.injEq] at h; exact .inr ⟨h.symm, ht⟩
    | some c =>
      simp only at h
      split at h
      · simp only [Option.some.injEq] at h; exact .inr ⟨h.symm, ht⟩
      · exact .inl h
theorem nextF_mem {l : List Dut} {g : Int} : ∀ (ks : List ByteArray) (o : Option ByteArray) (b : ByteArray), ks.foldl (nextS l g) o = some b → o = some b ∨ (b ∈ ks ∧ ¬ tired l g b)
  | [], _, _, h => .inl h
  | k :: ks, o, b, h => by
    rcases nextF_mem ks _ b h with h1 | ⟨h1, h2⟩
    · rcases nextS_mem h1 with h3 | ⟨rfl, h3⟩
      · exact .inl h3
      · exact .inr ⟨List.mem_cons_self .., h3⟩
    · exact .inr ⟨List.mem_cons_of_mem _ h1, h2⟩
theorem nextR_mem {l : List Dut} {g : Int} {ks : List ByteArray} {b : ByteArray} (h : nextR l ks g = some b) : b ∈ ks ∧ ¬ tired l g b := by
  rcases nextF_mem ks none b h with h1 | h1
  · cases h1
  · exact h1
noncomputable def planG (ks : List ByteArray) (f long : Int) : Nat → Option (List Dut)
  | 0 => some []
  | n + 1 => match planG ks f long n with
    | some l => match nextR l ks (f + n * long) with
      | some k => some (l ++ [⟨k, f + n * long, f + n * long + long⟩])
      | none => none
    | none => none
theorem planG_none (ks : List ByteArray) (f long : Int) {n : Nat} (h : planG ks f long n = none) : ∀ m : Nat, planG ks f long (n + m) = none
  | 0 => h
  | m + 1 => by
    show (match planG ks f long (n + m) with | some l => _ | none => none) = none
    rw [planG_none ks f long h m]
noncomputable def planR (ks : List ByteArray) (f count long : Int) : List Dut × Int :=
  if KeepersOk ks then (if ((1 ≤ long ∧ long ≤ 720) ∧ 0 ≤ count ∧ count ≤ 60) ∧ (0 < count → TimeOk f ∧ TimeOk (f + count * long)) then (match planG ks f long count.toNat with | some l => (l, 0) | none => ([], 3)) else ([], 2)) else ([], 1)
structure PlanOf (ks : List ByteArray) (f long : Int) (l : List Dut) : Prop where
  at_ : ∀ (j : Nat) v, l[j]? = some v → v.keeper ∈ ks ∧ v.frm = f + j * long ∧ v.til = f + j * long + long
  pw : l.Pairwise fun v w => v.keeper = w.keeper → v.til + 480 ≤ w.frm
theorem PlanOf.mem {ks : List ByteArray} {f long : Int} {l : List Dut} (h : PlanOf ks f long l) {v : Dut} (hv : v ∈ l) : v.keeper ∈ ks ∧ v.til = v.frm + long := by
  obtain ⟨j, hj⟩ := List.getElem?_of_mem hv
  obtain ⟨h1, h2, h3⟩ := h.at_ j v hj
  exact ⟨h1, by omega⟩
theorem own_mem {l : List Dut} {k : ByteArray} {v : Dut} : v ∈ ofKeeper l k ↔ v ∈ l ∧ v.keeper = k := by
  unfold ofKeeper rej
  rw [List.mem_filter]; simp
theorem PlanOf.own {ks : List ByteArray} {f long : Int} {l : List Dut} (h : PlanOf ks f long l) (k : ByteArray) : (ofKeeper l k).Pairwise fun v w => v.til + 480 ≤ w.frm := by
  have h1 : (ofKeeper l k).Pairwise fun v w => v.keeper = w.keeper → v.til + 480 ≤ w.frm := List.Pairwise.filter _ h.pw
  refine h1.imp_of_mem fun {v w} hv hw hvw => hvw ?_
  rw [(own_mem.1 hv).2, (own_mem.1 hw).2]
theorem last_of_pw {l : List Dut} (hp : l.Pairwise fun v w => v.til + 480 ≤ w.frm) (hd : ∀ v ∈ l, v.frm ≤ v.til) {v z : Dut} (hv : v ∈ l) (hz : l.getLast? = some z) : v.til ≤ z.til := by
  obtain ⟨m, rfl⟩ : ∃ m, l = m ++ [z] := by
    rw [List.getLast?_eq_some_iff] at hz; exact hz
  rcases List.mem_append.1 hv with h | h
  · have h1 := (List.pairwise_append.1 hp).2.2 v h z (by simp)
    have h2 := hd z (by simp)
    omega
  · simp at h; subst h; exact Int.le_refl _
theorem PlanOf.nil (ks : List ByteArray) (f long : Int) : PlanOf ks f long [] := ⟨fun _ _ h => by simp at h, .nil⟩
theorem PlanOf.step {ks : List ByteArray} {f long : Int} {l : List Dut} (h : PlanOf ks f long l) (hl : 0 ≤ long) {k : ByteArray} (hk : k ∈ ks) (ht : ¬ tired l (f + l.length * long) k) : PlanOf ks f long (l ++ [⟨k, f + l.length * long, f + l.length * long + long⟩]) := by
  refine ⟨fun j v hv => ?_, ?_⟩
  · rcases Nat.lt_or_ge j l.length with hj | hj
    · rw [List.getElem?_append_left hj] at hv; exact h.at_ j v hv
    · rw [List.getElem?_append_right hj] at hv
      have : j - l.length = 0 := by
        have := (List.getElem?_eq_some_iff.1 hv).1
        simp at this; omega
      rw [this] at hv
      simp only [List.getElem?_cons_zero, Option.some.injEq] at hv
      subst hv
      obtain rfl : j = l.length := by omega
      exact ⟨hk, rfl, rfl⟩
  · rw [List.pairwise_append]
    refine ⟨h.pw, List.pairwise_singleton _ _, fun v hv w hw e => ?_⟩
    simp only [List.mem_singleton] at hw
    subst hw
    simp only at e ⊢
    have hvo : v ∈ ofKeeper l k := own_mem.2 ⟨hv, e⟩
    obtain ⟨z, hz⟩ : ∃ z, (ofKeeper l k).getLast? = some z := by
      cases hh : (ofKeeper l k).getLast? with
      | none => rw [List.getLast?_eq_none_iff] at hh; rw [hh] at hvo; cases hvo
      | some z => exact ⟨z, rfl⟩
    have h1 := last_of_pw (h.own k) (fun u hu => by have := (h.mem (own_mem.1 hu).1).2; omega) hvo hz
    have h2 : ¬ (f + l.length * long < z.til + 480) := fun hh => ht ⟨z, hz, hh⟩
    omega
theorem planG_of {ks : List ByteArray} {f long : Int} (hl : 0 ≤ long) : ∀ (n : Nat) {l : List Dut}, planG ks f long n = some l → PlanOf ks f long l ∧ l.length = n
  | 0, l, h => by simp only [planG, Option.some.injEq] at h; subst h; exact ⟨.nil _ _ _, rfl⟩
  | n + 1, l, h => by
    rw [planG] at h
    split at h
    · rename_i m hm
      obtain ⟨h1, h2⟩ := planG_of hl n hm
      split at h
      · rename_i k hk
        simp only [Option.some.injEq] at h
        subst h
        obtain ⟨k1, k2⟩ := nextR_mem hk
        rw [← h2] at k2
        have h3 := h1.step hl k1 k2
        rw [h2] at h3
        exact ⟨h3, by simp [h2]⟩
      · cases h
    · cases h
theorem mul_mono {a b long : Int} (h : a ≤ b) (hl : 0 ≤ long) : a * long ≤ b * long := Int.mul_le_mul_of_nonneg_right h hl
theorem keep_name {ks : List ByteArray} (hk : KeepersOk ks) {k : ByteArray} (h : k ∈ ks) : NameOk k := by
  obtain ⟨j, hj⟩ := List.getElem?_of_mem h
  obtain ⟨k', h1, h2, _⟩ := hk.1 j (List.getElem?_eq_some_iff.1 hj).1
  rw [hj] at h1; cases h1; exact h2
theorem PlanOf.valid {ks : List ByteArray} {f long : Int} {l : List Dut} (h : PlanOf ks f long l) (hk : KeepersOk ks) (hl : 1 ≤ long ∧ long ≤ 720) (h60 : l.length ≤ 60) {n : Int} (hn : l.length ≤ n) (ht : l ≠ [] → TimeOk f ∧ TimeOk (f + n * long)) : DutiesOk l := by
  refine ⟨fun j hj => ?_, h60⟩
  have hv : l[j]? = some l[j] := List.getElem?_eq_getElem hj
  obtain ⟨a1, a2, a3⟩ := h.at_ j _ hv
  have hne : l ≠ [] := by rintro rfl; simp at hj
  obtain ⟨t1, t2⟩ := ht hne
  have m1 : (0 : Int) ≤ j * long := Int.mul_nonneg (by omega) (by omega)
  have m2 := mul_mono (a := (j : Int) + 1) (b := n) (long := long) (by omega) (by omega)
  rw [Int.add_mul, Int.one_mul] at m2
  unfold TimeOk at t1 t2
  refine ⟨_, hv, ⟨keep_name hk a1, ?_, ?_, by omega, by omega⟩, fun hj0 => ?_, fun w hw => ?_⟩
  · unfold TimeOk; omega
  · unfold TimeOk; omega
  · have hw : l[j - 1]? = some l[j - 1] := List.getElem?_eq_getElem (by omega)
    refine ⟨_, hw, .inl ?_⟩
    obtain ⟨_, b2, _⟩ := h.at_ (j - 1) _ hw
    have e : ((j - 1 : Nat) : Int) * long = j * long - long := by
      rw [show ((j - 1 : Nat) : Int) = (j : Int) - 1 by omega, Int.sub_mul, Int.one_mul]
    rw [b2, a2, e]; omega
  · by_cases e : l[j].keeper = w.keeper
    · refine .inr (.inr ?_)
      obtain ⟨i, hi⟩ := List.getElem?_of_mem hw
      have hil := (List.getElem?_eq_some_iff.1 hi).1
      rw [List.length_take] at hil
      rw [List.getElem?_take, if_pos (by omega)] at hi
      have h3 := List.pairwise_iff_getElem.1 h.pw i j (by omega) hj (by omega)
      have hwi : w = l[i] := by
        have := List.getElem?_eq_getElem (l := l) (i := i) (by omega)
        rw [this] at hi; cases hi; rfl
      subst hwi
      have h4 := h3 e.symm
      obtain ⟨_, c2, c3⟩ := h.at_ i _ (List.getElem?_eq_getElem (by omega))
      have : (0 : Int) ≤ i * long := Int.mul_nonneg (by omega) (by omega)
      rw [IntWalk.i64_in _ (by omega)]
      omega
    · exact .inl e
/-- At least one keeper is on duty at all times of a plan. -/
theorem PlanOf.covered {ks : List ByteArray} {f long : Int} {l : List Dut} (h : PlanOf ks f long l) (hl : 1 ≤ long) {a : Int} (h1 : f ≤ a) (h2 : a < f + l.length * long) : 1 ≤ onN l a := by
  have hq0 : 0 ≤ (a - f) / long := Int.ediv_nonneg (by omega) (by omega)
  have hq1 : (a - f) / long < l.length := Int.ediv_lt_of_lt_mul (by omega) (by omega)
  have e1 := Int.mul_ediv_self_le (x := a - f) (k := long) (by omega)
  have e2 := Int.lt_mul_ediv_self_add (x := a - f) (k := long) (by omega)
  obtain ⟨q, hq⟩ : ∃ q, q = (a - f) / long := ⟨_, rfl⟩
  rw [← hq] at hq0 hq1 e1 e2
  have hv : l[q.toNat]? = some l[q.toNat] := List.getElem?_eq_getElem (by omega)
  obtain ⟨_, b2, b3⟩ := h.at_ q.toNat _ hv
  rw [show ((q.toNat : Nat) : Int) = q by omega, Int.mul_comm] at b2 b3
  have hm : l[q.toNat] ∈ rej (fun v : Dut => a < v.frm ∨ v.til ≤ a) l := by
    unfold rej
    rw [List.mem_filter]
    refine ⟨List.mem_of_getElem? hv, ?_⟩
    simp only [decide_eq_true_eq]
    omega
  have := List.length_pos_of_mem hm
  unfold onN
  omega
theorem PlanOf.noGap {ks : List ByteArray} {f long u : Int} {l : List Dut} (h : PlanOf ks f long l) (hv : DutiesOk l) (hl : 1 ≤ long) (hu : u = f + l.length * long) (h1 : TimeOk f) (h2 : TimeOk u) : watchLL l f u 1 = ([], 0) := by
  have hm : (0 : Int) ≤ l.length * long := Int.mul_nonneg (by omega) (by omega)
  rw [watch_need (btw_ok.2 ⟨hv, ⟨h1, h2⟩, by omega⟩), if_pos (by omega)]
  have key : ∀ i : Nat, i + 1 ≤ (turnsR l f u).length → gapN (onN l) 1 (turnsR l f u) i = [] := by
    intro i
    induction i with
    | zero => intro _; rfl
    | succ i ih =>
      intro hi
      have ha := List.getElem?_eq_getElem (l := turnsR l f u) (i := i) (by omega)
      have hb := List.getElem?_eq_getElem (l := turnsR l f u) (i := i + 1) (by omega)
      rw [gapN_succ ha hb, ih (by omega)]
      unfold gapS
      refine if_pos (h.covered hl (turn_mem (by omega) (List.mem_of_getElem? ha)).1 ?_)
      have hlt := List.pairwise_iff_getElem.1 (turnsR_spec l f u).1 i (i + 1) (by omega) (by omega) (by omega)
      have := (turn_mem (by omega) (List.mem_of_getElem? hb)).2
      omega
  unfold gapsR
  rw [key _ (by have := (turnsR_len l f u).1; omega)]; rfl
/-- The least rest between two duties that follow one another. -/
def gapAt (m : List Dut) (n : Nat) : Int := match m[n]?, m[n + 1]? with
  | some v, some w => w.frm - v.til
  | _, _ => 0
def leastN (m : List Dut) : Nat → Int
  | 0 => gapAt m 0
  | n + 1 => min (leastN m n) (gapAt m n)
noncomputable def leastR (l : List Dut) (k : ByteArray) : Int × Int :=
  if DutiesOk l then (if (ofKeeper l k).length < 2 then (0, 6) else (leastN (ofKeeper l k) ((ofKeeper l k).length - 1), 0)) else (0, 1)
theorem gapAt_bd {m : List Dut} (hp : m.Pairwise fun v w => v.til + 480 ≤ w.frm) {n : Nat} (h : n + 1 < m.length) : 480 ≤ gapAt m n := by
  unfold gapAt
  rw [List.getElem?_eq_getElem (by omega : n < m.length), List.getElem?_eq_getElem h]
  have := List.pairwise_iff_getElem.1 hp n (n + 1) (by omega) h (by omega)
  simp only
  omega
theorem leastN_bd {m : List Dut} (hp : m.Pairwise fun v w => v.til + 480 ≤ w.frm) (h1 : 1 < m.length) : ∀ n, n < m.length → 480 ≤ leastN m n
  | 0, _ => gapAt_bd hp h1
  | n + 1, h => by
    have a := leastN_bd hp h1 n (by omega)
    have b := gapAt_bd hp (n := n) h
    rw [leastN]; omega
theorem PlanOf.rest {ks : List ByteArray} {f long : Int} {l : List Dut} (h : PlanOf ks f long l) (hv : DutiesOk l) (k : ByteArray) : ((leastR l k).2 = 0 → 480 ≤ (leastR l k).1) ∧ ((leastR l k).2 ≠ 0 → (ofKeeper l k).length ≤ 1) := by
  unfold leastR
  rw [if_pos hv]
  split
  · exact ⟨fun h => by simp at h, fun _ => by omega⟩
  · exact ⟨fun _ => leastN_bd (h.own k) (by omega) _ (by omega), fun h => absurd rfl h⟩
/-- All duties of a plan are those of its keepers. -/
theorem ind_sum {a : ByteArray} : ∀ {ks : List ByteArray}, ks.Nodup → a ∈ ks → (ks.map fun k => if a = k then 1 else 0).sum = 1
  | [], _, h => by cases h
  | k :: ks, hn, h => by
    obtain ⟨h1, h2⟩ := List.nodup_cons.1 hn
    rw [List.map_cons, List.sum_cons]
    by_cases e : a = k
    · rw [if_pos e]
      have : (ks.map fun k => if a = k then 1 else 0) = ks.map fun _ => 0 := List.map_congr_left fun x hx => if_neg fun e2 => h1 (by rw [← e, e2]; exact hx)
      rw [this]
      have h0 : ∀ ks : List ByteArray, (ks.map fun _ => 0).sum = 0 := fun ks => by induction ks with
        | nil => rfl
        | cons _ _ ih => simp [ih]
      rw [h0]
    · rw [if_neg e, ind_sum h2 ((List.mem_cons.1 h).resolve_left e)]
theorem sum_add (f g : ByteArray → Nat) : ∀ ks : List ByteArray, (ks.map fun k => f k + g k).sum = (ks.map f).sum + (ks.map g).sum
  | [] => rfl
  | k :: ks => by
    have := sum_add f g ks
    simp only [List.map_cons, List.sum_cons]; omega
theorem own_sum {ks : List ByteArray} (hn : ks.Nodup) : ∀ {l : List Dut}, (∀ v ∈ l, v.keeper ∈ ks) → (ks.map fun k => (ofKeeper l k).length).sum = l.length
  | [], _ => by
    have h0 : ∀ ks : List ByteArray, (ks.map fun k => (ofKeeper [] k).length).sum = 0 := fun ks => by induction ks with
      | nil => rfl
      | cons k ks ih => rw [List.map_cons, List.sum_cons, ih]; rfl
    exact h0 ks
  | v :: l, h => by
    have ih := own_sum hn (l := l) fun w hw => h w (List.mem_cons_of_mem _ hw)
    have e : (fun k => (ofKeeper (v :: l) k).length) = fun k => (if v.keeper = k then 1 else 0) + (ofKeeper l k).length := by
      funext k
      unfold ofKeeper rej
      rw [List.filter_cons]
      by_cases e : v.keeper = k
      · simp [e]; omega
      · simp [e]
    rw [e, sum_add, ih, ind_sum hn (h v (List.mem_cons_self ..)), List.length_cons]; omega
theorem keep_nodup {ks : List ByteArray} (hk : KeepersOk ks) : ks.Nodup := by
  rw [List.nodup_iff_pairwise_ne, List.pairwise_iff_getElem]
  intro i j hi hj hij e
  obtain ⟨k, h1, _, h3⟩ := hk.1 j hj
  rw [List.getElem?_eq_getElem hj] at h1
  cases h1
  refine h3 (List.mem_of_getElem? (i := i) ?_)
  rw [List.getElem?_take, if_pos hij, List.getElem?_eq_getElem hi, e]
theorem PlanOf.sum {ks : List ByteArray} {f long : Int} {l : List Dut} (h : PlanOf ks f long l) (hk : KeepersOk ks) : (ks.map fun k => (ofKeeper l k).length).sum = l.length :=
  own_sum (keep_nodup hk) fun v hv => (h.mem hv).1
end Go.Proofs.YtnfjhadaclcgeaaGreatDoor
