/- Contracts: the phases of a character in a color. -/
import Derived.Test.YtoafgafkmeghlaaGreatDoorKA
import Derived.Test.YtoafgafkmeghlaaGreatDoorGcv
import Derived.Test.YtoafgafkmeghlaaGreatDoorGco
import Derived.Laws.RangeString
namespace Go.Proofs.YtoafgafkmeghlaaGreatDoor
open Go Go.RowKit Classical
set_option maxRecDepth 100000
set_option maxHeartbeats 2000000
set_option linter.unusedVariables false
set_option linter.unusedSimpArgs false
set_option maxHeartbeats 4000000
variable {E : Env} {P : Program} {np : Nat}
theorem rhythm0_ (k : Int) (h : k = 1 ∨ k = 3) : AC Tryz.prog 96 [.int .i64 k] three (0, 0, 0) := by
  refine ac Tryz.func96 (by kernel_rfl) (.three _) fun E K hE hK => ?_
  conv => cbv
  repeat' first
    | ((first
   | refine q0 hE ?_
   | refine B0 hE ?_|refine B1 hE (fun _=>?_) fun _=>?_|refine B3 hE fun _ _ _=>?_|refine B2 hE fun _ _=>?_|refine B4 hE fun _ _ _ _=>?_) <;> (try conv => cbv))
  all_goals first
    | omega
    | exact hK _ rfl
    | trace_state
theorem alt_put {k : Int} {T : List Int} {i n v : Int} {b : Bool} (h0 : 0 ≤ i) (hv : T[i.toNat]? = some v) (hn : n = i + 1) (hb : b = litI k i.toNat) : altP k T i.toNat ++ [(b, v)] = altP k T n.toNat := by
  rw [show n.toNat = i.toNat + 1 by omega, altP, hb, List.getD_eq_getElem?_getD, hv]; rfl
theorem litI_even {k i m : Int} (h0 : 0 ≤ i) (hm : m = i % 2) (he : m = 0) : litI k i.toNat = decide (k ≠ 2) := by
  unfold litI
  congr 1
  have : i.toNat % 2 = 0 := by omega
  simp [this]
theorem litI_odd {k i m : Int} (h0 : 0 ≤ i) (hm : m = i % 2) (he : m ≠ 0) : litI k i.toNat = decide (k = 2) := by
  unfold litI
  congr 1
  have : ¬ i.toNat % 2 = 0 := by omega
  simp [this]
theorem lit1 {c : UInt8} {k i m : Int} (h0 : 0 ≤ i) (hm : m = i % 2) (he : m = 0) (hk : k = 2) : noS = colS c (litI k i.toNat) := by rw [litI_even h0 hm he]; simp [hk]; rfl
theorem lit2 {c : UInt8} {k i m : Int} {s : ByteArray} (hs : s = colS c true) (h0 : 0 ≤ i) (hm : m = i % 2) (he : m = 0) (hk : k ≠ 2) : s = colS c (litI k i.toNat) := by rw [litI_even h0 hm he, hs]; simp [hk]
theorem lit3 {c : UInt8} {k i m : Int} {s : ByteArray} (hs : s = colS c true) (h0 : 0 ≤ i) (hm : m = i % 2) (he : m ≠ 0) (hk : k = 2) : s = colS c (litI k i.toNat) := by rw [litI_odd h0 hm he, hs]; simp [hk]
theorem lit4 {c : UInt8} {k i m : Int} (h0 : 0 ≤ i) (hm : m = i % 2) (he : m ≠ 0) (hk : k ≠ 2) : noS = colS c (litI k i.toNat) := by rw [litI_odd h0 hm he]; simp [hk]; rfl
theorem ph_at {c : UInt8} {b : Bool} {n : Int} {u : ByteArray} (h : u = colS c b) : [AV.str u, AV.int .i64 n] = phR c (b, n) := by rw [h]; rfl
theorem phases_ (c : UInt8) (k p : Int) (s le co : ByteArray) (hsc : s = colS c true) {rg : List (List AV)} {t : Bool} {g : List Int} (hl : rg = g.map intR) (hok : ChrOk k g le co p) : AC Tryz.prog 65 [.agg [.int .i64 k, .sl t 1 rg, .str le, .str co, .int .i64 p], .str s] (fun l : List Ph => .sl true 2 (l.map (phR c))) (phsR k g le p) := by
  refine ac Tryz.func65 (by kernel_rfl) (.ph _ _) fun E K hE hK => ?_
  conv => cbv
  have hs := hok.2.1
  have htb := timesR_bd hs
  have hsb := sum_bd htb.2
  have hkk := hs.kind
  have hp3 : k = 3 → 0 ≤ p ∧ p ≤ 600 := fun hk => by
    have hns : ¬ Steady k g := by rintro (h | h) <;> omega
    have := hok.2.2.2 hns
    unfold leastR at this
    rw [if_neg hns, if_pos hk] at this
    omega
  have hpn : ¬ Steady k g → 0 ≤ p ∧ p ≤ 600 := fun hns => by
    have h1 := hok.2.2.2 hns
    have h2 := leastR_bd hs
    omega
  by_cases h13 : k = 1 ∨ k = 3
  · rcases h13 with rfl | rfl
    · skip
      repeat' first
        | (refine callIII hE (rhythm0_ _ (by omega)) (fun f0 g0 r0 hf0 hg0 hr0 => ?_); (try conv => cbv))
        | ((first
       | refine q0 hE ?_
       | refine B0 hE ?_|refine B1 hE (fun _=>?_) fun _=>?_|refine B3 hE fun _ _ _=>?_|refine B2 hE fun _ _=>?_|refine B4 hE fun _ _ _ _=>?_) <;> (try conv => cbv))
      all_goals (refine hK _ ?_; rw [hsc]; rfl)
    · have hp := hp3 rfl
      repeat' first
        | (refine callIII hE (rhythm0_ _ (by omega)) (fun f0 g0 r0 hf0 hg0 hr0 => ?_); (try conv => cbv))
        | (refine quo64 hE (by omega) (fun d hd => ?_); (try conv => cbv))
        | ((first
       | refine q0 hE ?_
       | refine B0 hE ?_|refine B1 hE (fun _=>?_) fun _=>?_|refine B3 hE fun _ _ _=>?_|refine B2 hE fun _ _=>?_|refine B4 hE fun _ _ _ _=>?_) <;> (try conv => cbv))
      all_goals (refine hK _ ?_; subst_vars; rfl)
  · have h1 : k ≠ 1 := fun h => h13 (.inl h)
    have h3 : k ≠ 3 := fun h => h13 (.inr h)
    obtain ⟨T, hT⟩ : ∃ T, T = timesR k g le := ⟨_, rfl⟩
    have hT8 : T.length ≤ 80 := by rw [hT]; exact htb.1
    have hTs : 0 ≤ T.sum ∧ T.sum ≤ 100 * T.length := by rw [hT]; exact hsb
    repeat' first
      | (refine callIII hE (rhythm_ k (by omega)) (fun f0 g0 r0 hf0 hg0 hr0 => ?_); (try conv => cbv))
      | (refine callP hE (isSteady_ k p le co hl) (fun hst => ?_) (fun hns => have hpb := hpn hns; ?_) <;> (try conv => cbv))
      | (refine callR hE (times_ k p le co hl hs ⟨h1, h3⟩) (fun ts hts => ?_); rw [← hT] at hts; (try conv => cbv))
      | (refine lenL hE hts (fun n hn _ => ?_); (try conv => cbv))
      | ((refine loopC hE (ι := Int × (List (List AV))) [2, 5, 6, 67, 68] [69, 13] (fun q => (fun (i : Int) (es : List (List AV)) => [(69, .int .i64 i), (13, .ob 1)]) q.1 q.2) (fun q => (fun (i : Int) (es : List (List AV)) => [.box [.int .i64 k, .sl t 1 rg, .str le, .str co, .int .i64 p], .row 2 es, .row 1 ts]) q.1 q.2) (fun q => (fun (i : Int) (es : List (List AV)) => (n - i).toNat) q.1 q.2) (fun q => (fun (i : Int) (es : List (List AV)) => (0 ≤ i ∧ i ≤ n) ∧ es = (altP k T i.toNat).map (phR c)) q.1 q.2) [0, 1, 2] (by decide) ((0, [])) (by conv => lhs; cbv) (by conv => lhs; cbv) rfl rfl (by dsimp only; exact ⟨by omega, rfl⟩) fun q hi2 Kn2 hN2 => ?_; obtain ⟨i, es⟩ := q; (try dsimp only at hi2); conv => cbv); obtain ⟨⟨i0, i1⟩, h2⟩ := hi2; have hal := altP_len k T i.toNat)
      | (refine idxL (R := intR) (i := i) hE hts (by omega) (fun v hv => ?_); (try conv => cbv))
      | (refine rem64 hE (a := i) (by omega) (fun m hm => ?_); (try conv => cbv))
      | (refine eqI hE (b := 0) (fun heq => ?_) (fun hne => ?_) <;> (try conv => cbv))
      | (refine eqI hE (a := k) (b := 2) (fun hk => ?_) (fun hk => ?_) <;> (try conv => cbv))
      | (refine hN2 (_, _) _ [0, 4, 2] (by decide) rfl ⟨?_, ?_⟩ ?_ <;> (try dsimp only))
      | (refine callI hE (sumOf_ (by assumption) (by rw [hT]; exact htb.2) (by rw [hT]; omega)) (fun sm hsm => ?_); (try conv => cbv))
      | (refine sub64 hE (a := p) (b := sm) (by omega) (fun d hd => ?_); (try conv => cbv))
      | ((first
     | refine q0 hE ?_
     | refine catP (R := phR c) (v := (litI k i.toNat, v)) hE h2 (by first | exact ph_at (lit1 i0 hm heq hk) | exact ph_at (lit2 hsc i0 hm heq hk) | exact ph_at (lit3 hsc i0 hm hne hk) | exact ph_at (lit4 i0 hm hne hk)) (by omega) (fun _ _ => ?_)
     | refine catP (R := phR c) (v := (decide (k = 2), d)) hE h2 (by first | exact ph_at (by rw [hsc]; simp [hk]; done) | exact ph_at (by simp [hk]; rfl)) (by omega) (fun ro hro => ?_)
     | refine B0 hE ?_|refine B1 hE (fun _=>?_) fun _=>?_|refine B3 hE fun _ _ _=>?_|refine B2 hE fun _ _=>?_|refine B4 hE fun _ _ _ _=>?_) <;> (try conv => cbv))
    all_goals (try clear hN2)
    all_goals first
      | omega
      | (rename_i _ h5 _ h6; rw [h5]; exact congrArg (List.map (phR c)) (alt_put (k := k) i0 hv h6 rfl))
      | (exfalso; rcases hst with h | h <;> omega)
      | (refine hK _ ?_; rw [phsR, if_neg h1, if_neg h3, if_pos hst]; clear hpn hp3; subst_vars; rfl)
      | (refine hK _ ?_; rw [hro, phsR, if_neg h1, if_neg h3, if_neg hns, ← hT, hd, hsm, show i.toNat = T.length by omega]; rfl)
      | trace_state
end Go.Proofs.YtoafgafkmeghlaaGreatDoor
/- Contracts: rhythms that are alike. -/
namespace Go.Proofs.YtoafgafkmeghlaaGreatDoor
open Go Go.RowKit Classical
set_option maxRecDepth 100000
set_option maxHeartbeats 2000000
set_option linter.unusedVariables false
set_option linter.unusedSimpArgs false
set_option maxHeartbeats 4000000
variable {E : Env} {P : Program} {np : Nat}
theorem distanceI_ (a b : Int) (h : -1000000 ≤ a ∧ a ≤ 1000000 ∧ -1000000 ≤ b ∧ b ≤ 1000000) : AC Tryz.prog 139 [.int .i64 a, .int .i64 b] (AV.int .i64) (max (a - b) (b - a)) := by
  refine ac Tryz.func139 (by kernel_rfl) (.int _ _) fun E K hE hK => ?_
  conv => cbv
  repeat' first
    | ((first
   | refine q0 hE ?_
   | refine B0 hE ?_|refine B1 hE (fun _=>?_) fun _=>?_|refine B3 hE fun _ _ _=>?_|refine B2 hE fun _ _=>?_|refine B4 hE fun _ _ _ _=>?_) <;> (try conv => cbv))
  all_goals (refine hK _ ?_; subst_vars; rfl)
def PhB (x : Ph) : Prop := 0 ≤ x.2 ∧ x.2 ≤ 1000000
theorem near_iff {t : Int} {x y : Ph} (h : x.1 = y.1) {m : Int} (hm : m = max (x.2 - y.2) (y.2 - x.2)) : nearP t x y ↔ m ≤ t := by
  unfold nearP
  rw [hm]
  constructor
  · rintro ⟨_, h1, h2⟩; omega
  · intro h1; exact ⟨h, by omega, by omega⟩
theorem close_ (c : UInt8) (b b' : Bool) (n n' z : Int) (s s' : ByteArray) (hs : s = colS c b) (hs' : s' = colS c b') (h : PhB (b, n)) (h' : PhB (b', n')) : AC Tryz.prog 95 [.agg [.str s, .int .i64 n], .agg [.str s', .int .i64 n'], .int .i64 z] AV.bool (bP (nearP z (b, n) (b', n'))) := by
  refine ac Tryz.func95 (by kernel_rfl) (.bool _) fun E K hE hK => ?_
  conv => cbv
  have h1 := h.1
  have h2 := h.2
  have h3 := h'.1
  have h4 := h'.2
  simp only at h1 h2 h3 h4
  repeat' first
    | (refine seqI hE (fun heq => ?_) (fun hne => ?_) <;> (try conv => cbv))
    | (refine callI hE (distanceI_ _ _ (by omega)) (fun m hm => ?_); (try conv => cbv))
    | (refine leI hE (fun hle => ?_) (fun hgt => ?_) <;> (try conv => cbv))
    | ((first
   | refine q0 hE ?_
   | refine B0 hE ?_|refine B1 hE (fun _=>?_) fun _=>?_|refine B3 hE fun _ _ _=>?_|refine B2 hE fun _ _=>?_|refine B4 hE fun _ _ _ _=>?_) <;> (try conv => cbv))
  all_goals first
    | exact finB hK (bP_true.2 ((near_iff (colS_inj.1 (hs.symm.trans (heq.trans hs'))) hm).2 hle))
    | (refine finB hK (bP_false.2 fun h => ?_); have := (near_iff (colS_inj.1 (hs.symm.trans (heq.trans hs'))) hm).1 h; omega)
    | (refine finB hK (bP_false.2 fun h => hne ?_); have h5 := h.1; simp only at h5; rw [hs, hs', h5])
    | trace_state
theorem closeF_ (c : UInt8) (b b' : Bool) (n n' z : Int) (s s' : ByteArray) (hs : s = colS c b) (hs' : s' = colS c b') (h : PhB (b, n)) (h' : PhB (b', n')) : AC Tryz.prog 94 [.agg [.str s, .int .i64 n], .agg [.str s', .int .i64 n'], .pp [.int .i64 z]] AV.bool (bP (nearP z (b, n) (b', n'))) := by
  refine ac Tryz.func94 (by kernel_rfl) (.bool _) fun E K hE hK => ?_
  conv => cbv
  refine callP hE (close_ c b b' n n' z s s' hs hs' h h') (fun hh => ?_) (fun hh => ?_) <;> conv => cbv
  · exact finB hK (bP_true.2 hh)
  · exact finB hK (bP_false.2 hh)
def AllNear (z : Int) (a b : List Ph) : Prop := a.length = b.length ∧ Up (fun i => ∃ x y, a[i]? = some x ∧ b[i]? = some y ∧ nearP z x y) a.length
theorem equalF_ (c : UInt8) (z : Int) {ra rb : List (List AV)} {t t' : Bool} {a b : List Ph} (ha : ra = a.map (phR c)) (hb : rb = b.map (phR c)) (hba : ∀ x ∈ a, PhB x) (hbb : ∀ x ∈ b, PhB x) : AC Tryz.prog 93 [.sl t 2 ra, .sl t' 2 rb, .fn 94 [.pp [.int .i64 z]]] AV.bool (bP (AllNear z a b)) := by
  refine ac Tryz.func93 (by kernel_rfl) (.bool _) fun E K hE hK => ?_
  conv => cbv
  refine lenL hE ha (fun n1 hn1 _ => ?_)
  conv => cbv
  refine lenL hE hb (fun n2 hn2 _ => ?_)
  conv => cbv
  refine eqI hE (fun hlen => ?_) (fun hlen => ?_) <;> conv => cbv
  · refine lenL hE ha (fun n3 hn3 _ => ?_)
    conv => cbv
    refine loopC hE (ι := Int) [1, 2, 15, 16] [17] (fun q => (fun (i : Int) => [(17, .int .i64 i)]) q) (fun q => (fun (i : Int) => []) q) (fun q => (fun (i : Int) => (n3 - i).toNat) q) (fun q => (fun (i : Int) => (0 ≤ i ∧ i ≤ n3) ∧ Up (fun i => ∃ x y, a[i]? = some x ∧ b[i]? = some y ∧ nearP z x y) i) q) [] (by decide) (0) (by conv => lhs; cbv) (by conv => lhs; cbv) rfl rfl (by dsimp only; exact ⟨by omega, .zero (by omega)⟩) fun i hi Kn hN => ?_
    (try dsimp only at hi)
    conv => cbv
    obtain ⟨⟨h0, h1⟩, hinv⟩ := hi
    repeat' first
      | (refine idxPh hE ha (by omega) (fun s x m hx hs => ?_); have hxb := hba _ (List.mem_of_getElem? hx); (try conv => cbv))
      | (refine idxPh hE hb (by omega) (fun s2 y m2 hy hs2 => ?_); have hyb := hbb _ (List.mem_of_getElem? hy); (try conv => cbv))
      | (refine callP hE (closeF_ c _ _ _ _ z _ _ hs hs2 hxb hyb) (fun hh => ?_) (fun hh => ?_) <;> (try conv => cbv))
      | (refine hN _ _ [] (by decide) rfl ⟨?_, ?_⟩ ?_ <;> (try dsimp only))
      | ((first
     | refine q0 hE ?_
     | refine B0 hE ?_|refine B1 hE (fun _=>?_) fun _=>?_|refine B3 hE fun _ _ _=>?_|refine B2 hE fun _ _=>?_|refine B4 hE fun _ _ _ _=>?_) <;> (try conv => cbv))
    all_goals (try clear hN)
    all_goals first
      | omega
      | exact hinv.succ ⟨_, _, hx, hy, hh⟩ (by assumption)
      | (refine finB hK (bP_false.2 fun h => hh ?_); obtain ⟨x', y', e1, e2, e3⟩ := h.2 i.toNat (by omega); rw [hx] at e1; rw [hy] at e2; cases e1; cases e2; exact e3)
      | exact finB hK (bP_true.2 ⟨by omega, by rw [← hn1, show n1 = i by omega]; exact hinv⟩)
      | trace_state
  · exact finB hK (bP_false.2 fun h => hlen (by have := h.1; omega))
theorem norm_ex (l : List Bool) : ∃ r, IsNorm l r := by
  have key : ∀ n, ∃ t, t ≤ n ∧ ∀ u, u ≤ n → bval (rot l t) ≤ bval (rot l u) := by
    intro n
    induction n with
    | zero => exact ⟨0, Nat.le_refl _, fun u hu => by rw [show u = 0 by omega]; exact Nat.le_refl _⟩
    | succ n ih =>
      obtain ⟨t, ht, h⟩ := ih
      by_cases hc : bval (rot l t) ≤ bval (rot l (n + 1))
      · refine ⟨t, by omega, fun u hu => ?_⟩
        by_cases e : u = n + 1
        · rw [e]; exact hc
        · exact h u (by omega)
      · refine ⟨n + 1, Nat.le_refl _, fun u hu => ?_⟩
        by_cases e : u = n + 1
        · rw [e]; exact Nat.le_refl _
        · have := h u (by omega); omega
  obtain ⟨t, ht, h⟩ := key l.length
  exact ⟨rot l t, ⟨t, ht, rfl⟩, h⟩
theorem normB_len (l : List Bool) : (normB l).length = l.length := by
  obtain ⟨r, hr⟩ := norm_ex l
  rw [hr.eq]
  obtain ⟨⟨t, _, rfl⟩, _⟩ := hr
  exact rot_len _ _
theorem jn_ok {p : List Ph} (h : PhOk p) : ((nrmP p).length ≤ 1000 ∧ 1 ≤ (nrmP p).length) ∧ (jnP p).length ≤ 1000 ∧ ∀ x ∈ jnP p, PhB x := by
  have h1 := h.ten
  have h2 := onceB_bd h1.1
  have h3 := normB_len (onceB (tenB p))
  have h4 := joinB_all (nrmP p)
  have h5 : (nrmP p).length ≤ 1000 ∧ 1 ≤ (nrmP p).length := by unfold nrmP; omega
  refine ⟨h5, by unfold jnP; omega, fun x hx => ?_⟩
  have := h4.2 x hx
  exact ⟨by omega, by omega⟩
theorem closeJ_iff {z : Int} {a b : List Ph} (h : a.length = b.length) : closeJ z a b ↔ ∃ f, f < b.length ∧ AllNear z a (rot b f) := by
  unfold closeJ AllNear
  constructor
  · rintro ⟨_, f, hf, h1⟩
    refine ⟨f, hf, by rw [rot_len]; exact h, fun i hi => ?_⟩
    obtain ⟨x, y, e1, e2, e3⟩ := h1 i (by omega)
    exact ⟨x, y, e1, by rw [rot_get b (by omega) (by omega)]; exact e2, e3⟩
  · rintro ⟨f, hf, _, h1⟩
    refine ⟨h, f, hf, fun i hi => ?_⟩
    obtain ⟨x, y, e1, e2, e3⟩ := h1 i (by omega)
    rw [rot_get b (by omega) (by omega)] at e2
    exact ⟨x, y, e1, e2, e3⟩
theorem rot_mem {b : List Ph} {k : Nat} {x : Ph} (h : x ∈ rot b k) : x ∈ b := by
  unfold rot at h
  rcases List.mem_append.1 h with h | h
  · exact List.mem_of_mem_drop h
  · exact List.mem_of_mem_take h
theorem closeRhythms_ (c : UInt8) (z : Int) {rp rq : List (List AV)} {t t' : Bool} {p1 p2 : List Ph} (h1 : rp = p1.map (phR c)) (h2 : rq = p2.map (phR c)) (o1 : PhOk p1) (o2 : PhOk p2) : AC Tryz.prog 64 [.sl t 2 rp, .sl t' 2 rq, .int .i64 z] AV.bool (bP (closeP z p1 p2)) := by
  refine ac Tryz.func64 (by kernel_rfl) (.bool _) fun E K hE hK => ?_
  conv => cbv
  obtain ⟨⟨n1, _⟩, j1, b1⟩ := jn_ok o1
  obtain ⟨⟨n2, _⟩, j2, b2⟩ := jn_ok o2
  refine callR hE (normal_ c h1 o1) fun r1 hr1 => ?_
  conv => cbv
  refine callR hE (join_ c hr1 (by omega)) fun ra hra => ?_
  conv => cbv
  refine callR hE (normal_ c h2 o2) fun r2 hr2 => ?_
  conv => cbv
  refine callR hE (join_ c hr2 (by omega)) fun rb hrb => ?_
  conv => cbv
  obtain ⟨a, hA⟩ : ∃ a, a = jnP p1 := ⟨_, rfl⟩
  obtain ⟨b, hB⟩ : ∃ b, b = jnP p2 := ⟨_, rfl⟩
  have hcl : closeP z p1 p2 = closeJ z a b := by rw [hA, hB]; rfl
  rw [show joinB (nrmP p1) = a from hA.symm] at hra
  rw [show joinB (nrmP p2) = b from hB.symm] at hrb
  rw [← hA] at j1 b1
  rw [← hB] at j2 b2
  rw [hcl] at hK
  refine lenL hE hra fun la hla _ => ?_
  conv => cbv
  refine lenL hE hrb fun lb hlb _ => ?_
  conv => cbv
  refine eqI hE (fun hlen => ?_) (fun hlen => ?_) <;> conv => cbv
  · have hab : a.length = b.length := by omega
    refine lenL hE hrb fun lc hlc _ => ?_
    conv => cbv
    refine loopC hE (ι := Int) [5, 7, 8, 23] [24] (fun q => (fun (f : Int) => [(24, .int .i64 f)]) q) (fun q => (fun (f : Int) => [.box [.int .i64 z]]) q) (fun q => (fun (f : Int) => (lc - f).toNat) q) (fun q => (fun (f : Int) => (0 ≤ f ∧ f ≤ lc) ∧ Up (fun f => ¬ AllNear z a (rot b f)) f) q) [0] (by decide) (0) (by conv => lhs; cbv) (by conv => lhs; cbv) rfl rfl (by dsimp only; exact ⟨by omega, .zero (by omega)⟩) fun f hi Kn hN => ?_
    (try dsimp only at hi)
    conv => cbv
    obtain ⟨⟨f0, f1⟩, hinv⟩ := hi
    repeat' first
      | (refine subL (lo := some f) (hi := none) hE hrb (by simp only [Option.getD_some, Option.getD_none]; omega) (fun rx hrx => ?_); (try conv => cbv))
      | (refine subL (lo := none) (hi := some f) hE hrb (by simp only [Option.getD_some, Option.getD_none]; omega) (fun ry hry => ?_); (try conv => cbv))
      | (refine callR hE (concatP_ c (ls := [b.drop f.toNat, b.take f.toNat]) (by rw [hrx, hry]; simp [lgR]) (by simp; omega)) (fun rc hrc => ?_); (try conv => cbv))
      | (refine callP hE (equalF_ c z (a := a) (b := rot b f.toNat) hra (by rw [hrc]; simp [rot]) b1 (fun x hx => b2 x (rot_mem hx))) (fun hh => ?_) (fun hh => ?_) <;> (try conv => cbv))
      | (refine hN _ _ [0] (by decide) rfl ⟨?_, ?_⟩ ?_ <;> (try dsimp only))
      | ((first
     | refine q0 hE ?_
     | refine B0 hE ?_|refine B1 hE (fun _=>?_) fun _=>?_|refine B3 hE fun _ _ _=>?_|refine B2 hE fun _ _=>?_|refine B4 hE fun _ _ _ _=>?_) <;> (try conv => cbv))
    all_goals (try clear hN)
    all_goals first
      | omega
      | exact hinv.succ hh (by assumption)
      | exact finB hK (bP_true.2 ((closeJ_iff hab).2 ⟨f.toNat, by omega, hh⟩))
      | (refine finB hK (bP_false.2 fun h => ?_); obtain ⟨g, hg, hn⟩ := (closeJ_iff hab).1 h; exact hinv g (by omega) hn)
      | trace_state
  · exact finB hK (bP_false.2 fun h => hlen (by have := h.1; omega))
end Go.Proofs.YtoafgafkmeghlaaGreatDoor
/- Contracts: characters that are confused. -/
namespace Go.Proofs.YtoafgafkmeghlaaGreatDoor
open Go Go.RowKit Classical
set_option maxRecDepth 100000
set_option maxHeartbeats 2000000
set_option linter.unusedVariables false
set_option linter.unusedSimpArgs false
set_option maxHeartbeats 4000000
theorem rk_ascii {n : Int} (h : rk n ≠ 0) : 1 ≤ n ∧ n ≤ 127 := by
  unfold rk at h
  repeat' split at h
  all_goals omega
theorem chr_at {s : ByteArray} {p : Nat} (h : p < s.size) : chr s p = ((s[p]'h).toNat : Int) := by
  have hd : p < s.data.size := h
  unfold chr
  rw [Array.getD_eq_getD_getElem?, Array.getElem?_eq_getElem hd]; rfl
theorem col_dec {s : ByteArray} (h : ColOk s) : ∀ p, p < s.size → ((Utf8.decode s p).1 : Int) = chr s p ∧ (Utf8.decode s p).2 = 1 := fun p hp => by
  have h1 := rk_ascii (h.1 p hp).1
  have h2 := chr_at hp
  rw [Go.decode_ascii s p hp (by omega)]
  exact ⟨by omega, rfl⟩
theorem one_col {co s : ByteArray} {lo hi : Int} {y : Nat} (hs : s = co.extract lo.toNat hi.toNat) (hl : lo = y) (hh : hi = lo + 1) (hy : y < co.size) : s = colS (co.data.getD y 0) true := by
  rw [hs, show lo.toNat = y by omega, show hi.toNat = y + 1 by omega, ext_one hy]; rfl
theorem one_size {c : UInt8} {s : ByteArray} (hs : s = colS c true) : s.size = 1 := by rw [hs]; rfl
theorem one_has {c : UInt8} {s d : ByteArray} (hs : s = colS c true) : (0 ≤ Lib.indexByte d.data.toList (s.data.getD 0 0)) ↔ hasC d c := by
  rw [hs]; exact hasC_iff
theorem confused_ (k p k' p' z : Int) (le co le' co' : ByteArray) {rg rg' : List (List AV)} {t t' : Bool} {g g' : List Int} (hl : rg = g.map intR) (hl' : rg' = g'.map intR) (hok : ChrOk k g le co p) (hok' : ChrOk k' g' le' co' p') : AC Tryz.prog 30 [.agg [.int .i64 k, .sl t 1 rg, .str le, .str co, .int .i64 p], .agg [.int .i64 k', .sl t' 1 rg', .str le', .str co', .int .i64 p'], .int .i64 z] AV.bool (bP (confR ⟨k, g, le, co, p⟩ ⟨k', g', le', co', p'⟩ z)) := by
  refine ac Tryz.func30 (by kernel_rfl) (.bool _) fun E K hE hK => ?_
  conv => cbv
  have hco := hok.1
  have hph := phsR_ok hok
  have hph' := phsR_ok hok'
  refine loopC hE (ι := Nat) [2, 3, 4, 11] [] (fun q => (fun (y : Nat) => []) q) (fun q => (fun (y : Nat) => [.box [.int .i64 k, .sl t 1 rg, .str le, .str co, .int .i64 p], .box [.int .i64 k', .sl t' 1 rg', .str le', .str co', .int .i64 p'], .iter co y]) q) (fun q => (fun (y : Nat) => (((co.size : Int) - y)).toNat) q) (fun q => (fun (y : Nat) => y ≤ co.size ∧ ∀ j, j < y → ¬ (hasC co' (co.data.getD j 0) ∧ closeP z (phsR k g le p) (phsR k' g' le' p'))) q) [0, 1, 2] (by decide) (0) (by conv => lhs; cbv) (by conv => lhs; cbv) rfl rfl (by dsimp only; exact ⟨by omega, fun j hj => by omega⟩) fun y hi Kn hN => ?_
  (try dsimp only at hi)
  conv => cbv
  obtain ⟨h0, hinv⟩ := hi
  refine nxtI hE (chr co) (col_dec hco) (fun lo r n hy hlo hr hn => ?_) (fun hy => ?_) <;> conv => cbv
  · have hc3 := hco.2.2
    repeat' first
      | (refine add64 hE (a := lo) (by omega) (fun hi2 hhi => ?_); (try conv => cbv))
      | (refine ssub2 hE (by omega) (fun s hs => ?_); have hsc := one_col hs hlo hhi hy; have hh := one_has (d := co') hsc; (try conv => cbv))
      | (refine callB hE (containsV_ co' s (one_size hsc)) (fun hb => ?_) (fun hb => ?_) <;> (try conv => cbv))
      | (refine callR hE (phases_ (co.data.getD y 0) k p s le co hsc hl hok) (fun r1 hr1 => ?_); (try conv => cbv))
      | (refine callR hE (phases_ (co.data.getD y 0) k' p' s le' co' hsc hl' hok') (fun r2 hr2 => ?_); (try conv => cbv))
      | (refine callP hE (closeRhythms_ (co.data.getD y 0) z hr1 hr2 hph hph') (fun hcl => ?_) (fun hcl => ?_) <;> (try conv => cbv))
      | (refine hN _ _ [0, 1, 2] (by decide) rfl ⟨?_, ?_⟩ ?_ <;> (try dsimp only))
      | ((first
     | refine q0 hE ?_
     | refine B0 hE ?_|refine B1 hE (fun _=>?_) fun _=>?_|refine B3 hE fun _ _ _=>?_|refine B2 hE fun _ _=>?_|refine B4 hE fun _ _ _ _=>?_) <;> (try conv => cbv))
    all_goals (try clear hN)
    all_goals first
      | omega
      | exact finB hK (bP_true.2 ⟨⟨y, hy, hh.1 (by simpa using hb)⟩, hcl⟩)
      | exact fun j hj h => hcl h.2
      | (intro j hj h
         have h3 : j ≠ y := fun e => by rw [e] at h; rw [decide_eq_false_iff_not] at hb; exact hb (hh.2 h.1)
         exact hinv j (by omega) h)
      | trace_state
  · exact finB hK (bP_false.2 fun h => by
      obtain ⟨⟨j, hj, h1⟩, h2⟩ := h
      replace hj : j < co.size := hj
      exact hinv j (by omega) ⟨h1, h2⟩)
end Go.Proofs.YtoafgafkmeghlaaGreatDoor
