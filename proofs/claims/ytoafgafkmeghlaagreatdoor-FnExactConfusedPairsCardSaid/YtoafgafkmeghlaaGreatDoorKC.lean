/- Contracts: the reference's tenths, period and least rotation. -/
import Derived.Test.YtoafgafkmeghlaaGreatDoorKA
import Derived.Test.YtoafgafkmeghlaaGreatDoorKB
namespace Go.Proofs.YtoafgafkmeghlaaGreatDoor
open Go Go.RowKit Classical
set_option maxRecDepth 100000
set_option maxHeartbeats 2000000
set_option linter.unusedVariables false
set_option linter.unusedSimpArgs false
set_option maxHeartbeats 4000000
variable {E : Env} {P : Program} {np : Nat}
theorem NoB.by (c : UInt8) (l : List Bool) : NoB (.sl true 1 (l.map (byR c))) := .rows fun _ => .aggC (.int _ _) .agg0
theorem idxBy (hE : E = stdE np P) {es : List (List AV)} {i : Int} {K : List AV → Prop} {l : List Bool} {c : UInt8} (hl : es = l.map (byR c)) (h0 : 0 ≤ i ∧ i < l.length) (hk : ∀ s b, l[i.toNat]? = some b → s = byI c b → K [.int .u8 s]) : E.idx es i K :=
  idxL hE hl h0 fun v hv => hk _ v hv rfl
theorem byte_of {c : UInt8} {b : Bool} {s : ByteArray} {v : Int} (hs : s = colS c b) (hne : s ≠ noS) (hv : v = (s.data.getD 0 0).toNat) : v = byI c b := by
  cases b with
  | true => rw [hv, hs]; rfl
  | false => exact absurd hs hne
theorem byte_dark {c : UInt8} {b : Bool} {s : ByteArray} (hs : s = colS c b) (he : s = noS) : byI c b = 0 := by
  rw [colS_dark.1 (hs.symm.trans he)]; rfl
theorem col_pos {c : UInt8} {b : Bool} {s : ByteArray} (hs : s = colS c b) (hne : s ≠ noS) : 0 < s.size := by
  cases b with
  | true => rw [hs]; exact Nat.zero_lt_one
  | false => exact absurd hs hne
theorem ten_inB {c : UInt8} {X : List Bool} {k kp : Int} {b : Bool} (h0 : 0 ≤ k) (hkp : kp = k + 1) : (X ++ List.replicate k.toNat b ++ [b]).map (byR c) = (X ++ List.replicate kp.toNat b).map (byR c) := by
  rw [show kp.toNat = k.toNat + 1 by omega, List.replicate_succ', ← List.append_assoc]
theorem ten_outB {c : UInt8} {p : List Ph} {i ip k n : Int} {b : Bool} (hp : p[i.toNat]? = some (b, n)) (h0 : 0 ≤ i) (hip : ip = i + 1) (hk : k.toNat = n.toNat) : (tenB (p.take i.toNat) ++ List.replicate k.toNat b).map (byR c) = (tenB (p.take ip.toNat)).map (byR c) := by
  rw [show ip.toNat = i.toNat + 1 by omega, tenB_take hp, hk]
theorem l06Tenths_ (c : UInt8) {rs : List (List AV)} {t : Bool} {p : List Ph} (hl : rs = p.map (phR c)) (hok : PhOk p) : AC Tryz.prog 207 [.sl t 2 rs] (fun l : List Bool => .sl true 1 (l.map (byR c))) (tenB p) := by
  refine ac Tryz.func207 (by kernel_rfl) (.by _ _) fun E K hE hK => ?_
  conv => cbv
  refine loopC hE (ι := Int × (List (List AV))) [0] [4, 3] (fun q => (fun (i : Int) (es : List (List AV)) => [(4, .int .i64 i), (3, .ob 0)]) q.1 q.2) (fun q => (fun (i : Int) (es : List (List AV)) => [.row 1 es]) q.1 q.2) (fun q => (fun (i : Int) (es : List (List AV)) => (p.length - i).toNat) q.1 q.2) (fun q => (fun (i : Int) (es : List (List AV)) => (0 ≤ i ∧ i ≤ p.length) ∧ es = (tenB (p.take i.toNat)).map (byR c)) q.1 q.2) [0] (by decide) ((0, [])) (by conv => lhs; cbv) (by conv => lhs; cbv) rfl rfl (by dsimp only; exact ⟨by omega, rfl⟩) fun q hi Kn hN => ?_
  obtain ⟨i, es⟩ := q
  (try dsimp only at hi)
  conv => cbv
  obtain ⟨⟨h0, h1⟩, h2⟩ := hi
  refine lenL hE hl fun n hn hb => ?_
  conv => cbv
  refine ltI hE (fun hlt => ?_) (fun hge => ?_) <;> conv => cbv
  · refine idxPh hE hl (by omega) fun s b m hp hs => ?_
    have hm := hok.2.1 _ (List.mem_of_getElem? hp)
    simp only at hm
    conv => cbv
    repeat' first
      | (refine idxPhV (b := b) (n := m) hE hl (by omega) hp hs ?_; (try conv => cbv))
      | (refine seqI hE (fun heq => ?_) (fun hne => ?_) <;> (try conv => cbv))
      | (refine sidxI hE ⟨by omega, by have := col_pos hs hne; omega⟩ (fun v hv _ _ => ?_); have hv2 := byte_of hs hne hv; (try conv => cbv))
      | ((refine loopC hE (ι := Int × (List (List AV))) [0, 4, 5] [6, 3] (fun q => (fun (k : Int) (es2 : List (List AV)) => [(6, .int .i64 k), (3, .ob 0)]) q.1 q.2) (fun q => (fun (k : Int) (es2 : List (List AV)) => [.row 1 es2]) q.1 q.2) (fun q => (fun (k : Int) (es2 : List (List AV)) => (m - k).toNat) q.1 q.2) (fun q => (fun (k : Int) (es2 : List (List AV)) => (0 ≤ k ∧ k ≤ m) ∧ es2 = (tenB (p.take i.toNat) ++ List.replicate k.toNat b).map (byR c)) q.1 q.2) [0] (by decide) ((0, es)) (by conv => lhs; cbv) (by conv => lhs; cbv) rfl rfl (by dsimp only; exact ⟨by omega, by rw [h2]; simp⟩) fun q hi2 Kn2 hN2 => ?_; obtain ⟨k, es2⟩ := q; (try dsimp only at hi2); conv => cbv); obtain ⟨⟨k0, k1⟩, h3⟩ := hi2; have hlim := ten_lim hok hp ⟨k1, k0⟩)
      | (refine hN2 (_, _) _ [2] (by decide) rfl ⟨?_, ?_⟩ ?_ <;> (try dsimp only))
      | (refine hN (_, _) _ [0] (by decide) rfl ⟨?_, ?_⟩ ?_ <;> (try dsimp only))
      | ((first
     | refine q0 hE ?_
     | refine catP (R := byR c) (v := b) hE h3 (by first | (rw [hv2]; rfl) | (show [AV.int .u8 0] = [AV.int .u8 (byI c b)]; rw [byte_dark hs heq])) (by omega) (fun _ _ => ?_)
     | refine B0 hE ?_|refine B1 hE (fun _=>?_) fun _=>?_|refine B3 hE fun _ _ _=>?_|refine B2 hE fun _ _=>?_|refine B4 hE fun _ _ _ _=>?_) <;> (try conv => cbv))
    all_goals (try clear hN)
    all_goals (try clear hN2)
    all_goals first
      | omega
      | (rename_i _ h5 _ h6; rw [h5]; exact ten_inB k0 (by assumption))
      | (rw [h3]; exact ten_outB hp h0 (by assumption) (by omega))
      | trace_state
  · refine hK _ ?_
    rw [h2, List.take_of_length_le (by omega)]; rfl
def LinI (l : List Bool) (n i : Int) : Prop := Up (fun j => j + n.toNat < l.length → l[j]? = l[j + n.toNat]?) i
theorem mod_nat {k m n : Int} {L : Nat} (hk : k = m % n) (hm : m = L) (h : 1 ≤ n) : k = 0 ↔ L % n.toNat = 0 := by
  obtain ⟨N, rfl⟩ : ∃ N : Nat, n = N := ⟨n.toNat, by omega⟩
  rw [hk, hm, Int.toNat_natCast, ← Int.natCast_emod]
  omega
theorem LinI.lin {l : List Bool} {n i : Int} (h : LinI l n i) (hi : (l.length : Int) ≤ i + n) (h1 : 1 ≤ n) : Lin l n.toNat := fun j hj => h j (by omega) hj
theorem per_found {l : List Bool} {n i : Int} (h1 : 1 ≤ n ∧ n ≤ l.length) (hd : l.length % n.toNat = 0) (h : LinI l n i) (hi : (l.length : Int) ≤ i + n) (hm : ∀ m, 1 ≤ m → m < n.toNat → l.length % m = 0 → ¬ Lin l m) : (perB l : Int) = n := by
  have := isPer_of (l := l) (n := n.toNat) (by omega) (by omega) hd (h.lin hi h1.1) hm
  rw [this.eq]; omega
theorem per_full {l : List Bool} {n : Int} (hb : 1 ≤ l.length) (hn : (l.length : Int) ≤ n) (hm : ∀ m, 1 ≤ m → m < n.toNat → l.length % m = 0 → ¬ Lin l m) : perB l = l.length :=
  (isPer_of (l := l) (n := l.length) hb (Nat.le_refl _) (Nat.mod_self _) (fun t ht => by omega) fun m h1 h2 => hm m h1 (by omega)).eq
theorem l06Period_ (c : UInt8) (hc : c ≠ 0) {rs : List (List AV)} {t : Bool} {l : List Bool} (hl : rs = l.map (byR c)) (hb : 1 ≤ l.length) (hb2 : l.length ≤ 100000) : AC Tryz.prog 208 [.sl t 1 rs] (AV.int .i64) (perB l : Nat) := by
  refine ac Tryz.func208 (by kernel_rfl) (.int _ _) fun E K hE hK => ?_
  conv => cbv
  refine loopC hE (ι := Int) [0] [3] (fun q => (fun (n : Int) => [(3, .int .i64 n)]) q) (fun q => (fun (n : Int) => []) q) (fun q => (fun (n : Int) => (l.length - n).toNat) q) (fun q => (fun (n : Int) => (1 ≤ n ∧ n ≤ l.length) ∧ ∀ m, 1 ≤ m → m < n.toNat → l.length % m = 0 → ¬ Lin l m) q) [] (by decide) (1) (by conv => lhs; cbv) (by conv => lhs; cbv) rfl rfl (by dsimp only; exact ⟨by omega, fun m h1 h2 => by omega⟩) fun n hi Kn hN => ?_
  (try dsimp only at hi)
  conv => cbv
  obtain ⟨⟨h0, h1⟩, hinv⟩ := hi
  repeat' first
    | (refine lenL hE hl (fun m2 hm2 _ => ?_); (try conv => cbv))
    | (refine rem64 hE (a := m2) (by omega) (fun k hk => ?_); have hk2 := modB hk (by omega); have hkn := mod_nat hk hm2 h0; (try conv => cbv))
    | ((refine loopC hE (ι := Int × Bool) [0, 3] [5, 4] (fun q => (fun (i : Int) (sm : Bool) => [(5, .int .i64 i), (4, .bool sm)]) q.1 q.2) (fun q => (fun (i : Int) (sm : Bool) => []) q.1 q.2) (fun q => (fun (i : Int) (sm : Bool) => (l.length - i).toNat) q.1 q.2) (fun q => (fun (i : Int) (sm : Bool) => (0 ≤ i ∧ i ≤ l.length) ∧ (sm = true → LinI l n i) ∧ (sm = false → ¬ Lin l n.toNat)) q.1 q.2) [] (by decide) ((0, true)) (by conv => lhs; cbv) (by conv => lhs; cbv) rfl rfl (by dsimp only; exact ⟨by omega, fun _ => .zero (by omega), fun h => Bool.noConfusion h⟩) fun q hi2 Kn2 hN2 => ?_; obtain ⟨i, sm⟩ := q; (try dsimp only at hi2); conv => cbv); obtain ⟨⟨i0, i1⟩, hst, hsf⟩ := hi2; cases sm <;> (try conv => cbv))
    | (refine add64 hE (a := i) (b := n) (by omega) (fun a1 ha1 => ?_); (try conv => cbv))
    | (refine idxBy (i := i) hE hl (by omega) (fun v x hx hv => ?_); (try conv => cbv))
    | (refine idxBy (i := a1) hE hl (by omega) (fun v2 x2 hx2 hv2 => ?_); (try conv => cbv))
    | (refine eqI hE (a := v) (b := v2) (fun heq => ?_) (fun hne => ?_) <;> (try conv => cbv))
    | (refine hN2 (_, true) _ [] (by decide) rfl ⟨?_, fun _ => ?_, fun h => Bool.noConfusion h⟩ ?_ <;> (try dsimp only))
    | (refine hN2 (_, false) _ [] (by decide) rfl ⟨?_, fun h => Bool.noConfusion h, fun _ => ?_⟩ ?_ <;> (try dsimp only))
    | (refine hN _ _ [] (by decide) rfl ⟨?_, ?_⟩ ?_ <;> (try dsimp only))
    | ((first
   | refine q0 hE ?_
   | refine B0 hE ?_|refine B1 hE (fun _=>?_) fun _=>?_|refine B3 hE fun _ _ _=>?_|refine B2 hE fun _ _=>?_|refine B4 hE fun _ _ _ _=>?_) <;> (try conv => cbv))
  all_goals (try clear hN)
  all_goals (try clear hN2)
  all_goals first
    | omega
    | (refine (hst rfl).succ (fun _ => ?_) (by assumption); rw [hx, ← (byI_inj hc).1 (hv.symm.trans (heq.trans hv2))] ; rw [show i.toNat + n.toNat = a1.toNat by omega, hx2, (byI_inj hc).1 (hv.symm.trans (heq.trans hv2))])
    | (refine (hst rfl).succ (fun _ => ?_) (by assumption); rw [hx, (byI_inj hc).1 (hv.symm.trans (heq.trans hv2)), show i.toNat + n.toNat = a1.toNat by omega, hx2])
    | (intro h; apply hne; have h3 := h i.toNat (by omega); rw [hx, show i.toNat + n.toNat = a1.toNat by omega, hx2] at h3; rw [hv, hv2, Option.some.inj h3])
    | (refine hK _ ?_; rw [per_found ⟨h0, h1⟩ (hkn.1 (by assumption)) (hst rfl) (by omega) hinv]; rfl)
    | (refine hK _ ?_; rw [per_full hb (by omega) hinv]; subst_vars; rfl)
    | (intro m g1 g2 g3; by_cases e : m = n.toNat <;> first | exact hinv m g1 (by omega) g3 | (rw [e]; exact hsf rfl) | (rw [e] at g3; exact absurd (hkn.2 g3) (by assumption)))
    | trace_state
def leastB (l : List Bool) : Nat → Nat
  | 0 => 0
  | i + 1 => if bval (rot l i) < bval (rot l (leastB l i)) then i else leastB l i
theorem leastB_bd (l : List Bool) : ∀ i, leastB l i ≤ i - 1 ∧ ∀ u, u < i → bval (rot l (leastB l i)) ≤ bval (rot l u)
  | 0 => ⟨Nat.le_refl _, fun u hu => by omega⟩
  | i + 1 => by
    obtain ⟨h1, h2⟩ := leastB_bd l i
    unfold leastB
    split
    · rename_i h
      refine ⟨by omega, fun u hu => ?_⟩
      by_cases e : u = i
      · rw [e]; exact Nat.le_refl _
      · have := h2 u (by omega); omega
    · rename_i h
      refine ⟨by omega, fun u hu => ?_⟩
      by_cases e : u = i
      · rw [e]; omega
      · exact h2 u (by omega)
theorem leastB_norm {l : List Bool} (h : 1 ≤ l.length) : normB l = rot l (leastB l l.length) := by
  obtain ⟨h1, h2⟩ := leastB_bd l l.length
  refine IsNorm.eq ⟨⟨_, by omega, rfl⟩, fun u hu => ?_⟩
  by_cases e : u = l.length
  · rw [e, rot_full, ← rot_zero l]
    have := h2 0 (by omega)
    rwa [rot_zero] at this ⊢
  · exact h2 u (by omega)
theorem least_step {l : List Bool} {i n bs k : Int} {x y : Bool} (h0 : 1 ≤ i ∧ i < l.length) (hb : bs = leastB l i.toNat) (hp : PreB (rot l i.toNat) (rot l bs.toNat) k) (hk : 0 ≤ k) (hx : (rot l i.toNat)[k.toNat]? = some x) (hy : (rot l bs.toNat)[k.toNat]? = some y) (hne : x ≠ y) (hn : n = i + 1) : leastB l n.toNat = if bI x < bI y then i.toNat else leastB l i.toNat := by
  rw [show n.toNat = i.toNat + 1 by omega, leastB]
  have e : bs.toNat = leastB l i.toNat := by omega
  rw [← e]
  have hl : (rot l i.toNat).length = (rot l bs.toNat).length := by rw [rot_len, rot_len]
  have hcz : cmpI (bI x) (bI y) ≠ 0 := fun h => hne (bI_inj (cmpI_zero h))
  have h1 := lexC_bval hl
  rw [lexC_at (hp.pre.nat hk) (map_at hx) (map_at hy) hcz] at h1
  have h2 : cmpI (bI x) (bI y) < 0 ↔ bI x < bI y := by
    unfold cmpI
    split
    · simp_all
    · split <;> simp_all
  by_cases h : bI x < bI y
  · rw [if_pos h, if_pos (h1.1 (h2.2 h))]
  · rw [if_neg h, if_neg fun h3 => h (h2.1 (h1.2 h3))]
theorem least_same {l : List Bool} {i n bs k : Int} (h0 : 1 ≤ i ∧ i < l.length) (hb : bs = leastB l i.toNat) (hp : PreB (rot l i.toNat) (rot l bs.toNat) k) (hk : (l.length : Int) ≤ k) (hn : n = i + 1) : leastB l n.toNat = leastB l i.toNat := by
  rw [show n.toNat = i.toNat + 1 by omega, leastB]
  have e : bs.toNat = leastB l i.toNat := by omega
  have hs : rot l i.toNat = rot l bs.toNat := by
    refine List.ext_getElem? fun j => ?_
    by_cases hj : j < l.length
    · obtain ⟨x, h1, h2⟩ := hp j (by omega)
      rw [h1, h2]
    · rw [List.getElem?_eq_none (by rw [rot_len]; omega), List.getElem?_eq_none (by rw [rot_len]; omega)]
  rw [← e, hs, if_neg (Nat.lt_irrefl _), e]
theorem rot_at {l : List Bool} {i k a n : Int} {x : Bool} (hi : 0 ≤ i ∧ i ≤ l.length) (hk : 0 ≤ k ∧ k < l.length) (ha : a = (i + k) % n) (hn : n = l.length) (hx : l[a.toNat]? = some x) : (rot l i.toNat)[k.toNat]? = some x := by
  rw [rot_get l (by omega) (by omega)]
  have e : ((i.toNat + k.toNat) % l.length : Nat) = a.toNat := by
    rw [ha, hn]
    have e1 : i + k = ((i.toNat + k.toNat : Nat) : Int) := by omega
    rw [e1, ← Int.natCast_emod, Int.toNat_natCast]
  rw [e]; exact hx
theorem l06Least_ (c : UInt8) (hc : c ≠ 0) {rs : List (List AV)} {t : Bool} {l : List Bool} (hl : rs = l.map (byR c)) (hb : 1 ≤ l.length) (hb2 : l.length ≤ 100000) : AC Tryz.prog 156 [.sl t 1 rs] (AV.int .i64) (leastB l l.length : Nat) := by
  refine ac Tryz.func156 (by kernel_rfl) (.int _ _) fun E K hE hK => ?_
  conv => cbv
  refine loopC hE (ι := Int × Int) [0] [4, 3] (fun q => (fun (i : Int) (bs : Int) => [(4, .int .i64 i), (3, .int .i64 bs)]) q.1 q.2) (fun q => (fun (i : Int) (bs : Int) => []) q.1 q.2) (fun q => (fun (i : Int) (bs : Int) => (l.length - i).toNat) q.1 q.2) (fun q => (fun (i : Int) (bs : Int) => (1 ≤ i ∧ i ≤ l.length) ∧ bs = leastB l i.toNat) q.1 q.2) [] (by decide) ((1, 0)) (by conv => lhs; cbv) (by conv => lhs; cbv) rfl rfl (by dsimp only; exact ⟨by omega, by simp [leastB]⟩) fun q hi Kn hN => ?_
  obtain ⟨i, bs⟩ := q
  (try dsimp only at hi)
  conv => cbv
  obtain ⟨⟨h0, h1⟩, hbs⟩ := hi
  have hbb := (leastB_bd l i.toNat).1
  repeat' first
    | (refine lenL hE hl (fun m2 hm2 _ => ?_); (try conv => cbv))
    | ((refine loopC hE (ι := Int) [0, 4] [5, 3] (fun q => (fun (k : Int) => [(5, .int .i64 k), (3, .int .i64 bs)]) q) (fun q => (fun (k : Int) => []) q) (fun q => (fun (k : Int) => (l.length - k).toNat) q) (fun q => (fun (k : Int) => (0 ≤ k ∧ k ≤ l.length) ∧ PreB (rot l i.toNat) (rot l bs.toNat) k) q) [] (by decide) (0) (by conv => lhs; cbv) (by conv => lhs; cbv) rfl rfl (by dsimp only; exact ⟨by omega, fun j hj => by omega⟩) fun k hi2 Kn2 hN2 => ?_; (try dsimp only at hi2); conv => cbv); obtain ⟨⟨k0, k1⟩, hpre⟩ := hi2)
    | (refine add64 hE (a := i) (b := k) (by omega) (fun a1 ha1 => ?_); (try conv => cbv))
    | (refine add64 hE (a := bs) (b := k) (by omega) (fun a2 ha2 => ?_); (try conv => cbv))
    | (refine rem64 hE (a := a1) (by omega) (fun r1 hr1 => ?_); have hr1b := modB hr1 (by omega); (try conv => cbv))
    | (refine rem64 hE (a := a2) (by omega) (fun r2 hr2 => ?_); have hr2b := modB hr2 (by omega); (try conv => cbv))
    | (refine idxBy (i := r1) hE hl (by omega) (fun v x hx hv => ?_); have hxr := rot_at (i := i) (k := k) (by omega) (by omega) (by rw [hr1, ha1]) (by assumption) hx; (try conv => cbv))
    | (refine idxBy (i := r2) hE hl (by omega) (fun v2 x2 hx2 hv2 => ?_); have hxr2 := rot_at (i := bs) (k := k) (by omega) (by omega) (by rw [hr2, ha2]) (by assumption) hx2; (try conv => cbv))
    | (refine eqI hE (a := v) (b := v2) (fun heq => ?_) (fun hne => ?_) <;> (try conv => cbv))
    | (refine ltI hE (a := v) (b := v2) (fun hlt => ?_) (fun hge => ?_) <;> (try conv => cbv))
    | (refine hN2 _ _ [] (by decide) rfl ⟨?_, ?_⟩ ?_ <;> (try dsimp only))
    | (refine hN (_, _) _ [] (by decide) rfl ⟨?_, ?_⟩ ?_ <;> (try dsimp only))
    | ((first
   | refine q0 hE ?_
   | refine B0 hE ?_|refine B1 hE (fun _=>?_) fun _=>?_|refine B3 hE fun _ _ _=>?_|refine B2 hE fun _ _=>?_|refine B4 hE fun _ _ _ _=>?_) <;> (try conv => cbv))
  all_goals (try clear hN)
  all_goals (try clear hN2)
  all_goals first
    | omega
    | (intro j hj; by_cases hjk : (j : Int) < k <;> first | exact hpre j hjk | (rw [show j = k.toNat by omega]; exact ⟨x, hxr, by rw [hxr2, (byI_inj hc).1 (hv.symm.trans (heq.trans hv2))]⟩))
    | (rw [least_step (x := x) (y := x2) (by omega) hbs hpre k0 hxr hxr2 (fun e => hne (by rw [hv, hv2, e])) (by assumption), if_pos ((byI_lt hc).1 (by rw [← hv, ← hv2]; exact hlt))]; omega)
    | (rw [least_step (x := x) (y := x2) (by omega) hbs hpre k0 hxr hxr2 (fun e => hne (by rw [hv, hv2, e])) (by assumption), if_neg (fun h => by have := (byI_lt hc).2 h; omega)]; omega)
    | (rw [least_same (by omega) hbs hpre (by omega) (by assumption)]; omega)
    | (refine hK _ ?_; rw [hbs, show i.toNat = l.length by omega]; rfl)
    | trace_state
end Go.Proofs.YtoafgafkmeghlaaGreatDoor
/- Contracts: the reference's joined tenths, alike rhythms. -/
namespace Go.Proofs.YtoafgafkmeghlaaGreatDoor
open Go Go.RowKit Classical
set_option maxRecDepth 100000
set_option maxHeartbeats 2000000
set_option linter.unusedVariables false
set_option linter.unusedSimpArgs false
set_option maxHeartbeats 4000000
variable {E : Env} {P : Program} {np : Nat}
theorem name_lit {c : UInt8} {v : Int} {s : ByteArray} (hv : v = byI c true) (hs : s = bytesOf [v]) : s = colS c true := by
  rw [hs, hv]; exact bytes_one c
theorem l06Name_ (c : UInt8) (hc : c ≠ 0) (b : Bool) (v : Int) (hv : v = byI c b) : AC Tryz.prog 209 [.int .u8 v] AV.str (colS c b) := by
  refine ac Tryz.func209 (by kernel_rfl) (.str _) fun E K hE hK => ?_
  conv => cbv
  have hz := byI_zero (c := c) hc (b := b)
  repeat' first
    | (refine eqI hE (fun heq => ?_) (fun hne => ?_) <;> (try conv => cbv))
    | (refine toStrI hE [v] rfl (fun s hs _ => ?_); (try conv => cbv))
    | ((first
   | refine q0 hE ?_
   | refine B0 hE ?_|refine B1 hE (fun _=>?_) fun _=>?_|refine B3 hE fun _ _ _=>?_|refine B2 hE fun _ _=>?_|refine B4 hE fun _ _ _ _=>?_) <;> (try conv => cbv))
  · refine hK _ ?_
    rw [hz.1 (hv.symm.trans heq)]; rfl
  · refine hK _ ?_
    have hb : b = true := by
      cases b with
      | true => rfl
      | false => exact absurd (hv.trans (hz.2 rfl)) hne
    subst hb
    rw [name_lit hv hs]; rfl
theorem l06Once_ (c : UInt8) (hc : c ≠ 0) {rs : List (List AV)} {t : Bool} {p : List Ph} (hl : rs = p.map (phR c)) (hok : PhOk p) : AC Tryz.prog 154 [.sl t 2 rs] (fun l : List Bool => .sl true 1 (l.map (byR c))) (onceB (tenB p)) := by
  refine ac Tryz.func154 (by kernel_rfl) (.by _ _) fun E K hE hK => ?_
  conv => cbv
  have hten := hok.ten
  obtain ⟨pe, hq, hql⟩ := Rep.per hten.1
  refine callR hE (l06Tenths_ c hl hok) fun r1 hr1 => ?_
  conv => cbv
  refine callI hE (l06Period_ c hc hr1 (by omega) (by omega)) fun n hn => ?_
  rw [hq.eq] at hn
  conv => cbv
  repeat' first
    | (refine subL hE hr1 (by simp only [Option.getD_some, Option.getD_none]; omega) (fun r2 hr2 => ?_); (try conv => cbv))
    | ((first
   | refine q0 hE ?_
   | refine B0 hE ?_|refine B1 hE (fun _=>?_) fun _=>?_|refine B3 hE fun _ _ _=>?_|refine B2 hE fun _ _=>?_|refine B4 hE fun _ _ _ _=>?_) <;> (try conv => cbv))
  exact hK _ (by rw [hr2, onceB, hq.eq]; simp [hn]; rfl)
theorem l06Join_ (c : UInt8) (hc : c ≠ 0) {rs : List (List AV)} {t : Bool} {l : List Bool} {f : Int} (hl : rs = l.map (byR c)) (hb : 1 ≤ l.length ∧ l.length ≤ 100000) (hf : 0 ≤ f ∧ f ≤ l.length) : AC Tryz.prog 155 [.sl t 1 rs, .int .i64 f] (fun l : List Ph => .sl true 2 (l.map (phR c))) (joinB (rot l f.toNat)) := by
  refine ac Tryz.func155 (by kernel_rfl) (.ph _ _) fun E K hE hK => ?_
  conv => cbv
  have hrl := rot_len l f.toNat
  refine loopC hE (ι := Int × (List Ph) × (List (List AV))) [0, 1] [6, 5] (fun q => (fun (i : Int) (X : List Ph) (es : List (List AV)) => [(6, .int .i64 i), (5, .ob 0)]) q.1 q.2.1 q.2.2) (fun q => (fun (i : Int) (X : List Ph) (es : List (List AV)) => [.row 2 es]) q.1 q.2.1 q.2.2) (fun q => (fun (i : Int) (X : List Ph) (es : List (List AV)) => (l.length - i).toNat) q.1 q.2.1 q.2.2) (fun q => (fun (i : Int) (X : List Ph) (es : List (List AV)) => (0 ≤ i ∧ i ≤ l.length) ∧ es = X.map (phR c) ∧ X = joinB ((rot l f.toNat).take i.toNat)) q.1 q.2.1 q.2.2) [0] (by decide) ((0, [], [])) (by conv => lhs; cbv) (by conv => lhs; cbv) rfl rfl (by dsimp only; exact ⟨by omega, rfl, rfl⟩) fun q hi Kn hN => ?_
  obtain ⟨i, X, es⟩ := q
  (try dsimp only at hi)
  conv => cbv
  obtain ⟨⟨h0, h1⟩, h2, hX⟩ := hi
  obtain ⟨hbl, hbe⟩ := joinB_bd (l := rot l f.toNat) i.toNat (by omega)
  rw [← hX] at hbl hbe
  refine lenL hE hl fun n hn _ => ?_
  conv => cbv
  refine ltI hE (fun hlt => ?_) (fun hge => ?_) <;> conv => cbv
  · obtain ⟨j, hj⟩ : ∃ j, j = (X.length : Int) - 1 := ⟨_, rfl⟩
    repeat' first
      | (refine lenL hE hl (fun n2 hn2 _ => ?_); (try conv => cbv))
      | (refine add64 hE (a := f) (b := i) (by omega) (fun a1 ha1 => ?_); (try conv => cbv))
      | (refine rem64 hE (by omega) (fun r hr => ?_); have hrb := modB hr (by omega); (try conv => cbv))
      | (refine idxBy (i := r) hE hl (by omega) (fun v b hb hv => ?_); (try conv => cbv))
      | (refine callI hE (l06Name_ c hc b v hv) (fun s hs => ?_); (try conv => cbv))
      | (refine lenL hE h2 (fun m hm _ => ?_); (try conv => cbv))
      | (refine sub64 hE (by omega) (fun j' hj' => ?_); obtain rfl : j = j' := by omega; (try conv => cbv))
      | (refine idxPhV hE h2 (by omega) hx hs2 ?_; (try conv => cbv))
      | (refine idxPh hE h2 (by omega) (fun s2 b2 k hx hs2 => ?_); have hkb := hbe _ (List.mem_of_getElem? hx); simp only at hkb; (try conv => cbv))
      | (refine seqI hE (fun heq => ?_) (fun hne => ?_) <;> (try conv => cbv))
      | (refine updL (R := phR c) hE (b2, k2) h2 (by omega) hx (by exact Nat.le_of_ble_eq_true rfl) (by rfl) (fun es2 hes2 => ?_); (try conv => cbv))
      | (refine add64 hE (a := k) (by omega) (fun k2 hk2 => ?_); (try conv => cbv))
      | (refine hN (_, X.set j.toNat (b2, k2), _) _ [0] (by decide) rfl ⟨?_, hes2, ?_⟩ ?_ <;> (try dsimp only))
      | (refine hN (_, X ++ [(b, 1)], _) _ [2] (by decide) rfl ⟨?_, hes3, ?_⟩ ?_ <;> (try dsimp only))
      | ((first
     | refine q0 hE ?_
     | refine catP (R := phR c) (v := (b, 1)) hE h2 (by rw [hs]; rfl) (by omega) (fun es3 hes3 => ?_)
     | refine B0 hE ?_|refine B1 hE (fun _=>?_) fun _=>?_|refine B3 hE fun _ _ _=>?_|refine B2 hE fun _ _=>?_|refine B4 hE fun _ _ _ _=>?_) <;> (try conv => cbv))
    all_goals (try clear hN)
    all_goals (have hstep := joinB_take (rot_at (i := f) (k := i) hf (by omega) (by rw [hr, ha1]) (by assumption) hb); rw [← hX] at hstep)
    all_goals first
      | omega
      | (rename_i hip; rw [hip, show (i + 1).toNat = i.toNat + 1 by omega, hstep, joinB_set hx (by omega) (colS_inj.1 (hs2.symm.trans (heq.trans hs))) (by omega), hk2]; done)
      | (rename_i hip; rw [hip, show (i + 1).toNat = i.toNat + 1 by omega, hstep, joinB_set hx (by omega) (colS_inj.1 (hs2.symm.trans (heq.trans hs))) (by omega), hk2]; rfl)
      | (rename_i hip; rw [hip, show (i + 1).toNat = i.toNat + 1 by omega, hstep, joinB_put hx (by omega) (fun e => hne (by rw [hs2, hs, colS_inj]; exact e)) (by omega)])
      | (rename_i hip; rw [hip, show (i + 1).toNat = i.toNat + 1 by omega, hstep, stepB_nil (by omega)])
      | trace_state
  · refine hK _ ?_
    rw [h2, hX, List.take_of_length_le (by omega)]; rfl
theorem l06Normal_ (c : UInt8) (hc : c ≠ 0) {rs : List (List AV)} {t : Bool} {p : List Ph} (hl : rs = p.map (phR c)) (hok : PhOk p) : AC Tryz.prog 110 [.sl t 2 rs] (fun l : List Ph => .sl true 2 (l.map (phR c))) (jnP p) := by
  refine ac Tryz.func110 (by kernel_rfl) (.ph _ _) fun E K hE hK => ?_
  conv => cbv
  have hten := hok.ten
  have honce := onceB_bd hten.1
  refine callR hE (l06Once_ c hc hl hok) fun r1 hr1 => ?_
  conv => cbv
  refine callI hE (l06Least_ c hc hr1 (by omega) (by omega)) fun n hn => ?_
  conv => cbv
  have hlb := (leastB_bd (onceB (tenB p)) (onceB (tenB p)).length).1
  refine callR hE (l06Join_ c hc hr1 (by omega) (by omega)) fun r2 hr2 => ?_
  conv => cbv
  refine hK _ ?_
  rw [hr2, jnP, nrmP, leastB_norm (by omega), show n.toNat = leastB (onceB (tenB p)) (onceB (tenB p)).length by omega]; rfl
def NearAt (z : Int) (a b : List Ph) (f i : Nat) : Prop := ∃ x y, a[i]? = some x ∧ b[(f + i) % b.length]? = some y ∧ nearP z x y
theorem near_iff2 {z d : Int} {x y : Ph} (h : x.1 = y.1) (hd : d = x.2 - y.2) : nearP z x y ↔ -z ≤ d ∧ d ≤ z := by
  unfold nearP
  rw [hd]
  exact ⟨fun h1 => h1.2, fun h1 => ⟨h, h1⟩⟩
theorem near_at {L : Nat} {f i a r m : Int} (hf : 0 ≤ f) (hi : 0 ≤ i) (hr : r = a % m) (ha : a = f + i) (hm : m = L) : (f.toNat + i.toNat) % L = r.toNat := by
  rw [hr, hm, ha]
  have e1 : f + i = ((f.toNat + i.toNat : Nat) : Int) := by omega
  rw [e1, ← Int.natCast_emod, Int.toNat_natCast]
theorem l18Close_ (c : UInt8) (hc : c ≠ 0) (z : Int) (hz : 0 ≤ z ∧ z ≤ 20) {rp rq : List (List AV)} {t t' : Bool} {p1 p2 : List Ph} (h1 : rp = p1.map (phR c)) (h2 : rq = p2.map (phR c)) (o1 : PhOk p1) (o2 : PhOk p2) : AC Tryz.prog 76 [.sl t 2 rp, .sl t' 2 rq, .int .i64 z] AV.bool (bP (closeP z p1 p2)) := by
  refine ac Tryz.func76 (by kernel_rfl) (.bool _) fun E K hE hK => ?_
  conv => cbv
  obtain ⟨_, j1, b1⟩ := jn_ok o1
  obtain ⟨_, j2, b2⟩ := jn_ok o2
  refine callR hE (l06Normal_ c hc h1 o1) fun ra hra => ?_
  conv => cbv
  refine callR hE (l06Normal_ c hc h2 o2) fun rb hrb => ?_
  conv => cbv
  obtain ⟨a, hA⟩ : ∃ a, a = jnP p1 := ⟨_, rfl⟩
  obtain ⟨b, hB⟩ : ∃ b, b = jnP p2 := ⟨_, rfl⟩
  have hcl : closeP z p1 p2 = closeJ z a b := by rw [hA, hB]; rfl
  rw [← hA] at hra j1 b1
  rw [← hB] at hrb j2 b2
  rw [hcl] at hK
  refine lenL hE hra fun la hla _ => ?_
  conv => cbv
  refine lenL hE hrb fun lb hlb _ => ?_
  conv => cbv
  refine eqI hE (fun hlen => ?_) (fun hlen => ?_) <;> conv => cbv
  · have hab : a.length = b.length := by omega
    refine loopC hE (ι := Int) [2, 7, 8] [9] (fun q => (fun (f : Int) => [(9, .int .i64 f)]) q) (fun q => (fun (f : Int) => [.row 2 ra, .row 2 rb]) q) (fun q => (fun (f : Int) => (b.length - f).toNat) q) (fun q => (fun (f : Int) => (0 ≤ f ∧ f ≤ b.length) ∧ Up (fun f => ¬ ∀ i, i < a.length → NearAt z a b f i) f) q) [0, 1] (by decide) (0) (by conv => lhs; cbv) (by conv => lhs; cbv) rfl rfl (by dsimp only; exact ⟨by omega, .zero (by omega)⟩) fun f hi Kn hN => ?_
    (try dsimp only at hi)
    conv => cbv
    obtain ⟨⟨f0, f1⟩, hinv⟩ := hi
    repeat' first
      | (refine lenL hE hrb (fun lc hlc _ => ?_); (try conv => cbv))
      | ((refine loopC hE (ι := Int × Bool) [2, 7, 8, 9] [11, 10] (fun q => (fun (i : Int) (sm : Bool) => [(11, .int .i64 i), (10, .bool sm)]) q.1 q.2) (fun q => (fun (i : Int) (sm : Bool) => [.row 2 ra, .row 2 rb]) q.1 q.2) (fun q => (fun (i : Int) (sm : Bool) => (a.length - i).toNat) q.1 q.2) (fun q => (fun (i : Int) (sm : Bool) => (0 ≤ i ∧ i ≤ a.length) ∧ (sm = true → Up (NearAt z a b f.toNat) i) ∧ (sm = false → ¬ ∀ i, i < a.length → NearAt z a b f.toNat i)) q.1 q.2) [0, 1] (by decide) ((0, true)) (by conv => lhs; cbv) (by conv => lhs; cbv) rfl rfl (by dsimp only; exact ⟨by omega, fun _ => .zero (by omega), fun h => Bool.noConfusion h⟩) fun q hi2 Kn2 hN2 => ?_; obtain ⟨i, sm⟩ := q; (try dsimp only at hi2); conv => cbv); obtain ⟨⟨i0, i1⟩, hst, hsf⟩ := hi2; cases sm <;> (try conv => cbv))
      | (refine lenL hE hra (fun ld hld _ => ?_); (try conv => cbv))
      | (refine add64 hE (a := f) (b := i) (by omega) (fun a1 ha1 => ?_); (try conv => cbv))
      | (refine rem64 hE (a := a1) (by omega) (fun r hr => ?_); have hrb2 := modB hr (by omega); (try conv => cbv))
      | (refine idxPhV (i := r) hE hrb (by omega) hy hs2 ?_; (try conv => cbv))
      | (refine idxPh (i := r) hE hrb (by omega) (fun s2 y m2 hy hs2 => ?_); have hyb := b2 _ (List.mem_of_getElem? hy); have hyb1 := hyb.1; have hyb2 := hyb.2; simp only at hyb1 hyb2; (try conv => cbv))
      | (refine idxPhV (i := i) hE hra (by omega) hx hs ?_; (try conv => cbv))
      | (refine idxPh (i := i) hE hra (by omega) (fun s x m hx hs => ?_); have hxb := b1 _ (List.mem_of_getElem? hx); have hxb1 := hxb.1; have hxb2 := hxb.2; simp only at hxb1 hxb2; (try conv => cbv))
      | (refine seqI hE (fun heq => ?_) (fun hne => ?_) <;> (try conv => cbv))
      | (refine sub64 hE (a := m) (b := m2) (by omega) (fun d hd => ?_); (try conv => cbv))
      | (refine sub64 hE (a := 0) (b := z) (by omega) (fun zn hzn => ?_); (try conv => cbv))
      | (refine callP hE (in_ d _ _) (fun hin => ?_) (fun hin => ?_) <;> (try conv => cbv))
      | (refine hN2 (_, true) _ [0, 1] (by decide) rfl ⟨?_, fun _ => ?_, fun h => Bool.noConfusion h⟩ ?_ <;> (try dsimp only))
      | (refine hN2 (_, false) _ [0, 1] (by decide) rfl ⟨?_, fun h => Bool.noConfusion h, fun _ => ?_⟩ ?_ <;> (try dsimp only))
      | (refine hN _ _ [0, 1] (by decide) rfl ⟨?_, ?_⟩ ?_ <;> (try dsimp only))
      | ((first
     | refine q0 hE ?_
     | refine B0 hE ?_|refine B1 hE (fun _=>?_) fun _=>?_|refine B3 hE fun _ _ _=>?_|refine B2 hE fun _ _=>?_|refine B4 hE fun _ _ _ _=>?_) <;> (try conv => cbv))
    all_goals (try clear hN)
    all_goals (try clear hN2)
    all_goals first
      | omega
      | (refine (hst rfl).succ ⟨_, _, hx, by rw [near_at f0 i0 hr ha1 (by assumption)]; exact hy, (near_iff2 (x := (x, m)) (y := (y, m2)) (colS_inj.1 (hs.symm.trans (heq.trans hs2))) hd).2 ⟨by omega, by omega⟩⟩ (by assumption))
      | (intro h; obtain ⟨x', y', e1, e2, e3⟩ := h i.toNat (by omega); rw [near_at f0 i0 hr ha1 (by assumption)] at e2; rw [hx] at e1; rw [hy] at e2; cases e1; cases e2; have e4 := (near_iff2 (x := (x, m)) (y := (y, m2)) (colS_inj.1 (hs.symm.trans (heq.trans hs2))) hd).1 e3; exact hin ⟨by omega, by omega⟩)
      | (intro h; obtain ⟨x', y', e1, e2, e3⟩ := h i.toNat (by omega); rw [near_at f0 i0 hr ha1 (by assumption)] at e2; rw [hx] at e1; rw [hy] at e2; cases e1; cases e2; apply hne; rw [hs, hs2, colS_inj]; exact e3.1)
      | exact hinv.succ (hsf rfl) (by assumption)
      | exact finB hK (bP_true.2 ⟨hab, f.toNat, by omega, fun i hi => hst rfl i (by omega)⟩)
      | (refine finB hK (bP_false.2 fun h => ?_); obtain ⟨_, g, hg, hn⟩ := h; exact hinv g (by omega) hn)
      | trace_state
  · exact finB hK (bP_false.2 fun h => hlen (by have := h.1; omega))
end Go.Proofs.YtoafgafkmeghlaaGreatDoor
