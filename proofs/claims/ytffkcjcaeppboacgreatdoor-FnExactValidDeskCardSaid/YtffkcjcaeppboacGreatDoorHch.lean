/- Contracts: channels and their gates. -/
import Derived.Test.YtffkcjcaeppboacGreatDoorHdv
namespace Go.Proofs.YtffkcjcaeppboacGreatDoor
open Go Go.RowKit Classical
set_option maxRecDepth 100000
set_option maxHeartbeats 2000000
set_option linter.unusedVariables false
set_option linter.unusedSimpArgs false
theorem indexGate0_ {rs : List (List AV)} {t : Bool} {l : List Gat} {g : FuncId} {p : Gat → Prop} (hl : rs = l.map Gat.cs) (hp : ∀ gd lx ly rx ry, AC Tryz.prog g (.agg [.int .i64 gd, .int .i64 lx, .int .i64 ly, .int .i64 rx, .int .i64 ry] :: []) AV.bool (bP (p ⟨gd, lx, ly, rx, ry⟩))) : AC Tryz.prog 215 [.sl t 5 rs, .fn g []] (AV.int .i64) (firstI p l) := by
  refine ac Tryz.func215 (by kernel_rfl) (.int _ _) fun E K hE hK => ?_
  conv => cbv
  refine lenL hE hl fun n hn hb => ?_
  conv => cbv
  refine loopC hE (ι := Int) [0, 1, 7] [8] (fun q => (fun (i : Int) => [(8, .int .i64 i)]) q) (fun q => (fun (i : Int) => []) q) (fun q => (fun (i : Int) => (l.length - i).toNat) q) (fun q => (fun (i : Int) => 0 ≤ i ∧ Up (fun j => ∀ v, l[j]? = some v → ¬ p v) i) q) [] (by decide) (0) (by conv => lhs; cbv) (by conv => lhs; cbv) rfl rfl (by dsimp only; exact ⟨by omega, .zero (by omega)⟩) fun i hi Kn hN => ?_
  (try dsimp only at hi)
  conv => cbv
  obtain ⟨h0, hinv⟩ := hi
  repeat' first
    | (refine hN _ _ [] (by decide) rfl ⟨?_, ?_⟩ ?_ <;> (try dsimp only))
    | ((first
   | refine q0 hE ?_
   | refine callP hE (hp _ _ _ _ _) (fun _ => ?_) (fun _ => ?_)
   | (refine idxL (R := Gat.cs) hE (by assumption) (by first | omega | (simp only [List.length_set, mix_len]; omega)) ?_; rintro ⟨⟩ _)
   | refine B0 hE ?_|refine B1 hE (fun _=>?_) fun _=>?_|refine B3 hE fun _ _ _=>?_|refine B2 hE fun _ _=>?_|refine B4 hE fun _ _ _ _=>?_) <;> (try conv => cbv))
  · refine hK _ ?_
    rw [firstI_in h0 (by assumption) (by assumption) hinv]; rfl
  · omega
  · refine hinv.succ ?_ (by assumption)
    clear hN; simp_all
  · omega
  · refine hK _ ?_
    rw [firstI_out (by omega) hinv]; rfl
theorem containsGate0_ {rs : List (List AV)} {t : Bool} {l : List Gat} {g : FuncId} {p : Gat → Prop} (hl : rs = l.map Gat.cs) (hp : ∀ gd lx ly rx ry, AC Tryz.prog g (.agg [.int .i64 gd, .int .i64 lx, .int .i64 ly, .int .i64 rx, .int .i64 ry] :: []) AV.bool (bP (p ⟨gd, lx, ly, rx, ry⟩))) : AC Tryz.prog 177 [.sl t 5 rs, .fn g []] AV.bool (bP (∃ v ∈ l, p v)) := by
  refine ac Tryz.func177 (by kernel_rfl) (.bool _) fun E K hE hK => ?_
  conv => cbv
  refine callI hE (indexGate0_ hl hp) fun y hy => ?_
  conv => cbv
  refine leI hE (fun h => ?_) (fun h => ?_) <;> conv => cbv
  · exact finB hK (bP_true.2 (firstI_ge.1 (by omega)))
  · exact finB hK (bP_false.2 fun h' => by have := firstI_ge.2 h'; omega)
theorem LnC.of {l : List Pnt} (h : LnOk l) {i : Int} {p : Pnt} (hp : l[i.toNat]? = some p) : PtOk p.x p.y ∧ (0 < i → ∀ q, l[(i - 1).toNat]? = some q → q ≠ p) := by
  obtain ⟨p', h1, h2, h3⟩ := h i.toNat (List.getElem?_eq_some_iff.1 hp).1
  rw [hp] at h1; cases h1
  refine ⟨h2, fun h0 q hq => ?_⟩
  obtain ⟨q', h4, h5⟩ := h3 (by omega)
  rw [show i.toNat - 1 = (i - 1).toNat by omega, hq] at h4; cases h4; exact h5
theorem validChannel_ (n : ByteArray) (w : Int) {rl : List (List AV)} {t : Bool} {l : List Pnt} (hl : rl = l.map Pnt.cs) : AC Tryz.prog 174 [.agg [.str n, .sl t 2 rl, .int .i64 w]] AV.bool (bP (ChnOk n l w)) := by
  refine ac Tryz.func174 (by kernel_rfl) (.bool _) fun E K hE hK => ?_
  conv => cbv
  refine lenL hE hl fun m hm hb => ?_
  conv => cbv
  refine loopC hE (ι := Int) [1, 6, 7] [8] (fun q => (fun (i : Int) => [(8, .int .i64 i)]) q) (fun q => (fun (i : Int) => [.box [.str n, .sl t 2 rl, .int .i64 w]]) q) (fun q => (fun (i : Int) => (l.length - i).toNat) q) (fun q => (fun (i : Int) => 0 ≤ i ∧ Up (LnC l) i) q) [0] (by decide) (0) (by conv => lhs; cbv) (by conv => lhs; cbv) rfl rfl (by dsimp only; exact ⟨by omega, .zero (by omega)⟩) fun i hi Kn hN => ?_
  (try dsimp only at hi)
  conv => cbv
  obtain ⟨h0, hinv⟩ := hi
  repeat' first
    | (refine idxV (R := Pnt.cs) hE hl (by omega) hq ?_; (try conv => cbv))
    | (refine idxL (R := Pnt.cs) hE hl (by omega) (fun p hp => ?_); obtain ⟨px, py⟩ := p; (try conv => cbv); refine callP hE (validPoint_ _ _) (fun h1 => ?_) (fun h1 => ?_) <;> (try conv => cbv); rotate_left; exact finB hK (bP_false.2 fun h => h1 (LnC.of h.1 hp).1); refine ltI hE (fun h2 => ?_) (fun h2 => ?_) <;> (try conv => cbv); refine sub64 hE (by omega) (fun k hk => ?_); (try conv => cbv); refine idxL (R := Pnt.cs) hE hl (by omega) (fun q hq => ?_); obtain ⟨qx, qy⟩ := q; (try conv => cbv); refine aeqI hE (fun h3 => ?_) (fun h3 => ?_) <;> (try conv => cbv))
    | (refine lenL hE hl (fun m2 hm2 hb2 => ?_); (try conv => cbv))
    | (refine hN _ _ [0] (by decide) rfl ⟨?_, ?_⟩ ?_ <;> (try dsimp only))
    | ((first
   | refine q0 hE ?_
   | refine callP hE (isName_ _) (fun _ => ?_) (fun _ => ?_)
   | refine callP hE (within_ _ _ _) (fun _ => ?_) (fun _ => ?_)
   | refine B0 hE ?_|refine B1 hE (fun _=>?_) fun _=>?_|refine B3 hE fun _ _ _=>?_|refine B2 hE fun _ _=>?_|refine B4 hE fun _ _ _ _=>?_) <;> (try conv => cbv))
  all_goals (try clear hN)
  all_goals first
    | omega
    | exact finB hK (bP_true.2 ⟨hinv.all (by omega), by assumption, by omega, by omega⟩)
    | (refine finB hK (bP_false.2 fun h => ?_); have h4 := h.2; first | omega | (have := h4.1; contradiction) | (have := h4.2.1; omega) | (have := h4.2.2; omega))
    | (refine finB hK (bP_false.2 fun h => ?_); exact (LnC.of h.1 hp).2 h2 _ (by rw [← hk]; exact hq) (by simp only [Pnt.mk.injEq]; exact ⟨h3.1, h3.2.1⟩))
    | exact hinv.succ ⟨_, hp, h1, fun _ => ⟨_, by rw [show i.toNat - 1 = k.toNat by omega]; exact hq, fun he => h3 (by simp only [Pnt.mk.injEq] at he; exact ⟨he.1, he.2, trivial⟩)⟩⟩ (by assumption)
    | exact hinv.succ ⟨_, hp, h1, fun _ => by omega⟩ (by assumption)
    | trace_state
theorem l13Ok_ (n : ByteArray) (w : Int) {rl : List (List AV)} {t : Bool} {l : List Pnt} (hl : rl = l.map Pnt.cs) : AC Tryz.prog 264 [.pp [.str n, .sl t 2 rl, .int .i64 w]] AV.bool (bP (ChnOk n l w)) := by
  refine ac Tryz.func264 (by kernel_rfl) (.bool _) fun E K hE hK => ?_
  conv => cbv
  refine loopC hE (ι := Int) [0] [3] (fun q => (fun (i : Int) => [(3, .int .i64 i)]) q) (fun q => (fun (i : Int) => []) q) (fun q => (fun (i : Int) => (l.length - i).toNat) q) (fun q => (fun (i : Int) => 0 ≤ i ∧ Up (LnC l) i) q) [] (by decide) (0) (by conv => lhs; cbv) (by conv => lhs; cbv) rfl rfl (by dsimp only; exact ⟨by omega, .zero (by omega)⟩) fun i hi Kn hN => ?_
  (try dsimp only at hi)
  conv => cbv
  obtain ⟨h0, hinv⟩ := hi
  repeat' first
    | (refine idxV (R := Pnt.cs) hE hl (by omega) hq ?_; (try conv => cbv))
    | (refine lenL hE hl (fun m2 hm2 hb2 => ?_); (try conv => cbv))
    | (refine idxL (R := Pnt.cs) hE hl (by omega) (fun p hp => ?_); obtain ⟨px, py⟩ := p; (try conv => cbv); refine callP hE (l02Ok_ _ _) (fun h1 => ?_) (fun h1 => ?_) <;> (try conv => cbv); rotate_left; exact finB hK (bP_false.2 fun h => h1 (LnC.of h.1 hp).1); refine ltI hE (fun h2 => ?_) (fun h2 => ?_) <;> (try conv => cbv); refine idxV (R := Pnt.cs) hE hl (by omega) hp ?_; (try conv => cbv); refine sub64 hE (by omega) (fun k hk => ?_); (try conv => cbv); refine idxL (R := Pnt.cs) hE hl (by omega) (fun q hq => ?_); obtain ⟨qx, qy⟩ := q; (try conv => cbv); refine aeqI hE (fun h3 => ?_) (fun h3 => ?_) <;> (try conv => cbv))
    | (refine hN _ _ [] (by decide) rfl ⟨?_, ?_⟩ ?_ <;> (try dsimp only))
    | ((first
   | refine q0 hE ?_
   | refine callP hE (l01Name_ _) (fun _ => ?_) (fun _ => ?_)
   | refine callP hE (in_ _ _ _) (fun _ => ?_) (fun _ => ?_)
   | refine B0 hE ?_|refine B1 hE (fun _=>?_) fun _=>?_|refine B3 hE fun _ _ _=>?_|refine B2 hE fun _ _=>?_|refine B4 hE fun _ _ _ _=>?_) <;> (try conv => cbv))
  all_goals (try clear hN)
  all_goals first
    | omega
    | exact finB hK (bP_true.2 ⟨hinv.all (by omega), by assumption, by omega, by omega⟩)
    | (refine finB hK (bP_false.2 fun h => ?_); have h4 := h.2; first | omega | (have := h4.1; contradiction) | (have := h4.2.1; omega) | (have := h4.2.2; omega))
    | (refine finB hK (bP_false.2 fun h => ?_); exact (LnC.of h.1 hp).2 h2 _ (by rw [← hk]; exact hq) (by simp only [Pnt.mk.injEq]; exact ⟨h3.1.symm, h3.2.1.symm⟩))
    | exact hinv.succ ⟨_, hp, h1, fun _ => ⟨_, by rw [show i.toNat - 1 = k.toNat by omega]; exact hq, fun he => h3 (by simp only [Pnt.mk.injEq] at he; exact ⟨he.1.symm, he.2.symm, trivial⟩)⟩⟩ (by assumption)
    | exact hinv.succ ⟨_, hp, h1, fun _ => by omega⟩ (by assumption)
    | trace_state
theorem seg_step {l : List Pnt} {i k n : Int} {p q : Pnt} (hk : k = i - 1) (h1 : 1 ≤ i) (hp : l[k.toNat]? = some p) (hq : l[i.toNat]? = some q) (hn : n = i + 1) : sumS (segs l) (n - 1) = sumS (segs l) (i - 1) + distR p.x p.y q.x q.y :=
  sumS_step (by omega) (by rw [show (i - 1).toNat = k.toNat by omega]; exact segs_get l k.toNat p q hp (by rw [show k.toNat + 1 = i.toNat by omega]; exact hq)) (by omega)
theorem segs_sum {l : List Pnt} (h : LnOk l) (h12 : l.length ≤ 12) (i : Int) : 0 ≤ sumS (segs l) i ∧ sumS (segs l) i ≤ 3600000 := by
  have h1 := sumS_bd (ds := segs l) (B := 300000) (fun n hn => by have := h.segs n hn; omega) (by omega) i
  rw [segs_len] at h1; omega
theorem segs_all {l : List Pnt} {i : Int} (h1 : 1 ≤ l.length) (h : l.length ≤ i) : sumS (segs l) (i - 1) = (segs l).sum := sumS_all (by rw [segs_len]; omega)
theorem chLength_ (n : ByteArray) (w : Int) {rl : List (List AV)} {t : Bool} {l : List Pnt} (hl : rl = l.map Pnt.cs) (hok : LnOk l) (h12 : 1 ≤ l.length ∧ l.length ≤ 12) : AC Tryz.prog 175 [.agg [.str n, .sl t 2 rl, .int .i64 w]] (AV.int .i64) ((segs l).sum) := by
  refine ac Tryz.func175 (by kernel_rfl) (.int _ _) fun E K hE hK => ?_
  conv => cbv
  refine loopC hE (ι := Int × Int) [1] [4, 3] (fun q => (fun (i : Int) (m : Int) => [(4, .int .i64 i), (3, .int .i64 m)]) q.1 q.2) (fun q => (fun (i : Int) (m : Int) => [.box [.str n, .sl t 2 rl, .int .i64 w]]) q.1 q.2) (fun q => (fun (i : Int) (m : Int) => (l.length - i).toNat) q.1 q.2) (fun q => (fun (i : Int) (m : Int) => (1 ≤ i ∧ i ≤ l.length) ∧ m = sumS (segs l) (i - 1)) q.1 q.2) [0] (by decide) ((1, 0)) (by conv => lhs; cbv) (by conv => lhs; cbv) rfl rfl (by dsimp only; exact ⟨by omega, by rw [sumS_zero (by omega)]⟩) fun q hi Kn hN => ?_
  obtain ⟨i, m⟩ := q
  (try dsimp only at hi)
  conv => cbv
  obtain ⟨⟨h0, h1⟩, h2⟩ := hi
  have hbd := segs_sum hok h12.2 (i - 1)
  refine lenL hE hl fun n2 hn2 hb2 => ?_
  conv => cbv
  refine ltI hE (fun hlt => ?_) (fun hge => ?_) <;> conv => cbv
  · refine sub64 hE (by omega) fun k hk => ?_
    conv => cbv
    refine idxL (R := Pnt.cs) hE hl (by omega) fun p hp => ?_
    obtain ⟨px, py⟩ := p
    conv => cbv
    refine idxL (R := Pnt.cs) hE hl (by omega) fun q hq => ?_
    obtain ⟨qx, qy⟩ := q
    conv => cbv
    have hs := distR_bd px py qx qy
    repeat' first
      | (refine hN (_, _) _ [0] (by decide) rfl ⟨?_, ?_⟩ ?_ <;> (try dsimp only))
      | ((first
     | refine q0 hE ?_
     | refine callI hE (distance_ _ _ _ _) (fun _ _ => ?_)
     | refine B0 hE ?_|refine B1 hE (fun _=>?_) fun _=>?_|refine B3 hE fun _ _ _=>?_|refine B2 hE fun _ _=>?_|refine B4 hE fun _ _ _ _=>?_) <;> (try conv => cbv))
    all_goals (try clear hN)
    all_goals first
      | omega
      | (rename_i hi2; rw [seg_step hk h0 hp hq hi2]; simp only; omega)
      | trace_state
  · exact hK _ (by rw [h2, segs_all h12.1 (by omega)]; rfl)
theorem l13Length_ (n : ByteArray) (w : Int) {rl : List (List AV)} {t : Bool} {l : List Pnt} (hl : rl = l.map Pnt.cs) (hok : LnOk l) (h12 : 1 ≤ l.length ∧ l.length ≤ 12) : AC Tryz.prog 265 [.sl t 2 rl] (AV.int .i64) ((segs l).sum) := by
  refine ac Tryz.func265 (by kernel_rfl) (.int _ _) fun E K hE hK => ?_
  conv => cbv
  refine loopC hE (ι := Int × Int) [0] [4, 3] (fun q => (fun (i : Int) (m : Int) => [(4, .int .i64 i), (3, .int .i64 m)]) q.1 q.2) (fun q => (fun (i : Int) (m : Int) => []) q.1 q.2) (fun q => (fun (i : Int) (m : Int) => (l.length - i).toNat) q.1 q.2) (fun q => (fun (i : Int) (m : Int) => (1 ≤ i ∧ i ≤ l.length) ∧ m = sumS (segs l) (i - 1)) q.1 q.2) [] (by decide) ((1, 0)) (by conv => lhs; cbv) (by conv => lhs; cbv) rfl rfl (by dsimp only; exact ⟨by omega, by rw [sumS_zero (by omega)]⟩) fun q hi Kn hN => ?_
  obtain ⟨i, m⟩ := q
  (try dsimp only at hi)
  conv => cbv
  obtain ⟨⟨h0, h1⟩, h2⟩ := hi
  have hbd := segs_sum hok h12.2 (i - 1)
  refine lenL hE hl fun n2 hn2 hb2 => ?_
  conv => cbv
  refine ltI hE (fun hlt => ?_) (fun hge => ?_) <;> conv => cbv
  · refine sub64 hE (by omega) fun k hk => ?_
    conv => cbv
    refine idxL (R := Pnt.cs) hE hl (by omega) fun p hp => ?_
    obtain ⟨px, py⟩ := p
    conv => cbv
    refine idxL (R := Pnt.cs) hE hl (by omega) fun q hq => ?_
    obtain ⟨qx, qy⟩ := q
    conv => cbv
    have hs := distR_bd px py qx qy
    repeat' first
      | (refine hN (_, _) _ [] (by decide) rfl ⟨?_, ?_⟩ ?_ <;> (try dsimp only))
      | ((first
     | refine q0 hE ?_
     | refine callI hE (l02Apart_ _ _ _ _ (hok.pt hp) (hok.pt hq)) (fun _ _ => ?_)
     | refine B0 hE ?_|refine B1 hE (fun _=>?_) fun _=>?_|refine B3 hE fun _ _ _=>?_|refine B2 hE fun _ _=>?_|refine B4 hE fun _ _ _ _=>?_) <;> (try conv => cbv))
    all_goals (try clear hN)
    all_goals first
      | omega
      | (rename_i hi2; rw [seg_step hk h0 hp hq hi2]; simp only; omega)
      | trace_state
  · exact hK _ (by rw [h2, segs_all h12.1 (by omega)]; rfl)
def FindInv (l : List Pnt) (d0 i d : Int) : Prop := (1 ≤ i ∧ i < l.length) ∧ 0 ≤ d ∧ d ≤ ((segs l).drop (i - 1).toNat).sum ∧ findS (segs l) 1 d0 = findS ((segs l).drop (i - 1).toNat) i d
theorem FindInv.start {l : List Pnt} (h2 : 2 ≤ l.length) {d : Int} (h0 : 0 ≤ d) (hd : d ≤ (segs l).sum) : FindInv l d 1 d := ⟨by omega, h0, by simpa using hd, by simp⟩
theorem FindInv.at {l : List Pnt} {d0 i d k : Int} {p q : Pnt} (h : FindInv l d0 i d) (hk : k = i - 1) (hp : l[k.toNat]? = some p) (hq : l[i.toNat]? = some q) :
    (d ≤ distR p.x p.y q.x q.y → findS (segs l) 1 d0 = (i, d) ∧ segAt l d0 = (p, q, d)) ∧ (¬ d ≤ distR p.x p.y q.x q.y → FindInv l d0 (i + 1) (d - distR p.x p.y q.x q.y)) := by
  obtain ⟨⟨h1, h2⟩, h3, h4, h5⟩ := h
  have hs : (segs l)[(i - 1).toNat]? = some (distR p.x p.y q.x q.y) := by
    rw [show (i - 1).toNat = k.toNat by omega]
    exact segs_get l k.toNat p q hp (by rw [show k.toNat + 1 = i.toNat by omega]; exact hq)
  have hf := findS_drop hs i d
  have hsum := sum_drop hs
  constructor
  · intro hle
    have e := h5.trans (hf.1 hle)
    refine ⟨e, ?_⟩
    unfold segAt
    rw [e]
    simp only [List.getD_eq_getElem?_getD]
    rw [show (i - 1).toNat = k.toNat by omega, hp, hq]; rfl
  · intro hle
    have hl := segs_len l
    have hlt : i + 1 < l.length := by
      rcases Int.lt_or_le (i + 1) l.length with h | h
      · exact h
      · rw [show (segs l).drop ((i - 1).toNat + 1) = [] from List.drop_of_length_le (by rw [segs_len]; omega), List.sum_nil] at hsum
        omega
    refine ⟨by omega, by omega, ?_, ?_⟩
    · rw [show (i + 1 - 1).toNat = (i - 1).toNat + 1 by omega]; omega
    · rw [show (i + 1 - 1).toNat = (i - 1).toNat + 1 by omega]; exact h5.trans (hf.2 hle)
def pnt3 (p : Pnt × Pnt × Pnt) : AV := .tup [.agg p.1.cs, .agg p.2.1.cs, .agg p.2.2.cs]
theorem NoB.pnt3 (p : Pnt × Pnt × Pnt) : NoB (pnt3 p) := .tupC (.oPnt _) (.tupC (.oPnt _) (.tupC (.oPnt _) .tup0))
noncomputable def alongR (l : List Pnt) (d : Int) : Pnt × Pnt × Pnt := (btwR (segAt l d).1 (segAt l d).2.1 (segAt l d).2.2 (distR (segAt l d).1.x (segAt l d).1.y (segAt l d).2.1.x (segAt l d).2.1.y), (segAt l d).1, (segAt l d).2.1)
set_option maxHeartbeats 4000000
theorem along_ (n : ByteArray) (w d : Int) {rl : List (List AV)} {t : Bool} {l : List Pnt} (hl : rl = l.map Pnt.cs) (hok : LnOk l) (h12 : 2 ≤ l.length ∧ l.length ≤ 12) (hd : 0 ≤ d ∧ d ≤ (segs l).sum) : AC Tryz.prog 213 [.agg [.str n, .sl t 2 rl, .int .i64 w], .int .i64 d] pnt3 (alongR l d) := by
  refine ac Tryz.func213 (by kernel_rfl) (.pnt3 _) fun E K hE hK => ?_
  conv => cbv
  refine loopC hE (ι := Int × Int) [2, 4, 5, 6] [7, 1] (fun q => (fun (i : Int) (e : Int) => [(7, .int .i64 i), (1, .int .i64 e)]) q.1 q.2) (fun q => (fun (i : Int) (e : Int) => [.box [.str n, .sl t 2 rl, .int .i64 w], .box [.int .i64 0, .int .i64 0], .box [.int .i64 0, .int .i64 0], .box [.int .i64 0, .int .i64 0]]) q.1 q.2) (fun q => (fun (i : Int) (e : Int) => (l.length - i).toNat) q.1 q.2) (fun q => (fun (i : Int) (e : Int) => FindInv l d i e ∧ e ≤ d) q.1 q.2) [0, 1, 2, 3] (by decide) ((1, d)) (by conv => lhs; cbv) (by conv => lhs; cbv) rfl rfl (by dsimp only; exact ⟨FindInv.start h12.1 hd.1 hd.2, Int.le_refl _⟩) fun q hi Kn hN => ?_
  obtain ⟨i, e⟩ := q
  (try dsimp only at hi)
  conv => cbv
  obtain ⟨hi, hed⟩ := hi
  have hi' := hi
  have hT := segs_sum hok h12.2 l.length
  rw [sumS_all (by rw [segs_len]; omega)] at hT
  obtain ⟨⟨h0, h1⟩, he0, he1, hfi⟩ := hi'
  refine sub64 hE (by omega) fun k hk => ?_
  conv => cbv
  refine idxL (R := Pnt.cs) hE hl (by omega) fun p hp => ?_
  have hpp := hok.pt hp
  obtain ⟨px, py⟩ := p
  conv => cbv
  refine idxL (R := Pnt.cs) hE hl (by omega) fun q hq => ?_
  have hpq := hok.pt hq
  obtain ⟨qx, qy⟩ := q
  conv => cbv
  have hfa := hi.at hk hp hq
  have hsg := hok.seg hp (by rw [show k.toNat + 1 = i.toNat by omega]; exact hq)
  simp only at hfa hsg hpp hpq
  obtain ⟨D, hD⟩ : ∃ D, D = distR px py qx qy := ⟨_, rfl⟩
  rw [← hD] at hfa hsg
  repeat' first
    | (refine callI hE (distance_ _ _ _ _) (fun y hy => ?_); rw [← hD] at hy; subst hy; (try conv => cbv))
    | (refine callI hE (between_ _ _ _ _ _ _ hpp hpq hsg (by omega)) (fun y hy => ?_); obtain ⟨yx, yy⟩ := y; (try conv => cbv))
    | (refine idxV (R := Pnt.cs) hE hl (by omega) hp ?_; (try conv => cbv))
    | (refine idxV (R := Pnt.cs) hE hl (by omega) hq ?_; (try conv => cbv))
    | (refine sub64 hE (by omega) (fun k2 hk2 => ?_); (first | (have hk3 : k = k2 := (by omega); subst hk3) | skip); (try conv => cbv))
    | (refine hN (_, _) _ [0, 1, 2, 3] (by decide) rfl ⟨?_, ?_⟩ ?_ <;> (try dsimp only))
    | ((first
   | refine q0 hE ?_
   | refine needI hE rfl ?_
   | refine B0 hE ?_|refine B1 hE (fun _=>?_) fun _=>?_|refine B3 hE fun _ _ _=>?_|refine B2 hE fun _ _=>?_|refine B4 hE fun _ _ _ _=>?_) <;> (try conv => cbv))
  all_goals (try clear hN)
  all_goals first
    | omega
    | (have h6 := hfa.2 (by omega); subst_vars; exact h6)
    | (refine hK _ ?_; have h6 := (hfa.1 (by omega)).2; unfold alongR; rw [h6]; simp only; rw [← hD, ← hy]; rfl)
    | trace_state
theorem gate_ (n : ByteArray) (w d : Int) {rl : List (List AV)} {t : Bool} {l : List Pnt} (hl : rl = l.map Pnt.cs) (hok : LnOk l) (h12 : 2 ≤ l.length ∧ l.length ≤ 12) (hw : 10 ≤ w ∧ w ≤ 5000) (hd : 0 ≤ d ∧ d ≤ (segs l).sum) : AC Tryz.prog 176 [.agg [.str n, .sl t 2 rl, .int .i64 w], .int .i64 d] (fun g : Gat => .agg g.cs) (gateR l w d) := by
  refine ac Tryz.func176 (by kernel_rfl) (.oGat _) fun E K hE hK => ?_
  conv => cbv
  obtain ⟨k, p, q, hk1, hp, hq, hsa, hr0, hr1, hkl⟩ := segAt_spec hok h12.1 hd.1 hd.2
  have hsg := hok.seg hp hq
  have hpp := hok.pt hp
  have hpq := hok.pt hq
  have hbt := btwR_bd hpp hpq hsg ⟨hr0, hr1⟩
  refine callI hE (along_ _ _ _ hl hok h12 hd) fun y hy => ?_
  have hgr : gateR l w d = gateOf w d p q (findS (segs l) 1 d).2 := by rw [gateR, hsa]
  rw [alongR, hsa] at hy
  obtain ⟨⟨bx, by'⟩, ⟨px, py⟩, ⟨qx, qy⟩⟩ := y
  simp only [Prod.mk.injEq] at hy
  obtain ⟨hb, hp1, hq1⟩ := hy
  subst hp1 hq1
  simp only at hb hsg hpp hpq hbt
  rw [← hb] at hbt
  simp only at hbt
  obtain ⟨D, hD⟩ : ∃ D, D = distR px py qx qy := ⟨_, rfl⟩
  rw [← hD] at hsg hb
  unfold PtOk at hpp hpq
  conv => cbv
  repeat' first
    | (refine mulB hE (by omega) (fun m hm hmb => ?_); (try conv => cbv))
    | (refine callI hE (distance_ _ _ _ _) (fun y hy => ?_); rw [← hD] at hy; subst hy; (try conv => cbv))
    | (refine callI hE (divRound_ _ _ (by omega) (by omega)) (fun y hy => ?_); (have hyb := divB (B := 90000000000) hy (by omega) (by omega)); (try conv => cbv))
    | ((first
   | refine q0 hE ?_
   | refine B0 hE ?_|refine B1 hE (fun _=>?_) fun _=>?_|refine B3 hE fun _ _ _=>?_|refine B2 hE fun _ _=>?_|refine B4 hE fun _ _ _ _=>?_) <;> (try conv => cbv))
  all_goals first
    | omega
    | (refine hK _ ?_; rw [hgr, gateOf]; simp only; rw [← hD, ← hb]; simp only; subst_vars; rfl)
    | trace_state
theorem placesR_bd {l : List Pnt} (hok : LnOk l) (h12 : l.length ≤ 12) {s : Int} (hs : 0 < s) : ∀ d ∈ placesR l s, 0 ≤ d ∧ d ≤ (segs l).sum := fun d hd => by
  have h0 := segs_sum hok h12 l.length
  rw [sumS_all (by rw [segs_len]; omega)] at h0
  rcases List.mem_append.1 hd with h | h
  · unfold stepsTo at h
    obtain ⟨k, hk, rfl⟩ := List.mem_map.1 h
    have h1 := (stepsN_lt hs h0.1 k).2 (List.mem_range.1 hk)
    exact ⟨Int.mul_nonneg (by omega) (by omega), by omega⟩
  · simp at h; omega
def gatLI (p : List Gat × Int) : AV := .tup [.sl true 5 (p.1.map Gat.cs), .int .i64 p.2]
theorem NoB.gatLI (p : List Gat × Int) : NoB (gatLI p) := .tupC (.rows .oGat) (.tupC (.int _ _) .tup0)
theorem gatesFor1_ (gd lx ly rx ry : Int) : AC Tryz.prog 178 [.agg [.int .i64 gd, .int .i64 lx, .int .i64 ly, .int .i64 rx, .int .i64 ry]] AV.bool (bP (¬ Gat.ok ⟨gd, lx, ly, rx, ry⟩)) := by
  refine ac Tryz.func178 (by kernel_rfl) (.bool _) fun E K hE hK => ?_
  conv => cbv
  refine callP hE (arePoints_ (l := [(⟨lx, ly⟩ : Pnt), ⟨rx, ry⟩]) (by rfl)) (fun h => ?_) (fun h => ?_) <;> conv => cbv
  · exact finB hK (bP_false.2 fun hn => hn ⟨h ⟨lx, ly⟩ (by simp), h ⟨rx, ry⟩ (by simp)⟩)
  · refine finB hK (bP_true.2 fun hn => h fun p hp => ?_)
    simp only [List.mem_cons, List.not_mem_nil, or_false] at hp
    rcases hp with rfl | rfl
    · exact hn.1
    · exact hn.2
theorem gatesR_code (n : ByteArray) (l : List Pnt) (w s : Int) : (gatesR n l w s).1.length ≤ 32 := by
  unfold gatesR
  split
  · split
    · split
      · split
        · rw [List.length_map, placesR, List.length_append, stepsTo_len]; simp; omega
        · simp
      · simp
    · simp
  · simp
set_option maxHeartbeats 8000000
theorem gatesFor_ (n : ByteArray) (w s : Int) {rl : List (List AV)} {t : Bool} {l : List Pnt} (hl : rl = l.map Pnt.cs) : AC Tryz.prog 118 [.agg [.str n, .sl t 2 rl, .int .i64 w], .int .i64 s] gatLI (gatesR n l w s) := by
  refine ac Tryz.func118 (by kernel_rfl) (.gatLI _) fun E K hE hK => ?_
  conv => cbv
  refine callP hE (validChannel_ _ _ hl) (fun hc => ?_) (fun hc => ?_) <;> conv => cbv
  · refine callP hE (within_ _ _ _) (fun hs => ?_) (fun hs => ?_) <;> conv => cbv
    · have hok := hc.1
      have h12 := hc.2.2.1
      have hw := hc.2.2.2
      have hsum := segs_sum hok h12.2 l.length
      rw [sumS_all (by rw [segs_len]; omega)] at hsum
      have hpl := placesR_bd hok h12.2 (s := s) (by omega)
      obtain ⟨T, hT⟩ : ∃ T, T = (segs l).sum := ⟨_, rfl⟩
      refine callI hE (chLength_ n w hl hok (by omega)) fun T' hT' => ?_
      rw [← hT] at hT' hsum
      obtain hT3 : T = T' := hT'.symm; subst hT3
      conv => cbv
      refine addI hE fun u1 hu1 => ?_
      rw [IntWalk.i64_in _ ⟨by omega, by omega⟩] at hu1
      conv => cbv
      refine sub64 hE (by omega) fun u2 hu2 => ?_
      conv => cbv
      refine needI hE (by omega) ?_
      conv => cbv
      refine quo64 hE (by omega) fun u3 hu3 => ?_
      have hu3' := quo_bd hu3 (by omega)
      have hN : (stepsN s T : Int) = u3 := by unfold stepsN; rw [← hu1, ← hu2, ← hu3]; omega
      have hst := fun k => stepsN_lt (s := s) (t := T) (by omega) (by omega) k
      conv => cbv
      refine add64 hE (by omega) fun u4 hu4 => ?_
      conv => cbv
      refine ltI hE (fun hfull => ?_) (fun hfull => ?_) <;> conv => cbv
      · refine nilOwnI hE 5 ?_
        conv => cbv
        exact hK _ (by rw [gatesR, if_pos hc, if_pos hs, if_neg (by rw [← hT]; omega)]; rfl)
      repeat' first
        | ((refine loopC hE (ι := Int × Int × (List (List AV))) [1, 2, 6] [8, 7] (fun q => (fun (d : Int) (k : Int) (es : List (List AV)) => [(8, .int .i64 d), (7, .ob 1)]) q.1 q.2.1 q.2.2) (fun q => (fun (d : Int) (k : Int) (es : List (List AV)) => [.box [.str n, .sl t 2 rl, .int .i64 w], .row 5 es]) q.1 q.2.1 q.2.2) (fun q => (fun (d : Int) (k : Int) (es : List (List AV)) => (T - d).toNat) q.1 q.2.1 q.2.2) (fun q => (fun (d : Int) (k : Int) (es : List (List AV)) => (0 ≤ k ∧ k ≤ stepsN s T ∧ d = s * k ∧ d < T + s) ∧ es = ((stepsTo s k.toNat).map (gateR l w)).map Gat.cs) q.1 q.2.1 q.2.2) [0, 1] (by decide) ((0, 0, [])) (by conv => lhs; cbv) (by conv => lhs; cbv) rfl rfl (by dsimp only; exact ⟨⟨by omega, by omega, by omega, by omega⟩, by rfl⟩) fun q hi2 Kn2 hN2 => ?_; obtain ⟨d, k, es⟩ := q; (try dsimp only at hi2); conv => cbv); obtain ⟨⟨k0, k1, hdk, hdT⟩, h2⟩ := hi2; (have hkn := hst k.toNat); rw [show ((k.toNat : Nat) : Int) = k by omega, ← hdk] at hkn; (have hd0 : 0 ≤ d := by rw [hdk]; exact Int.mul_nonneg (by omega) (by omega)))
        | (refine callI hE (gate_ _ _ d hl hok h12 hw (by rw [← hT]; omega)) (fun g hg => ?_); obtain ⟨g1, g2, g3, g4, g5⟩ := g; (try conv => cbv))
        | (refine callI hE (gate_ _ _ T hl hok h12 hw (by rw [← hT]; omega)) (fun g hg => ?_); obtain ⟨g1, g2, g3, g4, g5⟩ := g; (try conv => cbv))
        | (refine catP hE (R := Gat.cs) (v := ⟨g1, g2, g3, g4, g5⟩) (by assumption) rfl (by simp only [List.length_map, stepsTo_len]; omega) (fun es2 hes2 => ?_); (try conv => cbv))
        | (refine callP hE (containsGate0_ (p := fun g => ¬ Gat.ok g) (l := (placesR l s).map (gateR l w)) (by rw [hes2, hg]; unfold placesR; rw [← hT, show stepsN s T = k.toNat by omega]; simp) gatesFor1_) (fun hbad => ?_) (fun hbad => ?_) <;> (try conv => cbv))
        | (refine hN2 (_, k + 1, _) _ [0, 3] (by decide) rfl ⟨⟨?_, ?_, ?_, ?_⟩, ?_⟩ ?_ <;> (try dsimp only))
        | ((first
       | refine q0 hE ?_
       | refine nilOwnI hE 5 ?_
       | refine B0 hE ?_|refine B1 hE (fun _=>?_) fun _=>?_|refine B3 hE fun _ _ _=>?_|refine B2 hE fun _ _=>?_|refine B4 hE fun _ _ _ _=>?_) <;> (try conv => cbv))
      all_goals (try clear hN2)
      all_goals first
        | omega
        | (rename_i hd2; rw [hd2, hdk]; grind)
        | (rw [hes2, show (k + 1).toNat = k.toNat + 1 by omega, stepsTo_succ, List.map_append, List.map_append, hg, hdk, List.map_append]; simp [show ((k.toNat : Nat) : Int) = k by omega]; done)
        | (refine hK _ ?_; rw [gatesR, if_pos hc, if_pos hs, if_pos (by rw [← hT]; omega), if_neg (fun h => by obtain ⟨g, h1, h2⟩ := hbad; obtain ⟨d', h3, rfl⟩ := List.mem_map.1 h1; exact h2 (h d' h3))]; rfl)
        | (refine hK _ ?_; rw [gatesR, if_pos hc, if_pos hs, if_pos (by rw [← hT]; omega), if_pos (fun d' hd' => Classical.byContradiction fun hn => hbad ⟨_, List.mem_map.2 ⟨d', hd', rfl⟩, hn⟩), hes2, placesR, ← hT, show stepsN s T = k.toNat by omega]; simp [gatLI, atup, hg]; done)
        | trace_state
    · refine nilOwnI hE 5 ?_
      conv => cbv
      exact hK _ (by rw [gatesR, if_pos hc, if_neg hs]; rfl)
  · refine nilOwnI hE 5 ?_
    conv => cbv
    exact hK _ (by rw [gatesR, if_neg hc]; rfl)
def Fwy.ok (v : Fwy) : Prop := (gatesR v.name v.line v.width v.spacing).2 = 0 ∧ (0 ≤ v.tolerance ∧ v.tolerance ≤ 5000)
theorem isFairway_ (name : ByteArray) (width : Int) (spacing : Int) (tolerance : Int) {r_line : List (List AV)} {t_line : Bool} {line : List Pnt} (h_line : r_line = line.map Pnt.cs) : AC Tryz.prog 58 [.agg [.str name, .sl t_line 2 r_line, .int .i64 width, .int .i64 spacing, .int .i64 tolerance]] AV.bool (bP (Fwy.ok (Fwy.mk name line width spacing tolerance))) := by
  refine ac Tryz.func58 (by kernel_rfl) (.bool _) fun E K hE hK => ?_
  conv => cbv
  repeat' first
    | (refine callLI (R := Gat.cs) (k := 5) hE (gatesFor_ _ _ _ h_line) (fun rs c hrs hc => ?_); (try conv => cbv))
    | ((first
   | refine q0 hE ?_
   | refine callP hE (within_ _ _ _) (fun _ => ?_) (fun _ => ?_)
   | refine B0 hE ?_|refine B1 hE (fun _=>?_) fun _=>?_|refine B3 hE fun _ _ _=>?_|refine B2 hE fun _ _=>?_|refine B4 hE fun _ _ _ _=>?_) <;> (try conv => cbv))
  all_goals first
    | exact finB hK (bP_true.2 ⟨by simp only; omega, by simp only; omega⟩)
    | (refine finB hK (bP_false.2 fun h => ?_); have h1 := h.1; have h2 := h.2; simp only at h1 h2; omega)
    | trace_state
end Go.Proofs.YtffkcjcaeppboacGreatDoor
