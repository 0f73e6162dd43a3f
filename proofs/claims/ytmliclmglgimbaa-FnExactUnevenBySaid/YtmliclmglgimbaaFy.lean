/- Contracts: how unevenly keepers work. -/
import Derived.Test.YtmliclmglgimbaaFx
import Derived.Test.YtmliclmglgimbaaFs
namespace Go.Proofs.Ytmliclmglgimbaa
open Go Go.RowKit Classical
set_option maxRecDepth 100000
set_option maxHeartbeats 2000000
set_option linter.unusedVariables false
set_option linter.unusedSimpArgs false
def KeepC (l : List ByteArray) (j : Nat) : Prop := ∃ k, l[j]? = some k ∧ NameOk k ∧ k ∉ l.take j
def KeepersOk (l : List ByteArray) : Prop := (∀ j, j < l.length → KeepC l j) ∧ 1 ≤ l.length ∧ l.length ≤ 10
theorem keepC_mk {l : List ByteArray} {i : Int} {v : ByteArray} (hv : l[i.toNat]? = some v) (h1 : NameOk v) (h2 : v ∉ l.take i.toNat) : KeepC l i.toNat := ⟨v, hv, h1, h2⟩
theorem keepC_ok {l : List ByteArray} {i : Int} {v : ByteArray} (h : KeepC l i.toNat) (hv : l[i.toNat]? = some v) : NameOk v ∧ v ∉ l.take i.toNat := by
  obtain ⟨w, h1, h2⟩ := h
  rw [hv] at h1; cases h1; exact h2
theorem areKeepers_ {rs : List (List AV)} {t : Bool} {l : List ByteArray} (hl : rs = l.map strR) : AC Try.prog 127 [.sl t 1 rs] AV.bool (bP (KeepersOk l)) := by
  refine ac Try.func127 (by kernel_rfl) (.bool _) fun E K hE hK => ?_
  conv => cbv
  refine lenL hE hl fun n hn hb => ?_
  conv => cbv
  refine loopC hE (ι := Int) [0, 5, 6] [7] (fun q => (fun (i : Int) => [(7, .int .i64 i)]) q) (fun q => (fun (i : Int) => []) q) (fun q => (fun (i : Int) => (l.length - i).toNat) q) (fun q => (fun (i : Int) => 0 ≤ i ∧ Up (KeepC l) i) q) [] (by decide) (0) (by conv => lhs; cbv) (by conv => lhs; cbv) rfl rfl (by dsimp only; exact ⟨by omega, .zero (by omega)⟩) fun i hi Kn hN => ?_
  (try dsimp only at hi)
  conv => cbv
  obtain ⟨h0, hinv⟩ := hi
  repeat' first
    | (refine hN _ _ [] (by decide) rfl ⟨?_, ?_⟩ ?_ <;> (try dsimp only))
    | ((first
     | refine idxV hE (by assumption) (by omega) (by assumption) ?_
     | refine callP hE (isName_ _) (fun _ => ?_) (fun _ => ?_)
     | refine callP hE (within_ _ _ _) (fun _ => ?_) (fun _ => ?_)
     | refine subL hE hl (by simp only [Option.getD_some, Option.getD_none]; omega) (fun _ _ => ?_)
     | refine callP hE (containsS_ _ (by assumption)) (fun _ => ?_) (fun _ => ?_)
     | refine ltT hE (by omega) ?_
     | refine ltF hE (by omega) ?_
     | refine ltI hE (fun _ => ?_) (fun _ => ?_)
     | refine leT hE (by omega) ?_
     | refine leF hE (by omega) ?_
     | refine leI hE (fun _ => ?_) (fun _ => ?_)
     | refine eqT hE (by omega) ?_
     | refine eqF hE (by omega) ?_
     | refine eqI hE (fun _ => ?_) (fun _ => ?_)
     | refine add64 hE (by omega) (fun _ _ => ?_)
     | refine sub64 hE (by omega) (fun _ _ => ?_)
     | refine addI hE (fun _ _ => ?_)
     | refine subI hE (fun _ _ => ?_)
     | refine lenL hE (by assumption) (fun _ _ _ => ?_)
     | refine len0 hE (fun _ _ => ?_)
     | refine idxL hE (by assumption) (by first | omega | (simp only [List.length_set, mix_len]; omega)) (fun _ _ => ?_)
     | refine idxFill hE (by assumption) (by omega) ?_
     | refine idxI hE (by decide) (by rfl) ?_
     | refine iteB (fun _ => ?_) (fun _ => ?_)
     | refine maxI hE (fun _ _ => ?_)
     | refine minI hE (fun _ _ => ?_)
     | refine seqI hE (fun _ => ?_) (fun _ => ?_)
     | refine scatI hE (by first | omega | (simp only [ByteArray.size, Array.size, List.length_cons, List.length_nil] at *; omega)) (fun _ _ _ => ?_)
     | refine slenI hE (fun _ _ _ => ?_)
     | refine sidxI hE (by omega) (fun _ _ _ _ => ?_)
     | refine needI hE (by first | decide | omega) ?_
     | refine rem64 hE (by omega) (fun _ _ => ?_)
     | refine quo64 hE (by omega) (fun _ _ => ?_)
     | refine wrapU8 hE (by omega) (fun _ _ => ?_)
     | refine wrap64 hE (by omega) (fun _ _ => ?_)
     | refine noownI hE (by simp [AV.isOwn]) ?_) <;> (try conv => cbv))
  all_goals (try clear hN)
  all_goals first
    | omega
    | exact hinv.succ (keepC_mk (by assumption) (by assumption) (by assumption)) (by assumption)
    | (refine finB hK (bP_false.2 fun h => ?_); have k := keepC_ok (h.1 i.toNat (by omega)) (by assumption); first | exact absurd k.1 (by assumption) | exact absurd (by assumption) k.2)
    | exact finB hK (bP_true.2 ⟨hinv.all (by omega), by omega⟩)
    | (refine finB hK (bP_false.2 fun h => ?_); have := h.2; omega)
    | trace_state
theorem notin_all {l : List ByteArray} {i k : Int} {v : ByteArray} (hk : i ≤ k) (hv : l[i.toNat]? = some v) (h : Up (fun j => l[j]? ≠ l[i.toNat]?) k) : v ∉ l.take i.toNat := fun hw => by
  obtain ⟨j, hj⟩ := List.getElem?_of_mem hw
  have hlt := (List.getElem?_eq_some_iff.1 hj).1
  rw [List.length_take] at hlt
  rw [List.getElem?_take, if_pos (by omega)] at hj
  exact h j (by omega) (by rw [hj, hv])
theorem in_take {l : List ByteArray} {i k : Int} {v w : ByteArray} (hw : l[k.toNat]? = some w) (he : w = v) (hk : 0 ≤ k ∧ k < i) : v ∈ l.take i.toNat :=
  List.mem_of_getElem? (i := k.toNat) (by rw [List.getElem?_take, if_pos (by omega), hw, he])
theorem l28Keepers_ {rs : List (List AV)} {t : Bool} {l : List ByteArray} (hl : rs = l.map strR) : AC Try.prog 126 [.sl t 1 rs] AV.bool (bP (KeepersOk l)) := by
  refine ac Try.func126 (by kernel_rfl) (.bool _) fun E K hE hK => ?_
  conv => cbv
  refine loopC hE (ι := Int) [0] [3] (fun q => (fun (i : Int) => [(3, .int .i64 i)]) q) (fun q => (fun (i : Int) => []) q) (fun q => (fun (i : Int) => (l.length - i).toNat) q) (fun q => (fun (i : Int) => 0 ≤ i ∧ Up (KeepC l) i) q) [] (by decide) (0) (by conv => lhs; cbv) (by conv => lhs; cbv) rfl rfl (by dsimp only; exact ⟨by omega, .zero (by omega)⟩) fun i hi Kn hN => ?_
  (try dsimp only at hi)
  conv => cbv
  obtain ⟨h0, hinv⟩ := hi
  repeat' first
    | ((refine loopC hE (ι := Int) [0, 3] [4] (fun q => (fun (k : Int) => [(4, .int .i64 k)]) q) (fun q => (fun (k : Int) => []) q) (fun q => (fun (k : Int) => (i - k).toNat) q) (fun q => (fun (k : Int) => (0 ≤ k ∧ k ≤ i) ∧ Up (fun j => l[j]? ≠ l[i.toNat]?) k) q) [] (by decide) (0) (by conv => lhs; cbv) (by conv => lhs; cbv) rfl rfl (by dsimp only; exact ⟨by omega, .zero (by omega)⟩) fun k hi2 Kn2 hN2 => ?_; (try dsimp only at hi2); conv => cbv); obtain ⟨⟨k0, k1⟩, kinv⟩ := hi2)
    | (refine hN2 _ _ [] (by decide) rfl ⟨?_, ?_⟩ ?_ <;> (try dsimp only))
    | (refine hN _ _ [] (by decide) rfl ⟨?_, ?_⟩ ?_ <;> (try dsimp only))
    | ((first
     | refine idxV hE (by assumption) (by omega) (by assumption) ?_
     | refine callP hE (l01Name_ _) (fun _ => ?_) (fun _ => ?_)
     | refine ltT hE (by omega) ?_
     | refine ltF hE (by omega) ?_
     | refine ltI hE (fun _ => ?_) (fun _ => ?_)
     | refine leT hE (by omega) ?_
     | refine leF hE (by omega) ?_
     | refine leI hE (fun _ => ?_) (fun _ => ?_)
     | refine eqT hE (by omega) ?_
     | refine eqF hE (by omega) ?_
     | refine eqI hE (fun _ => ?_) (fun _ => ?_)
     | refine add64 hE (by omega) (fun _ _ => ?_)
     | refine sub64 hE (by omega) (fun _ _ => ?_)
     | refine addI hE (fun _ _ => ?_)
     | refine subI hE (fun _ _ => ?_)
     | refine lenL hE (by assumption) (fun _ _ _ => ?_)
     | refine len0 hE (fun _ _ => ?_)
     | refine idxL hE (by assumption) (by first | omega | (simp only [List.length_set, mix_len]; omega)) (fun _ _ => ?_)
     | refine idxFill hE (by assumption) (by omega) ?_
     | refine idxI hE (by decide) (by rfl) ?_
     | refine iteB (fun _ => ?_) (fun _ => ?_)
     | refine maxI hE (fun _ _ => ?_)
     | refine minI hE (fun _ _ => ?_)
     | refine seqI hE (fun _ => ?_) (fun _ => ?_)
     | refine scatI hE (by first | omega | (simp only [ByteArray.size, Array.size, List.length_cons, List.length_nil] at *; omega)) (fun _ _ _ => ?_)
     | refine slenI hE (fun _ _ _ => ?_)
     | refine sidxI hE (by omega) (fun _ _ _ _ => ?_)
     | refine needI hE (by first | decide | omega) ?_
     | refine rem64 hE (by omega) (fun _ _ => ?_)
     | refine quo64 hE (by omega) (fun _ _ => ?_)
     | refine wrapU8 hE (by omega) (fun _ _ => ?_)
     | refine wrap64 hE (by omega) (fun _ _ => ?_)
     | refine noownI hE (by simp [AV.isOwn]) ?_) <;> (try conv => cbv))
  all_goals (try clear hN)
  all_goals (try clear hN2)
  all_goals first
    | omega
    | (refine kinv.succ ?_ (by assumption); simp_all; done)
    | exact hinv.succ (keepC_mk (by assumption) (by assumption) (notin_all (by omega) (by assumption) kinv)) (by assumption)
    | (refine finB hK (bP_false.2 fun h => ?_); have k := keepC_ok (h.1 i.toNat (by omega)) (by assumption); first | exact absurd k.1 (by assumption) | exact absurd (in_take (by assumption) (by assumption) (by omega)) k.2 | exact absurd (in_take (by assumption) (Eq.symm (by assumption)) (by omega)) k.2)
    | exact finB hK (bP_true.2 ⟨hinv.all (by omega), by omega⟩)
    | (refine finB hK (bP_false.2 fun h => ?_); have := h.2; omega)
    | trace_state
noncomputable def wkd (l : List Dut) (k : ByteArray) : Int := ((ofKeeper l k).map fun v => v.til - v.frm).sum
theorem wk_min {l : List Dut} (h : DutiesOk l) (k : ByteArray) : minutesR l k 0 143999999 = wkd l k := by
  unfold minutesR wkd
  congr 1
  refine List.map_congr_left fun v hv => ?_
  have h1 := h.all v (List.mem_filter.1 hv).1
  obtain ⟨_, h2, h3, h4, _⟩ := h1
  unfold TimeOk at *
  unfold dutMin
  omega
theorem dur_bd {l : List Dut} (h : DutiesOk l) (k : ByteArray) : ∀ v ∈ ofKeeper l k, (0 ≤ v.frm ∧ v.frm ≤ 143999999 ∧ 0 ≤ v.til ∧ v.til ≤ 143999999) ∧ 0 ≤ v.til - v.frm ∧ v.til - v.frm ≤ (143999999 : Nat) := fun v hv => by
  have h1 := h.all v (List.mem_filter.1 hv).1
  obtain ⟨_, h2, h3, h4, _⟩ := h1
  unfold TimeOk at *
  omega
theorem wk_bd {l : List Dut} (h : DutiesOk l) (k : ByteArray) : 0 ≤ wkd l k ∧ wkd l k ≤ 10000000000 := by
  have h1 := sumI_bd (fun v : Dut => v.til - v.frm) (fun v hv => (dur_bd h k v hv).2) (ofKeeper l k).length (Nat.le_refl _)
  rw [sumI_all _ _ (Int.le_refl _)] at h1
  have h2 := ofKeeper_len l k
  have h3 := h.2
  unfold wkd
  omega
theorem worked_ {rs : List (List AV)} {t : Bool} {l : List Dut} (k : ByteArray) (hl : rs = l.map Dut.cs) (h : DutiesOk l) : AC Try.prog 128 [.sl t 3 rs, .str k] (AV.int .i64) (wkd l k) := by
  refine ac Try.func128 (by kernel_rfl) (.int _ _) fun E K hE hK => ?_
  conv => cbv
  refine callI hE (minutes_ k 0 143999999 hl h ⟨by omega, by omega⟩ ⟨by omega, by omega⟩) fun y hy => ?_
  conv => cbv
  exact hK _ (by rw [hy, wk_min h]; rfl)
def mxF {α : Type} (f : α → Int) (a : Int) (l : List α) : Int := l.foldl (fun m x => max m (f x)) a
def mnF {α : Type} (f : α → Int) (a : Int) (l : List α) : Int := l.foldl (fun m x => min m (f x)) a
theorem mxF_step {α : Type} (f : α → Int) (a : Int) {l : List α} {i : Int} {v : α} (h0 : 0 ≤ i) (hv : l[i.toNat]? = some v) : mxF f a (l.take (i + 1).toNat) = max (mxF f a (l.take i.toNat)) (f v) := by
  unfold mxF
  rw [show (i + 1).toNat = i.toNat + 1 by omega, List.take_add_one, hv, List.foldl_append]; rfl
theorem mnF_step {α : Type} (f : α → Int) (a : Int) {l : List α} {i : Int} {v : α} (h0 : 0 ≤ i) (hv : l[i.toNat]? = some v) : mnF f a (l.take (i + 1).toNat) = min (mnF f a (l.take i.toNat)) (f v) := by
  unfold mnF
  rw [show (i + 1).toNat = i.toNat + 1 by omega, List.take_add_one, hv, List.foldl_append]; rfl
def k0 (ks : List ByteArray) : ByteArray := ks.getD 0 ⟨#[]⟩
theorem k0_eq {ks : List ByteArray} {i : Int} {v : ByteArray} (hi : i = 0) (hv : ks[i.toNat]? = some v) : k0 ks = v := by
  subst hi
  unfold k0; rw [List.getD_eq_getElem?_getD]
  exact congrArg (fun o => Option.getD o _) hv
noncomputable def unevenR (l : List Dut) (ks : List ByteArray) : Int × Int := if DutiesOk l ∧ KeepersOk ks then (mxF (wkd l) (wkd l (k0 ks)) ks - mnF (wkd l) (wkd l (k0 ks)) ks, 0) else (0, 1)
theorem unevenBy_ {rs ps : List (List AV)} {t t' : Bool} {l : List Dut} {ks : List ByteArray} (hl : rs = l.map Dut.cs) (hp : ps = ks.map strR) : AC Try.prog 51 [.sl t 3 rs, .sl t' 1 ps] two (unevenR l ks) := by
  refine ac Try.func51 (by kernel_rfl) (.two _) fun E K hE hK => ?_
  conv => cbv
  refine callP hE (validDuties_ hl) (fun hd => ?_) (fun hd => ?_) <;> conv => cbv
  · refine callP hE (areKeepers_ hp) (fun hk => ?_) (fun hk => ?_) <;> conv => cbv
    · have hlen := hk.2
      refine idxL hE hp (by omega) fun v0 hv0 => ?_
      conv => cbv
      refine callI hE (worked_ v0 hl hd) fun a ha => ?_
      conv => cbv
      refine idxV hE hp (by omega) hv0 ?_
      conv => cbv
      refine callI hE (worked_ v0 hl hd) fun b hb => ?_
      conv => cbv
      refine lenL hE hp fun n hn hbn => ?_
      conv => cbv
      have hk0 := k0_eq rfl hv0
      have hw0 := wk_bd hd v0
      refine loopC hE (ι := Int × Int × Int) [0, 28, 29] [6, 7, 30] (fun q => (fun (i : Int) (x : Int) (y : Int) => [(6, .int .i64 x), (7, .int .i64 y), (30, .int .i64 i)]) q.1 q.2.1 q.2.2) (fun q => (fun (i : Int) (x : Int) (y : Int) => []) q.1 q.2.1 q.2.2) (fun q => (fun (i : Int) (x : Int) (y : Int) => (n - i).toNat) q.1 q.2.1 q.2.2) (fun q => (fun (i : Int) (x : Int) (y : Int) => (0 ≤ i ∧ i ≤ n) ∧ (0 ≤ x ∧ x ≤ 10000000000 ∧ 0 ≤ y ∧ y ≤ 10000000000) ∧ x = mxF (wkd l) (wkd l (k0 ks)) (ks.take i.toNat) ∧ y = mnF (wkd l) (wkd l (k0 ks)) (ks.take i.toNat)) q.1 q.2.1 q.2.2) [] (by decide) ((0, a, b)) (by conv => lhs; cbv) (by conv => lhs; cbv) rfl rfl (by dsimp only; exact ⟨by omega, by omega, by rw [ha, hk0]; rfl, by rw [hb, hk0]; rfl⟩) fun q hi Kn hN => ?_
      obtain ⟨i, x, y⟩ := q
      (try dsimp only at hi)
      conv => cbv
      obtain ⟨⟨h0, h1⟩, h2, h3, h4⟩ := hi
      repeat' first
        | (refine idxL hE hp (by omega) (fun v hv => ?_); have hm := mxF_step (wkd l) (wkd l (k0 ks)) h0 hv; have hmn := mnF_step (wkd l) (wkd l (k0 ks)) h0 hv; have hw := wk_bd hd v; (try conv => cbv))
        | (refine hN (_, _, _) _ [] (by decide) rfl ⟨?_, ?_, ?_, ?_⟩ ?_ <;> (try dsimp only))
        | ((first
         | refine idxV hE (by assumption) (by omega) (by assumption) ?_
         | refine callI hE (worked_ _ hl hd) (fun _ _ => ?_)
         | refine ltT hE (by omega) ?_
         | refine ltF hE (by omega) ?_
         | refine ltI hE (fun _ => ?_) (fun _ => ?_)
         | refine leT hE (by omega) ?_
         | refine leF hE (by omega) ?_
         | refine leI hE (fun _ => ?_) (fun _ => ?_)
         | refine eqT hE (by omega) ?_
         | refine eqF hE (by omega) ?_
         | refine eqI hE (fun _ => ?_) (fun _ => ?_)
         | refine add64 hE (by omega) (fun _ _ => ?_)
         | refine sub64 hE (by omega) (fun _ _ => ?_)
         | refine addI hE (fun _ _ => ?_)
         | refine subI hE (fun _ _ => ?_)
         | refine lenL hE (by assumption) (fun _ _ _ => ?_)
         | refine len0 hE (fun _ _ => ?_)
         | refine idxL hE (by assumption) (by first | omega | (simp only [List.length_set, mix_len]; omega)) (fun _ _ => ?_)
         | refine idxFill hE (by assumption) (by omega) ?_
         | refine idxI hE (by decide) (by rfl) ?_
         | refine iteB (fun _ => ?_) (fun _ => ?_)
         | refine maxI hE (fun _ _ => ?_)
         | refine minI hE (fun _ _ => ?_)
         | refine seqI hE (fun _ => ?_) (fun _ => ?_)
         | refine scatI hE (by first | omega | (simp only [ByteArray.size, Array.size, List.length_cons, List.length_nil] at *; omega)) (fun _ _ _ => ?_)
         | refine slenI hE (fun _ _ _ => ?_)
         | refine sidxI hE (by omega) (fun _ _ _ _ => ?_)
         | refine needI hE (by first | decide | omega) ?_
         | refine rem64 hE (by omega) (fun _ _ => ?_)
         | refine quo64 hE (by omega) (fun _ _ => ?_)
         | refine wrapU8 hE (by omega) (fun _ _ => ?_)
         | refine wrap64 hE (by omega) (fun _ _ => ?_)
         | refine noownI hE (by simp [AV.isOwn]) ?_) <;> (try conv => cbv))
      all_goals first
        | omega
        | (rename_i hn1; rw [hn1, hm]; omega)
        | (rename_i hn1; rw [hn1, hmn]; omega)
        | (refine hK _ ?_; rw [unevenR, if_pos ⟨hd, hk⟩]; rename_i hr; rw [List.take_of_length_le (by omega)] at h3 h4; rw [hr, h3, h4]; rfl)
        | trace_state
    · refine hK _ ?_
      rw [unevenR, if_neg (fun h => hk h.2)]; rfl
  · refine hK _ ?_
    rw [unevenR, if_neg (fun h => hd h.1)]; rfl
theorem sUnevenBy_ {rs ps : List (List AV)} {t t' : Bool} {l : List Dut} {ks : List ByteArray} (hl : rs = l.map Dut.cs) (hp : ps = ks.map strR) : AC Try.prog 49 [.sl t 3 rs, .sl t' 1 ps] two (unevenR l ks) := by
  refine ac Try.func49 (by kernel_rfl) (.two _) fun E K hE hK => ?_
  conv => cbv
  refine callP hE (l28Ok_ hl) (fun hd => ?_) (fun hd => ?_) <;> conv => cbv
  · refine callP hE (l28Keepers_ hp) (fun hk => ?_) (fun hk => ?_) <;> conv => cbv
    · have hlen := hk.2
      have h60 := hd.2
      refine loopC hE (ι := Int × Int × Int) [0, 1] [6, 7, 8] (fun q => (fun (i : Int) (x : Int) (y : Int) => [(6, .int .i64 x), (7, .int .i64 y), (8, .int .i64 i)]) q.1 q.2.1 q.2.2) (fun q => (fun (i : Int) (x : Int) (y : Int) => []) q.1 q.2.1 q.2.2) (fun q => (fun (i : Int) (x : Int) (y : Int) => (ks.length - i).toNat) q.1 q.2.1 q.2.2) (fun q => (fun (i : Int) (x : Int) (y : Int) => (0 ≤ i ∧ i ≤ ks.length) ∧ (0 ≤ x ∧ x ≤ 10000000000 ∧ 0 ≤ y ∧ y ≤ 10000000000) ∧ (0 < i → x = mxF (wkd l) (wkd l (k0 ks)) (ks.take i.toNat) ∧ y = mnF (wkd l) (wkd l (k0 ks)) (ks.take i.toNat))) q.1 q.2.1 q.2.2) [] (by decide) ((0, 0, 0)) (by conv => lhs; cbv) (by conv => lhs; cbv) rfl rfl (by dsimp only; exact ⟨by omega, by omega, fun h => by omega⟩) fun q hi Kn hN => ?_
      obtain ⟨i, x, y⟩ := q
      (try dsimp only at hi)
      conv => cbv
      obtain ⟨⟨h0, h1⟩, h2, h3⟩ := hi
      repeat' first
        | (refine idxL hE hp (by omega) (fun v hv => ?_); have hm := mxF_step (wkd l) (wkd l (k0 ks)) h0 hv; have hmn := mnF_step (wkd l) (wkd l (k0 ks)) h0 hv; have hw := wk_bd hd v; have hkv : i = 0 → k0 ks = v := (fun h => k0_eq h hv); (try conv => cbv))
        | (refine callR hE (l28Of_ v hl (by omega)) (fun rs1 hrs1 => ?_); have hbd := dur_bd hd v; have hfl := ofKeeper_len l v; (try conv => cbv))
        | ((refine loopC hE (ι := Int × Int) [0, 1, 6, 7, 8, 9] [11, 10] (fun q => (fun (k : Int) (m : Int) => [(11, .int .i64 k), (10, .int .i64 m)]) q.1 q.2) (fun q => (fun (k : Int) (m : Int) => [.row 3 rs1]) q.1 q.2) (fun q => (fun (k : Int) (m : Int) => ((ofKeeper l v).length - k).toNat) q.1 q.2) (fun q => (fun (k : Int) (m : Int) => (0 ≤ k ∧ k ≤ (ofKeeper l v).length) ∧ m = sumI (fun v : Dut => v.til - v.frm) (ofKeeper l v) k) q.1 q.2) [0] (by decide) ((0, 0)) (by conv => lhs; cbv) (by conv => lhs; cbv) rfl rfl (by dsimp only; exact ⟨by omega, by rw [sumI_zero (by omega)]⟩) fun q hi2 Kn2 hN2 => ?_; obtain ⟨k, m⟩ := q; (try dsimp only at hi2); conv => cbv); obtain ⟨⟨g0, g1⟩, g2⟩ := hi2; have hs := sumI_bd (fun v : Dut => v.til - v.frm) (fun v hv => (hbd v hv).2) k.toNat (by omega); rw [show ((k.toNat : Nat) : Int) = k by omega, ← g2] at hs; have hall := sumI_all (fun v : Dut => v.til - v.frm) (ofKeeper l v) (i := k); have hwk : wkd l v = ((ofKeeper l v).map fun v : Dut => v.til - v.frm).sum := rfl)
        | (refine idxV hE hrs1 (by omega) (by assumption) ?_; (try conv => cbv))
        | (refine idxL hE hrs1 (by omega) (fun d hv => ?_); have hv2 := hbd d (List.mem_of_getElem? hv); have hv3 := sumI_succ (fun v : Dut => v.til - v.frm) g0 hv; obtain ⟨keeper, frm, til⟩ := d; simp only at hv2 hv3; (try conv => cbv))
        | (refine hN2 (_, _) _ [0] (by decide) rfl ⟨?_, ?_⟩ ?_ <;> (try dsimp only))
        | (refine hN (_, _, _) _ [] (by decide) rfl ⟨?_, ?_, ?_⟩ ?_ <;> (try dsimp only))
        | ((first
         | refine idxV hE (by assumption) (by omega) (by assumption) ?_
         | refine ltT hE (by omega) ?_
         | refine ltF hE (by omega) ?_
         | refine ltI hE (fun _ => ?_) (fun _ => ?_)
         | refine leT hE (by omega) ?_
         | refine leF hE (by omega) ?_
         | refine leI hE (fun _ => ?_) (fun _ => ?_)
         | refine eqT hE (by omega) ?_
         | refine eqF hE (by omega) ?_
         | refine eqI hE (fun _ => ?_) (fun _ => ?_)
         | refine add64 hE (by omega) (fun _ _ => ?_)
         | refine sub64 hE (by omega) (fun _ _ => ?_)
         | refine addI hE (fun _ _ => ?_)
         | refine subI hE (fun _ _ => ?_)
         | refine lenL hE (by assumption) (fun _ _ _ => ?_)
         | refine len0 hE (fun _ _ => ?_)
         | refine idxL hE (by assumption) (by first | omega | (simp only [List.length_set, mix_len]; omega)) (fun _ _ => ?_)
         | refine idxFill hE (by assumption) (by omega) ?_
         | refine idxI hE (by decide) (by rfl) ?_
         | refine iteB (fun _ => ?_) (fun _ => ?_)
         | refine maxI hE (fun _ _ => ?_)
         | refine minI hE (fun _ _ => ?_)
         | refine seqI hE (fun _ => ?_) (fun _ => ?_)
         | refine scatI hE (by first | omega | (simp only [ByteArray.size, Array.size, List.length_cons, List.length_nil] at *; omega)) (fun _ _ _ => ?_)
         | refine slenI hE (fun _ _ _ => ?_)
         | refine sidxI hE (by omega) (fun _ _ _ _ => ?_)
         | refine needI hE (by first | decide | omega) ?_
         | refine rem64 hE (by omega) (fun _ _ => ?_)
         | refine quo64 hE (by omega) (fun _ _ => ?_)
         | refine wrapU8 hE (by omega) (fun _ _ => ?_)
         | refine wrap64 hE (by omega) (fun _ _ => ?_)
         | refine noownI hE (by simp [AV.isOwn]) ?_) <;> (try conv => cbv))
      all_goals (try clear hN)
      all_goals (try clear hN2)
      all_goals first
        | omega
        | (rename_i hn1; rw [hn1, hv3]; omega)
        | (intro _; rename_i hn1 hpos; rw [hn1, hm, hmn]; rcases Int.lt_or_le 0 i with hi0 | hi0 <;> first | (have h4 := h3 hi0; omega) | (have e0 : i = 0 := (by omega); have := hkv e0; rw [this, e0]; simp only [Int.toNat_zero, List.take_zero, mxF, mnF, List.foldl_nil]; omega))
        | (refine hK _ ?_; rw [unevenR, if_pos ⟨hd, hk⟩]; rename_i hr; have h4 := h3 (by omega); rw [List.take_of_length_le (by omega)] at h4; rw [hr, h4.1, h4.2]; rfl)
        | trace_state
    · refine hK _ ?_
      rw [unevenR, if_neg (fun h => hk h.2)]; rfl
  · refine hK _ ?_
    rw [unevenR, if_neg (fun h => hd h.1)]; rfl
theorem lawUnevenBy {rs ps : List (List AV)} {t t' : Bool} {l : List Dut} {ks : List ByteArray} (hl : rs = l.map Dut.cs) (hp : ps = ks.map strR) : AC Try.prog 9 [.sl t 3 rs, .sl t' 1 ps] id (.bool true) := by
  refine ac Try.func9 (by kernel_rfl) (.bool _) fun E K hE hK => ?_
  conv => cbv
  repeat' first
    | (refine callI hE (szDutyS_ _ hl (by decide)) (fun y hy => ?_); have hz := szN_or 1048576 (l.length + (l.map Dut.sz).sum); rw [← hy] at hz; clear hy; (try conv => cbv))
    | (refine callI hE (szStringS_ _ hp (by omega)) (fun y2 hy => ?_); have hz2 := szN_or y (ks.length + (ks.map ByteArray.size).sum); rw [← hy] at hz2; clear hy; (try conv => cbv))
    | ((first
     | refine idxV hE (by assumption) (by omega) (by assumption) ?_
     | refine callR hE (toDutyS_ hl (by omega)) (fun _ _ => ?_)
     | refine callR hE (toStringS_ hp (by omega)) (fun _ _ => ?_)
     | refine callII hE (sUnevenBy_ (by assumption) (by assumption)) (fun _ _ _ _ => ?_)
     | refine callII hE (unevenBy_ (by assumption) (by assumption)) (fun _ _ _ _ => ?_)
     | refine callPT hE (eqDutyS_ (by assumption) (by assumption)) rfl ?_
     | refine callPT hE (eqStringS_ (by assumption) (by assumption)) rfl ?_
     | refine ltT hE (by omega) ?_
     | refine ltF hE (by omega) ?_
     | refine ltI hE (fun _ => ?_) (fun _ => ?_)
     | refine leT hE (by omega) ?_
     | refine leF hE (by omega) ?_
     | refine leI hE (fun _ => ?_) (fun _ => ?_)
     | refine eqT hE (by omega) ?_
     | refine eqF hE (by omega) ?_
     | refine eqI hE (fun _ => ?_) (fun _ => ?_)
     | refine add64 hE (by omega) (fun _ _ => ?_)
     | refine sub64 hE (by omega) (fun _ _ => ?_)
     | refine addI hE (fun _ _ => ?_)
     | refine subI hE (fun _ _ => ?_)
     | refine lenL hE (by assumption) (fun _ _ _ => ?_)
     | refine len0 hE (fun _ _ => ?_)
     | refine idxL hE (by assumption) (by first | omega | (simp only [List.length_set, mix_len]; omega)) (fun _ _ => ?_)
     | refine idxFill hE (by assumption) (by omega) ?_
     | refine idxI hE (by decide) (by rfl) ?_
     | refine iteB (fun _ => ?_) (fun _ => ?_)
     | refine maxI hE (fun _ _ => ?_)
     | refine minI hE (fun _ _ => ?_)
     | refine seqI hE (fun _ => ?_) (fun _ => ?_)
     | refine scatI hE (by first | omega | (simp only [ByteArray.size, Array.size, List.length_cons, List.length_nil] at *; omega)) (fun _ _ _ => ?_)
     | refine slenI hE (fun _ _ _ => ?_)
     | refine sidxI hE (by omega) (fun _ _ _ _ => ?_)
     | refine needI hE (by first | decide | omega) ?_
     | refine rem64 hE (by omega) (fun _ _ => ?_)
     | refine quo64 hE (by omega) (fun _ _ => ?_)
     | refine wrapU8 hE (by omega) (fun _ _ => ?_)
     | refine wrap64 hE (by omega) (fun _ _ => ?_)
     | refine noownI hE (by simp [AV.isOwn]) ?_) <;> (try conv => cbv))
  all_goals first
    | exact hK _ rfl
    | omega
    | trace_state
end Go.Proofs.Ytmliclmglgimbaa
