/- Texts that are cut, numbers by their letters, the texts of visits: plain laws. -/
import Derived.Test.YtnfjhadaclcgeaaGreatDoorDec
import Derived.Test.YtnfjhadaclcgeaaGreatDoorFnm
namespace Go.Proofs.YtnfjhadaclcgeaaGreatDoor
open Go Go.RowKit Classical
set_option maxRecDepth 100000
set_option maxHeartbeats 2000000
set_option linter.unusedVariables false
set_option linter.unusedSimpArgs false
theorem szl (s : ByteArray) : s.data.toList.length = s.size := Array.length_toList
theorem get_at {s : ByteArray} {j : Nat} (h : j < s.size) : s.data.toList[j]? = some (s.data.getD j 0) := by
  rw [Array.getElem?_toList, Array.getD_eq_getD_getElem?, Array.getElem?_eq_getElem (show j < s.data.size from h)]; rfl
/-! The loop that cuts. -/
def CutJ (c : UInt8) (s : ByteArray) (f i : Nat) (out : List ByteArray) : Prop :=
  out.map (·.data.toList) ++ glue (s.extract f i).data.toList (cutC c (s.data.toList.drop i)) = cutC c s.data.toList
theorem CutJ.zero (c : UInt8) (s : ByteArray) : CutJ c s 0 0 [] := by
  unfold CutJ
  rw [show (s.extract 0 0).data.toList = [] by rw [Lib.extract_data]; simp, List.drop_zero, glue_nil (cutC_ne c _)]; rfl
theorem drop_at {s : ByteArray} {i : Nat} (h : i < s.size) : s.data.toList.drop i = s.data.getD i 0 :: s.data.toList.drop (i + 1) := by
  have h2 : i < s.data.toList.length := by rw [szl]; exact h
  have h3 := get_at h
  rw [List.getElem?_eq_getElem h2] at h3
  rw [List.drop_eq_getElem_cons h2, Option.some.inj h3]
theorem seg_succ {s : ByteArray} {f i : Nat} (hf : f ≤ i) (h : i < s.size) : (s.extract f (i + 1)).data.toList = (s.extract f i).data.toList ++ [s.data.getD i 0] := by
  rw [Lib.extract_data, Lib.extract_data, show i + 1 - f = (i - f) + 1 by omega, List.take_add_one, List.getElem?_drop, show f + (i - f) = i by omega, get_at h]
  rfl
theorem CutJ.hit {c : UInt8} {s : ByteArray} {f i : Nat} {out : List ByteArray} (h : CutJ c s f i out) (hi : i < s.size) (hc : s.data.getD i 0 = c) : CutJ c s (i + 1) (i + 1) (out ++ [s.extract f i]) := by
  unfold CutJ at *
  rw [← h, drop_at hi, hc, cutC, if_pos rfl, show (s.extract (i + 1) (i + 1)).data.toList = [] by rw [Lib.extract_data]; simp, glue_nil (cutC_ne c _)]
  simp [glue]
theorem CutJ.miss {c : UInt8} {s : ByteArray} {f i : Nat} {out : List ByteArray} (h : CutJ c s f i out) (hf : f ≤ i) (hi : i < s.size) (hc : s.data.getD i 0 ≠ c) : CutJ c s f (i + 1) out := by
  unfold CutJ at *
  rw [← h, drop_at hi, cutC, if_neg hc, glue_glue, seg_succ hf hi]
theorem CutJ.done {c : UInt8} {s : ByteArray} {f : Nat} {out : List ByteArray} (h : CutJ c s f s.size out) : out ++ [s.extract f s.size] = cutS c s := by
  unfold CutJ at h
  rw [List.drop_eq_nil_of_le (by rw [szl]; exact Nat.le_refl _), cutC] at h
  unfold cutS
  rw [← h, List.map_append, List.map_map]
  congr 1
  · exact (List.map_id' _).symm
  · show _ = [(⟨((s.extract f s.size).data.toList ++ []).toArray⟩ : ByteArray)]
    rw [List.append_nil]
theorem cutC_len (c : UInt8) : ∀ l : List UInt8, (cutC c l).length ≤ l.length + 1
  | [] => Nat.le_refl _
  | b :: l => by
    have ih := cutC_len c l
    rw [cutC]
    split
    · simp; omega
    · cases h : cutC c l with
      | nil => simp [glue]
      | cons x r => rw [h] at ih; simp [glue] at ih ⊢; omega
theorem cutC_mem (c : UInt8) : ∀ (l x : List UInt8), x ∈ cutC c l → x.length ≤ l.length
  | [], x, h => by simp [cutC] at h; simp [h]
  | b :: l, x, h => by
    rw [cutC] at h
    split at h
    · rcases List.mem_cons.1 h with h | h
      · simp [h]
      · have := cutC_mem c l x h; simp; omega
    · cases hl : cutC c l with
      | nil => exact (cutC_ne c l hl).elim
      | cons y r =>
        rw [hl] at h
        simp only [glue, List.mem_cons] at h
        rcases h with h | h
        · have := cutC_mem c l y (by rw [hl]; simp); rw [h]; simp; omega
        · have := cutC_mem c l x (by rw [hl]; simp [h]); simp; omega
theorem cutS_len (c : UInt8) (s : ByteArray) : (cutS c s).length ≤ s.size + 1 := by
  unfold cutS
  rw [List.length_map]
  exact Nat.le_trans (cutC_len c _) (by rw [szl]; exact Nat.le_refl _)
theorem cutS_mem {c : UInt8} {s x : ByteArray} (h : x ∈ cutS c s) : x.size ≤ s.size := by
  unfold cutS at h
  obtain ⟨l, hl, rfl⟩ := List.mem_map.1 h
  have := cutC_mem c _ l hl
  rw [szl] at this
  exact this
/-! The texts of visits. -/
def visTxt (v : Vis) : List UInt8 := Lib.itoa v.aid ++ 32 :: (Lib.itoa v.every ++ 32 :: Lib.itoa v.last)
theorem cut_visTxt (v : Vis) : cutC 32 (visTxt v) = [Lib.itoa v.aid, Lib.itoa v.every, Lib.itoa v.last] :=
  cutC_three 32 _ _ _ (itoa_no32 _) (itoa_no32 _) (itoa_no32 _)
theorem Vis.ok.num {v : Vis} (h : v.ok) : Numl (Lib.itoa v.aid) v.aid ∧ Numl (Lib.itoa v.every) v.every ∧ Numl (Lib.itoa v.last) v.last := by
  obtain ⟨⟨h1, h2⟩, ⟨h3, h4⟩, h5, h6⟩ := h
  exact ⟨⟨rfl, by omega, by omega⟩, ⟨rfl, by omega, by omega⟩, ⟨rfl, by omega, by omega⟩⟩
def VisIs (l : List UInt8) (v : Vis) : Prop := v.ok ∧ l = visTxt v
theorem VisIs.uniq {l : List UInt8} {v u : Vis} (h : VisIs l v) (k : VisIs l u) : v = u := by
  have e := (cut_visTxt v).symm.trans ((congrArg (cutC 32) (h.2.symm.trans k.2)).trans (cut_visTxt u))
  injection e with e1 e2
  injection e2 with e2 e3
  injection e3 with e3 _
  obtain ⟨a1, a2, a3⟩ := h.1.num
  obtain ⟨b1, b2, b3⟩ := k.1.num
  rw [e1] at a1; rw [e2] at a2; rw [e3] at a3
  cases v; cases u
  simp only at *
  rw [a1.uniq b1, a2.uniq b2, a3.uniq b3]
noncomputable def visOf (l : List UInt8) : Vis × Bool := if h : ∃ v, VisIs l v then (h.choose, true) else (⟨0, 0, 0⟩, false)
theorem visOf_yes {l : List UInt8} {v : Vis} (h : VisIs l v) : visOf l = (v, true) := by
  have hh : ∃ v, VisIs l v := ⟨v, h⟩
  unfold visOf
  rw [dif_pos hh, hh.choose_spec.uniq h]
theorem visOf_no {l : List UInt8} (h : ∀ v, ¬ VisIs l v) : visOf l = (⟨0, 0, 0⟩, false) := by
  unfold visOf
  rw [dif_neg (fun ⟨n, hn⟩ => h n hn)]
def bL (l : List UInt8) : ByteArray := ⟨l.toArray⟩
theorem bL_list (s : ByteArray) : bL s.data.toList = s := rfl
theorem list_bL (l : List UInt8) : (bL l).data.toList = l := rfl
/-- By the parts. -/
theorem visOf_cut (s : ByteArray) : visOf s.data.toList = match cutS 32 s with
    | [x, y, z] => if ((numOf x.data.toList).2 = true ∧ (numOf y.data.toList).2 = true ∧ (numOf z.data.toList).2 = true) ∧ Vis.ok ⟨(numOf x.data.toList).1, (numOf y.data.toList).1, (numOf z.data.toList).1⟩ then (⟨(numOf x.data.toList).1, (numOf y.data.toList).1, (numOf z.data.toList).1⟩, true) else (⟨0, 0, 0⟩, false)
    | _ => (⟨0, 0, 0⟩, false) := by
  by_cases h : ∃ v, VisIs s.data.toList v
  · obtain ⟨v, hv⟩ := h
    rw [visOf_yes hv]
    have hc : cutS 32 s = [bL (Lib.itoa v.aid), bL (Lib.itoa v.every), bL (Lib.itoa v.last)] := by
      unfold cutS; rw [hv.2, cut_visTxt]; rfl
    obtain ⟨n1, n2, n3⟩ := hv.1.num
    rw [hc]
    simp only [list_bL, numOf_yes n1, numOf_yes n2, numOf_yes n3]
    first | done | rw [if_pos ⟨⟨trivial, trivial, trivial⟩, hv.1⟩]
  · rw [visOf_no fun v hv => h ⟨v, hv⟩]
    split
    · rename_i x y z hc
      rw [if_neg]
      rintro ⟨⟨hx, hy, hz⟩, hok⟩
      rcases numOf_cases x.data.toList with ⟨a, ha, ea⟩ | ⟨_, ea⟩
      · rcases numOf_cases y.data.toList with ⟨b, hb, eb⟩ | ⟨_, eb⟩
        · rcases numOf_cases z.data.toList with ⟨d, hd, ed⟩ | ⟨_, ed⟩
          · rw [ea, eb, ed] at hok
            refine h ⟨⟨a, b, d⟩, hok, ?_⟩
            have hj := joinC_cut 32 s.data.toList
            have hl : cutC 32 s.data.toList = [x.data.toList, y.data.toList, z.data.toList] := by
              have := congrArg (List.map (fun b : ByteArray => b.data.toList)) hc
              unfold cutS at this
              rw [List.map_map] at this
              refine Eq.trans ?_ this
              exact (List.map_id' _).symm
            rw [hl] at hj
            rw [← hj, ha.1, hb.1, hd.1]; rfl
          · rw [ed] at hz; cases hz
        · rw [eb] at hy; cases hy
      · rw [ea] at hx; cases hx
    · rfl
def isE (x : ByteArray) : Prop := x = ⟨#[]⟩
noncomputable def wordsOf (s : ByteArray) : List ByteArray := rej isE (cutS 32 s)
theorem words_txt {s : ByteArray} {v : Vis} (h : s.data.toList = visTxt v) : wordsOf s = [bL (Lib.itoa v.aid), bL (Lib.itoa v.every), bL (Lib.itoa v.last)] := by
  have hc : cutS 32 s = [bL (Lib.itoa v.aid), bL (Lib.itoa v.every), bL (Lib.itoa v.last)] := by
    unfold cutS; rw [h, cut_visTxt]; rfl
  have hn : ∀ n : Int, ¬ isE (bL (Lib.itoa n)) := fun n e => by
    have : (bL (Lib.itoa n)).data.toList = [] := by rw [show bL (Lib.itoa n) = ⟨#[]⟩ from e]
    exact itoa_ne n this
  unfold wordsOf
  rw [hc]
  simp [rej, hn]
theorem words_sub {s x : ByteArray} (h : x ∈ wordsOf s) : x.size ≤ s.size := cutS_mem (List.mem_filter.1 h).1
theorem words_len (s : ByteArray) : (wordsOf s).length ≤ s.size + 1 := Nat.le_trans (rej_len _ _) (cutS_len _ _)
/-- By the words. -/
theorem visOf_words3 (s : ByteArray) (h : (wordsOf s).length ≠ 3) : visOf s.data.toList = (⟨0, 0, 0⟩, false) :=
  visOf_no fun v hv => h (by rw [words_txt hv.2]; rfl)
noncomputable def vtext (v : Vis) : ByteArray := if v.ok then bL (visTxt v) else ⟨#[]⟩
theorem visOf_wordsY {s : ByteArray} {v : Vis} (hs : wordsOf s ≠ []) (h : vtext v = s) : visOf s.data.toList = (v, true) := by
  unfold vtext at h
  split at h
  · rename_i hok
    exact visOf_yes ⟨hok, by rw [← h]; rfl⟩
  · refine (hs ?_).elim
    rw [← h]; unfold wordsOf cutS; simp [cutC, rej, isE]
theorem visOf_wordsN {s x y z : ByteArray} (hw : wordsOf s = [x, y, z]) (h : ¬ (((numOf x.data.toList).2 = true ∧ (numOf y.data.toList).2 = true ∧ (numOf z.data.toList).2 = true) ∧ vtext ⟨(numOf x.data.toList).1, (numOf y.data.toList).1, (numOf z.data.toList).1⟩ = s)) : visOf s.data.toList = (⟨0, 0, 0⟩, false) :=
  visOf_no fun v hv => h (by
    have e := hw.symm.trans (words_txt hv.2)
    injection e with e1 e2
    injection e2 with e2 e3
    injection e3 with e3 _
    obtain ⟨n1, n2, n3⟩ := hv.1.num
    subst e1 e2 e3
    simp only [list_bL, numOf_yes n1, numOf_yes n2, numOf_yes n3]
    refine ⟨⟨trivial, trivial, trivial⟩, ?_⟩
    unfold vtext
    rw [if_pos hv.1, ← hv.2, bL_list])
/-! Numbers by their letters. -/
theorem mem_seg {s : ByteArray} {a i : Nat} {c : UInt8} (hi : i ≤ s.size) : c ∈ (s.extract a i).data.toList ↔ ∃ j, (a ≤ j ∧ j < i) ∧ s.data.getD j 0 = c := by
  rw [Lib.extract_data, List.mem_iff_getElem?]
  constructor
  · rintro ⟨j, hj⟩
    rw [List.getElem?_take] at hj
    split at hj
    · rw [List.getElem?_drop, get_at (by omega)] at hj
      exact ⟨a + j, by omega, Option.some.inj hj⟩
    · cases hj
  · rintro ⟨j, ⟨h1, h2⟩, rfl⟩
    refine ⟨j - a, ?_⟩
    rw [List.getElem?_take, if_pos (by omega), List.getElem?_drop, show a + (j - a) = j by omega, get_at (by omega)]
theorem dg_chr {s : ByteArray} {j : Nat} : dgB (s.data.getD j 0) ↔ isDg (chr s j) := by unfold dgB isDg chr; omega
def NumJ (s : ByteArray) (a i : Nat) (n : Int) : Prop := (∀ j, a ≤ j → j < i → isDg (chr s j)) ∧ n = (valD 0 (s.extract a i).data.toList : Int)
theorem seg_nil (s : ByteArray) (a : Nat) : (s.extract a a).data.toList = [] := by rw [Lib.extract_data]; simp
theorem NumJ.zero (s : ByteArray) (a : Nat) : NumJ s a a 0 := ⟨fun j h1 h2 => by omega, by rw [seg_nil]; rfl⟩
theorem NumJ.step {s : ByteArray} {a i : Nat} {n : Int} (h : NumJ s a i n) (ha : a ≤ i) (hi : i < s.size) (hd : isDg (chr s i)) : NumJ s a (i + 1) (10 * n + (chr s i - 48)) := by
  refine ⟨fun j h1 h2 => ?_, ?_⟩
  · by_cases e : j = i
    · rw [e]; exact hd
    · exact h.1 j h1 (by omega)
  · rw [seg_succ ha hi, valD_snoc, h.2]
    unfold isDg chr at *
    omega
theorem NumJ.dgs {s : ByteArray} {a i : Nat} {n : Int} (h : NumJ s a i n) (hi : i ≤ s.size) : ∀ c ∈ (s.extract a i).data.toList, dgB c := fun c hc => by
  obtain ⟨j, ⟨h1, h2⟩, rfl⟩ := (mem_seg hi).1 hc
  exact dg_chr.2 (h.1 j h1 h2)
theorem seg_len {s : ByteArray} {a i : Nat} (hi : i ≤ s.size) : (s.extract a i).data.toList.length = i - a := by
  rw [Lib.extract_data, List.length_take, List.length_drop]
  have := szl s
  omega
theorem NumJ.bound {s : ByteArray} {a i : Nat} {n : Int} (h : NumJ s a i n) (hi : i ≤ s.size) (hl : i - a ≤ 17) : 0 ≤ n ∧ n ≤ 100000000000000000 := by
  have h1 := valD_lt _ 0 0 (h.dgs hi) (by decide)
  rw [Nat.zero_add, seg_len hi] at h1
  have h2 := Nat.lt_of_lt_of_le h1 (Nat.pow_le_pow_right (n := 10) (by decide) hl)
  rw [h.2]
  omega
theorem NumJ.bound18 {s : ByteArray} {a i : Nat} {n : Int} (h : NumJ s a i n) (hi : i ≤ s.size) (hl : i - a ≤ 18) : 0 ≤ n ∧ n ≤ 1000000000000000000 := by
  have h1 := valD_lt _ 0 0 (h.dgs hi) (by decide)
  rw [Nat.zero_add, seg_len hi] at h1
  have h2 := Nat.lt_of_lt_of_le h1 (Nat.pow_le_pow_right (n := 10) (by decide) hl)
  rw [h.2]
  omega
theorem seg_all (s : ByteArray) : (s.extract 0 s.size).data.toList = s.data.toList := by
  rw [Lib.extract_data, List.drop_zero, List.take_of_length_le (by rw [szl]; exact Nat.le_refl _)]
theorem head_chr {s : ByteArray} (h : 0 < s.size) : s.data.toList.head?.map UInt8.toNat = some (s.data.getD 0 0).toNat := by
  rw [List.head?_eq_getElem?, get_at h]; rfl
theorem num_pos {s : ByteArray} {n : Int} (h : NumJ s 0 s.size n) (h1 : 0 < s.size ∧ s.size ≤ 18) (hz : ¬ (chr s 0 = 48 ∧ 1 < s.size)) : numOf s.data.toList = (n, true) := by
  have hd := h.dgs (Nat.le_refl _)
  have hn := h.2
  rw [seg_all] at hd hn
  have hl := szl s
  have := Numl.pos (l := s.data.toList) (fun e => by rw [e] at hl; simp at hl; omega) hd (fun e => by rw [head_chr h1.1] at e; injection e with e; unfold chr at hz; omega) (by omega)
  rw [numOf_yes this, hn]
theorem head45 {s : ByteArray} (h : 1 ≤ s.size) (hc : chr s 0 = 45) : s.data.toList = 45 :: (s.extract 1 s.size).data.toList := by
  have e : s.data.getD 0 0 = 45 := UInt8.toNat_inj.1 (by unfold chr at hc; show _ = 45; omega)
  have h1 := drop_at (s := s) (i := 0) (by omega)
  rw [List.drop_zero, e] at h1
  rw [h1, Lib.extract_data]
  congr 1
  rw [List.take_of_length_le (by rw [List.length_drop, szl]; exact Nat.le_refl _)]
theorem num_neg {s : ByteArray} {n : Int} (h : NumJ s 1 s.size n) (hc : chr s 0 = 45) (h1 : 1 < s.size ∧ s.size ≤ 19) (hz : chr s 1 ≠ 48) : numOf s.data.toList = (-n, true) := by
  have hd := h.dgs (Nat.le_refl _)
  have hl := seg_len (s := s) (a := 1) (Nat.le_refl _)
  rw [head45 (by omega) hc]
  have := Numl.neg (l := (s.extract 1 s.size).data.toList) (fun e => by rw [e] at hl; simp at hl; omega) hd (fun e => by
    have h2 := drop_at (s := s) (i := 1) (by omega)
    have h3 : (s.extract 1 s.size).data.toList = s.data.toList.drop 1 := by
      rw [Lib.extract_data, List.take_of_length_le (by rw [List.length_drop, szl]; exact Nat.le_refl _)]
    rw [h3, h2] at e
    simp only [List.head?_cons, Option.map_some, Option.some.injEq] at e
    unfold chr at hz; omega) (by omega)
  rw [numOf_yes this, h.2]
theorem num_neg0 {s : ByteArray} {n : Int} (h : NumJ s 1 s.size n) (hc : chr s 0 = 45) (h1 : 1 < s.size ∧ s.size ≤ 19) (hz : chr s 1 ≠ 48) : numOf s.data.toList = (0 - n, true) := by
  rw [num_neg h hc h1 hz, Int.zero_sub]
theorem num_inv {s : ByteArray} {n : Int} (h : Numl s.data.toList n) : (chr s 0 = 45 ∧ (1 < s.size ∧ s.size ≤ 19) ∧ chr s 1 ≠ 48 ∧ ∀ j, 1 ≤ j → j < s.size → isDg (chr s j)) ∨ ((0 < s.size ∧ s.size ≤ 18) ∧ (chr s 0 = 48 → s.size = 1) ∧ ∀ j, j < s.size → isDg (chr s j)) := by
  have hl := szl s
  have hget : ∀ j, j < s.size → s.data.toList[j]? = some (s.data.getD j 0) := fun j hj => get_at hj
  rcases h.inv with ⟨r, e, h1, h2, h3, h4, _⟩ | ⟨h1, h2, h3, h4, _⟩
  · left
    rw [e] at hl
    have hr : 1 ≤ r.length := List.length_pos_iff.2 h1
    rw [List.length_cons] at hl
    have g0 := hget 0 (by omega)
    rw [e] at g0
    have g0 : (45 : UInt8) = s.data.getD 0 0 := Option.some.inj g0
    have g1 : ∀ j, j < r.length → r[j]? = some (s.data.getD (j + 1) 0) := fun j hj => by
      have := hget (j + 1) (by omega)
      rw [e] at this
      exact this
    refine ⟨by unfold chr; rw [← g0]; rfl, by omega, ?_, fun j hj1 hj2 => ?_⟩
    · intro hc
      apply h3
      rw [List.head?_eq_getElem?, g1 0 (by omega)]
      unfold chr at hc
      simp only [Option.map_some, Option.some.injEq]
      simp only [Nat.zero_add]
      omega
    · have := g1 (j - 1) (by omega)
      rw [show j - 1 + 1 = j by omega] at this
      exact dg_chr.1 (h2 _ (List.mem_of_getElem? this))
  · right
    have hne : 0 < s.data.toList.length := List.length_pos_iff.2 h1
    refine ⟨by omega, fun hc => ?_, fun j hj => dg_chr.1 (h2 _ (List.mem_of_getElem? (hget j hj)))⟩
    rw [← hl]
    apply h3
    rw [head_chr (by omega)]
    unfold chr at hc
    congr 1
    omega
theorem num_no {s : ByteArray} (h : ¬ ((chr s 0 = 45 ∧ (1 < s.size ∧ s.size ≤ 19) ∧ chr s 1 ≠ 48 ∧ ∀ j, 1 ≤ j → j < s.size → isDg (chr s j)) ∨ ((0 < s.size ∧ s.size ≤ 18) ∧ (chr s 0 = 48 → s.size = 1) ∧ ∀ j, j < s.size → isDg (chr s j)))) : numOf s.data.toList = (0, false) :=
  numOf_no fun _ hn => h (num_inv hn)
theorem CutJ.hitI {c : UInt8} {s x : ByteArray} {out : List ByteArray} {f i i2 f2 n b : Int} (h : CutJ c s f.toNat i.toNat out) (h0 : 0 ≤ f ∧ f ≤ i) (hi : i < s.size) (hn : n = ((s.data.getD i.toNat 0).toNat : Int)) (hc : n = b) (hb : b = (c.toNat : Int)) (hi2 : i2 = i + 1) (hf2 : f2 = i + 1) (hx : x = s.extract f.toNat i.toNat) : CutJ c s f2.toNat i2.toNat (out ++ [x]) := by
  rw [hx, hi2, hf2, show (i + 1).toNat = i.toNat + 1 by omega]
  exact h.hit (by omega) (UInt8.toNat_inj.1 (by omega))
theorem CutJ.missI {c : UInt8} {s : ByteArray} {out : List ByteArray} {f i i2 n b : Int} (h : CutJ c s f.toNat i.toNat out) (h0 : 0 ≤ f ∧ f ≤ i) (hi : i < s.size) (hn : n = ((s.data.getD i.toNat 0).toNat : Int)) (hc : ¬ n = b) (hb : b = (c.toNat : Int)) (hi2 : i2 = i + 1) : CutJ c s f.toNat i2.toNat out := by
  rw [hi2, show (i + 1).toNat = i.toNat + 1 by omega]
  exact h.miss (by omega) (by omega) (fun e => hc (by rw [hn, e, hb]))
theorem CutJ.doneI {c : UInt8} {s x : ByteArray} {out : List ByteArray} {f i : Int} (h : CutJ c s f.toNat i.toNat out) (h0 : 0 ≤ i) (hi : ¬ i < s.size) (hi2 : i ≤ s.size) (hx : x = s.extract f.toNat ((s.size : Nat) : Int).toNat) : out ++ [x] = cutS c s := by
  have e : i.toNat = s.size := by omega
  rw [e] at h
  rw [hx, Int.toNat_natCast]
  exact h.done
theorem NumJ.stepI {s : ByteArray} {a : Nat} {i n i2 n2 x : Int} (h : NumJ s a i.toNat n) (h0 : (a : Int) ≤ i) (hi : i < s.size) (hx : x = ((s.data.getD i.toNat 0).toNat : Int)) (hd : isDg x) (hi2 : i2 = i + 1) (hn2 : n2 = 10 * n + (x - 48)) : NumJ s a i2.toNat n2 := by
  subst hx hi2 hn2
  rw [show (i + 1).toNat = i.toNat + 1 by omega]
  exact h.step (by omega) (by omega) hd
theorem three {α : Type} {l : List α} (h : l.length = 3) : ∃ x y z, l = [x, y, z] := by
  match l, h with
  | [x, y, z], _ => exact ⟨x, y, z, rfl⟩
theorem visOf_parts3 (s : ByteArray) (h : (cutS 32 s).length ≠ 3) : visOf s.data.toList = (⟨0, 0, 0⟩, false) := by
  rw [visOf_cut]
  split
  · rename_i hc; rw [hc] at h; exact (h rfl).elim
  · rfl
theorem visOf_partsY {s x y z : ByteArray} {a b d : Int} (hc : cutS 32 s = [x, y, z]) (h1 : (a, true) = numOf x.data.toList) (h2 : (b, true) = numOf y.data.toList) (h3 : (d, true) = numOf z.data.toList) (hok : Vis.ok ⟨a, b, d⟩) : visOf s.data.toList = (⟨a, b, d⟩, true) := by
  rw [visOf_cut, hc]
  simp only [← h1, ← h2, ← h3]
  first | exact if_pos ⟨⟨trivial, trivial, trivial⟩, hok⟩ | exact if_pos ⟨trivial, hok⟩ | exact if_pos hok | simp [hok]
theorem visOf_partsN {s x y z : ByteArray} {a b d : Int} {oa ob od : Bool} (hc : cutS 32 s = [x, y, z]) (h1 : (a, oa) = numOf x.data.toList) (h2 : (b, ob) = numOf y.data.toList) (h3 : (d, od) = numOf z.data.toList) (hn : ¬ ((oa = true ∧ ob = true ∧ od = true) ∧ Vis.ok ⟨a, b, d⟩)) : visOf s.data.toList = (⟨0, 0, 0⟩, false) := by
  rw [visOf_cut, hc]
  simp only [← h1, ← h2, ← h3]
  exact if_neg hn
theorem visOf_wordsN2 {s x y z : ByteArray} {a b d : Int} {oa ob od : Bool} (hw : wordsOf s = [x, y, z]) (h1 : (a, oa) = numOf x.data.toList) (h2 : (b, ob) = numOf y.data.toList) (h3 : (d, od) = numOf z.data.toList) (hn : ¬ ((oa = true ∧ ob = true ∧ od = true) ∧ vtext ⟨a, b, d⟩ = s)) : visOf s.data.toList = (⟨0, 0, 0⟩, false) :=
  visOf_wordsN hw (by rw [← h1, ← h2, ← h3]; exact hn)
end Go.Proofs.YtnfjhadaclcgeaaGreatDoor
