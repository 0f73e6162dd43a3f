/- Contracts: how unevenly keepers work. -/
import Derived.Test.YtnfjhadaclcgeaaGreatDoorFx
import Derived.Test.YtnfjhadaclcgeaaGreatDoorFs
namespace Go.Proofs.YtnfjhadaclcgeaaGreatDoor
open Go Go.RowKit Classical
set_option maxRecDepth 100000
set_option maxHeartbeats 2000000
set_option linter.unusedVariables false
set_option linter.unusedSimpArgs false
def KeepC (l : List ByteArray) (j : Nat) : Prop := ∃ k, l[j]? = some k ∧ NameOk k ∧ k ∉ l.take j
def KeepersOk (l : List ByteArray) : Prop := (∀ j, j < l.length → KeepC l j) ∧ 1 ≤ l.length ∧ l.length ≤ 10
theorem keepC_mk {l : List ByteArray} {i : Int} {v : ByteArray} (hv : l[i.toNat]? = some v) (h1 : NameOk v) (h2 : v ∉ l.take i.toNat) : KeepC l i.toNat := ⟨v, hv, h1, h2⟩
theorem keepC_ok {l : List ByteArray} {i : Int} {v : ByteArray} (h : KeepC l i.toNat) (hv : l[i.toNat]? = some v) : NameOk v ∧ v ∉ l.take i.toNat := by
  obtain ⟨w, h1, h2⟩ := h
  rw [hv] at h1; cases h1; exact h2
theorem areKeepers_ {rs : List (List AV)} {t : Bool} {l : List ByteArray} (hl : rs = l.map strR) : AP 25 [.sl t 1 rs] AV.bool (bP (KeepersOk l)) := by
  refine a0 Tryz.func25 fun E K hE hK => ?_
  refine lenL hl fun n hn hb => ?_
  conv => cbv
  refine loop1 [0, 5, 6] [7] (fun (i : Int) => ([(7, .int .i64 i)], [], l.length - i, 0 ≤ i ∧ Up (KeepC l) i)) [] (0) (by dsimp only; exact ⟨by omega, .zero (by omega)⟩) fun i hi Kn hN => ?_
  obtain ⟨h0, hinv⟩ := hi
  repeat' first
    | (refine hN _ [] rfl ⟨?_, ?_⟩)
    | ((first
   | refine callP (isName_ _) (fun _ => ?_) (fun _ => ?_)
   | refine callP (within_ _ _ _) (fun _ => ?_) (fun _ => ?_)
   | refine subL hl (by simp only [Option.getD_some, Option.getD_none]; omega) (fun _ _ => ?_)
   | refine callP (containsS_ _ (by assumption)) (fun _ => ?_) (fun _ => ?_)
   | refine B0 ?_|refine B1 ?_ ?_) <;> intros <;> (try conv => cbv))
  all_goals (try clear hN)
  all_goals first
    | omega
    | exact hinv.succ (keepC_mk (by assumption) (by assumption) (by assumption)) (by assumption)
    | (refine finB hK (bP_false.2 fun h => ?_); have k := keepC_ok (h.1 i.toNat (by omega)) (by assumption); first | exact absurd k.1 (by assumption) | exact absurd (by assumption) k.2)
    | exact finB hK (bP_true.2 ⟨hinv.all (by omega), by omega⟩)
    | (refine finB hK (bP_false.2 fun h => ?_); have := h.2; omega)
    | trace_state
theorem notin_all {l : List ByteArray} {i k : Int} {v : ByteArray} (hk : i ≤ k) (hv : l[i.toNat]? = some v) (h : Up (fun j => l[j]? ≠ l[i.toNat]?) k) : v ∉ l.take i.toNat := fun hw => by
  obtain ⟨j, hj⟩ := List.getElem?_of_mem hw
  have hlt := (List.getElem?_eq_some_iff.1 hj).1
  rw [List.length_take] at hlt
  rw [List.getElem?_take, if_pos (by omega)] at hj
  exact h j (by omega) (by rw [hj, hv])
theorem in_take {l : List ByteArray} {i k : Int} {v w : ByteArray} (hw : l[k.toNat]? = some w) (he : w = v) (hk : 0 ≤ k ∧ k < i) : v ∈ l.take i.toNat :=
  List.mem_of_getElem? (i := k.toNat) (by rw [List.getElem?_take, if_pos (by omega), hw, he])
noncomputable def wkd (l : List Dut) (k : ByteArray) : Int := ((ofKeeper l k).map fun v => v.til - v.frm).sum
theorem wk_min {l : List Dut} (h : DutiesOk l) (k : ByteArray) : minutesR l k 0 143999999 = wkd l k := by
  unfold minutesR wkd
  congr 1
  refine List.map_congr_left fun v hv => ?_
  have h1 := h.all v (List.mem_filter.1 hv).1
  obtain ⟨_, h2, h3, h4, _⟩ := h1
  unfold TimeOk at *
  unfold dutMin
  omega
theorem dur_bd {l : List Dut} (h : DutiesOk l) (k : ByteArray) : ∀ v ∈ ofKeeper l k, (0 ≤ v.frm ∧ v.frm ≤ 143999999 ∧ 0 ≤ v.til ∧ v.til ≤ 143999999) ∧ 0 ≤ v.til - v.frm ∧ v.til - v.frm ≤ (143999999 : Nat) := fun v hv => by
  have h1 := h.all v (List.mem_filter.1 hv).1
  obtain ⟨_, h2, h3, h4, _⟩ := h1
  unfold TimeOk at *
  omega
theorem wk_bd {l : List Dut} (h : DutiesOk l) (k : ByteArray) : 0 ≤ wkd l k ∧ wkd l k ≤ 10000000000 := by
  have h1 := sumI_bd (fun v : Dut => v.til - v.frm) (fun v hv => (dur_bd h k v hv).2) (ofKeeper l k).length (Nat.le_refl _)
  rw [sumI_all _ _ (Int.le_refl _)] at h1
  have h2 := ofKeeper_len l k
  have h3 := h.2
  unfold wkd
  omega
theorem worked_ {rs : List (List AV)} {t : Bool} {l : List Dut} (k : ByteArray) (hl : rs = l.map Dut.cs) (h : DutiesOk l) : AP 53 [.sl t 3 rs, .str k] (AV.int .i64) (wkd l k) := by
  refine a0 Tryz.func53 fun E K hE hK => ?_
  refine callI (minutes_ k 0 143999999 hl h ⟨by omega, by omega⟩ ⟨by omega, by omega⟩) fun y hy => ?_
  conv => cbv
  exact hK _ (by rw [hy, wk_min h]; rfl)
def mxF {α : Type} (f : α → Int) (a : Int) (l : List α) : Int := l.foldl (fun m x => max m (f x)) a
def mnF {α : Type} (f : α → Int) (a : Int) (l : List α) : Int := l.foldl (fun m x => min m (f x)) a
theorem mxF_step {α : Type} (f : α → Int) (a : Int) {l : List α} {i : Int} {v : α} (h0 : 0 ≤ i) (hv : l[i.toNat]? = some v) : mxF f a (l.take (i + 1).toNat) = max (mxF f a (l.take i.toNat)) (f v) := by
  unfold mxF
  rw [show (i + 1).toNat = i.toNat + 1 by omega, List.take_add_one, hv, List.foldl_append]; rfl
theorem mnF_step {α : Type} (f : α → Int) (a : Int) {l : List α} {i : Int} {v : α} (h0 : 0 ≤ i) (hv : l[i.toNat]? = some v) : mnF f a (l.take (i + 1).toNat) = min (mnF f a (l.take i.toNat)) (f v) := by
  unfold mnF
  rw [show (i + 1).toNat = i.toNat + 1 by omega, List.take_add_one, hv, List.foldl_append]; rfl
def k0 (ks : List ByteArray) : ByteArray := ks.getD 0 ⟨#[]⟩
theorem k0_eq {ks : List ByteArray} {i : Int} {v : ByteArray} (hi : i = 0) (hv : ks[i.toNat]? = some v) : k0 ks = v := by
  subst hi
  unfold k0; rw [List.getD_eq_getElem?_getD]
  exact congrArg (fun o => Option.getD o _) hv
noncomputable def unevenR (l : List Dut) (ks : List ByteArray) : Int × Int := if DutiesOk l ∧ KeepersOk ks then (mxF (wkd l) (wkd l (k0 ks)) ks - mnF (wkd l) (wkd l (k0 ks)) ks, 0) else (0, 1)
end Go.Proofs.YtnfjhadaclcgeaaGreatDoor
