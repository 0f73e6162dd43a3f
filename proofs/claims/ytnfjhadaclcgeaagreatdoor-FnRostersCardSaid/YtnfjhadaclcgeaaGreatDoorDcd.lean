/- Contracts: decimals by the reference. -/
import Derived.Test.YtnfjhadaclcgeaaGreatDoorQa
import Derived.Lib.ItoaNum
import Derived.Lib.ItoaLen
namespace Go.Proofs.YtnfjhadaclcgeaaGreatDoor
open Go Go.RowKit Classical
set_option maxRecDepth 100000
set_option maxHeartbeats 2000000
set_option linter.unusedVariables false
set_option linter.unusedSimpArgs false
def decS (n : Int) : ByteArray := ⟨(Lib.itoa n).toArray⟩
theorem decS_size {n : Int} (h : -9223372036854775808 ≤ n ∧ n ≤ 9223372036854775807) : (decS n).size ≤ 21 := by
  have := Lib.itoa_length_le n h.1 h.2
  show (Lib.itoa n).toArray.size ≤ 21
  simpa using this
def tb (l : List Int) : List UInt8 := l.map fun c => UInt8.ofNat c.toNat
theorem tb_fold : ∀ (l : List Int) (r : ByteArray), l.foldl (fun r n => r.push (UInt8.ofNat n.toNat)) r = ⟨r.data ++ (tb l).toArray⟩
  | [], r => by simp [tb]
  | c :: l, r => by
    rw [List.foldl_cons, tb_fold l]
    simp [tb, ByteArray.push]
theorem bytesOf_tb (l : List Int) : bytesOf l = ⟨(tb l).toArray⟩ := by
  rw [bytesOf, tb_fold]
  simp
theorem dec_small {u : Nat} (h : u < 10) : Lib.decDigits u = [UInt8.ofNat (48 + u)] := by rw [Lib.decDigits, dif_pos h]
theorem dec_big {u : Nat} (h : ¬ u < 10) : Lib.decDigits u = Lib.decDigits (u / 10) ++ [UInt8.ofNat (48 + u % 10)] := by rw [Lib.decDigits, dif_neg h]
theorem itoa_nn {n : Int} (h : 0 ≤ n) : Lib.itoa n = Lib.decDigits n.toNat := by unfold Lib.itoa; rw [if_neg (by omega)]
theorem decS_zero : decS 0 = ⟨#[48]⟩ := by
  unfold decS
  rw [itoa_nn (by decide), dec_small (by decide)]; rfl
/-- Where the reference's loop over the digits stands. -/
def DecInv (n m : Int) (ds : List Int) : Prop := (0 ≤ m ∧ m ≤ n) ∧ (m ≠ 0 → Lib.decDigits m.toNat ++ tb ds.reverse = Lib.decDigits n.toNat) ∧ (m = 0 → tb ds.reverse = Lib.decDigits n.toNat)
theorem DecInv.start {n : Int} (h : 0 ≤ n) (h0 : n ≠ 0) : DecInv n n [] := ⟨⟨h, Int.le_refl _⟩, fun _ => by simp [tb], fun e => absurd e h0⟩
theorem DecInv.step {n m c k : Int} {ds : List Int} (h : DecInv n m ds) (hm : m ≠ 0) (hc : c = 48 + m % 10) (hk : k = m / 10) : DecInv n k (ds ++ [c]) := by
  obtain ⟨h1, h2, _⟩ := h
  have h2 := h2 hm
  have e : tb (ds ++ [c]).reverse = UInt8.ofNat (48 + m.toNat % 10) :: tb ds.reverse := by
    rw [List.reverse_append]
    show UInt8.ofNat c.toNat :: tb ds.reverse = _
    rw [show c.toNat = 48 + m.toNat % 10 by omega]
  refine ⟨by omega, fun hk0 => ?_, fun hk0 => ?_⟩
  · rw [e, ← h2, dec_big (by omega : ¬ m.toNat < 10), show k.toNat = m.toNat / 10 by omega]; simp
  · rw [e, ← h2, dec_small (by omega : m.toNat < 10), show m.toNat % 10 = m.toNat by omega]; simp
theorem DecInv.len {n m : Int} {ds : List Int} (h : DecInv n m ds) (hn : n ≤ 9223372036854775807) : ds.length ≤ 21 := by
  obtain ⟨h1, h2, h3⟩ := h
  have hl := Lib.itoa_length_le n (by omega) hn
  rw [itoa_nn (by omega)] at hl
  have hd : (tb ds.reverse).length = ds.length := by simp [tb]
  by_cases h0 : m = 0
  · have := congrArg List.length (h3 h0); omega
  · have := congrArg List.length (h2 h0); rw [List.length_append] at this; omega
def b8 (n : Int) : List AV := [.int .u8 n]
theorem rev_step {ds : List Int} {i k : Int} {c : Int} (h0 : 0 ≤ i) (hc : ds[i.toNat]? = some c) (hk : k = i - 1) : (ds.drop (k + 1).toNat).reverse = (ds.drop (i + 1).toNat).reverse ++ [c] := by
  obtain ⟨hl, he⟩ := List.getElem?_eq_some_iff.1 hc
  rw [show (k + 1).toNat = i.toNat by omega, show (i + 1).toNat = i.toNat + 1 by omega, List.drop_eq_getElem_cons hl, he, List.reverse_cons]
end Go.Proofs.YtnfjhadaclcgeaaGreatDoor
