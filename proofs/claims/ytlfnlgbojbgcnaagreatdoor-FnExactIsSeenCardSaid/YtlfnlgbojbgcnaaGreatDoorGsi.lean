/- Sines, bearings: plain. -/
import Derived.Test.YtlfnlgbojbgcnaaGreatDoorFpt
namespace Go.Proofs.YtlfnlgbojbgcnaaGreatDoor
open Go Go.RowKit Classical
set_option maxRecDepth 100000
set_option maxHeartbeats 2000000
set_option linter.unusedVariables false
set_option linter.unusedSimpArgs false
def sinT : List Int := [0, 17452, 34899, 52336, 69756, 87156, 104528, 121869, 139173, 156434, 173648, 190809, 207912, 224951, 241922, 258819, 275637, 292372, 309017, 325568, 342020, 358368, 374607, 390731, 406737, 422618, 438371, 453990, 469472, 484810, 500000, 515038, 529919, 544639, 559193, 573576, 587785, 601815, 615661, 629320, 642788, 656059, 669131, 681998, 694658, 707107, 719340, 731354, 743145, 754710, 766044, 777146, 788011, 798636, 809017, 819152, 829038, 838671, 848048, 857167, 866025, 874620, 882948, 891007, 898794, 906308, 913545, 920505, 927184, 933580, 939693, 945519, 951057, 956305, 961262, 965926, 970296, 974370, 978148, 981627, 984808, 987688, 990268, 992546, 994522, 996195, 997564, 998630, 999391, 999848, 1000000]
theorem sinT_len : sinT.length = 91 := rfl
def sinQ (d : Int) : Int := sinT.getD d.toNat 0
theorem sinT_bd : ∀ x ∈ sinT, 0 ≤ x ∧ x ≤ 1000000 := by decide +kernel
theorem sinQ_get {d v : Int} (h : sinT[d.toNat]? = some v) : v = sinQ d := by unfold sinQ; rw [List.getD_eq_getElem?_getD, h]; rfl
theorem sinQ_bd (d : Int) : 0 ≤ sinQ d ∧ sinQ d ≤ 1000000 := by
  unfold sinQ
  rw [List.getD_eq_getElem?_getD]
  cases h : sinT[d.toNat]? with
  | none => simp
  | some v => exact sinT_bd v (List.mem_of_getElem? h)
/-- Below half a turn. -/
def sinH (d : Int) : Int := if 90 < d then sinQ (180 - d) else sinQ d
def sinR (d : Int) : Int := if 180 ≤ d % 360 then -(sinH (d % 360 - 180)) else sinH (d % 360)
theorem sinH_bd (d : Int) : 0 ≤ sinH d ∧ sinH d ≤ 1000000 := by
  unfold sinH
  split <;> exact sinQ_bd _
theorem sinR_bd (d : Int) : -1000000 ≤ sinR d ∧ sinR d ≤ 1000000 := by
  have h1 := sinH_bd (d % 360 - 180)
  have h2 := sinH_bd (d % 360)
  unfold sinR
  split <;> omega
def cosR (d : Int) : Int := sinR (d % 360 + 90)
theorem cosR_bd (d : Int) : -1000000 ≤ cosR d ∧ cosR d ≤ 1000000 := sinR_bd _
theorem cos_in {d : Int} (h : 0 ≤ d ∧ d < 360) : cosR d = sinR (d + 90) := by unfold cosR; rw [show d % 360 = d by omega]
theorem angR (d : Int) : (d.tmod 360 + 360).tmod 360 = d % 360 := by
  rcases Int.le_total 0 d with h | h
  · rw [Int.tmod_eq_emod_of_nonneg h, Int.tmod_eq_emod_of_nonneg (by omega)]; omega
  · have h1 := Int.neg_tmod (a := -d) (b := 360)
    rw [Int.neg_neg] at h1
    rw [h1, Int.tmod_eq_emod_of_nonneg (by omega : 0 ≤ -d), Int.tmod_eq_emod_of_nonneg (by omega)]
    omega
theorem tmod_bd (d : Int) : -360 < d.tmod 360 ∧ d.tmod 360 < 360 := by
  rcases Int.le_total 0 d with h | h
  · rw [Int.tmod_eq_emod_of_nonneg h]; omega
  · have h1 := Int.neg_tmod (a := -d) (b := 360)
    rw [Int.neg_neg] at h1
    rw [h1, Int.tmod_eq_emod_of_nonneg (by omega : 0 ≤ -d)]; omega
def turnR (a b : Int) : Int := min ((a % 360 - b % 360) % 360) (360 - (a % 360 - b % 360) % 360)
theorem turnR_bd (a b : Int) : 0 ≤ turnR a b ∧ turnR a b ≤ 180 := by unfold turnR; omega
/-- How far a place lies in a direction. -/
def vecR (x y x' y' d : Int) : Int := (x' - x) * sinR d + (y' - y) * cosR d
theorem vec_bd {a s : Int} (ha : -200000 ≤ a ∧ a ≤ 200000) (hs : -1000000 ≤ s ∧ s ≤ 1000000) : -200000000000 ≤ a * s ∧ a * s ≤ 200000000000 := by
  have h1 : 0 ≤ (200000 - a) * (1000000 + s) := Int.mul_nonneg (by omega) (by omega)
  have h2 : 0 ≤ (200000 + a) * (1000000 - s) := Int.mul_nonneg (by omega) (by omega)
  have h3 : 0 ≤ (200000 - a) * (1000000 - s) := Int.mul_nonneg (by omega) (by omega)
  have h4 : 0 ≤ (200000 + a) * (1000000 + s) := Int.mul_nonneg (by omega) (by omega)
  simp only [Int.sub_mul, Int.add_mul, Int.mul_sub, Int.mul_add] at h1 h2 h3 h4
  omega
/-- The first place where f is greatest, among the first n + 1. -/
def argm (f : Int → Int) : Nat → Int
  | 0 => 0
  | n + 1 => if f (argm f n) < f (n + 1 : Nat) then (n + 1 : Nat) else argm f n
theorem argm_bd (f : Int → Int) : ∀ n : Nat, 0 ≤ argm f n ∧ argm f n ≤ n
  | 0 => by unfold argm; omega
  | n + 1 => by
    have := argm_bd f n
    unfold argm
    split <;> omega
theorem argm_const {f : Int → Int} (h : ∀ d, f d = 0) : ∀ n : Nat, argm f n = 0
  | 0 => rfl
  | n + 1 => by
    unfold argm
    rw [h, h, if_neg (by omega), argm_const h n]
def beaR (x y x' y' : Int) : Int := argm (vecR x y x' y') 359
theorem beaR_bd (x y x' y' : Int) : 0 ≤ beaR x y x' y' ∧ beaR x y x' y' ≤ 359 := argm_bd _ 359
theorem beaR_self (x y : Int) : beaR x y x y = 0 := argm_const (fun d => by unfold vecR; rw [Int.sub_self, Int.sub_self, Int.zero_mul, Int.zero_mul]; rfl) 359
/-- The state of the search at d. -/
def argS (f : Int → Int) (d : Int) : Int := argm f (d - 1).toNat
theorem argS_zero (f : Int → Int) {d : Int} (h : d ≤ 1) : argS f d = 0 := by unfold argS; rw [show (d - 1).toNat = 0 by omega]; rfl
theorem argS_yes {f : Int → Int} {d n : Int} (h0 : 0 ≤ d) (hn : n = d + 1) (h : f (argS f d) < f d) : argS f n = d := by
  by_cases e : d = 0
  · subst e
    rw [argS_zero f (by omega)] at h; omega
  · unfold argS at *
    rw [show (n - 1).toNat = (d - 1).toNat + 1 by omega]
    unfold argm
    rw [show (((d - 1).toNat + 1 : Nat) : Int) = d by omega, if_pos h]
theorem argS_no {f : Int → Int} {d n : Int} (h0 : 0 ≤ d) (hn : n = d + 1) (h : ¬ f (argS f d) < f d) : argS f n = argS f d := by
  by_cases e : d = 0
  · subst e
    rw [argS_zero f (by omega), argS_zero f (by omega)]
  · unfold argS at *
    rw [show (n - 1).toNat = (d - 1).toNat + 1 by omega]
    conv => lhs; unfold argm
    rw [show (((d - 1).toNat + 1 : Nat) : Int) = d by omega, if_neg h]
theorem argS_bd (f : Int → Int) {d : Int} (h : 1 ≤ d) : 0 ≤ argS f d ∧ argS f d < d := by
  have := argm_bd f (d - 1).toNat
  unfold argS; omega
theorem argS_all {x y x' y' d : Int} (h : d = 360) : argS (vecR x y x' y') d = beaR x y x' y' := by subst h; rfl
end Go.Proofs.YtlfnlgbojbgcnaaGreatDoor
