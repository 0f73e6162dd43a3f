/- Cells of rows into which an element is put: plain laws (elements of 8 cells). -/
import Derived.Test.YthiecdiiindegaaGreatDoorAxU
namespace Go.Proofs.YthiecdiiindegaaGreatDoor
set_option linter.unusedVariables false
set_option linter.unusedSimpArgs false
open Go Go.RowKit
theorem part_getW {cur : Array Value} {o len j : Nat} (hj : j < len) (hc : o + j < cur.size) : ((cur.toList.drop o).take len).getD j undef = cur.getD (o + j) undef := by
  rw [List.getD_eq_getElem?_getD, List.getElem?_take, if_pos hj, List.getElem?_drop, Array.getElem?_toList, Array.getD_eq_getD_getElem?]
theorem mid_lenW {cur : Array Value} {q n : Nat} {mid : List Value} (hn : n * 8 ≤ cur.size) (hq : q ≤ n) (hmid : mid = (cur.toList.drop (q * 8)).take ((n - q) * 8)) : mid.length = (n - q) * 8 := by
  have := @Array.length_toList _ cur
  rw [hmid, List.length_take, List.length_drop]; omega
theorem fi_lenW {cv : Array Value} {fi : List Value} (hcv : 8 ≤ cv.size) (hfi : fi = cv.toList.take 8) : fi.length = 8 := by
  have := @Array.length_toList _ cv
  rw [hfi, List.length_take]; omega
theorem fi_getW {cv : Array Value} {fi : List Value} {j : Nat} (hcv : 8 ≤ cv.size) (hfi : fi = cv.toList.take 8) (hj : j < 8) : fi.getD j undef = cv.getD j undef := by
  have := part_getW (cur := cv) (o := 0) (len := 8) hj (by omega)
  rw [List.drop_zero, Nat.zero_add] at this
  rw [hfi]; exact this
/-- In place. -/
theorem ins_cellsW {cur cv : Array Value} {q n : Nat} {mid fi : List Value} (hq : q ≤ n) (hn : (n + 1) * 8 ≤ cur.size) (hcv : 8 ≤ cv.size) (hmid : mid = (cur.toList.drop (q * 8)).take ((n - q) * 8)) (hfi : fi = cv.toList.take 8) (m j : Nat) (hm : m < n + 1) (hj : j < 8) :
    (spliceV (spliceV cur ((q + 1) * 8) mid) (q * 8) fi).getD (m * 8 + j) undef = if m < q then cur.getD (m * 8 + j) undef else if m = q then cv.getD j undef else cur.getD ((m - 1) * 8 + j) undef := by
  have hml := mid_lenW (by omega) hq hmid
  have hfl := fi_lenW hcv hfi
  have hs := spliceV_size (c := cur) (off := (q + 1) * 8) (new := mid) (by omega)
  rw [spliceV_getD (by omega), spliceV_getD (by omega), hml, hfl]
  rcases Nat.lt_trichotomy m q with h | h | h
  · rw [if_pos (by omega), if_pos (by omega), if_pos h]
  · subst h
    rw [if_neg (by omega), if_pos (by omega), if_neg (by omega), if_pos rfl, show m * 8 + j - m * 8 = j by omega]
    exact fi_getW hcv hfi hj
  · rw [if_neg (by omega), if_neg (by omega), if_neg (by omega), if_pos (by omega), if_neg (by omega), if_neg (by omega), hmid, part_getW (by omega) (by omega)]
    congr 1; omega
/-- In a new row. -/
theorem grow_cellsW {cur cv ROW : Array Value} {q n : Nat} {mid fi : List Value} (hq : q ≤ n) (hn : n * 8 ≤ cur.size) (hR : (n + 1) * 8 ≤ ROW.size) (hcv : 8 ≤ cv.size) (hpre : ∀ x, x < q * 8 → ROW.getD x undef = cur.getD x undef) (hmid : mid = (cur.toList.drop (q * 8)).take ((n - q) * 8)) (hfi : fi = cv.toList.take 8) (m j : Nat) (hm : m < n + 1) (hj : j < 8) :
    (spliceV (spliceV ROW (q * 8) fi) ((q + 1) * 8) mid).getD (m * 8 + j) undef = if m < q then cur.getD (m * 8 + j) undef else if m = q then cv.getD j undef else cur.getD ((m - 1) * 8 + j) undef := by
  have hml := mid_lenW hn hq hmid
  have hfl := fi_lenW hcv hfi
  have hs := spliceV_size (c := ROW) (off := q * 8) (new := fi) (by omega)
  rw [spliceV_getD (by omega), spliceV_getD (by omega), hml, hfl]
  rcases Nat.lt_trichotomy m q with h | h | h
  · rw [if_pos (by omega), if_pos (by omega), if_pos h]
    exact hpre _ (by omega)
  · subst h
    rw [if_pos (by omega), if_neg (by omega), if_pos (by omega), if_neg (by omega), if_pos rfl, show m * 8 + j - m * 8 = j by omega]
    exact fi_getW hcv hfi hj
  · rw [if_neg (by omega), if_pos (by omega), if_neg (by omega), if_neg (by omega), hmid, part_getW (by omega) (by omega)]
    congr 1; omega
theorem pre_rowW {cur zs : Array Value} {o : Nat} (ho : o ≤ cur.size) (x : Nat) (hx : x < o) : (((cur.toList.drop 0).take o).toArray ++ zs).getD x undef = cur.getD x undef := by
  have hl : ((cur.toList.drop 0).take o).length = o := by
    have := @Array.length_toList _ cur
    rw [List.length_take, List.length_drop]; omega
  rw [Array.getD_eq_getD_getElem?, Array.getElem?_append_left (by rw [List.size_toArray, hl]; exact hx), List.getElem?_toArray]
  have := part_getW (cur := cur) (o := 0) (len := o) hx (by omega)
  rw [List.getD_eq_getElem?_getD, Nat.zero_add] at this
  exact this
/-- At the end. -/
theorem end_cellsW {cur cv : Array Value} {n : Nat} {fi : List Value} (hn : (n + 1) * 8 ≤ cur.size) (hcv : 8 ≤ cv.size) (hfi : fi = cv.toList.take 8) (m j : Nat) (hm : m < n + 1) (hj : j < 8) :
    (spliceV cur (n * 8) fi).getD (m * 8 + j) undef = if m < n then cur.getD (m * 8 + j) undef else if m = n then cv.getD j undef else cur.getD ((m - 1) * 8 + j) undef := by
  have hfl := fi_lenW hcv hfi
  rw [spliceV_getD (by omega), hfl]
  rcases Nat.lt_trichotomy m n with h | h | h
  · rw [if_pos (by omega), if_pos h]
  · subst h
    rw [if_neg (by omega), if_pos (by omega), if_neg (by omega), if_pos rfl, show m * 8 + j - m * 8 = j by omega]
    exact fi_getW hcv hfi hj
  · omega
theorem endgrow_cellsW {cur cv zs : Array Value} {n : Nat} {fi : List Value} (hn : n * 8 ≤ cur.size) (hcv : 8 ≤ cv.size) (hfi : fi = cv.toList.take 8) (m j : Nat) (hm : m < n + 1) (hj : j < 8) :
    ((cur.toList.take (n * 8)).toArray ++ fi.toArray ++ zs).getD (m * 8 + j) undef = if m < n then cur.getD (m * 8 + j) undef else if m = n then cv.getD j undef else cur.getD ((m - 1) * 8 + j) undef := by
  have hfl := fi_lenW hcv hfi
  have hl : (cur.toList.take (n * 8)).length = n * 8 := by
    have := @Array.length_toList _ cur
    rw [List.length_take]; omega
  rcases Nat.lt_trichotomy m n with h | h | h
  · rw [if_pos h, Array.append_assoc]
    have := pre_rowW (cur := cur) (zs := fi.toArray ++ zs) hn (m * 8 + j) (by omega)
    rw [List.drop_zero] at this
    exact this
  · subst h
    rw [if_neg (by omega), if_pos rfl, Array.getD_eq_getD_getElem?, Array.getElem?_append_left (by simp [hl, hfl]; omega), Array.getElem?_append_right (by simp [hl]), List.getElem?_toArray]
    rw [show m * 8 + j - (cur.toList.take (m * 8)).toArray.size = j by simp [hl], ← List.getD_eq_getElem?_getD]
    exact fi_getW hcv hfi hj
  · omega
end Go.Proofs.YthiecdiiindegaaGreatDoor
