/- Contracts: marks in lists of aids. -/
import Derived.Test.YtoafgafkmeghlaaGreatDoorFB
import Derived.Test.YtoafgafkmeghlaaGreatDoorFA
namespace Go.Proofs.YtoafgafkmeghlaaGreatDoor
open Go Go.RowKit Classical
set_option maxRecDepth 100000
set_option maxHeartbeats 2000000
set_option linter.unusedVariables false
set_option linter.unusedSimpArgs false
set_option maxHeartbeats 4000000
theorem Aid.mark_set {R : Aid → List AV} {m l : List Aid} {es es9 : List (List AV)} {row : List AV} {i n : Int} (hes9 : es9 = es.set i.toNat row) (h3 : es = m.map R) (h4 : m.length = l.length) (h5 : ∀ j : Nat, i ≤ j → m[j]? = l[j]?) (hn : n = i + 1) (h0 : 0 ≤ i) (hr : ∃ v, R v = row) : ∃ m : List Aid, es9 = m.map R ∧ m.length = l.length ∧ ∀ j : Nat, n ≤ j → m[j]? = l[j]? := by
  obtain ⟨v, rfl⟩ := hr
  exact ⟨m.set i.toNat v, by rw [hes9, List.map_set, ← h3], by rw [List.length_set]; omega, fun j hj => by rw [List.getElem?_set_ne (by omega)]; exact h5 j (by omega)⟩
def Aid.mk1 (v : Aid) : Nat := 14 + v.lGroup.length + 3 * v.sectors.length
theorem Aid.mk1_bd {l : List Aid} {B : Nat} (hb : ∀ v ∈ l, Aid.mk1 v ≤ B) : ∀ n : Nat, n ≤ l.length → sumTo Aid.mk1 l n ≤ B * n
  | 0, _ => by rw [sumTo_zero (by omega)]; omega
  | n + 1, h => by
    have ih := Aid.mk1_bd hb n (by omega)
    have hv : l[(n : Int).toNat]? = some l[n] := by simp
    rw [show ((n + 1 : Nat) : Int) = (n : Int) + 1 by omega, sumTo_succ Aid.mk1 (by omega) hv, Nat.mul_add]
    have := hb l[n] (List.getElem_mem _)
    omega
theorem markAidS_ {rs : List (List AV)} {l : List Aid} (k : Int) (hl : rs = l.map (Aid.cs true)) (hk0 : 0 ≤ k ∧ k ≤ 1000000000) (hb : l.length ≤ 10000000) (hb1 : ∀ v ∈ l, Aid.mk1 v ≤ 10000000) : ACM Tryz.prog 13 [.sl true 16 rs, .int .i64 k] (fun r ys => ∃ (n : Int) (rs' : List (List AV)), n = k + (sumTo Aid.mk1 l l.length : Nat) ∧ (∃ m : List Aid, rs' = m.map (Aid.cs true) ∧ m.length = l.length) ∧ r = .int .i64 n ∧ ys = [.sl true 16 rs', .any]) := by
  refine acm 1 Tryz.func13 (by kernel_rfl) (fun r ys ⟨n, rs', _, ⟨m, h3, _⟩, h1, h2⟩ => ⟨by rw [h1]; exact .int _ _, by rw [h2, h3]; simp; exact ⟨.rows .oAid, .any⟩⟩) fun E K hE hK => ?_
  conv => cbv
  refine loopC hE (ι := Int × Int × (List (List AV))) [] [5, 1, 0] (fun q => (fun (i : Int) (k' : Int) (es : List (List AV)) => [(5, .int .i64 i), (1, .int .i64 k'), (0, .ob 0)]) q.1 q.2.1 q.2.2) (fun q => (fun (i : Int) (k' : Int) (es : List (List AV)) => [.row 16 es]) q.1 q.2.1 q.2.2) (fun q => (fun (i : Int) (k' : Int) (es : List (List AV)) => (l.length - i).toNat) q.1 q.2.1 q.2.2) (fun q => (fun (i : Int) (k' : Int) (es : List (List AV)) => (0 ≤ i ∧ i ≤ l.length) ∧ k' = k + (sumTo Aid.mk1 l i : Nat) ∧ ∃ m : List Aid, es = m.map (Aid.cs true) ∧ m.length = l.length ∧ ∀ j : Nat, i ≤ j → m[j]? = l[j]?) q.1 q.2.1 q.2.2) [0] (by decide) ((0, k, rs)) (by conv => lhs; cbv) (by conv => lhs; cbv) rfl rfl (by dsimp only; exact ⟨by omega, by rw [sumTo_zero (by omega)]; omega, l, hl, rfl, fun _ _ => rfl⟩) fun q hi Kn hN => ?_
  obtain ⟨i, k', es⟩ := q
  (try dsimp only at hi)
  conv => cbv
  obtain ⟨⟨h0, h1⟩, h2, m, h3, h4, h5⟩ := hi
  have hbd := Aid.mk1_bd hb1 i.toNat (by omega)
  rw [show ((i.toNat : Nat) : Int) = i by omega] at hbd
  have hbd2 : 10000000 * i.toNat ≤ 100000000000000 := by omega
  refine lenL hE h3 fun n hn hb2 => ?_
  conv => cbv
  refine ltI hE (fun hlt => ?_) (fun hge => ?_) <;> conv => cbv
  · obtain ⟨v, hv⟩ : ∃ v, l[i.toNat]? = some v := ⟨_, List.getElem?_eq_getElem (by omega)⟩
    have hm := (h5 i.toNat (by omega)).trans hv
    have hss := sumTo_succ Aid.mk1 h0 hv
    have hv1 := hb1 v (List.mem_of_getElem? hv)
    obtain ⟨number, name, atX, atY, height, mKind, mColors, mShape, mTop, lKind, lGroup, lLetter, lColors, lPeriod, sectors, intensity⟩ := v
    simp only [Aid.mk1] at hv1
    obtain ⟨r_lGroup, h_lGroup⟩ : ∃ r, r = lGroup.map intR := ⟨_, rfl⟩; obtain ⟨r_sectors, h_sectors⟩ : ∃ r, r = sectors.map Scr.cs := ⟨_, rfl⟩
    have hrow : es[i.toNat]? = some [.int .i64 number, .str name, .int .i64 atX, .int .i64 atY, .int .i64 height, .int .i64 mKind, .str mColors, .str mShape, .str mTop, .int .i64 lKind, .sl true 1 r_lGroup, .str lLetter, .str lColors, .int .i64 lPeriod, .sl true 3 r_sectors, .int .i64 intensity] := by rw [h3, List.getElem?_map, hm]; subst h_lGroup h_sectors; rfl
    have hel : es.length = l.length := by rw [h3, List.length_map, h4]
    repeat' first
      | (refine idxRS hE hes9 (by omega) ?_; (try conv => cbv))
      | (refine idxI hE h0 hrow ?_; (try conv => cbv))
      | (refine callMI hE (markI_ _ (by assumption) (by omega) (by omega)) ?_; rintro _ _ ⟨n9, rs9, hn9, hr9, rfl, rfl⟩; (obtain ⟨g9, hg9⟩ : ∃ g9 : List Int, rs9 = g9.map intR := ⟨_, hr9⟩); clear hr9; (try conv => cbv))
      | (refine callMI hE (markSectorS_ _ (by assumption) (by omega) (by omega)) ?_; rintro _ _ ⟨n9, rs9, hn9, hr9, rfl, rfl⟩; (obtain ⟨g9, hg9⟩ : ∃ g9 : List Scr, rs9 = g9.map Scr.cs := ⟨_, hr9⟩); clear hr9; (try conv => cbv))
      | (refine updRS hE hes9 (by omega) (by exact Nat.le_of_ble_eq_true rfl) (fun es8 hes8 hlen8 => ?_); (conv at hes8 => rhs; arg 3; cbv); (try conv => cbv); clear hes9 hlen9; clear es9; revert es8; intro es9 hes9 hlen9)
      | (refine updR0 hE h0 hrow (by exact Nat.le_of_ble_eq_true rfl) (fun es9 hes9 hlen9 => ?_); (conv at hes9 => rhs; arg 3; cbv); (try conv => cbv))
      | (refine hN (_, _, _) _ [0] (by decide) rfl ⟨?_, ?_, ?_⟩ ?_ <;> (try dsimp only))
      | ((first
     | refine q0 hE ?_
     | refine callI hE (markText_ _ (by omega)) (fun _ _ => ?_)
     | refine sameI hE (by simp_all) ?_
     | refine B0 hE ?_|refine B1 hE (fun _=>?_) fun _=>?_|refine B3 hE fun _ _ _=>?_|refine B2 hE fun _ _=>?_|refine B4 hE fun _ _ _ _=>?_) <;> (try conv => cbv))
    all_goals (try clear hN)
    all_goals first
      | omega
      | (rename_i hi1; rw [hi1, hss]; simp only [Aid.mk1]; omega)
      | exact Aid.mark_set hes9 h3 h4 h5 (by assumption) h0 (by clear hK hrow; subst_vars; exact ⟨⟨_, _, _, _, _, _, _, _, _, _, _, _, _, _, _, _⟩, rfl⟩)
      | trace_state
  · exact hK _ _ ⟨k', es, by rw [h2, show i = l.length by omega], ⟨m, h3, h4⟩, rfl, rfl⟩
end Go.Proofs.YtoafgafkmeghlaaGreatDoor
