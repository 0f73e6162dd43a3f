/- Contracts: points, distances (the lines of Fwb and Fne that need no warnings). -/
import Derived.Test.YthiecdiiindegaaGreatDoorFro
import Derived.Test.YthiecdiiindegaaGreatDoorFya
namespace Go.Proofs.YthiecdiiindegaaGreatDoor
open Go Go.RowKit Classical
set_option maxRecDepth 100000
set_option maxHeartbeats 2000000
set_option linter.unusedVariables false
set_option linter.unusedSimpArgs false
def PtOk (x y : Int) : Prop := (0 ≤ x ∧ x ≤ 200000) ∧ 0 ≤ y ∧ y ≤ 200000
theorem validPoint_ (x y : Int) : AC Tryz.prog 29 [.agg [.int .i64 x, .int .i64 y]] AV.bool (bP (PtOk x y)) := by
  refine ac Tryz.func29 (by kernel_rfl) (.bool _) fun E K hE hK => ?_
  conv => cbv
  repeat' first
    | ((first
   | refine q0 hE ?_
   | refine callP hE (within_ _ _ _) (fun _ => ?_) (fun _ => ?_)
   | refine B0 hE ?_|refine B1 hE (fun _=>?_) fun _=>?_|refine B3 hE fun _ _ _=>?_|refine B2 hE fun _ _=>?_|refine B4 hE fun _ _ _ _=>?_) <;> (try conv => cbv))
  all_goals (try clear hN)
  all_goals first
    | (omega)
    | (refine finB hK (bP_true.2 ?_); first | omega | grind [PtOk])
    | (refine finB hK (bP_false.2 ?_); first | omega | (intro h; grind [PtOk]))
    | (refine ⟨by omega, Up.succ (by assumption) ?_ (by assumption)⟩; grind [PtOk])
    | (refine hK _ ?_; simp_all [atup, PtOk]; done)
    | (grind [PtOk])
theorem l02Ok_ (x y : Int) : AC Tryz.prog 87 [.agg [.int .i64 x, .int .i64 y]] AV.bool (bP (PtOk x y)) := by
  refine ac Tryz.func87 (by kernel_rfl) (.bool _) fun E K hE hK => ?_
  conv => cbv
  repeat' first
    | ((first
   | refine q0 hE ?_
   | refine callP hE (in_ _ _ _) (fun _ => ?_) (fun _ => ?_)
   | refine B0 hE ?_|refine B1 hE (fun _=>?_) fun _=>?_|refine B3 hE fun _ _ _=>?_|refine B2 hE fun _ _=>?_|refine B4 hE fun _ _ _ _=>?_) <;> (try conv => cbv))
  all_goals (try clear hN)
  all_goals first
    | (omega)
    | (refine finB hK (bP_true.2 ?_); first | omega | grind [PtOk])
    | (refine finB hK (bP_false.2 ?_); first | omega | (intro h; grind [PtOk]))
    | (refine ⟨by omega, Up.succ (by assumption) ?_ (by assumption)⟩; grind [PtOk])
    | (refine hK _ ?_; simp_all [atup, PtOk]; done)
    | (grind [PtOk])
theorem isAway_ (n : Int) : AC Tryz.prog 30 [.int .i64 n] AV.bool (bP (0 ≤ n ∧ n ≤ 20000)) := by
  refine ac Tryz.func30 (by kernel_rfl) (.bool _) fun E K hE hK => ?_
  conv => cbv
  repeat' first
    | ((first
   | refine q0 hE ?_
   | refine callP hE (within_ _ _ _) (fun _ => ?_) (fun _ => ?_)
   | refine B0 hE ?_|refine B1 hE (fun _=>?_) fun _=>?_|refine B3 hE fun _ _ _=>?_|refine B2 hE fun _ _=>?_|refine B4 hE fun _ _ _ _=>?_) <;> (try conv => cbv))
  all_goals (try clear hN)
  all_goals first
    | (omega)
    | (refine finB hK (bP_true.2 ?_); first | omega | grind)
    | (refine finB hK (bP_false.2 ?_); first | omega | (intro h; grind))
    | (refine ⟨by omega, Up.succ (by assumption) ?_ (by assumption)⟩; grind)
    | (refine hK _ ?_; simp_all [atup]; done)
    | (grind)
def sqd (x y x' y' : Int) : Int := (x - x') * (x - x') + (y - y') * (y - y')
theorem sq_nn (a : Int) : 0 ≤ a * a := by
  rcases Int.le_total 0 a with h | h
  · exact Int.mul_nonneg h h
  · have := Int.mul_nonneg (a := -a) (b := -a) (by omega) (by omega)
    rwa [Int.neg_mul_neg] at this
theorem sqd_bd {x y x' y' : Int} (h : PtOk x y) (k : PtOk x' y') : 0 ≤ sqd x y x' y' ∧ sqd x y x' y' ≤ 80000000000 := by
  unfold PtOk at *
  unfold sqd
  have h1 := mul_bd (a := x - x') (b := x - x') (B := 200000) (by omega)
  have h2 := mul_bd (a := y - y') (b := y - y') (B := 200000) (by omega)
  have h3 := sq_nn (x - x')
  have h4 := sq_nn (y - y')
  omega
theorem rootI_bd {n : Int} (h : 0 ≤ n ∧ n ≤ 80000000000) : 0 ≤ rootI n ∧ rootI n ≤ 300000 := by
  obtain ⟨h1, h2, _⟩ := rootI_spec h.1
  refine ⟨h1, ?_⟩
  rcases Int.lt_or_le 300000 (rootI n) with h3 | h3
  · have := sq_mono (a := 300000) (b := rootI n) (by omega) (by omega); omega
  · exact h3
noncomputable def distR (x y x' y' : Int) : Int := if PtOk x y ∧ PtOk x' y' then rootI (sqd x y x' y') else 0
theorem squared_ (x y x' y' : Int) (h : PtOk x y) (k : PtOk x' y') : AC Tryz.prog 60 [.agg [.int .i64 x, .int .i64 y], .agg [.int .i64 x', .int .i64 y']] (AV.int .i64) (sqd x y x' y') := by
  refine ac Tryz.func60 (by kernel_rfl) (.int _ _) fun E K hE hK => ?_
  conv => cbv
  unfold PtOk at h k
  repeat' first
    | (refine mulC hE 200000 (by omega) (by omega) (fun m hm _ _ => ?_); (try conv => cbv))
    | ((first
   | refine q0 hE ?_
   | refine B0 hE ?_|refine B1 hE (fun _=>?_) fun _=>?_|refine B3 hE fun _ _ _=>?_|refine B2 hE fun _ _=>?_|refine B4 hE fun _ _ _ _=>?_) <;> (try conv => cbv))
  all_goals (refine hK _ ?_; subst_vars; rfl)

theorem pt_some {l : List Pnt} {i : Int} {x y : Int} (hv : l[i.toNat]? = some ⟨x, y⟩) (h : PtOk x y) : ∀ p, l[i.toNat]? = some p → PtOk p.x p.y := fun p hp => by rw [hv] at hp; cases hp; exact h
theorem arePoints_ {rs : List (List AV)} {t : Bool} {l : List Pnt} (hl : rs = l.map Pnt.cs) : AC Tryz.prog 58 [.sl t 2 rs] AV.bool (bP (∀ p ∈ l, PtOk p.x p.y)) := by
  refine ac Tryz.func58 (by kernel_rfl) (.bool _) fun E K hE hK => ?_
  conv => cbv
  refine lenL hE hl fun n hn hb => ?_
  conv => cbv
  refine loopC hE (ι := Int) [5, 6] [7] (fun q => (fun (i : Int) => [(7, .int .i64 i)]) q) (fun q => (fun (i : Int) => []) q) (fun q => (fun (i : Int) => (n - i).toNat) q) (fun q => (fun (i : Int) => 0 ≤ i ∧ Up (fun j => ∀ p, l[j]? = some p → PtOk p.x p.y) i) q) [] (by decide) (0) (by conv => lhs; cbv) (by conv => lhs; cbv) rfl rfl (by dsimp only; exact ⟨by omega, .zero (by omega)⟩) fun i hi Kn hN => ?_
  (try dsimp only at hi)
  conv => cbv
  obtain ⟨h0, hinv⟩ := hi
  repeat' first
    | (refine hN _ _ [] (by decide) rfl ⟨?_, ?_⟩ ?_ <;> (try dsimp only))
    | ((first
   | refine q0 hE ?_
   | (refine idxL (R := Pnt.cs) hE (by assumption) (by first | omega | (simp only [List.length_set, mix_len]; omega)) ?_; rintro ⟨⟩ _)
   | refine callP hE (validPoint_ _ _) (fun _ => ?_) (fun _ => ?_)
   | refine B0 hE ?_|refine B1 hE (fun _=>?_) fun _=>?_|refine B3 hE fun _ _ _=>?_|refine B2 hE fun _ _=>?_|refine B4 hE fun _ _ _ _=>?_) <;> (try conv => cbv))
  all_goals (try clear hN)
  all_goals first
    | omega
    | exact hinv.succ (pt_some (by assumption) (by assumption)) (by assumption)
    | (refine finB hK (bP_true.2 fun p hp => ?_); obtain ⟨j, hj⟩ := List.getElem?_of_mem hp; exact hinv j (by have := (List.getElem?_eq_some_iff.1 hj).1; omega) p hj)
    | (refine finB hK (bP_false.2 fun h => ?_); have := h _ (List.mem_of_getElem? (by assumption)); contradiction)
    | trace_state
theorem distance_ (x y x' y' : Int) : AC Tryz.prog 33 [.agg [.int .i64 x, .int .i64 y], .agg [.int .i64 x', .int .i64 y']] (AV.int .i64) (distR x y x' y') := by
  refine ac Tryz.func33 (by kernel_rfl) (.int _ _) fun E K hE hK => ?_
  conv => cbv
  refine callP hE (arePoints_ (l := [(⟨x, y⟩ : Pnt), ⟨x', y'⟩]) (by rfl)) (fun h => ?_) (fun h => ?_) <;> conv => cbv
  · have h1 := h ⟨x, y⟩ (by simp)
    have h2 := h ⟨x', y'⟩ (by simp)
    simp only at h1 h2
    refine callI hE (squared_ _ _ _ _ h1 h2) fun s hs => ?_
    have hbd := sqd_bd h1 h2
    conv => cbv
    refine callI hE (rootOf_ _ (by omega)) fun r hr => ?_
    conv => cbv
    exact hK _ (by rw [distR, if_pos ⟨h1, h2⟩, hr, hs]; rfl)
  · exact hK _ (by rw [distR, if_neg (fun k => h fun p hp => by
      simp only [List.mem_cons, List.not_mem_nil, or_false] at hp
      rcases hp with rfl | rfl
      · exact k.1
      · exact k.2)]; rfl)
theorem distR_bd (x y x' y' : Int) : 0 ≤ distR x y x' y' ∧ distR x y x' y' ≤ 300000 := by
  unfold distR
  split
  · rename_i h; exact rootI_bd (sqd_bd h.1 h.2)
  · omega
end Go.Proofs.YthiecdiiindegaaGreatDoor
