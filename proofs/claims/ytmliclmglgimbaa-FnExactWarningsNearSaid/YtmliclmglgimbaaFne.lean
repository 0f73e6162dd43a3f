/- Contracts: warnings near a place; the law. -/
import Derived.Test.YtmliclmglgimbaaFwc
import Derived.Test.YtmliclmglgimbaaFro
namespace Go.Proofs.Ytmliclmglgimbaa
open Go Go.RowKit Classical
set_option maxRecDepth 100000
set_option maxHeartbeats 2000000
set_option linter.unusedVariables false
set_option linter.unusedSimpArgs false
def sqd (x y x' y' : Int) : Int := (x - x') * (x - x') + (y - y') * (y - y')
theorem sq_nn (a : Int) : 0 ≤ a * a := by
  rcases Int.le_total 0 a with h | h
  · exact Int.mul_nonneg h h
  · have := Int.mul_nonneg (a := -a) (b := -a) (by omega) (by omega)
    rwa [Int.neg_mul_neg] at this
theorem sqd_bd {x y x' y' : Int} (h : PtOk x y) (k : PtOk x' y') : 0 ≤ sqd x y x' y' ∧ sqd x y x' y' ≤ 80000000000 := by
  unfold PtOk at *
  unfold sqd
  have h1 := mul_bd (a := x - x') (b := x - x') (B := 200000) (by omega)
  have h2 := mul_bd (a := y - y') (b := y - y') (B := 200000) (by omega)
  have h3 := sq_nn (x - x')
  have h4 := sq_nn (y - y')
  omega
theorem rootI_bd {n : Int} (h : 0 ≤ n ∧ n ≤ 80000000000) : 0 ≤ rootI n ∧ rootI n ≤ 300000 := by
  obtain ⟨h1, h2, _⟩ := rootI_spec h.1
  refine ⟨h1, ?_⟩
  rcases Int.lt_or_le 300000 (rootI n) with h3 | h3
  · have := sq_mono (a := 300000) (b := rootI n) (by omega) (by omega); omega
  · exact h3
noncomputable def distR (x y x' y' : Int) : Int := if PtOk x y ∧ PtOk x' y' then rootI (sqd x y x' y') else 0
theorem squared_ (x y x' y' : Int) (h : PtOk x y) (k : PtOk x' y') : AC Try.prog 192 [.agg [.int .i64 x, .int .i64 y], .agg [.int .i64 x', .int .i64 y']] (AV.int .i64) (sqd x y x' y') := by
  refine ac Try.func192 (by kernel_rfl) (.int _ _) fun E K hE hK => ?_
  conv => cbv
  unfold PtOk at h k
  repeat' first
    | (refine mulC hE 200000 (by omega) (by omega) (fun m hm _ _ => ?_); (try conv => cbv))
    | ((first
     | refine idxV hE (by assumption) (by omega) (by assumption) ?_
     | refine ltT hE (by omega) ?_
     | refine ltF hE (by omega) ?_
     | refine ltI hE (fun _ => ?_) (fun _ => ?_)
     | refine leT hE (by omega) ?_
     | refine leF hE (by omega) ?_
     | refine leI hE (fun _ => ?_) (fun _ => ?_)
     | refine eqT hE (by omega) ?_
     | refine eqF hE (by omega) ?_
     | refine eqI hE (fun _ => ?_) (fun _ => ?_)
     | refine add64 hE (by omega) (fun _ _ => ?_)
     | refine sub64 hE (by omega) (fun _ _ => ?_)
     | refine addI hE (fun _ _ => ?_)
     | refine subI hE (fun _ _ => ?_)
     | refine lenL hE (by assumption) (fun _ _ _ => ?_)
     | refine len0 hE (fun _ _ => ?_)
     | refine idxL hE (by assumption) (by first | omega | (simp only [List.length_set, mix_len]; omega)) (fun _ _ => ?_)
     | refine idxFill hE (by assumption) (by omega) ?_
     | refine idxI hE (by decide) (by rfl) ?_
     | refine iteB (fun _ => ?_) (fun _ => ?_)
     | refine maxI hE (fun _ _ => ?_)
     | refine minI hE (fun _ _ => ?_)
     | refine seqI hE (fun _ => ?_) (fun _ => ?_)
     | refine scatI hE (by first | omega | (simp only [ByteArray.size, Array.size, List.length_cons, List.length_nil] at *; omega)) (fun _ _ _ => ?_)
     | refine slenI hE (fun _ _ _ => ?_)
     | refine sidxI hE (by omega) (fun _ _ _ _ => ?_)
     | refine needI hE (by first | decide | omega) ?_
     | refine rem64 hE (by omega) (fun _ _ => ?_)
     | refine quo64 hE (by omega) (fun _ _ => ?_)
     | refine wrapU8 hE (by omega) (fun _ _ => ?_)
     | refine wrap64 hE (by omega) (fun _ _ => ?_)
     | refine noownI hE (by simp [AV.isOwn]) ?_) <;> (try conv => cbv))
  all_goals (refine hK _ ?_; subst_vars; rfl)

theorem l02Square_ (x y x' y' : Int) (h : PtOk x y) (k : PtOk x' y') : AC Try.prog 188 [.agg [.int .i64 x, .int .i64 y], .agg [.int .i64 x', .int .i64 y']] (AV.int .i64) (sqd x y x' y') := by
  refine ac Try.func188 (by kernel_rfl) (.int _ _) fun E K hE hK => ?_
  conv => cbv
  unfold PtOk at h k
  repeat' first
    | (refine mulC hE 200000 (by omega) (by omega) (fun m hm _ _ => ?_); (try conv => cbv))
    | ((first
     | refine idxV hE (by assumption) (by omega) (by assumption) ?_
     | refine ltT hE (by omega) ?_
     | refine ltF hE (by omega) ?_
     | refine ltI hE (fun _ => ?_) (fun _ => ?_)
     | refine leT hE (by omega) ?_
     | refine leF hE (by omega) ?_
     | refine leI hE (fun _ => ?_) (fun _ => ?_)
     | refine eqT hE (by omega) ?_
     | refine eqF hE (by omega) ?_
     | refine eqI hE (fun _ => ?_) (fun _ => ?_)
     | refine add64 hE (by omega) (fun _ _ => ?_)
     | refine sub64 hE (by omega) (fun _ _ => ?_)
     | refine addI hE (fun _ _ => ?_)
     | refine subI hE (fun _ _ => ?_)
     | refine lenL hE (by assumption) (fun _ _ _ => ?_)
     | refine len0 hE (fun _ _ => ?_)
     | refine idxL hE (by assumption) (by first | omega | (simp only [List.length_set, mix_len]; omega)) (fun _ _ => ?_)
     | refine idxFill hE (by assumption) (by omega) ?_
     | refine idxI hE (by decide) (by rfl) ?_
     | refine iteB (fun _ => ?_) (fun _ => ?_)
     | refine maxI hE (fun _ _ => ?_)
     | refine minI hE (fun _ _ => ?_)
     | refine seqI hE (fun _ => ?_) (fun _ => ?_)
     | refine scatI hE (by first | omega | (simp only [ByteArray.size, Array.size, List.length_cons, List.length_nil] at *; omega)) (fun _ _ _ => ?_)
     | refine slenI hE (fun _ _ _ => ?_)
     | refine sidxI hE (by omega) (fun _ _ _ _ => ?_)
     | refine needI hE (by first | decide | omega) ?_
     | refine rem64 hE (by omega) (fun _ _ => ?_)
     | refine quo64 hE (by omega) (fun _ _ => ?_)
     | refine wrapU8 hE (by omega) (fun _ _ => ?_)
     | refine wrap64 hE (by omega) (fun _ _ => ?_)
     | refine noownI hE (by simp [AV.isOwn]) ?_) <;> (try conv => cbv))
  all_goals (refine hK _ ?_; subst_vars; rfl)

theorem pt_some {l : List Pnt} {i : Int} {x y : Int} (hv : l[i.toNat]? = some ⟨x, y⟩) (h : PtOk x y) : ∀ p, l[i.toNat]? = some p → PtOk p.x p.y := fun p hp => by rw [hv] at hp; cases hp; exact h
theorem arePoints_ {rs : List (List AV)} {t : Bool} {l : List Pnt} (hl : rs = l.map Pnt.cs) : AC Try.prog 190 [.sl t 2 rs] AV.bool (bP (∀ p ∈ l, PtOk p.x p.y)) := by
  refine ac Try.func190 (by kernel_rfl) (.bool _) fun E K hE hK => ?_
  conv => cbv
  refine lenL hE hl fun n hn hb => ?_
  conv => cbv
  refine loopC hE (ι := Int) [5, 6] [7] (fun q => (fun (i : Int) => [(7, .int .i64 i)]) q) (fun q => (fun (i : Int) => []) q) (fun q => (fun (i : Int) => (n - i).toNat) q) (fun q => (fun (i : Int) => 0 ≤ i ∧ Up (fun j => ∀ p, l[j]? = some p → PtOk p.x p.y) i) q) [] (by decide) (0) (by conv => lhs; cbv) (by conv => lhs; cbv) rfl rfl (by dsimp only; exact ⟨by omega, .zero (by omega)⟩) fun i hi Kn hN => ?_
  (try dsimp only at hi)
  conv => cbv
  obtain ⟨h0, hinv⟩ := hi
  repeat' first
    | (refine hN _ _ [] (by decide) rfl ⟨?_, ?_⟩ ?_ <;> (try dsimp only))
    | ((first
     | refine idxV hE (by assumption) (by omega) (by assumption) ?_
     | (refine idxL (R := Pnt.cs) hE (by assumption) (by first | omega | (simp only [List.length_set, mix_len]; omega)) ?_; rintro ⟨⟩ _)
     | refine callP hE (validPoint_ _ _) (fun _ => ?_) (fun _ => ?_)
     | refine ltT hE (by omega) ?_
     | refine ltF hE (by omega) ?_
     | refine ltI hE (fun _ => ?_) (fun _ => ?_)
     | refine leT hE (by omega) ?_
     | refine leF hE (by omega) ?_
     | refine leI hE (fun _ => ?_) (fun _ => ?_)
     | refine eqT hE (by omega) ?_
     | refine eqF hE (by omega) ?_
     | refine eqI hE (fun _ => ?_) (fun _ => ?_)
     | refine add64 hE (by omega) (fun _ _ => ?_)
     | refine sub64 hE (by omega) (fun _ _ => ?_)
     | refine addI hE (fun _ _ => ?_)
     | refine subI hE (fun _ _ => ?_)
     | refine lenL hE (by assumption) (fun _ _ _ => ?_)
     | refine len0 hE (fun _ _ => ?_)
     | refine idxL hE (by assumption) (by first | omega | (simp only [List.length_set, mix_len]; omega)) (fun _ _ => ?_)
     | refine idxFill hE (by assumption) (by omega) ?_
     | refine idxI hE (by decide) (by rfl) ?_
     | refine iteB (fun _ => ?_) (fun _ => ?_)
     | refine maxI hE (fun _ _ => ?_)
     | refine minI hE (fun _ _ => ?_)
     | refine seqI hE (fun _ => ?_) (fun _ => ?_)
     | refine scatI hE (by first | omega | (simp only [ByteArray.size, Array.size, List.length_cons, List.length_nil] at *; omega)) (fun _ _ _ => ?_)
     | refine slenI hE (fun _ _ _ => ?_)
     | refine sidxI hE (by omega) (fun _ _ _ _ => ?_)
     | refine needI hE (by first | decide | omega) ?_
     | refine rem64 hE (by omega) (fun _ _ => ?_)
     | refine quo64 hE (by omega) (fun _ _ => ?_)
     | refine wrapU8 hE (by omega) (fun _ _ => ?_)
     | refine wrap64 hE (by omega) (fun _ _ => ?_)
     | refine noownI hE (by simp [AV.isOwn]) ?_) <;> (try conv => cbv))
  all_goals (try clear hN)
  all_goals first
    | omega
    | exact hinv.succ (pt_some (by assumption) (by assumption)) (by assumption)
    | (refine finB hK (bP_true.2 fun p hp => ?_); obtain ⟨j, hj⟩ := List.getElem?_of_mem hp; exact hinv j (by have := (List.getElem?_eq_some_iff.1 hj).1; omega) p hj)
    | (refine finB hK (bP_false.2 fun h => ?_); have := h _ (List.mem_of_getElem? (by assumption)); contradiction)
    | trace_state
theorem distance_ (x y x' y' : Int) : AC Try.prog 140 [.agg [.int .i64 x, .int .i64 y], .agg [.int .i64 x', .int .i64 y']] (AV.int .i64) (distR x y x' y') := by
  refine ac Try.func140 (by kernel_rfl) (.int _ _) fun E K hE hK => ?_
  conv => cbv
  refine callP hE (arePoints_ (l := [(⟨x, y⟩ : Pnt), ⟨x', y'⟩]) (by rfl)) (fun h => ?_) (fun h => ?_) <;> conv => cbv
  · have h1 := h ⟨x, y⟩ (by simp)
    have h2 := h ⟨x', y'⟩ (by simp)
    simp only at h1 h2
    refine callI hE (squared_ _ _ _ _ h1 h2) fun s hs => ?_
    have hbd := sqd_bd h1 h2
    conv => cbv
    refine callI hE (rootOf_ _ (by omega)) fun r hr => ?_
    conv => cbv
    exact hK _ (by rw [distR, if_pos ⟨h1, h2⟩, hr, hs]; rfl)
  · exact hK _ (by rw [distR, if_neg (fun k => h fun p hp => by
      simp only [List.mem_cons, List.not_mem_nil, or_false] at hp
      rcases hp with rfl | rfl
      · exact k.1
      · exact k.2)]; rfl)
theorem l02Apart_ (x y x' y' : Int) (h1 : PtOk x y) (h2 : PtOk x' y') : AC Try.prog 135 [.agg [.int .i64 x, .int .i64 y], .agg [.int .i64 x', .int .i64 y']] (AV.int .i64) (distR x y x' y') := by
  refine ac Try.func135 (by kernel_rfl) (.int _ _) fun E K hE hK => ?_
  conv => cbv
  refine callI hE (l02Square_ _ _ _ _ h1 h2) fun s hs => ?_
  have hbd := sqd_bd h1 h2
  conv => cbv
  refine callI hE (l01Root_ _ (by omega)) fun r hr => ?_
  conv => cbv
  exact hK _ (by rw [distR, if_pos ⟨h1, h2⟩, hr, hs]; rfl)
theorem distR_bd (x y x' y' : Int) : 0 ≤ distR x y x' y' ∧ distR x y x' y' ≤ 300000 := by
  unfold distR
  split
  · rename_i h; exact rootI_bd (sqd_bd h.1 h.2)
  · omega
def farW (x y d : Int) (w : War) : Prop := IntKind.i64.wrap (w.radius + d) < distR w.atX w.atY x y
theorem farW_iff {x y d : Int} {w : War} (h : 0 ≤ w.radius ∧ w.radius ≤ 20000) (hd : 0 ≤ d ∧ d ≤ 20000) : farW x y d w ↔ w.radius + d < distR w.atX w.atY x y := by
  unfold farW
  rw [IntWalk.i64_in _ ⟨by omega, by omega⟩]
theorem near1_ (number priority frm til atX atY radius : Int) (words : ByteArray) (x y d : Int) : AC Try.prog 139 [.agg [.int .i64 number, .int .i64 priority, .int .i64 frm, .int .i64 til, .int .i64 atX, .int .i64 atY, .int .i64 radius, .str words], .pp [.int .i64 x, .int .i64 y], .pp [.int .i64 d]] AV.bool (bP (farW x y d ⟨number, priority, frm, til, atX, atY, radius, words⟩)) := by
  refine ac Try.func139 (by kernel_rfl) (.bool _) fun E K hE hK => ?_
  conv => cbv
  repeat' first
    | (refine addI hE (fun a ha => ?_); (try conv => cbv))
    | ((first
     | refine idxV hE (by assumption) (by omega) (by assumption) ?_
     | refine callI hE (distance_ _ _ _ _) (fun _ _ => ?_)
     | refine ltT hE (by omega) ?_
     | refine ltF hE (by omega) ?_
     | refine ltI hE (fun _ => ?_) (fun _ => ?_)
     | refine leT hE (by omega) ?_
     | refine leF hE (by omega) ?_
     | refine leI hE (fun _ => ?_) (fun _ => ?_)
     | refine eqT hE (by omega) ?_
     | refine eqF hE (by omega) ?_
     | refine eqI hE (fun _ => ?_) (fun _ => ?_)
     | refine add64 hE (by omega) (fun _ _ => ?_)
     | refine sub64 hE (by omega) (fun _ _ => ?_)
     | refine addI hE (fun _ _ => ?_)
     | refine subI hE (fun _ _ => ?_)
     | refine lenL hE (by assumption) (fun _ _ _ => ?_)
     | refine len0 hE (fun _ _ => ?_)
     | refine idxL hE (by assumption) (by first | omega | (simp only [List.length_set, mix_len]; omega)) (fun _ _ => ?_)
     | refine idxFill hE (by assumption) (by omega) ?_
     | refine idxI hE (by decide) (by rfl) ?_
     | refine iteB (fun _ => ?_) (fun _ => ?_)
     | refine maxI hE (fun _ _ => ?_)
     | refine minI hE (fun _ _ => ?_)
     | refine seqI hE (fun _ => ?_) (fun _ => ?_)
     | refine scatI hE (by first | omega | (simp only [ByteArray.size, Array.size, List.length_cons, List.length_nil] at *; omega)) (fun _ _ _ => ?_)
     | refine slenI hE (fun _ _ _ => ?_)
     | refine sidxI hE (by omega) (fun _ _ _ _ => ?_)
     | refine needI hE (by first | decide | omega) ?_
     | refine rem64 hE (by omega) (fun _ _ => ?_)
     | refine quo64 hE (by omega) (fun _ _ => ?_)
     | refine wrapU8 hE (by omega) (fun _ _ => ?_)
     | refine wrap64 hE (by omega) (fun _ _ => ?_)
     | refine noownI hE (by simp [AV.isOwn]) ?_) <;> (try conv => cbv))
  all_goals first
    | (refine finB hK (bP_true.2 ?_); unfold farW; simp only; omega)
    | (refine finB hK (bP_false.2 ?_); unfold farW; simp only; omega)
    | trace_state
noncomputable def nearR (l : List War) (x y d t : Int) : List Int × Int := if WarnsOk l ∧ PtOk x y then (if TimeOk t ∧ 0 ≤ d ∧ d ≤ 20000 then ((rej (farW x y d) (actives l t)).map War.number, 0) else ([], 2)) else ([], 1)
theorem nearR_len (l : List War) (x y d t : Int) : (nearR l x y d t).1.length ≤ l.length := by
  unfold nearR; split <;> (try split) <;> simp
  exact Nat.le_trans (rej_len _ _) (actives_len _ _)
theorem warningsNear_ {rs : List (List AV)} {b : Bool} {l : List War} (x y d t : Int) (hl : rs = l.map War.cs) (hb : l.length ≤ 1048576) : AC Try.prog 62 [.sl b 8 rs, .agg [.int .i64 x, .int .i64 y], .int .i64 d, .int .i64 t] intLI (nearR l x y d t) := by
  refine ac Try.func62 (by kernel_rfl) (.intLI _) fun E K hE hK => ?_
  conv => cbv
  have hal := actives_len l t
  have hrl := rej_len (farW x y d) (actives l t)
  repeat' first
    | (refine callMI hE (deleteWarning2_ (p := farW x y d) (by assumption) (by omega) (fun a b c e f g h i => near1_ a b c e f g h i x y d)) ?_; rintro _ _ ⟨rs2, hrs2, rfl, rfl⟩; conv => cbv)
    | ((first
     | refine idxV hE (by assumption) (by omega) (by assumption) ?_
     | refine callP hE (validWarnings_ (by assumption)) (fun _ => ?_) (fun _ => ?_)
     | refine callP hE (validPoint_ _ _) (fun _ => ?_) (fun _ => ?_)
     | refine callP hE (isTime_ _) (fun _ => ?_) (fun _ => ?_)
     | refine callP hE (isAway_ _) (fun _ => ?_) (fun _ => ?_)
     | refine callR hE (active_ t hl hb) (fun _ _ => ?_)
     | refine callR hE (numbersOf_ (by assumption) (by omega)) (fun _ _ => ?_)
     | refine nilOwnI hE 1 ?_
     | refine ltT hE (by omega) ?_
     | refine ltF hE (by omega) ?_
     | refine ltI hE (fun _ => ?_) (fun _ => ?_)
     | refine leT hE (by omega) ?_
     | refine leF hE (by omega) ?_
     | refine leI hE (fun _ => ?_) (fun _ => ?_)
     | refine eqT hE (by omega) ?_
     | refine eqF hE (by omega) ?_
     | refine eqI hE (fun _ => ?_) (fun _ => ?_)
     | refine add64 hE (by omega) (fun _ _ => ?_)
     | refine sub64 hE (by omega) (fun _ _ => ?_)
     | refine addI hE (fun _ _ => ?_)
     | refine subI hE (fun _ _ => ?_)
     | refine lenL hE (by assumption) (fun _ _ _ => ?_)
     | refine len0 hE (fun _ _ => ?_)
     | refine idxL hE (by assumption) (by first | omega | (simp only [List.length_set, mix_len]; omega)) (fun _ _ => ?_)
     | refine idxFill hE (by assumption) (by omega) ?_
     | refine idxI hE (by decide) (by rfl) ?_
     | refine iteB (fun _ => ?_) (fun _ => ?_)
     | refine maxI hE (fun _ _ => ?_)
     | refine minI hE (fun _ _ => ?_)
     | refine seqI hE (fun _ => ?_) (fun _ => ?_)
     | refine scatI hE (by first | omega | (simp only [ByteArray.size, Array.size, List.length_cons, List.length_nil] at *; omega)) (fun _ _ _ => ?_)
     | refine slenI hE (fun _ _ _ => ?_)
     | refine sidxI hE (by omega) (fun _ _ _ _ => ?_)
     | refine needI hE (by first | decide | omega) ?_
     | refine rem64 hE (by omega) (fun _ _ => ?_)
     | refine quo64 hE (by omega) (fun _ _ => ?_)
     | refine wrapU8 hE (by omega) (fun _ _ => ?_)
     | refine wrap64 hE (by omega) (fun _ _ => ?_)
     | refine noownI hE (by simp [AV.isOwn]) ?_) <;> (try conv => cbv))
  all_goals first
    | (refine hK _ ?_; rw [nearR, if_pos ⟨by assumption, by assumption⟩, if_pos ⟨by assumption, by assumption⟩]; subst_vars; rfl)
    | (refine hK _ ?_; rw [nearR, if_pos ⟨by assumption, by assumption⟩, if_neg (fun h => by first | (exact absurd h.1 (by assumption)) | (exact absurd h.2 (by assumption)))]; rfl)
    | (refine hK _ ?_; rw [nearR, if_neg (fun h => by first | (exact absurd h.1 (by assumption)) | (exact absurd h.2 (by assumption)))]; rfl)
    | trace_state
theorem rej_app {α : Type} (p : α → Prop) (l : List α) (v : α) : (p v → rej p (l ++ [v]) = rej p l) ∧ (¬ p v → rej p (l ++ [v]) = rej p l ++ [v]) := by
  unfold rej
  rw [List.filter_append]
  by_cases h : p v <;> simp [h]
theorem sWarningsNear_ {rs : List (List AV)} {b : Bool} {l : List War} (x y d t : Int) (hl : rs = l.map War.cs) (hb : l.length ≤ 1048576) : AC Try.prog 60 [.sl b 8 rs, .agg [.int .i64 x, .int .i64 y], .int .i64 d, .int .i64 t] intLI (nearR l x y d t) := by
  refine ac Try.func60 (by kernel_rfl) (.intLI _) fun E K hE hK => ?_
  conv => cbv
  refine callP hE (l22Ok_ hl) (fun hok => ?_) (fun hok => ?_) <;> conv => cbv
  · refine callP hE (l02Ok_ _ _) (fun hp => ?_) (fun hp => ?_) <;> conv => cbv
    · refine callP hE (l20Time_ _) (fun ht => ?_) (fun ht => ?_) <;> conv => cbv
      · refine callP hE (in_ _ _ _) (fun hd => ?_) (fun hd => ?_) <;> conv => cbv
        · refine loopC hE (ι := Int × (List (List AV))) [0, 2, 3, 5] [11, 10] (fun q => (fun (i : Int) (es : List (List AV)) => [(11, .int .i64 i), (10, .ob 1)]) q.1 q.2) (fun q => (fun (i : Int) (es : List (List AV)) => [.box [.int .i64 x, .int .i64 y], .row 1 es]) q.1 q.2) (fun q => (fun (i : Int) (es : List (List AV)) => (l.length - i).toNat) q.1 q.2) (fun q => (fun (i : Int) (es : List (List AV)) => (0 ≤ i ∧ i ≤ l.length) ∧ ∃ m : List Int, es = m.map intR ∧ m = (rej (farW x y d) (rej (fun w => t < w.frm ∨ w.til ≤ t) (l.take i.toNat))).map War.number) q.1 q.2) [0, 1] (by decide) ((0, [])) (by conv => lhs; cbv) (by conv => lhs; cbv) rfl rfl (by dsimp only; exact ⟨by omega, [], rfl, rfl⟩) fun q hi Kn hN => ?_
          obtain ⟨i, es⟩ := q
          (try dsimp only at hi)
          conv => cbv
          obtain ⟨⟨h0, h1⟩, m, h2, h3⟩ := hi
          have hm : m.length ≤ 1048576 := by
            have := rej_len (fun w : War => t < w.frm ∨ w.til ≤ t) (l.take i.toNat)
            have h5 := rej_len (farW x y d) (rej (fun w : War => t < w.frm ∨ w.til ≤ t) (l.take i.toNat))
            rw [List.length_take] at this
            rw [h3, List.length_map]; omega
          have hfar := fun w h => @farW_iff x y d w h hd
          repeat' first
            | (refine idxV hE hl (by omega) (by assumption) ?_; (try conv => cbv))
            | (refine idxL hE hl (by omega) (fun v hv => ?_); have hv2 := hok.all v (List.mem_of_getElem? hv); obtain ⟨number, priority, frm, til, atX, atY, radius, words⟩ := v; have hat := hv2.2.2.2.2.2.1; have hrad := hv2.2.2.2.2.2.2.1; simp only at hat hrad; (try conv => cbv))
            | (refine hN (_, _) _ [0, 3] (by decide) rfl ⟨?_, _, by assumption, ?_⟩ ?_ <;> (try dsimp only))
            | (refine hN (_, _) _ [0, 1] (by decide) rfl ⟨?_, _, by assumption, ?_⟩ ?_ <;> (try dsimp only))
            | ((first
             | refine idxV hE (by assumption) (by omega) (by assumption) ?_
             | refine callP hE (l22Active_ _ _ _ _ _ _ _ _ _) (fun _ => ?_) (fun _ => ?_)
             | refine callI hE (l02Apart_ _ _ _ _ hat hp) (fun _ _ => ?_)
             | refine catP hE (R := intR) (by assumption) rfl (by omega) (fun _ _ => ?_)
             | refine ltT hE (by omega) ?_
             | refine ltF hE (by omega) ?_
             | refine ltI hE (fun _ => ?_) (fun _ => ?_)
             | refine leT hE (by omega) ?_
             | refine leF hE (by omega) ?_
             | refine leI hE (fun _ => ?_) (fun _ => ?_)
             | refine eqT hE (by omega) ?_
             | refine eqF hE (by omega) ?_
             | refine eqI hE (fun _ => ?_) (fun _ => ?_)
             | refine add64 hE (by omega) (fun _ _ => ?_)
             | refine sub64 hE (by omega) (fun _ _ => ?_)
             | refine addI hE (fun _ _ => ?_)
             | refine subI hE (fun _ _ => ?_)
             | refine lenL hE (by assumption) (fun _ _ _ => ?_)
             | refine len0 hE (fun _ _ => ?_)
             | refine idxL hE (by assumption) (by first | omega | (simp only [List.length_set, mix_len]; omega)) (fun _ _ => ?_)
             | refine idxFill hE (by assumption) (by omega) ?_
             | refine idxI hE (by decide) (by rfl) ?_
             | refine iteB (fun _ => ?_) (fun _ => ?_)
             | refine maxI hE (fun _ _ => ?_)
             | refine minI hE (fun _ _ => ?_)
             | refine seqI hE (fun _ => ?_) (fun _ => ?_)
             | refine scatI hE (by first | omega | (simp only [ByteArray.size, Array.size, List.length_cons, List.length_nil] at *; omega)) (fun _ _ _ => ?_)
             | refine slenI hE (fun _ _ _ => ?_)
             | refine sidxI hE (by omega) (fun _ _ _ _ => ?_)
             | refine needI hE (by first | decide | omega) ?_
             | refine rem64 hE (by omega) (fun _ _ => ?_)
             | refine quo64 hE (by omega) (fun _ _ => ?_)
             | refine wrapU8 hE (by omega) (fun _ _ => ?_)
             | refine wrap64 hE (by omega) (fun _ _ => ?_)
             | refine noownI hE (by simp [AV.isOwn]) ?_) <;> (try conv => cbv))
          all_goals (try clear hN)
          all_goals first
            | omega
            | (have hs1 := (rej_step (fun w : War => t < w.frm ∨ w.til ≤ t) h0 hv (by assumption)).2 (by assumption); first | (have hs2 := (rej_app (farW x y d) (rej (fun w : War => t < w.frm ∨ w.til ≤ t) (l.take i.toNat)) ⟨number, priority, frm, til, atX, atY, radius, words⟩).2 (by rw [hfar _ hrad]; simp only; omega); rw [h3, hs1, hs2]; simp; done) | (have hs2 := (rej_app (farW x y d) (rej (fun w : War => t < w.frm ∨ w.til ≤ t) (l.take i.toNat)) ⟨number, priority, frm, til, atX, atY, radius, words⟩).1 (by rw [hfar _ hrad]; simp only; omega); rw [h3, hs1, hs2]))
            | (have hs1 := (rej_step (fun w : War => t < w.frm ∨ w.til ≤ t) h0 hv (by assumption)).1 (Classical.not_not.1 (by assumption)); rw [h3, hs1])
            | (refine hK _ ?_; rw [nearR, if_pos ⟨hok, hp⟩, if_pos ⟨ht, hd⟩]; rw [List.take_of_length_le (by omega)] at h3; rw [h2, h3]; rfl)
            | trace_state
        · refine nilOwnI hE 1 ?_
          conv => cbv
          exact hK _ (by rw [nearR, if_pos ⟨hok, hp⟩, if_neg (fun h => hd h.2)]; rfl)
      · refine nilOwnI hE 1 ?_
        conv => cbv
        exact hK _ (by rw [nearR, if_pos ⟨hok, hp⟩, if_neg (fun h => ht h.1)]; rfl)
    · refine nilOwnI hE 1 ?_
      conv => cbv
      exact hK _ (by rw [nearR, if_neg (fun h => hp h.2)]; rfl)
  · refine nilOwnI hE 1 ?_
    conv => cbv
    exact hK _ (by rw [nearR, if_neg (fun h => hok h.1)]; rfl)
theorem lawWarningsNear {rs : List (List AV)} {b : Bool} {l : List War} (x y d t : Int) (hl : rs = l.map War.cs) : AC Try.prog 11 [.sl b 8 rs, .agg [.int .i64 x, .int .i64 y], .int .i64 d, .int .i64 t] id (.bool true) := by
  refine ac Try.func11 (by kernel_rfl) (.bool _) fun E K hE hK => ?_
  conv => cbv
  have hlen := nearR_len l x y d t
  repeat' first
    | (refine callI hE (szWarningS_ _ hl (by decide)) (fun z0 hy => ?_); have hz := szN_or 1048576 (l.length + (l.map War.sz).sum); rw [← hy] at hz; clear hy; (try conv => cbv))
    | (refine callMI hE (markWarningS_ _ (by assumption) (by omega) (by omega)) ?_; rintro _ _ ⟨n, rs', hn, hrs', rfl, rfl⟩; conv => cbv)
    | (refine callMI hE (markI_ _ (by assumption) (by omega) (by omega)) ?_; rintro _ _ ⟨n, rs', hn, hrs', rfl, rfl⟩; conv => cbv)
    | ((first
     | refine idxV hE (by assumption) (by omega) (by assumption) ?_
     | refine callR hE (toWarningS_ hl (by omega)) (fun _ _ => ?_)
     | (refine callI hE (toPoint_ _ _) (fun _ hy => ?_); subst hy)
     | refine callLI hE (sWarningsNear_ x y d t (by assumption) (by omega)) (fun _ _ _ _ => ?_)
     | refine callLI hE (warningsNear_ x y d t (by assumption) (by omega)) (fun _ _ _ _ => ?_)
     | refine callPT hE (eqWarningS_ (by assumption) (by assumption)) rfl ?_
     | refine callPT hE (eqInt64S_ (by assumption) (by assumption)) rfl ?_
     | refine callPT hE (eqPoint_ _ _ _ _) rfl ?_
     | refine sameI hE (by subst_vars; simp [War.mks_len, markL_len]) ?_
     | refine callI hE (heldInt64S_ _ (by assumption) (by omega) (by omega)) (fun _ _ => ?_)
     | refine ltT hE (by omega) ?_
     | refine ltF hE (by omega) ?_
     | refine ltI hE (fun _ => ?_) (fun _ => ?_)
     | refine leT hE (by omega) ?_
     | refine leF hE (by omega) ?_
     | refine leI hE (fun _ => ?_) (fun _ => ?_)
     | refine eqT hE (by omega) ?_
     | refine eqF hE (by omega) ?_
     | refine eqI hE (fun _ => ?_) (fun _ => ?_)
     | refine add64 hE (by omega) (fun _ _ => ?_)
     | refine sub64 hE (by omega) (fun _ _ => ?_)
     | refine addI hE (fun _ _ => ?_)
     | refine subI hE (fun _ _ => ?_)
     | refine lenL hE (by assumption) (fun _ _ _ => ?_)
     | refine len0 hE (fun _ _ => ?_)
     | refine idxL hE (by assumption) (by first | omega | (simp only [List.length_set, mix_len]; omega)) (fun _ _ => ?_)
     | refine idxFill hE (by assumption) (by omega) ?_
     | refine idxI hE (by decide) (by rfl) ?_
     | refine iteB (fun _ => ?_) (fun _ => ?_)
     | refine maxI hE (fun _ _ => ?_)
     | refine minI hE (fun _ _ => ?_)
     | refine seqI hE (fun _ => ?_) (fun _ => ?_)
     | refine scatI hE (by first | omega | (simp only [ByteArray.size, Array.size, List.length_cons, List.length_nil] at *; omega)) (fun _ _ _ => ?_)
     | refine slenI hE (fun _ _ _ => ?_)
     | refine sidxI hE (by omega) (fun _ _ _ _ => ?_)
     | refine needI hE (by first | decide | omega) ?_
     | refine rem64 hE (by omega) (fun _ _ => ?_)
     | refine quo64 hE (by omega) (fun _ _ => ?_)
     | refine wrapU8 hE (by omega) (fun _ _ => ?_)
     | refine wrap64 hE (by omega) (fun _ _ => ?_)
     | refine noownI hE (by simp [AV.isOwn]) ?_) <;> (try conv => cbv))
  all_goals first
    | exact hK _ rfl
    | omega
    | trace_state
end Go.Proofs.Ytmliclmglgimbaa
