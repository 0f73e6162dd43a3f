/- Contracts: authorities that are alike, by the reference. -/
import Derived.Test.YtoabioecoollpaaGreatFsc
namespace Go.Proofs.YtoabioecoollpaaGreat
open Go Go.RowKit Classical
set_option maxRecDepth 100000
set_option maxHeartbeats 2000000
set_option linter.unusedVariables false
set_option linter.unusedSimpArgs false
set_option maxHeartbeats 40000000
theorem l32Authority_ (day : Int) (away : Int) (tolerance : Int) (sName : ByteArray) (sSpeed : Int) (sLoad : Int) (sDraught : Int) (bX : Int) (bY : Int) (start : Int) (day' : Int) (away' : Int) (tolerance' : Int) (sName' : ByteArray) (sSpeed' : Int) (sLoad' : Int) (sDraught' : Int) (bX' : Int) (bY' : Int) (start' : Int) {r_edition : List (List AV)} {t_edition : Bool} {b_edition : Bool} {edition : List Aid} {r_notices : List (List AV)} {t_notices : Bool} {b_notices : Bool} {notices : List Ntc} {r_fairways : List (List AV)} {t_fairways : Bool} {b_fairways : Bool} {fairways : List Fwy} {r_dangers : List (List AV)} {t_dangers : Bool} {dangers : List Dgr} {r_observers : List (List AV)} {t_observers : Bool} {observers : List Obv} {r_full : List (List AV)} {t_full : Bool} {full : List Int} {r_works : List (List AV)} {t_works : Bool} {works : List Wrk} {r_order : List (List AV)} {t_order : Bool} {order : List Int} {r_edition' : List (List AV)} {t_edition' : Bool} {b_edition' : Bool} {edition' : List Aid} {r_notices' : List (List AV)} {t_notices' : Bool} {b_notices' : Bool} {notices' : List Ntc} {r_fairways' : List (List AV)} {t_fairways' : Bool} {b_fairways' : Bool} {fairways' : List Fwy} {r_dangers' : List (List AV)} {t_dangers' : Bool} {dangers' : List Dgr} {r_observers' : List (List AV)} {t_observers' : Bool} {observers' : List Obv} {r_full' : List (List AV)} {t_full' : Bool} {full' : List Int} {r_works' : List (List AV)} {t_works' : Bool} {works' : List Wrk} {r_order' : List (List AV)} {t_order' : Bool} {order' : List Int} (h_edition : r_edition = edition.map (Aid.cs b_edition)) (h_notices : r_notices = notices.map (Ntc.cs b_notices)) (h_fairways : r_fairways = fairways.map (Fwy.cs b_fairways)) (h_dangers : r_dangers = dangers.map Dgr.cs) (h_observers : r_observers = observers.map Obv.cs) (h_full : r_full = full.map intR) (h_works : r_works = works.map Wrk.cs) (h_order : r_order = order.map intR) (h_edition' : r_edition' = edition'.map (Aid.cs b_edition')) (h_notices' : r_notices' = notices'.map (Ntc.cs b_notices')) (h_fairways' : r_fairways' = fairways'.map (Fwy.cs b_fairways')) (h_dangers' : r_dangers' = dangers'.map Dgr.cs) (h_observers' : r_observers' = observers'.map Obv.cs) (h_full' : r_full' = full'.map intR) (h_works' : r_works' = works'.map Wrk.cs) (h_order' : r_order' = order'.map intR) : AC Tryz.prog 14 [.pp [.sl t_edition 16 r_edition, .sl t_notices 20 r_notices, .int .i64 day, .sl t_fairways 5 r_fairways, .sl t_dangers 4 r_dangers, .int .i64 away, .sl t_observers 4 r_observers, .int .i64 tolerance, .sl t_full 1 r_full, .str sName, .int .i64 sSpeed, .int .i64 sLoad, .int .i64 sDraught, .int .i64 bX, .int .i64 bY, .sl t_works 7 r_works, .sl t_order 1 r_order, .int .i64 start], .pp [.sl t_edition' 16 r_edition', .sl t_notices' 20 r_notices', .int .i64 day', .sl t_fairways' 5 r_fairways', .sl t_dangers' 4 r_dangers', .int .i64 away', .sl t_observers' 4 r_observers', .int .i64 tolerance', .sl t_full' 1 r_full', .str sName', .int .i64 sSpeed', .int .i64 sLoad', .int .i64 sDraught', .int .i64 bX', .int .i64 bY', .sl t_works' 7 r_works', .sl t_order' 1 r_order', .int .i64 start']] AV.bool (bP ((Aut.mk edition notices day fairways dangers away observers tolerance full sName sSpeed sLoad sDraught bX bY works order start) = (Aut.mk edition' notices' day' fairways' dangers' away' observers' tolerance' full' sName' sSpeed' sLoad' sDraught' bX' bY' works' order' start'))) := by
  refine ac Tryz.func14 (by kernel_rfl) (.bool _) fun E K hE hK => ?_
  conv => cbv
  repeat' first
    | ((refine loopC hE (ι := Int) [0, 1] [5] (fun q => (fun (i : Int) => [(5, .int .i64 i)]) q) (fun q => (fun (i : Int) => []) q) (fun q => (fun (i : Int) => (dangers.length - i).toNat) q) (fun q => (fun (i : Int) => 0 ≤ i ∧ Up (fun j => dangers[j]? = dangers'[j]?) i) q) [] (by decide) (0) (by conv => lhs; cbv) (by conv => lhs; cbv) rfl rfl (by dsimp only; exact ⟨by omega, .zero (by omega)⟩) fun i hi2 Kn2 hN2 => ?_; (try dsimp only at hi2); conv => cbv); obtain ⟨h02, hinv2⟩ := hi2)
    | ((refine loopC hE (ι := Int) [0, 1] [6] (fun q => (fun (i : Int) => [(6, .int .i64 i)]) q) (fun q => (fun (i : Int) => []) q) (fun q => (fun (i : Int) => (observers.length - i).toNat) q) (fun q => (fun (i : Int) => 0 ≤ i ∧ Up (fun j => observers[j]? = observers'[j]?) i) q) [] (by decide) (0) (by conv => lhs; cbv) (by conv => lhs; cbv) rfl rfl (by dsimp only; exact ⟨by omega, .zero (by omega)⟩) fun i hi3 Kn3 hN3 => ?_; (try dsimp only at hi3); conv => cbv); obtain ⟨h03, hinv3⟩ := hi3)
    | ((refine loopC hE (ι := Int) [0, 1] [7] (fun q => (fun (i : Int) => [(7, .int .i64 i)]) q) (fun q => (fun (i : Int) => []) q) (fun q => (fun (i : Int) => (works.length - i).toNat) q) (fun q => (fun (i : Int) => 0 ≤ i ∧ Up (fun j => works[j]? = works'[j]?) i) q) [] (by decide) (0) (by conv => lhs; cbv) (by conv => lhs; cbv) rfl rfl (by dsimp only; exact ⟨by omega, .zero (by omega)⟩) fun i hi4 Kn4 hN4 => ?_; (try dsimp only at hi4); conv => cbv); obtain ⟨h04, hinv4⟩ := hi4)
    | (refine hN4 _ _ [] (by decide) rfl ⟨?_, ?_⟩ ?_ <;> (try dsimp only))
    | (refine hN3 _ _ [] (by decide) rfl ⟨?_, ?_⟩ ?_ <;> (try dsimp only))
    | (refine hN2 _ _ [] (by decide) rfl ⟨?_, ?_⟩ ?_ <;> (try dsimp only))
    | ((first
     | refine idxV hE (by assumption) (by omega) (by assumption) ?_
     | refine callP hE (sSameAids_ (by assumption) (by assumption)) (fun _ => ?_) (fun _ => ?_)
     | refine callP hE (sSameNotices_ (by assumption) (by assumption)) (fun _ => ?_) (fun _ => ?_)
     | refine callP hE (l32Fairways_ (by assumption) (by assumption)) (fun _ => ?_) (fun _ => ?_)
     | refine callP hE (l00Same_ (by assumption) (by assumption)) (fun _ => ?_) (fun _ => ?_)
     | refine aeqI hE (fun hq => ?_) (fun hq => ?_)
     | (refine idxL (R := Dgr.cs) hE (by assumption) (by first | omega | (simp only [List.length_set, mix_len]; omega)) ?_; rintro ⟨⟩ _)
     | (refine idxL (R := Obv.cs) hE (by assumption) (by first | omega | (simp only [List.length_set, mix_len]; omega)) ?_; rintro ⟨⟩ _)
     | (refine idxL (R := Wrk.cs) hE (by assumption) (by first | omega | (simp only [List.length_set, mix_len]; omega)) ?_; rintro ⟨⟩ _)
     | refine ltT hE (by omega) ?_
     | refine ltF hE (by omega) ?_
     | refine ltI hE (fun _ => ?_) (fun _ => ?_)
     | refine leT hE (by omega) ?_
     | refine leF hE (by omega) ?_
     | refine leI hE (fun _ => ?_) (fun _ => ?_)
     | refine eqT hE (by omega) ?_
     | refine eqF hE (by omega) ?_
     | refine eqI hE (fun _ => ?_) (fun _ => ?_)
     | refine add64 hE (by omega) (fun _ _ => ?_)
     | refine sub64 hE (by omega) (fun _ _ => ?_)
     | refine addI hE (fun _ _ => ?_)
     | refine subI hE (fun _ _ => ?_)
     | refine lenL hE (by assumption) (fun _ _ _ => ?_)
     | refine len0 hE (fun _ _ => ?_)
     | refine idxL hE (by assumption) (by first | omega | (simp only [List.length_set, mix_len]; omega)) (fun _ _ => ?_)
     | refine idxFill hE (by assumption) (by omega) ?_
     | refine idxI hE (by decide) (by rfl) ?_
     | refine iteB (fun _ => ?_) (fun _ => ?_)
     | refine maxI hE (fun _ _ => ?_)
     | refine minI hE (fun _ _ => ?_)
     | refine seqI hE (fun _ => ?_) (fun _ => ?_)
     | refine scatI hE (by first | omega | (simp only [ByteArray.size, Array.size, List.length_cons, List.length_nil] at *; omega)) (fun _ _ _ => ?_)
     | refine slenI hE (fun _ _ _ => ?_)
     | refine sidxI hE (by omega) (fun _ _ _ _ => ?_)
     | refine needI hE (by first | decide | omega) ?_
     | refine rem64 hE (by omega) (fun _ _ => ?_)
     | refine quo64 hE (by omega) (fun _ _ => ?_)
     | refine wrapU8 hE (by omega) (fun _ _ => ?_)
     | refine wrap64 hE (by omega) (fun _ _ => ?_)
     | refine noownI hE (by simp [AV.isOwn]) ?_) <;> (try conv => cbv))
  all_goals (try clear hN2)
  all_goals (try clear hN3)
  all_goals (try clear hN4)
  all_goals (clear h_edition h_notices h_fairways h_dangers h_observers h_full h_works h_order h_edition' h_notices' h_fairways' h_dangers' h_observers' h_full' h_works' h_order')
  all_goals first
    | omega
    | (refine hinv4.succ ?_ (by assumption); clear hinv2 hinv3 hinv4 hK; simp only [pairsP, and_true] at *; simp_all; done)
    | (refine hinv3.succ ?_ (by assumption); clear hinv2 hinv3 hK; simp only [pairsP, and_true] at *; simp_all; done)
    | (refine hinv2.succ ?_ (by assumption); clear hinv2 hK; simp only [pairsP, and_true] at *; simp_all; done)
    | (refine finB hK (bP_true.2 ?_); have g2 := list_eq_of (by omega) hinv2 (by omega); have g3 := list_eq_of (by omega) hinv3 (by omega); have g4 := list_eq_of (by omega) hinv4 (by omega); clear hinv2 hinv3 hinv4 hK; simp only [pairsP, and_true, Aut.mk.injEq, Shp.mk.injEq, Pnt.mk.injEq] at *; simp_all; done)
    | (refine finB hK (bP_false.2 fun hh => ?_); clear hK; (try clear hinv2); (try clear hinv3); (try clear hinv4); cases hh; first | contradiction | (exfalso; omega) | (simp only [pairsP, and_true, not_true_eq_false] at *; done) | (simp only [pairsP, and_true] at *; simp_all; done))
    | trace_state
end Go.Proofs.YtoabioecoollpaaGreat
