/- Contracts: a fault is reported by the program; the law. -/
import Derived.Test.YtifjebnieieolaaGreatDoorFfb
namespace Go.Proofs.YtifjebnieieolaaGreatDoor
open Go Go.RowKit Go.Sort Classical
set_option maxRecDepth 100000
set_option maxHeartbeats 2000000
set_option linter.unusedVariables false
set_option linter.unusedSimpArgs false
theorem Fau.swo : SWO (ltOf Fau.cmp) :=
  swo_of (fun x => by rw [Fau.cmp_neg]; exact Fau.less_ir x) (fun x y z h1 h2 => by rw [Fau.cmp_neg] at *; exact Fau.less_tr _ _ _ h1 h2) (fun x y z h1 h2 => by rw [Fau.cmp_neg] at *; unfold Fau.less at *; omega)
theorem sortFau_ {rs : List (List AV)} {l : List Fau} (hl : rs = l.map Fau.cs) (hb : l.length ≤ 1048576) : ACM Tryz.prog 25 [.sl true 4 rs, .fn 26 []]
    (fun r ys => ∃ (m : List Fau) (rs' : List (List AV)), m.Perm l ∧ (m.Pairwise fun x y => ¬ Fau.less y x) ∧ rs' = m.map Fau.cs ∧ r = .tup [] ∧ ys = [.sl true 4 rs', .any]) :=
  (ACM.sort Fau.cs Tryz.sortFlt Tryz.isAgg37 Tryz.sizeOf37 (fun _ _ => rfl) (fun _ => rfl) (fun _ _ h => by simp only [Fau.cs, List.mem_cons, List.not_mem_nil, or_false] at h; rcases h with rfl | rfl | rfl | rfl <;> rfl) Fau.swo (fun x y => fauCompare_ x.aid x.kind x.frm x.til y.aid y.kind y.frm y.til) hl hb).mono
    fun r ys ⟨m, rs', h1, h2, h3, h4, h5⟩ => ⟨m, rs', h1, pw_of fun i j x y hij hx hy h => h2 i j x y hij hx hy ((Fau.cmp_neg y x).2 h), h3, h4, h5⟩
theorem reportFault_ {rs : List (List AV)} {b : Bool} {l : List Fau} (a k t : Int) (hl : rs = l.map Fau.cs) : AC Tryz.prog 6 [.sl b 4 rs, .int .i64 a, .int .i64 k, .int .i64 t] fauLI (repR l a k t) := by
  refine ac Tryz.func6 (by kernel_rfl) (.fauLI _) fun E K hE hK => ?_
  conv => cbv
  repeat' first
    | (refine callP hE (validFaults_ (by assumption)) (fun hok => ?_) (fun hok => ?_) <;> (try have h48 := hok.2) <;> (try conv => cbv))
    | (refine callP hE (fauValid_ _ _ _ _) (fun hv => ?_) (fun hv => ?_) <;> (try conv => cbv))
    | (refine callP hE (containsFaultb_ (p := fun w => Fau.meets ⟨a, k, t, -1⟩ w) hl (fun a' b' c' d' => fauMeets_ a k t (-1) a' b' c' d')) (fun hm => ?_) (fun hm => ?_) <;> (try conv => cbv))
    | (refine callMI hE (sortFau_ (by assumption) (by simp; omega)) ?_; rintro r ys ⟨m, rs2, hperm, hsort, h2, rfl, rfl⟩; have hml := hperm.length_eq; conv => cbv)
    | ((first
   | refine q0 hE ?_
   | refine callR hE (cloneFault_ hl (by omega)) (fun _ _ => ?_)
   | refine catP hE (R := Fau.cs) (v := (⟨_, _, _, _⟩ : Fau)) (by assumption) rfl (by omega) (fun _ _ => ?_)
   | refine sameI hE (by subst_vars; rw [List.length_map, List.length_map]; assumption) ?_
   | refine nilOwnI hE 4 ?_
   | refine B0 hE ?_|refine B1 hE (fun _=>?_) fun _=>?_|refine B3 hE fun _ _ _=>?_|refine B2 hE fun _ _=>?_|refine B4 hE fun _ _ _ _=>?_) <;> (try conv => cbv))
  all_goals first
    | omega
    | (refine hK _ ?_; rw [repR, if_neg hok]; rfl)
    | (refine hK _ ?_; rw [repR, if_pos hok, if_neg hv]; rfl)
    | (refine hK _ ?_; rw [repR, if_pos hok, if_pos hv, if_pos hm]; rfl)
    | (refine hK _ ?_; rw [repR, if_pos hok, if_pos hv, if_neg hm, if_pos (by omega)]; rfl)
    | (refine hK _ ?_; rw [repR, if_pos hok, if_pos hv, if_neg hm, if_neg (by omega), h2, strict_uniq Fau.less_tr Fau.less_ir (hperm.trans (ins_perm _ _ _)) (insF_pw Fau.less_tr (faus_pw hok) (fun w hw => fau_apart hv (hok.all w hw) fun h => hm ⟨w, hw, h⟩)) hsort]; rfl)
    | trace_state
end Go.Proofs.YtifjebnieieolaaGreatDoor
