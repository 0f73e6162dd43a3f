/- Contracts: how many aids each observer sees; the law. -/
import Derived.Test.YtoafgafkmeghlaaGreatDoorGsm
namespace Go.Proofs.YtoafgafkmeghlaaGreatDoor
open Go Go.RowKit Classical
set_option maxRecDepth 100000
set_option maxHeartbeats 2000000
set_option linter.unusedVariables false
set_option linter.unusedSimpArgs false
theorem indexObserver0_ {rs : List (List AV)} {t : Bool} {l : List Obv} {g : FuncId} {p : Obv → Prop} (hl : rs = l.map Obv.cs) (hp : ∀ atX atY eye vis, AC Tryz.prog g (.agg [.int .i64 atX, .int .i64 atY, .int .i64 eye, .int .i64 vis] :: []) AV.bool (bP (p ⟨atX, atY, eye, vis⟩))) : AC Tryz.prog 81 [.sl t 4 rs, .fn g []] (AV.int .i64) (firstI p l) := by
  refine ac Tryz.func81 (by kernel_rfl) (.int _ _) fun E K hE hK => ?_
  conv => cbv
  refine lenL hE hl fun n hn hb => ?_
  conv => cbv
  refine loopC hE (ι := Int) [0, 1, 7] [8] (fun q => (fun (i : Int) => [(8, .int .i64 i)]) q) (fun q => (fun (i : Int) => []) q) (fun q => (fun (i : Int) => (l.length - i).toNat) q) (fun q => (fun (i : Int) => 0 ≤ i ∧ Up (fun j => ∀ v, l[j]? = some v → ¬ p v) i) q) [] (by decide) (0) (by conv => lhs; cbv) (by conv => lhs; cbv) rfl rfl (by dsimp only; exact ⟨by omega, .zero (by omega)⟩) fun i hi Kn hN => ?_
  (try dsimp only at hi)
  conv => cbv
  obtain ⟨h0, hinv⟩ := hi
  repeat' first
    | (refine hN _ _ [] (by decide) rfl ⟨?_, ?_⟩ ?_ <;> (try dsimp only))
    | ((first
   | refine q0 hE ?_
   | refine callP hE (hp _ _ _ _) (fun _ => ?_) (fun _ => ?_)
   | (refine idxL (R := Obv.cs) hE (by assumption) (by first | omega | (simp only [List.length_set, mix_len]; omega)) ?_; rintro ⟨⟩ _)
   | refine B0 hE ?_|refine B1 hE (fun _=>?_) fun _=>?_|refine B3 hE fun _ _ _=>?_|refine B2 hE fun _ _=>?_|refine B4 hE fun _ _ _ _=>?_) <;> (try conv => cbv))
  · refine hK _ ?_
    rw [firstI_in h0 (by assumption) (by assumption) hinv]; rfl
  · omega
  · refine hinv.succ ?_ (by assumption)
    clear hN; simp_all
  · omega
  · refine hK _ ?_
    rw [firstI_out (by omega) hinv]; rfl
theorem containsObserver0_ {rs : List (List AV)} {t : Bool} {l : List Obv} {g : FuncId} {p : Obv → Prop} (hl : rs = l.map Obv.cs) (hp : ∀ atX atY eye vis, AC Tryz.prog g (.agg [.int .i64 atX, .int .i64 atY, .int .i64 eye, .int .i64 vis] :: []) AV.bool (bP (p ⟨atX, atY, eye, vis⟩))) : AC Tryz.prog 52 [.sl t 4 rs, .fn g []] AV.bool (bP (∃ v ∈ l, p v)) := by
  refine ac Tryz.func52 (by kernel_rfl) (.bool _) fun E K hE hK => ?_
  conv => cbv
  refine callI hE (indexObserver0_ hl hp) fun y hy => ?_
  conv => cbv
  refine leI hE (fun h => ?_) (fun h => ?_) <;> conv => cbv
  · exact finB hK (bP_true.2 (firstI_ge.1 (by omega)))
  · exact finB hK (bP_false.2 fun h' => by have := firstI_ge.2 h'; omega)
def Obv.ok (o : Obv) : Prop := ObvOk o.atX o.atY o.eye o.vis
def AskOk (l : List Aid) (os : List Obv) : Prop := AidsOk l ∧ ∀ o ∈ os, o.ok
theorem areObservers1_ (atX atY eye vis : Int) : AC Tryz.prog 53 [.agg [.int .i64 atX, .int .i64 atY, .int .i64 eye, .int .i64 vis]] AV.bool (bP (¬ Obv.ok ⟨atX, atY, eye, vis⟩)) := by
  refine ac Tryz.func53 (by kernel_rfl) (.bool _) fun E K hE hK => ?_
  conv => cbv
  repeat' first
    | ((first
   | refine q0 hE ?_
   | refine callP hE (validObserver_ _ _ _ _) (fun _ => ?_) (fun _ => ?_)
   | refine B0 hE ?_|refine B1 hE (fun _=>?_) fun _=>?_|refine B3 hE fun _ _ _=>?_|refine B2 hE fun _ _=>?_|refine B4 hE fun _ _ _ _=>?_) <;> (try conv => cbv))
  all_goals first
    | exact finB hK (bP_false.2 fun h => h (by assumption))
    | exact finB hK (bP_true.2 (by assumption))
    | trace_state
theorem areObservers_ {rs ro : List (List AV)} {t t' b : Bool} {l : List Aid} {os : List Obv} (hl : rs = l.map (Aid.cs b)) (ho : ro = os.map Obv.cs) : AC Tryz.prog 24 [.sl t 16 rs, .sl t' 4 ro] AV.bool (bP (AskOk l os)) := by
  refine ac Tryz.func24 (by kernel_rfl) (.bool _) fun E K hE hK => ?_
  conv => cbv
  refine callP hE (validAids_ hl) (fun h1 => ?_) (fun h1 => ?_) <;> conv => cbv
  · refine callP hE (containsObserver0_ (p := fun o => ¬ Obv.ok o) ho areObservers1_) (fun h2 => ?_) (fun h2 => ?_) <;> conv => cbv
    · refine finB hK (bP_false.2 fun h => ?_)
      obtain ⟨o, g1, g2⟩ := h2
      exact g2 (h.2 o g1)
    · exact finB hK (bP_true.2 ⟨h1, fun o ho => Classical.byContradiction fun hn => h2 ⟨o, ho, hn⟩⟩)
  · exact finB hK (bP_false.2 fun h => h1 h.1)
noncomputable def askR (l : List Aid) (os : List Obv) : Int := if AskOk l os then (if os.length ≤ 16 then 0 else 5) else 1
theorem upAll {α : Type} {l : List α} {p : α → Prop} {i : Int} (h : Up (fun j => ∃ w, l[j]? = some w ∧ p w) i) (hi : l.length ≤ i) : ∀ w ∈ l, p w := fun w hw => by
  obtain ⟨j, hj⟩ := List.getElem?_of_mem hw
  obtain ⟨w', h1, h2⟩ := h j (by have := (List.getElem?_eq_some_iff.1 hj).1; omega)
  rw [hj] at h1; cases h1; exact h2
theorem l16Ask_ {rs ro : List (List AV)} {t t' b : Bool} {l : List Aid} {os : List Obv} (hl : rs = l.map (Aid.cs b)) (ho : ro = os.map Obv.cs) : AC Tryz.prog 18 [.sl t 16 rs, .sl t' 4 ro] (AV.int .i64) (askR l os) := by
  refine ac Tryz.func18 (by kernel_rfl) (.int _ _) fun E K hE hK => ?_
  conv => cbv
  refine callP hE (l12Ok_ hl) (fun h1 => ?_) (fun h1 => ?_) <;> conv => cbv
  · refine loopC hE (ι := Int) [1] [5] (fun q => (fun (i : Int) => [(5, .int .i64 i)]) q) (fun q => (fun (i : Int) => []) q) (fun q => (fun (i : Int) => (os.length - i).toNat) q) (fun q => (fun (i : Int) => 0 ≤ i ∧ Up (fun j => ∃ o, os[j]? = some o ∧ Obv.ok o) i) q) [] (by decide) (0) (by conv => lhs; cbv) (by conv => lhs; cbv) rfl rfl (by dsimp only; exact ⟨by omega, .zero (by omega)⟩) fun i hi Kn hN => ?_
    (try dsimp only at hi)
    conv => cbv
    obtain ⟨h0, hinv⟩ := hi
    repeat' first
      | (refine idxL (R := Obv.cs) hE ho (by omega) (fun o hv => ?_); obtain ⟨ox, oy, oe, ov⟩ := o; (try conv => cbv))
      | (refine hN _ _ [] (by decide) rfl ⟨?_, ?_⟩ ?_ <;> (try dsimp only))
      | ((first
     | refine q0 hE ?_
     | refine callP hE (l16One_ _ _ _ _) (fun _ => ?_) (fun _ => ?_)
     | refine B0 hE ?_|refine B1 hE (fun _=>?_) fun _=>?_|refine B3 hE fun _ _ _=>?_|refine B2 hE fun _ _=>?_|refine B4 hE fun _ _ _ _=>?_) <;> (try conv => cbv))
    all_goals (try clear hN)
    all_goals first
      | omega
      | exact hinv.succ ⟨_, hv, by assumption⟩ (by assumption)
      | (refine hK _ ?_; rw [askR, if_neg (fun h : AskOk l os => by have := h.2 _ (List.mem_of_getElem? hv); contradiction)]; rfl)
      | (refine hK _ ?_; rw [askR, if_pos ⟨h1, upAll hinv (by omega)⟩, if_neg (by omega)]; rfl)
      | (refine hK _ ?_; rw [askR, if_pos ⟨h1, upAll hinv (by omega)⟩, if_pos (by omega)]; rfl)
      | trace_state
  · exact hK _ (by rw [askR, if_neg fun h => h1 h.1]; rfl)
theorem askR_ok {l : List Aid} {os : List Obv} (h : AskOk l os) (h16 : os.length ≤ 16) : askR l os = 0 := by rw [askR, if_pos h, if_pos h16]
theorem askR_of {l : List Aid} {os : List Obv} (h : askR l os = 0) : AskOk l os ∧ os.length ≤ 16 := by
  unfold askR at h
  split at h
  · split at h
    · exact ⟨by assumption, by assumption⟩
    · omega
  · omega
set_option maxHeartbeats 4000000
end Go.Proofs.YtoafgafkmeghlaaGreatDoor
