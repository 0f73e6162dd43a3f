/- Contracts: lists of lists of numbers sorted, their doubles left out. -/
import Derived.Test.YtoafgafkmeghlaaGreatDoorGtc
namespace Go.Proofs.YtoafgafkmeghlaaGreatDoor
open Go Go.RowKit Go.Sort Go.Shelf Classical
set_option maxRecDepth 100000
set_option maxHeartbeats 2000000
set_option linter.unusedVariables false
set_option linter.unusedSimpArgs false
theorem ACS.mono {P : Program} {f : FuncId} {us : List AV} {Q Q' : AV → List AV → Prop} (h : ACS P f us Q) (hq : ∀ r ys, Q r ys → Q' r ys) : ACS P f us Q' :=
  ⟨h.1, fun w A vs F g1 g2 g3 g4 g5 => (h.2 w A vs F g1 g2 g3 g4 g5).mono fun e w' ⟨v, G, A', r, ys, h1, h2⟩ => ⟨v, G, A', r, ys, hq _ _ h1, h2⟩⟩
def slI (x : List Int) : AV := .sl true 1 (x.map intR)
theorem slI_noB (x : List Int) : NoB (slI x) := .ints x
theorem lex_swo : SWO (ltOf lexC) where
  irrefl x := by unfold ltOf; rw [lexC_self]; rfl
  trans x y z h1 h2 := by
    unfold ltOf at *
    simp only [decide_eq_true_eq] at *
    exact lexC_trans h1 h2
  ntrans x y z h1 h2 := by
    unfold ltOf at *
    simp only [decide_eq_false_iff_not] at *
    intro h3
    have e1 := lexC_swap x y
    have e2 := lexC_swap y z
    rcases Int.lt_trichotomy (lexC x y) 0 with g | g | g
    · exact h1 g
    · have := lexC_eq g; subst this; exact h2 h3
    · have h4 : lexC y x < 0 := by omega
      exact h2 (lexC_trans h4 h3)
theorem sortLL_ {rs : List (List AV)} {l : List (List Int)} (hl : rs = l.map (llR true)) (hb : l.length ≤ 1048576) : ACM Tryz.prog 58 [.sl true 1 rs, .fn 59 []] (fun r ys => ∃ (m : List (List Int)) (rs' : List (List AV)), m.Perm l ∧ (∀ (i j : Nat) x y, i < j → m[i]? = some x → m[j]? = some y → ¬ lexC y x < 0) ∧ rs' = m.map (llR true) ∧ r = .tup [] ∧ ys = [.sl true 1 rs', .any]) := by
  subst hl
  have hent : Enters Tryz.prog 58 := fun xs w => enters_go Tryz.func58 (by kernel_rfl) rfl xs w
  refine ACM.close (R := slI) slI_noB hent fun ls e1 e2 => ?_
  refine (ACS.sortN slI Tryz.sortLL { Tryz.sortLL with } hent lex_swo (fun x y => compareII_ rfl rfl) e2 (by rw [← e1, List.length_map] at hb; exact hb)).mono ?_
  rintro r ys ⟨m, hm, hs, rfl, rfl⟩
  refine ⟨1, m, _, _, .perm hm, rfl, fun j a hj ha => ?_, rfl, m.map Prod.snd, _, by rw [← e1]; exact hm.map _, fun i j x y hij hx hy => ?_, rfl, rfl, rfl⟩
  · match j, ha with
    | 0, ha => cases ha; exact .tup0
    | 1, _ => exact (hj rfl).elim
    | 2, ha => cases ha; exact .any
    | n + 3, ha => simp at ha
  · rw [List.getElem?_map] at hx hy
    cases h1 : m[i]? with
    | none => rw [h1] at hx; cases hx
    | some p =>
      cases h2 : m[j]? with
      | none => rw [h2] at hy; cases hy
      | some q =>
        rw [h1] at hx; rw [h2] at hy
        cases hx; cases hy
        exact hs i j p q hij h1 h2
theorem keepI_snd {α β : Type} {eq : β → β → Prop} {ls : List (α × β)} {i : Nat} : keepI (fun p q : α × β => eq p.2 q.2) ls i ↔ keepI eq (ls.map Prod.snd) i := by
  unfold keepI
  constructor
  · intro h x y hx h0 hy
    rw [List.getElem?_map] at hx hy
    cases h1 : ls[i]? with
    | none => rw [h1] at hx; cases hx
    | some p =>
      cases h2 : ls[i - 1]? with
      | none => rw [h2] at hy; cases hy
      | some q =>
        rw [h1] at hx; rw [h2] at hy
        cases hx; cases hy
        exact h p q h1 h0 h2
  · intro h p q hp h0 hq
    exact h p.2 q.2 (by rw [List.getElem?_map, hp]; rfl) h0 (by rw [List.getElem?_map, hq]; rfl)
theorem compact_snd {α β : Type} {eq : β → β → Prop} (ls : List (α × β)) : (compactL (fun p q : α × β => eq p.2 q.2) ls).map Prod.snd = compactL eq (ls.map Prod.snd) := by
  unfold compactL compN compI
  rw [List.map_filterMap, List.length_map]
  have e : (fun i => decide (keepI (fun p q : α × β => eq p.2 q.2) ls i)) = fun i => decide (keepI eq (ls.map Prod.snd) i) := funext fun i => by
    rw [decide_eq_decide]; exact keepI_snd
  rw [e]
  congr 1
  funext i
  rw [List.getElem?_map]
theorem compactLL_ {rs : List (List AV)} {l : List (List Int)} (hl : rs = l.map (llR true)) (hb : l.length ≤ 1048576) : ACM Tryz.prog 60 [.sl true 1 rs, .fn 61 []] (fun r ys => ∃ rs', rs' = (compactL (· = ·) l).map (llR true) ∧ r = .sl true 1 rs' ∧ ys = [.any, .any]) := by
  subst hl
  have hent : Enters Tryz.prog 60 := fun xs w => enters_go Tryz.func60 (by kernel_rfl) rfl xs w
  refine ACM.close (R := slI) slI_noB hent fun ls e1 e2 => ?_
  refine (compactO_ (R := slI) (eq := (· = ·)) (fun x y => equalII_ rfl rfl) rfl (by rw [← e1, List.length_map] at hb; exact hb)).mono ?_
  rintro r ys ⟨es, rfl, rfl, rfl⟩
  refine ⟨0, _, _, _, sel_comp _ ls, rfl, fun j a hj ha => ?_, rfl, _, ?_, rfl, rfl⟩
  · match j, ha with
    | 0, _ => exact (hj rfl).elim
    | 1, ha => cases ha; exact .any
    | 2, ha => cases ha; exact .any
    | n + 3, ha => simp at ha
  · rw [compact_snd, e1]; rfl
end Go.Proofs.YtoafgafkmeghlaaGreatDoor
