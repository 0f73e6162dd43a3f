/- Contracts: roots, distances. -/
import Derived.Test.YthiecdiiindegaaGreatDoorFnm
namespace Go.Proofs.YthiecdiiindegaaGreatDoor
open Go Go.RowKit Classical
set_option maxRecDepth 100000
set_option maxHeartbeats 2000000
set_option linter.unusedVariables false
set_option linter.unusedSimpArgs false
theorem mul_bd {a b B : Int} (h : (-B ≤ a ∧ a ≤ B) ∧ -B ≤ b ∧ b ≤ B) : -(B * B) ≤ a * b ∧ a * b ≤ B * B := by
  have h1 : 0 ≤ (B - a) * (B + b) := Int.mul_nonneg (by omega) (by omega)
  have h2 : 0 ≤ (B + a) * (B - b) := Int.mul_nonneg (by omega) (by omega)
  have h3 : 0 ≤ (B - a) * (B - b) := Int.mul_nonneg (by omega) (by omega)
  have h4 : 0 ≤ (B + a) * (B + b) := Int.mul_nonneg (by omega) (by omega)
  simp only [Int.sub_mul, Int.add_mul, Int.mul_sub, Int.mul_add, Int.mul_comm b B] at h1 h2 h3 h4
  have e1 : a * B = B * a := Int.mul_comm _ _
  rw [e1] at h1 h2 h3 h4
  omega
theorem mulC {E : Env} {np : Nat} {P : Program} (hE : E = stdE np P) (B : Int) {a b : Int} {K : Int → Prop} (h : (-B ≤ a ∧ a ≤ B) ∧ -B ≤ b ∧ b ≤ B) (hB : B * B ≤ 9223372036854775807) (hk : ∀ m, m = a * b → -(B * B) ≤ m → m ≤ B * B → K m) : E.mul .i64 a b K := by
  have h1 := mul_bd h
  exact mul64 hE (by omega) fun m hm => hk m hm (by omega) (by omega)
def IsRoot (n r : Int) : Prop := 0 ≤ r ∧ r * r ≤ n ∧ n < (r + 1) * (r + 1)
theorem sq_mono {a b : Int} (h0 : 0 ≤ a) (h : a ≤ b) : a * a ≤ b * b := by
  have := Int.mul_le_mul h h h0 (Int.le_trans h0 h)
  exact this
theorem IsRoot.uniq {n r s : Int} (h : IsRoot n r) (k : IsRoot n s) : r = s := by
  obtain ⟨h1, h2, h3⟩ := h
  obtain ⟨k1, k2, k3⟩ := k
  rcases Int.lt_trichotomy r s with h | h | h
  · have := sq_mono (a := r + 1) (b := s) (by omega) (by omega); omega
  · exact h
  · have := sq_mono (a := s + 1) (b := r) (by omega) (by omega); omega
theorem IsRoot.ex : ∀ n : Nat, ∃ r, IsRoot n r
  | 0 => ⟨0, by omega, by simp, by simp⟩
  | n + 1 => by
    obtain ⟨r, h1, h2, h3⟩ := IsRoot.ex n
    by_cases h : ((n + 1 : Nat) : Int) < (r + 1) * (r + 1)
    · exact ⟨r, h1, by omega, h⟩
    · refine ⟨r + 1, by omega, by omega, ?_⟩
      have : (r + 1 + 1) * (r + 1 + 1) = (r + 1) * (r + 1) + 2 * (r + 1) + 1 := by
        simp only [Int.add_mul, Int.mul_add]; omega
      omega
noncomputable def rootI (n : Int) : Int := if n < 0 then 0 else (IsRoot.ex n.toNat).choose
theorem rootI_spec {n : Int} (h : 0 ≤ n) : IsRoot n (rootI n) := by
  unfold rootI
  rw [if_neg (by omega)]
  have h1 := (IsRoot.ex n.toNat).choose_spec
  generalize (IsRoot.ex n.toNat).choose = r at *
  rwa [Int.toNat_of_nonneg h] at h1
theorem rootI_eq {n r : Int} (hr : IsRoot n r) : rootI n = r := by
  have h0 : 0 ≤ n := Int.le_trans (Int.mul_nonneg hr.1 hr.1) hr.2.1
  exact (rootI_spec h0).uniq hr
theorem rootI_neg {n : Int} (h : n < 0) : rootI n = 0 := by unfold rootI; rw [if_pos h]
theorem rootOf_ (n : Int) (hn : n ≤ 9223372036854775807) : AC Tryz.prog 59 [.int .i64 n] (AV.int .i64) (rootI n) := by
  refine ac Tryz.func59 (by kernel_rfl) (.int _ _) fun E K hE hK => ?_
  conv => cbv
  (try refine ltI hE (fun h => ?_) (fun h => ?_) <;> conv => cbv)
  all_goals first
    | (refine hK _ ?_; rw [rootI_neg (by assumption)]; rfl)
    | skip
  refine loopC hE (ι := Int × Int) [0] [3, 4] (fun q => (fun (lo : Int) (hi0 : Int) => [(3, .int .i64 lo), (4, .int .i64 hi0)]) q.1 q.2) (fun q => (fun (lo : Int) (hi0 : Int) => []) q.1 q.2) (fun q => (fun (lo : Int) (hi0 : Int) => (hi0 - lo).toNat) q.1 q.2) (fun q => (fun (lo : Int) (hi0 : Int) => (0 ≤ lo ∧ lo ≤ hi0 ∧ hi0 ≤ 3037000499) ∧ ((0 ≤ n ∧ lo * lo ≤ n) ∨ (n < 0 ∧ lo = 0)) ∧ n < (hi0 + 1) * (hi0 + 1)) q.1 q.2) [] (by decide) ((0, 3037000499)) (by conv => lhs; cbv) (by conv => lhs; cbv) rfl rfl (by dsimp only; exact ⟨by omega, by omega, by omega⟩) fun q hi Kn hN => ?_
  obtain ⟨lo, hi0⟩ := q
  (try dsimp only at hi)
  conv => cbv
  obtain ⟨h0, h1, h2⟩ := hi
  repeat' first
    | (refine mulC hE 3037000499 (by omega) (by omega) (fun m hm _ _ => ?_); (try conv => cbv))
    | (refine hN (_, _) _ [] (by decide) rfl ⟨?_, ?_, ?_⟩ ?_ <;> (try dsimp only))
    | ((first
   | refine q0 hE ?_
   | refine B0 hE ?_|refine B1 hE (fun _=>?_) fun _=>?_|refine B3 hE fun _ _ _=>?_|refine B2 hE fun _ _=>?_|refine B4 hE fun _ _ _ _=>?_) <;> (try conv => cbv))
  all_goals (try clear hN)
  all_goals first
    | omega
    | (subst_vars; left; exact ⟨by have := sq_mono (a := 0) (b := (lo + hi0 + 1) / 2) (by omega) (by omega); omega, by assumption⟩)
    | (rcases h1 with h1 | h1
       · exact .inl h1
       · exact .inr h1)
    | (subst_vars; rw [show ∀ a : Int, a - 1 + 1 = a from fun a => by omega]; omega)
    | (refine hK _ ?_
       have e : lo = hi0 := by omega
       rcases h1 with h1 | h1
       · rw [rootI_eq ⟨h0.1, h1.2, by rw [e]; exact h2⟩]; rfl
       · rw [rootI_neg h1.1, h1.2]; rfl)
    | trace_state

end Go.Proofs.YthiecdiiindegaaGreatDoor
