/- Contracts: names, times, comparisons of texts. -/
import Derived.Test.YtoafgafkmeghlaaGreatDoorFA
namespace Go.Proofs.YtoafgafkmeghlaaGreatDoor
open Go Go.RowKit Classical
set_option maxRecDepth 100000
set_option maxHeartbeats 2000000
set_option linter.unusedVariables false
set_option linter.unusedSimpArgs false
def chr (s : ByteArray) (j : Nat) : Int := ((s.data.getD j 0).toNat : Int)
def isSm (n : Int) : Prop := 97 ≤ n ∧ n ≤ 122
def isDg (n : Int) : Prop := 48 ≤ n ∧ n ≤ 57
def NameC (s : ByteArray) (j : Nat) : Prop := isSm (chr s j) ∨ (j ≠ 0 ∧ isDg (chr s j))
def NameOk (s : ByteArray) : Prop := (0 < s.size ∧ s.size ≤ 10) ∧ ∀ j, j < s.size → NameC s j
theorem empty_iff (s : ByteArray) : s = ⟨#[]⟩ ↔ s.size = 0 := by
  constructor
  · rintro rfl; rfl
  · intro h; cases s with | mk d => exact congrArg _ (Array.eq_empty_of_size_eq_zero h)
theorem isDigit_ (n : Int) : AC Tryz.prog 159 [.int .u8 n] AV.bool (bP (isDg n)) := by
  refine ac Tryz.func159 (by kernel_rfl) (.bool _) fun E K hE hK => ?_
  conv => cbv
  repeat' first
    | ((first
   | refine q0 hE ?_
   | refine B0 hE ?_|refine B1 hE (fun _=>?_) fun _=>?_|refine B3 hE fun _ _ _=>?_|refine B2 hE fun _ _=>?_|refine B4 hE fun _ _ _ _=>?_) <;> (try conv => cbv))
  all_goals (try clear hN)
  all_goals first
    | (omega)
    | (refine finB hK (bP_true.2 ?_); first | omega | grind [isDg])
    | (refine finB hK (bP_false.2 ?_); first | omega | (intro h; grind [isDg]))
    | (refine ⟨by omega, Up.succ (by assumption) ?_ (by assumption)⟩; grind [isDg])
    | (refine hK _ ?_; simp_all [atup, isDg]; done)
    | (grind [isDg])
theorem l01Digit_ (n : Int) : AC Tryz.prog 143 [.int .u8 n] AV.bool (bP (isDg n)) := by
  refine ac Tryz.func143 (by kernel_rfl) (.bool _) fun E K hE hK => ?_
  conv => cbv
  repeat' first
    | ((first
   | refine q0 hE ?_
   | refine B0 hE ?_|refine B1 hE (fun _=>?_) fun _=>?_|refine B3 hE fun _ _ _=>?_|refine B2 hE fun _ _=>?_|refine B4 hE fun _ _ _ _=>?_) <;> (try conv => cbv))
  all_goals (try clear hN)
  all_goals first
    | (omega)
    | (refine finB hK (bP_true.2 ?_); first | omega | grind [isDg])
    | (refine finB hK (bP_false.2 ?_); first | omega | (intro h; grind [isDg]))
    | (refine ⟨by omega, Up.succ (by assumption) ?_ (by assumption)⟩; grind [isDg])
    | (refine hK _ ?_; simp_all [atup, isDg]; done)
    | (grind [isDg])
theorem l01Small_ (n : Int) : AC Tryz.prog 142 [.int .u8 n] AV.bool (bP (isSm n)) := by
  refine ac Tryz.func142 (by kernel_rfl) (.bool _) fun E K hE hK => ?_
  conv => cbv
  repeat' first
    | ((first
   | refine q0 hE ?_
   | refine B0 hE ?_|refine B1 hE (fun _=>?_) fun _=>?_|refine B3 hE fun _ _ _=>?_|refine B2 hE fun _ _=>?_|refine B4 hE fun _ _ _ _=>?_) <;> (try conv => cbv))
  all_goals (try clear hN)
  all_goals first
    | (omega)
    | (refine finB hK (bP_true.2 ?_); first | omega | grind [isSm])
    | (refine finB hK (bP_false.2 ?_); first | omega | (intro h; grind [isSm]))
    | (refine ⟨by omega, Up.succ (by assumption) ?_ (by assumption)⟩; grind [isSm])
    | (refine hK _ ?_; simp_all [atup, isSm]; done)
    | (grind [isSm])
theorem isName_ (s : ByteArray) : AC Tryz.prog 116 [.str s] AV.bool (bP (NameOk s)) := by
  refine ac Tryz.func116 (by kernel_rfl) (.bool _) fun E K hE hK => ?_
  conv => cbv
  refine loopC hE (ι := Int) [0] [3] (fun q => (fun (i : Int) => [(3, .int .i64 i)]) q) (fun q => (fun (i : Int) => []) q) (fun q => (fun (i : Int) => (s.size - i).toNat) q) (fun q => (fun (i : Int) => 0 ≤ i ∧ Up (NameC s) i) q) [] (by decide) (0) (by conv => lhs; cbv) (by conv => lhs; cbv) rfl rfl (by dsimp only; exact ⟨by omega, .zero (by omega)⟩) fun i hi Kn hN => ?_
  (try dsimp only at hi)
  conv => cbv
  obtain ⟨h0, hinv⟩ := hi
  repeat' first
    | (refine hN _ _ [] (by decide) rfl ⟨?_, ?_⟩ ?_ <;> (try dsimp only))
    | ((first
   | refine q0 hE ?_
   | refine callP hE (isDigit_ _) (fun _ => ?_) (fun _ => ?_)
   | refine callP hE (few_ _ _) (fun _ => ?_) (fun _ => ?_)
   | refine B0 hE ?_|refine B1 hE (fun _=>?_) fun _=>?_|refine B3 hE fun _ _ _=>?_|refine B2 hE fun _ _=>?_|refine B4 hE fun _ _ _ _=>?_) <;> (try conv => cbv))
  all_goals (try clear hN)
  all_goals first
    | omega
    | (refine hinv.succ ?_ (by assumption); subst_vars; first | exact .inl ⟨by assumption, by assumption⟩ | exact .inr ⟨by omega, by assumption⟩)
    | (refine finB hK (bP_true.2 ⟨⟨?_, by omega⟩, hinv.all (by omega)⟩); have := mt (empty_iff s).2 (by assumption); omega)
    | (refine finB hK (bP_false.2 fun h => ?_); have := h.2 i.toNat (by omega); subst_vars; rcases this with ⟨k1, k2⟩ | ⟨k1, k2⟩ <;> first | omega | (exact absurd k2 (by assumption)) | (unfold chr at *; omega) | (unfold isDg chr at *; omega))
    | (refine finB hK (bP_false.2 fun h => ?_); have := h.1; omega)
    | (refine finB hK (bP_false.2 fun h => ?_); have := h.1; have := (empty_iff s).1 (by assumption); omega)
    | trace_state
theorem l01Name_ (s : ByteArray) : AC Tryz.prog 101 [.str s] AV.bool (bP (NameOk s)) := by
  refine ac Tryz.func101 (by kernel_rfl) (.bool _) fun E K hE hK => ?_
  conv => cbv
  refine seqI hE (fun he => ?_) (fun he => ?_) <;> conv => cbv
  · refine finB hK (bP_false.2 fun h => ?_)
    have := h.1; have := (empty_iff s).1 he; omega
  · have hpos : 0 < s.size := by have := mt (empty_iff s).2 he; omega
    refine slenI hE fun n hn hb => ?_
    conv => cbv
    refine ltI hE (fun hlt => ?_) (fun hge => ?_) <;> conv => cbv
    · exact finB hK (bP_false.2 fun h => by have := h.1; omega)
    · refine sidxI hE (by omega) fun c hc _ _ => ?_
      conv => cbv
      refine callP hE (l01Small_ _) (fun hsm => ?_) (fun hsm => ?_) <;> conv => cbv
      · refine loopC hE (ι := Int) [0] [3] (fun q => (fun (i : Int) => [(3, .int .i64 i)]) q) (fun q => (fun (i : Int) => []) q) (fun q => (fun (i : Int) => (s.size - i).toNat) q) (fun q => (fun (i : Int) => 0 ≤ i ∧ Up (NameC s) i) q) [] (by decide) (0) (by conv => lhs; cbv) (by conv => lhs; cbv) rfl rfl (by dsimp only; exact ⟨by omega, .zero (by omega)⟩) fun i hi Kn hN => ?_
        (try dsimp only at hi)
        conv => cbv
        obtain ⟨h0, hinv⟩ := hi
        repeat' first
          | (refine hN _ _ [] (by decide) rfl ⟨?_, ?_⟩ ?_ <;> (try dsimp only))
          | ((first
         | refine q0 hE ?_
         | refine callP hE (l01Small_ _) (fun _ => ?_) (fun _ => ?_)
         | refine callP hE (l01Digit_ _) (fun _ => ?_) (fun _ => ?_)
         | refine B0 hE ?_|refine B1 hE (fun _=>?_) fun _=>?_|refine B3 hE fun _ _ _=>?_|refine B2 hE fun _ _=>?_|refine B4 hE fun _ _ _ _=>?_) <;> (try conv => cbv))
        all_goals (try clear hN)
        all_goals first
          | omega
          | (refine hinv.succ ?_ (by assumption); subst_vars; by_cases h0 : i = 0 <;> first | exact .inl (by assumption) | exact .inr ⟨by omega, by assumption⟩ | (subst h0; exact .inl hsm))
          | (refine finB hK (bP_true.2 ⟨⟨by omega, by omega⟩, hinv.all (by omega)⟩))
          | (refine finB hK (bP_false.2 fun h => ?_); have := h.2 i.toNat (by omega); subst_vars; rcases this with k1 | ⟨k1, k2⟩ <;> contradiction)
          | trace_state
      · refine finB hK (bP_false.2 fun h => ?_)
        subst_vars
        rcases h.2 0 (by omega) with k1 | ⟨k1, k2⟩
        · exact hsm k1
        · exact k1 rfl
def strLt (a b : ByteArray) : Prop := Op.bytesLess a.toList b.toList = true
noncomputable def cmpS (a b : ByteArray) : Int := if strLt a b then -1 else if strLt b a then 1 else 0
theorem sltP {E : Env} {np : Nat} {P : Program} (hE : E = stdE np P) {a b : ByteArray} {K : Bool → Prop} (h1 : strLt a b → K true) (h2 : ¬ strLt a b → K false) : E.slt a b K :=
  sltI hE fun c hc => by
    cases c with
    | true => exact h1 hc.symm
    | false => exact h2 (by unfold strLt; rw [← hc]; simp)
theorem isNaNS_ (x : ByteArray) : AC Tryz.prog 230 [.str x] AV.bool false := by
  refine ac Tryz.func230 (by kernel_rfl) (.bool _) fun E K hE hK => ?_
  conv => cbv
  refine seqT hE rfl ?_
  conv => cbv
  exact hK _ rfl
theorem compareS_ (a b : ByteArray) : AC Tryz.prog 188 [.str a, .str b] (AV.int .i64) (cmpS a b) := by
  refine ac Tryz.func188 (by kernel_rfl) (.int _ _) fun E K hE hK => ?_
  conv => cbv
  repeat' first
    | ((first
   | refine q0 hE ?_
   | refine callB hE (isNaNS_ _) (fun _ => ?_) (fun _ => ?_)
   | refine sltP hE (fun _ => ?_) (fun _ => ?_)
   | refine B0 hE ?_|refine B1 hE (fun _=>?_) fun _=>?_|refine B3 hE fun _ _ _=>?_|refine B2 hE fun _ _=>?_|refine B4 hE fun _ _ _ _=>?_) <;> (try conv => cbv))
  all_goals first
    | contradiction
    | (refine hK _ ?_; unfold cmpS; rw [if_pos (by assumption)]; rfl)
    | (refine hK _ ?_; unfold cmpS; rw [if_neg (by assumption), if_pos (by assumption)]; rfl)
    | (refine hK _ ?_; unfold cmpS; rw [if_neg (by assumption), if_neg (by assumption)]; rfl)
    | trace_state
end Go.Proofs.YtoafgafkmeghlaaGreatDoor
/- Contracts: roots, distances. -/
namespace Go.Proofs.YtoafgafkmeghlaaGreatDoor
open Go Go.RowKit Classical
set_option maxRecDepth 100000
set_option maxHeartbeats 2000000
set_option linter.unusedVariables false
set_option linter.unusedSimpArgs false
theorem mul_bd {a b B : Int} (h : (-B ≤ a ∧ a ≤ B) ∧ -B ≤ b ∧ b ≤ B) : -(B * B) ≤ a * b ∧ a * b ≤ B * B := by
  have h1 : 0 ≤ (B - a) * (B + b) := Int.mul_nonneg (by omega) (by omega)
  have h2 : 0 ≤ (B + a) * (B - b) := Int.mul_nonneg (by omega) (by omega)
  have h3 : 0 ≤ (B - a) * (B - b) := Int.mul_nonneg (by omega) (by omega)
  have h4 : 0 ≤ (B + a) * (B + b) := Int.mul_nonneg (by omega) (by omega)
  simp only [Int.sub_mul, Int.add_mul, Int.mul_sub, Int.mul_add, Int.mul_comm b B] at h1 h2 h3 h4
  have e1 : a * B = B * a := Int.mul_comm _ _
  rw [e1] at h1 h2 h3 h4
  omega
theorem mulC {E : Env} {np : Nat} {P : Program} (hE : E = stdE np P) (B : Int) {a b : Int} {K : Int → Prop} (h : (-B ≤ a ∧ a ≤ B) ∧ -B ≤ b ∧ b ≤ B) (hB : B * B ≤ 9223372036854775807) (hk : ∀ m, m = a * b → -(B * B) ≤ m → m ≤ B * B → K m) : E.mul .i64 a b K := by
  have h1 := mul_bd h
  exact mul64 hE (by omega) fun m hm => hk m hm (by omega) (by omega)
def IsRoot (n r : Int) : Prop := 0 ≤ r ∧ r * r ≤ n ∧ n < (r + 1) * (r + 1)
theorem sq_mono {a b : Int} (h0 : 0 ≤ a) (h : a ≤ b) : a * a ≤ b * b := by
  have := Int.mul_le_mul h h h0 (Int.le_trans h0 h)
  exact this
theorem IsRoot.uniq {n r s : Int} (h : IsRoot n r) (k : IsRoot n s) : r = s := by
  obtain ⟨h1, h2, h3⟩ := h
  obtain ⟨k1, k2, k3⟩ := k
  rcases Int.lt_trichotomy r s with h | h | h
  · have := sq_mono (a := r + 1) (b := s) (by omega) (by omega); omega
  · exact h
  · have := sq_mono (a := s + 1) (b := r) (by omega) (by omega); omega
theorem IsRoot.ex : ∀ n : Nat, ∃ r, IsRoot n r
  | 0 => ⟨0, by omega, by simp, by simp⟩
  | n + 1 => by
    obtain ⟨r, h1, h2, h3⟩ := IsRoot.ex n
    by_cases h : ((n + 1 : Nat) : Int) < (r + 1) * (r + 1)
    · exact ⟨r, h1, by omega, h⟩
    · refine ⟨r + 1, by omega, by omega, ?_⟩
      have : (r + 1 + 1) * (r + 1 + 1) = (r + 1) * (r + 1) + 2 * (r + 1) + 1 := by
        simp only [Int.add_mul, Int.mul_add]; omega
      omega
noncomputable def rootI (n : Int) : Int := if n < 0 then 0 else (IsRoot.ex n.toNat).choose
theorem rootI_spec {n : Int} (h : 0 ≤ n) : IsRoot n (rootI n) := by
  unfold rootI
  rw [if_neg (by omega)]
  have h1 := (IsRoot.ex n.toNat).choose_spec
  generalize (IsRoot.ex n.toNat).choose = r at *
  rwa [Int.toNat_of_nonneg h] at h1
theorem rootI_eq {n r : Int} (hr : IsRoot n r) : rootI n = r := by
  have h0 : 0 ≤ n := Int.le_trans (Int.mul_nonneg hr.1 hr.1) hr.2.1
  exact (rootI_spec h0).uniq hr
theorem rootI_neg {n : Int} (h : n < 0) : rootI n = 0 := by unfold rootI; rw [if_pos h]
theorem rootOf_ (n : Int) (hn : n ≤ 9223372036854775807) : AC Tryz.prog 171 [.int .i64 n] (AV.int .i64) (rootI n) := by
  refine ac Tryz.func171 (by kernel_rfl) (.int _ _) fun E K hE hK => ?_
  conv => cbv
  (try refine ltI hE (fun h => ?_) (fun h => ?_) <;> conv => cbv)
  all_goals first
    | (refine hK _ ?_; rw [rootI_neg (by assumption)]; rfl)
    | skip
  refine loopC hE (ι := Int × Int) [0] [3, 4] (fun q => (fun (lo : Int) (hi0 : Int) => [(3, .int .i64 lo), (4, .int .i64 hi0)]) q.1 q.2) (fun q => (fun (lo : Int) (hi0 : Int) => []) q.1 q.2) (fun q => (fun (lo : Int) (hi0 : Int) => (hi0 - lo).toNat) q.1 q.2) (fun q => (fun (lo : Int) (hi0 : Int) => (0 ≤ lo ∧ lo ≤ hi0 ∧ hi0 ≤ 3037000499) ∧ ((0 ≤ n ∧ lo * lo ≤ n) ∨ (n < 0 ∧ lo = 0)) ∧ n < (hi0 + 1) * (hi0 + 1)) q.1 q.2) [] (by decide) ((0, 3037000499)) (by conv => lhs; cbv) (by conv => lhs; cbv) rfl rfl (by dsimp only; exact ⟨by omega, by omega, by omega⟩) fun q hi Kn hN => ?_
  obtain ⟨lo, hi0⟩ := q
  (try dsimp only at hi)
  conv => cbv
  obtain ⟨h0, h1, h2⟩ := hi
  repeat' first
    | (refine mulC hE 3037000499 (by omega) (by omega) (fun m hm _ _ => ?_); (try conv => cbv))
    | (refine hN (_, _) _ [] (by decide) rfl ⟨?_, ?_, ?_⟩ ?_ <;> (try dsimp only))
    | ((first
   | refine q0 hE ?_
   | refine B0 hE ?_|refine B1 hE (fun _=>?_) fun _=>?_|refine B3 hE fun _ _ _=>?_|refine B2 hE fun _ _=>?_|refine B4 hE fun _ _ _ _=>?_) <;> (try conv => cbv))
  all_goals (try clear hN)
  all_goals first
    | omega
    | (subst_vars; left; exact ⟨by have := sq_mono (a := 0) (b := (lo + hi0 + 1) / 2) (by omega) (by omega); omega, by assumption⟩)
    | (rcases h1 with h1 | h1
       · exact .inl h1
       · exact .inr h1)
    | (subst_vars; rw [show ∀ a : Int, a - 1 + 1 = a from fun a => by omega]; omega)
    | (refine hK _ ?_
       have e : lo = hi0 := by omega
       rcases h1 with h1 | h1
       · rw [rootI_eq ⟨h0.1, h1.2, by rw [e]; exact h2⟩]; rfl
       · rw [rootI_neg h1.1, h1.2]; rfl)
    | trace_state
theorem l01Root_ (n : Int) (hn : n ≤ 9223372036854775807) : AC Tryz.prog 149 [.int .i64 n] (AV.int .i64) (rootI n) := by
  refine ac Tryz.func149 (by kernel_rfl) (.int _ _) fun E K hE hK => ?_
  conv => cbv
  (try refine ltI hE (fun h => ?_) (fun h => ?_) <;> conv => cbv)
  all_goals first
    | (refine hK _ ?_; rw [rootI_neg (by assumption)]; rfl)
    | skip
  refine loopC hE (ι := Int × Int) [0] [3, 4] (fun q => (fun (lo : Int) (hi0 : Int) => [(3, .int .i64 lo), (4, .int .i64 hi0)]) q.1 q.2) (fun q => (fun (lo : Int) (hi0 : Int) => []) q.1 q.2) (fun q => (fun (lo : Int) (hi0 : Int) => (hi0 - lo).toNat) q.1 q.2) (fun q => (fun (lo : Int) (hi0 : Int) => (0 ≤ lo ∧ lo ≤ hi0 ∧ hi0 ≤ 3037000499) ∧ ((0 ≤ n ∧ lo * lo ≤ n) ∨ (n < 0 ∧ lo = 0)) ∧ n < (hi0 + 1) * (hi0 + 1)) q.1 q.2) [] (by decide) ((0, 3037000499)) (by conv => lhs; cbv) (by conv => lhs; cbv) rfl rfl (by dsimp only; exact ⟨by omega, by omega, by omega⟩) fun q hi Kn hN => ?_
  obtain ⟨lo, hi0⟩ := q
  (try dsimp only at hi)
  conv => cbv
  obtain ⟨h0, h1, h2⟩ := hi
  repeat' first
    | (refine mulC hE 3037000499 (by omega) (by omega) (fun m hm _ _ => ?_); (try conv => cbv))
    | (refine hN (_, _) _ [] (by decide) rfl ⟨?_, ?_, ?_⟩ ?_ <;> (try dsimp only))
    | ((first
   | refine q0 hE ?_
   | refine B0 hE ?_|refine B1 hE (fun _=>?_) fun _=>?_|refine B3 hE fun _ _ _=>?_|refine B2 hE fun _ _=>?_|refine B4 hE fun _ _ _ _=>?_) <;> (try conv => cbv))
  all_goals (try clear hN)
  all_goals first
    | omega
    | (subst_vars; left; exact ⟨by have := sq_mono (a := 0) (b := (lo + hi0 + 1) / 2) (by omega) (by omega); omega, by assumption⟩)
    | (rcases h1 with h1 | h1
       · exact .inl h1
       · exact .inr h1)
    | (subst_vars; rw [show ∀ a : Int, a - 1 + 1 = a from fun a => by omega]; omega)
    | (refine hK _ ?_
       have e : lo = hi0 := by omega
       rcases h1 with h1 | h1
       · rw [rootI_eq ⟨h0.1, h1.2, by rw [e]; exact h2⟩]; rfl
       · rw [rootI_neg h1.1, h1.2]; rfl)
    | trace_state
end Go.Proofs.YtoafgafkmeghlaaGreatDoor
/- Contracts: the flat types of an authority: marks, sectors, dangers, observers, ships, works. -/
namespace Go.Proofs.YtoafgafkmeghlaaGreatDoor
open Go Go.RowKit Classical
set_option maxRecDepth 100000
set_option maxHeartbeats 2000000
set_option linter.unusedVariables false
set_option linter.unusedSimpArgs false
theorem szN_or2 {n y : Int} {k : Nat} (h : y = szN n k) : y = -1 ∧ n < k ∨ y = n - k ∧ k ≤ n := by
  have := szN_or n k
  omega
theorem sum_get {α : Type} (f : α → Nat) {l : List α} {n : Nat} {v : α} (h : l[n]? = some v) : f v ≤ (l.map f).sum := sum_ge f (List.mem_of_getElem? h)
structure Mrk where
  kind : Int
  colors : ByteArray
  shape : ByteArray
  top : ByteArray
def Mrk.cs (v : Mrk) : List AV := [.int .i64 v.kind, .str v.colors, .str v.shape, .str v.top]
theorem NoB.oMrk (v : Mrk) : NoB (.agg v.cs) := (.aggC (.int _ _) (.aggC (.str _) (.aggC (.str _) (.aggC (.str _) .agg0))))
def Mrk.sz (v : Mrk) : Nat := v.colors.size + v.shape.size + v.top.size
theorem szMark_ (kind : Int) (colors : ByteArray) (shape : ByteArray) (top : ByteArray) (n : Int) (hn : 0 ≤ n ∧ n ≤ 1048576) : AC Tryz.prog 38 [.agg [.int .i64 kind, .str colors, .str shape, .str top], .int .i64 n] (AV.int .i64) (szN n (Mrk.sz ⟨kind, colors, shape, top⟩)) := by
  refine ac Tryz.func38 (by kernel_rfl) (.int _ _) fun E K hE hK => ?_
  conv => cbv
  repeat' first
    | ((first
   | refine q0 hE ?_
   | refine B0 hE ?_|refine B1 hE (fun _=>?_) fun _=>?_|refine B3 hE fun _ _ _=>?_|refine B2 hE fun _ _=>?_|refine B4 hE fun _ _ _ _=>?_) <;> (try conv => cbv))
  all_goals (refine hK _ ?_; show AV.int _ _ = AV.int _ _; congr 1; unfold szN Mrk.sz; simp only at *; split <;> omega)
theorem toMark_ (kind : Int) (colors : ByteArray) (shape : ByteArray) (top : ByteArray) : AC Tryz.prog 48 [.agg [.int .i64 kind, .str colors, .str shape, .str top]] (fun v : Mrk => .agg v.cs) ⟨kind, colors, shape, top⟩ := by
  refine ac Tryz.func48 (by kernel_rfl) (.oMrk _) fun E K hE hK => ?_
  conv => cbv
  exact hK _ rfl
theorem eqMark_ (kind : Int) (colors : ByteArray) (shape : ByteArray) (top : ByteArray) (kind' : Int) (colors' : ByteArray) (shape' : ByteArray) (top' : ByteArray) : AC Tryz.prog 67 [.agg [.int .i64 kind, .str colors, .str shape, .str top], .agg [.int .i64 kind', .str colors', .str shape', .str top']] AV.bool (bP ((Mrk.mk kind colors shape top) = (Mrk.mk kind' colors' shape' top'))) := by
  refine ac Tryz.func67 (by kernel_rfl) (.bool _) fun E K hE hK => ?_
  conv => cbv
  repeat' first
    | ((first
   | refine q0 hE ?_
   | refine B0 hE ?_|refine B1 hE (fun _=>?_) fun _=>?_|refine B3 hE fun _ _ _=>?_|refine B2 hE fun _ _=>?_|refine B4 hE fun _ _ _ _=>?_) <;> (try conv => cbv))
  all_goals first | (refine finB hK (bP_true.2 ?_); simp only [Mrk.mk.injEq, Pnt.mk.injEq] at *; simp_all; done) | (refine finB hK (bP_false.2 ?_); simp only [Mrk.mk.injEq, Pnt.mk.injEq] at *; simp_all; done)
def Mrk.mk' (k : Int) : Mrk := ⟨k + 0, mText (k + 1), mText (k + 2), mText (k + 3)⟩
def Mrk.mks (n : Nat) (k : Int) : List Mrk := (List.range n).map fun i : Nat => Mrk.mk' (k + 4 * (i : Int))
theorem Mrk.mks_len (n : Nat) (k : Int) : (Mrk.mks n k).length = n := by simp [Mrk.mks]
structure Scr where
  frm : Int
  til : Int
  color : ByteArray
def Scr.cs (v : Scr) : List AV := [.int .i64 v.frm, .int .i64 v.til, .str v.color]
theorem NoB.oScr (v : Scr) : NoB (.agg v.cs) := (.aggC (.int _ _) (.aggC (.int _ _) (.aggC (.str _) .agg0)))
def Scr.sz (v : Scr) : Nat := v.color.size
theorem szSector_ (frm : Int) (til : Int) (color : ByteArray) (n : Int) (hn : 0 ≤ n ∧ n ≤ 1048576) : AC Tryz.prog 71 [.agg [.int .i64 frm, .int .i64 til, .str color], .int .i64 n] (AV.int .i64) (szN n (Scr.sz ⟨frm, til, color⟩)) := by
  refine ac Tryz.func71 (by kernel_rfl) (.int _ _) fun E K hE hK => ?_
  conv => cbv
  repeat' first
    | ((first
   | refine q0 hE ?_
   | refine B0 hE ?_|refine B1 hE (fun _=>?_) fun _=>?_|refine B3 hE fun _ _ _=>?_|refine B2 hE fun _ _=>?_|refine B4 hE fun _ _ _ _=>?_) <;> (try conv => cbv))
  all_goals (refine hK _ ?_; show AV.int _ _ = AV.int _ _; congr 1; unfold szN Scr.sz; simp only at *; split <;> omega)
theorem szSectorS_ {rs : List (List AV)} {t : Bool} {l : List Scr} (n : Int) (hl : rs = l.map Scr.cs) (hn : 0 ≤ n ∧ n ≤ 1048576) : AC Tryz.prog 40 [.sl t 3 rs, .int .i64 n] (AV.int .i64) (szN n (l.length + (l.map Scr.sz).sum)) := by
  refine ac Tryz.func40 (by kernel_rfl) (.int _ _) fun E K hE hK => ?_
  conv => cbv
  repeat' first
    | ((first
   | refine q0 hE ?_
   | refine B0 hE ?_|refine B1 hE (fun _=>?_) fun _=>?_|refine B3 hE fun _ _ _=>?_|refine B2 hE fun _ _=>?_|refine B4 hE fun _ _ _ _=>?_) <;> (try conv => cbv))
  · refine hK _ ?_
    rw [szN, if_pos (by omega)]; rfl
  · refine loopC hE (ι := Int × Int) [0] [5, 1] (fun q => (fun (i : Int) (m : Int) => [(5, .int .i64 i), (1, .int .i64 m)]) q.1 q.2) (fun q => (fun (i : Int) (m : Int) => []) q.1 q.2) (fun q => (fun (i : Int) (m : Int) => (l.length - i).toNat) q.1 q.2) (fun q => (fun (i : Int) (m : Int) => (0 ≤ i ∧ i ≤ l.length) ∧ (0 ≤ m ∧ m ≤ 1048576) ∧ m + sumTo Scr.sz l i + l.length = n) q.1 q.2) [] (by decide) ((0, _)) (by conv => lhs; cbv) (by conv => lhs; cbv) rfl rfl (by dsimp only; exact ⟨by omega, by omega, by rw [sumTo_zero (by omega)]; omega⟩) fun q hi Kn hN => ?_
    obtain ⟨i, m⟩ := q
    (try dsimp only at hi)
    conv => cbv
    obtain ⟨⟨h0, h1⟩, h2, h3⟩ := hi
    have hle := sumTo_le Scr.sz l
    repeat' first
      | (refine idxL hE hl (by omega) (fun v hv => ?_); have hs := sumTo_succ Scr.sz h0 hv; have hs2 := hle (i + 1); obtain ⟨frm, til, color⟩ := v; (try conv => cbv))
      | (refine callI hE (szSector_ _ _ _ _ (by omega)) (fun y hy => ?_); have hz := szN_or m (Scr.sz ⟨frm, til, color⟩); rw [← hy] at hz; clear hy; (try conv => cbv))
      | (refine hN (_, _) _ [] (by decide) rfl ⟨?_, ?_, ?_⟩ ?_ <;> (try dsimp only))
      | ((first
     | refine q0 hE ?_
     | refine B0 hE ?_|refine B1 hE (fun _=>?_) fun _=>?_|refine B3 hE fun _ _ _=>?_|refine B2 hE fun _ _=>?_|refine B4 hE fun _ _ _ _=>?_) <;> (try conv => cbv))
    all_goals first
      | omega
      | (refine hK _ ?_; rw [szN_lt (by omega)]; rfl)
      | (rename_i hn2; rw [hn2, hs]; omega)
      | (refine hK _ ?_; have := sumTo_all Scr.sz l (i := i) (by omega); rw [szN_ge (by omega)]; show AV.int _ _ = AV.int _ _; congr 1; omega)
      | trace_state
theorem toSector_ (frm : Int) (til : Int) (color : ByteArray) : AC Tryz.prog 79 [.agg [.int .i64 frm, .int .i64 til, .str color]] (fun v : Scr => .agg v.cs) ⟨frm, til, color⟩ := by
  refine ac Tryz.func79 (by kernel_rfl) (.oScr _) fun E K hE hK => ?_
  conv => cbv
  exact hK _ rfl
theorem toSectorS_ {rs : List (List AV)} {t : Bool} {l : List Scr} (hl : rs = l.map Scr.cs) (hb0 : l.length ≤ 1048576) : AC Tryz.prog 50 [.sl t 3 rs] (fun l : List Scr => .sl true 3 (l.map Scr.cs)) l := by
  refine ac Tryz.func50 (by kernel_rfl) (.rows .oScr) fun E K hE hK => ?_
  conv => cbv
  refine lenL hE hl fun n hn hb => ?_
  conv => cbv
  refine makeL hE (l := l) Scr.cs hn rfl (by omega) fun es hes => ?_
  conv => cbv
  refine loopC hE (ι := Int × (List (List AV))) [0] [4, 3] (fun q => (fun (i : Int) (es' : List (List AV)) => [(4, .int .i64 i), (3, .ob 0)]) q.1 q.2) (fun q => (fun (i : Int) (es' : List (List AV)) => [.row 3 es']) q.1 q.2) (fun q => (fun (i : Int) (es' : List (List AV)) => (l.length - i).toNat) q.1 q.2) (fun q => (fun (i : Int) (es' : List (List AV)) => 0 ≤ i ∧ es' = fillRow Scr.cs [.int .i64 0, .int .i64 0, .str ⟨#[]⟩] l i) q.1 q.2) [0] (by decide) ((0, es)) (by conv => lhs; cbv) (by conv => lhs; cbv) rfl rfl (by dsimp only; exact ⟨by omega, hes⟩) fun q hi Kn hN => ?_
  obtain ⟨i, es'⟩ := q
  (try dsimp only at hi)
  conv => cbv
  obtain ⟨h0, hinv⟩ := hi
  repeat' first
    | (refine hN (_, _) _ [0] (by decide) rfl ⟨?_, ?_⟩ ?_ <;> (try dsimp only))
    | ((first
   | refine q0 hE ?_
   | (refine idxL (R := Scr.cs) hE (by assumption) (by first | omega | (simp only [List.length_set, mix_len]; omega)) ?_; rintro ⟨⟩ _)
   | (refine callI hE (toSector_ _ _ _) (fun _ hy => ?_); subst hy)
   | refine updFill (R := Scr.cs) hE (by assumption) (by omega) (by assumption) (by exact Nat.le_refl _) (by rfl) (fun _ _ => ?_)
   | refine B0 hE ?_|refine B1 hE (fun _=>?_) fun _=>?_|refine B3 hE fun _ _ _=>?_|refine B2 hE fun _ _=>?_|refine B4 hE fun _ _ _ _=>?_) <;> (try conv => cbv))
  · omega
  · subst_vars; rfl
  · omega
  · refine hK _ ?_
    rw [hinv, fillRow_all (by omega)]; rfl
theorem eqSector_ (frm : Int) (til : Int) (color : ByteArray) (frm' : Int) (til' : Int) (color' : ByteArray) : AC Tryz.prog 100 [.agg [.int .i64 frm, .int .i64 til, .str color], .agg [.int .i64 frm', .int .i64 til', .str color']] AV.bool (bP ((Scr.mk frm til color) = (Scr.mk frm' til' color'))) := by
  refine ac Tryz.func100 (by kernel_rfl) (.bool _) fun E K hE hK => ?_
  conv => cbv
  repeat' first
    | ((first
   | refine q0 hE ?_
   | refine B0 hE ?_|refine B1 hE (fun _=>?_) fun _=>?_|refine B3 hE fun _ _ _=>?_|refine B2 hE fun _ _=>?_|refine B4 hE fun _ _ _ _=>?_) <;> (try conv => cbv))
  all_goals first | (refine finB hK (bP_true.2 ?_); simp only [Scr.mk.injEq, Pnt.mk.injEq] at *; simp_all; done) | (refine finB hK (bP_false.2 ?_); simp only [Scr.mk.injEq, Pnt.mk.injEq] at *; simp_all; done)
theorem eqSectorS_ {rs rs' : List (List AV)} {t t' : Bool} {l m : List Scr} (hl : rs = l.map Scr.cs) (hm : rs' = m.map Scr.cs) : AC Tryz.prog 69 [.sl t 3 rs, .sl t' 3 rs'] AV.bool (bP (l = m)) := by
  refine ac Tryz.func69 (by kernel_rfl) (.bool _) fun E K hE hK => ?_
  conv => cbv
  refine lenL hE hl fun n hn hb => ?_
  conv => cbv
  refine lenL hE hm fun n' hn' hb' => ?_
  conv => cbv
  refine eqI hE (fun he => ?_) (fun he => ?_) <;> conv => cbv
  · refine loopC hE (ι := Int) [0, 1] [5] (fun q => (fun (i : Int) => [(5, .int .i64 i)]) q) (fun q => (fun (i : Int) => []) q) (fun q => (fun (i : Int) => (l.length - i).toNat) q) (fun q => (fun (i : Int) => 0 ≤ i ∧ Up (fun j => l[j]? = m[j]?) i) q) [] (by decide) (0) (by conv => lhs; cbv) (by conv => lhs; cbv) rfl rfl (by dsimp only; exact ⟨by omega, .zero (by omega)⟩) fun i hi Kn hN => ?_
    (try dsimp only at hi)
    conv => cbv
    obtain ⟨h0, hinv⟩ := hi
    repeat' first
      | (refine hN _ _ [] (by decide) rfl ⟨?_, ?_⟩ ?_ <;> (try dsimp only))
      | ((first
     | refine q0 hE ?_
     | refine callP hE (eqSector_ _ _ _ _ _ _) (fun _ => ?_) (fun _ => ?_)
     | (refine idxL (R := Scr.cs) hE (by assumption) (by first | omega | (simp only [List.length_set, mix_len]; omega)) ?_; rintro ⟨⟩ _)
     | refine B0 hE ?_|refine B1 hE (fun _=>?_) fun _=>?_|refine B3 hE fun _ _ _=>?_|refine B2 hE fun _ _=>?_|refine B4 hE fun _ _ _ _=>?_) <;> (try conv => cbv))
    · omega
    · refine hinv.succ ?_ (by assumption); clear hN; simp_all
    · omega
    · refine finB hK (bP_false.2 fun h => ?_); clear hN; simp_all
    · exact finB hK (bP_true.2 (list_eq_of (by omega) hinv (by omega)))
  · refine finB hK (bP_false.2 fun h => ?_); subst h; omega
def Scr.mk' (k : Int) : Scr := ⟨k + 0, k + 1, mText (k + 2)⟩
def Scr.mks (n : Nat) (k : Int) : List Scr := (List.range n).map fun i : Nat => Scr.mk' (k + 3 * (i : Int))
theorem Scr.mks_len (n : Nat) (k : Int) : (Scr.mks n k).length = n := by simp [Scr.mks]
theorem markSectorS_ {rs : List (List AV)} {l : List Scr} (k : Int) (hl : rs = l.map Scr.cs) (hk0 : 0 ≤ k ∧ k ≤ 1000000000000000) (hb : l.length ≤ 100000000000) : ACM Tryz.prog 36 [.sl true 3 rs, .int .i64 k] (fun r ys => ∃ (n : Int) (rs' : List (List AV)), n = k + 3 * l.length ∧ rs' = (Scr.mks l.length k).map Scr.cs ∧ r = .int .i64 n ∧ ys = [.sl true 3 rs', .any]) := by
  refine acm 1 Tryz.func36 (by kernel_rfl) (fun r ys ⟨n, rs', _, h3, h1, h2⟩ => ⟨by rw [h1]; exact .int _ _, by rw [h2, h3]; simp; exact ⟨.rows .oScr, .any⟩⟩) fun E K hE hK => ?_
  conv => cbv
  refine loopC hE (ι := Int × Int × (List (List AV))) [] [5, 1, 0] (fun q => (fun (i : Int) (k' : Int) (es : List (List AV)) => [(5, .int .i64 i), (1, .int .i64 k'), (0, .ob 0)]) q.1 q.2.1 q.2.2) (fun q => (fun (i : Int) (k' : Int) (es : List (List AV)) => [.row 3 es]) q.1 q.2.1 q.2.2) (fun q => (fun (i : Int) (k' : Int) (es : List (List AV)) => (l.length - i).toNat) q.1 q.2.1 q.2.2) (fun q => (fun (i : Int) (k' : Int) (es : List (List AV)) => (0 ≤ i ∧ i ≤ l.length) ∧ k' = k + 3 * i ∧ es = (mix (fun i : Nat => Scr.mk' (k + 3 * (i : Int))) l i).map Scr.cs) q.1 q.2.1 q.2.2) [0] (by decide) ((0, k, rs)) (by conv => lhs; cbv) (by conv => lhs; cbv) rfl rfl (by dsimp only; exact ⟨by omega, by omega, by rw [mix_zero (by omega)]; exact hl⟩) fun q hi Kn hN => ?_
  obtain ⟨i, k', es⟩ := q
  (try dsimp only at hi)
  conv => cbv
  obtain ⟨⟨h0, h1⟩, h2, h3⟩ := hi
  have hlen := mix_len (fun i : Nat => Scr.mk' (k + 3 * (i : Int))) l i
  obtain ⟨L, hL⟩ : ∃ L, L = mix (fun i : Nat => Scr.mk' (k + 3 * (i : Int))) l i := ⟨_, rfl⟩
  rw [← hL] at h3 hlen
  repeat' first
    | (refine idxS hE (by assumption) (by omega) ?_; (try conv => cbv))
    | (refine hN (_, _, _) _ [0] (by decide) rfl ⟨?_, ?_, ?_⟩ ?_ <;> (try dsimp only))
    | ((first
   | refine q0 hE ?_
   | (refine idxL (R := Scr.cs) hE (by assumption) (by first | omega | (simp only [List.length_set, mix_len]; omega)) ?_; rintro ⟨⟩ _)
   | refine callI hE (markText_ _ (by omega)) (fun _ _ => ?_)
   | refine updS hE (v' := (⟨_, _, _⟩ : Scr)) (by assumption) (by omega) (by exact Nat.le_of_ble_eq_true rfl) (by first | rfl | ((conv => lhs; cbv); rfl)) (fun _ _ => ?_)
   | refine updL hE (v' := (⟨_, _, _⟩ : Scr)) (by assumption) (by omega) (by assumption) (by exact Nat.le_of_ble_eq_true rfl) (by first | rfl | ((conv => lhs; cbv); rfl)) (fun _ _ => ?_)
   | refine B0 hE ?_|refine B1 hE (fun _=>?_) fun _=>?_|refine B3 hE fun _ _ _=>?_|refine B2 hE fun _ _=>?_|refine B4 hE fun _ _ _ _=>?_) <;> (try conv => cbv))
  · omega
  · omega
  · clear hN hK
    rename_i hes _ hfin _ hi1
    rw [hes, hL, mix_set h0 (by omega) (v := _) ?_ hi1]
    clear hL h3 hlen
    subst_vars
    rw [Int.toNat_of_nonneg h0]
    simp only [Scr.mk', Scr.mk.injEq, Int.add_zero]
    all_goals (refine ⟨?_, ?_, ?_⟩ <;> first | trivial | omega | rfl | (congr 1; omega))
  · omega
  · have hi : i = l.length := by omega
    refine hK _ _ ⟨k', es, ?_, ?_, rfl, rfl⟩
    · rw [h2, hi]
    · rw [h3, hL, mix_all (by omega)]; rfl
structure Dgr where
  name : ByteArray
  atX : Int
  atY : Int
  radius : Int
def Dgr.cs (v : Dgr) : List AV := [.str v.name, .int .i64 v.atX, .int .i64 v.atY, .int .i64 v.radius]
def Dgr.sz (v : Dgr) : Nat := v.name.size
def Dgr.mk' (k : Int) : Dgr := ⟨mText (k + 0), k + 1, k + 2, k + 3⟩
def Dgr.mks (n : Nat) (k : Int) : List Dgr := (List.range n).map fun i : Nat => Dgr.mk' (k + 4 * (i : Int))
theorem Dgr.mks_len (n : Nat) (k : Int) : (Dgr.mks n k).length = n := by simp [Dgr.mks]
structure Obv where
  atX : Int
  atY : Int
  eye : Int
  vis : Int
def Obv.cs (v : Obv) : List AV := [.int .i64 v.atX, .int .i64 v.atY, .int .i64 v.eye, .int .i64 v.vis]
theorem NoB.oObv (v : Obv) : NoB (.agg v.cs) := (.aggC (.int _ _) (.aggC (.int _ _) (.aggC (.int _ _) (.aggC (.int _ _) .agg0))))
theorem szObserverS_ {rs : List (List AV)} {t : Bool} {l : List Obv} (n : Int) (hl : rs = l.map Obv.cs) (hn : 0 ≤ n ∧ n ≤ 1048576) : AC Tryz.prog 5 [.sl t 4 rs, .int .i64 n] (AV.int .i64) (szN n l.length) := by
  refine ac Tryz.func5 (by kernel_rfl) (.int _ _) fun E K hE hK => ?_
  conv => cbv
  repeat' first
    | ((first
   | refine q0 hE ?_
   | refine B0 hE ?_|refine B1 hE (fun _=>?_) fun _=>?_|refine B3 hE fun _ _ _=>?_|refine B2 hE fun _ _=>?_|refine B4 hE fun _ _ _ _=>?_) <;> (try conv => cbv))
  all_goals (try clear hN)
  all_goals (refine hK _ ?_; first | (simp only [atup]; grind [szN]) | (simp_all [atup, szN]; done))
theorem toObserver_ (atX : Int) (atY : Int) (eye : Int) (vis : Int) : AC Tryz.prog 23 [.agg [.int .i64 atX, .int .i64 atY, .int .i64 eye, .int .i64 vis]] (fun v : Obv => .agg v.cs) ⟨atX, atY, eye, vis⟩ := by
  refine ac Tryz.func23 (by kernel_rfl) (.oObv _) fun E K hE hK => ?_
  conv => cbv
  repeat' first
    | ((first
   | refine q0 hE ?_
   | (refine callI hE (toPoint_ _ _) (fun _ hy => ?_); subst hy)
   | refine B0 hE ?_|refine B1 hE (fun _=>?_) fun _=>?_|refine B3 hE fun _ _ _=>?_|refine B2 hE fun _ _=>?_|refine B4 hE fun _ _ _ _=>?_) <;> (try conv => cbv))
  all_goals exact hK _ rfl
theorem toObserverS_ {rs : List (List AV)} {t : Bool} {l : List Obv} (hl : rs = l.map Obv.cs) (hb0 : l.length ≤ 1048576) : AC Tryz.prog 8 [.sl t 4 rs] (fun l : List Obv => .sl true 4 (l.map Obv.cs)) l := by
  refine ac Tryz.func8 (by kernel_rfl) (.rows .oObv) fun E K hE hK => ?_
  conv => cbv
  refine lenL hE hl fun n hn hb => ?_
  conv => cbv
  refine makeL hE (l := l) Obv.cs hn rfl (by omega) fun es hes => ?_
  conv => cbv
  refine loopC hE (ι := Int × (List (List AV))) [0] [4, 3] (fun q => (fun (i : Int) (es' : List (List AV)) => [(4, .int .i64 i), (3, .ob 0)]) q.1 q.2) (fun q => (fun (i : Int) (es' : List (List AV)) => [.row 4 es']) q.1 q.2) (fun q => (fun (i : Int) (es' : List (List AV)) => (l.length - i).toNat) q.1 q.2) (fun q => (fun (i : Int) (es' : List (List AV)) => 0 ≤ i ∧ es' = fillRow Obv.cs [.int .i64 0, .int .i64 0, .int .i64 0, .int .i64 0] l i) q.1 q.2) [0] (by decide) ((0, es)) (by conv => lhs; cbv) (by conv => lhs; cbv) rfl rfl (by dsimp only; exact ⟨by omega, hes⟩) fun q hi Kn hN => ?_
  obtain ⟨i, es'⟩ := q
  (try dsimp only at hi)
  conv => cbv
  obtain ⟨h0, hinv⟩ := hi
  repeat' first
    | (refine hN (_, _) _ [0] (by decide) rfl ⟨?_, ?_⟩ ?_ <;> (try dsimp only))
    | ((first
   | refine q0 hE ?_
   | (refine idxL (R := Obv.cs) hE (by assumption) (by first | omega | (simp only [List.length_set, mix_len]; omega)) ?_; rintro ⟨⟩ _)
   | (refine callI hE (toObserver_ _ _ _ _) (fun _ hy => ?_); subst hy)
   | refine updFill (R := Obv.cs) hE (by assumption) (by omega) (by assumption) (by exact Nat.le_refl _) (by rfl) (fun _ _ => ?_)
   | refine B0 hE ?_|refine B1 hE (fun _=>?_) fun _=>?_|refine B3 hE fun _ _ _=>?_|refine B2 hE fun _ _=>?_|refine B4 hE fun _ _ _ _=>?_) <;> (try conv => cbv))
  · omega
  · subst_vars; rfl
  · omega
  · refine hK _ ?_
    rw [hinv, fillRow_all (by omega)]; rfl
theorem eqObserver_ (atX : Int) (atY : Int) (eye : Int) (vis : Int) (atX' : Int) (atY' : Int) (eye' : Int) (vis' : Int) : AC Tryz.prog 33 [.agg [.int .i64 atX, .int .i64 atY, .int .i64 eye, .int .i64 vis], .agg [.int .i64 atX', .int .i64 atY', .int .i64 eye', .int .i64 vis']] AV.bool (bP ((Obv.mk atX atY eye vis) = (Obv.mk atX' atY' eye' vis'))) := by
  refine ac Tryz.func33 (by kernel_rfl) (.bool _) fun E K hE hK => ?_
  conv => cbv
  repeat' first
    | ((first
   | refine q0 hE ?_
   | refine callP hE (eqPoint_ _ _ _ _) (fun _ => ?_) (fun _ => ?_)
   | refine B0 hE ?_|refine B1 hE (fun _=>?_) fun _=>?_|refine B3 hE fun _ _ _=>?_|refine B2 hE fun _ _=>?_|refine B4 hE fun _ _ _ _=>?_) <;> (try conv => cbv))
  all_goals first | (refine finB hK (bP_true.2 ?_); simp only [Obv.mk.injEq, Pnt.mk.injEq] at *; simp_all; done) | (refine finB hK (bP_false.2 ?_); simp only [Obv.mk.injEq, Pnt.mk.injEq] at *; simp_all; done)
theorem eqObserverS_ {rs rs' : List (List AV)} {t t' : Bool} {l m : List Obv} (hl : rs = l.map Obv.cs) (hm : rs' = m.map Obv.cs) : AC Tryz.prog 12 [.sl t 4 rs, .sl t' 4 rs'] AV.bool (bP (l = m)) := by
  refine ac Tryz.func12 (by kernel_rfl) (.bool _) fun E K hE hK => ?_
  conv => cbv
  refine lenL hE hl fun n hn hb => ?_
  conv => cbv
  refine lenL hE hm fun n' hn' hb' => ?_
  conv => cbv
  refine eqI hE (fun he => ?_) (fun he => ?_) <;> conv => cbv
  · refine loopC hE (ι := Int) [0, 1] [5] (fun q => (fun (i : Int) => [(5, .int .i64 i)]) q) (fun q => (fun (i : Int) => []) q) (fun q => (fun (i : Int) => (l.length - i).toNat) q) (fun q => (fun (i : Int) => 0 ≤ i ∧ Up (fun j => l[j]? = m[j]?) i) q) [] (by decide) (0) (by conv => lhs; cbv) (by conv => lhs; cbv) rfl rfl (by dsimp only; exact ⟨by omega, .zero (by omega)⟩) fun i hi Kn hN => ?_
    (try dsimp only at hi)
    conv => cbv
    obtain ⟨h0, hinv⟩ := hi
    repeat' first
      | (refine hN _ _ [] (by decide) rfl ⟨?_, ?_⟩ ?_ <;> (try dsimp only))
      | ((first
     | refine q0 hE ?_
     | refine callP hE (eqObserver_ _ _ _ _ _ _ _ _) (fun _ => ?_) (fun _ => ?_)
     | (refine idxL (R := Obv.cs) hE (by assumption) (by first | omega | (simp only [List.length_set, mix_len]; omega)) ?_; rintro ⟨⟩ _)
     | refine B0 hE ?_|refine B1 hE (fun _=>?_) fun _=>?_|refine B3 hE fun _ _ _=>?_|refine B2 hE fun _ _=>?_|refine B4 hE fun _ _ _ _=>?_) <;> (try conv => cbv))
    · omega
    · refine hinv.succ ?_ (by assumption); clear hN; simp_all
    · omega
    · refine finB hK (bP_false.2 fun h => ?_); clear hN; simp_all
    · exact finB hK (bP_true.2 (list_eq_of (by omega) hinv (by omega)))
  · refine finB hK (bP_false.2 fun h => ?_); subst h; omega
def Obv.mk' (k : Int) : Obv := ⟨k + 0, k + 1, k + 2, k + 3⟩
def Obv.mks (n : Nat) (k : Int) : List Obv := (List.range n).map fun i : Nat => Obv.mk' (k + 4 * (i : Int))
theorem Obv.mks_len (n : Nat) (k : Int) : (Obv.mks n k).length = n := by simp [Obv.mks]
theorem markObserverS_ {rs : List (List AV)} {l : List Obv} (k : Int) (hl : rs = l.map Obv.cs) (hk0 : 0 ≤ k ∧ k ≤ 1000000000000000) (hb : l.length ≤ 100000000000) : ACM Tryz.prog 14 [.sl true 4 rs, .int .i64 k] (fun r ys => ∃ (n : Int) (rs' : List (List AV)), n = k + 4 * l.length ∧ rs' = (Obv.mks l.length k).map Obv.cs ∧ r = .int .i64 n ∧ ys = [.sl true 4 rs', .any]) := by
  refine acm 1 Tryz.func14 (by kernel_rfl) (fun r ys ⟨n, rs', _, h3, h1, h2⟩ => ⟨by rw [h1]; exact .int _ _, by rw [h2, h3]; simp; exact ⟨.rows .oObv, .any⟩⟩) fun E K hE hK => ?_
  conv => cbv
  refine loopC hE (ι := Int × Int × (List (List AV))) [] [5, 1, 0] (fun q => (fun (i : Int) (k' : Int) (es : List (List AV)) => [(5, .int .i64 i), (1, .int .i64 k'), (0, .ob 0)]) q.1 q.2.1 q.2.2) (fun q => (fun (i : Int) (k' : Int) (es : List (List AV)) => [.row 4 es]) q.1 q.2.1 q.2.2) (fun q => (fun (i : Int) (k' : Int) (es : List (List AV)) => (l.length - i).toNat) q.1 q.2.1 q.2.2) (fun q => (fun (i : Int) (k' : Int) (es : List (List AV)) => (0 ≤ i ∧ i ≤ l.length) ∧ k' = k + 4 * i ∧ es = (mix (fun i : Nat => Obv.mk' (k + 4 * (i : Int))) l i).map Obv.cs) q.1 q.2.1 q.2.2) [0] (by decide) ((0, k, rs)) (by conv => lhs; cbv) (by conv => lhs; cbv) rfl rfl (by dsimp only; exact ⟨by omega, by omega, by rw [mix_zero (by omega)]; exact hl⟩) fun q hi Kn hN => ?_
  obtain ⟨i, k', es⟩ := q
  (try dsimp only at hi)
  conv => cbv
  obtain ⟨⟨h0, h1⟩, h2, h3⟩ := hi
  have hlen := mix_len (fun i : Nat => Obv.mk' (k + 4 * (i : Int))) l i
  obtain ⟨L, hL⟩ : ∃ L, L = mix (fun i : Nat => Obv.mk' (k + 4 * (i : Int))) l i := ⟨_, rfl⟩
  rw [← hL] at h3 hlen
  repeat' first
    | (refine idxS hE (by assumption) (by omega) ?_; (try conv => cbv))
    | (refine hN (_, _, _) _ [0] (by decide) rfl ⟨?_, ?_, ?_⟩ ?_ <;> (try dsimp only))
    | ((first
   | refine q0 hE ?_
   | (refine idxL (R := Obv.cs) hE (by assumption) (by first | omega | (simp only [List.length_set, mix_len]; omega)) ?_; rintro ⟨⟩ _)
   | refine callI hE (markText_ _ (by omega)) (fun _ _ => ?_)
   | refine updS hE (v' := (⟨_, _, _, _⟩ : Obv)) (by assumption) (by omega) (by exact Nat.le_of_ble_eq_true rfl) (by first | rfl | ((conv => lhs; cbv); rfl)) (fun _ _ => ?_)
   | refine updL hE (v' := (⟨_, _, _, _⟩ : Obv)) (by assumption) (by omega) (by assumption) (by exact Nat.le_of_ble_eq_true rfl) (by first | rfl | ((conv => lhs; cbv); rfl)) (fun _ _ => ?_)
   | refine B0 hE ?_|refine B1 hE (fun _=>?_) fun _=>?_|refine B3 hE fun _ _ _=>?_|refine B2 hE fun _ _=>?_|refine B4 hE fun _ _ _ _=>?_) <;> (try conv => cbv))
  · omega
  · omega
  · clear hN hK
    rename_i hes _ hfin _ hi1
    rw [hes, hL, mix_set h0 (by omega) (v := _) ?_ hi1]
    clear hL h3 hlen
    subst_vars
    rw [Int.toNat_of_nonneg h0]
    simp only [Obv.mk', Obv.mk.injEq, Int.add_zero]
    all_goals (refine ⟨?_, ?_, ?_, ?_⟩ <;> first | trivial | omega | rfl | (congr 1; omega))
  · omega
  · have hi : i = l.length := by omega
    refine hK _ _ ⟨k', es, ?_, ?_, rfl, rfl⟩
    · rw [h2, hi]
    · rw [h3, hL, mix_all (by omega)]; rfl
structure Shp where
  name : ByteArray
  speed : Int
  load : Int
  draught : Int
def Shp.cs (v : Shp) : List AV := [.str v.name, .int .i64 v.speed, .int .i64 v.load, .int .i64 v.draught]
def Shp.sz (v : Shp) : Nat := v.name.size
def Shp.mk' (k : Int) : Shp := ⟨mText (k + 0), k + 1, k + 2, k + 3⟩
def Shp.mks (n : Nat) (k : Int) : List Shp := (List.range n).map fun i : Nat => Shp.mk' (k + 4 * (i : Int))
theorem Shp.mks_len (n : Nat) (k : Int) : (Shp.mks n k).length = n := by simp [Shp.mks]
structure Wrk where
  name : ByteArray
  atX : Int
  atY : Int
  load : Int
  minutes : Int
  frm : Int
  til : Int
def Wrk.cs (v : Wrk) : List AV := [.str v.name, .int .i64 v.atX, .int .i64 v.atY, .int .i64 v.load, .int .i64 v.minutes, .int .i64 v.frm, .int .i64 v.til]
def Wrk.sz (v : Wrk) : Nat := v.name.size
def Wrk.mk' (k : Int) : Wrk := ⟨mText (k + 0), k + 1, k + 2, k + 3, k + 4, k + 5, k + 6⟩
def Wrk.mks (n : Nat) (k : Int) : List Wrk := (List.range n).map fun i : Nat => Wrk.mk' (k + 7 * (i : Int))
theorem Wrk.mks_len (n : Nat) (k : Int) : (Wrk.mks n k).length = n := by simp [Wrk.mks]
end Go.Proofs.YtoafgafkmeghlaaGreatDoor
/- Contracts: characters of lights, channels. -/
namespace Go.Proofs.YtoafgafkmeghlaaGreatDoor
open Go Go.RowKit Classical
set_option maxRecDepth 100000
set_option maxHeartbeats 2000000
set_option linter.unusedVariables false
set_option linter.unusedSimpArgs false
structure Chr where
  kind : Int
  group : List Int
  letter : ByteArray
  colors : ByteArray
  period : Int
def Chr.cs (b : Bool) (v : Chr) : List AV := [.int .i64 v.kind, .sl b 1 (v.group.map intR), .str v.letter, .str v.colors, .int .i64 v.period]
theorem NoB.oChr (v : Chr) : NoB (.agg (v.cs true)) := (.aggC (.int _ _) (.aggC (.ints _) (.aggC (.str _) (.aggC (.str _) (.aggC (.int _ _) .agg0)))))
def Chr.sz (v : Chr) : Nat := v.group.length + v.letter.size + v.colors.size
theorem callChr {E : Env} {np : Nat} {P : Program} (hE : E = stdE np P) {f : FuncId} {args : List AV} {K : AV → Prop} {kind : Int} {group : List Int} {letter : ByteArray} {colors : ByteArray} {period : Int} (h : AC P f args (fun v : Chr => .agg (v.cs true)) (Chr.mk kind group letter colors period)) (hk : ∀ (r_group : List (List AV)), r_group = group.map intR → K (.agg [.int .i64 kind, .sl true 1 r_group, .str letter, .str colors, .int .i64 period])) : E.call f args K :=
  callI hE h fun y hy => by subst hy; exact hk _ rfl
theorem szCharacter_ (kind : Int) (letter : ByteArray) (colors : ByteArray) (period : Int) {r_group : List (List AV)} {t_group : Bool} {group : List Int} (h_group : r_group = group.map intR) (n : Int) (hn : 0 ≤ n ∧ n ≤ 1048576) : AC Tryz.prog 39 [.agg [.int .i64 kind, .sl t_group 1 r_group, .str letter, .str colors, .int .i64 period], .int .i64 n] (AV.int .i64) (szN n (Chr.sz (Chr.mk kind group letter colors period))) := by
  refine ac Tryz.func39 (by kernel_rfl) (.int _ _) fun E K hE hK => ?_
  conv => cbv
  repeat' first
    | (refine callI hE (szInt64S_ _ (by assumption) (by omega)) (fun y hy => ?_); have hz := szN_or2 hy; clear hy; (try conv => cbv))
    | ((first
   | refine q0 hE ?_
   | refine B0 hE ?_|refine B1 hE (fun _=>?_) fun _=>?_|refine B3 hE fun _ _ _=>?_|refine B2 hE fun _ _=>?_|refine B4 hE fun _ _ _ _=>?_) <;> (try conv => cbv))
  all_goals (refine hK _ ?_; show AV.int _ _ = AV.int _ _; congr 1; unfold szN Chr.sz; simp only at *; split <;> omega)
theorem toCharacter_ (kind : Int) (letter : ByteArray) (colors : ByteArray) (period : Int) {r_group : List (List AV)} {t_group : Bool} {group : List Int} (h_group : r_group = group.map intR) (hz : Chr.sz (Chr.mk kind group letter colors period) ≤ 1048576) : AC Tryz.prog 49 [.agg [.int .i64 kind, .sl t_group 1 r_group, .str letter, .str colors, .int .i64 period]] (fun v : Chr => .agg (v.cs true)) (Chr.mk kind group letter colors period) := by
  refine ac Tryz.func49 (by kernel_rfl) (.oChr _) fun E K hE hK => ?_
  conv => cbv
  have hz' := hz
  simp only [Chr.sz] at hz'
  repeat' first
    | ((first
   | refine q0 hE ?_
   | refine callR hE (toInt64S_ (by assumption) (by omega)) (fun _ _ => ?_)
   | refine B0 hE ?_|refine B1 hE (fun _=>?_) fun _=>?_|refine B3 hE fun _ _ _=>?_|refine B2 hE fun _ _=>?_|refine B4 hE fun _ _ _ _=>?_) <;> (try conv => cbv))
  all_goals first
    | (refine hK _ ?_; subst_vars; rfl)
    | trace_state
theorem eqCharacter_ (kind : Int) (letter : ByteArray) (colors : ByteArray) (period : Int) (kind' : Int) (letter' : ByteArray) (colors' : ByteArray) (period' : Int) {r_group : List (List AV)} {t_group : Bool} {group : List Int} {r_group' : List (List AV)} {t_group' : Bool} {group' : List Int} (h_group : r_group = group.map intR) (h_group' : r_group' = group'.map intR) : AC Tryz.prog 68 [.agg [.int .i64 kind, .sl t_group 1 r_group, .str letter, .str colors, .int .i64 period], .agg [.int .i64 kind', .sl t_group' 1 r_group', .str letter', .str colors', .int .i64 period']] AV.bool (bP ((Chr.mk kind group letter colors period) = (Chr.mk kind' group' letter' colors' period'))) := by
  refine ac Tryz.func68 (by kernel_rfl) (.bool _) fun E K hE hK => ?_
  conv => cbv
  repeat' first
    | ((first
   | refine q0 hE ?_
   | refine callP hE (eqInt64S_ (by assumption) (by assumption)) (fun _ => ?_) (fun _ => ?_)
   | refine B0 hE ?_|refine B1 hE (fun _=>?_) fun _=>?_|refine B3 hE fun _ _ _=>?_|refine B2 hE fun _ _=>?_|refine B4 hE fun _ _ _ _=>?_) <;> (try conv => cbv))
  all_goals (clear h_group h_group')
  all_goals first | (refine finB hK (bP_true.2 ?_); simp only [Chr.mk.injEq] at *; simp_all; done) | (refine finB hK (bP_false.2 ?_); simp only [Chr.mk.injEq] at *; simp_all; done)
structure Chn where
  name : ByteArray
  line : List Pnt
  width : Int
def Chn.cs (b : Bool) (v : Chn) : List AV := [.str v.name, .sl b 2 (v.line.map Pnt.cs), .int .i64 v.width]
def Chn.sz (v : Chn) : Nat := v.name.size + v.line.length
end Go.Proofs.YtoafgafkmeghlaaGreatDoor
/- Contracts: aids. -/
namespace Go.Proofs.YtoafgafkmeghlaaGreatDoor
open Go Go.RowKit Classical
set_option maxRecDepth 100000
set_option maxHeartbeats 2000000
set_option linter.unusedVariables false
set_option linter.unusedSimpArgs false
structure Aid where
  number : Int
  name : ByteArray
  atX : Int
  atY : Int
  height : Int
  mKind : Int
  mColors : ByteArray
  mShape : ByteArray
  mTop : ByteArray
  lKind : Int
  lGroup : List Int
  lLetter : ByteArray
  lColors : ByteArray
  lPeriod : Int
  sectors : List Scr
  intensity : Int
def Aid.cs (b : Bool) (v : Aid) : List AV := [.int .i64 v.number, .str v.name, .int .i64 v.atX, .int .i64 v.atY, .int .i64 v.height, .int .i64 v.mKind, .str v.mColors, .str v.mShape, .str v.mTop, .int .i64 v.lKind, .sl b 1 (v.lGroup.map intR), .str v.lLetter, .str v.lColors, .int .i64 v.lPeriod, .sl b 3 (v.sectors.map Scr.cs), .int .i64 v.intensity]
theorem NoB.oAid (v : Aid) : NoB (.agg (v.cs true)) := (.aggC (.int _ _) (.aggC (.str _) (.aggC (.int _ _) (.aggC (.int _ _) (.aggC (.int _ _) (.aggC (.int _ _) (.aggC (.str _) (.aggC (.str _) (.aggC (.str _) (.aggC (.int _ _) (.aggC (.ints _) (.aggC (.str _) (.aggC (.str _) (.aggC (.int _ _) (.aggC (.rows .oScr) (.aggC (.int _ _) .agg0))))))))))))))))
def Aid.sz (v : Aid) : Nat := v.name.size + Mrk.sz ⟨v.mKind, v.mColors, v.mShape, v.mTop⟩ + Chr.sz ⟨v.lKind, v.lGroup, v.lLetter, v.lColors, v.lPeriod⟩ + (v.sectors.length + (v.sectors.map Scr.sz).sum)
theorem idxAid {E : Env} {np : Nat} {P : Program} (hE : E = stdE np P) {es : List (List AV)} {i : Int} {K : List AV → Prop} {l : List Aid} {b : Bool} (hl : es = l.map (Aid.cs b)) (h0 : 0 ≤ i ∧ i < l.length) (hk : ∀ (number : Int) (name : ByteArray) (atX : Int) (atY : Int) (height : Int) (mKind : Int) (mColors : ByteArray) (mShape : ByteArray) (mTop : ByteArray) (lKind : Int) (lGroup : List Int) (lLetter : ByteArray) (lColors : ByteArray) (lPeriod : Int) (sectors : List Scr) (intensity : Int) (r_lGroup r_sectors : List (List AV)), l[i.toNat]? = some (Aid.mk number name atX atY height mKind mColors mShape mTop lKind lGroup lLetter lColors lPeriod sectors intensity) → r_lGroup = lGroup.map intR → r_sectors = sectors.map Scr.cs → K [.int .i64 number, .str name, .int .i64 atX, .int .i64 atY, .int .i64 height, .int .i64 mKind, .str mColors, .str mShape, .str mTop, .int .i64 lKind, .sl b 1 r_lGroup, .str lLetter, .str lColors, .int .i64 lPeriod, .sl b 3 r_sectors, .int .i64 intensity]) : E.idx es i K :=
  idxL hE hl h0 fun v hv => by
    obtain ⟨number, name, atX, atY, height, mKind, mColors, mShape, mTop, lKind, lGroup, lLetter, lColors, lPeriod, sectors, intensity⟩ := v
    exact hk number name atX atY height mKind mColors mShape mTop lKind lGroup lLetter lColors lPeriod sectors intensity _ _ hv rfl rfl
theorem idxAidV {E : Env} {np : Nat} {P : Program} (hE : E = stdE np P) {es : List (List AV)} {i : Int} {K : List AV → Prop} {l : List Aid} {b : Bool} {number : Int} {name : ByteArray} {atX : Int} {atY : Int} {height : Int} {mKind : Int} {mColors : ByteArray} {mShape : ByteArray} {mTop : ByteArray} {lKind : Int} {lGroup : List Int} {lLetter : ByteArray} {lColors : ByteArray} {lPeriod : Int} {sectors : List Scr} {intensity : Int} {r_lGroup r_sectors : List (List AV)} (hl : es = l.map (Aid.cs b)) (h0 : 0 ≤ i) (hv : l[i.toNat]? = some (Aid.mk number name atX atY height mKind mColors mShape mTop lKind lGroup lLetter lColors lPeriod sectors intensity)) (h_lGroup : r_lGroup = lGroup.map intR) (h_sectors : r_sectors = sectors.map Scr.cs) (hk : K [.int .i64 number, .str name, .int .i64 atX, .int .i64 atY, .int .i64 height, .int .i64 mKind, .str mColors, .str mShape, .str mTop, .int .i64 lKind, .sl b 1 r_lGroup, .str lLetter, .str lColors, .int .i64 lPeriod, .sl b 3 r_sectors, .int .i64 intensity]) : E.idx es i K := by
  subst h_lGroup h_sectors
  exact idxV hE hl h0 hv hk
theorem callAid {E : Env} {np : Nat} {P : Program} (hE : E = stdE np P) {f : FuncId} {args : List AV} {K : AV → Prop} {number : Int} {name : ByteArray} {atX : Int} {atY : Int} {height : Int} {mKind : Int} {mColors : ByteArray} {mShape : ByteArray} {mTop : ByteArray} {lKind : Int} {lGroup : List Int} {lLetter : ByteArray} {lColors : ByteArray} {lPeriod : Int} {sectors : List Scr} {intensity : Int} (h : AC P f args (fun v : Aid => .agg (v.cs true)) (Aid.mk number name atX atY height mKind mColors mShape mTop lKind lGroup lLetter lColors lPeriod sectors intensity)) (hk : ∀ (r_lGroup r_sectors : List (List AV)), r_lGroup = lGroup.map intR → r_sectors = sectors.map Scr.cs → K (.agg [.int .i64 number, .str name, .int .i64 atX, .int .i64 atY, .int .i64 height, .int .i64 mKind, .str mColors, .str mShape, .str mTop, .int .i64 lKind, .sl true 1 r_lGroup, .str lLetter, .str lColors, .int .i64 lPeriod, .sl true 3 r_sectors, .int .i64 intensity])) : E.call f args K :=
  callI hE h fun y hy => by subst hy; exact hk _ _ rfl rfl
theorem szAid_ (number : Int) (name : ByteArray) (atX : Int) (atY : Int) (height : Int) (mKind : Int) (mColors : ByteArray) (mShape : ByteArray) (mTop : ByteArray) (lKind : Int) (lLetter : ByteArray) (lColors : ByteArray) (lPeriod : Int) (intensity : Int) {r_lGroup : List (List AV)} {t_lGroup : Bool} {lGroup : List Int} {r_sectors : List (List AV)} {t_sectors : Bool} {sectors : List Scr} (h_lGroup : r_lGroup = lGroup.map intR) (h_sectors : r_sectors = sectors.map Scr.cs) (n : Int) (hn : 0 ≤ n ∧ n ≤ 1048576) : AC Tryz.prog 17 [.agg [.int .i64 number, .str name, .int .i64 atX, .int .i64 atY, .int .i64 height, .int .i64 mKind, .str mColors, .str mShape, .str mTop, .int .i64 lKind, .sl t_lGroup 1 r_lGroup, .str lLetter, .str lColors, .int .i64 lPeriod, .sl t_sectors 3 r_sectors, .int .i64 intensity], .int .i64 n] (AV.int .i64) (szN n (Aid.sz (Aid.mk number name atX atY height mKind mColors mShape mTop lKind lGroup lLetter lColors lPeriod sectors intensity))) := by
  refine ac Tryz.func17 (by kernel_rfl) (.int _ _) fun E K hE hK => ?_
  conv => cbv
  repeat' first
    | (refine callI hE (szMark_ _ _ _ _ _ (by omega)) (fun y hy => ?_); have hz := szN_or2 hy; clear hy; (try conv => cbv))
    | (refine callI hE (szCharacter_ _ _ _ _ (by assumption) _ (by omega)) (fun y hy => ?_); have hz := szN_or2 hy; clear hy; (try conv => cbv))
    | (refine callI hE (szSectorS_ _ (by assumption) (by omega)) (fun y hy => ?_); have hz := szN_or2 hy; clear hy; (try conv => cbv))
    | ((first
   | refine q0 hE ?_
   | refine B0 hE ?_|refine B1 hE (fun _=>?_) fun _=>?_|refine B3 hE fun _ _ _=>?_|refine B2 hE fun _ _=>?_|refine B4 hE fun _ _ _ _=>?_) <;> (try conv => cbv))
  all_goals (refine hK _ ?_; show AV.int _ _ = AV.int _ _; congr 1; unfold szN Aid.sz; simp only at *; split <;> omega)
theorem szAidS_ {rs : List (List AV)} {t b : Bool} {l : List Aid} (n : Int) (hl : rs = l.map (Aid.cs b)) (hn : 0 ≤ n ∧ n ≤ 1048576) : AC Tryz.prog 4 [.sl t 16 rs, .int .i64 n] (AV.int .i64) (szN n (l.length + (l.map Aid.sz).sum)) := by
  refine ac Tryz.func4 (by kernel_rfl) (.int _ _) fun E K hE hK => ?_
  conv => cbv
  repeat' first
    | ((first
   | refine q0 hE ?_
   | refine B0 hE ?_|refine B1 hE (fun _=>?_) fun _=>?_|refine B3 hE fun _ _ _=>?_|refine B2 hE fun _ _=>?_|refine B4 hE fun _ _ _ _=>?_) <;> (try conv => cbv))
  · refine hK _ ?_
    rw [szN, if_pos (by omega)]; rfl
  · refine loopC hE (ι := Int × Int) [0] [5, 1] (fun q => (fun (i : Int) (m : Int) => [(5, .int .i64 i), (1, .int .i64 m)]) q.1 q.2) (fun q => (fun (i : Int) (m : Int) => []) q.1 q.2) (fun q => (fun (i : Int) (m : Int) => (l.length - i).toNat) q.1 q.2) (fun q => (fun (i : Int) (m : Int) => (0 ≤ i ∧ i ≤ l.length) ∧ (0 ≤ m ∧ m ≤ 1048576) ∧ m + sumTo Aid.sz l i + l.length = n) q.1 q.2) [] (by decide) ((0, _)) (by conv => lhs; cbv) (by conv => lhs; cbv) rfl rfl (by dsimp only; exact ⟨by omega, by omega, by rw [sumTo_zero (by omega)]; omega⟩) fun q hi Kn hN => ?_
    obtain ⟨i, m⟩ := q
    (try dsimp only at hi)
    conv => cbv
    obtain ⟨⟨h0, h1⟩, h2, h3⟩ := hi
    have hle := sumTo_le Aid.sz l
    repeat' first
      | (refine idxAid hE hl (by omega) (fun number name atX atY height mKind mColors mShape mTop lKind lGroup lLetter lColors lPeriod sectors intensity r_lGroup r_sectors hv h_lGroup h_sectors => ?_); have hs := sumTo_succ Aid.sz h0 hv; have hs2 := hle (i + 1); (try conv => cbv))
      | (refine callI hE (szAid_ _ _ _ _ _ _ _ _ _ _ _ _ _ _ (by assumption) (by assumption) _ (by omega)) (fun y hy => ?_); have hz := szN_or2 hy; clear hy; (try conv => cbv))
      | (refine hN (_, _) _ [] (by decide) rfl ⟨?_, ?_, ?_⟩ ?_ <;> (try dsimp only))
      | ((first
     | refine q0 hE ?_
     | refine B0 hE ?_|refine B1 hE (fun _=>?_) fun _=>?_|refine B3 hE fun _ _ _=>?_|refine B2 hE fun _ _=>?_|refine B4 hE fun _ _ _ _=>?_) <;> (try conv => cbv))
    all_goals first
      | omega
      | (refine hK _ ?_; rw [szN_lt (by omega)]; rfl)
      | (rename_i hn2; rw [hn2, hs]; omega)
      | (refine hK _ ?_; have := sumTo_all Aid.sz l (i := i) (by omega); rw [szN_ge (by omega)]; show AV.int _ _ = AV.int _ _; congr 1; omega)
      | trace_state
theorem toAid_ (number : Int) (name : ByteArray) (atX : Int) (atY : Int) (height : Int) (mKind : Int) (mColors : ByteArray) (mShape : ByteArray) (mTop : ByteArray) (lKind : Int) (lLetter : ByteArray) (lColors : ByteArray) (lPeriod : Int) (intensity : Int) {r_lGroup : List (List AV)} {t_lGroup : Bool} {lGroup : List Int} {r_sectors : List (List AV)} {t_sectors : Bool} {sectors : List Scr} (h_lGroup : r_lGroup = lGroup.map intR) (h_sectors : r_sectors = sectors.map Scr.cs) (hz : Aid.sz (Aid.mk number name atX atY height mKind mColors mShape mTop lKind lGroup lLetter lColors lPeriod sectors intensity) ≤ 1048576) : AC Tryz.prog 22 [.agg [.int .i64 number, .str name, .int .i64 atX, .int .i64 atY, .int .i64 height, .int .i64 mKind, .str mColors, .str mShape, .str mTop, .int .i64 lKind, .sl t_lGroup 1 r_lGroup, .str lLetter, .str lColors, .int .i64 lPeriod, .sl t_sectors 3 r_sectors, .int .i64 intensity]] (fun v : Aid => .agg (v.cs true)) (Aid.mk number name atX atY height mKind mColors mShape mTop lKind lGroup lLetter lColors lPeriod sectors intensity) := by
  refine ac Tryz.func22 (by kernel_rfl) (.oAid _) fun E K hE hK => ?_
  conv => cbv
  have hz' := hz
  simp only [Aid.sz] at hz'
  repeat' first
    | ((first
   | refine q0 hE ?_
   | (refine callI hE (toPoint_ _ _) (fun _ hy => ?_); subst hy)
   | (refine callI hE (toMark_ _ _ _ _) (fun _ hy => ?_); subst hy)
   | refine callChr hE (toCharacter_ _ _ _ _ (by assumption) (by omega)) (fun _ _ => ?_)
   | refine callR hE (toSectorS_ (by assumption) (by omega)) (fun _ _ => ?_)
   | refine B0 hE ?_|refine B1 hE (fun _=>?_) fun _=>?_|refine B3 hE fun _ _ _=>?_|refine B2 hE fun _ _=>?_|refine B4 hE fun _ _ _ _=>?_) <;> (try conv => cbv))
  all_goals first
    | (refine hK _ ?_; subst_vars; rfl)
    | trace_state
theorem toAidS_ {rs : List (List AV)} {t b : Bool} {l : List Aid} (hl : rs = l.map (Aid.cs b)) (hz : l.length + (l.map Aid.sz).sum ≤ 1048576) : AC Tryz.prog 7 [.sl t 16 rs] (fun l : List Aid => .sl true 16 (l.map (Aid.cs true))) l := by
  refine ac Tryz.func7 (by kernel_rfl) (.rows .oAid) fun E K hE hK => ?_
  conv => cbv
  refine lenL hE hl fun n hn hb => ?_
  conv => cbv
  refine makeL hE (l := l) (Aid.cs true) hn rfl (by omega) fun es hes => ?_
  conv => cbv
  refine loopC hE (ι := Int × (List (List AV))) [0] [4, 3] (fun q => (fun (i : Int) (es' : List (List AV)) => [(4, .int .i64 i), (3, .ob 0)]) q.1 q.2) (fun q => (fun (i : Int) (es' : List (List AV)) => [.row 16 es']) q.1 q.2) (fun q => (fun (i : Int) (es' : List (List AV)) => (l.length - i).toNat) q.1 q.2) (fun q => (fun (i : Int) (es' : List (List AV)) => 0 ≤ i ∧ es' = fillRow (Aid.cs true) [.int .i64 0, .str ⟨#[]⟩, .int .i64 0, .int .i64 0, .int .i64 0, .int .i64 0, .str ⟨#[]⟩, .str ⟨#[]⟩, .str ⟨#[]⟩, .int .i64 0, .nils, .str ⟨#[]⟩, .str ⟨#[]⟩, .int .i64 0, .nils, .int .i64 0] l i) q.1 q.2) [0] (by decide) ((0, es)) (by conv => lhs; cbv) (by conv => lhs; cbv) rfl rfl (by dsimp only; exact ⟨by omega, hes⟩) fun q hi Kn hN => ?_
  obtain ⟨i, es'⟩ := q
  (try dsimp only at hi)
  conv => cbv
  obtain ⟨h0, hinv⟩ := hi
  repeat' first
    | (refine idxAid hE hl (by omega) (fun number name atX atY height mKind mColors mShape mTop lKind lGroup lLetter lColors lPeriod sectors intensity r_lGroup r_sectors hv h_lGroup h_sectors => ?_); have hsz := sum_get Aid.sz hv; (try conv => cbv))
    | (refine hN (_, _) _ [0] (by decide) rfl ⟨?_, ?_⟩ ?_ <;> (try dsimp only))
    | ((first
   | refine q0 hE ?_
   | refine callAid hE (toAid_ _ _ _ _ _ _ _ _ _ _ _ _ _ _ (by assumption) (by assumption) (by omega)) (fun _ _ _ _ => ?_)
   | refine updFill (R := Aid.cs true) hE (by assumption) (by omega) (by assumption) (by exact Nat.le_refl _) (by subst_vars; rfl) (fun _ _ => ?_)
   | refine B0 hE ?_|refine B1 hE (fun _=>?_) fun _=>?_|refine B3 hE fun _ _ _=>?_|refine B2 hE fun _ _=>?_|refine B4 hE fun _ _ _ _=>?_) <;> (try conv => cbv))
  · omega
  · subst_vars; rfl
  · omega
  · refine hK _ ?_
    rw [hinv, fillRow_all (by omega)]; rfl
theorem eqAid_ (number : Int) (name : ByteArray) (atX : Int) (atY : Int) (height : Int) (mKind : Int) (mColors : ByteArray) (mShape : ByteArray) (mTop : ByteArray) (lKind : Int) (lLetter : ByteArray) (lColors : ByteArray) (lPeriod : Int) (intensity : Int) (number' : Int) (name' : ByteArray) (atX' : Int) (atY' : Int) (height' : Int) (mKind' : Int) (mColors' : ByteArray) (mShape' : ByteArray) (mTop' : ByteArray) (lKind' : Int) (lLetter' : ByteArray) (lColors' : ByteArray) (lPeriod' : Int) (intensity' : Int) {r_lGroup : List (List AV)} {t_lGroup : Bool} {lGroup : List Int} {r_sectors : List (List AV)} {t_sectors : Bool} {sectors : List Scr} {r_lGroup' : List (List AV)} {t_lGroup' : Bool} {lGroup' : List Int} {r_sectors' : List (List AV)} {t_sectors' : Bool} {sectors' : List Scr} (h_lGroup : r_lGroup = lGroup.map intR) (h_sectors : r_sectors = sectors.map Scr.cs) (h_lGroup' : r_lGroup' = lGroup'.map intR) (h_sectors' : r_sectors' = sectors'.map Scr.cs) : AC Tryz.prog 32 [.agg [.int .i64 number, .str name, .int .i64 atX, .int .i64 atY, .int .i64 height, .int .i64 mKind, .str mColors, .str mShape, .str mTop, .int .i64 lKind, .sl t_lGroup 1 r_lGroup, .str lLetter, .str lColors, .int .i64 lPeriod, .sl t_sectors 3 r_sectors, .int .i64 intensity], .agg [.int .i64 number', .str name', .int .i64 atX', .int .i64 atY', .int .i64 height', .int .i64 mKind', .str mColors', .str mShape', .str mTop', .int .i64 lKind', .sl t_lGroup' 1 r_lGroup', .str lLetter', .str lColors', .int .i64 lPeriod', .sl t_sectors' 3 r_sectors', .int .i64 intensity']] AV.bool (bP ((Aid.mk number name atX atY height mKind mColors mShape mTop lKind lGroup lLetter lColors lPeriod sectors intensity) = (Aid.mk number' name' atX' atY' height' mKind' mColors' mShape' mTop' lKind' lGroup' lLetter' lColors' lPeriod' sectors' intensity'))) := by
  refine ac Tryz.func32 (by kernel_rfl) (.bool _) fun E K hE hK => ?_
  conv => cbv
  repeat' first
    | ((first
   | refine q0 hE ?_
   | refine callP hE (eqPoint_ _ _ _ _) (fun _ => ?_) (fun _ => ?_)
   | refine callP hE (eqMark_ _ _ _ _ _ _ _ _) (fun _ => ?_) (fun _ => ?_)
   | refine callP hE (eqCharacter_ _ _ _ _ _ _ _ _ (by assumption) (by assumption)) (fun _ => ?_) (fun _ => ?_)
   | refine callP hE (eqSectorS_ (by assumption) (by assumption)) (fun _ => ?_) (fun _ => ?_)
   | refine B0 hE ?_|refine B1 hE (fun _=>?_) fun _=>?_|refine B3 hE fun _ _ _=>?_|refine B2 hE fun _ _=>?_|refine B4 hE fun _ _ _ _=>?_) <;> (try conv => cbv))
  all_goals (clear h_lGroup h_sectors h_lGroup' h_sectors')
  all_goals first | (refine finB hK (bP_true.2 ?_); simp only [Aid.mk.injEq, Pnt.mk.injEq, Mrk.mk.injEq, Chr.mk.injEq] at *; simp_all; done) | (refine finB hK (bP_false.2 ?_); simp only [Aid.mk.injEq, Pnt.mk.injEq, Mrk.mk.injEq, Chr.mk.injEq] at *; simp_all; done)
theorem eqAidS_ {rs rs' : List (List AV)} {t t' b b' : Bool} {l m : List Aid} (hl : rs = l.map (Aid.cs b)) (hm : rs' = m.map (Aid.cs b')) : AC Tryz.prog 11 [.sl t 16 rs, .sl t' 16 rs'] AV.bool (bP (l = m)) := by
  refine ac Tryz.func11 (by kernel_rfl) (.bool _) fun E K hE hK => ?_
  conv => cbv
  refine lenL hE hl fun n hn hb => ?_
  conv => cbv
  refine lenL hE hm fun n' hn' hb' => ?_
  conv => cbv
  refine eqI hE (fun he => ?_) (fun he => ?_) <;> conv => cbv
  · refine loopC hE (ι := Int) [0, 1] [5] (fun q => (fun (i : Int) => [(5, .int .i64 i)]) q) (fun q => (fun (i : Int) => []) q) (fun q => (fun (i : Int) => (l.length - i).toNat) q) (fun q => (fun (i : Int) => 0 ≤ i ∧ Up (fun j => l[j]? = m[j]?) i) q) [] (by decide) (0) (by conv => lhs; cbv) (by conv => lhs; cbv) rfl rfl (by dsimp only; exact ⟨by omega, .zero (by omega)⟩) fun i hi Kn hN => ?_
    (try dsimp only at hi)
    conv => cbv
    obtain ⟨h0, hinv⟩ := hi
    repeat' first
      | (refine idxAid hE hl (by omega) (fun number name atX atY height mKind mColors mShape mTop lKind lGroup lLetter lColors lPeriod sectors intensity r_lGroup r_sectors hv h_lGroup h_sectors => ?_); (try conv => cbv))
      | (refine idxAid hE hm (by omega) (fun number' name' atX' atY' height' mKind' mColors' mShape' mTop' lKind' lGroup' lLetter' lColors' lPeriod' sectors' intensity' r_lGroup' r_sectors' hv' h_lGroup' h_sectors' => ?_); (try conv => cbv))
      | (refine callP hE (eqAid_ _ _ _ _ _ _ _ _ _ _ _ _ _ _ _ _ _ _ _ _ _ _ _ _ _ _ _ _ (by assumption) (by assumption) (by assumption) (by assumption)) (fun hq => ?_) (fun hq => ?_) <;> (try conv => cbv))
      | (refine hN _ _ [] (by decide) rfl ⟨?_, ?_⟩ ?_ <;> (try dsimp only))
      | ((first
     | refine q0 hE ?_
     | refine B0 hE ?_|refine B1 hE (fun _=>?_) fun _=>?_|refine B3 hE fun _ _ _=>?_|refine B2 hE fun _ _=>?_|refine B4 hE fun _ _ _ _=>?_) <;> (try conv => cbv))
    all_goals first
      | omega
      | exact hinv.succ (hv.trans ((congrArg some hq).trans hv'.symm)) (by assumption)
      | (refine finB hK (bP_false.2 fun h => hq ?_); rw [h, hv'] at hv; exact (Option.some.inj hv).symm)
      | exact finB hK (bP_true.2 (list_eq_of (by omega) hinv (by omega)))
      | trace_state
  · refine finB hK (bP_false.2 fun h => ?_); subst h; omega
end Go.Proofs.YtoafgafkmeghlaaGreatDoor
/- Contracts: notices, fairways. -/
namespace Go.Proofs.YtoafgafkmeghlaaGreatDoor
open Go Go.RowKit Classical
set_option maxRecDepth 100000
set_option maxHeartbeats 2000000
set_option linter.unusedVariables false
set_option linter.unusedSimpArgs false
structure Ntc where
  number : Int
  day : Int
  kind : Int
  target : Int
  aNumber : Int
  aName : ByteArray
  atX : Int
  atY : Int
  aHeight : Int
  mKind : Int
  mColors : ByteArray
  mShape : ByteArray
  mTop : ByteArray
  lKind : Int
  lGroup : List Int
  lLetter : ByteArray
  lColors : ByteArray
  lPeriod : Int
  sectors : List Scr
  intensity : Int
def Ntc.cs (b : Bool) (v : Ntc) : List AV := [.int .i64 v.number, .int .i64 v.day, .int .i64 v.kind, .int .i64 v.target, .int .i64 v.aNumber, .str v.aName, .int .i64 v.atX, .int .i64 v.atY, .int .i64 v.aHeight, .int .i64 v.mKind, .str v.mColors, .str v.mShape, .str v.mTop, .int .i64 v.lKind, .sl b 1 (v.lGroup.map intR), .str v.lLetter, .str v.lColors, .int .i64 v.lPeriod, .sl b 3 (v.sectors.map Scr.cs), .int .i64 v.intensity]
def Ntc.sz (v : Ntc) : Nat := Aid.sz ⟨v.aNumber, v.aName, v.atX, v.atY, v.aHeight, v.mKind, v.mColors, v.mShape, v.mTop, v.lKind, v.lGroup, v.lLetter, v.lColors, v.lPeriod, v.sectors, v.intensity⟩
structure Fwy where
  name : ByteArray
  line : List Pnt
  width : Int
  spacing : Int
  tolerance : Int
def Fwy.cs (b : Bool) (v : Fwy) : List AV := [.str v.name, .sl b 2 (v.line.map Pnt.cs), .int .i64 v.width, .int .i64 v.spacing, .int .i64 v.tolerance]
def Fwy.sz (v : Fwy) : Nat := Chn.sz ⟨v.name, v.line, v.width⟩
end Go.Proofs.YtoafgafkmeghlaaGreatDoor
/- Contracts: authorities. -/
namespace Go.Proofs.YtoafgafkmeghlaaGreatDoor
open Go Go.RowKit Classical
set_option maxRecDepth 100000
set_option maxHeartbeats 2000000
set_option linter.unusedVariables false
set_option linter.unusedSimpArgs false
structure Aut where
  edition : List Aid
  notices : List Ntc
  day : Int
  fairways : List Fwy
  dangers : List Dgr
  away : Int
  observers : List Obv
  tolerance : Int
  full : List Int
  sName : ByteArray
  sSpeed : Int
  sLoad : Int
  sDraught : Int
  bX : Int
  bY : Int
  works : List Wrk
  order : List Int
  start : Int
def Aut.cs (b : Bool) (v : Aut) : List AV := [.sl b 16 (v.edition.map (Aid.cs b)), .sl b 20 (v.notices.map (Ntc.cs b)), .int .i64 v.day, .sl b 5 (v.fairways.map (Fwy.cs b)), .sl b 4 (v.dangers.map Dgr.cs), .int .i64 v.away, .sl b 4 (v.observers.map Obv.cs), .int .i64 v.tolerance, .sl b 1 (v.full.map intR), .str v.sName, .int .i64 v.sSpeed, .int .i64 v.sLoad, .int .i64 v.sDraught, .int .i64 v.bX, .int .i64 v.bY, .sl b 7 (v.works.map Wrk.cs), .sl b 1 (v.order.map intR), .int .i64 v.start]
def Aut.sz (v : Aut) : Nat := (v.edition.length + (v.edition.map Aid.sz).sum) + (v.notices.length + (v.notices.map Ntc.sz).sum) + (v.fairways.length + (v.fairways.map Fwy.sz).sum) + (v.dangers.length + (v.dangers.map Dgr.sz).sum) + v.observers.length + v.full.length + Shp.sz ⟨v.sName, v.sSpeed, v.sLoad, v.sDraught⟩ + (v.works.length + (v.works.map Wrk.sz).sum) + v.order.length
end Go.Proofs.YtoafgafkmeghlaaGreatDoor
/- Contracts: points, distances (the lines of Fwb and Fne that need no warnings). -/
namespace Go.Proofs.YtoafgafkmeghlaaGreatDoor
open Go Go.RowKit Classical
set_option maxRecDepth 100000
set_option maxHeartbeats 2000000
set_option linter.unusedVariables false
set_option linter.unusedSimpArgs false
def PtOk (x y : Int) : Prop := (0 ≤ x ∧ x ≤ 200000) ∧ 0 ≤ y ∧ y ≤ 200000
theorem validPoint_ (x y : Int) : AC Tryz.prog 82 [.agg [.int .i64 x, .int .i64 y]] AV.bool (bP (PtOk x y)) := by
  refine ac Tryz.func82 (by kernel_rfl) (.bool _) fun E K hE hK => ?_
  conv => cbv
  repeat' first
    | ((first
   | refine q0 hE ?_
   | refine callP hE (within_ _ _ _) (fun _ => ?_) (fun _ => ?_)
   | refine B0 hE ?_|refine B1 hE (fun _=>?_) fun _=>?_|refine B3 hE fun _ _ _=>?_|refine B2 hE fun _ _=>?_|refine B4 hE fun _ _ _ _=>?_) <;> (try conv => cbv))
  all_goals (try clear hN)
  all_goals first
    | (omega)
    | (refine finB hK (bP_true.2 ?_); first | omega | grind [PtOk])
    | (refine finB hK (bP_false.2 ?_); first | omega | (intro h; grind [PtOk]))
    | (refine ⟨by omega, Up.succ (by assumption) ?_ (by assumption)⟩; grind [PtOk])
    | (refine hK _ ?_; simp_all [atup, PtOk]; done)
    | (grind [PtOk])
theorem l02Ok_ (x y : Int) : AC Tryz.prog 73 [.agg [.int .i64 x, .int .i64 y]] AV.bool (bP (PtOk x y)) := by
  refine ac Tryz.func73 (by kernel_rfl) (.bool _) fun E K hE hK => ?_
  conv => cbv
  repeat' first
    | ((first
   | refine q0 hE ?_
   | refine callP hE (in_ _ _ _) (fun _ => ?_) (fun _ => ?_)
   | refine B0 hE ?_|refine B1 hE (fun _=>?_) fun _=>?_|refine B3 hE fun _ _ _=>?_|refine B2 hE fun _ _=>?_|refine B4 hE fun _ _ _ _=>?_) <;> (try conv => cbv))
  all_goals (try clear hN)
  all_goals first
    | (omega)
    | (refine finB hK (bP_true.2 ?_); first | omega | grind [PtOk])
    | (refine finB hK (bP_false.2 ?_); first | omega | (intro h; grind [PtOk]))
    | (refine ⟨by omega, Up.succ (by assumption) ?_ (by assumption)⟩; grind [PtOk])
    | (refine hK _ ?_; simp_all [atup, PtOk]; done)
    | (grind [PtOk])
def sqd (x y x' y' : Int) : Int := (x - x') * (x - x') + (y - y') * (y - y')
theorem sq_nn (a : Int) : 0 ≤ a * a := by
  rcases Int.le_total 0 a with h | h
  · exact Int.mul_nonneg h h
  · have := Int.mul_nonneg (a := -a) (b := -a) (by omega) (by omega)
    rwa [Int.neg_mul_neg] at this
theorem sqd_bd {x y x' y' : Int} (h : PtOk x y) (k : PtOk x' y') : 0 ≤ sqd x y x' y' ∧ sqd x y x' y' ≤ 80000000000 := by
  unfold PtOk at *
  unfold sqd
  have h1 := mul_bd (a := x - x') (b := x - x') (B := 200000) (by omega)
  have h2 := mul_bd (a := y - y') (b := y - y') (B := 200000) (by omega)
  have h3 := sq_nn (x - x')
  have h4 := sq_nn (y - y')
  omega
theorem rootI_bd {n : Int} (h : 0 ≤ n ∧ n ≤ 80000000000) : 0 ≤ rootI n ∧ rootI n ≤ 300000 := by
  obtain ⟨h1, h2, _⟩ := rootI_spec h.1
  refine ⟨h1, ?_⟩
  rcases Int.lt_or_le 300000 (rootI n) with h3 | h3
  · have := sq_mono (a := 300000) (b := rootI n) (by omega) (by omega); omega
  · exact h3
noncomputable def distR (x y x' y' : Int) : Int := if PtOk x y ∧ PtOk x' y' then rootI (sqd x y x' y') else 0
theorem squared_ (x y x' y' : Int) (h : PtOk x y) (k : PtOk x' y') : AC Tryz.prog 172 [.agg [.int .i64 x, .int .i64 y], .agg [.int .i64 x', .int .i64 y']] (AV.int .i64) (sqd x y x' y') := by
  refine ac Tryz.func172 (by kernel_rfl) (.int _ _) fun E K hE hK => ?_
  conv => cbv
  unfold PtOk at h k
  repeat' first
    | (refine mulC hE 200000 (by omega) (by omega) (fun m hm _ _ => ?_); (try conv => cbv))
    | ((first
   | refine q0 hE ?_
   | refine B0 hE ?_|refine B1 hE (fun _=>?_) fun _=>?_|refine B3 hE fun _ _ _=>?_|refine B2 hE fun _ _=>?_|refine B4 hE fun _ _ _ _=>?_) <;> (try conv => cbv))
  all_goals (refine hK _ ?_; subst_vars; rfl)
theorem l02Square_ (x y x' y' : Int) (h : PtOk x y) (k : PtOk x' y') : AC Tryz.prog 150 [.agg [.int .i64 x, .int .i64 y], .agg [.int .i64 x', .int .i64 y']] (AV.int .i64) (sqd x y x' y') := by
  refine ac Tryz.func150 (by kernel_rfl) (.int _ _) fun E K hE hK => ?_
  conv => cbv
  unfold PtOk at h k
  repeat' first
    | (refine mulC hE 200000 (by omega) (by omega) (fun m hm _ _ => ?_); (try conv => cbv))
    | ((first
   | refine q0 hE ?_
   | refine B0 hE ?_|refine B1 hE (fun _=>?_) fun _=>?_|refine B3 hE fun _ _ _=>?_|refine B2 hE fun _ _=>?_|refine B4 hE fun _ _ _ _=>?_) <;> (try conv => cbv))
  all_goals (refine hK _ ?_; subst_vars; rfl)
theorem pt_some {l : List Pnt} {i : Int} {x y : Int} (hv : l[i.toNat]? = some ⟨x, y⟩) (h : PtOk x y) : ∀ p, l[i.toNat]? = some p → PtOk p.x p.y := fun p hp => by rw [hv] at hp; cases hp; exact h
theorem arePoints_ {rs : List (List AV)} {t : Bool} {l : List Pnt} (hl : rs = l.map Pnt.cs) : AC Tryz.prog 170 [.sl t 2 rs] AV.bool (bP (∀ p ∈ l, PtOk p.x p.y)) := by
  refine ac Tryz.func170 (by kernel_rfl) (.bool _) fun E K hE hK => ?_
  conv => cbv
  refine lenL hE hl fun n hn hb => ?_
  conv => cbv
  refine loopC hE (ι := Int) [5, 6] [7] (fun q => (fun (i : Int) => [(7, .int .i64 i)]) q) (fun q => (fun (i : Int) => []) q) (fun q => (fun (i : Int) => (n - i).toNat) q) (fun q => (fun (i : Int) => 0 ≤ i ∧ Up (fun j => ∀ p, l[j]? = some p → PtOk p.x p.y) i) q) [] (by decide) (0) (by conv => lhs; cbv) (by conv => lhs; cbv) rfl rfl (by dsimp only; exact ⟨by omega, .zero (by omega)⟩) fun i hi Kn hN => ?_
  (try dsimp only at hi)
  conv => cbv
  obtain ⟨h0, hinv⟩ := hi
  repeat' first
    | (refine hN _ _ [] (by decide) rfl ⟨?_, ?_⟩ ?_ <;> (try dsimp only))
    | ((first
   | refine q0 hE ?_
   | (refine idxL (R := Pnt.cs) hE (by assumption) (by first | omega | (simp only [List.length_set, mix_len]; omega)) ?_; rintro ⟨⟩ _)
   | refine callP hE (validPoint_ _ _) (fun _ => ?_) (fun _ => ?_)
   | refine B0 hE ?_|refine B1 hE (fun _=>?_) fun _=>?_|refine B3 hE fun _ _ _=>?_|refine B2 hE fun _ _=>?_|refine B4 hE fun _ _ _ _=>?_) <;> (try conv => cbv))
  all_goals (try clear hN)
  all_goals first
    | omega
    | exact hinv.succ (pt_some (by assumption) (by assumption)) (by assumption)
    | (refine finB hK (bP_true.2 fun p hp => ?_); obtain ⟨j, hj⟩ := List.getElem?_of_mem hp; exact hinv j (by have := (List.getElem?_eq_some_iff.1 hj).1; omega) p hj)
    | (refine finB hK (bP_false.2 fun h => ?_); have := h _ (List.mem_of_getElem? (by assumption)); contradiction)
    | trace_state
theorem distance_ (x y x' y' : Int) : AC Tryz.prog 120 [.agg [.int .i64 x, .int .i64 y], .agg [.int .i64 x', .int .i64 y']] (AV.int .i64) (distR x y x' y') := by
  refine ac Tryz.func120 (by kernel_rfl) (.int _ _) fun E K hE hK => ?_
  conv => cbv
  refine callP hE (arePoints_ (l := [(⟨x, y⟩ : Pnt), ⟨x', y'⟩]) (by rfl)) (fun h => ?_) (fun h => ?_) <;> conv => cbv
  · have h1 := h ⟨x, y⟩ (by simp)
    have h2 := h ⟨x', y'⟩ (by simp)
    simp only at h1 h2
    refine callI hE (squared_ _ _ _ _ h1 h2) fun s hs => ?_
    have hbd := sqd_bd h1 h2
    conv => cbv
    refine callI hE (rootOf_ _ (by omega)) fun r hr => ?_
    conv => cbv
    exact hK _ (by rw [distR, if_pos ⟨h1, h2⟩, hr, hs]; rfl)
  · exact hK _ (by rw [distR, if_neg (fun k => h fun p hp => by
      simp only [List.mem_cons, List.not_mem_nil, or_false] at hp
      rcases hp with rfl | rfl
      · exact k.1
      · exact k.2)]; rfl)
theorem l02Apart_ (x y x' y' : Int) (h1 : PtOk x y) (h2 : PtOk x' y') : AC Tryz.prog 107 [.agg [.int .i64 x, .int .i64 y], .agg [.int .i64 x', .int .i64 y']] (AV.int .i64) (distR x y x' y') := by
  refine ac Tryz.func107 (by kernel_rfl) (.int _ _) fun E K hE hK => ?_
  conv => cbv
  refine callI hE (l02Square_ _ _ _ _ h1 h2) fun s hs => ?_
  have hbd := sqd_bd h1 h2
  conv => cbv
  refine callI hE (l01Root_ _ (by omega)) fun r hr => ?_
  conv => cbv
  exact hK _ (by rw [distR, if_pos ⟨h1, h2⟩, hr, hs]; rfl)
end Go.Proofs.YtoafgafkmeghlaaGreatDoor
