/- Contracts: sectors. -/
import Derived.Test.YtoafgafkmeghlaaGreatDoorFC
import Derived.Test.YtoafgafkmeghlaaGreatDoorGsc
namespace Go.Proofs.YtoafgafkmeghlaaGreatDoor
open Go Go.RowKit Classical
set_option maxRecDepth 100000
set_option maxHeartbeats 2000000
set_option linter.unusedVariables false
set_option linter.unusedSimpArgs false
theorem modulo_ (a : Int) : AC Tryz.prog 242 [.int .i64 a, .int .i64 360] (AV.int .i64) (a % 360) := by
  refine ac Tryz.func242 (by kernel_rfl) (.int _ _) fun E K hE hK => ?_
  conv => cbv
  have hb := tmod_bd a
  repeat' first
    | (refine remI hE (fun m hm => ?_); (try conv => cbv))
    | ((first
   | refine q0 hE ?_
   | refine B0 hE ?_|refine B1 hE (fun _=>?_) fun _=>?_|refine B3 hE fun _ _ _=>?_|refine B2 hE fun _ _=>?_|refine B4 hE fun _ _ _ _=>?_) <;> (try conv => cbv))
  all_goals first
    | (exact hK _ (by subst_vars; rw [angR]; rfl))
    | trace_state
theorem isBearing_ (n : Int) : AC Tryz.prog 240 [.int .i64 n] AV.bool (bP (0 ≤ n ∧ n ≤ 359)) := by
  refine ac Tryz.func240 (by kernel_rfl) (.bool _) fun E K hE hK => ?_
  conv => cbv
  repeat' first
    | ((first
   | refine q0 hE ?_
   | refine callP hE (within_ _ _ _) (fun _ => ?_) (fun _ => ?_)
   | refine B0 hE ?_|refine B1 hE (fun _=>?_) fun _=>?_|refine B3 hE fun _ _ _=>?_|refine B2 hE fun _ _=>?_|refine B4 hE fun _ _ _ _=>?_) <;> (try conv => cbv))
  all_goals (try clear hN)
  all_goals first
    | (omega)
    | (refine finB hK (bP_true.2 ?_); first | omega | grind)
    | (refine finB hK (bP_false.2 ?_); first | omega | (intro h; grind))
    | (refine ⟨by omega, Up.succ (by assumption) ?_ (by assumption)⟩; grind)
    | (refine hK _ ?_; simp_all [atup]; done)
    | (grind)
theorem isCol_B (c : UInt8) : bP (isCol ⟨#[c]⟩) = decide (0 ≤ Lib.indexByte cAll.data.toList c) := by
  have h := isCol_iff (s := ⟨#[c]⟩) rfl
  apply bP_eq
  rw [decide_eq_true_iff]
  exact h.symm
theorem isColor_ (s : ByteArray) : AC Tryz.prog 241 [.str s] AV.bool (bP (isCol s)) := by
  refine ac Tryz.func241 (by kernel_rfl) (.bool _) fun E K hE hK => ?_
  conv => cbv
  refine slenI hE fun n hn hb => ?_
  conv => cbv
  refine eqI hE (fun h1 => ?_) (fun h1 => ?_) <;> conv => cbv
  · obtain ⟨c, rfl⟩ : ∃ c, s = ⟨#[c]⟩ := ⟨_, size1 (by omega)⟩
    refine callB hE (containsOne_ cAll c) (fun h => ?_) (fun h => ?_) <;> conv => cbv
    · exact finB hK (by rw [isCol_B]; exact h)
    · exact finB hK (by rw [isCol_B]; exact h)
  · exact finB hK (bP_false.2 fun h => by have := isCol_size h; omega)
theorem l08Color_ (s : ByteArray) : AC Tryz.prog 198 [.str s] AV.bool (bP (isCol s)) := by
  refine ac Tryz.func198 (by kernel_rfl) (.bool _) fun E K hE hK => ?_
  conv => cbv
  repeat' first
    | ((first
   | refine q0 hE ?_
   | refine B0 hE ?_|refine B1 hE (fun _=>?_) fun _=>?_|refine B3 hE fun _ _ _=>?_|refine B2 hE fun _ _=>?_|refine B4 hE fun _ _ _ _=>?_) <;> (try conv => cbv))
  all_goals first
    | (refine finB hK (bP_true.2 ?_); first | exact .inl (by assumption) | exact .inr (.inl (by assumption)) | exact .inr (.inr (.inl (by assumption))) | exact .inr (.inr (.inr (by assumption))))
    | (refine finB hK (bP_false.2 ?_); rintro (h | h | h | h) <;> contradiction)
    | trace_state
theorem validSector_ (f u : Int) (c : ByteArray) : AC Tryz.prog 216 [.agg [.int .i64 f, .int .i64 u, .str c]] AV.bool (bP (ScrOk f u c)) := by
  refine ac Tryz.func216 (by kernel_rfl) (.bool _) fun E K hE hK => ?_
  conv => cbv
  repeat' first
    | ((first
   | refine q0 hE ?_
   | refine callP hE (isBearing_ _) (fun _ => ?_) (fun _ => ?_)
   | refine callP hE (isColor_ _) (fun _ => ?_) (fun _ => ?_)
   | refine B0 hE ?_|refine B1 hE (fun _=>?_) fun _=>?_|refine B3 hE fun _ _ _=>?_|refine B2 hE fun _ _=>?_|refine B4 hE fun _ _ _ _=>?_) <;> (try conv => cbv))
  all_goals (try clear hN)
  all_goals first
    | (omega)
    | (refine finB hK (bP_true.2 ?_); first | omega | grind [ScrOk])
    | (refine finB hK (bP_false.2 ?_); first | omega | (intro h; grind [ScrOk]))
    | (refine ⟨by omega, Up.succ (by assumption) ?_ (by assumption)⟩; grind [ScrOk])
    | (refine hK _ ?_; simp_all [atup, ScrOk]; done)
    | (grind [ScrOk])
theorem arc_ (f u : Int) (c : ByteArray) (h : (0 ≤ f ∧ f ≤ 359) ∧ 0 ≤ u ∧ u ≤ 359) : AC Tryz.prog 218 [.agg [.int .i64 f, .int .i64 u, .str c]] (AV.int .i64) (arcR f u) := by
  refine ac Tryz.func218 (by kernel_rfl) (.int _ _) fun E K hE hK => ?_
  conv => cbv
  repeat' first
    | ((first
   | refine q0 hE ?_
   | refine callI hE (modulo_ _) (fun _ _ => ?_)
   | refine B0 hE ?_|refine B1 hE (fun _=>?_) fun _=>?_|refine B3 hE fun _ _ _=>?_|refine B2 hE fun _ _=>?_|refine B4 hE fun _ _ _ _=>?_) <;> (try conv => cbv))
  all_goals (refine hK _ ?_; show AV.int _ _ = AV.int _ _; congr 1; unfold arcR; subst_vars; first | rfl | omega)
def hasW (f u b : Int) : Prop := (IntKind.i64.wrap (b - f)) % 360 < arcR f u
theorem hasW_in {f u b : Int} (hf : 0 ≤ f ∧ f ≤ 359) (hb : 0 ≤ b ∧ b ≤ 359) : hasW f u b ↔ hasR f u b := by
  unfold hasW hasR
  rw [IntWalk.i64_in _ ⟨by omega, by omega⟩]
theorem has_ (f u b : Int) (c : ByteArray) (h : (0 ≤ f ∧ f ≤ 359) ∧ 0 ≤ u ∧ u ≤ 359) : AC Tryz.prog 217 [.agg [.int .i64 f, .int .i64 u, .str c], .int .i64 b] AV.bool (bP (hasW f u b)) := by
  refine ac Tryz.func217 (by kernel_rfl) (.bool _) fun E K hE hK => ?_
  conv => cbv
  repeat' first
    | (refine subI hE (fun _ _ => ?_); (try conv => cbv))
    | ((first
   | refine q0 hE ?_
   | refine callI hE (modulo_ _) (fun _ _ => ?_)
   | refine callI hE (arc_ f u c h) (fun _ _ => ?_)
   | refine B0 hE ?_|refine B1 hE (fun _=>?_) fun _=>?_|refine B3 hE fun _ _ _=>?_|refine B2 hE fun _ _=>?_|refine B4 hE fun _ _ _ _=>?_) <;> (try conv => cbv))
  all_goals first
    | (refine finB hK (bP_true.2 ?_); unfold hasW; subst_vars; assumption)
    | (refine finB hK (bP_false.2 ?_); unfold hasW; subst_vars; omega)
    | trace_state
theorem l08Ends_ (f u : Int) (tl : List AV) : AC Tryz.prog 197 [.pp (.int .i64 f :: .int .i64 u :: tl)] AV.bool (bP ((0 ≤ f ∧ f ≤ 359) ∧ 0 ≤ u ∧ u ≤ 359)) := by
  refine ac Tryz.func197 (by kernel_rfl) (.bool _) fun E K hE hK => ?_
  conv => cbv
  repeat' first
    | ((first
   | refine q0 hE ?_
   | refine callP hE (in_ _ _ _) (fun _ => ?_) (fun _ => ?_)
   | refine B0 hE ?_|refine B1 hE (fun _=>?_) fun _=>?_|refine B3 hE fun _ _ _=>?_|refine B2 hE fun _ _=>?_|refine B4 hE fun _ _ _ _=>?_) <;> (try conv => cbv))
  all_goals (try clear hN)
  all_goals first
    | (omega)
    | (refine finB hK (bP_true.2 ?_); first | omega | grind)
    | (refine finB hK (bP_false.2 ?_); first | omega | (intro h; grind))
    | (refine ⟨by omega, Up.succ (by assumption) ?_ (by assumption)⟩; grind)
    | (refine hK _ ?_; simp_all [atup]; done)
    | (grind)
theorem l08One_ (f u : Int) (c : ByteArray) : AC Tryz.prog 147 [.pp [.int .i64 f, .int .i64 u, .str c]] AV.bool (bP (ScrOk f u c)) := by
  refine ac Tryz.func147 (by kernel_rfl) (.bool _) fun E K hE hK => ?_
  conv => cbv
  repeat' first
    | ((first
   | refine q0 hE ?_
   | refine callP hE (l08Ends_ _ _ _) (fun _ => ?_) (fun _ => ?_)
   | refine callP hE (l08Color_ _) (fun _ => ?_) (fun _ => ?_)
   | refine B0 hE ?_|refine B1 hE (fun _=>?_) fun _=>?_|refine B3 hE fun _ _ _=>?_|refine B2 hE fun _ _=>?_|refine B4 hE fun _ _ _ _=>?_) <;> (try conv => cbv))
  all_goals (try clear hN)
  all_goals first
    | (omega)
    | (refine finB hK (bP_true.2 ?_); first | omega | grind [ScrOk])
    | (refine finB hK (bP_false.2 ?_); first | omega | (intro h; grind [ScrOk]))
    | (refine ⟨by omega, Up.succ (by assumption) ?_ (by assumption)⟩; grind [ScrOk])
    | (refine hK _ ?_; simp_all [atup, ScrOk]; done)
    | (grind [ScrOk])
theorem l08Arc_ (f u : Int) (c : ByteArray) (h : (0 ≤ f ∧ f ≤ 359) ∧ 0 ≤ u ∧ u ≤ 359) : AC Tryz.prog 148 [.pp [.int .i64 f, .int .i64 u, .str c]] (AV.int .i64) (arcR f u) := by
  refine ac Tryz.func148 (by kernel_rfl) (.int _ _) fun E K hE hK => ?_
  conv => cbv
  repeat' first
    | ((first
   | refine q0 hE ?_
   | refine B0 hE ?_|refine B1 hE (fun _=>?_) fun _=>?_|refine B3 hE fun _ _ _=>?_|refine B2 hE fun _ _=>?_|refine B4 hE fun _ _ _ _=>?_) <;> (try conv => cbv))
  all_goals (refine hK _ ?_; show AV.int _ _ = AV.int _ _; congr 1; unfold arcR; omega)
def ScsW (l : List Scr) (i : Int) : Prop := ∀ (j k : Nat) s u, (j : Int) < i → j ≠ k → l[j]? = some s → l[k]? = some u → ¬ hasW s.frm s.til u.frm
theorem scsW_ap {l : List Scr} (h : ∀ j, j < l.length → ScrC l j) (hw : ScsW l l.length) : ScsAp l := fun i k s u hik hs hu => by
  have h1 := hw i k s u (by have := (List.getElem?_eq_some_iff.1 hs).1; omega) hik hs hu
  have h2 := scr_at h hs
  have h3 := scr_at h hu
  rwa [hasW_in h2.1 h3.1] at h1
theorem scsOk_W {l : List Scr} (h : ScsOk l) {j k : Nat} {s u : Scr} (hjk : j ≠ k) (hs : l[j]? = some s) (hu : l[k]? = some u) : ¬ hasW s.frm s.til u.frm := by
  have h2 := scr_at h.1 hs
  have h3 := scr_at h.1 hu
  rw [hasW_in h2.1 h3.1]
  exact h.2.2 j k s u hjk hs hu
theorem scrC_bad {l : List Scr} {i : Int} {s : Scr} (hs : l[i.toNat]? = some s) (h : ¬ ScrOk s.frm s.til s.color) : ¬ ScsOk l := fun hk => h (scr_at hk.1 hs)
theorem scrC_no {l : List Scr} {i : Int} {s p : Scr} (h0 : 0 < i) (hs : l[i.toNat]? = some s) (hp : l[(i - 1).toNat]? = some p) (h : s.frm ≤ p.frm) : ¬ ScsOk l := fun hk => by
  have := scr_inc hk.1 hp i.toNat s (by omega) hs; omega
theorem scrC_of {l : List Scr} {i : Int} {s : Scr} (h0 : 0 ≤ i) (hs : l[i.toNat]? = some s) (hk : ScrOk s.frm s.til s.color) (h : i ≤ 0 ∨ ∃ p, l[(i - 1).toNat]? = some p ∧ p.frm < s.frm) : ScrC l i.toNat :=
  ⟨s, hs, hk, fun hi => by
    rcases h with h | ⟨p, h1, h2⟩
    · omega
    · exact ⟨p, by rw [show i.toNat - 1 = (i - 1).toNat by omega]; exact h1, h2⟩⟩
theorem ScsW.succ {l : List Scr} {i n : Int} {s : Scr} (h0 : 0 ≤ i) (h : ScsW l i) (hn : n = i + 1) (hs : l[i.toNat]? = some s) (hk : ∀ (k : Nat) u, (k : Int) ≠ i → l[k]? = some u → ¬ hasW s.frm s.til u.frm) : ScsW l n := fun j k s' u hj hjk hs' hu => by
  by_cases e : (j : Int) < i
  · exact h j k s' u e hjk hs' hu
  · have e2 : j = i.toNat := by omega
    subst e2
    rw [hs] at hs'; cases hs'
    exact hk k u (by omega) hu
theorem validSectors_ {rs : List (List AV)} {t : Bool} {l : List Scr} (hl : rs = l.map Scr.cs) : AC Tryz.prog 167 [.sl t 3 rs] AV.bool (bP (ScsOk l)) := by
  refine ac Tryz.func167 (by kernel_rfl) (.bool _) fun E K hE hK => ?_
  conv => cbv
  refine lenL hE hl fun n hn hb => ?_
  conv => cbv
  refine loopC hE (ι := Int × Int) [0, 8, 9] [10, 3] (fun q => (fun (i : Int) (total : Int) => [(10, .int .i64 i), (3, .int .i64 total)]) q.1 q.2) (fun q => (fun (i : Int) (total : Int) => []) q.1 q.2) (fun q => (fun (i : Int) (total : Int) => (n - i).toNat) q.1 q.2) (fun q => (fun (i : Int) (total : Int) => (0 ≤ i ∧ i ≤ l.length) ∧ Up (ScrC l) i ∧ ScsW l i ∧ (l.length ≤ 12 → total = (sumTo arcN l i : Nat) ∧ total ≤ 360 * i)) q.1 q.2) [] (by decide) ((0, 0)) (by conv => lhs; cbv) (by conv => lhs; cbv) rfl rfl (by dsimp only; exact ⟨by omega, .zero (by omega), fun j k s u hj => by omega, fun _ => by rw [sumTo_zero (by omega)]; omega⟩) fun q hi Kn hN => ?_
  obtain ⟨i, total⟩ := q
  (try dsimp only at hi)
  conv => cbv
  obtain ⟨h0, hinv, hw, htot⟩ := hi
  refine ltI hE (fun hlt => ?_) (fun hge => ?_) <;> conv => cbv
  · refine idxL (R := Scr.cs) hE hl (by omega) fun v hv => ?_
    obtain ⟨f, u, c⟩ := v
    have hsum := sumTo_succ arcN h0.1 hv
    have harc := arcN_bd ⟨f, u, c⟩
    simp only at harc
    conv => cbv
    refine callP hE (validSector_ f u c) (fun hok => ?_) (fun hok => ?_) <;> conv => cbv
    · have hrg : (0 ≤ f ∧ f ≤ 359) ∧ 0 ≤ u ∧ u ≤ 359 := ⟨hok.1, hok.2.1⟩
      repeat' first
        | (refine sub64 hE (by omega) (fun q hq => ?_); (try conv => cbv))
        | (refine idxV hE hl (by omega) hv ?_; (try conv => cbv))
        | (refine idxL (R := Scr.cs) hE hl (by omega) (fun v2 hv2 => ?_); obtain ⟨f2, u2, c2⟩ := v2; (try conv => cbv))
        | ((refine loopC hE (ι := Int) [0, 3, 4, 5, 8, 9, 10, 33, 34] [35] (fun q => (fun (k : Int) => [(35, .int .i64 k)]) q) (fun q => (fun (k : Int) => [.box [.int .i64 f, .int .i64 u, .str c]]) q) (fun q => (fun (k : Int) => (n - k).toNat) q) (fun q => (fun (k : Int) => (0 ≤ k ∧ k ≤ l.length) ∧ ∀ (m : Nat) u2, (m : Int) < k → (m : Int) ≠ i → l[m]? = some u2 → ¬ hasW f u u2.frm) q) [0] (by decide) (0) (by conv => lhs; cbv) (by conv => lhs; cbv) rfl rfl (by dsimp only; exact ⟨by omega, fun m u2 hm => by omega⟩) fun k hi2 Kn2 hN2 => ?_; (try dsimp only at hi2); conv => cbv); obtain ⟨h3, hin⟩ := hi2)
        | (refine callI hE (arc_ f u c hrg) (fun a ha => ?_); (try conv => cbv); refine addI hE (fun tot2 htot2 => ?_); (try conv => cbv))
        | (refine hN (_, _) _ [] (by decide) rfl ⟨?_, ?_, ?_, ?_⟩ ?_ <;> (try dsimp only))
        | (refine hN2 _ _ [0] (by decide) rfl ⟨?_, ?_⟩ ?_ <;> (try dsimp only))
        | ((first
       | refine q0 hE ?_
       | refine callP hE (has_ f u _ c hrg) (fun _ => ?_) (fun _ => ?_)
       | refine B0 hE ?_|refine B1 hE (fun _=>?_) fun _=>?_|refine B3 hE fun _ _ _=>?_|refine B2 hE fun _ _=>?_|refine B4 hE fun _ _ _ _=>?_) <;> (try conv => cbv))
      all_goals (try clear hN)
      all_goals (try clear hN2)
      all_goals first
        | omega
        | (refine hinv.succ (scrC_of h0.1 hv hok (.inl (by omega))) (by assumption))
        | (refine hinv.succ (scrC_of h0.1 hv hok (.inr ⟨_, hq ▸ hv2, by omega⟩)) (by assumption))
        | (refine hw.succ h0.1 (by assumption) hv fun m u2 hm hu => hin m u2 (by have := (List.getElem?_eq_some_iff.1 hu).1; omega) hm hu)
        | (intro h12; obtain ⟨g1, g2⟩ := htot h12; rw [IntWalk.i64_in _ ⟨by omega, by omega⟩] at htot2; rename_i hi1; rw [hi1, hsum]; omega)
        | (intro m u3 hm hmi hu; by_cases e : (m : Int) = k; (rw [show m = k.toNat by omega, hv2] at hu; cases hu; assumption); exact hin m u3 (by omega) hmi hu)
        | (intro m u3 hm hmi hu; exact hin m u3 (by omega) hmi hu)
        | (refine finB hK (bP_false.2 (scrC_no (by omega) hv (hq ▸ hv2) (by omega))))
        | (refine finB hK (bP_false.2 fun h => ?_); exact absurd (by assumption) (scsOk_W h (j := i.toNat) (k := k.toNat) (by omega) hv hv2))
        | trace_state
    · exact finB hK (bP_false.2 (scrC_bad hv hok))
  · have hall : ∀ j, j < l.length → ScrC l j := hinv.all (by omega)
    have hap : l.length ≤ 12 → ScsAp l ∧ sumTo arcN l l.length ≤ 360 := fun _ => by
      have h1 : ScsAp l := scsW_ap hall (by rw [show (l.length : Int) = i by omega]; exact hw)
      exact ⟨h1, scs_total hall h1⟩
    have hil : i = l.length := by omega
    rw [hil] at htot
    repeat' first
      | ((first
     | refine q0 hE ?_
     | refine callP hE (few_ _ _) (fun _ => ?_) (fun _ => ?_)
     | refine B0 hE ?_|refine B1 hE (fun _=>?_) fun _=>?_|refine B3 hE fun _ _ _=>?_|refine B2 hE fun _ _=>?_|refine B4 hE fun _ _ _ _=>?_) <;> (try conv => cbv))
    all_goals (try clear hN)
    all_goals first
      | (refine finB hK (bP_true.2 ⟨hall, by omega, (hap (by omega)).1⟩))
      | (exfalso; have h1 := hap (by omega); have h2 := htot (by omega); omega)
      | (refine finB hK (bP_false.2 fun h => ?_); have := h.2.1; omega)
      | trace_state
theorem l08Ok_ {rs : List (List AV)} {t : Bool} {l : List Scr} (hl : rs = l.map Scr.cs) : AC Tryz.prog 105 [.sl t 3 rs] AV.bool (bP (ScsOk l)) := by
  refine ac Tryz.func105 (by kernel_rfl) (.bool _) fun E K hE hK => ?_
  conv => cbv
  refine lenL hE hl fun n hn hb => ?_
  conv => cbv
  refine ltI hE (fun h12 => ?_) (fun h12 => ?_) <;> conv => cbv
  · exact finB hK (bP_false.2 fun h => by have := h.2.1; omega)
  refine loopC hE (ι := Int) [0, 3] [4] (fun q => (fun (i : Int) => [(4, .int .i64 i)]) q) (fun q => (fun (i : Int) => []) q) (fun q => (fun (i : Int) => (n - i).toNat) q) (fun q => (fun (i : Int) => (0 ≤ i ∧ i ≤ l.length) ∧ Up (ScrC l) i) q) [] (by decide) (0) (by conv => lhs; cbv) (by conv => lhs; cbv) rfl rfl (by dsimp only; exact ⟨by omega, .zero (by omega)⟩) fun i hi Kn hN => ?_
  (try dsimp only at hi)
  conv => cbv
  obtain ⟨h0, hinv⟩ := hi
  refine ltI hE (fun hlt => ?_) (fun hge => ?_) <;> conv => cbv
  · refine idxL (R := Scr.cs) hE hl (by omega) fun v hv => ?_
    obtain ⟨f, u, c⟩ := v
    conv => cbv
    refine callP hE (l08One_ f u c) (fun hok => ?_) (fun hok => ?_) <;> conv => cbv
    · skip
      repeat' first
        | (refine sub64 hE (by omega) (fun q hq => ?_); (try conv => cbv))
        | (refine idxV hE hl (by omega) hv ?_; (try conv => cbv))
        | (refine idxL (R := Scr.cs) hE hl (by omega) (fun v2 hv2 => ?_); obtain ⟨f2, u2, c2⟩ := v2; (try conv => cbv))
        | (refine hN _ _ [] (by decide) rfl ⟨?_, ?_⟩ ?_ <;> (try dsimp only))
        | ((first
       | refine q0 hE ?_
       | refine B0 hE ?_|refine B1 hE (fun _=>?_) fun _=>?_|refine B3 hE fun _ _ _=>?_|refine B2 hE fun _ _=>?_|refine B4 hE fun _ _ _ _=>?_) <;> (try conv => cbv))
      all_goals (try clear hN)
      all_goals first
        | omega
        | (refine hinv.succ (scrC_of h0.1 hv hok (.inl (by omega))) (by assumption))
        | (refine hinv.succ (scrC_of h0.1 hv hok (.inr ⟨_, hq ▸ hv2, by omega⟩)) (by assumption))
        | (refine finB hK (bP_false.2 (scrC_no (by omega) hv (hq ▸ hv2) (by omega))))
        | trace_state
    · exact finB hK (bP_false.2 (scrC_bad hv hok))
  · have hall : ∀ j, j < l.length → ScrC l j := hinv.all (by omega)
    clear hN
    refine loopC hE (ι := Int) [0, 3] [5] (fun q => (fun (i : Int) => [(5, .int .i64 i)]) q) (fun q => (fun (i : Int) => []) q) (fun q => (fun (i : Int) => (n - i).toNat) q) (fun q => (fun (i : Int) => (0 ≤ i ∧ i ≤ l.length) ∧ Up (ScsNx l) i) q) [] (by decide) (0) (by conv => lhs; cbv) (by conv => lhs; cbv) rfl rfl (by dsimp only; exact ⟨by omega, .zero (by omega)⟩) fun i hi Kn hN => ?_
    (try dsimp only at hi)
    conv => cbv
    obtain ⟨h0, hnx⟩ := hi
    refine ltI hE (fun hlt => ?_) (fun hge => ?_) <;> conv => cbv
    · refine ltI hE (fun h1 => ?_) (fun h1 => ?_) <;> conv => cbv
      · refine idxL (R := Scr.cs) hE hl (by omega) fun v hv => ?_
        obtain ⟨f, u, c⟩ := v
        have hok := scr_at hall hv
        have hrg : (0 ≤ f ∧ f ≤ 359) ∧ 0 ≤ u ∧ u ≤ 359 := ⟨hok.1, hok.2.1⟩
        conv => cbv
        refine callI hE (l08Arc_ f u c hrg) fun a ha => ?_
        conv => cbv
        refine add64 hE (by omega) fun i1 hi1 => ?_
        conv => cbv
        refine needI hE (by omega) ?_
        refine rem64 hE (by omega) fun m hm => ?_
        have hm0 : 0 ≤ m ∧ m < l.length := by rw [hm, hn]; exact ⟨Int.emod_nonneg _ (by omega), Int.emod_lt_of_pos _ (by omega)⟩
        have hmn : m.toNat = (i.toNat + 1) % l.length := by
          have h2 : (i + 1) % (l.length : Int) = (((i.toNat + 1) % l.length : Nat) : Int) := by
            rw [Int.natCast_emod, show ((i.toNat + 1 : Nat) : Int) = i + 1 by omega]
          rw [hm, hi1, hn, h2]
          exact Int.toNat_natCast _
        conv => cbv
        refine idxL (R := Scr.cs) hE hl hm0 fun v2 hv2 => ?_
        obtain ⟨f2, u2, c2⟩ := v2
        have hok2 := scr_at hall hv2
        have hrg2 : (0 ≤ f2 ∧ f2 ≤ 359) ∧ 0 ≤ u2 ∧ u2 ≤ 359 := ⟨hok2.1, hok2.2.1⟩
        rw [hmn] at hv2
        conv => cbv
        repeat' first
          | (refine idxV hE hl (by omega) hv ?_; (try conv => cbv))
          | (refine hN _ _ [] (by decide) rfl ⟨?_, ?_⟩ ?_ <;> (try dsimp only))
          | ((first
         | refine q0 hE ?_
         | refine B0 hE ?_|refine B1 hE (fun _=>?_) fun _=>?_|refine B3 hE fun _ _ _=>?_|refine B2 hE fun _ _=>?_|refine B4 hE fun _ _ _ _=>?_) <;> (try conv => cbv))
        all_goals (try clear hN)
        all_goals first
          | omega
          | (refine hnx.succ (fun s w _ hs hw => ?_) (by assumption); rw [hv] at hs; cases hs; rw [hv2] at hw; cases hw; simp only; omega)
          | (refine finB hK (bP_false.2 fun h => ?_); have := (scs_nx hall).1 h.2.2 i.toNat (by omega) _ _ (by omega) hv hv2; simp only at this; omega)
          | trace_state
      · refine finB hK (bP_true.2 ⟨hall, by omega, (scs_nx hall).2 fun j hj s w h2 => by omega⟩)
    · refine finB hK (bP_true.2 ⟨hall, by omega, (scs_nx hall).2 (hnx.all (by omega))⟩)
theorem arcs_of {l : List Scr} (h : ScsOk l) {i : Nat} {s : Scr} (hs : l[i]? = some s) : (0 ≤ s.frm ∧ s.frm ≤ 359) ∧ 0 ≤ s.til ∧ s.til ≤ 359 := ⟨(scr_at h.1 hs).1, (scr_at h.1 hs).2.1⟩
theorem colAt_drop {l : List Scr} {i n b : Int} {s : Scr} (h0 : 0 ≤ i) (hs : l[i.toNat]? = some s) (hn : n = i + 1) : colAt (l.drop i.toNat) b = if hasR s.frm s.til b then s.color else colAt (l.drop n.toNat) b := by
  have hlt := (List.getElem?_eq_some_iff.1 hs).1
  rw [List.drop_eq_getElem_cons hlt, show l[i.toNat] = s by rw [List.getElem?_eq_getElem hlt] at hs; exact Option.some.inj hs, hn, show (i + 1).toNat = i.toNat + 1 by omega]
  rfl
theorem colorAt_ {rs : List (List AV)} {t : Bool} {l : List Scr} (b : Int) (hl : rs = l.map Scr.cs) (hok : ScsOk l) (hb0 : 0 ≤ b ∧ b ≤ 359) : AC Tryz.prog 174 [.sl t 3 rs, .int .i64 b] AV.str (colAt l b) := by
  refine ac Tryz.func174 (by kernel_rfl) (.str _) fun E K hE hK => ?_
  conv => cbv
  refine lenL hE hl fun n hn hb => ?_
  conv => cbv
  refine loopC hE (ι := Int) [1, 7, 8] [9] (fun q => (fun (i : Int) => [(9, .int .i64 i)]) q) (fun q => (fun (i : Int) => []) q) (fun q => (fun (i : Int) => (n - i).toNat) q) (fun q => (fun (i : Int) => 0 ≤ i ∧ colAt l b = colAt (l.drop i.toNat) b) q) [] (by decide) (0) (by conv => lhs; cbv) (by conv => lhs; cbv) rfl rfl (by dsimp only; exact ⟨by omega, rfl⟩) fun i hi Kn hN => ?_
  (try dsimp only at hi)
  conv => cbv
  obtain ⟨h0, hinv⟩ := hi
  repeat' first
    | (refine idxL (R := Scr.cs) hE hl (by omega) (fun v hv => ?_); have hrg := arcs_of hok hv; have hd := colAt_drop (b := b) h0 hv rfl; obtain ⟨f, u, c⟩ := v; simp only at hrg hd; rw [← hasW_in hrg.1 hb0] at hd; (try conv => cbv))
    | (refine callI hE (turned_ b) (fun b2 hb2 => ?_); (have hb3 : b2 = b := by omega); subst hb3; (try conv => cbv))
    | (refine hN _ _ [] (by decide) rfl ⟨?_, ?_⟩ ?_ <;> (try dsimp only))
    | ((first
   | refine q0 hE ?_
   | refine callP hE (has_ f u _ c hrg) (fun _ => ?_) (fun _ => ?_)
   | refine B0 hE ?_|refine B1 hE (fun _=>?_) fun _=>?_|refine B3 hE fun _ _ _=>?_|refine B2 hE fun _ _=>?_|refine B4 hE fun _ _ _ _=>?_) <;> (try conv => cbv))
  all_goals (try clear hN)
  all_goals first
    | omega
    | (refine hK _ ?_; rw [hinv, hd, if_pos (by assumption)]; rfl)
    | (rw [hinv, hd, if_neg (by assumption)]; subst_vars; rfl)
    | (refine hK _ ?_; rw [hinv, List.drop_eq_nil_of_le (by omega)]; rfl)
    | trace_state
theorem range_get {α : Type} (g : Nat → α) {n i : Nat} (h : i < n) : ((List.range n).map g)[i]? = some (g i) := by rw [List.getElem?_map, List.getElem?_range h]; rfl
theorem l08Circle_ {rs : List (List AV)} {t : Bool} {l : List Scr} (hl : rs = l.map Scr.cs) (hok : ScsOk l) : AC Tryz.prog 152 [.sl t 3 rs] (fun m : List ByteArray => .sl true 1 (m.map strR)) ((List.range 360).map fun d : Nat => colAt l (d : Int)) := by
  refine ac Tryz.func152 (by kernel_rfl) (.strs _) fun E K hE hK => ?_
  conv => cbv
  refine makeI hE (by omega) fun es hes => ?_
  conv => cbv
  have hes2 : es = ((List.range 360).map fun d : Nat => lastTo l 0 d).map strR := by
    rw [hes]
    show List.replicate 360 _ = _
    rw [List.map_map, show ((strR ∘ fun d : Nat => lastTo l 0 (d : Int))) = fun _ : Nat => [AV.str ⟨#[]⟩] from rfl, List.map_const', List.length_range]
  refine loopC hE (ι := Int × (List (List AV))) [0] [4, 3] (fun q => (fun (i : Int) (es : List (List AV)) => [(4, .int .i64 i), (3, .ob 0)]) q.1 q.2) (fun q => (fun (i : Int) (es : List (List AV)) => [.row 1 es]) q.1 q.2) (fun q => (fun (i : Int) (es : List (List AV)) => (l.length - i).toNat) q.1 q.2) (fun q => (fun (i : Int) (es : List (List AV)) => (0 ≤ i ∧ i ≤ l.length) ∧ es = ((List.range 360).map fun d : Nat => lastTo l i.toNat d).map strR) q.1 q.2) [0] (by decide) ((0, es)) (by conv => lhs; cbv) (by conv => lhs; cbv) rfl rfl (by dsimp only; exact ⟨by omega, hes2⟩) fun q hi Kn hN => ?_
  obtain ⟨i, es⟩ := q
  (try dsimp only at hi)
  conv => cbv
  obtain ⟨h0, hinv⟩ := hi
  refine lenL hE hl fun n hn hb => ?_
  conv => cbv
  refine ltI hE (fun hlt => ?_) (fun hge => ?_) <;> conv => cbv
  · obtain ⟨v, hv⟩ : ∃ v, l[i.toNat]? = some v := ⟨_, List.getElem?_eq_getElem (by omega)⟩
    have hrg := arcs_of hok hv
    obtain ⟨f, u, c⟩ := v
    have harc := arcR_bd f u
    have hz := pntC_zero l i.toNat ⟨f, u, c⟩
    have ha := pntC_all hv
    have hs := fun k hk => @pntC_succ l i.toNat ⟨f, u, c⟩ k hrg.1 hk
    simp only at hrg ha hs
    repeat' first
      | ((refine loopC hE (ι := Int × (List (List AV))) [0, 4] [5, 3] (fun q => (fun (k : Int) (es2 : List (List AV)) => [(5, .int .i64 k), (3, .ob 0)]) q.1 q.2) (fun q => (fun (k : Int) (es2 : List (List AV)) => [.row 1 es2]) q.1 q.2) (fun q => (fun (k : Int) (es2 : List (List AV)) => (360 - k).toNat) q.1 q.2) (fun q => (fun (k : Int) (es2 : List (List AV)) => (0 ≤ k ∧ k ≤ arcR f u) ∧ es2 = ((List.range 360).map (pntC l i.toNat ⟨f, u, c⟩ k)).map strR) q.1 q.2) [0] (by decide) ((0, es)) (by conv => lhs; cbv) (by conv => lhs; cbv) rfl rfl (by dsimp only; exact ⟨by omega, by rw [hinv]; congr 1; exact range_map_congr fun d _ => (hz d).symm⟩) fun q hi2 Kn2 hN2 => ?_; obtain ⟨k, es2⟩ := q; (try dsimp only at hi2); conv => cbv); obtain ⟨h1, h2⟩ := hi2)
      | (refine idxV hE hl (by omega) hv ?_; (try conv => cbv))
      | (refine callI hE (l08Arc_ f u c hrg) (fun a ha0 => ?_); (try conv => cbv))
      | (refine idxV (R := strR) hE h2 (by omega) (range_get (pntC l i.toNat ⟨f, u, c⟩ k) (by omega)) ?_; (try conv => cbv))
      | (refine updL (R := strR) hE (m := (List.range 360).map (pntC l i.toNat ⟨f, u, c⟩ k)) c h2 (by omega) (range_get _ (by omega)) (by exact Nat.le_of_ble_eq_true rfl) (by rfl) (fun es3 hes3 => ?_); (try conv => cbv))
      | (refine hN (_, _) _ [0] (by decide) rfl ⟨?_, ?_⟩ ?_ <;> (try dsimp only))
      | (refine hN2 (_, _) _ [0] (by decide) rfl ⟨?_, ?_⟩ ?_ <;> (try dsimp only))
      | ((first
     | refine q0 hE ?_
     | refine B0 hE ?_|refine B1 hE (fun _=>?_) fun _=>?_|refine B3 hE fun _ _ _=>?_|refine B2 hE fun _ _=>?_|refine B4 hE fun _ _ _ _=>?_) <;> (try conv => cbv))
    all_goals (try clear hN)
    all_goals (try clear hN2)
    all_goals first
      | omega
      | (rw [hes3, map_set]; congr 1; refine range_map_congr fun d hd => ?_; have h9 := hs k (by omega) d hd; subst_vars; exact h9)
      | (rw [h2, show k = arcR f u by omega]; congr 1; rename_i hi1; rw [hi1, show (i + 1).toNat = i.toNat + 1 by omega]; exact range_map_congr fun d _ => ha d)
      | trace_state
  · refine hK _ ?_
    rw [hinv, show i.toNat = l.length by omega, show (fun d : Nat => lastTo l l.length (d : Int)) = fun d : Nat => colAt l (d : Int) from funext fun d => lastTo_all hok d]
    rfl
end Go.Proofs.YtoafgafkmeghlaaGreatDoor
