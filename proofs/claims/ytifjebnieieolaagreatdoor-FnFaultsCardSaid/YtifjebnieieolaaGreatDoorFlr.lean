/- Contracts: the texts of faults. -/
import Derived.Test.YtifjebnieieolaaGreatDoorFfa
import Derived.Test.YtifjebnieieolaaGreatDoorRdv
namespace Go.Proofs.YtifjebnieieolaaGreatDoor
open Go Go.RowKit Classical
set_option maxRecDepth 100000
set_option maxHeartbeats 2000000
set_option linter.unusedVariables false
set_option linter.unusedSimpArgs false
def faN : List ByteArray := ["", "out", "rhythm", "place", "sound"].map String.toUTF8
theorem faultName_ (k : Int) : AC Tryz.prog 37 [.int .i64 k] AV.str (pickS k faN) := by
  refine ac Tryz.func37 (by kernel_rfl) (.str _) fun E K hE hK => ?_
  conv => cbv
  repeat' first
    | ((first
   | refine q0 hE ?_
   | refine callI hE (npick_ (es := faN) k (by rfl)) (fun _ _ => ?_)
   | refine B0 hE ?_|refine B1 hE (fun _=>?_) fun _=>?_|refine B3 hE fun _ _ _=>?_|refine B2 hE fun _ _=>?_|refine B4 hE fun _ _ _ _=>?_) <;> (try conv => cbv))
  exact hK _ (by simp_all [atup])
theorem faN_ok {k : Int} (h : 1 ≤ k ∧ k ≤ 4) : (∀ b ∈ (pickS k faN).data.toList, b ≠ 32) ∧ (pickS k faN).data.toList ≠ [] ∧ (pickS k faN).size ≤ 10 := by
  have h2 : k = 1 ∨ k = 2 ∨ k = 3 ∨ k = 4 := by omega
  rcases h2 with rfl | rfl | rfl | rfl <;> decide
theorem faN_inj {k j : Int} (hk : 1 ≤ k ∧ k ≤ 4) (hj : 1 ≤ j ∧ j ≤ 4) (h : (pickS k faN).data.toList = (pickS j faN).data.toList) : k = j := by
  have h2 : k = 1 ∨ k = 2 ∨ k = 3 ∨ k = 4 := by omega
  have h3 : j = 1 ∨ j = 2 ∨ j = 3 ∨ j = 4 := by omega
  rcases h2 with rfl | rfl | rfl | rfl <;> rcases h3 with rfl | rfl | rfl | rfl <;> first | rfl | (exfalso; revert h; decide)
def fauTxt (v : Fau) : List UInt8 := Lib.itoa v.aid ++ 32 :: ((pickS v.kind faN).data.toList ++ 32 :: (Lib.itoa v.frm ++ 32 :: Lib.itoa v.til))
theorem cut_fauTxt {v : Fau} (h : 1 ≤ v.kind ∧ v.kind ≤ 4) : cutC 32 (fauTxt v) = [Lib.itoa v.aid, (pickS v.kind faN).data.toList, Lib.itoa v.frm, Lib.itoa v.til] := by
  unfold fauTxt
  rw [cutC_app 32 _ _ (itoa_no32 _), cutC, if_pos rfl, cutC_three 32 _ _ _ (faN_ok h).1 (itoa_no32 _) (itoa_no32 _)]
  simp [glue]
noncomputable def ftext (v : Fau) : ByteArray := if v.ok then bL (fauTxt v) else ⟨#[]⟩
theorem ftext_eq {v : Fau} (h : v.ok) : ftext v = decS v.aid ++ ⟨#[32]⟩ ++ pickS v.kind faN ++ ⟨#[32]⟩ ++ decS v.frm ++ ⟨#[32]⟩ ++ decS v.til := by
  unfold ftext
  rw [if_pos h]
  apply ByteArray.ext
  apply Array.ext'
  simp [fauTxt, bL, decS]
theorem ftext_words {v : Fau} (h : v.ok) : wordsOf (ftext v) = [bL (Lib.itoa v.aid), pickS v.kind faN, bL (Lib.itoa v.frm), bL (Lib.itoa v.til)] := by
  have hc : cutS 32 (ftext v) = [bL (Lib.itoa v.aid), pickS v.kind faN, bL (Lib.itoa v.frm), bL (Lib.itoa v.til)] := by
    unfold ftext cutS; rw [if_pos h, list_bL, cut_fauTxt h.2.1]; rfl
  have hn : ∀ n : Int, ¬ isE (bL (Lib.itoa n)) := fun n e => by
    have : (bL (Lib.itoa n)).data.toList = [] := by rw [show bL (Lib.itoa n) = ⟨#[]⟩ from e]
    exact itoa_ne n this
  have hk : ¬ isE (pickS v.kind faN) := fun e => by
    have : (pickS v.kind faN).data.toList = [] := by rw [show pickS v.kind faN = ⟨#[]⟩ from e]
    exact (faN_ok h.2.1).2.1 this
  unfold wordsOf
  rw [hc]
  simp [rej, hn, hk]
theorem ftext_kind {v : Fau} {k : Int} (h : v.ok) (hk : 1 ≤ k ∧ k ≤ 4) : ftext ⟨v.aid, k, v.frm, v.til⟩ = ftext v ↔ k = v.kind := by
  have hok : Fau.ok ⟨v.aid, k, v.frm, v.til⟩ := ⟨h.1, hk, h.2.2⟩
  constructor
  · intro e
    have h1 := ftext_words hok
    rw [e, ftext_words h] at h1
    injection h1 with _ h1
    injection h1 with h1 _
    exact (faN_inj h.2.1 hk (congrArg (fun b : ByteArray => b.data.toList) h1)).symm
  · rintro rfl; rfl
theorem ftext_num {v : Fau} (h : v.ok) : numOf (bL (Lib.itoa v.aid)).data.toList = (v.aid, true) ∧ numOf (bL (Lib.itoa v.frm)).data.toList = (v.frm, true) ∧ numOf (bL (Lib.itoa v.til)).data.toList = (v.til, true) := by
  obtain ⟨h1, h2, h3, h4⟩ := h
  unfold TimeOk at h3 h4
  exact ⟨numOf_yes ⟨rfl, by omega, by omega⟩, numOf_yes ⟨rfl, by omega, by omega⟩, numOf_yes ⟨rfl, by omega, by omega⟩⟩
theorem ftext_size {v : Fau} (h : v.ok) : (ftext v).size ≤ 100 := by
  rw [ftext_eq h]
  obtain ⟨h1, h2, h3, h4⟩ := h
  unfold TimeOk at h3 h4
  have z1 := decS_size (n := v.aid) (by omega)
  have z2 := decS_size (n := v.frm) (by omega)
  have z3 := decS_size (n := v.til) (by omega)
  have z4 := (faN_ok h2).2.2
  have z32 : (⟨#[32]⟩ : ByteArray).size = 1 := rfl
  simp only [ByteArray.size_append, z32]
  omega
theorem faultText_ (aid kind frm til : Int) : AC Tryz.prog 14 [.agg [.int .i64 aid, .int .i64 kind, .int .i64 frm, .int .i64 til]] AV.str (ftext ⟨aid, kind, frm, til⟩) := by
  refine ac Tryz.func14 (by kernel_rfl) (.str _) fun E K hE hK => ?_
  conv => cbv
  refine callP hE (fauValid_ aid kind frm til) (fun hok => ?_) (fun hok => ?_) <;> conv => cbv
  · have hok' := hok
    obtain ⟨⟨h1, h2⟩, hk, h5, h6⟩ := hok'
    unfold TimeOk at h5 h6
    simp only at h1 h2 hk h5 h6
    have z1 := decS_size (n := aid) (by omega)
    have z2 := decS_size (n := frm) (by omega)
    have z3 := decS_size (n := til) (by omega)
    have z4 := (faN_ok hk).2.2
    have z32 : (⟨⟨[32]⟩⟩ : ByteArray).size = 1 := rfl
    repeat' first
      | (refine scatI hE (by subst_vars; (try simp only [ByteArray.size_append]); omega) (fun _ _ _ => ?_); (try conv => cbv))
      | ((first
     | refine q0 hE ?_
     | refine callI hE (decimal_ _ (by omega)) (fun _ _ => ?_)
     | refine callI hE (faultName_ _) (fun _ _ => ?_)
     | refine B0 hE ?_|refine B1 hE (fun _=>?_) fun _=>?_|refine B3 hE fun _ _ _=>?_|refine B2 hE fun _ _=>?_|refine B4 hE fun _ _ _ _=>?_) <;> (try conv => cbv))
    all_goals first
      | (refine hK _ ?_; rw [ftext_eq hok]; subst_vars; rfl)
      | trace_state
  · exact hK _ (by rw [show ftext ⟨aid, kind, frm, til⟩ = ⟨#[]⟩ from if_neg hok]; rfl)
def fauB (p : Fau × Bool) : AV := .tup [.agg p.1.cs, .bool p.2]
theorem NoB.fauB (p : Fau × Bool) : NoB (fauB p) := .tupC (.oFau _) (.tupC (.bool _) .tup0)
theorem readFault_ (v : Fau) (s : ByteArray) (hok : v.ok) (hs : s = ftext v) (hsz : s.size ≤ 1048576) : AC Tryz.prog 13 [.str s] fauB (v, true) := by
  refine ac Tryz.func13 (by kernel_rfl) (.fauB _) fun E K hE hK => ?_
  conv => cbv
  have hw := ftext_words hok
  rw [← hs] at hw
  obtain ⟨n1, n2, n3⟩ := ftext_num hok
  obtain ⟨x, hx⟩ : ∃ x, x = bL (Lib.itoa v.aid) := ⟨_, rfl⟩
  obtain ⟨y, hy⟩ : ∃ y, y = pickS v.kind faN := ⟨_, rfl⟩
  obtain ⟨z, hz⟩ : ∃ z, z = bL (Lib.itoa v.frm) := ⟨_, rfl⟩
  obtain ⟨u, hu⟩ : ∃ u, u = bL (Lib.itoa v.til) := ⟨_, rfl⟩
  rw [← hx, ← hy, ← hz, ← hu] at hw
  rw [← hx] at n1
  rw [← hz] at n2
  rw [← hu] at n3
  have hws : ∀ x ∈ wordsOf s, x.size ≤ 1048576 := fun x hx => Nat.le_trans (words_sub hx) hsz
  have w1 := hws x (by rw [hw]; simp)
  have w2 := hws z (by rw [hw]; simp)
  have w3 := hws u (by rw [hw]; simp)
  have hkd := hok.2.1
  refine callR hE (splitWords_ s hsz) (fun rs hrs => ?_)
  rw [hw] at hrs
  conv => cbv
  repeat' first
    | (refine lenL hE hrs (fun n hn hb => ?_); (try conv => cbv))
    | (refine idxV (R := strR) (l := [x, y, z, u]) hE hrs (by decide) (by rfl) ?_; (try conv => cbv))
    | (refine callI hE (readDecimal_ x (by omega)) (fun p1 hp1 => ?_); rw [n1] at hp1; subst hp1; (try conv => cbv))
    | (refine callI hE (readDecimal_ z (by omega)) (fun p2 hp2 => ?_); rw [n2] at hp2; subst hp2; (try conv => cbv))
    | (refine callI hE (readDecimal_ u (by omega)) (fun p3 hp3 => ?_); rw [n3] at hp3; subst hp3; (try conv => cbv))
    | ((refine loopC hE (ι := Int) [0, 2, 5, 6, 7, 8, 9, 10] [11] (fun q => (fun (k : Int) => [(11, .int .i64 k)]) q) (fun q => (fun (k : Int) => [.box [.int .i64 0, .int .i64 0, .int .i64 0, .int .i64 0], .row 1 rs]) q) (fun q => (fun (k : Int) => (5 - k).toNat) q) (fun q => (fun (k : Int) => 1 ≤ k ∧ k ≤ v.kind) q) [0, 1] (by decide) (1) (by conv => lhs; cbv) (by conv => lhs; cbv) rfl rfl (by dsimp only; exact by omega) fun k hi2 Kn2 hN2 => ?_; (try dsimp only at hi2); conv => cbv); have hkk := ftext_kind (k := k) hok (by omega))
    | (refine callI hE (faultText_ _ _ _ _) (fun d hd => ?_); (try conv => cbv))
    | (refine hN2 _ _ [0, 1] (by decide) rfl ?_ ?_ <;> (try dsimp only))
    | ((first
   | refine q0 hE ?_
   | refine B0 hE ?_|refine B1 hE (fun _=>?_) fun _=>?_|refine B3 hE fun _ _ _=>?_|refine B2 hE fun _ _=>?_|refine B4 hE fun _ _ _ _=>?_) <;> (try conv => cbv))
  all_goals (try clear hN2)
  all_goals first
    | (exfalso; omega)
    | (have hne : ¬ k = v.kind := fun e => absurd (hd.trans ((hkk.2 e).trans hs.symm)) (by assumption)); omega
    | (have he : k = v.kind := hkk.1 ((by assumption : d = s) ▸ hd |>.symm.trans hs)); refine hK _ ?_; subst he; rfl
    | trace_state
end Go.Proofs.YtifjebnieieolaaGreatDoor
