/- Contracts: valid warnings; those in force. -/
import Derived.Test.YthiecdiiindegaaGreatDoorFwa
import Derived.Test.YthiecdiiindegaaGreatDoorFk
import Derived.Test.YthiecdiiindegaaGreatDoorFpt
namespace Go.Proofs.YthiecdiiindegaaGreatDoor
open Go Go.RowKit Classical
set_option maxRecDepth 100000
set_option maxHeartbeats 2000000
set_option linter.unusedVariables false
set_option linter.unusedSimpArgs false
theorem l22Priority_ (n : Int) : AC Tryz.prog 85 [.int .i64 n] AV.bool (bP (1 ≤ n ∧ n ≤ 3)) := by
  refine ac Tryz.func85 (by kernel_rfl) (.bool _) fun E K hE hK => ?_
  conv => cbv
  repeat' first
    | ((first
   | refine q0 hE ?_
   | refine callP hE (in_ _ _ _) (fun _ => ?_) (fun _ => ?_)
   | refine B0 hE ?_|refine B1 hE (fun _=>?_) fun _=>?_|refine B3 hE fun _ _ _=>?_|refine B2 hE fun _ _=>?_|refine B4 hE fun _ _ _ _=>?_) <;> (try conv => cbv))
  all_goals (try clear hN)
  all_goals first
    | (omega)
    | (refine finB hK (bP_true.2 ?_); first | omega | grind)
    | (refine finB hK (bP_false.2 ?_); first | omega | (intro h; grind))
    | (refine ⟨by omega, Up.succ (by assumption) ?_ (by assumption)⟩; grind)
    | (refine hK _ ?_; simp_all [atup]; done)
    | (grind)
def PlainC (s : ByteArray) (j : Nat) : Prop := 32 ≤ chr s j ∧ chr s j ≤ 126
def PlainOk (s : ByteArray) : Prop := ∀ j, j < s.size → PlainC s j
theorem isPlain_ (s : ByteArray) : AC Tryz.prog 53 [.str s] AV.bool (bP (PlainOk s)) := by
  refine ac Tryz.func53 (by kernel_rfl) (.bool _) fun E K hE hK => ?_
  conv => cbv
  refine loopC hE (ι := Int) [0] [3] (fun q => (fun (i : Int) => [(3, .int .i64 i)]) q) (fun q => (fun (i : Int) => []) q) (fun q => (fun (i : Int) => (s.size - i).toNat) q) (fun q => (fun (i : Int) => 0 ≤ i ∧ Up (PlainC s) i) q) [] (by decide) (0) (by conv => lhs; cbv) (by conv => lhs; cbv) rfl rfl (by dsimp only; exact ⟨by omega, .zero (by omega)⟩) fun i hi Kn hN => ?_
  (try dsimp only at hi)
  conv => cbv
  obtain ⟨h0, hinv⟩ := hi
  repeat' first
    | (refine hN _ _ [] (by decide) rfl ⟨?_, ?_⟩ ?_ <;> (try dsimp only))
    | ((first
   | refine q0 hE ?_
   | refine callP hE (within_ _ _ _) (fun _ => ?_) (fun _ => ?_)
   | refine B0 hE ?_|refine B1 hE (fun _=>?_) fun _=>?_|refine B3 hE fun _ _ _=>?_|refine B2 hE fun _ _=>?_|refine B4 hE fun _ _ _ _=>?_) <;> (try conv => cbv))
  all_goals (try clear hN)
  all_goals first
    | omega
    | (refine hinv.succ ?_ (by assumption); unfold PlainC chr; omega)
    | exact finB hK (bP_true.2 (hinv.all (by omega)))
    | (refine finB hK (bP_false.2 fun h => ?_); have := h i.toNat (by omega); unfold PlainC chr at this; omega)
    | trace_state
def War.ok (w : War) : Prop := (1 ≤ w.number ∧ w.number ≤ 9999) ∧ (1 ≤ w.priority ∧ w.priority ≤ 3) ∧ TimeOk w.frm ∧ TimeOk w.til ∧ w.frm < w.til ∧ PtOk w.atX w.atY ∧ (0 ≤ w.radius ∧ w.radius ≤ 20000) ∧ (1 ≤ w.words.size ∧ w.words.size ≤ 60) ∧ PlainOk w.words
theorem validWarning_ (number priority frm til atX atY radius : Int) (words : ByteArray) : AC Tryz.prog 21 [.agg [.int .i64 number, .int .i64 priority, .int .i64 frm, .int .i64 til, .int .i64 atX, .int .i64 atY, .int .i64 radius, .str words]] AV.bool (bP (War.ok ⟨number, priority, frm, til, atX, atY, radius, words⟩)) := by
  refine ac Tryz.func21 (by kernel_rfl) (.bool _) fun E K hE hK => ?_
  conv => cbv
  repeat' first
    | (refine callP hE (isTime_ _) (fun ht => ?_) (fun _ => ?_) <;> (try unfold TimeOk at ht) <;> (try conv => cbv))
    | ((first
   | refine q0 hE ?_
   | refine callP hE (isNumber_ _) (fun _ => ?_) (fun _ => ?_)
   | refine callP hE (validPoint_ _ _) (fun _ => ?_) (fun _ => ?_)
   | refine callP hE (isAway_ _) (fun _ => ?_) (fun _ => ?_)
   | refine callP hE (isPlain_ _) (fun _ => ?_) (fun _ => ?_)
   | refine callP hE (within_ _ _ _) (fun _ => ?_) (fun _ => ?_)
   | refine B0 hE ?_|refine B1 hE (fun _=>?_) fun _=>?_|refine B3 hE fun _ _ _=>?_|refine B2 hE fun _ _=>?_|refine B4 hE fun _ _ _ _=>?_) <;> (try conv => cbv))
  all_goals first
    | (refine finB hK (bP_true.2 ?_); simp only [War.ok, TimeOk]; exact ⟨by omega, by omega, by omega, by omega, by omega, by assumption, by omega, by omega, by assumption⟩)
    | (refine finB hK (bP_false.2 fun h => ?_); obtain ⟨h1, h2, h3, h4, h5, h6, h7, h8, h9⟩ := h; simp only [TimeOk] at *; first | contradiction | omega)
    | trace_state
theorem l22One_ (number priority frm til atX atY radius : Int) (words : ByteArray) : AC Tryz.prog 70 [.pp [.int .i64 number, .int .i64 priority, .int .i64 frm, .int .i64 til, .int .i64 atX, .int .i64 atY, .int .i64 radius, .str words]] AV.bool (bP (War.ok ⟨number, priority, frm, til, atX, atY, radius, words⟩)) := by
  refine ac Tryz.func70 (by kernel_rfl) (.bool _) fun E K hE hK => ?_
  conv => cbv
  repeat' first
    | (refine callP hE (l20Time_ _) (fun ht => ?_) (fun _ => ?_) <;> (try unfold TimeOk at ht) <;> (try conv => cbv))
    | ((refine loopC hE (ι := Int) [0] [3] (fun q => (fun (i : Int) => [(3, .int .i64 i)]) q) (fun q => (fun (i : Int) => []) q) (fun q => (fun (i : Int) => (words.size - i).toNat) q) (fun q => (fun (i : Int) => 0 ≤ i ∧ Up (PlainC words) i) q) [] (by decide) (0) (by conv => lhs; cbv) (by conv => lhs; cbv) rfl rfl (by dsimp only; exact ⟨by omega, .zero (by omega)⟩) fun i hi2 Kn2 hN2 => ?_; (try dsimp only at hi2); conv => cbv); obtain ⟨h0, hinv⟩ := hi2)
    | (refine hN2 _ _ [] (by decide) rfl ⟨?_, ?_⟩ ?_ <;> (try dsimp only))
    | ((first
   | refine q0 hE ?_
   | refine callP hE (l20Number_ _) (fun _ => ?_) (fun _ => ?_)
   | refine callP hE (l22Priority_ _) (fun _ => ?_) (fun _ => ?_)
   | refine callP hE (l02Ok_ _ _) (fun _ => ?_) (fun _ => ?_)
   | refine callP hE (in_ _ _ _) (fun _ => ?_) (fun _ => ?_)
   | refine B0 hE ?_|refine B1 hE (fun _=>?_) fun _=>?_|refine B3 hE fun _ _ _=>?_|refine B2 hE fun _ _=>?_|refine B4 hE fun _ _ _ _=>?_) <;> (try conv => cbv))
  all_goals (try clear hN2)
  all_goals first
    | omega
    | (refine hinv.succ ?_ (by assumption); unfold PlainC chr; omega)
    | (refine finB hK (bP_true.2 ?_); simp only [War.ok, TimeOk]; exact ⟨by omega, by omega, by omega, by omega, by omega, by assumption, by omega, by omega, hinv.all (by omega)⟩)
    | (refine finB hK (bP_false.2 fun h => ?_); obtain ⟨h1, h2, h3, h4, h5, h6, h7, h8, h9⟩ := h; simp only [TimeOk] at *; first | contradiction | omega | (have := h9 i.toNat (by omega); unfold PlainC chr at this; omega))
    | trace_state
def War.C (l : List War) (j : Nat) : Prop := ∃ v, l[j]? = some v ∧ v.ok ∧ (0 < j → ∃ w, l[j - 1]? = some w ∧ w.number < v.number)
def WarnsOk (l : List War) : Prop := (∀ j, j < l.length → War.C l j) ∧ l.length ≤ 32
theorem warC_mk {l : List War} {i : Int} {v : War} (h0 : 0 ≤ i) (hv : l[i.toNat]? = some v) (hok : v.ok) (hp : i ≤ 0 ∨ ∃ (n : Int) (w : War), n = i - 1 ∧ l[n.toNat]? = some w ∧ w.number < v.number) : War.C l i.toNat := by
  refine ⟨v, hv, hok, fun h => ?_⟩
  rcases hp with hp | ⟨n, w, rfl, hw, hl⟩
  · omega
  · exact ⟨w, by rw [show i.toNat - 1 = (i - 1).toNat by omega]; exact hw, hl⟩
theorem warC_ok {l : List War} {i : Int} {v : War} (h0 : 0 ≤ i) (h : War.C l i.toNat) (hv : l[i.toNat]? = some v) : v.ok ∧ (∀ (n : Int) w, n = i - 1 → 0 < i → l[n.toNat]? = some w → w.number < v.number) := by
  obtain ⟨v', h1, h2, h3⟩ := h
  rw [hv] at h1; cases h1
  refine ⟨h2, fun n w hn hi hw => ?_⟩
  obtain ⟨w', hw', hl⟩ := h3 (by omega)
  rw [show i.toNat - 1 = n.toNat by omega, hw] at hw'; cases hw'
  exact hl
theorem WarnsOk.all {l : List War} (h : WarnsOk l) : ∀ v ∈ l, v.ok := fun v hv => by
  obtain ⟨j, hj⟩ := List.getElem?_of_mem hv
  obtain ⟨w, h1, h2, _⟩ := h.1 j (List.getElem?_eq_some_iff.1 hj).1
  rw [hj] at h1; cases h1; exact h2
theorem validWarnings_ {rs : List (List AV)} {t : Bool} {l : List War} (hl : rs = l.map War.cs) : AC Tryz.prog 20 [.sl t 8 rs] AV.bool (bP (WarnsOk l)) := by
  refine ac Tryz.func20 (by kernel_rfl) (.bool _) fun E K hE hK => ?_
  conv => cbv
  refine lenL hE hl fun n hn hb => ?_
  conv => cbv
  refine loopC hE (ι := Int) [0, 5, 6] [7] (fun q => (fun (i : Int) => [(7, .int .i64 i)]) q) (fun q => (fun (i : Int) => []) q) (fun q => (fun (i : Int) => (l.length - i).toNat) q) (fun q => (fun (i : Int) => 0 ≤ i ∧ Up (War.C l) i) q) [] (by decide) (0) (by conv => lhs; cbv) (by conv => lhs; cbv) rfl rfl (by dsimp only; exact ⟨by omega, .zero (by omega)⟩) fun i hi Kn hN => ?_
  (try dsimp only at hi)
  conv => cbv
  obtain ⟨h0, hinv⟩ := hi
  repeat' first
    | (refine hN _ _ [] (by decide) rfl ⟨?_, ?_⟩ ?_ <;> (try dsimp only))
    | ((first
   | refine q0 hE ?_
   | refine callP hE (validWarning_ _ _ _ _ _ _ _ _) (fun _ => ?_) (fun _ => ?_)
   | refine callP hE (few_ _ _) (fun _ => ?_) (fun _ => ?_)
   | (refine idxL (R := War.cs) hE (by assumption) (by first | omega | (simp only [List.length_set, mix_len]; omega)) ?_; rintro ⟨⟩ _)
   | refine B0 hE ?_|refine B1 hE (fun _=>?_) fun _=>?_|refine B3 hE fun _ _ _=>?_|refine B2 hE fun _ _=>?_|refine B4 hE fun _ _ _ _=>?_) <;> (try conv => cbv))
  all_goals (try clear hN)
  all_goals first
    | omega
    | exact hinv.succ (warC_mk h0 (by assumption) (by assumption) (.inr ⟨_, _, by assumption, by assumption, by dsimp only; omega⟩)) (by assumption)
    | exact hinv.succ (warC_mk h0 (by assumption) (by assumption) (.inl (by omega))) (by assumption)
    | (refine finB hK (bP_false.2 fun h => ?_); have k := warC_ok h0 (h.1 i.toNat (by omega)) (by assumption); first | exact absurd k.1 (by assumption) | (have := k.2 _ _ (by assumption) (by omega) (by assumption); dsimp only at this; omega))
    | exact finB hK (bP_true.2 ⟨hinv.all (by omega), by omega⟩)
    | (refine finB hK (bP_false.2 fun h => ?_); have := h.2; omega)
    | trace_state
theorem l22Ok_ {rs : List (List AV)} {t : Bool} {l : List War} (hl : rs = l.map War.cs) : AC Tryz.prog 42 [.sl t 8 rs] AV.bool (bP (WarnsOk l)) := by
  refine ac Tryz.func42 (by kernel_rfl) (.bool _) fun E K hE hK => ?_
  conv => cbv
  refine loopC hE (ι := Int) [0] [3] (fun q => (fun (i : Int) => [(3, .int .i64 i)]) q) (fun q => (fun (i : Int) => []) q) (fun q => (fun (i : Int) => (l.length - i).toNat) q) (fun q => (fun (i : Int) => 0 ≤ i ∧ Up (War.C l) i) q) [] (by decide) (0) (by conv => lhs; cbv) (by conv => lhs; cbv) rfl rfl (by dsimp only; exact ⟨by omega, .zero (by omega)⟩) fun i hi Kn hN => ?_
  (try dsimp only at hi)
  conv => cbv
  obtain ⟨h0, hinv⟩ := hi
  repeat' first
    | (refine hN _ _ [] (by decide) rfl ⟨?_, ?_⟩ ?_ <;> (try dsimp only))
    | ((first
   | refine q0 hE ?_
   | refine callP hE (l22One_ _ _ _ _ _ _ _ _) (fun _ => ?_) (fun _ => ?_)
   | (refine idxL (R := War.cs) hE (by assumption) (by first | omega | (simp only [List.length_set, mix_len]; omega)) ?_; rintro ⟨⟩ _)
   | refine B0 hE ?_|refine B1 hE (fun _=>?_) fun _=>?_|refine B3 hE fun _ _ _=>?_|refine B2 hE fun _ _=>?_|refine B4 hE fun _ _ _ _=>?_) <;> (try conv => cbv))
  all_goals (try clear hN)
  all_goals first
    | omega
    | exact hinv.succ (warC_mk h0 (by assumption) (by assumption) (.inr ⟨_, _, by assumption, by assumption, by dsimp only; omega⟩)) (by assumption)
    | exact hinv.succ (warC_mk h0 (by assumption) (by assumption) (.inl (by omega))) (by assumption)
    | (refine finB hK (bP_false.2 fun h => ?_); have k := warC_ok h0 (h.1 i.toNat (by omega)) (by assumption); first | exact absurd k.1 (by assumption) | (have := k.2 _ _ (by assumption) (by omega) (by assumption); dsimp only at this; omega))
    | exact finB hK (bP_true.2 ⟨hinv.all (by omega), by omega⟩)
    | (refine finB hK (bP_false.2 fun h => ?_); have := h.2; omega)
    | trace_state
end Go.Proofs.YthiecdiiindegaaGreatDoor
