/- Contracts: texts divided, visits read: the law of ReadVisit. -/
import Derived.Test.YtffkcjcaeppboaaDoorRdc
import Derived.Test.YtffkcjcaeppboaaDoorDcp
namespace Go.Proofs.YtffkcjcaeppboaaDoor
open Go Go.RowKit Classical
set_option maxRecDepth 100000
set_option maxHeartbeats 2000000
set_option linter.unusedVariables false
set_option linter.unusedSimpArgs false
/-! The functions. -/
theorem l01Split_ (s : ByteArray) (c : UInt8) (b : Int) (hb : b = (c.toNat : Int)) (hs : s.size ≤ 1048576) : AC Tryd.prog 11 [.str s, .int .u8 b] (fun l : List ByteArray => .sl true 1 (l.map strR)) (cutS c s) := by
  refine ac Tryd.func11 (by kernel_rfl) (.strs _) fun E K hE hK => ?_
  conv => cbv
  refine loopC hE (ι := Int × Int × (List ByteArray) × (List (List AV))) [0, 1] [7, 6, 5] (fun q => (fun (i : Int) (f : Int) (out : List ByteArray) (es : List (List AV)) => [(7, .int .i64 i), (6, .int .i64 f), (5, .ob 0)]) q.1 q.2.1 q.2.2.1 q.2.2.2) (fun q => (fun (i : Int) (f : Int) (out : List ByteArray) (es : List (List AV)) => [.row 1 es]) q.1 q.2.1 q.2.2.1 q.2.2.2) (fun q => (fun (i : Int) (f : Int) (out : List ByteArray) (es : List (List AV)) => (s.size - i).toNat) q.1 q.2.1 q.2.2.1 q.2.2.2) (fun q => (fun (i : Int) (f : Int) (out : List ByteArray) (es : List (List AV)) => ((0 ≤ f ∧ f ≤ i ∧ i ≤ s.size) ∧ out.length ≤ i ∧ CutJ c s f.toNat i.toNat out) ∧ es = out.map strR) q.1 q.2.1 q.2.2.1 q.2.2.2) [0] (by decide) ((0, 0, [], [])) (by conv => lhs; cbv) (by conv => lhs; cbv) rfl rfl (by dsimp only; exact ⟨⟨by omega, by simp, CutJ.zero c s⟩, rfl⟩) fun q hi Kn hN => ?_
  obtain ⟨i, f, out, es⟩ := q
  (try dsimp only at hi)
  conv => cbv
  obtain ⟨⟨⟨h0, h1, h2⟩, hol, hJ⟩, hes⟩ := hi
  repeat' first
    | (refine ssubI hE ⟨h0, by first | exact h1 | (show f ≤ ((s.size : Nat) : Int); omega), by first | exact h2 | exact Int.le_refl _⟩ (fun x hx => ?_); (try conv => cbv))
    | (refine catP hE (R := strR) hes rfl (by omega) (fun es2 hes2 => ?_); (try conv => cbv))
    | (refine hN (_, _, out ++ [x], _) _ [2] (by decide) rfl ⟨⟨?_, ?_, ?_⟩, ?_⟩ ?_ <;> (try dsimp only))
    | (refine hN (_, _, out ++ [x], _) _ [0] (by decide) rfl ⟨⟨?_, ?_, ?_⟩, ?_⟩ ?_ <;> (try dsimp only))
    | (refine hN (_, _, out, _) _ [0] (by decide) rfl ⟨⟨?_, ?_, ?_⟩, ?_⟩ ?_ <;> (try dsimp only))
    | ((first
   | refine q0 hE ?_
   | refine B0 hE ?_|refine B1 hE (fun _=>?_) fun _=>?_|refine B3 hE fun _ _ _=>?_|refine B2 hE fun _ _=>?_|refine B4 hE fun _ _ _ _=>?_) <;> (try conv => cbv))
  all_goals (try clear hN)
  all_goals first
    | omega
    | (rw [List.length_append, List.length_singleton]; omega)
    | exact hJ.hitI ⟨h0, h1⟩ (by omega) (by assumption) (by assumption) hb (by assumption) (by assumption) hx
    | exact hJ.missI ⟨h0, h1⟩ (by omega) (by assumption) (by assumption) hb (by assumption)
    | exact hes2
    | exact hes
    | (refine hK _ ?_; rw [hes2, hJ.doneI (by omega) (by omega) h2 hx]; rfl)
    | trace_state
theorem viaNum {K : AV → Prop} {l : List UInt8} {p : Int × Bool} (hK : ∀ r, r = numR (numOf l) → K r) (h : numOf l = p) : K (numR p) := hK _ (by rw [h])
theorem l01Number_ (s : ByteArray) (hs : s.size ≤ 1048576) : AC Tryd.prog 12 [.str s] numR (numOf s.data.toList) := by
  refine ac Tryd.func12 (by kernel_rfl) (.numR _) fun E K hE hK => ?_
  conv => cbv
  repeat' first
    | (refine callP hE (l01Digit_ _) (fun hd => ?_) (fun hd => ?_) <;> (have hd' := hd; unfold isDg at hd') <;> (try conv => cbv))
    | ((refine loopC hE (ι := Int × Int) [0, 4] [6, 5] (fun q => (fun (i : Int) (m : Int) => [(6, .int .i64 i), (5, .int .i64 m)]) q.1 q.2) (fun q => (fun (i : Int) (m : Int) => []) q.1 q.2) (fun q => (fun (i : Int) (m : Int) => (s.size - i).toNat) q.1 q.2) (fun q => (fun (i : Int) (m : Int) => (1 ≤ i ∧ i ≤ s.size) ∧ NumJ s 1 i.toNat m) q.1 q.2) [] (by decide) ((1, 0)) (by conv => lhs; cbv) (by conv => lhs; cbv) rfl rfl (by dsimp only; exact ⟨by omega, NumJ.zero s 1⟩) fun q hi2 Kn2 hN2 => ?_; obtain ⟨i, m⟩ := q; (try dsimp only at hi2); conv => cbv); obtain ⟨⟨h0, h1⟩, hJ⟩ := hi2; have hb8 := hJ.bound18 (by omega) (by omega); have hb7 : i ≤ 18 → m ≤ 100000000000000000 := fun h => (hJ.bound (by omega) (by omega)).2)
    | ((refine loopC hE (ι := Int × Int) [0, 4] [6, 5] (fun q => (fun (i : Int) (m : Int) => [(6, .int .i64 i), (5, .int .i64 m)]) q.1 q.2) (fun q => (fun (i : Int) (m : Int) => []) q.1 q.2) (fun q => (fun (i : Int) (m : Int) => (s.size - i).toNat) q.1 q.2) (fun q => (fun (i : Int) (m : Int) => (0 ≤ i ∧ i ≤ s.size) ∧ NumJ s 0 i.toNat m) q.1 q.2) [] (by decide) ((0, 0)) (by conv => lhs; cbv) (by conv => lhs; cbv) rfl rfl (by dsimp only; exact ⟨by omega, NumJ.zero s 0⟩) fun q hi2 Kn2 hN2 => ?_; obtain ⟨i, m⟩ := q; (try dsimp only at hi2); conv => cbv); obtain ⟨⟨h0, h1⟩, hJ⟩ := hi2; have hb8 := hJ.bound18 (by omega) (by omega); have hb7 : i ≤ 17 → m ≤ 100000000000000000 := fun h => (hJ.bound (by omega) (by omega)).2)
    | (refine subI (k := .u8) hE (fun q hq => ?_); have hq8 := hq.trans (IntWalk.u8_in _ (by omega)); clear hq; (try conv => cbv))
    | (have hb6 := hb7 (by omega); refine mul64 hE (by omega) (fun _ _ => ?_); (try conv => cbv))
    | (refine hN2 (_, _) _ [] (by decide) rfl ⟨?_, ?_⟩ ?_ <;> (try dsimp only))
    | ((first
   | refine q0 hE ?_
   | refine B0 hE ?_|refine B1 hE (fun _=>?_) fun _=>?_|refine B3 hE fun _ _ _=>?_|refine B2 hE fun _ _=>?_|refine B4 hE fun _ _ _ _=>?_) <;> (try conv => cbv))
  all_goals (try clear hN2)
  all_goals (try simp only [Int.toNat_zero, Int.toNat_one] at *)
  all_goals first
    | omega
    | exact hJ.stepI (by omega) (by omega) (by assumption) hd (by assumption) (by omega)
    | (refine viaNum hK (p := (0, false)) (num_no ?_); rintro (⟨k1, k2, k3, k4⟩ | ⟨k1, k2, k3⟩) <;> unfold chr at * <;> omega)
    | (refine viaNum hK (p := (0, false)) (num_no ?_); rintro (⟨k1, k2, k3, k4⟩ | ⟨k1, k2, k3⟩) <;> first | (unfold chr at *; omega) | (have k5 := k3 0 (by omega); unfold isDg chr at *; omega) | (have k5 := k4 i.toNat (by omega) (by omega); unfold isDg chr at *; omega) | (have k5 := k3 i.toNat (by omega); unfold isDg chr at *; omega) | (unfold chr at *; omega))
    | (refine viaNum hK (p := (m, true)) (num_pos (n := m) ?_ ?_ ?_) <;> first | (rw [show s.size = i.toNat by omega]; exact hJ) | omega | (unfold chr; omega))
    | (rename_i hx1; rw [hx1]; refine viaNum hK (p := (0 - m, true)) (num_neg0 (n := m) ?_ ?_ ?_ ?_) <;> first | (rw [show s.size = i.toNat by omega]; exact hJ) | omega | (unfold chr; omega))
    | trace_state
theorem split1_ (s : ByteArray) (c : UInt8) (hs : s.size ≤ 1048576) : AC Tryd.prog 14 [.str s, .str ⟨#[c]⟩] (fun l : List ByteArray => .sl true 1 (l.map strR)) (cutS c s) := by
  have h := split_ s ⟨#[c]⟩ (by omega) (Nat.le_refl 1) (fun x hx => by rw [splitB_cut] at hx; have := cutS_mem hx; unfold maxLen; omega)
  rw [splitB_cut] at h
  exact h
theorem splitWords_ (s : ByteArray) (hs : s.size ≤ 1048576) : AC Tryd.prog 8 [.str s] (fun l : List ByteArray => .sl true 1 (l.map strR)) (wordsOf s) := by
  refine ac Tryd.func8 (by kernel_rfl) (.strs _) fun E K hE hK => ?_
  conv => cbv
  have hcl := cutS_len 32 s
  refine callR hE (split1_ s 32 hs) (fun rs hrs => ?_)
  conv => cbv
  refine lenL hE hrs fun n hn hb => ?_
  conv => cbv
  refine loopC hE (ι := Int × (List ByteArray) × (List (List AV))) [8, 9] [10, 3] (fun q => (fun (i : Int) (out : List ByteArray) (es : List (List AV)) => [(10, .int .i64 i), (3, .ob 0)]) q.1 q.2.1 q.2.2) (fun q => (fun (i : Int) (out : List ByteArray) (es : List (List AV)) => [.row 1 es, .row 1 rs]) q.1 q.2.1 q.2.2) (fun q => (fun (i : Int) (out : List ByteArray) (es : List (List AV)) => (n - i).toNat) q.1 q.2.1 q.2.2) (fun q => (fun (i : Int) (out : List ByteArray) (es : List (List AV)) => ((0 ≤ i ∧ i ≤ n) ∧ out.length ≤ i ∧ out = rej isE ((cutS 32 s).take i.toNat)) ∧ es = out.map strR) q.1 q.2.1 q.2.2) [0, 1] (by decide) ((0, [], [])) (by conv => lhs; cbv) (by conv => lhs; cbv) rfl rfl (by dsimp only; exact ⟨⟨by omega, by simp, rfl⟩, rfl⟩) fun q hi Kn hN => ?_
  obtain ⟨i, out, es⟩ := q
  (try dsimp only at hi)
  conv => cbv
  obtain ⟨⟨⟨h0, h1⟩, hol, hJ⟩, hes⟩ := hi
  repeat' first
    | (refine idxV (R := strR) hE hrs h0 hx ?_; (try conv => cbv))
    | (refine idxL (R := strR) hE hrs (by omega) (fun x hx => ?_); (try conv => cbv))
    | (refine catP hE (R := strR) hes rfl (by omega) (fun es2 hes2 => ?_); (try conv => cbv))
    | (refine hN (_, out ++ [x], _) _ [3, 1] (by decide) rfl ⟨⟨?_, ?_, ?_⟩, ?_⟩ ?_ <;> (try dsimp only))
    | (refine hN (_, out, _) _ [0, 1] (by decide) rfl ⟨⟨?_, ?_, ?_⟩, ?_⟩ ?_ <;> (try dsimp only))
    | ((first
   | refine q0 hE ?_
   | refine B0 hE ?_|refine B1 hE (fun _=>?_) fun _=>?_|refine B3 hE fun _ _ _=>?_|refine B2 hE fun _ _=>?_|refine B4 hE fun _ _ _ _=>?_) <;> (try conv => cbv))
  all_goals (try clear hN)
  all_goals first
    | omega
    | (rw [List.length_append, List.length_singleton]; omega)
    | (have hs := (rej_step isE h0 hx (by assumption)).2 (by assumption); rw [hJ, hs])
    | (have hs := (rej_step isE h0 hx (by assumption)).1 (by assumption); rw [hJ, hs])
    | exact hes2
    | exact hes
    | (refine hK _ ?_; rw [hes, hJ, List.take_of_length_le (by omega)]; rfl)
    | trace_state
theorem vtext_eq {v : Vis} (h : v.ok) : vtext v = decS v.aid ++ ⟨#[32]⟩ ++ decS v.every ++ ⟨#[32]⟩ ++ decS v.last := by
  unfold vtext
  rw [if_pos h]
  apply ByteArray.ext
  apply Array.ext'
  simp [visTxt, bL, decS]
theorem visitText_ (a e l : Int) : AC Tryd.prog 10 [.agg [.int .i64 a, .int .i64 e, .int .i64 l]] AV.str (vtext ⟨a, e, l⟩) := by
  refine ac Tryd.func10 (by kernel_rfl) (.str _) fun E K hE hK => ?_
  conv => cbv
  refine callP hE (isVisit_ a e l) (fun hok => ?_) (fun hok => ?_) <;> conv => cbv
  · have hok' := hok
    obtain ⟨⟨h1, h2⟩, ⟨h3, h4⟩, h5, h6⟩ := hok'
    simp only at h1 h2 h3 h4 h5 h6
    have z1 := decS_size (n := a) (by omega)
    have z2 := decS_size (n := e) (by omega)
    have z3 := decS_size (n := l) (by omega)
    have z32 : (⟨⟨[32]⟩⟩ : ByteArray).size = 1 := rfl
    repeat' first
      | (refine scatI hE (by subst_vars; (try simp only [ByteArray.size_append]); omega) (fun _ _ _ => ?_); (try conv => cbv))
      | ((first
     | refine q0 hE ?_
     | refine callI hE (decimal_ _ (by omega)) (fun _ _ => ?_)
     | refine B0 hE ?_|refine B1 hE (fun _=>?_) fun _=>?_|refine B3 hE fun _ _ _=>?_|refine B2 hE fun _ _=>?_|refine B4 hE fun _ _ _ _=>?_) <;> (try conv => cbv))
    all_goals first
      | (refine hK _ ?_; rw [vtext_eq hok]; subst_vars; rfl)
      | trace_state
  · exact hK _ (by rw [show vtext ⟨a, e, l⟩ = ⟨#[]⟩ from if_neg hok]; rfl)
def visB (p : Vis × Bool) : AV := .tup [.agg p.1.cs, .bool p.2]
theorem viaVis {K : AV → Prop} {l : List UInt8} {p : Vis × Bool} (hK : ∀ r, r = visB (visOf l) → K r) (h : visOf l = p) : K (visB p) := hK _ (by rw [h])
theorem NoB.visB (p : Vis × Bool) : NoB (visB p) := .tupC (.vis _) (.tupC (.bool _) .tup0)
theorem readVisit_ (s : ByteArray) (hs : s.size ≤ 1048576) : AC Tryd.prog 5 [.str s] visB (visOf s.data.toList) := by
  refine ac Tryd.func5 (by kernel_rfl) (.visB _) fun E K hE hK => ?_
  conv => cbv
  refine callR hE (splitWords_ s hs) (fun rs hrs => ?_)
  conv => cbv
  by_cases h3 : (wordsOf s).length = 3
  · obtain ⟨x, y, z, hw⟩ := three h3
    have hx := words_sub (s := s) (x := x) (by rw [hw]; simp)
    have hy := words_sub (s := s) (x := y) (by rw [hw]; simp)
    have hz := words_sub (s := s) (x := z) (by rw [hw]; simp)
    have hrs2 := hrs
    rw [hw] at hrs2
    repeat' first
      | (refine lenL hE hrs (fun n hn hb => ?_); (try conv => cbv))
      | (refine idxV (R := strR) (l := [x, y, z]) hE hrs2 (by decide) (by rfl) ?_; (try conv => cbv))
      | (refine callI hE (readDecimal_ x (by omega)) (fun p1 hp1 => ?_); obtain ⟨a, _ | _⟩ := p1 <;> (try conv => cbv))
      | (refine callI hE (readDecimal_ y (by omega)) (fun p2 hp2 => ?_); obtain ⟨e, _ | _⟩ := p2 <;> (try conv => cbv))
      | (refine callI hE (readDecimal_ z (by omega)) (fun p3 hp3 => ?_); obtain ⟨l, _ | _⟩ := p3 <;> (try conv => cbv))
      | ((first
     | refine q0 hE ?_
     | refine callI hE (visitText_ _ _ _) (fun _ _ => ?_)
     | refine B0 hE ?_|refine B1 hE (fun _=>?_) fun _=>?_|refine B3 hE fun _ _ _=>?_|refine B2 hE fun _ _=>?_|refine B4 hE fun _ _ _ _=>?_) <;> (try conv => cbv))
    all_goals first
      | (exfalso; omega)
      | (refine viaVis hK (p := (⟨0, 0, 0⟩, false)) (visOf_wordsN2 hw hp1 hp2 hp3 ?_); simp; done)
      | (refine viaVis hK (p := (⟨0, 0, 0⟩, false)) (visOf_wordsN2 hw hp1 hp2 hp3 ?_); rintro ⟨_, h⟩; simp_all; done)
      | (refine viaVis hK (p := (⟨a, e, l⟩, true)) (visOf_wordsY (by rw [hw]; simp) ?_); simp_all; done)
      | trace_state
  · skip
    repeat' first
      | (refine lenL hE hrs (fun n hn hb => ?_); (try conv => cbv))
      | ((first
     | refine q0 hE ?_
     | refine B0 hE ?_|refine B1 hE (fun _=>?_) fun _=>?_|refine B3 hE fun _ _ _=>?_|refine B2 hE fun _ _=>?_|refine B4 hE fun _ _ _ _=>?_) <;> (try conv => cbv))
    all_goals first
      | (exfalso; omega)
      | (refine hK _ ?_; rw [visOf_words3 s h3]; rfl)
      | trace_state
theorem l30Read_ (s : ByteArray) (hs : s.size ≤ 1048576) : AC Tryd.prog 7 [.str s] visB (visOf s.data.toList) := by
  refine ac Tryd.func7 (by kernel_rfl) (.visB _) fun E K hE hK => ?_
  conv => cbv
  refine callR hE (l01Split_ s 32 _ rfl hs) (fun rs hrs => ?_)
  conv => cbv
  by_cases h3 : (cutS 32 s).length = 3
  · obtain ⟨x, y, z, hw⟩ := three h3
    have hx := cutS_mem (c := 32) (s := s) (x := x) (by rw [hw]; simp)
    have hy := cutS_mem (c := 32) (s := s) (x := y) (by rw [hw]; simp)
    have hz := cutS_mem (c := 32) (s := s) (x := z) (by rw [hw]; simp)
    have hrs2 := hrs
    rw [hw] at hrs2
    repeat' first
      | (refine lenL hE hrs (fun n hn hb => ?_); (try conv => cbv))
      | (refine idxV (R := strR) (l := [x, y, z]) hE hrs2 (by decide) (by rfl) ?_; (try conv => cbv))
      | (refine callI hE (l01Number_ x (by omega)) (fun p1 hp1 => ?_); obtain ⟨a, _ | _⟩ := p1 <;> (try conv => cbv))
      | (refine callI hE (l01Number_ y (by omega)) (fun p2 hp2 => ?_); obtain ⟨e, _ | _⟩ := p2 <;> (try conv => cbv))
      | (refine callI hE (l01Number_ z (by omega)) (fun p3 hp3 => ?_); obtain ⟨l, _ | _⟩ := p3 <;> (try conv => cbv))
      | ((first
     | refine q0 hE ?_
     | refine callP hE (l30One_ _ _ _) (fun _ => ?_) (fun _ => ?_)
     | refine B0 hE ?_|refine B1 hE (fun _=>?_) fun _=>?_|refine B3 hE fun _ _ _=>?_|refine B2 hE fun _ _=>?_|refine B4 hE fun _ _ _ _=>?_) <;> (try conv => cbv))
    all_goals first
      | (exfalso; omega)
      | (refine viaVis hK (p := (⟨0, 0, 0⟩, false)) (visOf_partsN hw hp1 hp2 hp3 ?_); simp; done)
      | (refine viaVis hK (p := (⟨0, 0, 0⟩, false)) (visOf_partsN hw hp1 hp2 hp3 ?_); rintro ⟨_, h⟩; exact absurd h (by assumption))
      | (exact viaVis hK (p := (⟨a, e, l⟩, true)) (visOf_partsY hw hp1 hp2 hp3 (by assumption)))
      | trace_state
  · skip
    repeat' first
      | (refine lenL hE hrs (fun n hn hb => ?_); (try conv => cbv))
      | ((first
     | refine q0 hE ?_
     | refine B0 hE ?_|refine B1 hE (fun _=>?_) fun _=>?_|refine B3 hE fun _ _ _=>?_|refine B2 hE fun _ _=>?_|refine B4 hE fun _ _ _ _=>?_) <;> (try conv => cbv))
    all_goals first
      | (exfalso; omega)
      | (refine hK _ ?_; rw [visOf_parts3 s h3]; rfl)
      | trace_state
theorem sReadVisit_ (s : ByteArray) (hs : s.size ≤ 1048576) : AC Tryd.prog 4 [.str s] visB (visOf s.data.toList) := by
  refine ac Tryd.func4 (by kernel_rfl) (.visB _) fun E K hE hK => ?_
  conv => cbv
  refine callI hE (l30Read_ s hs) (fun p hp => ?_)
  obtain ⟨⟨a, e, l⟩, ok⟩ := p
  conv => cbv
  exact hK _ (by rw [← hp]; rfl)
theorem lawReadVisit (s : ByteArray) : AC Tryd.prog 3 [.str s] id (.bool true) := by
  refine ac Tryd.func3 (by kernel_rfl) (.bool _) fun E K hE hK => ?_
  conv => cbv
  repeat' first
    | (refine callI hE (sReadVisit_ s (by omega)) (fun p hp => ?_); obtain ⟨⟨a, e, l⟩, ok⟩ := p; (try conv => cbv))
    | (refine callI hE (readVisit_ s (by omega)) (fun p2 hp2 => ?_); obtain ⟨⟨a2, e2, l2⟩, ok2⟩ := p2; cases hp2.trans hp.symm; clear hp2; cases ok <;> (try conv => cbv))
    | (refine callPT hE (eqVisit_ _ _ _ _ _ _) ⟨rfl, rfl, rfl⟩ ?_; (try conv => cbv))
    | ((first
   | refine q0 hE ?_
   | refine B0 hE ?_|refine B1 hE (fun _=>?_) fun _=>?_|refine B3 hE fun _ _ _=>?_|refine B2 hE fun _ _=>?_|refine B4 hE fun _ _ _ _=>?_) <;> (try conv => cbv))
  all_goals first
    | exact hK _ rfl
    | trace_state
end Go.Proofs.YtffkcjcaeppboaaDoor
