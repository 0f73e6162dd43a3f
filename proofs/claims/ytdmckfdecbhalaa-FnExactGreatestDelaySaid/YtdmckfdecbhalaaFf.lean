/- Contracts: counting findings. -/
import Derived.Test.YtdmckfdecbhalaaFd
namespace Go.Proofs.Ytdmckfdecbhalaa
open Go Go.RowKit Classical
set_option maxRecDepth 100000
set_option maxHeartbeats 2000000
set_option linter.unusedVariables false
set_option linter.unusedSimpArgs false
def szFs : List Fnd → Int → Int
  | [], n => n
  | f :: l, n => if szF f.who f.what n < 0 then -1 else szFs l (szF f.who f.what n)
theorem szF_le (a b : ByteArray) (n : Int) : szF a b n ≤ max (-1) n := by unfold szF; split <;> (try split) <;> omega
theorem szFs_drop {l : List Fnd} {i : Nat} {f : Fnd} (h : l[i]? = some f) (n : Int) : szFs (l.drop i) n = if szF f.who f.what n < 0 then -1 else szFs (l.drop (i + 1)) (szF f.who f.what n) := by
  have hi := (List.getElem?_eq_some_iff.1 h).1
  rw [List.drop_eq_getElem_cons hi, szFs]
  have := (List.getElem?_eq_some_iff.1 h).2
  rw [this]
theorem szFindingS_ {rs : List (List AV)} {t : Bool} {l : List Fnd} (n : Int) (hl : rs = l.map Fnd.cs) (hn : 0 ≤ n ∧ n ≤ 1048576) : AC Try.prog 24 [.sl t 3 rs, .int .i64 n] (AV.int .i64) (if n - l.length < 0 then -1 else szFs l (n - l.length)) := by
  refine ac Try.func24 (by kernel_rfl) (.int _ _) fun E K hE hK => ?_
  conv => cbv
  repeat' first
    | (refine idxV hE (by assumption) (by omega) (by assumption) ?_; (try conv => cbv))
    | (refine ltT hE (by omega) ?_; (try conv => cbv))
    | (refine ltF hE (by omega) ?_; (try conv => cbv))
    | (refine ltI hE (fun _ => ?_) (fun _ => ?_) <;> (try conv => cbv))
    | (refine leT hE (by omega) ?_; (try conv => cbv))
    | (refine leF hE (by omega) ?_; (try conv => cbv))
    | (refine leI hE (fun _ => ?_) (fun _ => ?_) <;> (try conv => cbv))
    | (refine eqT hE (by omega) ?_; (try conv => cbv))
    | (refine eqF hE (by omega) ?_; (try conv => cbv))
    | (refine eqI hE (fun _ => ?_) (fun _ => ?_) <;> (try conv => cbv))
    | (refine add64 hE (by omega) (fun _ _ => ?_); (try conv => cbv))
    | (refine sub64 hE (by omega) (fun _ _ => ?_); (try conv => cbv))
    | (refine addI hE (fun _ _ => ?_); (try conv => cbv))
    | (refine subI hE (fun _ _ => ?_); (try conv => cbv))
    | (refine lenL hE (by assumption) (fun _ _ _ => ?_); (try conv => cbv))
    | (refine idxL hE (by assumption) (by first | omega | (simp only [List.length_set, mix_len]; omega)) (fun _ _ => ?_); (try conv => cbv))
    | (refine idxFill hE (by assumption) (by omega) ?_; (try conv => cbv))
    | (refine idxI hE (by decide) (by rfl) ?_; (try conv => cbv))
    | (refine iteB (fun _ => ?_) (fun _ => ?_) <;> (try conv => cbv))
    | (refine maxI hE (fun _ _ => ?_); (try conv => cbv))
    | (refine minI hE (fun _ _ => ?_); (try conv => cbv))
    | (refine seqI hE (fun _ => ?_) (fun _ => ?_) <;> (try conv => cbv))
    | (refine scatI hE (by first | omega | (simp only [ByteArray.size, Array.size, List.length_cons, List.length_nil] at *; omega)) (fun _ _ _ => ?_); (try conv => cbv))
    | (refine slenI hE (fun _ _ _ => ?_); (try conv => cbv))
    | (refine sidxI hE (by omega) (fun _ _ _ _ => ?_); (try conv => cbv))
    | (refine needI hE (by first | decide | omega) ?_; (try conv => cbv))
    | (refine rem64 hE (by omega) (fun _ _ => ?_); (try conv => cbv))
    | (refine quo64 hE (by omega) (fun _ _ => ?_); (try conv => cbv))
    | (refine wrapU8 hE (by omega) (fun _ _ => ?_); (try conv => cbv))
    | (refine wrap64 hE (by omega) (fun _ _ => ?_); (try conv => cbv))
  · refine hK _ ?_
    rw [if_pos (by omega)]; rfl
  · rename_i n1 hn1 _ m hm hge
    have hm' : n - l.length = m := by omega
    refine loopK hE (ι := Int × Int) [0, 1, 5] (fun p => ⟨reF _ [(0, .sl t 3 rs), (1, .int .i64 p.2), (5, .int .i64 p.1)], []⟩) (fun p => (l.length - p.1).toNat) (fun p => (0 ≤ p.1 ∧ p.1 ≤ l.length) ∧ (0 ≤ p.2 ∧ p.2 ≤ 1048576) ∧ szFs l m = szFs (l.drop p.1.toNat) p.2) [] (by decide) (0, m) rfl ⟨by simp, by simp only; omega, rfl⟩ fun p hi Kn hN => ?_
    obtain ⟨i, k'⟩ := p
    obtain ⟨⟨h0, h1⟩, h2, h3⟩ := hi
    simp only at h0 h1 h2 h3
    conv => cbv
    repeat' first
      | (refine idxV hE (by assumption) (by omega) (by assumption) ?_; (try conv => cbv))
      | (refine idxL (R := Fnd.cs) hE (by assumption) (by first | omega | (simp only [List.length_set, mix_len]; omega)) ?_; rintro ⟨⟩ _; (try conv => cbv))
      | (refine callI hE (szFinding_ _ _ _ _ (by omega)) (fun _ _ => ?_); (try conv => cbv))
      | (refine hN (_, _) _ [] (by decide) rfl ⟨?_, ?_, ?_⟩ ?_)
      | (refine ltT hE (by omega) ?_; (try conv => cbv))
      | (refine ltF hE (by omega) ?_; (try conv => cbv))
      | (refine ltI hE (fun _ => ?_) (fun _ => ?_) <;> (try conv => cbv))
      | (refine leT hE (by omega) ?_; (try conv => cbv))
      | (refine leF hE (by omega) ?_; (try conv => cbv))
      | (refine leI hE (fun _ => ?_) (fun _ => ?_) <;> (try conv => cbv))
      | (refine eqT hE (by omega) ?_; (try conv => cbv))
      | (refine eqF hE (by omega) ?_; (try conv => cbv))
      | (refine eqI hE (fun _ => ?_) (fun _ => ?_) <;> (try conv => cbv))
      | (refine add64 hE (by omega) (fun _ _ => ?_); (try conv => cbv))
      | (refine sub64 hE (by omega) (fun _ _ => ?_); (try conv => cbv))
      | (refine addI hE (fun _ _ => ?_); (try conv => cbv))
      | (refine subI hE (fun _ _ => ?_); (try conv => cbv))
      | (refine lenL hE (by assumption) (fun _ _ _ => ?_); (try conv => cbv))
      | (refine idxL hE (by assumption) (by first | omega | (simp only [List.length_set, mix_len]; omega)) (fun _ _ => ?_); (try conv => cbv))
      | (refine idxFill hE (by assumption) (by omega) ?_; (try conv => cbv))
      | (refine idxI hE (by decide) (by rfl) ?_; (try conv => cbv))
      | (refine iteB (fun _ => ?_) (fun _ => ?_) <;> (try conv => cbv))
      | (refine maxI hE (fun _ _ => ?_); (try conv => cbv))
      | (refine minI hE (fun _ _ => ?_); (try conv => cbv))
      | (refine seqI hE (fun _ => ?_) (fun _ => ?_) <;> (try conv => cbv))
      | (refine scatI hE (by first | omega | (simp only [ByteArray.size, Array.size, List.length_cons, List.length_nil] at *; omega)) (fun _ _ _ => ?_); (try conv => cbv))
      | (refine slenI hE (fun _ _ _ => ?_); (try conv => cbv))
      | (refine sidxI hE (by omega) (fun _ _ _ _ => ?_); (try conv => cbv))
      | (refine needI hE (by first | decide | omega) ?_; (try conv => cbv))
      | (refine rem64 hE (by omega) (fun _ _ => ?_); (try conv => cbv))
      | (refine quo64 hE (by omega) (fun _ _ => ?_); (try conv => cbv))
      | (refine wrapU8 hE (by omega) (fun _ _ => ?_); (try conv => cbv))
      | (refine wrap64 hE (by omega) (fun _ _ => ?_); (try conv => cbv))
    all_goals (try simp only)
    · refine hK _ ?_
      rename_i hx y hy hlt
      rw [hm', if_neg (by omega), h3, szFs_drop hx, ← hy, if_pos hlt]; rfl
    · omega
    · rename_i f1 f2 f3 hx y hy hge' z hz
      have := szF_le f2 f3 k'
      omega
    · rename_i f1 f2 f3 hx y hy hge' z hz
      rw [h3, szFs_drop hx, ← hy, if_neg (by omega), hz, show (i + 1).toNat = i.toNat + 1 by omega]
    · omega
    · refine hK _ ?_
      rw [hm', if_neg (by omega), h3, List.drop_eq_nil_of_le (by omega)]; rfl
theorem eqFinding_ (k : Int) (a b : ByteArray) (k' : Int) (a' b' : ByteArray) : AC Try.prog 54 [.agg [.int .i64 k, .str a, .str b], .agg [.int .i64 k', .str a', .str b']] AV.bool (bP (k = k' ∧ a = a' ∧ b = b')) := by
  refine ac Try.func54 (by kernel_rfl) (.bool _) fun E K hE hK => ?_
  conv => cbv
  repeat' first
    | (refine idxV hE (by assumption) (by omega) (by assumption) ?_; (try conv => cbv))
    | (refine ltT hE (by omega) ?_; (try conv => cbv))
    | (refine ltF hE (by omega) ?_; (try conv => cbv))
    | (refine ltI hE (fun _ => ?_) (fun _ => ?_) <;> (try conv => cbv))
    | (refine leT hE (by omega) ?_; (try conv => cbv))
    | (refine leF hE (by omega) ?_; (try conv => cbv))
    | (refine leI hE (fun _ => ?_) (fun _ => ?_) <;> (try conv => cbv))
    | (refine eqT hE (by omega) ?_; (try conv => cbv))
    | (refine eqF hE (by omega) ?_; (try conv => cbv))
    | (refine eqI hE (fun _ => ?_) (fun _ => ?_) <;> (try conv => cbv))
    | (refine add64 hE (by omega) (fun _ _ => ?_); (try conv => cbv))
    | (refine sub64 hE (by omega) (fun _ _ => ?_); (try conv => cbv))
    | (refine addI hE (fun _ _ => ?_); (try conv => cbv))
    | (refine subI hE (fun _ _ => ?_); (try conv => cbv))
    | (refine lenL hE (by assumption) (fun _ _ _ => ?_); (try conv => cbv))
    | (refine idxL hE (by assumption) (by first | omega | (simp only [List.length_set, mix_len]; omega)) (fun _ _ => ?_); (try conv => cbv))
    | (refine idxFill hE (by assumption) (by omega) ?_; (try conv => cbv))
    | (refine idxI hE (by decide) (by rfl) ?_; (try conv => cbv))
    | (refine iteB (fun _ => ?_) (fun _ => ?_) <;> (try conv => cbv))
    | (refine maxI hE (fun _ _ => ?_); (try conv => cbv))
    | (refine minI hE (fun _ _ => ?_); (try conv => cbv))
    | (refine seqI hE (fun _ => ?_) (fun _ => ?_) <;> (try conv => cbv))
    | (refine scatI hE (by first | omega | (simp only [ByteArray.size, Array.size, List.length_cons, List.length_nil] at *; omega)) (fun _ _ _ => ?_); (try conv => cbv))
    | (refine slenI hE (fun _ _ _ => ?_); (try conv => cbv))
    | (refine sidxI hE (by omega) (fun _ _ _ _ => ?_); (try conv => cbv))
    | (refine needI hE (by first | decide | omega) ?_; (try conv => cbv))
    | (refine rem64 hE (by omega) (fun _ _ => ?_); (try conv => cbv))
    | (refine quo64 hE (by omega) (fun _ _ => ?_); (try conv => cbv))
    | (refine wrapU8 hE (by omega) (fun _ _ => ?_); (try conv => cbv))
    | (refine wrap64 hE (by omega) (fun _ _ => ?_); (try conv => cbv))
  all_goals (try clear hN)
  all_goals first
    | (omega)
    | (refine finB hK (bP_true.2 ?_); first | omega | grind)
    | (refine finB hK (bP_false.2 ?_); first | omega | (intro h; grind))
    | (refine ⟨by omega, Up.succ (by assumption) ?_ (by assumption)⟩; grind)
    | (refine hK _ ?_; simp_all [atup]; done)
    | (grind)
theorem eqFindingS_ {rs rs' : List (List AV)} {t t' : Bool} {l m : List Fnd} (hl : rs = l.map Fnd.cs) (hm : rs' = m.map Fnd.cs) : AC Try.prog 29 [.sl t 3 rs, .sl t' 3 rs'] AV.bool (bP (l = m)) := by
  refine ac Try.func29 (by kernel_rfl) (.bool _) fun E K hE hK => ?_
  conv => cbv
  refine lenL hE hl fun n hn hb => ?_
  conv => cbv
  refine lenL hE hm fun n' hn' hb' => ?_
  conv => cbv
  refine eqI hE (fun he => ?_) (fun he => ?_) <;> conv => cbv
  · refine loopK hE (ι := Int) [0, 1, 5] (fun i => ⟨reF _ [(0, .sl t 3 rs), (1, .sl t' 3 rs'), (5, .int .i64 i)], []⟩) (fun i => (l.length - i).toNat) (fun i => 0 ≤ i ∧ Up (fun j => l[j]? = m[j]?) i) [] (by decide) 0 rfl ⟨by omega, .zero (by omega)⟩ fun i hi Kn hN => ?_
    obtain ⟨h0, hinv⟩ := hi
    conv => cbv
    repeat' first
      | (refine idxV hE (by assumption) (by omega) (by assumption) ?_; (try conv => cbv))
      | (refine callP hE (eqFinding_ _ _ _ _ _ _) (fun _ => ?_) (fun _ => ?_) <;> (try conv => cbv))
      | (refine idxL (R := Fnd.cs) hE (by assumption) (by first | omega | (simp only [List.length_set, mix_len]; omega)) ?_; rintro ⟨⟩ _; (try conv => cbv))
      | ( refine hN _ _ [] (by decide) rfl ⟨by omega, ?_⟩ ?_)
      | (refine ltT hE (by omega) ?_; (try conv => cbv))
      | (refine ltF hE (by omega) ?_; (try conv => cbv))
      | (refine ltI hE (fun _ => ?_) (fun _ => ?_) <;> (try conv => cbv))
      | (refine leT hE (by omega) ?_; (try conv => cbv))
      | (refine leF hE (by omega) ?_; (try conv => cbv))
      | (refine leI hE (fun _ => ?_) (fun _ => ?_) <;> (try conv => cbv))
      | (refine eqT hE (by omega) ?_; (try conv => cbv))
      | (refine eqF hE (by omega) ?_; (try conv => cbv))
      | (refine eqI hE (fun _ => ?_) (fun _ => ?_) <;> (try conv => cbv))
      | (refine add64 hE (by omega) (fun _ _ => ?_); (try conv => cbv))
      | (refine sub64 hE (by omega) (fun _ _ => ?_); (try conv => cbv))
      | (refine addI hE (fun _ _ => ?_); (try conv => cbv))
      | (refine subI hE (fun _ _ => ?_); (try conv => cbv))
      | (refine lenL hE (by assumption) (fun _ _ _ => ?_); (try conv => cbv))
      | (refine idxL hE (by assumption) (by first | omega | (simp only [List.length_set, mix_len]; omega)) (fun _ _ => ?_); (try conv => cbv))
      | (refine idxFill hE (by assumption) (by omega) ?_; (try conv => cbv))
      | (refine idxI hE (by decide) (by rfl) ?_; (try conv => cbv))
      | (refine iteB (fun _ => ?_) (fun _ => ?_) <;> (try conv => cbv))
      | (refine maxI hE (fun _ _ => ?_); (try conv => cbv))
      | (refine minI hE (fun _ _ => ?_); (try conv => cbv))
      | (refine seqI hE (fun _ => ?_) (fun _ => ?_) <;> (try conv => cbv))
      | (refine scatI hE (by first | omega | (simp only [ByteArray.size, Array.size, List.length_cons, List.length_nil] at *; omega)) (fun _ _ _ => ?_); (try conv => cbv))
      | (refine slenI hE (fun _ _ _ => ?_); (try conv => cbv))
      | (refine sidxI hE (by omega) (fun _ _ _ _ => ?_); (try conv => cbv))
      | (refine needI hE (by first | decide | omega) ?_; (try conv => cbv))
      | (refine rem64 hE (by omega) (fun _ _ => ?_); (try conv => cbv))
      | (refine quo64 hE (by omega) (fun _ _ => ?_); (try conv => cbv))
      | (refine wrapU8 hE (by omega) (fun _ _ => ?_); (try conv => cbv))
      | (refine wrap64 hE (by omega) (fun _ _ => ?_); (try conv => cbv))
    · refine hinv.succ ?_ (by assumption); grind
    · omega
    · refine finB hK (bP_false.2 fun h => ?_); grind
    · exact finB hK (bP_true.2 (list_eq_of (by omega) hinv (by omega)))
  · refine finB hK (bP_false.2 fun h => ?_); subst h; omega
theorem toFindingS_ {rs : List (List AV)} {t : Bool} {l : List Fnd} (hl : rs = l.map Fnd.cs) (hb0 : l.length ≤ 1048576) : AC Try.prog 26 [.sl t 3 rs] (fun l : List Fnd => .sl true 3 (l.map Fnd.cs)) l := by
  refine ac Try.func26 (by kernel_rfl) (.rows .fnd) fun E K hE hK => ?_
  conv => cbv
  refine lenL hE hl fun n hn hb => ?_
  conv => cbv
  refine makeL hE (l := l) Fnd.cs hn rfl (by omega) fun es hes => ?_
  conv => cbv
  refine loopK hE (ι := Int × List (List AV)) [0, 3, 4] (fun p => ⟨reF _ [(0, .sl t 3 rs), (3, .ob 0), (4, .int .i64 p.1)], [.row 3 p.2]⟩) (fun p => (l.length - p.1).toNat) (fun p => 0 ≤ p.1 ∧ p.2 = fillRow Fnd.cs [.int .i64 0, .str ⟨#[]⟩, .str ⟨#[]⟩] l p.1) [0] (by decide) (0, es) rfl ⟨by simp, hes⟩ fun p hi Kn hN => ?_
  obtain ⟨i, es'⟩ := p
  obtain ⟨h0, hinv⟩ := hi
  simp only at h0 hinv
  conv => cbv
  repeat' first
    | (refine idxV hE (by assumption) (by omega) (by assumption) ?_; (try conv => cbv))
    | (refine idxL (R := Fnd.cs) hE (by assumption) (by first | omega | (simp only [List.length_set, mix_len]; omega)) ?_; rintro ⟨⟩ _; (try conv => cbv))
    | (refine callI hE (toFinding_ _ _ _) (fun _ hy => ?_); subst hy; (try conv => cbv))
    | (refine updFill (R := Fnd.cs) hE (by assumption) (by omega) (by assumption) (by exact Nat.le_refl _) (by rfl) (fun _ _ => ?_); (try conv => cbv))
    | ( refine hN (_, _) _ [0] (by decide) rfl ⟨?_, ?_⟩ ?_)
    | (refine ltT hE (by omega) ?_; (try conv => cbv))
    | (refine ltF hE (by omega) ?_; (try conv => cbv))
    | (refine ltI hE (fun _ => ?_) (fun _ => ?_) <;> (try conv => cbv))
    | (refine leT hE (by omega) ?_; (try conv => cbv))
    | (refine leF hE (by omega) ?_; (try conv => cbv))
    | (refine leI hE (fun _ => ?_) (fun _ => ?_) <;> (try conv => cbv))
    | (refine eqT hE (by omega) ?_; (try conv => cbv))
    | (refine eqF hE (by omega) ?_; (try conv => cbv))
    | (refine eqI hE (fun _ => ?_) (fun _ => ?_) <;> (try conv => cbv))
    | (refine add64 hE (by omega) (fun _ _ => ?_); (try conv => cbv))
    | (refine sub64 hE (by omega) (fun _ _ => ?_); (try conv => cbv))
    | (refine addI hE (fun _ _ => ?_); (try conv => cbv))
    | (refine subI hE (fun _ _ => ?_); (try conv => cbv))
    | (refine lenL hE (by assumption) (fun _ _ _ => ?_); (try conv => cbv))
    | (refine idxL hE (by assumption) (by first | omega | (simp only [List.length_set, mix_len]; omega)) (fun _ _ => ?_); (try conv => cbv))
    | (refine idxFill hE (by assumption) (by omega) ?_; (try conv => cbv))
    | (refine idxI hE (by decide) (by rfl) ?_; (try conv => cbv))
    | (refine iteB (fun _ => ?_) (fun _ => ?_) <;> (try conv => cbv))
    | (refine maxI hE (fun _ _ => ?_); (try conv => cbv))
    | (refine minI hE (fun _ _ => ?_); (try conv => cbv))
    | (refine seqI hE (fun _ => ?_) (fun _ => ?_) <;> (try conv => cbv))
    | (refine scatI hE (by first | omega | (simp only [ByteArray.size, Array.size, List.length_cons, List.length_nil] at *; omega)) (fun _ _ _ => ?_); (try conv => cbv))
    | (refine slenI hE (fun _ _ _ => ?_); (try conv => cbv))
    | (refine sidxI hE (by omega) (fun _ _ _ _ => ?_); (try conv => cbv))
    | (refine needI hE (by first | decide | omega) ?_; (try conv => cbv))
    | (refine rem64 hE (by omega) (fun _ _ => ?_); (try conv => cbv))
    | (refine quo64 hE (by omega) (fun _ _ => ?_); (try conv => cbv))
    | (refine wrapU8 hE (by omega) (fun _ _ => ?_); (try conv => cbv))
    | (refine wrap64 hE (by omega) (fun _ _ => ?_); (try conv => cbv))
  · omega
  · grind
  · omega
  · refine hK _ ?_
    rw [hinv, fillRow_all (by omega)]; rfl
def stepF (c : List Int) (f : Fnd) : List Int := if 1 ≤ f.kind ∧ f.kind ≤ 8 then (c.set f.kind.toNat (c.getD f.kind.toNat 0 + 1)).set 0 (c.getD 0 0 + 1) else c
def counts (l : List Fnd) : List Int := l.foldl stepF (List.replicate 9 0)
def CntOk (c : List Int) (i : Int) : Prop := c.length = 9 ∧ ∀ v ∈ c, 0 ≤ v ∧ v ≤ i
theorem stepF_ok {c : List Int} {i : Int} {f : Fnd} (h : CntOk c i) : CntOk (stepF c f) (i + 1) := by
  obtain ⟨h1, h2⟩ := h
  unfold stepF
  split
  · refine ⟨by simp [h1], fun v hv => ?_⟩
    have g : ∀ j, j < 9 → 0 ≤ c.getD j 0 ∧ c.getD j 0 ≤ i := fun j hj => by
      rw [List.getD_eq_getElem?_getD, List.getElem?_eq_getElem (by omega)]
      exact h2 _ (List.getElem_mem _)
    rcases List.mem_or_eq_of_mem_set hv with hv | rfl
    · rcases List.mem_or_eq_of_mem_set hv with hv | rfl
      · have := h2 v hv; omega
      · have := g f.kind.toNat (by omega); omega
    · have := g 0 (by omega); omega
  · exact ⟨h1, fun v hv => by have := h2 v hv; omega⟩
theorem counts_ok (l : List Fnd) : CntOk (counts l) l.length := by
  have : ∀ (l : List Fnd) (c : List Int) (i : Int), CntOk c i → CntOk (l.foldl stepF c) (i + l.length) := by
    intro l
    induction l with
    | nil => intro c i h; simpa using h
    | cons f l ih =>
      intro c i h
      have := ih _ _ (stepF_ok (f := f) h)
      simp only [List.foldl_cons, List.length_cons]
      rw [show i + ((l.length + 1 : Nat) : Int) = i + 1 + l.length by omega]
      exact this
  have := this l (List.replicate 9 0) 0 ⟨rfl, fun v hv => by have := List.eq_of_mem_replicate hv; omega⟩
  simpa [counts] using this
theorem counts_take {l : List Fnd} {i : Int} {f : Fnd} (h0 : 0 ≤ i) (h : l[i.toNat]? = some f) : counts (l.take (i + 1).toNat) = stepF (counts (l.take i.toNat)) f := by
  rw [show (i + 1).toNat = i.toNat + 1 by omega, List.take_add_one, h]
  simp [counts]
theorem stepF_s {c : List Int} {i : Int} {f : Fnd} {v v0 n1 n2 : Int} (hc : CntOk c i) (hi : i ≤ 1048576) (hf : 1 ≤ f.kind ∧ f.kind ≤ 8) (h1 : c[f.kind.toNat]? = some v) (h2 : (c.set f.kind.toNat n1)[0]? = some v0) (e1 : n1 = IntKind.i64.wrap (v + 1)) (e2 : n2 = IntKind.i64.wrap (v0 + 1)) :
    (c.set f.kind.toNat n1).set 0 n2 = stepF c f := by
  have hk : f.kind.toNat ≠ 0 := by omega
  rw [List.getElem?_set, if_neg hk] at h2
  have b1 := hc.2 v (List.mem_of_getElem? h1)
  have b2 := hc.2 v0 (List.mem_of_getElem? h2)
  rw [IntWalk.i64_in _ ⟨by omega, by omega⟩] at e1 e2
  unfold stepF
  rw [if_pos hf, List.getD_eq_getElem?_getD, List.getD_eq_getElem?_getD, h1, h2, e1, e2]; rfl
theorem stepF_i {c : List Int} {i : Int} {f : Fnd} {v v0 n1 n2 : Int} (hc : CntOk c i) (hi : i ≤ 1048576) (hf : 1 ≤ f.kind ∧ f.kind ≤ 8) (h1 : c[0]? = some v) (h2 : (c.set 0 n1)[f.kind.toNat]? = some v0) (e1 : n1 = IntKind.i64.wrap (v + 1)) (e2 : n2 = IntKind.i64.wrap (v0 + 1)) :
    (c.set 0 n1).set f.kind.toNat n2 = stepF c f := by
  have hk : 0 ≠ f.kind.toNat := by omega
  rw [List.getElem?_set, if_neg hk] at h2
  have b1 := hc.2 v (List.mem_of_getElem? h1)
  have b2 := hc.2 v0 (List.mem_of_getElem? h2)
  rw [IntWalk.i64_in _ ⟨by omega, by omega⟩] at e1 e2
  unfold stepF
  rw [if_pos hf, List.getD_eq_getElem?_getD, List.getD_eq_getElem?_getD, h1, h2, e1, e2, List.set_comm _ _ hk]; rfl
end Go.Proofs.Ytdmckfdecbhalaa
