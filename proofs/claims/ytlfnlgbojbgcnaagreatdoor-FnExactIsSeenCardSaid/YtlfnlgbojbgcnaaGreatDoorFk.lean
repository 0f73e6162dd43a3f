/- Contracts: lists of lists of integers; the greatest delay. -/
import Derived.Test.YtlfnlgbojbgcnaaGreatDoorFh
namespace Go.Proofs.YtlfnlgbojbgcnaaGreatDoor
open Go Go.RowKit Classical
set_option maxRecDepth 100000
set_option maxHeartbeats 2000000
set_option linter.unusedVariables false
set_option linter.unusedSimpArgs false
def llR (b : Bool) (x : List Int) : List AV := [.sl b 1 (x.map intR)]
theorem NoB.lls (l : List (List Int)) : NoB (.sl true 1 (l.map (llR true))) := .rows fun v => .aggC (.ints _) .agg0
theorem idxLL {E : Env} {np : Nat} {P : Program} (hE : E = stdE np P) {es : List (List AV)} {i : Int} {K : List AV → Prop} {l : List (List Int)} {b : Bool} (hl : es = l.map (llR b)) (h0 : 0 ≤ i ∧ i < l.length) (hk : ∀ x rx, l[i.toNat]? = some x → rx = x.map intR → K [.sl b 1 rx]) : E.idx es i K :=
  idxL hE hl h0 fun v hv => hk v _ hv rfl
theorem idxLV {E : Env} {np : Nat} {P : Program} (hE : E = stdE np P) {es rx : List (List AV)} {i : Int} {K : List AV → Prop} {l : List (List Int)} {b : Bool} {x : List Int} (hl : es = l.map (llR b)) (h0 : 0 ≤ i) (hx : l[i.toNat]? = some x) (hr : rx = x.map intR) (hk : K [.sl b 1 rx]) : E.idx es i K :=
  idxV hE hl h0 hx (by rw [llR, ← hr]; exact hk)
theorem szInt64S_ {rs : List (List AV)} {t : Bool} {l : List Int} (n : Int) (hl : rs = l.map intR) (hn : 0 ≤ n ∧ n ≤ 1048576) : AC Tryz.prog 77 [.sl t 1 rs, .int .i64 n] (AV.int .i64) (szN n l.length) := by
  refine ac Tryz.func77 (by kernel_rfl) (.int _ _) fun E K hE hK => ?_
  conv => cbv
  repeat' first
    | ((first
     | refine idxV hE (by assumption) (by omega) (by assumption) ?_
     | refine ltT hE (by omega) ?_
     | refine ltF hE (by omega) ?_
     | refine ltI hE (fun _ => ?_) (fun _ => ?_)
     | refine leT hE (by omega) ?_
     | refine leF hE (by omega) ?_
     | refine leI hE (fun _ => ?_) (fun _ => ?_)
     | refine eqT hE (by omega) ?_
     | refine eqF hE (by omega) ?_
     | refine eqI hE (fun _ => ?_) (fun _ => ?_)
     | refine add64 hE (by omega) (fun _ _ => ?_)
     | refine sub64 hE (by omega) (fun _ _ => ?_)
     | refine addI hE (fun _ _ => ?_)
     | refine subI hE (fun _ _ => ?_)
     | refine lenL hE (by assumption) (fun _ _ _ => ?_)
     | refine len0 hE (fun _ _ => ?_)
     | refine idxL hE (by assumption) (by first | omega | (simp only [List.length_set, mix_len]; omega)) (fun _ _ => ?_)
     | refine idxFill hE (by assumption) (by omega) ?_
     | refine idxI hE (by decide) (by rfl) ?_
     | refine iteB (fun _ => ?_) (fun _ => ?_)
     | refine maxI hE (fun _ _ => ?_)
     | refine minI hE (fun _ _ => ?_)
     | refine seqI hE (fun _ => ?_) (fun _ => ?_)
     | refine scatI hE (by first | omega | (simp only [ByteArray.size, Array.size, List.length_cons, List.length_nil] at *; omega)) (fun _ _ _ => ?_)
     | refine slenI hE (fun _ _ _ => ?_)
     | refine sidxI hE (by omega) (fun _ _ _ _ => ?_)
     | refine needI hE (by first | decide | omega) ?_
     | refine rem64 hE (by omega) (fun _ _ => ?_)
     | refine quo64 hE (by omega) (fun _ _ => ?_)
     | refine wrapU8 hE (by omega) (fun _ _ => ?_)
     | refine wrap64 hE (by omega) (fun _ _ => ?_)
     | refine noownI hE (by simp [AV.isOwn]) ?_) <;> (try conv => cbv))
  all_goals (try clear hN)
  all_goals (refine hK _ ?_; first | (simp only [atup]; grind [szN]) | (simp_all [atup, szN]; done))
def szLs : List (List Int) → Int → Int
  | [], n => n
  | x :: l, n => if szN n x.length < 0 then -1 else szLs l (szN n x.length)
theorem szLs_drop {l : List (List Int)} {i : Nat} {x : List Int} (h : l[i]? = some x) (n : Int) : szLs (l.drop i) n = if szN n x.length < 0 then -1 else szLs (l.drop (i + 1)) (szN n x.length) := by
  have hi := (List.getElem?_eq_some_iff.1 h).1
  rw [List.drop_eq_getElem_cons hi, szLs, (List.getElem?_eq_some_iff.1 h).2]
theorem szN_max (n : Int) (k : Nat) : szN n k ≤ max (-1) n ∧ (¬ szN n k < 0 → (k : Int) ≤ n) := by unfold szN; split <;> omega
theorem szLs_all : ∀ {l : List (List Int)} {n : Int}, 0 ≤ n → ¬ szLs l n < 0 → ∀ x ∈ l, (x.length : Int) ≤ n
  | [], _, _, _, x, hx => by simp at hx
  | y :: l, n, h0, h, x, hx => by
    unfold szLs at h
    have := szN_max n y.length
    split at h
    · omega
    · rename_i h2
      rcases List.mem_cons.1 hx with rfl | hx
      · exact this.2 h2
      · have := szLs_all (by omega) h x hx; omega
theorem toInt64S_ {rs : List (List AV)} {t : Bool} {l : List Int} (hl : rs = l.map intR) (hb0 : l.length ≤ 1048576) : AC Tryz.prog 91 [.sl t 1 rs] (fun l : List Int => .sl true 1 (l.map intR)) l := by
  refine ac Tryz.func91 (by kernel_rfl) (.ints _) fun E K hE hK => ?_
  conv => cbv
  refine lenL hE hl fun n hn hb => ?_
  conv => cbv
  refine makeL hE (l := l) intR hn rfl (by omega) fun es hes => ?_
  conv => cbv
  refine loopK hE (ι := Int × List (List AV)) [0, 3, 4] (fun p => ⟨reF _ [(0, .sl t 1 rs), (3, .ob 0), (4, .int .i64 p.1)], [.row 1 p.2]⟩) (fun p => (l.length - p.1).toNat) (fun p => 0 ≤ p.1 ∧ p.2 = fillRow intR [.int .i64 0] l p.1) [0] (by decide) (0, es) rfl ⟨by simp, hes⟩ fun p hi Kn hN => ?_
  obtain ⟨i, es'⟩ := p
  obtain ⟨h0, hinv⟩ := hi
  simp only at h0 hinv
  conv => cbv
  repeat' first
    | (refine updFill (R := intR) hE (by assumption) (by omega) (by assumption) (by exact Nat.le_refl _) (by rfl) (fun _ _ => ?_); (try conv => cbv))
    | ( refine hN (_, _) _ [0] (by decide) rfl ⟨?_, ?_⟩ ?_)
    | ((first
     | refine idxV hE (by assumption) (by omega) (by assumption) ?_
     | refine ltT hE (by omega) ?_
     | refine ltF hE (by omega) ?_
     | refine ltI hE (fun _ => ?_) (fun _ => ?_)
     | refine leT hE (by omega) ?_
     | refine leF hE (by omega) ?_
     | refine leI hE (fun _ => ?_) (fun _ => ?_)
     | refine eqT hE (by omega) ?_
     | refine eqF hE (by omega) ?_
     | refine eqI hE (fun _ => ?_) (fun _ => ?_)
     | refine add64 hE (by omega) (fun _ _ => ?_)
     | refine sub64 hE (by omega) (fun _ _ => ?_)
     | refine addI hE (fun _ _ => ?_)
     | refine subI hE (fun _ _ => ?_)
     | refine lenL hE (by assumption) (fun _ _ _ => ?_)
     | refine len0 hE (fun _ _ => ?_)
     | refine idxL hE (by assumption) (by first | omega | (simp only [List.length_set, mix_len]; omega)) (fun _ _ => ?_)
     | refine idxFill hE (by assumption) (by omega) ?_
     | refine idxI hE (by decide) (by rfl) ?_
     | refine iteB (fun _ => ?_) (fun _ => ?_)
     | refine maxI hE (fun _ _ => ?_)
     | refine minI hE (fun _ _ => ?_)
     | refine seqI hE (fun _ => ?_) (fun _ => ?_)
     | refine scatI hE (by first | omega | (simp only [ByteArray.size, Array.size, List.length_cons, List.length_nil] at *; omega)) (fun _ _ _ => ?_)
     | refine slenI hE (fun _ _ _ => ?_)
     | refine sidxI hE (by omega) (fun _ _ _ _ => ?_)
     | refine needI hE (by first | decide | omega) ?_
     | refine rem64 hE (by omega) (fun _ _ => ?_)
     | refine quo64 hE (by omega) (fun _ _ => ?_)
     | refine wrapU8 hE (by omega) (fun _ _ => ?_)
     | refine wrap64 hE (by omega) (fun _ _ => ?_)
     | refine noownI hE (by simp [AV.isOwn]) ?_) <;> (try conv => cbv))
  · omega
  · grind
  · omega
  · refine hK _ ?_
    rw [hinv, fillRow_all (by omega)]; rfl
theorem eqInt64SS_ {rs rs' : List (List AV)} {t t' b b' : Bool} {l m : List (List Int)} (hl : rs = l.map (llR b)) (hm : rs' = m.map (llR b')) : AC Tryz.prog 33 [.sl t 1 rs, .sl t' 1 rs'] AV.bool (bP (l = m)) := by
  refine ac Tryz.func33 (by kernel_rfl) (.bool _) fun E K hE hK => ?_
  conv => cbv
  refine lenL hE hl fun n hn hb => ?_
  conv => cbv
  refine lenL hE hm fun n' hn' hb' => ?_
  conv => cbv
  refine eqI hE (fun he => ?_) (fun he => ?_) <;> conv => cbv
  · refine loopK hE (ι := Int) [0, 1, 5] (fun i => ⟨reF _ [(0, .sl t 1 rs), (1, .sl t' 1 rs'), (5, .int .i64 i)], []⟩) (fun i => (l.length - i).toNat) (fun i => 0 ≤ i ∧ Up (fun j => l[j]? = m[j]?) i) [] (by decide) 0 rfl ⟨by omega, .zero (by omega)⟩ fun i hi Kn hN => ?_
    obtain ⟨h0, hinv⟩ := hi
    conv => cbv
    repeat' first
      | (refine idxLL hE (by assumption) (by omega) (fun x _ hx _ => ?_); (try conv => cbv))
      | ( refine hN _ _ [] (by decide) rfl ⟨by omega, ?_⟩ ?_)
      | ((first
       | refine idxV hE (by assumption) (by omega) (by assumption) ?_
       | refine callP hE (eqInt64S_ (by assumption) (by assumption)) (fun _ => ?_) (fun _ => ?_)
       | refine ltT hE (by omega) ?_
       | refine ltF hE (by omega) ?_
       | refine ltI hE (fun _ => ?_) (fun _ => ?_)
       | refine leT hE (by omega) ?_
       | refine leF hE (by omega) ?_
       | refine leI hE (fun _ => ?_) (fun _ => ?_)
       | refine eqT hE (by omega) ?_
       | refine eqF hE (by omega) ?_
       | refine eqI hE (fun _ => ?_) (fun _ => ?_)
       | refine add64 hE (by omega) (fun _ _ => ?_)
       | refine sub64 hE (by omega) (fun _ _ => ?_)
       | refine addI hE (fun _ _ => ?_)
       | refine subI hE (fun _ _ => ?_)
       | refine lenL hE (by assumption) (fun _ _ _ => ?_)
       | refine len0 hE (fun _ _ => ?_)
       | refine idxL hE (by assumption) (by first | omega | (simp only [List.length_set, mix_len]; omega)) (fun _ _ => ?_)
       | refine idxFill hE (by assumption) (by omega) ?_
       | refine idxI hE (by decide) (by rfl) ?_
       | refine iteB (fun _ => ?_) (fun _ => ?_)
       | refine maxI hE (fun _ _ => ?_)
       | refine minI hE (fun _ _ => ?_)
       | refine seqI hE (fun _ => ?_) (fun _ => ?_)
       | refine scatI hE (by first | omega | (simp only [ByteArray.size, Array.size, List.length_cons, List.length_nil] at *; omega)) (fun _ _ _ => ?_)
       | refine slenI hE (fun _ _ _ => ?_)
       | refine sidxI hE (by omega) (fun _ _ _ _ => ?_)
       | refine needI hE (by first | decide | omega) ?_
       | refine rem64 hE (by omega) (fun _ _ => ?_)
       | refine quo64 hE (by omega) (fun _ _ => ?_)
       | refine wrapU8 hE (by omega) (fun _ _ => ?_)
       | refine wrap64 hE (by omega) (fun _ _ => ?_)
       | refine noownI hE (by simp [AV.isOwn]) ?_) <;> (try conv => cbv))
    · refine hinv.succ ?_ (by assumption); grind
    · omega
    · refine finB hK (bP_false.2 fun h => ?_); grind
    · exact finB hK (bP_true.2 (list_eq_of (by omega) hinv (by omega)))
  · refine finB hK (bP_false.2 fun h => ?_); subst h; omega
end Go.Proofs.YtlfnlgbojbgcnaaGreatDoor
