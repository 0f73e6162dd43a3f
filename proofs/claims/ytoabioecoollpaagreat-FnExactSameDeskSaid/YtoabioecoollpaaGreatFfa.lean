/- Contracts: faults. -/
import Derived.Test.YtoabioecoollpaaGreatFnm
namespace Go.Proofs.YtoabioecoollpaaGreat
open Go Go.RowKit Classical
set_option maxRecDepth 100000
set_option maxHeartbeats 2000000
set_option linter.unusedVariables false
set_option linter.unusedSimpArgs false
structure Fau where
  aid : Int
  kind : Int
  frm : Int
  til : Int
def Fau.cs (v : Fau) : List AV := [.int .i64 v.aid, .int .i64 v.kind, .int .i64 v.frm, .int .i64 v.til]
theorem NoB.oFau (v : Fau) : NoB (.agg v.cs) := (.aggC (.int _ _) (.aggC (.int _ _) (.aggC (.int _ _) (.aggC (.int _ _) .agg0))))
theorem Fau.nown (l : List Fau) : ∀ e ∈ l.map Fau.cs, ∀ c ∈ e, c.isOwn = false := fun e he c hc => by
  obtain ⟨v, _, rfl⟩ := List.mem_map.1 he
  simp only [Fau.cs, List.mem_cons, List.not_mem_nil, or_false] at hc
  rcases hc with rfl | rfl | rfl | rfl <;> rfl
theorem szFaultS_ {rs : List (List AV)} {t : Bool} {l : List Fau} (n : Int) (hl : rs = l.map Fau.cs) (hn : 0 ≤ n ∧ n ≤ 1048576) : AC Tryz.prog 10 [.sl t 4 rs, .int .i64 n] (AV.int .i64) (szN n l.length) := by
  refine ac Tryz.func10 (by kernel_rfl) (.int _ _) fun E K hE hK => ?_
  conv => cbv
  repeat' first
    | ((first
     | refine idxV hE (by assumption) (by omega) (by assumption) ?_
     | refine ltT hE (by omega) ?_
     | refine ltF hE (by omega) ?_
     | refine ltI hE (fun _ => ?_) (fun _ => ?_)
     | refine leT hE (by omega) ?_
     | refine leF hE (by omega) ?_
     | refine leI hE (fun _ => ?_) (fun _ => ?_)
     | refine eqT hE (by omega) ?_
     | refine eqF hE (by omega) ?_
     | refine eqI hE (fun _ => ?_) (fun _ => ?_)
     | refine add64 hE (by omega) (fun _ _ => ?_)
     | refine sub64 hE (by omega) (fun _ _ => ?_)
     | refine addI hE (fun _ _ => ?_)
     | refine subI hE (fun _ _ => ?_)
     | refine lenL hE (by assumption) (fun _ _ _ => ?_)
     | refine len0 hE (fun _ _ => ?_)
     | refine idxL hE (by assumption) (by first | omega | (simp only [List.length_set, mix_len]; omega)) (fun _ _ => ?_)
     | refine idxFill hE (by assumption) (by omega) ?_
     | refine idxI hE (by decide) (by rfl) ?_
     | refine iteB (fun _ => ?_) (fun _ => ?_)
     | refine maxI hE (fun _ _ => ?_)
     | refine minI hE (fun _ _ => ?_)
     | refine seqI hE (fun _ => ?_) (fun _ => ?_)
     | refine scatI hE (by first | omega | (simp only [ByteArray.size, Array.size, List.length_cons, List.length_nil] at *; omega)) (fun _ _ _ => ?_)
     | refine slenI hE (fun _ _ _ => ?_)
     | refine sidxI hE (by omega) (fun _ _ _ _ => ?_)
     | refine needI hE (by first | decide | omega) ?_
     | refine rem64 hE (by omega) (fun _ _ => ?_)
     | refine quo64 hE (by omega) (fun _ _ => ?_)
     | refine wrapU8 hE (by omega) (fun _ _ => ?_)
     | refine wrap64 hE (by omega) (fun _ _ => ?_)
     | refine noownI hE (by simp [AV.isOwn]) ?_) <;> (try conv => cbv))
  all_goals (try clear hN)
  all_goals (refine hK _ ?_; first | (simp only [atup]; grind [szN]) | (simp_all [atup, szN]; done))
theorem toFault_ (aid : Int) (kind : Int) (frm : Int) (til : Int) : AC Tryz.prog 57 [.agg [.int .i64 aid, .int .i64 kind, .int .i64 frm, .int .i64 til]] (fun v : Fau => .agg v.cs) ⟨aid, kind, frm, til⟩ := by
  refine ac Tryz.func57 (by kernel_rfl) (.oFau _) fun E K hE hK => ?_
  conv => cbv
  exact hK _ rfl
theorem toFaultS_ {rs : List (List AV)} {t : Bool} {l : List Fau} (hl : rs = l.map Fau.cs) (hb0 : l.length ≤ 1048576) : AC Tryz.prog 20 [.sl t 4 rs] (fun l : List Fau => .sl true 4 (l.map Fau.cs)) l := by
  refine ac Tryz.func20 (by kernel_rfl) (.rows .oFau) fun E K hE hK => ?_
  conv => cbv
  refine lenL hE hl fun n hn hb => ?_
  conv => cbv
  refine makeL hE (l := l) Fau.cs hn rfl (by omega) fun es hes => ?_
  conv => cbv
  refine loopC hE (ι := Int × (List (List AV))) [0] [4, 3] (fun q => (fun (i : Int) (es' : List (List AV)) => [(4, .int .i64 i), (3, .ob 0)]) q.1 q.2) (fun q => (fun (i : Int) (es' : List (List AV)) => [.row 4 es']) q.1 q.2) (fun q => (fun (i : Int) (es' : List (List AV)) => (l.length - i).toNat) q.1 q.2) (fun q => (fun (i : Int) (es' : List (List AV)) => 0 ≤ i ∧ es' = fillRow Fau.cs [.int .i64 0, .int .i64 0, .int .i64 0, .int .i64 0] l i) q.1 q.2) [0] (by decide) ((0, es)) (by conv => lhs; cbv) (by conv => lhs; cbv) rfl rfl (by dsimp only; exact ⟨by omega, hes⟩) fun q hi Kn hN => ?_
  obtain ⟨i, es'⟩ := q
  (try dsimp only at hi)
  conv => cbv
  obtain ⟨h0, hinv⟩ := hi
  repeat' first
    | (refine hN (_, _) _ [0] (by decide) rfl ⟨?_, ?_⟩ ?_ <;> (try dsimp only))
    | ((first
     | refine idxV hE (by assumption) (by omega) (by assumption) ?_
     | (refine idxL (R := Fau.cs) hE (by assumption) (by first | omega | (simp only [List.length_set, mix_len]; omega)) ?_; rintro ⟨⟩ _)
     | (refine callI hE (toFault_ _ _ _ _) (fun _ hy => ?_); subst hy)
     | refine updFill (R := Fau.cs) hE (by assumption) (by omega) (by assumption) (by exact Nat.le_refl _) (by rfl) (fun _ _ => ?_)
     | refine ltT hE (by omega) ?_
     | refine ltF hE (by omega) ?_
     | refine ltI hE (fun _ => ?_) (fun _ => ?_)
     | refine leT hE (by omega) ?_
     | refine leF hE (by omega) ?_
     | refine leI hE (fun _ => ?_) (fun _ => ?_)
     | refine eqT hE (by omega) ?_
     | refine eqF hE (by omega) ?_
     | refine eqI hE (fun _ => ?_) (fun _ => ?_)
     | refine add64 hE (by omega) (fun _ _ => ?_)
     | refine sub64 hE (by omega) (fun _ _ => ?_)
     | refine addI hE (fun _ _ => ?_)
     | refine subI hE (fun _ _ => ?_)
     | refine lenL hE (by assumption) (fun _ _ _ => ?_)
     | refine len0 hE (fun _ _ => ?_)
     | refine idxL hE (by assumption) (by first | omega | (simp only [List.length_set, mix_len]; omega)) (fun _ _ => ?_)
     | refine idxFill hE (by assumption) (by omega) ?_
     | refine idxI hE (by decide) (by rfl) ?_
     | refine iteB (fun _ => ?_) (fun _ => ?_)
     | refine maxI hE (fun _ _ => ?_)
     | refine minI hE (fun _ _ => ?_)
     | refine seqI hE (fun _ => ?_) (fun _ => ?_)
     | refine scatI hE (by first | omega | (simp only [ByteArray.size, Array.size, List.length_cons, List.length_nil] at *; omega)) (fun _ _ _ => ?_)
     | refine slenI hE (fun _ _ _ => ?_)
     | refine sidxI hE (by omega) (fun _ _ _ _ => ?_)
     | refine needI hE (by first | decide | omega) ?_
     | refine rem64 hE (by omega) (fun _ _ => ?_)
     | refine quo64 hE (by omega) (fun _ _ => ?_)
     | refine wrapU8 hE (by omega) (fun _ _ => ?_)
     | refine wrap64 hE (by omega) (fun _ _ => ?_)
     | refine noownI hE (by simp [AV.isOwn]) ?_) <;> (try conv => cbv))
  · omega
  · subst_vars; rfl
  · omega
  · refine hK _ ?_
    rw [hinv, fillRow_all (by omega)]; rfl
theorem eqFault_ (aid : Int) (kind : Int) (frm : Int) (til : Int) (aid' : Int) (kind' : Int) (frm' : Int) (til' : Int) : AC Tryz.prog 79 [.agg [.int .i64 aid, .int .i64 kind, .int .i64 frm, .int .i64 til], .agg [.int .i64 aid', .int .i64 kind', .int .i64 frm', .int .i64 til']] AV.bool (bP ((Fau.mk aid kind frm til) = (Fau.mk aid' kind' frm' til'))) := by
  refine ac Tryz.func79 (by kernel_rfl) (.bool _) fun E K hE hK => ?_
  conv => cbv
  repeat' first
    | ((first
     | refine idxV hE (by assumption) (by omega) (by assumption) ?_
     | refine ltT hE (by omega) ?_
     | refine ltF hE (by omega) ?_
     | refine ltI hE (fun _ => ?_) (fun _ => ?_)
     | refine leT hE (by omega) ?_
     | refine leF hE (by omega) ?_
     | refine leI hE (fun _ => ?_) (fun _ => ?_)
     | refine eqT hE (by omega) ?_
     | refine eqF hE (by omega) ?_
     | refine eqI hE (fun _ => ?_) (fun _ => ?_)
     | refine add64 hE (by omega) (fun _ _ => ?_)
     | refine sub64 hE (by omega) (fun _ _ => ?_)
     | refine addI hE (fun _ _ => ?_)
     | refine subI hE (fun _ _ => ?_)
     | refine lenL hE (by assumption) (fun _ _ _ => ?_)
     | refine len0 hE (fun _ _ => ?_)
     | refine idxL hE (by assumption) (by first | omega | (simp only [List.length_set, mix_len]; omega)) (fun _ _ => ?_)
     | refine idxFill hE (by assumption) (by omega) ?_
     | refine idxI hE (by decide) (by rfl) ?_
     | refine iteB (fun _ => ?_) (fun _ => ?_)
     | refine maxI hE (fun _ _ => ?_)
     | refine minI hE (fun _ _ => ?_)
     | refine seqI hE (fun _ => ?_) (fun _ => ?_)
     | refine scatI hE (by first | omega | (simp only [ByteArray.size, Array.size, List.length_cons, List.length_nil] at *; omega)) (fun _ _ _ => ?_)
     | refine slenI hE (fun _ _ _ => ?_)
     | refine sidxI hE (by omega) (fun _ _ _ _ => ?_)
     | refine needI hE (by first | decide | omega) ?_
     | refine rem64 hE (by omega) (fun _ _ => ?_)
     | refine quo64 hE (by omega) (fun _ _ => ?_)
     | refine wrapU8 hE (by omega) (fun _ _ => ?_)
     | refine wrap64 hE (by omega) (fun _ _ => ?_)
     | refine noownI hE (by simp [AV.isOwn]) ?_) <;> (try conv => cbv))
  all_goals first | (refine finB hK (bP_true.2 ?_); simp only [Fau.mk.injEq, Pnt.mk.injEq] at *; simp_all; done) | (refine finB hK (bP_false.2 ?_); simp only [Fau.mk.injEq, Pnt.mk.injEq] at *; simp_all; done)
theorem eqFaultS_ {rs rs' : List (List AV)} {t t' : Bool} {l m : List Fau} (hl : rs = l.map Fau.cs) (hm : rs' = m.map Fau.cs) : AC Tryz.prog 30 [.sl t 4 rs, .sl t' 4 rs'] AV.bool (bP (l = m)) := by
  refine ac Tryz.func30 (by kernel_rfl) (.bool _) fun E K hE hK => ?_
  conv => cbv
  refine lenL hE hl fun n hn hb => ?_
  conv => cbv
  refine lenL hE hm fun n' hn' hb' => ?_
  conv => cbv
  refine eqI hE (fun he => ?_) (fun he => ?_) <;> conv => cbv
  · refine loopC hE (ι := Int) [0, 1] [5] (fun q => (fun (i : Int) => [(5, .int .i64 i)]) q) (fun q => (fun (i : Int) => []) q) (fun q => (fun (i : Int) => (l.length - i).toNat) q) (fun q => (fun (i : Int) => 0 ≤ i ∧ Up (fun j => l[j]? = m[j]?) i) q) [] (by decide) (0) (by conv => lhs; cbv) (by conv => lhs; cbv) rfl rfl (by dsimp only; exact ⟨by omega, .zero (by omega)⟩) fun i hi Kn hN => ?_
    (try dsimp only at hi)
    conv => cbv
    obtain ⟨h0, hinv⟩ := hi
    repeat' first
      | (refine hN _ _ [] (by decide) rfl ⟨?_, ?_⟩ ?_ <;> (try dsimp only))
      | ((first
       | refine idxV hE (by assumption) (by omega) (by assumption) ?_
       | refine callP hE (eqFault_ _ _ _ _ _ _ _ _) (fun _ => ?_) (fun _ => ?_)
       | (refine idxL (R := Fau.cs) hE (by assumption) (by first | omega | (simp only [List.length_set, mix_len]; omega)) ?_; rintro ⟨⟩ _)
       | refine ltT hE (by omega) ?_
       | refine ltF hE (by omega) ?_
       | refine ltI hE (fun _ => ?_) (fun _ => ?_)
       | refine leT hE (by omega) ?_
       | refine leF hE (by omega) ?_
       | refine leI hE (fun _ => ?_) (fun _ => ?_)
       | refine eqT hE (by omega) ?_
       | refine eqF hE (by omega) ?_
       | refine eqI hE (fun _ => ?_) (fun _ => ?_)
       | refine add64 hE (by omega) (fun _ _ => ?_)
       | refine sub64 hE (by omega) (fun _ _ => ?_)
       | refine addI hE (fun _ _ => ?_)
       | refine subI hE (fun _ _ => ?_)
       | refine lenL hE (by assumption) (fun _ _ _ => ?_)
       | refine len0 hE (fun _ _ => ?_)
       | refine idxL hE (by assumption) (by first | omega | (simp only [List.length_set, mix_len]; omega)) (fun _ _ => ?_)
       | refine idxFill hE (by assumption) (by omega) ?_
       | refine idxI hE (by decide) (by rfl) ?_
       | refine iteB (fun _ => ?_) (fun _ => ?_)
       | refine maxI hE (fun _ _ => ?_)
       | refine minI hE (fun _ _ => ?_)
       | refine seqI hE (fun _ => ?_) (fun _ => ?_)
       | refine scatI hE (by first | omega | (simp only [ByteArray.size, Array.size, List.length_cons, List.length_nil] at *; omega)) (fun _ _ _ => ?_)
       | refine slenI hE (fun _ _ _ => ?_)
       | refine sidxI hE (by omega) (fun _ _ _ _ => ?_)
       | refine needI hE (by first | decide | omega) ?_
       | refine rem64 hE (by omega) (fun _ _ => ?_)
       | refine quo64 hE (by omega) (fun _ _ => ?_)
       | refine wrapU8 hE (by omega) (fun _ _ => ?_)
       | refine wrap64 hE (by omega) (fun _ _ => ?_)
       | refine noownI hE (by simp [AV.isOwn]) ?_) <;> (try conv => cbv))
    · omega
    · refine hinv.succ ?_ (by assumption); clear hN; simp_all
    · omega
    · refine finB hK (bP_false.2 fun h => ?_); clear hN; simp_all
    · exact finB hK (bP_true.2 (list_eq_of (by omega) hinv (by omega)))
  · refine finB hK (bP_false.2 fun h => ?_); subst h; omega
def Fau.mk' (k : Int) : Fau := ⟨k + 0, k + 1, k + 2, k + 3⟩
def Fau.mks (n : Nat) (k : Int) : List Fau := (List.range n).map fun i : Nat => Fau.mk' (k + 4 * (i : Int))
theorem Fau.mks_len (n : Nat) (k : Int) : (Fau.mks n k).length = n := by simp [Fau.mks]
theorem Fau.mks_get {n : Nat} {k i : Int} {v : Fau} (h0 : 0 ≤ i) (h : (Fau.mks n k)[i.toNat]? = some v) : v = Fau.mk' (k + 4 * i) := by
  unfold Fau.mks at h
  rw [List.getElem?_map] at h
  by_cases hi : i.toNat < n
  · rw [List.getElem?_range hi] at h
    simp only [Option.map_some, Option.some.injEq] at h
    rw [← h, Int.toNat_of_nonneg h0]
  · rw [List.getElem?_eq_none (by simpa using Nat.le_of_not_lt hi)] at h; cases h
def Fau.ok (v : Fau) : Prop := (1 ≤ v.aid ∧ v.aid ≤ 9999) ∧ (1 ≤ v.kind ∧ v.kind ≤ 4) ∧ TimeOk v.frm ∧ (v.til = -1 ∨ TimeOk v.til ∧ v.frm < v.til)
def Fau.end_ (v : Fau) : Int := if v.til = -1 then 144000000 else v.til
def Fau.meets (f g : Fau) : Prop := f.aid = g.aid ∧ f.kind = g.kind ∧ max f.frm g.frm < min f.end_ g.end_
def Fau.less (a b : Fau) : Prop := a.frm < b.frm ∨ a.frm = b.frm ∧ (a.aid < b.aid ∨ a.aid = b.aid ∧ a.kind < b.kind)
def Fau.cmp (a b : Fau) : Int := orI [cmpI a.frm b.frm, cmpI a.aid b.aid, cmpI a.kind b.kind]
theorem Fau.cmp_neg (a b : Fau) : Fau.cmp a b < 0 ↔ Fau.less a b := by
  unfold Fau.cmp Fau.less cmpI
  simp only [orI]
  split <;> (try split) <;> (try split) <;> (try split) <;> (try split) <;> (try split) <;> omega
theorem Fau.less_tr (x y z : Fau) (h1 : Fau.less x y) (h2 : Fau.less y z) : Fau.less x z := by unfold Fau.less at *; omega
theorem Fau.less_ir (x : Fau) : ¬ Fau.less x x := by unfold Fau.less; omega
def Fau.C (l : List Fau) (j : Nat) : Prop := ∃ v, l[j]? = some v ∧ v.ok ∧ (0 < j → ∃ w, l[j - 1]? = some w ∧ w.less v) ∧ ∀ w ∈ l.take j, ¬ v.meets w
def FaultsOk (l : List Fau) : Prop := (∀ j, j < l.length → Fau.C l j) ∧ l.length ≤ 48
theorem fauC_mk {l : List Fau} {i : Int} {v : Fau} (h0 : 0 ≤ i) (hv : l[i.toNat]? = some v) (hok : v.ok) (hp : i ≤ 0 ∨ ∃ (n : Int) (w : Fau), n = i - 1 ∧ l[n.toNat]? = some w ∧ w.less v)
    (hr : ∀ w ∈ (l.take i.toNat), ¬ v.meets w) : Fau.C l i.toNat := by
  refine ⟨v, hv, hok, fun h => ?_, hr⟩
  rcases hp with hp | ⟨n, w, rfl, hw, hl⟩
  · omega
  · exact ⟨w, by rw [show i.toNat - 1 = (i - 1).toNat by omega]; exact hw, hl⟩
theorem fauC_ok {l : List Fau} {i : Int} {v : Fau} (h0 : 0 ≤ i) (h : Fau.C l i.toNat) (hv : l[i.toNat]? = some v) : v.ok ∧ (∀ (n : Int) w, n = i - 1 → 0 < i → l[n.toNat]? = some w → w.less v) ∧ ∀ w ∈ (l.take i.toNat), ¬ v.meets w := by
  obtain ⟨v', h1, h2, h3, h4⟩ := h
  rw [hv] at h1; cases h1
  refine ⟨h2, fun n w hn hi hw => ?_, h4⟩
  obtain ⟨w', hw', hl⟩ := h3 (by omega)
  rw [show i.toNat - 1 = n.toNat by omega, hw] at hw'; cases hw'
  exact hl
theorem FaultsOk.all {l : List Fau} (h : FaultsOk l) : ∀ v ∈ l, v.ok := fun v hv => by
  obtain ⟨j, hj⟩ := List.getElem?_of_mem hv
  obtain ⟨w, h1, h2, _⟩ := h.1 j (List.getElem?_eq_some_iff.1 hj).1
  rw [hj] at h1; cases h1; exact h2
/-- Those before begin no later. -/
theorem fau_le {l : List Fau} {j : Nat} : ∀ (k : Nat) x y, (∀ m v, j < m → m ≤ k → l[m]? = some v → ∃ w, l[m - 1]? = some w ∧ w.less v) → j ≤ k → l[j]? = some x → l[k]? = some y → x.frm ≤ y.frm
  | 0, x, y, _, h1, hx, hy => by
    have : j = 0 := by omega
    subst this; rw [hx] at hy; cases hy; omega
  | k + 1, x, y, h, h1, hx, hy => by
    rcases Nat.lt_or_ge j (k + 1) with hj | hj
    · obtain ⟨w, hw, hl⟩ := h (k + 1) y hj (Nat.le_refl _) hy
      rw [Nat.add_sub_cancel] at hw
      have := fau_le k x w (fun m v g1 g2 g3 => h m v g1 (by omega) g3) (by omega) hx hw
      unfold Fau.less at hl; omega
    · have : j = k + 1 := by omega
      subst this; rw [hx] at hy; cases hy; omega
theorem fau_meets {v w : Fau} (hv : v.ok) (hw : w.ok) (h : w.frm ≤ v.frm) : v.meets w ↔ w.aid = v.aid ∧ w.kind = v.kind ∧ v.frm < w.end_ := by
  unfold Fau.ok TimeOk at hv hw
  unfold Fau.meets Fau.end_
  split <;> split <;> omega
theorem fauNo {l : List Fau} {i : Int} {v : Fau} (h : ¬ ∃ w, w ∈ (l.take ((some i).getD (l.length : Int)).toNat).drop ((none : Option Int).getD 0).toNat ∧ v.meets w) : ∀ w ∈ l.take i.toNat, ¬ v.meets w := fun w hw hm => h ⟨w, hw, hm⟩
theorem fauYes {l : List Fau} {i : Int} {v : Fau} (h : ∃ w, w ∈ (l.take ((some i).getD (l.length : Int)).toNat).drop ((none : Option Int).getD 0).toNat ∧ v.meets w) : ¬ ∀ w ∈ l.take i.toNat, ¬ v.meets w := fun g => by
  obtain ⟨w, hw, hm⟩ := h
  exact g w hw hm
theorem fau_prev {l : List Fau} {i : Int} (h : Up (Fau.C l) i) (m : Nat) (v : Fau) (hm : (m : Int) < i) (h0 : 0 < m) (hv : l[m]? = some v) : ∃ w, l[m - 1]? = some w ∧ w.less v := by
  obtain ⟨v', h1, _, h3, _⟩ := h m hm
  rw [hv] at h1; cases h1
  exact h3 h0
/-- The reference's test, at all those before. -/
theorem fau_none {l : List Fau} {i k : Int} {v : Fau} (h0 : 0 ≤ i) (hk : i ≤ k) (hv : l[i.toNat]? = some v) (hok : v.ok) (hC : Up (Fau.C l) i) (hp : i ≤ 0 ∨ ∃ (n : Int) (w : Fau), n = i - 1 ∧ l[n.toNat]? = some w ∧ w.less v)
    (h : Up (fun j => ∀ w, l[j]? = some w → ¬ (w.aid = v.aid ∧ w.kind = v.kind ∧ v.frm < w.end_)) k) : ∀ w ∈ l.take i.toNat, ¬ v.meets w := fun w hw hm => by
  obtain ⟨j, hj⟩ := List.getElem?_of_mem hw
  have hlt := (List.getElem?_eq_some_iff.1 hj).1
  rw [List.length_take] at hlt
  rw [List.getElem?_take, if_pos (by omega)] at hj
  obtain ⟨w', g1, g2, _⟩ := hC j (by omega)
  rw [hj] at g1; cases g1
  have hle : w.frm ≤ v.frm := fau_le (j := j) i.toNat w v (fun m u g3 g4 g5 => by
    rcases Nat.lt_or_ge m i.toNat with g6 | g6
    · exact fau_prev hC m u (by omega) (by omega) g5
    · have : m = i.toNat := by omega
      subst this
      rw [hv] at g5; cases g5
      rcases hp with hp | ⟨n, w2, rfl, hw2, hl⟩
      · omega
      · exact ⟨w2, by rw [show i.toNat - 1 = (i - 1).toNat by omega]; exact hw2, hl⟩) (by omega) hj hv
  exact h j (by omega) w hj ((fau_meets hok g2 hle).1 hm)
theorem fau_some {l : List Fau} {i k : Int} {v w : Fau} (h : FaultsOk l) (h0 : 0 ≤ k ∧ k < i) (hi : i < l.length) (hv : l[i.toNat]? = some v) (hw : l[k.toNat]? = some w) (h1 : w.aid = v.aid) (h2 : w.kind = v.kind) (h3 : v.frm < w.end_) : False := by
  obtain ⟨v', g1, g2, _, g4⟩ := h.1 i.toNat (by omega)
  rw [hv] at g1; cases g1
  obtain ⟨w', g5, g6, _⟩ := h.1 k.toNat (by omega)
  rw [hw] at g5; cases g5
  have hle : w.frm ≤ v.frm := fau_le (j := k.toNat) i.toNat w v (fun m u q1 q2 q3 => fau_prev (i := l.length) (fun j hj => h.1 j (by omega)) m u (by have := (List.getElem?_eq_some_iff.1 q3).1; omega) (by omega) q3) (by omega) hw hv
  refine g4 w ?_ ((fau_meets g2 g6 hle).2 ⟨h1, h2, h3⟩)
  exact List.mem_of_getElem? (i := k.toNat) (by rw [List.getElem?_take, if_pos (by omega)]; exact hw)
theorem fauStep {l : List Fau} {i k n : Int} {w0 : Fau} (h : Up (fun j => ∀ (v w : Fau), l[i.toNat]? = some v → l[j]? = some w → ¬ (w.aid = v.aid ∧ w.kind = v.kind ∧ v.frm < w.end_)) k) (hw : l[k.toNat]? = some w0) (hs : ∀ v w, l[i.toNat]? = some v → l[k.toNat]? = some w → ¬ (w.aid = v.aid ∧ w.kind = v.kind ∧ v.frm < w.end_)) (hn : n = k + 1) :
    Up (fun j => ∀ (v w : Fau), l[i.toNat]? = some v → l[j]? = some w → ¬ (w.aid = v.aid ∧ w.kind = v.kind ∧ v.frm < w.end_)) n := h.succ hs hn
theorem fauStop {l : List Fau} {i k : Int} {v0 w0 v w : Fau} (hv : l[i.toNat]? = some v0) (hw : l[k.toNat]? = some w0) (g1 : l[i.toNat]? = some v) (g2 : l[k.toNat]? = some w) (h : w0.aid ≠ v0.aid ∨ w0.kind ≠ v0.kind ∨ w0.end_ ≤ v0.frm) : ¬ (w.aid = v.aid ∧ w.kind = v.kind ∧ v.frm < w.end_) := by
  rw [hv] at g1; cases g1
  rw [hw] at g2; cases g2
  omega
theorem fauStep2 {l : List Fau} {i k n : Int} {v0 w0 : Fau} (h : Up (fun j => ∀ (v w : Fau), l[i.toNat]? = some v → l[j]? = some w → ¬ (w.aid = v.aid ∧ w.kind = v.kind ∧ v.frm < w.end_)) k) (hv : l[i.toNat]? = some v0) (hw : l[k.toNat]? = some w0) (hd : w0.aid ≠ v0.aid ∨ w0.kind ≠ v0.kind ∨ w0.end_ ≤ v0.frm) (hn : n = k + 1) :
    Up (fun j => ∀ (v w : Fau), l[i.toNat]? = some v → l[j]? = some w → ¬ (w.aid = v.aid ∧ w.kind = v.kind ∧ v.frm < w.end_)) n := fauStep h hw (fun v w g1 g2 => fauStop hv hw g1 g2 hd) hn
theorem fauAt {l : List Fau} {i k : Int} {v0 : Fau} (h : Up (fun j => ∀ (v w : Fau), l[i.toNat]? = some v → l[j]? = some w → ¬ (w.aid = v.aid ∧ w.kind = v.kind ∧ v.frm < w.end_)) k) (hv : l[i.toNat]? = some v0) : Up (fun j => ∀ w, l[j]? = some w → ¬ (w.aid = v0.aid ∧ w.kind = v0.kind ∧ v0.frm < w.end_)) k := fun j hj w hw => h j hj v0 w hv hw
end Go.Proofs.YtoabioecoollpaaGreat
