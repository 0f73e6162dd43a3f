/- Contracts: the greatest delay. -/
import Derived.Test.YtjenekakcoggpaaFk
namespace Go.Proofs.Ytjenekakcoggpaa
open Go Go.RowKit Classical
set_option maxRecDepth 100000
set_option maxHeartbeats 2000000
set_option linter.unusedVariables false
set_option linter.unusedSimpArgs false
theorem Vis.nown (l : List Vis) : ∀ e ∈ l.map Vis.cs, ∀ c ∈ e, c.isOwn = false := fun e he c hc => by
  obtain ⟨v, _, rfl⟩ := List.mem_map.1 he
  simp only [Vis.cs, List.mem_cons, List.not_mem_nil, or_false] at hc
  rcases hc with rfl | rfl | rfl <;> rfl
theorem cloneVis_ {rs : List (List AV)} {t : Bool} {l : List Vis} (hl : rs = l.map Vis.cs) (hb0 : l.length ≤ 1048576) : AC Try.prog 88 [.sl t 3 rs] (fun l : List Vis => .sl true 3 (l.map Vis.cs)) l := by
  refine ac Try.func88 (by kernel_rfl) (.rows .vis) fun E K hE hK => ?_
  conv => cbv
  refine lenL hE hl fun n hn hb => ?_
  conv => cbv
  refine makeI hE (by omega) fun es hes => ?_
  conv => cbv
  refine noownI hE (by rw [hl]; exact Vis.nown l) ?_
  conv => cbv
  refine catL hE (l := []) (R := Vis.cs) (by rw [hes]; rfl) hl (by simp; omega) fun es2 hes2 => ?_
  conv => cbv
  exact hK _ (by rw [hes2]; rfl)
theorem gdLen_ {rs : List (List AV)} {t : Bool} {l : List Int} (hl : rs = l.map intR) : AC Try.prog 93 [.sl t 1 rs] AV.bool (bP (l.length ≠ 2)) := by
  refine ac Try.func93 (by kernel_rfl) (.bool _) fun E K hE hK => ?_
  conv => cbv
  repeat' first
    | ((first
     | refine idxV hE (by assumption) (by omega) (by assumption) ?_
     | refine ltT hE (by omega) ?_
     | refine ltF hE (by omega) ?_
     | refine ltI hE (fun _ => ?_) (fun _ => ?_)
     | refine leT hE (by omega) ?_
     | refine leF hE (by omega) ?_
     | refine leI hE (fun _ => ?_) (fun _ => ?_)
     | refine eqT hE (by omega) ?_
     | refine eqF hE (by omega) ?_
     | refine eqI hE (fun _ => ?_) (fun _ => ?_)
     | refine add64 hE (by omega) (fun _ _ => ?_)
     | refine sub64 hE (by omega) (fun _ _ => ?_)
     | refine addI hE (fun _ _ => ?_)
     | refine subI hE (fun _ _ => ?_)
     | refine lenL hE (by assumption) (fun _ _ _ => ?_)
     | refine len0 hE (fun _ _ => ?_)
     | refine idxL hE (by assumption) (by first | omega | (simp only [List.length_set, mix_len]; omega)) (fun _ _ => ?_)
     | refine idxFill hE (by assumption) (by omega) ?_
     | refine idxI hE (by decide) (by rfl) ?_
     | refine iteB (fun _ => ?_) (fun _ => ?_)
     | refine maxI hE (fun _ _ => ?_)
     | refine minI hE (fun _ _ => ?_)
     | refine seqI hE (fun _ => ?_) (fun _ => ?_)
     | refine scatI hE (by first | omega | (simp only [ByteArray.size, Array.size, List.length_cons, List.length_nil] at *; omega)) (fun _ _ _ => ?_)
     | refine slenI hE (fun _ _ _ => ?_)
     | refine sidxI hE (by omega) (fun _ _ _ _ => ?_)
     | refine needI hE (by first | decide | omega) ?_
     | refine rem64 hE (by omega) (fun _ _ => ?_)
     | refine quo64 hE (by omega) (fun _ _ => ?_)
     | refine wrapU8 hE (by omega) (fun _ _ => ?_)
     | refine wrap64 hE (by omega) (fun _ _ => ?_)
     | refine noownI hE (by simp [AV.isOwn]) ?_) <;> (try conv => cbv))
  all_goals (try clear hN)
  all_goals first
    | (omega)
    | (refine finB hK (bP_true.2 ?_); first | omega | grind)
    | (refine finB hK (bP_false.2 ?_); first | omega | (intro h; grind))
    | (refine ⟨by omega, Up.succ (by assumption) ?_ (by assumption)⟩; grind)
    | (refine hK _ ?_; simp_all [atup]; done)
    | (grind)
theorem indexLL_ {rs : List (List AV)} {t b : Bool} {l : List (List Int)} {g : FuncId} {p : List Int → Prop} (hl : rs = l.map (llR b)) (hp : ∀ (x : List Int) rx, rx = x.map intR → AC Try.prog g [.sl b 1 rx] AV.bool (bP (p x))) : AC Try.prog 135 [.sl t 1 rs, .fn g []] (AV.int .i64) (firstI p l) := by
  refine ac Try.func135 (by kernel_rfl) (.int _ _) fun E K hE hK => ?_
  conv => cbv
  refine lenL hE hl fun n hn hb => ?_
  conv => cbv
  refine loopK hE (ι := Int) [0, 1, 7, 8] (fun i => ⟨reF _ [(0, .sl t 1 rs), (1, .fn g []), (7, .int .i64 n), (8, .int .i64 i)], []⟩) (fun i => (l.length - i).toNat) (fun i => 0 ≤ i ∧ Up (fun j => ∀ v, l[j]? = some v → ¬ p v) i) [] (by decide) 0 rfl ⟨by omega, .zero (by omega)⟩ fun i hi Kn hN => ?_
  obtain ⟨h0, hinv⟩ := hi
  conv => cbv
  repeat' first
    | (refine idxLL hE (by assumption) (by omega) (fun x _ hx _ => ?_); (try conv => cbv))
    | ( refine hN _ _ [] (by decide) rfl ?_ ?_)
    | ((first
     | refine idxV hE (by assumption) (by omega) (by assumption) ?_
     | refine callP hE (hp _ _ (by assumption)) (fun _ => ?_) (fun _ => ?_)
     | refine ltT hE (by omega) ?_
     | refine ltF hE (by omega) ?_
     | refine ltI hE (fun _ => ?_) (fun _ => ?_)
     | refine leT hE (by omega) ?_
     | refine leF hE (by omega) ?_
     | refine leI hE (fun _ => ?_) (fun _ => ?_)
     | refine eqT hE (by omega) ?_
     | refine eqF hE (by omega) ?_
     | refine eqI hE (fun _ => ?_) (fun _ => ?_)
     | refine add64 hE (by omega) (fun _ _ => ?_)
     | refine sub64 hE (by omega) (fun _ _ => ?_)
     | refine addI hE (fun _ _ => ?_)
     | refine subI hE (fun _ _ => ?_)
     | refine lenL hE (by assumption) (fun _ _ _ => ?_)
     | refine len0 hE (fun _ _ => ?_)
     | refine idxL hE (by assumption) (by first | omega | (simp only [List.length_set, mix_len]; omega)) (fun _ _ => ?_)
     | refine idxFill hE (by assumption) (by omega) ?_
     | refine idxI hE (by decide) (by rfl) ?_
     | refine iteB (fun _ => ?_) (fun _ => ?_)
     | refine maxI hE (fun _ _ => ?_)
     | refine minI hE (fun _ _ => ?_)
     | refine seqI hE (fun _ => ?_) (fun _ => ?_)
     | refine scatI hE (by first | omega | (simp only [ByteArray.size, Array.size, List.length_cons, List.length_nil] at *; omega)) (fun _ _ _ => ?_)
     | refine slenI hE (fun _ _ _ => ?_)
     | refine sidxI hE (by omega) (fun _ _ _ _ => ?_)
     | refine needI hE (by first | decide | omega) ?_
     | refine rem64 hE (by omega) (fun _ _ => ?_)
     | refine quo64 hE (by omega) (fun _ _ => ?_)
     | refine wrapU8 hE (by omega) (fun _ _ => ?_)
     | refine wrap64 hE (by omega) (fun _ _ => ?_)
     | refine noownI hE (by simp [AV.isOwn]) ?_) <;> (try conv => cbv))
  · refine hK _ ?_
    rw [firstI_in h0 (by assumption) (by assumption) hinv]; rfl
  · refine ⟨by omega, hinv.succ ?_ (by assumption)⟩
    grind
  · omega
  · refine hK _ ?_
    rw [firstI_out (by omega) hinv]; rfl
theorem firstI_ge {α : Type} {p : α → Prop} {l : List α} : 0 ≤ firstI p l ↔ ∃ v ∈ l, p v := by
  rcases firstI_spec p l with ⟨h1, h2, ⟨v, h3, h4⟩, h5⟩ | ⟨h1, h2⟩
  · exact ⟨fun _ => ⟨v, List.mem_of_getElem? h3, h4⟩, fun _ => h1⟩
  · refine ⟨fun h => by omega, fun ⟨v, hv, hp⟩ => ?_⟩
    obtain ⟨j, hj⟩ := List.getElem?_of_mem hv
    exact (h2 j v hj hp).elim
theorem containsLL_ {rs : List (List AV)} {t b : Bool} {l : List (List Int)} {g : FuncId} {p : List Int → Prop} (hl : rs = l.map (llR b)) (hp : ∀ (x : List Int) rx, rx = x.map intR → AC Try.prog g [.sl b 1 rx] AV.bool (bP (p x))) : AC Try.prog 92 [.sl t 1 rs, .fn g []] AV.bool (bP (∃ v ∈ l, p v)) := by
  refine ac Try.func92 (by kernel_rfl) (.bool _) fun E K hE hK => ?_
  conv => cbv
  refine callI hE (indexLL_ hl hp) fun y hy => ?_
  conv => cbv
  refine leI hE (fun h => ?_) (fun h => ?_) <;> conv => cbv
  · exact finB hK (bP_true.2 (firstI_ge.1 (by omega)))
  · exact finB hK (bP_false.2 fun h' => by have := firstI_ge.2 h'; omega)
/-- What is left of a plan, from a state on. -/
noncomputable def runG : List Vis → Int → Bool → List (List Int) → Int × Int
  | _, most, miss, [] => if miss = true then (0, 3) else (most, 0)
  | now, most, miss, x :: p => if ¬ (0 ≤ x.getD 0 0 ∧ x.getD 0 0 ≤ 99999) then (0, 2) else
    match now[(visAt now (x.getD 1 0)).toNat]? with
    | some v => if visAt now (x.getD 1 0) < 0 then runG now most true p else if x.getD 0 0 < v.last then (0, 2) else
        runG (now.set (visAt now (x.getD 1 0)).toNat ⟨v.aid, v.every, x.getD 0 0⟩) (max most (IntKind.i64.wrap (x.getD 0 0 - v.due))) miss p
    | none => runG now most true p
noncomputable def gdelay (l : List Vis) (p : List (List Int)) : Int × Int := if VisitsOk l then (if ∃ x ∈ p, x.length ≠ 2 then (0, 9) else runG l 0 false p) else (0, 1)
theorem runG_drop {p : List (List Int)} {i : Int} {x : List Int} (h0 : 0 ≤ i) (h : p[i.toNat]? = some x) (now : List Vis) (most : Int) (miss : Bool) : runG now most miss (p.drop i.toNat) = runG now most miss (x :: p.drop (i + 1).toNat) := by
  have hi := (List.getElem?_eq_some_iff.1 h).1
  rw [List.drop_eq_getElem_cons hi, (List.getElem?_eq_some_iff.1 h).2, show (i + 1).toNat = i.toNat + 1 by omega]
theorem runG_day {now : List Vis} {most : Int} {miss : Bool} {x : List Int} {p : List (List Int)} {d : Int} (h1 : x[(0 : Int).toNat]? = some d) (h : ¬ (0 ≤ d ∧ d ≤ 99999)) : runG now most miss (x :: p) = (0, 2) := by
  have : x.getD 0 0 = d := by rw [List.getD_eq_getElem?_getD]; simpa using congrArg (fun o => o.getD 0) h1
  rw [runG, this, if_pos h]
theorem runG_miss {now : List Vis} {most : Int} {miss : Bool} {x : List Int} {p : List (List Int)} {d a k : Int} (h1 : x[(0 : Int).toNat]? = some d) (h2 : x[(1 : Int).toNat]? = some a) (h : 0 ≤ d ∧ d ≤ 99999) (hk : k = visAt now a) (hk0 : k < 0) : runG now most miss (x :: p) = runG now most true p := by
  have e1 : x.getD 0 0 = d := by rw [List.getD_eq_getElem?_getD]; simpa using congrArg (fun o => o.getD 0) h1
  have e2 : x.getD 1 0 = a := by rw [List.getD_eq_getElem?_getD]; simpa using congrArg (fun o => o.getD 0) h2
  rw [runG, e1, e2, if_neg (by simpa using h), ← hk]
  split
  · rw [if_pos hk0]
  · rfl
theorem runG_hit {now : List Vis} {most : Int} {miss : Bool} {x : List Int} {p : List (List Int)} {d a k : Int} {v : Vis} (h1 : x[(0 : Int).toNat]? = some d) (h2 : x[(1 : Int).toNat]? = some a) (h : 0 ≤ d ∧ d ≤ 99999) (hk : k = visAt now a) (hk0 : 0 ≤ k) (hv : now[k.toNat]? = some v) :
    runG now most miss (x :: p) = if d < v.last then (0, 2) else runG (now.set k.toNat ⟨v.aid, v.every, d⟩) (max most (IntKind.i64.wrap (d - v.due))) miss p := by
  have e1 : x.getD 0 0 = d := by rw [List.getD_eq_getElem?_getD]; simpa using congrArg (fun o => o.getD 0) h1
  have e2 : x.getD 1 0 = a := by rw [List.getD_eq_getElem?_getD]; simpa using congrArg (fun o => o.getD 0) h2
  rw [runG, e1, e2, if_neg (by simpa using h), ← hk, hv]
  simp only
  rw [if_neg (by omega)]
def two (q : Int × Int) : AV := .tup [.int .i64 q.1, .int .i64 q.2]
theorem NoB.two (q : Int × Int) : NoB (two q) := .tupC (.int _ _) (.tupC (.int _ _) .tup0)
theorem greatestDelay_ {rs ps : List (List AV)} {t t' b : Bool} {l : List Vis} {p : List (List Int)} (hl : rs = l.map Vis.cs) (hp : ps = p.map (llR b)) : AC Try.prog 33 [.sl t 3 rs, .sl t' 1 ps] two (gdelay l p) := by
  refine ac Try.func33 (by kernel_rfl) (.two _) fun E K hE hK => ?_
  conv => cbv
  refine callP hE (validVisits_ hl) (fun hok => ?_) (fun hok => ?_) <;> conv => cbv
  · refine callP hE (containsLL_ (p := fun x => x.length ≠ 2) hp (fun x rx h => gdLen_ h)) (fun hc => ?_) (fun hc => ?_) <;> conv => cbv
    · refine hK _ ?_
      rw [gdelay, if_pos hok, if_pos hc]; rfl
    · refine callR hE (cloneVis_ hl (by have := hok.2; omega)) fun es0 hes0 => ?_
      conv => cbv
      refine lenL hE hp fun n hn hb => ?_
      have hg : gdelay l p = runG l 0 false p := by rw [gdelay, if_pos hok, if_neg hc]
      conv => cbv
      refine loopK hE (ι := Int × Int × Bool × List (List AV)) [6, 7, 8, 19, 20, 21] (fun q => ⟨reF _ [(6, .ob 0), (7, .int .i64 q.2.1), (8, .bool q.2.2.1), (19, .sl t' 1 ps), (20, .int .i64 n), (21, .int .i64 q.1)], [.row 3 q.2.2.2]⟩) (fun q => (n - q.1).toNat)
        (fun q => (0 ≤ q.1 ∧ q.1 ≤ n) ∧ ∃ now : List Vis, q.2.2.2 = now.map Vis.cs ∧ runG l 0 false p = runG now q.2.1 q.2.2.1 (p.drop q.1.toNat)) [0] (by decide) (0, 0, false, es0) rfl ⟨by simp only; omega, l, hes0, rfl⟩ fun q hi Kn hN => ?_
      obtain ⟨i, most, miss, es⟩ := q
      obtain ⟨⟨h0, h1⟩, now, h2, h3⟩ := hi
      simp only at h0 h1 h2 h3
      conv => cbv
      repeat' first
        | (refine idxLV hE (by assumption) (by omega) (by assumption) (by assumption) ?_; (try conv => cbv))
        | (refine idxLL hE (by assumption) (by omega) (fun x _ hx _ => ?_); have hx2 : x.length = 2 := (by apply Classical.byContradiction; intro h; exact hc ⟨x, List.mem_of_getElem? hx, h⟩); (try conv => cbv))
        | (refine callI hE (visitOf_ _ (by assumption)) (fun y hy => ?_); have hy2 : y = -1 ∨ (0 ≤ y ∧ y < (now.length : Int)) := (by rw [hy]; exact visAt_spec _ _); (try conv => cbv))
        | (refine hN (_, _, _, _) _ [0] (by decide) rfl ⟨?_, _, by assumption, ?_⟩ ?_)
        | ((first
         | refine idxV hE (by assumption) (by omega) (by assumption) ?_
         | refine callP hE (isDay_ _) (fun _ => ?_) (fun _ => ?_)
         | (refine idxL (R := Vis.cs) hE (by assumption) (by first | omega | (simp only [List.length_set, mix_len]; omega)) ?_; rintro ⟨⟩ _)
         | refine callI hE (due_ _ _ _) (fun _ _ => ?_)
         | refine updL hE (v' := (⟨_, _, _⟩ : Vis)) (by assumption) (by omega) (by assumption) (by exact Nat.le_of_ble_eq_true rfl) (by first | rfl | ((conv => lhs; cbv); rfl)) (fun _ _ => ?_)
         | refine ltT hE (by omega) ?_
         | refine ltF hE (by omega) ?_
         | refine ltI hE (fun _ => ?_) (fun _ => ?_)
         | refine leT hE (by omega) ?_
         | refine leF hE (by omega) ?_
         | refine leI hE (fun _ => ?_) (fun _ => ?_)
         | refine eqT hE (by omega) ?_
         | refine eqF hE (by omega) ?_
         | refine eqI hE (fun _ => ?_) (fun _ => ?_)
         | refine add64 hE (by omega) (fun _ _ => ?_)
         | refine sub64 hE (by omega) (fun _ _ => ?_)
         | refine addI hE (fun _ _ => ?_)
         | refine subI hE (fun _ _ => ?_)
         | refine lenL hE (by assumption) (fun _ _ _ => ?_)
         | refine len0 hE (fun _ _ => ?_)
         | refine idxL hE (by assumption) (by first | omega | (simp only [List.length_set, mix_len]; omega)) (fun _ _ => ?_)
         | refine idxFill hE (by assumption) (by omega) ?_
         | refine idxI hE (by decide) (by rfl) ?_
         | refine iteB (fun _ => ?_) (fun _ => ?_)
         | refine maxI hE (fun _ _ => ?_)
         | refine minI hE (fun _ _ => ?_)
         | refine seqI hE (fun _ => ?_) (fun _ => ?_)
         | refine scatI hE (by first | omega | (simp only [ByteArray.size, Array.size, List.length_cons, List.length_nil] at *; omega)) (fun _ _ _ => ?_)
         | refine slenI hE (fun _ _ _ => ?_)
         | refine sidxI hE (by omega) (fun _ _ _ _ => ?_)
         | refine needI hE (by first | decide | omega) ?_
         | refine rem64 hE (by omega) (fun _ _ => ?_)
         | refine quo64 hE (by omega) (fun _ _ => ?_)
         | refine wrapU8 hE (by omega) (fun _ _ => ?_)
         | refine wrap64 hE (by omega) (fun _ _ => ?_)
         | refine noownI hE (by simp [AV.isOwn]) ?_) <;> (try conv => cbv))
      all_goals (try simp only)
      all_goals first
        | omega
        | (refine hK _ ?_; rw [hg, h3, runG_drop h0 (by assumption), runG_hit (by assumption) (by assumption) (by assumption) (by assumption) (by assumption) (by assumption), if_pos (by assumption)]; rfl)
        | (refine hK _ ?_; rw [hg, h3, runG_drop h0 (by assumption), runG_day (by assumption) (by assumption)]; rfl)
        | (rw [h3, runG_drop h0 (by assumption), runG_hit (by assumption) (by assumption) (by assumption) (by assumption) (by assumption) (by assumption), if_neg (by simp only; omega)]; clear hN hK; subst_vars; rfl)
        | (rw [h3, runG_drop h0 (by assumption), runG_miss (by assumption) (by assumption) (by assumption) (by assumption) (by assumption)]; clear hN hK; subst_vars; rfl)
        | (refine hK _ ?_; rw [hg, h3, List.drop_eq_nil_of_le (by omega)]; clear hN hK; simp_all [runG, two, atup]; done)
        | trace_state
  · refine hK _ ?_
    rw [gdelay, if_neg hok]; rfl
theorem szLs_ok {l : List (List Int)} {n : Int} (h : ¬ (if n - (l.length : Int) < 0 then (-1 : Int) else szLs l (n - l.length)) < 0) : l.length ≤ n ∧ ∀ x ∈ l, (x.length : Int) ≤ n := by
  split at h
  · omega
  · have := szLs_all (l := l) (n := n - l.length) (by omega) h
    exact ⟨by omega, fun x hx => by have := this x hx; omega⟩
end Go.Proofs.Ytjenekakcoggpaa
