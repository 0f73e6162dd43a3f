/- Contracts: broadcasts, one list after the other; the law. -/
import Derived.Test.YtjenekakcoggpaaFbo
import Derived.Test.YtjenekakcoggpaaFpw
namespace Go.Proofs.Ytjenekakcoggpaa
open Go Go.RowKit Go.Sort Classical
set_option maxRecDepth 100000
set_option maxHeartbeats 2000000
set_option linter.unusedVariables false
set_option linter.unusedSimpArgs false
/-- How many lists hold a number. -/
noncomputable def cntN (rows : List (List Int)) (n : Int) : Nat := rows.countP fun r => decide (n ∈ r)
theorem cntN_app (rows : List (List Int)) (r : List Int) (n : Int) : cntN (rows ++ [r]) n = cntN rows n + if n ∈ r then 1 else 0 := by
  unfold cntN
  rw [List.countP_append, List.countP_singleton]
  by_cases h : n ∈ r <;> simp [h]
theorem cntN_le (rows : List (List Int)) (n : Int) : cntN rows n ≤ rows.length := List.countP_le_length
theorem cntN_step {l : List (List Int)} {v i n : Int} {x : List Int} (h0 : 0 ≤ i) (hx : l[i.toNat]? = some x) (hn : n = i + 1) : cntN (l.take n.toNat) v = cntN (l.take i.toNat) v + if v ∈ x then 1 else 0 := by
  rw [hn, show (i + 1).toNat = i.toNat + 1 by omega, List.take_add_one, hx]
  exact cntN_app _ _ _
theorem indexInt_ {rs : List (List AV)} {t : Bool} {l : List Int} (v : Int) (hl : rs = l.map intR) : AC Try.prog 136 [.sl t 1 rs, .int .i64 v] (AV.int .i64) (firstI (fun x => v = x) l) := by
  refine ac Try.func136 (by kernel_rfl) (.int _ _) fun E K hE hK => ?_
  conv => cbv
  refine lenL hE hl fun n hn hb => ?_
  conv => cbv
  refine loopC hE (ι := Int) [0, 1, 7] [8] (fun q => (fun (i : Int) => [(8, .int .i64 i)]) q) (fun q => (fun (i : Int) => []) q) (fun q => (fun (i : Int) => (l.length - i).toNat) q) (fun q => (fun (i : Int) => 0 ≤ i ∧ Up (fun j => ∀ x, l[j]? = some x → ¬ v = x) i) q) [] (by decide) (0) (by conv => lhs; cbv) (by conv => lhs; cbv) rfl rfl (by dsimp only; exact ⟨by omega, .zero (by omega)⟩) fun i hi Kn hN => ?_
  (try dsimp only at hi)
  conv => cbv
  obtain ⟨h0, hinv⟩ := hi
  repeat' first
    | (refine idxL hE hl (by omega) (fun x hx => ?_); (try conv => cbv))
    | (refine hN _ _ [] (by decide) rfl ⟨?_, ?_⟩ ?_ <;> (try dsimp only))
    | ((first
     | refine idxV hE (by assumption) (by omega) (by assumption) ?_
     | refine ltT hE (by omega) ?_
     | refine ltF hE (by omega) ?_
     | refine ltI hE (fun _ => ?_) (fun _ => ?_)
     | refine leT hE (by omega) ?_
     | refine leF hE (by omega) ?_
     | refine leI hE (fun _ => ?_) (fun _ => ?_)
     | refine eqT hE (by omega) ?_
     | refine eqF hE (by omega) ?_
     | refine eqI hE (fun _ => ?_) (fun _ => ?_)
     | refine add64 hE (by omega) (fun _ _ => ?_)
     | refine sub64 hE (by omega) (fun _ _ => ?_)
     | refine addI hE (fun _ _ => ?_)
     | refine subI hE (fun _ _ => ?_)
     | refine lenL hE (by assumption) (fun _ _ _ => ?_)
     | refine len0 hE (fun _ _ => ?_)
     | refine idxL hE (by assumption) (by first | omega | (simp only [List.length_set, mix_len]; omega)) (fun _ _ => ?_)
     | refine idxFill hE (by assumption) (by omega) ?_
     | refine idxI hE (by decide) (by rfl) ?_
     | refine iteB (fun _ => ?_) (fun _ => ?_)
     | refine maxI hE (fun _ _ => ?_)
     | refine minI hE (fun _ _ => ?_)
     | refine seqI hE (fun _ => ?_) (fun _ => ?_)
     | refine scatI hE (by first | omega | (simp only [ByteArray.size, Array.size, List.length_cons, List.length_nil] at *; omega)) (fun _ _ _ => ?_)
     | refine slenI hE (fun _ _ _ => ?_)
     | refine sidxI hE (by omega) (fun _ _ _ _ => ?_)
     | refine needI hE (by first | decide | omega) ?_
     | refine rem64 hE (by omega) (fun _ _ => ?_)
     | refine quo64 hE (by omega) (fun _ _ => ?_)
     | refine wrapU8 hE (by omega) (fun _ _ => ?_)
     | refine wrap64 hE (by omega) (fun _ _ => ?_)
     | refine noownI hE (by simp [AV.isOwn]) ?_) <;> (try conv => cbv))
  all_goals (try clear hN)
  all_goals first
    | omega
    | (refine hK _ ?_; rw [firstI_in h0 (by assumption) (by assumption) hinv]; rfl)
    | (refine hinv.succ ?_ (by assumption); clear hK; simp_all; done)
    | (refine hK _ ?_; rw [firstI_out (by omega) hinv]; rfl)
    | trace_state
theorem containsInt_ {rs : List (List AV)} {t : Bool} {l : List Int} (v : Int) (hl : rs = l.map intR) : AC Try.prog 95 [.sl t 1 rs, .int .i64 v] AV.bool (bP (v ∈ l)) := by
  refine ac Try.func95 (by kernel_rfl) (.bool _) fun E K hE hK => ?_
  conv => cbv
  refine callI hE (indexInt_ v hl) fun y hy => ?_
  conv => cbv
  refine leI hE (fun h => ?_) (fun h => ?_) <;> conv => cbv
  · exact finB hK (bP_true.2 (by obtain ⟨x, h1, h2⟩ := firstI_ge.1 (show 0 ≤ firstI (fun x => v = x) l by omega); rw [h2]; exact h1))
  · exact finB hK (bP_false.2 fun h' => by have := (firstI_ge (p := fun x => v = x) (l := l)).2 ⟨v, h', rfl⟩; omega)
theorem sent_ {rs : List (List AV)} {t b : Bool} {l : List (List Int)} (v : Int) (hl : rs = l.map (llR b)) : AC Try.prog 64 [.sl t 1 rs, .int .i64 v] (AV.int .i64) (cntN l v : Nat) := by
  refine ac Try.func64 (by kernel_rfl) (.int _ _) fun E K hE hK => ?_
  conv => cbv
  refine lenL hE hl fun n hn hb => ?_
  conv => cbv
  refine loopC hE (ι := Int × Int) [1, 8, 9] [10, 5] (fun q => (fun (i : Int) (c : Int) => [(10, .int .i64 i), (5, .int .i64 c)]) q.1 q.2) (fun q => (fun (i : Int) (c : Int) => []) q.1 q.2) (fun q => (fun (i : Int) (c : Int) => (l.length - i).toNat) q.1 q.2) (fun q => (fun (i : Int) (c : Int) => (0 ≤ i ∧ i ≤ l.length) ∧ c = (cntN (l.take i.toNat) v : Nat)) q.1 q.2) [] (by decide) ((0, 0)) (by conv => lhs; cbv) (by conv => lhs; cbv) rfl rfl (by dsimp only; exact ⟨by omega, by simp [cntN]⟩) fun q hi Kn hN => ?_
  obtain ⟨i, c⟩ := q
  (try dsimp only at hi)
  conv => cbv
  obtain ⟨⟨h0, h1⟩, h2⟩ := hi
  have hcl := cntN_le (l.take i.toNat) v
  rw [List.length_take] at hcl
  repeat' first
    | (refine idxLL hE hl (by omega) (fun x rx hx hrx => ?_); (try conv => cbv))
    | (refine hN (_, _) _ [] (by decide) rfl ⟨?_, ?_⟩ ?_ <;> (try dsimp only))
    | ((first
     | refine idxV hE (by assumption) (by omega) (by assumption) ?_
     | refine callP hE (containsInt_ _ (by assumption)) (fun _ => ?_) (fun _ => ?_)
     | refine ltT hE (by omega) ?_
     | refine ltF hE (by omega) ?_
     | refine ltI hE (fun _ => ?_) (fun _ => ?_)
     | refine leT hE (by omega) ?_
     | refine leF hE (by omega) ?_
     | refine leI hE (fun _ => ?_) (fun _ => ?_)
     | refine eqT hE (by omega) ?_
     | refine eqF hE (by omega) ?_
     | refine eqI hE (fun _ => ?_) (fun _ => ?_)
     | refine add64 hE (by omega) (fun _ _ => ?_)
     | refine sub64 hE (by omega) (fun _ _ => ?_)
     | refine addI hE (fun _ _ => ?_)
     | refine subI hE (fun _ _ => ?_)
     | refine lenL hE (by assumption) (fun _ _ _ => ?_)
     | refine len0 hE (fun _ _ => ?_)
     | refine idxL hE (by assumption) (by first | omega | (simp only [List.length_set, mix_len]; omega)) (fun _ _ => ?_)
     | refine idxFill hE (by assumption) (by omega) ?_
     | refine idxI hE (by decide) (by rfl) ?_
     | refine iteB (fun _ => ?_) (fun _ => ?_)
     | refine maxI hE (fun _ _ => ?_)
     | refine minI hE (fun _ _ => ?_)
     | refine seqI hE (fun _ => ?_) (fun _ => ?_)
     | refine scatI hE (by first | omega | (simp only [ByteArray.size, Array.size, List.length_cons, List.length_nil] at *; omega)) (fun _ _ _ => ?_)
     | refine slenI hE (fun _ _ _ => ?_)
     | refine sidxI hE (by omega) (fun _ _ _ _ => ?_)
     | refine needI hE (by first | decide | omega) ?_
     | refine rem64 hE (by omega) (fun _ _ => ?_)
     | refine quo64 hE (by omega) (fun _ _ => ?_)
     | refine wrapU8 hE (by omega) (fun _ _ => ?_)
     | refine wrap64 hE (by omega) (fun _ _ => ?_)
     | refine noownI hE (by simp [AV.isOwn]) ?_) <;> (try conv => cbv))
  all_goals (try clear hN)
  all_goals first
    | omega
    | (have := cntN_step (v := v) h0 hx (by assumption); rw [if_pos (by assumption)] at this; omega)
    | (have := cntN_step (v := v) h0 hx (by assumption); rw [if_neg (by assumption)] at this; omega)
    | (exact hK _ (by rw [h2, List.take_of_length_le (by omega)]; rfl))
    | trace_state
noncomputable def War.turn (rows : List (List Int)) (w : War) : Int := if w.priority = 1 then -1 else (cntN rows w.number : Nat)
theorem turn_ (number priority frm til atX atY radius : Int) (words : ByteArray) {rs : List (List AV)} {t b : Bool} {rows : List (List Int)} (hr : rs = rows.map (llR b)) : AC Try.prog 117 [.agg [.int .i64 number, .int .i64 priority, .int .i64 frm, .int .i64 til, .int .i64 atX, .int .i64 atY, .int .i64 radius, .str words], .pp [.sl t 1 rs]] (AV.int .i64) (War.turn rows ⟨number, priority, frm, til, atX, atY, radius, words⟩) := by
  refine ac Try.func117 (by kernel_rfl) (.int _ _) fun E K hE hK => ?_
  conv => cbv
  repeat' first
    | ((first
     | refine idxV hE (by assumption) (by omega) (by assumption) ?_
     | refine callI hE (sent_ _ hr) (fun _ _ => ?_)
     | refine ltT hE (by omega) ?_
     | refine ltF hE (by omega) ?_
     | refine ltI hE (fun _ => ?_) (fun _ => ?_)
     | refine leT hE (by omega) ?_
     | refine leF hE (by omega) ?_
     | refine leI hE (fun _ => ?_) (fun _ => ?_)
     | refine eqT hE (by omega) ?_
     | refine eqF hE (by omega) ?_
     | refine eqI hE (fun _ => ?_) (fun _ => ?_)
     | refine add64 hE (by omega) (fun _ _ => ?_)
     | refine sub64 hE (by omega) (fun _ _ => ?_)
     | refine addI hE (fun _ _ => ?_)
     | refine subI hE (fun _ _ => ?_)
     | refine lenL hE (by assumption) (fun _ _ _ => ?_)
     | refine len0 hE (fun _ _ => ?_)
     | refine idxL hE (by assumption) (by first | omega | (simp only [List.length_set, mix_len]; omega)) (fun _ _ => ?_)
     | refine idxFill hE (by assumption) (by omega) ?_
     | refine idxI hE (by decide) (by rfl) ?_
     | refine iteB (fun _ => ?_) (fun _ => ?_)
     | refine maxI hE (fun _ _ => ?_)
     | refine minI hE (fun _ _ => ?_)
     | refine seqI hE (fun _ => ?_) (fun _ => ?_)
     | refine scatI hE (by first | omega | (simp only [ByteArray.size, Array.size, List.length_cons, List.length_nil] at *; omega)) (fun _ _ _ => ?_)
     | refine slenI hE (fun _ _ _ => ?_)
     | refine sidxI hE (by omega) (fun _ _ _ _ => ?_)
     | refine needI hE (by first | decide | omega) ?_
     | refine rem64 hE (by omega) (fun _ _ => ?_)
     | refine quo64 hE (by omega) (fun _ _ => ?_)
     | refine wrapU8 hE (by omega) (fun _ _ => ?_)
     | refine wrap64 hE (by omega) (fun _ _ => ?_)
     | refine noownI hE (by simp [AV.isOwn]) ?_) <;> (try conv => cbv))
  all_goals first
    | (refine hK _ ?_; rw [War.turn, if_pos (by assumption)]; rfl)
    | (refine hK _ ?_; rw [War.turn, if_neg (by assumption)]; subst_vars; rfl)
    | trace_state
noncomputable def War.cmpT (rows : List (List Int)) (a b : War) : Int := orI [cmpI (a.turn rows) (b.turn rows), War.cmp a b]
def War.ST (rows : List (List Int)) (a b : War) : Prop := a.turn rows < b.turn rows ∨ (a.turn rows = b.turn rows ∧ War.S0 a b)
theorem War.cmpT_neg (rows : List (List Int)) (a b : War) : War.cmpT rows a b < 0 ↔ War.ST rows a b := by
  have h := War.cmp_neg a b
  unfold War.cmpT War.ST
  generalize War.turn rows a = x at *
  generalize War.turn rows b = y at *
  rw [← h]
  generalize War.cmp a b = z at *
  simp only [orI, cmpI]
  split <;> (try split) <;> (try split) <;> (try split) <;> omega
theorem War.ST_tr (rows : List (List Int)) (x y z : War) (h1 : War.ST rows x y) (h2 : War.ST rows y z) : War.ST rows x z := by
  unfold War.ST at *
  rcases h1 with h1 | ⟨h1, h1'⟩ <;> rcases h2 with h2 | ⟨h2, h2'⟩
  · left; omega
  · left; omega
  · left; omega
  · right; exact ⟨by omega, War.S0_tr _ _ _ h1' h2'⟩
theorem War.ST_ir (rows : List (List Int)) (x : War) : ¬ War.ST rows x x := by
  unfold War.ST
  rintro (h | ⟨_, h⟩)
  · omega
  · exact War.S0_ir x h
theorem War.S0_ntr (x y z : War) (h1 : ¬ War.S0 x y) (h2 : ¬ War.S0 y z) : ¬ War.S0 x z := by unfold War.S0 at *; omega
theorem War.swoT (rows : List (List Int)) : SWO (ltOf (War.cmpT rows)) :=
  swo_of (fun x => by rw [War.cmpT_neg]; exact War.ST_ir rows x) (fun x y z h1 h2 => by rw [War.cmpT_neg] at *; exact War.ST_tr _ _ _ _ h1 h2) (fun x y z h1 h2 => by
    rw [War.cmpT_neg] at *
    unfold War.ST at *
    rintro (h | ⟨h, h'⟩)
    · by_cases e1 : War.turn rows x = War.turn rows y <;> by_cases e2 : War.turn rows y = War.turn rows z <;> omega
    · have e1 : War.turn rows x = War.turn rows y := by
        apply Classical.byContradiction; intro hne; exact h1 (.inl (by
          apply Classical.byContradiction; intro h3; exact h2 (.inl (by omega))))
      have e2 : War.turn rows y = War.turn rows z := by omega
      exact War.S0_ntr x y z (fun h3 => h1 (.inr ⟨e1, h3⟩)) (fun h3 => h2 (.inr ⟨e2, h3⟩)) h')
theorem cmpTurn_ (number priority frm til atX atY radius : Int) (words : ByteArray) (number' priority' frm' til' atX' atY' radius' : Int) (words' : ByteArray) {rs : List (List AV)} {t b : Bool} {rows : List (List Int)} (hr : rs = rows.map (llR b)) : AC Try.prog 118 [.agg [.int .i64 number, .int .i64 priority, .int .i64 frm, .int .i64 til, .int .i64 atX, .int .i64 atY, .int .i64 radius, .str words], .agg [.int .i64 number', .int .i64 priority', .int .i64 frm', .int .i64 til', .int .i64 atX', .int .i64 atY', .int .i64 radius', .str words'], .pp [.fn 117 [.pp [.sl t 1 rs]]]] (AV.int .i64) (War.cmpT rows ⟨number, priority, frm, til, atX, atY, radius, words⟩ ⟨number', priority', frm', til', atX', atY', radius', words'⟩) := by
  refine ac Try.func118 (by kernel_rfl) (.int _ _) fun E K hE hK => ?_
  conv => cbv
  repeat' first
    | ((first
     | refine idxV hE (by assumption) (by omega) (by assumption) ?_
     | refine callI hE (turn_ _ _ _ _ _ _ _ _ hr) (fun _ _ => ?_)
     | refine callI hE (compare_ _ _) (fun _ _ => ?_)
     | refine callI hE (warCompare_ _ _ _ _ _ _ _ _ _ _ _ _ _ _ _ _) (fun _ _ => ?_)
     | refine callI hE (cmpOr_ (l := [_, _]) (by rfl)) (fun _ _ => ?_)
     | refine ltT hE (by omega) ?_
     | refine ltF hE (by omega) ?_
     | refine ltI hE (fun _ => ?_) (fun _ => ?_)
     | refine leT hE (by omega) ?_
     | refine leF hE (by omega) ?_
     | refine leI hE (fun _ => ?_) (fun _ => ?_)
     | refine eqT hE (by omega) ?_
     | refine eqF hE (by omega) ?_
     | refine eqI hE (fun _ => ?_) (fun _ => ?_)
     | refine add64 hE (by omega) (fun _ _ => ?_)
     | refine sub64 hE (by omega) (fun _ _ => ?_)
     | refine addI hE (fun _ _ => ?_)
     | refine subI hE (fun _ _ => ?_)
     | refine lenL hE (by assumption) (fun _ _ _ => ?_)
     | refine len0 hE (fun _ _ => ?_)
     | refine idxL hE (by assumption) (by first | omega | (simp only [List.length_set, mix_len]; omega)) (fun _ _ => ?_)
     | refine idxFill hE (by assumption) (by omega) ?_
     | refine idxI hE (by decide) (by rfl) ?_
     | refine iteB (fun _ => ?_) (fun _ => ?_)
     | refine maxI hE (fun _ _ => ?_)
     | refine minI hE (fun _ _ => ?_)
     | refine seqI hE (fun _ => ?_) (fun _ => ?_)
     | refine scatI hE (by first | omega | (simp only [ByteArray.size, Array.size, List.length_cons, List.length_nil] at *; omega)) (fun _ _ _ => ?_)
     | refine slenI hE (fun _ _ _ => ?_)
     | refine sidxI hE (by omega) (fun _ _ _ _ => ?_)
     | refine needI hE (by first | decide | omega) ?_
     | refine rem64 hE (by omega) (fun _ _ => ?_)
     | refine quo64 hE (by omega) (fun _ _ => ?_)
     | refine wrapU8 hE (by omega) (fun _ _ => ?_)
     | refine wrap64 hE (by omega) (fun _ _ => ?_)
     | refine noownI hE (by simp [AV.isOwn]) ?_) <;> (try conv => cbv))
  refine hK _ ?_
  subst_vars
  rfl
theorem sortTurn_ {rs rs0 : List (List AV)} {t b : Bool} {rows : List (List Int)} {l : List War} (hr : rs0 = rows.map (llR b)) (hl : rs = l.map War.cs) (hb : l.length ≤ 1048576) : ACM Try.prog 62 [.sl true 8 rs, .fn 118 [.pp [.fn 117 [.pp [.sl t 1 rs0]]]]]
    (fun r ys => ∃ (m : List War) (rs' : List (List AV)), m.Perm l ∧ (m.Pairwise fun x y => ¬ War.ST rows y x) ∧ rs' = m.map War.cs ∧ r = .tup [] ∧ ys = [.sl true 8 rs', .any]) :=
  (ACM.sort War.cs Try.sortWar Try.isAgg48 Try.sizeOf48 (fun _ _ => rfl) (fun _ => rfl) (fun _ _ h => by simp only [War.cs, List.mem_cons, List.not_mem_nil, or_false] at h; rcases h with rfl | rfl | rfl | rfl | rfl | rfl | rfl | rfl <;> rfl) (War.swoT rows) (fun x y => cmpTurn_ x.number x.priority x.frm x.til x.atX x.atY x.radius x.words y.number y.priority y.frm y.til y.atX y.atY y.radius y.words hr) hl hb).mono
    fun r ys ⟨m, rs', h1, h2, h3, h4, h5⟩ => ⟨m, rs', h1, pw_of fun i j x y hij hx hy h => h2 i j x y hij hx hy ((War.cmpT_neg rows y x).2 h), h3, h4, h5⟩
noncomputable def cntL (l : List War) (rows : List (List Int)) : List Int := l.map fun w => ((cntN rows w.number : Nat) : Int)
/-- The order in which all are sent, once 'rows' have been. -/
noncomputable def sOrd (l : List War) (t : Int) (rows : List (List Int)) : List Int := wOrd l t (cntL l rows) l.length
noncomputable def bRowS (l : List War) (t room : Int) (rows : List (List Int)) : List Int := (((sOrd l t rows).take room.toNat).map (wAt l)).map War.number
theorem iAt_cnt {l : List War} {rows : List (List Int)} {k : Nat} {x : War} (hx : l[k]? = some x) : iAt (cntL l rows) k = (cntN rows x.number : Nat) := iAt_eq (by
  unfold cntL
  rw [List.getElem?_map, show ((k : Int)).toNat = k by omega, hx]; rfl)
theorem sOrd_is {l : List War} (hok : WarnsOk l) (t : Int) (rows : List (List Int)) : ((sOrd l t rows).map (wAt l)).Perm (actives l t) ∧ ((sOrd l t rows).map (wAt l)).Pairwise (War.ST rows) := by
  have h := ordG_is (l := l) (at_ := wAt l) (fun n v hv => wAt_eq (by simpa using hv)) (p := fun w : War => t < w.frm ∨ w.til ≤ t) (War.ST_tr rows) (War.ST_ir rows) (skip := fun i => t < (wAt l i).frm ∨ (wAt l i).til ≤ t) (bef := fun i q => War.bef (wAt l i) (wAt l q) (iAt (cntL l rows) i) (iAt (cntL l rows) q))
    (fun n v hv => by rw [wAt_eq (k := n) (by simpa using hv)]) (fun i j x y hij hx hy _ _ => by
      rw [wAt_eq (k := i) (by simpa using hx), wAt_eq (k := j) (by simpa using hy), iAt_cnt hx, iAt_cnt hy]
      have hn := numb_mono hok j i y x hij hy hx
      have px := (hok.all x (List.mem_of_getElem? hx)).2.1
      have py := (hok.all y (List.mem_of_getElem? hy)).2.1
      unfold War.bef War.ST War.turn War.S0
      have ha : (0 : Int) ≤ (cntN rows x.number : Nat) := Int.natCast_nonneg _
      have hb' : (0 : Int) ≤ (cntN rows y.number : Nat) := Int.natCast_nonneg _
      generalize ((cntN rows x.number : Nat) : Int) = a at *
      generalize ((cntN rows y.number : Nat) : Int) = b at *
      constructor
      · split <;> split <;> split <;> first | omega | trace_state
      · split <;> split <;> omega) l.length (Nat.le_refl _)
  rw [List.take_length] at h
  exact ⟨h.1, h.2.1⟩
theorem sOrd_mem (l : List War) (t : Int) (rows : List (List Int)) : (∀ k ∈ sOrd l t rows, 0 ≤ k ∧ k < l.length) ∧ (sOrd l t rows).length ≤ l.length := ordG_mem _ _ _
theorem sOrd_nodup {l : List War} (hok : WarnsOk l) (t : Int) (rows : List (List Int)) : (sOrd l t rows).Pairwise fun i j => i ≠ j :=
  (List.pairwise_map.1 (sOrd_is hok t rows).2).imp (S := fun i j => i ≠ j) fun {i j} h (e : i = j) => War.ST_ir rows (wAt l j) (by rw [e] at h; exact h)
theorem bRow_is {l m : List War} (hok : WarnsOk l) (t room : Int) (rows : List (List Int)) (hp : m.Perm (actives l t)) (hs : m.Pairwise fun x y => ¬ War.ST rows y x) : (m.take room.toNat).map War.number = bRowS l t room rows := by
  obtain ⟨h1, h2⟩ := sOrd_is hok t rows
  have e := strict_uniq (War.ST_tr rows) (War.ST_ir rows) (hp.trans h1.symm) h2 hs
  rw [e]; simp only [bRowS, List.map_take]
theorem bRowS_len (l : List War) (t room : Int) (rows : List (List Int)) : (bRowS l t room rows).length ≤ l.length := by
  have := (sOrd_mem l t rows).2
  unfold bRowS
  simp only [List.length_map, List.length_take]
  omega
theorem broadcast_ {rs rs0 : List (List AV)} {b t' b' : Bool} {l : List War} {rows : List (List Int)} (t room : Int) (hl : rs = l.map War.cs) (hr : rs0 = rows.map (llR b')) (hok : WarnsOk l) (hroom : 1 ≤ room ∧ room ≤ 32) : AC Try.prog 59 [.sl b 8 rs, .sl t' 1 rs0, .int .i64 t, .int .i64 room] (fun l : List Int => .sl true 1 (l.map intR)) (bRowS l t room rows) := by
  refine ac Try.func59 (by kernel_rfl) (.ints _) fun E K hE hK => ?_
  conv => cbv
  have h32 := hok.2
  have hal := actives_len l t
  repeat' first
    | (refine callMI hE (sortTurn_ hr (by assumption) (by omega)) ?_; rintro r ys ⟨m, rs2, hperm, hsort, h2, rfl, rfl⟩; have hml := hperm.length_eq; conv => cbv)
    | ((first
     | refine idxV hE (by assumption) (by omega) (by assumption) ?_
     | refine callR hE (active_ t hl (by omega)) (fun _ _ => ?_)
     | refine sameI hE (by subst_vars; rw [List.length_map, List.length_map]; assumption) ?_
     | refine subL hE h2 (by simp only [Option.getD_some, Option.getD_none]; omega) (fun _ _ => ?_)
     | refine callR hE (numbersOf_ (by assumption) (by simp only [List.length_take, List.length_drop]; omega)) (fun _ _ => ?_)
     | refine ltT hE (by omega) ?_
     | refine ltF hE (by omega) ?_
     | refine ltI hE (fun _ => ?_) (fun _ => ?_)
     | refine leT hE (by omega) ?_
     | refine leF hE (by omega) ?_
     | refine leI hE (fun _ => ?_) (fun _ => ?_)
     | refine eqT hE (by omega) ?_
     | refine eqF hE (by omega) ?_
     | refine eqI hE (fun _ => ?_) (fun _ => ?_)
     | refine add64 hE (by omega) (fun _ _ => ?_)
     | refine sub64 hE (by omega) (fun _ _ => ?_)
     | refine addI hE (fun _ _ => ?_)
     | refine subI hE (fun _ _ => ?_)
     | refine lenL hE (by assumption) (fun _ _ _ => ?_)
     | refine len0 hE (fun _ _ => ?_)
     | refine idxL hE (by assumption) (by first | omega | (simp only [List.length_set, mix_len]; omega)) (fun _ _ => ?_)
     | refine idxFill hE (by assumption) (by omega) ?_
     | refine idxI hE (by decide) (by rfl) ?_
     | refine iteB (fun _ => ?_) (fun _ => ?_)
     | refine maxI hE (fun _ _ => ?_)
     | refine minI hE (fun _ _ => ?_)
     | refine seqI hE (fun _ => ?_) (fun _ => ?_)
     | refine scatI hE (by first | omega | (simp only [ByteArray.size, Array.size, List.length_cons, List.length_nil] at *; omega)) (fun _ _ _ => ?_)
     | refine slenI hE (fun _ _ _ => ?_)
     | refine sidxI hE (by omega) (fun _ _ _ _ => ?_)
     | refine needI hE (by first | decide | omega) ?_
     | refine rem64 hE (by omega) (fun _ _ => ?_)
     | refine quo64 hE (by omega) (fun _ _ => ?_)
     | refine wrapU8 hE (by omega) (fun _ _ => ?_)
     | refine wrap64 hE (by omega) (fun _ _ => ?_)
     | refine noownI hE (by simp [AV.isOwn]) ?_) <;> (try conv => cbv))
  all_goals first
    | (refine hK _ ?_
       rw [← bRow_is hok t room rows hperm hsort]
       subst_vars
       simp only [Option.getD_some, Int.toNat_zero, List.drop_zero]
       have e2 : m.take (min room (m.length : Int)).toNat = m.take room.toNat := by
         rcases Int.le_total room m.length with h | h
         · rw [Int.min_eq_left h]
         · rw [Int.min_eq_right h, List.take_of_length_le (by omega), List.take_of_length_le (by omega)]
       rw [e2]
       rfl)
    | trace_state
/-- The lists, one after the other. -/
noncomputable def bRun (l : List War) (frm every room : Int) : Nat → List (List Int)
  | 0 => []
  | k + 1 => bRun l frm every room k ++ [bRowS l (frm + every * k) room (bRun l frm every room k)]
theorem bRun_len (l : List War) (frm every room : Int) : ∀ k, (bRun l frm every room k).length = k
  | 0 => rfl
  | k + 1 => by rw [bRun, List.length_append, bRun_len l frm every room k]; rfl
theorem bRun_row (l : List War) (frm every room : Int) : ∀ k, ∀ x ∈ bRun l frm every room k, x.length ≤ l.length
  | 0, x, h => by simp [bRun] at h
  | k + 1, x, h => by
    rw [bRun] at h
    rcases List.mem_append.1 h with h | h
    · exact bRun_row l frm every room k x h
    · rw [List.mem_singleton.1 h]; exact bRowS_len _ _ _ _
theorem bRun_step {l : List War} {frm every room i n p t : Int} {x : List Int} (h0 : 0 ≤ i) (hn : n = i + 1) (hp : p = every * i) (ht : t = frm + p) (hx : x = bRowS l t room (bRun l frm every room i.toNat)) : bRun l frm every room n.toNat = bRun l frm every room i.toNat ++ [x] := by
  rw [show n.toNat = i.toNat + 1 by omega, bRun, Int.toNat_of_nonneg h0, ← hp, ← ht, ← hx]
def BcArgs (frm every count room : Int) : Prop := (1 ≤ every ∧ every ≤ 10000) ∧ (0 ≤ count ∧ count ≤ 48) ∧ (1 ≤ room ∧ room ≤ 32) ∧ (0 < count → TimeOk frm ∧ TimeOk (frm + every * (count - 1)))
noncomputable def bcR (l : List War) (frm every count room : Int) : List (List Int) × Int := if WarnsOk l then (if BcArgs frm every count room then (bRun l frm every room count.toNat, 0) else ([], 2)) else ([], 1)
theorem bmul {e c : Int} (h : 1 ≤ e ∧ e ≤ 10000) (hc : -1 ≤ c ∧ c ≤ 48) : -10000 ≤ e * c ∧ e * c ≤ 480000 := by
  have h1 : e * c ≤ e * 48 := Int.mul_le_mul_of_nonneg_left hc.2 (by omega)
  have h2 : e * (-1) ≤ e * c := Int.mul_le_mul_of_nonneg_left hc.1 (by omega)
  omega
theorem mulE {E : Env} {np : Nat} {P : Program} (hE : E = stdE np P) {e c : Int} {K : Int → Prop} (he : 1 ≤ e ∧ e ≤ 10000) (hc : -1 ≤ c ∧ c ≤ 48) (hk : ∀ p, p = e * c → -10000 ≤ p ∧ p ≤ 480000 → K p) : E.mul .i64 e c K :=
  mul64 hE (by have := bmul he hc; omega) fun p hp => hk p hp (by rw [hp]; exact bmul he hc)
theorem mulE' {E : Env} {np : Nat} {P : Program} (hE : E = stdE np P) {e c : Int} {K : Int → Prop} (he : 1 ≤ e ∧ e ≤ 10000) (hc : -1 ≤ c ∧ c ≤ 48) (hk : ∀ p, p = e * c → -10000 ≤ p ∧ p ≤ 480000 → K p) : E.mul .i64 c e K :=
  mul64 hE (by have := bmul he hc; rw [Int.mul_comm]; omega) fun p hp => hk p (by rw [hp, Int.mul_comm]) (by rw [hp, Int.mul_comm]; exact bmul he hc)
theorem broadcasts_ {rs : List (List AV)} {b : Bool} {l : List War} (frm every count room : Int) (hl : rs = l.map War.cs) (hb : l.length ≤ 1048576) : AC Try.prog 16 [.sl b 8 rs, .int .i64 frm, .int .i64 every, .int .i64 count, .int .i64 room] llLI (bcR l frm every count room) := by
  refine ac Try.func16 (by kernel_rfl) (.llLI _) fun E K hE hK => ?_
  conv => cbv
  refine callP hE (validWarnings_ hl) (fun hok => ?_) (fun hok => ?_) <;> conv => cbv
  · skip
    repeat' first
      | (refine callP hE (isTime_ _) (fun ht => ?_) (fun ht => ?_) <;> (try unfold TimeOk at ht) <;> (try conv => cbv))
      | (refine mulE hE (by assumption) (by omega) (fun p hp hpb => ?_); (try conv => cbv))
      | (refine mulE' hE (by assumption) (by omega) (fun p hp hpb => ?_); (try conv => cbv))
      | ((refine loopC hE (ι := Int × (List (List AV))) [0, 1, 2, 4, 48] [49, 12] (fun q => (fun (i : Int) (os : List (List AV)) => [(49, .int .i64 i), (12, .ob 0)]) q.1 q.2) (fun q => (fun (i : Int) (os : List (List AV)) => [.row 1 os]) q.1 q.2) (fun q => (fun (i : Int) (os : List (List AV)) => (count - i).toNat) q.1 q.2) (fun q => (fun (i : Int) (os : List (List AV)) => (0 ≤ i ∧ i ≤ count) ∧ os = (bRun l frm every room i.toNat).map (llR true)) q.1 q.2) [0] (by decide) ((0, [])) (by conv => lhs; cbv) (by conv => lhs; cbv) rfl rfl (by dsimp only; exact ⟨by omega, rfl⟩) fun q hi2 Kn2 hN2 => ?_; obtain ⟨i, os⟩ := q; (try dsimp only at hi2); conv => cbv); obtain ⟨⟨h0, h1⟩, h2⟩ := hi2; have hbl := bRun_len l frm every room i.toNat)
      | (refine callR hE (broadcast_ _ room hl h2 hok (by assumption)) (fun rs1 hr1 => ?_); (try conv => cbv))
      | (refine hN2 (_, _) _ [3] (by decide) rfl ⟨?_, ?_⟩ ?_ <;> (try dsimp only))
      | ((first
       | refine idxV hE (by assumption) (by omega) (by assumption) ?_
       | refine callP hE (within_ _ _ _) (fun _ => ?_) (fun _ => ?_)
       | refine nilOwnI hE 1 ?_
       | refine catP hE (R := llR true) (v := bRowS l _ room (bRun l frm every room i.toNat)) h2 (by rw [llR, ← hr1]) (by omega) (fun _ _ => ?_)
       | refine ltT hE (by omega) ?_
       | refine ltF hE (by omega) ?_
       | refine ltI hE (fun _ => ?_) (fun _ => ?_)
       | refine leT hE (by omega) ?_
       | refine leF hE (by omega) ?_
       | refine leI hE (fun _ => ?_) (fun _ => ?_)
       | refine eqT hE (by omega) ?_
       | refine eqF hE (by omega) ?_
       | refine eqI hE (fun _ => ?_) (fun _ => ?_)
       | refine add64 hE (by omega) (fun _ _ => ?_)
       | refine sub64 hE (by omega) (fun _ _ => ?_)
       | refine addI hE (fun _ _ => ?_)
       | refine subI hE (fun _ _ => ?_)
       | refine lenL hE (by assumption) (fun _ _ _ => ?_)
       | refine len0 hE (fun _ _ => ?_)
       | refine idxL hE (by assumption) (by first | omega | (simp only [List.length_set, mix_len]; omega)) (fun _ _ => ?_)
       | refine idxFill hE (by assumption) (by omega) ?_
       | refine idxI hE (by decide) (by rfl) ?_
       | refine iteB (fun _ => ?_) (fun _ => ?_)
       | refine maxI hE (fun _ _ => ?_)
       | refine minI hE (fun _ _ => ?_)
       | refine seqI hE (fun _ => ?_) (fun _ => ?_)
       | refine scatI hE (by first | omega | (simp only [ByteArray.size, Array.size, List.length_cons, List.length_nil] at *; omega)) (fun _ _ _ => ?_)
       | refine slenI hE (fun _ _ _ => ?_)
       | refine sidxI hE (by omega) (fun _ _ _ _ => ?_)
       | refine needI hE (by first | decide | omega) ?_
       | refine rem64 hE (by omega) (fun _ _ => ?_)
       | refine quo64 hE (by omega) (fun _ _ => ?_)
       | refine wrapU8 hE (by omega) (fun _ _ => ?_)
       | refine wrap64 hE (by omega) (fun _ _ => ?_)
       | refine noownI hE (by simp [AV.isOwn]) ?_) <;> (try conv => cbv))
    all_goals (try clear hN2)
    all_goals first
      | omega
      | (subst_vars; rw [bRun_step h0 rfl rfl rfl rfl]; done)
      | (refine hK _ ?_; rw [bcR, if_pos hok, if_pos (by unfold BcArgs TimeOk; subst_vars; omega), h2, show i = count by omega]; rfl)
      | (refine hK _ ?_; rw [bcR, if_pos hok, if_neg (by unfold BcArgs TimeOk; subst_vars; omega)]; rfl)
      | trace_state
  · refine nilOwnI hE 1 ?_
    conv => cbv
    refine hK _ ?_
    rw [bcR, if_neg hok]; rfl
end Go.Proofs.Ytjenekakcoggpaa
