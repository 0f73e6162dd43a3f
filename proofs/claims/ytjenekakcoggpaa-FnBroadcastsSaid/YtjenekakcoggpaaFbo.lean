/- Contracts: the order of broadcasts; the law. -/
import Derived.Test.YtjenekakcoggpaaFio
import Derived.Test.YtjenekakcoggpaaFwc
namespace Go.Proofs.Ytjenekakcoggpaa
open Go Go.RowKit Go.Sort Classical
set_option maxRecDepth 100000
set_option maxHeartbeats 2000000
set_option linter.unusedVariables false
set_option linter.unusedSimpArgs false
/-- Sent before: the vital ones first, then those that have been sent less often (x, y). -/
def War.bef (a b : War) (x y : Int) : Prop := if ¬ (a.priority = 1 ∨ b.priority = 1) ∧ x ≠ y then x < y else a.priority < b.priority ∨ (a.priority = b.priority ∧ (b.frm < a.frm ∨ (a.frm = b.frm ∧ a.number < b.number)))
def War.S0 (a b : War) : Prop := a.priority < b.priority ∨ (a.priority = b.priority ∧ (b.frm < a.frm ∨ (a.frm = b.frm ∧ a.number < b.number)))
theorem War.bef_zero (a b : War) : War.bef a b 0 0 ↔ War.S0 a b := by unfold War.bef War.S0; simp
def War.cmp (a b : War) : Int := orI [cmpI a.priority b.priority, cmpI b.frm a.frm, cmpI a.number b.number]
theorem War.cmp_neg (a b : War) : War.cmp a b < 0 ↔ War.S0 a b := by
  unfold War.cmp War.S0 cmpI
  simp only [orI]
  split <;> (try split) <;> (try split) <;> (try split) <;> (try split) <;> (try split) <;> omega
theorem War.S0_tr (x y z : War) (h1 : War.S0 x y) (h2 : War.S0 y z) : War.S0 x z := by unfold War.S0 at *; omega
theorem War.S0_ir (x : War) : ¬ War.S0 x x := by unfold War.S0; omega
theorem War.swo : SWO (ltOf War.cmp) :=
  swo_of (fun x => by rw [War.cmp_neg]; exact War.S0_ir x) (fun x y z h1 h2 => by rw [War.cmp_neg] at *; exact War.S0_tr _ _ _ h1 h2) (fun x y z h1 h2 => by rw [War.cmp_neg] at *; unfold War.S0 at *; omega)
theorem warCompare_ (number priority frm til atX atY radius : Int) (words : ByteArray) (number' priority' frm' til' atX' atY' radius' : Int) (words' : ByteArray) : AC Try.prog 63 [.agg [.int .i64 number, .int .i64 priority, .int .i64 frm, .int .i64 til, .int .i64 atX, .int .i64 atY, .int .i64 radius, .str words], .agg [.int .i64 number', .int .i64 priority', .int .i64 frm', .int .i64 til', .int .i64 atX', .int .i64 atY', .int .i64 radius', .str words']] (AV.int .i64) (War.cmp ⟨number, priority, frm, til, atX, atY, radius, words⟩ ⟨number', priority', frm', til', atX', atY', radius', words'⟩) := by
  refine ac Try.func63 (by kernel_rfl) (.int _ _) fun E K hE hK => ?_
  conv => cbv
  repeat' first
    | ((first
     | refine idxV hE (by assumption) (by omega) (by assumption) ?_
     | refine callI hE (compare_ _ _) (fun _ _ => ?_)
     | refine callI hE (cmpOr_ (l := [_, _, _]) (by rfl)) (fun _ _ => ?_)
     | refine ltT hE (by omega) ?_
     | refine ltF hE (by omega) ?_
     | refine ltI hE (fun _ => ?_) (fun _ => ?_)
     | refine leT hE (by omega) ?_
     | refine leF hE (by omega) ?_
     | refine leI hE (fun _ => ?_) (fun _ => ?_)
     | refine eqT hE (by omega) ?_
     | refine eqF hE (by omega) ?_
     | refine eqI hE (fun _ => ?_) (fun _ => ?_)
     | refine add64 hE (by omega) (fun _ _ => ?_)
     | refine sub64 hE (by omega) (fun _ _ => ?_)
     | refine addI hE (fun _ _ => ?_)
     | refine subI hE (fun _ _ => ?_)
     | refine lenL hE (by assumption) (fun _ _ _ => ?_)
     | refine len0 hE (fun _ _ => ?_)
     | refine idxL hE (by assumption) (by first | omega | (simp only [List.length_set, mix_len]; omega)) (fun _ _ => ?_)
     | refine idxFill hE (by assumption) (by omega) ?_
     | refine idxI hE (by decide) (by rfl) ?_
     | refine iteB (fun _ => ?_) (fun _ => ?_)
     | refine maxI hE (fun _ _ => ?_)
     | refine minI hE (fun _ _ => ?_)
     | refine seqI hE (fun _ => ?_) (fun _ => ?_)
     | refine scatI hE (by first | omega | (simp only [ByteArray.size, Array.size, List.length_cons, List.length_nil] at *; omega)) (fun _ _ _ => ?_)
     | refine slenI hE (fun _ _ _ => ?_)
     | refine sidxI hE (by omega) (fun _ _ _ _ => ?_)
     | refine needI hE (by first | decide | omega) ?_
     | refine rem64 hE (by omega) (fun _ _ => ?_)
     | refine quo64 hE (by omega) (fun _ _ => ?_)
     | refine wrapU8 hE (by omega) (fun _ _ => ?_)
     | refine wrap64 hE (by omega) (fun _ _ => ?_)
     | refine noownI hE (by simp [AV.isOwn]) ?_) <;> (try conv => cbv))
  refine hK _ ?_
  subst_vars
  rfl
theorem sortWar_ {rs : List (List AV)} {l : List War} (hl : rs = l.map War.cs) (hb : l.length ≤ 1048576) : ACM Try.prog 62 [.sl true 8 rs, .fn 63 []]
    (fun r ys => ∃ (m : List War) (rs' : List (List AV)), m.Perm l ∧ (m.Pairwise fun x y => ¬ War.S0 y x) ∧ rs' = m.map War.cs ∧ r = .tup [] ∧ ys = [.sl true 8 rs', .any]) :=
  (ACM.sort War.cs Try.sortWar Try.isAgg48 Try.sizeOf48 (fun _ _ => rfl) (fun _ => rfl) (fun _ _ h => by simp only [War.cs, List.mem_cons, List.not_mem_nil, or_false] at h; rcases h with rfl | rfl | rfl | rfl | rfl | rfl | rfl | rfl <;> rfl) War.swo (fun x y => warCompare_ x.number x.priority x.frm x.til x.atX x.atY x.radius x.words y.number y.priority y.frm y.til y.atX y.atY y.radius y.words) hl hb).mono
    fun r ys ⟨m, rs', h1, h2, h3, h4, h5⟩ => ⟨m, rs', h1, pw_of fun i j x y hij hx hy h => h2 i j x y hij hx hy ((War.cmp_neg y x).2 h), h3, h4, h5⟩
def wAt (l : List War) (k : Int) : War := l.getD k.toNat ⟨0, 0, 0, 0, 0, 0, 0, ⟨#[]⟩⟩
theorem wAt_eq {l : List War} {k : Int} {v : War} (h : l[k.toNat]? = some v) : wAt l k = v := by
  unfold wAt; rw [List.getD_eq_getElem?_getD, h]; rfl
def iAt (l : List Int) (k : Int) : Int := l.getD k.toNat 0
theorem iAt_eq {l : List Int} {k v : Int} (h : l[k.toNat]? = some v) : iAt l k = v := by
  unfold iAt; rw [List.getD_eq_getElem?_getD, h]; rfl
/-- The reference's order: indices. -/
noncomputable def wOrd (l : List War) (t : Int) (sent : List Int) (n : Nat) : List Int := ordG (fun i => t < (wAt l i).frm ∨ (wAt l i).til ≤ t) (fun i q => War.bef (wAt l i) (wAt l q) (iAt sent i) (iAt sent q)) n
theorem numb_mono {l : List War} (h : WarnsOk l) (j : Nat) : ∀ (k : Nat) x y, j < k → l[j]? = some x → l[k]? = some y → x.number < y.number
  | 0, x, y, h1, _, _ => by omega
  | k + 1, x, y, hjk, hx, hy => by
    obtain ⟨y', h1, _, h2⟩ := h.1 (k + 1) (List.getElem?_eq_some_iff.1 hy).1
    rw [hy] at h1; cases h1
    obtain ⟨z, hz, hzy⟩ := h2 (by omega)
    rw [Nat.add_sub_cancel] at hz
    rcases Nat.lt_or_ge j k with hj | hj
    · have := numb_mono h j k x z hj hx hz; omega
    · have : j = k := by omega
      subst this
      rw [hx] at hz; cases hz; exact hzy
theorem wscan_down {l : List War} {sent o : List Int} {i a n n' m q q' vx vq : Int} {x y : War} (hb : x.bef y vx vq) (hx : wAt l i = x) (hy : wAt l q = y) (hsx : iAt sent i = vx) (hsq : iAt sent q' = vq) (hq : o[n.toNat]? = some q) (hn : n = a - 1) (hq' : o[n'.toNat]? = some q') (hn' : n' = a - 1) (h0 : 0 < a) (hm : m = a - 1) :
    scanG (fun q => (wAt l i).bef (wAt l q) (iAt sent i) (iAt sent q)) o a.toNat = scanG (fun q => (wAt l i).bef (wAt l q) (iAt sent i) (iAt sent q)) o m.toNat := by
  have e : q' = q := by
    rw [hn', ← hn, hq] at hq'; cases hq'; rfl
  subst e
  exact scanG_down hq h0 hn hm (by rw [hx, hy, hsx, hsq]; exact hb)
theorem wscan_stop {l : List War} {sent o : List Int} {i a n n' q q' vx vq : Int} {x y : War} (hb : ¬ x.bef y vx vq) (hx : wAt l i = x) (hy : wAt l q = y) (hsx : iAt sent i = vx) (hsq : iAt sent q' = vq) (hq : o[n.toNat]? = some q) (hn : n = a - 1) (hq' : o[n'.toNat]? = some q') (hn' : n' = a - 1) (h0 : 0 < a) :
    scanG (fun q => (wAt l i).bef (wAt l q) (iAt sent i) (iAt sent q)) o a.toNat = a.toNat := by
  have e : q' = q := by
    rw [hn', ← hn, hq] at hq'; cases hq'; rfl
  subst e
  exact scanG_stop hq h0 hn (by rw [hx, hy, hsx, hsq]; exact hb)
theorem wOrd_skip {l : List War} {t : Int} {sent : List Int} {i n : Int} {x : War} (hx : wAt l i = x) (h : t < x.frm ∨ x.til ≤ t) (h0 : 0 ≤ i) (hn : n = i + 1) : wOrd l t sent n.toNat = wOrd l t sent i.toNat := by
  unfold wOrd; exact ordG_skip h0 hn (by rw [hx]; exact h)
theorem wOrd_put {l : List War} {t : Int} {sent o : List Int} {i n a : Int} {x : War} (hx : wAt l i = x) (h : ¬ (t < x.frm ∨ x.til ≤ t)) (h0 : 0 ≤ i) (hn : n = i + 1) (ho : o = wOrd l t sent i.toNat) (ha : scanG (fun q => (wAt l i).bef (wAt l q) (iAt sent i) (iAt sent q)) o o.length = a.toNat) : wOrd l t sent n.toNat = o.take a.toNat ++ i :: o.drop a.toNat := by
  unfold wOrd; exact ordG_put h0 hn (by rw [hx]; exact h) ho ha
theorem l22Before_ (number priority frm til atX atY radius : Int) (words : ByteArray) (number' priority' frm' til' atX' atY' radius' : Int) (words' : ByteArray) (x y : Int) : AC Try.prog 141 [.pp [.int .i64 number, .int .i64 priority, .int .i64 frm, .int .i64 til, .int .i64 atX, .int .i64 atY, .int .i64 radius, .str words], .pp [.int .i64 number', .int .i64 priority', .int .i64 frm', .int .i64 til', .int .i64 atX', .int .i64 atY', .int .i64 radius', .str words'], .int .i64 x, .int .i64 y] AV.bool (bP (War.bef ⟨number, priority, frm, til, atX, atY, radius, words⟩ ⟨number', priority', frm', til', atX', atY', radius', words'⟩ x y)) := by
  refine ac Try.func141 (by kernel_rfl) (.bool _) fun E K hE hK => ?_
  conv => cbv
  repeat' first
    | ((first
     | refine idxV hE (by assumption) (by omega) (by assumption) ?_
     | refine ltT hE (by omega) ?_
     | refine ltF hE (by omega) ?_
     | refine ltI hE (fun _ => ?_) (fun _ => ?_)
     | refine leT hE (by omega) ?_
     | refine leF hE (by omega) ?_
     | refine leI hE (fun _ => ?_) (fun _ => ?_)
     | refine eqT hE (by omega) ?_
     | refine eqF hE (by omega) ?_
     | refine eqI hE (fun _ => ?_) (fun _ => ?_)
     | refine add64 hE (by omega) (fun _ _ => ?_)
     | refine sub64 hE (by omega) (fun _ _ => ?_)
     | refine addI hE (fun _ _ => ?_)
     | refine subI hE (fun _ _ => ?_)
     | refine lenL hE (by assumption) (fun _ _ _ => ?_)
     | refine len0 hE (fun _ _ => ?_)
     | refine idxL hE (by assumption) (by first | omega | (simp only [List.length_set, mix_len]; omega)) (fun _ _ => ?_)
     | refine idxFill hE (by assumption) (by omega) ?_
     | refine idxI hE (by decide) (by rfl) ?_
     | refine iteB (fun _ => ?_) (fun _ => ?_)
     | refine maxI hE (fun _ _ => ?_)
     | refine minI hE (fun _ _ => ?_)
     | refine seqI hE (fun _ => ?_) (fun _ => ?_)
     | refine scatI hE (by first | omega | (simp only [ByteArray.size, Array.size, List.length_cons, List.length_nil] at *; omega)) (fun _ _ _ => ?_)
     | refine slenI hE (fun _ _ _ => ?_)
     | refine sidxI hE (by omega) (fun _ _ _ _ => ?_)
     | refine needI hE (by first | decide | omega) ?_
     | refine rem64 hE (by omega) (fun _ _ => ?_)
     | refine quo64 hE (by omega) (fun _ _ => ?_)
     | refine wrapU8 hE (by omega) (fun _ _ => ?_)
     | refine wrap64 hE (by omega) (fun _ _ => ?_)
     | refine noownI hE (by simp [AV.isOwn]) ?_) <;> (try conv => cbv))
  all_goals first
    | (refine finB hK (bP_true.2 ?_); unfold War.bef; simp only; split <;> omega)
    | (refine finB hK (bP_false.2 ?_); unfold War.bef; simp only; split <;> omega)
    | trace_state
theorem l22Order_ {rs ss : List (List AV)} {b b' : Bool} {l : List War} {sent : List Int} (t : Int) (hl : rs = l.map War.cs) (hs : ss = sent.map intR) (hsl : sent.length = l.length) (hb0 : l.length ≤ 1048576) : AC Try.prog 105 [.sl b 8 rs, .int .i64 t, .sl b' 1 ss] (fun l : List Int => .sl true 1 (l.map intR)) (wOrd l t sent l.length) := by
  refine ac Try.func105 (by kernel_rfl) (.ints _) fun E K hE hK => ?_
  conv => cbv
  refine loopC hE (ι := Int × (List (List AV))) [0, 1, 2] [8, 7] (fun q => (fun (i : Int) (es : List (List AV)) => [(8, .int .i64 i), (7, .ob 0)]) q.1 q.2) (fun q => (fun (i : Int) (es : List (List AV)) => [.row 1 es]) q.1 q.2) (fun q => (fun (i : Int) (es : List (List AV)) => (l.length - i).toNat) q.1 q.2) (fun q => (fun (i : Int) (es : List (List AV)) => (0 ≤ i ∧ i ≤ l.length) ∧ es = (wOrd l t sent i.toNat).map intR) q.1 q.2) [0] (by decide) ((0, [])) (by conv => lhs; cbv) (by conv => lhs; cbv) rfl rfl (by dsimp only; exact ⟨by omega, rfl⟩) fun q hi Kn hN => ?_
  obtain ⟨i, es⟩ := q
  (try dsimp only at hi)
  conv => cbv
  obtain ⟨⟨h0, h1⟩, h2⟩ := hi
  obtain ⟨o, ho⟩ : ∃ o, o = wOrd l t sent i.toNat := ⟨_, rfl⟩
  rw [← ho] at h2
  have hom := ordG_mem (fun i => t < (wAt l i).frm ∨ (wAt l i).til ≤ t) (fun i q => War.bef (wAt l i) (wAt l q) (iAt sent i) (iAt sent q)) i.toNat
  rw [show ordG (fun i => t < (wAt l i).frm ∨ (wAt l i).til ≤ t) (fun i q => War.bef (wAt l i) (wAt l q) (iAt sent i) (iAt sent q)) i.toNat = o from ho.symm] at hom
  repeat' first
    | (refine idxV hE hl (by omega) (by assumption) ?_; (try conv => cbv))
    | (refine idxV hE h2 (by omega) (by assumption) ?_; (try conv => cbv))
    | (refine idxV hE hs (by omega) (by assumption) ?_; (try conv => cbv))
    | ((refine loopC hE (ι := Int) [0, 1, 2, 7, 8] [9] (fun q => (fun (a : Int) => [(9, .int .i64 a)]) q) (fun q => (fun (a : Int) => [.row 1 es]) q) (fun q => (fun (a : Int) => (a).toNat) q) (fun q => (fun (a : Int) => (0 ≤ a ∧ a ≤ o.length) ∧ scanG (fun q => War.bef (wAt l i) (wAt l q) (iAt sent i) (iAt sent q)) o o.length = scanG (fun q => War.bef (wAt l i) (wAt l q) (iAt sent i) (iAt sent q)) o a.toNat) q) [0] (by decide) (_) (by conv => lhs; cbv) (by conv => lhs; cbv) rfl rfl (by dsimp only; exact ⟨by omega, by subst_vars; rfl⟩) fun a hi2 Kn2 hN2 => ?_; (try dsimp only at hi2); conv => cbv); obtain ⟨⟨a0, a1⟩, ainv⟩ := hi2)
    | (refine idxL hE h2 (by omega) (fun q hq => ?_); have hq2 := hom.1 q (List.mem_of_getElem? hq); (try conv => cbv))
    | (refine idxL hE hl (by omega) (fun v hv => ?_); have hva := wAt_eq hv; obtain ⟨number, priority, frm, til, atX, atY, radius, words⟩ := v; (try conv => cbv))
    | (refine idxL hE hs (by omega) (fun v hv => ?_); have hvi := iAt_eq hv; (try conv => cbv))
    | (refine hN2 _ _ [0] (by decide) rfl ⟨?_, ?_⟩ ?_ <;> (try dsimp only))
    | (refine hN (_, _) _ [5] (by decide) rfl ⟨?_, ?_⟩ ?_ <;> (try dsimp only))
    | (refine hN (_, _) _ [0] (by decide) rfl ⟨?_, ?_⟩ ?_ <;> (try dsimp only))
    | ((first
     | refine idxV hE (by assumption) (by omega) (by assumption) ?_
     | refine callP hE (l22Active_ _ _ _ _ _ _ _ _ _) (fun _ => ?_) (fun _ => ?_)
     | refine callP hE (l22Before_ _ _ _ _ _ _ _ _ _ _ _ _ _ _ _ _ _ _) (fun _ => ?_) (fun _ => ?_)
     | refine subL hE h2 (by simp only [Option.getD_some, Option.getD_none]; omega) (fun _ _ => ?_)
     | refine flatInts hE (by assumption) ?_
     | refine cat0L hE (R := intR) (by assumption) (by simp only [List.length_take, List.length_drop]; omega) (fun _ _ => ?_)
     | refine catP hE (R := intR) (by assumption) rfl (by simp only [List.length_append, List.length_take, List.length_drop, List.length_cons, List.length_nil]; omega) (fun _ _ => ?_)
     | refine catL hE (R := intR) (by assumption) (by assumption) (by simp only [List.length_append, List.length_take, List.length_drop, List.length_cons, List.length_nil]; omega) (fun _ _ => ?_)
     | refine ltT hE (by omega) ?_
     | refine ltF hE (by omega) ?_
     | refine ltI hE (fun _ => ?_) (fun _ => ?_)
     | refine leT hE (by omega) ?_
     | refine leF hE (by omega) ?_
     | refine leI hE (fun _ => ?_) (fun _ => ?_)
     | refine eqT hE (by omega) ?_
     | refine eqF hE (by omega) ?_
     | refine eqI hE (fun _ => ?_) (fun _ => ?_)
     | refine add64 hE (by omega) (fun _ _ => ?_)
     | refine sub64 hE (by omega) (fun _ _ => ?_)
     | refine addI hE (fun _ _ => ?_)
     | refine subI hE (fun _ _ => ?_)
     | refine lenL hE (by assumption) (fun _ _ _ => ?_)
     | refine len0 hE (fun _ _ => ?_)
     | refine idxL hE (by assumption) (by first | omega | (simp only [List.length_set, mix_len]; omega)) (fun _ _ => ?_)
     | refine idxFill hE (by assumption) (by omega) ?_
     | refine idxI hE (by decide) (by rfl) ?_
     | refine iteB (fun _ => ?_) (fun _ => ?_)
     | refine maxI hE (fun _ _ => ?_)
     | refine minI hE (fun _ _ => ?_)
     | refine seqI hE (fun _ => ?_) (fun _ => ?_)
     | refine scatI hE (by first | omega | (simp only [ByteArray.size, Array.size, List.length_cons, List.length_nil] at *; omega)) (fun _ _ _ => ?_)
     | refine slenI hE (fun _ _ _ => ?_)
     | refine sidxI hE (by omega) (fun _ _ _ _ => ?_)
     | refine needI hE (by first | decide | omega) ?_
     | refine rem64 hE (by omega) (fun _ _ => ?_)
     | refine quo64 hE (by omega) (fun _ _ => ?_)
     | refine wrapU8 hE (by omega) (fun _ _ => ?_)
     | refine wrap64 hE (by omega) (fun _ _ => ?_)
     | refine noownI hE (by simp [AV.isOwn]) ?_) <;> (try conv => cbv))
  all_goals (try clear hN)
  all_goals (try clear hN2)
  all_goals first
    | omega
    | exact ainv.trans (wscan_down (by assumption) (by assumption) (by assumption) (by assumption) (by assumption) (by assumption) (by assumption) (by assumption) (by assumption) (by assumption) (by assumption))
    | (rw [wOrd_skip (by assumption) (by first | assumption | exact Classical.not_not.1 (by assumption)) h0 (by assumption), ← ho]; exact h2)
    | (have hst : scanG (fun q => (wAt l i).bef (wAt l q) (iAt sent i) (iAt sent q)) o o.length = a.toNat := (by first | exact ainv.trans (scanG_end (by omega)) | exact ainv.trans (wscan_stop (by assumption) (by assumption) (by assumption) (by assumption) (by assumption) (by assumption) (by assumption) (by assumption) (by assumption) (by assumption))); rw [wOrd_put (by assumption) (by assumption) h0 (by assumption) ho hst]; subst_vars; simp; done)
    | (refine hK _ ?_; rw [h2, ho, show i.toNat = l.length by omega]; rfl)
    | trace_state
noncomputable def bOrdM (l : List War) (t : Int) : List Int := ((wOrd l t (List.replicate l.length 0) l.length).map (wAt l)).map War.number
noncomputable def bOrdR (l : List War) (t : Int) : List Int × Int := if WarnsOk l then (if TimeOk t then (bOrdM l t, 0) else ([], 2)) else ([], 1)
theorem bOrdR_len (l : List War) (t : Int) : (bOrdR l t).1.length ≤ l.length := by
  unfold bOrdR
  split
  · split
    · simp only [bOrdM, wOrd, List.length_map]; exact (ordG_mem _ _ _).2
    · simp
  · simp
theorem iAt_zero (n : Nat) (k : Int) : iAt (List.replicate n 0) k = 0 := by
  unfold iAt
  rw [List.getD_eq_getElem?_getD, List.getElem?_replicate]
  split <;> rfl
theorem bOrd_is {l m : List War} (hok : WarnsOk l) (t : Int) (hp : m.Perm (actives l t)) (hs : m.Pairwise fun x y => ¬ War.S0 y x) : m.map War.number = bOrdM l t := by
  have h := ordG_is (l := l) (at_ := wAt l) (fun n v hv => wAt_eq (by simpa using hv)) (p := fun w : War => t < w.frm ∨ w.til ≤ t) War.S0_tr War.S0_ir (skip := fun i => t < (wAt l i).frm ∨ (wAt l i).til ≤ t) (bef := fun i q => War.bef (wAt l i) (wAt l q) (iAt (List.replicate l.length 0) i) (iAt (List.replicate l.length 0) q))
    (fun n v hv => by rw [wAt_eq (k := n) (by simpa using hv)]) (fun i j x y hij hx hy _ _ => by
      rw [wAt_eq (k := i) (by simpa using hx), wAt_eq (k := j) (by simpa using hy), iAt_zero, iAt_zero]
      refine ⟨War.bef_zero x y, ?_⟩
      have := numb_mono hok j i y x hij hy hx
      unfold War.S0; omega) l.length (Nat.le_refl _)
  rw [List.take_length] at h
  have e := strict_uniq War.S0_tr War.S0_ir (hp.trans h.1.symm) h.2.1 hs
  rw [e]; rfl
theorem broadcastOrder_ {rs : List (List AV)} {b : Bool} {l : List War} (t : Int) (hl : rs = l.map War.cs) (hb : l.length ≤ 1048576) : AC Try.prog 18 [.sl b 8 rs, .int .i64 t] intLI (bOrdR l t) := by
  refine ac Try.func18 (by kernel_rfl) (.intLI _) fun E K hE hK => ?_
  conv => cbv
  have hal := actives_len l t
  repeat' first
    | (refine callMI hE (sortWar_ (by assumption) (by omega)) ?_; rintro r ys ⟨m, rs2, hperm, hsort, h2, rfl, rfl⟩; have hml := hperm.length_eq; conv => cbv)
    | ((first
     | refine idxV hE (by assumption) (by omega) (by assumption) ?_
     | refine callP hE (validWarnings_ (by assumption)) (fun _ => ?_) (fun _ => ?_)
     | refine callP hE (isTime_ _) (fun _ => ?_) (fun _ => ?_)
     | refine callR hE (active_ t hl hb) (fun _ _ => ?_)
     | refine sameI hE (by subst_vars; rw [List.length_map, List.length_map]; assumption) ?_
     | refine callR hE (numbersOf_ (by assumption) (by omega)) (fun _ _ => ?_)
     | refine nilOwnI hE 1 ?_
     | refine ltT hE (by omega) ?_
     | refine ltF hE (by omega) ?_
     | refine ltI hE (fun _ => ?_) (fun _ => ?_)
     | refine leT hE (by omega) ?_
     | refine leF hE (by omega) ?_
     | refine leI hE (fun _ => ?_) (fun _ => ?_)
     | refine eqT hE (by omega) ?_
     | refine eqF hE (by omega) ?_
     | refine eqI hE (fun _ => ?_) (fun _ => ?_)
     | refine add64 hE (by omega) (fun _ _ => ?_)
     | refine sub64 hE (by omega) (fun _ _ => ?_)
     | refine addI hE (fun _ _ => ?_)
     | refine subI hE (fun _ _ => ?_)
     | refine lenL hE (by assumption) (fun _ _ _ => ?_)
     | refine len0 hE (fun _ _ => ?_)
     | refine idxL hE (by assumption) (by first | omega | (simp only [List.length_set, mix_len]; omega)) (fun _ _ => ?_)
     | refine idxFill hE (by assumption) (by omega) ?_
     | refine idxI hE (by decide) (by rfl) ?_
     | refine iteB (fun _ => ?_) (fun _ => ?_)
     | refine maxI hE (fun _ _ => ?_)
     | refine minI hE (fun _ _ => ?_)
     | refine seqI hE (fun _ => ?_) (fun _ => ?_)
     | refine scatI hE (by first | omega | (simp only [ByteArray.size, Array.size, List.length_cons, List.length_nil] at *; omega)) (fun _ _ _ => ?_)
     | refine slenI hE (fun _ _ _ => ?_)
     | refine sidxI hE (by omega) (fun _ _ _ _ => ?_)
     | refine needI hE (by first | decide | omega) ?_
     | refine rem64 hE (by omega) (fun _ _ => ?_)
     | refine quo64 hE (by omega) (fun _ _ => ?_)
     | refine wrapU8 hE (by omega) (fun _ _ => ?_)
     | refine wrap64 hE (by omega) (fun _ _ => ?_)
     | refine noownI hE (by simp [AV.isOwn]) ?_) <;> (try conv => cbv))
  all_goals first
    | (refine hK _ ?_; rw [bOrdR, if_pos (by assumption), if_pos (by assumption), ← bOrd_is (by assumption) t (by assumption) (by assumption)]; subst_vars; rfl)
    | (refine hK _ ?_; rw [bOrdR, if_pos (by assumption), if_neg (by assumption)]; rfl)
    | (refine hK _ ?_; rw [bOrdR, if_neg (by assumption)]; rfl)
    | trace_state
end Go.Proofs.Ytjenekakcoggpaa
