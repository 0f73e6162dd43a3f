/- Contracts: the law of broadcasts. -/
import Derived.Test.YtjenekakcoggpaaFbe
import Derived.Test.YtjenekakcoggpaaFbp
namespace Go.Proofs.Ytjenekakcoggpaa
open Go Go.RowKit Go.Sort Classical
set_option maxRecDepth 100000
set_option maxHeartbeats 2000000
set_option linter.unusedVariables false
set_option linter.unusedSimpArgs false
theorem b10LongB_ {rs : List (List AV)} {t : Bool} {l : List Int} (hl : rs = l.map u8R) : AC Try.prog 8 [.sl t 1 rs] AV.bool (bP (1048576 < l.length)) := by
  refine ac Try.func8 (by kernel_rfl) (.bool _) fun E K hE hK => ?_
  conv => cbv
  repeat' first
    | ((first
     | refine idxV hE (by assumption) (by omega) (by assumption) ?_
     | refine ltT hE (by omega) ?_
     | refine ltF hE (by omega) ?_
     | refine ltI hE (fun _ => ?_) (fun _ => ?_)
     | refine leT hE (by omega) ?_
     | refine leF hE (by omega) ?_
     | refine leI hE (fun _ => ?_) (fun _ => ?_)
     | refine eqT hE (by omega) ?_
     | refine eqF hE (by omega) ?_
     | refine eqI hE (fun _ => ?_) (fun _ => ?_)
     | refine add64 hE (by omega) (fun _ _ => ?_)
     | refine sub64 hE (by omega) (fun _ _ => ?_)
     | refine addI hE (fun _ _ => ?_)
     | refine subI hE (fun _ _ => ?_)
     | refine lenL hE (by assumption) (fun _ _ _ => ?_)
     | refine len0 hE (fun _ _ => ?_)
     | refine idxL hE (by assumption) (by first | omega | (simp only [List.length_set, mix_len]; omega)) (fun _ _ => ?_)
     | refine idxFill hE (by assumption) (by omega) ?_
     | refine idxI hE (by decide) (by rfl) ?_
     | refine iteB (fun _ => ?_) (fun _ => ?_)
     | refine maxI hE (fun _ _ => ?_)
     | refine minI hE (fun _ _ => ?_)
     | refine seqI hE (fun _ => ?_) (fun _ => ?_)
     | refine scatI hE (by first | omega | (simp only [ByteArray.size, Array.size, List.length_cons, List.length_nil] at *; omega)) (fun _ _ _ => ?_)
     | refine slenI hE (fun _ _ _ => ?_)
     | refine sidxI hE (by omega) (fun _ _ _ _ => ?_)
     | refine needI hE (by first | decide | omega) ?_
     | refine rem64 hE (by omega) (fun _ _ => ?_)
     | refine quo64 hE (by omega) (fun _ _ => ?_)
     | refine wrapU8 hE (by omega) (fun _ _ => ?_)
     | refine wrap64 hE (by omega) (fun _ _ => ?_)
     | refine noownI hE (by simp [AV.isOwn]) ?_) <;> (try conv => cbv))
  all_goals first
    | exact finB hK (bP_true.2 (by omega))
    | exact finB hK (bP_false.2 (by omega))
theorem b10HasB_ {rs : List (List AV)} {t : Bool} {l : List Int} (x : Int) (hl : rs = l.map intR) : AC Try.prog 19 [.sl t 1 rs, .int .i64 x] AV.bool (bP (x ∈ l)) := by
  refine ac Try.func19 (by kernel_rfl) (.bool _) fun E K hE hK => ?_
  conv => cbv
  refine loopC hE (ι := Int) [0, 1] [5] (fun q => (fun (i : Int) => [(5, .int .i64 i)]) q) (fun q => (fun (i : Int) => []) q) (fun q => (fun (i : Int) => (l.length - i).toNat) q) (fun q => (fun (i : Int) => 0 ≤ i ∧ Up (fun j => ∀ v, l[j]? = some v → ¬ v = x) i) q) [] (by decide) (0) (by conv => lhs; cbv) (by conv => lhs; cbv) rfl rfl (by dsimp only; exact ⟨by omega, .zero (by omega)⟩) fun i hi Kn hN => ?_
  (try dsimp only at hi)
  conv => cbv
  obtain ⟨h0, hinv⟩ := hi
  repeat' first
    | (refine idxL hE hl (by omega) (fun v hv => ?_); (try conv => cbv))
    | (refine hN _ _ [] (by decide) rfl ⟨?_, ?_⟩ ?_ <;> (try dsimp only))
    | ((first
     | refine idxV hE (by assumption) (by omega) (by assumption) ?_
     | refine ltT hE (by omega) ?_
     | refine ltF hE (by omega) ?_
     | refine ltI hE (fun _ => ?_) (fun _ => ?_)
     | refine leT hE (by omega) ?_
     | refine leF hE (by omega) ?_
     | refine leI hE (fun _ => ?_) (fun _ => ?_)
     | refine eqT hE (by omega) ?_
     | refine eqF hE (by omega) ?_
     | refine eqI hE (fun _ => ?_) (fun _ => ?_)
     | refine add64 hE (by omega) (fun _ _ => ?_)
     | refine sub64 hE (by omega) (fun _ _ => ?_)
     | refine addI hE (fun _ _ => ?_)
     | refine subI hE (fun _ _ => ?_)
     | refine lenL hE (by assumption) (fun _ _ _ => ?_)
     | refine len0 hE (fun _ _ => ?_)
     | refine idxL hE (by assumption) (by first | omega | (simp only [List.length_set, mix_len]; omega)) (fun _ _ => ?_)
     | refine idxFill hE (by assumption) (by omega) ?_
     | refine idxI hE (by decide) (by rfl) ?_
     | refine iteB (fun _ => ?_) (fun _ => ?_)
     | refine maxI hE (fun _ _ => ?_)
     | refine minI hE (fun _ _ => ?_)
     | refine seqI hE (fun _ => ?_) (fun _ => ?_)
     | refine scatI hE (by first | omega | (simp only [ByteArray.size, Array.size, List.length_cons, List.length_nil] at *; omega)) (fun _ _ _ => ?_)
     | refine slenI hE (fun _ _ _ => ?_)
     | refine sidxI hE (by omega) (fun _ _ _ _ => ?_)
     | refine needI hE (by first | decide | omega) ?_
     | refine rem64 hE (by omega) (fun _ _ => ?_)
     | refine quo64 hE (by omega) (fun _ _ => ?_)
     | refine wrapU8 hE (by omega) (fun _ _ => ?_)
     | refine wrap64 hE (by omega) (fun _ _ => ?_)
     | refine noownI hE (by simp [AV.isOwn]) ?_) <;> (try conv => cbv))
  all_goals (try clear hN)
  all_goals first
    | omega
    | exact finB hK (bP_true.2 (by subst_vars; exact List.mem_of_getElem? (by assumption)))
    | exact hinv.succ (fun w hw => by rw [hv] at hw; cases hw; assumption) (by assumption)
    | exact finB hK (bP_false.2 fun h => by
        obtain ⟨j, hj⟩ := List.getElem?_of_mem h
        exact hinv j (by have := (List.getElem?_eq_some_iff.1 hj).1; omega) x hj rfl)
    | trace_state
theorem b10Nums_ {rs rs' : List (List AV)} {t t' : Bool} {l : List Int} (hl : rs = l.map intR) (hm : rs' = l.map intR) : AC Try.prog 20 [.sl t 1 rs, .sl t' 1 rs'] AV.bool true := by
  refine ac Try.func20 (by kernel_rfl) (.bool _) fun E K hE hK => ?_
  conv => cbv
  repeat' first
    | ((refine loopC hE (ι := Int) [0, 1] [5] (fun q => (fun (i : Int) => [(5, .int .i64 i)]) q) (fun q => (fun (i : Int) => []) q) (fun q => (fun (i : Int) => (l.length - i).toNat) q) (fun q => (fun (i : Int) => 0 ≤ i) q) [] (by decide) (0) (by conv => lhs; cbv) (by conv => lhs; cbv) rfl rfl (by dsimp only; exact by omega) fun i hi2 Kn2 hN2 => ?_; (try dsimp only at hi2); conv => cbv))
    | (refine idxV hE hl (by omega) hv ?_; (try conv => cbv))
    | (refine idxV hE hm (by omega) hv ?_; (try conv => cbv))
    | (refine idxL hE hl (by omega) (fun v hv => ?_); (try conv => cbv))
    | (refine hN2 _ _ [] (by decide) rfl (by omega) ?_ <;> (try dsimp only))
    | ((first
     | refine idxV hE (by assumption) (by omega) (by assumption) ?_
     | refine ltT hE (by omega) ?_
     | refine ltF hE (by omega) ?_
     | refine ltI hE (fun _ => ?_) (fun _ => ?_)
     | refine leT hE (by omega) ?_
     | refine leF hE (by omega) ?_
     | refine leI hE (fun _ => ?_) (fun _ => ?_)
     | refine eqT hE (by omega) ?_
     | refine eqF hE (by omega) ?_
     | refine eqI hE (fun _ => ?_) (fun _ => ?_)
     | refine add64 hE (by omega) (fun _ _ => ?_)
     | refine sub64 hE (by omega) (fun _ _ => ?_)
     | refine addI hE (fun _ _ => ?_)
     | refine subI hE (fun _ _ => ?_)
     | refine lenL hE (by assumption) (fun _ _ _ => ?_)
     | refine len0 hE (fun _ _ => ?_)
     | refine idxL hE (by assumption) (by first | omega | (simp only [List.length_set, mix_len]; omega)) (fun _ _ => ?_)
     | refine idxFill hE (by assumption) (by omega) ?_
     | refine idxI hE (by decide) (by rfl) ?_
     | refine iteB (fun _ => ?_) (fun _ => ?_)
     | refine maxI hE (fun _ _ => ?_)
     | refine minI hE (fun _ _ => ?_)
     | refine seqI hE (fun _ => ?_) (fun _ => ?_)
     | refine scatI hE (by first | omega | (simp only [ByteArray.size, Array.size, List.length_cons, List.length_nil] at *; omega)) (fun _ _ _ => ?_)
     | refine slenI hE (fun _ _ _ => ?_)
     | refine sidxI hE (by omega) (fun _ _ _ _ => ?_)
     | refine needI hE (by first | decide | omega) ?_
     | refine rem64 hE (by omega) (fun _ _ => ?_)
     | refine quo64 hE (by omega) (fun _ _ => ?_)
     | refine wrapU8 hE (by omega) (fun _ _ => ?_)
     | refine wrap64 hE (by omega) (fun _ _ => ?_)
     | refine noownI hE (by simp [AV.isOwn]) ?_) <;> (try conv => cbv))
  all_goals first
    | exact hK _ rfl
    | omega
    | trace_state
theorem timesSent_ {rs : List (List AV)} {t b : Bool} {l : List (List Int)} (v : Int) (hl : rs = l.map (llR b)) : AC Try.prog 21 [.sl t 1 rs, .int .i64 v] (AV.int .i64) (cntN l v : Nat) := by
  refine ac Try.func21 (by kernel_rfl) (.int _ _) fun E K hE hK => ?_
  conv => cbv
  refine callI hE (sent_ v hl) (fun y hy => ?_)
  conv => cbv
  exact hK _ (by rw [← hy]; rfl)
theorem cnt_bd {m v : Int} {p : List (List Int)} (h : m = (cntN p v : Nat)) : 0 ≤ m ∧ m ≤ p.length := by
  have := cntN_le p v
  omega
theorem take_len {L x : List Int} {r : Nat} (h : x = L.take r) : L.take x.length = x := by
  subst h
  rw [List.length_take]
  rcases Nat.le_total r L.length with h | h
  · rw [Nat.min_eq_left h]
  · rw [Nat.min_eq_right h, List.take_of_length_le (Nat.le_refl _), List.take_of_length_le h]
theorem act_val {l : List War} {t : Int} (hok : WarnsOk l) (ht : TimeOk t) : (activeR l t).1 = (actives l t).map War.number ∧ (activeR l t).2 = 0 ∧ (bOrdR l t).1 = bOrdM l t ∧ (bOrdR l t).2 = 0 := by
  unfold activeR bOrdR
  rw [if_pos hok, if_pos ht, if_pos hok, if_pos ht]
  exact ⟨rfl, rfl, rfl, rfl⟩
theorem bc_bad {l : List War} {f every count room : Int} (h : (bcR l f every count room).2 ≠ 0) : (bcR l f every count room).1 = [] := by
  unfold bcR at *
  split
  · split
    · rename_i h1 h2
      rw [if_pos h1, if_pos h2] at h
      exact (h rfl).elim
    · rfl
  · rfl
set_option maxHeartbeats 40000000
theorem lawBroadcastsB {rs : List (List AV)} {t : Bool} {code : List Int} (hc : rs = code.map u8R) (hb : Bytes code) : AC Try.prog 4 [.sl t 1 rs] id (.bool true) := by
  refine ac Try.func4 (by kernel_rfl) (.bool _) fun E K hE hK => ?_
  conv => cbv
  refine callP hE (b10LongB_ hc) (fun hq => ?_) (fun hq => ?_) <;> conv => cbv
  · exact hK _ rfl
  refine callSI hE (drawBroadcasts_ hc hb) ?_
  rintro r ys ⟨l, rs1, f, every, count, room, rfl, hl, hlen, rfl⟩
  conv => cbv
  refine callLI hE (broadcasts_ f every count room hl (by omega)) (fun ps cd hps hcd => ?_)
  conv => cbv
  have hgood := @bc_good l f every count room
  have hbad := @bc_bad l f every count room
  generalize (bcR l f every count room).1 = p at *
  generalize (bcR l f every count room).2 = cc at *
  refine eqI hE (fun h => ?_) (fun h => ?_) <;> conv => cbv
  · obtain ⟨hok, hcnt, hroom, hevery, hlenp, hrow⟩ := hgood (by omega)
    clear hbad hgood
    repeat' first
      | ((refine loopC hE (ι := Int) [3, 4, 5, 6, 7, 8] [10] (fun q => (fun (i : Int) => [(10, .int .i64 i)]) q) (fun q => (fun (i : Int) => [.row 8 rs1]) q) (fun q => (fun (i : Int) => (p.length - i).toNat) q) (fun q => (fun (i : Int) => 0 ≤ i) q) [0] (by decide) (0) (by conv => lhs; cbv) (by conv => lhs; cbv) rfl rfl (by dsimp only; exact by omega) fun i hi2 Kn2 hN2 => ?_; (try dsimp only at hi2); conv => cbv))
      | (refine mulE hE hevery (by omega) (fun q hq hqb => ?_); obtain ⟨x, hx⟩ : ∃ x, p[i.toNat]? = some x := ⟨_, List.getElem?_eq_getElem (by omega)⟩; obtain ⟨ht0, hnd, hmem, hxl, hfirst⟩ := hrow i x (by omega) hx; rw [← hq] at ht0 hmem hxl; have ht1 := ht0; unfold TimeOk at ht1; obtain ⟨xs, hxs⟩ : ∃ xs, xs = x.map intR := ⟨_, rfl⟩; (try conv => cbv))
      | (refine callLI hE (activeWarnings_ tt hl (by omega)) (fun ns c2 hns hc2 => ?_); rw [← htt] at ht0 hmem hxl; obtain ⟨b1, b2, b3, b4⟩ := act_val hok ht0; rw [b1] at hns; rw [b2] at hc2; have hnl : ((actives l tt).map War.number).length = (actives l tt).length := List.length_map _; have hol := bOrd_len hok tt; (try conv => cbv))
      | (refine callLI hE (broadcastOrder_ tt hl (by omega)) (fun os c3 hos hc3 => ?_); rw [b3] at hos; rw [b4] at hc3; (try conv => cbv))
      | (refine lenL hE hns (fun n1 hn1 _ => ?_); (try conv => cbv))
      | (refine lenL hE hos (fun n2 hn2 _ => ?_); (try conv => cbv))
      | (refine lenL hE hxs (fun n3 hn3 _ => ?_); (try conv => cbv))
      | (refine idxLV hE hps (by omega) hx hxs ?_; (try conv => cbv))
      | (refine idxLV hE hps (by omega) (show p[(0 : Int).toNat]? = some x from by have hi0 : i = 0 := (by omega); rw [← hi0]; exact hx) hxs ?_; (try conv => cbv))
      | ((refine loopC hE (ι := Int) [3, 4, 5, 6, 7, 8, 10, 12, 14] [17] (fun q => (fun (k : Int) => [(17, .int .i64 k)]) q) (fun q => (fun (k : Int) => [.row 8 rs1, .row 1 ns, .row 1 os]) q) (fun q => (fun (k : Int) => (x.length - k).toNat) q) (fun q => (fun (k : Int) => 0 ≤ k) q) [0, 1, 2] (by decide) (0) (by conv => lhs; cbv) (by conv => lhs; cbv) rfl rfl (by dsimp only; exact by omega) fun k hi3 Kn3 hN3 => ?_; (try dsimp only at hi3); conv => cbv))
      | (refine idxV (R := intR) hE hxs (by omega) hv ?_; (try conv => cbv))
      | (refine idxL (R := intR) hE hxs (by omega) (fun v hv => ?_); (try conv => cbv))
      | (refine callPT hE (b10HasB_ v hns) (hmem v (List.mem_of_getElem? hv)) ?_; (try conv => cbv))
      | (refine subL hE hxs (by simp only [Option.getD_some, Option.getD_none]; omega) (fun ys hys => ?_); (try conv => cbv))
      | (refine callPF hE (b10HasB_ v hys) (by simpa using nodup_before hnd hv) ?_; (try conv => cbv))
      | (refine subL hE hos (by simp only [Option.getD_some, Option.getD_none]; omega) (fun os2 hos2 => ?_); (try conv => cbv))
      | (refine callI hE (b10Nums_ hxs (show os2 = x.map intR from by rw [hos2]; simp only [Option.getD_some, Int.toNat_zero, List.drop_zero]; rw [hn3, Int.toNat_natCast, show tt = f by (have hi0 : i = 0 := (by omega)); subst hi0; omega, take_len (hfirst (by omega))])) (fun y hy => ?_); subst hy; (try conv => cbv))
      | ((refine idxL (R := War.cs) hE hl (by omega) ?_; rintro ⟨w1, w2, w3, w4, w5, w6, w7, w8⟩ hw; (try conv => cbv)))
      | (refine callI hE (timesSent_ _ hps) (fun m hm => ?_); have hmb := cnt_bd hm; (try conv => cbv))
      | ((refine loopC hE (ι := Int) [3, 6, 8] [18] (fun q => (fun (j : Int) => [(18, .int .i64 j)]) q) (fun q => (fun (j : Int) => [.row 8 rs1]) q) (fun q => (fun (j : Int) => (l.length - j).toNat) q) (fun q => (fun (j : Int) => 0 ≤ j) q) [0] (by decide) (0) (by conv => lhs; cbv) (by conv => lhs; cbv) rfl rfl (by dsimp only; exact by omega) fun j hi4 Kn4 hN4 => ?_; (try dsimp only at hi4); conv => cbv))
      | (refine add64 hE (by omega) (fun tt htt => ?_); (try conv => cbv))
      | (refine hN4 _ _ [0] (by decide) rfl (by omega) ?_ <;> (try dsimp only))
      | (refine hN3 _ _ [0, 1, 2] (by decide) rfl (by omega) ?_ <;> (try dsimp only))
      | (refine hN2 _ _ [0] (by decide) rfl (by omega) ?_ <;> (try dsimp only))
      | ((first
       | refine idxV hE (by assumption) (by omega) (by assumption) ?_
       | refine ltT hE (by omega) ?_
       | refine ltF hE (by omega) ?_
       | refine ltI hE (fun _ => ?_) (fun _ => ?_)
       | refine leT hE (by omega) ?_
       | refine leF hE (by omega) ?_
       | refine leI hE (fun _ => ?_) (fun _ => ?_)
       | refine eqT hE (by omega) ?_
       | refine eqF hE (by omega) ?_
       | refine eqI hE (fun _ => ?_) (fun _ => ?_)
       | refine add64 hE (by omega) (fun _ _ => ?_)
       | refine sub64 hE (by omega) (fun _ _ => ?_)
       | refine addI hE (fun _ _ => ?_)
       | refine subI hE (fun _ _ => ?_)
       | refine lenL hE (by assumption) (fun _ _ _ => ?_)
       | refine len0 hE (fun _ _ => ?_)
       | refine idxL hE (by assumption) (by first | omega | (simp only [List.length_set, mix_len]; omega)) (fun _ _ => ?_)
       | refine idxFill hE (by assumption) (by omega) ?_
       | refine idxI hE (by decide) (by rfl) ?_
       | refine iteB (fun _ => ?_) (fun _ => ?_)
       | refine maxI hE (fun _ _ => ?_)
       | refine minI hE (fun _ _ => ?_)
       | refine seqI hE (fun _ => ?_) (fun _ => ?_)
       | refine scatI hE (by first | omega | (simp only [ByteArray.size, Array.size, List.length_cons, List.length_nil] at *; omega)) (fun _ _ _ => ?_)
       | refine slenI hE (fun _ _ _ => ?_)
       | refine sidxI hE (by omega) (fun _ _ _ _ => ?_)
       | refine needI hE (by first | decide | omega) ?_
       | refine rem64 hE (by omega) (fun _ _ => ?_)
       | refine quo64 hE (by omega) (fun _ _ => ?_)
       | refine wrapU8 hE (by omega) (fun _ _ => ?_)
       | refine wrap64 hE (by omega) (fun _ _ => ?_)
       | refine noownI hE (by simp [AV.isOwn]) ?_) <;> (try conv => cbv))
    all_goals first
      | exact hK _ rfl
      | omega
      | trace_state
  · have hb0 := hbad (by omega)
    repeat' first
      | (refine lenL hE hps (fun n hn _ => ?_); have hz : n = 0 := (by rw [hn, hb0]; rfl); (try conv => cbv))
      | ((first
       | refine idxV hE (by assumption) (by omega) (by assumption) ?_
       | refine ltT hE (by omega) ?_
       | refine ltF hE (by omega) ?_
       | refine ltI hE (fun _ => ?_) (fun _ => ?_)
       | refine leT hE (by omega) ?_
       | refine leF hE (by omega) ?_
       | refine leI hE (fun _ => ?_) (fun _ => ?_)
       | refine eqT hE (by omega) ?_
       | refine eqF hE (by omega) ?_
       | refine eqI hE (fun _ => ?_) (fun _ => ?_)
       | refine add64 hE (by omega) (fun _ _ => ?_)
       | refine sub64 hE (by omega) (fun _ _ => ?_)
       | refine addI hE (fun _ _ => ?_)
       | refine subI hE (fun _ _ => ?_)
       | refine lenL hE (by assumption) (fun _ _ _ => ?_)
       | refine len0 hE (fun _ _ => ?_)
       | refine idxL hE (by assumption) (by first | omega | (simp only [List.length_set, mix_len]; omega)) (fun _ _ => ?_)
       | refine idxFill hE (by assumption) (by omega) ?_
       | refine idxI hE (by decide) (by rfl) ?_
       | refine iteB (fun _ => ?_) (fun _ => ?_)
       | refine maxI hE (fun _ _ => ?_)
       | refine minI hE (fun _ _ => ?_)
       | refine seqI hE (fun _ => ?_) (fun _ => ?_)
       | refine scatI hE (by first | omega | (simp only [ByteArray.size, Array.size, List.length_cons, List.length_nil] at *; omega)) (fun _ _ _ => ?_)
       | refine slenI hE (fun _ _ _ => ?_)
       | refine sidxI hE (by omega) (fun _ _ _ _ => ?_)
       | refine needI hE (by first | decide | omega) ?_
       | refine rem64 hE (by omega) (fun _ _ => ?_)
       | refine quo64 hE (by omega) (fun _ _ => ?_)
       | refine wrapU8 hE (by omega) (fun _ _ => ?_)
       | refine wrap64 hE (by omega) (fun _ _ => ?_)
       | refine noownI hE (by simp [AV.isOwn]) ?_) <;> (try conv => cbv))
    all_goals first
      | exact hK _ rfl
      | omega
      | trace_state
end Go.Proofs.Ytjenekakcoggpaa
