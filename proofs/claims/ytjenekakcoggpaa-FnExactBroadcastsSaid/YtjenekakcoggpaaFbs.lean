/- Contracts: the reference's broadcasts; the law. -/
import Derived.Test.YtjenekakcoggpaaFbr
import Derived.Test.YtjenekakcoggpaaFss
namespace Go.Proofs.Ytjenekakcoggpaa
open Go Go.RowKit Go.Sort Classical
set_option maxRecDepth 100000
set_option maxHeartbeats 2000000
set_option linter.unusedVariables false
set_option linter.unusedSimpArgs false
/-- One more at each of some places. -/
def bump (s : List Int) : List Int → List Int
  | [] => s
  | k :: o => bump (s.set k.toNat (iAt s k + 1)) o
theorem bump_app (s o : List Int) (k : Int) : bump s (o ++ [k]) = (bump s o).set k.toNat (iAt (bump s o) k + 1) := by
  induction o generalizing s with
  | nil => rfl
  | cons q o ih => exact ih _
theorem bump_len (s o : List Int) : (bump s o).length = s.length := by
  induction o generalizing s with
  | nil => rfl
  | cons q o ih => rw [bump, ih, List.length_set]
theorem bump_step {s o : List Int} {j n k v : Int} (h0 : 0 ≤ j) (hk : o[j.toNat]? = some k) (hv : (bump s (o.take j.toNat))[k.toNat]? = some v) (hn : n = j + 1) : bump s (o.take n.toNat) = (bump s (o.take j.toNat)).set k.toNat (v + 1) := by
  rw [hn, show (j + 1).toNat = j.toNat + 1 by omega, List.take_add_one, hk]
  show bump s (_ ++ [k]) = _
  rw [bump_app, iAt_eq hv]
theorem bump_get {s : List Int} : ∀ {o : List Int}, (o.Pairwise fun i j => i ≠ j) → (∀ k ∈ o, 0 ≤ k ∧ k < s.length) → ∀ (q : Nat) v, s[q]? = some v → (bump s o)[q]? = some (v + if (q : Int) ∈ o then 1 else 0)
  | [], _, _, q, v, hv => by simp [bump, hv]
  | k :: o, hp, hr, q, v, hv => by
    rw [List.pairwise_cons] at hp
    have hk := hr k (List.mem_cons_self ..)
    rw [bump]
    by_cases e : (q : Int) = k
    · have hq : k.toNat = q := by omega
      have h1 : (s.set k.toNat (iAt s k + 1))[q]? = some (v + 1) := by
        rw [List.getElem?_set, if_pos hq, if_pos (by omega), iAt_eq (by rw [hq]; exact hv)]
      rw [bump_get hp.2 (fun k' hk' => by rw [List.length_set]; exact hr k' (List.mem_cons_of_mem _ hk')) q _ h1, if_neg (fun h => hp.1 _ h e.symm), if_pos (by rw [e]; exact List.mem_cons_self ..)]
      rw [Int.add_zero]
    · have h1 : (s.set k.toNat (iAt s k + 1))[q]? = some v := by
        rw [List.getElem?_set, if_neg (by omega)]; exact hv
      rw [bump_get hp.2 (fun k' hk' => by rw [List.length_set]; exact hr k' (List.mem_cons_of_mem _ hk')) q _ h1]
      congr 2
      simp [e]
theorem cntL_app {l : List War} (hok : WarnsOk l) {o : List Int} (hn : o.Pairwise fun i j => i ≠ j) (hr : ∀ k ∈ o, 0 ≤ k ∧ k < l.length) (rows : List (List Int)) : bump (cntL l rows) o = cntL l (rows ++ [(o.map (wAt l)).map War.number]) := by
  refine List.ext_getElem? fun q => ?_
  rcases Nat.lt_or_ge q l.length with hq | hq
  · have hx : l[q]? = some l[q] := List.getElem?_eq_getElem hq
    have hv : (cntL l rows)[q]? = some ((cntN rows l[q].number : Nat) : Int) := by
      unfold cntL; rw [List.getElem?_map, hx]; rfl
    rw [bump_get hn (fun k hk => by unfold cntL; rw [List.length_map]; exact hr k hk) q _ hv]
    unfold cntL
    rw [List.getElem?_map, hx]
    simp only [Option.map_some, Option.some.injEq]
    rw [cntN_app]
    have e : ((q : Int) ∈ o) ↔ l[q].number ∈ (o.map (wAt l)).map War.number := by
      simp only [List.mem_map]
      constructor
      · intro h
        exact ⟨_, ⟨(q : Int), h, rfl⟩, by rw [wAt_eq (k := (q : Int)) hx]⟩
      · rintro ⟨_, ⟨k, hk, rfl⟩, he⟩
        obtain ⟨k0, k1⟩ := hr k hk
        have hy : l[k.toNat]? = some l[k.toNat] := List.getElem?_eq_getElem (by omega)
        rw [wAt_eq hy] at he
        have : k.toNat = q := by
          rcases Nat.lt_trichotomy k.toNat q with h | h | h
          · have := numb_mono hok _ _ _ _ h hy hx; omega
          · exact h
          · have := numb_mono hok _ _ _ _ h hx hy; omega
        rw [show (q : Int) = k by omega]; exact hk
    by_cases h : (q : Int) ∈ o
    · rw [if_pos h, if_pos (e.1 h)]; omega
    · rw [if_neg h, if_neg (fun h' => h (e.2 h'))]; omega
  · rw [List.getElem?_eq_none (by rw [bump_len]; unfold cntL; rw [List.length_map]; exact hq), List.getElem?_eq_none (by unfold cntL; rw [List.length_map]; exact hq)]
theorem cntL_len (l : List War) (rows : List (List Int)) : (cntL l rows).length = l.length := by unfold cntL; rw [List.length_map]
theorem cntL_bd (l : List War) (rows : List (List Int)) : ∀ v ∈ cntL l rows, 0 ≤ v ∧ v ≤ rows.length := fun v hv => by
  obtain ⟨w, _, rfl⟩ := List.mem_map.1 hv
  have := cntN_le rows w.number
  omega
theorem bump_bd {B : Int} : ∀ {s o : List Int}, (∀ v ∈ s, 0 ≤ v ∧ v ≤ B) → (0 ≤ B) → ∀ v ∈ bump s o, 0 ≤ v ∧ v ≤ B + o.length
  | s, [], h, _, v, hv => by have := h v hv; simp; omega
  | s, k :: o, h, hB, v, hv => by
    have hi : 0 ≤ iAt s k ∧ iAt s k ≤ B := by
      unfold iAt
      rw [List.getD_eq_getElem?_getD]
      cases hs : s[k.toNat]? with
      | none => simp; exact hB
      | some x => exact h x (List.mem_of_getElem? hs)
    have := bump_bd (B := B + 1) (s := s.set k.toNat (iAt s k + 1)) (o := o) (fun x hx => by
      rcases List.mem_or_eq_of_mem_set hx with h1 | h1
      · have := h x h1; omega
      · omega) (by omega) v hv
    simp only [List.length_cons]
    omega
theorem take_pw {α : Type} {R : α → α → Prop} {l : List α} (h : l.Pairwise R) (n : Nat) : (l.take n).Pairwise R := h.sublist (List.take_sublist n l)
theorem bstep {l : List War} {frm every room k n p t i : Int} {o q : List Int} (hok : WarnsOk l) (k0 : 0 ≤ k) (hn : n = k + 1) (hp : p = every * k) (ht : t = frm + p) (ho : o = wOrd l t (cntL l (bRun l frm every room k.toNat)) l.length)
    (i0 : 0 ≤ i ∧ i ≤ o.length ∧ i ≤ room) (hx : (o.length : Int) ≤ i ∨ room ≤ i) (i3 : q = ((o.take i.toNat).map (wAt l)).map War.number) :
    bRun l frm every room n.toNat = bRun l frm every room k.toNat ++ [q] ∧ bump (cntL l (bRun l frm every room k.toNat)) (o.take i.toNat) = cntL l (bRun l frm every room n.toNat) := by
  have ho' : o = sOrd l t (bRun l frm every room k.toNat) := ho
  have hq : q = bRowS l t room (bRun l frm every room k.toNat) := by
    rw [i3, bRowS, ← ho']
    congr 2
    rcases hx with h | h
    · rw [List.take_of_length_le (by omega), List.take_of_length_le (by omega)]
    · rw [show i.toNat = room.toNat by omega]
  have e := bRun_step k0 hn hp ht hq
  refine ⟨e, ?_⟩
  rw [e, i3]
  have hm := sOrd_mem l t (bRun l frm every room k.toNat)
  rw [← ho'] at hm
  have hnd := sOrd_nodup hok t (bRun l frm every room k.toNat)
  rw [← ho'] at hnd
  exact cntL_app hok (take_pw hnd _) (fun x h => hm.1 x (List.mem_of_mem_take h)) _
theorem sBroadcasts_ {rs : List (List AV)} {b : Bool} {l : List War} (frm every count room : Int) (hl : rs = l.map War.cs) : AC Try.prog 42 [.sl b 8 rs, .int .i64 frm, .int .i64 every, .int .i64 count, .int .i64 room] llLI (bcR l frm every count room) := by
  refine ac Try.func42 (by kernel_rfl) (.llLI _) fun E K hE hK => ?_
  conv => cbv
  refine callP hE (l22Ok_ hl) (fun hok => ?_) (fun hok => ?_) <;> conv => cbv
  · have h32 := hok.2
    repeat' first
      | (refine add64 hE (by omega) (fun n1 hn1 => ?_); (try conv => cbv))
      | (refine callP hE (l20Time_ _) (fun ht => ?_) (fun ht => ?_) <;> (try unfold TimeOk at ht) <;> (try conv => cbv))
      | (refine mulE hE (by assumption) (by omega) (fun p hp hpb => ?_); (try conv => cbv))
      | (refine lenL hE hl (fun n hn hbn => ?_); (try conv => cbv))
      | (refine makeI hE (by omega) (fun es hes => ?_); (try conv => cbv))
      | ((refine loopC hE (ι := Int × (List (List AV)) × (List (List AV))) [0, 1, 2, 3, 4] [14, 12, 13] (fun q => (fun (k : Int) (ss : List (List AV)) (os : List (List AV)) => [(14, .int .i64 k), (12, .ob 0), (13, .ob 1)]) q.1 q.2.1 q.2.2) (fun q => (fun (k : Int) (ss : List (List AV)) (os : List (List AV)) => [.row 1 ss, .row 1 os]) q.1 q.2.1 q.2.2) (fun q => (fun (k : Int) (ss : List (List AV)) (os : List (List AV)) => (count - k).toNat) q.1 q.2.1 q.2.2) (fun q => (fun (k : Int) (ss : List (List AV)) (os : List (List AV)) => (0 ≤ k ∧ k ≤ count) ∧ ss = (cntL l (bRun l frm every room k.toNat)).map intR ∧ os = (bRun l frm every room k.toNat).map (llR true)) q.1 q.2.1 q.2.2) [0, 1] (by decide) ((0, es, [])) (by conv => lhs; cbv) (by conv => lhs; cbv) rfl rfl (by dsimp only; exact ⟨by omega, by rw [hes, hn]; simp [cntL, bRun, cntN, intR, List.map_const'], rfl⟩) fun q hi2 Kn2 hN2 => ?_; obtain ⟨k, ss, os⟩ := q; (try dsimp only at hi2); conv => cbv); obtain ⟨⟨k0, k1⟩, k2, k3⟩ := hi2; have hbl := bRun_len l frm every room k.toNat)
      | (refine callR hE (l22Order_ _ (sent := cntL l (bRun l frm every room k.toNat)) hl k2 (cntL_len _ _) (by omega)) (fun rs1 h1 => ?_); have hx1 : ∃ o : List Int, o = wOrd l _ _ _ ∧ rs1 = o.map intR := ⟨_, rfl, h1⟩; clear h1; obtain ⟨o, ho, h1⟩ := hx1; have hom := sOrd_mem l n1 (bRun l frm every room k.toNat); rw [show sOrd l n1 (bRun l frm every room k.toNat) = o from ho.symm] at hom; (try conv => cbv))
      | ((refine loopC hE (ι := Int × (List (List AV))) [0, 1, 2, 3, 4, 12, 13, 14, 15] [17, 16] (fun q => (fun (i : Int) (es1 : List (List AV)) => [(17, .int .i64 i), (16, .ob 3)]) q.1 q.2) (fun q => (fun (i : Int) (es1 : List (List AV)) => [.row 1 ss, .row 1 os, .row 1 rs1, .row 1 es1]) q.1 q.2) (fun q => (fun (i : Int) (es1 : List (List AV)) => (o.length - i).toNat) q.1 q.2) (fun q => (fun (i : Int) (es1 : List (List AV)) => (0 ≤ i ∧ i ≤ o.length ∧ i ≤ room) ∧ ∃ qs : List Int, es1 = qs.map intR ∧ qs = ((o.take i.toNat).map (wAt l)).map War.number) q.1 q.2) [0, 1, 2, 3] (by decide) ((0, [])) (by conv => lhs; cbv) (by conv => lhs; cbv) rfl rfl (by dsimp only; exact ⟨by omega, [], rfl, rfl⟩) fun q hi3 Kn3 hN3 => ?_; obtain ⟨i, es1⟩ := q; (try dsimp only at hi3); conv => cbv); obtain ⟨i0, qs, i2, i3⟩ := hi3; have hql : (qs.length : Int) = i := (by rw [i3, List.length_map, List.length_map, List.length_take]; omega))
      | ((refine loopC hE (ι := Int × (List (List AV))) [0, 1, 2, 3, 4, 12, 13, 14, 15] [18, 16] (fun q => (fun (j : Int) (ss1 : List (List AV)) => [(18, .int .i64 j), (16, .ob 3)]) q.1 q.2) (fun q => (fun (j : Int) (ss1 : List (List AV)) => [.row 1 ss1, .row 1 os, .row 1 rs1, .row 1 es1]) q.1 q.2) (fun q => (fun (j : Int) (ss1 : List (List AV)) => (qs.length - j).toNat) q.1 q.2) (fun q => (fun (j : Int) (ss1 : List (List AV)) => (0 ≤ j ∧ j ≤ qs.length) ∧ ss1 = (bump (cntL l (bRun l frm every room k.toNat)) (o.take j.toNat)).map intR) q.1 q.2) [0, 1, 2, 3] (by decide) ((0, ss)) (by conv => lhs; cbv) (by conv => lhs; cbv) rfl rfl (by dsimp only; exact ⟨by omega, by simpa [bump] using k2⟩) fun q hi4 Kn4 hN4 => ?_; obtain ⟨j, ss1⟩ := q; (try dsimp only at hi4); conv => cbv); obtain ⟨⟨j0, j1⟩, j2⟩ := hi4; have hbl2 : (bump (cntL l (bRun l frm every room k.toNat)) (o.take j.toNat)).length = l.length := (by rw [bump_len, cntL_len]); have hbb := bump_bd (o := o.take j.toNat) (cntL_bd l (bRun l frm every room k.toNat)) (by omega); have htl := List.length_take (i := j.toNat) (l := o))
      | (refine idxL hE h1 (by omega) (fun kq hkq => ?_); have hk2 := hom.1 kq (List.mem_of_getElem? hkq); (try conv => cbv))
      | (refine idxL hE hl (by omega) (fun v hv => ?_); have hva := congrArg War.number (wAt_eq hv); obtain ⟨number, priority, frm', til, atX, atY, radius, words⟩ := v; simp only at hva; (try conv => cbv))
      | (refine idxL hE j2 (by omega) (fun v hv => ?_); have hvb := hbb v (List.mem_of_getElem? hv); (try conv => cbv))
      | (refine updL hE (R := intR) n1 j2 (by omega) hv (by exact Nat.le_of_ble_eq_true rfl) (by rfl) (fun ss2 hs2 => ?_); (try conv => cbv))
      | (refine catP hE (R := intR) i2 rfl (by omega) (fun es2 he2 => ?_); (try conv => cbv))
      | (refine hN4 (_, _) _ [0, 1, 2, 3] (by decide) rfl ⟨?_, ?_⟩ ?_ <;> (try dsimp only))
      | (refine hN3 (_, _) _ [0, 1, 2, 5] (by decide) rfl ⟨?_, _, he2, ?_⟩ ?_ <;> (try dsimp only))
      | (refine hN2 (_, _, _) _ [0, 5] (by decide) rfl ⟨?_, ?_, ?_⟩ ?_ <;> (try dsimp only))
      | ((first
       | refine idxV hE (by assumption) (by omega) (by assumption) ?_
       | refine callP hE (in_ _ _ _) (fun _ => ?_) (fun _ => ?_)
       | refine nilOwnI hE 1 ?_
       | refine catP hE (R := llR true) (v := qs) k3 (by rw [llR, ← i2]) (by omega) (fun os2 ho2 => ?_)
       | refine ltT hE (by omega) ?_
       | refine ltF hE (by omega) ?_
       | refine ltI hE (fun _ => ?_) (fun _ => ?_)
       | refine leT hE (by omega) ?_
       | refine leF hE (by omega) ?_
       | refine leI hE (fun _ => ?_) (fun _ => ?_)
       | refine eqT hE (by omega) ?_
       | refine eqF hE (by omega) ?_
       | refine eqI hE (fun _ => ?_) (fun _ => ?_)
       | refine add64 hE (by omega) (fun _ _ => ?_)
       | refine sub64 hE (by omega) (fun _ _ => ?_)
       | refine addI hE (fun _ _ => ?_)
       | refine subI hE (fun _ _ => ?_)
       | refine lenL hE (by assumption) (fun _ _ _ => ?_)
       | refine len0 hE (fun _ _ => ?_)
       | refine idxL hE (by assumption) (by first | omega | (simp only [List.length_set, mix_len]; omega)) (fun _ _ => ?_)
       | refine idxFill hE (by assumption) (by omega) ?_
       | refine idxI hE (by decide) (by rfl) ?_
       | refine iteB (fun _ => ?_) (fun _ => ?_)
       | refine maxI hE (fun _ _ => ?_)
       | refine minI hE (fun _ _ => ?_)
       | refine seqI hE (fun _ => ?_) (fun _ => ?_)
       | refine scatI hE (by first | omega | (simp only [ByteArray.size, Array.size, List.length_cons, List.length_nil] at *; omega)) (fun _ _ _ => ?_)
       | refine slenI hE (fun _ _ _ => ?_)
       | refine sidxI hE (by omega) (fun _ _ _ _ => ?_)
       | refine needI hE (by first | decide | omega) ?_
       | refine rem64 hE (by omega) (fun _ _ => ?_)
       | refine quo64 hE (by omega) (fun _ _ => ?_)
       | refine wrapU8 hE (by omega) (fun _ _ => ?_)
       | refine wrap64 hE (by omega) (fun _ _ => ?_)
       | refine noownI hE (by simp [AV.isOwn]) ?_) <;> (try conv => cbv))
    all_goals (try clear hN2)
    all_goals (try clear hN3)
    all_goals (try clear hN4)
    all_goals first
      | omega
      | (rename_i v0 hv0 hvb0 n0 hn0; rw [hs2, bump_step j0 hkq hv0 hn1, hn0]; done)
      | (rw [i3, hn1, show (i + 1).toNat = i.toNat + 1 by omega, List.take_add_one, hkq, List.map_append, List.map_append, ← hva]; rfl)
      | (have hst := bstep hok k0 hn1 (by assumption) (by assumption) ho i0 (by omega) i3; rw [j2, show j = i by omega, hst.2]; done)
      | (have hst := bstep hok k0 hn1 (by assumption) (by assumption) ho i0 (by omega) i3; rw [ho2, hst.1]; done)
      | (refine hK _ ?_; rw [bcR, if_pos hok, if_pos (by unfold BcArgs TimeOk; subst_vars; omega), k3, show k = count by omega]; rfl)
      | (refine hK _ ?_; rw [bcR, if_pos hok, if_neg (by unfold BcArgs TimeOk; subst_vars; omega)]; rfl)
      | trace_state
  · refine nilOwnI hE 1 ?_
    conv => cbv
    refine hK _ ?_
    rw [bcR, if_neg hok]; rfl
theorem bcR_bd (l : List War) (frm every count room : Int) : (bcR l frm every count room).1.length ≤ 48 ∧ ∀ x ∈ (bcR l frm every count room).1, x.length ≤ 100000 := by
  unfold bcR
  split
  · rename_i hok
    have h32 := hok.2
    split
    · rename_i ha
      have h48 := ha.2.1
      refine ⟨?_, fun x hx => ?_⟩
      · show (bRun l frm every room count.toNat).length ≤ 48
        rw [bRun_len]; omega
      · have := bRun_row l frm every room count.toNat x hx; omega
    · exact ⟨by simp, fun x hx => by simp at hx⟩
  · exact ⟨by simp, fun x hx => by simp at hx⟩
theorem lawBroadcasts {rs : List (List AV)} {b : Bool} {l : List War} (frm every count room : Int) (hl : rs = l.map War.cs) : AC Try.prog 7 [.sl b 8 rs, .int .i64 frm, .int .i64 every, .int .i64 count, .int .i64 room] id (.bool true) := by
  refine ac Try.func7 (by kernel_rfl) (.bool _) fun E K hE hK => ?_
  conv => cbv
  have hlen := bcR_bd l frm every count room
  have hrow := hlen.2
  repeat' first
    | (refine callI hE (szWarningS_ _ hl (by decide)) (fun y hy => ?_); have hz := szN_or 1048576 (l.length + (l.map War.sz).sum); rw [← hy] at hz; clear hy; (try conv => cbv))
    | (refine callMI hE (markWarningS_ _ (by assumption) (by omega) (by omega)) ?_; rintro _ _ ⟨n, rs', hn, hrs', rfl, rfl⟩; conv => cbv)
    | (refine callMI hE (markInt64SS_ _ (by assumption) (by omega) (by omega) hrow) ?_; rintro _ _ ⟨n, rs', hn, hrs', rfl, rfl⟩; conv => cbv)
    | ((first
     | refine idxV hE (by assumption) (by omega) (by assumption) ?_
     | refine callR hE (toWarningS_ hl (by omega)) (fun _ _ => ?_)
     | refine callLI hE (sBroadcasts_ _ _ _ _ (by assumption)) (fun _ _ _ _ => ?_)
     | refine callLI hE (broadcasts_ _ _ _ _ (by assumption) (by omega)) (fun _ _ _ _ => ?_)
     | refine callPT hE (eqWarningS_ (by assumption) (by assumption)) rfl ?_
     | refine callPT hE (eqInt64SS_ (by assumption) (by assumption)) rfl ?_
     | refine sameI hE (by subst_vars; simp [War.mks_len, mkLL_len]) ?_
     | refine callI hE (heldInt64SS_ _ (by assumption) (by omega) (by omega) hrow) (fun _ _ => ?_)
     | refine ltT hE (by omega) ?_
     | refine ltF hE (by omega) ?_
     | refine ltI hE (fun _ => ?_) (fun _ => ?_)
     | refine leT hE (by omega) ?_
     | refine leF hE (by omega) ?_
     | refine leI hE (fun _ => ?_) (fun _ => ?_)
     | refine eqT hE (by omega) ?_
     | refine eqF hE (by omega) ?_
     | refine eqI hE (fun _ => ?_) (fun _ => ?_)
     | refine add64 hE (by omega) (fun _ _ => ?_)
     | refine sub64 hE (by omega) (fun _ _ => ?_)
     | refine addI hE (fun _ _ => ?_)
     | refine subI hE (fun _ _ => ?_)
     | refine lenL hE (by assumption) (fun _ _ _ => ?_)
     | refine len0 hE (fun _ _ => ?_)
     | refine idxL hE (by assumption) (by first | omega | (simp only [List.length_set, mix_len]; omega)) (fun _ _ => ?_)
     | refine idxFill hE (by assumption) (by omega) ?_
     | refine idxI hE (by decide) (by rfl) ?_
     | refine iteB (fun _ => ?_) (fun _ => ?_)
     | refine maxI hE (fun _ _ => ?_)
     | refine minI hE (fun _ _ => ?_)
     | refine seqI hE (fun _ => ?_) (fun _ => ?_)
     | refine scatI hE (by first | omega | (simp only [ByteArray.size, Array.size, List.length_cons, List.length_nil] at *; omega)) (fun _ _ _ => ?_)
     | refine slenI hE (fun _ _ _ => ?_)
     | refine sidxI hE (by omega) (fun _ _ _ _ => ?_)
     | refine needI hE (by first | decide | omega) ?_
     | refine rem64 hE (by omega) (fun _ _ => ?_)
     | refine quo64 hE (by omega) (fun _ _ => ?_)
     | refine wrapU8 hE (by omega) (fun _ _ => ?_)
     | refine wrap64 hE (by omega) (fun _ _ => ?_)
     | refine noownI hE (by simp [AV.isOwn]) ?_) <;> (try conv => cbv))
  all_goals first
    | exact hK _ rfl
    | omega
    | trace_state
end Go.Proofs.Ytjenekakcoggpaa
