/- Contracts: the faults that an aid has at a time; the law. -/
import Derived.Test.YtifjebnieieolaaGreatDoorFfb
namespace Go.Proofs.YtifjebnieieolaaGreatDoor
open Go Go.RowKit Go.Sort Classical
set_option maxRecDepth 100000
set_option maxHeartbeats 2000000
set_option linter.unusedVariables false
set_option linter.unusedSimpArgs false
/-- A number put into a rising list, once. -/
noncomputable def putI (l : List Int) (n : Int) : List Int := if l[fro (· < n) l]? = some n then l else insF (· < n) l n
theorem putI_len (l : List Int) (n : Int) : (putI l n).length ≤ l.length + 1 := by
  unfold putI
  split
  · omega
  · exact Nat.le_of_eq (insF_len _ _ _)
/-- What has been written when i numbers have been read. -/
noncomputable def putAt (l : List Int) (n i : Int) : List Int := if (fro (· < n) l : Int) < i then (if l[fro (· < n) l]? = some n then l.take i.toNat else l.take (fro (· < n) l) ++ n :: (l.take i.toNat).drop (fro (· < n) l)) else l.take i.toNat
theorem putAt_len (l : List Int) (n i : Int) : (putAt l n i).length ≤ l.length + 1 := by
  unfold putAt
  split
  · split
    · rw [List.length_take]; omega
    · rw [List.length_append, List.length_cons, List.length_take, List.length_drop, List.length_take]; omega
  · rw [List.length_take]; omega
theorem fro_at {p : Int → Prop} {l : List Int} {i : Int} {x : Int} (h0 : 0 ≤ i) (hx : l[i.toNat]? = some x) (hf : i ≤ fro p l) : (p x → i < fro p l) ∧ (¬ p x → (fro p l : Int) = i) := by
  obtain ⟨g1, g2⟩ := fro_spec p l
  refine ⟨fun hp => ?_, fun hp => ?_⟩
  · rcases Int.lt_or_le i (fro p l) with h | h
    · exact h
    · have e : fro p l = i.toNat := by omega
      exact absurd hp (g2 x (by rw [e]; exact hx))
  · rcases Int.lt_or_le i (fro p l) with h | h
    · refine absurd (g1 x ?_) hp
      exact List.mem_of_getElem? (i := i.toNat) (by rw [List.getElem?_take, if_pos (by omega)]; exact hx)
    · omega
theorem putAt_zero (l : List Int) (n : Int) : putAt l n 0 = [] := by
  unfold putAt; rw [if_neg (by omega)]; rfl
theorem take_snoc {l : List Int} {i n : Int} {x : Int} (h0 : 0 ≤ i) (hn : n = i + 1) (hx : l[i.toNat]? = some x) : l.take n.toNat = l.take i.toNat ++ [x] := by
  rw [show n.toNat = i.toNat + 1 by omega, List.take_add_one, hx]; rfl
theorem putAt_done {l : List Int} {m i n x : Int} (h0 : 0 ≤ i) (hn : n = i + 1) (hx : l[i.toNat]? = some x) (hd : (fro (· < m) l : Int) < i) : putAt l m n = putAt l m i ++ [x] := by
  unfold putAt
  rw [if_pos (by omega), if_pos hd, take_snoc h0 hn hx]
  split
  · rfl
  · have hl : fro (· < m) l ≤ (l.take i.toNat).length := by
      have := (List.getElem?_eq_some_iff.1 hx).1
      rw [List.length_take]; omega
    rw [List.drop_append_of_le_length hl, ← List.cons_append, List.append_assoc]
theorem putAt_less {l : List Int} {m i n x : Int} (h0 : 0 ≤ i) (hn : n = i + 1) (hx : l[i.toNat]? = some x) (hd : i ≤ fro (· < m) l) (hlt : x < m) : putAt l m n = putAt l m i ++ [x] ∧ n ≤ fro (· < m) l := by
  have h1 := (fro_at h0 hx hd).1 hlt
  unfold putAt
  rw [if_neg (by omega), if_neg (by omega), take_snoc h0 hn hx]
  exact ⟨rfl, by omega⟩
theorem putAt_eq {l : List Int} {m i n x : Int} (h0 : 0 ≤ i) (hn : n = i + 1) (hx : l[i.toNat]? = some x) (hd : i ≤ fro (· < m) l) (he : x = m) : putAt l m n = putAt l m i ++ [x] ∧ (fro (· < m) l : Int) < n := by
  have h1 := (fro_at h0 hx hd).2 (by omega)
  have e : fro (· < m) l = i.toNat := by omega
  have hlen := (List.getElem?_eq_some_iff.1 hx).1
  have e1 : putAt l m i = l.take i.toNat := by unfold putAt; exact if_neg (by omega)
  have e2 : putAt l m n = l.take n.toNat := by
    unfold putAt
    rw [if_pos (show (fro (· < m) l : Int) < n by omega), if_pos (by rw [e, hx, he])]
  rw [e1, e2, take_snoc h0 hn hx]
  exact ⟨rfl, by omega⟩
theorem putAt_more {l : List Int} {m i n x : Int} (h0 : 0 ≤ i) (hn : n = i + 1) (hx : l[i.toNat]? = some x) (hd : i ≤ fro (· < m) l) (he : m < x) : putAt l m n = putAt l m i ++ [m] ++ [x] ∧ (fro (· < m) l : Int) < n := by
  have h1 := (fro_at h0 hx hd).2 (by omega)
  have e : fro (· < m) l = i.toNat := by omega
  have hlen := (List.getElem?_eq_some_iff.1 hx).1
  have e1 : putAt l m i = l.take i.toNat := by unfold putAt; exact if_neg (by omega)
  have e2 : putAt l m n = l.take i.toNat ++ m :: (l.take n.toNat).drop i.toNat := by
    unfold putAt
    rw [if_pos (show (fro (· < m) l : Int) < n by omega), if_neg (by rw [e, hx]; intro h; injection h with h; omega), e]
  rw [e1, e2, take_snoc h0 hn hx]
  refine ⟨?_, by omega⟩
  rw [List.drop_append_of_le_length (by rw [List.length_take]; omega), List.drop_eq_nil_of_le (by rw [List.length_take]; omega), List.nil_append, List.append_assoc]
  rfl
theorem putAt_end {l : List Int} {m i : Int} (hi : l.length ≤ i) : ((fro (· < m) l : Int) < i → i ≤ l.length → putAt l m i = putI l m) ∧ (i ≤ fro (· < m) l → putAt l m i ++ [m] = putI l m) := by
  have hle := fro_le (· < m) l
  have ht : l.take i.toNat = l := List.take_of_length_le (by omega)
  constructor
  · intro h _
    unfold putAt putI insF
    rw [if_pos h, ht]
  · intro h
    have e : fro (· < m) l = l.length := by omega
    unfold putAt putI insF
    rw [if_neg (by omega), ht, e, if_neg (by simp), List.take_length, List.drop_length]
noncomputable def kindsM (l : List Fau) (a t : Int) : List Int := (rej (fun v : Fau => ¬ (v.aid = a ∧ v.frm ≤ t ∧ t < v.end_)) l).map Fau.kind
theorem kindsM_len (l : List Fau) (a t : Int) : (kindsM l a t).length ≤ l.length := by
  unfold kindsM; rw [List.length_map]; exact rej_len _ _
theorem putsI_len (m : List Int) : ∀ o : List Int, (m.foldl putI o).length ≤ o.length + m.length := by
  induction m with
  | nil => intro o; simp
  | cons x m ih =>
    intro o
    have h1 := ih (putI o x)
    have h2 := putI_len o x
    simp only [List.foldl_cons, List.length_cons]; omega
theorem mem_rej {α : Type} {p : α → Prop} {l : List α} {v : α} (h : v ∈ rej p l) : v ∈ l ∧ ¬ p v := by
  have := List.mem_filter.1 h
  exact ⟨this.1, by simpa using this.2⟩
theorem kinds_nodup {l : List Fau} (h : FaultsOk l) (a t : Int) : (kindsM l a t).Nodup := by
  unfold kindsM
  have hpw : l.Pairwise fun w v => ¬ v.meets w := pw_of fun i j w v hij hw hv => by
    obtain ⟨v', g1, _, _, g4⟩ := h.1 j (List.getElem?_eq_some_iff.1 hv).1
    rw [hv] at g1; cases g1
    exact g4 w (List.mem_of_getElem? (i := i) (by rw [List.getElem?_take, if_pos hij]; exact hw))
  have h2 : (rej (fun v : Fau => ¬ (v.aid = a ∧ v.frm ≤ t ∧ t < v.end_)) l).Pairwise fun w v => ¬ v.meets w := hpw.sublist (by unfold rej; exact List.filter_sublist)
  show List.Pairwise (· ≠ ·) _
  rw [List.pairwise_map]
  refine List.Pairwise.imp_of_mem (fun {w v} hw hv hm he => ?_) h2
  have g1 := Classical.not_not.1 (mem_rej hw).2
  have g2 := Classical.not_not.1 (mem_rej hv).2
  apply hm
  unfold Fau.meets
  omega
theorem putI_new {o : List Int} {n : Int} (hs : o.Pairwise (· < ·)) (hn : n ∉ o) : (putI o n).Perm (o ++ [n]) ∧ (putI o n).Pairwise (· < ·) := by
  have e : putI o n = insF (· < n) o n := by
    unfold putI
    refine if_neg fun h => hn (List.mem_of_getElem? h)
  rw [e]
  refine ⟨(ins_perm o n _).symm, insF_pw (R := (· < ·)) (fun x y z h1 h2 => Int.lt_trans h1 h2) hs (fun y hy => ?_)⟩
  have : y ≠ n := fun e => hn (e ▸ hy)
  omega
theorem putsI_spec : ∀ (m o : List Int), o.Pairwise (· < ·) → (o ++ m).Nodup → (m.foldl putI o).Perm (o ++ m) ∧ (m.foldl putI o).Pairwise (· < ·)
  | [], o, hs, _ => ⟨by simp, hs⟩
  | x :: m, o, hs, hn => by
    have hx : x ∉ o := fun h => by
      rw [List.nodup_append] at hn
      exact hn.2.2 x h x (List.mem_cons_self ..) rfl
    obtain ⟨h1, h2⟩ := putI_new hs hx
    have hp : (putI o x ++ m).Perm (o ++ x :: m) := by
      refine (h1.append_right m).trans ?_
      rw [List.append_assoc]; exact .refl _
    obtain ⟨h3, h4⟩ := putsI_spec m (putI o x) h2 (hp.nodup_iff.2 hn)
    exact ⟨h3.trans hp, h4⟩
theorem sortInt_ {rs : List (List AV)} {l : List Int} (hl : rs = l.map intR) (hb : l.length ≤ 1048576) : ACM Tryz.prog 32 [.sl true 1 rs] (fun r ys => ∃ rs', rs' = (l.mergeSort fun x y => decide (x ≤ y)).map intR ∧ r = .tup [] ∧ ys = [.sl true 1 rs']) :=
  ACM.sortI Tryz.sortI (fun _ _ => rfl) hl hb
theorem sort_puts {m : List Int} (hn : m.Nodup) : m.mergeSort (fun x y => decide (x ≤ y)) = m.foldl putI [] := by
  obtain ⟨h1, h2⟩ := putsI_spec m [] .nil (by simpa using hn)
  rw [List.nil_append] at h1
  refine sorted_uniq (R := fun x y : Int => x ≤ y) ((List.mergeSort_perm m _).trans h1.symm) (fun x _ y _ g1 g2 => by omega) ?_ (h2.imp fun h => by omega)
  refine (List.pairwise_mergeSort (le := fun x y : Int => decide (x ≤ y)) (fun a b c g1 g2 => ?_) (fun a b => ?_) m).imp fun h => of_decide_eq_true h
  · simp only [decide_eq_true_eq] at *; omega
  · simp only [Bool.or_eq_true, decide_eq_true_eq]; omega
noncomputable def faultsAtR (l : List Fau) (a t : Int) : List Int × Int := if FaultsOk l then (if TimeOk t then ((kindsM l a t).foldl putI [], 0) else ([], 2)) else ([], 1)
theorem faultsAtR_len (l : List Fau) (a t : Int) : (faultsAtR l a t).1.length ≤ l.length := by
  unfold faultsAtR
  split
  · split
    · have h1 := putsI_len (kindsM l a t) []
      have h2 := kindsM_len l a t
      simp only [List.length_nil] at h1
      show ((kindsM l a t).foldl putI []).length ≤ l.length
      omega
    · simp
  · simp
theorem faultsAt_ {rs : List (List AV)} {b : Bool} {l : List Fau} (a t : Int) (hl : rs = l.map Fau.cs) : AC Tryz.prog 8 [.sl b 4 rs, .int .i64 a, .int .i64 t] intLI (faultsAtR l a t) := by
  refine ac Tryz.func8 (by kernel_rfl) (.intLI _) fun E K hE hK => ?_
  conv => cbv
  refine callP hE (validFaults_ hl) (fun hok => ?_) (fun hok => ?_) <;> conv => cbv
  · refine callP hE (isTime_ _) (fun ht => ?_) (fun ht => ?_) <;> conv => cbv
    · have h48 := hok.2
      refine lenL hE hl fun n hn hbn => ?_
      conv => cbv
      refine loopC hE (ι := Int × (List (List AV))) [1, 2, 18, 19] [20, 8] (fun q => (fun (i : Int) (es : List (List AV)) => [(20, .int .i64 i), (8, .ob 0)]) q.1 q.2) (fun q => (fun (i : Int) (es : List (List AV)) => [.row 1 es]) q.1 q.2) (fun q => (fun (i : Int) (es : List (List AV)) => (n - i).toNat) q.1 q.2) (fun q => (fun (i : Int) (es : List (List AV)) => (0 ≤ i ∧ i ≤ n) ∧ ∃ q : List Int, es = q.map intR ∧ q = kindsM (l.take i.toNat) a t) q.1 q.2) [0] (by decide) ((0, [])) (by conv => lhs; cbv) (by conv => lhs; cbv) rfl rfl (by dsimp only; exact ⟨by omega, [], rfl, rfl⟩) fun q hi Kn hN => ?_
      obtain ⟨i, es⟩ := q
      (try dsimp only at hi)
      conv => cbv
      obtain ⟨⟨h0, h3⟩, q, h4, h5⟩ := hi
      have hq : q.length ≤ 1048576 := by
        have := kindsM_len (l.take i.toNat) a t
        rw [List.length_take] at this
        rw [h5]; omega
      repeat' first
        | (refine idxV hE hl (by omega) (by assumption) ?_; (try conv => cbv))
        | (refine idxL hE hl (by omega) (fun v hv => ?_); have hvo := fau_ok_end (hok.all v (List.mem_of_getElem? hv)); obtain ⟨aid, kind, frm, til⟩ := v; simp only at hvo; (try conv => cbv))
        | (refine callMI hE (sortInt_ h4 (by omega)) ?_; rintro r ys ⟨rs2, h6, rfl, rfl⟩; conv => cbv)
        | (refine hN (_, _) _ [0, 3] (by decide) rfl ⟨?_, _, by assumption, ?_⟩ ?_ <;> (try dsimp only))
        | (refine hN (_, _) _ [3] (by decide) rfl ⟨?_, _, by assumption, ?_⟩ ?_ <;> (try dsimp only))
        | (refine hN (_, _) _ [0] (by decide) rfl ⟨?_, _, by assumption, ?_⟩ ?_ <;> (try dsimp only))
        | ((first
       | refine q0 hE ?_
       | refine callI hE (fauEnd_ _ _ _ _) (fun _ _ => ?_)
       | refine callP hE (within_ _ _ _) (fun _ => ?_) (fun _ => ?_)
       | refine catP hE (R := intR) (by assumption) rfl (by omega) (fun _ _ => ?_)
       | refine sameI hE (by rw [h4, h6, List.length_map, List.length_map, List.length_mergeSort]) ?_
       | refine B0 hE ?_|refine B1 hE (fun _=>?_) fun _=>?_|refine B3 hE fun _ _ _=>?_|refine B2 hE fun _ _=>?_|refine B4 hE fun _ _ _ _=>?_) <;> (try conv => cbv))
      all_goals (try clear hN)
      all_goals first
        | omega
        | (have hs := (rej_step (fun v : Fau => ¬ (v.aid = a ∧ v.frm ≤ t ∧ t < v.end_)) h0 (by assumption) (by assumption)).2 (by simp only; omega); rw [h5]; unfold kindsM; rw [hs]; simp; done)
        | (have hs := (rej_step (fun v : Fau => ¬ (v.aid = a ∧ v.frm ≤ t ∧ t < v.end_)) h0 (by assumption) (by assumption)).1 (by simp only; omega); rw [h5]; unfold kindsM; rw [hs])
        | (refine hK _ ?_; rw [faultsAtR, if_pos hok, if_pos ht, h6, h5, List.take_of_length_le (by omega), sort_puts (kinds_nodup hok a t)]; rfl)
        | trace_state
    · refine nilOwnI hE 1 ?_
      conv => cbv
      refine hK _ ?_
      rw [faultsAtR, if_pos hok, if_neg ht]; rfl
  · refine nilOwnI hE 1 ?_
    conv => cbv
    refine hK _ ?_
    rw [faultsAtR, if_neg hok]; rfl
end Go.Proofs.YtifjebnieieolaaGreatDoor
