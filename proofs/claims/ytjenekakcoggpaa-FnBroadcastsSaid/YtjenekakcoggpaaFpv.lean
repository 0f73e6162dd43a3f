/- Contracts: the visits of one day of a plan. -/
import Derived.Test.YtjenekakcoggpaaFdo
import Derived.Test.YtjenekakcoggpaaFo
namespace Go.Proofs.Ytjenekakcoggpaa
open Go Go.RowKit Go.Sort Classical
set_option maxRecDepth 100000
set_option maxHeartbeats 2000000
set_option linter.unusedVariables false
set_option linter.unusedSimpArgs false
theorem dueM_due {l : List Vis} (hok : VisitsOk l) (D : Int) : DueIs l D (dueM l D) := by
  have h := ordTo_due hok D l.length (Nat.le_refl _)
  rwa [List.take_length] at h
theorem dueM_sub {l : List Vis} (hok : VisitsOk l) {D : Int} {v : Vis} : v ∈ dueM l D ↔ v ∈ l ∧ v.due ≤ D := by
  have h := (dueM_due hok D).1.mem_iff (a := v)
  rw [h]
  unfold rej
  rw [List.mem_filter]
  constructor
  · rintro ⟨h1, h2⟩; exact ⟨h1, by simp at h2; omega⟩
  · rintro ⟨h1, h2⟩; exact ⟨h1, by simp; omega⟩
theorem dueM_nodup {l : List Vis} (hok : VisitsOk l) (D : Int) : ((dueM l D).map Vis.aid).Nodup := by
  have h := (dueM_due hok D).1.map Vis.aid
  rw [h.nodup_iff]
  have hp : l.Pairwise (fun x y => x.aid < y.aid) := ok_chain hok
  have h2 : (rej (fun v : Vis => D < v.due) l).Pairwise (fun x y => x.aid < y.aid) := hp.sublist (by unfold rej; exact List.filter_sublist)
  show List.Pairwise (· ≠ ·) _
  rw [List.pairwise_map]
  exact h2.imp fun h => by omega
theorem dueM_len {l : List Vis} (D : Int) : (dueM l D).length ≤ l.length := by
  unfold dueM; rw [List.length_map]; exact (ordTo_mem l D l.length).2
/-- The next that a day's choice takes is the next of those that are due. -/
theorem pick_next {l : List Vis} (hok : VisitsOk l) {D : Int} {k : Nat} {out : List Int} (ho : out = ((dueM l D).take k).map Vis.aid) {x : Vis} (hx : x ∈ l) (hd : x.due ≤ D) (hn : x.aid ∉ out) (hmin : ∀ v ∈ l, v.due ≤ D → v.aid ∉ out → Vis.le x v) : (dueM l D)[k]? = some x := by
  have hm := dueM_due hok D
  have hnd := dueM_nodup hok D
  obtain ⟨p, hp⟩ := List.getElem?_of_mem ((dueM_sub hok).2 ⟨hx, hd⟩)
  have hpl := (List.getElem?_eq_some_iff.1 hp).1
  have hpk : k ≤ p := by
    apply Classical.byContradiction
    intro hlt
    refine hn (ho ▸ List.mem_map.2 ⟨x, ?_, rfl⟩)
    exact List.mem_of_getElem? (i := p) (by rw [List.getElem?_take, if_pos (by omega)]; exact hp)
  rcases Nat.eq_or_lt_of_le hpk with e | hlt
  · rw [e]; exact hp
  · have hy : (dueM l D)[k]? = some (dueM l D)[k] := List.getElem?_eq_getElem (by omega)
    obtain ⟨y, hye⟩ : ∃ y, y = (dueM l D)[k] := ⟨_, rfl⟩
    rw [← hye] at hy
    obtain ⟨hyl, hyd⟩ := (dueM_sub hok).1 (List.mem_of_getElem? hy)
    have hyo : y.aid ∉ out := fun h => by
      rw [ho] at h
      obtain ⟨z, hz, hza⟩ := List.mem_map.1 h
      obtain ⟨q, hq⟩ := List.getElem?_of_mem hz
      have hql := (List.getElem?_eq_some_iff.1 hq).1
      rw [List.length_take] at hql
      rw [List.getElem?_take, if_pos (by omega)] at hq
      have h1 : ((dueM l D).map Vis.aid)[q]? = some y.aid := by rw [List.getElem?_map, hq]; simp [hza]
      have h2 : ((dueM l D).map Vis.aid)[k]? = some y.aid := by rw [List.getElem?_map, hy]; rfl
      have := (List.getElem?_inj (by rw [List.length_map]; omega) hnd).1 (h1.trans h2.symm)
      omega
    have h1 := hmin y hyl hyd hyo
    have h2 := pair_le hm.2 hlt hy hp
    have : x = y := aid_inj hok hx hyl (by unfold Vis.le at h1 h2; omega)
    rw [this]; exact hy
theorem pick_none {l : List Vis} (hok : VisitsOk l) {D : Int} {k : Nat} {out : List Int} (ho : out = ((dueM l D).take k).map Vis.aid) (hno : ∀ v ∈ l, ¬ (v.due ≤ D ∧ v.aid ∉ out)) : (dueM l D).length ≤ k := by
  apply Classical.byContradiction
  intro hlt
  have hnd := dueM_nodup hok D
  have hy : (dueM l D)[k]? = some (dueM l D)[k] := List.getElem?_eq_getElem (by omega)
  obtain ⟨y, hye⟩ : ∃ y, y = (dueM l D)[k] := ⟨_, rfl⟩
  rw [← hye] at hy
  obtain ⟨hyl, hyd⟩ := (dueM_sub hok).1 (List.mem_of_getElem? hy)
  refine hno y hyl ⟨hyd, fun h => ?_⟩
  rw [ho] at h
  obtain ⟨z, hz, hza⟩ := List.mem_map.1 h
  obtain ⟨q, hq⟩ := List.getElem?_of_mem hz
  have hql := (List.getElem?_eq_some_iff.1 hq).1
  rw [List.length_take] at hql
  rw [List.getElem?_take, if_pos (by omega)] at hq
  have h1 : ((dueM l D).map Vis.aid)[q]? = some y.aid := by rw [List.getElem?_map, hq]; simp [hza]
  have h2 : ((dueM l D).map Vis.aid)[k]? = some y.aid := by rw [List.getElem?_map, hy]; rfl
  have := (List.getElem?_inj (by rw [List.length_map]; omega) hnd).1 (h1.trans h2.symm)
  omega
def Best (l : List Vis) (D : Int) (out : List Int) (i b : Int) : Prop :=
  (b = -1 ∧ Up (fun j => ∀ v, l[j]? = some v → ¬ (v.due ≤ D ∧ v.aid ∉ out)) i) ∨ (0 ≤ b ∧ b < i ∧ ∃ x, l[b.toNat]? = some x ∧ (x.due ≤ D ∧ x.aid ∉ out) ∧ Up (fun j => ∀ v, l[j]? = some v → (v.due ≤ D ∧ v.aid ∉ out) → Vis.le x v) i)
theorem upStep {α : Type} {l : List α} {p : α → Prop} {i n : Int} {v : α} (h : Up (fun j => ∀ w, l[j]? = some w → p w) i) (hv : l[i.toNat]? = some v) (hp : p v) (hn : n = i + 1) : Up (fun j => ∀ w, l[j]? = some w → p w) n := h.succ (fun w hw => by rw [hv] at hw; cases hw; exact hp) hn
theorem Best.skip {l : List Vis} {D : Int} {out : List Int} {i n b : Int} {v : Vis} (h : Best l D out i b) (hv : l[i.toNat]? = some v) (hn : n = i + 1) (hs : ¬ (v.due ≤ D ∧ v.aid ∉ out)) : Best l D out n b := by
  rcases h with ⟨h1, h2⟩ | ⟨h1, h2, x, h3, h4, h5⟩
  · exact .inl ⟨h1, upStep h2 hv hs hn⟩
  · exact .inr ⟨h1, by omega, x, h3, h4, upStep h5 hv (fun h => absurd h hs) hn⟩
theorem Best.first {l : List Vis} {D : Int} {out : List Int} {i n b : Int} {v : Vis} (h : Best l D out i b) (h0 : 0 ≤ i) (hv : l[i.toNat]? = some v) (hn : n = i + 1) (hs : v.due ≤ D ∧ v.aid ∉ out) (hb : b < 0) : Best l D out n i := by
  rcases h with ⟨h1, h2⟩ | ⟨h1, _⟩
  · refine .inr ⟨h0, by omega, v, hv, hs, upStep (fun j hj w hw g => absurd g (h2 j hj w hw)) hv (fun _ => ?_) hn⟩
    unfold Vis.le; omega
  · omega
theorem Best.less {l : List Vis} {D : Int} {out : List Int} {i n b : Int} {v x : Vis} (h : Best l D out i b) (h0 : 0 ≤ i) (hv : l[i.toNat]? = some v) (hn : n = i + 1) (hs : v.due ≤ D ∧ v.aid ∉ out) (hb : 0 ≤ b) (hx : l[b.toNat]? = some x) (hc : Vis.cmp v x < 0) : Best l D out n i := by
  rcases h with ⟨h1, _⟩ | ⟨h1, h2, y, h3, h4, h5⟩
  · omega
  · rw [hx] at h3; cases h3
    rw [Vis.cmp_lt] at hc
    refine .inr ⟨h0, by omega, v, hv, hs, upStep (fun j hj w hw g => ?_) hv (fun _ => ?_) hn⟩
    · have := h5 j hj w hw g
      unfold Vis.le at *; omega
    · unfold Vis.le; omega
theorem Best.more {l : List Vis} {D : Int} {out : List Int} {i n b : Int} {v x : Vis} (h : Best l D out i b) (hv : l[i.toNat]? = some v) (hn : n = i + 1) (hb : 0 ≤ b) (hx : l[b.toNat]? = some x) (hc : ¬ Vis.cmp v x < 0) : Best l D out n b := by
  rcases h with ⟨h1, _⟩ | ⟨h1, h2, y, h3, h4, h5⟩
  · omega
  · rw [hx] at h3; cases h3
    exact .inr ⟨h1, by omega, x, hx, h4, upStep h5 hv (fun _ => (Vis.cmp_le x v).1 hc) hn⟩
theorem Best.end_ {l : List Vis} {D : Int} {out : List Int} {i b : Int} (h : Best l D out i b) (hi : l.length ≤ i) : (b < 0 → ∀ v ∈ l, ¬ (v.due ≤ D ∧ v.aid ∉ out)) ∧ (0 ≤ b → ∃ x, l[b.toNat]? = some x ∧ (x.due ≤ D ∧ x.aid ∉ out) ∧ ∀ v ∈ l, v.due ≤ D → v.aid ∉ out → Vis.le x v) := by
  rcases h with ⟨h1, h2⟩ | ⟨h1, h2, y, h3, h4, h5⟩
  · refine ⟨fun _ v hv => ?_, fun h => by omega⟩
    obtain ⟨j, hj⟩ := List.getElem?_of_mem hv
    exact h2 j (by have := (List.getElem?_eq_some_iff.1 hj).1; omega) v hj
  · refine ⟨fun h => by omega, fun _ => ⟨y, h3, h4, fun v hv g1 g2 => ?_⟩⟩
    obtain ⟨j, hj⟩ := List.getElem?_of_mem hv
    exact h5 j (by have := (List.getElem?_eq_some_iff.1 hj).1; omega) v hj ⟨g1, g2⟩
theorem Best.bd {l : List Vis} {D : Int} {out : List Int} {i b : Int} (h : Best l D out i b) : -1 ≤ b ∧ b < i ∨ b = -1 := by
  rcases h with ⟨h1, _⟩ | ⟨h1, h2, _⟩ <;> omega
noncomputable def picksR (l : List Vis) (D room : Int) : List Int := ((dueM l D).take room.toNat).map Vis.aid
theorem picks_step {l : List Vis} (hok : VisitsOk l) {D i n b j : Int} {q : List Int} {v : Vis} (h0 : 0 ≤ i) (hq : q = ((dueM l D).take i.toNat).map Vis.aid) (hb : Best l D q j b) (hj : l.length ≤ j) (hb0 : 0 ≤ b) (hv : l[b.toNat]? = some v) (hn : n = i + 1) : q ++ [v.aid] = ((dueM l D).take n.toNat).map Vis.aid ∧ n ≤ (dueM l D).length := by
  obtain ⟨x, h1, h2, h3⟩ := (hb.end_ hj).2 hb0
  rw [hv] at h1; cases h1
  have h4 := pick_next hok hq (List.mem_of_getElem? hv) h2.1 h2.2 h3
  have hlt := (List.getElem?_eq_some_iff.1 h4).1
  refine ⟨?_, by omega⟩
  rw [show n.toNat = i.toNat + 1 by omega, List.take_add_one, h4, hq]
  simp
theorem planDay_ {rs : List (List AV)} {b : Bool} {l : List Vis} (day room ahead : Int) (hl : rs = l.map Vis.cs) (hok : VisitsOk l) (hd : 0 ≤ day ∧ day ≤ 99999) (hr : 1 ≤ room ∧ room ≤ 10) (ha : 0 ≤ ahead ∧ ahead ≤ 3650) : AC Try.prog 89 [.sl b 3 rs, .int .i64 day, .int .i64 room, .int .i64 ahead] (fun l : List Int => .sl true 1 (l.map intR)) (picksR l (day + ahead) room) := by
  refine ac Try.func89 (by kernel_rfl) (.ints _) fun E K hE hK => ?_
  conv => cbv
  have h24 := hok.2
  refine loopC hE (ι := Int × (List (List AV))) [0, 1, 3, 14] [15, 9] (fun q => (fun (i : Int) (es : List (List AV)) => [(15, .int .i64 i), (9, .ob 0)]) q.1 q.2) (fun q => (fun (i : Int) (es : List (List AV)) => [.row 1 es]) q.1 q.2) (fun q => (fun (i : Int) (es : List (List AV)) => (room - i).toNat) q.1 q.2) (fun q => (fun (i : Int) (es : List (List AV)) => (0 ≤ i ∧ i ≤ room) ∧ ∃ ot : List Int, es = ot.map intR ∧ ot = ((dueM l (day + ahead)).take i.toNat).map Vis.aid) q.1 q.2) [0] (by decide) ((0, [])) (by conv => lhs; cbv) (by conv => lhs; cbv) rfl rfl (by dsimp only; exact ⟨by omega, [], rfl, by simp⟩) fun q hi Kn hN => ?_
  obtain ⟨i, es⟩ := q
  (try dsimp only at hi)
  conv => cbv
  obtain ⟨⟨h0, h1⟩, ot, h2, h3⟩ := hi
  have hq : ot.length ≤ 1048576 := by rw [h3, List.length_map, List.length_take]; omega
  repeat' first
    | (refine idxV hE hl (by omega) (by assumption) ?_; (try conv => cbv))
    | ((refine loopC hE (ι := Int × Int) [0, 1, 3, 9, 14, 15, 17, 18] [19, 10] (fun q => (fun (j : Int) (bst : Int) => [(19, .int .i64 j), (10, .int .i64 bst)]) q.1 q.2) (fun q => (fun (j : Int) (bst : Int) => [.row 1 es]) q.1 q.2) (fun q => (fun (j : Int) (bst : Int) => (l.length - j).toNat) q.1 q.2) (fun q => (fun (j : Int) (bst : Int) => (0 ≤ j ∧ j ≤ l.length) ∧ Best l (day + ahead) ot j bst) q.1 q.2) [0] (by decide) ((0, -1)) (by conv => lhs; cbv) (by conv => lhs; cbv) rfl rfl (by dsimp only; exact ⟨by omega, .inl ⟨rfl, .zero (by omega)⟩⟩) fun q hi2 Kn2 hN2 => ?_; obtain ⟨j, bst⟩ := q; (try dsimp only at hi2); conv => cbv); obtain ⟨⟨j0, j1⟩, hB⟩ := hi2; have hBd := hB.bd)
    | (refine idxL hE hl (by omega) (fun v hv => ?_); obtain ⟨aid, every, last⟩ := v; (try conv => cbv))
    | (refine hN2 (_, _) _ [0] (by decide) rfl ⟨?_, ?_⟩ ?_ <;> (try dsimp only))
    | (refine hN (_, _) _ [2] (by decide) rfl ⟨?_, _, by assumption, ?_⟩ ?_ <;> (try dsimp only))
    | ((first
     | refine idxV hE (by assumption) (by omega) (by assumption) ?_
     | refine callI hE (due_ _ _ _) (fun _ _ => ?_)
     | refine callP hE (containsI_ _ h2) (fun _ => ?_) (fun _ => ?_)
     | refine callI hE (visCompare_ _ _ _ _ _ _) (fun _ _ => ?_)
     | refine catP hE (R := intR) (by assumption) rfl (by omega) (fun _ _ => ?_)
     | refine ltT hE (by omega) ?_
     | refine ltF hE (by omega) ?_
     | refine ltI hE (fun _ => ?_) (fun _ => ?_)
     | refine leT hE (by omega) ?_
     | refine leF hE (by omega) ?_
     | refine leI hE (fun _ => ?_) (fun _ => ?_)
     | refine eqT hE (by omega) ?_
     | refine eqF hE (by omega) ?_
     | refine eqI hE (fun _ => ?_) (fun _ => ?_)
     | refine add64 hE (by omega) (fun _ _ => ?_)
     | refine sub64 hE (by omega) (fun _ _ => ?_)
     | refine addI hE (fun _ _ => ?_)
     | refine subI hE (fun _ _ => ?_)
     | refine lenL hE (by assumption) (fun _ _ _ => ?_)
     | refine len0 hE (fun _ _ => ?_)
     | refine idxL hE (by assumption) (by first | omega | (simp only [List.length_set, mix_len]; omega)) (fun _ _ => ?_)
     | refine idxFill hE (by assumption) (by omega) ?_
     | refine idxI hE (by decide) (by rfl) ?_
     | refine iteB (fun _ => ?_) (fun _ => ?_)
     | refine maxI hE (fun _ _ => ?_)
     | refine minI hE (fun _ _ => ?_)
     | refine seqI hE (fun _ => ?_) (fun _ => ?_)
     | refine scatI hE (by first | omega | (simp only [ByteArray.size, Array.size, List.length_cons, List.length_nil] at *; omega)) (fun _ _ _ => ?_)
     | refine slenI hE (fun _ _ _ => ?_)
     | refine sidxI hE (by omega) (fun _ _ _ _ => ?_)
     | refine needI hE (by first | decide | omega) ?_
     | refine rem64 hE (by omega) (fun _ _ => ?_)
     | refine quo64 hE (by omega) (fun _ _ => ?_)
     | refine wrapU8 hE (by omega) (fun _ _ => ?_)
     | refine wrap64 hE (by omega) (fun _ _ => ?_)
     | refine noownI hE (by simp [AV.isOwn]) ?_) <;> (try conv => cbv))
  all_goals (try clear hN)
  all_goals (try clear hN2)
  all_goals first
    | omega
    | exact hB.skip (v := ⟨_, _, _⟩) (by assumption) (by assumption) (fun h => h.2 (by assumption))
    | exact hB.skip (v := ⟨_, _, _⟩) (by assumption) (by assumption) (fun h => by have h1 := h.1; simp only [Vis.due] at h1; omega)
    | exact hB.first (v := ⟨_, _, _⟩) j0 (by assumption) (by assumption) ⟨by simp only [Vis.due]; omega, by assumption⟩ (by omega)
    | exact hB.less (v := ⟨_, _, _⟩) j0 (by assumption) (by assumption) ⟨by simp only [Vis.due]; omega, by assumption⟩ (by omega) hv (by omega)
    | exact hB.more (v := ⟨_, _, _⟩) (by assumption) (by assumption) (by omega) hv (by omega)
    | (have hs := picks_step hok h0 h3 hB (by omega) (by omega) hv (by assumption); exact hs.1)
    | (have hl := pick_none hok h3 ((hB.end_ (by omega)).1 (by omega))
       refine hK _ ?_
       rw [h2, h3, picksR, List.take_of_length_le (by omega), List.take_of_length_le (by omega)]; rfl)
    | (refine hK _ ?_; rw [h2, h3, show i = room by omega]; rfl)
    | trace_state
end Go.Proofs.Ytjenekakcoggpaa
