/- Plain laws of faults: what a report and a repair leave. -/
import Derived.Test.YtifjebnieieolaaGreatDoorFfc
import Derived.Test.YtifjebnieieolaaGreatDoorFaz
namespace Go.Proofs.YtifjebnieieolaaGreatDoor
open Go Go.RowKit Go.Sort Classical
set_option maxRecDepth 100000
set_option maxHeartbeats 2000000
set_option linter.unusedVariables false
set_option linter.unusedSimpArgs false
theorem FaultsOk.pw {l : List Fau} (h : FaultsOk l) : l.Pairwise fun w v => ¬ v.meets w := pw_of fun i j w v hij hw hv => by
  obtain ⟨v', g1, _, _, g4⟩ := h.1 j (List.getElem?_eq_some_iff.1 hv).1
  rw [hv] at g1; cases g1
  exact g4 w (List.mem_of_getElem? (i := i) (by rw [List.getElem?_take, if_pos hij]; exact hw))
theorem FaultsOk.mk {l : List Fau} (h1 : ∀ v ∈ l, v.ok) (h2 : l.Pairwise Fau.less) (h3 : l.Pairwise fun w v => ¬ v.meets w) (h4 : l.length ≤ 48) : FaultsOk l := by
  refine ⟨fun j hj => ?_, h4⟩
  have hv : l[j]? = some l[j] := List.getElem?_eq_getElem hj
  refine ⟨l[j], hv, h1 _ (List.getElem_mem hj), fun h0 => ?_, fun w hw => ?_⟩
  · have hj1 : j - 1 < l.length := by omega
    exact ⟨l[j - 1], List.getElem?_eq_getElem hj1, List.pairwise_iff_getElem.1 h2 (j - 1) j hj1 hj (by omega)⟩
  · obtain ⟨i, hi⟩ := List.getElem?_of_mem hw
    have hil := (List.getElem?_eq_some_iff.1 hi).1
    rw [List.length_take] at hil
    rw [List.getElem?_take, if_pos (by omega), List.getElem?_eq_getElem (by omega)] at hi
    rw [← Option.some.inj hi]
    exact List.pairwise_iff_getElem.1 h3 i j (by omega) hj (by omega)
theorem meets_symm {v w : Fau} (h : v.meets w) : w.meets v := by unfold Fau.meets at *; omega
/-- A report that is taken. -/
def RepOk (l : List Fau) (a k t : Int) (m : List Fau) : Prop := FaultsOk l ∧ Fau.ok ⟨a, k, t, -1⟩ ∧ (¬ ∃ w ∈ l, Fau.meets ⟨a, k, t, -1⟩ w) ∧ l.length ≠ 48 ∧ m = insF (fun w => w.less ⟨a, k, t, -1⟩) l ⟨a, k, t, -1⟩
theorem rep_cases (l : List Fau) (a k t : Int) : (RepOk l a k t (repR l a k t).1 ∧ (repR l a k t).2 = 0) ∨ ((repR l a k t).1 = [] ∧ (repR l a k t).2 ≠ 0) := by
  unfold repR
  by_cases h1 : FaultsOk l
  · rw [if_pos h1]
    by_cases h2 : Fau.ok ⟨a, k, t, -1⟩
    · rw [if_pos h2]
      by_cases h3 : ∃ w ∈ l, Fau.meets ⟨a, k, t, -1⟩ w
      · rw [if_pos h3]; exact .inr ⟨rfl, by decide⟩
      · rw [if_neg h3]
        by_cases h4 : l.length = 48
        · rw [if_pos h4]; exact .inr ⟨rfl, by decide⟩
        · rw [if_neg h4]; exact .inl ⟨⟨h1, h2, h3, h4, rfl⟩, rfl⟩
    · rw [if_neg h2]; exact .inr ⟨rfl, by decide⟩
  · rw [if_neg h1]; exact .inr ⟨rfl, by decide⟩
theorem RepOk.perm {l m : List Fau} {a k t : Int} (h : RepOk l a k t m) : (l ++ [(⟨a, k, t, -1⟩ : Fau)]).Perm m := by
  rw [h.2.2.2.2]; exact ins_perm _ _ _
theorem RepOk.len {l m : List Fau} {a k t : Int} (h : RepOk l a k t m) : m.length = l.length + 1 := by
  rw [h.2.2.2.2]; exact insF_len _ _ _
theorem RepOk.mem {l m : List Fau} {a k t : Int} (h : RepOk l a k t m) {v : Fau} : v ∈ m ↔ v ∈ l ∨ v = ⟨a, k, t, -1⟩ := by
  rw [← h.perm.mem_iff, List.mem_append, List.mem_singleton]
theorem pw_symm {R : Fau → Fau → Prop} (hs : ∀ x y, R x y → R y x) {l m : List Fau} (hp : l.Perm m) (h : l.Pairwise R) : m.Pairwise R := hp.pairwise h (fun {x y} => hs x y)
theorem RepOk.ok {l m : List Fau} {a k t : Int} (h : RepOk l a k t m) : FaultsOk m := by
  have hl := h.1
  have hv := h.2.1
  refine .mk (fun v hm => ?_) ?_ ?_ ?_
  · rcases h.mem.1 hm with h1 | rfl
    · exact hl.all v h1
    · exact hv
  · rw [h.2.2.2.2]
    exact insF_pw Fau.less_tr (faus_pw hl) (fun w hw => fau_apart hv (hl.all w hw) fun hm => h.2.2.1 ⟨w, hw, hm⟩)
  · refine pw_symm (R := fun w v => ¬ v.meets w) (fun x y h1 h2 => h1 (meets_symm h2)) h.perm ?_
    rw [List.pairwise_append]
    refine ⟨hl.pw, by simp, fun w hw v hv2 => ?_⟩
    rw [List.mem_singleton] at hv2
    subst hv2
    exact fun hm => h.2.2.1 ⟨w, hw, hm⟩
  · rw [h.len]
    have h1 := hl.2
    have h2 := h.2.2.2.1
    omega
/-- The open faults. -/
noncomputable def openL (l : List Fau) : List Fau := rej (fun v : Fau => v.til ≠ -1) l
theorem rej_perm {p : Fau → Prop} {l m : List Fau} (h : l.Perm m) : (rej p l).Perm (rej p m) := h.filter _
theorem RepOk.opens {l m : List Fau} {a k t : Int} (h : RepOk l a k t m) : (openL m).length = (openL l).length + 1 := by
  have h1 := (rej_perm (p := fun v : Fau => v.til ≠ -1) h.perm).length_eq
  unfold openL
  rw [← h1]
  simp [rej]
theorem mem_kinds {l : List Fau} {a t k : Int} : k ∈ (kindsM l a t) ↔ ∃ v ∈ l, (v.aid = a ∧ v.frm ≤ t ∧ t < v.end_) ∧ v.kind = k := by
  unfold kindsM
  rw [List.mem_map]
  constructor
  · rintro ⟨v, hv, rfl⟩
    have := mem_rej hv
    exact ⟨v, this.1, Classical.not_not.1 this.2, rfl⟩
  · rintro ⟨v, hv, hp, rfl⟩
    exact ⟨v, List.mem_filter.2 ⟨hv, by simpa using hp⟩, rfl⟩
theorem mem_faultsAt {l : List Fau} {a t k : Int} (hok : FaultsOk l) (ht : TimeOk t) : (faultsAtR l a t).2 = 0 ∧ (k ∈ (faultsAtR l a t).1 ↔ ∃ v ∈ l, (v.aid = a ∧ v.frm ≤ t ∧ t < v.end_) ∧ v.kind = k) := by
  unfold faultsAtR
  rw [if_pos hok, if_pos ht]
  refine ⟨rfl, ?_⟩
  rw [← mem_kinds]
  exact (putsI_spec (kindsM l a t) [] .nil (by simpa using kinds_nodup hok a t)).1.mem_iff
/-- The one open fault of this kind. -/
theorem RepOk.opn {l m : List Fau} {a k t : Int} (h : RepOk l a k t m) {v : Fau} (hv : v ∈ m) (ho : Fau.opn a k v) : v = ⟨a, k, t, -1⟩ := by
  rcases h.mem.1 hv with h1 | h1
  · exfalso
    have h2 := fau_ok_end (h.1.all v h1)
    have h3 := fau_ok_end h.2.1
    refine h.2.2.1 ⟨v, h1, ?_⟩
    obtain ⟨o1, o2, o3⟩ := ho
    unfold Fau.meets Fau.end_ at *
    simp only at *
    rw [if_pos o3] at *
    simp only [if_true] at *
    refine ⟨o1.symm, o2.symm, ?_⟩
    omega
  · exact h1
theorem RepOk.fix {l m : List Fau} {a k t : Int} (h : RepOk l a k t m) (u : Int) : ∃ i : Nat, m[i]? = some ⟨a, k, t, -1⟩ ∧ fixR m a k u = if TimeOk u ∧ t < u then (m.set i ⟨a, k, t, u⟩, 0) else ([], 2) := by
  have hm : (⟨a, k, t, -1⟩ : Fau) ∈ m := h.mem.2 (.inr rfl)
  have hsp := firstI_spec (Fau.opn a k) m
  obtain ⟨j, hj⟩ := List.getElem?_of_mem hm
  rcases hsp with ⟨h0, h1, ⟨v, hv, hp⟩, _⟩ | ⟨_, hno⟩
  · have hve := h.opn (List.mem_of_getElem? hv) hp
    subst hve
    refine ⟨_, hv, ?_⟩
    unfold fixR
    rw [if_pos h.ok, hv]
    simp only
    rw [if_neg (by omega)]
  · exact (hno j _ hj ⟨rfl, rfl, rfl⟩).elim
/-- What a repair leaves. -/
theorem RepOk.fixed {l m d : List Fau} {a k t u : Int} {i : Nat} (h : RepOk l a k t m) (hi : m[i]? = some ⟨a, k, t, -1⟩) (hu : TimeOk u ∧ t < u) (hd : d = m.set i ⟨a, k, t, u⟩) :
    FaultsOk d ∧ (∀ x, x ∉ (faultsAtR d a u).1 ∨ x ≠ k) ∧ k ∈ (faultsAtR d a (u - 1)).1 := by
  have hl := (List.getElem?_eq_some_iff.1 hi).1
  have hok := h.ok
  have hov := h.2.1
  have hge : m[i] = ⟨a, k, t, -1⟩ := (List.getElem?_eq_some_iff.1 hi).2
  have hget : ∀ j (hj : j < d.length) (hj' : j < m.length), d[j] = if i = j then ⟨a, k, t, u⟩ else m[j] := fun j hj hj' => by
    subst hd; rw [List.getElem_set]
  have hdl : d.length = m.length := by rw [hd, List.length_set]
  have hnew : Fau.ok ⟨a, k, t, u⟩ := by
    obtain ⟨g1, g2, g3, _⟩ := hov
    exact ⟨g1, g2, g3, .inr hu⟩
  have hle : ∀ w, Fau.meets ⟨a, k, t, u⟩ w → Fau.meets ⟨a, k, t, -1⟩ w := fun w hw => by
    have e1 : Fau.end_ ⟨a, k, t, -1⟩ = 144000000 := rfl
    have e2 : Fau.end_ ⟨a, k, t, u⟩ ≤ 144000000 := (fau_ok_end hnew).2.2.2
    unfold Fau.meets at *
    rw [e1]
    simp only at *
    omega
  have hmd : ∀ v, v ∈ d → v = ⟨a, k, t, u⟩ ∨ v ∈ m := fun v hv => by
    subst hd
    rcases List.mem_or_eq_of_mem_set hv with h1 | h1
    · exact .inr h1
    · exact .inl h1
  have hdok : FaultsOk d := by
    refine .mk (fun v hv => ?_) ?_ ?_ (by rw [hdl]; exact hok.2)
    · rcases hmd v hv with rfl | h1
      · exact hnew
      · exact hok.all v h1
    · rw [List.pairwise_iff_getElem]
      intro p q hp hq hpq
      have h2 := List.pairwise_iff_getElem.1 (faus_pw hok) p q (by omega) (by omega) hpq
      rw [hget p hp (by omega), hget q hq (by omega)]
      split
      · rename_i e; subst e; rw [hge] at h2
        rw [if_neg (by omega)]; exact h2
      · split
        · rename_i e; subst e; rw [hge] at h2; exact h2
        · exact h2
    · rw [List.pairwise_iff_getElem]
      intro p q hp hq hpq
      have h2 := List.pairwise_iff_getElem.1 hok.pw p q (by omega) (by omega) hpq
      rw [hget p hp (by omega), hget q hq (by omega)]
      split
      · rename_i e; subst e; rw [hge] at h2
        rw [if_neg (by omega)]
        exact fun hm => h2 (hle _ hm)
      · split
        · rename_i e; subst e; rw [hge] at h2
          exact fun hm => h2 (meets_symm (hle _ (meets_symm hm)))
        · exact h2
  have hin : (⟨a, k, t, u⟩ : Fau) ∈ d := by
    have : d[i]? = some ⟨a, k, t, u⟩ := by rw [hd, List.getElem?_set_self hl]
    exact List.mem_of_getElem? this
  have eu : Fau.end_ ⟨a, k, t, u⟩ = u := by
    unfold Fau.end_; unfold TimeOk at hu; rw [if_neg (by simp only; omega)]
  have tf : TimeOk t := hov.2.2.1
  refine ⟨hdok, fun x => ?_, ?_⟩
  · by_cases hx : x = k
    · left
      rw [(mem_faultsAt hdok hu.1).2]
      rintro ⟨v, hv, ⟨h1, h2, h3⟩, h4⟩
      rcases hmd v hv with rfl | h5
      · rw [eu] at h3; omega
      · -- an old fault of this aid and kind at u would meet the open one
        have hne : v ≠ ⟨a, k, t, -1⟩ ∨ v = ⟨a, k, t, -1⟩ := (Classical.em _).symm
        rcases hne with hne | hne
        · rcases h.mem.1 h5 with h6 | h6
          · refine h.2.2.1 ⟨v, h6, ?_⟩
            have e1 : Fau.end_ ⟨a, k, t, -1⟩ = 144000000 := rfl
            have h7 := fau_ok_end (h.1.all v h6)
            unfold Fau.meets
            rw [e1]
            simp only
            refine ⟨h1.symm, by omega, ?_⟩
            omega
          · exact hne h6
        · -- the open one itself stands no longer in d
          subst hne
          obtain ⟨j, hj⟩ := List.getElem?_of_mem hv
          have hjl := (List.getElem?_eq_some_iff.1 hj).1
          have hje := (List.getElem?_eq_some_iff.1 hj).2
          rw [hget j hjl (by omega)] at hje
          split at hje
          · injection hje with _ _ _ e; unfold TimeOk at hu; omega
          · rename_i hij
            have hnm := hok.pw
            have e1 : Fau.end_ ⟨a, k, t, -1⟩ = 144000000 := rfl
            have hself : Fau.meets ⟨a, k, t, -1⟩ ⟨a, k, t, -1⟩ := by
              refine ⟨rfl, rfl, ?_⟩
              show max t t < min (Fau.end_ ⟨a, k, t, -1⟩) (Fau.end_ ⟨a, k, t, -1⟩)
              rw [e1]; unfold TimeOk at tf; omega
            rcases Nat.lt_or_ge i j with g | g
            · have := List.pairwise_iff_getElem.1 hnm i j hl (by omega) g
              rw [hge, hje] at this; exact this hself
            · have := List.pairwise_iff_getElem.1 hnm j i (by omega) hl (by omega)
              rw [hge, hje] at this; exact this hself
    · exact .inr hx
  · rw [(mem_faultsAt hdok (by unfold TimeOk at *; omega)).2]
    exact ⟨_, hin, ⟨rfl, by simp only; omega, by rw [eu]; omega⟩, rfl⟩
/-- The reported fault is told at its time. -/
theorem RepOk.now {l m : List Fau} {a k t : Int} (h : RepOk l a k t m) : (faultsAtR m a t).2 = 0 ∧ k ∈ (faultsAtR m a t).1 := by
  have tf : TimeOk t := h.2.1.2.2.1
  obtain ⟨h1, h2⟩ := mem_faultsAt (a := a) (k := k) h.ok tf
  refine ⟨h1, h2.2 ⟨_, h.mem.2 (.inr rfl), ⟨rfl, Int.le_refl _, ?_⟩, rfl⟩⟩
  have e1 : Fau.end_ ⟨a, k, t, -1⟩ = 144000000 := rfl
  rw [e1]; unfold TimeOk at tf; omega
end Go.Proofs.YtifjebnieieolaaGreatDoor
