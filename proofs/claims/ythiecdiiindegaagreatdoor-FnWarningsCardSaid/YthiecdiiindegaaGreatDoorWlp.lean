/- Plain laws of warnings: what adding and cancelling leave. -/
import Derived.Test.YthiecdiiindegaaGreatDoorFne
import Derived.Test.YthiecdiiindegaaGreatDoorFbd
namespace Go.Proofs.YthiecdiiindegaaGreatDoor
open Go Go.RowKit Classical
set_option maxRecDepth 100000
set_option maxHeartbeats 2000000
set_option linter.unusedVariables false
set_option linter.unusedSimpArgs false
theorem WarnsOk.pw {l : List War} (h : WarnsOk l) : l.Pairwise fun x y => x.number < y.number := by
  have key : ∀ (k j : Nat) (hk : k < l.length) (hj : j < l.length), j < k → l[j].number < l[k].number := by
    intro k
    induction k with
    | zero => intro j _ _ h; omega
    | succ k ih =>
      intro j hk hj hjk
      obtain ⟨v, h1, _, h3⟩ := h.1 (k + 1) hk
      obtain ⟨w, h4, h5⟩ := h3 (by omega)
      rw [Nat.add_sub_cancel] at h4
      have hk' : k < l.length := by omega
      rw [List.getElem?_eq_getElem hk] at h1
      rw [List.getElem?_eq_getElem hk'] at h4
      cases h1; cases h4
      rcases Nat.lt_or_ge j k with g | g
      · have := ih j hk' hj g; omega
      · have : j = k := by omega
        subst this; exact h5
  exact List.pairwise_iff_getElem.2 fun i j hi hj hij => key j i hj hi hij
theorem WarnsOk.mk {l : List War} (h1 : ∀ v ∈ l, v.ok) (h2 : l.Pairwise fun x y => x.number < y.number) (h3 : l.length ≤ 32) : WarnsOk l := by
  refine ⟨fun j hj => ⟨l[j], List.getElem?_eq_getElem hj, h1 _ (List.getElem_mem hj), fun h0 => ?_⟩, h3⟩
  have hj1 : j - 1 < l.length := by omega
  exact ⟨l[j - 1], List.getElem?_eq_getElem hj1, List.pairwise_iff_getElem.1 h2 (j - 1) j hj1 hj (by omega)⟩
/-- Where a number stands, or would stand. -/
noncomputable def lowI (l : List War) (n : Int) : Int := if 0 ≤ firstI (fun v : War => ¬ v.number < n) l then firstI (fun v : War => ¬ v.number < n) l else l.length
def foundW (l : List War) (n : Int) : Prop := ∃ v, l[(lowI l n).toNat]? = some v ∧ v.number = n
theorem lowI_spec (l : List War) (n : Int) : (0 ≤ lowI l n ∧ lowI l n ≤ l.length) ∧ (∀ (j : Nat) v, (j : Int) < lowI l n → l[j]? = some v → v.number < n) ∧ (∀ v, l[(lowI l n).toNat]? = some v → n ≤ v.number) := by
  unfold lowI
  rcases firstI_spec (fun v : War => ¬ v.number < n) l with ⟨h0, h1, ⟨v, hv, hp⟩, h2⟩ | ⟨h1, h2⟩
  · rw [if_pos h0]
    refine ⟨by omega, fun j w hj hw => Classical.not_not.1 (h2 j w (by omega) hw), fun w hw => ?_⟩
    rw [hv] at hw; cases hw; omega
  · rw [if_neg (by omega)]
    refine ⟨by omega, fun j w hj hw => Classical.not_not.1 (h2 j w hw), fun w hw => ?_⟩
    have := (List.getElem?_eq_some_iff.1 hw).1
    omega
theorem lowI_in {l : List War} {n i : Int} {v : War} (h0 : 0 ≤ i) (hv : l[i.toNat]? = some v) (hn : ¬ v.number < n) (h : Up (fun j => ∀ v, l[j]? = some v → v.number < n) i) : lowI l n = i := by
  have e := firstI_in (p := fun v : War => ¬ v.number < n) h0 hv hn (fun j hj v hv => fun hc => hc (h j hj v hv))
  unfold lowI
  rw [e, if_pos h0]
theorem lowI_out {l : List War} {n i : Int} (hi : (l.length : Int) ≤ i) (hi' : i ≤ l.length) (h : Up (fun j => ∀ v, l[j]? = some v → v.number < n) i) : lowI l n = i := by
  have e := firstI_out (p := fun v : War => ¬ v.number < n) hi (fun j hj v hv => fun hc => hc (h j hj v hv))
  unfold lowI
  rw [e, if_neg (by omega)]
  omega
theorem found_in {l : List War} {n i : Int} {v : War} (e : lowI l n = i) (hv : l[i.toNat]? = some v) : foundW l n ↔ v.number = n := by
  unfold foundW
  rw [e]
  exact ⟨fun ⟨w, h1, h2⟩ => by rw [hv] at h1; cases h1; exact h2, fun h => ⟨v, hv, h⟩⟩
theorem found_out {l : List War} {n i : Int} (e : lowI l n = i) (hi : (l.length : Int) ≤ i) : ¬ foundW l n := by
  unfold foundW
  rw [e]
  rintro ⟨w, h1, _⟩
  have := (List.getElem?_eq_some_iff.1 h1).1
  omega
theorem addWR_low (l : List War) (w : War) : addWR l w = if WarnsOk l ∧ w.ok then addWAt l w (lowI l w.number) else ([], 1) := by
  unfold addWR lowI
  split
  · split <;> rfl
  · rfl
theorem addWAt_low (l : List War) (w : War) : addWAt l w (lowI l w.number) = if foundW l w.number then ([], 4) else if l.length = 32 then ([], 5) else (l.take (lowI l w.number).toNat ++ w :: l.drop (lowI l w.number).toNat, 0) := by
  unfold addWAt foundW
  split
  · rfl
  · split
    · rfl
    · simp
/-- A warning that is taken. -/
def AddOk (l : List War) (w : War) (m : List War) : Prop := WarnsOk l ∧ w.ok ∧ (lowI l w.number).toNat ≤ l.length ∧ l.length < 32 ∧ m = l.take (lowI l w.number).toNat ++ w :: l.drop (lowI l w.number).toNat ∧
  (∀ v ∈ l.take (lowI l w.number).toNat, v.number < w.number) ∧ (∀ v ∈ l.drop (lowI l w.number).toNat, w.number < v.number)
theorem add_cases (l : List War) (w : War) : (AddOk l w (addWR l w).1 ∧ (addWR l w).2 = 0) ∨ ((addWR l w).1 = [] ∧ (addWR l w).2 ≠ 0) := by
  rw [addWR_low]
  by_cases h : WarnsOk l ∧ w.ok
  · rw [if_pos h, addWAt_low]
    by_cases hf : foundW l w.number
    · rw [if_pos hf]; exact .inr ⟨rfl, by simp⟩
    · rw [if_neg hf]
      by_cases h32 : l.length = 32
      · rw [if_pos h32]; exact .inr ⟨rfl, by simp⟩
      · rw [if_neg h32]
        left
        obtain ⟨⟨s1, s2⟩, s3, s4⟩ := lowI_spec l w.number
        have hpw := h.1.pw
        have hle := h.1.2
        refine ⟨⟨h.1, h.2, by omega, by omega, rfl, fun v hv => ?_, fun v hv => ?_⟩, rfl⟩
        · obtain ⟨j, hj⟩ := List.getElem?_of_mem hv
          have hjl := (List.getElem?_eq_some_iff.1 hj).1
          rw [List.length_take] at hjl
          rw [List.getElem?_take, if_pos (by omega)] at hj
          exact s3 j v (by omega) hj
        · obtain ⟨j, hj⟩ := List.getElem?_of_mem hv
          rw [List.getElem?_drop] at hj
          have hjl := (List.getElem?_eq_some_iff.1 hj).1
          have hlt : (lowI l w.number).toNat < l.length := by omega
          have h0 := List.getElem?_eq_getElem hlt
          have h1 := s4 _ h0
          have h2 : ¬ (l[(lowI l w.number).toNat]).number = w.number := fun e => hf ⟨_, h0, e⟩
          rcases Nat.eq_zero_or_pos j with g | g
          · subst g
            rw [Nat.add_zero, h0] at hj; cases hj; omega
          · have h3 := List.pairwise_iff_getElem.1 hpw (lowI l w.number).toNat ((lowI l w.number).toNat + j) hlt hjl (by omega)
            rw [List.getElem?_eq_getElem hjl] at hj; cases hj; omega
  · rw [if_neg h]; exact .inr ⟨rfl, by simp⟩
theorem pw_ins {A B : List War} {w : War} (h : (A ++ B).Pairwise fun x y => x.number < y.number) (hA : ∀ v ∈ A, v.number < w.number) (hB : ∀ v ∈ B, w.number < v.number) : (A ++ w :: B).Pairwise fun x y => x.number < y.number := by
  rw [List.pairwise_append] at h ⊢
  obtain ⟨h1, h2, h3⟩ := h
  refine ⟨h1, List.pairwise_cons.2 ⟨hB, h2⟩, fun a ha b hb => ?_⟩
  rcases List.mem_cons.1 hb with rfl | hb
  · exact hA a ha
  · exact h3 a ha b hb
theorem AddOk.put {l m : List War} {w : War} (h : AddOk l w m) (u : War) (hu : u.ok) (hn : u.number = w.number) : WarnsOk (l.take (lowI l w.number).toNat ++ u :: l.drop (lowI l w.number).toNat) := by
  obtain ⟨h1, h2, h3, h4, h5, h6, h7⟩ := h
  refine .mk (fun v hv => ?_) (pw_ins (by rw [List.take_append_drop]; exact h1.pw) (fun v hv => by have := h6 v hv; omega) (fun v hv => by have := h7 v hv; omega)) ?_
  · rcases List.mem_append.1 hv with g | g
    · exact h1.all v (List.mem_of_mem_take g)
    · rcases List.mem_cons.1 g with rfl | g
      · exact hu
      · exact h1.all v (List.mem_of_mem_drop g)
  · rw [List.length_append, List.length_cons, List.length_take, List.length_drop]; omega
theorem AddOk.ok {l m : List War} {w : War} (h : AddOk l w m) : WarnsOk m := by
  have := h.put w h.2.1 rfl
  rwa [← h.2.2.2.2.1] at this
theorem AddOk.len {l m : List War} {w : War} (h : AddOk l w m) : m.length = l.length + 1 := by
  rw [h.2.2.2.2.1, List.length_append, List.length_cons, List.length_take, List.length_drop]
  have := h.2.2.1
  omega
theorem one_num {l m : List War} {w u v : War} (h : AddOk l w m) (hv : v ∈ l.take (lowI l w.number).toNat ++ u :: l.drop (lowI l w.number).toNat) (hn : v.number = w.number) : v = u := by
  obtain ⟨h1, h2, h3, h4, h5, h6, h7⟩ := h
  rcases List.mem_append.1 hv with g | g
  · have := h6 v g; omega
  · rcases List.mem_cons.1 g with rfl | g
    · rfl
    · have := h7 v g; omega
theorem mem_rejW {p : War → Prop} {l : List War} {v : War} : v ∈ rej p l ↔ v ∈ l ∧ ¬ p v := by
  unfold rej
  rw [List.mem_filter]
  simp
theorem active_code {l : List War} {t : Int} (h : WarnsOk l) (ht : TimeOk t) : (activeR l t).2 = 0 ∧ (activeR l t).1 = (actives l t).map War.number := by
  unfold activeR; rw [if_pos h, if_pos ht]; exact ⟨rfl, rfl⟩
theorem mem_actives {l : List War} {t x : Int} : x ∈ (actives l t).map War.number ↔ ∃ v ∈ l, v.number = x ∧ v.frm ≤ t ∧ t < v.til := by
  rw [List.mem_map]
  unfold actives
  constructor
  · rintro ⟨v, hv, rfl⟩
    rw [mem_rejW] at hv
    exact ⟨v, hv.1, rfl, by omega, by omega⟩
  · rintro ⟨v, hv, rfl, h1, h2⟩
    exact ⟨v, mem_rejW.2 ⟨hv, by omega⟩, rfl⟩
theorem AddOk.mem {l m : List War} {w : War} (h : AddOk l w m) : w ∈ m := by rw [h.2.2.2.2.1]; simp
theorem AddOk.now {l m : List War} {w : War} {t : Int} (h : AddOk l w m) (h1 : w.frm ≤ t) (h2 : t < w.til) : w.number ∈ (actives m t).map War.number := mem_actives.2 ⟨w, h.mem, rfl, h1, h2⟩
theorem AddOk.late {l m : List War} {w : War} (h : AddOk l w m) : w.number ∉ (actives m w.til).map War.number := fun hm => by
  obtain ⟨v, hv, h1, h2, h3⟩ := mem_actives.1 hm
  rw [h.2.2.2.2.1] at hv
  have := one_num h hv h1
  subst this; omega
theorem sqd_self (x y : Int) : sqd x y x y = 0 := by unfold sqd; simp
theorem dist_self (x y : Int) : distR x y x y ≤ 0 := by
  unfold distR
  split
  · rw [sqd_self, rootI_eq (r := 0) ⟨by omega, by omega, by omega⟩]
    exact Int.le_refl _
  · exact Int.le_refl _
theorem AddOk.near {l m : List War} {w : War} {t : Int} (h : AddOk l w m) (h1 : w.frm ≤ t) (h2 : t < w.til) (ht : TimeOk t) : (nearR m w.atX w.atY 0 t).2 = 0 ∧ w.number ∈ (nearR m w.atX w.atY 0 t).1 := by
  obtain ⟨k1, k2, k3, k4, k5, k6, k7, k8, k9⟩ := h.2.1
  unfold nearR
  rw [if_pos ⟨h.ok, k6⟩, if_pos ⟨ht, by omega⟩]
  refine ⟨rfl, List.mem_map.2 ⟨w, mem_rejW.2 ⟨mem_rejW.2 ⟨h.mem, by omega⟩, ?_⟩, rfl⟩⟩
  rw [farW_iff k7 (by omega)]
  have := dist_self w.atX w.atY
  omega
/-- What cancelling leaves. -/
noncomputable def cancO (l : List War) (n t : Int) : Option War → List War × Int
  | some v => if v.number = n then (if TimeOk t then (if v.til ≤ t then ([], 6) else if t ≤ v.frm then (l.take (lowI l n).toNat ++ l.drop ((lowI l n).toNat + 1), 0) else (l.set (lowI l n).toNat ⟨v.number, v.priority, v.frm, t, v.atX, v.atY, v.radius, v.words⟩, 0)) else ([], 2)) else ([], 3)
  | none => ([], 3)
noncomputable def cancR (l : List War) (n t : Int) : List War × Int := if WarnsOk l then cancO l n t l[(lowI l n).toNat]? else ([], 1)
theorem AddOk.low {l m : List War} {w : War} (h : AddOk l w m) : lowI m w.number = lowI l w.number ∧ m[(lowI l w.number).toNat]? = some w := by
  obtain ⟨h1, h2, h3, h4, h5, h6, h7⟩ := h
  have hl0 := (lowI_spec l w.number).1
  have hlen : (l.take (lowI l w.number).toNat).length = (lowI l w.number).toNat := by rw [List.length_take]; omega
  have hg : m[(lowI l w.number).toNat]? = some w := by
    rw [h5, List.getElem?_append_right (by omega), hlen, Nat.sub_self]; rfl
  refine ⟨lowI_in hl0.1 hg (by omega) fun j hj v hv => ?_, hg⟩
  rw [h5, List.getElem?_append_left (by omega)] at hv
  exact h6 v (List.mem_of_getElem? hv)
theorem take_at {A B : List War} {k : Nat} {w : War} (h : A.length = k) : (A ++ w :: B).take k = A ∧ (A ++ w :: B).drop (k + 1) = B ∧ ∀ u, (A ++ w :: B).set k u = A ++ u :: B := by
  subst h
  refine ⟨by simp, by simp, fun u => by simp⟩
theorem AddOk.canc {l m : List War} {w : War} {t : Int} (h : AddOk l w m) (h1 : w.frm ≤ t) (h2 : t < w.til) (ht : TimeOk t) : (cancR m w.number t).2 = 0 ∧ WarnsOk (cancR m w.number t).1 ∧ w.number ∉ (actives (cancR m w.number t).1 t).map War.number ∧ (t ≤ w.frm → (cancR m w.number t).1 = l) ∧ (cancR m w.number t).1.length ≤ 32 := by
  obtain ⟨e1, e2⟩ := h.low
  have hw := h.2.1
  have hlen : (l.take (lowI l w.number).toNat).length = (lowI l w.number).toNat := by rw [List.length_take]; have := h.2.2.1; omega
  obtain ⟨t1, t2, t3⟩ := take_at (B := l.drop (lowI l w.number).toNat) (w := w) hlen
  have hcut : l.take (lowI l w.number).toNat ++ l.drop (lowI l w.number).toNat = l := List.take_append_drop ..
  unfold cancR
  rw [if_pos h.ok, e1, e2, cancO, if_pos rfl, e1, if_pos ht, if_neg (by omega), h.2.2.2.2.1, t1, t2, t3]
  split
  · rename_i hle
    rw [hcut]
    refine ⟨rfl, h.1, fun hm => ?_, fun _ => rfl, h.1.2⟩
    obtain ⟨v, hv, g1, g2, g3⟩ := mem_actives.1 hm
    rw [← hcut] at hv
    rcases List.mem_append.1 hv with g | g
    · have := h.2.2.2.2.2.1 v g; omega
    · have := h.2.2.2.2.2.2 v g; omega
  · rename_i hle
    have hok : War.ok ⟨w.number, w.priority, w.frm, t, w.atX, w.atY, w.radius, w.words⟩ := by
      obtain ⟨k1, k2, k3, k4, k5, k6, k7, k8, k9⟩ := hw
      exact ⟨k1, k2, k3, ht, by simp only; omega, k6, k7, k8, k9⟩
    have hp := h.put _ hok rfl
    refine ⟨rfl, hp, fun hm => ?_, fun hc => absurd hc hle, hp.2⟩
    obtain ⟨v, hv, g1, g2, g3⟩ := mem_actives.1 hm
    have := one_num h hv g1
    subst this
    simp only at g3; omega
end Go.Proofs.YthiecdiiindegaaGreatDoor
