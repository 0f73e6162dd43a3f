/- Plain laws: visits in the order in which they are due. -/
import Derived.Test.YtehobmjmhjgnoaaFl
namespace Go.Proofs.Ytehobmjmhjgnoaa
open Go Go.RowKit Classical
set_option maxRecDepth 100000
set_option maxHeartbeats 2000000
set_option linter.unusedVariables false
set_option linter.unusedSimpArgs false
theorem sorted_uniq {α : Type} {R : α → α → Prop} : ∀ {m n : List α}, m.Perm n → (∀ x ∈ m, ∀ y ∈ m, R x y → R y x → x = y) → m.Pairwise R → n.Pairwise R → m = n
  | [], n, h, _, _, _ => (List.nil_perm.1 h).symm
  | a :: m, [], h, _, _, _ => by have := h.length_eq; simp at this
  | a :: m, b :: n, h, hr, hm, hn => by
    have hab : a = b := by
      have h1 : a ∈ b :: n := h.subset (List.mem_cons_self ..)
      have h2 : b ∈ a :: m := h.symm.subset (List.mem_cons_self ..)
      rcases List.mem_cons.1 h1 with h1 | h1
      · exact h1
      · rcases List.mem_cons.1 h2 with h2' | h2'
        · exact h2'.symm
        · exact hr a (List.mem_cons_self ..) b h2 ((List.pairwise_cons.1 hm).1 b h2') ((List.pairwise_cons.1 hn).1 a h1)
    subst hab
    rw [sorted_uniq (List.perm_cons a |>.1 h) (fun x hx y hy => hr x (List.mem_cons_of_mem _ hx) y (List.mem_cons_of_mem _ hy)) (List.pairwise_cons.1 hm).2 (List.pairwise_cons.1 hn).2]
def Vis.le (v w : Vis) : Prop := v.due < w.due ∨ (v.due = w.due ∧ v.aid ≤ w.aid)
theorem Vis.cmp_lt (v w : Vis) : Vis.cmp v w < 0 ↔ v.due < w.due ∨ (v.due = w.due ∧ v.aid < w.aid) := by
  unfold Vis.cmp cmpI
  rcases Int.lt_trichotomy v.due w.due with h | h | h
  · simp [h]
  · rw [h]
    rcases Int.lt_trichotomy v.aid w.aid with h2 | h2 | h2
    · simp [h2]
    · simp [h2]
    · have : ¬ v.aid < w.aid := by omega
      simp [h2, this]
  · have h1 : ¬ v.due < w.due := by omega
    have h2 : ¬ v.due = w.due := by omega
    simp [h, h1, h2]
theorem Vis.cmp_le (v w : Vis) : ¬ Vis.cmp w v < 0 ↔ Vis.le v w := by
  rw [Vis.cmp_lt]; unfold Vis.le; omega
/-- Those that are due, in their order. -/
def DueIs (l : List Vis) (day : Int) (m : List Vis) : Prop := m.Perm (rej (fun v => day < v.due) l) ∧ m.Pairwise Vis.le
theorem aid_inj {l : List Vis} (h : VisitsOk l) {v w : Vis} (hv : v ∈ l) (hw : w ∈ l) (e : v.aid = w.aid) : v = w := by
  have mono : ∀ (j k : Nat) x y, j < k → l[j]? = some x → l[k]? = some y → x.aid < y.aid := by
    intro j k
    induction k with
    | zero => intro x y h; omega
    | succ k ih =>
      intro x y hjk hx hy
      obtain ⟨y', h1, _, h2⟩ := h.1 (k + 1) (List.getElem?_eq_some_iff.1 hy).1
      rw [hy] at h1; cases h1
      obtain ⟨z, hz, hzy⟩ := h2 (by omega)
      rw [Nat.add_sub_cancel] at hz
      rcases Nat.lt_or_ge j k with hj | hj
      · have := ih x z hj hx hz; omega
      · have : j = k := by omega
        subst this
        rw [hx] at hz; cases hz; exact hzy
  obtain ⟨j, hj⟩ := List.getElem?_of_mem hv
  obtain ⟨k, hk⟩ := List.getElem?_of_mem hw
  rcases Nat.lt_trichotomy j k with h1 | h1 | h1
  · have := mono j k v w h1 hj hk; omega
  · subst h1; rw [hj] at hk; cases hk; rfl
  · have := mono k j w v h1 hk hj; omega
theorem DueIs.uniq {l : List Vis} (h : VisitsOk l) {day : Int} {m n : List Vis} (hm : DueIs l day m) (hn : DueIs l day n) : m = n := by
  have hsub : ∀ x ∈ m, x ∈ l := fun x hx => (List.mem_filter.1 (hm.1.subset hx)).1
  refine sorted_uniq (hm.1.trans hn.1.symm) (fun x hx y hy h1 h2 => aid_inj h (hsub x hx) (hsub y hy) ?_) hm.2 hn.2
  unfold Vis.le at *
  omega
/-- What the sort leaves, cut to those that are due. -/
theorem DueIs.of_sorted {l m : List Vis} (day : Int) (hp : m.Perm l) (hs : m.Pairwise Vis.le) : DueIs l day (rej (fun v => day < v.due) m) :=
  ⟨hp.filter _, hs.filter _⟩
theorem rej_app' {α : Type} (p : α → Prop) (l : List α) (v : α) : (p v → rej p (l ++ [v]) = rej p l) ∧ (¬ p v → rej p (l ++ [v]) = rej p l ++ [v]) := by
  unfold rej
  rw [List.filter_append]
  by_cases h : p v <;> simp [h]
/-- An insertion: x behind all that are due no later. -/
theorem DueIs.insert {l : List Vis} {day : Int} {m : List Vis} {x : Vis} {p : Nat} (h : DueIs l day m) (hx : ¬ day < x.due) (haid : ∀ w ∈ l, w.aid < x.aid) (h1 : ∀ w ∈ m.take p, w.due ≤ x.due) (h2 : ∀ w ∈ m.drop p, x.due < w.due) :
    DueIs (l ++ [x]) day (m.take p ++ x :: m.drop p) := by
  refine ⟨?_, ?_⟩
  · rw [(rej_app' (fun v : Vis => day < v.due) l x).2 hx]
    refine (List.perm_middle).trans ?_
    rw [List.take_append_drop]
    exact (List.Perm.cons x h.1).trans (List.perm_append_singleton x _).symm
  · have hsub : ∀ w ∈ m, w ∈ l := fun w hw => (List.mem_filter.1 (h.1.subset hw)).1
    have hs := h.2
    rw [← List.take_append_drop p m, List.pairwise_append] at hs
    rw [List.pairwise_append, List.pairwise_cons]
    refine ⟨hs.1, ⟨fun w hw => .inl (h2 w hw), hs.2.1⟩, fun v hv w hw => ?_⟩
    rcases List.mem_cons.1 hw with rfl | hw
    · have e1 := h1 v hv
      have e2 := haid v (hsub v (List.mem_of_mem_take hv))
      unfold Vis.le; omega
    · exact hs.2.2 v hv w hw
end Go.Proofs.Ytehobmjmhjgnoaa
