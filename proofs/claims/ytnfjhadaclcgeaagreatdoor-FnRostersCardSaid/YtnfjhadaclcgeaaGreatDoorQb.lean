/- Plain laws: visits in the order in which they are due; Plain laws: insertion into a sorted list; Plain laws: sorting and insertion. -/
import Derived.Test.YtnfjhadaclcgeaaGreatDoorQa
import Derived.Test.YtnfjhadaclcgeaaGreatDoorAxSortO
import Derived.Test.YtnfjhadaclcgeaaGreatDoorShelf
namespace Go.Proofs.YtnfjhadaclcgeaaGreatDoor
open Go Go.RowKit Classical
set_option maxRecDepth 100000
set_option maxHeartbeats 2000000
set_option linter.unusedVariables false
set_option linter.unusedSimpArgs false
theorem sorted_uniq {α : Type} {R : α → α → Prop} : ∀ {m n : List α}, m.Perm n → (∀ x ∈ m, ∀ y ∈ m, R x y → R y x → x = y) → m.Pairwise R → n.Pairwise R → m = n
  | [], n, h, _, _, _ => (List.nil_perm.1 h).symm
  | a :: m, [], h, _, _, _ => by have := h.length_eq; simp at this
  | a :: m, b :: n, h, hr, hm, hn => by
    have hab : a = b := by
      have h1 : a ∈ b :: n := h.subset (List.mem_cons_self ..)
      have h2 : b ∈ a :: m := h.symm.subset (List.mem_cons_self ..)
      rcases List.mem_cons.1 h1 with h1 | h1
      · exact h1
      · rcases List.mem_cons.1 h2 with h2' | h2'
        · exact h2'.symm
        · exact hr a (List.mem_cons_self ..) b h2 ((List.pairwise_cons.1 hm).1 b h2') ((List.pairwise_cons.1 hn).1 a h1)
    subst hab
    rw [sorted_uniq (List.perm_cons a |>.1 h) (fun x hx y hy => hr x (List.mem_cons_of_mem _ hx) y (List.mem_cons_of_mem _ hy)) (List.pairwise_cons.1 hm).2 (List.pairwise_cons.1 hn).2]
def Vis.le (v w : Vis) : Prop := v.due < w.due ∨ (v.due = w.due ∧ v.aid ≤ w.aid)
theorem Vis.cmp_lt (v w : Vis) : Vis.cmp v w < 0 ↔ v.due < w.due ∨ (v.due = w.due ∧ v.aid < w.aid) := by
  unfold Vis.cmp cmpI
  rcases Int.lt_trichotomy v.due w.due with h | h | h
  · simp [h]
  · rw [h]
    rcases Int.lt_trichotomy v.aid w.aid with h2 | h2 | h2
    · simp [h2]
    · simp [h2]
    · have : ¬ v.aid < w.aid := by omega
      simp [h2, this]
  · have h1 : ¬ v.due < w.due := by omega
    have h2 : ¬ v.due = w.due := by omega
    simp [h, h1, h2]
theorem Vis.cmp_le (v w : Vis) : ¬ Vis.cmp w v < 0 ↔ Vis.le v w := by
  rw [Vis.cmp_lt]; unfold Vis.le; omega
/-- Those that are due, in their order. -/
def DueIs (l : List Vis) (day : Int) (m : List Vis) : Prop := m.Perm (rej (fun v => day < v.due) l) ∧ m.Pairwise Vis.le
theorem aid_inj {l : List Vis} (h : VisitsOk l) {v w : Vis} (hv : v ∈ l) (hw : w ∈ l) (e : v.aid = w.aid) : v = w := by
  have mono : ∀ (j k : Nat) x y, j < k → l[j]? = some x → l[k]? = some y → x.aid < y.aid := by
    intro j k
    induction k with
    | zero => intro x y h; omega
    | succ k ih =>
      intro x y hjk hx hy
      obtain ⟨y', h1, _, h2⟩ := h.1 (k + 1) (List.getElem?_eq_some_iff.1 hy).1
      rw [hy] at h1; cases h1
      obtain ⟨z, hz, hzy⟩ := h2 (by omega)
      rw [Nat.add_sub_cancel] at hz
      rcases Nat.lt_or_ge j k with hj | hj
      · have := ih x z hj hx hz; omega
      · have : j = k := by omega
        subst this
        rw [hx] at hz; cases hz; exact hzy
  obtain ⟨j, hj⟩ := List.getElem?_of_mem hv
  obtain ⟨k, hk⟩ := List.getElem?_of_mem hw
  rcases Nat.lt_trichotomy j k with h1 | h1 | h1
  · have := mono j k v w h1 hj hk; omega
  · subst h1; rw [hj] at hk; cases hk; rfl
  · have := mono k j w v h1 hk hj; omega
theorem DueIs.uniq {l : List Vis} (h : VisitsOk l) {day : Int} {m n : List Vis} (hm : DueIs l day m) (hn : DueIs l day n) : m = n := by
  have hsub : ∀ x ∈ m, x ∈ l := fun x hx => (List.mem_filter.1 (hm.1.subset hx)).1
  refine sorted_uniq (hm.1.trans hn.1.symm) (fun x hx y hy h1 h2 => aid_inj h (hsub x hx) (hsub y hy) ?_) hm.2 hn.2
  unfold Vis.le at *
  omega
/-- What the sort leaves, cut to those that are due. -/
theorem DueIs.of_sorted {l m : List Vis} (day : Int) (hp : m.Perm l) (hs : m.Pairwise Vis.le) : DueIs l day (rej (fun v => day < v.due) m) :=
  ⟨hp.filter _, hs.filter _⟩
theorem rej_app' {α : Type} (p : α → Prop) (l : List α) (v : α) : (p v → rej p (l ++ [v]) = rej p l) ∧ (¬ p v → rej p (l ++ [v]) = rej p l ++ [v]) := by
  unfold rej
  rw [List.filter_append]
  by_cases h : p v <;> simp [h]
/-- An insertion: x behind all that are due no later. -/
theorem DueIs.insert {l : List Vis} {day : Int} {m : List Vis} {x : Vis} {p : Nat} (h : DueIs l day m) (hx : ¬ day < x.due) (haid : ∀ w ∈ l, w.aid < x.aid) (h1 : ∀ w ∈ m.take p, w.due ≤ x.due) (h2 : ∀ w ∈ m.drop p, x.due < w.due) :
    DueIs (l ++ [x]) day (m.take p ++ x :: m.drop p) := by
  refine ⟨?_, ?_⟩
  · rw [(rej_app' (fun v : Vis => day < v.due) l x).2 hx]
    refine (List.perm_middle).trans ?_
    rw [List.take_append_drop]
    exact (List.Perm.cons x h.1).trans (List.perm_append_singleton x _).symm
  · have hsub : ∀ w ∈ m, w ∈ l := fun w hw => (List.mem_filter.1 (h.1.subset hw)).1
    have hs := h.2
    rw [← List.take_append_drop p m, List.pairwise_append] at hs
    rw [List.pairwise_append, List.pairwise_cons]
    refine ⟨hs.1, ⟨fun w hw => .inl (h2 w hw), hs.2.1⟩, fun v hv w hw => ?_⟩
    rcases List.mem_cons.1 hw with rfl | hw
    · have e1 := h1 v hv
      have e2 := haid v (hsub v (List.mem_of_mem_take hv))
      unfold Vis.le; omega
    · exact hs.2.2 v hv w hw
end Go.Proofs.YtnfjhadaclcgeaaGreatDoor
namespace Go.Proofs.YtnfjhadaclcgeaaGreatDoor
open Go Go.RowKit Classical
set_option maxRecDepth 100000
set_option maxHeartbeats 2000000
set_option linter.unusedVariables false
set_option linter.unusedSimpArgs false
theorem pw_of {α : Type} {R : α → α → Prop} {m : List α} (h : ∀ (i j : Nat) x y, i < j → m[i]? = some x → m[j]? = some y → R x y) : m.Pairwise R :=
  List.pairwise_iff_getElem.2 fun i j hi hj hij => h i j _ _ hij (List.getElem?_eq_getElem hi) (List.getElem?_eq_getElem hj)
theorem pair_le {α : Type} {R : α → α → Prop} {m : List α} (h : m.Pairwise R) {i j : Nat} {x y : α} (hij : i < j) (hx : m[i]? = some x) (hy : m[j]? = some y) : R x y := by
  have hi := (List.getElem?_eq_some_iff.1 hx)
  have hj := (List.getElem?_eq_some_iff.1 hy)
  obtain ⟨hi1, hi2⟩ := hi
  obtain ⟨hj1, hj2⟩ := hj
  rw [← hi2, ← hj2]
  exact List.pairwise_iff_getElem.1 h i j hi1 hj1 hij
theorem chain_pw {α : Type} {R : α → α → Prop} (tr : ∀ x y z, R x y → R y z → R x z) : ∀ {l : List α}, (∀ i a b, l[i]? = some a → l[i + 1]? = some b → R a b) → l.Pairwise R
  | [], _ => .nil
  | a :: l, h => by
    have ih : l.Pairwise R := chain_pw tr fun i x y h1 h2 => h (i + 1) x y (by simpa using h1) (by simpa using h2)
    refine List.pairwise_cons.2 ⟨fun x hx => ?_, ih⟩
    cases l with
    | nil => simp at hx
    | cons b l =>
      have hab := h 0 a b rfl rfl
      rcases List.mem_cons.1 hx with rfl | hx
      · exact hab
      · exact tr _ _ _ hab ((List.pairwise_cons.1 ih).1 x hx)
theorem pw_tri {α : Type} {R : α → α → Prop} : ∀ {t : List α}, t.Pairwise R → ∀ {x y : α}, x ∈ t → y ∈ t → x = y ∨ R x y ∨ R y x
  | [], _, _, _, hx, _ => by cases hx
  | a :: t, h, x, y, hx, hy => by
    obtain ⟨h1, h2⟩ := List.pairwise_cons.1 h
    rcases List.mem_cons.1 hx with e1 | g1
    · rcases List.mem_cons.1 hy with e2 | g2
      · exact .inl (e1.trans e2.symm)
      · exact .inr (.inl (e1 ▸ h1 y g2))
    · rcases List.mem_cons.1 hy with e2 | g2
      · exact .inr (.inr (e2 ▸ h1 x g1))
      · exact pw_tri h2 g1 g2
/-- An insertion into a sorted list. -/
theorem ins_pw {α : Type} {R : α → α → Prop} (tr : ∀ x y z, R x y → R y z → R x z) {l : List α} {f : α} {k : Nat} (hs : l.Pairwise R) (hd : ∀ y ∈ l, R y f ∨ R f y) (h1 : ∀ y ∈ l.take k, R y f) (h2 : ∀ y, l[k]? = some y → ¬ R y f) : (l.take k ++ f :: l.drop k).Pairwise R := by
  have hs' := hs
  rw [← List.take_append_drop k l, List.pairwise_append] at hs
  rw [List.pairwise_append, List.pairwise_cons]
  have h3 : ∀ w ∈ l.drop k, R f w := fun w hw => by
    cases hdk : l.drop k with
    | nil => rw [hdk] at hw; cases hw
    | cons y t =>
      have hy : l[k]? = some y := by
        have := congrArg (fun x => x[0]?) hdk
        simpa using this
      have hfy : R f y := by
        rcases hd y (List.mem_of_getElem? hy) with h | h
        · exact absurd h (h2 y hy)
        · exact h
      rw [hdk] at hw
      rcases List.mem_cons.1 hw with rfl | hw
      · exact hfy
      · have := hs.2.1
        rw [hdk] at this
        exact tr _ _ _ hfy ((List.pairwise_cons.1 this).1 w hw)
  refine ⟨hs.1, ⟨h3, hs.2.1⟩, fun v hv w hw => ?_⟩
  rcases List.mem_cons.1 hw with rfl | hw
  · exact h1 v hv
  · exact hs.2.2 v hv w hw
theorem ins_perm {α : Type} (l : List α) (f : α) (k : Nat) : (l ++ [f]).Perm (l.take k ++ f :: l.drop k) := by
  refine List.Perm.trans ?_ List.perm_middle.symm
  rw [List.take_append_drop]
  exact List.perm_append_singleton f l
/-- How many at the front have p. -/
noncomputable def fro {α : Type} (p : α → Prop) : List α → Nat
  | [] => 0
  | x :: l => if p x then fro p l + 1 else 0
theorem fro_le {α : Type} (p : α → Prop) : ∀ l : List α, fro p l ≤ l.length
  | [] => Nat.le_refl _
  | x :: l => by
    unfold fro
    have := fro_le p l
    split <;> simp <;> omega
theorem fro_spec {α : Type} (p : α → Prop) : ∀ l : List α, (∀ y ∈ l.take (fro p l), p y) ∧ ∀ y, l[fro p l]? = some y → ¬ p y
  | [] => ⟨fun y h => by simp at h, fun y h => by simp at h⟩
  | x :: l => by
    obtain ⟨h1, h2⟩ := fro_spec p l
    unfold fro
    split
    · rename_i h
      refine ⟨fun y hy => ?_, fun y hy => h2 y (by simpa using hy)⟩
      rw [List.take_succ_cons] at hy
      rcases List.mem_cons.1 hy with rfl | hy
      · exact h
      · exact h1 y hy
    · rename_i h
      refine ⟨fun y hy => by simp at hy, fun y hy => ?_⟩
      simp at hy; subst hy; exact h
theorem fro_eq {α : Type} {p : α → Prop} {l : List α} {k : Nat} (h1 : ∀ j w, j < k → l[j]? = some w → p w) (h2 : ∀ w, l[k]? = some w → ¬ p w) (hk : k ≤ l.length) : fro p l = k := by
  obtain ⟨g1, g2⟩ := fro_spec p l
  have g3 := fro_le p l
  rcases Nat.lt_trichotomy (fro p l) k with h | h | h
  · exact absurd (h1 _ _ h (List.getElem?_eq_getElem (by omega))) (g2 _ (List.getElem?_eq_getElem (by omega)))
  · exact h
  · have hx : l[k]? = some l[k] := List.getElem?_eq_getElem (by omega)
    refine absurd (g1 l[k] ?_) (h2 _ hx)
    exact List.mem_of_getElem? (i := k) (by rw [List.getElem?_take, if_pos h]; exact hx)
/-- Behind those at the front that have p. -/
noncomputable def insF {α : Type} (p : α → Prop) (l : List α) (f : α) : List α := l.take (fro p l) ++ f :: l.drop (fro p l)
theorem insF_len {α : Type} (p : α → Prop) (l : List α) (f : α) : (insF p l f).length = l.length + 1 := (ins_perm l f _).symm.length_eq.trans (by simp)
theorem insF_eq {α : Type} {p : α → Prop} {l : List α} {f : α} {k : Int} (h0 : 0 ≤ k ∧ k ≤ l.length) (h1 : Up (fun j => ∀ w, l[j]? = some w → p w) k) (h2 : ∀ w, l[k.toNat]? = some w → ¬ p w) : insF p l f = l.take k.toNat ++ f :: l.drop k.toNat := by
  rw [insF, fro_eq (k := k.toNat) (fun j w hj hw => h1 j (by omega) w hw) h2 (by omega)]
theorem insF_pw {α : Type} {R : α → α → Prop} (tr : ∀ x y z, R x y → R y z → R x z) {l : List α} {f : α} (hs : l.Pairwise R) (hd : ∀ y ∈ l, R y f ∨ R f y) : (insF (fun w => R w f) l f).Pairwise R :=
  ins_pw tr hs hd (fro_spec _ l).1 (fro_spec _ l).2
end Go.Proofs.YtnfjhadaclcgeaaGreatDoor
namespace Go.Proofs.YtnfjhadaclcgeaaGreatDoor
open Go Go.RowKit Go.Sort Classical
set_option maxRecDepth 100000
set_option maxHeartbeats 2000000
set_option linter.unusedVariables false
set_option linter.unusedSimpArgs false
/-- What a sort leaves of a list whose members a strict order sets apart. -/
theorem strict_uniq {α : Type} {R : α → α → Prop} (tr : ∀ x y z, R x y → R y z → R x z) (ir : ∀ x, ¬ R x x) {m t : List α} (hp : m.Perm t) (ht : t.Pairwise R) (hm : m.Pairwise fun x y => ¬ R y x) : m = t := by
  refine sorted_uniq hp (fun x hx y hy h1 h2 => ?_) hm (ht.imp fun h1 h2 => ir _ (tr _ _ _ h1 h2))
  rcases pw_tri ht (hp.subset hx) (hp.subset hy) with h | h | h
  · exact h
  · exact absurd h h2
  · exact absurd h h1
end Go.Proofs.YtnfjhadaclcgeaaGreatDoor
