/- The shelf's contract of slices.SortFunc over structs, as a contract of the interpreter. -/
import Derived.Test.YtnfjhadaclcgeaaGreatDoorAxSortG
import Derived.Shelf.SlSortCmp.NoneTotal
namespace Go.Proofs.YtnfjhadaclcgeaaGreatDoor
set_option linter.unusedVariables false
set_option linter.unusedSimpArgs false
open Go Go.RowKit Go.Sort Go.Shelf
section
variable {β : Type} (R : β → List AV)
theorem ACM.sort {P : Program} {ρ : Ren} (L : SlLaysF0.n6 P ρ) {k : Nat} (aE : ∀ w, (isAgg (ρ.t 24)).run P w = .ok true w) (zE : ∀ w, (Go.sizeOf (ρ.t 24)).run P w = .ok k w) (hent : Enters P (ρ.f 6)) (hlen : ∀ x, (R x).length = k) (hfl : ∀ x, ∀ a ∈ R x, a.flat = true)
  {g : FuncId} {caps : List AV} {cf : β → β → Int} (hO : SWO (ltOf cf)) (hp : ∀ x y, AC P g (.agg (R x) :: .agg (R y) :: caps) (AV.int .i64) (cf x y)) {rs : List (List AV)} {l : List β} (hl : rs = l.map R) (hbl : l.length ≤ 1048576) :
  ACM P (ρ.f 6) [.sl true k rs, .fn g caps] (fun r ys => ∃ (m : List β) (rs' : List (List AV)), m.Perm l ∧ (∀ (i j : Nat) x y, i < j → m[i]? = some x → m[j]? = some y → ¬ cf y x < 0) ∧ rs' = m.map R ∧ r = .tup [] ∧ ys = [.sl true k rs', .any]) := by
 refine ⟨hent, fun w A vs F hg hX hA hFs hNG => ?_⟩
 subst hl
 cases hX with
 | pure _ _ _ _ ho _ => simp [AV.isOwn] at ho
 | tup _ _ _ G hn hc hFe hd =>
  obtain ⟨v0, v1, rfl⟩ : ∃ v0 v1, vs = #[v0, v1] := by
   match vs, hn with
   | ⟨[a, b]⟩, _ => exact ⟨a, b, rfl⟩
  have h0 : XRel w A (.sl true k (l.map R)) v0 (G 0) := hc 0 _ rfl
  have h1 : XRel w A (.fn g caps) v1 (G 1) := hc 1 _ rfl
  cases h1 with
  | pure _ _ _ hr _ hG1 =>
   cases hr with
   | fn _ _ cvs hcn hcc =>
    have fin : ∀ (w' : World) (m : List β), m.Perm l → (∀ (i j : Nat) x y, i < j → m[i]? = some x → m[j]? = some y → ¬ cf y x < 0) → (∃ G', XRel w' (fun _ => False) (.sl true k (m.map R)) v0 G' ∧ ∀ b, G' b → F b) →
      ∃ G r args', (∃ (m : List β) (rs' : List (List AV)), m.Perm l ∧ (∀ (i j : Nat) x y, i < j → m[i]? = some x → m[j]? = some y → ¬ cf y x < 0) ∧ rs' = m.map R ∧ r = AV.tup [] ∧ args' = [.sl true k rs', .any]) ∧ XRel w' (fun _ => False) (.tup (r :: args')) (.tuple (#[.tuple #[]] ++ #[v0, .func (.func g) #[] cvs])) G ∧ ∀ b, G b → F b ∨ w.heap.size ≤ b ∧ b < w'.heap.size := fun w' m hm hs ⟨G', hx, hG'⟩ => by
     refine ⟨G', .tup [], [.sl true k (m.map R), .any], ⟨m, _, hm, hs, rfl, rfl, rfl⟩, ?_, fun b hb => .inl (hG' b hb)⟩
     refine .tup _ _ _ (fun i x => i = 1 ∧ G' x) (by simp) (fun i a ha => ?_) (fun x => ⟨fun h => ⟨1, by simp, rfl, h⟩, fun ⟨i, _, _, h⟩ => h⟩) (fun i j x _ _ h1 h2 => by rw [h1.1, h2.1])
     match i, ha with
     | 0, ha =>
      simp at ha; subst ha
      exact .tup [] #[] _ (fun _ _ => False) rfl (fun i a h => by simp at h) (fun x => ⟨fun h => absurd h.1 (by decide), fun ⟨_, h, _⟩ => by simp at h⟩) (fun _ _ _ h => by simp at h)
     | 1, ha =>
      simp at ha; subst ha
      exact hx.congr (fun x => ⟨fun h => h.2, fun h => ⟨rfl, h⟩⟩)
     | 2, ha =>
      simp at ha; subst ha
      exact .pure _ _ _ (.any _) rfl (fun x h => absurd h.1 (by decide))
     | n + 3, ha => simp at ha
    have hF0 : ∀ b, G 0 b → F b := fun b hb => (hFe b).2 ⟨0, by simp, hb⟩
    by_cases hne : l = []
    ·subst hne
     obtain ⟨p, cap, rfl⟩ : ∃ p cap, v0 = .slice p 0 cap := by
      cases h0 with
      | pure _ _ _ _ ho _ => simp [AV.isOwn] at ho
      | nil => exact ⟨none, 0, rfl⟩
      | sl _ _ cap b => exact ⟨_, cap, rfl⟩
     refine (AnyF.slices_SortFunc_none L p cap _ w).mono ?_
     rintro e w' ⟨rfl, rfl⟩
     obtain ⟨G2, r, ys, q1, q2, q3⟩ := fin _ [] (.refl _) (by simp) ⟨_, h0.noB (flat_rows R hfl []), hF0⟩
     exact ⟨_, G2, r, ys, q1, rfl, Keeps.refl _ _, q2, q3⟩
    ·obtain ⟨es, hes⟩ : ∃ es, es = l.map R := ⟨_, rfl⟩
     rw [← hes] at h0
     cases h0 with
     | pure _ _ _ _ ho _ => simp [AV.isOwn] at ho
     | nil => exact (hne (List.map_eq_nil_iff.1 hes.symm)).elim
     | sl _ _ cap b T c _ G3 hb hl hcap hsz hk h1c hr hGF h00 hdd =>
      have hblk : b < w.heap.size := by
       rcases Nat.lt_or_ge b w.heap.size with h | h
       ·exact h
       ·rw [Array.getElem?_eq_none h] at hb; cases hb
      have hcellv : ∀ (i j : Nat) x a, l[i]? = some x → (R x)[j]? = some a → c.getD (i * k + j) undef = a.val ∧ a.fits := fun i j x a hx ha =>
       (hr i j (R x) a (by rw [hes, List.getElem?_map, hx]; rfl) ha).flat_val (hfl x a (List.mem_of_getElem? ha))
      have hfit : ∀ x ∈ l, okB R x := fun x hx a ha => by
       obtain ⟨i, hi⟩ := List.getElem?_of_mem hx
       obtain ⟨j, hj⟩ := List.getElem?_of_mem ha
       exact (hcellv i j x a hi hj).2
      obtain ⟨x0, hx0⟩ := List.exists_mem_of_ne_nil l hne
      haveI : Inhabited {x : β // okB R x} := ⟨⟨x0, hfit x0 hx0⟩⟩
      obtain ⟨la, hla0⟩ : ∃ la, la = l.attach.map fun x => (⟨x.1, hfit x.1 x.2⟩ : {x : β // okB R x}) := ⟨_, rfl⟩
      have hla : la.map (fun x => x.1) = l := by rw [hla0]; exact attach_map R hfit
      have hlal : la.length = l.length := by rw [← hla]; simp
      have hesl : es.length = l.length := by rw [hes, List.length_map]
      rw [hesl] at hl hcap
      have hGb : G 0 b := (hGF b).2 (.inl rfl)
      have hds : la.toArray.size = l.length := by simpa using hlal
      have hckk : l.length * k ≤ c.size := Nat.le_trans (Nat.mul_le_mul_right k hcap) hsz
      have hget : ∀ i, i < l.length → l[i]? = some (la.toArray[i]!).1 := fun i hi => by
       have h1 : la[i]? = some la.toArray[i]! := by
        rw [getElem!_pos la.toArray i (by omega)]
        simp
       have h2 := congrArg (fun o => o.map fun x : {x : β // okB R x} => x.1) h1
       rw [← List.getElem?_map, hla] at h2
       exact h2
      have hH : HoldsK (encB R) k w b 0 la.toArray := fun j hj => by
       rw [size_flatK, hds] at hj
       have hk0 : 0 < k := by
        rcases Nat.eq_zero_or_pos k with h | h
        ·subst h; simp at hj
        ·exact h
       have hi : j / k < l.length := Nat.div_lt_of_lt_mul (by rw [Nat.mul_comm]; exact hj)
       have hx := hget _ hi
       have hjj : j % k < (R (la.toArray[j / k]!).1).length := by rw [hlen]; exact Nat.mod_lt _ hk0
       obtain ⟨e1, _⟩ := hcellv _ _ _ _ hx (List.getElem?_eq_getElem hjj)
       have e2 : j / k * k + j % k = j := by rw [Nat.mul_comm]; exact Nat.div_add_mod j k
       rw [e2] at e1
       have hjc : j < c.size := Nat.lt_of_lt_of_le hj hckk
       refine ⟨?_, ?_⟩
       ·rw [get_flatK _ _ _ _ (by rw [hds]; exact hj)]
        show _ = some ((R (la.toArray[j / k]!).1).map AV.val)[j % k]!
        rw [getD_val (List.getElem?_eq_getElem hjj), ← e1]
        simp [World.cell?, hb, Array.getD, hjc]
       ·simp [World.frozen?, hb]
      have hcmp : CmpLays P g cvs (encB R) k (fun x y => cf x.1 y.1) b 0 la.toArray.size w := fun m os dk hdk x y => by
       have hkp := sortW_keeps R (F := fun z => z = b) (k := k) (n := m) (d := dk) (os := os) rfl hblk rfl
       generalize sortWorldK (encB R) k w b 0 m dk os = W at *
       have hrel : RelL W (fun z => z < W.heap.size) (.agg (R x.1) :: .agg (R y.1) :: caps) (#[.agg (encB R x).toArray, .agg (encB R y).toArray] ++ cvs) := by
        have hagg : ∀ z : {x : β // okB R x}, Rel W (fun z => z < W.heap.size) (.agg (R z.1)) (.agg (encB R z).toArray) := fun z => .agg _ _ (by simp [encB]) fun i a ha => by
         have : (encB R z).toArray.getD i undef = a.val := by
          unfold encB
          rw [Array.getD_eq_getD_getElem?, List.getElem?_toArray, List.getElem?_map, ha]; rfl
         rw [this]
         exact AV.fits_rel (z.2 a (List.mem_of_getElem? ha))
        refine ⟨by simp [hcn]; omega, fun i a ha => ?_⟩
        match i, ha with
        | 0, ha => simp at ha; subst ha; rw [(app2 _ _ _).1]; exact hagg x
        | 1, ha => simp at ha; subst ha; rw [(app2 _ _ _).2.1]; exact hagg y
        | i + 2, ha =>
         simp only [List.getElem?_cons_succ] at ha
         have h5 := hcc i a ha
         rw [(app2 _ _ _).2.2]
         exact h5.mono (fun z hz => hkp.block z (hA z hz).1 (fun e => (hA z hz).2 (e ▸ hF0 b hGb))) (fun z hz => Nat.lt_of_lt_of_le (hA z hz).1 hkp.size)
       refine ((hp x.1 y.1).2 W _ (hg.keeps hkp fun z hz => hNG z (hz ▸ hF0 b hGb)) hrel).mono ?_
       rintro e w' ⟨v, F', rfl, hk', hx', _⟩
       cases hx' with
       | pure _ _ _ h _ _ => cases h; exact ⟨rfl, grow_of_keeps hk'⟩
      rw [show es.length = la.toArray.size by omega] at fin ⊢
      refine (AnyQ.slices_SortFunc L k aE zE (encB R) (fun x => by simp [encB, hlen]) (fun x v hv => by
       obtain ⟨a, ha, rfl⟩ := List.mem_map.1 hv
       exact AV.fits_one (x.2 a ha)) (fun x y => cf x.1 y.1) ⟨fun x => hO.irrefl x.1, fun x y z => hO.trans x.1 y.1 z.1, fun x y z => hO.ntrans x.1 y.1 z.1⟩ g cvs b 0 cap la.toArray w (hp x0 x0).1 hcmp hH hblk (by omega)).mono ?_
      rintro e w' ⟨rfl, d', n, os, hp1, hp2, hw'⟩
      have hd's : d'.size = l.length := hp1.1.trans hds
      have hperm : (d'.toList.map fun x => x.1).Perm l := by
       have h5 := hp1.2.2
       rw [Array.extract_eq_self_of_le (by omega), Array.extract_eq_self_of_le (by omega)] at h5
       have := h5.map (fun x : {x : β // okB R x} => x.1)
       rwa [List.toList_toArray, hla] at this
      have hsorted : ∀ (i j : Nat) x y, i < j → (d'.toList.map fun x => x.1)[i]? = some x → (d'.toList.map fun x => x.1)[j]? = some y → ¬ cf y x < 0 := fun i j x y hij hx hy => by
       rw [List.getElem?_map] at hx hy
       have hj : j < d'.size := by
        rcases Nat.lt_or_ge j d'.size with h | h
        ·exact h
        ·rw [List.getElem?_eq_none (by simpa using h)] at hy; cases hy
       have hi : i < d'.size := by omega
       have h5 := hp2 i j (Nat.zero_le _) hij (by omega)
       rw [getElem!_pos d' i hi, getElem!_pos d' j hj] at h5
       simp only [Array.getElem?_toList, Array.getElem?_eq_getElem hi, Array.getElem?_eq_getElem hj, Option.map_some, Option.some.injEq] at hx hy
       subst hx hy
       exact of_decide_eq_false h5
      have hrow := sort_row R (A' := fun _ => False) (k := k) (cap := cap) hlen d' hb (by omega) hsz (by omega) n os hw'
      obtain ⟨G2, r, ys, q1, q2, q3⟩ := fin w' _ hperm hsorted ⟨_, by rw [List.map_map, ← hp1.1]; exact hrow, fun z (hz : z = b) => hz ▸ hF0 b hGb⟩
      exact ⟨_, G2, r, ys, q1, rfl, sortW_keeps R (hF0 b hGb) hblk hw', q2, q3⟩
end
theorem swo_of {β : Type} {cf : β → β → Int} (h1 : ∀ x, ¬ cf x x < 0) (h2 : ∀ x y z, cf x y < 0 → cf y z < 0 → cf x z < 0) (h3 : ∀ x y z, ¬ cf x y < 0 → ¬ cf y z < 0 → ¬ cf x z < 0) : SWO (ltOf cf) :=
  ⟨fun x => decide_eq_false (h1 x), fun x y z a b => decide_eq_true (h2 x y z (of_decide_eq_true a) (of_decide_eq_true b)), fun x y z a b => decide_eq_false (h3 x y z (of_decide_eq_false a) (of_decide_eq_false b))⟩
end Go.Proofs.YtnfjhadaclcgeaaGreatDoor
