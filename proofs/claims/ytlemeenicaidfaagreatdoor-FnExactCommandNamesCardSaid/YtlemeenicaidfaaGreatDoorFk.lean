/- Contracts: lists of lists of integers; the greatest delay. -/
import Derived.Test.YtlemeenicaidfaaGreatDoorFh
namespace Go.Proofs.YtlemeenicaidfaaGreatDoor
open Go Go.RowKit Classical
set_option maxRecDepth 100000
set_option maxHeartbeats 2000000
set_option linter.unusedVariables false
set_option linter.unusedSimpArgs false
def llR (b : Bool) (x : List Int) : List AV := [.sl b 1 (x.map intR)]
theorem NoB.lls (l : List (List Int)) : NoB (.sl true 1 (l.map (llR true))) := .rows fun v => .aggC (.ints _) .agg0
theorem idxLL [St] {E : Env} {np : Nat} {P : Program} [hE : SE E np P] {es : List (List AV)} {i : Int} {K : List AV → Prop} {l : List (List Int)} {b : Bool} (hl : es = l.map (llR b)) (h0 : 0 ≤ i ∧ i < l.length) (hk : ∀ x rx, l[i.toNat]? = some x → rx = x.map intR → K [.sl b 1 rx]) : E.idx es i K :=
  idxL hl h0 fun v hv => hk v _ hv rfl
theorem idxLV [St] {E : Env} {np : Nat} {P : Program} [hE : SE E np P] {es rx : List (List AV)} {i : Int} {K : List AV → Prop} {l : List (List Int)} {b : Bool} {x : List Int} (hl : es = l.map (llR b)) (h0 : 0 ≤ i) (hx : l[i.toNat]? = some x) (hr : rx = x.map intR) (hk : K [.sl b 1 rx]) : E.idx es i K :=
  idxV hl h0 hx (by rw [llR, ← hr]; exact hk)
def szLs : List (List Int) → Int → Int
  | [], n => n
  | x :: l, n => if szN n x.length < 0 then -1 else szLs l (szN n x.length)
theorem szLs_drop {l : List (List Int)} {i : Nat} {x : List Int} (h : l[i]? = some x) (n : Int) : szLs (l.drop i) n = if szN n x.length < 0 then -1 else szLs (l.drop (i + 1)) (szN n x.length) := by
  have hi := (List.getElem?_eq_some_iff.1 h).1
  rw [List.drop_eq_getElem_cons hi, szLs, (List.getElem?_eq_some_iff.1 h).2]
theorem szN_max (n : Int) (k : Nat) : szN n k ≤ max (-1) n ∧ (¬ szN n k < 0 → (k : Int) ≤ n) := by unfold szN; split <;> omega
theorem szLs_all : ∀ {l : List (List Int)} {n : Int}, 0 ≤ n → ¬ szLs l n < 0 → ∀ x ∈ l, (x.length : Int) ≤ n
  | [], _, _, _, x, hx => by simp at hx
  | y :: l, n, h0, h, x, hx => by
    unfold szLs at h
    have := szN_max n y.length
    split at h
    · omega
    · rename_i h2
      rcases List.mem_cons.1 hx with rfl | hx
      · exact this.2 h2
      · have := szLs_all (by omega) h x hx; omega
end Go.Proofs.YtlemeenicaidfaaGreatDoor
