/- Aids: what makes them valid, lit, seen: plain. -/
import Derived.Test.YtlfnlgbojbgcnaaGreatDoorGcp
import Derived.Test.YtlfnlgbojbgcnaaGreatDoorGsi
import Derived.Test.YtlfnlgbojbgcnaaGreatDoorFlg
namespace Go.Proofs.YtlfnlgbojbgcnaaGreatDoor
open Go Go.RowKit Classical
set_option maxRecDepth 100000
set_option maxHeartbeats 2000000
set_option linter.unusedVariables false
set_option linter.unusedSimpArgs false
def mcols : List ByteArray := ["", "R", "G", "BY", "BYB", "YB", "YBY", "BRB", "RW", "Y"].map String.toUTF8
def mtops : List ByteArray := ["", "can", "cone", "up", "base", "down", "point", "balls", "ball", "cross"].map String.toUTF8
def mtexts : List ByteArray := ["", "can pillar spar", "cone pillar spar", "pillar spar", "pillar spar", "pillar spar", "pillar spar", "pillar spar", "sphere pillar spar", "can cone pillar spar sphere"].map String.toUTF8
def mshapes (k : Int) : List ByteArray := (if k = 1 then ["can", "pillar", "spar"] else if k = 2 then ["cone", "pillar", "spar"] else if k = 8 then ["sphere", "pillar", "spar"] else if k = 9 then ["can", "cone", "pillar", "spar", "sphere"] else ["pillar", "spar"]).map String.toUTF8
def MarkOk (k : Int) (c s t : ByteArray) : Prop := (k = 0 ∧ c = noS ∧ s = noS ∧ t = noS) ∨ ((1 ≤ k ∧ k ≤ 9) ∧ c = pickS k mcols ∧ s ∈ mshapes k ∧ (t = noS ∨ t = pickS k mtops))
def LitOk (k : Int) (g : List Int) (t c : ByteArray) (p : Int) (l : List Scr) (I : Int) : Prop := ChrOk k g t c p ∧ (1 ≤ I ∧ I ≤ 100000000) ∧ ScsOk l ∧ (l = [] → c.size = 1) ∧ (l ≠ [] → colsR l = c)
def UnlitOk (k : Int) (g : List Int) (t c : ByteArray) (p : Int) (l : List Scr) (I : Int) : Prop := (k = 0 ∧ g = [] ∧ t = noS ∧ c = noS ∧ p = 0) ∧ l = [] ∧ I = 0
def Aid.lit (v : Aid) : Prop := LitOk v.lKind v.lGroup v.lLetter v.lColors v.lPeriod v.sectors v.intensity
def Aid.unlit (v : Aid) : Prop := UnlitOk v.lKind v.lGroup v.lLetter v.lColors v.lPeriod v.sectors v.intensity
def Aid.ok (v : Aid) : Prop := (1 ≤ v.number ∧ v.number ≤ 9999) ∧ NameOk v.name ∧ PtOk v.atX v.atY ∧ (0 ≤ v.height ∧ v.height ≤ 3000) ∧ MarkOk v.mKind v.mColors v.mShape v.mTop ∧ (v.lit ∨ v.unlit)
theorem LitOk.kind {k : Int} {g : List Int} {t c : ByteArray} {p : Int} {l : List Scr} {I : Int} (h : LitOk k g t c p l I) : 1 ≤ k ∧ k ≤ 8 := h.1.2.1.kind
theorem Aid.lit_iff {v : Aid} (h : v.ok) : v.lit ↔ v.lKind ≠ 0 := by
  constructor
  · intro h1 h2
    have := LitOk.kind h1; omega
  · intro h1
    rcases h.2.2.2.2.2 with h2 | h2
    · exact h2
    · exact absurd h2.1.1 h1
noncomputable def Aid.col (v : Aid) (x y : Int) : ByteArray := if v.sectors = [] then v.lColors else colAt v.sectors (beaR v.atX v.atY x y)
def Aid.seen (v : Aid) (x y e s : Int) : Prop := v.lit ∧ ¬ (v.atX = x ∧ v.atY = y) ∧ distR v.atX v.atY x y ≤ rngR v.intensity v.height e s ∧ v.col x y ≠ noS
def Aid.C (l : List Aid) (j : Nat) : Prop := ∃ v, l[j]? = some v ∧ v.ok ∧ (0 < j → ∃ w, l[j - 1]? = some w ∧ w.number < v.number)
def AidsOk (l : List Aid) : Prop := (∀ j, j < l.length → Aid.C l j) ∧ l.length ≤ 24
theorem AidsOk.mem {l : List Aid} (h : AidsOk l) {v : Aid} (hv : v ∈ l) : v.ok := by
  obtain ⟨j, hj⟩ := List.getElem?_of_mem hv
  obtain ⟨v', h1, h2, _⟩ := h.1 j (List.getElem?_eq_some_iff.1 hj).1
  rw [hj] at h1; cases h1; exact h2
theorem AidsOk.inc {l : List Aid} (h : AidsOk l) {i : Nat} {s : Aid} (hs : l[i]? = some s) : ∀ (k : Nat) u, i < k → l[k]? = some u → s.number < u.number
  | 0, _, hik, _ => absurd hik (by omega)
  | k + 1, u, hik, hu => by
    obtain ⟨u', h1, _, h3⟩ := h.1 (k + 1) (List.getElem?_eq_some_iff.1 hu).1
    rw [hu] at h1; cases h1
    obtain ⟨p, h4, h5⟩ := h3 (by omega)
    rw [Nat.add_sub_cancel] at h4
    by_cases e : i = k
    · subst e; rw [hs] at h4; cases h4; exact h5
    · have := AidsOk.inc h hs k p (by omega) h4; omega
/-- Those that an observer sees. -/
noncomputable def seenL (l : List Aid) (x y e s : Int) : List Aid := l.filter fun v => bP (v.seen x y e s)
theorem seenL_len (l : List Aid) (x y e s : Int) : (seenL l x y e s).length ≤ l.length := List.length_filter_le _ _
theorem mk9 {p : Int → Prop} (h1 : p 1) (h2 : p 2) (h3 : p 3) (h4 : p 4) (h5 : p 5) (h6 : p 6) (h7 : p 7) (h8 : p 8) (h9 : p 9) {k : Int} (h : 1 ≤ k ∧ k ≤ 9) : p k := by
  have : k = 1 ∨ k = 2 ∨ k = 3 ∨ k = 4 ∨ k = 5 ∨ k = 6 ∨ k = 7 ∨ k = 8 ∨ k = 9 := by omega
  rcases this with rfl | rfl | rfl | rfl | rfl | rfl | rfl | rfl | rfl <;> assumption
theorem shapes_fields {k : Int} (h : 1 ≤ k ∧ k ≤ 9) : fieldsOf (pickS k mtexts) = mshapes k := by
  refine mk9 (p := fun k => fieldsOf (pickS k mtexts) = mshapes k) ?_ ?_ ?_ ?_ ?_ ?_ ?_ ?_ ?_ h <;> decide +kernel
theorem mtexts_ok {k : Int} (h : 1 ≤ k ∧ k ≤ 9) : (pickS k mtexts).size < 4294967281 ∧ (∀ b ∈ (pickS k mtexts).data.toList, b.toNat < 128) ∧ (mshapes k).length ≤ 5 ∧ ∀ x ∈ mshapes k, x.size ≤ 6 := by
  refine mk9 (p := fun k => (pickS k mtexts).size < 4294967281 ∧ (∀ b ∈ (pickS k mtexts).data.toList, b.toNat < 128) ∧ (mshapes k).length ≤ 5 ∧ ∀ x ∈ mshapes k, x.size ≤ 6) ?_ ?_ ?_ ?_ ?_ ?_ ?_ ?_ ?_ h <;> decide +kernel
theorem mshapes_pos {k : Int} (h : 1 ≤ k ∧ k ≤ 9) : 1 ≤ (mshapes k).length := by
  refine mk9 (p := fun k => 1 ≤ (mshapes k).length) ?_ ?_ ?_ ?_ ?_ ?_ ?_ ?_ ?_ h <;> decide +kernel
end Go.Proofs.YtlfnlgbojbgcnaaGreatDoor
