/- Contracts: the flat types of an authority: marks, sectors, dangers, observers, ships, works. -/
import Derived.Test.YthiecdiiindegaaGreatDoorFnm
namespace Go.Proofs.YthiecdiiindegaaGreatDoor
open Go Go.RowKit Classical
set_option maxRecDepth 100000
set_option maxHeartbeats 2000000
set_option linter.unusedVariables false
set_option linter.unusedSimpArgs false
theorem szN_or2 {n y : Int} {k : Nat} (h : y = szN n k) : y = -1 ∧ n < k ∨ y = n - k ∧ k ≤ n := by
  have := szN_or n k
  omega
theorem sum_get {α : Type} (f : α → Nat) {l : List α} {n : Nat} {v : α} (h : l[n]? = some v) : f v ≤ (l.map f).sum := sum_ge f (List.mem_of_getElem? h)
structure Mrk where
  kind : Int
  colors : ByteArray
  shape : ByteArray
  top : ByteArray
def Mrk.cs (v : Mrk) : List AV := [.int .i64 v.kind, .str v.colors, .str v.shape, .str v.top]
theorem NoB.oMrk (v : Mrk) : NoB (.agg v.cs) := (.aggC (.int _ _) (.aggC (.str _) (.aggC (.str _) (.aggC (.str _) .agg0))))
theorem Mrk.nown (l : List Mrk) : ∀ e ∈ l.map Mrk.cs, ∀ c ∈ e, c.isOwn = false := fun e he c hc => by
  obtain ⟨v, _, rfl⟩ := List.mem_map.1 he
  simp only [Mrk.cs, List.mem_cons, List.not_mem_nil, or_false] at hc
  rcases hc with rfl | rfl | rfl | rfl <;> rfl
def Mrk.sz (v : Mrk) : Nat := v.colors.size + v.shape.size + v.top.size
def Mrk.mk' (k : Int) : Mrk := ⟨k + 0, mText (k + 1), mText (k + 2), mText (k + 3)⟩
def Mrk.mks (n : Nat) (k : Int) : List Mrk := (List.range n).map fun i : Nat => Mrk.mk' (k + 4 * (i : Int))
theorem Mrk.mks_len (n : Nat) (k : Int) : (Mrk.mks n k).length = n := by simp [Mrk.mks]
theorem Mrk.mks_get {n : Nat} {k i : Int} {v : Mrk} (h0 : 0 ≤ i) (h : (Mrk.mks n k)[i.toNat]? = some v) : v = Mrk.mk' (k + 4 * i) := by
  unfold Mrk.mks at h
  rw [List.getElem?_map] at h
  by_cases hi : i.toNat < n
  · rw [List.getElem?_range hi] at h
    simp only [Option.map_some, Option.some.injEq] at h
    rw [← h, Int.toNat_of_nonneg h0]
  · rw [List.getElem?_eq_none (by simpa using Nat.le_of_not_lt hi)] at h; cases h
structure Scr where
  frm : Int
  til : Int
  color : ByteArray
def Scr.cs (v : Scr) : List AV := [.int .i64 v.frm, .int .i64 v.til, .str v.color]
theorem NoB.oScr (v : Scr) : NoB (.agg v.cs) := (.aggC (.int _ _) (.aggC (.int _ _) (.aggC (.str _) .agg0)))
theorem Scr.nown (l : List Scr) : ∀ e ∈ l.map Scr.cs, ∀ c ∈ e, c.isOwn = false := fun e he c hc => by
  obtain ⟨v, _, rfl⟩ := List.mem_map.1 he
  simp only [Scr.cs, List.mem_cons, List.not_mem_nil, or_false] at hc
  rcases hc with rfl | rfl | rfl <;> rfl
def Scr.sz (v : Scr) : Nat := v.color.size
def Scr.mk' (k : Int) : Scr := ⟨k + 0, k + 1, mText (k + 2)⟩
def Scr.mks (n : Nat) (k : Int) : List Scr := (List.range n).map fun i : Nat => Scr.mk' (k + 3 * (i : Int))
theorem Scr.mks_len (n : Nat) (k : Int) : (Scr.mks n k).length = n := by simp [Scr.mks]
theorem Scr.mks_get {n : Nat} {k i : Int} {v : Scr} (h0 : 0 ≤ i) (h : (Scr.mks n k)[i.toNat]? = some v) : v = Scr.mk' (k + 3 * i) := by
  unfold Scr.mks at h
  rw [List.getElem?_map] at h
  by_cases hi : i.toNat < n
  · rw [List.getElem?_range hi] at h
    simp only [Option.map_some, Option.some.injEq] at h
    rw [← h, Int.toNat_of_nonneg h0]
  · rw [List.getElem?_eq_none (by simpa using Nat.le_of_not_lt hi)] at h; cases h
structure Dgr where
  name : ByteArray
  atX : Int
  atY : Int
  radius : Int
def Dgr.cs (v : Dgr) : List AV := [.str v.name, .int .i64 v.atX, .int .i64 v.atY, .int .i64 v.radius]
theorem NoB.oDgr (v : Dgr) : NoB (.agg v.cs) := (.aggC (.str _) (.aggC (.int _ _) (.aggC (.int _ _) (.aggC (.int _ _) .agg0))))
theorem Dgr.nown (l : List Dgr) : ∀ e ∈ l.map Dgr.cs, ∀ c ∈ e, c.isOwn = false := fun e he c hc => by
  obtain ⟨v, _, rfl⟩ := List.mem_map.1 he
  simp only [Dgr.cs, List.mem_cons, List.not_mem_nil, or_false] at hc
  rcases hc with rfl | rfl | rfl | rfl <;> rfl
def Dgr.sz (v : Dgr) : Nat := v.name.size
def Dgr.mk' (k : Int) : Dgr := ⟨mText (k + 0), k + 1, k + 2, k + 3⟩
def Dgr.mks (n : Nat) (k : Int) : List Dgr := (List.range n).map fun i : Nat => Dgr.mk' (k + 4 * (i : Int))
theorem Dgr.mks_len (n : Nat) (k : Int) : (Dgr.mks n k).length = n := by simp [Dgr.mks]
theorem Dgr.mks_get {n : Nat} {k i : Int} {v : Dgr} (h0 : 0 ≤ i) (h : (Dgr.mks n k)[i.toNat]? = some v) : v = Dgr.mk' (k + 4 * i) := by
  unfold Dgr.mks at h
  rw [List.getElem?_map] at h
  by_cases hi : i.toNat < n
  · rw [List.getElem?_range hi] at h
    simp only [Option.map_some, Option.some.injEq] at h
    rw [← h, Int.toNat_of_nonneg h0]
  · rw [List.getElem?_eq_none (by simpa using Nat.le_of_not_lt hi)] at h; cases h
structure Obv where
  atX : Int
  atY : Int
  eye : Int
  vis : Int
def Obv.cs (v : Obv) : List AV := [.int .i64 v.atX, .int .i64 v.atY, .int .i64 v.eye, .int .i64 v.vis]
theorem NoB.oObv (v : Obv) : NoB (.agg v.cs) := (.aggC (.int _ _) (.aggC (.int _ _) (.aggC (.int _ _) (.aggC (.int _ _) .agg0))))
theorem Obv.nown (l : List Obv) : ∀ e ∈ l.map Obv.cs, ∀ c ∈ e, c.isOwn = false := fun e he c hc => by
  obtain ⟨v, _, rfl⟩ := List.mem_map.1 he
  simp only [Obv.cs, List.mem_cons, List.not_mem_nil, or_false] at hc
  rcases hc with rfl | rfl | rfl | rfl <;> rfl
def Obv.mk' (k : Int) : Obv := ⟨k + 0, k + 1, k + 2, k + 3⟩
def Obv.mks (n : Nat) (k : Int) : List Obv := (List.range n).map fun i : Nat => Obv.mk' (k + 4 * (i : Int))
theorem Obv.mks_len (n : Nat) (k : Int) : (Obv.mks n k).length = n := by simp [Obv.mks]
theorem Obv.mks_get {n : Nat} {k i : Int} {v : Obv} (h0 : 0 ≤ i) (h : (Obv.mks n k)[i.toNat]? = some v) : v = Obv.mk' (k + 4 * i) := by
  unfold Obv.mks at h
  rw [List.getElem?_map] at h
  by_cases hi : i.toNat < n
  · rw [List.getElem?_range hi] at h
    simp only [Option.map_some, Option.some.injEq] at h
    rw [← h, Int.toNat_of_nonneg h0]
  · rw [List.getElem?_eq_none (by simpa using Nat.le_of_not_lt hi)] at h; cases h
structure Shp where
  name : ByteArray
  speed : Int
  load : Int
  draught : Int
def Shp.cs (v : Shp) : List AV := [.str v.name, .int .i64 v.speed, .int .i64 v.load, .int .i64 v.draught]
theorem NoB.oShp (v : Shp) : NoB (.agg v.cs) := (.aggC (.str _) (.aggC (.int _ _) (.aggC (.int _ _) (.aggC (.int _ _) .agg0))))
theorem Shp.nown (l : List Shp) : ∀ e ∈ l.map Shp.cs, ∀ c ∈ e, c.isOwn = false := fun e he c hc => by
  obtain ⟨v, _, rfl⟩ := List.mem_map.1 he
  simp only [Shp.cs, List.mem_cons, List.not_mem_nil, or_false] at hc
  rcases hc with rfl | rfl | rfl | rfl <;> rfl
def Shp.sz (v : Shp) : Nat := v.name.size
def Shp.mk' (k : Int) : Shp := ⟨mText (k + 0), k + 1, k + 2, k + 3⟩
def Shp.mks (n : Nat) (k : Int) : List Shp := (List.range n).map fun i : Nat => Shp.mk' (k + 4 * (i : Int))
theorem Shp.mks_len (n : Nat) (k : Int) : (Shp.mks n k).length = n := by simp [Shp.mks]
theorem Shp.mks_get {n : Nat} {k i : Int} {v : Shp} (h0 : 0 ≤ i) (h : (Shp.mks n k)[i.toNat]? = some v) : v = Shp.mk' (k + 4 * i) := by
  unfold Shp.mks at h
  rw [List.getElem?_map] at h
  by_cases hi : i.toNat < n
  · rw [List.getElem?_range hi] at h
    simp only [Option.map_some, Option.some.injEq] at h
    rw [← h, Int.toNat_of_nonneg h0]
  · rw [List.getElem?_eq_none (by simpa using Nat.le_of_not_lt hi)] at h; cases h
structure Wrk where
  name : ByteArray
  atX : Int
  atY : Int
  load : Int
  minutes : Int
  frm : Int
  til : Int
def Wrk.cs (v : Wrk) : List AV := [.str v.name, .int .i64 v.atX, .int .i64 v.atY, .int .i64 v.load, .int .i64 v.minutes, .int .i64 v.frm, .int .i64 v.til]
theorem NoB.oWrk (v : Wrk) : NoB (.agg v.cs) := (.aggC (.str _) (.aggC (.int _ _) (.aggC (.int _ _) (.aggC (.int _ _) (.aggC (.int _ _) (.aggC (.int _ _) (.aggC (.int _ _) .agg0)))))))
theorem Wrk.nown (l : List Wrk) : ∀ e ∈ l.map Wrk.cs, ∀ c ∈ e, c.isOwn = false := fun e he c hc => by
  obtain ⟨v, _, rfl⟩ := List.mem_map.1 he
  simp only [Wrk.cs, List.mem_cons, List.not_mem_nil, or_false] at hc
  rcases hc with rfl | rfl | rfl | rfl | rfl | rfl | rfl <;> rfl
def Wrk.sz (v : Wrk) : Nat := v.name.size
def Wrk.mk' (k : Int) : Wrk := ⟨mText (k + 0), k + 1, k + 2, k + 3, k + 4, k + 5, k + 6⟩
def Wrk.mks (n : Nat) (k : Int) : List Wrk := (List.range n).map fun i : Nat => Wrk.mk' (k + 7 * (i : Int))
theorem Wrk.mks_len (n : Nat) (k : Int) : (Wrk.mks n k).length = n := by simp [Wrk.mks]
theorem Wrk.mks_get {n : Nat} {k i : Int} {v : Wrk} (h0 : 0 ≤ i) (h : (Wrk.mks n k)[i.toNat]? = some v) : v = Wrk.mk' (k + 7 * i) := by
  unfold Wrk.mks at h
  rw [List.getElem?_map] at h
  by_cases hi : i.toNat < n
  · rw [List.getElem?_range hi] at h
    simp only [Option.map_some, Option.some.injEq] at h
    rw [← h, Int.toNat_of_nonneg h0]
  · rw [List.getElem?_eq_none (by simpa using Nat.le_of_not_lt hi)] at h; cases h
end Go.Proofs.YthiecdiiindegaaGreatDoor
