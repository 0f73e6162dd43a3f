/- What the rows' condition gives: the tables. -/
import Derived.Test.YtlemeenicaidfaaGreatDoorAxA
import Derived.Test.YtlemeenicaidfaaGreatDoorRows
import Derived.MakeChecks
import Derived.Stop.LaidErr
namespace Go.Proofs.YtlemeenicaidfaaGreatDoor
open Go
set_option maxRecDepth 100000
theorem laid_tail {P : Program} {x : String × DataW Unit} {rest : List (String × DataW Unit)} {W : World} (h : laidMet P (x :: rest) W) : laidMet P rest W := by
  obtain ⟨ps, ⟨g', t', cs, fuel, p, q, _, _, _, _, hq, rfl⟩, hn, hc⟩ := h
  exact ⟨q, hq, (List.nodup_append.1 hn).2.1, fun b off hb => hc b off (List.mem_append_right _ hb)⟩
theorem GOK.all {w : World} (h : GOK w) : Lib.TabIs Tryz.prog w "strings.asciiSpace" .u8 Lib.asciiSpaceTab ∧ Lib.TabIs Tryz.prog w "internal/strconv.uint64pow10" .u64 Lib.pow10Tab ∧ (∃ te pe, w.cell? ⟨1, 0, none⟩ = some (.iface te pe)) ∧ (∃ m, w.cell? ⟨0, 0, none⟩ = some (.int .i64 m)) :=
  h.gf w fun _ hg => (if_pos hg).symm
theorem GOK.tabs {w : World} (h : GOK w) : Lib.TabIs Tryz.prog w "strings.asciiSpace" .u8 Lib.asciiSpaceTab := h.all.1
theorem GOK.pow10 {w : World} (h : GOK w) : Lib.TabIs Tryz.prog w "internal/strconv.uint64pow10" .u64 Lib.pow10Tab := h.all.2.1
theorem GOK.errSyntax {w : World} (h : GOK w) : (∃ te pe, w.cell? ⟨1, 0, none⟩ = some (.iface te pe)) := h.all.2.2.1
theorem GOK.maxLen {w : World} (h : GOK w) : (∃ m, w.cell? ⟨0, 0, none⟩ = some (.int .i64 m)) := h.all.2.2.2
theorem cell_stays {W w : World} {g : Nat} (hw : w.heap[g]? = W.heap[g]?) (o : Nat) : w.cell? ⟨g, o, none⟩ = W.cell? ⟨g, o, none⟩ := by
  unfold World.cell?
  rw [hw]
theorem cell_lt {W : World} {g o : Nat} {v : Value} (h : W.cell? ⟨g, o, none⟩ = some v) : g < W.heap.size := by
  rcases Nat.lt_or_ge g W.heap.size with h' | h'
  · exact h'
  · unfold World.cell? at h
    rw [Array.getElem?_eq_none h'] at h
    simp at h
theorem glob_3 : Tryz.prog.globalNamed "strings.asciiSpace" = some 3 := by kernel_rfl
theorem tab_3 {W : World} (h : laidMet Tryz.prog Rows.fnExactCommandNamesRow.laid W) : Lib.TabIs Tryz.prog W "strings.asciiSpace" .u8 Lib.asciiSpaceTab :=
  Lib.tabIs_of_head glob_3 rfl rfl rfl (by kernel_rfl) (by kernel_rfl) (h)
theorem tab_stays_3 {W w : World} (h : Lib.TabIs Tryz.prog W "strings.asciiSpace" .u8 Lib.asciiSpaceTab) (hw : w.heap[3]? = W.heap[3]?) : Lib.TabIs Tryz.prog w "strings.asciiSpace" .u8 Lib.asciiSpaceTab := by
  unfold Lib.TabIs World.var? at *
  rw [glob_3] at *
  simp only [Option.bind_some] at *
  rw [hw]; exact h
theorem tab_size_3 {W : World} (h : Lib.TabIs Tryz.prog W "strings.asciiSpace" .u8 Lib.asciiSpaceTab) : 3 < W.heap.size := by
  unfold Lib.TabIs World.var? at h
  rw [glob_3] at h
  simp only [Option.bind_some] at h
  split at h
  · rename_i hb; exact (Array.getElem?_eq_some_iff.1 hb).1
  · cases h
theorem glob_4 : Tryz.prog.globalNamed "internal/strconv.uint64pow10" = some 4 := by kernel_rfl
theorem tab_4 {W : World} (h : laidMet Tryz.prog Rows.fnExactCommandNamesRow.laid W) : Lib.TabIs Tryz.prog W "internal/strconv.uint64pow10" .u64 Lib.pow10Tab :=
  Lib.tabIs_of_head glob_4 rfl rfl rfl (by kernel_rfl) (by kernel_rfl) (laid_tail (laid_tail (h)))
theorem tab_stays_4 {W w : World} (h : Lib.TabIs Tryz.prog W "internal/strconv.uint64pow10" .u64 Lib.pow10Tab) (hw : w.heap[4]? = W.heap[4]?) : Lib.TabIs Tryz.prog w "internal/strconv.uint64pow10" .u64 Lib.pow10Tab := by
  unfold Lib.TabIs World.var? at *
  rw [glob_4] at *
  simp only [Option.bind_some] at *
  rw [hw]; exact h
theorem tab_size_4 {W : World} (h : Lib.TabIs Tryz.prog W "internal/strconv.uint64pow10" .u64 Lib.pow10Tab) : 4 < W.heap.size := by
  unfold Lib.TabIs World.var? at h
  rw [glob_4] at h
  simp only [Option.bind_some] at h
  split at h
  · rename_i hb; exact (Array.getElem?_eq_some_iff.1 hb).1
  · cases h
theorem glob_1 : Tryz.prog.globalNamed "strconv.ErrSyntax" = some 1 := by kernel_rfl
theorem star_1 : "*" ++ "errors.errorString" = "*errors.errorString" := by decide
theorem row_1 (u : TypeId) (h : Tryz.prog.typeName? 3 u = some "*errors.errorString") : u = 520 :=
  typeName_ptr_named (nm := "errors.errorString") (by rw [star_1]; kernel_rfl) (by kernel_rfl) (by decide) u (by rw [star_1]; exact h)
theorem tab_1 {W : World} (h : laidMet Tryz.prog Rows.fnExactCommandNamesRow.laid W) : (∃ te pe, W.cell? ⟨1, 0, none⟩ = some (.iface te pe)) := by
  obtain ⟨a0, s0, hv0, _⟩ := laid_sentinel (laid_tail (laid_tail (laid_tail (laid_tail (laid_tail (laid_tail (laid_tail (h)))))))) glob_1 (ti := 277) (by kernel_rfl) Tryz.underlying277 row_1 Tryz.underlying520 Tryz.underlying522 rfl rfl Tryz.underlying9 (by kernel_rfl) (by kernel_rfl)
  exact ⟨_, _, by simpa using World.var?_cell glob_1 hv0 0⟩
theorem tab_stays_1 {W w : World} (h : (∃ te pe, W.cell? ⟨1, 0, none⟩ = some (.iface te pe))) (hw : w.heap[1]? = W.heap[1]?) : (∃ te pe, w.cell? ⟨1, 0, none⟩ = some (.iface te pe)) := by
  rw [cell_stays hw]; exact h
theorem tab_size_1 {W : World} (h : (∃ te pe, W.cell? ⟨1, 0, none⟩ = some (.iface te pe))) : 1 < W.heap.size := by
  obtain ⟨_, _, h⟩ := h
  exact cell_lt h
theorem gok_of {W : World} (h : laidMetH Tryz.prog Rows.fnExactCommandNamesRow.laid W) (hm : (∃ m, W.cell? ⟨0, 0, none⟩ = some (.int .i64 m))) : GOK W := by
  rw [MakeChecks.laidMetH_plain _ _ _ (by kernel_rfl)] at h
  refine ⟨tab_size_4 (tab_4 h), fun w hw => ⟨tab_stays_3 (tab_3 h) ((hw 3 (by decide)).trans (if_pos (by decide))), tab_stays_4 (tab_4 h) ((hw 4 (by decide)).trans (if_pos (by decide))), tab_stays_1 (tab_1 h) ((hw 1 (by decide)).trans (if_pos (by decide))), (cell_stays ((hw 0 (by decide)).trans (if_pos (by decide))) 0) ▸ hm⟩⟩
end Go.Proofs.YtlemeenicaidfaaGreatDoor
