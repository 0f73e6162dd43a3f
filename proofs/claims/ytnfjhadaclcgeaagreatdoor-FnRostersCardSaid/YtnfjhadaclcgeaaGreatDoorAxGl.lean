/- What the rows' condition gives: the tables. -/
import Derived.Test.YtnfjhadaclcgeaaGreatDoorAxA
import Derived.Test.YtnfjhadaclcgeaaGreatDoorRows
import Derived.MakeChecks
import Derived.Stop.LaidErr
namespace Go.Proofs.YtnfjhadaclcgeaaGreatDoor
open Go
set_option maxRecDepth 100000
theorem laid_tail {P : Program} {x : String × DataW Unit} {rest : List (String × DataW Unit)} {W : World} (h : laidMet P (x :: rest) W) : laidMet P rest W := by
  obtain ⟨ps, ⟨g', t', cs, fuel, p, q, _, _, _, _, hq, rfl⟩, hn, hc⟩ := h
  exact ⟨q, hq, (List.nodup_append.1 hn).2.1, fun b off hb => hc b off (List.mem_append_right _ hb)⟩
theorem GOK.all {w : World} (h : GOK w) : Lib.TabIs Tryz.prog w "internal/strconv.uint64pow10" .u64 Lib.pow10Tab ∧ (∃ te pe, w.cell? ⟨0, 0, none⟩ = some (.iface te pe)) ∧ (∃ m, w.cell? ⟨3, 0, none⟩ = some (.int .i64 m)) :=
  h.gf w fun _ hg => (if_pos hg).symm
theorem GOK.pow10 {w : World} (h : GOK w) : Lib.TabIs Tryz.prog w "internal/strconv.uint64pow10" .u64 Lib.pow10Tab := h.all.1
theorem GOK.errSyntax {w : World} (h : GOK w) : (∃ te pe, w.cell? ⟨0, 0, none⟩ = some (.iface te pe)) := h.all.2.1
theorem GOK.maxLen {w : World} (h : GOK w) : (∃ m, w.cell? ⟨3, 0, none⟩ = some (.int .i64 m)) := h.all.2.2
theorem cell_stays {W w : World} {g : Nat} (hw : w.heap[g]? = W.heap[g]?) (o : Nat) : w.cell? ⟨g, o, none⟩ = W.cell? ⟨g, o, none⟩ := by
  unfold World.cell?
  rw [hw]
theorem cell_lt {W : World} {g o : Nat} {v : Value} (h : W.cell? ⟨g, o, none⟩ = some v) : g < W.heap.size := by
  rcases Nat.lt_or_ge g W.heap.size with h' | h'
  · exact h'
  · unfold World.cell? at h
    rw [Array.getElem?_eq_none h'] at h
    simp at h
theorem glob_2 : Tryz.prog.globalNamed "internal/strconv.uint64pow10" = some 2 := by kernel_rfl
theorem tab_2 {W : World} (h : laidMet Tryz.prog Rows.fnRostersRow.laid W) : Lib.TabIs Tryz.prog W "internal/strconv.uint64pow10" .u64 Lib.pow10Tab :=
  Lib.tabIs_of_head glob_2 rfl rfl rfl (by kernel_rfl) (by kernel_rfl) (laid_tail (laid_tail (h)))
theorem tab_stays_2 {W w : World} (h : Lib.TabIs Tryz.prog W "internal/strconv.uint64pow10" .u64 Lib.pow10Tab) (hw : w.heap[2]? = W.heap[2]?) : Lib.TabIs Tryz.prog w "internal/strconv.uint64pow10" .u64 Lib.pow10Tab := by
  unfold Lib.TabIs World.var? at *
  rw [glob_2] at *
  simp only [Option.bind_some] at *
  rw [hw]; exact h
theorem tab_size_2 {W : World} (h : Lib.TabIs Tryz.prog W "internal/strconv.uint64pow10" .u64 Lib.pow10Tab) : 2 < W.heap.size := by
  unfold Lib.TabIs World.var? at h
  rw [glob_2] at h
  simp only [Option.bind_some] at h
  split at h
  · rename_i hb; exact (Array.getElem?_eq_some_iff.1 hb).1
  · cases h
theorem glob_0 : Tryz.prog.globalNamed "strconv.ErrSyntax" = some 0 := by kernel_rfl
theorem star_0 : "*" ++ "errors.errorString" = "*errors.errorString" := by decide
theorem row_0 (u : TypeId) (h : Tryz.prog.typeName? 3 u = some "*errors.errorString") : u = 186 :=
  typeName_ptr_named (nm := "errors.errorString") (by rw [star_0]; kernel_rfl) (by kernel_rfl) (by decide) u (by rw [star_0]; exact h)
theorem tab_0 {W : World} (h : laidMet Tryz.prog Rows.fnRostersRow.laid W) : (∃ te pe, W.cell? ⟨0, 0, none⟩ = some (.iface te pe)) := by
  obtain ⟨a0, s0, hv0, _⟩ := laid_sentinel (laid_tail (laid_tail (laid_tail (laid_tail (laid_tail (h)))))) glob_0 (ti := 106) (by kernel_rfl) Tryz.underlying106 row_0 Tryz.underlying186 Tryz.underlying188 rfl rfl Tryz.underlying9 (by kernel_rfl) (by kernel_rfl)
  exact ⟨_, _, by simpa using World.var?_cell glob_0 hv0 0⟩
theorem tab_stays_0 {W w : World} (h : (∃ te pe, W.cell? ⟨0, 0, none⟩ = some (.iface te pe))) (hw : w.heap[0]? = W.heap[0]?) : (∃ te pe, w.cell? ⟨0, 0, none⟩ = some (.iface te pe)) := by
  rw [cell_stays hw]; exact h
theorem tab_size_0 {W : World} (h : (∃ te pe, W.cell? ⟨0, 0, none⟩ = some (.iface te pe))) : 0 < W.heap.size := by
  obtain ⟨_, _, h⟩ := h
  exact cell_lt h
theorem gok_of {W : World} (h : laidMetH Tryz.prog Rows.fnRostersRow.laid W) (hm : (∃ m, W.cell? ⟨3, 0, none⟩ = some (.int .i64 m))) : GOK W := by
  rw [MakeChecks.laidMetH_plain _ _ _ (by kernel_rfl)] at h
  refine ⟨cell_lt hm.choose_spec, fun w hw => ⟨tab_stays_2 (tab_2 h) ((hw 2 (by decide)).trans (if_pos (by decide))), tab_stays_0 (tab_0 h) ((hw 0 (by decide)).trans (if_pos (by decide))), (cell_stays ((hw 3 (by decide)).trans (if_pos (by decide))) 0) ▸ hm⟩⟩
end Go.Proofs.YtnfjhadaclcgeaaGreatDoor
