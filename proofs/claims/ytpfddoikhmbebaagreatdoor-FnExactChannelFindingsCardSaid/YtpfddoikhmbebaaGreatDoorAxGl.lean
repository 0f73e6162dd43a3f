/- What the rows' condition gives: the tables. -/
import Derived.Test.YtpfddoikhmbebaaGreatDoorAxA
import Derived.Test.YtpfddoikhmbebaaGreatDoorRows
import Derived.MakeChecks
namespace Go.Proofs.YtpfddoikhmbebaaGreatDoor
open Go
set_option maxRecDepth 100000
theorem laid_tail {P:Program} {x:String×DataW Unit} {rest:List (String×DataW Unit)} {W:World} (h:laidMet P (x::rest) W):laidMet P rest W:=by
  obtain ⟨ps,⟨g',t',cs,fuel,p,q,_,_,_,_,hq,rfl⟩,hn,hc⟩:=h
  exact ⟨q,hq,(List.nodup_append.1 hn).2.1,λb off hb=>hc b off (List.mem_append_right _ hb)⟩
theorem GOK.all {w:World} (h:GOK w):Lib.TabIs Tryz.prog w "internal/strconv.uint64pow10" .u64 Lib.pow10Tab/\Lib.TabIs Tryz.prog w "strings.asciiSpace" .u8 Lib.asciiSpaceTab:=
  h.gf w λ_ hg=>(if_pos hg).symm
theorem GOK.pow10 {w:World} (h:GOK w):Lib.TabIs Tryz.prog w "internal/strconv.uint64pow10" .u64 Lib.pow10Tab:=h.all.1
theorem GOK.tabs {w:World} (h:GOK w):Lib.TabIs Tryz.prog w "strings.asciiSpace" .u8 Lib.asciiSpaceTab:=h.all.2
theorem glob_0:Tryz.prog.globalNamed "internal/strconv.uint64pow10" =some 0:=by kernel_rfl
theorem tab_0 {W:World} (h:laidMet Tryz.prog Rows.fnExactChannelFindingsRow.laid W):Lib.TabIs Tryz.prog W "internal/strconv.uint64pow10" .u64 Lib.pow10Tab:=
  Lib.tabIs_of_head glob_0 rfl rfl rfl (by kernel_rfl) (by kernel_rfl) (laid_tail (laid_tail (h)))
theorem tab_stays_0 {W w:World} (h:Lib.TabIs Tryz.prog W "internal/strconv.uint64pow10" .u64 Lib.pow10Tab) (hw:w.heap[0]? =W.heap[0]?):Lib.TabIs Tryz.prog w "internal/strconv.uint64pow10" .u64 Lib.pow10Tab:=by
  unfold Lib.TabIs World.var? at*
  rw [glob_0] at*
  simp only [Option.bind_some] at*
  rw [hw];exact h
theorem glob_1:Tryz.prog.globalNamed "strings.asciiSpace" =some 1:=by kernel_rfl
theorem tab_1 {W:World} (h:laidMet Tryz.prog Rows.fnExactChannelFindingsRow.laid W):Lib.TabIs Tryz.prog W "strings.asciiSpace" .u8 Lib.asciiSpaceTab:=
  Lib.tabIs_of_head glob_1 rfl rfl rfl (by kernel_rfl) (by kernel_rfl) (laid_tail (laid_tail (laid_tail (laid_tail (h)))))
theorem tab_stays_1 {W w:World} (h:Lib.TabIs Tryz.prog W "strings.asciiSpace" .u8 Lib.asciiSpaceTab) (hw:w.heap[1]? =W.heap[1]?):Lib.TabIs Tryz.prog w "strings.asciiSpace" .u8 Lib.asciiSpaceTab:=by
  unfold Lib.TabIs World.var? at*
  rw [glob_1] at*
  simp only [Option.bind_some] at*
  rw [hw];exact h
theorem tab_size_1 {W:World} (h:Lib.TabIs Tryz.prog W "strings.asciiSpace" .u8 Lib.asciiSpaceTab):1<W.heap.size:=by
  unfold Lib.TabIs World.var? at h
  rw [glob_1] at h
  simp only [Option.bind_some] at h
  split at h
  · rename_i hb;exact (Array.getElem?_eq_some_iff.1 hb).1
  · cases h
theorem gok_of {W:World} (h:laidMetH Tryz.prog Rows.fnExactChannelFindingsRow.laid W):GOK W:=by
  rw [MakeChecks.laidMetH_plain _ _ _ (by kernel_rfl)] at h
  refine ⟨tab_size_1 (tab_1 h),λw hw=>⟨tab_stays_0 (tab_0 h) ((hw 0 (by decide)).trans (if_pos (by decide))),tab_stays_1 (tab_1 h) ((hw 1 (by decide)).trans (if_pos (by decide)))⟩⟩
end Go.Proofs.YtpfddoikhmbebaaGreatDoor
