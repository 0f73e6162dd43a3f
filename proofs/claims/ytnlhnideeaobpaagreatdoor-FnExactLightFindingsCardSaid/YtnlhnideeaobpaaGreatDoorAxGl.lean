/- What the rows' condition gives: the tables. -/
import Derived.Test.YtnlhnideeaobpaaGreatDoorAxA
import Derived.Test.YtnlhnideeaobpaaGreatDoorRows
import Derived.MakeChecks
namespace Go.Proofs.YtnlhnideeaobpaaGreatDoor
open Go
set_option maxRecDepth 100000
theorem oz {P:Program} {x:String×DataW Unit} {rest:List (String×DataW Unit)} {W:World} (h:laidMet P (x::rest) W):laidMet P rest W:=by
 obtain ⟨ps,⟨g',t',cs,fuel,p,q,_,_,_,_,hq,rfl⟩,hn,hc⟩:=h;exact ⟨q,hq,(eC.1 hn).2.1,λb off hb=>hc b off (cz _ hb)⟩
theorem GOK.all {w:World} (h:GOK w):Lib.TabIs Tryz.prog w "internal/strconv.uint64pow10" .u64 Lib.pow10Tab/\Lib.TabIs Tryz.prog w "strings.asciiSpace" .u8 Lib.asciiSpaceTab:=
 h.gf w λ_ hg=>(if_pos hg).symm
theorem GOK.pow10 {w:World} (h:GOK w):Lib.TabIs Tryz.prog w "internal/strconv.uint64pow10" .u64 Lib.pow10Tab:=h.all.1
theorem GOK.tabs {w:World} (h:GOK w):Lib.TabIs Tryz.prog w "strings.asciiSpace" .u8 Lib.asciiSpaceTab:=h.all.2
theorem aa6:Tryz.prog.globalNamed "internal/strconv.uint64pow10" =some 0:=by kernel_rfl
theorem ag9 {W:World} (h:laidMet Tryz.prog Rows.fnExactLightFindingsRow.laid W):Lib.TabIs Tryz.prog W "internal/strconv.uint64pow10" .u64 Lib.pow10Tab:=
 Lib.tabIs_of_head aa6 rfl rfl rfl (by kernel_rfl) (by kernel_rfl) (oz (oz (h)))
theorem MS {W w:World} (h:Lib.TabIs Tryz.prog W "internal/strconv.uint64pow10" .u64 Lib.pow10Tab) (hw:w.heap[0]? =W.heap[0]?):Lib.TabIs Tryz.prog w "internal/strconv.uint64pow10" .u64 Lib.pow10Tab:=by
 unfold Lib.TabIs World.var? at*;rw [aa6] at*;simp only [gS] at*;rw [hw];exact h
theorem SL:Tryz.prog.globalNamed "strings.asciiSpace" =some 4:=by kernel_rfl
theorem aeT {W:World} (h:laidMet Tryz.prog Rows.fnExactLightFindingsRow.laid W):Lib.TabIs Tryz.prog W "strings.asciiSpace" .u8 Lib.asciiSpaceTab:=
 Lib.tabIs_of_head SL rfl rfl rfl (by kernel_rfl) (by kernel_rfl) (oz (oz (oz (oz (h)))))
theorem MR {W w:World} (h:Lib.TabIs Tryz.prog W "strings.asciiSpace" .u8 Lib.asciiSpaceTab) (hw:w.heap[4]? =W.heap[4]?):Lib.TabIs Tryz.prog w "strings.asciiSpace" .u8 Lib.asciiSpaceTab:=by
 unfold Lib.TabIs World.var? at*;rw [SL] at*;simp only [gS] at*;rw [hw];exact h
theorem Q0 {W:World} (h:Lib.TabIs Tryz.prog W "strings.asciiSpace" .u8 Lib.asciiSpaceTab):4<W.heap.size:=by
 unfold Lib.TabIs World.var? at h;rw [SL] at h;simp only [gS] at h;split at h
 ·rename_i hb;exact (bj.1 hb).1
 ·cases h
theorem agB {W:World} (h:laidMetH Tryz.prog Rows.fnExactLightFindingsRow.laid W):GOK W:=by
 rw [MakeChecks.laidMetH_plain _ _ _ (by kernel_rfl)] at h;refine ⟨Q0 (aeT h),λw hw=>⟨MS (ag9 h) ((hw 0 (by decide)).trans (if_pos (by decide))),MR (aeT h) ((hw 4 (by decide)).trans (if_pos (by decide)))⟩⟩
end Go.Proofs.YtnlhnideeaobpaaGreatDoor
