/- strconv.ParseInt at texts that are no numerals: the walk again, with what the draws do: they never go back. -/
import Derived.Test.YtnfjhadaclcgeaaGreatDoorDec
import Derived.Test.YtnfjhadaclcgeaaGreatDoorDcb
import Derived.Shelf.LaysC
import Derived.Shelf.RegionOpenPlain
import Derived.Shelf.Strconv.ParseInt10All
import Derived.Lib.Strings
import Derived.Lib.Walk
import Derived.Lib.BufferWrite
import Derived.Lib.UnsafeStr
import Derived.Lib.Hide
import Derived.Lib.AtoiErrMem
import Derived.Lib.ParseIntBMem
import Derived.Lib.ParseIntBTie
import Derived.Lib.IfaceEq
import Derived.Laws.MakeOwn
import Derived.RegionTactic
import Derived.Deep.RegionWith
import Derived.WalkKit
import Derived.BigCall
import Derived.BigGuard
namespace Go.Proofs.YtnfjhadaclcgeaaGreatDoor
set_option linter.unusedVariables false
set_option linter.unusedSimpArgs false
open Go Go.Proofs Go.Shelf Go.RowKit
variable {P : Program} {ρ : Ren}
theorem freeze_drawn (w : World) (p : Addr) (n : Nat) : (w.freeze p n).drawn = w.drawn := by
  unfold World.freeze
  split <;> rfl
theorem bytes_drawn (w : World) (T : TypeId) (t : ByteArray) : w.drawn ≤ (Lib.bytesWorld w T t).drawn := by
  rw [Lib.bytesWorld, freeze_drawn]
  exact Nat.le_succ _
set_option maxHeartbeats 4000000 in
set_option maxRecDepth 100000 in
theorem clone_on (L : LaysM.n316 P ρ) (s : ByteArray) (w : World) (hlim : s.size ≤ 281474976710656) :
    Calls P (ρ.f 316) #[.string s] w fun e w' => e = .returned (.string s) ∧ On w w' := by
  have mixed := L.mixed
  have t5 := L.t5; have a5 := L.a5; have z5 := L.z5; have v5 := L.v5
  have t9 := L.t9; have a9 := L.a9; have z9 := L.z9; have v9 := L.v9
  have t3 := L.t3; have a3 := L.a3; have z3 := L.z3; have v3 := L.v3
  have t4 := L.t4; have a4 := L.a4; have z4 := L.z4; have v4 := L.v4
  have t37 := L.t37; have a37 := L.a37; have z37 := L.z37; have v37 := L.v37
  have t0 := L.t0; have a0 := L.a0; have z0 := L.z0; have v0 := L.v0
  have t127 := L.t127; have a127 := L.a127; have z127 := L.z127; have v127 := L.v127
  by_cases h0 : s.size = 0
  · have hs : s = ⟨#[]⟩ := ByteArray.ext (Array.eq_empty_of_size_eq_zero h0)
    subst hs
    go_enter L.f316, Body.n316_ntmps ρ
    go_wp2
    go_ret
    exact ⟨rfl, Below.refl _ _, Nat.le_refl _⟩
  · obtain ⟨i0, hi, hz0, hz1, hz2⟩ := info_parts L.i5
    have hinfo : (P.info? (ρ.t 5)).map (·.size) = some 1 := by rw [hi]; simp [hz1]
    have hco : P.cellsOf (ρ.t 5) = 1 := by simp [Program.cellsOf, hi, hz1]
    obtain ⟨M, hM⟩ : ∃ M, M = madeCells (Value.int .u8 0).cells (((s.size : Nat) : Int).toNat * i0.size) := ⟨_, rfl⟩
    have hMs : M.size = s.size := by rw [hM, size_madeCells, hz1]; simp
    have hmk : ∀ W : World, (Instr.makeSlice (ρ.t 37) (.int .i64 (s.size : Int)) (.int .i64 (s.size : Int))).run P W = .ok (.slice (some ⟨W.heap.size, 0, none⟩) s.size s.size) (W.alloc (.cells M (ρ.t 5))) := fun W => by
      have h := run_make (P := P) W (ρ.t 37) (ρ.t 5) i0 (.int .u8 0) L.t37 hi hz0 .i64 .i64 (s.size : Int) (s.size : Int) (by omega) (by omega) (by rw [hz2]; omega) (by omega)
      rw [← hM] at h
      simpa using h
    clear hM
    have hcp := Lib.run_copy_row_string (P := P) (w.alloc (.cells M (ρ.t 5))) (ρ.t 37) (ρ.t 9) (ρ.t 3) (ρ.t 5) w.heap.size 0 s.size s.size s M (ρ.t 5) L.t37 hinfo (heap_alloc_new w _) (Nat.le_refl _) (by omega)
    obtain ⟨Y, hY⟩ : ∃ Y, Y = (M.toList.take 0 ++ Lib.byteCells s.data.toList ++ M.toList.drop (0 + s.size)).toArray := ⟨_, rfl⟩
    rw [← hY] at hcp
    have hYl : Y.toList = Lib.byteCells s.data.toList := by
      rw [hY, List.toList_toArray, List.take_zero, List.nil_append, List.drop_of_length_le (by rw [Array.length_toList]; omega), List.append_nil]
    have hYs : Y.size = s.size := by rw [← Array.length_toList, hYl, Lib.byteCells_length, ← Lib.size_eq]
    have hgY : ((w.alloc (.cells M (ρ.t 5))).setRow w.heap.size Y).heap[w.heap.size]? = some (.cells Y (ρ.t 5) (0, 0)) := setRow_heap _ _ M _ (ρ.t 5) (0, 0) (heap_alloc_new w _)
    have hne : s.data.toList ≠ [] := fun e => h0 (by rw [Lib.size_eq, e]; rfl)
    have hUS := Lib.run_unsafeString_row (P := P) ((w.alloc (.cells M (ρ.t 5))).setRow w.heap.size Y) (ρ.t 127) (ρ.t 3) (ρ.t 9) (ρ.t 5) L.t127 hco w.heap.size Y.size (by unfold World.shape?; rw [hgY]) s.data.toList hne (by rw [← Lib.size_eq]; omega) (by rw [← Lib.size_eq]; omega)
      (fun j x hx => Lib.cells_of_row hgY Y.size j _ (by rw [List.take_of_length_le (by rw [Array.length_toList]; exact Nat.le_refl _), hYl]; simp [Lib.byteCells, hx]))
    rw [← Lib.size_eq] at hUS
    clear hY
    go_enter L.f316, Body.n316_ntmps ρ
    go_wp2
    go_ret
    have hb1 : Below w.heap.size w (w.alloc (.cells M (ρ.t 5))) := (Below.refl _ w).alloc (Nat.le_refl _) _
    have hb2 : Below w.heap.size (w.alloc (.cells M (ρ.t 5))) ((w.alloc (.cells M (ρ.t 5))).setRow w.heap.size Y) := ⟨rfl, rfl, rfl, by simp, fun k hk => setRow_other _ _ _ _ (by omega)⟩
    exact ⟨rfl, Lib.below_freeze (hb1.trans hb2) (p := ⟨w.heap.size, 0, none⟩) (Nat.le_refl _) _, by rw [freeze_drawn]; exact Nat.le_refl _⟩
set_option maxHeartbeats 6400000 in
set_option maxRecDepth 100000 in
theorem syntaxError_on (L : LaysM.n279 P ρ) (fn s : ByteArray) (ev : Value) (w : World) (hlim : s.size ≤ 281474976710656) (hv : w.cell? ⟨(ρ.g 15), 0, none⟩ = some ev) (hev : ev = .nilIface ∨ ∃ te pe, ev = .iface te pe) :
    Calls P (ρ.f 279) #[.string fn, .string s] w fun e w' => ∃ N, e = .returned (.pointer (some ⟨N, 0, none⟩)) ∧ On w w' := by
  have mixed := L.mixed
  have t9 := L.t9; have a9 := L.a9; have z9 := L.z9; have v9 := L.v9
  have t168 := L.t168; have a168 := L.a168; have z168 := L.z168; have v168 := L.v168
  have t75 := L.t75; have a75 := L.a75; have z75 := L.z75; have v75 := L.v75
  have t210 := L.t210; have u210 := run_underlying L.t210; have a210 := L.a210; have z210 := L.z210; have v210 := L.v210
  have e316 : ∀ args w, (callFunc (ρ.f 316) args).run P w = .ok (.enter (ρ.f 316) args) w := enters_of L.f316 (by kernel_rfl) rfl
  rcases hev with rfl | ⟨te, pe, rfl⟩
  all_goals (
    have hG : (ρ.g 15) < w.heap.size := Lib.lt_of_cell hv
    have hvd : w.drew.cell? ⟨(ρ.g 15), 0, none⟩ = some _ := hv
    go_enter L.f279, Body.n279_ntmps ρ
    go_wp2
    go_region_with_o (
        go_at_fn (ρ.f 316)
        refine (clone_on { L with } s _ hlim).mono ?_
        rintro e w2 ⟨rfl, hbel, hdr⟩
        have hv2 : w2.cell? ⟨(ρ.g 15), 0, none⟩ = some _ := (hbel.cell (show (⟨(ρ.g 15), 0, none⟩ : Addr).block < w.drew.heap.size from hG)).trans hvd)
    all_goals (
      go_wp2
      go_ret
      have hs2 : w.heap.size ≤ w2.heap.size := hbel.size
      exact ⟨_, rfl, ((Below.drew (Below.refl _ w)).trans hbel).alloc hs2 _, Nat.le_trans (Nat.le_succ _) hdr⟩))
set_option maxHeartbeats 4000000 in
set_option maxRecDepth 100000 in
theorem toError_on (L : LaysC.n245 P ρ) (fn s : ByteArray) (base bits : Int) (ev : Value) (w : World) (hlim : s.size ≤ 281474976710656) (hv : w.cell? ⟨(ρ.g 15), 0, none⟩ = some ev) (hev : ev = .nilIface ∨ ∃ te pe, ev = .iface te pe) :
    Calls P (ρ.f 245) #[.string fn, .string s, .int .i64 base, .int .i64 bits, .iface (ρ.t 167) (.int .i64 2)] w fun e w' => ∃ N, e = .returned (.iface (ρ.t 168) (.pointer (some ⟨N, 0, none⟩))) ∧ On w w' := by
  have mixed := L.mixed
  have t9 := L.t9; have a9 := L.a9; have z9 := L.z9; have v9 := L.v9
  have t3 := L.t3; have a3 := L.a3; have z3 := L.z3; have v3 := L.v3
  have t75 := L.t75; have a75 := L.a75; have z75 := L.z75; have v75 := L.v75
  have t167 := L.t167; have a167 := L.a167; have z167 := L.z167; have v167 := L.v167
  have t4 := L.t4; have a4 := L.a4; have z4 := L.z4; have v4 := L.v4
  have t168 := L.t168; have a168 := L.a168; have z168 := L.z168; have v168 := L.v168
  have e279 : ∀ args w, (callFunc (ρ.f 279) args).run P w = .ok (.enter (ρ.f 279) args) w := enters_of L.f279 (by kernel_rfl) rfl
  have heq : ∀ W, (binOp .eql (ρ.t 75) (.iface (ρ.t 167) (.int .i64 2)) (.iface (ρ.t 167) (.int .i64 2))).run P W = .ok (.bool true) W := fun W => Lib.run_eql_iface_int W 2 2 L.t75 L.c167 L.t167
  go_enter L.f245, Body.n245_ntmps ρ
  go_wp2_with (go_at_fn (ρ.f 279); refine (syntaxError_on { L with } fn s ev _ hlim ?_ hev).mono ?_)
  · exact hv
  rintro e w2 ⟨N, rfl, h3⟩
  go_wp2
  go_ret
  exact ⟨N, rfl, h3⟩
set_option maxHeartbeats 4000000 in
set_option maxRecDepth 100000 in
/-- strconv.ParseInt(s, 10, 64) where s is no numeral: 0 and an error. -/
theorem parseNo_on (L : LaysC.n174 P ρ) (s : ByteArray) (hlim : s.size ≤ 281474976710656) (h : Lib.parseIntB 64 s.data.toList = noInt) (ev : Value) (w : World) (hv : w.cell? ⟨(ρ.g 15), 0, none⟩ = some ev) (hev : ev = .nilIface ∨ ∃ te pe, ev = .iface te pe) :
    Calls P (ρ.f 174) #[.string s, .int .i64 10, .int .i64 64] w fun e w' => ∃ N, e = .returned (.tuple #[.int .i64 (0), .iface (ρ.t 168) (.pointer (some ⟨N, 0, none⟩))]) ∧ On w w' := by
  have mixed := L.mixed
  have t9 := L.t9; have a9 := L.a9; have z9 := L.z9; have v9 := L.v9
  have t3 := L.t3; have a3 := L.a3; have z3 := L.z3; have v3 := L.v3
  have t2 := L.t2; have a2 := L.a2; have z2 := L.z2; have v2 := L.v2
  have t75 := L.t75; have a75 := L.a75; have z75 := L.z75; have v75 := L.v75
  have t85 := L.t85; have a85 := L.a85; have z85 := L.z85; have v85 := L.v85
  have t4 := L.t4; have a4 := L.a4; have z4 := L.z4; have v4 := L.v4
  have e247 : ∀ args w, (callFunc (ρ.f 247) args).run P w = .ok (.enter (ρ.f 247) args) w := enters_of L.f247 (by kernel_rfl) rfl
  have e245 : ∀ args w, (callFunc (ρ.f 245) args).run P w = .ok (.enter (ρ.f 245) args) w := enters_of L.f245 (by kernel_rfl) rfl
  have hG : (ρ.g 15) < w.heap.size := Lib.lt_of_cell hv
  have hI := Any.internal_strconv_ParseInt_10_all64 { L with } s (by omega) w
  rw [h] at hI
  generalize Lib.intSat 64 s.data.toList = sat at hI ⊢
  have hI : Calls P (ρ.f 247) #[.string s, .int .i64 10, .int .i64 64] w fun e w' => e = .returned (.tuple #[.int .i64 (0), .iface (ρ.t 167) (.int .i64 2)]) ∧ (w' = w ∨ ∃ t, w' = Lib.bytesWorld w (ρ.t 5) t) := hI
  clear h
  go_enter L.f174, Body.n174_ntmps ρ
  go_wp2_with (go_at_fn (ρ.f 247); refine hI.mono ?_)
  rintro e W1 ⟨rfl, hW⟩
  have hb1 : On w W1 := by
    rcases hW with rfl | ⟨t, rfl⟩
    · exact ⟨Below.refl _ _, Nat.le_refl _⟩
    · exact ⟨Lib.bytesWorld_below _ _ _, bytes_drawn _ _ _⟩
  have hv1 : W1.cell? ⟨(ρ.g 15), 0, none⟩ = some ev := (hb1.1.cell (show (⟨(ρ.g 15), 0, none⟩ : Addr).block < w.heap.size from hG)).trans hv
  clear hW
  go_wp2_with (go_at_fn (ρ.f 245); refine (toError_on { L with } ⟨#[80, 97, 114, 115, 101, 73, 110, 116]⟩ s 10 64 ev _ hlim ?_ hev).mono ?_)
  · exact hv1
  rintro e W2 ⟨N, rfl, h3⟩
  go_wp2
  go_ret2
  exact ⟨N, rfl, hb1.trans h3⟩
end Go.Proofs.YtnfjhadaclcgeaaGreatDoor
