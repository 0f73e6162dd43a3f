/- The table of this program's types. -/
import Derived.Test.YtnfjhadaclcgeaaGreatDoorAxF
namespace Go.Proofs.YtnfjhadaclcgeaaGreatDoor
open Go Go.RowKit

def mQ : TyI := ⟨.misc, false, 1, [.other], 8, false⟩
def mZ : TyI := ⟨.misc, false, 1, [.other], 0, false⟩
def mP (n : TypeId) : TyI := ⟨.ptr n, false, 1, [.ptr], 8, false⟩
def mS (n : TypeId) : TyI := ⟨.slice n, false, 1, [.slice], 24, false⟩
def kI : Z := .int .i64
def kS : Z := .str
def kL : Z := .slice
def eqsL : List Bool := (List.range 212).map fun i => memB i [7, 8, 37, 38, 82, 83, 158, 180, 181, 187, 188, 189, 190, 191, 192, 195, 196, 200]
def tb0 : List TyI := [mZ, mQ, ⟨.int .i64, false, 1, [.int .i64], 8, false⟩, ⟨.int .i64, false, 1, [.int .i64], 8, false⟩, ⟨.bool, false, 1, [.bool], 1, false⟩, ⟨.int IntKind.u8, false, 1, [.int IntKind.u8], 1, false⟩, ⟨.int IntKind.u8, false, 1, [.int IntKind.u8], 1, false⟩, ⟨.struct [(0, 2), (1, 3), (2, 4), (3, 6)], true, 4, [kI, kI, .bool, .int IntKind.u8], 24, true⟩, ⟨.struct [(0, 2), (1, 3), (2, 4), (3, 6)], true, 4, [kI, kI, .bool, .int IntKind.u8], 24, true⟩, ⟨.str, false, 1, [.str], 16, false⟩, ⟨.str, false, 1, [.str], 16, false⟩, ⟨.str, false, 1, [.str], 16, false⟩, ⟨.int IntKind.u64, false, 1, [.int IntKind.u64], 8, false⟩, ⟨.struct [(0, 9), (1, 12)], true, 2, [kS, .int IntKind.u64], 24, false⟩, ⟨.struct [(0, 9), (1, 12)], true, 2, [kS, .int IntKind.u64], 24, false⟩, mP 199, mP 202, mP 210, ⟨.struct [(0, 17)], true, 1, [.ptr], 8, false⟩, ⟨.struct [(0, 17)], true, 1, [.ptr], 8, false⟩, ⟨.misc, false, 1, [.other], 16, false⟩, ⟨.int IntKind.i32, false, 1, [.int IntKind.i32], 4, false⟩, mS 5, mQ, mS 9, mZ, mQ, mS 38, mZ, mQ, mQ, mS 58, mZ, mQ, mQ, mZ, mQ, ⟨.struct [(0, 9), (1, 2), (2, 2)], true, 3, [kS, kI, kI], 32, true⟩, ⟨.struct [(0, 9), (1, 2), (2, 2)], true, 3, [kS, kI, kI], 32, true⟩, mZ, mQ, mQ, mQ, mZ, mQ, mQ, mZ, mQ, mQ, mQ, mQ, mP 83, mQ, mQ, mQ, mQ, mQ, mQ, mS 2, mQ, mQ, mZ, mQ, mQ, mQ, mQ, mQ, mQ, mQ, mQ, mQ, mQ, mQ, mQ, mQ, mQ, mQ, mQ, mZ, mQ, mQ, ⟨.int IntKind.u64, false, 1, [.int IntKind.u64], 8, false⟩, ⟨.struct [(0, 22), (1, 3), (2, 81)], true, 3, [kL, kI, .int IntKind.u64], 40, true⟩, ⟨.struct [(0, 22), (1, 3), (2, 81)], true, 3, [kL, kI, .int IntKind.u64], 40, true⟩, mQ, mQ, mQ, mQ, mQ, mP 38]
def tb1 : List TyI := [mQ, mQ, mQ, ⟨.int IntKind.u64, false, 1, [.int IntKind.u64], 8, false⟩, mQ, mQ, mQ, mQ, mQ, mQ, mQ, mQ, mQ, mQ, mQ, ⟨.misc, false, 1, [.other], 16, false⟩, ⟨.misc, false, 1, [.other], 16, false⟩, mZ, mQ, mQ, mQ, mQ, mQ, ⟨.int .i64, false, 1, [.int .i64], 8, false⟩, mZ, mQ, mQ, mQ, mQ, mZ, mQ, mQ, ⟨.int IntKind.u32, false, 1, [.int IntKind.u32], 4, false⟩, mQ, mQ, mQ, mQ, mQ, mQ, mQ, mQ, ⟨.int IntKind.u64, false, 1, [.int IntKind.u64], 8, false⟩, mQ, mQ, mQ, mP 3, mQ, mQ, mQ, mQ, mQ, mQ, mQ, mS 3, mQ, mQ, mQ, mQ, mQ, mQ, mQ, ⟨.int .i64, false, 1, [.int .i64], 8, false⟩, mZ, mQ, mP 176, mQ, mQ, mQ, ⟨.array 24 5, true, 24, List.replicate 24 (.int IntKind.u8), 24, true⟩, mQ, mZ, mQ, mP 131, mZ, mQ, mQ, mQ, mQ, mQ, mQ, mZ, mQ, mQ, mQ, mQ, ⟨.struct [(0, 9), (1, 9), (2, 106)], true, 3, [kS, kS, .other], 48, false⟩, ⟨.struct [(0, 9), (1, 9), (2, 106)], true, 3, [kS, kS, .other], 48, false⟩, mQ, mQ, mQ]
def tb2 : List TyI := [⟨.array 20 81, true, 20, List.replicate 20 (.int IntKind.u64), 160, true⟩, ⟨.array 65 5, true, 65, List.replicate 65 (.int IntKind.u8), 65, true⟩, mQ, mQ, mQ, mP 5, mP 188, ⟨.struct [(0, 9)], true, 1, [.str], 16, true⟩, ⟨.struct [(0, 9)], true, 1, [.str], 16, true⟩, ⟨.array 256 5, true, 256, List.replicate 256 (.int IntKind.u8), 256, true⟩, ⟨.struct [(0, 5), (1, 5)], true, 2, [.int IntKind.u8, .int IntKind.u8], 2, true⟩, ⟨.struct [(0, 5), (1, 5)], true, 2, [.int IntKind.u8, .int IntKind.u8], 2, true⟩, ⟨.array 16 191, true, 32, List.replicate 32 (.int IntKind.u8), 32, true⟩, mZ, mQ, ⟨.array 32 5, true, 32, List.replicate 32 (.int IntKind.u8), 32, true⟩, ⟨.array 64 5, true, 64, List.replicate 64 (.int IntKind.u8), 64, true⟩, mQ, ⟨.struct [(0, 17), (1, 17), (2, 17), (3, 9)], true, 4, [.ptr, .ptr, .ptr, kS], 40, false⟩, ⟨.struct [(0, 17), (1, 17), (2, 17), (3, 9)], true, 4, [.ptr, .ptr, .ptr, kS], 40, false⟩, ⟨.array 0 16, true, 0, [], 0, true⟩, ⟨.struct [(0, 200)], true, 0, [], 0, false⟩, ⟨.struct [(0, 200)], true, 0, [], 0, false⟩, mQ, ⟨.int IntKind.u8, false, 1, [.int IntKind.u8], 1, false⟩, ⟨.int IntKind.u8, false, 1, [.int IntKind.u8], 1, false⟩, mQ, ⟨.int IntKind.i32, false, 1, [.int IntKind.i32], 4, false⟩, ⟨.int IntKind.i32, false, 1, [.int IntKind.i32], 4, false⟩, ⟨.struct [(0, 12), (1, 12), (2, 122), (3, 204), (4, 5), (5, 5), (6, 205), (7, 206), (8, 185), (9, 207), (10, 208)], true, 11, [.int IntKind.u64, .int IntKind.u64, .int IntKind.u32, .int IntKind.u8, .int IntKind.u8, .int IntKind.u8, .int IntKind.u8, .other, .ptr, .int IntKind.i32, .int IntKind.i32], 48, false⟩, ⟨.struct [(0, 12), (1, 12), (2, 122), (3, 204), (4, 5), (5, 5), (6, 205), (7, 206), (8, 185), (9, 207), (10, 208)], true, 11, [.int IntKind.u64, .int IntKind.u64, .int IntKind.u32, .int IntKind.u8, .int IntKind.u8, .int IntKind.u8, .int IntKind.u8, .other, .ptr, .int IntKind.i32, .int IntKind.i32], 48, false⟩, ⟨.misc, false, 1, [.ptr], 8, false⟩]
noncomputable def tyT (t : TypeId) : TyI := if t < 90 then tb0.getD (t - 0) ⟨.other, false, 0, [], 0, false⟩ else if t < 180 then tb1.getD (t - 90) ⟨.other, false, 0, [], 0, false⟩ else if t < 212 then tb2.getD (t - 180) ⟨.other, false, 0, [], 0, false⟩ else layOf Tryz.prog t
def muT (f : FuncId) : Bool := memB f [5, 11, 19, 20, 21, 22, 23, 24, 31, 32, 36, 37, 38, 43, 50, 59, 62, 64, 65, 69]
def srT (f : FuncId) : Bool := memB f [5, 11, 19, 20, 21, 22, 23, 24, 36, 37, 38, 50, 64, 65]
def fzT (f : FuncId) : Bool := memB f []
noncomputable def LT : Lay := ⟨tyT, muT, srT, fzT⟩
noncomputable def tyF (t : TypeId) : TyI := { TyI.of (Tryz.prog.underlying t) (Tryz.prog.info? t) true with eq := (TyI.of (Tryz.prog.underlying t) (Tryz.prog.info? t) true).eq && eqsL.getD t false }
set_option maxRecDepth 100000 in
theorem tb_eq0 : (List.range' 0 90).map tyF = tb0 := by kernel_rfl
set_option maxRecDepth 100000 in
theorem tb_eq1 : (List.range' 90 90).map tyF = tb1 := by kernel_rfl
set_option maxRecDepth 100000 in
theorem tb_eq2 : (List.range' 180 32).map tyF = tb2 := by kernel_rfl
set_option maxRecDepth 100000 in
theorem eqs_eq : (List.range 212).map (eqOK Tryz.prog) = eqsL := by kernel_rfl
theorem TyI.of_eq (d : Option TypeDesc) (i : Option TypeInfo) (e : Bool) : TyI.of d i e = { TyI.of d i true with eq := (TyI.of d i true).eq && e } := by
  cases i <;> rfl
theorem tyF_eq {t : Nat} (h : t < 212) : tyF t = layOf Tryz.prog t := by
  have e : eqsL.getD t false = eqOK Tryz.prog t := by
    rw [← eqs_eq, List.getD_eq_getElem?_getD, List.getElem?_map, List.getElem?_range h]
    simp only [Option.map_some, Option.getD_some]
  unfold tyF layOf
  rw [e, ← TyI.of_eq]
theorem piece {a c : Nat} {f : Nat → TyI} {l : List TyI} (h : (List.range' a c).map f = l) {t : Nat} (h1 : a ≤ t) (h2 : t < a + c) (d : TyI) : l.getD (t - a) d = f t := by
  rw [← h, List.getD_eq_getElem?_getD, List.getElem?_map, List.getElem?_range' (by omega)]
  simp only [Option.map_some, Option.getD_some]
  congr 1; omega
theorem tyT_eq (t : Nat) : tyT t = layOf Tryz.prog t := by
  unfold tyT
  by_cases h0 : t < 90
  · rw [if_pos h0]; exact (piece (t := t) tb_eq0 (by omega) (by omega) _).trans (tyF_eq (by omega))
  rw [if_neg h0]
  by_cases h1 : t < 180
  · rw [if_pos h1]; exact (piece (t := t) tb_eq1 (by omega) (by omega) _).trans (tyF_eq (by omega))
  rw [if_neg h1]
  by_cases h2 : t < 212
  · rw [if_pos h2]; exact (piece (t := t) tb_eq2 (by omega) (by omega) _).trans (tyF_eq (by omega))
  exact if_neg h2
theorem LT_ty : LT.ty = layOf Tryz.prog := funext fun t => tyT_eq t
end Go.Proofs.YtnfjhadaclcgeaaGreatDoor
