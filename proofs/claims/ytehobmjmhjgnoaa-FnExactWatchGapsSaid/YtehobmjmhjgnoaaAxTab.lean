/- The table of this program's types. -/
import Derived.Test.YtehobmjmhjgnoaaAxF
namespace Go.Proofs.Ytehobmjmhjgnoaa
open Go Go.RowKit

def mQ : TyI := ⟨.misc, false, 1, [.other], 8, false⟩
def mZ : TyI := ⟨.misc, false, 1, [.other], 0, false⟩
def mP (n : TypeId) : TyI := ⟨.ptr n, false, 1, [.ptr], 8, false⟩
def mS (n : TypeId) : TyI := ⟨.slice n, false, 1, [.slice], 24, false⟩
def kI : Z := .int .i64
def kS : Z := .str
def kL : Z := .slice
def eqsL : List Bool := (List.range 121).map fun i => memB i [7, 8, 35, 36, 41, 108]
def tb0 : List TyI := [mZ, mQ, ⟨.int .i64, false, 1, [.int .i64], 8, false⟩, ⟨.int .i64, false, 1, [.int .i64], 8, false⟩, ⟨.bool, false, 1, [.bool], 1, false⟩, ⟨.int IntKind.u8, false, 1, [.int IntKind.u8], 1, false⟩, ⟨.int IntKind.u8, false, 1, [.int IntKind.u8], 1, false⟩, ⟨.struct [(0, 2), (1, 3), (2, 4), (3, 6)], true, 4, [kI, kI, .bool, .int IntKind.u8], 24, true⟩, ⟨.struct [(0, 2), (1, 3), (2, 4), (3, 6)], true, 4, [kI, kI, .bool, .int IntKind.u8], 24, true⟩, ⟨.str, false, 1, [.str], 16, false⟩, ⟨.str, false, 1, [.str], 16, false⟩, ⟨.str, false, 1, [.str], 16, false⟩, ⟨.int IntKind.u64, false, 1, [.int IntKind.u64], 8, false⟩, ⟨.struct [(0, 9), (1, 12)], true, 2, [kS, .int IntKind.u64], 24, false⟩, ⟨.struct [(0, 9), (1, 12)], true, 2, [kS, .int IntKind.u64], 24, false⟩, mP 107, mP 110, mP 119, ⟨.struct [(0, 17)], true, 1, [.ptr], 8, false⟩, ⟨.struct [(0, 17)], true, 1, [.ptr], 8, false⟩, ⟨.misc, false, 1, [.other], 16, false⟩, ⟨.int IntKind.i32, false, 1, [.int IntKind.i32], 4, false⟩, mS 36, mQ, mS 39, mZ, mQ, mS 41, mQ, mQ, mQ, mQ, mQ, mQ, mQ, ⟨.struct [(0, 9), (1, 2), (2, 2)], true, 3, [kS, kI, kI], 32, true⟩, ⟨.struct [(0, 9), (1, 2), (2, 2)], true, 3, [kS, kI, kI], 32, true⟩, mQ, mQ, mS 2, mQ, ⟨.struct [(0, 9), (1, 2), (2, 2)], true, 3, [kS, kI, kI], 32, true⟩, mQ, mQ, mQ, mQ, mS 9, mQ, mQ, mQ, mQ, mQ, mQ, mQ, mQ, mQ, ⟨.int IntKind.u64, false, 1, [.int IntKind.u64], 8, false⟩, mQ, mS 5, mQ, mP 41, mQ, mQ, mQ, mQ, mQ, ⟨.int .i64, false, 1, [.int .i64], 8, false⟩, mZ, mQ, mQ, mQ, mQ, mZ, mQ, mQ, ⟨.int IntKind.u32, false, 1, [.int IntKind.u32], 4, false⟩, mQ, ⟨.int IntKind.u64, false, 1, [.int IntKind.u64], 8, false⟩, mQ, mQ, mQ, mQ, mQ, mQ, ⟨.int IntKind.u64, false, 1, [.int IntKind.u64], 8, false⟩, mQ, mQ, mQ, mP 3, mQ]
def tb1 : List TyI := [mQ, mQ, mQ, mQ, mQ, mQ, mQ, mS 3, mQ, mP 84, mZ, mQ, mQ, mQ, mQ, mQ, ⟨.struct [(0, 17), (1, 17), (2, 17), (3, 9)], true, 4, [.ptr, .ptr, .ptr, kS], 40, false⟩, ⟨.struct [(0, 17), (1, 17), (2, 17), (3, 9)], true, 4, [.ptr, .ptr, .ptr, kS], 40, false⟩, ⟨.array 0 16, true, 0, [], 0, true⟩, ⟨.struct [(0, 108)], true, 0, [], 0, false⟩, ⟨.struct [(0, 108)], true, 0, [], 0, false⟩, mQ, ⟨.int IntKind.u8, false, 1, [.int IntKind.u8], 1, false⟩, ⟨.int IntKind.u8, false, 1, [.int IntKind.u8], 1, false⟩, mQ, mP 5, ⟨.int IntKind.i32, false, 1, [.int IntKind.i32], 4, false⟩, ⟨.int IntKind.i32, false, 1, [.int IntKind.i32], 4, false⟩, ⟨.struct [(0, 12), (1, 12), (2, 75), (3, 112), (4, 5), (5, 5), (6, 113), (7, 114), (8, 115), (9, 116), (10, 117)], true, 11, [.int IntKind.u64, .int IntKind.u64, .int IntKind.u32, .int IntKind.u8, .int IntKind.u8, .int IntKind.u8, .int IntKind.u8, .other, .ptr, .int IntKind.i32, .int IntKind.i32], 48, false⟩, ⟨.struct [(0, 12), (1, 12), (2, 75), (3, 112), (4, 5), (5, 5), (6, 113), (7, 114), (8, 115), (9, 116), (10, 117)], true, 11, [.int IntKind.u64, .int IntKind.u64, .int IntKind.u32, .int IntKind.u8, .int IntKind.u8, .int IntKind.u8, .int IntKind.u8, .other, .ptr, .int IntKind.i32, .int IntKind.i32], 48, false⟩, ⟨.misc, false, 1, [.ptr], 8, false⟩]
noncomputable def tyT (t : TypeId) : TyI := if t < 90 then tb0.getD (t - 0) ⟨.other, false, 0, [], 0, false⟩ else if t < 121 then tb1.getD (t - 90) ⟨.other, false, 0, [], 0, false⟩ else layOf Try.prog t
def muT (f : FuncId) : Bool := memB f [10, 11, 21, 22, 27, 35]
def srT (f : FuncId) : Bool := memB f []
def fzT (f : FuncId) : Bool := memB f []
noncomputable def LT : Lay := ⟨tyT, muT, srT, fzT⟩
noncomputable def tyF (t : TypeId) : TyI := { TyI.of (Try.prog.underlying t) (Try.prog.info? t) true with eq := (TyI.of (Try.prog.underlying t) (Try.prog.info? t) true).eq && eqsL.getD t false }
set_option maxRecDepth 100000 in
theorem tb_eq0 : (List.range' 0 90).map tyF = tb0 := by kernel_rfl
set_option maxRecDepth 100000 in
theorem tb_eq1 : (List.range' 90 31).map tyF = tb1 := by kernel_rfl
set_option maxRecDepth 100000 in
theorem eqs_eq : (List.range 121).map (eqOK Try.prog) = eqsL := by kernel_rfl
theorem TyI.of_eq (d : Option TypeDesc) (i : Option TypeInfo) (e : Bool) : TyI.of d i e = { TyI.of d i true with eq := (TyI.of d i true).eq && e } := by
  cases i <;> rfl
theorem tyF_eq {t : Nat} (h : t < 121) : tyF t = layOf Try.prog t := by
  have e : eqsL.getD t false = eqOK Try.prog t := by
    rw [← eqs_eq, List.getD_eq_getElem?_getD, List.getElem?_map, List.getElem?_range h]
    simp only [Option.map_some, Option.getD_some]
  unfold tyF layOf
  rw [e, ← TyI.of_eq]
theorem piece {a c : Nat} {f : Nat → TyI} {l : List TyI} (h : (List.range' a c).map f = l) {t : Nat} (h1 : a ≤ t) (h2 : t < a + c) (d : TyI) : l.getD (t - a) d = f t := by
  rw [← h, List.getD_eq_getElem?_getD, List.getElem?_map, List.getElem?_range' (by omega)]
  simp only [Option.map_some, Option.getD_some]
  congr 1; omega
theorem tyT_eq (t : Nat) : tyT t = layOf Try.prog t := by
  unfold tyT
  by_cases h0 : t < 90
  · rw [if_pos h0]; exact (piece (t := t) tb_eq0 (by omega) (by omega) _).trans (tyF_eq (by omega))
  rw [if_neg h0]
  by_cases h1 : t < 121
  · rw [if_pos h1]; exact (piece (t := t) tb_eq1 (by omega) (by omega) _).trans (tyF_eq (by omega))
  exact if_neg h1
theorem LT_ty : LT.ty = layOf Try.prog := funext fun t => tyT_eq t
end Go.Proofs.Ytehobmjmhjgnoaa
