/- The table of this program's types. -/
import Derived.Test.YtpfddoikhmbebaaGreatDoorAxF
namespace Go.Proofs.YtpfddoikhmbebaaGreatDoor
open Go Go.RowKit
def mQ:TyI:=⟨.misc,false,1,[.other],8,false⟩
def mZ:TyI:=⟨.misc,false,1,[.other],0,false⟩
def mP (n:TypeId):TyI:=⟨.ptr n,false,1,[.ptr],8,false⟩
def mS (n:TypeId):TyI:=⟨.slice n,false,1,[.slice],24,false⟩
def kI:Z:= .int .i64
def kS:Z:= .str
def kL:Z:= .slice
def eqsL:List Bool:=(List.range 442).map λi=>memB i [7,8,28,29,30,31,33,34,44,45,47,48,77,78,79,80,83,84,102,103,104,105,107,108,110,111,114,115,116,117,119,120,122,123,128,129,131,132,134,135,138,139,141,142,144,145,146,147,155,156,234,235,237,282,283,299,300,325,362,364,374,375,392,400,401,405,406,409,412,413,415,416,418,419,428]
def tb0:List TyI:=[mZ,mQ,⟨.int .i64,false,1,[.int .i64],8,false⟩,⟨.int .i64,false,1,[.int .i64],8,false⟩,⟨.bool,false,1,[.bool],1,false⟩,⟨.int IntKind.u8,false,1,[.int IntKind.u8],1,false⟩,⟨.int IntKind.u8,false,1,[.int IntKind.u8],1,false⟩,⟨.struct [(0,2),(1,3),(2,4),(3,6)],true,4,[kI,kI,.bool,.int IntKind.u8],24,true⟩,⟨.struct [(0,2),(1,3),(2,4),(3,6)],true,4,[kI,kI,.bool,.int IntKind.u8],24,true⟩,⟨.str,false,1,[.str],16,false⟩,⟨.str,false,1,[.str],16,false⟩,⟨.str,false,1,[.str],16,false⟩,⟨.int IntKind.u64,false,1,[.int IntKind.u64],8,false⟩,⟨.struct [(0,9),(1,12)],true,2,[kS,.int IntKind.u64],24,false⟩,⟨.struct [(0,9),(1,12)],true,2,[kS,.int IntKind.u64],24,false⟩,mP 427,mP 430,mP 439,⟨.struct [(0,17)],true,1,[.ptr],8,false⟩,⟨.struct [(0,17)],true,1,[.ptr],8,false⟩,⟨.misc,false,1,[.other],16,false⟩,⟨.int IntKind.i32,false,1,[.int IntKind.i32],4,false⟩,mS 108,mS 111,mS 117,mS 120,mS 145,mS 2,⟨.struct [(0,9),(1,2),(2,2),(3,2)],true,4,[kS,kI,kI,kI],40,true⟩,⟨.struct [(0,9),(1,2),(2,2),(3,2)],true,4,[kS,kI,kI,kI],40,true⟩,⟨.struct [(0,2),(1,2)],true,2,[kI,kI],16,true⟩,⟨.struct [(0,2),(1,2)],true,2,[kI,kI],16,true⟩,mS 123,⟨.struct [(0,22),(1,23),(2,2),(3,24),(4,25),(5,2),(6,26),(7,2),(8,27),(9,29),(13,31),(15,32),(16,27),(17,2)],true,18,[kL,kL,kI,kL,kL,kI,kL,kI,kL,kS,kI,kI,kI,kI,kI,kL,kL,kI],280,true⟩,⟨.struct [(0,22),(1,23),(2,2),(3,24),(4,25),(5,2),(6,26),(7,2),(8,27),(9,29),(13,31),(15,32),(16,27),(17,2)],true,18,[kL,kL,kI,kL,kL,kI,kL,kI,kL,kS,kI,kI,kI,kI,kI,kL,kL,kI],280,true⟩,mQ,mS 84,mZ,mQ,mS 132,mS 135,mS 80,mS 139,mS 142,⟨.struct [(0,9),(1,2),(2,2),(3,2)],true,4,[kS,kI,kI,kI],40,true⟩,⟨.struct [(0,2),(1,2)],true,2,[kI,kI],16,true⟩,mS 147,⟨.struct [(0,39),(1,40),(2,2),(3,41),(4,42),(5,2),(6,43),(7,2),(8,27),(9,44),(13,45),(15,46),(16,27),(17,2)],true,18,[kL,kL,kI,kL,kL,kI,kL,kI,kL,kS,kI,kI,kI,kI,kI,kL,kL,kI],280,true⟩,⟨.struct [(0,39),(1,40),(2,2),(3,41),(4,42),(5,2),(6,43),(7,2),(8,27),(9,44),(13,45),(15,46),(16,27),(17,2)],true,18,[kL,kL,kI,kL,kL,kI,kL,kI,kL,kS,kI,kI,kI,kI,kI,kL,kL,kI],280,true⟩,mQ,mQ,mQ,mQ,mQ,mQ,mQ,mQ,mQ,mQ,mQ,mQ,mQ,mQ,mQ,mP 48,mQ,mQ,mQ,mQ,mQ,mQ,mQ,mQ,mQ,mZ,mQ,mS 45,⟨.struct [(0,9),(1,76),(2,2)],true,3,[kS,kL,kI],48,true⟩,⟨.struct [(0,9),(1,76),(2,2)],true,3,[kS,kL,kI],48,true⟩,⟨.struct [(0,78),(3,2),(4,2)],true,5,[kS,kL,kI,kI,kI],64,true⟩,⟨.struct [(0,78),(3,2),(4,2)],true,5,[kS,kL,kI,kI,kI],64,true⟩,mQ,mQ,⟨.struct [(0,2),(1,9),(2,9)],true,3,[kI,kS,kS],40,true⟩,⟨.struct [(0,2),(1,9),(2,9)],true,3,[kI,kS,kS],40,true⟩,mQ,mQ,mQ,mQ,mQ]
def tb1:List TyI:=[mQ,mQ,mQ,mQ,mQ,mQ,mQ,mQ,mQ,mQ,mQ,mQ,⟨.struct [(0,2),(1,9),(2,9),(3,9)],true,4,[kI,kS,kS,kS],56,true⟩,⟨.struct [(0,2),(1,9),(2,9),(3,9)],true,4,[kI,kS,kS,kS],56,true⟩,⟨.struct [(0,2),(1,27),(2,9),(3,9),(4,2)],true,5,[kI,kL,kS,kS,kI],72,true⟩,⟨.struct [(0,2),(1,27),(2,9),(3,9),(4,2)],true,5,[kI,kL,kS,kS,kI],72,true⟩,mS 237,⟨.struct [(0,2),(1,9),(2,31),(4,2),(5,103),(9,105),(14,106),(15,2)],true,16,[kI,kS,kI,kI,kI,kI,kS,kS,kS,kI,kL,kS,kS,kI,kL,kI],208,true⟩,⟨.struct [(0,2),(1,9),(2,31),(4,2),(5,103),(9,105),(14,106),(15,2)],true,16,[kI,kS,kI,kI,kI,kI,kS,kS,kS,kI,kL,kS,kS,kI,kL,kI],208,true⟩,mQ,⟨.struct [(0,2),(1,2),(2,2),(3,2),(4,108)],true,20,[kI,kI,kI,kI,kI,kS,kI,kI,kI,kI,kS,kS,kS,kI,kL,kS,kS,kI,kL,kI],240,true⟩,⟨.struct [(0,2),(1,2),(2,2),(3,2),(4,108)],true,20,[kI,kI,kI,kI,kI,kS,kI,kI,kI,kI,kS,kS,kS,kI,kL,kS,kS,kI,kL,kI],240,true⟩,mQ,mS 31,⟨.struct [(0,9),(1,113),(2,2)],true,3,[kS,kL,kI],48,true⟩,⟨.struct [(0,9),(1,113),(2,2)],true,3,[kS,kL,kI],48,true⟩,⟨.struct [(0,115),(3,2),(4,2)],true,5,[kS,kL,kI,kI,kI],64,true⟩,⟨.struct [(0,115),(3,2),(4,2)],true,5,[kS,kL,kI,kI,kI],64,true⟩,mQ,⟨.struct [(0,9),(1,31),(3,2)],true,4,[kS,kI,kI,kI],40,true⟩,⟨.struct [(0,9),(1,31),(3,2)],true,4,[kS,kI,kI,kI],40,true⟩,mQ,⟨.struct [(0,9),(1,31),(3,2),(4,2),(5,2),(6,2)],true,7,[kS,kI,kI,kI,kI,kI,kI],64,true⟩,⟨.struct [(0,9),(1,31),(3,2),(4,2),(5,2),(6,2)],true,7,[kS,kI,kI,kI,kI,kI,kI],64,true⟩,mQ,mQ,mQ,mQ,⟨.struct [(0,2),(1,9),(2,9),(3,9)],true,4,[kI,kS,kS,kS],56,true⟩,⟨.struct [(0,2),(1,27),(2,9),(3,9),(4,2)],true,5,[kI,kL,kS,kS,kI],72,true⟩,mS 235,⟨.struct [(0,2),(1,9),(2,45),(4,2),(5,128),(9,129),(14,130),(15,2)],true,16,[kI,kS,kI,kI,kI,kI,kS,kS,kS,kI,kL,kS,kS,kI,kL,kI],208,true⟩,⟨.struct [(0,2),(1,9),(2,45),(4,2),(5,128),(9,129),(14,130),(15,2)],true,16,[kI,kS,kI,kI,kI,kI,kS,kS,kS,kI,kL,kS,kS,kI,kL,kI],208,true⟩,mQ,⟨.struct [(0,2),(1,2),(2,2),(3,2),(4,132)],true,20,[kI,kI,kI,kI,kI,kS,kI,kI,kI,kI,kS,kS,kS,kI,kL,kS,kS,kI,kL,kI],240,true⟩,⟨.struct [(0,2),(1,2),(2,2),(3,2),(4,132)],true,20,[kI,kI,kI,kI,kI,kS,kI,kI,kI,kI,kS,kS,kS,kI,kL,kS,kS,kI,kL,kI],240,true⟩,mQ,mQ,⟨.struct [(0,9),(1,45),(3,2)],true,4,[kS,kI,kI,kI],40,true⟩,⟨.struct [(0,9),(1,45),(3,2)],true,4,[kS,kI,kI,kI],40,true⟩,mQ,⟨.struct [(0,45),(2,2),(3,2)],true,4,[kI,kI,kI,kI],32,true⟩,⟨.struct [(0,45),(2,2),(3,2)],true,4,[kI,kI,kI,kI],32,true⟩,mQ,⟨.struct [(0,31),(2,2),(3,2)],true,4,[kI,kI,kI,kI],32,true⟩,⟨.struct [(0,31),(2,2),(3,2)],true,4,[kI,kI,kI,kI],32,true⟩,⟨.struct [(0,9),(1,45),(3,2),(4,2),(5,2),(6,2)],true,7,[kS,kI,kI,kI,kI,kI,kI],64,true⟩,⟨.struct [(0,9),(1,45),(3,2),(4,2),(5,2),(6,2)],true,7,[kS,kI,kI,kI,kI,kI,kI],64,true⟩,mQ,mQ,mQ,mS 156,mZ,mQ,mQ,⟨.struct [(0,45),(2,2)],true,3,[kI,kI,kI],24,true⟩,⟨.struct [(0,45),(2,2)],true,3,[kI,kI,kI],24,true⟩,mQ,mQ,mZ,mQ,mQ,mQ,mQ,mQ,mQ,mQ,mQ,mQ,mQ,mQ,mS 5,mQ,mQ,mQ,mQ,mQ,mQ,mQ,mQ]
def tb2:List TyI:=[mQ,mP 44,mQ,mQ,mQ,mQ,mS 300,mZ,mQ,mQ,mZ,mQ,mQ,mP 80,mQ,mP 78,mS 9,mQ,mQ,mQ,mQ,mP 132,mQ,mP 129,mQ,mS 27,mZ,mQ,mQ,mQ,mQ,mQ,mQ,mQ,mQ,mQ,mQ,mQ,mQ,mQ,mQ,mQ,mQ,mQ,mQ,mQ,mQ,mQ,mQ,mQ,mQ,mQ,mQ,mQ,⟨.struct [(0,2),(1,2),(2,9)],true,3,[kI,kI,kS],32,true⟩,⟨.struct [(0,2),(1,2),(2,9)],true,3,[kI,kI,kS],32,true⟩,mQ,⟨.struct [(0,2),(1,2),(2,9)],true,3,[kI,kI,kS],32,true⟩,mQ,mP 135,mQ,mQ,mQ,mQ,mP 142,mQ,mQ,mP 147,mQ,mZ,mQ,mQ,mQ,mQ,mQ,mQ,mQ,mQ,mQ,mQ,mQ,mP 235,mQ,mS 265,mQ,mS 3,mQ,mQ,mP 139,mQ]
def tb3:List TyI:=[mQ,mQ,mS 283,mZ,mQ,mQ,mQ,mQ,mQ,mQ,mQ,mQ,⟨.struct [(0,2),(1,45),(3,45)],true,5,[kI,kI,kI,kI,kI],40,true⟩,⟨.struct [(0,2),(1,45),(3,45)],true,5,[kI,kI,kI,kI,kI],40,true⟩,mQ,mQ,mQ,mQ,mQ,mQ,mQ,mQ,mQ,mQ,mQ,mQ,mQ,mQ,mQ,⟨.struct [(0,2),(1,2),(2,2),(3,2)],true,4,[kI,kI,kI,kI],32,true⟩,⟨.struct [(0,2),(1,2),(2,2),(3,2)],true,4,[kI,kI,kI,kI],32,true⟩,mZ,mQ,mQ,mQ,mQ,mQ,mQ,mS 4,mQ,mQ,mQ,mQ,mQ,mQ,mQ,mQ,mQ,mQ,mQ,mQ,mQ,mQ,mZ,mQ,⟨.array 24 5,true,24,List.replicate 24 (.int IntKind.u8),24,true⟩,⟨.int IntKind.u64,false,1,[.int IntKind.u64],8,false⟩,mQ,mQ,mZ,mQ,mQ,mP 128,mQ,mQ,mQ,mQ,mQ,mQ,mQ,mQ,mQ,mQ,mS 375,mQ,mQ,mZ,mQ,mQ,mQ,mQ,mQ,mZ,mQ,mQ,mQ,mQ,mQ,mQ,⟨.int IntKind.u64,false,1,[.int IntKind.u64],8,false⟩]
def tb4:List TyI:=[mQ,mQ,⟨.array 20 326,true,20,List.replicate 20 (.int IntKind.u64),160,true⟩,⟨.int IntKind.u32,false,1,[.int IntKind.u32],4,false⟩,⟨.array 65 5,true,65,List.replicate 65 (.int IntKind.u8),65,true⟩,mQ,mQ,mQ,mQ,mQ,mQ,mQ,mQ,mQ,⟨.struct [(0,9),(1,2)],true,2,[kS,kI],24,true⟩,⟨.struct [(0,9),(1,2)],true,2,[kS,kI],24,true⟩,mQ,mQ,mQ,mQ,mQ,mQ,mQ,mQ,mQ,mQ,mQ,mQ,mQ,mQ,mQ,mQ,⟨.array 256 5,true,256,List.replicate 256 (.int IntKind.u8),256,true⟩,mQ,mQ,mQ,mQ,mZ,mQ,mQ,⟨.array 32 5,true,32,List.replicate 32 (.int IntKind.u8),32,true⟩,⟨.array 64 5,true,64,List.replicate 64 (.int IntKind.u8),64,true⟩,mQ,mQ,mS 406,⟨.struct [(0,3),(1,3)],true,2,[kI,kI],16,true⟩,⟨.struct [(0,3),(1,3)],true,2,[kI,kI],16,true⟩,mQ,mP 413,⟨.array 26 9,true,26,List.replicate 26 (.str),416,true⟩,mS 416,mS 419,⟨.struct [(0,410),(1,411),(2,3)],true,3,[kL,kL,kI],56,true⟩,⟨.struct [(0,410),(1,411),(2,3)],true,3,[kL,kL,kI],56,true⟩,⟨.int IntKind.u16,false,1,[.int IntKind.u16],2,false⟩,⟨.struct [(0,414),(1,414),(2,414)],true,3,[.int IntKind.u16,.int IntKind.u16,.int IntKind.u16],6,true⟩,⟨.struct [(0,414),(1,414),(2,414)],true,3,[.int IntKind.u16,.int IntKind.u16,.int IntKind.u16],6,true⟩,mQ,⟨.struct [(0,363),(1,363),(2,363)],true,3,[.int IntKind.u32,.int IntKind.u32,.int IntKind.u32],12,true⟩,⟨.struct [(0,363),(1,363),(2,363)],true,3,[.int IntKind.u32,.int IntKind.u32,.int IntKind.u32],12,true⟩,mQ,mP 416,mP 419,mZ,mQ,mQ,⟨.struct [(0,17),(1,17),(2,17),(3,9)],true,4,[.ptr,.ptr,.ptr,kS],40,false⟩,⟨.struct [(0,17),(1,17),(2,17),(3,9)],true,4,[.ptr,.ptr,.ptr,kS],40,false⟩,⟨.array 0 16,true,0,[],0,true⟩,⟨.struct [(0,428)],true,0,[],0,false⟩,⟨.struct [(0,428)],true,0,[],0,false⟩,mQ,⟨.int IntKind.u8,false,1,[.int IntKind.u8],1,false⟩,⟨.int IntKind.u8,false,1,[.int IntKind.u8],1,false⟩,mQ,mP 5,⟨.int IntKind.i32,false,1,[.int IntKind.i32],4,false⟩,⟨.int IntKind.i32,false,1,[.int IntKind.i32],4,false⟩,⟨.struct [(0,12),(1,12),(2,363),(3,432),(4,5),(5,5),(6,433),(7,434),(8,435),(9,436),(10,437)],true,11,[.int IntKind.u64,.int IntKind.u64,.int IntKind.u32,.int IntKind.u8,.int IntKind.u8,.int IntKind.u8,.int IntKind.u8,.other,.ptr,.int IntKind.i32,.int IntKind.i32],48,false⟩,⟨.struct [(0,12),(1,12),(2,363),(3,432),(4,5),(5,5),(6,433),(7,434),(8,435),(9,436),(10,437)],true,11,[.int IntKind.u64,.int IntKind.u64,.int IntKind.u32,.int IntKind.u8,.int IntKind.u8,.int IntKind.u8,.int IntKind.u8,.other,.ptr,.int IntKind.i32,.int IntKind.i32],48,false⟩,mQ,⟨.misc,false,1,[.ptr],8,false⟩]
noncomputable def tyT (t:TypeId):TyI:=if t<90 then tb0.getD (t - 0) ⟨.other,false,0,[],0,false⟩ else if t<180 then tb1.getD (t - 90) ⟨.other,false,0,[],0,false⟩ else if t<270 then tb2.getD (t - 180) ⟨.other,false,0,[],0,false⟩ else if t<360 then tb3.getD (t - 270) ⟨.other,false,0,[],0,false⟩ else if t<442 then tb4.getD (t - 360) ⟨.other,false,0,[],0,false⟩ else layOf Tryz.prog t
def muT (f:FuncId):Bool:=memB f [10,11,43,44,45,46,47,48,49,58,84,85,136,196,294,295,386]
def srT (f:FuncId):Bool:=memB f [58,196]
def fzT (f:FuncId):Bool:=memB f []
noncomputable def LT:Lay:=⟨tyT,muT,srT,fzT⟩
noncomputable def tyF (t:TypeId):TyI:={ TyI.of (Tryz.prog.underlying t) (Tryz.prog.info? t) true with eq:=(TyI.of (Tryz.prog.underlying t) (Tryz.prog.info? t) true).eq && eqsL.getD t false }
set_option maxRecDepth 100000 in
theorem tb_eq0:(List.range' 0 90).map tyF=tb0:=by kernel_rfl
set_option maxRecDepth 100000 in
theorem tb_eq1:(List.range' 90 90).map tyF=tb1:=by kernel_rfl
set_option maxRecDepth 100000 in
theorem tb_eq2:(List.range' 180 90).map tyF=tb2:=by kernel_rfl
set_option maxRecDepth 100000 in
theorem tb_eq3:(List.range' 270 90).map tyF=tb3:=by kernel_rfl
set_option maxRecDepth 100000 in
theorem tb_eq4:(List.range' 360 82).map tyF=tb4:=by kernel_rfl
set_option maxRecDepth 100000 in
theorem eqs_eq:(List.range 442).map (eqOK Tryz.prog)=eqsL:=by kernel_rfl
theorem TyI.of_eq (d:Option TypeDesc) (i:Option TypeInfo) (e:Bool):TyI.of d i e={ TyI.of d i true with eq:=(TyI.of d i true).eq && e }:=by
  cases i<;>rfl
theorem tyF_eq {t:Nat} (h:t<442):tyF t=layOf Tryz.prog t:=by
  have e:eqsL.getD t false=eqOK Tryz.prog t:=by
    rw [←eqs_eq,List.getD_eq_getElem?_getD,List.getElem?_map,List.getElem?_range h]
    simp only [Option.map_some,Option.getD_some]
  unfold tyF layOf
  rw [e,←TyI.of_eq]
theorem piece {a c:Nat} {f:Nat->TyI} {l:List TyI} (h:(List.range' a c).map f=l) {t:Nat} (h1:a<=t) (h2:t<a+c) (d:TyI):l.getD (t - a) d=f t:=by
  rw [←h,List.getD_eq_getElem?_getD,List.getElem?_map,List.getElem?_range' (by omega)]
  simp only [Option.map_some,Option.getD_some]
  congr 1;omega
theorem tyT_eq (t:Nat):tyT t=layOf Tryz.prog t:=by
  unfold tyT
  by_cases h0:t<90
  · rw [if_pos h0];exact (piece (t:=t) tb_eq0 (by omega) (by omega) _).trans (tyF_eq (by omega))
  rw [if_neg h0]
  by_cases h1:t<180
  · rw [if_pos h1];exact (piece (t:=t) tb_eq1 (by omega) (by omega) _).trans (tyF_eq (by omega))
  rw [if_neg h1]
  by_cases h2:t<270
  · rw [if_pos h2];exact (piece (t:=t) tb_eq2 (by omega) (by omega) _).trans (tyF_eq (by omega))
  rw [if_neg h2]
  by_cases h3:t<360
  · rw [if_pos h3];exact (piece (t:=t) tb_eq3 (by omega) (by omega) _).trans (tyF_eq (by omega))
  rw [if_neg h3]
  by_cases h4:t<442
  · rw [if_pos h4];exact (piece (t:=t) tb_eq4 (by omega) (by omega) _).trans (tyF_eq (by omega))
  exact if_neg h4
theorem LT_ty:LT.ty=layOf Tryz.prog:=funext λt=>tyT_eq t
end Go.Proofs.YtpfddoikhmbebaaGreatDoor
