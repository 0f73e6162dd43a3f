/- Contracts: characters of lights, channels. -/
import Derived.Test.YtlfnlgbojbgcnaaGreatDoorFya
namespace Go.Proofs.YtlfnlgbojbgcnaaGreatDoor
open Go Go.RowKit Classical
set_option maxRecDepth 100000
set_option maxHeartbeats 2000000
set_option linter.unusedVariables false
set_option linter.unusedSimpArgs false
structure Chr where
  kind : Int
  group : List Int
  letter : ByteArray
  colors : ByteArray
  period : Int
def Chr.cs (b : Bool) (v : Chr) : List AV := [.int .i64 v.kind, .sl b 1 (v.group.map intR), .str v.letter, .str v.colors, .int .i64 v.period]
theorem NoB.oChr (v : Chr) : NoB (.agg (v.cs true)) := (.aggC (.int _ _) (.aggC (.ints _) (.aggC (.str _) (.aggC (.str _) (.aggC (.int _ _) .agg0)))))
def Chr.sz (v : Chr) : Nat := v.group.length + v.letter.size + v.colors.size
theorem idxChr {E : Env} {np : Nat} {P : Program} (hE : E = stdE np P) {es : List (List AV)} {i : Int} {K : List AV → Prop} {l : List Chr} {b : Bool} (hl : es = l.map (Chr.cs b)) (h0 : 0 ≤ i ∧ i < l.length) (hk : ∀ (kind : Int) (group : List Int) (letter : ByteArray) (colors : ByteArray) (period : Int) (r_group : List (List AV)), l[i.toNat]? = some (Chr.mk kind group letter colors period) → r_group = group.map intR → K [.int .i64 kind, .sl b 1 r_group, .str letter, .str colors, .int .i64 period]) : E.idx es i K :=
  idxL hE hl h0 fun v hv => by
    obtain ⟨kind, group, letter, colors, period⟩ := v
    exact hk kind group letter colors period _ hv rfl
theorem idxChrV {E : Env} {np : Nat} {P : Program} (hE : E = stdE np P) {es : List (List AV)} {i : Int} {K : List AV → Prop} {l : List Chr} {b : Bool} {kind : Int} {group : List Int} {letter : ByteArray} {colors : ByteArray} {period : Int} {r_group : List (List AV)} (hl : es = l.map (Chr.cs b)) (h0 : 0 ≤ i) (hv : l[i.toNat]? = some (Chr.mk kind group letter colors period)) (h_group : r_group = group.map intR) (hk : K [.int .i64 kind, .sl b 1 r_group, .str letter, .str colors, .int .i64 period]) : E.idx es i K := by
  subst h_group
  exact idxV hE hl h0 hv hk
theorem callChr {E : Env} {np : Nat} {P : Program} (hE : E = stdE np P) {f : FuncId} {args : List AV} {K : AV → Prop} {kind : Int} {group : List Int} {letter : ByteArray} {colors : ByteArray} {period : Int} (h : AC P f args (fun v : Chr => .agg (v.cs true)) (Chr.mk kind group letter colors period)) (hk : ∀ (r_group : List (List AV)), r_group = group.map intR → K (.agg [.int .i64 kind, .sl true 1 r_group, .str letter, .str colors, .int .i64 period])) : E.call f args K :=
  callI hE h fun y hy => by subst hy; exact hk _ rfl
theorem szCharacter_ (kind : Int) (letter : ByteArray) (colors : ByteArray) (period : Int) {r_group : List (List AV)} {t_group : Bool} {group : List Int} (h_group : r_group = group.map intR) (n : Int) (hn : 0 ≤ n ∧ n ≤ 1048576) : AC Tryz.prog 50 [.agg [.int .i64 kind, .sl t_group 1 r_group, .str letter, .str colors, .int .i64 period], .int .i64 n] (AV.int .i64) (szN n (Chr.sz (Chr.mk kind group letter colors period))) := by
  refine ac Tryz.func50 (by kernel_rfl) (.int _ _) fun E K hE hK => ?_
  conv => cbv
  repeat' first
    | (refine callI hE (szInt64S_ _ (by assumption) (by omega)) (fun y hy => ?_); have hz := szN_or2 hy; clear hy; (try conv => cbv))
    | ((first
     | refine idxV hE (by assumption) (by omega) (by assumption) ?_
     | refine ltT hE (by omega) ?_
     | refine ltF hE (by omega) ?_
     | refine ltI hE (fun _ => ?_) (fun _ => ?_)
     | refine leT hE (by omega) ?_
     | refine leF hE (by omega) ?_
     | refine leI hE (fun _ => ?_) (fun _ => ?_)
     | refine eqT hE (by omega) ?_
     | refine eqF hE (by omega) ?_
     | refine eqI hE (fun _ => ?_) (fun _ => ?_)
     | refine add64 hE (by omega) (fun _ _ => ?_)
     | refine sub64 hE (by omega) (fun _ _ => ?_)
     | refine addI hE (fun _ _ => ?_)
     | refine subI hE (fun _ _ => ?_)
     | refine lenL hE (by assumption) (fun _ _ _ => ?_)
     | refine len0 hE (fun _ _ => ?_)
     | refine idxL hE (by assumption) (by first | omega | (simp only [List.length_set, mix_len]; omega)) (fun _ _ => ?_)
     | refine idxFill hE (by assumption) (by omega) ?_
     | refine idxI hE (by decide) (by rfl) ?_
     | refine iteB (fun _ => ?_) (fun _ => ?_)
     | refine maxI hE (fun _ _ => ?_)
     | refine minI hE (fun _ _ => ?_)
     | refine seqI hE (fun _ => ?_) (fun _ => ?_)
     | refine scatI hE (by first | omega | (simp only [ByteArray.size, Array.size, List.length_cons, List.length_nil] at *; omega)) (fun _ _ _ => ?_)
     | refine slenI hE (fun _ _ _ => ?_)
     | refine sidxI hE (by omega) (fun _ _ _ _ => ?_)
     | refine needI hE (by first | decide | omega) ?_
     | refine rem64 hE (by omega) (fun _ _ => ?_)
     | refine quo64 hE (by omega) (fun _ _ => ?_)
     | refine wrapU8 hE (by omega) (fun _ _ => ?_)
     | refine wrap64 hE (by omega) (fun _ _ => ?_)
     | refine noownI hE (by simp [AV.isOwn]) ?_) <;> (try conv => cbv))
  all_goals (refine hK _ ?_; show AV.int _ _ = AV.int _ _; congr 1; unfold szN Chr.sz; simp only at *; split <;> omega)
theorem toCharacter_ (kind : Int) (letter : ByteArray) (colors : ByteArray) (period : Int) {r_group : List (List AV)} {t_group : Bool} {group : List Int} (h_group : r_group = group.map intR) (hz : Chr.sz (Chr.mk kind group letter colors period) ≤ 1048576) : AC Tryz.prog 57 [.agg [.int .i64 kind, .sl t_group 1 r_group, .str letter, .str colors, .int .i64 period]] (fun v : Chr => .agg (v.cs true)) (Chr.mk kind group letter colors period) := by
  refine ac Tryz.func57 (by kernel_rfl) (.oChr _) fun E K hE hK => ?_
  conv => cbv
  have hz' := hz
  simp only [Chr.sz] at hz'
  repeat' first
    | ((first
     | refine idxV hE (by assumption) (by omega) (by assumption) ?_
     | refine callR hE (toInt64S_ (by assumption) (by omega)) (fun _ _ => ?_)
     | refine ltT hE (by omega) ?_
     | refine ltF hE (by omega) ?_
     | refine ltI hE (fun _ => ?_) (fun _ => ?_)
     | refine leT hE (by omega) ?_
     | refine leF hE (by omega) ?_
     | refine leI hE (fun _ => ?_) (fun _ => ?_)
     | refine eqT hE (by omega) ?_
     | refine eqF hE (by omega) ?_
     | refine eqI hE (fun _ => ?_) (fun _ => ?_)
     | refine add64 hE (by omega) (fun _ _ => ?_)
     | refine sub64 hE (by omega) (fun _ _ => ?_)
     | refine addI hE (fun _ _ => ?_)
     | refine subI hE (fun _ _ => ?_)
     | refine lenL hE (by assumption) (fun _ _ _ => ?_)
     | refine len0 hE (fun _ _ => ?_)
     | refine idxL hE (by assumption) (by first | omega | (simp only [List.length_set, mix_len]; omega)) (fun _ _ => ?_)
     | refine idxFill hE (by assumption) (by omega) ?_
     | refine idxI hE (by decide) (by rfl) ?_
     | refine iteB (fun _ => ?_) (fun _ => ?_)
     | refine maxI hE (fun _ _ => ?_)
     | refine minI hE (fun _ _ => ?_)
     | refine seqI hE (fun _ => ?_) (fun _ => ?_)
     | refine scatI hE (by first | omega | (simp only [ByteArray.size, Array.size, List.length_cons, List.length_nil] at *; omega)) (fun _ _ _ => ?_)
     | refine slenI hE (fun _ _ _ => ?_)
     | refine sidxI hE (by omega) (fun _ _ _ _ => ?_)
     | refine needI hE (by first | decide | omega) ?_
     | refine rem64 hE (by omega) (fun _ _ => ?_)
     | refine quo64 hE (by omega) (fun _ _ => ?_)
     | refine wrapU8 hE (by omega) (fun _ _ => ?_)
     | refine wrap64 hE (by omega) (fun _ _ => ?_)
     | refine noownI hE (by simp [AV.isOwn]) ?_) <;> (try conv => cbv))
  all_goals first
    | (refine hK _ ?_; subst_vars; rfl)
    | trace_state
theorem eqCharacter_ (kind : Int) (letter : ByteArray) (colors : ByteArray) (period : Int) (kind' : Int) (letter' : ByteArray) (colors' : ByteArray) (period' : Int) {r_group : List (List AV)} {t_group : Bool} {group : List Int} {r_group' : List (List AV)} {t_group' : Bool} {group' : List Int} (h_group : r_group = group.map intR) (h_group' : r_group' = group'.map intR) : AC Tryz.prog 64 [.agg [.int .i64 kind, .sl t_group 1 r_group, .str letter, .str colors, .int .i64 period], .agg [.int .i64 kind', .sl t_group' 1 r_group', .str letter', .str colors', .int .i64 period']] AV.bool (bP ((Chr.mk kind group letter colors period) = (Chr.mk kind' group' letter' colors' period'))) := by
  refine ac Tryz.func64 (by kernel_rfl) (.bool _) fun E K hE hK => ?_
  conv => cbv
  repeat' first
    | ((first
     | refine idxV hE (by assumption) (by omega) (by assumption) ?_
     | refine callP hE (eqInt64S_ (by assumption) (by assumption)) (fun _ => ?_) (fun _ => ?_)
     | refine ltT hE (by omega) ?_
     | refine ltF hE (by omega) ?_
     | refine ltI hE (fun _ => ?_) (fun _ => ?_)
     | refine leT hE (by omega) ?_
     | refine leF hE (by omega) ?_
     | refine leI hE (fun _ => ?_) (fun _ => ?_)
     | refine eqT hE (by omega) ?_
     | refine eqF hE (by omega) ?_
     | refine eqI hE (fun _ => ?_) (fun _ => ?_)
     | refine add64 hE (by omega) (fun _ _ => ?_)
     | refine sub64 hE (by omega) (fun _ _ => ?_)
     | refine addI hE (fun _ _ => ?_)
     | refine subI hE (fun _ _ => ?_)
     | refine lenL hE (by assumption) (fun _ _ _ => ?_)
     | refine len0 hE (fun _ _ => ?_)
     | refine idxL hE (by assumption) (by first | omega | (simp only [List.length_set, mix_len]; omega)) (fun _ _ => ?_)
     | refine idxFill hE (by assumption) (by omega) ?_
     | refine idxI hE (by decide) (by rfl) ?_
     | refine iteB (fun _ => ?_) (fun _ => ?_)
     | refine maxI hE (fun _ _ => ?_)
     | refine minI hE (fun _ _ => ?_)
     | refine seqI hE (fun _ => ?_) (fun _ => ?_)
     | refine scatI hE (by first | omega | (simp only [ByteArray.size, Array.size, List.length_cons, List.length_nil] at *; omega)) (fun _ _ _ => ?_)
     | refine slenI hE (fun _ _ _ => ?_)
     | refine sidxI hE (by omega) (fun _ _ _ _ => ?_)
     | refine needI hE (by first | decide | omega) ?_
     | refine rem64 hE (by omega) (fun _ _ => ?_)
     | refine quo64 hE (by omega) (fun _ _ => ?_)
     | refine wrapU8 hE (by omega) (fun _ _ => ?_)
     | refine wrap64 hE (by omega) (fun _ _ => ?_)
     | refine noownI hE (by simp [AV.isOwn]) ?_) <;> (try conv => cbv))
  all_goals (clear h_group h_group')
  all_goals first | (refine finB hK (bP_true.2 ?_); simp only [Chr.mk.injEq] at *; simp_all; done) | (refine finB hK (bP_false.2 ?_); simp only [Chr.mk.injEq] at *; simp_all; done)
structure Chn where
  name : ByteArray
  line : List Pnt
  width : Int
def Chn.cs (b : Bool) (v : Chn) : List AV := [.str v.name, .sl b 2 (v.line.map Pnt.cs), .int .i64 v.width]
theorem NoB.oChn (v : Chn) : NoB (.agg (v.cs true)) := (.aggC (.str _) (.aggC (.rows .oPnt) (.aggC (.int _ _) .agg0)))
def Chn.sz (v : Chn) : Nat := v.name.size + v.line.length
theorem idxChn {E : Env} {np : Nat} {P : Program} (hE : E = stdE np P) {es : List (List AV)} {i : Int} {K : List AV → Prop} {l : List Chn} {b : Bool} (hl : es = l.map (Chn.cs b)) (h0 : 0 ≤ i ∧ i < l.length) (hk : ∀ (name : ByteArray) (line : List Pnt) (width : Int) (r_line : List (List AV)), l[i.toNat]? = some (Chn.mk name line width) → r_line = line.map Pnt.cs → K [.str name, .sl b 2 r_line, .int .i64 width]) : E.idx es i K :=
  idxL hE hl h0 fun v hv => by
    obtain ⟨name, line, width⟩ := v
    exact hk name line width _ hv rfl
theorem idxChnV {E : Env} {np : Nat} {P : Program} (hE : E = stdE np P) {es : List (List AV)} {i : Int} {K : List AV → Prop} {l : List Chn} {b : Bool} {name : ByteArray} {line : List Pnt} {width : Int} {r_line : List (List AV)} (hl : es = l.map (Chn.cs b)) (h0 : 0 ≤ i) (hv : l[i.toNat]? = some (Chn.mk name line width)) (h_line : r_line = line.map Pnt.cs) (hk : K [.str name, .sl b 2 r_line, .int .i64 width]) : E.idx es i K := by
  subst h_line
  exact idxV hE hl h0 hv hk
theorem callChn {E : Env} {np : Nat} {P : Program} (hE : E = stdE np P) {f : FuncId} {args : List AV} {K : AV → Prop} {name : ByteArray} {line : List Pnt} {width : Int} (h : AC P f args (fun v : Chn => .agg (v.cs true)) (Chn.mk name line width)) (hk : ∀ (r_line : List (List AV)), r_line = line.map Pnt.cs → K (.agg [.str name, .sl true 2 r_line, .int .i64 width])) : E.call f args K :=
  callI hE h fun y hy => by subst hy; exact hk _ rfl
end Go.Proofs.YtlfnlgbojbgcnaaGreatDoor
