/- How a function's contract is shown: the steps that the evaluation leaves open. -/
import Derived.Test.YtlemeenicaidfaaGreatDoorAxTab
import Derived.IntWalk
import Derived.Deep.Slices
import Derived.ChangeArms
import Derived.Carry
import Derived.WideKeyArgs
import Derived.ProofKit
import Derived.OpenShut
namespace Go.Proofs.YtlemeenicaidfaaGreatDoor
set_option linter.unusedVariables false
set_option linter.unusedSimpArgs false
open Go Go.RowKit

/-- The environment of a walk: the standard one, behind a variable. -/
class SE [St] (E : Env) (np : outParam Nat) (P : outParam Program) : Prop where
 h : E = stdE np P
/-- A contract of a function of this program. -/
abbrev AP [St] {α : Type} (f : FuncId) (args : List AV) (R : α → AV) (x : α) : Prop := AC Tryz.prog f args R x
theorem ac [St] {f : FuncId} {fn : Func} {α : Type} {args : List AV} {R : α → AV} {x : α} {X : Env → (AV → Prop) → Prop} (hf : Tryz.prog.funcs[f]? = some fn) (hn : NoB (R x))
  (h : ∀ (E : Env) (K : AV → Prop), SE E 0 Tryz.prog → (∀ r, r = R x → K r) → X E K) (hX : ∀ E K, X E K → afun E LT fn args K := by intro E K h; (conv => cbv); exact h) (hname : (fn.name == "runtime.NumGoroutine") = false := by kernel_rfl) : AC Tryz.prog f args R x := by
 have h1 := hX _ _ (h _ (fun r => r = R x) ⟨rfl⟩ (fun _ h => h))
 cases hb : fn.body with
 | none => unfold afun at h1; rw [hb] at h1; exact h1.elim
 | some c => exact AC_of_ax LT_ty wide hf hname hb hn h1
theorem a0 [St] {f : FuncId} {fn : Func} {α : Type} {args : List AV} {R : α → AV} {x : α} {X : Env → (AV → Prop) → Prop} (hf : Tryz.prog.funcs[f]? = some fn)
  (h : ∀ (E : Env) (K : AV → Prop), SE E 0 Tryz.prog → (∀ r, r = R x → K r) → X E K) (hX : ∀ E K, X E K → afun E LT fn args K := by intro E K h; (conv => cbv); exact h) (hname : (fn.name == "runtime.NumGoroutine") = false := by kernel_rfl) (hn : NoB (R x) := by first | exact .int _ _ | exact .bool _ | exact .str _) : AC Tryz.prog f args R x := ac hf hn h hX hname
theorem acm [St] {f : FuncId} {fn : Func} {args : List AV} {Q : AV → List AV → Prop} {X : Env → (AV → List AV → Prop) → Prop} (np : Nat) (hf : Tryz.prog.funcs[f]? = some fn) (hnb : ∀ r ys, Q r ys → NoB r ∧ ∀ y ∈ ys, NoB y)
  (h : ∀ (E : Env) (K : AV → List AV → Prop), SE E np Tryz.prog → (∀ r ys, Q r ys → K r ys) → X E K) (hX : ∀ E K, X E K → afunM E LT np fn args K := by intro E K h; (conv => cbv); exact h) (hname : (fn.name == "runtime.NumGoroutine") = false := by kernel_rfl) : ACM Tryz.prog f args Q := by
 have h1 := hX _ _ (h _ Q ⟨rfl⟩ (fun _ _ h => h))
 cases hb : fn.body with
 | none => unfold afunM at h1; rw [hb] at h1; exact h1.elim
 | some c => exact ACM_of_ax LT_ty wide hf hname hb hnb h1
theorem acs [St] {f : FuncId} {fn : Func} {args : List AV} {Q : AV → List AV → Prop} {X : Env → (AV → List AV → Prop) → Prop} (np : Nat) (hf : Tryz.prog.funcs[f]? = some fn)
  (h : ∀ (E : Env) (K : AV → List AV → Prop), SE E np Tryz.prog → (∀ r ys, Q r ys → K r ys) → X E K) (hX : ∀ E K, X E K → afunS E LT np fn args K := by intro E K h; (conv => cbv); exact h) (hname : (fn.name == "runtime.NumGoroutine") = false := by kernel_rfl) : ACS Tryz.prog f args Q := by
 have h1 := hX _ _ (h _ Q ⟨rfl⟩ (fun _ _ h => h))
 cases hb : fn.body with
 | none => unfold afunS at h1; rw [hb] at h1; exact h1.elim
 | some c => exact ACS_of_ax LT_ty wide hf hname hb h1
theorem Rel.nil_sl {w : World} {A : Nat → Prop} {t k v} (h : Rel w A .nils v) : Rel w A (.sl t k []) v := by
 cases h
 exact .sl t k [] none 0 0 0 (fun _ _ => undef) (by simp) (by simp) (by simp) (by simp) (by simp) (by simp) (by simp)
/-- nil may stand for an empty slice. -/
theorem AC.nilAt [St] {P : Program} {α : Type} {f : FuncId} {pre post : List AV} {R : α → AV} {x : α} {t k} (h : AC P f (pre ++ .sl t k [] :: post) R x) : AC P f (pre ++ .nils :: post) R x :=
 ⟨h.1, fun w vs hg hr => h.2 w vs hg ⟨by have := hr.1; simpa using this, fun i a hi => by
  have hr2 := hr.2 i
  rw [List.getElem?_append] at hi hr2
  by_cases hlt : i < pre.length
  ·rw [if_pos hlt] at hi hr2; exact hr2 a hi
  ·rw [if_neg hlt] at hi hr2
   cases h0 : i - pre.length with
   | zero => rw [h0] at hi hr2; simp at hi; subst hi; exact (hr2 .nils (by simp)).nil_sl
   | succ n => rw [h0] at hi hr2; exact hr2 a (by simpa using hi)⟩⟩
theorem AC.nil0 [St] {P : Program} {α : Type} {f : FuncId} {post : List AV} {R : α → AV} {x : α} {t k} (h : AC P f (.sl t k [] :: post) R x) : AC P f (.nils :: post) R x := AC.nilAt (pre := []) h
theorem AC.nil1 [St] {P : Program} {α : Type} {f : FuncId} {a : AV} {post : List AV} {R : α → AV} {x : α} {t k} (h : AC P f (a :: .sl t k [] :: post) R x) : AC P f (a :: .nils :: post) R x := AC.nilAt (pre := [a]) h
theorem NoB.rows {α : Type} {k : Nat} {R : α → List AV} {l : List α} (h : ∀ v, NoB (.agg (R v))) : NoB (.sl true k (l.map R)) := .sl _ _ fun i j e c h1 h2 => by
 rw [List.getElem?_map] at h1
 cases h3 : l[i]? with
 | none => rw [h3] at h1; cases h1
 | some x =>
  rw [h3] at h1; cases h1
  cases h x with
  | agg _ h => exact h j c h2
theorem NoB.agg0 : NoB (.agg []) := .agg _ fun i c h => by simp at h
theorem NoB.aggC {a cs} (h1 : NoB a) (h2 : NoB (.agg cs)) : NoB (.agg (a :: cs)) := .agg _ fun i c h => by
 cases i with
 | zero => cases h; exact h1
 | succ i => cases h2 with | agg _ h2 => exact h2 i c h
theorem NoB.tup0 : NoB (.tup []) := .tup _ fun i c h => by simp at h
theorem NoB.tupC {a cs} (h1 : NoB a) (h2 : NoB (.tup cs)) : NoB (.tup (a :: cs)) := .tup _ fun i c h => by
 cases i with
 | zero => cases h; exact h1
 | succ i => cases h2 with | tup _ h2 => exact h2 i c h

theorem bytes_toList : ∀ c : ByteArray, c.toList = c.data.toList := fun c => by
 cases c with | mk d =>
  have : ∀ (n i : Nat) (r : List UInt8), d.size - i = n → ByteArray.toList.loop ⟨d⟩ i r = r.reverse ++ d.toList.drop i := by
   intro n
   induction n with
   | zero =>
    intro i r hn
    unfold ByteArray.toList.loop
    rw [if_neg (by show ¬ i < d.size; omega), List.drop_eq_nil_of_le (by simpa using (by omega : d.size ≤ i))]
    simp
   | succ n ih =>
    intro i r hn
    unfold ByteArray.toList.loop
    rw [if_pos (by show i < d.size; omega), ih (i + 1) _ (by omega)]
    have hi : i < d.toList.length := by simp; omega
    rw [List.drop_eq_getElem_cons hi]
    have : (⟨d⟩ : ByteArray).get! i = d.toList[i] := by
     show d[i]! = _
     simp [show i < d.size by omega]
    simp [this]
  exact (this _ 0 [] rfl).trans (by simp)
theorem bytes_ext {a b : ByteArray} (h : a.toList = b.toList) : a = b := by
 rw [bytes_toList, bytes_toList] at h
 cases a; cases b; simp at h; rw [h]

/-- A proposition as a bool. -/
noncomputable def bP (p : Prop) : Bool := @decide p (Classical.propDecidable p)
@[simp] theorem bP_true {p : Prop} : bP p = true ↔ p := by unfold bP; exact @decide_eq_true_iff p (Classical.propDecidable p)
@[simp] theorem bP_false {p : Prop} : bP p = false ↔ ¬ p := by unfold bP; exact @decide_eq_false_iff_not p (Classical.propDecidable p)
theorem bP_eq {p : Prop} {b : Bool} (h : b = true ↔ p) : bP p = b := by
 cases b
 ·exact bP_false.2 fun hp => by simp at h; exact h hp
 ·exact bP_true.2 (h.1 rfl)
theorem finB {K : AV → Prop} {x c : Bool} (hK : ∀ r, r = AV.bool x → K r) (h : x = c) : K (atup [.bool c]) := hK _ (by rw [h]; rfl)
/-- A scan's invariant: C holds below i. -/
def Up (C : Nat → Prop) (i : Int) : Prop := ∀ j : Nat, (j : Int) < i → C j
theorem Up.zero {C : Nat → Prop} {i : Int} (h : i ≤ 0) : Up C i := fun j hj => by omega
theorem Up.succ {C : Nat → Prop} {i n : Int} (h : Up C i) (hc : C i.toNat) (hn : n = i + 1) : Up C n := fun j hj => by
 by_cases e : (j : Int) < i
 ·exact h j e
 ·have : j = i.toNat := by omega
  rw [this]; exact hc
/-- The usual ends of a walk: what stands open is a bound, a truth value or the result ('hK', 'hN': the walk's own names). -/
theorem fz {G : Prop} (h : G := by (try clear hN); first | omega | (refine finB hK (bP_true.2 ?_); first | omega | grind) | (refine finB hK (bP_false.2 ?_); first | omega | (intro h; grind)) | (refine ⟨by omega, Up.succ (by assumption) ?_ (by assumption)⟩; grind) | (refine hK _ ?_; simp_all [atup]; done) | grind) : G := h
theorem Up.all {C : Nat → Prop} {i : Int} {m : Nat} (h : Up C i) (hi : (m : Int) ≤ i) : ∀ j, j < m → C j := fun j hj => h j (by omega)

section
variable {E : Env} {np : Nat} {P : Program}
theorem callI [St] [hE : SE E np P] {α : Type} {f : FuncId} {args : List AV} {R : α → AV} {x : α} {K : AV → Prop} (h : AC P f args R x) (hk : ∀ y, y = x → K (R y)) : E.call f args K := by
 cases hE.h; exact ⟨R x, h, hk x rfl⟩
theorem callB [St] [hE : SE E np P] {f : FuncId} {args : List AV} {x : Bool} {K : AV → Prop} (h : AC P f args AV.bool x) (h1 : x = true → K (.bool true)) (h2 : x = false → K (.bool false)) : E.call f args K := by
 refine callI h fun y hy => ?_
 cases y
 ·exact h2 hy.symm
 ·exact h1 hy.symm
theorem callP [St] [hE : SE E np P] {f : FuncId} {args : List AV} {p : Prop} {K : AV → Prop} (h : AC P f args AV.bool (bP p)) (h1 : p → K (.bool true)) (h2 : ¬ p → K (.bool false)) : E.call f args K :=
 callB h (fun h => h1 (bP_true.1 h)) (fun h => h2 (bP_false.1 h))
theorem callPT [St] [hE : SE E np P] {f : FuncId} {args : List AV} {p : Prop} {K : AV → Prop} (h : AC P f args AV.bool (bP p)) (hp : p) (h1 : K (.bool true)) : E.call f args K :=
 callP h (fun _ => h1) (fun h => absurd hp h)
theorem callPF [St] [hE : SE E np P] {f : FuncId} {args : List AV} {p : Prop} {K : AV → Prop} (h : AC P f args AV.bool (bP p)) (hp : ¬ p) (h1 : K (.bool false)) : E.call f args K :=
 callP h (fun h => absurd h hp) (fun _ => h1)
theorem callR [St] [hE : SE E np P] {α : Type} {f : FuncId} {args : List AV} {R : α → List AV} {k : Nat} {x : List α} {K : AV → Prop} (h : AC P f args (fun l : List α => .sl true k (l.map R)) x) (hk : ∀ rs, rs = x.map R → K (.sl true k rs)) : E.call f args K :=
 callI h fun y hy => hk _ (by rw [hy])
theorem callMI [St] [hE : SE E np P] {f : FuncId} {args : List AV} {Q : AV → List AV → Prop} {K : AV → List AV → Prop} (h : ACM P f args Q) (hk : ∀ r ys, Q r ys → K r ys) : E.callM f args K := by
 cases hE.h; exact ⟨Q, h, hk⟩
theorem callSI [St] [hE : SE E np P] {f : FuncId} {args : List AV} {Q : AV → List AV → Prop} {K : AV → List AV → Prop} (h : ACS P f args Q) (hk : ∀ r ys, Q r ys → K r ys) : E.callS f args K := by
 cases hE.h; exact ⟨Q, h, hk⟩
theorem toStrI [St] [hE : SE E np P] {es : List (List AV)} {K : ByteArray → Prop} (ns : List Int) (h : es = ns.map fun n => [AV.int .u8 n]) (hk : ∀ s, s = bytesOf ns → s.size = ns.length → K s) : E.toStr es K := by
 cases hE.h; exact ⟨ns, h, hk _ rfl (bytesOf_size ns)⟩
theorem lenI [St] [hE : SE E np P] {es : List (List AV)} {K : Int → Prop} (h : ∀ n : Int, n = es.length → es.length ≤ maxLen → K n) : E.len es K := by
 cases hE.h; exact fun hb => h _ rfl hb
theorem callMQ [St] [hE : SE E np P] {f : FuncId} {args : List AV} {Q : AV → List AV → Prop} {K : AV → List AV → Prop} (h : ACM P f args Q) (hk : ∀ r ys, Q r ys → K r ys) : E.callM f args K := callMI h hk
theorem lenL [St] [hE : SE E np P] {α : Type} {es : List (List AV)} {K : Int → Prop} {l : List α} {R : α → List AV} (hl : es = l.map R) (h : ∀ n : Int, n = l.length → l.length ≤ 9223372036854775807 → K n) : E.len es K := by
 subst hl; exact lenI fun n h1 h2 => h n (by simpa using h1) (by simpa [maxLen] using h2)
theorem len0 [St] [hE : SE E np P] {K : Int → Prop} (h : ∀ n : Int, n = 0 → K n) : E.len [] K := by
 cases hE.h; exact fun _ => h _ rfl
theorem idxI [St] [hE : SE E np P] {es : List (List AV)} {i : Int} {e : List AV} {K : List AV → Prop} (h0 : 0 ≤ i) (he : es[i.toNat]? = some e) (hk : K e) : E.idx es i K := by
 cases hE.h; exact ⟨h0, e, he, hk⟩
theorem idxL [St] [hE : SE E np P] {α : Type} {es : List (List AV)} {i : Int} {K : List AV → Prop} {l : List α} {R : α → List AV} (hl : es = l.map R) (h0 : 0 ≤ i ∧ i < l.length) (hk : ∀ v, l[i.toNat]? = some v → K (R v)) : E.idx es i K := by
 subst hl
 have h1 : i.toNat < l.length := by omega
 exact idxI h0.1 (e := R l[i.toNat]) (by simp [h1]) (hk _ (by simp))
theorem idxV [St] [hE : SE E np P] {α : Type} {es : List (List AV)} {i : Int} {K : List AV → Prop} {l : List α} {R : α → List AV} {v : α} (hl : es = l.map R) (h0 : 0 ≤ i) (hv : l[i.toNat]? = some v) (hk : K (R v)) : E.idx es i K := by
 subst hl
 exact idxI h0 (e := R v) (by rw [List.getElem?_map, hv]; rfl) hk
theorem subL [St] [hE : SE E np P] {α : Type} {es : List (List AV)} {lo hi : Option Int} {K : List (List AV) → Prop} {l : List α} {R : α → List AV} (hl : es = l.map R) (h0 : 0 ≤ lo.getD 0 ∧ lo.getD 0 ≤ hi.getD l.length ∧ hi.getD l.length ≤ l.length)
  (hk : ∀ rs, rs = ((l.take (hi.getD l.length).toNat).drop (lo.getD 0).toNat).map R → K rs) : E.sub_ es lo hi K := by
 cases hE.h; subst hl
 refine ⟨h0.1, ?_, ?_, hk _ ?_⟩
 ·simpa using h0.2.1
 ·simpa using h0.2.2
 ·simp [List.map_take, List.map_drop]
theorem catL [St] [hE : SE E np P] {α : Type} {es fs : List (List AV)} {bytes : Nat} {K : List (List AV) → Prop} {l m : List α} {R : α → List AV} (hl : es = l.map R) (hm : fs = m.map R) (h0 : (l.length + m.length) * bytes ≤ 140737488355328 ∧ l.length + m.length ≤ 140737488355328)
  (hk : ∀ rs, rs = (l ++ m).map R → K rs) : E.cat bytes es fs K := by
 cases hE.h; subst hl hm
 exact ⟨by simpa using h0.1, by simpa using h0.2, hk _ (by simp)⟩
theorem catP [St] [hE : SE E np P] {α : Type} {es : List (List AV)} {c : List AV} {bytes : Nat} {K : List (List AV) → Prop} {l : List α} {R : α → List AV} {v : α} (hl : es = l.map R) (hz : c = R v) (h0 : (l.length + 1) * bytes ≤ 140737488355328 ∧ l.length + 1 ≤ 140737488355328)
  (hk : ∀ rs, rs = (l ++ [v]).map R → K rs) : E.cat bytes es [c] K := catL (m := [v]) hl (by rw [hz]; rfl) h0 hk
theorem catP0 [St] [hE : SE E np P] {α : Type} {c : List AV} {bytes : Nat} {K : List (List AV) → Prop} {R : α → List AV} {v : α} (hz : c = R v) (h0 : bytes ≤ 140737488355328)
  (hk : ∀ rs, rs = [v].map R → K rs) : E.cat bytes [] [c] K := catL (l := []) (m := [v]) rfl (by rw [hz]; rfl) (by simp; omega) hk
theorem cat0L [St] [hE : SE E np P] {α : Type} {fs : List (List AV)} {bytes : Nat} {K : List (List AV) → Prop} {m : List α} {R : α → List AV} (hm : fs = m.map R) (h0 : m.length * bytes ≤ 140737488355328 ∧ m.length ≤ 140737488355328)
  (hk : ∀ rs, rs = m.map R → K rs) : E.cat bytes [] fs K := catL (l := []) rfl hm (by simpa using h0) (by simpa using hk)
/-- A row that is being filled: the first i are done. -/
def fillRow {α : Type} (R : α → List AV) (z : List AV) (l : List α) (i : Int) : List (List AV) := (l.take i.toNat).map R ++ List.replicate (l.length - i.toNat) z
theorem fillRow_all {α : Type} {R : α → List AV} {z : List AV} {l : List α} {i : Int} (h : l.length ≤ i) : fillRow R z l i = l.map R := by
 unfold fillRow
 rw [List.take_of_length_le (by omega), show l.length - i.toNat = 0 by omega]; simp
theorem fillRow_set {α : Type} {R : α → List AV} {z : List AV} {l : List α} {i : Int} {v : α} (h0 : 0 ≤ i) (hv : l[i.toNat]? = some v) : (fillRow R z l i).set i.toNat (R v) = fillRow R z l (i + 1) := by
 have hlt := (List.getElem?_eq_some_iff.1 hv).1
 unfold fillRow
 rw [List.set_append, if_neg (by simp; omega), show (i + 1).toNat = i.toNat + 1 by omega, List.take_add_one, hv]
 have e : l.length - i.toNat = (l.length - (i.toNat + 1)) + 1 := by omega
 rw [e, List.replicate_succ]
 have e2 : i.toNat - (List.map R (List.take i.toNat l)).length = 0 := by simp; omega
 rw [e2]; simp
theorem fillRow_get {α : Type} {R : α → List AV} {z : List AV} {l : List α} {i : Int} (h : 0 ≤ i ∧ i < l.length) : (fillRow R z l i)[i.toNat]? = some z := by
 unfold fillRow
 rw [List.getElem?_append_right (by simp; omega)]
 have e2 : i.toNat - (List.map R (List.take i.toNat l)).length = 0 := by simp; omega
 rw [e2, List.getElem?_replicate, if_pos (by omega)]
theorem updFill [St] [hE : SE E np P] {α : Type} {R : α → List AV} {z cs : List AV} {l : List α} {es : List (List AV)} {i : Int} {K : List (List AV) → Prop} {v : α} (hes : es = fillRow R z l i) (h : 0 ≤ i ∧ i < l.length) (hv : l[i.toNat]? = some v) (hl : cs.length ≤ z.length) (hz : splice z 0 cs = R v)
  (hk : ∀ es', es' = fillRow R z l (i + 1) → K es') : E.upd es i 0 cs K := by
 cases hE.h; subst hes
 exact ⟨h.1, z, fillRow_get h, by simpa using hl, by rw [hz]; exact hk _ (fillRow_set h.1 hv)⟩
theorem idxFill [St] [hE : SE E np P] {α : Type} {R : α → List AV} {z : List AV} {l : List α} {es : List (List AV)} {i : Int} {K : List AV → Prop} (hes : es = fillRow R z l i) (h : 0 ≤ i ∧ i < l.length) (hk : K z) : E.idx es i K := by
 subst hes; exact idxI h.1 (fillRow_get h) hk
theorem makeL [St] [hE : SE E np P] {α : Type} {bytes : Nat} {z : List AV} {n m : Int} {l : List α} {K : List (List AV) → Prop} (R : α → List AV) (hn : n = l.length) (hm : m = n) (hb : n * bytes ≤ 281474976710656 ∧ n ≤ 281474976710656) (hk : ∀ es, es = fillRow R z l 0 → K es) : E.make bytes z n m K := by
 cases hE.h; subst hm
 refine ⟨by omega, by omega, hb.1, hb.2, hk _ ?_⟩
 unfold fillRow
 simp [hn]
theorem makeI [St] [hE : SE E np P] {bytes : Nat} {z : List AV} {n m : Int} {K : List (List AV) → Prop} (h : 0 ≤ n ∧ n ≤ m ∧ m * bytes ≤ 281474976710656 ∧ m ≤ 281474976710656) (hk : ∀ es, es = List.replicate n.toNat z → K es) : E.make bytes z n m K := by
 cases hE.h; exact ⟨h.1, h.2.1, h.2.2.1, h.2.2.2, hk _ rfl⟩
theorem updL [St] [hE : SE E np P] {α : Type} {R : α → List AV} {cs : List AV} {m : List α} {es : List (List AV)} {i : Int} {j : Nat} {K : List (List AV) → Prop} {v : α} (v' : α) (hes : es = m.map R) (h : 0 ≤ i) (hv : m[i.toNat]? = some v) (hl : j + cs.length ≤ (R v).length) (hz : splice (R v) j cs = R v')
  (hk : ∀ es', es' = (m.set i.toNat v').map R → K es') : E.upd es i j cs K := by
 cases hE.h; subst hes
 refine ⟨h, R v, by rw [List.getElem?_map, hv]; rfl, hl, ?_⟩
 rw [hz]
 exact hk _ (by rw [List.map_set])
/-- A list of which the first i are done. -/
def mix {α : Type} (f : Nat → α) (l : List α) (i : Int) : List α := (List.range (min i.toNat l.length)).map f ++ l.drop i.toNat
@[simp] theorem mix_len {α : Type} (f : Nat → α) (l : List α) (i : Int) : (mix f l i).length = l.length := by
 unfold mix; simp; omega
theorem mix_set {α : Type} {f : Nat → α} {l : List α} {i n : Int} {v : α} (h0 : 0 ≤ i) (hi : i < l.length) (hv : v = f i.toNat) (hn : n = i + 1) : (mix f l i).set i.toNat v = mix f l n := by
 subst hv hn
 have e : (i + 1).toNat = i.toNat + 1 := by omega
 unfold mix
 rw [List.set_append, if_neg (by simp; omega), e, Nat.min_eq_left (by omega), Nat.min_eq_left (by omega), List.range_succ, List.map_append]
 have e2 : i.toNat - (List.map f (List.range i.toNat)).length = 0 := by simp
 rw [e2, List.drop_eq_getElem_cons (by omega : i.toNat < l.length)]
 simp only [List.set_cons_zero, List.append_assoc, List.map_cons, List.map_nil, List.singleton_append]
theorem mix_zero {α : Type} {f : Nat → α} {l : List α} {i : Int} (h : i ≤ 0) : mix f l i = l := by
 unfold mix
 rw [show i.toNat = 0 by omega]; simp
theorem mix_all {α : Type} {f : Nat → α} {l : List α} {i : Int} (h : l.length ≤ i) : mix f l i = (List.range l.length).map f := by
 unfold mix
 rw [Nat.min_eq_right (by omega), List.drop_eq_nil_of_le (by omega)]; simp
theorem noownI [St] [hE : SE E np P] {fs : List (List AV)} {K : Prop} (h : ∀ e ∈ fs, ∀ c ∈ e, c.isOwn = false) (hk : K) : E.noown fs K := by cases hE.h; exact ⟨h, hk⟩
theorem iteB {b : Bool} {p q : Prop} (h1 : b = true → p) (h2 : b = false → q) : if b = true then p else q := by cases b <;> simp [h1, h2]
theorem needI [St] [hE : SE E np P] {p K : Prop} (h : p) (hk : K) : E.need p K := by cases hE.h; exact ⟨h, hk⟩
theorem sameI [St] [hE : SE E np P] {a b : List (List AV)} {K : Prop} (h : a.length = b.length) (hk : K) : E.same a b K := by cases hE.h; exact ⟨h, hk⟩
theorem nilI [St] [hE : SE E np P] {K : AV → Prop} (hk : K .nils) : E.nil K := by cases hE.h; exact .inl hk
theorem nilOwnI [St] [hE : SE E np P] {K : AV → Prop} (k : Nat) (hk : K (.sl true k [])) : E.nil K := by cases hE.h; exact .inr (.inl ⟨k, hk⟩)
theorem nilROI [St] [hE : SE E np P] {K : AV → Prop} (k : Nat) (hk : K (.sl false k [])) : E.nil K := by cases hE.h; exact .inr (.inr ⟨k, hk⟩)

theorem ltI [St] [hE : SE E np P] {a b : Int} {K : Bool → Prop} (h1 : a < b → K true) (h2 : b ≤ a → K false) : E.lt a b K := by
 cases hE.h
 show K (decide (a < b))
 by_cases h : a < b
 ·rw [decide_eq_true h]; exact h1 h
 ·rw [decide_eq_false h]; exact h2 (by omega)
theorem ltT [St] [hE : SE E np P] {a b : Int} {K : Bool → Prop} (h : a < b) (hk : K true) : E.lt a b K := ltI (fun _ => hk) (fun _ => by omega)
theorem ltF [St] [hE : SE E np P] {a b : Int} {K : Bool → Prop} (h : b ≤ a) (hk : K false) : E.lt a b K := ltI (fun _ => by omega) (fun _ => hk)
theorem leI [St] [hE : SE E np P] {a b : Int} {K : Bool → Prop} (h1 : a ≤ b → K true) (h2 : b < a → K false) : E.le a b K := by
 cases hE.h
 show K (decide (a ≤ b))
 by_cases h : a ≤ b
 ·rw [decide_eq_true h]; exact h1 h
 ·rw [decide_eq_false h]; exact h2 (by omega)
theorem leT [St] [hE : SE E np P] {a b : Int} {K : Bool → Prop} (h : a ≤ b) (hk : K true) : E.le a b K := leI (fun _ => hk) (fun _ => by omega)
theorem leF [St] [hE : SE E np P] {a b : Int} {K : Bool → Prop} (h : b < a) (hk : K false) : E.le a b K := leI (fun _ => by omega) (fun _ => hk)
theorem eqI [St] [hE : SE E np P] {a b : Int} {K : Bool → Prop} (h1 : a = b → K true) (h2 : a ≠ b → K false) : E.eq a b K := by
 cases hE.h
 show K (a == b)
 by_cases h : a = b
 ·rw [beq_iff_eq.2 h]; exact h1 h
 ·rw [beq_eq_false_iff_ne.2 h]; exact h2 h
theorem eqT [St] [hE : SE E np P] {a b : Int} {K : Bool → Prop} (h : a = b) (hk : K true) : E.eq a b K := eqI (fun _ => hk) (fun h' => absurd h h')
theorem eqF [St] [hE : SE E np P] {a b : Int} {K : Bool → Prop} (h : a ≠ b) (hk : K false) : E.eq a b K := eqI (fun h' => absurd h' h) (fun _ => hk)
theorem seqI [St] [hE : SE E np P] {a b : ByteArray} {K : Bool → Prop} (h1 : a = b → K true) (h2 : a ≠ b → K false) : E.seq a b K := by
 cases hE.h
 show K (a.toList == b.toList)
 by_cases h : a = b
 ·rw [beq_iff_eq.2 (congrArg _ h)]; exact h1 h
 ·rw [beq_eq_false_iff_ne.2 (fun h' => h (bytes_ext h'))]; exact h2 h
/-- Two structs are alike: what their cells say. -/
def pairsP : List (AV × AV) → Prop
 | [] => True
 | (.int _ a, .int _ b) :: l => a = b ∧ pairsP l
 | (.bool a, .bool b) :: l => a = b ∧ pairsP l
 | (.str a, .str b) :: l => a = b ∧ pairsP l
 | _ :: _ => False
theorem pairs_iff : ∀ ps : List (AV × AV), ps.all pairEq = true ↔ pairsP ps
 | [] => by simp [pairsP]
 | p :: l => by
  rw [List.all_cons, Bool.and_eq_true, pairs_iff l]
  obtain ⟨x, y⟩ := p
  cases x <;> cases y <;> simp only [pairEq, pairsP, beq_iff_eq, Bool.false_eq_true, false_and]
  constructor
  ·rintro ⟨h1, h2⟩; exact ⟨bytes_ext h1, h2⟩
  ·rintro ⟨h1, h2⟩; exact ⟨by rw [h1], h2⟩
theorem aeqI [St] [hE : SE E np P] {ps : List (AV × AV)} {K : Bool → Prop} (h1 : pairsP ps → K true) (h2 : ¬ pairsP ps → K false) : E.aeq ps K := by
 cases hE.h
 show K (ps.all pairEq)
 by_cases h : pairsP ps
 ·rw [(pairs_iff ps).2 h]; exact h1 h
 ·rw [Bool.eq_false_iff.2 (fun h' => h ((pairs_iff ps).1 h'))]; exact h2 h
theorem sltI [St] [hE : SE E np P] {a b : ByteArray} {K : Bool → Prop} (hk : ∀ c, c = Op.bytesLess a.toList b.toList → K c) : E.slt a b K := by
 cases hE.h; exact hk _ rfl
theorem add64 [St] [hE : SE E np P] {a b : Int} {K : Int → Prop} (h : -9223372036854775808 ≤ a + b ∧ a + b ≤ 9223372036854775807) (hk : ∀ n, n = a + b → K n) : E.add .i64 a b K := by
 cases hE.h; exact hk _ (IntWalk.i64_in _ h)
theorem sub64 [St] [hE : SE E np P] {a b : Int} {K : Int → Prop} (h : -9223372036854775808 ≤ a - b ∧ a - b ≤ 9223372036854775807) (hk : ∀ n, n = a - b → K n) : E.sub .i64 a b K := by
 cases hE.h; exact hk _ (IntWalk.i64_in _ h)
theorem addI [St] [hE : SE E np P] {k : IntKind} {a b : Int} {K : Int → Prop} (hk : ∀ n, n = k.wrap (a + b) → K n) : E.add k a b K := by cases hE.h; exact hk _ rfl
theorem subI [St] [hE : SE E np P] {k : IntKind} {a b : Int} {K : Int → Prop} (hk : ∀ n, n = k.wrap (a - b) → K n) : E.sub k a b K := by cases hE.h; exact hk _ rfl
theorem mulI [St] [hE : SE E np P] {k : IntKind} {a b : Int} {K : Int → Prop} (hk : ∀ n, n = k.wrap (a * b) → K n) : E.mul k a b K := by cases hE.h; exact hk _ rfl
theorem mul64 [St] [hE : SE E np P] {a b : Int} {K : Int → Prop} (h : -9223372036854775808 ≤ a * b ∧ a * b ≤ 9223372036854775807) (hk : ∀ n, n = a * b → K n) : E.mul .i64 a b K := by
 cases hE.h; exact hk _ (IntWalk.i64_in _ h)
theorem quoI [St] [hE : SE E np P] {k : IntKind} {a b : Int} {K : Int → Prop} (hk : ∀ n, n = k.wrap (a.tdiv b) → K n) : E.quo k a b K := by cases hE.h; exact hk _ rfl
theorem remI [St] [hE : SE E np P] {a b : Int} {K : Int → Prop} (hk : ∀ n, n = a.tmod b → K n) : E.rem a b K := by cases hE.h; exact hk _ rfl
theorem rem64 [St] [hE : SE E np P] {a b : Int} {K : Int → Prop} (h : 0 ≤ a ∧ 0 < b) (hk : ∀ n, n = a % b → K n) : E.rem a b K := by
 cases hE.h; exact hk _ (Int.tmod_eq_emod_of_nonneg h.1)
theorem quo64 [St] [hE : SE E np P] {a b : Int} {K : Int → Prop} (h : 0 ≤ a ∧ a ≤ 9223372036854775807 ∧ 0 < b) (hk : ∀ n, n = a / b → K n) : E.quo .i64 a b K := by
 cases hE.h
 refine hk _ ?_
 rw [Int.tdiv_eq_ediv_of_nonneg h.1]
 refine IntWalk.i64_in _ ⟨?_, ?_⟩
 ·have := Int.ediv_nonneg h.1 (Int.le_of_lt h.2.2); omega
 ·have := Int.ediv_le_self b h.1; omega
theorem wrapU8 [St] [hE : SE E np P] {a : Int} {K : Int → Prop} (h : 0 ≤ a ∧ a ≤ 255) (hk : ∀ n, n = a → K n) : E.wrap .u8 a K := by
 cases hE.h; exact hk _ (IntWalk.u8_in _ h)
theorem maxI [St] [hE : SE E np P] {a b : Int} {K : Int → Prop} (hk : ∀ n, n = max a b → K n) : E.max a b K := by
 cases hE.h; exact hk _ (by simp only [Int.max_def]; split <;> split <;> omega)
theorem minI [St] [hE : SE E np P] {a b : Int} {K : Int → Prop} (hk : ∀ n, n = min a b → K n) : E.min a b K := by
 cases hE.h; exact hk _ (by simp only [Int.min_def]; split <;> split <;> omega)
theorem wrapI [St] [hE : SE E np P] {k : IntKind} {a : Int} {K : Int → Prop} (hk : ∀ n, n = k.wrap a → K n) : E.wrap k a K := by cases hE.h; exact hk _ rfl
theorem wrap64 [St] [hE : SE E np P] {a : Int} {K : Int → Prop} (h : -9223372036854775808 ≤ a ∧ a ≤ 9223372036854775807) (hk : ∀ n, n = a → K n) : E.wrap .i64 a K := by
 cases hE.h; exact hk _ (IntWalk.i64_in _ h)
theorem scatI [St] [hE : SE E np P] {a b : ByteArray} {K : ByteArray → Prop} (h : a.size + b.size ≤ 9223372036854775807) (hk : ∀ s, s = a ++ b → s.size = a.size + b.size → K s) : E.scat a b K := by cases hE.h; exact ⟨h, hk _ rfl ByteArray.size_append⟩
theorem slenI [St] [hE : SE E np P] {a : ByteArray} {K : Int → Prop} (hk : ∀ n : Int, n = a.size → a.size ≤ 9223372036854775807 → K n) : E.slen a K := by cases hE.h; exact fun h => hk _ rfl h
theorem sidxI [St] [hE : SE E np P] {a : ByteArray} {i : Int} {K : Int → Prop} (h : 0 ≤ i ∧ i < a.size) (hk : ∀ n : Int, n = (a.data.getD i.toNat 0).toNat → 0 ≤ n → n ≤ 255 → K n) : E.sidx a i K := by
 cases hE.h
 have h1 : i.toNat < a.size := by omega
 refine ⟨h.1, h1, hk _ ?_ (by omega) ?_⟩
 ·have h2 : i.toNat < a.data.size := h1
  rw [Array.getD_eq_getD_getElem?, Array.getElem?_eq_getElem h2]; rfl
 ·have := (a[i.toNat]'h1).toNat_lt; omega
theorem ssubI [St] [hE : SE E np P] {a : ByteArray} {lo hi : Option Int} {K : ByteArray → Prop} (h0 : 0 ≤ lo.getD 0 ∧ lo.getD 0 ≤ hi.getD a.size ∧ hi.getD a.size ≤ a.size) (hk : ∀ s, s = a.extract (lo.getD 0).toNat (hi.getD a.size).toNat → K s) : E.ssub a lo hi K := by
 cases hE.h; exact ⟨h0.1, h0.2.1, h0.2.2, hk _ rfl⟩

/-! ### The same rules in short (their side conditions are found). -/
section
variable {E : Env} {np : Nat} {P : Program}
theorem q0 [St] [hE : SE E np P] {α : Type} {es : List (List AV)} {i : Int} {K : List AV → Prop} {l : List α} {R : α → List AV} {v : α} (hk : K (R v)) (hl : es = l.map R := by assumption) (h0 : 0 ≤ i := by omega) (hv : l[i.toNat]? = some v := by assumption) : E.idx es i K := idxV hl h0 hv hk
theorem q6 [St] [hE : SE E np P] {a b : Int} {K : Bool → Prop} (hk : K true) (h : a = b := by omega) : E.eq a b K := eqT h hk
theorem q7 [St] [hE : SE E np P] {a b : Int} {K : Bool → Prop} (hk : K false) (h : a ≠ b := by omega) : E.eq a b K := eqF h hk
theorem p0 [St] [hE : SE E np P] {α : Type} {es : List (List AV)} {i : Int} {K : List AV → Prop} {l : List α} {R : α → List AV} {v : α} (hl : es = l.map R := by assumption) (h0 : 0 ≤ i := by omega) (hv : l[i.toNat]? = some v := by assumption) : K (R v) → E.idx es i K := fun hk => q0 hk hl h0 hv
theorem p1 [St] [hE : SE E np P] {a b : Int} {K : Bool → Prop} (h : a < b := by omega) : K true → E.lt a b K := ltT h
theorem p2 [St] [hE : SE E np P] {a b : Int} {K : Bool → Prop} (h : b ≤ a := by omega) : K false → E.lt a b K := ltF h
theorem p4 [St] [hE : SE E np P] {a b : Int} {K : Bool → Prop} (h : a ≤ b := by omega) : K true → E.le a b K := leT h
theorem p5 [St] [hE : SE E np P] {a b : Int} {K : Bool → Prop} (h : b < a := by omega) : K false → E.le a b K := leF h
theorem p6 [St] [hE : SE E np P] {a b : Int} {K : Bool → Prop} (h : a = b := by omega) : K true → E.eq a b K := eqT h
theorem p7 [St] [hE : SE E np P] {a b : Int} {K : Bool → Prop} (h : a ≠ b := by omega) : K false → E.eq a b K := eqF h
theorem p8 [St] [hE : SE E np P] {a b : Int} {K : Int → Prop} (h : -9223372036854775808 ≤ a + b ∧ a + b ≤ 9223372036854775807 := by omega) : (∀ n, n = a + b → K n) → E.add .i64 a b K := add64 h
theorem p9 [St] [hE : SE E np P] {a b : Int} {K : Int → Prop} (h : -9223372036854775808 ≤ a - b ∧ a - b ≤ 9223372036854775807 := by omega) : (∀ n, n = a - b → K n) → E.sub .i64 a b K := sub64 h
theorem pa [St] [hE : SE E np P] {α : Type} {es : List (List AV)} {K : Int → Prop} {l : List α} {R : α → List AV} (hl : es = l.map R := by assumption) : (∀ n : Int, n = l.length → l.length ≤ 9223372036854775807 → K n) → E.len es K := lenL hl
theorem pb [St] [hE : SE E np P] {α : Type} {es : List (List AV)} {i : Int} {K : List AV → Prop} {l : List α} {R : α → List AV} (hl : es = l.map R := by assumption) (h0 : 0 ≤ i ∧ i < l.length := by first | omega | (simp only [List.length_set, mix_len]; omega)) : (∀ v, l[i.toNat]? = some v → K (R v)) → E.idx es i K := idxL hl h0
theorem pc [St] [hE : SE E np P] {α : Type} {R : α → List AV} {z : List AV} {l : List α} {es : List (List AV)} {i : Int} {K : List AV → Prop} (hes : es = fillRow R z l i := by assumption) (h : 0 ≤ i ∧ i < l.length := by omega) : K z → E.idx es i K := idxFill hes h
theorem pd [St] [hE : SE E np P] {es : List (List AV)} {i : Int} {e : List AV} {K : List AV → Prop} (h0 : 0 ≤ i := by decide) (he : es[i.toNat]? = some e := by rfl) : K e → E.idx es i K := idxI h0 he
theorem pe [St] [hE : SE E np P] {a b : ByteArray} {K : ByteArray → Prop} (h : a.size + b.size ≤ 9223372036854775807 := by first | omega | (simp only [ByteArray.size, Array.size, List.length_cons, List.length_nil] at *; omega)) : (∀ s, s = a ++ b → s.size = a.size + b.size → K s) → E.scat a b K := scatI h
theorem pf [St] [hE : SE E np P] {a : ByteArray} {i : Int} {K : Int → Prop} (h : 0 ≤ i ∧ i < a.size := by omega) : (∀ n : Int, n = (a.data.getD i.toNat 0).toNat → 0 ≤ n → n ≤ 255 → K n) → E.sidx a i K := sidxI h
theorem pg [St] [hE : SE E np P] {p K : Prop} (h : p := by first | decide | omega) : K → E.need p K := needI h
theorem ph [St] [hE : SE E np P] {a b : Int} {K : Int → Prop} (h : 0 ≤ a ∧ 0 < b := by omega) : (∀ n, n = a % b → K n) → E.rem a b K := rem64 h
theorem pi [St] [hE : SE E np P] {a b : Int} {K : Int → Prop} (h : 0 ≤ a ∧ a ≤ 9223372036854775807 ∧ 0 < b := by omega) : (∀ n, n = a / b → K n) → E.quo .i64 a b K := quo64 h
theorem pj [St] [hE : SE E np P] {a : Int} {K : Int → Prop} (h : 0 ≤ a ∧ a ≤ 255 := by omega) : (∀ n, n = a → K n) → E.wrap .u8 a K := wrapU8 h
theorem pk [St] [hE : SE E np P] {a : Int} {K : Int → Prop} (h : -9223372036854775808 ≤ a ∧ a ≤ 9223372036854775807 := by omega) : (∀ n, n = a → K n) → E.wrap .i64 a K := wrap64 h
theorem pl [St] [hE : SE E np P] {fs : List (List AV)} {K : Prop} (h : ∀ e ∈ fs, ∀ c ∈ e, c.isOwn = false := by simp [AV.isOwn]) : K → E.noown fs K := noownI h
end
/-! All of them, by the number of goals and names. -/
theorem B0 {G K : Prop} (hk : K) (h : K → G := by first | exact p1 | exact p2 | exact p4 | exact p5 | exact p6 | exact p7 | exact p0 | exact pc | exact pd | exact pg | exact pl | exact pa | exact pe | exact slenI | exact p8 | exact p9 | exact addI | exact subI | exact len0 | exact pb | exact maxI | exact minI | exact ph | exact pi | exact pj | exact pk | exact pf) : G := h hk
theorem B1 {G H K : Prop} (h1 : H) (h2 : K) (h : H → K → G := by first | exact ltI | exact leI | exact eqI | exact iteB | exact seqI) : G := h h1 h2

/-! ### Loops: the state at the head, by the slots that matter. -/
def lk (t : Nat) : List (Nat × AV) → AV
 | [] => .any
 | (u, x) :: l => if u = t then x else lk t l
def reG (t : Nat) (kv : List (Nat × AV)) : Nat → List AV
 | 0 => []
 | n + 1 => lk t kv :: reG (t + 1) kv n
def reF (n : Nat) (kv : List (Nat × AV)) : List AV := reG 0 kv n
noncomputable def kvs (ids : List Nat) (fr : List AV) : List Nat → List (Nat × AV)
 | [] => []
 | t :: l => (t, (fr.getD t .any).ren ids) :: kvs ids fr l
noncomputable def obs (ids : List Nat) (os : List Obj) : List Nat → List Obj
 | [] => []
 | i :: l => (os.getD i .dead).ren ids :: obs ids os l
noncomputable def wkK (keep ids : List Nat) (s : AS) : AS := ⟨reF s.fr.length (kvs ids s.fr keep), obs ids s.os ids⟩

def hvOf (keep : List Nat) : Nat → Nat → List Nat
 | _, 0 => []
 | t, n + 1 => if keep.contains t then hvOf keep (t + 1) n else t :: hvOf keep (t + 1) n
theorem inL_iff (l : List Nat) (t : Nat) : Go.Proofs.YtlemeenicaidfaaGreatDoor.inL l t = l.contains t := by
 induction l with
 | nil => rfl
 | cons x l ih =>
  simp only [Go.Proofs.YtlemeenicaidfaaGreatDoor.inL, List.contains_cons, ih]
  by_cases h : x = t
  ·simp [h]
  ·simp [h, Ne.symm h]
theorem hvOf_spec (keep : List Nat) : ∀ (n t u : Nat), (hvOf keep t n).contains u = (!keep.contains u && decide (t ≤ u) && decide (u < t + n))
 | 0, t, u => by
  simp only [hvOf, Nat.add_zero]; by_cases h : t ≤ u <;> by_cases h2 : u < t <;> simp [h, h2] <;> omega
 | n + 1, t, u => by
  unfold hvOf
  have ih := hvOf_spec keep n (t + 1) u
  split
  ·rename_i h
   rw [ih]
   by_cases e : u = t
   ·subst e; rw [h]; simp
   ·have h1 : decide (t + 1 ≤ u) = decide (t ≤ u) := decide_eq_decide.2 (by omega)
    have h2 : decide (u < t + 1 + n) = decide (u < t + (n + 1)) := decide_eq_decide.2 (by omega)
    rw [h1, h2]
  ·rename_i h
   rw [List.contains_cons, ih]
   by_cases e : u = t
   ·subst e
    have h : keep.contains u = false := by simpa using h
    rw [h]; simp
   ·have h1 : decide (t + 1 ≤ u) = decide (t ≤ u) := decide_eq_decide.2 (by omega)
    have h2 : decide (u < t + 1 + n) = decide (u < t + (n + 1)) := decide_eq_decide.2 (by omega)
    rw [h1, h2]; simp [e]
theorem lk_kvs (ids : List Nat) (fr : List AV) (t : Nat) : ∀ keep, lk t (kvs ids fr keep) = if keep.contains t then (fr.getD t .any).ren ids else .any
 | [] => rfl
 | u :: l => by
  simp only [kvs, lk, lk_kvs ids fr t l, List.contains_cons]
  by_cases h : u = t
  ·subst h; simp
  ·simp [h, Ne.symm h]
theorem wkF_kvs (ids : List Nat) (fr : List AV) (keep : List Nat) (N : Nat) : ∀ (l : List AV) (t : Nat), (∀ i, l[i]? = fr[t + i]?) → t + l.length ≤ N → wkF (hvOf keep 0 N) ids t l = reG t (kvs ids fr keep) l.length
 | [], t, _, _ => rfl
 | x :: l, t, h, hN => by
  have h0 := h 0
  simp at h0
  have hN' : t + (l.length + 1) ≤ N := hN
  simp only [wkF, List.length_cons, reG]
  rw [wkF_kvs ids fr keep N l (t + 1) (fun i => by have := h (i + 1); simp at this; rw [this]; congr 1; omega) (by omega), lk_kvs, inL_iff, hvOf_spec]
  congr 1
  have hg : fr.getD t .any = x := by rw [List.getD_eq_getElem?_getD, ← h0]; rfl
  rw [hg]
  by_cases hk : keep.contains t = true
  ·rw [hk]; simp
  ·rw [Bool.eq_false_iff.2 hk, show decide (0 ≤ t) = true by simp, show decide (t < 0 + N) = true by simp; omega]; simp
theorem obs_map (ids : List Nat) (os : List Obj) : ∀ l, obs ids os l = l.map fun i => (os.getD i .dead).ren ids
 | [] => rfl
 | i :: l => by simp only [obs, obs_map ids os l, List.map_cons]
theorem wkK_eq (keep ids : List Nat) (s : AS) : wkK keep ids s = wk (hvOf keep 0 s.fr.length) ids s := by
 unfold wkK wk reF
 rw [wkF_kvs ids s.fr keep s.fr.length s.fr 0 (fun i => by simp) (by simp), obs_map]

/-- A LOOP: 'keep': the slots that matter at its head; 'S': the state there; 'M': what falls; 'Q': the invariant. -/
theorem loopK [St] [hE : SE E np P] {c : Code} {body : AS → (XE → AS → Prop) → Prop} {s : AS} {K : XE → AS → Prop} {ι : Type} (keep : List Nat) (S : ι → AS) (M : ι → Nat) (Q : ι → Prop)
  (ids0 : List Nat) (hn0 : ids0.Nodup ∧ pinB np ids0 = true) (i0 : ι) (h0 : wkK keep ids0 s = S i0) (hQ : Q i0)
  (step : ∀ i, Q i → ∀ Kn : AS → Prop, (∀ j s' ids, ids.Nodup ∧ pinB np ids = true → wkK keep ids s' = S j → Q j → M j < M i → Kn s') → body (S i) (fun e s' => match e with
   | .normal => Kn s'
   | e => K e s')) : E.loop c body s K := by
 cases hE.h
 have main : ∀ (n : Nat) (i : ι) (s : AS) (ids : List Nat), ids.Nodup ∧ pinB np ids = true → wkK keep ids s = S i → Q i → M i < n → iterL np body n s K := by
  intro n
  induction n with
  | zero => intro i s ids _ _ _ h; omega
  | succ n ih =>
   intro i s ids hn h hq hm
   refine ⟨hvOf keep 0 s.fr.length, ids, hn, ?_⟩
   rw [← wkK_eq, h]
   exact step i hq _ (fun j s' ids' h1 h2 h3 h4 => ih j s' ids' h1 h2 h3 (by omega))
 exact ⟨M i0 + 1, main _ i0 s ids0 hn0 h0 hQ (by omega)⟩
theorem kvs_append (ids : List Nat) (fr : List AV) (a b : List Nat) : kvs ids fr (a ++ b) = kvs ids fr a ++ kvs ids fr b := by
 induction a with
 | nil => rfl
 | cons t l ih => simp only [List.cons_append, kvs, ih]
/-- A LOOP: 'kc': the slots that matter and stay; 'kv': those that matter and change. -/
theorem loopC [St] [hE : SE E np P] {c : Code} {body : AS → (XE → AS → Prop) → Prop} {s : AS} {K : XE → AS → Prop} {ι : Type} (kc kv : List Nat) (V : ι → List (Nat × AV)) (O : ι → List Obj) (M : ι → Nat) (Q : ι → Prop)
  (ids0 : List Nat) (hn0 : ids0.Nodup ∧ pinB np ids0 = true) (i0 : ι) {C : List (Nat × AV)} {N : Nat} (hC : kvs ids0 s.fr kc = C) (hl : s.fr.length = N) (hV : kvs ids0 s.fr kv = V i0) (hO : obs ids0 s.os ids0 = O i0) (hQ : Q i0)
  (step : ∀ i, Q i → ∀ Kn : AS → Prop, (∀ j {s'} ids, (s'.fr.length, kvs ids s'.fr kc, kvs ids s'.fr kv, obs ids s'.os ids) = (N, C, V j, O j) → Q j → (_ : M j < M i := by dsimp only; omega) → (_ : ids.Nodup ∧ pinB np ids = true := by decide) → Kn s') → body ⟨reF N (C ++ V i), O i⟩ (fun e s' => match e with
   | .normal => Kn s'
   | e => K e s')) : E.loop c body s K := by
 subst hl
 exact loopK (kc ++ kv) (fun i => ⟨reF s.fr.length (C ++ V i), O i⟩) M Q ids0 hn0 i0 (by unfold wkK; rw [kvs_append, hC, hV, hO]) hQ fun i hq Kn hN => step i hq Kn fun j {s'} ids h2 h3 h4 h1 => hN j s' ids h1 (by
  simp only [Prod.mk.injEq] at h2
  unfold wkK; rw [kvs_append, h2.1, h2.2.1, h2.2.2.1, h2.2.2.2]) h3 h4
/-- A round's end. -/
def nx (Kn : AS → Prop) (K : XE → AS → Prop) (e : XE) (s' : AS) : Prop := match e with
 | .normal => Kn s'
 | e => K e s'
section
variable {c : Code} {body : AS → (XE → AS → Prop) → Prop} {s : AS} {K : XE → AS → Prop} {α β γ δ : Type}
theorem loop1 [St] [hE : SE E np P] (kc kv : List Nat) (F : α → List (Nat × AV) × List Obj × Int × Prop) (ids0 : List Nat) (q : α) {C : List (Nat × AV)} {N : Nat} {X : α → (AS → Prop) → Prop} (hQ : (F q).2.2.2) (step : ∀ a, (F a).2.2.2 → ∀ Kn : AS → Prop, (∀ a' {s'} ids, (s'.fr.length, kvs ids s'.fr kc, kvs ids s'.fr kv, obs ids s'.os ids) = (N, C, (F a').1, (F a').2.1) → (F a').2.2.2 → (_ : (F a').2.2.1.toNat < (F a).2.2.1.toNat := by dsimp only; omega) → (_ : ids.Nodup ∧ pinB np ids = true := by decide) → Kn s') → X a Kn) (hn0 : ids0.Nodup ∧ pinB np ids0 = true := by decide) (hC : kvs ids0 s.fr kc = C := by conv => lhs; cbv) (hl : s.fr.length = N := by conv => lhs; cbv) (hV : kvs ids0 s.fr kv = (F q).1 := by rfl) (hO : obs ids0 s.os ids0 = (F q).2.1 := by rfl) (hX : ∀ a Kn, X a Kn → body ⟨reF N (C ++ (F a).1), (F a).2.1⟩ (nx Kn K) := by intro a Kn h; (conv => cbv); exact h) : E.loop c body s K :=
 loopC kc kv (fun i => (F i).1) (fun i => (F i).2.1) (fun i => (F i).2.2.1.toNat) (fun i => (F i).2.2.2) ids0 hn0 q hC hl hV hO hQ fun i hi Kn hN => hX i Kn (step i hi Kn fun b {s'} ids h1 h2 h3 h4 => hN b ids h1 h2 h3 h4)
theorem loop2 [St] [hE : SE E np P] (kc kv : List Nat) (F : α → β → List (Nat × AV) × List Obj × Int × Prop) (ids0 : List Nat) (q : α × β) {C : List (Nat × AV)} {N : Nat} {X : α → β → (AS → Prop) → Prop} (hQ : (F q.1 q.2).2.2.2) (step : ∀ a b, (F a b).2.2.2 → ∀ Kn : AS → Prop, (∀ a' b' {s'} ids, (s'.fr.length, kvs ids s'.fr kc, kvs ids s'.fr kv, obs ids s'.os ids) = (N, C, (F a' b').1, (F a' b').2.1) → (F a' b').2.2.2 → (_ : (F a' b').2.2.1.toNat < (F a b).2.2.1.toNat := by dsimp only; omega) → (_ : ids.Nodup ∧ pinB np ids = true := by decide) → Kn s') → X a b Kn) (hn0 : ids0.Nodup ∧ pinB np ids0 = true := by decide) (hC : kvs ids0 s.fr kc = C := by conv => lhs; cbv) (hl : s.fr.length = N := by conv => lhs; cbv) (hV : kvs ids0 s.fr kv = (F q.1 q.2).1 := by rfl) (hO : obs ids0 s.os ids0 = (F q.1 q.2).2.1 := by rfl) (hX : ∀ a b Kn, X a b Kn → body ⟨reF N (C ++ (F a b).1), (F a b).2.1⟩ (nx Kn K) := by intro a b Kn h; (conv => cbv); exact h) : E.loop c body s K :=
 loop1 kc kv (fun q : α × β => F q.1 q.2) ids0 q (X := (fun q : α × β => X q.1 q.2)) hQ (fun q hi Kn hN => step q.1 q.2 hi Kn fun a' b' {s'} ids h1 h2 h3 h4 => hN (a', b') ids h1 h2 h3 h4) hn0 hC hl hV hO (fun q => hX q.1 q.2)
theorem loop3 [St] [hE : SE E np P] (kc kv : List Nat) (F : α → β → γ → List (Nat × AV) × List Obj × Int × Prop) (ids0 : List Nat) (q : α × β × γ) {C : List (Nat × AV)} {N : Nat} {X : α → β → γ → (AS → Prop) → Prop} (hQ : (F q.1 q.2.1 q.2.2).2.2.2) (step : ∀ a b c, (F a b c).2.2.2 → ∀ Kn : AS → Prop, (∀ a' b' c' {s'} ids, (s'.fr.length, kvs ids s'.fr kc, kvs ids s'.fr kv, obs ids s'.os ids) = (N, C, (F a' b' c').1, (F a' b' c').2.1) → (F a' b' c').2.2.2 → (_ : (F a' b' c').2.2.1.toNat < (F a b c).2.2.1.toNat := by dsimp only; omega) → (_ : ids.Nodup ∧ pinB np ids = true := by decide) → Kn s') → X a b c Kn) (hn0 : ids0.Nodup ∧ pinB np ids0 = true := by decide) (hC : kvs ids0 s.fr kc = C := by conv => lhs; cbv) (hl : s.fr.length = N := by conv => lhs; cbv) (hV : kvs ids0 s.fr kv = (F q.1 q.2.1 q.2.2).1 := by rfl) (hO : obs ids0 s.os ids0 = (F q.1 q.2.1 q.2.2).2.1 := by rfl) (hX : ∀ a b c Kn, X a b c Kn → body ⟨reF N (C ++ (F a b c).1), (F a b c).2.1⟩ (nx Kn K) := by intro a b c Kn h; (conv => cbv); exact h) : E.loop c body s K :=
 loop1 kc kv (fun q : α × β × γ => F q.1 q.2.1 q.2.2) ids0 q (X := (fun q : α × β × γ => X q.1 q.2.1 q.2.2)) hQ (fun q hi Kn hN => step q.1 q.2.1 q.2.2 hi Kn fun a' b' c' {s'} ids h1 h2 h3 h4 => hN (a', b', c') ids h1 h2 h3 h4) hn0 hC hl hV hO (fun q => hX q.1 q.2.1 q.2.2)
theorem loop4 [St] [hE : SE E np P] (kc kv : List Nat) (F : α → β → γ → δ → List (Nat × AV) × List Obj × Int × Prop) (ids0 : List Nat) (q : α × β × γ × δ) {C : List (Nat × AV)} {N : Nat} {X : α → β → γ → δ → (AS → Prop) → Prop} (hQ : (F q.1 q.2.1 q.2.2.1 q.2.2.2).2.2.2) (step : ∀ a b c d, (F a b c d).2.2.2 → ∀ Kn : AS → Prop, (∀ a' b' c' d' {s'} ids, (s'.fr.length, kvs ids s'.fr kc, kvs ids s'.fr kv, obs ids s'.os ids) = (N, C, (F a' b' c' d').1, (F a' b' c' d').2.1) → (F a' b' c' d').2.2.2 → (_ : (F a' b' c' d').2.2.1.toNat < (F a b c d).2.2.1.toNat := by dsimp only; omega) → (_ : ids.Nodup ∧ pinB np ids = true := by decide) → Kn s') → X a b c d Kn) (hn0 : ids0.Nodup ∧ pinB np ids0 = true := by decide) (hC : kvs ids0 s.fr kc = C := by conv => lhs; cbv) (hl : s.fr.length = N := by conv => lhs; cbv) (hV : kvs ids0 s.fr kv = (F q.1 q.2.1 q.2.2.1 q.2.2.2).1 := by rfl) (hO : obs ids0 s.os ids0 = (F q.1 q.2.1 q.2.2.1 q.2.2.2).2.1 := by rfl) (hX : ∀ a b c d Kn, X a b c d Kn → body ⟨reF N (C ++ (F a b c d).1), (F a b c d).2.1⟩ (nx Kn K) := by intro a b c d Kn h; (conv => cbv); exact h) : E.loop c body s K :=
 loop1 kc kv (fun q : α × β × γ × δ => F q.1 q.2.1 q.2.2.1 q.2.2.2) ids0 q (X := (fun q : α × β × γ × δ => X q.1 q.2.1 q.2.2.1 q.2.2.2)) hQ (fun q hi Kn hN => step q.1 q.2.1 q.2.2.1 q.2.2.2 hi Kn fun a' b' c' d' {s'} ids h1 h2 h3 h4 => hN (a', b', c', d') ids h1 h2 h3 h4) hn0 hC hl hV hO (fun q => hX q.1 q.2.1 q.2.2.1 q.2.2.2)
end
end
end Go.Proofs.YtlemeenicaidfaaGreatDoor

/- How a law's arguments read: from the row's reading to the interpreter's values. -/
namespace Go.Proofs.YtlemeenicaidfaaGreatDoor
set_option linter.unusedVariables false
set_option linter.unusedSimpArgs false
open Go Go.RowKit Go.ChangeShapes Go.WideShapes Go.Deep

/-- Values of type t read as R of something that is ok: k cells. -/
def Reads (P : Program) (t : TypeId) {α : Type} (R : α → List AV) (ok : α → Prop) (k : Nat) : Prop :=
 ∀ (H : Type) (enc : TypeId × Value → H) (W : World) (n : Nat) (cs : List Value) (x : DataW H × List MemPlace), DataW.trod enc P W 0 (fun _ => true) true n t cs = some x →
  ∃ a, ok a ∧ (R a).length = k ∧ cs.length = k ∧ (∀ i, i < k → (cs.getD i undef).oneCell' = true) ∧ ∀ (i : Nat) y, (R a)[i]? = some y → Rel W (fun b => b < W.heap.size) y (cs.getD i undef)

section
variable {P : Program} {t : TypeId}

theorem one_reads {α : Type} {R : α → AV} {ok : α → Prop} (h : ∀ (H : Type) (enc : TypeId × Value → H) (W : World) (n : Nat) (cs : List Value) (x : DataW H × List MemPlace), DataW.trod enc P W 0 (fun _ => true) true n t cs = some x →
  ∃ a v, ok a ∧ cs = [v] ∧ v.oneCell' = true ∧ Rel W (fun b => b < W.heap.size) (R a) v) : Reads P t (fun a => [R a]) ok 1 := fun H enc W n cs x hx => by
 obtain ⟨a, v, h1, rfl, h3, h4⟩ := h H enc W n cs x hx
 refine ⟨a, h1, rfl, rfl, fun i hi => ?_, fun i y hy => ?_⟩
 ·have : i = 0 := by omega
  subst this; exact h3
 ·cases i with
  | zero => simp at hy; subst hy; exact h4
  | succ i => simp at hy

theorem Reads.int {k : IntKind} (ht : P.underlying t = some (.int k)) : Reads P t (fun n : Int => [.int k n]) (fun n => (Lit.int k n).wf = true) 1 :=
 one_reads fun H enc W n cs x hx => by
  obtain ⟨m, rfl, _, h⟩ := DataW.trod_int ht hx
  exact ⟨m, _, h, rfl, rfl, .int _ _⟩
theorem Reads.bool (ht : P.underlying t = some .bool) : Reads P t (fun b : Bool => [.bool b]) (fun _ => True) 1 :=
 one_reads fun H enc W n cs x hx => by
  obtain ⟨m, rfl, _⟩ := DataW.trod_bool ht hx
  exact ⟨m, _, trivial, rfl, rfl, .bool _⟩
theorem Reads.str (ht : P.underlying t = some .string) : Reads P t (fun s : ByteArray => [.str s]) (fun s => s.size ≤ maxLen) 1 :=
 one_reads fun H enc W n cs x hx => by
  obtain ⟨m, rfl, _, h⟩ := DataW.trod_string ht hx
  exact ⟨m, _, h, rfl, rfl, .str _ h⟩

theorem Reads.slice {e : TypeId} {α : Type} {R : α → List AV} {ok : α → Prop} {k : Nat} (ht : P.underlying t = some (.slice e)) (hk : P.cellsOf e = k) (h0 : k ≠ 0) (he : Reads P e R ok k) :
  Reads P t (fun l : List α => [.sl false k (l.map R)]) (fun l => (∀ a ∈ l, ok a) ∧ l.length ≤ maxLen) 1 :=
 one_reads fun H enc W n cs x hx => by
  rcases open_slice ht hx with ⟨rfl, _⟩ | ⟨a, len, cap, m, n', D, Pl, rfl, _, hl, hm, hmm, _, hi⟩
  ·exact ⟨[], _, ⟨fun a h => (by simp at h), by simp⟩, rfl, rfl, .sl false k [] none 0 0 0 (fun _ _ => undef) (by simp) (by simp) (by simp) (by simp) (by simp) (by simp) (by simp)⟩
  ·have hmm' : m = cap := by simpa using hmm
   have each : ∀ i : Fin len, ∃ (y : α) (cs' : List Value), ok y ∧ (R y).length = k ∧ W.cells? 0 (a.add (i * k)) k = some cs' ∧ (∀ j, j < k → (cs'.getD j undef).oneCell' = true) ∧ ∀ (j : Nat) z, (R y)[j]? = some z → Rel W (fun b => b < W.heap.size) z (cs'.getD j undef) := fun i => by
    obtain ⟨cs', h1, h2⟩ := hi i (by have := i.2; omega)
    rw [hk] at h1
    obtain ⟨y, g1, g2, g3, g4, g5⟩ := he H enc W n' cs' _ h2
    exact ⟨y, cs', g1, g2, h1, g4, g5⟩
   let f := fun i => (each i).choose
   let c := fun i => (each i).choose_spec.choose
   have hf : ∀ i, ok (f i) ∧ (R (f i)).length = k ∧ W.cells? 0 (a.add (i * k)) k = some (c i) ∧ (∀ j, j < k → ((c i).getD j undef).oneCell' = true) ∧ ∀ (j : Nat) z, (R (f i))[j]? = some z → Rel W (fun b => b < W.heap.size) z ((c i).getD j undef) := fun i => (each i).choose_spec.choose_spec
   have hcell : ∀ (i : Fin len) j, j < k → a.spot = none ∧ a.block < W.heap.size ∧ W.cell? ⟨a.block, a.off + (i * k + j), none⟩ = some ((c i).getD j undef) := fun i j hj => by
    obtain ⟨_, h2, h3⟩ := World.cells?_some (hf i).2.2.1
    have h4 := h3 j hj
    have h5 : (c i)[j]? = some ((c i).getD j undef) := by
     rw [List.getD_eq_getElem?_getD, List.getElem?_eq_getElem (by omega)]; rfl
    rw [h5, Go.Deep.add_add] at h4
    have hsp : a.spot = none := by
     have h6 := (World.cells?_some (hf ⟨0, by have := i.2; omega⟩).2.2.1).2.2 0 (by omega)
     simp only [Nat.zero_mul, Addr.add, if_true] at h6
     have h7 : (c ⟨0, by have := i.2; omega⟩)[0]? = some ((c ⟨0, by have := i.2; omega⟩).getD 0 undef) := by
      have := (World.cells?_some (hf ⟨0, by have := i.2; omega⟩).2.2.1).2.1
      rw [List.getD_eq_getElem?_getD, List.getElem?_eq_getElem (by omega)]; rfl
     rw [h7] at h6
     unfold World.cell? at h6
     split at h6
     ·split at h6
      ·cases h6
      ·rename_i hs; simpa using hs
     ·cases h6
    have hadd : a.add (i * k + j) = ⟨a.block, a.off + (i * k + j), none⟩ := by
     unfold Addr.add
     split
     ·rename_i h0; rw [h0]; cases a; simp_all
     ·rfl
    rw [hadd] at h4
    refine ⟨hsp, ?_, h4⟩
    unfold World.cell? at h4
    split at h4
    ·rename_i hb; exact (Array.getElem?_eq_some_iff.1 hb).1
    ·cases h4
   have hget : ∀ (i : Nat) e, ((List.ofFn f).map R)[i]? = some e → ∃ h : i < len, e = R (f ⟨i, h⟩) := fun i e he => by
    rw [List.getElem?_map] at he
    have hlt : i < len := by
     apply Classical.byContradiction
     intro hn
     rw [List.getElem?_eq_none (by simpa using hn)] at he
     cases he
    rw [List.getElem?_eq_getElem (by simpa using hlt)] at he
    simp at he
    exact ⟨hlt, he.symm⟩
   have hlen : ((List.ofFn f).map R).length = len := by simp
   refine ⟨List.ofFn f, _, ⟨fun y hy => ?_, by simp; omega⟩, rfl, rfl, ?_⟩
   ·obtain ⟨i, rfl⟩ := List.mem_ofFn.1 hy
    exact (hf i).1
   ·have main := Rel.sl (w := W) (A := fun b => b < W.heap.size) false k ((List.ofFn f).map R) (some a) cap a.block a.off (fun i j => if h : i < len then (c ⟨i, h⟩).getD j undef else undef)
     (by rw [hlen]; omega) (by rw [hlen]; exact hl) (fun hne => ?_) (fun e he => ?_) (fun i j hi hj => ?_) (fun i j hi hj => ?_) (fun i j e z he hz => ?_)
    ·rw [hlen] at main; exact main
    ·have hpos : 0 < len := by
      apply Classical.byContradiction
      intro hn
      apply hne
      exact List.eq_nil_of_length_eq_zero (by rw [hlen]; omega)
     obtain ⟨h1, h2, _⟩ := hcell ⟨0, hpos⟩ 0 (by omega)
     refine ⟨?_, h2⟩
     cases a; simp_all
    ·obtain ⟨i, hi⟩ := List.getElem?_of_mem he
     obtain ⟨h, e1⟩ := hget i e hi
     rw [e1]; exact (hf _).2.1
    ·rw [hlen] at hi
     simp only [hi, dif_pos]
     exact (hcell ⟨i, hi⟩ j hj).2.2
    ·rw [hlen] at hi
     simp only [hi, dif_pos]
     exact (hf ⟨i, hi⟩).2.2.2.1 j hj
    ·obtain ⟨h, e1⟩ := hget i e he
     subst e1
     simp only [h, dif_pos]
     exact (hf ⟨i, h⟩).2.2.2.2 j z hz

/-- The fields of a struct from cell 'off' on. -/
def RF (P : Program) (fs : List Field) (off : Nat) {α : Type} (R : α → List AV) (ok : α → Prop) (k : Nat) : Prop :=
 ∀ (H : Type) (enc : TypeId × Value → H) (W : World) (n : Nat) (cs : List Value), (∀ f ∈ fs, ∃ x, DataW.trod enc P W 0 (fun _ => true) true n f.type ((cs.drop f.offset).take (P.cellsOf f.type)) = some x) →
  ∃ a, ok a ∧ (R a).length = k ∧ (∀ i, i < k → (cs.getD (off + i) undef).oneCell' = true) ∧ ∀ (i : Nat) y, (R a)[i]? = some y → Rel W (fun b => b < W.heap.size) y (cs.getD (off + i) undef)

theorem RF.nil {off : Nat} : RF P [] off (fun _ : Unit => []) (fun _ => True) 0 := fun H enc W n cs _ =>
 ⟨(), trivial, rfl, fun i hi => absurd hi (Nat.not_lt_zero i), fun i y hy => by simp at hy⟩
theorem RF.cons {f : Field} {fs : List Field} {off k1 k2 : Nat} {α β : Type} {R1 : α → List AV} {R2 : β → List AV} {ok1 : α → Prop} {ok2 : β → Prop} (h1 : Reads P f.type R1 ok1 k1) (ho : f.offset = off) (hk : P.cellsOf f.type = k1) (h2 : RF P fs (off + k1) R2 ok2 k2) :
  RF P (f :: fs) off (fun p : α × β => R1 p.1 ++ R2 p.2) (fun p => ok1 p.1 ∧ ok2 p.2) (k1 + k2) := fun H enc W n cs h => by
 obtain ⟨x, hx⟩ := h f (by simp)
 rw [ho, hk] at hx
 obtain ⟨a, g1, g2, g3, g4, g5⟩ := h1 H enc W n _ x hx
 obtain ⟨b, e1, e2, e3, e4⟩ := h2 H enc W n cs (fun f' hf' => h f' (by simp [hf']))
 have get : ∀ i, i < k1 → ((cs.drop off).take k1).getD i undef = cs.getD (off + i) undef := fun i hi => by
  rw [List.getD_eq_getElem?_getD, List.getD_eq_getElem?_getD, List.getElem?_take, if_pos hi, List.getElem?_drop]
 refine ⟨(a, b), ⟨g1, e1⟩, by simp [g2, e2], fun i hi => ?_, fun i y hy => ?_⟩
 ·rcases Nat.lt_or_ge i k1 with h | h
  ·rw [← get i h]; exact g4 i h
  ·have := e3 (i - k1) (by omega)
   rwa [show off + k1 + (i - k1) = off + i by omega] at this
 ·rcases Nat.lt_or_ge i k1 with h | h
  ·have g2' : (R1 (a, b).fst).length = k1 := g2
   rw [List.getElem?_append_left (by omega)] at hy
   rw [← get i h]; exact g5 i y hy
  ·have g2' : (R1 (a, b).fst).length = k1 := g2
   rw [List.getElem?_append_right (by omega), g2'] at hy
   have := e4 (i - k1) y hy
   rwa [show off + k1 + (i - k1) = off + i by omega] at this

theorem Reads.struct {fs : Array Field} {α : Type} {R : α → List AV} {ok : α → Prop} {k : Nat} (ht : P.underlying t = some (.struct fs)) (hk : P.cellsOf t = k) (h : RF P fs.toList 0 R ok k) : Reads P t R ok k := fun H enc W n cs x hx => by
 obtain ⟨xs, m, rfl, _, hlen, hxl, hf⟩ := DataW.trod_struct ht hx
 obtain ⟨a, g1, g2, g3, g4⟩ := h H enc W m cs (fun f hfm => by
  obtain ⟨i, hi⟩ := List.getElem?_of_mem hfm
  rw [Array.getElem?_toList] at hi
  have h1 := hf i f hi
  have h2 : i < xs.length := by rw [hxl]; exact (Array.getElem?_eq_some_iff.1 hi).1
  rw [List.getElem?_eq_getElem h2] at h1
  exact ⟨_, h1⟩)
 exact ⟨a, g1, g2, hlen.trans hk, fun i hi => by simpa using g3 i hi, fun i y hy => by simpa using g4 i y hy⟩

theorem Reads.map {α β : Type} {R : α → List AV} {ok : α → Prop} {k : Nat} (h : Reads P t R ok k) {R' : β → List AV} {ok' : β → Prop} (g : α → β) (hR : ∀ a, R' (g a) = R a) (hok : ∀ a, ok a → ok' (g a)) : Reads P t R' ok' k := fun H enc W n cs x hx => by
 obtain ⟨a, g1, g2, g3, g4, g5⟩ := h H enc W n cs x hx
 exact ⟨g a, hok a g1, by rw [hR]; exact g2, g3, g4, fun i y hy => g5 i y (by rw [← hR]; exact hy)⟩

/-- An argument of type t reads as R. -/
def ArgR (P : Program) (t : TypeId) {α : Type} (R : α → AV) (ok : α → Prop) : Prop :=
 ∀ (H : Type) (enc : TypeId × Value → H) (W : World) (v : Value) (d : DataW H) (p : List MemPlace) (base : Nat), DataW.Trod enc P W 0 (fun _ => true) true t v d p → Value.okWide P W .any base t v → ∃ a, ok a ∧ Rel W (fun b => b < W.heap.size) (R a) v

theorem Reads.agg {fs : Array Field} {α : Type} {R : α → List AV} {ok : α → Prop} {k : Nat} (h : Reads P t R ok k) (ht : P.underlying t = some (.struct fs)) : ArgR P t (fun a => .agg (R a)) ok := fun H enc W v d p base ⟨n, hx⟩ hv => by
 unfold Value.okWide at hv
 rw [ht] at hv
 obtain ⟨cs, rfl, _, _⟩ := hv
 obtain ⟨a, g1, g2, g3, _, g5⟩ := h H enc W n _ _ hx
 have g3' : cs.toList.length = k := g3
 exact ⟨a, g1, .agg _ _ (by rw [g2, ← g3']; simp) fun i y hy => by rw [← toList_getD]; exact g5 i y hy⟩

theorem Reads.cell {α : Type} {R : α → AV} {ok : α → Prop} (h : Reads P t (fun a => [R a]) ok 1) (ht : (match P.underlying t with | some (.struct _) | some (.array _ _) => false | _ => true) = true) : ArgR P t R ok := fun H enc W v d p base ⟨n, hx⟩ hv => by
 obtain ⟨a, g1, g2, g3, _, g5⟩ := h H enc W n _ _ hx
 have hcells : v.cells = #[v] := by
  cases v with
  | agg cs =>
   exfalso
   unfold Value.okWide at hv
   cases hu : P.underlying t with
   | none => simp only [hu, Cell.okWide, Cell.ok] at hv
   | some u => cases u <;> simp only [hu, Cell.okWide, Cell.ok] at hv ht <;> first | exact hv.elim | cases ht
  | _ => rfl
 refine ⟨a, g1, ?_⟩
 have := g5 0 _ rfl
 rw [hcells] at this
 exact this
end
end Go.Proofs.YtlemeenicaidfaaGreatDoor

/- The frame of a statement 'the law returns true; each argument reads as it did': from the walk to the row. -/
namespace Go.Proofs.YtlemeenicaidfaaGreatDoor
set_option linter.unusedVariables false
set_option linter.unusedSimpArgs false
open Go Go.RowKit Go.ChangeShapes Go.WideShapes Go.ChangeAt

section
variable {H : Type} {enc : TypeId × Value → H} {P : Program}

theorem trodAll_len {w : World} {base : Nat} {sp : Nat → Bool} {hd : Bool} : ∀ {ts : List TypeId} {vs : List Value} {ds : List (DataW H)} {ps : List MemPlace}, DataW.TrodAll enc P w base sp hd ts vs ds ps → vs.length = ts.length ∧ ds.length = ts.length
 | [], [], [], _, _ => ⟨rfl, rfl⟩
 | _ :: _, _ :: _, _ :: _, _, ⟨_, _, _, h, _⟩ => by
  obtain ⟨h1, h2⟩ := trodAll_len h
  exact ⟨by simp [h1], by simp [h2]⟩
 | [], _ :: _, _, _, h => h.elim
 | [], [], _ :: _, _, h => h.elim
 | _ :: _, [], _, _, h => h.elim
 | _ :: _, _ :: _, [], _, h => h.elim

theorem trodAll_again (hl : laidOutB P = true) {W W' : World} {sp : Nat → Bool} : ∀ {ts : List TypeId} {vs : List Value} {ds : List (DataW H)} {ps : List MemPlace}, (∀ t ∈ ts, P.readableRec t = true ∧ t < P.types.size) → DataW.TrodAll enc P W 0 (fun _ => true) true ts vs ds ps →
  (∀ p ∈ ps, W.sameAt W' p) → (∀ p ∈ ps, sp p.block = true) → DataW.TrodAll enc P W' 0 sp true ts vs ds ps
 | [], [], [], _, _, h, _, _ => h
 | [], _ :: _, _, _, _, h, _, _ => h.elim
 | [], [], _ :: _, _, _, h, _, _ => h.elim
 | _ :: _, [], _, _, _, h, _, _ => h.elim
 | _ :: _, _ :: _, [], _, _, h, _, _ => h.elim
 | t :: ts, v :: vs, d :: ds, ps, ht, ⟨p, q, h1, h2, e⟩, hs, hp => by
  subst e
  have := ht t (by simp)
  exact ⟨p, q, WideElems.Trod_stays hl this.1 this.2 h1 (fun x hx => hs x (List.mem_append_left _ hx)) (fun x hx => hp x (List.mem_append_left _ hx)),
   trodAll_again hl (fun t h => ht t (by simp [h])) h2 (fun x hx => hs x (List.mem_append_right _ hx)) (fun x hx => hp x (List.mem_append_right _ hx)), rfl⟩

theorem post_true [St] {f : Func} {s : ChangeSpec} {apart fresh handsOn : Bool} {W W' : World} {args : Array Value} {ds gs : List (DataW H)} {before : List MemPlace} {tb : TypeId}
  (hl : laidOutB P = true) (hp : ∀ t ∈ f.params.toList, P.readableRec t = true ∧ t < P.types.size) (hvars : s.vars = []) (hres : f.resultTypes = #[tb]) (htb : P.underlying tb = some .bool) 
  (hspec : ∀ ds : List (DataW H), ds.length = f.params.size → s.fn H ds = { results := [.lit (.bool true)], args := ds })
  (hW : DataW.Whole enc P f.params.toList s.vars apart W args.toList ds gs before) (hk : Keeps (fun _ => False) W W') : s.post enc P f apart fresh handsOn false W args (.bool true) W' := by
 have hlt : ∀ p ∈ before, p.block < W.heap.size := fun p hp => hW.lt p hp
 have hW' := hW
 obtain ⟨p, q, hA, hV, rfl, _, _⟩ := hW
 rw [hvars] at hV
 obtain ⟨rfl, rfl⟩ := trodVars_none hV
 have e : s.fn H (ds ++ []) = { results := [.lit (.bool true)], args := ds } := by
  rw [List.append_nil]; exact hspec ds (by simpa using (trodAll_len hA).2)
 have hsp0 : ∀ q ∈ p ++ [], (fun b => decide (b < W.heap.size)) q.block = true := fun q hq => by simpa using hlt q hq
 refine ⟨ds, _, p ++ [], [], p, [], hW', ?_, ?_, ?_, World.keptBut_mono (fun q hq => hq.elim) hk.kept, fun h => by cases h⟩
 ·rw [e, hres]
  exact trodAll_cons_mk (shut_bool htb _) trodAll_mk0
 ·rw [e]
  exact trodAll_again hl hp hA (fun x hx => by
   have := hlt x (List.mem_append_left _ hx)
   cases x with
   | cell b o => exact World.cell?_of_block (w := W) (hk.block b this (fun h => h))
   | map b => exact hk.block b this (fun h => h)) (fun x hx => hsp0 x (List.mem_append_left _ hx))
 ·rw [hvars, e]; exact rfl

theorem AC.law [St] {f : FuncId} {fn : Func} {s : ChangeSpec} {apart fresh handsOn : Bool} {W : World} {args : Array Value} {ds gs : List (DataW H)} {before : List MemPlace} {tb : TypeId} {us : List AV}
  (h : AC P f us id (.bool true)) (hg : GOK W) (hr : RelL W (fun b => b < W.heap.size) us args)
  (hl : laidOutB P = true) (hp : (fn.params.toList.all fun t => P.readableRec t && decide (t < P.types.size)) = true) (hvars : s.vars = []) (hres : fn.resultTypes = #[tb]) (htb : P.underlying tb = some .bool) 
  (hspec : ∀ ds : List (DataW H), ds.length = fn.params.size → s.fn H ds = { results := [.lit (.bool true)], args := ds })
  (hW : DataW.Whole enc P fn.params.toList s.vars apart W args.toList ds gs before) :
  Calls P f args W fun e W' => ∃ v, e = .returned v ∧ s.post enc P fn apart fresh handsOn false W args v W' :=
 (h.2 W args hg hr).mono fun e w' ⟨v, F, e1, e2, e3, _⟩ => by
  cases e3 with
  | pure _ _ _ h _ _ =>
   cases h
   exact ⟨_, e1, post_true hl (fun t ht => by
    have := List.all_eq_true.1 hp t ht
    simpa using this) hvars hres htb hspec hW e2⟩

theorem args0 {W : World} {sp : Nat → Bool} {hd : Bool} {args : Array Value} {ds : List (DataW H)} {p : List MemPlace} (h : DataW.TrodAll enc P W 0 sp hd [] args.toList ds p) : args = #[] := by
 obtain ⟨l⟩ := args
 have hlen := trodAll_len h
 match l, hlen with
 | [], _ => rfl
/-- One argument, two, three and more. -/
theorem args1 {W : World} {sp : Nat → Bool} {hd : Bool} {t0 : TypeId} {args : Array Value} {ds : List (DataW H)} {p : List MemPlace} (h : DataW.TrodAll enc P W 0 sp hd [t0] args.toList ds p) :
  ∃ v0 d0 p0, args = #[v0] ∧ DataW.Trod enc P W 0 sp hd t0 v0 d0 p0 := by
 obtain ⟨l⟩ := args
 have hlen := trodAll_len h
 match l, ds, hlen, h with
 | [v0], [d0], _, ⟨p0, _, h0, _, _⟩ => exact ⟨v0, d0, p0, rfl, h0⟩
theorem args2 {W : World} {sp : Nat → Bool} {hd : Bool} {t0 t1 : TypeId} {args : Array Value} {ds : List (DataW H)} {p : List MemPlace} (h : DataW.TrodAll enc P W 0 sp hd [t0, t1] args.toList ds p) :
  ∃ v0 v1 d0 d1 p0 p1, args = #[v0, v1] ∧ DataW.Trod enc P W 0 sp hd t0 v0 d0 p0 ∧ DataW.Trod enc P W 0 sp hd t1 v1 d1 p1 := by
 obtain ⟨l⟩ := args
 have hlen := trodAll_len h
 match l, ds, hlen, h with
 | [v0, v1], [d0, d1], _, ⟨p0, _, h0, ⟨p1, _, h1, _, _⟩, _⟩ => exact ⟨v0, v1, d0, d1, p0, p1, rfl, h0, h1⟩
theorem args3 {W : World} {sp : Nat → Bool} {hd : Bool} {t0 t1 t2 : TypeId} {args : Array Value} {ds : List (DataW H)} {p : List MemPlace} (h : DataW.TrodAll enc P W 0 sp hd [t0, t1, t2] args.toList ds p) :
  ∃ v0 v1 v2 d0 d1 d2 p0 p1 p2, args = #[v0, v1, v2] ∧ DataW.Trod enc P W 0 sp hd t0 v0 d0 p0 ∧ DataW.Trod enc P W 0 sp hd t1 v1 d1 p1 ∧ DataW.Trod enc P W 0 sp hd t2 v2 d2 p2 := by
 obtain ⟨l⟩ := args
 have hlen := trodAll_len h
 match l, ds, hlen, h with
 | [v0, v1, v2], [d0, d1, d2], _, ⟨p0, _, h0, ⟨p1, _, h1, ⟨p2, _, h2, _, _⟩, _⟩, _⟩ => exact ⟨v0, v1, v2, d0, d1, d2, p0, p1, p2, rfl, h0, h1, h2⟩
theorem args4 {W : World} {sp : Nat → Bool} {hd : Bool} {t0 t1 t2 t3 : TypeId} {args : Array Value} {ds : List (DataW H)} {p : List MemPlace} (h : DataW.TrodAll enc P W 0 sp hd [t0, t1, t2, t3] args.toList ds p) :
  ∃ v0 v1 v2 v3 d0 d1 d2 d3 p0 p1 p2 p3, args = #[v0, v1, v2, v3] ∧ DataW.Trod enc P W 0 sp hd t0 v0 d0 p0 ∧ DataW.Trod enc P W 0 sp hd t1 v1 d1 p1 ∧ DataW.Trod enc P W 0 sp hd t2 v2 d2 p2 ∧ DataW.Trod enc P W 0 sp hd t3 v3 d3 p3 := by
 obtain ⟨l⟩ := args
 have hlen := trodAll_len h
 match l, ds, hlen, h with
 | [v0, v1, v2, v3], [d0, d1, d2, d3], _, ⟨p0, _, h0, ⟨p1, _, h1, ⟨p2, _, h2, ⟨p3, _, h3, _, _⟩, _⟩, _⟩, _⟩ => exact ⟨v0, v1, v2, v3, d0, d1, d2, d3, p0, p1, p2, p3, rfl, h0, h1, h2, h3⟩
theorem args5 {W : World} {sp : Nat → Bool} {hd : Bool} {t0 t1 t2 t3 t4 : TypeId} {args : Array Value} {ds : List (DataW H)} {p : List MemPlace} (h : DataW.TrodAll enc P W 0 sp hd [t0, t1, t2, t3, t4] args.toList ds p) :
  ∃ v0 v1 v2 v3 v4 d0 d1 d2 d3 d4 p0 p1 p2 p3 p4, args = #[v0, v1, v2, v3, v4] ∧ DataW.Trod enc P W 0 sp hd t0 v0 d0 p0 ∧ DataW.Trod enc P W 0 sp hd t1 v1 d1 p1 ∧ DataW.Trod enc P W 0 sp hd t2 v2 d2 p2 ∧ DataW.Trod enc P W 0 sp hd t3 v3 d3 p3 ∧ DataW.Trod enc P W 0 sp hd t4 v4 d4 p4 := by
 obtain ⟨l⟩ := args
 have hlen := trodAll_len h
 match l, ds, hlen, h with
 | [v0, v1, v2, v3, v4], [d0, d1, d2, d3, d4], _, ⟨p0, _, h0, ⟨p1, _, h1, ⟨p2, _, h2, ⟨p3, _, h3, ⟨p4, _, h4, _, _⟩, _⟩, _⟩, _⟩, _⟩ => exact ⟨v0, v1, v2, v3, v4, d0, d1, d2, d3, d4, p0, p1, p2, p3, p4, rfl, h0, h1, h2, h3, h4⟩
theorem args6 {W : World} {sp : Nat → Bool} {hd : Bool} {t0 t1 t2 t3 t4 t5 : TypeId} {args : Array Value} {ds : List (DataW H)} {p : List MemPlace} (h : DataW.TrodAll enc P W 0 sp hd [t0, t1, t2, t3, t4, t5] args.toList ds p) :
  ∃ v0 v1 v2 v3 v4 v5 d0 d1 d2 d3 d4 d5 p0 p1 p2 p3 p4 p5, args = #[v0, v1, v2, v3, v4, v5] ∧ DataW.Trod enc P W 0 sp hd t0 v0 d0 p0 ∧ DataW.Trod enc P W 0 sp hd t1 v1 d1 p1 ∧ DataW.Trod enc P W 0 sp hd t2 v2 d2 p2 ∧ DataW.Trod enc P W 0 sp hd t3 v3 d3 p3 ∧ DataW.Trod enc P W 0 sp hd t4 v4 d4 p4 ∧ DataW.Trod enc P W 0 sp hd t5 v5 d5 p5 := by
 obtain ⟨l⟩ := args
 have hlen := trodAll_len h
 match l, ds, hlen, h with
 | [v0, v1, v2, v3, v4, v5], [d0, d1, d2, d3, d4, d5], _, ⟨p0, _, h0, ⟨p1, _, h1, ⟨p2, _, h2, ⟨p3, _, h3, ⟨p4, _, h4, ⟨p5, _, h5, _, _⟩, _⟩, _⟩, _⟩, _⟩, _⟩ => exact ⟨v0, v1, v2, v3, v4, v5, d0, d1, d2, d3, d4, d5, p0, p1, p2, p3, p4, p5, rfl, h0, h1, h2, h3, h4, h5⟩
theorem args7 {W : World} {sp : Nat → Bool} {hd : Bool} {t0 t1 t2 t3 t4 t5 t6 : TypeId} {args : Array Value} {ds : List (DataW H)} {p : List MemPlace} (h : DataW.TrodAll enc P W 0 sp hd [t0, t1, t2, t3, t4, t5, t6] args.toList ds p) :
  ∃ v0 v1 v2 v3 v4 v5 v6 d0 d1 d2 d3 d4 d5 d6 p0 p1 p2 p3 p4 p5 p6, args = #[v0, v1, v2, v3, v4, v5, v6] ∧ DataW.Trod enc P W 0 sp hd t0 v0 d0 p0 ∧ DataW.Trod enc P W 0 sp hd t1 v1 d1 p1 ∧ DataW.Trod enc P W 0 sp hd t2 v2 d2 p2 ∧ DataW.Trod enc P W 0 sp hd t3 v3 d3 p3 ∧ DataW.Trod enc P W 0 sp hd t4 v4 d4 p4 ∧ DataW.Trod enc P W 0 sp hd t5 v5 d5 p5 ∧ DataW.Trod enc P W 0 sp hd t6 v6 d6 p6 := by
 obtain ⟨l⟩ := args
 have hlen := trodAll_len h
 match l, ds, hlen, h with
 | [v0, v1, v2, v3, v4, v5, v6], [d0, d1, d2, d3, d4, d5, d6], _, ⟨p0, _, h0, ⟨p1, _, h1, ⟨p2, _, h2, ⟨p3, _, h3, ⟨p4, _, h4, ⟨p5, _, h5, ⟨p6, _, h6, _, _⟩, _⟩, _⟩, _⟩, _⟩, _⟩, _⟩ => exact ⟨v0, v1, v2, v3, v4, v5, v6, d0, d1, d2, d3, d4, d5, d6, p0, p1, p2, p3, p4, p5, p6, rfl, h0, h1, h2, h3, h4, h5, h6⟩
end
theorem own : ownKnob Tryz.prog.godebug = none := by kernel_rfl
theorem laid : laidOutB Tryz.prog = true := by kernel_rfl
end Go.Proofs.YtlemeenicaidfaaGreatDoor
