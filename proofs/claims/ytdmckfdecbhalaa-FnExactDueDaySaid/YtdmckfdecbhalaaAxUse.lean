/- How a function's contract is shown: the steps that the evaluation leaves open. -/
import Derived.Test.YtdmckfdecbhalaaAxTab
namespace Go.Proofs.Ytdmckfdecbhalaa
open Go Go.RowKit

theorem ac {f : FuncId} {fn : Func} {α : Type} {args : List AV} {R : α → AV} {x : α} (hf : Try.prog.funcs[f]? = some fn) (hname : (fn.name == "runtime.NumGoroutine") = false) (hn : NoB (R x))
    (h : ∀ (E : Env) (K : AV → Prop), E = stdE Try.prog → (∀ r, r = R x → K r) → afun E LT fn args K) : AC Try.prog f args R x := by
  have h1 := h _ (fun r => r = R x) rfl (fun _ h => h)
  cases hb : fn.body with
  | none => unfold afun at h1; rw [hb] at h1; exact h1.elim
  | some c => exact AC_of_ax LT_ty wide hf hname hb hn h1

section
variable {E : Env} {P : Program}
theorem callI (hE : E = stdE P) {α : Type} {f : FuncId} {args : List AV} {R : α → AV} {x : α} {K : AV → Prop} (h : AC P f args R x) (hk : ∀ y, y = x → K (R y)) : E.call f args K := by
  subst hE; exact ⟨R x, h, hk x rfl⟩
theorem lenI (hE : E = stdE P) {es : List (List AV)} {K : Int → Prop} (h : ∀ n : Int, n = es.length → es.length ≤ maxLen → K n) : E.len es K := by
  subst hE; exact fun hb => h _ rfl hb
theorem idxI (hE : E = stdE P) {es : List (List AV)} {i : Int} {e : List AV} {K : List AV → Prop} (h0 : 0 ≤ i) (he : es[i.toNat]? = some e) (hk : K e) : E.idx es i K := by
  subst hE; exact ⟨h0, e, he, hk⟩
theorem needI (hE : E = stdE P) {p K : Prop} (h : p) (hk : K) : E.need p K := by subst hE; exact ⟨h, hk⟩
theorem nilI (hE : E = stdE P) {K : AV → Prop} (hk : K .nils) : E.nil K := by subst hE; exact .inl hk
theorem nilOwnI (hE : E = stdE P) {K : AV → Prop} (k : Nat) (hk : K (.sl true k [])) : E.nil K := by subst hE; exact .inr ⟨k, hk⟩
theorem notT (hE : E = stdE P) {b : Bool} (h : E.not b = true) : b = false := by subst hE; cases b <;> simp_all [stdE]
theorem notF (hE : E = stdE P) {b : Bool} (h : E.not b = false) : b = true := by subst hE; cases b <;> simp_all [stdE]
theorem br {b : Bool} {p q : Prop} (h1 : b = true → p) (h2 : b = false → q) : if b = true then p else q := by cases b <;> simp [h1, h2]
end
end Go.Proofs.Ytdmckfdecbhalaa
