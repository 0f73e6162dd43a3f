/- The frame of a statement 'the law returns true; each argument reads as it did': from the walk to the row. -/
import Derived.Test.YtjenekakcoggpaaAxRead
import Derived.OpenShut
namespace Go.Proofs.Ytjenekakcoggpaa
set_option linter.unusedVariables false
set_option linter.unusedSimpArgs false
open Go Go.RowKit Go.ChangeShapes Go.WideShapes Go.ChangeAt

section
variable {H : Type} {enc : TypeId × Value → H} {P : Program}

theorem trodAll_len {w : World} {base : Nat} {sp : Nat → Bool} {hd : Bool} : ∀ {ts : List TypeId} {vs : List Value} {ds : List (DataW H)} {ps : List MemPlace}, DataW.TrodAll enc P w base sp hd ts vs ds ps → vs.length = ts.length ∧ ds.length = ts.length
  | [], [], [], _, _ => ⟨rfl, rfl⟩
  | _ :: _, _ :: _, _ :: _, _, ⟨_, _, _, h, _⟩ => by
    obtain ⟨h1, h2⟩ := trodAll_len h
    exact ⟨by simp [h1], by simp [h2]⟩
  | [], _ :: _, _, _, h => h.elim
  | [], [], _ :: _, _, h => h.elim
  | _ :: _, [], _, _, h => h.elim
  | _ :: _, _ :: _, [], _, h => h.elim

theorem trodAll_again (hl : laidOutB P = true) {W W' : World} {sp : Nat → Bool} : ∀ {ts : List TypeId} {vs : List Value} {ds : List (DataW H)} {ps : List MemPlace}, (∀ t ∈ ts, P.readableRec t = true ∧ t < P.types.size) → DataW.TrodAll enc P W 0 (fun _ => true) true ts vs ds ps →
    (∀ p ∈ ps, W.sameAt W' p) → (∀ p ∈ ps, sp p.block = true) → DataW.TrodAll enc P W' 0 sp true ts vs ds ps
  | [], [], [], _, _, h, _, _ => h
  | [], _ :: _, _, _, _, h, _, _ => h.elim
  | [], [], _ :: _, _, _, h, _, _ => h.elim
  | _ :: _, [], _, _, _, h, _, _ => h.elim
  | _ :: _, _ :: _, [], _, _, h, _, _ => h.elim
  | t :: ts, v :: vs, d :: ds, ps, ht, ⟨p, q, h1, h2, e⟩, hs, hp => by
    subst e
    have := ht t (by simp)
    exact ⟨p, q, WideElems.Trod_stays hl this.1 this.2 h1 (fun x hx => hs x (List.mem_append_left _ hx)) (fun x hx => hp x (List.mem_append_left _ hx)),
      trodAll_again hl (fun t h => ht t (by simp [h])) h2 (fun x hx => hs x (List.mem_append_right _ hx)) (fun x hx => hp x (List.mem_append_right _ hx)), rfl⟩

theorem post_true {f : Func} {s : ChangeSpec} {apart fresh handsOn : Bool} {W W' : World} {args : Array Value} {ds gs : List (DataW H)} {before : List MemPlace} {tb : TypeId}
    (hl : laidOutB P = true) (hp : ∀ t ∈ f.params.toList, P.readableRec t = true ∧ t < P.types.size) (hvars : s.vars = []) (hres : f.resultTypes = #[tb]) (htb : P.underlying tb = some .bool) 
    (hspec : ∀ ds : List (DataW H), ds.length = f.params.size → s.fn H ds = { results := [.lit (.bool true)], args := ds })
    (hW : DataW.Whole enc P f.params.toList s.vars apart W args.toList ds gs before) (hk : Keeps (fun _ => False) W W') : s.post enc P f apart fresh handsOn false W args (.bool true) W' := by
  have hlt : ∀ p ∈ before, p.block < W.heap.size := fun p hp => hW.lt p hp
  have hW' := hW
  obtain ⟨p, q, hA, hV, rfl, _, _⟩ := hW
  rw [hvars] at hV
  obtain ⟨rfl, rfl⟩ := trodVars_none hV
  have e : s.fn H (ds ++ []) = { results := [.lit (.bool true)], args := ds } := by
    rw [List.append_nil]; exact hspec ds (by simpa using (trodAll_len hA).2)
  have hsp0 : ∀ q ∈ p ++ [], (fun b => decide (b < W.heap.size)) q.block = true := fun q hq => by simpa using hlt q hq
  refine ⟨ds, _, p ++ [], [], p, [], hW', ?_, ?_, ?_, World.keptBut_mono (fun q hq => hq.elim) hk.kept, fun h => by cases h⟩
  · rw [e, hres]
    exact trodAll_cons_mk (shut_bool htb _) trodAll_mk0
  · rw [e]
    exact trodAll_again hl hp hA (fun x hx => by
      have := hlt x (List.mem_append_left _ hx)
      cases x with
      | cell b o => exact World.cell?_of_block (w := W) (hk.block b this (fun h => h))
      | map b => exact hk.block b this (fun h => h)) (fun x hx => hsp0 x (List.mem_append_left _ hx))
  · rw [hvars, e]; exact rfl

theorem AC.law {f : FuncId} {fn : Func} {s : ChangeSpec} {apart fresh handsOn : Bool} {W : World} {args : Array Value} {ds gs : List (DataW H)} {before : List MemPlace} {tb : TypeId} {us : List AV}
    (h : AC P f us id (.bool true)) (hr : RelL W (fun b => b < W.heap.size) us args)
    (hl : laidOutB P = true) (hp : (fn.params.toList.all fun t => P.readableRec t && decide (t < P.types.size)) = true) (hvars : s.vars = []) (hres : fn.resultTypes = #[tb]) (htb : P.underlying tb = some .bool) 
    (hspec : ∀ ds : List (DataW H), ds.length = fn.params.size → s.fn H ds = { results := [.lit (.bool true)], args := ds })
    (hW : DataW.Whole enc P fn.params.toList s.vars apart W args.toList ds gs before) :
    Calls P f args W fun e W' => ∃ v, e = .returned v ∧ s.post enc P fn apart fresh handsOn false W args v W' :=
  (h.2 W args hr).mono fun e w' ⟨v, F, e1, e2, e3, _⟩ => by
    cases e3 with
    | pure _ _ _ h _ _ =>
      cases h
      exact ⟨_, e1, post_true hl (fun t ht => by
        have := List.all_eq_true.1 hp t ht
        simpa using this) hvars hres htb hspec hW e2⟩

/-- One argument, two, three and more. -/
theorem args1 {W : World} {sp : Nat → Bool} {hd : Bool} {t0 : TypeId} {args : Array Value} {ds : List (DataW H)} {p : List MemPlace} (h : DataW.TrodAll enc P W 0 sp hd [t0] args.toList ds p) :
    ∃ v0 d0 p0, args = #[v0] ∧ DataW.Trod enc P W 0 sp hd t0 v0 d0 p0 := by
  obtain ⟨l⟩ := args
  have hlen := trodAll_len h
  match l, ds, hlen, h with
  | [v0], [d0], _, ⟨p0, _, h0, _, _⟩ => exact ⟨v0, d0, p0, rfl, h0⟩
theorem args2 {W : World} {sp : Nat → Bool} {hd : Bool} {t0 t1 : TypeId} {args : Array Value} {ds : List (DataW H)} {p : List MemPlace} (h : DataW.TrodAll enc P W 0 sp hd [t0, t1] args.toList ds p) :
    ∃ v0 v1 d0 d1 p0 p1, args = #[v0, v1] ∧ DataW.Trod enc P W 0 sp hd t0 v0 d0 p0 ∧ DataW.Trod enc P W 0 sp hd t1 v1 d1 p1 := by
  obtain ⟨l⟩ := args
  have hlen := trodAll_len h
  match l, ds, hlen, h with
  | [v0, v1], [d0, d1], _, ⟨p0, _, h0, ⟨p1, _, h1, _, _⟩, _⟩ => exact ⟨v0, v1, d0, d1, p0, p1, rfl, h0, h1⟩
theorem args3 {W : World} {sp : Nat → Bool} {hd : Bool} {t0 t1 t2 : TypeId} {args : Array Value} {ds : List (DataW H)} {p : List MemPlace} (h : DataW.TrodAll enc P W 0 sp hd [t0, t1, t2] args.toList ds p) :
    ∃ v0 v1 v2 d0 d1 d2 p0 p1 p2, args = #[v0, v1, v2] ∧ DataW.Trod enc P W 0 sp hd t0 v0 d0 p0 ∧ DataW.Trod enc P W 0 sp hd t1 v1 d1 p1 ∧ DataW.Trod enc P W 0 sp hd t2 v2 d2 p2 := by
  obtain ⟨l⟩ := args
  have hlen := trodAll_len h
  match l, ds, hlen, h with
  | [v0, v1, v2], [d0, d1, d2], _, ⟨p0, _, h0, ⟨p1, _, h1, ⟨p2, _, h2, _, _⟩, _⟩, _⟩ => exact ⟨v0, v1, v2, d0, d1, d2, p0, p1, p2, rfl, h0, h1, h2⟩
theorem args4 {W : World} {sp : Nat → Bool} {hd : Bool} {t0 t1 t2 t3 : TypeId} {args : Array Value} {ds : List (DataW H)} {p : List MemPlace} (h : DataW.TrodAll enc P W 0 sp hd [t0, t1, t2, t3] args.toList ds p) :
    ∃ v0 v1 v2 v3 d0 d1 d2 d3 p0 p1 p2 p3, args = #[v0, v1, v2, v3] ∧ DataW.Trod enc P W 0 sp hd t0 v0 d0 p0 ∧ DataW.Trod enc P W 0 sp hd t1 v1 d1 p1 ∧ DataW.Trod enc P W 0 sp hd t2 v2 d2 p2 ∧ DataW.Trod enc P W 0 sp hd t3 v3 d3 p3 := by
  obtain ⟨l⟩ := args
  have hlen := trodAll_len h
  match l, ds, hlen, h with
  | [v0, v1, v2, v3], [d0, d1, d2, d3], _, ⟨p0, _, h0, ⟨p1, _, h1, ⟨p2, _, h2, ⟨p3, _, h3, _, _⟩, _⟩, _⟩, _⟩ => exact ⟨v0, v1, v2, v3, d0, d1, d2, d3, p0, p1, p2, p3, rfl, h0, h1, h2, h3⟩
theorem args5 {W : World} {sp : Nat → Bool} {hd : Bool} {t0 t1 t2 t3 t4 : TypeId} {args : Array Value} {ds : List (DataW H)} {p : List MemPlace} (h : DataW.TrodAll enc P W 0 sp hd [t0, t1, t2, t3, t4] args.toList ds p) :
    ∃ v0 v1 v2 v3 v4 d0 d1 d2 d3 d4 p0 p1 p2 p3 p4, args = #[v0, v1, v2, v3, v4] ∧ DataW.Trod enc P W 0 sp hd t0 v0 d0 p0 ∧ DataW.Trod enc P W 0 sp hd t1 v1 d1 p1 ∧ DataW.Trod enc P W 0 sp hd t2 v2 d2 p2 ∧ DataW.Trod enc P W 0 sp hd t3 v3 d3 p3 ∧ DataW.Trod enc P W 0 sp hd t4 v4 d4 p4 := by
  obtain ⟨l⟩ := args
  have hlen := trodAll_len h
  match l, ds, hlen, h with
  | [v0, v1, v2, v3, v4], [d0, d1, d2, d3, d4], _, ⟨p0, _, h0, ⟨p1, _, h1, ⟨p2, _, h2, ⟨p3, _, h3, ⟨p4, _, h4, _, _⟩, _⟩, _⟩, _⟩, _⟩ => exact ⟨v0, v1, v2, v3, v4, d0, d1, d2, d3, d4, p0, p1, p2, p3, p4, rfl, h0, h1, h2, h3, h4⟩
theorem args6 {W : World} {sp : Nat → Bool} {hd : Bool} {t0 t1 t2 t3 t4 t5 : TypeId} {args : Array Value} {ds : List (DataW H)} {p : List MemPlace} (h : DataW.TrodAll enc P W 0 sp hd [t0, t1, t2, t3, t4, t5] args.toList ds p) :
    ∃ v0 v1 v2 v3 v4 v5 d0 d1 d2 d3 d4 d5 p0 p1 p2 p3 p4 p5, args = #[v0, v1, v2, v3, v4, v5] ∧ DataW.Trod enc P W 0 sp hd t0 v0 d0 p0 ∧ DataW.Trod enc P W 0 sp hd t1 v1 d1 p1 ∧ DataW.Trod enc P W 0 sp hd t2 v2 d2 p2 ∧ DataW.Trod enc P W 0 sp hd t3 v3 d3 p3 ∧ DataW.Trod enc P W 0 sp hd t4 v4 d4 p4 ∧ DataW.Trod enc P W 0 sp hd t5 v5 d5 p5 := by
  obtain ⟨l⟩ := args
  have hlen := trodAll_len h
  match l, ds, hlen, h with
  | [v0, v1, v2, v3, v4, v5], [d0, d1, d2, d3, d4, d5], _, ⟨p0, _, h0, ⟨p1, _, h1, ⟨p2, _, h2, ⟨p3, _, h3, ⟨p4, _, h4, ⟨p5, _, h5, _, _⟩, _⟩, _⟩, _⟩, _⟩, _⟩ => exact ⟨v0, v1, v2, v3, v4, v5, d0, d1, d2, d3, d4, d5, p0, p1, p2, p3, p4, p5, rfl, h0, h1, h2, h3, h4, h5⟩
theorem args7 {W : World} {sp : Nat → Bool} {hd : Bool} {t0 t1 t2 t3 t4 t5 t6 : TypeId} {args : Array Value} {ds : List (DataW H)} {p : List MemPlace} (h : DataW.TrodAll enc P W 0 sp hd [t0, t1, t2, t3, t4, t5, t6] args.toList ds p) :
    ∃ v0 v1 v2 v3 v4 v5 v6 d0 d1 d2 d3 d4 d5 d6 p0 p1 p2 p3 p4 p5 p6, args = #[v0, v1, v2, v3, v4, v5, v6] ∧ DataW.Trod enc P W 0 sp hd t0 v0 d0 p0 ∧ DataW.Trod enc P W 0 sp hd t1 v1 d1 p1 ∧ DataW.Trod enc P W 0 sp hd t2 v2 d2 p2 ∧ DataW.Trod enc P W 0 sp hd t3 v3 d3 p3 ∧ DataW.Trod enc P W 0 sp hd t4 v4 d4 p4 ∧ DataW.Trod enc P W 0 sp hd t5 v5 d5 p5 ∧ DataW.Trod enc P W 0 sp hd t6 v6 d6 p6 := by
  obtain ⟨l⟩ := args
  have hlen := trodAll_len h
  match l, ds, hlen, h with
  | [v0, v1, v2, v3, v4, v5, v6], [d0, d1, d2, d3, d4, d5, d6], _, ⟨p0, _, h0, ⟨p1, _, h1, ⟨p2, _, h2, ⟨p3, _, h3, ⟨p4, _, h4, ⟨p5, _, h5, ⟨p6, _, h6, _, _⟩, _⟩, _⟩, _⟩, _⟩, _⟩, _⟩ => exact ⟨v0, v1, v2, v3, v4, v5, v6, d0, d1, d2, d3, d4, d5, d6, p0, p1, p2, p3, p4, p5, p6, rfl, h0, h1, h2, h3, h4, h5, h6⟩
end
theorem own : ownKnob Try.prog.godebug = none := by kernel_rfl
theorem laid : laidOutB Try.prog = true := by kernel_rfl
end Go.Proofs.Ytjenekakcoggpaa
