/- Contracts: voyages, their findings; the law. -/
import Derived.Test.YtffkcjcaeppboadGreatDoorHau
import Derived.Test.YtffkcjcaeppboadGreatDoorHmk
namespace Go.Proofs.YtffkcjcaeppboadGreatDoor
open Go Go.RowKit Classical
set_option maxRecDepth 100000
set_option maxHeartbeats 2000000
set_option linter.unusedVariables false
set_option linter.unusedSimpArgs false
def erC : List ByteArray := ["ok", "invalid", "range", "not-found", "exists", "full", "state", "order", "syntax", "format", "checksum", "truncated"].map String.toUTF8
theorem erC_len : erC.length = 12 := rfl
theorem pickG {k : Int} {es : List ByteArray} {s : ByteArray} (h0 : 0 ≤ k) (h : es[k.toNat]? = some s) : pickS k es = s := by
  have := (List.getElem?_eq_some_iff.1 h).1
  rw [pickS, if_pos (by omega), List.getD_eq_getElem?_getD, h]; rfl
theorem pickS_out {k : Int} {es : List ByteArray} (h : ¬ (0 ≤ k ∧ k ≤ es.length - 1)) : pickS k es = ⟨#[]⟩ := by
  rw [pickS, if_neg (by omega)]
theorem codeName_ (k : Int) : AC Tryz.prog 33 [.int .i64 k] AV.str (pickS k erC) := by
  refine ac Tryz.func33 (by kernel_rfl) (.str _) fun E K hE hK => ?_
  conv => cbv
  repeat' first
    | ((first
   | refine q0 hE ?_
   | refine callI hE (pick_ (es := erC) k (by rfl)) (fun _ _ => ?_)
   | refine B0 hE ?_|refine B1 hE (fun _=>?_) fun _=>?_|refine B3 hE fun _ _ _=>?_|refine B2 hE fun _ _=>?_|refine B4 hE fun _ _ _ _=>?_) <;> (try conv => cbv))
  exact hK _ (by simp_all [atup])
theorem sCodeName_ (k : Int) : AC Tryz.prog 106 [.int .i64 k] AV.str (pickS k erC) := by
  refine ac Tryz.func106 (by kernel_rfl) (.str _) fun E K hE hK => ?_
  conv => cbv
  have h12 := erC_len
  obtain ⟨rs, hrs⟩ : ∃ rs, rs = erC.map strR := ⟨_, rfl⟩
  repeat' first
    | (refine lenL (R := strR) (l := erC) hE (by rfl) (fun n hn hb => ?_); (try conv => cbv))
    | (refine idxL (R := strR) (l := erC) hE (by rfl) (by omega) (fun s hs => ?_); (try conv => cbv))
    | ((first
   | refine q0 hE ?_
   | refine callP hE (in_ _ _ _) (fun _ => ?_) (fun _ => ?_)
   | refine B0 hE ?_|refine B1 hE (fun _=>?_) fun _=>?_|refine B3 hE fun _ _ _=>?_|refine B2 hE fun _ _=>?_|refine B4 hE fun _ _ _ _=>?_) <;> (try conv => cbv))
  all_goals first
    | exact hK _ (by rw [pickG (by omega) hs]; rfl)
    | exact hK _ (by rw [pickS_out (by omega)]; rfl)
    | trace_state
def loadI (ws : List Wrk) (o : List Int) : Int := (o.map fun k => ((ws[k.toNat]?).map Wrk.load).getD 0).sum
theorem loadI_bd {ws : List Wrk} (h : ∀ w ∈ ws, w.ok) : ∀ o : List Int, 0 ≤ loadI ws o ∧ loadI ws o ≤ 1000 * o.length
  | [] => by simp [loadI]
  | k :: o => by
    have ih := loadI_bd h o
    have h1 : 0 ≤ ((ws[k.toNat]?).map Wrk.load).getD 0 ∧ ((ws[k.toNat]?).map Wrk.load).getD 0 ≤ 1000 := by
      cases hv : ws[k.toNat]? with
      | none => simp
      | some w => have := h w (List.mem_of_getElem? hv); simp only [Option.map_some, Option.getD_some]; exact this.2.2.1
    have e : loadI ws (k :: o) = ((ws[k.toNat]?).map Wrk.load).getD 0 + loadI ws o := by simp [loadI]
    rw [e, List.length_cons]; omega
theorem loadI_take {ws : List Wrk} {o : List Int} {i n k : Int} {w : Wrk} (h0 : 0 ≤ i) (hk : o[i.toNat]? = some k) (hw : ws[k.toNat]? = some w) (hn : n = i + 1) : loadI ws (o.take n.toNat) = loadI ws (o.take i.toNat) + w.load := by
  unfold loadI
  rw [show n.toNat = i.toNat + 1 by omega, List.take_add_one, hk]
  simp [hw]
theorem WrksOk.each {ws : List Wrk} (h : WrksOk ws) : ∀ w ∈ ws, w.ok := fun w hw => by
  obtain ⟨j, hj⟩ := List.getElem?_of_mem hw
  obtain ⟨v, h1, h2, _⟩ := h.1 j (List.getElem?_eq_some_iff.1 hj).1
  rw [hj] at h1; cases h1; exact h2
theorem nodup_len : ∀ (m : Nat) (l : List Nat), l.Nodup → (∀ x ∈ l, x < m) → l.length ≤ m
  | 0, l, _, h => by
    cases l with
    | nil => simp
    | cons a l => have := h a (by simp); omega
  | m + 1, l, hn, h => by
    have h1 := nodup_len m (l.erase m) (hn.erase m) fun x hx => by
      have h2 := (hn.mem_erase_iff).1 hx
      have := h x h2.2
      have := h2.1
      omega
    have h3 : l.length ≤ (l.erase m).length + 1 := by
      rw [List.length_erase]; split <;> omega
    omega
theorem nodup_of {l : List Nat} (h : ∀ j k, l[j]? = some k → k ∉ l.take j) : l.Nodup := by
  rw [List.nodup_iff_pairwise_ne]
  rw [List.pairwise_iff_getElem]
  intro i j hi hj hij he
  exact h j l[j] (List.getElem?_eq_getElem hj) (by rw [← he]; exact List.mem_of_getElem? (i := i) (by rw [List.getElem?_take, if_pos hij]; exact List.getElem?_eq_getElem hi))
theorem OrdOk.len {m : Nat} {o : List Int} (h : OrdOk m o) : o.length ≤ m := by
  have hnn : ∀ x ∈ o, 0 ≤ x ∧ x < m := fun x hx => by
    obtain ⟨j, hj⟩ := List.getElem?_of_mem hx
    obtain ⟨k, h1, h2, _⟩ := h j (List.getElem?_eq_some_iff.1 hj).1
    rw [hj] at h1; cases h1; exact h2
  have key := nodup_len m (o.map Int.toNat) (nodup_of fun j k hk hm => by
    rw [List.getElem?_map] at hk
    cases hx : o[j]? with
    | none => rw [hx] at hk; cases hk
    | some x =>
      rw [hx] at hk; cases hk
      rw [← List.map_take] at hm
      obtain ⟨y, hy, he⟩ := List.mem_map.1 hm
      have h1 := hnn x (List.mem_of_getElem? hx)
      have h2 := hnn y (List.mem_of_mem_take hy)
      have : y = x := by omega
      subst this
      obtain ⟨k', e1, _, e3⟩ := h j (List.getElem?_eq_some_iff.1 hx).1
      rw [hx] at e1; cases e1
      exact e3 hy) (fun x hx => by
    obtain ⟨y, hy, rfl⟩ := List.mem_map.1 hx
    have := hnn y hy; omega)
  simpa using key
theorem loadOf_ {rw ro : List (List AV)} {t t' : Bool} {ws : List Wrk} {o : List Int} (hw : rw = ws.map Wrk.cs) (ho : ro = o.map intR) (hok : WrksOk ws) (hor : OrdOk ws.length o) : AC Tryz.prog 79 [.sl t 7 rw, .sl t' 1 ro] (AV.int .i64) (loadI ws o) := by
  refine ac Tryz.func79 (by kernel_rfl) (.int _ _) fun E K hE hK => ?_
  conv => cbv
  have hlen := hor.len
  have h12 := hok.2
  repeat' first
    | (refine lenL hE ho (fun n hn hb => ?_); (try conv => cbv))
    | ((refine loopC hE (ι := Int × Int) [0, 8, 9] [10, 5] (fun q => (fun (i : Int) (m : Int) => [(10, .int .i64 i), (5, .int .i64 m)]) q.1 q.2) (fun q => (fun (i : Int) (m : Int) => []) q.1 q.2) (fun q => (fun (i : Int) (m : Int) => (o.length - i).toNat) q.1 q.2) (fun q => (fun (i : Int) (m : Int) => (0 ≤ i ∧ i ≤ o.length) ∧ m = loadI ws (o.take i.toNat)) q.1 q.2) [] (by decide) ((0, 0)) (by conv => lhs; cbv) (by conv => lhs; cbv) rfl rfl (by dsimp only; exact ⟨by omega, by simp [loadI]⟩) fun q hi2 Kn2 hN2 => ?_; obtain ⟨i, m⟩ := q; (try dsimp only at hi2); conv => cbv); obtain ⟨⟨h0, h1⟩, h2⟩ := hi2; have hbd := loadI_bd hok.each (o.take i.toNat); (have hlt := List.length_take_le i.toNat o))
    | (refine idxL (R := intR) hE ho (by omega) (fun k hk => ?_); have hkk := hor.of hk; (try conv => cbv))
    | (refine idxL (R := Wrk.cs) hE hw (by omega) (fun w hwk => ?_); have hwo := hok.each w (List.mem_of_getElem? hwk); obtain ⟨nm, x1, x2, ld, mn, fr, tl⟩ := w; (have hlo := hwo.2.2.1); (try simp only at hlo); (try conv => cbv))
    | (refine hN2 (_, _) _ [] (by decide) rfl ⟨?_, ?_⟩ ?_ <;> (try dsimp only))
    | ((first
   | refine q0 hE ?_
   | refine B0 hE ?_|refine B1 hE (fun _=>?_) fun _=>?_|refine B3 hE fun _ _ _=>?_|refine B2 hE fun _ _=>?_|refine B4 hE fun _ _ _ _=>?_) <;> (try conv => cbv))
  all_goals (try clear hN2)
  all_goals first
    | omega
    | (rename_i hi3 _; rw [loadI_take h0 hk hwk (by assumption)]; simp only; omega)
    | (refine hK _ ?_; rw [h2, List.take_of_length_le (by omega)]; rfl)
    | trace_state
theorem l25Load_ {rw ro : List (List AV)} {t t' : Bool} {ws : List Wrk} {o : List Int} (hw : rw = ws.map Wrk.cs) (ho : ro = o.map intR) (hok : WrksOk ws) (hor : OrdOk ws.length o) : AC Tryz.prog 207 [.sl t 7 rw, .sl t' 1 ro] (AV.int .i64) (loadI ws o) := by
  refine ac Tryz.func207 (by kernel_rfl) (.int _ _) fun E K hE hK => ?_
  conv => cbv
  have hlen := hor.len
  have h12 := hok.2
  repeat' first
    | (refine lenL hE ho (fun n hn hb => ?_); (try conv => cbv))
    | ((refine loopC hE (ι := Int × Int) [0, 1] [6, 5] (fun q => (fun (i : Int) (m : Int) => [(6, .int .i64 i), (5, .int .i64 m)]) q.1 q.2) (fun q => (fun (i : Int) (m : Int) => []) q.1 q.2) (fun q => (fun (i : Int) (m : Int) => (o.length - i).toNat) q.1 q.2) (fun q => (fun (i : Int) (m : Int) => (0 ≤ i ∧ i ≤ o.length) ∧ m = loadI ws (o.take i.toNat)) q.1 q.2) [] (by decide) ((0, 0)) (by conv => lhs; cbv) (by conv => lhs; cbv) rfl rfl (by dsimp only; exact ⟨by omega, by simp [loadI]⟩) fun q hi2 Kn2 hN2 => ?_; obtain ⟨i, m⟩ := q; (try dsimp only at hi2); conv => cbv); obtain ⟨⟨h0, h1⟩, h2⟩ := hi2; have hbd := loadI_bd hok.each (o.take i.toNat); (have hlt := List.length_take_le i.toNat o))
    | (refine idxL (R := intR) hE ho (by omega) (fun k hk => ?_); have hkk := hor.of hk; (try conv => cbv))
    | (refine idxL (R := Wrk.cs) hE hw (by omega) (fun w hwk => ?_); have hwo := hok.each w (List.mem_of_getElem? hwk); obtain ⟨nm, x1, x2, ld, mn, fr, tl⟩ := w; (have hlo := hwo.2.2.1); (try simp only at hlo); (try conv => cbv))
    | (refine hN2 (_, _) _ [] (by decide) rfl ⟨?_, ?_⟩ ?_ <;> (try dsimp only))
    | ((first
   | refine q0 hE ?_
   | refine B0 hE ?_|refine B1 hE (fun _=>?_) fun _=>?_|refine B3 hE fun _ _ _=>?_|refine B2 hE fun _ _=>?_|refine B4 hE fun _ _ _ _=>?_) <;> (try conv => cbv))
  all_goals (try clear hN2)
  all_goals first
    | omega
    | (rename_i hi3 _; rw [loadI_take h0 hk hwk (by assumption)]; simp only; omega)
    | (refine hK _ ?_; rw [h2, List.take_of_length_le (by omega)]; rfl)
    | trace_state
noncomputable def travI (s x y x' y' : Int) : Int := (distR x y x' y' + s - 1) / s
theorem travI_bd {s : Int} (hs : 1 ≤ s ∧ s ≤ 2000) (x y x' y' : Int) : 0 ≤ travI s x y x' y' ∧ travI s x y x' y' ≤ 302000 := by
  have h := distR_bd x y x' y'
  unfold travI
  exact ⟨Int.ediv_nonneg (by omega) (by omega), Int.le_trans (Int.ediv_le_self _ (by omega)) (by omega)⟩
theorem travel_ (nm : ByteArray) (s l d x y x' y' : Int) (hs : 1 ≤ s ∧ s ≤ 2000) : AC Tryz.prog 80 [.agg [.str nm, .int .i64 s, .int .i64 l, .int .i64 d], .agg [.int .i64 x, .int .i64 y], .agg [.int .i64 x', .int .i64 y']] (AV.int .i64) (travI s x y x' y') := by
  refine ac Tryz.func80 (by kernel_rfl) (.int _ _) fun E K hE hK => ?_
  conv => cbv
  have hbd := distR_bd x y x' y'
  repeat' first
    | (refine callI hE (distance_ _ _ _ _) (fun m hm => ?_); (try conv => cbv))
    | ((first
   | refine q0 hE ?_
   | refine B0 hE ?_|refine B1 hE (fun _=>?_) fun _=>?_|refine B3 hE fun _ _ _=>?_|refine B2 hE fun _ _=>?_|refine B4 hE fun _ _ _ _=>?_) <;> (try conv => cbv))
  all_goals first
    | omega
    | (refine hK _ ?_; unfold travI; subst_vars; rfl)
    | trace_state
theorem l25Travel_ (nm : ByteArray) (s l d x y x' y' : Int) (hs : 1 ≤ s ∧ s ≤ 2000) (h1 : PtOk x y) (h2 : PtOk x' y') : AC Tryz.prog 245 [.pp [.str nm, .int .i64 s, .int .i64 l, .int .i64 d], .agg [.int .i64 x, .int .i64 y], .agg [.int .i64 x', .int .i64 y']] (AV.int .i64) (travI s x y x' y') := by
  refine ac Tryz.func245 (by kernel_rfl) (.int _ _) fun E K hE hK => ?_
  conv => cbv
  have hbd := distR_bd x y x' y'
  repeat' first
    | (refine callI hE (l02Apart_ _ _ _ _ h1 h2) (fun m hm => ?_); (try conv => cbv))
    | ((first
   | refine q0 hE ?_
   | refine B0 hE ?_|refine B1 hE (fun _=>?_) fun _=>?_|refine B3 hE fun _ _ _=>?_|refine B2 hE fun _ _=>?_|refine B4 hE fun _ _ _ _=>?_) <;> (try conv => cbv))
  all_goals first
    | omega
    | (refine hK _ ?_; unfold travI; subst_vars; rfl)
    | trace_state
structure Cal where
  work : Int
  arrive : Int
  bgn : Int
  fin : Int
def Cal.cs (v : Cal) : List AV := [.int .i64 v.work, .int .i64 v.arrive, .int .i64 v.bgn, .int .i64 v.fin]
theorem NoB.oCal (v : Cal) : NoB (.agg v.cs) := .aggC (.int _ _) (.aggC (.int _ _) (.aggC (.int _ _) (.aggC (.int _ _) .agg0)))
noncomputable def callW (s : Int) (w : Wrk) (k x y t : Int) : Cal := ⟨k, t + travI s x y w.atX w.atY, max (t + travI s x y w.atX w.atY) w.frm, max (t + travI s x y w.atX w.atY) w.frm + w.minutes⟩
noncomputable def callsR (s : Int) (ws : List Wrk) : List Int → Int → Int → Int → Option (List Cal)
  | [], _, _, _ => some []
  | k :: ks, x, y, t => match ws[k.toNat]? with
    | none => none
    | some w => if (callW s w k x y t).fin ≤ w.til then (callsR s ws ks w.atX w.atY (callW s w k x y t).fin).map (callW s w k x y t :: ·) else none
theorem callsR_step {s : Int} {ws : List Wrk} {o : List Int} {i k x y t : Int} {w : Wrk} (hk : o[i.toNat]? = some k) (hw : ws[k.toNat]? = some w) :
    callsR s ws (o.drop i.toNat) x y t = if (callW s w k x y t).fin ≤ w.til then (callsR s ws (o.drop (i.toNat + 1)) w.atX w.atY (callW s w k x y t).fin).map (callW s w k x y t :: ·) else none := by
  have hl := (List.getElem?_eq_some_iff.1 hk).1
  have e : o.drop i.toNat = k :: o.drop (i.toNat + 1) := by
    rw [List.drop_eq_getElem_cons hl]
    rw [List.getElem?_eq_getElem hl] at hk; cases hk; rfl
  rw [e, callsR, hw]
theorem callsR_end {s : Int} {ws : List Wrk} {o : List Int} {i x y t : Int} (h : o.length ≤ i) : callsR s ws (o.drop i.toNat) x y t = some [] := by
  rw [List.drop_of_length_le (by omega), callsR]
def VoyInv (s : Int) (ws : List Wrk) (o : List Int) (x0 y0 t0 i x y t : Int) (out : List Cal) : Prop := (0 ≤ i ∧ i ≤ o.length) ∧ PtOk x y ∧ (0 ≤ t ∧ t ≤ 4320) ∧ out.length ≤ i ∧ callsR s ws o x0 y0 t0 = (callsR s ws (o.drop i.toNat) x y t).map (out ++ ·)
theorem VoyInv.start {s : Int} {ws : List Wrk} {o : List Int} {x y t : Int} (h : PtOk x y) (ht : 0 ≤ t ∧ t ≤ 4320) : VoyInv s ws o x y t 0 x y t [] :=
  ⟨by omega, h, ht, by simp, by simp⟩
theorem VoyInv.step {s : Int} {ws : List Wrk} {o : List Int} {x0 y0 t0 i x y t k : Int} {out : List Cal} {w : Wrk} (h : VoyInv s ws o x0 y0 t0 i x y t out) (hs : 1 ≤ s ∧ s ≤ 2000) (hk : o[i.toNat]? = some k) (hw : ws[k.toNat]? = some w) (hok : w.ok) :
    (¬ (callW s w k x y t).fin ≤ w.til → callsR s ws o x0 y0 t0 = none) ∧ ((callW s w k x y t).fin ≤ w.til → VoyInv s ws o x0 y0 t0 (i + 1) w.atX w.atY (callW s w k x y t).fin (out ++ [callW s w k x y t])) := by
  obtain ⟨h1, h2, h3, h4, h5⟩ := h
  have hl := (List.getElem?_eq_some_iff.1 hk).1
  rw [callsR_step hk hw] at h5
  have htr := travI_bd hs x y w.atX w.atY
  obtain ⟨k1, k2, k3, k4, k5, k6⟩ := hok
  refine ⟨fun hn => by rw [h5, if_neg hn]; rfl, fun hn => ⟨by omega, k2, ?_, by simp; omega, ?_⟩⟩
  · simp only [callW] at hn ⊢
    omega
  · rw [h5, if_pos hn, show (i + 1).toNat = i.toNat + 1 by omega, Option.map_map]
    congr 1
    funext l
    simp
theorem VoyInv.done {s : Int} {ws : List Wrk} {o : List Int} {x0 y0 t0 i x y t : Int} {out : List Cal} (h : VoyInv s ws o x0 y0 t0 i x y t out) (hi : o.length ≤ i) : callsR s ws o x0 y0 t0 = some out := by
  rw [h.2.2.2.2, callsR_end hi]; simp
noncomputable def voyC (s l : Int) (ws : List Wrk) (o : List Int) (x y t : Int) : List Cal × Int := if l < loadI ws o then ([], 5) else match callsR s ws o x y t with
  | some c => (c, 0)
  | none => ([], 6)
def calLI (p : List Cal × Int) : AV := .tup [.sl true 4 (p.1.map Cal.cs), .int .i64 p.2]
theorem NoB.calLI (p : List Cal × Int) : NoB (calLI p) := .tupC (.rows .oCal) (.tupC (.int _ _) .tup0)
theorem voyC_full {s l : Int} {ws : List Wrk} {o : List Int} {x y t : Int} (h : l < loadI ws o) : voyC s l ws o x y t = ([], 5) := if_pos h
theorem voyC_some {s l : Int} {ws : List Wrk} {o : List Int} {x y t : Int} {c : List Cal} (h : ¬ l < loadI ws o) (hc : callsR s ws o x y t = some c) : voyC s l ws o x y t = (c, 0) := by rw [voyC, if_neg h, hc]
theorem voyC_none {s l : Int} {ws : List Wrk} {o : List Int} {x y t : Int} (h : ¬ l < loadI ws o) (hc : callsR s ws o x y t = none) : voyC s l ws o x y t = ([], 6) := by rw [voyC, if_neg h, hc]
theorem callW_mk {s k x y t a b e tr : Int} {w : Wrk} (htr : tr = travI s x y w.atX w.atY) (ha : a = t + tr) (hb : b = max a w.frm) (he : e = b + w.minutes) : (⟨k, a, b, e⟩ : Cal) = callW s w k x y t := by
  subst htr ha hb he; rfl
set_option maxHeartbeats 4000000
theorem voyage_ (nm : ByteArray) (s l d x y st : Int) {rw ro : List (List AV)} {t t' : Bool} {ws : List Wrk} {o : List Int} (hw : rw = ws.map Wrk.cs) (ho : ro = o.map intR) (hs : ShpOk nm s l d) (hp : PtOk x y) (hok : WrksOk ws) (hst : 0 ≤ st ∧ st ≤ 4320) (hor : OrdOk ws.length o) : AC Tryz.prog 32 [.agg [.str nm, .int .i64 s, .int .i64 l, .int .i64 d], .agg [.int .i64 x, .int .i64 y], .sl t 7 rw, .sl t' 1 ro, .int .i64 st] calLI (voyC s l ws o x y st) := by
  refine ac Tryz.func32 (by kernel_rfl) (.calLI _) fun E K hE hK => ?_
  conv => cbv
  have hlen := hor.len
  have h12 := hok.2
  have hsp := hs.2.1
  refine callI hE (loadOf_ hw ho hok hor) fun ld hld => ?_
  conv => cbv
  refine ltI hE (fun hlt => ?_) (fun hge => ?_) <;> conv => cbv
  · refine nilOwnI hE 4 ?_
    conv => cbv
    exact hK _ (by rw [voyC_full (by omega)]; rfl)
  · refine lenL hE ho fun no hno hbo => ?_
    conv => cbv
    refine loopC hE (ι := Int × Int × Int × Int × (List Cal) × (List (List AV))) [2, 5, 13, 27, 28] [29, 4, 12] (fun q => (fun (i : Int) (m : Int) (px : Int) (py : Int) (out : List Cal) (es : List (List AV)) => [(29, .int .i64 i), (4, .int .i64 m), (12, .ob 1)]) q.1 q.2.1 q.2.2.1 q.2.2.2.1 q.2.2.2.2.1 q.2.2.2.2.2) (fun q => (fun (i : Int) (m : Int) (px : Int) (py : Int) (out : List Cal) (es : List (List AV)) => [.box [.str nm, .int .i64 s, .int .i64 l, .int .i64 d], .row 4 es, .box [.int .i64 px, .int .i64 py]]) q.1 q.2.1 q.2.2.1 q.2.2.2.1 q.2.2.2.2.1 q.2.2.2.2.2) (fun q => (fun (i : Int) (m : Int) (px : Int) (py : Int) (out : List Cal) (es : List (List AV)) => (o.length - i).toNat) q.1 q.2.1 q.2.2.1 q.2.2.2.1 q.2.2.2.2.1 q.2.2.2.2.2) (fun q => (fun (i : Int) (m : Int) (px : Int) (py : Int) (out : List Cal) (es : List (List AV)) => VoyInv s ws o x y st i px py m out ∧ es = out.map Cal.cs) q.1 q.2.1 q.2.2.1 q.2.2.2.1 q.2.2.2.2.1 q.2.2.2.2.2) [0, 2, 3] (by decide) ((0, st, x, y, [], [])) (by conv => lhs; cbv) (by conv => lhs; cbv) rfl rfl (by dsimp only; exact ⟨VoyInv.start hp hst, rfl⟩) fun q hi Kn hN => ?_
    obtain ⟨i, m, px, py, out, es⟩ := q
    (try dsimp only at hi)
    conv => cbv
    obtain ⟨hinv, hes⟩ := hi
    have hinv' := hinv
    obtain ⟨⟨h0, h1⟩, hpt, hm, hol, _⟩ := hinv'
    refine ltI hE (fun hlt => ?_) (fun hge2 => ?_) <;> conv => cbv
    · refine idxL (R := intR) hE ho (by omega) fun k hk => ?_
      conv => cbv
      have hkk := hor.of hk
      refine idxL (R := Wrk.cs) hE hw (by omega) fun w hwk => ?_
      have hwo := hok.each w (List.mem_of_getElem? hwk)
      have hst2 := hinv.step hsp hk hwk hwo
      obtain ⟨wn, wx, wy, wl, wm, wf, wt⟩ := w
      have hwo' := hwo
      obtain ⟨_, hwp, _, hwm, hwf, hwt⟩ := hwo'
      simp only at hwp hwm hwf hwt hst2
      conv => cbv
      refine callI hE (travel_ _ _ _ _ _ _ _ _ hsp) fun tr htr => ?_
      have htb := travI_bd hsp px py wx wy
      rw [← htr] at htb
      conv => cbv
      refine add64 hE (by omega) fun a ha => ?_
      conv => cbv
      refine maxI hE fun b hb => ?_
      conv => cbv
      refine add64 hE (by omega) fun e he => ?_
      conv => cbv
      have hcw := callW_mk (w := ⟨wn, wx, wy, wl, wm, wf, wt⟩) (k := k) htr ha hb he
      rw [← hcw] at hst2
      simp only at hst2
      refine ltI hE (fun hlt2 => ?_) (fun hge3 => ?_) <;> conv => cbv
      · refine nilOwnI hE 4 ?_
        conv => cbv
        exact hK _ (by rw [voyC_none (by omega) (hst2.1 (by omega))]; rfl)
      · refine catP hE (R := Cal.cs) (v := ⟨k, a, b, e⟩) hes rfl (by omega) fun es2 hes2 => ?_
        conv => cbv
        refine add64 hE (by omega) fun i2 hi2 => ?_
        conv => cbv
        repeat' first
          | (refine hN (_, _, _, _, out ++ [⟨k, a, b, e⟩], _) _ [0, 5, 2] (by decide) rfl ⟨?_, ?_⟩ ?_ <;> (try dsimp only))
          | ((first
         | refine q0 hE ?_
         | refine B0 hE ?_|refine B1 hE (fun _=>?_) fun _=>?_|refine B3 hE fun _ _ _=>?_|refine B2 hE fun _ _=>?_|refine B4 hE fun _ _ _ _=>?_) <;> (try conv => cbv))
        all_goals (try clear hN)
        all_goals first
          | omega
          | (subst hi2; exact hst2.2 (by omega))
          | exact hes2
          | trace_state
    · exact hK _ (by rw [voyC_some (by omega) (hinv.done (by omega)), hes]; rfl)
def calCB (p : Cal × Bool) : AV := .tup [.agg p.1.cs, .bool p.2]
theorem NoB.calCB (p : Cal × Bool) : NoB (calCB p) := .tupC (.oCal _) (.tupC (.bool _) .tup0)
theorem l25Call_ (nm : ByteArray) (s l d k x y m : Int) {rw : List (List AV)} {t : Bool} {ws : List Wrk} {w : Wrk} (hw : rw = ws.map Wrk.cs) (hs : 1 ≤ s ∧ s ≤ 2000) (hp : PtOk x y) (hm : 0 ≤ m ∧ m ≤ 4320) (h0 : 0 ≤ k) (hk : ws[k.toNat]? = some w) (hok : w.ok) : AC Tryz.prog 208 [.pp [.str nm, .int .i64 s, .int .i64 l, .int .i64 d], .sl t 7 rw, .int .i64 k, .agg [.int .i64 x, .int .i64 y], .int .i64 m] calCB (callW s w k x y m, decide ((callW s w k x y m).fin ≤ w.til)) := by
  refine ac Tryz.func208 (by kernel_rfl) (.calCB _) fun E K hE hK => ?_
  conv => cbv
  obtain ⟨wn, wx, wy, wl, wm, wf, wt⟩ := w
  have hwo' := hok
  obtain ⟨_, hwp, _, hwm, hwf, hwt⟩ := hwo'
  simp only at hwp hwm hwf hwt
  repeat' first
    | (refine idxV (R := Wrk.cs) hE hw h0 hk ?_; (try conv => cbv))
    | (refine callI hE (l25Travel_ _ _ _ _ _ _ _ _ hs hp hwp) (fun tr htr => ?_); have htb := travI_bd hs x y wx wy; rw [← htr] at htb; (try conv => cbv))
    | (refine callI hE (l00Max_ _ _) (fun b hb => ?_); (try conv => cbv))
    | ((first
   | refine q0 hE ?_
   | refine B0 hE ?_|refine B1 hE (fun _=>?_) fun _=>?_|refine B3 hE fun _ _ _=>?_|refine B2 hE fun _ _=>?_|refine B4 hE fun _ _ _ _=>?_) <;> (try conv => cbv))
  all_goals first
    | omega
    | (refine hK _ ?_; subst htr; subst_vars; by_cases hle : max (m + travI s x y wx wy) wf + wm ≤ wt <;> first | (exfalso; omega) | exact congrArg (fun b => calCB (callW s ⟨wn, wx, wy, wl, wm, wf, wt⟩ k x y m, b)) (decide_eq_true hle).symm | exact congrArg (fun b => calCB (callW s ⟨wn, wx, wy, wl, wm, wf, wt⟩ k x y m, b)) (decide_eq_false hle).symm | trace_state)
    | trace_state
def calLB (p : List Cal × Bool) : AV := .tup [.sl true 4 (p.1.map Cal.cs), .bool p.2]
theorem NoB.calLB (p : List Cal × Bool) : NoB (calLB p) := .tupC (.rows .oCal) (.tupC (.bool _) .tup0)
noncomputable def callsB (s : Int) (ws : List Wrk) (o : List Int) (x y t : Int) : List Cal × Bool := match callsR s ws o x y t with
  | some c => (c, true)
  | none => ([], false)
theorem callsB_some {s : Int} {ws : List Wrk} {o : List Int} {x y t : Int} {c : List Cal} (h : callsR s ws o x y t = some c) : callsB s ws o x y t = (c, true) := by rw [callsB, h]
theorem callsB_none {s : Int} {ws : List Wrk} {o : List Int} {x y t : Int} (h : callsR s ws o x y t = none) : callsB s ws o x y t = ([], false) := by rw [callsB, h]
theorem l25Calls_ (nm : ByteArray) (s l d x y st : Int) {rw ro : List (List AV)} {t t' : Bool} {ws : List Wrk} {o : List Int} (hw : rw = ws.map Wrk.cs) (ho : ro = o.map intR) (hsp : 1 ≤ s ∧ s ≤ 2000) (hp : PtOk x y) (hok : WrksOk ws) (hst : 0 ≤ st ∧ st ≤ 4320) (hor : OrdOk ws.length o) : AC Tryz.prog 159 [.pp [.str nm, .int .i64 s, .int .i64 l, .int .i64 d], .agg [.int .i64 x, .int .i64 y], .sl t 7 rw, .sl t' 1 ro, .int .i64 st] calLB (callsB s ws o x y st) := by
  refine ac Tryz.func159 (by kernel_rfl) (.calLB _) fun E K hE hK => ?_
  conv => cbv
  have hlen := hor.len
  have h12 := hok.2
  refine loopC hE (ι := Int × Int × Int × Int × (List Cal) × (List (List AV))) [0, 2, 3, 14] [15, 13, 12] (fun q => (fun (i : Int) (m : Int) (px : Int) (py : Int) (out : List Cal) (es : List (List AV)) => [(15, .int .i64 i), (13, .int .i64 m), (12, .ob 0)]) q.1 q.2.1 q.2.2.1 q.2.2.2.1 q.2.2.2.2.1 q.2.2.2.2.2) (fun q => (fun (i : Int) (m : Int) (px : Int) (py : Int) (out : List Cal) (es : List (List AV)) => [.row 4 es, .box [.int .i64 px, .int .i64 py]]) q.1 q.2.1 q.2.2.1 q.2.2.2.1 q.2.2.2.2.1 q.2.2.2.2.2) (fun q => (fun (i : Int) (m : Int) (px : Int) (py : Int) (out : List Cal) (es : List (List AV)) => (o.length - i).toNat) q.1 q.2.1 q.2.2.1 q.2.2.2.1 q.2.2.2.2.1 q.2.2.2.2.2) (fun q => (fun (i : Int) (m : Int) (px : Int) (py : Int) (out : List Cal) (es : List (List AV)) => VoyInv s ws o x y st i px py m out ∧ es = out.map Cal.cs) q.1 q.2.1 q.2.2.1 q.2.2.2.1 q.2.2.2.2.1 q.2.2.2.2.2) [1, 2] (by decide) ((0, st, x, y, [], [])) (by conv => lhs; cbv) (by conv => lhs; cbv) rfl rfl (by dsimp only; exact ⟨VoyInv.start hp hst, rfl⟩) fun q hi Kn hN => ?_
  obtain ⟨i, m, px, py, out, es⟩ := q
  (try dsimp only at hi)
  conv => cbv
  obtain ⟨hinv, hes⟩ := hi
  have hinv' := hinv
  obtain ⟨⟨h0, h1⟩, hpt, hm, hol, _⟩ := hinv'
  refine lenL hE ho fun no hno hbo => ?_
  conv => cbv
  refine ltI hE (fun hlt => ?_) (fun hge2 => ?_) <;> conv => cbv
  · refine idxL (R := intR) hE ho (by omega) fun k hk => ?_
    conv => cbv
    have hkk := hor.of hk
    obtain ⟨w, hwk⟩ : ∃ w, ws[k.toNat]? = some w := ⟨_, List.getElem?_eq_getElem (by omega)⟩
    have hwo := hok.each w (List.mem_of_getElem? hwk)
    have hst2 := hinv.step hsp hk hwk hwo
    refine callI hE (l25Call_ _ _ _ _ _ _ _ _ hw hsp hpt hm hkk.1.1 hwk hwo) fun y1 hy => ?_
    obtain ⟨⟨c1, c2, c3, c4⟩, ok⟩ := y1
    rw [Prod.mk.injEq] at hy
    obtain ⟨hy1, hy2⟩ := hy
    rw [← hy1] at hst2 hy2
    simp only at hst2 hy2
    conv => cbv
    cases ok <;> conv => cbv
    · refine nilOwnI hE 4 ?_
      conv => cbv
      exact hK _ (by rw [callsB_none (hst2.1 (by simpa using hy2.symm))]; rfl)
    · refine catP hE (R := Cal.cs) (v := ⟨c1, c2, c3, c4⟩) hes rfl (by omega) fun es2 hes2 => ?_
      conv => cbv
      refine idxV (R := intR) hE ho (by omega) hk ?_
      conv => cbv
      obtain ⟨wn, wx, wy, wl, wm, wf, wt⟩ := w
      refine idxV (R := Wrk.cs) hE hw hkk.1.1 hwk ?_
      conv => cbv
      refine add64 hE (by omega) fun i2 hi2 => ?_
      conv => cbv
      repeat' first
        | (refine hN (_, _, _, _, out ++ [⟨c1, c2, c3, c4⟩], _) _ [4, 1] (by decide) rfl ⟨?_, ?_⟩ ?_ <;> (try dsimp only))
        | ((first
       | refine q0 hE ?_
       | refine B0 hE ?_|refine B1 hE (fun _=>?_) fun _=>?_|refine B3 hE fun _ _ _=>?_|refine B2 hE fun _ _=>?_|refine B4 hE fun _ _ _ _=>?_) <;> (try conv => cbv))
      all_goals (try clear hN)
      all_goals first
        | omega
        | (subst hi2; exact hst2.2 (by simpa using hy2.symm))
        | exact hes2
        | trace_state
  · exact hK _ (by rw [callsB_some (hinv.done (by omega)), hes]; rfl)
theorem l25Ask_ (nm : ByteArray) (s l d x y st : Int) {rw ro : List (List AV)} {t t' : Bool} {ws : List Wrk} {o : List Int} (hw : rw = ws.map Wrk.cs) (ho : ro = o.map intR) (hs : ShpOk nm s l d) (hp : PtOk x y) (hok : WrksOk ws) (hst : 0 ≤ st ∧ st ≤ 4320) (hor : OrdOk ws.length o) : AC Tryz.prog 158 [.pp [.str nm, .int .i64 s, .int .i64 l, .int .i64 d], .agg [.int .i64 x, .int .i64 y], .sl t 7 rw, .sl t' 1 ro, .int .i64 st] (AV.int .i64) (if l < loadI ws o then 5 else 0) := by
  refine ac Tryz.func158 (by kernel_rfl) (.int _ _) fun E K hE hK => ?_
  conv => cbv
  repeat' first
    | ((first
   | refine q0 hE ?_
   | refine callP hE (l25Ship_ _ _ _ _) (fun _ => ?_) (fun _ => ?_)
   | refine callP hE (l02Ok_ _ _) (fun _ => ?_) (fun _ => ?_)
   | refine callP hE (sW_ hw) (fun _ => ?_) (fun _ => ?_)
   | refine callP hE (in_ _ _ _) (fun _ => ?_) (fun _ => ?_)
   | refine callP hE (l25Order_ hw ho) (fun _ => ?_) (fun _ => ?_)
   | refine callI hE (l25Load_ hw ho hok hor) (fun _ _ => ?_)
   | refine B0 hE ?_|refine B1 hE (fun _=>?_) fun _=>?_|refine B3 hE fun _ _ _=>?_|refine B2 hE fun _ _=>?_|refine B4 hE fun _ _ _ _=>?_) <;> (try conv => cbv))
  all_goals first
    | contradiction
    | (exfalso; omega)
    | (refine hK _ ?_; rw [if_pos (by omega)]; rfl)
    | (refine hK _ ?_; rw [if_neg (by omega)]; rfl)
    | trace_state
theorem voyageOf_ (nm : ByteArray) (s l d x y st : Int) {rw ro : List (List AV)} {t t' : Bool} {ws : List Wrk} {o : List Int} (hw : rw = ws.map Wrk.cs) (ho : ro = o.map intR) (hs : ShpOk nm s l d) (hp : PtOk x y) (hok : WrksOk ws) (hst : 0 ≤ st ∧ st ≤ 4320) (hor : OrdOk ws.length o) : AC Tryz.prog 105 [.agg [.str nm, .int .i64 s, .int .i64 l, .int .i64 d], .agg [.int .i64 x, .int .i64 y], .sl t 7 rw, .sl t' 1 ro, .int .i64 st] calLI (voyC s l ws o x y st) := by
  refine ac Tryz.func105 (by kernel_rfl) (.calLI _) fun E K hE hK => ?_
  conv => cbv
  refine callI hE (l25Ask_ _ _ _ _ _ _ _ hw ho hs hp hok hst hor) fun c hc => ?_
  by_cases hl : l < loadI ws o
  · rw [if_pos hl] at hc
    conv => cbv
    refine q7 hE ?_
    conv => cbv
    refine nilOwnI hE 4 ?_
    conv => cbv
    exact hK _ (by rw [voyC_full hl, hc]; rfl)
  · rw [if_neg hl] at hc
    conv => cbv
    refine q6 hE ?_
    conv => cbv
    refine callI hE (l25Calls_ _ _ _ _ _ _ _ hw ho hs.2.1 hp hok hst hor) fun p hp2 => ?_
    cases hcr : callsR s ws o x y st with
    | some c =>
      rw [callsB_some hcr] at hp2
      subst hp2
      conv => cbv
      exact hK _ (by rw [voyC_some hl hcr]; cases c <;> rfl)
    | none =>
      rw [callsB_none hcr] at hp2
      subst hp2
      conv => cbv
      refine nilOwnI hE 4 ?_
      conv => cbv
      exact hK _ (by rw [voyC_none hl hcr]; rfl)
def missF (n : ByteArray) (ws : List Wrk) (o : List Int) : Nat → List Fdg
  | 0 => []
  | j + 1 => missF n ws o j ++ match ws[j]? with
    | some w => if (j : Int) ∈ o then [] else [⟨8, n, w.name⟩]
    | none => []
def voyF (n : ByteArray) (c : Int) (ws : List Wrk) (o : List Int) (j : Nat) : List Fdg := (if c = 0 then [] else [⟨8, n, pickS c erC⟩]) ++ missF n ws o j
theorem voyF_zero {n : ByteArray} {c : Int} {ws : List Wrk} {o : List Int} {i : Int} (hi : i ≤ 0) (h : c = 0) : voyF n c ws o i.toNat = [] := by
  rw [show i.toNat = 0 by omega]; simp [voyF, missF, h]
theorem voyF_code {n : ByteArray} {c : Int} {ws : List Wrk} {o : List Int} {i : Int} (hi : i ≤ 0) (h : ¬ c = 0) : voyF n c ws o i.toNat = [⟨8, n, pickS c erC⟩] := by
  rw [show i.toNat = 0 by omega]; simp [voyF, missF, h]
theorem voyF_in {n : ByteArray} {c : Int} {ws : List Wrk} {o : List Int} {i k : Int} {w : Wrk} (h0 : 0 ≤ i) (hw : ws[i.toNat]? = some w) (h : i ∈ o) (hk : k = i + 1) : voyF n c ws o k.toNat = voyF n c ws o i.toNat := by
  have e : ((i.toNat : Nat) : Int) = i := by omega
  rw [show k.toNat = i.toNat + 1 by omega]
  simp only [voyF, missF, hw, e, if_pos h, List.append_nil]
theorem voyF_out {n : ByteArray} {c : Int} {ws : List Wrk} {o : List Int} {i k : Int} {w : Wrk} (h0 : 0 ≤ i) (hw : ws[i.toNat]? = some w) (h : ¬ i ∈ o) (hk : k = i + 1) : voyF n c ws o k.toNat = voyF n c ws o i.toNat ++ [⟨8, n, w.name⟩] := by
  have e : ((i.toNat : Nat) : Int) = i := by omega
  rw [show k.toNat = i.toNat + 1 by omega]
  simp only [voyF, missF, hw, e, if_neg h, List.append_assoc]
theorem voyF_len (n : ByteArray) (c : Int) (ws : List Wrk) (o : List Int) : ∀ j : Nat, (voyF n c ws o j).length ≤ 1 + j
  | 0 => by unfold voyF missF; split <;> simp
  | j + 1 => by
    have ih := voyF_len n c ws o j
    unfold voyF at ih ⊢
    rw [missF]
    simp only [List.length_append] at ih ⊢
    cases ws[j]? with
    | none => simp; omega
    | some w =>
      simp only
      by_cases hm : (j : Int) ∈ o
      · rw [if_pos hm, List.length_nil]; omega
      · rw [if_neg hm, List.length_singleton]; omega
noncomputable def voyFA (a : Aut) : List Fdg := voyF a.sName (voyC a.sSpeed a.sLoad a.works a.order a.bX a.bY a.start).2 a.works a.order a.works.length
theorem NoB.fdgs (l : List Fdg) : NoB (.sl true 3 (l.map Fdg.cs)) := .rows .oFdg
def fdgLI (p : List Fdg × Int) : AV := .tup [.sl true 3 (p.1.map Fdg.cs), .int .i64 p.2]
theorem NoB.fdgLI (p : List Fdg × Int) : NoB (fdgLI p) := .tupC (.rows .oFdg) (.tupC (.int _ _) .tup0)
noncomputable def vfR (a : Aut) : List Fdg × Int := if a.ok then (voyFA a, 0) else ([], 1)
theorem l31Voyage_ (day : Int) (away : Int) (tolerance : Int) (sName : ByteArray) (sSpeed : Int) (sLoad : Int) (sDraught : Int) (bX : Int) (bY : Int) (start : Int) {r_edition : List (List AV)} {t_edition : Bool} {b_edition : Bool} {edition : List Aid} {r_notices : List (List AV)} {t_notices : Bool} {b_notices : Bool} {notices : List Ntc} {r_fairways : List (List AV)} {t_fairways : Bool} {b_fairways : Bool} {fairways : List Fwy} {r_dangers : List (List AV)} {t_dangers : Bool} {dangers : List Dgr} {r_observers : List (List AV)} {t_observers : Bool} {observers : List Obv} {r_full : List (List AV)} {t_full : Bool} {full : List Int} {r_works : List (List AV)} {t_works : Bool} {works : List Wrk} {r_order : List (List AV)} {t_order : Bool} {order : List Int} (h_edition : r_edition = edition.map (Aid.cs b_edition)) (h_notices : r_notices = notices.map (Ntc.cs b_notices)) (h_fairways : r_fairways = fairways.map (Fwy.cs b_fairways)) (h_dangers : r_dangers = dangers.map Dgr.cs) (h_observers : r_observers = observers.map Obv.cs) (h_full : r_full = full.map intR) (h_works : r_works = works.map Wrk.cs) (h_order : r_order = order.map intR) (hok : Aut.ok (Aut.mk edition notices day fairways dangers away observers tolerance full sName sSpeed sLoad sDraught bX bY works order start)) : AC Tryz.prog 59 [.pp [.sl t_edition 16 r_edition, .sl t_notices 20 r_notices, .int .i64 day, .sl t_fairways 5 r_fairways, .sl t_dangers 4 r_dangers, .int .i64 away, .sl t_observers 4 r_observers, .int .i64 tolerance, .sl t_full 1 r_full, .str sName, .int .i64 sSpeed, .int .i64 sLoad, .int .i64 sDraught, .int .i64 bX, .int .i64 bY, .sl t_works 7 r_works, .sl t_order 1 r_order, .int .i64 start]] (fun l : List Fdg => .sl true 3 (l.map Fdg.cs)) (voyFA (Aut.mk edition notices day fairways dangers away observers tolerance full sName sSpeed sLoad sDraught bX bY works order start)) := by
  refine ac Tryz.func59 (by kernel_rfl) (.fdgs _) fun E K hE hK => ?_
  conv => cbv
  obtain ⟨hs, hp, hwk, hst, hor⟩ := hok.2.2.2
  have h12 := hwk.2
  simp only at hs hp hwk hst hor h12
  refine callLI (R := Cal.cs) (k := 4) hE (voyageOf_ _ _ _ _ _ _ _ h_works h_order hs hp hwk hst hor) fun rc c _ hc => ?_
  conv => cbv
  have hlen := voyF_len sName c works order
  repeat' first
    | ((refine loopC hE (ι := Int × (List (List AV))) [0] [6, 3] (fun q => (fun (i : Int) (es : List (List AV)) => [(6, .int .i64 i), (3, .ob 0)]) q.1 q.2) (fun q => (fun (i : Int) (es : List (List AV)) => [.row 3 es]) q.1 q.2) (fun q => (fun (i : Int) (es : List (List AV)) => (works.length - i).toNat) q.1 q.2) (fun q => (fun (i : Int) (es : List (List AV)) => (0 ≤ i ∧ i ≤ works.length) ∧ es = (voyF sName c works order i.toNat).map Fdg.cs) q.1 q.2) [0] (by decide) ((0, _)) (by conv => lhs; cbv) (by conv => lhs; cbv) rfl rfl (by dsimp only; exact ⟨by omega, by first | (rw [voyF_zero (by omega) (by omega)]; rfl) | (rw [voyF_code (by omega) (by omega)]; assumption)⟩) fun q hi2 Kn2 hN2 => ?_; obtain ⟨i, es⟩ := q; (try dsimp only at hi2); conv => cbv); obtain ⟨⟨h0, h1⟩, h2⟩ := hi2; have hl2 := hlen i.toNat)
    | ((refine loopC hE (ι := Int × (List (List AV))) [0] [6, 3] (fun q => (fun (i : Int) (es : List (List AV)) => [(6, .int .i64 i), (3, .ob 0)]) q.1 q.2) (fun q => (fun (i : Int) (es : List (List AV)) => [.row 3 es]) q.1 q.2) (fun q => (fun (i : Int) (es : List (List AV)) => (works.length - i).toNat) q.1 q.2) (fun q => (fun (i : Int) (es : List (List AV)) => (0 ≤ i ∧ i ≤ works.length) ∧ es = (voyF sName c works order i.toNat).map Fdg.cs) q.1 q.2) [1] (by decide) ((0, _)) (by conv => lhs; cbv) (by conv => lhs; cbv) rfl rfl (by dsimp only; exact ⟨by omega, by first | (rw [voyF_zero (by omega) (by omega)]; rfl) | (rw [voyF_code (by omega) (by omega)]; assumption)⟩) fun q hi2 Kn2 hN2 => ?_; obtain ⟨i, es⟩ := q; (try dsimp only at hi2); conv => cbv); obtain ⟨⟨h0, h1⟩, h2⟩ := hi2; have hl2 := hlen i.toNat)
    | (refine callI hE (sCodeName_ _) (fun q hq => ?_); (try conv => cbv))
    | (refine catP0 hE (R := Fdg.cs) (v := ⟨8, sName, pickS c erC⟩) (by subst_vars; rfl) (by omega) (fun es4 hes4 => ?_); (try conv => cbv))
    | (refine lenL hE h_works (fun n hn hb => ?_); (try conv => cbv))
    | (refine idxL (R := Wrk.cs) hE h_works (by omega) (fun w hwv => ?_); obtain ⟨wn, wx, wy, wl, wm, wf, wt⟩ := w; (try conv => cbv))
    | (refine catP hE (R := Fdg.cs) (v := ⟨8, sName, wn⟩) h2 rfl (by omega) (fun es4 hes4 => ?_); (try conv => cbv))
    | (refine hN2 (_, _) _ [0] (by decide) rfl ⟨?_, ?_⟩ ?_ <;> (try dsimp only))
    | (refine hN2 (_, _) _ [2] (by decide) rfl ⟨?_, ?_⟩ ?_ <;> (try dsimp only))
    | (refine hN2 (_, _) _ [1] (by decide) rfl ⟨?_, ?_⟩ ?_ <;> (try dsimp only))
    | ((first
   | refine q0 hE ?_
   | refine callP hE (hasJ_ _ h_order) (fun _ => ?_) (fun _ => ?_)
   | refine B0 hE ?_|refine B1 hE (fun _=>?_) fun _=>?_|refine B3 hE fun _ _ _=>?_|refine B2 hE fun _ _=>?_|refine B4 hE fun _ _ _ _=>?_) <;> (try conv => cbv))
  all_goals (try clear hN2)
  all_goals first
    | omega
    | exact h2.trans (congrArg (List.map Fdg.cs) (voyF_in h0 (List.getElem?_eq_getElem (by omega)) (by assumption) (by assumption)).symm)
    | exact hes4.trans (congrArg (List.map Fdg.cs) (voyF_out h0 hwv (by assumption) (by assumption)).symm)
    | (refine hK _ ?_; rw [h2, show i.toNat = works.length by omega, hc]; rfl)
    | trace_state
set_option maxHeartbeats 8000000
theorem voyageFindings_ (day : Int) (away : Int) (tolerance : Int) (sName : ByteArray) (sSpeed : Int) (sLoad : Int) (sDraught : Int) (bX : Int) (bY : Int) (start : Int) {r_edition : List (List AV)} {t_edition : Bool} {b_edition : Bool} {edition : List Aid} {r_notices : List (List AV)} {t_notices : Bool} {b_notices : Bool} {notices : List Ntc} {r_fairways : List (List AV)} {t_fairways : Bool} {b_fairways : Bool} {fairways : List Fwy} {r_dangers : List (List AV)} {t_dangers : Bool} {dangers : List Dgr} {r_observers : List (List AV)} {t_observers : Bool} {observers : List Obv} {r_full : List (List AV)} {t_full : Bool} {full : List Int} {r_works : List (List AV)} {t_works : Bool} {works : List Wrk} {r_order : List (List AV)} {t_order : Bool} {order : List Int} (h_edition : r_edition = edition.map (Aid.cs b_edition)) (h_notices : r_notices = notices.map (Ntc.cs b_notices)) (h_fairways : r_fairways = fairways.map (Fwy.cs b_fairways)) (h_dangers : r_dangers = dangers.map Dgr.cs) (h_observers : r_observers = observers.map Obv.cs) (h_full : r_full = full.map intR) (h_works : r_works = works.map Wrk.cs) (h_order : r_order = order.map intR) : AC Tryz.prog 7 [.agg [.sl t_edition 16 r_edition, .sl t_notices 20 r_notices, .int .i64 day, .sl t_fairways 5 r_fairways, .sl t_dangers 4 r_dangers, .int .i64 away, .sl t_observers 4 r_observers, .int .i64 tolerance, .sl t_full 1 r_full, .str sName, .int .i64 sSpeed, .int .i64 sLoad, .int .i64 sDraught, .int .i64 bX, .int .i64 bY, .sl t_works 7 r_works, .sl t_order 1 r_order, .int .i64 start]] fdgLI (vfR (Aut.mk edition notices day fairways dangers away observers tolerance full sName sSpeed sLoad sDraught bX bY works order start)) := by
  refine ac Tryz.func7 (by kernel_rfl) (.fdgLI _) fun E K hE hK => ?_
  conv => cbv
  refine callP hE (validAuthority_ _ _ _ _ _ _ _ _ _ _ h_edition h_notices h_fairways h_dangers h_observers h_full h_works h_order) (fun hok => ?_) (fun hok => ?_) <;> conv => cbv
  · obtain ⟨hs, hp, hwk, hst, hor⟩ := hok.2.2.2
    have h12 := hwk.2
    simp only at hs hp hwk hst hor h12
    refine callLI (R := Cal.cs) (k := 4) hE (voyage_ _ _ _ _ _ _ _ h_works h_order hs hp hwk hst hor) fun rc c _ hc => ?_
    conv => cbv
    have hlen := voyF_len sName c works order
    repeat' first
      | ((refine loopC hE (ι := Int × (List (List AV))) [1, 39, 40] [41, 4] (fun q => (fun (i : Int) (es : List (List AV)) => [(41, .int .i64 i), (4, .ob 1)]) q.1 q.2) (fun q => (fun (i : Int) (es : List (List AV)) => [.box [.sl t_edition 16 r_edition, .sl t_notices 20 r_notices, .int .i64 day, .sl t_fairways 5 r_fairways, .sl t_dangers 4 r_dangers, .int .i64 away, .sl t_observers 4 r_observers, .int .i64 tolerance, .sl t_full 1 r_full, .str sName, .int .i64 sSpeed, .int .i64 sLoad, .int .i64 sDraught, .int .i64 bX, .int .i64 bY, .sl t_works 7 r_works, .sl t_order 1 r_order, .int .i64 start], .row 3 es]) q.1 q.2) (fun q => (fun (i : Int) (es : List (List AV)) => (works.length - i).toNat) q.1 q.2) (fun q => (fun (i : Int) (es : List (List AV)) => (0 ≤ i ∧ i ≤ works.length) ∧ es = (voyF sName c works order i.toNat).map Fdg.cs) q.1 q.2) [0, 1] (by decide) ((0, _)) (by conv => lhs; cbv) (by conv => lhs; cbv) rfl rfl (by dsimp only; exact ⟨by omega, by first | (rw [voyF_zero (by omega) (by omega)]; rfl) | (rw [voyF_code (by omega) (by omega)]; assumption)⟩) fun q hi2 Kn2 hN2 => ?_; obtain ⟨i, es⟩ := q; (try dsimp only at hi2); conv => cbv); obtain ⟨⟨h0, h1⟩, h2⟩ := hi2; have hl2 := hlen i.toNat)
      | ((refine loopC hE (ι := Int × (List (List AV))) [1, 39, 40] [41, 4] (fun q => (fun (i : Int) (es : List (List AV)) => [(41, .int .i64 i), (4, .ob 1)]) q.1 q.2) (fun q => (fun (i : Int) (es : List (List AV)) => [.box [.sl t_edition 16 r_edition, .sl t_notices 20 r_notices, .int .i64 day, .sl t_fairways 5 r_fairways, .sl t_dangers 4 r_dangers, .int .i64 away, .sl t_observers 4 r_observers, .int .i64 tolerance, .sl t_full 1 r_full, .str sName, .int .i64 sSpeed, .int .i64 sLoad, .int .i64 sDraught, .int .i64 bX, .int .i64 bY, .sl t_works 7 r_works, .sl t_order 1 r_order, .int .i64 start], .row 3 es]) q.1 q.2) (fun q => (fun (i : Int) (es : List (List AV)) => (works.length - i).toNat) q.1 q.2) (fun q => (fun (i : Int) (es : List (List AV)) => (0 ≤ i ∧ i ≤ works.length) ∧ es = (voyF sName c works order i.toNat).map Fdg.cs) q.1 q.2) [0, 3] (by decide) ((0, _)) (by conv => lhs; cbv) (by conv => lhs; cbv) rfl rfl (by dsimp only; exact ⟨by omega, by first | (rw [voyF_zero (by omega) (by omega)]; rfl) | (rw [voyF_code (by omega) (by omega)]; assumption)⟩) fun q hi2 Kn2 hN2 => ?_; obtain ⟨i, es⟩ := q; (try dsimp only at hi2); conv => cbv); obtain ⟨⟨h0, h1⟩, h2⟩ := hi2; have hl2 := hlen i.toNat)
      | (refine callI hE (codeName_ _) (fun q hq => ?_); (try conv => cbv))
      | (refine catP0 hE (R := Fdg.cs) (v := ⟨8, sName, pickS c erC⟩) (by subst_vars; rfl) (by omega) (fun es4 hes4 => ?_); (try conv => cbv))
      | (refine lenL hE h_works (fun n hn hb => ?_); (try conv => cbv))
      | (refine idxL (R := Wrk.cs) hE h_works (by omega) (fun w hwv => ?_); obtain ⟨wn, wx, wy, wl, wm, wf, wt⟩ := w; (try conv => cbv))
      | (refine catP hE (R := Fdg.cs) (v := ⟨8, sName, wn⟩) h2 rfl (by omega) (fun es4 hes4 => ?_); (try conv => cbv))
      | (refine hN2 (_, _) _ [0, 1] (by decide) rfl ⟨?_, ?_⟩ ?_ <;> (try dsimp only))
      | (refine hN2 (_, _) _ [0, 4] (by decide) rfl ⟨?_, ?_⟩ ?_ <;> (try dsimp only))
      | ((first
     | refine q0 hE ?_
     | refine callP hE (containsJ_ _ h_order) (fun _ => ?_) (fun _ => ?_)
     | refine needI hE rfl ?_
     | refine B0 hE ?_|refine B1 hE (fun _=>?_) fun _=>?_|refine B3 hE fun _ _ _=>?_|refine B2 hE fun _ _=>?_|refine B4 hE fun _ _ _ _=>?_) <;> (try conv => cbv))
    all_goals (try clear hN2)
    all_goals first
      | omega
      | exact h2.trans (congrArg (List.map Fdg.cs) (voyF_in h0 (List.getElem?_eq_getElem (by omega)) (by assumption) (by assumption)).symm)
      | exact hes4.trans (congrArg (List.map Fdg.cs) (voyF_out h0 hwv (by assumption) (by assumption)).symm)
      | (refine hK _ ?_; rw [vfR, if_pos hok, h2, show i.toNat = works.length by omega, hc]; rfl)
      | trace_state
  · refine nilOwnI hE 3 ?_
    conv => cbv
    exact hK _ (by rw [vfR, if_neg hok]; rfl)
theorem l31Part4_ (day : Int) (away : Int) (tolerance : Int) (sName : ByteArray) (sSpeed : Int) (sLoad : Int) (sDraught : Int) (bX : Int) (bY : Int) (start : Int) {r_edition : List (List AV)} {t_edition : Bool} {b_edition : Bool} {edition : List Aid} {r_notices : List (List AV)} {t_notices : Bool} {b_notices : Bool} {notices : List Ntc} {r_fairways : List (List AV)} {t_fairways : Bool} {b_fairways : Bool} {fairways : List Fwy} {r_dangers : List (List AV)} {t_dangers : Bool} {dangers : List Dgr} {r_observers : List (List AV)} {t_observers : Bool} {observers : List Obv} {r_full : List (List AV)} {t_full : Bool} {full : List Int} {r_works : List (List AV)} {t_works : Bool} {works : List Wrk} {r_order : List (List AV)} {t_order : Bool} {order : List Int} (h_edition : r_edition = edition.map (Aid.cs b_edition)) (h_notices : r_notices = notices.map (Ntc.cs b_notices)) (h_fairways : r_fairways = fairways.map (Fwy.cs b_fairways)) (h_dangers : r_dangers = dangers.map Dgr.cs) (h_observers : r_observers = observers.map Obv.cs) (h_full : r_full = full.map intR) (h_works : r_works = works.map Wrk.cs) (h_order : r_order = order.map intR) : AC Tryz.prog 21 [.pp [.sl t_edition 16 r_edition, .sl t_notices 20 r_notices, .int .i64 day, .sl t_fairways 5 r_fairways, .sl t_dangers 4 r_dangers, .int .i64 away, .sl t_observers 4 r_observers, .int .i64 tolerance, .sl t_full 1 r_full, .str sName, .int .i64 sSpeed, .int .i64 sLoad, .int .i64 sDraught, .int .i64 bX, .int .i64 bY, .sl t_works 7 r_works, .sl t_order 1 r_order, .int .i64 start], .int .i64 4] fdgLI (vfR (Aut.mk edition notices day fairways dangers away observers tolerance full sName sSpeed sLoad sDraught bX bY works order start)) := by
  refine ac Tryz.func21 (by kernel_rfl) (.fdgLI _) fun E K hE hK => ?_
  conv => cbv
  refine callP hE (l31Ok_ _ _ _ _ _ _ _ _ _ _ h_edition h_notices h_fairways h_dangers h_observers h_full h_works h_order) (fun hok => ?_) (fun hok => ?_) <;> conv => cbv
  · refine q6 hE ?_
    conv => cbv
    refine callR hE (l31Voyage_ _ _ _ _ _ _ _ _ _ _ h_edition h_notices h_fairways h_dangers h_observers h_full h_works h_order hok) (fun rs hrs => ?_)
    conv => cbv
    exact hK _ (by rw [vfR, if_pos hok, hrs]; rfl)
  · refine nilOwnI hE 3 ?_
    conv => cbv
    exact hK _ (by rw [vfR, if_neg hok]; rfl)
theorem sVoyageFindings_ (day : Int) (away : Int) (tolerance : Int) (sName : ByteArray) (sSpeed : Int) (sLoad : Int) (sDraught : Int) (bX : Int) (bY : Int) (start : Int) {r_edition : List (List AV)} {t_edition : Bool} {b_edition : Bool} {edition : List Aid} {r_notices : List (List AV)} {t_notices : Bool} {b_notices : Bool} {notices : List Ntc} {r_fairways : List (List AV)} {t_fairways : Bool} {b_fairways : Bool} {fairways : List Fwy} {r_dangers : List (List AV)} {t_dangers : Bool} {dangers : List Dgr} {r_observers : List (List AV)} {t_observers : Bool} {observers : List Obv} {r_full : List (List AV)} {t_full : Bool} {full : List Int} {r_works : List (List AV)} {t_works : Bool} {works : List Wrk} {r_order : List (List AV)} {t_order : Bool} {order : List Int} (h_edition : r_edition = edition.map (Aid.cs b_edition)) (h_notices : r_notices = notices.map (Ntc.cs b_notices)) (h_fairways : r_fairways = fairways.map (Fwy.cs b_fairways)) (h_dangers : r_dangers = dangers.map Dgr.cs) (h_observers : r_observers = observers.map Obv.cs) (h_full : r_full = full.map intR) (h_works : r_works = works.map Wrk.cs) (h_order : r_order = order.map intR) : AC Tryz.prog 5 [.agg [.sl t_edition 16 r_edition, .sl t_notices 20 r_notices, .int .i64 day, .sl t_fairways 5 r_fairways, .sl t_dangers 4 r_dangers, .int .i64 away, .sl t_observers 4 r_observers, .int .i64 tolerance, .sl t_full 1 r_full, .str sName, .int .i64 sSpeed, .int .i64 sLoad, .int .i64 sDraught, .int .i64 bX, .int .i64 bY, .sl t_works 7 r_works, .sl t_order 1 r_order, .int .i64 start]] fdgLI (vfR (Aut.mk edition notices day fairways dangers away observers tolerance full sName sSpeed sLoad sDraught bX bY works order start)) := by
  refine ac Tryz.func5 (by kernel_rfl) (.fdgLI _) fun E K hE hK => ?_
  conv => cbv
  refine callLI (R := Fdg.cs) (k := 3) hE (l31Part4_ _ _ _ _ _ _ _ _ _ _ h_edition h_notices h_fairways h_dangers h_observers h_full h_works h_order) fun rs c hrs hc => ?_
  conv => cbv
  exact hK _ (by rw [hrs, hc]; rfl)
theorem vfR_len (a : Aut) : (vfR a).1.length ≤ 1 + a.works.length := by
  unfold vfR
  split
  · exact voyF_len _ _ _ _ _
  · simp
theorem lawVoyageFindings (day : Int) (away : Int) (tolerance : Int) (sName : ByteArray) (sSpeed : Int) (sLoad : Int) (sDraught : Int) (bX : Int) (bY : Int) (start : Int) {r_edition : List (List AV)} {t_edition : Bool} {b_edition : Bool} {edition : List Aid} {r_notices : List (List AV)} {t_notices : Bool} {b_notices : Bool} {notices : List Ntc} {r_fairways : List (List AV)} {t_fairways : Bool} {b_fairways : Bool} {fairways : List Fwy} {r_dangers : List (List AV)} {t_dangers : Bool} {dangers : List Dgr} {r_observers : List (List AV)} {t_observers : Bool} {observers : List Obv} {r_full : List (List AV)} {t_full : Bool} {full : List Int} {r_works : List (List AV)} {t_works : Bool} {works : List Wrk} {r_order : List (List AV)} {t_order : Bool} {order : List Int} (h_edition : r_edition = edition.map (Aid.cs b_edition)) (h_notices : r_notices = notices.map (Ntc.cs b_notices)) (h_fairways : r_fairways = fairways.map (Fwy.cs b_fairways)) (h_dangers : r_dangers = dangers.map Dgr.cs) (h_observers : r_observers = observers.map Obv.cs) (h_full : r_full = full.map intR) (h_works : r_works = works.map Wrk.cs) (h_order : r_order = order.map intR) : AC Tryz.prog 3 [.agg [.sl t_edition 16 r_edition, .sl t_notices 20 r_notices, .int .i64 day, .sl t_fairways 5 r_fairways, .sl t_dangers 4 r_dangers, .int .i64 away, .sl t_observers 4 r_observers, .int .i64 tolerance, .sl t_full 1 r_full, .str sName, .int .i64 sSpeed, .int .i64 sLoad, .int .i64 sDraught, .int .i64 bX, .int .i64 bY, .sl t_works 7 r_works, .sl t_order 1 r_order, .int .i64 start]] id (.bool true) := by
  refine ac Tryz.func3 (by kernel_rfl) (.bool _) fun E K hE hK => ?_
  conv => cbv
  refine callI hE (szAuthority_ _ _ _ _ _ _ _ _ _ _ h_edition h_notices h_fairways h_dangers h_observers h_full h_works h_order _ (by decide)) fun z hz => ?_
  have hz2 := szN_or2 hz
  clear hz
  conv => cbv
  refine ltI hE (fun hlt => ?_) (fun hge => ?_) <;> conv => cbv
  · exact hK _ rfl
  have hsz : Aut.sz (Aut.mk edition notices day fairways dangers away observers tolerance full sName sSpeed sLoad sDraught bX bY works order start) ≤ 1048576 := by omega
  have hvl := vfR_len (Aut.mk edition notices day fairways dangers away observers tolerance full sName sSpeed sLoad sDraught bX bY works order start)
  have hw8 : works.length ≤ 1048576 := by simp only [Aut.sz] at hsz; omega
  simp only at hvl
  repeat' first
    | (refine callMI hE (markAuthority_ _ _ _ _ _ _ _ _ _ _ (by assumption) (by assumption) (by assumption) (by assumption) (by assumption) (by assumption) (by assumption) (by assumption) _ (by omega) hsz) ?_; rintro _ _ ⟨n9, hn9, rfl, rfl⟩; conv => cbv)
    | (refine callMI hE (markFindingS_ _ (by assumption) (by omega) (by omega)) ?_; rintro _ _ ⟨n, rs', hn, hrs', rfl, rfl⟩; conv => cbv)
    | ((first
   | refine q0 hE ?_
   | refine callAut hE (toAuthority_ _ _ _ _ _ _ _ _ _ _ h_edition h_notices h_fairways h_dangers h_observers h_full h_works h_order hsz) (fun _ _ _ _ _ _ _ _ _ _ _ _ _ _ _ _ => ?_)
   | refine callLI (R := Fdg.cs) (k := 3) hE (sVoyageFindings_ _ _ _ _ _ _ _ _ _ _ (by assumption) (by assumption) (by assumption) (by assumption) (by assumption) (by assumption) (by assumption) (by assumption)) (fun _ _ _ _ => ?_)
   | refine callLI (R := Fdg.cs) (k := 3) hE (voyageFindings_ _ _ _ _ _ _ _ _ _ _ (by assumption) (by assumption) (by assumption) (by assumption) (by assumption) (by assumption) (by assumption) (by assumption)) (fun _ _ _ _ => ?_)
   | refine callPT hE (eqAuthority_ _ _ _ _ _ _ _ _ _ _ _ _ _ _ _ _ _ _ _ _ (by assumption) (by assumption) (by assumption) (by assumption) (by assumption) (by assumption) (by assumption) (by assumption) (by assumption) (by assumption) (by assumption) (by assumption) (by assumption) (by assumption) (by assumption) (by assumption)) rfl ?_
   | refine callPT hE (eqFindingS_ (by assumption) (by assumption)) rfl ?_
   | refine sameI hE (by subst_vars; simp only [List.length_map, Fdg.mks_len]; first | done | omega) ?_
   | refine callI hE (heldFindingS_ _ (by assumption) (by omega) (by omega)) (fun _ _ => ?_)
   | refine B0 hE ?_|refine B1 hE (fun _=>?_) fun _=>?_|refine B3 hE fun _ _ _=>?_|refine B2 hE fun _ _=>?_|refine B4 hE fun _ _ _ _=>?_) <;> (try conv => cbv))
  all_goals first
    | exact hK _ rfl
    | omega
    | trace_state
theorem lawVoyageFindings2 (a : Aut) : AC Tryz.prog 3 [.agg (a.cs false)] id (.bool true) :=
  lawVoyageFindings a.day a.away a.tolerance a.sName a.sSpeed a.sLoad a.sDraught a.bX a.bY a.start rfl rfl rfl rfl rfl rfl rfl rfl
end Go.Proofs.YtffkcjcaeppboadGreatDoor
