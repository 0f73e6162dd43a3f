/- Soundness of make, append, stores into own rows, and calls. -/
import Derived.Test.YtjenekakcoggpaaAxOps2
namespace Go.Proofs.Ytjenekakcoggpaa
set_option linter.unusedVariables false
set_option linter.unusedSimpArgs false
open Go Go.RowKit

section
variable {P : Program} {np : Nat} {L : Lay} {W : WM} {w w' : World} {A : Nat → Prop} {os os' : List Obj} {hd hd' : Nat → Value} {F F' : Nat → Nat → Prop} {s : AS} {a : Act}

theorem zok_get {z : List Z} (h : zok z = true) {i : Nat} {x : Z} (hx : z[i]? = some x) : x ≠ .other := by
  induction z generalizing i with
  | nil => simp at hx
  | cons y l ih =>
    unfold zok at h
    split at h
    · rename_i e; cases e
    · cases h
    · rename_i e
      cases e
      cases i with
      | zero => simp at hx; subst hx; rintro rfl; rename_i h2; exact h2 rfl
      | succ i => simp at hx; exact ih h hx
theorem Z.of_one {c : Value} (h : Z.of c ≠ .other) {G : Nat → Prop} (hG : ∀ x, ¬ G x) : XRel w A (Z.of c).av c G ∧ c.oneCell' = true := by
  unfold Z.of at *
  split at h
  · split at h
    · rename_i e; subst e; exact ⟨.pure _ _ _ (.int _ _) rfl hG, rfl⟩
    · exact (h rfl).elim
  · split at h
    · rename_i e; subst e; exact ⟨.pure _ _ _ (.bool _) rfl hG, rfl⟩
    · exact (h rfl).elim
  · rename_i b
    split at h
    · rename_i e
      have : b = ⟨#[]⟩ := by
        cases b with | mk d => congr 1; exact Array.toList_inj.1 (by simpa using e)
      subst this
      exact ⟨.pure _ _ _ (.str _ (by simp [ByteArray.size])) rfl hG, rfl⟩
    · exact (h rfl).elim
  · split at h
    · rename_i e; obtain ⟨rfl, rfl⟩ := e; exact ⟨.pure _ _ _ .nils rfl hG, rfl⟩
    · exact (h rfl).elim
  · exact ⟨.pure _ _ _ .nilp rfl hG, rfl⟩
  · exact (h rfl).elim

theorem step_make (hL : L.ty = layOf P) (hw : CW W w A s.os hd F) (hf : FR w A s.os hd s.fr a) {dst ty pos af g} {t e : TypeId} {xl xc : Operand} {kl kc : IntKind} {l c : Int} {K : AV → AS → Prop}
    (hd0 : (L.ty t).d = .slice e) (hz : (L.ty e).zero ≠ []) (hzn : (L.ty e).zero.length = (L.ty e).n) (hzo : zok (L.ty e).zero = true) (hl : s.get xl = .int kl l) (hc : s.get xc = .int kc c)
    (hk : (stdE np P).make (L.ty e).bytes ((L.ty e).zero.map Z.av) l c fun es => K (.ob s.os.length) ⟨s.fr, s.os ++ [.row (L.ty e).n es]⟩) : StepOK P W w s a ⟨dst, .makeSlice t xl xc, ty, pos, af, g⟩ K := by
  intro next Q hn
  obtain ⟨i, z, h1, h2, h3, h4, h5⟩ := lay_zero hL hz
  obtain ⟨h6, h7, h8, h9, hk⟩ := hk
  have e1 := hf.get xl
  have e2 := hf.get xc
  rw [hl] at e1
  rw [hc] at e2
  generalize hkn : (L.ty e).n = n at *
  have hzs : z.cells.size = n := by rw [h3] at hzn; simpa using hzn
  have hn0 : 0 < n := by rw [← hzn]; exact List.length_pos_iff.2 hz
  have hr := run_make (P := P) w t e i z (lay_slice hL hd0) h1 h2 kl kc l c h6 h7 (by rw [h5] at h8; rw [Int.mul_comm]; exact h8) (by omega)
  rw [← h4] at hr
  have hcell : ∀ q, q < c.toNat * n → (madeCells z.cells (c.toNat * n)).getD q undef = z.cells.getD (q % n) undef := fun q hq => by
    unfold madeCells
    rw [madeZero _ _ _ hq, hzs, getElem!_getD _ _ (by rw [hzs]; exact Nat.mod_lt _ hn0)]
  have idx : ∀ i j, i < l.toNat → j < n → i * n + j < c.toNat * n ∧ (i * n + j) % n = j := fun i j hi hj => by
    have : (i + 1) * n ≤ c.toNat * n := Nat.mul_le_mul_right n (by omega)
    rw [Nat.add_mul] at this
    exact ⟨by omega, by rw [Nat.mul_comm, Nat.mul_add_mod, Nat.mod_eq_of_lt hj]⟩
  have hzj : ∀ j, j < n → ∃ zj, (L.ty e).zero[j]? = some zj ∧ zj = Z.of (z.cells.getD j undef) ∧ zj ≠ .other := fun j hj => by
    have hj' : j < z.cells.size := by omega
    refine ⟨Z.of (z.cells.getD j undef), ?_, rfl, ?_⟩
    · rw [h3, List.getElem?_map, Array.getElem?_toList]
      simp [Array.getD, hj']
    · refine zok_get hzo (i := j) ?_
      rw [h3, List.getElem?_map, Array.getElem?_toList]
      simp [Array.getD, hj']
  obtain ⟨hw2, hm2⟩ := push_new hw (Keeps.alloc w (madeCells z.cells (c.toNat * n)) e) (heap_alloc_new w _) (Nat.le_refl _) (k := n) (cap := c.toNat) (es := List.replicate l.toNat ((L.ty e).zero.map Z.av)) (G := fun _ _ _ => False)
    (by simp; unfold maxLen; omega) (by simp; omega) (by rw [size_madeCells]; exact Nat.le_refl _) (fun r hr => by rw [List.eq_of_mem_replicate hr, List.length_map, hzn])
    (fun i j hi hj => by
      rw [List.length_replicate] at hi
      rw [hcell _ (idx i j hi hj).1, (idx i j hi hj).2]
      obtain ⟨zj, _, g2, g3⟩ := hzj j hj
      exact (Z.of_one (w := w) (A := A) (G := fun _ => False) (g2 ▸ g3) (fun _ h => h)).2)
    (fun i j r x hr hx => by
      have hi := (List.getElem?_eq_some_iff.1 hr).1
      rw [List.length_replicate] at hi
      rw [List.getElem?_replicate, if_pos hi] at hr
      cases hr
      have hj := (List.getElem?_eq_some_iff.1 hx).1
      rw [List.length_map, hzn] at hj
      rw [hcell _ (idx i j hi hj).1, (idx i j hi hj).2]
      obtain ⟨zj, g1, g2, g3⟩ := hzj j hj
      rw [List.getElem?_map, g1] at hx
      cases hx
      rw [g2]
      exact (Z.of_one (g2 ▸ g3) (fun _ h => h)).1)
    (fun i j y _ _ h => h.elim) (fun i j i' j' x _ _ _ _ h => h.elim)
  rw [List.length_replicate] at hw2 hm2
  refine wp_value (w' := w.alloc (.cells (madeCells z.cells (c.toNat * n)) e)) ?_ (hn _ _ _ _ A _ _ hk rfl hw2 (hf.os_mono hm2) (.ob _ _ (by simp) fun k es ho => by rw [updN_eq]))
  simp only [execOp, e1.int_inv, e2.int_inv]
  rw [Sem.run_bind, hr]
  rfl

/-- What an append is given: the cells in memory. -/
structure Src (w : World) (A : Nat → Prop) (k : Nat) (v : Value) (fs : List (List AV)) (H : Nat → Nat → Nat → Prop) where
  p : Option Addr
  cap : Nat
  eq : v = .slice p fs.length cap
  nil : fs = [] ∨ ∃ b off, p = some ⟨b, off, none⟩ ∧ ∀ i j, i < fs.length → j < k → ∃ u, w.cell? ⟨b, off + (i * k + j), none⟩ = some u ∧ u.oneCell' = true ∧ ∀ e x, fs[i]? = some e → e[j]? = some x → XRel w A x u (H i j)
  len : ∀ e ∈ fs, e.length = k

theorem run_append_zero {t ty e : TypeId} {k : Nat} (ht : P.underlying t = some (.slice e)) (hn : ∀ w, (sizeOf e).run P w = .ok k w) (p : Option Addr) (n c : Nat) (hnc : n ≤ c) (q : Option Addr) (d : Nat) :
    (Builtin.append_ #[t, t] ty #[.slice p n c, .slice q 0 d]).run P w = .ok (.slice p n c) w := by
  have hf : (Builtin.firstCells k 0 (.slice q 0 d)).run P w = .ok #[] w := by
    cases q <;> simp [Builtin.firstCells, loadCells, loadCellsFrom]
  cases p with
  | none => simp [Builtin.append_, run_underlying ht, hn, Builtin.lenOf, hf, hnc]
  | some x => simp [Builtin.append_, run_underlying ht, hn, Builtin.lenOf, hf, hnc, storeCells]

theorem run_append_room' {t ty e T : TypeId} (i : TypeInfo) (ht : P.underlying t = some (.slice e)) (hi : P.info? e = some i)
    (g sLen sCap : Nat) (cur : Array Value) (hg : w.heap[g]? = some (.cells cur T (0, 0)))
    (a : Addr) (m c : Nat) (news : List Value) (hl : news.length = m * i.size) (hnews : ∀ j u, news[j]? = some u → w.cell? (a.add j) = some u) (h1 : ∀ u ∈ news, u.oneCell' = true)
    (hroom : sLen + m ≤ sCap) (hfit : sLen * i.size + news.length ≤ cur.size) :
    (Builtin.append_ #[t, t] ty #[.slice (some ⟨g, 0, none⟩) sLen sCap, .slice (some a) m c]).run P w =
      .ok (.slice (some ⟨g, 0, none⟩) (sLen + m) sCap) (w.setRow g (spliceV cur (sLen * i.size) news)) := by
  have hf := run_firstCells_some (P := P) w i.size m a m c news hl hnews
  have hst := run_storeCells_at P g (sLen * i.size) T news 0 cur w hg (by simpa using hfit) h1
  simp only [Nat.add_zero] at hst
  simp [Builtin.append_, run_underlying ht, sizeOf, typeInfo, hi, Builtin.lenOf, hroom, hf, Addr.add_lit, hst, spliceV]

theorem Rel.src {k : Nat} {own fs v} (h : Rel w A (.sl own k fs) v) (hno : ∀ e ∈ fs, ∀ c ∈ e, c.isOwn = false) : Nonempty (Src w A k v fs fun _ _ _ => False) := by
  cases h with
  | sl _ _ _ p cap b off val hl hcap hp hk hc h1c hr =>
    refine ⟨⟨p, cap, rfl, ?_, hk⟩⟩
    by_cases hne : fs = []
    · exact .inl hne
    · refine .inr ⟨b, off, (hp hne).1, fun i j hi hj => ⟨_, hc i j hi hj, h1c i j hi hj, fun e x he hx => .pure _ _ _ (hr i j e x he hx) (hno e (List.mem_of_getElem? he) x (List.mem_of_getElem? hx)) (fun _ h => h)⟩⟩

theorem XRel.src {k : Nat} {fs v} {G : Nat → Prop} (h : XRel w A (.sl true k fs) v G) : ∃ H, Nonempty (Src w A k v fs H) ∧ (∀ i j y, i < fs.length → j < k → H i j y → G y) ∧ (∀ i j i' j' x, i < fs.length → j < k → i' < fs.length → j' < k → H i j x → H i' j' x → i = i' ∧ j = j') := by
  cases h with
  | pure _ _ _ h ho hF => simp [AV.isOwn] at ho
  | nil => exact ⟨fun _ _ _ => False, ⟨⟨none, 0, rfl, .inl rfl, by simp⟩⟩, fun _ _ _ _ _ h => h.elim, fun _ _ _ _ _ _ _ _ _ h => h.elim⟩
  | sl _ _ cap b T c F G hb hl hcap hsz hk h1c hr hF h0 hd =>
    refine ⟨G, ⟨⟨_, cap, rfl, .inr ⟨b, 0, rfl, fun i j hi hj => ⟨c.getD (i * k + j) undef, ?_, h1c i j hi hj, fun e x he hx => hr i j e x he hx⟩⟩, hk⟩⟩, fun i j y hi hj hy => (hF y).2 (.inr ⟨i, j, hi, hj, hy⟩), hd⟩
    have h1 : i * k + j < c.size := by
      have : (i + 1) * k ≤ cap * k := Nat.mul_le_mul_right k (by omega)
      rw [Nat.add_mul] at this; omega
    simp [World.cell?, hb, h1]

/-- An append, one object behind the other. 'hw': the state in which the old row has been given up. -/
theorem app_core (hL : L.ty = layOf P) {A' : Nat → Prop} (hw : CW W w A os hd F) {t ty e : TypeId} (hd0 : (L.ty t).d = .slice e) (hd1 : (L.ty e).d ≠ .other) (hz : (L.ty e).zero ≠ []) (hzn : (L.ty e).zero.length = (L.ty e).n) (hn0 : (L.ty e).n ≠ 0)
    {es fs : List (List AV)} {v y : Value} {G : Nat → Prop} {H : Nat → Nat → Nat → Prop} (hx : XRel w A (.sl true (L.ty e).n es) v G) (hs : Src w A' (L.ty e).n y fs H) (hsA : ∀ i j u x e', fs[i]? = some e' → e'[j]? = some x → XRel w A' x u (H i j) → XRel w A x u (H i j))
    (hG : ∀ x, G x → W.new x ∧ x < w.heap.size ∧ ¬ A x ∧ ∀ id, ¬ F id x)
    (hH : ∀ i j x, i < fs.length → j < (L.ty e).n → H i j x → W.new x ∧ x < w.heap.size ∧ ¬ A x ∧ (∀ id, ¬ F id x) ∧ ¬ G x)
    (hHd : ∀ i j i' j' x, i < fs.length → j < (L.ty e).n → i' < fs.length → j' < (L.ty e).n → H i j x → H i' j' x → i = i' ∧ j = j')
    (hb : (es.length + fs.length) * (L.ty e).bytes ≤ 140737488355328) (hlen : es.length + fs.length ≤ 140737488355328) :
    ∃ v' w' F', (Builtin.append_ #[t, t] ty #[v, y]).run P w = .ok v' w' ∧ CW W w' A (os ++ [.row (L.ty e).n (es ++ fs)]) (updN hd os.length v') F' ∧
      ∀ z u, SRel w A os hd z u → SRel w' A (os ++ [.row (L.ty e).n (es ++ fs)]) (updN hd os.length v') z u := by
  obtain ⟨i, z, h1, h2, h3, h4, h5⟩ := lay_zero hL hz
  generalize hkn : (L.ty e).n = k at *
  have hk0 : 0 < k := by omega
  have ht := lay_slice hL hd0
  have hso : ∀ w, (sizeOf e).run P w = .ok k w := fun w => by rw [run_sizeOf hL hd1, hkn]
  have hA : ∀ x, A x → x < w.heap.size := fun x h => (hw.hA x h).1
  obtain ⟨p, cap, rfl, hnil, hfl⟩ := hs
  -- what is taken over unchanged
  have same : fs = [] → ∃ v' w' F', (Builtin.append_ #[t, t] ty #[v, .slice p fs.length cap]).run P w = .ok v' w' ∧ CW W w' A (os ++ [.row k (es ++ fs)]) (updN hd os.length v') F' ∧
      ∀ z u, SRel w A os hd z u → SRel w' A (os ++ [.row k (es ++ fs)]) (updN hd os.length v') z u := by
    rintro rfl
    obtain ⟨p0, c0, e1, _, e2⟩ := (hx.rel (B := fun _ => True) (fun _ _ => trivial) (fun _ _ => trivial)).sl_len
    refine ⟨v, w, _, by rw [e1]; exact run_append_zero ht hso p0 _ _ e2 p cap, hw.push (.row k (es ++ [])) v G hG (fun k' es' e => ?_) (fun cs e => by cases e), fun z u h => h.push _ _⟩
    cases e
    rw [List.append_nil]
    exact hx
  rcases hnil with hfs | ⟨b, off, rfl, hcell⟩
  · exact same hfs
  by_cases hfs : fs = []
  · exact same hfs
  have hm0 : 0 < fs.length := List.length_pos_iff.2 hfs
  -- the new cells
  obtain ⟨news, hnews⟩ : ∃ news : List Value, news = (List.range (fs.length * k)).map fun q => (w.cell? ⟨b, off + q, none⟩).getD undef := ⟨_, rfl⟩
  have hnl : news.length = fs.length * k := by rw [hnews]; simp
  have hq : ∀ q, q < fs.length * k → q / k < fs.length ∧ q % k < k ∧ q / k * k + q % k = q := fun q hq => ⟨(Nat.div_lt_iff_lt_mul hk0).2 hq, Nat.mod_lt _ hk0, by rw [Nat.mul_comm]; exact Nat.div_add_mod q k⟩
  have hnc : ∀ q u, news[q]? = some u → w.cell? ((⟨b, off, none⟩ : Addr).add q) = some u := fun q u hu => by
    have h6 := (List.getElem?_eq_some_iff.1 hu).1
    rw [hnl] at h6
    obtain ⟨g1, g2, g3⟩ := hq q h6
    obtain ⟨u', e1, _⟩ := hcell _ _ g1 g2
    rw [g3] at e1
    rw [hnews] at hu
    simp [h6, e1] at hu
    subst hu
    rw [addr_add, e1]
  have hnD : ∀ i j, i < fs.length → j < k → i * k + j < fs.length * k ∧ w.cell? ⟨b, off + (i * k + j), none⟩ = some (news.getD (i * k + j) undef) := fun i j hi hj => by
    have h6 : i * k + j < fs.length * k := by
      have : (i + 1) * k ≤ fs.length * k := Nat.mul_le_mul_right k (by omega)
      rw [Nat.add_mul] at this; omega
    refine ⟨h6, ?_⟩
    obtain ⟨u', e1, _⟩ := hcell i j hi hj
    rw [hnews, e1]
    simp [List.getD, h6, e1]
  have hone : ∀ u ∈ news, u.oneCell' = true := fun u hu => by
    obtain ⟨q, hq1, rfl⟩ := List.getElem_of_mem hu
    rw [hnl] at hq1
    obtain ⟨g1, g2, g3⟩ := hq q hq1
    obtain ⟨u', e1, e2, _⟩ := hcell _ _ g1 g2
    rw [g3] at e1
    have := hnc q _ (List.getElem?_eq_getElem (by rw [hnl]; exact hq1))
    rw [addr_add, e1] at this
    injection this with this
    rw [← this]
    exact e2
  have hrel : ∀ i j e' x, fs[i]? = some e' → e'[j]? = some x → XRel w A x (news.getD (i * k + j) undef) (H i j) := fun i j e' x he hx => by
    have hi := (List.getElem?_eq_some_iff.1 he).1
    have hj := (List.getElem?_eq_some_iff.1 hx).1
    rw [hfl e' (List.mem_of_getElem? he)] at hj
    obtain ⟨u', e1, _, e3⟩ := hcell i j hi hj
    obtain ⟨_, e4⟩ := hnD i j hi hj
    rw [e1] at e4
    injection e4 with e4
    rw [← e4]
    exact hsA i j u' x e' he hx (e3 e' x he hx)
  have hnl' : news.length = fs.length * i.size := by rw [hnl, h4]
  -- the new row's cells
  have core : ∀ (w' : World) (b' cap' : Nat) (c : Array Value) (T : TypeId) (G0 : Nat → Nat → Nat → Prop) (Ex : Nat → Prop), Keeps Ex w w' → (∀ x, Ex x → W.new x ∧ ¬ A x ∧ (∀ id, ¬ F id x) ∧ (∀ i j, i < es.length → j < k → ¬ G0 i j x) ∧ ∀ i j, i < fs.length → j < k → ¬ H i j x) →
      w'.heap[b']? = some (.cells c T (0, 0)) → (w.heap.size ≤ b' ∨ Ex b') → W.new b' → es.length + fs.length ≤ cap' → cap' * k ≤ c.size → (∀ e ∈ es, e.length = k) →
      (∀ i j, i < es.length → j < k → (c.getD (i * k + j) undef).oneCell' = true ∧ ∀ e' x, es[i]? = some e' → e'[j]? = some x → XRel w A x (c.getD (i * k + j) undef) (G0 i j)) →
      (∀ i j, i < fs.length → j < k → c.getD ((es.length + i) * k + j) undef = news.getD (i * k + j) undef) →
      (∀ i j x, i < es.length → j < k → G0 i j x → G x) → (∀ i j i' j' x, i < es.length → j < k → i' < es.length → j' < k → G0 i j x → G0 i' j' x → i = i' ∧ j = j') →
      CW W w' A (os ++ [.row k (es ++ fs)]) (updN hd os.length (.slice (some ⟨b', 0, none⟩) (es.length + fs.length) cap')) (updN F os.length fun x => x = b' ∨ ∃ i j, i < (es ++ fs).length ∧ j < k ∧ (if i < es.length then G0 i j x else H (i - es.length) j x)) ∧
      ∀ z u, SRel w A os hd z u → SRel w' A (os ++ [.row k (es ++ fs)]) (updN hd os.length (.slice (some ⟨b', 0, none⟩) (es.length + fs.length) cap')) z u := by
    intro w' b' cap' c T G0 Ex hkp hEx hbc hb0 hbW hcap' hsz' hel hold hnew hG0 hG0d
    obtain ⟨hw', hm'⟩ := hw.keepG hkp (fun x hx => ⟨(hEx x hx).1, (hEx x hx).2.1, (hEx x hx).2.2.1⟩)
    have hb1 : b' < w'.heap.size := (Array.getElem?_eq_some_iff.1 hbc).1
    have hg : ∀ i j x, i < (es ++ fs).length → j < k → (if i < es.length then G0 i j x else H (i - es.length) j x) → W.new x ∧ x < w.heap.size ∧ ¬ A x ∧ (∀ id, ¬ F id x) ∧ ¬ Ex x := fun i j x hi hj hx => by
      split at hx
      · rename_i h6
        obtain ⟨g1, g2, g3, g4⟩ := hG x (hG0 i j x h6 hj hx)
        exact ⟨g1, g2, g3, g4, fun h => (hEx x h).2.2.2.1 i j h6 hj hx⟩
      · rename_i h6
        have h7 : i - es.length < fs.length := by simp at hi; omega
        obtain ⟨g1, g2, g3, g4, _⟩ := hH _ j x h7 hj hx
        exact ⟨g1, g2, g3, g4, fun h => (hEx x h).2.2.2.2 _ j h7 hj hx⟩
    have hbn : ¬ A b' ∧ ∀ id, ¬ F id b' := by
      rcases hb0 with h | h
      · exact ⟨fun h' => by have := hA _ h'; omega, fun id h' => by have := (hw.fsz id _ h').2; omega⟩
      · exact ⟨(hEx _ h).2.1, (hEx _ h).2.2.1⟩
    refine ⟨hw'.push _ _ _ (fun x hx => ?_) (fun k' es' e' => ?_) (fun cs e' => by cases e'), fun z u h => (hm' z u h).push _ _⟩
    · rcases hx with rfl | ⟨i, j, hi, hj, hx⟩
      · exact ⟨hbW, hb1, hbn.1, hbn.2⟩
      · obtain ⟨g1, g2, g3, g4, _⟩ := hg i j x hi hj hx
        exact ⟨g1, Nat.lt_of_lt_of_le g2 hkp.size, g3, g4⟩
    · cases e'
      have hll : (es ++ fs).length = es.length + fs.length := List.length_append
      rw [← hll]
      refine .sl k (es ++ fs) cap' b' T c _ (fun i j x => if i < es.length then G0 i j x else H (i - es.length) j x) hbc (by rw [hll]; unfold maxLen; omega) (by rw [hll]; exact hcap') hsz' (fun e' he => ?_) (fun i j hi hj => ?_) (fun i j e' x he hx => ?_) (fun _ => Iff.rfl) (fun i j hi hj h => ?_) (fun i j i' j' x hi hj hi' hj' h6 h7 => ?_)
      · rcases List.mem_append.1 he with h | h
        · exact hel e' h
        · exact hfl e' h
      · by_cases h6 : i < es.length
        · exact (hold i j h6 hj).1
        · have h7 : i - es.length < fs.length := by omega
          have := hnew (i - es.length) j h7 hj
          rw [show es.length + (i - es.length) = i from by omega] at this
          rw [this]
          refine hone _ ?_
          rw [List.getD_eq_getElem?_getD, List.getElem?_eq_getElem (by rw [hnl]; exact (hnD _ j h7 hj).1)]
          exact List.getElem_mem _
      · have hj := (List.getElem?_eq_some_iff.1 hx).1
        have hi := (List.getElem?_eq_some_iff.1 he).1
        have hjk : j < k := by
          rcases List.mem_append.1 (List.mem_of_getElem? he) with h | h
          · rwa [hel e' h] at hj
          · rwa [hfl e' h] at hj
        have mono : ∀ u, XRel w A x u (fun x => if i < es.length then G0 i j x else H (i - es.length) j x) → XRel w' A x u (fun x => if i < es.length then G0 i j x else H (i - es.length) j x) := fun u h => by
          refine h.mono (fun _ h => h) (fun y hy => ?_)
          rcases hy with hy | hy
          · exact hkp.block y (hA y hy) (fun h => (hEx y h).2.1 hy)
          · obtain ⟨_, g2, _, _, g5⟩ := hg i j y hi hjk hy
            exact hkp.block y g2 g5
        refine mono _ ?_
        by_cases h6 : i < es.length
        · rw [List.getElem?_append_left h6] at he
          exact ((hold i j h6 hjk).2 e' x he hx).congr (fun y => by rw [if_pos h6])
        · rw [List.getElem?_append_right (by omega)] at he
          have := hrel (i - es.length) j e' x he hx
          rw [← hnew (i - es.length) j (by rw [hll] at hi; omega) hjk, show es.length + (i - es.length) = i from by omega] at this
          exact this.congr (fun y => by rw [if_neg h6])
      · obtain ⟨_, g2, _, _, g5⟩ := hg i j b' hi hj h
        rcases hb0 with h8 | h8
        · omega
        · exact g5 h8
      · split at h6 <;> split at h7
        · rename_i a1 a2
          exact hG0d i j i' j' x a1 hj a2 hj' h6 h7
        · rename_i a1 a2
          exact ((hH _ j' x (by rw [hll] at hi'; omega) hj' h7).2.2.2.2 (hG0 i j x a1 hj h6)).elim
        · rename_i a1 a2
          exact ((hH _ j x (by rw [hll] at hi; omega) hj h6).2.2.2.2 (hG0 i' j' x a2 hj' h7)).elim
        · rename_i a1 a2
          have := hHd _ j _ j' x (by rw [hll] at hi; omega) hj (by rw [hll] at hi'; omega) hj' h6 h7
          omega
  have hzs : z.cells.size = k := by rw [h3] at hzn; simpa using hzn
  cases hx with
  | pure _ _ _ h ho hF => simp [AV.isOwn] at ho
  | nil =>
    have hr := run_append_nil (P := P) w t ty e i z ht h1 h2 ⟨b, off, none⟩ fs.length cap news hnl' hnc hm0 (by omega) (by rw [← h5]; simp at hb; omega)
    obtain ⟨g1, g2⟩ := core (w.drew.alloc (.cells (news.toArray ++ Builtin.zeroCells z.cells (grownCap w fs.length 0 e - fs.length)) e)) w.heap.size (grownCap w fs.length 0 e) _ e (fun _ _ _ => False) (fun _ => False)
      ((Keeps.drew w).trans (Keeps.alloc w.drew _ _)) (fun x h => h.elim) (heap_alloc_new w.drew _) (.inl (Nat.le_refl _)) (hw.below.new (Nat.le_refl _)) (by simpa using grownCap_ge w fs.length 0 e)
      (by
        have := grownCap_ge w fs.length 0 e
        simp only [Array.size_append, List.size_toArray, size_zeroCells, hzs, hnl, ← Nat.add_mul]
        exact Nat.mul_le_mul_right k (by omega)) (by simp) (fun i j hi => by simp at hi) (fun i j hi hj => by
        have := (hnD i j hi hj).1
        have e9 : ([] : List (List AV)).length + i = i := by simp
        rw [e9]
        rw [← toList_getD, Array.toList_append, List.getD_eq_getElem?_getD, List.getElem?_append_left (by simpa [hnl] using this), List.getD_eq_getElem?_getD]) (fun i j x hi => by simp at hi) (fun i j i' j' x hi => by simp at hi)
    simp only [List.length_nil, Nat.zero_add] at g1 g2
    exact ⟨_, _, _, hr, g1, g2⟩
  | sl _ _ cap0 bb T cur _ G0 hbb hl hcap0 hsz hk h1c hr0 hF h0 hd0' =>
    have hGbb : G bb := (hF bb).2 (.inl rfl)
    obtain ⟨q1, q2, q3, q4⟩ := hG bb hGbb
    have idx : ∀ i j, i < es.length → j < k → i * k + j < es.length * k := fun i j hi hj => by
      have : (i + 1) * k ≤ es.length * k := Nat.mul_le_mul_right k (by omega)
      rw [Nat.add_mul] at this; omega
    have hG0 : ∀ i j x, i < es.length → j < k → G0 i j x → G x := fun i j x hi hj hx => (hF x).2 (.inr ⟨i, j, hi, hj, hx⟩)
    have hszl : es.length * k ≤ cur.size := Nat.le_trans (Nat.mul_le_mul_right k hcap0) hsz
    by_cases hroom : es.length + fs.length ≤ cap0
    · have hfit : es.length * k + news.length ≤ cur.size := by rw [hnl, ← Nat.add_mul]; exact Nat.le_trans (Nat.mul_le_mul_right k hroom) hsz
      have hr := run_append_room' (P := P) (ty := ty) i ht h1 bb es.length cap0 cur hbb ⟨b, off, none⟩ fs.length cap news hnl' hnc hone hroom (by rw [← h4]; exact hfit)
      rw [← h4] at hr
      obtain ⟨g1, g2⟩ := core (w.setRow bb (spliceV cur (es.length * k) news)) bb cap0 _ T G0 (fun x => x = bb) (setRow_keeps _ rfl) (fun x hx => by
          subst hx
          exact ⟨q1, q3, q4, h0, fun i j hi hj h => (hH i j x hi hj h).2.2.2.2 hGbb⟩) (setRow_heap w bb cur _ T _ hbb) (.inr rfl) q1 hroom (by rw [spliceV_size hfit]; exact hsz) hk
        (fun i j hi hj => by
          have := idx i j hi hj
          rw [spliceV_getD hfit, if_pos this]
          exact ⟨h1c i j hi hj, fun e' x he hx => hr0 i j e' x he hx⟩)
        (fun i j hi hj => by
          have := (hnD i j hi hj).1
          rw [spliceV_getD hfit, Nat.add_mul, if_neg (by omega), if_pos (by rw [hnl]; omega)]
          congr 1
          omega) hG0 hd0'
      exact ⟨_, _, _, hr, g1, g2⟩
    · have hol : (cur.toList.take (es.length * k)).length = es.length * k := by rw [List.length_take, Array.length_toList]; exact Nat.min_eq_left hszl
      have hr := run_append_grow (P := P) w t ty e i z ht h1 h2 ⟨bb, 0, none⟩ es.length cap0 (cur.toList.take (es.length * k)) (by rw [hol, h4]) (fun j u hu => by
          rw [addr_add, Nat.zero_add]
          rw [List.getElem?_take] at hu
          split at hu
          · simp [World.cell?, hbb]; simpa using hu
          · cases hu) ⟨b, off, none⟩ fs.length cap news hnl' hnc (by omega) (by omega) (growslice_fits (by omega) (by rw [← h5]; exact hb))
      have hge := grownCap_ge w (es.length + fs.length) cap0 e
      obtain ⟨g1, g2⟩ := core (w.drew.alloc (.cells ((cur.toList.take (es.length * k)).toArray ++ news.toArray ++ Builtin.zeroCells z.cells (grownCap w (es.length + fs.length) cap0 e - (es.length + fs.length))) e)) w.heap.size (grownCap w (es.length + fs.length) cap0 e) _ e G0 (fun _ => False) ((Keeps.drew w).trans (Keeps.alloc w.drew _ _)) (fun x h => h.elim) (heap_alloc_new w.drew _) (.inl (Nat.le_refl _)) (hw.below.new (Nat.le_refl _)) hge
        (by
          simp only [Array.size_append, List.size_toArray, size_zeroCells, hzs, hnl, hol, ← Nat.add_mul]
          exact Nat.mul_le_mul_right k (by omega)) hk
        (fun i j hi hj => by
          have := idx i j hi hj
          have e0 : ((cur.toList.take (es.length * k)).toArray ++ news.toArray ++ Builtin.zeroCells z.cells (grownCap w (es.length + fs.length) cap0 e - (es.length + fs.length))).getD (i * k + j) undef = cur.getD (i * k + j) undef := by
            rw [← toList_getD, ← toList_getD]
            simp only [Array.toList_append, List.append_assoc, List.getD_eq_getElem?_getD]
            rw [List.getElem?_append_left (by rw [hol]; exact this), List.getElem?_take, if_pos this]
          rw [e0]
          exact ⟨h1c i j hi hj, fun e' x he hx => hr0 i j e' x he hx⟩)
        (fun i j hi hj => by
          have := (hnD i j hi hj).1
          rw [← toList_getD]
          simp only [Array.toList_append, List.append_assoc, List.getD_eq_getElem?_getD]
          rw [List.getElem?_append_right (by rw [hol, Nat.add_mul]; omega), hol, Nat.add_mul, List.getElem?_append_left (by rw [hnl]; omega)]
          congr 2
          omega) hG0 hd0'
      exact ⟨_, _, _, hr, g1, g2⟩
end
end Go.Proofs.Ytjenekakcoggpaa
