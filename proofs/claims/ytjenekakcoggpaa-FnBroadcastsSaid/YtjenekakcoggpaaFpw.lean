/- Contracts: a plan of inspections; the law. -/
import Derived.Test.YtjenekakcoggpaaFpv
import Derived.Test.YtjenekakcoggpaaFss
namespace Go.Proofs.Ytjenekakcoggpaa
open Go Go.RowKit Go.Sort Classical
set_option maxRecDepth 100000
set_option maxHeartbeats 2000000
set_option linter.unusedVariables false
set_option linter.unusedSimpArgs false

theorem cloneVisit_ {rs : List (List AV)} {t : Bool} {l : List Vis} (hl : rs = l.map Vis.cs) (hb0 : l.length ≤ 1048576) : AC Try.prog 88 [.sl t 3 rs] (fun l : List Vis => .sl true 3 (l.map Vis.cs)) l := by
  refine ac Try.func88 (by kernel_rfl) (.rows .oVis) fun E K hE hK => ?_
  conv => cbv
  refine lenL hE hl fun n hn hb => ?_
  conv => cbv
  refine makeI hE (by omega) fun es hes => ?_
  conv => cbv
  refine noownI hE (by rw [hl]; exact Vis.nown l) ?_
  conv => cbv
  refine catL hE (l := []) (R := Vis.cs) (by rw [hes]; rfl) hl (by simp; omega) fun es2 hes2 => ?_
  conv => cbv
  exact hK _ (by rw [hes2]; rfl)
theorem indexVisit1_ {rs : List (List AV)} {t : Bool} {l : List Vis} {g : FuncId} {c0 : List AV} {p : Vis → Prop} (hl : rs = l.map Vis.cs) (hp : ∀ aid every last, AC Try.prog g (.agg [.int .i64 aid, .int .i64 every, .int .i64 last] :: [.pp c0]) AV.bool (bP (p ⟨aid, every, last⟩))) : AC Try.prog 133 [.sl t 3 rs, .fn g [.pp c0]] (AV.int .i64) (firstI p l) := by
  refine ac Try.func133 (by kernel_rfl) (.int _ _) fun E K hE hK => ?_
  conv => cbv
  refine lenL hE hl fun n hn hb => ?_
  conv => cbv
  refine loopC hE (ι := Int) [0, 1, 7] [8] (fun q => (fun (i : Int) => [(8, .int .i64 i)]) q) (fun q => (fun (i : Int) => []) q) (fun q => (fun (i : Int) => (l.length - i).toNat) q) (fun q => (fun (i : Int) => 0 ≤ i ∧ Up (fun j => ∀ v, l[j]? = some v → ¬ p v) i) q) [] (by decide) (0) (by conv => lhs; cbv) (by conv => lhs; cbv) rfl rfl (by dsimp only; exact ⟨by omega, .zero (by omega)⟩) fun i hi Kn hN => ?_
  (try dsimp only at hi)
  conv => cbv
  obtain ⟨h0, hinv⟩ := hi
  repeat' first
    | (refine hN _ _ [] (by decide) rfl ⟨?_, ?_⟩ ?_ <;> (try dsimp only))
    | ((first
     | refine idxV hE (by assumption) (by omega) (by assumption) ?_
     | refine callP hE (hp _ _ _) (fun _ => ?_) (fun _ => ?_)
     | (refine idxL (R := Vis.cs) hE (by assumption) (by first | omega | (simp only [List.length_set, mix_len]; omega)) ?_; rintro ⟨⟩ _)
     | refine ltT hE (by omega) ?_
     | refine ltF hE (by omega) ?_
     | refine ltI hE (fun _ => ?_) (fun _ => ?_)
     | refine leT hE (by omega) ?_
     | refine leF hE (by omega) ?_
     | refine leI hE (fun _ => ?_) (fun _ => ?_)
     | refine eqT hE (by omega) ?_
     | refine eqF hE (by omega) ?_
     | refine eqI hE (fun _ => ?_) (fun _ => ?_)
     | refine add64 hE (by omega) (fun _ _ => ?_)
     | refine sub64 hE (by omega) (fun _ _ => ?_)
     | refine addI hE (fun _ _ => ?_)
     | refine subI hE (fun _ _ => ?_)
     | refine lenL hE (by assumption) (fun _ _ _ => ?_)
     | refine len0 hE (fun _ _ => ?_)
     | refine idxL hE (by assumption) (by first | omega | (simp only [List.length_set, mix_len]; omega)) (fun _ _ => ?_)
     | refine idxFill hE (by assumption) (by omega) ?_
     | refine idxI hE (by decide) (by rfl) ?_
     | refine iteB (fun _ => ?_) (fun _ => ?_)
     | refine maxI hE (fun _ _ => ?_)
     | refine minI hE (fun _ _ => ?_)
     | refine seqI hE (fun _ => ?_) (fun _ => ?_)
     | refine scatI hE (by first | omega | (simp only [ByteArray.size, Array.size, List.length_cons, List.length_nil] at *; omega)) (fun _ _ _ => ?_)
     | refine slenI hE (fun _ _ _ => ?_)
     | refine sidxI hE (by omega) (fun _ _ _ _ => ?_)
     | refine needI hE (by first | decide | omega) ?_
     | refine rem64 hE (by omega) (fun _ _ => ?_)
     | refine quo64 hE (by omega) (fun _ _ => ?_)
     | refine wrapU8 hE (by omega) (fun _ _ => ?_)
     | refine wrap64 hE (by omega) (fun _ _ => ?_)
     | refine noownI hE (by simp [AV.isOwn]) ?_) <;> (try conv => cbv))
  · refine hK _ ?_
    rw [firstI_in h0 (by assumption) (by assumption) hinv]; rfl
  · omega
  · refine hinv.succ ?_ (by assumption)
    clear hN; simp_all
  · omega
  · refine hK _ ?_
    rw [firstI_out (by omega) hinv]; rfl
theorem containsVisit1_ {rs : List (List AV)} {t : Bool} {l : List Vis} {g : FuncId} {c0 : List AV} {p : Vis → Prop} (hl : rs = l.map Vis.cs) (hp : ∀ aid every last, AC Try.prog g (.agg [.int .i64 aid, .int .i64 every, .int .i64 last] :: [.pp c0]) AV.bool (bP (p ⟨aid, every, last⟩))) : AC Try.prog 86 [.sl t 3 rs, .fn g [.pp c0]] AV.bool (bP (∃ v ∈ l, p v)) := by
  refine ac Try.func86 (by kernel_rfl) (.bool _) fun E K hE hK => ?_
  conv => cbv
  refine callI hE (indexVisit1_ hl hp) fun y hy => ?_
  conv => cbv
  refine leI hE (fun h => ?_) (fun h => ?_) <;> conv => cbv
  · exact finB hK (bP_true.2 (firstI_ge.1 (by omega)))
  · exact finB hK (bP_false.2 fun h' => by have := firstI_ge.2 h'; omega)
noncomputable def markV (now : List Vis) (ps : List Int) (day : Int) : List Vis := now.map fun v => if v.aid ∈ ps then ⟨v.aid, v.every, day⟩ else v
theorem markV_nil (now : List Vis) (day : Int) : markV now [] day = now := by
  unfold markV; simp
theorem markV_len (now : List Vis) (ps : List Int) (day : Int) : (markV now ps day).length = now.length := by simp [markV]
theorem markV_get {now : List Vis} {ps : List Int} {day : Int} {k : Nat} {u : Vis} (h : (markV now ps day)[k]? = some u) : ∃ w, now[k]? = some w ∧ u.aid = w.aid ∧ u.every = w.every ∧ (u.last = day ∨ u.last = w.last) := by
  unfold markV at h
  rw [List.getElem?_map] at h
  cases hw : now[k]? with
  | none => rw [hw] at h; cases h
  | some w =>
    rw [hw] at h
    simp only [Option.map_some, Option.some.injEq] at h
    refine ⟨w, rfl, ?_⟩
    subst h
    split
    · exact ⟨rfl, rfl, .inl rfl⟩
    · exact ⟨rfl, rfl, .inr rfl⟩
theorem markV_at {now : List Vis} (ps : List Int) (day : Int) {k : Nat} {w : Vis} (h : now[k]? = some w) : ∃ u, (markV now ps day)[k]? = some u ∧ u.aid = w.aid := by
  unfold markV
  rw [List.getElem?_map, h]
  refine ⟨_, rfl, ?_⟩
  show (if w.aid ∈ ps then (⟨w.aid, w.every, day⟩ : Vis) else w).aid = w.aid
  split <;> rfl
theorem markV_ok {now : List Vis} (h : VisitsOk now) (ps : List Int) {day : Int} (hd : 0 ≤ day ∧ day ≤ 99999) : VisitsOk (markV now ps day) := by
  refine ⟨fun j hj => ?_, by rw [markV_len]; exact h.2⟩
  rw [markV_len] at hj
  obtain ⟨w, h1, h2, h3⟩ := h.1 j hj
  obtain ⟨u, hu, hua⟩ := markV_at ps day h1
  obtain ⟨w', g1, g2, g3, g4⟩ := markV_get hu
  rw [h1] at g1; cases g1
  refine ⟨u, hu, ?_, fun hj0 => ?_⟩
  · unfold Vis.ok at *; omega
  · obtain ⟨z, hz, hlt⟩ := h3 hj0
    obtain ⟨y, hy, hya⟩ := markV_at ps day hz
    exact ⟨y, hy, by omega⟩
theorem markV_set {now : List Vis} (hok : VisitsOk now) {ps : List Int} {day : Int} {k : Nat} {u : Vis} (h : (markV now ps day)[k]? = some u) : (markV now ps day).set k ⟨u.aid, u.every, day⟩ = markV now (ps ++ [u.aid]) day := by
  obtain ⟨w, h1, h2, h3, _⟩ := markV_get h
  refine List.ext_getElem? fun j => ?_
  rw [List.getElem?_set]
  split
  · rename_i e
    subst e
    rw [if_pos (List.getElem?_eq_some_iff.1 h).1]
    unfold markV
    rw [List.getElem?_map, h1]
    simp only [Option.map_some, Option.some.injEq]
    rw [if_pos (by rw [h2]; simp), h2, h3]
  · rename_i e
    unfold markV
    rw [List.getElem?_map, List.getElem?_map]
    cases hz : now[j]? with
    | none => rfl
    | some z =>
      have hne : z.aid ≠ u.aid := fun he => by
        have : z = w := aid_inj hok (List.mem_of_getElem? hz) (List.mem_of_getElem? h1) (by omega)
        subst this
        have hp := ok_chain hok
        have hj := (List.getElem?_eq_some_iff.1 hz)
        have hk := (List.getElem?_eq_some_iff.1 h1)
        rcases Nat.lt_trichotomy j k with hl | hl | hl
        · have := pair_le hp hl hz h1; omega
        · exact e hl.symm
        · have := pair_le hp hl h1 hz; omega
      simp only [Option.map_some, List.mem_append, List.mem_singleton]
      by_cases hm : z.aid ∈ ps
      · rw [if_pos hm, if_pos (.inl hm)]
      · rw [if_neg hm, if_neg (fun h => h.elim hm hne)]
def dayRows (day : Int) (ps : List Int) : List (List Int) := ps.map fun a => [day, a]
noncomputable def planGo (room ahead : Int) : Nat → Int → List Vis → List (List Int) → List (List Int) × Int
  | 0, _, _, plan => (plan, 0)
  | n + 1, day, now, plan => if 200 < (plan ++ dayRows day (picksR now (day + ahead) room)).length then ([], 5) else planGo room ahead n (day + 1) (markV now (picksR now (day + ahead) room) day) (plan ++ dayRows day (picksR now (day + ahead) room))
theorem planGo_bd (room ahead : Int) : ∀ (n : Nat) (day : Int) (now : List Vis) (plan : List (List Int)), plan.length ≤ 200 → (∀ x ∈ plan, x.length = 2) → (planGo room ahead n day now plan).1.length ≤ 200 ∧ ∀ x ∈ (planGo room ahead n day now plan).1, x.length = 2
  | 0, _, _, plan, h1, h2 => ⟨h1, h2⟩
  | n + 1, day, now, plan, h1, h2 => by
    unfold planGo
    split
    · exact ⟨by simp, by simp⟩
    · refine planGo_bd room ahead n _ _ _ (by omega) (fun x hx => ?_)
      rcases List.mem_append.1 hx with h | h
      · exact h2 x h
      · obtain ⟨a, _, rfl⟩ := List.mem_map.1 h; rfl
theorem planGo_done {room ahead f u day : Int} {l now : List Vis} {plan : List (List Int)} (h : planGo room ahead (u - f + 1).toNat f l [] = planGo room ahead (u - day + 1).toNat day now plan) (hd : u < day) : planGo room ahead (u - f + 1).toNat f l [] = (plan, 0) := by
  rw [h, show (u - day + 1).toNat = 0 by omega]; rfl
theorem planGo_full {room ahead f u day : Int} {l now : List Vis} {plan p2 : List (List Int)} (h : planGo room ahead (u - f + 1).toNat f l [] = planGo room ahead (u - day + 1).toNat day now plan) (hd : day ≤ u) (hp : p2 = plan ++ dayRows day (picksR now (day + ahead) room)) (hl : 200 < p2.length) : planGo room ahead (u - f + 1).toNat f l [] = ([], 5) := by
  rw [h, show (u - day + 1).toNat = (u - day).toNat + 1 by omega, planGo, if_pos (by rw [← hp]; exact hl)]
theorem planGo_step {room ahead f u day n : Int} {l now : List Vis} {plan p2 : List (List Int)} (h : planGo room ahead (u - f + 1).toNat f l [] = planGo room ahead (u - day + 1).toNat day now plan) (hd : day ≤ u) (hp : p2 = plan ++ dayRows day (picksR now (day + ahead) room)) (hl : ¬ 200 < p2.length) (hn : n = day + 1) : planGo room ahead (u - f + 1).toNat f l [] = planGo room ahead (u - n + 1).toNat n (markV now (picksR now (day + ahead) room) day) p2 := by
  rw [h, show (u - day + 1).toNat = (u - n + 1).toNat + 1 by omega, planGo, if_neg (by rw [← hp]; exact hl), ← hp, hn]
def llLI (p : List (List Int) × Int) : AV := .tup [.sl true 1 (p.1.map (llR true)), .int .i64 p.2]
theorem NoB.llLI (p : List (List Int) × Int) : NoB (llLI p) := .tupC (.lls _) (.tupC (.int _ _) .tup0)
noncomputable def planR (l : List Vis) (f u room ahead : Int) : List (List Int) × Int := if VisitsOk l then (if (((0 ≤ f ∧ f ≤ 99999) ∧ 0 ≤ u ∧ u ≤ 99999) ∧ f ≤ u ∧ u ≤ f + 400) ∧ (1 ≤ room ∧ room ≤ 10) ∧ 0 ≤ ahead ∧ ahead ≤ 3650 then (if ∃ v ∈ l, f < v.last then ([], 7) else planGo room ahead (u - f + 1).toNat f l []) else ([], 2)) else ([], 1)
theorem planR_bd (l : List Vis) (f u room ahead : Int) : (planR l f u room ahead).1.length ≤ 200 ∧ ∀ x ∈ (planR l f u room ahead).1, x.length = 2 := by
  unfold planR
  split
  · split
    · split
      · exact ⟨by simp, by simp⟩
      · exact planGo_bd _ _ _ _ _ _ (by simp) (by simp)
    · exact ⟨by simp, by simp⟩
  · exact ⟨by simp, by simp⟩
theorem planVisits1_ (aid every last f : Int) : AC Try.prog 87 [.agg [.int .i64 aid, .int .i64 every, .int .i64 last], .pp [.int .i64 f]] AV.bool (bP (f < (⟨aid, every, last⟩ : Vis).last)) := by
  refine ac Try.func87 (by kernel_rfl) (.bool _) fun E K hE hK => ?_
  conv => cbv
  repeat' first
    | ((first
     | refine idxV hE (by assumption) (by omega) (by assumption) ?_
     | refine ltT hE (by omega) ?_
     | refine ltF hE (by omega) ?_
     | refine ltI hE (fun _ => ?_) (fun _ => ?_)
     | refine leT hE (by omega) ?_
     | refine leF hE (by omega) ?_
     | refine leI hE (fun _ => ?_) (fun _ => ?_)
     | refine eqT hE (by omega) ?_
     | refine eqF hE (by omega) ?_
     | refine eqI hE (fun _ => ?_) (fun _ => ?_)
     | refine add64 hE (by omega) (fun _ _ => ?_)
     | refine sub64 hE (by omega) (fun _ _ => ?_)
     | refine addI hE (fun _ _ => ?_)
     | refine subI hE (fun _ _ => ?_)
     | refine lenL hE (by assumption) (fun _ _ _ => ?_)
     | refine len0 hE (fun _ _ => ?_)
     | refine idxL hE (by assumption) (by first | omega | (simp only [List.length_set, mix_len]; omega)) (fun _ _ => ?_)
     | refine idxFill hE (by assumption) (by omega) ?_
     | refine idxI hE (by decide) (by rfl) ?_
     | refine iteB (fun _ => ?_) (fun _ => ?_)
     | refine maxI hE (fun _ _ => ?_)
     | refine minI hE (fun _ _ => ?_)
     | refine seqI hE (fun _ => ?_) (fun _ => ?_)
     | refine scatI hE (by first | omega | (simp only [ByteArray.size, Array.size, List.length_cons, List.length_nil] at *; omega)) (fun _ _ _ => ?_)
     | refine slenI hE (fun _ _ _ => ?_)
     | refine sidxI hE (by omega) (fun _ _ _ _ => ?_)
     | refine needI hE (by first | decide | omega) ?_
     | refine rem64 hE (by omega) (fun _ _ => ?_)
     | refine quo64 hE (by omega) (fun _ _ => ?_)
     | refine wrapU8 hE (by omega) (fun _ _ => ?_)
     | refine wrap64 hE (by omega) (fun _ _ => ?_)
     | refine noownI hE (by simp [AV.isOwn]) ?_) <;> (try conv => cbv))
  all_goals (try clear hN)
  all_goals first
    | (omega)
    | (refine finB hK (bP_true.2 ?_); first | omega | grind)
    | (refine finB hK (bP_false.2 ?_); first | omega | (intro h; grind))
    | (refine ⟨by omega, Up.succ (by assumption) ?_ (by assumption)⟩; grind)
    | (refine hK _ ?_; simp_all [atup]; done)
    | (grind)
theorem picks_len (l : List Vis) (D room : Int) (hr : room ≤ 10) : (picksR l D room).length ≤ 10 := by
  unfold picksR; rw [List.length_map, List.length_take]; omega
theorem pick_at {now : List Vis} (hok : VisitsOk now) {D room day a j : Int} {ps : List Int} {m : List Vis} (hm : m = markV now ps day) (ha : (picksR now D room)[j.toNat]? = some a) {k : Int} (hk : k = visAt m a) : ∃ u, m[k.toNat]? = some u ∧ u.aid = a ∧ 0 ≤ k ∧ k < m.length := by
  unfold picksR at ha
  rw [List.getElem?_map] at ha
  cases hx : ((dueM now D).take room.toNat)[j.toNat]? with
  | none => rw [hx] at ha; cases ha
  | some x =>
    rw [hx] at ha
    simp only [Option.map_some, Option.some.injEq] at ha
    have hxl := ((dueM_sub hok).1 (List.mem_of_mem_take (List.mem_of_getElem? hx))).1
    obtain ⟨p, hp⟩ := List.getElem?_of_mem hxl
    obtain ⟨u, hu, hua⟩ := markV_at ps day hp
    rw [← hm] at hu
    rw [visAt] at hk
    rcases firstI_spec (fun v : Vis => v.aid = a) m with ⟨g1, g2, ⟨v0, g3, g4⟩, _⟩ | ⟨_, g2⟩
    · rw [← hk] at g1 g2 g3
      exact ⟨v0, g3, g4, g1, g2⟩
    · exact absurd (by omega) (g2 p u hu)
theorem take_row {ps : List Int} {plan : List (List Int)} {day a j n : Int} (h0 : 0 ≤ j) (ha : ps[j.toNat]? = some a) (hn : n = j + 1) : plan ++ dayRows day (ps.take j.toNat) ++ [[day, a]] = plan ++ dayRows day (ps.take n.toNat) ∧ ps.take n.toNat = ps.take j.toNat ++ [a] := by
  have e : ps.take n.toNat = ps.take j.toNat ++ [a] := by
    rw [show n.toNat = j.toNat + 1 by omega, List.take_add_one, ha]; rfl
  refine ⟨?_, e⟩
  rw [e]
  simp [dayRows]
theorem planVisits_ {rs : List (List AV)} {b : Bool} {l : List Vis} (f u room ahead : Int) (hl : rs = l.map Vis.cs) : AC Try.prog 32 [.sl b 3 rs, .int .i64 f, .int .i64 u, .int .i64 room, .int .i64 ahead] llLI (planR l f u room ahead) := by
  refine ac Try.func32 (by kernel_rfl) (.llLI _) fun E K hE hK => ?_
  conv => cbv
  refine callP hE (validVisits_ hl) (fun hok => ?_) (fun hok => ?_) <;> conv => cbv
  · have h24 := hok.2
    repeat' first
      | (refine callP hE (containsVisit1_ (p := fun v => f < v.last) hl (fun a' b' c' => planVisits1_ a' b' c' f)) (fun hm => ?_) (fun hm => ?_) <;> (try conv => cbv))
      | ((refine loopC hE (ι := Int × (List (List AV)) × (List (List AV))) [2, 3, 4] [14, 12, 13] (fun q => (fun (day : Int) (es : List (List AV)) (ps : List (List AV)) => [(14, .int .i64 day), (12, .ob 0), (13, .ob 1)]) q.1 q.2.1 q.2.2) (fun q => (fun (day : Int) (es : List (List AV)) (ps : List (List AV)) => [.row 3 es, .row 1 ps]) q.1 q.2.1 q.2.2) (fun q => (fun (day : Int) (es : List (List AV)) (ps : List (List AV)) => (u + 1 - day).toNat) q.1 q.2.1 q.2.2) (fun q => (fun (day : Int) (es : List (List AV)) (ps : List (List AV)) => (f ≤ day ∧ day ≤ u + 1) ∧ ∃ (now : List Vis) (plan : List (List Int)), es = now.map Vis.cs ∧ ps = plan.map (llR true) ∧ VisitsOk now ∧ plan.length ≤ 200 ∧ planGo room ahead (u - f + 1).toNat f l [] = planGo room ahead (u - day + 1).toNat day now plan) q.1 q.2.1 q.2.2) [1, 2] (by decide) ((f, _, [])) (by conv => lhs; cbv) (by conv => lhs; cbv) rfl rfl (by dsimp only; exact ⟨by omega, l, [], by assumption, rfl, hok, by simp, rfl⟩) fun q hi2 Kn2 hN2 => ?_; obtain ⟨day, es, ps⟩ := q; (try dsimp only at hi2); conv => cbv); obtain ⟨⟨d0, d1⟩, now, plan, e1, e2, nok, pl, hgo⟩ := hi2)
      | (refine callR hE (planDay_ day room ahead e1 nok (by omega) (by omega) (by omega)) (fun rp hp => ?_); have hpl := picks_len now (day + ahead) room (by omega); (try conv => cbv))
      | ((refine loopC hE (ι := Int × (List (List AV)) × (List (List AV))) [2, 3, 4, 14, 61, 62] [63, 12, 13] (fun q => (fun (j : Int) (es2 : List (List AV)) (ps2 : List (List AV)) => [(63, .int .i64 j), (12, .ob 0), (13, .ob 1)]) q.1 q.2.1 q.2.2) (fun q => (fun (j : Int) (es2 : List (List AV)) (ps2 : List (List AV)) => [.row 3 es2, .row 1 ps2, .row 1 rp]) q.1 q.2.1 q.2.2) (fun q => (fun (j : Int) (es2 : List (List AV)) (ps2 : List (List AV)) => ((picksR now (day + ahead) room).length - j).toNat) q.1 q.2.1 q.2.2) (fun q => (fun (j : Int) (es2 : List (List AV)) (ps2 : List (List AV)) => (0 ≤ j ∧ j ≤ (picksR now (day + ahead) room).length) ∧ es2 = (markV now ((picksR now (day + ahead) room).take j.toNat) day).map Vis.cs ∧ ps2 = (plan ++ dayRows day ((picksR now (day + ahead) room).take j.toNat)).map (llR true)) q.1 q.2.1 q.2.2) [0, 1, 2] (by decide) ((0, es, ps)) (by conv => lhs; cbv) (by conv => lhs; cbv) rfl rfl (by dsimp only; exact ⟨by omega, by simp [markV_nil]; exact e1, by simp [dayRows]; exact e2⟩) fun q hi3 Kn3 hN3 => ?_; obtain ⟨j, es2, ps2⟩ := q; (try dsimp only at hi3); conv => cbv); obtain ⟨⟨j0, j1⟩, e3, e4⟩ := hi3)
      | (refine idxL hE hp (by omega) (fun a ha => ?_); (try conv => cbv))
      | (refine callI hE (visitOf_ _ e3) (fun k hk => ?_); obtain ⟨v, hv, hva, hk0, hk1⟩ := pick_at nok rfl ha hk; (try conv => cbv))
      | (refine hN3 (_, _, _) _ [0, 5, 2] (by decide) rfl ⟨?_, ?_, ?_⟩ ?_ <;> (try dsimp only))
      | (refine hN2 (_, _, _) _ [0, 1] (by decide) rfl ⟨?_, _, _, e3, e4, ?_, ?_, ?_⟩ ?_ <;> (try dsimp only))
      | ((first
       | refine idxV hE (by assumption) (by omega) (by assumption) ?_
       | refine callP hE (isDay_ _) (fun _ => ?_) (fun _ => ?_)
       | refine callP hE (within_ _ _ _) (fun _ => ?_) (fun _ => ?_)
       | refine callP hE (planLimits_ _ _) (fun _ => ?_) (fun _ => ?_)
       | refine nilOwnI hE 1 ?_
       | refine callR hE (cloneVis_ hl (by omega)) (fun _ _ => ?_)
       | refine updL hE (R := Vis.cs) (⟨v.aid, v.every, day⟩ : Vis) e3 hk0 hv (by exact Nat.le_of_ble_eq_true rfl) (by rfl) (fun es3 he3 => ?_)
       | refine catP hE (R := llR true) (v := [day, a]) e4 rfl (by simp only [List.length_append, dayRows, List.length_map, List.length_take]; omega) (fun ps3 hp3 => ?_)
       | refine lenL hE e4 (fun _ _ _ => ?_)
       | refine callP hE (few_ _ _) (fun _ => ?_) (fun _ => ?_)
       | refine ltT hE (by omega) ?_
       | refine ltF hE (by omega) ?_
       | refine ltI hE (fun _ => ?_) (fun _ => ?_)
       | refine leT hE (by omega) ?_
       | refine leF hE (by omega) ?_
       | refine leI hE (fun _ => ?_) (fun _ => ?_)
       | refine eqT hE (by omega) ?_
       | refine eqF hE (by omega) ?_
       | refine eqI hE (fun _ => ?_) (fun _ => ?_)
       | refine add64 hE (by omega) (fun _ _ => ?_)
       | refine sub64 hE (by omega) (fun _ _ => ?_)
       | refine addI hE (fun _ _ => ?_)
       | refine subI hE (fun _ _ => ?_)
       | refine lenL hE (by assumption) (fun _ _ _ => ?_)
       | refine len0 hE (fun _ _ => ?_)
       | refine idxL hE (by assumption) (by first | omega | (simp only [List.length_set, mix_len]; omega)) (fun _ _ => ?_)
       | refine idxFill hE (by assumption) (by omega) ?_
       | refine idxI hE (by decide) (by rfl) ?_
       | refine iteB (fun _ => ?_) (fun _ => ?_)
       | refine maxI hE (fun _ _ => ?_)
       | refine minI hE (fun _ _ => ?_)
       | refine seqI hE (fun _ => ?_) (fun _ => ?_)
       | refine scatI hE (by first | omega | (simp only [ByteArray.size, Array.size, List.length_cons, List.length_nil] at *; omega)) (fun _ _ _ => ?_)
       | refine slenI hE (fun _ _ _ => ?_)
       | refine sidxI hE (by omega) (fun _ _ _ _ => ?_)
       | refine needI hE (by first | decide | omega) ?_
       | refine rem64 hE (by omega) (fun _ _ => ?_)
       | refine quo64 hE (by omega) (fun _ _ => ?_)
       | refine wrapU8 hE (by omega) (fun _ _ => ?_)
       | refine wrap64 hE (by omega) (fun _ _ => ?_)
       | refine noownI hE (by simp [AV.isOwn]) ?_) <;> (try conv => cbv))
    all_goals (try clear hN2)
    all_goals (try clear hN3)
    all_goals first
      | omega
      | (rename_i hn1; rw [he3, markV_set nok hv, hva, (take_row (plan := plan) (day := day) j0 ha hn1).2])
      | (rename_i hn1; rw [hp3, (take_row (plan := plan) (day := day) j0 ha hn1).1])
      | exact markV_ok nok _ (by omega)
      | (refine hK _ ?_; rw [planR, if_pos hok, if_neg (by omega)]; rfl)
      | (refine hK _ ?_; rw [planR, if_pos hok, if_pos (by omega), if_pos hm]; rfl)
      | (have htk : (picksR now (day + ahead) room).take j.toNat = picksR now (day + ahead) room := List.take_of_length_le (by omega)
         rw [htk] at e3 e4 ⊢
         first
          | exact planGo_step hgo (by omega) rfl (by rw [← htk]; omega) (by assumption)
          | trace_state)
      | (have htk : (picksR now (day + ahead) room).take j.toNat = picksR now (day + ahead) room := List.take_of_length_le (by omega)
         refine hK _ ?_
         rw [planR, if_pos hok, if_pos (by omega), if_neg hm, planGo_full hgo (by omega) rfl (by rw [← htk]; omega)]; rfl)
      | (refine hK _ ?_; rw [planR, if_pos hok, if_pos (by omega), if_neg hm, planGo_done hgo (by omega), e2]; rfl)
      | trace_state
  · refine nilOwnI hE 1 ?_
    conv => cbv
    refine hK _ ?_
    rw [planR, if_neg hok]; rfl
end Go.Proofs.Ytjenekakcoggpaa
