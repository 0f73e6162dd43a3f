/- Contracts: the draws of warnings, a warning that is added by the reference. -/
import Derived.Test.YthiecdiiindegaaGreatDoorFwb
import Derived.Test.YthiecdiiindegaaGreatDoorFsr
namespace Go.Proofs.YthiecdiiindegaaGreatDoor
open Go Go.RowKit Classical
set_option maxRecDepth 100000
set_option maxHeartbeats 2000000
set_option linter.unusedVariables false
set_option linter.unusedSimpArgs false
theorem text_ {rs rs1 : List (List AV)} {code : List Int} {l : List ByteArray} (a z : Int) (hc : rs = code.map u8R) (hb : Bytes code) (ha : 0 ≤ a ∧ a ≤ 900000000) (hl : rs1 = l.map strR) (hn : 0 < l.length) : ACS Tryz.prog 48 [.bx [.sl false 1 rs, .int .i64 a, .int .u64 z], .sl true 1 rs1] (fun r ys => ∃ s a' z', r = .str s ∧ (a ≤ a' ∧ a' ≤ a + 2) ∧ ys = [.bx [.sl false 1 rs, .int .i64 a', .int .u64 z'], .sl true 1 rs1]) := by
  refine acs 2 Tryz.func48 (by kernel_rfl) fun E K hE hK => ?_
  conv => cbv
  repeat' first
    | (refine callSI hE (pick_ _ _ _ hc hb ha) ?_; rintro r ys ⟨x, a', z', rfl, hx, ha', rfl⟩; (try conv => cbv))
    | ((first
   | refine q0 hE ?_
   | refine B0 hE ?_|refine B1 hE (fun _=>?_) fun _=>?_|refine B3 hE fun _ _ _=>?_|refine B2 hE fun _ _=>?_|refine B4 hE fun _ _ _ _=>?_) <;> (try conv => cbv))
  all_goals exact hK _ _ ⟨_, _, _, rfl, ha', rfl⟩
theorem l02Draw_ {rs : List (List AV)} {code : List Int} (a z : Int) (hc : rs = code.map u8R) (hb : Bytes code) (ha : 0 ≤ a ∧ a ≤ 800000000) : ACS Tryz.prog 49 [.bx [.sl false 1 rs, .int .i64 a, .int .u64 z]] (fun r ys => ∃ (p q a' z' : Int), r = .agg [.int .i64 p, .int .i64 q] ∧ (a ≤ a' ∧ a' ≤ a + 20) ∧ ys = [.bx [.sl false 1 rs, .int .i64 a', .int .u64 z']]) := by
  refine acs 1 Tryz.func49 (by kernel_rfl) fun E K hE hK => ?_
  conv => cbv
  repeat' first
    | (refine mul64 hE (by omega) (fun _ _ => ?_); (try conv => cbv))
    | (refine callSI hE (one_ _ _ _ hc hb (by omega)) ?_; rintro r ys ⟨c, a', z', rfl, ha', rfl⟩; (try conv => cbv))
    | (refine callSI hE (pick_ _ _ _ hc hb (by omega)) ?_; rintro r ys ⟨x, a', z', rfl, hx, ha', rfl⟩; (try conv => cbv))
    | (refine callSI hE (among_ (l := [20, 100, 100, 100]) _ _ hc hb (by omega) rfl (by first | decide | exact Nat.le_of_ble_eq_true rfl)) ?_; rintro r ys ⟨x, a', z', rfl, hx, ha', rfl⟩; (try simp only [List.mem_cons, List.not_mem_nil, or_false] at hx); (try conv => cbv))
    | (refine sameI hE rfl ?_; (try conv => cbv))
    | ((first
   | refine q0 hE ?_
   | refine B0 hE ?_|refine B1 hE (fun _=>?_) fun _=>?_|refine B3 hE fun _ _ _=>?_|refine B2 hE fun _ _=>?_|refine B4 hE fun _ _ _ _=>?_) <;> (try conv => cbv))
  all_goals exact hK _ _ ⟨_, _, _, _, rfl, by omega, rfl⟩
theorem l22Bend_ {rs : List (List AV)} {code : List Int} (a z v1 v2 v3 v4 v5 v6 v7 : Int) (v8 : ByteArray) (hc : rs = code.map u8R) (hb : Bytes code) (ha : 0 ≤ a ∧ a ≤ 800000000) : ACS Tryz.prog 18 [.bx [.sl false 1 rs, .int .i64 a, .int .u64 z], .agg [.int .i64 v1, .int .i64 v2, .int .i64 v3, .int .i64 v4, .int .i64 v5, .int .i64 v6, .int .i64 v7, .str v8]] (fun r ys => ∃ (u1 u2 u3 u4 u5 u6 u7 : Int) (u8 : ByteArray) (a' z' : Int), r = .agg [.int .i64 u1, .int .i64 u2, .int .i64 u3, .int .i64 u4, .int .i64 u5, .int .i64 u6, .int .i64 u7, .str u8] ∧ (a ≤ a' ∧ a' ≤ a + 4) ∧ ys = [.bx [.sl false 1 rs, .int .i64 a', .int .u64 z'], .any]) := by
  refine acs 1 Tryz.func18 (by kernel_rfl) fun E K hE hK => ?_
  conv => cbv
  repeat' first
    | (refine callSI hE (pick_ _ _ _ hc hb (by omega)) ?_; rintro r ys ⟨x, a', z', rfl, hx, ha', rfl⟩; (try conv => cbv))
    | (refine callSI hE (among_ (l := [0, 9999, 10000]) _ _ hc hb (by omega) rfl (by first | decide | exact Nat.le_of_ble_eq_true rfl)) ?_; rintro r ys ⟨x, a', z', rfl, hx, ha', rfl⟩; (try simp only [List.mem_cons, List.not_mem_nil, or_false] at hx); (try conv => cbv))
    | (refine callSI hE (among_ (l := [0, 4]) _ _ hc hb (by omega) rfl (by first | decide | exact Nat.le_of_ble_eq_true rfl)) ?_; rintro r ys ⟨x, a', z', rfl, hx, ha', rfl⟩; (try simp only [List.mem_cons, List.not_mem_nil, or_false] at hx); (try conv => cbv))
    | (refine callSI hE (among_ (l := [_, 143999999, 144000000]) _ _ hc hb (by omega) rfl (by first | decide | exact Nat.le_of_ble_eq_true rfl)) ?_; rintro r ys ⟨x, a', z', rfl, hx, ha', rfl⟩; (try simp only [List.mem_cons, List.not_mem_nil, or_false] at hx); (try conv => cbv))
    | (refine callSI hE (among_ (l := [-1, 20001]) _ _ hc hb (by omega) rfl (by first | decide | exact Nat.le_of_ble_eq_true rfl)) ?_; rintro r ys ⟨x, a', z', rfl, hx, ha', rfl⟩; (try simp only [List.mem_cons, List.not_mem_nil, or_false] at hx); (try conv => cbv))
    | (refine callSI hE (among_ (l := [-1, 0]) _ _ hc hb (by omega) rfl (by first | decide | exact Nat.le_of_ble_eq_true rfl)) ?_; rintro r ys ⟨x, a', z', rfl, hx, ha', rfl⟩; (try simp only [List.mem_cons, List.not_mem_nil, or_false] at hx); (try conv => cbv))
    | (refine callSI hE (text_ (l := [_, _, _, _, _]) _ _ hc hb (by omega) rfl (by exact Nat.le_of_ble_eq_true rfl)) ?_; rintro r ys ⟨sx, a', z', rfl, ha', rfl⟩; (try conv => cbv))
    | (refine sameI hE rfl ?_; (try conv => cbv))
    | ((first
   | refine q0 hE ?_
   | refine B0 hE ?_|refine B1 hE (fun _=>?_) fun _=>?_|refine B3 hE fun _ _ _=>?_|refine B2 hE fun _ _=>?_|refine B4 hE fun _ _ _ _=>?_) <;> (try conv => cbv))
  all_goals exact hK _ _ ⟨_, _, _, _, _, _, _, _, _, _, rfl, by omega, rfl⟩
/-- A warning put in at 'i'. -/
noncomputable def addWAt (l : List War) (w : War) (i : Int) : List War × Int := if ∃ v, l[i.toNat]? = some v ∧ v.number = w.number then ([], 4) else if l.length = 32 then ([], 5) else (l.take i.toNat ++ [w] ++ l.drop i.toNat, 0)
noncomputable def addWR (l : List War) (w : War) : List War × Int := if WarnsOk l ∧ War.ok w then (if 0 ≤ firstI (fun v : War => ¬ v.number < w.number) l then addWAt l w (firstI (fun v : War => ¬ v.number < w.number) l) else addWAt l w l.length) else ([], 1)
theorem addWAt_len (l : List War) (w : War) (i : Int) : (addWAt l w i).1.length ≤ l.length + 1 := by
  unfold addWAt
  split
  · simp
  · split
    · simp
    · simp only [List.length_append, List.length_take, List.length_drop, List.length_singleton]; omega
theorem addWR_len (l : List War) (w : War) : (addWR l w).1.length ≤ l.length + 1 := by
  unfold addWR
  split
  · split <;> exact addWAt_len _ _ _
  · simp
theorem addW_in {l : List War} {w v : War} {i : Int} (hok : WarnsOk l) (hw : w.ok) (h0 : 0 ≤ i) (hv : l[i.toNat]? = some v) (hn : ¬ v.number < w.number) (h : Up (fun j => ∀ v, l[j]? = some v → v.number < w.number) i) : addWR l w = addWAt l w i := by
  have e := firstI_in (p := fun v : War => ¬ v.number < w.number) h0 hv hn (fun j hj v hv => fun hc => hc (h j hj v hv))
  unfold addWR
  rw [if_pos ⟨hok, hw⟩, e, if_pos h0]
theorem addW_out {l : List War} {w : War} {i : Int} (hok : WarnsOk l) (hw : w.ok) (hi : (l.length : Int) ≤ i) (hi' : i ≤ l.length) (h : Up (fun j => ∀ v, l[j]? = some v → v.number < w.number) i) : addWR l w = addWAt l w i := by
  have e := firstI_out (p := fun v : War => ¬ v.number < w.number) hi (fun j hj v hv => fun hc => hc (h j hj v hv))
  unfold addWR
  rw [if_pos ⟨hok, hw⟩, e, if_neg (by omega), show i = (l.length : Int) by omega]
theorem add_rows {ns : List (List AV)} {l : List War} {w : War} (h : ns = (addWR l w).1.map War.cs) : ∃ m : List War, ns = m.map War.cs ∧ m.length ≤ l.length + 1 := ⟨_, h, addWR_len ..⟩
def warLI (p : List War × Int) : AV := .tup [.sl true 8 (p.1.map War.cs), .int .i64 p.2]
theorem NoB.warLI (p : List War × Int) : NoB (warLI p) := .tupC (.rows .oWar) (.tupC (.int _ _) .tup0)
theorem upW {l : List War} {w v : War} {i n : Int} (h : Up (fun j => ∀ v, l[j]? = some v → v.number < w.number) i) (hv : l[i.toNat]? = some v) (hp : v.number < w.number) (hn : n = i + 1) : Up (fun j => ∀ v, l[j]? = some v → v.number < w.number) n := h.succ (fun w hw => by rw [hv] at hw; cases hw; exact hp) hn
theorem sAddWarning_ {rs : List (List AV)} {b : Bool} {l : List War} (n p f u x y r : Int) (s : ByteArray) (hl : rs = l.map War.cs) : AC Tryz.prog 45 [.sl b 8 rs, .agg [.int .i64 n, .int .i64 p, .int .i64 f, .int .i64 u, .int .i64 x, .int .i64 y, .int .i64 r, .str s]] warLI (addWR l ⟨n, p, f, u, x, y, r, s⟩) := by
  refine ac Tryz.func45 (by kernel_rfl) (.warLI _) fun E K hE hK => ?_
  conv => cbv
  refine callP hE (l22Ok_ hl) (fun hok => ?_) (fun hok => ?_) <;> conv => cbv
  · have h32 := hok.2
    refine callP hE (l22One_ n p f u x y r s) (fun hw => ?_) (fun hw => ?_) <;> conv => cbv
    · refine loopC hE (ι := Int) [0, 3] [6] (fun q => (fun (i : Int) => [(6, .int .i64 i)]) q) (fun q => (fun (i : Int) => [.box [.int .i64 n, .int .i64 p, .int .i64 f, .int .i64 u, .int .i64 x, .int .i64 y, .int .i64 r, .str s]]) q) (fun q => (fun (i : Int) => (l.length - i).toNat) q) (fun q => (fun (i : Int) => (0 ≤ i ∧ i ≤ l.length) ∧ Up (fun j => ∀ v, l[j]? = some v → v.number < (War.mk n p f u x y r s).number) i) q) [0] (by decide) (0) (by conv => lhs; cbv) (by conv => lhs; cbv) rfl rfl (by dsimp only; exact ⟨by omega, .zero (by omega)⟩) fun i hi Kn hN => ?_
      (try dsimp only at hi)
      conv => cbv
      obtain ⟨⟨h0, h1⟩, hinv⟩ := hi
      repeat' first
        | (refine idxV (R := War.cs) hE hl (by omega) hv ?_; (try conv => cbv))
        | (refine idxL hE hl (by omega) (fun v hv => ?_); obtain ⟨vn, vp, vf, vu, vx, vy, vr, vs⟩ := v; (try conv => cbv))
        | (refine subL hE hl (by simp only [Option.getD_some, Option.getD_none]; omega) (fun rs2 hrs2 => ?_); (try conv => cbv))
        | (refine noownI hE (by rw [hrs2]; exact War.nown _) ?_; (try conv => cbv))
        | (refine cat0L hE (R := War.cs) hrs2 (by simp only [List.length_take, List.length_drop, Option.getD_some, Option.getD_none]; omega) (fun es1 he1 => ?_); (try conv => cbv))
        | (refine catP hE (R := War.cs) (v := ⟨n, p, f, u, x, y, r, s⟩) he1 rfl (by simp only [List.length_take, List.length_drop, Option.getD_some, Option.getD_none]; omega) (fun es2 he2 => ?_); (try conv => cbv))
        | (refine catL hE (R := War.cs) he2 hrs2 (by simp only [List.length_append, List.length_singleton, List.length_take, List.length_drop, Option.getD_some, Option.getD_none]; omega) (fun es3 he3 => ?_); (try conv => cbv))
        | (refine hN _ _ [0] (by decide) rfl ⟨?_, ?_⟩ ?_ <;> (try dsimp only))
        | ((first
       | refine q0 hE ?_
       | refine nilOwnI hE 8 ?_
       | refine B0 hE ?_|refine B1 hE (fun _=>?_) fun _=>?_|refine B3 hE fun _ _ _=>?_|refine B2 hE fun _ _=>?_|refine B4 hE fun _ _ _ _=>?_) <;> (try conv => cbv))
      all_goals (try clear hN)
      all_goals first
        | omega
        | exact upW (w := ⟨n, p, f, u, x, y, r, s⟩) hinv hv (by assumption) (by assumption)
        | (refine hK _ ?_; rw [addW_in hok hw h0 hv (by simp only; omega) hinv, addWAt, if_pos ⟨_, hv, by assumption⟩]; rfl)
        | (refine hK _ ?_; rw [addW_in hok hw h0 hv (by simp only; omega) hinv, addWAt, if_neg (fun ⟨v, h1, h2⟩ => by rw [hv] at h1; cases h1; exact absurd h2 (by assumption)), if_pos (by omega)]; rfl)
        | (refine hK _ ?_; rw [addW_out hok hw (by omega) h1 hinv, addWAt, if_neg (fun ⟨v, h1, h2⟩ => by have := (List.getElem?_eq_some_iff.1 h1).1; omega), if_pos (by omega)]; rfl)
        | (refine hK _ ?_; rw [addW_in hok hw h0 hv (by simp only; omega) hinv, addWAt, if_neg (fun ⟨v, h1, h2⟩ => by rw [hv] at h1; cases h1; exact absurd h2 (by assumption)), if_neg (by omega), he3]; simp [warLI, atup])
        | (refine hK _ ?_; rw [addW_out hok hw (by omega) h1 hinv, addWAt, if_neg (fun ⟨v, h1, h2⟩ => by have := (List.getElem?_eq_some_iff.1 h1).1; omega), if_neg (by omega), he3]; simp [warLI, atup])
        | trace_state
    · refine nilOwnI hE 8 ?_
      conv => cbv
      refine hK _ ?_
      rw [addWR, if_neg (fun h => hw h.2)]; rfl
  · refine nilOwnI hE 8 ?_
    conv => cbv
    refine hK _ ?_
    rw [addWR, if_neg (fun h => hok h.1)]; rfl
end Go.Proofs.YthiecdiiindegaaGreatDoor
