/- Contracts: the draws of faults. -/
import Derived.Test.YtifjebnieieolaaGreatDoorFfb
import Derived.Test.YtifjebnieieolaaGreatDoorFsr
namespace Go.Proofs.YtifjebnieieolaaGreatDoor
open Go Go.RowKit Go.Sort Classical
set_option maxRecDepth 100000
set_option maxHeartbeats 2000000
set_option linter.unusedVariables false
set_option linter.unusedSimpArgs false
/-- A fault that ends. -/
def Fau.opn (a k : Int) (w : Fau) : Prop := w.aid = a ∧ w.kind = k ∧ w.til = -1
noncomputable def fixR (l : List Fau) (a k t : Int) : List Fau × Int := if FaultsOk l then (match l[(firstI (Fau.opn a k) l).toNat]? with
  | some v => if firstI (Fau.opn a k) l < 0 then ([], 3) else if TimeOk t ∧ v.frm < t then (l.set (firstI (Fau.opn a k) l).toNat ⟨v.aid, v.kind, v.frm, t⟩, 0) else ([], 2)
  | none => ([], 3)) else ([], 1)
theorem fixR_len (l : List Fau) (a k t : Int) : (fixR l a k t).1.length ≤ l.length := by
  unfold fixR
  split
  · split
    · split
      · simp
      · split
        · simp
        · simp
    · simp
  · simp
theorem fix_some {l : List Fau} {a k t i : Int} {v : Fau} (hok : FaultsOk l) (h0 : 0 ≤ i) (hv : l[i.toNat]? = some v) (hp : Fau.opn a k v) (h : Up (fun j => ∀ w, l[j]? = some w → ¬ Fau.opn a k w) i) :
    fixR l a k t = if TimeOk t ∧ v.frm < t then (l.set i.toNat ⟨v.aid, v.kind, v.frm, t⟩, 0) else ([], 2) := by
  unfold fixR
  rw [if_pos hok, firstI_in h0 hv hp h, hv]
  simp only
  rw [if_neg (by omega)]
theorem fix_none {l : List Fau} {a k t i : Int} (hok : FaultsOk l) (hi : (l.length : Int) ≤ i) (h : Up (fun j => ∀ w, l[j]? = some w → ¬ Fau.opn a k w) i) : fixR l a k t = ([], 3) := by
  unfold fixR
  rw [if_pos hok, firstI_out hi h]
  split
  · rw [if_pos (by omega)]
  · rfl
theorem rep_rows {ns : List (List AV)} {l : List Fau} {a k t : Int} (h : ns = (repR l a k t).1.map Fau.cs) : ∃ m : List Fau, ns = m.map Fau.cs ∧ m.length ≤ l.length + 1 := ⟨_, h, repR_len ..⟩
theorem fix_rows {ns : List (List AV)} {l : List Fau} {a k t : Int} (h : ns = (fixR l a k t).1.map Fau.cs) : ∃ m : List Fau, ns = m.map Fau.cs ∧ m.length ≤ l.length + 1 := ⟨_, h, by have := fixR_len l a k t; omega⟩
theorem sRepairFault_ {rs : List (List AV)} {b : Bool} {l : List Fau} (a k t : Int) (hl : rs = l.map Fau.cs) : AC Tryz.prog 60 [.sl b 4 rs, .int .i64 a, .int .i64 k, .int .i64 t] fauLI (fixR l a k t) := by
  refine ac Tryz.func60 (by kernel_rfl) (.fauLI _) fun E K hE hK => ?_
  conv => cbv
  refine callP hE (l20Ok_ hl) (fun hok => ?_) (fun hok => ?_) <;> conv => cbv
  · have h48 := hok.2
    refine loopC hE (ι := Int) [0, 1, 2, 3] [10] (fun q => (fun (i : Int) => [(10, .int .i64 i)]) q) (fun q => (fun (i : Int) => []) q) (fun q => (fun (i : Int) => (l.length - i).toNat) q) (fun q => (fun (i : Int) => (0 ≤ i ∧ i ≤ l.length) ∧ Up (fun j => ∀ w, l[j]? = some w → ¬ Fau.opn a k w) i) q) [] (by decide) (0) (by conv => lhs; cbv) (by conv => lhs; cbv) rfl rfl (by dsimp only; exact ⟨by omega, .zero (by omega)⟩) fun i hi Kn hN => ?_
    (try dsimp only at hi)
    conv => cbv
    obtain ⟨⟨h0, h1⟩, hinv⟩ := hi
    repeat' first
      | (refine idxV hE hl (by omega) (by assumption) ?_; (try conv => cbv))
      | (refine idxV (R := Fau.cs) hE (by assumption) (by omega) hv2 ?_; (try conv => cbv))
      | (refine idxL hE hl (by omega) (fun v hv2 => ?_); obtain ⟨aid, kind, frm, til⟩ := v; (try conv => cbv))
      | (refine noownI hE (by rw [hl]; exact Fau.nown l) ?_; (try conv => cbv))
      | (refine cat0L hE (R := Fau.cs) hl (by omega) (fun es1 he1 => ?_); (try conv => cbv))
      | (refine updL hE (R := Fau.cs) ⟨aid, kind, frm, t⟩ (by assumption) (by omega) hv2 (by exact Nat.le_of_ble_eq_true rfl) (by rfl) (fun es' hes' => ?_); (try conv => cbv))
      | (refine hN _ _ [] (by decide) rfl ⟨?_, ?_⟩ ?_ <;> (try dsimp only))
      | ((first
     | refine q0 hE ?_
     | refine callP hE (l20Time_ _) (fun _ => ?_) (fun _ => ?_)
     | refine nilOwnI hE 4 ?_
     | refine B0 hE ?_|refine B1 hE (fun _=>?_) fun _=>?_|refine B3 hE fun _ _ _=>?_|refine B2 hE fun _ _=>?_|refine B4 hE fun _ _ _ _=>?_) <;> (try conv => cbv))
    all_goals (try clear hN)
    all_goals first
      | omega
      | exact upM hinv hv2 (by unfold Fau.opn; simp only; omega) (by assumption)
      | (refine hK _ ?_; rw [fix_some hok h0 hv2 ⟨by assumption, by assumption, by assumption⟩ hinv, if_pos ⟨by assumption, by simp only; omega⟩, hes']; rfl)
      | (refine hK _ ?_; rw [fix_some hok h0 hv2 ⟨by assumption, by assumption, by assumption⟩ hinv, if_neg (fun h => by have := h.2; simp only at this; first | exact absurd h.1 (by assumption) | omega)]; rfl)
      | (refine hK _ ?_; rw [fix_none hok (by omega) hinv]; rfl)
      | trace_state
  · refine nilOwnI hE 4 ?_
    conv => cbv
    refine hK _ ?_
    rw [fixR, if_neg hok]; rfl
theorem amongF_ {rs rs1 : List (List AV)} {code l : List Int} (a z : Int) (hc : rs = code.map u8R) (hb : Bytes code) (ha : 0 ≤ a ∧ a ≤ 900000000) (hl : rs1 = l.map intR) (hn : 0 < l.length) : ACS Tryz.prog 40 [.bx [.sl false 1 rs, .int .i64 a, .int .u64 z], .sl false 1 rs1] (fun r ys => ∃ x a' z', r = .int .i64 x ∧ x ∈ l ∧ (a ≤ a' ∧ a' ≤ a + 2) ∧ ys = [.bx [.sl false 1 rs, .int .i64 a', .int .u64 z'], .any]) := by
  refine acs 1 Tryz.func40 (by kernel_rfl) fun E K hE hK => ?_
  conv => cbv
  repeat' first
    | (refine callSI hE (pick_ _ _ _ hc hb ha) ?_; rintro r ys ⟨x, a', z', rfl, hx, ha', rfl⟩; (try conv => cbv))
    | ((first
   | refine q0 hE ?_
   | refine B0 hE ?_|refine B1 hE (fun _=>?_) fun _=>?_|refine B3 hE fun _ _ _=>?_|refine B2 hE fun _ _=>?_|refine B4 hE fun _ _ _ _=>?_) <;> (try conv => cbv))
  all_goals exact hK _ _ ⟨_, _, _, rfl, List.mem_of_getElem? (by assumption), ha', rfl⟩
theorem l20DrawTime_ {rs : List (List AV)} {code : List Int} (a z : Int) (hc : rs = code.map u8R) (hb : Bytes code) (ha : 0 ≤ a ∧ a ≤ 800000000) : ACS Tryz.prog 19 [.bx [.sl false 1 rs, .int .i64 a, .int .u64 z]] (fun r ys => ∃ x a' z', r = .int .i64 x ∧ (-1 ≤ x ∧ x ≤ 144000000) ∧ (a ≤ a' ∧ a' ≤ a + 4) ∧ ys = [.bx [.sl false 1 rs, .int .i64 a', .int .u64 z']]) := by
  refine acs 1 Tryz.func19 (by kernel_rfl) fun E K hE hK => ?_
  conv => cbv
  repeat' first
    | (refine callSI hE (one_ _ _ _ hc hb (by omega)) ?_; rintro r ys ⟨c, a', z', rfl, ha', rfl⟩; (try conv => cbv))
    | (refine callSI hE (pick_ _ _ _ hc hb (by omega)) ?_; rintro r ys ⟨x, a', z', rfl, hx, ha', rfl⟩; (try conv => cbv))
    | (refine callSI hE (among_ (l := [-1, 0, 143999999, 144000000]) _ _ hc hb (by omega) rfl (by decide)) ?_; rintro r ys ⟨x, a', z', rfl, hx, ha', rfl⟩; simp only [List.mem_cons, List.not_mem_nil, or_false] at hx; (try conv => cbv))
    | (refine sameI hE rfl ?_; (try conv => cbv))
    | ((first
   | refine q0 hE ?_
   | refine B0 hE ?_|refine B1 hE (fun _=>?_) fun _=>?_|refine B3 hE fun _ _ _=>?_|refine B2 hE fun _ _=>?_|refine B4 hE fun _ _ _ _=>?_) <;> (try conv => cbv))
  all_goals exact hK _ _ ⟨_, _, _, rfl, by omega, by omega, rfl⟩
theorem l20DrawAid_ {rs : List (List AV)} {code : List Int} (a z : Int) (hc : rs = code.map u8R) (hb : Bytes code) (ha : 0 ≤ a ∧ a ≤ 800000000) : ACS Tryz.prog 17 [.bx [.sl false 1 rs, .int .i64 a, .int .u64 z]] (fun r ys => ∃ x a' z', r = .int .i64 x ∧ (a ≤ a' ∧ a' ≤ a + 4) ∧ ys = [.bx [.sl false 1 rs, .int .i64 a', .int .u64 z']]) := by
  refine acs 1 Tryz.func17 (by kernel_rfl) fun E K hE hK => ?_
  conv => cbv
  repeat' first
    | (refine callSI hE (one_ _ _ _ hc hb (by omega)) ?_; rintro r ys ⟨c, a', z', rfl, ha', rfl⟩; (try conv => cbv))
    | (refine callSI hE (pick_ _ _ _ hc hb (by omega)) ?_; rintro r ys ⟨x, a', z', rfl, hx, ha', rfl⟩; (try conv => cbv))
    | (refine callSI hE (among_ (l := [0, 9999, 10000, 60]) _ _ hc hb (by omega) rfl (by decide)) ?_; rintro r ys ⟨x, a', z', rfl, hx, ha', rfl⟩; simp only [List.mem_cons, List.not_mem_nil, or_false] at hx; (try conv => cbv))
    | (refine sameI hE rfl ?_; (try conv => cbv))
    | ((first
   | refine q0 hE ?_
   | refine B0 hE ?_|refine B1 hE (fun _=>?_) fun _=>?_|refine B3 hE fun _ _ _=>?_|refine B2 hE fun _ _=>?_|refine B4 hE fun _ _ _ _=>?_) <;> (try conv => cbv))
  all_goals exact hK _ _ ⟨_, _, _, rfl, by omega, rfl⟩
theorem l20DrawOk_ {rs : List (List AV)} {code : List Int} (a z : Int) (hc : rs = code.map u8R) (hb : Bytes code) (ha : 0 ≤ a ∧ a ≤ 700000000) : ACS Tryz.prog 38 [.bx [.sl false 1 rs, .int .i64 a, .int .u64 z]] (fun r ys => ∃ (l : List Fau) (rs1 : List (List AV)) (a' z' : Int), r = .sl true 4 rs1 ∧ rs1 = l.map Fau.cs ∧ l.length ≤ 8 ∧ (a ≤ a' ∧ a' ≤ a + 60) ∧ ys = [.bx [.sl false 1 rs, .int .i64 a', .int .u64 z']]) := by
  refine acs 1 Tryz.func38 (by kernel_rfl) fun E K hE hK => ?_
  conv => cbv
  refine callSI hE (pick_ _ _ 100 hc hb (by omega)) ?_
  rintro r ys ⟨x1, a0, z0, rfl, hx1, ha0, rfl⟩
  conv => cbv
  refine callSI hE (pick_ _ _ 9 hc hb (by omega)) ?_
  rintro r ys ⟨x, a1, z1, rfl, hx, ha1, rfl⟩
  conv => cbv
  refine loopC hE (ι := Int × Int × Int × Int × (List (List AV))) [0] [5, 4, 3] (fun q => (fun (k : Int) (u : Int) (a2 : Int) (z2 : Int) (es : List (List AV)) => [(5, .int .i64 k), (4, .int .i64 u), (3, .ob 1)]) q.1 q.2.1 q.2.2.1 q.2.2.2.1 q.2.2.2.2) (fun q => (fun (k : Int) (u : Int) (a2 : Int) (z2 : Int) (es : List (List AV)) => [.box [.sl false 1 rs, .int .i64 a2, .int .u64 z2], .row 4 es]) q.1 q.2.1 q.2.2.1 q.2.2.2.1 q.2.2.2.2) (fun q => (fun (k : Int) (u : Int) (a2 : Int) (z2 : Int) (es : List (List AV)) => (k).toNat) q.1 q.2.1 q.2.2.1 q.2.2.2.1 q.2.2.2.2) (fun q => (fun (k : Int) (u : Int) (a2 : Int) (z2 : Int) (es : List (List AV)) => (0 ≤ k ∧ k ≤ 8) ∧ (a ≤ a2 ∧ a2 ≤ a + 4 + 6 * (8 - k)) ∧ ∃ l : List Fau, es = l.map Fau.cs ∧ (l.length : Int) ≤ 8 - k) q.1 q.2.1 q.2.2.1 q.2.2.2.1 q.2.2.2.2) [0, 1] (by decide) ((x, x1, a1, z1, [])) (by conv => lhs; cbv) (by conv => lhs; cbv) rfl rfl (by dsimp only; exact ⟨by omega, by omega, [], rfl, by simp; omega⟩) fun q hi Kn hN => ?_
  obtain ⟨k, u, a2, z2, es⟩ := q
  (try dsimp only at hi)
  conv => cbv
  obtain ⟨⟨k0, k1⟩, ⟨a3, a4⟩, l, hl, hlen⟩ := hi
  repeat' first
    | (refine callSI hE (pick_ _ _ _ hc hb (by omega)) ?_; rintro r ys ⟨x, a', z', rfl, hx, ha', rfl⟩; (try conv => cbv))
    | (refine callLI hE (sReportFault_ _ _ _ hl) (fun ns cd hns hcd => ?_); obtain ⟨m, hm, hml⟩ := rep_rows hns; clear hns; (try conv => cbv))
    | (refine callLI hE (sRepairFault_ _ _ _ hl) (fun ns cd hns hcd => ?_); obtain ⟨m, hm, hml⟩ := fix_rows hns; clear hns; (try conv => cbv))
    | (refine hN (_, _, _, _, _) _ [0, 1] (by decide) rfl ⟨?_, ?_, _, (by assumption), ?_⟩ ?_ <;> (try dsimp only))
    | (refine hN (_, _, _, _, _) _ [0, 2] (by decide) rfl ⟨?_, ?_, _, (by assumption), ?_⟩ ?_ <;> (try dsimp only))
    | (refine hN (_, _, _, _, _) _ [0, 3] (by decide) rfl ⟨?_, ?_, _, (by assumption), ?_⟩ ?_ <;> (try dsimp only))
    | ((first
   | refine q0 hE ?_
   | refine B0 hE ?_|refine B1 hE (fun _=>?_) fun _=>?_|refine B3 hE fun _ _ _=>?_|refine B2 hE fun _ _=>?_|refine B4 hE fun _ _ _ _=>?_) <;> (try conv => cbv))
  all_goals (try clear hN)
  all_goals first
    | omega
    | exact hK _ _ ⟨_, _, _, _, rfl, by assumption, by omega, by omega, rfl⟩
    | trace_state
end Go.Proofs.YtifjebnieieolaaGreatDoor
