/- Contracts: the texts of places and warnings. -/
import Derived.Test.YthiecdiiindegaaGreatDoorFwb
import Derived.Test.YthiecdiiindegaaGreatDoorRdv
import Derived.Test.YthiecdiiindegaaGreatDoorJsc
namespace Go.Proofs.YthiecdiiindegaaGreatDoor
open Go Go.RowKit Classical
set_option maxRecDepth 100000
set_option maxHeartbeats 2000000
set_option linter.unusedVariables false
set_option linter.unusedSimpArgs false
theorem dle : ∀ w w', DrawLe w w' := fun _ _ => trivial
theorem itoa_ch {n : Int} {b : UInt8} (hb : b ∈ Lib.itoa n) : b.toNat = 45 ∨ dgB b := by
  rcases itoa_cases n with ⟨u, rfl, e⟩ | ⟨u, _, rfl, e⟩
  · rw [e] at hb
    exact .inr ((decD_spec u).1 _ hb)
  · rw [e] at hb
    rcases List.mem_cons.1 hb with rfl | hb
    · left; rfl
    · exact .inr ((decD_spec u).1 _ hb)
theorem itoa_no44 (n : Int) : ∀ b ∈ Lib.itoa n, b ≠ 44 := fun b hb e => by
  subst e
  rcases itoa_ch hb with h | h
  · revert h; decide
  · unfold dgB at h; revert h; decide
def ptTxt (x y : Int) : List UInt8 := Lib.itoa x ++ 44 :: Lib.itoa y
theorem pt_no32 (x y : Int) : ∀ b ∈ ptTxt x y, b ≠ 32 := fun b hb => by
  unfold ptTxt at hb
  rcases List.mem_append.1 hb with h | h
  · exact itoa_no32 _ b h
  · rcases List.mem_cons.1 h with rfl | h
    · decide
    · exact itoa_no32 _ b h
noncomputable def ptext (x y : Int) : ByteArray := if PtOk x y then bL (ptTxt x y) else ⟨#[]⟩
theorem ptext_eq {x y : Int} (h : PtOk x y) : ptext x y = decS x ++ ⟨#[44]⟩ ++ decS y := by
  unfold ptext
  rw [if_pos h]
  apply ByteArray.ext
  apply Array.ext'
  simp [ptTxt, bL, decS]
theorem ptext_size {x y : Int} (h : PtOk x y) : (ptext x y).size ≤ 50 := by
  rw [ptext_eq h]
  unfold PtOk at h
  have z1 := decS_size (n := x) (by omega)
  have z2 := decS_size (n := y) (by omega)
  have z44 : (⟨#[44]⟩ : ByteArray).size = 1 := rfl
  simp only [ByteArray.size_append, z44]
  omega
theorem pointText_ (x y : Int) : AC Tryz.prog 41 [.agg [.int .i64 x, .int .i64 y]] AV.str (ptext x y) := by
  refine ac Tryz.func41 (by kernel_rfl) (.str _) fun E K hE hK => ?_
  conv => cbv
  refine callP hE (validPoint_ x y) (fun hok => ?_) (fun hok => ?_) <;> conv => cbv
  · have hok' := hok
    unfold PtOk at hok'
    have z1 := decS_size (n := x) (by omega)
    have z2 := decS_size (n := y) (by omega)
    have z32 : (⟨⟨[44]⟩⟩ : ByteArray).size = 1 := rfl
    repeat' first
      | (refine scatI hE (by subst_vars; (try simp only [ByteArray.size_append]); omega) (fun _ _ _ => ?_); (try conv => cbv))
      | ((first
     | refine q0 hE ?_
     | refine callI hE (decimal_ _ (by omega)) (fun _ _ => ?_)
     | refine B0 hE ?_|refine B1 hE (fun _=>?_) fun _=>?_|refine B3 hE fun _ _ _=>?_|refine B2 hE fun _ _=>?_|refine B4 hE fun _ _ _ _=>?_) <;> (try conv => cbv))
    all_goals first
      | (refine hK _ ?_; rw [ptext_eq hok]; subst_vars; rfl)
      | trace_state
  · exact hK _ (by rw [show ptext x y = ⟨#[]⟩ from if_neg hok]; rfl)
def ptB (p : Pnt × Bool) : AV := .tup [.agg p.1.cs, .bool p.2]
theorem NoB.ptB (p : Pnt × Bool) : NoB (ptB p) := .tupC (.aggC (.int _ _) (.aggC (.int _ _) .agg0)) (.tupC (.bool _) .tup0)
theorem readPoint_ (x y : Int) (s : ByteArray) (hp : PtOk x y) (hs : s = ptext x y) : AC Tryz.prog 37 [.str s] ptB (⟨x, y⟩, true) := by
  refine ac Tryz.func37 (by kernel_rfl) (.ptB _) fun E K hE hK => ?_
  conv => cbv
  have hsz := ptext_size hp
  rw [← hs] at hsz
  have hp' := hp
  unfold PtOk at hp'
  have n1 : numOf (bL (Lib.itoa x)).data.toList = (x, true) := numOf_yes ⟨rfl, by omega, by omega⟩
  have n2 : numOf (bL (Lib.itoa y)).data.toList = (y, true) := numOf_yes ⟨rfl, by omega, by omega⟩
  have hst : s.data.toList = (bL (Lib.itoa x)).data.toList ++ 44 :: (bL (Lib.itoa y)).data.toList := by rw [hs, ptext, if_pos hp]; rfl
  have hno : ∀ b ∈ (bL (Lib.itoa x)).data.toList, b ≠ 44 := itoa_no44 x
  have hl := congrArg List.length hst
  rw [List.length_append, List.length_cons, szl, szl, szl] at hl
  obtain ⟨u, hu⟩ : ∃ u, u = bL (Lib.itoa x) := ⟨_, rfl⟩
  obtain ⟨v, hv⟩ : ∃ v, v = bL (Lib.itoa y) := ⟨_, rfl⟩
  rw [← hu] at n1 hst hno hl
  rw [← hv] at n2 hst hl
  refine callI hE (cut_ s u v 44 (by omega) hno hst) (fun p hp0 => ?_)
  subst hp0
  conv => cbv
  repeat' first
    | (refine callI hE (readDecimal_ u (by omega)) (fun p1 hp1 => ?_); rw [n1] at hp1; subst hp1; (try conv => cbv))
    | (refine callI hE (readDecimal_ v (by omega)) (fun p2 hp2 => ?_); rw [n2] at hp2; subst hp2; (try conv => cbv))
    | (refine callPT hE (validPoint_ _ _) hp ?_; (try conv => cbv))
    | ((first
   | refine q0 hE ?_
   | refine B0 hE ?_|refine B1 hE (fun _=>?_) fun _=>?_|refine B3 hE fun _ _ _=>?_|refine B2 hE fun _ _=>?_|refine B4 hE fun _ _ _ _=>?_) <;> (try conv => cbv))
  all_goals first
    | exact hK _ rfl
    | trace_state
def wpN : List ByteArray := ["", "vital", "important", "routine"].map String.toUTF8
theorem priorityName_ (k : Int) : AC Tryz.prog 38 [.int .i64 k] AV.str (pickS k wpN) := by
  refine ac Tryz.func38 (by kernel_rfl) (.str _) fun E K hE hK => ?_
  conv => cbv
  repeat' first
    | ((first
   | refine q0 hE ?_
   | refine callI hE (npick_ (es := wpN) k (by rfl)) (fun _ _ => ?_)
   | refine B0 hE ?_|refine B1 hE (fun _=>?_) fun _=>?_|refine B3 hE fun _ _ _=>?_|refine B2 hE fun _ _=>?_|refine B4 hE fun _ _ _ _=>?_) <;> (try conv => cbv))
  exact hK _ (by simp_all [atup])
theorem wpN_ok {k : Int} (h : 1 ≤ k ∧ k ≤ 3) : (∀ b ∈ (pickS k wpN).data.toList, b ≠ 32) ∧ (pickS k wpN).size ≤ 10 := by
  have h2 : k = 1 ∨ k = 2 ∨ k = 3 := by omega
  rcases h2 with rfl | rfl | rfl <;> decide
theorem wpN_inj {k j : Int} (hk : 1 ≤ k ∧ k ≤ 3) (hj : 1 ≤ j ∧ j ≤ 3) (h : pickS k wpN = pickS j wpN) : k = j := by
  have h' : (pickS k wpN).data.toList = (pickS j wpN).data.toList := by rw [h]
  have h2 : k = 1 ∨ k = 2 ∨ k = 3 := by omega
  have h3 : j = 1 ∨ j = 2 ∨ j = 3 := by omega
  rcases h2 with rfl | rfl | rfl <;> rcases h3 with rfl | rfl | rfl <;> first | rfl | (exfalso; revert h'; decide)
noncomputable def wParts (v : War) : List ByteArray := [decS v.number, pickS v.priority wpN, decS v.frm, decS v.til, ptext v.atX v.atY, decS v.radius, v.words]
noncomputable def wtext (v : War) : ByteArray := if v.ok then joinB (wParts v) ⟨#[32]⟩ else ⟨#[]⟩
theorem join7 (a b c d e f g : ByteArray) : (joinB [a, b, c, d, e, f, g] ⟨#[32]⟩).data.toList = a.data.toList ++ 32 :: (b.data.toList ++ 32 :: (c.data.toList ++ 32 :: (d.data.toList ++ 32 :: (e.data.toList ++ 32 :: (f.data.toList ++ 32 :: g.data.toList))))) := by
  simp [joinB, Lib.join, List.intercalate]
theorem join7_size (a b c d e f g : ByteArray) : (joinB [a, b, c, d, e, f, g] ⟨#[32]⟩).size = a.size + b.size + c.size + d.size + e.size + f.size + g.size + 6 := by
  have h := congrArg List.length (join7 a b c d e f g)
  simp only [List.length_append, List.length_cons, szl] at h
  omega
theorem wsizes {v : War} (h : v.ok) : (decS v.number).size ≤ 21 ∧ (pickS v.priority wpN).size ≤ 10 ∧ (decS v.frm).size ≤ 21 ∧ (decS v.til).size ≤ 21 ∧ (ptext v.atX v.atY).size ≤ 50 ∧ (decS v.radius).size ≤ 21 ∧ v.words.size ≤ 60 := by
  obtain ⟨k1, k2, k3, k4, k5, k6, k7, k8, k9⟩ := h
  unfold TimeOk at k3 k4
  exact ⟨decS_size (by omega), (wpN_ok k2).2, decS_size (by omega), decS_size (by omega), ptext_size k6, decS_size (by omega), k8.2⟩
theorem wtext_size {v : War} (h : v.ok) : (wtext v).size ≤ 300 := by
  obtain ⟨h1, h2, h3, h4, h5, h6, h7⟩ := wsizes h
  unfold wtext wParts
  rw [if_pos h, join7_size]
  omega
theorem splitB_of {s : ByteArray} {k : Nat} {xs : List ByteArray} {c : UInt8} (h : Lib.splitK [c] 0 k s.data.toList = xs.map (·.data.toList)) : Lib.splitB ⟨#[c]⟩ 0 k s = xs := by
  have h1 := Lib.splitB_data ⟨#[c]⟩ 0 k s
  have h2 : (Lib.splitB ⟨#[c]⟩ 0 k s).map (·.data.toList) = xs.map (·.data.toList) := h1.trans h
  exact (List.map_inj_right (fun a b e => ByteArray.ext (Array.ext' e))).1 h2
theorem wtext_split {v : War} (h : v.ok) : Lib.splitB ⟨#[32]⟩ 0 6 (wtext v) = wParts v := by
  have h' := h
  obtain ⟨k1, k2, k3, k4, k5, k6, k7, k8, k9⟩ := h'
  have hp : (ptext v.atX v.atY).data.toList = ptTxt v.atX v.atY := by unfold ptext; rw [if_pos k6]; rfl
  refine splitB_of ?_
  unfold wtext
  rw [if_pos h]
  unfold wParts
  rw [join7, splitK_one (x := (decS v.number).data.toList) 5 (itoa_no32 _), splitK_one 4 (wpN_ok k2).1, splitK_one (x := (decS v.frm).data.toList) 3 (itoa_no32 _), splitK_one (x := (decS v.til).data.toList) 2 (itoa_no32 _),
    splitK_one 1 (by rw [hp]; exact pt_no32 _ _), splitK_one (x := (decS v.radius).data.toList) 0 (itoa_no32 _)]
  rfl
theorem wtext_nums {v : War} (h : v.ok) : numOf (decS v.number).data.toList = (v.number, true) ∧ numOf (decS v.frm).data.toList = (v.frm, true) ∧ numOf (decS v.til).data.toList = (v.til, true) ∧ numOf (decS v.radius).data.toList = (v.radius, true) := by
  obtain ⟨k1, k2, k3, k4, k5, k6, k7, k8, k9⟩ := h
  unfold TimeOk at k3 k4
  exact ⟨numOf_yes ⟨rfl, by omega, by omega⟩, numOf_yes ⟨rfl, by omega, by omega⟩, numOf_yes ⟨rfl, by omega, by omega⟩, numOf_yes ⟨rfl, by omega, by omega⟩⟩
theorem warningText_ (number priority frm til atX atY radius : Int) (words : ByteArray) : AC Tryz.prog 12 [.agg [.int .i64 number, .int .i64 priority, .int .i64 frm, .int .i64 til, .int .i64 atX, .int .i64 atY, .int .i64 radius, .str words]] AV.str (wtext ⟨number, priority, frm, til, atX, atY, radius, words⟩) := by
  refine ac Tryz.func12 (by kernel_rfl) (.str _) fun E K hE hK => ?_
  conv => cbv
  refine callP hE (validWarning_ number priority frm til atX atY radius words) (fun hok => ?_) (fun hok => ?_) <;> conv => cbv
  · have hsz := wtext_size hok
    have hok' := hok
    obtain ⟨k1, k2, k3, k4, k5, k6, k7, k8, k9⟩ := hok'
    unfold TimeOk at k3 k4
    simp only at k1 k2 k3 k4 k5 k6 k7 k8 k9
    rw [wtext, if_pos hok] at hsz
    repeat' first
      | (refine callI hE (join_ (xs := [_, _, _, _, _, _, _]) _ dle rfl (by simp) (by simp) (by subst_vars; exact Nat.le_trans hsz (by decide))) (fun _ _ => ?_); (try conv => cbv))
      | ((first
     | refine q0 hE ?_
     | refine callI hE (decimal_ _ (by omega)) (fun _ _ => ?_)
     | refine callI hE (priorityName_ _) (fun _ _ => ?_)
     | refine callI hE (pointText_ _ _) (fun _ _ => ?_)
     | refine B0 hE ?_|refine B1 hE (fun _=>?_) fun _=>?_|refine B3 hE fun _ _ _=>?_|refine B2 hE fun _ _=>?_|refine B4 hE fun _ _ _ _=>?_) <;> (try conv => cbv))
    all_goals first
      | (refine hK _ ?_; rw [wtext, if_pos hok]; subst_vars; rfl)
      | trace_state
  · exact hK _ (by rw [show wtext ⟨number, priority, frm, til, atX, atY, radius, words⟩ = ⟨#[]⟩ from if_neg hok]; rfl)
def warB (p : War × Bool) : AV := .tup [.agg p.1.cs, .bool p.2]
theorem NoB.warB (p : War × Bool) : NoB (warB p) := .tupC (.oWar _) (.tupC (.bool _) .tup0)
theorem readWarning_ (v : War) (s : ByteArray) (hok : v.ok) (hs : s = wtext v) : AC Tryz.prog 11 [.str s] warB (v, true) := by
  refine ac Tryz.func11 (by kernel_rfl) (.warB _) fun E K hE hK => ?_
  conv => cbv
  have hsz := wtext_size hok
  have hsp := wtext_split hok
  have hsz7 : 7 ≤ (wtext v).size + 1 := by unfold wtext wParts; rw [if_pos hok, join7_size]; omega
  rw [← hs] at hsz hsp hsz7
  obtain ⟨n1, n2, n3, n4⟩ := wtext_nums hok
  obtain ⟨s1, s2, s3, s4, s5, s6, s7⟩ := wsizes hok
  obtain ⟨a1, ha1⟩ : ∃ a, a = decS v.number := ⟨_, rfl⟩
  obtain ⟨a2, ha2⟩ : ∃ a, a = pickS v.priority wpN := ⟨_, rfl⟩
  obtain ⟨a3, ha3⟩ : ∃ a, a = decS v.frm := ⟨_, rfl⟩
  obtain ⟨a4, ha4⟩ : ∃ a, a = decS v.til := ⟨_, rfl⟩
  obtain ⟨a5, ha5⟩ : ∃ a, a = ptext v.atX v.atY := ⟨_, rfl⟩
  obtain ⟨a6, ha6⟩ : ∃ a, a = decS v.radius := ⟨_, rfl⟩
  unfold wParts at hsp
  rw [← ha1, ← ha2, ← ha3, ← ha4, ← ha5, ← ha6] at hsp
  rw [← ha1] at n1 s1
  rw [← ha2] at s2
  rw [← ha3] at n2 s3
  rw [← ha4] at n3 s4
  rw [← ha5] at s5
  rw [← ha6] at n4 s6
  have hok' := hok
  obtain ⟨k1, k2, k3, k4, k5, k6, k7, k8, k9⟩ := hok'
  refine callR hE (splitN_ s 32 7 [a1, a2, a3, a4, a5, a6, v.words] (by omega) (by omega) hsp rfl hsz7 (fun x hx => ?_)) (fun rs hrs => ?_)
  · simp only [List.mem_cons, List.not_mem_nil, or_false] at hx
    rcases hx with rfl | rfl | rfl | rfl | rfl | rfl | rfl <;> omega
  conv => cbv
  repeat' first
    | (refine lenL hE hrs (fun n hn hb => ?_); (try conv => cbv))
    | (refine idxV (R := strR) (l := [a1, a2, a3, a4, a5, a6, v.words]) hE hrs (by decide) (by rfl) ?_; (try conv => cbv))
    | (refine callI hE (readDecimal_ a1 (by omega)) (fun p1 hp1 => ?_); rw [n1] at hp1; subst hp1; (try conv => cbv))
    | (refine callI hE (readDecimal_ a3 (by omega)) (fun p2 hp2 => ?_); rw [n2] at hp2; subst hp2; (try conv => cbv))
    | (refine callI hE (readDecimal_ a4 (by omega)) (fun p3 hp3 => ?_); rw [n3] at hp3; subst hp3; (try conv => cbv))
    | (refine callI hE (readPoint_ v.atX v.atY a5 k6 ha5) (fun p5 hp5 => ?_); subst hp5; (try conv => cbv))
    | (refine callI hE (readDecimal_ a6 (by omega)) (fun p4 hp4 => ?_); rw [n4] at hp4; subst hp4; (try conv => cbv))
    | ((refine loopC hE (ι := Int × Int) [0, 2, 4, 5, 6] [7] (fun q => (fun (k : Int) (q : Int) => [(7, .int .i64 k)]) q.1 q.2) (fun q => (fun (k : Int) (q : Int) => [.box [.int .i64 0, .int .i64 0, .int .i64 0, .int .i64 0, .int .i64 0, .int .i64 0, .int .i64 0, .str ⟨⟨[]⟩⟩], .row 1 rs, .box [.bool true, .bool true, .bool true, .bool true, .bool true], .box [.int .i64 v.number, .int .i64 q, .int .i64 v.frm, .int .i64 v.til, .int .i64 v.atX, .int .i64 v.atY, .int .i64 v.radius, .str v.words]]) q.1 q.2) (fun q => (fun (k : Int) (q : Int) => (4 - k).toNat) q.1 q.2) (fun q => (fun (k : Int) (q : Int) => (1 ≤ k ∧ k ≤ 4) ∧ (k ≤ v.priority → q = 0) ∧ (v.priority < k → q = v.priority)) q.1 q.2) [0, 1, 2, 3] (by decide) ((1, 0)) (by conv => lhs; cbv) (by conv => lhs; cbv) rfl rfl (by dsimp only; exact ⟨by omega, by omega, by omega⟩) fun q hi2 Kn2 hN2 => ?_; obtain ⟨k, q⟩ := q; (try dsimp only at hi2); conv => cbv); obtain ⟨hk0, hk1, hk2⟩ := hi2)
    | (refine callI hE (priorityName_ _) (fun d hd => ?_); (try conv => cbv))
    | (refine aeqI hE (fun hq => ?_) (fun hq => ?_) <;> (try conv => cbv))
    | (refine callI hE (warningText_ _ _ _ _ _ _ _ _) (fun d hd => ?_); (try conv => cbv))
    | (refine hN2 (_, _) _ [0, 1, 2, 3] (by decide) rfl ⟨?_, ?_, ?_⟩ ?_ <;> (try dsimp only))
    | ((first
   | refine q0 hE ?_
   | refine B0 hE ?_|refine B1 hE (fun _=>?_) fun _=>?_|refine B3 hE fun _ _ _=>?_|refine B2 hE fun _ _=>?_|refine B4 hE fun _ _ _ _=>?_) <;> (try conv => cbv))
  all_goals (try clear hN2)
  all_goals first
    | omega
    | (have hkv : k = v.priority := wpN_inj (by omega) k2 (hd.symm.trans ((by assumption : d = a2).trans ha2)); omega)
    | (have hkn : ¬ k = v.priority := fun e => absurd (hd.trans (by rw [e, ← ha2])) (by assumption); omega)
    | exact absurd (by simp [pairsP]) hq
    | (have hqv : q = v.priority := hk2 (by omega); subst hqv; first | exact hK _ rfl | exact absurd (hd.trans hs.symm) (by assumption))
    | trace_state
end Go.Proofs.YthiecdiiindegaaGreatDoor
