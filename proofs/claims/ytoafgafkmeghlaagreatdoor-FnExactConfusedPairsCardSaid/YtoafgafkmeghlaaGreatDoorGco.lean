/- Contracts: the colors of sectors. -/
import Derived.Test.YtoafgafkmeghlaaGreatDoorGss
namespace Go.Proofs.YtoafgafkmeghlaaGreatDoor
open Go Go.RowKit Classical
set_option maxRecDepth 100000
set_option maxHeartbeats 2000000
set_option linter.unusedVariables false
set_option linter.unusedSimpArgs false
theorem nxtI {E : Env} {np : Nat} {P : Program} (hE : E = stdE np P) {s : ByteArray} {p : Nat} {K : Int → Int → Nat → Prop} {K0 : Prop} (f : Nat → Int) (hd : ∀ p, p < s.size → ((Utf8.decode s p).1 : Int) = f p ∧ (Utf8.decode s p).2 = 1) (h1 : ∀ (q r : Int) (n : Nat), p < s.size → q = p → r = f p → n = p + 1 → K q r n) (h2 : ¬ p < s.size → K0) : E.nxt s p K K0 := by
  subst hE
  show if p < s.size then _ else _
  split
  · rename_i h
    obtain ⟨e1, e2⟩ := hd p h
    exact h1 _ _ _ h rfl e1 (by rw [e2])
  · rename_i h; exact h2 h
theorem ssub2 {E : Env} {np : Nat} {P : Program} (hE : E = stdE np P) {a : ByteArray} {lo hi : Int} {K : ByteArray → Prop} (h : 0 ≤ lo ∧ lo ≤ hi ∧ hi ≤ a.size) (hk : ∀ s, s = a.extract lo.toNat hi.toNat → K s) : E.ssub a (some lo) (some hi) K :=
  ssubI hE h hk
theorem decode_cAll : ∀ p, p < cAll.size → ((Utf8.decode cAll p).1 : Int) = chr cAll p ∧ (Utf8.decode cAll p).2 = 1 := by
  have h : ∀ p : Fin 4, ((Utf8.decode cAll p.1).1 : Int) = chr cAll p.1 ∧ (Utf8.decode cAll p.1).2 = 1 := by decide +kernel
  exact fun p hp => h ⟨p, hp⟩
theorem cAll_sub : ∀ p : Fin 4, cAll.extract p.1 (p.1 + 1) = allC.getD p.1 noS := by
  have h : ∀ p : Fin 4, (cAll.extract p.1 (p.1 + 1)).data.toList = (allC.getD p.1 noS).data.toList := by decide +kernel
  exact fun p => bytes_ext (by rw [bytes_toList, bytes_toList]; exact h p)
theorem allC_one : ∀ p : Fin 4, (allC.getD p.1 noS).size = 1 := by decide +kernel
theorem containsV_ (s c : ByteArray) (h : c.size = 1) : AC Tryz.prog 63 [.str s, .str c] AV.bool (decide (0 ≤ Lib.indexByte s.data.toList (c.data.getD 0 0))) := by
  have := containsOne_ s (c.data.getD 0 0)
  rwa [← size1 h] at this
theorem colsM_size (l : List Scr) (p : Nat) (b : Bool) : (colsTo l p ++ fl (allC.getD p noS) b).size ≤ p + 1 := by
  have h1 := colsTo_size l p
  have h2 := fl_size (allC.getD p noS) b
  have h3 := allC_size p
  rw [ByteArray.size_append]; omega
theorem cols_zero (l : List Scr) (p : Nat) : colsTo l p = colsTo l p ++ fl (allC.getD p noS) (occ (l.take 0) (allC.getD p noS)) := by
  rw [List.take_zero, occ_nil]
  exact (cat_noS _).symm
theorem cols_add {l : List Scr} {p : Nat} {k n : Int} {s : Scr} (h0 : 0 ≤ k) (hs : l[k.toNat]? = some s) (hn : n = k + 1) (hc : s.color = allC.getD p noS) (ho : occ (l.take k.toNat) (allC.getD p noS) = false) : (colsTo l p ++ fl (allC.getD p noS) (occ (l.take k.toNat) (allC.getD p noS))) ++ allC.getD p noS = colsTo l p ++ fl (allC.getD p noS) (occ (l.take n.toNat) (allC.getD p noS)) := by
  rw [hn, occ_take _ h0 hs, ho, bP_eq (b := true) ⟨fun _ => hc, fun _ => rfl⟩]
  show (colsTo l p ++ noS) ++ _ = _ ++ _
  rw [cat_noS]; rfl
theorem cols_same {l : List Scr} {p : Nat} {k n : Int} {s : Scr} (h0 : 0 ≤ k) (hs : l[k.toNat]? = some s) (hn : n = k + 1) (h : s.color ≠ allC.getD p noS ∨ occ (l.take k.toNat) (allC.getD p noS) = true) : occ (l.take n.toNat) (allC.getD p noS) = occ (l.take k.toNat) (allC.getD p noS) := by
  rw [hn, occ_take _ h0 hs]
  rcases h with h | h
  · rw [bP_eq (b := false) ⟨fun h' => (by cases h'), fun h' => absurd h' h⟩]; simp
  · rw [h]; rfl
theorem colorsOf_ {rs : List (List AV)} {t : Bool} {l : List Scr} (hl : rs = l.map Scr.cs) : AC Tryz.prog 168 [.sl t 3 rs] AV.str (colsR l) := by
  refine ac Tryz.func168 (by kernel_rfl) (.str _) fun E K hE hK => ?_
  conv => cbv
  refine loopC hE (ι := Nat × ByteArray) [0, 8] [3] (fun q => (fun (p : Nat) (out : ByteArray) => [(3, .str out)]) q.1 q.2) (fun q => (fun (p : Nat) (out : ByteArray) => [.iter cAll p]) q.1 q.2) (fun q => (fun (p : Nat) (out : ByteArray) => ((4 - (p : Int))).toNat) q.1 q.2) (fun q => (fun (p : Nat) (out : ByteArray) => p ≤ 4 ∧ out = colsTo l p) q.1 q.2) [0] (by decide) ((0, noS)) (by conv => lhs; cbv) (by conv => lhs; cbv) rfl rfl (by dsimp only; exact ⟨by omega, rfl⟩) fun q hi Kn hN => ?_
  obtain ⟨p, out⟩ := q
  (try dsimp only at hi)
  conv => cbv
  obtain ⟨h0, hinv⟩ := hi
  refine nxtI hE (chr cAll) decode_cAll (fun q r n hp hq hr hn => ?_) (fun hp => ?_) <;> conv => cbv
  · have hp4 : p < 4 := hp
    have hsub := cAll_sub ⟨p, hp4⟩
    have hone := allC_one ⟨p, hp4⟩
    simp only at hsub hone
    have hmz := colsM_size l p
    refine lenL hE hl fun m hm hb => ?_
    conv => cbv
    repeat' first
      | ((refine loopC hE (ι := Int × ByteArray) [0, 4, 8, 12, 13] [14, 3] (fun q => (fun (k : Int) (out2 : ByteArray) => [(14, .int .i64 k), (3, .str out2)]) q.1 q.2) (fun q => (fun (k : Int) (out2 : ByteArray) => [.iter cAll n]) q.1 q.2) (fun q => (fun (k : Int) (out2 : ByteArray) => (m - k).toNat) q.1 q.2) (fun q => (fun (k : Int) (out2 : ByteArray) => (0 ≤ k ∧ k ≤ l.length) ∧ out2 = colsTo l p ++ fl (allC.getD p noS) (occ (l.take k.toNat) (allC.getD p noS))) q.1 q.2) [0] (by decide) ((0, out)) (by conv => lhs; cbv) (by conv => lhs; cbv) rfl rfl (by dsimp only; exact ⟨by omega, by rw [hinv]; exact cols_zero l p⟩) fun q hi2 Kn2 hN2 => ?_; obtain ⟨k, out2⟩ := q; (try dsimp only at hi2); conv => cbv); obtain ⟨h1, h2⟩ := hi2; have hz2 := hmz (occ (l.take k.toNat) (allC.getD p noS)); rw [← h2] at hz2)
      | (refine idxL (R := Scr.cs) hE hl (by omega) (fun v hv => ?_); obtain ⟨f, u, c⟩ := v; (try conv => cbv))
      | (refine ssub2 hE (by refine ⟨by omega, by omega, ?_⟩; show _ ≤ ((4 : Nat) : Int); omega) (fun c2 hc2 => ?_); (have hc3 : c2 = allC.getD p noS := by rw [hc2, ← hsub]; congr 1 <;> omega); clear hc2; (try conv => cbv))
      | (refine callB hE (containsV_ out2 c2 (by rw [hc3]; exact hone)) (fun hin => ?_) (fun hin => ?_) <;> (rw [h2, hc3, cols_has l hp4] at hin) <;> (try conv => cbv))
      | (refine scatI hE (by rw [hc3]; omega) (fun out3 hout3 _ => ?_); (try conv => cbv))
      | (refine hN (_, _) _ [0] (by decide) rfl ⟨?_, ?_⟩ ?_ <;> (try dsimp only))
      | (refine hN2 (_, _) _ [0] (by decide) rfl ⟨?_, ?_⟩ ?_ <;> (try dsimp only))
      | ((first
     | refine q0 hE ?_
     | refine B0 hE ?_|refine B1 hE (fun _=>?_) fun _=>?_|refine B3 hE fun _ _ _=>?_|refine B2 hE fun _ _=>?_|refine B4 hE fun _ _ _ _=>?_) <;> (try conv => cbv))
    all_goals (try clear hN)
    all_goals (try clear hN2)
    all_goals first
      | omega
      | (rename_i hk1; rw [hout3, hc3, h2]; exact cols_add h1.1 hv hk1 (by rw [← hc3]; assumption) hin)
      | (rename_i hk1; rw [cols_same h1.1 hv hk1 (.inr hin)]; exact h2)
      | (rename_i hk1; rw [cols_same h1.1 hv hk1 (.inl (by rw [← hc3]; assumption))]; exact h2)
      | (rw [h2, hn, List.take_of_length_le (by omega)]; rfl)
      | trace_state
  · have hp4 : ¬ p < 4 := hp
    exact hK _ (by rw [hinv, show p = 4 by omega]; rfl)
theorem l08Colors_ {rs : List (List AV)} {t : Bool} {l : List Scr} (hl : rs = l.map Scr.cs) : AC Tryz.prog 106 [.sl t 3 rs] AV.str (colsR l) := by
  refine ac Tryz.func106 (by kernel_rfl) (.str _) fun E K hE hK => ?_
  conv => cbv
  refine loopC hE (ι := Int × ByteArray) [0, 4] [5, 3] (fun q => (fun (i : Int) (out : ByteArray) => [(5, .int .i64 i), (3, .str out)]) q.1 q.2) (fun q => (fun (i : Int) (out : ByteArray) => [.row 1 (allC.map strR)]) q.1 q.2) (fun q => (fun (i : Int) (out : ByteArray) => (4 - i).toNat) q.1 q.2) (fun q => (fun (i : Int) (out : ByteArray) => (0 ≤ i ∧ i ≤ 4) ∧ out = colsTo l i.toNat) q.1 q.2) [0] (by decide) ((0, noS)) (by conv => lhs; cbv) (by conv => lhs; cbv) rfl rfl (by dsimp only; exact ⟨by omega, rfl⟩) fun q hi Kn hN => ?_
  obtain ⟨i, out⟩ := q
  (try dsimp only at hi)
  conv => cbv
  obtain ⟨h0, hinv⟩ := hi
  have hz := colsTo_size l i.toNat
  refine lenL (R := strR) (l := allC) hE (by rfl) fun n4 hn4 _ => ?_
  have hn5 : n4 = 4 := hn4
  conv => cbv
  refine ltI hE (fun hlt => ?_) (fun hge => ?_) <;> conv => cbv
  · have hi4 : i.toNat < 4 := by omega
    have hone := allC_one ⟨i.toNat, hi4⟩
    simp only at hone
    obtain ⟨cc, hcc⟩ : ∃ c, c = allC.getD i.toNat noS := ⟨_, rfl⟩
    have hv4 : allC[i.toNat]? = some cc := by
      rw [hcc, List.getD_eq_getElem?_getD, List.getElem?_eq_getElem (show i.toNat < allC.length from hi4)]; rfl
    have hstep : colsTo l (i + 1).toNat = colsTo l i.toNat ++ fl (allC.getD i.toNat noS) (occ l (allC.getD i.toNat noS)) := by rw [show (i + 1).toNat = i.toNat + 1 by omega]; rfl
    repeat' first
      | ((refine loopC hE (ι := Int × ByteArray) [0, 4, 5] [6, 3] (fun q => (fun (k : Int) (out2 : ByteArray) => [(6, .int .i64 k), (3, .str out2)]) q.1 q.2) (fun q => (fun (k : Int) (out2 : ByteArray) => [.row 1 (allC.map strR)]) q.1 q.2) (fun q => (fun (k : Int) (out2 : ByteArray) => (l.length - k).toNat) q.1 q.2) (fun q => (fun (k : Int) (out2 : ByteArray) => (0 ≤ k ∧ k ≤ l.length) ∧ out2 = out ∧ occ (l.take k.toNat) (allC.getD i.toNat noS) = false) q.1 q.2) [0] (by decide) ((0, out)) (by conv => lhs; cbv) (by conv => lhs; cbv) rfl rfl (by dsimp only; exact ⟨by omega, rfl, by rw [show (0 : Int).toNat = 0 from rfl, List.take_zero]; exact occ_nil _⟩) fun q hi2 Kn2 hN2 => ?_; obtain ⟨k, out2⟩ := q; (try dsimp only at hi2); conv => cbv); obtain ⟨h1, ho2, h2⟩ := hi2; (have hz2 : out2.size ≤ i.toNat := by rw [ho2, hinv]; exact hz))
      | (refine idxL (R := Scr.cs) hE hl (by omega) (fun v hv => ?_); obtain ⟨f, u, c⟩ := v; (try conv => cbv))
      | (refine idxV (R := strR) (l := allC) hE (by rfl) (by omega) hv4 ?_; (try conv => cbv))
      | (refine scatI hE (by rw [hcc]; omega) (fun out3 hout3 _ => ?_); (try conv => cbv))
      | (refine hN (_, _) _ [0] (by decide) rfl ⟨?_, ?_⟩ ?_ <;> (try dsimp only))
      | (refine hN2 (_, _) _ [0] (by decide) rfl ⟨?_, ?_, ?_⟩ ?_ <;> (try dsimp only))
      | ((first
     | refine q0 hE ?_
     | refine B0 hE ?_|refine B1 hE (fun _=>?_) fun _=>?_|refine B3 hE fun _ _ _=>?_|refine B2 hE fun _ _=>?_|refine B4 hE fun _ _ _ _=>?_) <;> (try conv => cbv))
    all_goals (try clear hN)
    all_goals (try clear hN2)
    all_goals first
      | omega
      | exact ho2
      | (rename_i hk1; rw [cols_same h1.1 hv hk1 (.inl (by rw [← hcc]; assumption))]; exact h2)
      | (rename_i hi1; rw [hi1, hstep, hout3, hcc, ho2, hinv]; congr 1; rw [occ, bP_eq (b := true) (by simp only [true_iff]; exact ⟨_, List.mem_of_getElem? hv, by rw [← hcc]; assumption⟩)]; rfl)
      | (rename_i hi1; rw [hi1, hstep, ho2, hinv]; rw [List.take_of_length_le (by omega)] at h2; rw [h2]; exact (cat_noS _).symm)
      | trace_state
  · exact hK _ (by rw [hinv, show i.toNat = 4 by omega]; rfl)
end Go.Proofs.YtoafgafkmeghlaaGreatDoor
