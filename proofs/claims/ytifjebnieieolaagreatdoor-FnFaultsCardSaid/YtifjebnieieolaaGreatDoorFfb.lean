/- Contracts: a fault is reported; the law. -/
import Derived.Test.YtifjebnieieolaaGreatDoorFfa
import Derived.Test.YtifjebnieieolaaGreatDoorFso
namespace Go.Proofs.YtifjebnieieolaaGreatDoor
open Go Go.RowKit Go.Sort Classical
set_option maxRecDepth 100000
set_option maxHeartbeats 2000000
set_option linter.unusedVariables false
set_option linter.unusedSimpArgs false
theorem upM {α : Type} {l : List α} {p : α → Prop} {i n : Int} {v : α} (h : Up (fun j => ∀ w, l[j]? = some w → p w) i) (hv : l[i.toNat]? = some v) (hp : p v) (hn : n = i + 1) : Up (fun j => ∀ w, l[j]? = some w → p w) n := h.succ (fun w hw => by rw [hv] at hw; cases hw; exact hp) hn
theorem upZ {α : Type} {l : List α} {p : α → Prop} {i : Int} (h : Up (fun j => ∀ w, l[j]? = some w → ¬ p w) i) (hi : l.length ≤ i) : ¬ ∃ w ∈ l, p w := fun ⟨w, hw, hp⟩ => by
  obtain ⟨j, hj⟩ := List.getElem?_of_mem hw
  have := (List.getElem?_eq_some_iff.1 hj).1
  exact h j (by omega) w hj hp
def fauLI (p : List Fau × Int) : AV := .tup [.sl true 4 (p.1.map Fau.cs), .int .i64 p.2]
theorem NoB.fauLI (p : List Fau × Int) : NoB (fauLI p) := .tupC (.rows .oFau) (.tupC (.int _ _) .tup0)
theorem faus_pw {l : List Fau} (h : FaultsOk l) : l.Pairwise Fau.less := chain_pw Fau.less_tr fun i a b ha hb => by
  obtain ⟨v, h1, _, h2, _⟩ := h.1 (i + 1) (List.getElem?_eq_some_iff.1 hb).1
  rw [hb] at h1; cases h1
  obtain ⟨w, hw, hl⟩ := h2 (by omega)
  rw [Nat.add_sub_cancel, ha] at hw; cases hw; exact hl
theorem fau_ok_end {v : Fau} (h : v.ok) : v.frm < v.end_ ∧ 0 ≤ v.frm ∧ v.frm ≤ 143999999 ∧ v.end_ ≤ 144000000 := by
  unfold Fau.ok TimeOk at h
  unfold Fau.end_
  split <;> omega
theorem fau_apart {v w : Fau} (hv : v.ok) (hw : w.ok) (h : ¬ v.meets w) : w.less v ∨ v.less w := by
  have h1 := fau_ok_end hv
  have h2 := fau_ok_end hw
  unfold Fau.meets at h
  unfold Fau.less
  omega
theorem fau_open {a k t : Int} {w : Fau} (hv : Fau.ok ⟨a, k, t, -1⟩) (hw : w.ok) : Fau.meets ⟨a, k, t, -1⟩ w ↔ w.aid = a ∧ w.kind = k ∧ t < w.end_ := by
  have h1 := fau_ok_end hv
  have h2 := fau_ok_end hw
  have e : Fau.end_ ⟨a, k, t, -1⟩ = 144000000 := rfl
  unfold Fau.meets
  rw [e] at *
  simp only at *
  omega
noncomputable def repR (l : List Fau) (a k t : Int) : List Fau × Int := if FaultsOk l then (if Fau.ok ⟨a, k, t, -1⟩ then (if ∃ w ∈ l, Fau.meets ⟨a, k, t, -1⟩ w then ([], 4) else (if l.length = 48 then ([], 5) else (insF (fun w => w.less ⟨a, k, t, -1⟩) l ⟨a, k, t, -1⟩, 0))) else ([], 2)) else ([], 1)
theorem repR_len (l : List Fau) (a k t : Int) : (repR l a k t).1.length ≤ l.length + 1 := by
  unfold repR
  split
  · split
    · split
      · simp
      · split
        · simp
        · exact Nat.le_of_eq (insF_len _ _ _)
    · simp
  · simp
theorem rep_none {l : List Fau} {a k t i : Int} (hok : FaultsOk l) (hv : Fau.ok ⟨a, k, t, -1⟩) (h : Up (fun j => ∀ w, l[j]? = some w → ¬ (w.aid = a ∧ w.kind = k ∧ t < w.end_)) i) (hi : l.length ≤ i) : ¬ ∃ w ∈ l, Fau.meets ⟨a, k, t, -1⟩ w := fun ⟨w, hw, hm⟩ =>
  upZ h hi ⟨w, hw, (fau_open hv (hok.all w hw)).1 hm⟩
theorem sReportFault_ {rs : List (List AV)} {b : Bool} {l : List Fau} (a k t : Int) (hl : rs = l.map Fau.cs) : AC Tryz.prog 59 [.sl b 4 rs, .int .i64 a, .int .i64 k, .int .i64 t] fauLI (repR l a k t) := by
  refine ac Tryz.func59 (by kernel_rfl) (.fauLI _) fun E K hE hK => ?_
  conv => cbv
  refine callP hE (l20Ok_ hl) (fun hok => ?_) (fun hok => ?_) <;> conv => cbv
  · have h48 := hok.2
    refine callP hE (l20One_ _ _ _ _) (fun hv => ?_) (fun hv => ?_) <;> conv => cbv
    · refine loopC hE (ι := Int) [0, 1, 2, 3, 10] [11] (fun q => (fun (i : Int) => [(11, .int .i64 i)]) q) (fun q => (fun (i : Int) => [.box [.int .i64 a, .int .i64 k, .int .i64 t, .int .i64 (-1)]]) q) (fun q => (fun (i : Int) => (l.length - i).toNat) q) (fun q => (fun (i : Int) => (0 ≤ i ∧ i ≤ l.length) ∧ Up (fun j => ∀ w, l[j]? = some w → ¬ (w.aid = a ∧ w.kind = k ∧ t < w.end_)) i) q) [0] (by decide) (0) (by conv => lhs; cbv) (by conv => lhs; cbv) rfl rfl (by dsimp only; exact ⟨by omega, .zero (by omega)⟩) fun i hi Kn hN => ?_
      (try dsimp only at hi)
      conv => cbv
      obtain ⟨⟨h0, h1⟩, hinv⟩ := hi
      repeat' first
        | (refine idxV hE hl (by omega) (by assumption) ?_; (try conv => cbv))
        | (refine idxL hE hl (by omega) (fun v hv2 => ?_); obtain ⟨aid, kind, frm, til⟩ := v; (try conv => cbv))
        | (refine hN _ _ [0] (by decide) rfl ⟨?_, ?_⟩ ?_ <;> (try dsimp only))
        | ((refine loopC hE (ι := Int) [0, 10] [12] (fun q => (fun (m : Int) => [(12, .int .i64 m)]) q) (fun q => (fun (m : Int) => [.box [.int .i64 a, .int .i64 k, .int .i64 t, .int .i64 (-1)]]) q) (fun q => (fun (m : Int) => (l.length - m).toNat) q) (fun q => (fun (m : Int) => (0 ≤ m ∧ m ≤ l.length) ∧ Up (fun j => ∀ w, l[j]? = some w → w.less ⟨a, k, t, -1⟩) m) q) [0] (by decide) (0) (by conv => lhs; cbv) (by conv => lhs; cbv) rfl rfl (by dsimp only; exact ⟨by omega, .zero (by omega)⟩) fun m hi2 Kn2 hN2 => ?_; (try dsimp only at hi2); conv => cbv); obtain ⟨⟨k0, k1⟩, kinv⟩ := hi2)
        | (refine hN2 _ _ [0] (by decide) rfl ⟨?_, ?_⟩ ?_ <;> (try dsimp only))
        | ((first
       | refine q0 hE ?_
       | refine callI hE (l20End_ _ _ _ _) (fun _ _ => ?_)
       | refine callP hE (l20Less_ _ _ _ _ _ _ _ _) (fun _ => ?_) (fun _ => ?_)
       | refine subL hE hl (by simp only [Option.getD_some, Option.getD_none]; omega) (fun _ _ => ?_)
       | refine cat0L hE (R := Fau.cs) (by assumption) (by simp only [List.length_take, List.length_drop]; omega) (fun _ _ => ?_)
       | refine catP hE (R := Fau.cs) (v := (⟨_, _, _, _⟩ : Fau)) (by assumption) rfl (by simp only [List.length_append, List.length_take, List.length_drop, List.length_cons, List.length_nil]; omega) (fun _ _ => ?_)
       | refine catL hE (R := Fau.cs) (by assumption) (by assumption) (by simp only [List.length_append, List.length_take, List.length_drop, List.length_cons, List.length_nil]; omega) (fun _ _ => ?_)
       | refine noownI hE (by first | (simp [AV.isOwn]; done) | (subst_vars; exact Fau.nown _)) ?_
       | refine nilOwnI hE 4 ?_
       | refine B0 hE ?_|refine B1 hE (fun _=>?_) fun _=>?_|refine B3 hE fun _ _ _=>?_|refine B2 hE fun _ _=>?_|refine B4 hE fun _ _ _ _=>?_) <;> (try conv => cbv))
      all_goals (try clear hN)
      all_goals (try clear hN2)
      all_goals first
        | omega
        | exact upM hinv hv2 (by simp only; omega) (by assumption)
        | (refine hK _ ?_; rw [repR, if_pos hok, if_pos hv, if_pos ⟨_, List.mem_of_getElem? hv2, (fau_open hv (hok.all _ (List.mem_of_getElem? hv2))).2 ⟨by assumption, by assumption, by omega⟩⟩]; rfl)
        | (refine hK _ ?_; rw [repR, if_pos hok, if_pos hv, if_neg (rep_none hok hv hinv (by omega)), if_pos (by omega)]; rfl)
        | exact upM kinv (by assumption) (by assumption) (by assumption)
        | (refine hK _ ?_; rw [repR, if_pos hok, if_pos hv, if_neg (rep_none hok hv hinv (by omega)), if_neg (by omega), insF_eq ⟨k0, k1⟩ kinv (by intro w hw; first | (have := (List.getElem?_eq_some_iff.1 hw).1; omega) | (rw [hv2] at hw; cases hw; assumption))]; subst_vars; simp [fauLI, atup]; done)
        | trace_state
    · refine nilOwnI hE 4 ?_
      conv => cbv
      refine hK _ ?_
      rw [repR, if_pos hok, if_neg hv]; rfl
  · refine nilOwnI hE 4 ?_
    conv => cbv
    refine hK _ ?_
    rw [repR, if_neg hok]; rfl
end Go.Proofs.YtifjebnieieolaaGreatDoor
