/- What an operation asks for is one value. -/
import Derived.Test.YtjenekakcoggpaaAxRun
namespace Go.Proofs.Ytjenekakcoggpaa
set_option linter.unusedVariables false
set_option linter.unusedSimpArgs false
open Go Go.RowKit

section
variable {P : Program} {np : Nat} {L : Lay} {W : WM} {w w' : World} {A : Nat → Prop} {os os' : List Obj} {hd hd' : Nat → Value} {F F' : Nat → Nat → Prop} {s : AS} {a : Act}

theorem ofCells_pick {t : TypeId} {cs : List AV} {K : AV → Prop} (hk : ofCells L t cs K) : ∃ x, K x ∧ ofCells L t cs (· = x) := by
  unfold ofCells at hk ⊢
  generalize (L.ty t).d = d at hk ⊢
  generalize (L.ty t).agg = g at hk ⊢
  cases g
  · cases d <;> cases cs <;> first | exact hk.elim | exact ⟨_, hk, rfl⟩
  · cases d <;> simp only at hk ⊢ <;> first | exact hk.elim | (split at hk <;> first | exact hk.elim | (rename_i h; exact ⟨_, hk, by simp only [h, if_true]⟩))

theorem abin_pick {op : BinOp} {t : TypeId} {x y : AV} {K : AV → Prop} (hk : abin (stdE np P) L op t x y K) : ∃ x', K x' ∧ abin (stdE np P) L op t x y (· = x') := by
  unfold abin at hk
  split at hk
  · rename_i k n k' m
    simp only [abin]
    split at hk
    · exact ⟨_, hk.2, hk.1, rfl⟩
    rename_i hop
    split at hk
    · rename_i e
      subst e
      simp only [if_true]
      unfold abinInt at hk ⊢
      cases op <;> first | exact (hop rfl).elim | skip
      all_goals first | exact hk.elim | exact ⟨_, hk, rfl⟩ | exact ⟨_, hk.2, hk.1, rfl⟩
    · exact hk.elim
  · simp only [abin]
    unfold abinStr at hk ⊢
    cases op <;> first | exact hk.elim | exact ⟨_, hk, rfl⟩ | exact ⟨_, hk.2, hk.1, rfl⟩
  · simp only [abin]
    generalize (L.ty t).d = d at hk ⊢
    cases d <;> cases op <;> first | exact hk.elim | exact ⟨_, hk, rfl⟩
  · exact hk.elim

theorem aval_pick (hw : CW W w A s.os hd F) {op : Op} (hx : ∀ y ∈ op.operands, SRel w A s.os hd (s.get y) (a.eval y)) {K : AV → Prop} (hk : aval (stdE np P) L s op K) : ∃ x, K x ∧ aval (stdE np P) L s op (· = x) := by
  cases op
  case move x => exact ⟨_, hk, rfl⟩
  case assign x => exact ⟨_, hk, rfl⟩
  case binOp => exact abin_pick hk
  case pick c x y =>
    simp only [aval] at hk ⊢
    split at hk
    · rename_i b e
      split at hk
      · rename_i hb; exact ⟨_, hk, by simp only [hb, if_true]⟩
      · rename_i hb; exact ⟨_, hk, by rw [if_neg hb]⟩
    · exact hk.elim
  case unOp o t x =>
    cases o <;> simp only [aval] at hk ⊢ <;> first | exact hk.elim | (split at hk <;> first | exact hk.elim | exact ⟨_, hk, rfl⟩)
  case nilCheck x =>
    simp only [aval] at hk ⊢
    split at hk
    · exact ⟨_, hk, rfl⟩
    · split at hk
      · rename_i e; exact ⟨_, hk, rfl⟩
      · exact hk.elim
    · split at hk
      · rename_i e; exact ⟨_, hk, rfl⟩
      · exact hk.elim
    · exact hk.elim
  case load t x =>
    simp only [aval] at hk ⊢
    split at hk
    · exact ofCells_pick hk
    · split at hk
      · exact ofCells_pick hk
      · exact hk.elim
    · split at hk
      · rename_i e
        obtain ⟨h0, r, hr, hk⟩ := hk
        split at hk
        · rename_i hfl
          obtain ⟨x', h1, h2⟩ := ofCells_pick hk
          exact ⟨x', h1, ⟨h0, r, hr, by simp only [hfl, if_true]; exact h2⟩⟩
        · exact hk.elim
      · exact hk.elim
    · exact hk.elim
  case fieldAddr t x f =>
    simp only [aval] at hk ⊢
    split at hk
    · rename_i h1 h2; exact ⟨_, hk, by simp only⟩
    · split at hk
      · rename_i e; exact ⟨_, hk, rfl⟩
      · exact hk.elim
    · split at hk
      · rename_i e; exact ⟨_, hk, rfl⟩
      · exact hk.elim
    · exact hk.elim
  case field t x f =>
    simp only [aval] at hk ⊢
    split at hk
    · exact ofCells_pick hk
    · exact hk.elim
  case indexAddr t x ix =>
    simp only [aval] at hk ⊢
    split at hk
    · split at hk
      · rename_i e
        obtain ⟨h0, r, hr, hk⟩ := hk
        exact ⟨_, hk, by simp only [e, if_true]; exact ⟨h0, r, hr, rfl⟩⟩
      · exact hk.elim
    · split at hk
      · rename_i e
        split at hk
        · rename_i e2
          obtain ⟨h0, r, hr, hk⟩ := hk
          exact ⟨_, hk, by rw [if_pos e2]; exact ⟨h0, r, hr, rfl⟩⟩
        · exact hk.elim
      · exact hk.elim
    · exact hk.elim
  case index t x ix =>
    simp only [aval] at hk ⊢
    split at hk
    · split at hk
      · rename_i e
        obtain ⟨h0, hr, hk⟩ := hk
        exact ⟨_, hk, by simp only [e, if_true]; exact ⟨h0, hr, rfl⟩⟩
      · exact hk.elim
    · exact hk.elim
  case extract x i =>
    simp only [aval] at hk ⊢
    split at hk
    · split at hk
      · rename_i e; exact ⟨_, hk, rfl⟩
      · exact hk.elim
    · exact hk.elim
  case convert src dst x =>
    simp only [aval] at hk ⊢
    split at hk
    · exact ⟨_, hk, rfl⟩
    · split at hk
      · rename_i hu; obtain ⟨ns, h1, h2⟩ := hk; exact ⟨_, h2, by rw [if_pos hu]; exact ⟨ns, h1, rfl⟩⟩
      · exact hk.elim
    · split at hk
      · rename_i ho
        split at hk
        · rename_i hu; obtain ⟨ns, h1, h2⟩ := hk; exact ⟨_, h2, by rw [if_pos hu]; exact ⟨ns, h1, rfl⟩⟩
        · exact hk.elim
      · exact hk.elim
    · exact hk.elim
  case makeFunc f first captured =>
    cases f <;> simp only [aval] at hk ⊢ <;> first | exact hk.elim | (split at hk <;> first | exact hk.elim | exact ⟨_, hk, rfl⟩ | (split at hk <;> first | exact hk.elim | (split at hk <;> first | exact hk.elim | exact ⟨_, hk, by simp only [*]⟩)))
  case slice t x lo hi mx =>
    cases mx with
    | some m =>
      simp only [aval] at hk ⊢
      split at hk
      · rename_i g1 g2 g3 g4
        split at hk
        · rename_i e
          split at hk
          · rename_i e2
            obtain ⟨h0, h1, h2, h0', h1', h2', hk⟩ := hk
            exact ⟨_, hk, by rw [if_pos e2]; exact ⟨h0, h1, h2, h0', h1', h2', rfl⟩⟩
          · exact hk.elim
        · exact hk.elim
      · exact hk.elim
    | none =>
      simp only [aval] at hk ⊢
      split at hk
      · split at hk
        · rename_i e
          obtain ⟨h0, h1, h2, hk⟩ := hk
          exact ⟨_, hk, by simp only [e, if_true]; exact ⟨h0, h1, h2, rfl⟩⟩
        · exact hk.elim
      · split at hk
        · rename_i e
          obtain ⟨h0, h1, h2, hk⟩ := hk
          exact ⟨_, hk, by simp only [e, if_true]; exact ⟨h0, h1, h2, rfl⟩⟩
        · exact hk.elim
      · split at hk
        · rename_i e
          split at hk
          · rename_i e2
            obtain ⟨h0, h1, h2, hk⟩ := hk
            exact ⟨_, hk, by rw [if_pos e2]; exact ⟨h0, h1, h2, rfl⟩⟩
          · exact hk.elim
        · exact hk.elim
      · split at hk
        · rename_i e
          split at hk
          · rename_i e2
            obtain ⟨h0, h1, h2, hk⟩ := hk
            exact ⟨_, hk, by rw [if_pos e2]; exact ⟨h0, h1, h2, rfl⟩⟩
          · exact hk.elim
        · exact hk.elim
      · split at hk
        · rename_i e
          split at hk
          · rename_i e2
            have hb := (hw.rel_row e).sl_len.choose_spec.choose_spec.2.1
            obtain ⟨h0, h1, h2, hk⟩ := hk hb
            exact ⟨_, hk, by simp only [e2, if_true]; exact fun _ => ⟨h0, h1, h2, rfl⟩⟩
          · exact hk.elim
        · exact hk.elim
      · split at hk
        · rename_i e
          split at hk
          · rename_i ez
            split at hk
            · rename_i e2
              obtain ⟨h0, h1, h2, hk⟩ := hk
              exact ⟨_, hk, by rw [if_pos ez, if_pos e2]; exact ⟨h0, h1, h2, rfl⟩⟩
            · exact hk.elim
          · exact hk.elim
        · exact hk.elim
      · exact hk.elim
  case call c =>
    simp only [aval] at hk ⊢
    split at hk
    · split at hk
      · rename_i x t hxs hts
        have hm : SRel w A s.os hd (s.get x) (a.eval x) := hx x (by
          simp only [Op.operands, Call.operands]
          have : x ∈ c.args := by rw [← Array.mem_toList_iff, hxs]; simp
          simp [this])
        split at hk
        · rename_i e; rw [e] at hm
          have hb := hm.sl_inv.sl_len.choose_spec.choose_spec.2.1
          exact ⟨_, hk hb, fun _ => rfl⟩
        · exact ⟨_, hk, rfl⟩
        · split at hk
          · rename_i e
            have hb := (hw.rel_row e).sl_len.choose_spec.choose_spec.2.1
            exact ⟨_, hk hb, by exact fun _ => rfl⟩
          · exact hk.elim
        · split at hk
          · rename_i e; exact ⟨_, hk, rfl⟩
          · exact hk.elim
        · rename_i e; rw [e] at hm
          exact ⟨_, hk hm.str_inv.2, fun _ => rfl⟩
        · exact hk.elim
      · exact hk.elim
    · split at hk
      · rename_i hxs
        split at hk
        · exact ⟨_, hk, rfl⟩
        · exact hk.elim
      · exact hk.elim
    · split at hk
      · rename_i hxs
        split at hk
        · exact ⟨_, hk, rfl⟩
        · exact hk.elim
      · exact hk.elim
    · exact hk.elim
  all_goals exact hk.elim
end
end Go.Proofs.Ytjenekakcoggpaa
