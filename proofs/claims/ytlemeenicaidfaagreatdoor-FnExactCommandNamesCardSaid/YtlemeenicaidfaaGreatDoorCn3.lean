/- Contracts: the names of commands; the law. -/
import Derived.Test.YtlemeenicaidfaaGreatDoorCn2
import Derived.Test.YtlemeenicaidfaaGreatDoorCnx
import Derived.Test.YtlemeenicaidfaaGreatDoorFs
namespace Go.Proofs.YtlemeenicaidfaaGreatDoor
open Go Go.RowKit Go.Sort Go.Proofs Classical
set_option maxRecDepth 100000
set_option maxHeartbeats 2000000
set_option linter.unusedVariables false
set_option linter.unusedSimpArgs false
def cmdB : List ByteArray := cmdN.map fun s => ⟨s.toArray⟩
theorem frz_oldC {w w' : World} (h : ∀ x, x < w.heap.size → w'.heap[x]? = w.heap[x]?) (a : Addr) (ha : a.block < w.heap.size) : w'.frozen? a = w.frozen? a := by
  unfold World.frozen?
  rw [h _ ha]
theorem below_keepsB [St] {w w' : World} (h : Below w.heap.size w w') (hd : DrawLe w w') : Keeps (fun _ => False) w w' :=
  ⟨h.os, h.tape, h.output, h.size, fun x hx _ => h.block x hx, fun a ha => frz_oldC h.block a ha, hd⟩
theorem commandNames_ [St] (hS : ¬ St.S) : AC Tryz.prog 5 [] (fun l : List ByteArray => .sl true 1 (l.map strR)) cmdB :=
  ⟨fun xs w => enters_go Tryz.func5 (by kernel_rfl) rfl xs w, fun w vs _ hr => by
    obtain rfl : vs = #[] := Array.eq_empty_of_size_eq_zero hr.1
    refine (names_calls sortC w).mono ?_
    rintro e w' ⟨g, cap, rfl, h1, h2⟩
    obtain ⟨a1, a2, a3⟩ := row_xrel (l := cmdB) h1 (by decide) (by unfold cmdB; rw [List.map_map]; rfl) (by decide +kernel) (by decide)
    exact ⟨_, _, rfl, below_keepsB h2 (dle hS _ _), a1, fun b hb => by cases hb; exact ⟨a2, a3⟩⟩⟩
theorem sCommandNames_ [St] : AP 4 [] (fun l : List ByteArray => .sl true 1 (l.map strR)) cmdB := by
  refine ac Tryz.func4 (.strs _) fun E K hE hK => ?_
  exact hK _ rfl
theorem lawCommandNames [St] (hS : ¬ St.S) : AP 3 [] id (.bool true) := by
  refine a0 Tryz.func3 fun E K hE hK => ?_
  have hlen : cmdB.length ≤ 1000 := by decide
  repeat' first
    | ((first
   | (refine callMI (markStringS_ _ (by assumption) (by omega) (by omega)) ?_; rintro _ _ ⟨n, rs', hn, hrs', rfl, rfl⟩)
   | refine callR sCommandNames_ (fun _ _ => ?_)
   | refine callR (commandNames_ hS) (fun _ _ => ?_)
   | refine callPT (eqStringS_ (by assumption) (by assumption)) rfl ?_
   | refine sameI (by subst_vars; simp [strMks_len]) ?_
   | refine callI (heldStringS_ _ (by assumption) (by omega) (by omega)) (fun _ _ => ?_)
   | refine B0 ?_|refine B1 ?_ ?_) <;> intros <;> (try conv => cbv))
  all_goals first
    | exact hK _ rfl
    | omega
    | trace_state
end Go.Proofs.YtlemeenicaidfaaGreatDoor
