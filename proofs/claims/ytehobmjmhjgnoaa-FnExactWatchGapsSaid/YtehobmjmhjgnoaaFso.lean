/- Plain laws: sorting and insertion. -/
import Derived.Test.YtehobmjmhjgnoaaFdl
import Derived.Test.YtehobmjmhjgnoaaFsp
import Derived.Test.YtehobmjmhjgnoaaAxSortO
import Derived.Test.YtehobmjmhjgnoaaShelf
namespace Go.Proofs.Ytehobmjmhjgnoaa
open Go Go.RowKit Go.Sort Classical
set_option maxRecDepth 100000
set_option maxHeartbeats 2000000
set_option linter.unusedVariables false
set_option linter.unusedSimpArgs false
/-- What a sort leaves of a list whose members a strict order sets apart. -/
theorem strict_uniq {α : Type} {R : α → α → Prop} (tr : ∀ x y z, R x y → R y z → R x z) (ir : ∀ x, ¬ R x x) {m t : List α} (hp : m.Perm t) (ht : t.Pairwise R) (hm : m.Pairwise fun x y => ¬ R y x) : m = t := by
  refine sorted_uniq hp (fun x hx y hy h1 h2 => ?_) hm (ht.imp fun h1 h2 => ir _ (tr _ _ _ h1 h2))
  rcases pw_tri ht (hp.subset hx) (hp.subset hy) with h | h | h
  · exact h
  · exact absurd h h2
  · exact absurd h h1
end Go.Proofs.Ytehobmjmhjgnoaa
