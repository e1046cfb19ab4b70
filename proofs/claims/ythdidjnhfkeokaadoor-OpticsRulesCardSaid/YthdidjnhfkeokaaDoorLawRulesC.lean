/-
  The row's cells of the law OpticsRules are the program's own: closed facts alone.
-/
import Derived.Test.YthdidjnhfkeokaaDoorRows
import Derived.JoinedOf
import Derived.KernelRfl
namespace Go.Proofs.YthdidjnhfkeokaaDoor.opticsRules
open Go.ChangeShapes Go.WideShapes

set_option maxHeartbeats 6400000 in
/-- The row's cells are the program's own: one closed fact after the other. -/
theorem closed : joinedFacts Tryd.pinned.checked.prog 7 Tryd.f7 Rows.opticsRulesSpec Rows.opticsRulesRow = true := by
  unfold joinedFacts
  repeat' (with_reducible refine Bool.and_eq_true_iff.2 ⟨?_, ?_⟩)
  all_goals (as_aux_lemma => kernel_rfl)

end Go.Proofs.YthdidjnhfkeokaaDoor.opticsRules
