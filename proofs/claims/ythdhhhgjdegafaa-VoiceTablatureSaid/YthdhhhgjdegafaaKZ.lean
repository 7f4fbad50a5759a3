/-
  What is proved here serves the law's text: each part says its own claim and its conditions. No condition is left open.
-/
import Derived.Test.YthdhhhgjdegafaaKX
import Derived.Test.YthdhhhgjdegafaaKY
set_option linter.unusedSimpArgs false
set_option linter.unusedVariables false

namespace Go.Ab.V
open Go.Proofs
theorem fcS_flat {n : Nat} {R rows : List (List AV)} (h : ∀ r ∈ rows, r.all noS = true) : rows.map (fun r : List AV => r.map (fcS n R)) = rows := by
 conv => rhs; rw [← List.map_id rows]
 refine List.map_congr_left fun r hr => ?_
 conv => rhs; rw [id, ← List.map_id r]
 exact List.map_congr_left fun a ha => fcS_no (List.all_eq_true.1 (h r hr) a ha)
end Go.Ab.V
