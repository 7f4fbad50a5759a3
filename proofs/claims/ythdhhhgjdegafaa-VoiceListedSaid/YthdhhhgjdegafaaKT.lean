/-
  What is proved here serves the law's text: each part says its own claim and its conditions. No condition is left open.
-/
import Derived.Test.YthdhhhgjdegafaaKO
import Derived.Test.YthdhhhgjdegafaaKS
set_option linter.unusedSimpArgs false
set_option linter.unusedVariables false

namespace Go.Ab
theorem optO {o : Option AObj} {ep : Nat} {rows : List (List AV)} {P : Nat → List (List AV) → Prop} (h : o = some (.vec ep rows)) (hk : P ep rows) : (match (generalizing := false) o with | some (.vec ep' rows) => P ep' rows | _ => False) := by
 subst h; exact hk
end Go.Ab
