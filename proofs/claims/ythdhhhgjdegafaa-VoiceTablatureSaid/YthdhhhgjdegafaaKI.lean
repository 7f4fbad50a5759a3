/-
  What is proved here serves the law's text: each part says its own claim and its conditions. No condition is left open.
-/
import Derived.Test.YthdhhhgjdegafaaKH
set_option linter.unusedSimpArgs false
set_option linter.unusedVariables false

namespace Go.Ab
section
variable {ti : TI} {ε : Nat → Nat}
end
end Go.Ab
