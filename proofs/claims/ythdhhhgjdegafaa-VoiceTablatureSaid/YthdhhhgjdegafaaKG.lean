/-
  What is proved here serves the law's text: each part says its own claim and its conditions. No condition is left open.
-/
import Derived.Test.YthdhhhgjdegafaaKF
set_option linter.unusedSimpArgs false
set_option linter.unusedVariables false

namespace Go.Ab
section
variable {C : Ctx} {fr : List AV} {h : Heap} {K : AE → List AV → Heap → Prop}
end
end Go.Ab
