/-
  What is proved here serves the law's text: each part says its own claim and its conditions. No condition is left open.
-/
import Derived.Test.YtchkiolagohnlaaGreatKN
import Derived.Test.YtchkiolagohnlaaGreatKO
set_option linter.unusedSimpArgs false
set_option linter.unusedVariables false

/-
  Notes as plain data. No condition.
-/
namespace Go.Ab.V
open Go.Proofs

/-- a note -/
structure Nt where
  e : Int
  c : Int
  p : Int
  f : Int
  t : Int
def ntR (x : Nt) : List AV := [.int .i64 x.e, .int .i64 x.c, .int .i64 x.p, .int .i64 x.f, .int .i64 x.t]
def ntsA (l : List Nt) : AV := .lslc 5 (l.map ntR) 0 l.length false
end Go.Ab.V
