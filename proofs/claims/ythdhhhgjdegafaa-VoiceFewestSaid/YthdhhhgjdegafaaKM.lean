/-
  What is proved here serves the law's text: each part says its own claim and its conditions. No condition is left open.
-/
import Derived.Test.YthdhhhgjdegafaaChecked
import Derived.KernelRfl
import Derived.Eval
import Derived.Test.YthdhhhgjdegafaaKL
set_option linter.unusedSimpArgs false
set_option linter.unusedVariables false

/-
  The program of this seat as a context: its table of types, its functions. No condition.
-/
namespace Go.Ab.V
open Go.Proofs

def tab : List (Option TD) := [none,
  some ⟨.func, 1, 8, [.nilf], false, false⟩,
  some ⟨.int .i64, 1, 8, [.int .i64 0], false, false⟩,
  some ⟨.int .i64, 1, 8, [.int .i64 0], false, false⟩,
  some ⟨.bool, 1, 1, [.bool false], false, false⟩,
  some ⟨.int .u8, 1, 1, [.int .u8 0], false, false⟩,
  some ⟨.int .u8, 1, 1, [.int .u8 0], false, false⟩,
  some ⟨.struct [(0, 2), (1, 3), (2, 4), (3, 6)], 4, 24, [.int .i64 0, .int .i64 0, .bool false, .int .u8 0], true, true⟩,
  some ⟨.struct [(0, 2), (1, 3), (2, 4), (3, 6)], 4, 24, [.int .i64 0, .int .i64 0, .bool false, .int .u8 0], true, false⟩,
  some ⟨.str, 1, 16, [.str .empty], false, false⟩,
  some ⟨.str, 1, 16, [.str .empty], false, false⟩,
  some ⟨.str, 1, 16, [.str .empty], false, false⟩,
  some ⟨.int .u64, 1, 8, [.int .u64 0], false, false⟩,
  some ⟨.struct [(0, 9), (1, 12)], 2, 24, [.str .empty, .int .u64 0], false, false⟩,
  some ⟨.struct [(0, 9), (1, 12)], 2, 24, [.str .empty, .int .u64 0], false, false⟩,
  some ⟨.ptr, 1, 8, [.nilp], false, false⟩,
  some ⟨.ptr, 1, 8, [.nilp], false, false⟩,
  some ⟨.ptr, 1, 8, [.nilp], false, false⟩,
  some ⟨.struct [(0, 17)], 1, 8, [.nilp], false, false⟩,
  some ⟨.struct [(0, 17)], 1, 8, [.nilp], false, false⟩,
  none,
  some ⟨.int .i32, 1, 4, [.int .i32 0], false, false⟩,
  some ⟨.slice 3, 1, 24, [.nils], false, false⟩,
  some ⟨.struct [(0, 22), (1, 22), (2, 3), (3, 3), (4, 3)], 5, 72, [.nils, .nils, .int .i64 0, .int .i64 0, .int .i64 0], false, false⟩,
  some ⟨.struct [(0, 22), (1, 22), (2, 3), (3, 3), (4, 3)], 5, 72, [.nils, .nils, .int .i64 0, .int .i64 0, .int .i64 0], false, false⟩,
  some ⟨.slice 48, 1, 24, [.nils], false, false⟩,
  some ⟨.struct [(0, 24), (5, 25)], 6, 96, [.nils, .nils, .int .i64 0, .int .i64 0, .int .i64 0, .nils], false, false⟩,
  some ⟨.struct [(0, 24), (5, 25)], 6, 96, [.nils, .nils, .int .i64 0, .int .i64 0, .int .i64 0, .nils], false, false⟩,
  some ⟨.func, 1, 8, [.nilf], false, false⟩,
  some ⟨.func, 1, 8, [.nilf], false, false⟩,
  some ⟨.slice 36, 1, 24, [.nils], false, false⟩,
  some ⟨.int .i64, 1, 8, [.int .i64 0], false, false⟩,
  none,
  some ⟨.func, 1, 8, [.nilf], false, false⟩,
  some ⟨.func, 1, 8, [.nilf], false, false⟩,
  some ⟨.struct [(0, 22), (1, 3), (2, 3)], 3, 40, [.nils, .int .i64 0, .int .i64 0], false, false⟩,
  some ⟨.struct [(0, 22), (1, 3), (2, 3)], 3, 40, [.nils, .int .i64 0, .int .i64 0], false, false⟩,
  none,
  some ⟨.func, 1, 8, [.nilf], false, false⟩,
  some ⟨.func, 1, 8, [.nilf], false, false⟩,
  none,
  some ⟨.func, 1, 8, [.nilf], false, false⟩,
  some ⟨.func, 1, 8, [.nilf], false, false⟩,
  some ⟨.func, 1, 8, [.nilf], false, false⟩,
  some ⟨.func, 1, 8, [.nilf], false, false⟩,
  some ⟨.func, 1, 8, [.nilf], false, false⟩,
  some ⟨.func, 1, 8, [.nilf], false, false⟩,
  some ⟨.struct [(0, 3), (1, 3), (2, 3), (3, 3), (4, 3)], 5, 40, [.int .i64 0, .int .i64 0, .int .i64 0, .int .i64 0, .int .i64 0], true, true⟩,
  some ⟨.struct [(0, 3), (1, 3), (2, 3), (3, 3), (4, 3)], 5, 40, [.int .i64 0, .int .i64 0, .int .i64 0, .int .i64 0, .int .i64 0], true, true⟩,
  none,
  some ⟨.func, 1, 8, [.nilf], false, false⟩,
  some ⟨.func, 1, 8, [.nilf], false, false⟩,
  none,
  some ⟨.func, 1, 8, [.nilf], false, false⟩,
  some ⟨.int .u64, 1, 8, [.int .u64 0], false, false⟩,
  some ⟨.func, 1, 8, [.nilf], false, false⟩,
  some ⟨.slice 196, 1, 24, [.nils], false, false⟩,
  some ⟨.struct [(0, 56), (1, 22)], 2, 48, [.nils, .nils], false, false⟩,
  some ⟨.struct [(0, 56), (1, 22)], 2, 48, [.nils, .nils], false, false⟩,
  some ⟨.slice 174, 1, 24, [.nils], false, false⟩,
  some ⟨.struct [(0, 58), (2, 59)], 3, 72, [.nils, .nils, .nils], false, false⟩,
  some ⟨.struct [(0, 58), (2, 59)], 3, 72, [.nils, .nils, .nils], false, false⟩,
  none,
  some ⟨.func, 1, 8, [.nilf], false, false⟩,
  some ⟨.slice 68, 1, 24, [.nils], false, false⟩,
  none,
  some ⟨.func, 1, 8, [.nilf], false, false⟩,
  some ⟨.func, 1, 8, [.nilf], false, false⟩,
  some ⟨.slice 70, 1, 24, [.nils], false, false⟩,
  some ⟨.struct [(0, 3), (1, 3), (2, 3)], 3, 24, [.int .i64 0, .int .i64 0, .int .i64 0], true, true⟩,
  some ⟨.struct [(0, 3), (1, 3), (2, 3)], 3, 24, [.int .i64 0, .int .i64 0, .int .i64 0], true, true⟩,
  some ⟨.func, 1, 8, [.nilf], false, false⟩,
  some ⟨.func, 1, 8, [.nilf], false, false⟩,
  some ⟨.func, 1, 8, [.nilf], false, false⟩,
  some ⟨.ptr, 1, 8, [.nilp], false, false⟩,
  none,
  some ⟨.func, 1, 8, [.nilf], false, false⟩,
  some ⟨.ptr, 1, 8, [.nilp], false, false⟩,
  some ⟨.map 134 148, 1, 8, [.nilm], false, false⟩,
  some ⟨.struct [(0, 74), (1, 78)], 2, 16, [.nilp, .nilm], false, false⟩,
  some ⟨.struct [(0, 74), (1, 78)], 2, 16, [.nilp, .nilm], false, false⟩,
  none,
  some ⟨.func, 1, 8, [.nilf], false, false⟩,
  some ⟨.slice 106, 1, 24, [.nils], false, false⟩,
  some ⟨.slice 106, 1, 24, [.nils], false, false⟩,
  none,
  some ⟨.func, 1, 8, [.nilf], false, false⟩,
  some ⟨.func, 1, 8, [.nilf], false, false⟩,
  some ⟨.arr 5 48, 25, 200, [.int .i64 0, .int .i64 0, .int .i64 0, .int .i64 0, .int .i64 0, .int .i64 0, .int .i64 0, .int .i64 0, .int .i64 0, .int .i64 0, .int .i64 0, .int .i64 0, .int .i64 0, .int .i64 0, .int .i64 0, .int .i64 0, .int .i64 0, .int .i64 0, .int .i64 0, .int .i64 0, .int .i64 0, .int .i64 0, .int .i64 0, .int .i64 0, .int .i64 0], false, true⟩,
  some ⟨.arr 5 48, 25, 200, [.int .i64 0, .int .i64 0, .int .i64 0, .int .i64 0, .int .i64 0, .int .i64 0, .int .i64 0, .int .i64 0, .int .i64 0, .int .i64 0, .int .i64 0, .int .i64 0, .int .i64 0, .int .i64 0, .int .i64 0, .int .i64 0, .int .i64 0, .int .i64 0, .int .i64 0, .int .i64 0, .int .i64 0, .int .i64 0, .int .i64 0, .int .i64 0, .int .i64 0], false, true⟩,
  some ⟨.slice 25, 1, 24, [.nils], false, false⟩,
  some ⟨.func, 1, 8, [.nilf], false, false⟩,
  none,
  some ⟨.func, 1, 8, [.nilf], false, false⟩,
  some ⟨.func, 1, 8, [.nilf], false, false⟩,
  some ⟨.func, 1, 8, [.nilf], false, false⟩,
  some ⟨.slice 89, 1, 24, [.nils], false, false⟩,
  some ⟨.map 89 3, 1, 8, [.nilm], false, false⟩,
  some ⟨.slice 129, 1, 24, [.nils], false, false⟩,
  some ⟨.slice 4, 1, 24, [.nils], false, false⟩,
  some ⟨.struct [(0, 96), (1, 97), (2, 98), (3, 99), (4, 22)], 5, 104, [.nils, .nilm, .nils, .nils, .nils], false, false⟩,
  some ⟨.struct [(0, 96), (1, 97), (2, 98), (3, 99), (4, 22)], 5, 104, [.nils, .nilm, .nils, .nils, .nils], false, false⟩,
  some ⟨.ptr, 1, 8, [.nilp], false, false⟩,
  some ⟨.slice 102, 1, 24, [.nils], false, false⟩,
  some ⟨.struct [(0, 24), (5, 90), (6, 103), (7, 3)], 8, 128, [.nils, .nils, .int .i64 0, .int .i64 0, .int .i64 0, .nils, .nils, .int .i64 0], false, false⟩,
  some ⟨.struct [(0, 24), (5, 90), (6, 103), (7, 3)], 8, 128, [.nils, .nils, .int .i64 0, .int .i64 0, .int .i64 0, .nils, .nils, .int .i64 0], false, false⟩,
  some ⟨.slice 107, 1, 24, [.nils], false, false⟩,
  some ⟨.slice 109, 1, 24, [.nils], false, false⟩,
  some ⟨.struct [(0, 22), (1, 3), (2, 3), (3, 3)], 4, 48, [.nils, .int .i64 0, .int .i64 0, .int .i64 0], false, false⟩,
  some ⟨.struct [(0, 22), (1, 3), (2, 3), (3, 3)], 4, 48, [.nils, .int .i64 0, .int .i64 0, .int .i64 0], false, false⟩,
  some ⟨.func, 1, 8, [.nilf], false, false⟩,
  some ⟨.func, 1, 8, [.nilf], false, false⟩,
  some ⟨.func, 1, 8, [.nilf], false, false⟩,
  some ⟨.slice 22, 1, 24, [.nils], false, false⟩,
  some ⟨.func, 1, 8, [.nilf], false, false⟩,
  some ⟨.struct [(0, 61), (3, 22)], 4, 96, [.nils, .nils, .nils, .nils], false, false⟩,
  some ⟨.struct [(0, 61), (3, 22)], 4, 96, [.nils, .nils, .nils, .nils], false, false⟩,
  none,
  some ⟨.func, 1, 8, [.nilf], false, false⟩,
  some ⟨.slice 182, 1, 24, [.nils], false, false⟩,
  none,
  some ⟨.func, 1, 8, [.nilf], false, false⟩,
  some ⟨.ptr, 1, 8, [.nilp], false, false⟩,
  some ⟨.ptr, 1, 8, [.nilp], false, false⟩,
  some ⟨.func, 1, 8, [.nilf], false, false⟩,
  some ⟨.func, 1, 8, [.nilf], false, false⟩,
  some ⟨.func, 1, 8, [.nilf], false, false⟩,
  some ⟨.func, 1, 8, [.nilf], false, false⟩,
  some ⟨.struct [(0, 3), (1, 3)], 2, 16, [.int .i64 0, .int .i64 0], true, true⟩,
  some ⟨.struct [(0, 3), (1, 3)], 2, 16, [.int .i64 0, .int .i64 0], true, true⟩,
  some ⟨.func, 1, 8, [.nilf], false, false⟩,
  some ⟨.func, 1, 8, [.nilf], false, false⟩,
  some ⟨.func, 1, 8, [.nilf], false, false⟩,
  some ⟨.struct [(0, 3), (1, 3)], 2, 16, [.int .i64 0, .int .i64 0], true, true⟩,
  some ⟨.struct [(0, 3), (1, 3)], 2, 16, [.int .i64 0, .int .i64 0], true, true⟩,
  some ⟨.struct [(0, 129), (2, 3), (3, 3)], 4, 32, [.int .i64 0, .int .i64 0, .int .i64 0, .int .i64 0], true, true⟩,
  some ⟨.struct [(0, 129), (2, 3), (3, 3)], 4, 32, [.int .i64 0, .int .i64 0, .int .i64 0, .int .i64 0], true, true⟩,
  none,
  some ⟨.func, 1, 8, [.nilf], false, false⟩,
  some ⟨.struct [(0, 22), (1, 129), (3, 3)], 4, 48, [.nils, .int .i64 0, .int .i64 0, .int .i64 0], false, false⟩,
  some ⟨.struct [(0, 22), (1, 129), (3, 3)], 4, 48, [.nils, .int .i64 0, .int .i64 0, .int .i64 0], false, false⟩,
  some ⟨.slice 140, 1, 24, [.nils], false, false⟩,
  some ⟨.slice 136, 1, 24, [.nils], false, false⟩,
  some ⟨.func, 1, 8, [.nilf], false, false⟩,
  some ⟨.struct [(0, 142), (1, 143)], 2, 32, [.nils, .nilf], false, false⟩,
  some ⟨.struct [(0, 142), (1, 143)], 2, 32, [.nils, .nilf], false, false⟩,
  some ⟨.struct [(0, 141), (1, 142), (2, 145), (4, 4)], 5, 88, [.nils, .nils, .nils, .nilf, .bool false], false, false⟩,
  some ⟨.struct [(0, 141), (1, 142), (2, 145), (4, 4)], 5, 88, [.nils, .nils, .nils, .nilf, .bool false], false, false⟩,
  some ⟨.ptr, 1, 8, [.nilp], false, false⟩,
  some ⟨.func, 1, 8, [.nilf], false, false⟩,
  some ⟨.arr 5 3, 5, 40, [.int .i64 0, .int .i64 0, .int .i64 0, .int .i64 0, .int .i64 0], true, true⟩,
  some ⟨.arr 5 3, 5, 40, [.int .i64 0, .int .i64 0, .int .i64 0, .int .i64 0, .int .i64 0], true, true⟩,
  some ⟨.slice 151, 1, 24, [.nils], false, false⟩,
  none,
  some ⟨.func, 1, 8, [.nilf], false, false⟩,
  some ⟨.func, 1, 8, [.nilf], false, false⟩,
  some ⟨.func, 1, 8, [.nilf], false, false⟩,
  some ⟨.ptr, 1, 8, [.nilp], false, false⟩,
  some ⟨.struct [(0, 22), (1, 3), (2, 3), (3, 157)], 4, 48, [.nils, .int .i64 0, .int .i64 0, .nilp], false, false⟩,
  some ⟨.struct [(0, 22), (1, 3), (2, 3), (3, 157)], 4, 48, [.nils, .int .i64 0, .int .i64 0, .nilp], false, false⟩,
  some ⟨.slice 157, 1, 24, [.nils], false, false⟩,
  some ⟨.slice 160, 1, 24, [.nils], false, false⟩,
  some ⟨.func, 1, 8, [.nilf], false, false⟩,
  some ⟨.func, 1, 8, [.nilf], false, false⟩,
  some ⟨.func, 1, 8, [.nilf], false, false⟩,
  some ⟨.ptr, 1, 8, [.nilp], false, false⟩,
  some ⟨.func, 1, 8, [.nilf], false, false⟩,
  some ⟨.func, 1, 8, [.nilf], false, false⟩,
  some ⟨.arr 15 3, 15, 120, [.int .i64 0, .int .i64 0, .int .i64 0, .int .i64 0, .int .i64 0, .int .i64 0, .int .i64 0, .int .i64 0, .int .i64 0, .int .i64 0, .int .i64 0, .int .i64 0, .int .i64 0, .int .i64 0, .int .i64 0], true, true⟩,
  some ⟨.func, 1, 8, [.nilf], false, false⟩,
  some ⟨.struct [(0, 3), (1, 4), (2, 4)], 3, 16, [.int .i64 0, .bool false, .bool false], true, true⟩,
  some ⟨.struct [(0, 3), (1, 4), (2, 4)], 3, 16, [.int .i64 0, .bool false, .bool false], true, true⟩,
  some ⟨.slice 176, 1, 24, [.nils], false, false⟩,
  some ⟨.struct [(0, 4), (1, 171), (4, 4), (5, 172)], 6, 56, [.bool false, .int .i64 0, .bool false, .bool false, .bool false, .nils], false, false⟩,
  some ⟨.struct [(0, 4), (1, 171), (4, 4), (5, 172)], 6, 56, [.bool false, .int .i64 0, .bool false, .bool false, .bool false, .nils], false, false⟩,
  some ⟨.struct [(0, 3), (1, 3), (2, 3), (3, 3), (4, 3)], 5, 40, [.int .i64 0, .int .i64 0, .int .i64 0, .int .i64 0, .int .i64 0], true, true⟩,
  some ⟨.struct [(0, 3), (1, 3), (2, 3), (3, 3), (4, 3)], 5, 40, [.int .i64 0, .int .i64 0, .int .i64 0, .int .i64 0, .int .i64 0], true, true⟩,
  some ⟨.func, 1, 8, [.nilf], false, false⟩,
  some ⟨.struct [(0, 3), (1, 3)], 2, 16, [.int .i64 0, .int .i64 0], true, true⟩,
  some ⟨.struct [(0, 3), (1, 3)], 2, 16, [.int .i64 0, .int .i64 0], true, true⟩,
  some ⟨.func, 1, 8, [.nilf], false, false⟩,
  some ⟨.struct [(0, 3), (1, 3), (2, 3), (3, 3), (4, 3)], 5, 40, [.int .i64 0, .int .i64 0, .int .i64 0, .int .i64 0, .int .i64 0], true, true⟩,
  some ⟨.struct [(0, 3), (1, 3), (2, 3), (3, 3), (4, 3)], 5, 40, [.int .i64 0, .int .i64 0, .int .i64 0, .int .i64 0, .int .i64 0], true, true⟩,
  some ⟨.func, 1, 8, [.nilf], false, false⟩,
  some ⟨.func, 1, 8, [.nilf], false, false⟩,
  some ⟨.func, 1, 8, [.nilf], false, false⟩,
  some ⟨.func, 1, 8, [.nilf], false, false⟩,
  some ⟨.func, 1, 8, [.nilf], false, false⟩,
  some ⟨.func, 1, 8, [.nilf], false, false⟩,
  some ⟨.func, 1, 8, [.nilf], false, false⟩,
  some ⟨.func, 1, 8, [.nilf], false, false⟩,
  some ⟨.func, 1, 8, [.nilf], false, false⟩,
  some ⟨.func, 1, 8, [.nilf], false, false⟩,
  some ⟨.func, 1, 8, [.nilf], false, false⟩,
  some ⟨.func, 1, 8, [.nilf], false, false⟩,
  some ⟨.struct [(0, 3), (1, 3), (2, 4)], 3, 24, [.int .i64 0, .int .i64 0, .bool false], true, true⟩,
  some ⟨.struct [(0, 3), (1, 3), (2, 4)], 3, 24, [.int .i64 0, .int .i64 0, .bool false], true, true⟩,
  some ⟨.func, 1, 8, [.nilf], false, false⟩,
  some ⟨.ptr, 1, 8, [.nilp], false, false⟩,
  some ⟨.func, 1, 8, [.nilf], false, false⟩,
  some ⟨.func, 1, 8, [.nilf], false, false⟩,
  some ⟨.func, 1, 8, [.nilf], false, false⟩,
  some ⟨.func, 1, 8, [.nilf], false, false⟩,
  some ⟨.func, 1, 8, [.nilf], false, false⟩,
  some ⟨.func, 1, 8, [.nilf], false, false⟩,
  some ⟨.func, 1, 8, [.nilf], false, false⟩,
  some ⟨.func, 1, 8, [.nilf], false, false⟩,
  some ⟨.func, 1, 8, [.nilf], false, false⟩,
  some ⟨.func, 1, 8, [.nilf], false, false⟩,
  some ⟨.func, 1, 8, [.nilf], false, false⟩,
  some ⟨.func, 1, 8, [.nilf], false, false⟩,
  some ⟨.func, 1, 8, [.nilf], false, false⟩,
  some ⟨.func, 1, 8, [.nilf], false, false⟩,
  some ⟨.func, 1, 8, [.nilf], false, false⟩,
  some ⟨.func, 1, 8, [.nilf], false, false⟩,
  some ⟨.func, 1, 8, [.nilf], false, false⟩,
  some ⟨.struct [(0, 17), (1, 17), (2, 17), (3, 9)], 4, 40, [.nilp, .nilp, .nilp, .str .empty], false, false⟩,
  some ⟨.struct [(0, 17), (1, 17), (2, 17), (3, 9)], 4, 40, [.nilp, .nilp, .nilp, .str .empty], false, false⟩,
  some ⟨.arr 0 16, 0, 0, [], false, false⟩,
  some ⟨.struct [(0, 218)], 0, 0, [], false, false⟩,
  some ⟨.struct [(0, 218)], 0, 0, [], false, false⟩,
  some ⟨.int .u32, 1, 4, [.int .u32 0], false, false⟩,
  some ⟨.int .u8, 1, 1, [.int .u8 0], false, false⟩,
  some ⟨.int .u8, 1, 1, [.int .u8 0], false, false⟩,
  some ⟨.func, 1, 8, [.nilf], false, false⟩,
  some ⟨.ptr, 1, 8, [.nilp], false, false⟩,
  some ⟨.int .i32, 1, 4, [.int .i32 0], false, false⟩,
  some ⟨.int .i32, 1, 4, [.int .i32 0], false, false⟩,
  some ⟨.struct [(0, 12), (1, 12), (2, 221), (3, 222), (4, 5), (5, 5), (6, 223), (7, 224), (8, 225), (9, 226), (10, 227)], 11, 48, [.int .u64 0, .int .u64 0, .int .u32 0, .int .u8 0, .int .u8 0, .int .u8 0, .int .u8 0, .nilf, .nilp, .int .i32 0, .int .i32 0], false, false⟩,
  some ⟨.struct [(0, 12), (1, 12), (2, 221), (3, 222), (4, 5), (5, 5), (6, 223), (7, 224), (8, 225), (9, 226), (10, 227)], 11, 48, [.int .u64 0, .int .u64 0, .int .u32 0, .int .u8 0, .int .u8 0, .int .u8 0, .int .u8 0, .nilf, .nilp, .int .i32 0, .int .i32 0], false, false⟩,
  none]
def okL : List Nat := [3, 4, 5, 6, 7, 8, 9, 10, 11, 12, 13, 14, 15, 16, 17, 18, 19, 20, 21, 22, 23, 24, 25, 26, 27, 28, 29, 30, 31, 32, 33, 34, 35, 36, 37, 38, 39, 40, 41, 42, 43, 44, 45, 46, 47, 48, 49, 50, 51, 52, 53, 54, 55, 56, 57, 58, 59, 60, 61, 62, 63, 64, 65, 66, 67, 68, 69, 70, 71, 72, 73, 74, 75, 76, 77, 78, 79, 80, 81, 82, 83, 84, 85, 86, 87, 88, 89, 90, 91, 92, 93, 94, 95, 96, 97, 99, 100, 101, 102, 103, 104, 105, 106, 107]
def pureL : List Nat := [10, 11, 12, 13, 14, 15, 16, 17, 18, 19, 20, 21, 22, 23, 24, 25, 26, 27, 28, 29, 30, 31, 32, 33, 34, 38, 39, 40, 41, 42, 43, 44, 45, 48, 49, 50, 51, 52, 53, 54, 59, 60, 63, 64, 65, 66, 68, 71, 73, 74, 75, 76, 79, 80, 83, 85, 86, 87, 88, 89, 90, 93, 94, 95, 96, 97, 98, 99, 100, 101, 102, 103, 104, 105, 106, 107]
theorem tab_eq : tab = (List.range 231).map (tdOf Try.prog) := by kernel_rfl
/-- the context in which the functions h hand back new memory, and the functions np see the caller's heap -/
noncomputable def Cx (h np : List Nat) : Ctx := { P := Try.prog, ti := tiTab tab, fnok := fun f => okL.contains f, pureFn := fun f => pureL.contains f && !h.contains f && !np.contains f, hFn := fun f => h.contains f }
noncomputable def C : Ctx := Cx [] []
theorem fine : okL.all (fnFine Try.prog) = true := by kernel_rfl
theorem laid : laidOutB Try.prog = true := by kernel_rfl
theorem few : Try.prog.types.size + 2 ≤ 10000 := of_decide_eq_true (by kernel_rfl)
theorem tok : TOk Try.prog (tiTab tab) := tiTab_ok laid few tab_eq
theorem okx (h np : List Nat) : COk (Cx h np) := cok_of okL tok fine fun f hf => by simpa [Cx] using hf
theorem ok : COk C := okx [] []
theorem mixed : Try.prog.follows .mixedOrders = true := Try.checked.mixed
/-- the context of what is evaluated at once: the functions p see nothing of the heap, the functions x leave it as it is -/
noncomputable def Ce (p x : List Nat) : Ctx := { P := Try.prog, ti := tiTab tab, fnok := fun f => okL.contains f, pureFn := fun f => p.contains f, xFn := fun f => x.contains f }
theorem oke (p x : List Nat) : COk (Ce p x) := cok_of okL tok fine fun f hf => by simpa [Ce] using hf
end Go.Ab.V

/-
  Closed functions, evaluated at once. No condition.
-/
namespace Go.Ab.V
open Go.Proofs

noncomputable def xfetch : FuncId → Option Func := fun f => match f with
  | 11 => some Try.f11
  | 12 => some Try.f12
  | 15 => some Try.f15
  | 19 => some Try.f19
  | 33 => some Try.f33
  | 34 => some Try.f34
  | 35 => some Try.f35
  | 36 => some Try.f36
  | 37 => some Try.f37
  | 41 => some Try.f41
  | 42 => some Try.f42
  | 43 => some Try.f43
  | 44 => some Try.f44
  | 51 => some Try.f51
  | 54 => some Try.f54
  | 55 => some Try.f55
  | 56 => some Try.f56
  | 57 => some Try.f57
  | 58 => some Try.f58
  | 59 => some Try.f59
  | 60 => some Try.f60
  | 61 => some Try.f61
  | 62 => some Try.f62
  | 68 => some Try.f68
  | 69 => some Try.f69
  | 77 => some Try.f77
  | 78 => some Try.f78
  | 79 => some Try.f79
  | 80 => some Try.f80
  | 81 => some Try.f81
  | 82 => some Try.f82
  | 83 => some Try.f83
  | 84 => some Try.f84
  | 90 => some Try.f90
  | 91 => some Try.f91
  | 92 => some Try.f92
  | 99 => some Try.f99
  | 101 => some Try.f101
  | 104 => some Try.f104
  | _ => none
noncomputable def xord : FuncId → Nat → Option Plan := fun f r => match f, r with
  | 37, 5 => some (.one 0 (.one 1 (.one 2 (.one 3 (.one 4 (.one 6 (.br 5 7 (.one 7 (.one 8 (.one 9 (.done)))) (.one 5 (.one 8 (.one 9 (.done)))))))))))
  | 37, 7 => some (.one 0 (.one 1 (.one 6 (.br3 2 7 10 (.one 3 (.one 4 (.one 5 (.one 7 (.one 8 (.one 9 (.one 10 (.one 11 (.done))))))))) (.br 2 10 (.one 3 (.one 4 (.one 5 (.one 8 (.one 9 (.one 10 (.one 11 (.done)))))))) (.one 2 (.one 3 (.one 4 (.one 5 (.one 8 (.one 9 (.one 11 (.done))))))))) (.br 2 7 (.one 3 (.one 4 (.one 5 (.one 7 (.one 8 (.one 9 (.one 11 (.done)))))))) (.one 2 (.one 3 (.one 4 (.one 5 (.one 8 (.one 9 (.one 11 (.done)))))))))))))
  | 82, 3 => some (.one 0 (.one 1 (.one 2 (.one 3 (.one 4 (.one 5 (.one 6 (.one 7 (.one 8 (.one 9 (.br 10 12 (.one 11 (.one 12 (.one 13 (.one 14 (.one 15 (.done)))))) (.one 10 (.one 11 (.one 13 (.one 14 (.one 15 (.done)))))))))))))))))
  | 84, 4 => some (.one 1 (.one 2 (.one 3 (.one 4 (.one 5 (.one 7 (.one 8 (.br 0 6 (.one 6 (.one 9 (.one 10 (.one 11 (.one 12 (.one 13 (.one 14 (.done)))))))) (.one 9 (.br 0 10 (.one 10 (.one 11 (.one 12 (.one 13 (.one 14 (.done)))))) (.br 0 11 (.one 11 (.one 12 (.one 13 (.one 14 (.done))))) (.one 0 (.one 12 (.one 13 (.one 14 (.done))))))))))))))))
  | _, _ => none
noncomputable abbrev CX : Ctx := Ce [79, 80, 90, 59, 34, 60] [78, 41, 44]
theorem xfetch_ok : ∀ f fn, xfetch f = some fn → CX.P.funcs[f]? = some fn := by
  intro f fn h
  unfold xfetch at h
  split at h
  · cases h; exact Try.func11
  · cases h; exact Try.func12
  · cases h; exact Try.func15
  · cases h; exact Try.func19
  · cases h; exact Try.func33
  · cases h; exact Try.func34
  · cases h; exact Try.func35
  · cases h; exact Try.func36
  · cases h; exact Try.func37
  · cases h; exact Try.func41
  · cases h; exact Try.func42
  · cases h; exact Try.func43
  · cases h; exact Try.func44
  · cases h; exact Try.func51
  · cases h; exact Try.func54
  · cases h; exact Try.func55
  · cases h; exact Try.func56
  · cases h; exact Try.func57
  · cases h; exact Try.func58
  · cases h; exact Try.func59
  · cases h; exact Try.func60
  · cases h; exact Try.func61
  · cases h; exact Try.func62
  · cases h; exact Try.func68
  · cases h; exact Try.func69
  · cases h; exact Try.func77
  · cases h; exact Try.func78
  · cases h; exact Try.func79
  · cases h; exact Try.func80
  · cases h; exact Try.func81
  · cases h; exact Try.func82
  · cases h; exact Try.func83
  · cases h; exact Try.func84
  · cases h; exact Try.func90
  · cases h; exact Try.func91
  · cases h; exact Try.func92
  · cases h; exact Try.func99
  · cases h; exact Try.func101
  · cases h; exact Try.func104
  · cases h
def bodyOk (f : Nat) (fn : Func) : Prop := ∀ code, fn.body = some code → codeOk CX (xord f) code
theorem bodyOk_of {f : Nat} {fn : Func} (h : (match fn.body with | some c => codeOkB CX (xord f) c | none => true) = true) : bodyOk f fn := by
  intro code hc
  rw [hc] at h
  exact codeOk_of h
theorem bodyOk11 : bodyOk 11 Try.f11 := bodyOk_of (by kernel_rfl)
theorem bodyOk12 : bodyOk 12 Try.f12 := bodyOk_of (by kernel_rfl)
theorem bodyOk15 : bodyOk 15 Try.f15 := bodyOk_of (by kernel_rfl)
theorem bodyOk19 : bodyOk 19 Try.f19 := bodyOk_of (by kernel_rfl)
theorem bodyOk33 : bodyOk 33 Try.f33 := bodyOk_of (by kernel_rfl)
theorem bodyOk34 : bodyOk 34 Try.f34 := bodyOk_of (by kernel_rfl)
theorem bodyOk35 : bodyOk 35 Try.f35 := bodyOk_of (by kernel_rfl)
theorem bodyOk36 : bodyOk 36 Try.f36 := bodyOk_of (by kernel_rfl)
theorem bodyOk37 : bodyOk 37 Try.f37 := bodyOk_of (by kernel_rfl)
theorem bodyOk41 : bodyOk 41 Try.f41 := bodyOk_of (by kernel_rfl)
theorem bodyOk42 : bodyOk 42 Try.f42 := bodyOk_of (by kernel_rfl)
theorem bodyOk43 : bodyOk 43 Try.f43 := bodyOk_of (by kernel_rfl)
theorem bodyOk44 : bodyOk 44 Try.f44 := bodyOk_of (by kernel_rfl)
theorem bodyOk51 : bodyOk 51 Try.f51 := bodyOk_of (by kernel_rfl)
theorem bodyOk54 : bodyOk 54 Try.f54 := bodyOk_of (by kernel_rfl)
theorem bodyOk55 : bodyOk 55 Try.f55 := bodyOk_of (by kernel_rfl)
theorem bodyOk56 : bodyOk 56 Try.f56 := bodyOk_of (by kernel_rfl)
theorem bodyOk57 : bodyOk 57 Try.f57 := bodyOk_of (by kernel_rfl)
theorem bodyOk58 : bodyOk 58 Try.f58 := bodyOk_of (by kernel_rfl)
theorem bodyOk59 : bodyOk 59 Try.f59 := bodyOk_of (by kernel_rfl)
theorem bodyOk60 : bodyOk 60 Try.f60 := bodyOk_of (by kernel_rfl)
theorem bodyOk61 : bodyOk 61 Try.f61 := bodyOk_of (by kernel_rfl)
theorem bodyOk62 : bodyOk 62 Try.f62 := bodyOk_of (by kernel_rfl)
theorem bodyOk68 : bodyOk 68 Try.f68 := bodyOk_of (by kernel_rfl)
theorem bodyOk69 : bodyOk 69 Try.f69 := bodyOk_of (by kernel_rfl)
theorem bodyOk77 : bodyOk 77 Try.f77 := bodyOk_of (by kernel_rfl)
theorem bodyOk78 : bodyOk 78 Try.f78 := bodyOk_of (by kernel_rfl)
theorem bodyOk79 : bodyOk 79 Try.f79 := bodyOk_of (by kernel_rfl)
theorem bodyOk80 : bodyOk 80 Try.f80 := bodyOk_of (by kernel_rfl)
theorem bodyOk81 : bodyOk 81 Try.f81 := bodyOk_of (by kernel_rfl)
theorem bodyOk82 : bodyOk 82 Try.f82 := bodyOk_of (by kernel_rfl)
theorem bodyOk83 : bodyOk 83 Try.f83 := bodyOk_of (by kernel_rfl)
theorem bodyOk84 : bodyOk 84 Try.f84 := bodyOk_of (by kernel_rfl)
theorem bodyOk90 : bodyOk 90 Try.f90 := bodyOk_of (by kernel_rfl)
theorem bodyOk91 : bodyOk 91 Try.f91 := bodyOk_of (by kernel_rfl)
theorem bodyOk92 : bodyOk 92 Try.f92 := bodyOk_of (by kernel_rfl)
theorem bodyOk99 : bodyOk 99 Try.f99 := bodyOk_of (by kernel_rfl)
theorem bodyOk101 : bodyOk 101 Try.f101 := bodyOk_of (by kernel_rfl)
theorem bodyOk104 : bodyOk 104 Try.f104 := bodyOk_of (by kernel_rfl)
theorem xcode_ok : ∀ f fn code, xfetch f = some fn → fn.body = some code → codeOk CX (xord f) code := by
  intro f fn code h
  unfold xfetch at h
  split at h
  · cases h; exact bodyOk11 code
  · cases h; exact bodyOk12 code
  · cases h; exact bodyOk15 code
  · cases h; exact bodyOk19 code
  · cases h; exact bodyOk33 code
  · cases h; exact bodyOk34 code
  · cases h; exact bodyOk35 code
  · cases h; exact bodyOk36 code
  · cases h; exact bodyOk37 code
  · cases h; exact bodyOk41 code
  · cases h; exact bodyOk42 code
  · cases h; exact bodyOk43 code
  · cases h; exact bodyOk44 code
  · cases h; exact bodyOk51 code
  · cases h; exact bodyOk54 code
  · cases h; exact bodyOk55 code
  · cases h; exact bodyOk56 code
  · cases h; exact bodyOk57 code
  · cases h; exact bodyOk58 code
  · cases h; exact bodyOk59 code
  · cases h; exact bodyOk60 code
  · cases h; exact bodyOk61 code
  · cases h; exact bodyOk62 code
  · cases h; exact bodyOk68 code
  · cases h; exact bodyOk69 code
  · cases h; exact bodyOk77 code
  · cases h; exact bodyOk78 code
  · cases h; exact bodyOk79 code
  · cases h; exact bodyOk80 code
  · cases h; exact bodyOk81 code
  · cases h; exact bodyOk82 code
  · cases h; exact bodyOk83 code
  · cases h; exact bodyOk84 code
  · cases h; exact bodyOk90 code
  · cases h; exact bodyOk91 code
  · cases h; exact bodyOk92 code
  · cases h; exact bodyOk99 code
  · cases h; exact bodyOk101 code
  · cases h; exact bodyOk104 code
  · cases h
end Go.Ab.V

/-
  The example works. No condition.
-/
namespace Go.Ab.V
open Go.Proofs
set_option maxRecDepth 100000 in
theorem works_spec : PRet C.P 11 [] (.bool true) := pret_true (C := CX) (oke _ _) mixed rfl 100 40 xfetch_ok xcode_ok (by kernel_rfl)
end Go.Ab.V
