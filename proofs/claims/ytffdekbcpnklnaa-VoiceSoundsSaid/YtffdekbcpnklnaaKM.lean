/-
  What is proved here serves the law's text: each part says its own claim and its conditions. No condition is left open.
-/
import Derived.Test.YtffdekbcpnklnaaChecked
import Derived.KernelRfl
import Derived.Eval
import Derived.Test.YtffdekbcpnklnaaKL
set_option linter.unusedSimpArgs false
set_option linter.unusedVariables false

/-
  The program of this seat as a context: its table of types, its functions. No condition.
-/
namespace Go.Ab.V
open Go.Proofs

def tab : List (Option TD) := [none,
  some ⟨.func, 1, 8, [.nilf], false, false⟩,
  some ⟨.int .i64, 1, 8, [.int .i64 0], false, false⟩,
  some ⟨.int .i64, 1, 8, [.int .i64 0], false, false⟩,
  some ⟨.bool, 1, 1, [.bool false], false, false⟩,
  some ⟨.int .u8, 1, 1, [.int .u8 0], false, false⟩,
  some ⟨.int .u8, 1, 1, [.int .u8 0], false, false⟩,
  some ⟨.struct [(0, 2), (1, 3), (2, 4), (3, 6)], 4, 24, [.int .i64 0, .int .i64 0, .bool false, .int .u8 0], true, true⟩,
  some ⟨.struct [(0, 2), (1, 3), (2, 4), (3, 6)], 4, 24, [.int .i64 0, .int .i64 0, .bool false, .int .u8 0], true, false⟩,
  some ⟨.str, 1, 16, [.str .empty], false, false⟩,
  some ⟨.str, 1, 16, [.str .empty], false, false⟩,
  some ⟨.str, 1, 16, [.str .empty], false, false⟩,
  some ⟨.int .u64, 1, 8, [.int .u64 0], false, false⟩,
  some ⟨.struct [(0, 9), (1, 12)], 2, 24, [.str .empty, .int .u64 0], false, false⟩,
  some ⟨.struct [(0, 9), (1, 12)], 2, 24, [.str .empty, .int .u64 0], false, false⟩,
  some ⟨.ptr, 1, 8, [.nilp], false, false⟩,
  some ⟨.ptr, 1, 8, [.nilp], false, false⟩,
  some ⟨.ptr, 1, 8, [.nilp], false, false⟩,
  some ⟨.struct [(0, 17)], 1, 8, [.nilp], false, false⟩,
  some ⟨.struct [(0, 17)], 1, 8, [.nilp], false, false⟩,
  none,
  some ⟨.int .i32, 1, 4, [.int .i32 0], false, false⟩,
  some ⟨.slice 3, 1, 24, [.nils], false, false⟩,
  some ⟨.struct [(0, 22), (1, 22), (2, 3), (3, 3), (4, 3)], 5, 72, [.nils, .nils, .int .i64 0, .int .i64 0, .int .i64 0], false, false⟩,
  some ⟨.struct [(0, 22), (1, 22), (2, 3), (3, 3), (4, 3)], 5, 72, [.nils, .nils, .int .i64 0, .int .i64 0, .int .i64 0], false, false⟩,
  some ⟨.slice 51, 1, 24, [.nils], false, false⟩,
  some ⟨.struct [(0, 24), (5, 25)], 6, 96, [.nils, .nils, .int .i64 0, .int .i64 0, .int .i64 0, .nils], false, false⟩,
  some ⟨.struct [(0, 24), (5, 25)], 6, 96, [.nils, .nils, .int .i64 0, .int .i64 0, .int .i64 0, .nils], false, false⟩,
  some ⟨.slice 54, 1, 24, [.nils], false, false⟩,
  some ⟨.int .i64, 1, 8, [.int .i64 0], false, false⟩,
  some ⟨.func, 1, 8, [.nilf], false, false⟩,
  some ⟨.func, 1, 8, [.nilf], false, false⟩,
  some ⟨.func, 1, 8, [.nilf], false, false⟩,
  some ⟨.func, 1, 8, [.nilf], false, false⟩,
  some ⟨.func, 1, 8, [.nilf], false, false⟩,
  some ⟨.func, 1, 8, [.nilf], false, false⟩,
  none,
  some ⟨.func, 1, 8, [.nilf], false, false⟩,
  some ⟨.func, 1, 8, [.nilf], false, false⟩,
  some ⟨.func, 1, 8, [.nilf], false, false⟩,
  some ⟨.struct [(0, 22), (1, 3), (2, 3)], 3, 40, [.nils, .int .i64 0, .int .i64 0], false, false⟩,
  some ⟨.struct [(0, 22), (1, 3), (2, 3)], 3, 40, [.nils, .int .i64 0, .int .i64 0], false, false⟩,
  none,
  some ⟨.func, 1, 8, [.nilf], false, false⟩,
  some ⟨.func, 1, 8, [.nilf], false, false⟩,
  some ⟨.func, 1, 8, [.nilf], false, false⟩,
  some ⟨.struct [(0, 3), (1, 3), (2, 3), (3, 3)], 4, 32, [.int .i64 0, .int .i64 0, .int .i64 0, .int .i64 0], true, true⟩,
  some ⟨.struct [(0, 3), (1, 3), (2, 3), (3, 3)], 4, 32, [.int .i64 0, .int .i64 0, .int .i64 0, .int .i64 0], true, true⟩,
  some ⟨.func, 1, 8, [.nilf], false, false⟩,
  some ⟨.func, 1, 8, [.nilf], false, false⟩,
  some ⟨.struct [(0, 3), (1, 3), (2, 3), (3, 3), (4, 3)], 5, 40, [.int .i64 0, .int .i64 0, .int .i64 0, .int .i64 0, .int .i64 0], true, true⟩,
  some ⟨.struct [(0, 3), (1, 3), (2, 3), (3, 3), (4, 3)], 5, 40, [.int .i64 0, .int .i64 0, .int .i64 0, .int .i64 0, .int .i64 0], true, true⟩,
  some ⟨.func, 1, 8, [.nilf], false, false⟩,
  some ⟨.slice 106, 1, 24, [.nils], false, false⟩,
  some ⟨.slice 83, 1, 24, [.nils], false, false⟩,
  none,
  some ⟨.func, 1, 8, [.nilf], false, false⟩,
  some ⟨.func, 1, 8, [.nilf], false, false⟩,
  some ⟨.func, 1, 8, [.nilf], false, false⟩,
  none,
  some ⟨.func, 1, 8, [.nilf], false, false⟩,
  none,
  some ⟨.func, 1, 8, [.nilf], false, false⟩,
  some ⟨.func, 1, 8, [.nilf], false, false⟩,
  none,
  some ⟨.func, 1, 8, [.nilf], false, false⟩,
  some ⟨.func, 1, 8, [.nilf], false, false⟩,
  some ⟨.func, 1, 8, [.nilf], false, false⟩,
  some ⟨.slice 72, 1, 24, [.nils], false, false⟩,
  none,
  some ⟨.func, 1, 8, [.nilf], false, false⟩,
  some ⟨.struct [(0, 3), (1, 3), (2, 3)], 3, 24, [.int .i64 0, .int .i64 0, .int .i64 0], true, true⟩,
  some ⟨.struct [(0, 3), (1, 3), (2, 3)], 3, 24, [.int .i64 0, .int .i64 0, .int .i64 0], true, true⟩,
  some ⟨.func, 1, 8, [.nilf], false, false⟩,
  some ⟨.slice 78, 1, 24, [.nils], false, false⟩,
  none,
  some ⟨.func, 1, 8, [.nilf], false, false⟩,
  some ⟨.struct [(0, 3), (1, 3), (2, 3), (3, 3)], 4, 32, [.int .i64 0, .int .i64 0, .int .i64 0, .int .i64 0], true, true⟩,
  some ⟨.struct [(0, 3), (1, 3), (2, 3), (3, 3)], 4, 32, [.int .i64 0, .int .i64 0, .int .i64 0, .int .i64 0], true, true⟩,
  some ⟨.func, 1, 8, [.nilf], false, false⟩,
  some ⟨.func, 1, 8, [.nilf], false, false⟩,
  some ⟨.func, 1, 8, [.nilf], false, false⟩,
  some ⟨.struct [(0, 3), (1, 3), (2, 3)], 3, 24, [.int .i64 0, .int .i64 0, .int .i64 0], true, true⟩,
  some ⟨.struct [(0, 3), (1, 3), (2, 3)], 3, 24, [.int .i64 0, .int .i64 0, .int .i64 0], true, true⟩,
  none,
  some ⟨.func, 1, 8, [.nilf], false, false⟩,
  some ⟨.func, 1, 8, [.nilf], false, false⟩,
  some ⟨.ptr, 1, 8, [.nilp], false, false⟩,
  some ⟨.ptr, 1, 8, [.nilp], false, false⟩,
  some ⟨.func, 1, 8, [.nilf], false, false⟩,
  some ⟨.arr 5 51, 25, 200, [.int .i64 0, .int .i64 0, .int .i64 0, .int .i64 0, .int .i64 0, .int .i64 0, .int .i64 0, .int .i64 0, .int .i64 0, .int .i64 0, .int .i64 0, .int .i64 0, .int .i64 0, .int .i64 0, .int .i64 0, .int .i64 0, .int .i64 0, .int .i64 0, .int .i64 0, .int .i64 0, .int .i64 0, .int .i64 0, .int .i64 0, .int .i64 0, .int .i64 0], false, true⟩,
  some ⟨.arr 5 51, 25, 200, [.int .i64 0, .int .i64 0, .int .i64 0, .int .i64 0, .int .i64 0, .int .i64 0, .int .i64 0, .int .i64 0, .int .i64 0, .int .i64 0, .int .i64 0, .int .i64 0, .int .i64 0, .int .i64 0, .int .i64 0, .int .i64 0, .int .i64 0, .int .i64 0, .int .i64 0, .int .i64 0, .int .i64 0, .int .i64 0, .int .i64 0, .int .i64 0, .int .i64 0], false, true⟩,
  some ⟨.slice 25, 1, 24, [.nils], false, false⟩,
  some ⟨.func, 1, 8, [.nilf], false, false⟩,
  none,
  some ⟨.func, 1, 8, [.nilf], false, false⟩,
  some ⟨.func, 1, 8, [.nilf], false, false⟩,
  some ⟨.func, 1, 8, [.nilf], false, false⟩,
  some ⟨.func, 1, 8, [.nilf], false, false⟩,
  some ⟨.arr 5 3, 5, 40, [.int .i64 0, .int .i64 0, .int .i64 0, .int .i64 0, .int .i64 0], false, true⟩,
  some ⟨.arr 5 3, 5, 40, [.int .i64 0, .int .i64 0, .int .i64 0, .int .i64 0, .int .i64 0], false, true⟩,
  none,
  some ⟨.func, 1, 8, [.nilf], false, false⟩,
  some ⟨.struct [(0, 3), (1, 4), (2, 4)], 3, 16, [.int .i64 0, .bool false, .bool false], true, true⟩,
  some ⟨.struct [(0, 3), (1, 4), (2, 4)], 3, 16, [.int .i64 0, .bool false, .bool false], true, true⟩,
  some ⟨.struct [(0, 3), (1, 104), (4, 4)], 5, 32, [.int .i64 0, .int .i64 0, .bool false, .bool false, .bool false], true, true⟩,
  some ⟨.struct [(0, 3), (1, 104), (4, 4)], 5, 32, [.int .i64 0, .int .i64 0, .bool false, .bool false, .bool false], true, true⟩,
  some ⟨.func, 1, 8, [.nilf], false, false⟩,
  some ⟨.func, 1, 8, [.nilf], false, false⟩,
  some ⟨.func, 1, 8, [.nilf], false, false⟩,
  some ⟨.func, 1, 8, [.nilf], false, false⟩,
  some ⟨.func, 1, 8, [.nilf], false, false⟩,
  some ⟨.slice 104, 1, 24, [.nils], false, false⟩,
  none,
  some ⟨.func, 1, 8, [.nilf], false, false⟩,
  some ⟨.func, 1, 8, [.nilf], false, false⟩,
  some ⟨.func, 1, 8, [.nilf], false, false⟩,
  some ⟨.func, 1, 8, [.nilf], false, false⟩,
  some ⟨.func, 1, 8, [.nilf], false, false⟩,
  some ⟨.func, 1, 8, [.nilf], false, false⟩,
  some ⟨.func, 1, 8, [.nilf], false, false⟩,
  some ⟨.slice 41, 1, 24, [.nils], false, false⟩,
  none,
  some ⟨.func, 1, 8, [.nilf], false, false⟩,
  some ⟨.func, 1, 8, [.nilf], false, false⟩,
  some ⟨.func, 1, 8, [.nilf], false, false⟩,
  some ⟨.ptr, 1, 8, [.nilp], false, false⟩,
  some ⟨.func, 1, 8, [.nilf], false, false⟩,
  some ⟨.func, 1, 8, [.nilf], false, false⟩,
  some ⟨.func, 1, 8, [.nilf], false, false⟩,
  some ⟨.func, 1, 8, [.nilf], false, false⟩,
  some ⟨.int .u64, 1, 8, [.int .u64 0], false, false⟩,
  some ⟨.func, 1, 8, [.nilf], false, false⟩,
  some ⟨.func, 1, 8, [.nilf], false, false⟩,
  some ⟨.func, 1, 8, [.nilf], false, false⟩,
  some ⟨.func, 1, 8, [.nilf], false, false⟩,
  some ⟨.func, 1, 8, [.nilf], false, false⟩,
  some ⟨.func, 1, 8, [.nilf], false, false⟩,
  some ⟨.ptr, 1, 8, [.nilp], false, false⟩,
  none,
  some ⟨.func, 1, 8, [.nilf], false, false⟩,
  some ⟨.ptr, 1, 8, [.nilp], false, false⟩,
  some ⟨.map 184 198, 1, 8, [.nilm], false, false⟩,
  some ⟨.struct [(0, 138), (1, 142)], 2, 16, [.nilp, .nilm], false, false⟩,
  some ⟨.struct [(0, 138), (1, 142)], 2, 16, [.nilp, .nilm], false, false⟩,
  none,
  some ⟨.func, 1, 8, [.nilf], false, false⟩,
  some ⟨.func, 1, 8, [.nilf], false, false⟩,
  some ⟨.int .i64, 1, 8, [.int .i64 0], false, false⟩,
  none,
  some ⟨.func, 1, 8, [.nilf], false, false⟩,
  some ⟨.func, 1, 8, [.nilf], false, false⟩,
  some ⟨.func, 1, 8, [.nilf], false, false⟩,
  some ⟨.func, 1, 8, [.nilf], false, false⟩,
  some ⟨.func, 1, 8, [.nilf], false, false⟩,
  some ⟨.int .u32, 1, 4, [.int .u32 0], false, false⟩,
  some ⟨.func, 1, 8, [.nilf], false, false⟩,
  some ⟨.int .u64, 1, 8, [.int .u64 0], false, false⟩,
  some ⟨.func, 1, 8, [.nilf], false, false⟩,
  some ⟨.func, 1, 8, [.nilf], false, false⟩,
  some ⟨.func, 1, 8, [.nilf], false, false⟩,
  some ⟨.func, 1, 8, [.nilf], false, false⟩,
  some ⟨.func, 1, 8, [.nilf], false, false⟩,
  some ⟨.func, 1, 8, [.nilf], false, false⟩,
  some ⟨.func, 1, 8, [.nilf], false, false⟩,
  some ⟨.func, 1, 8, [.nilf], false, false⟩,
  some ⟨.slice 169, 1, 24, [.nils], false, false⟩,
  some ⟨.struct [(0, 24), (5, 92), (6, 166), (7, 3)], 8, 128, [.nils, .nils, .int .i64 0, .int .i64 0, .int .i64 0, .nils, .nils, .int .i64 0], false, false⟩,
  some ⟨.struct [(0, 24), (5, 92), (6, 166), (7, 3)], 8, 128, [.nils, .nils, .int .i64 0, .int .i64 0, .int .i64 0, .nils, .nils, .int .i64 0], false, false⟩,
  some ⟨.ptr, 1, 8, [.nilp], false, false⟩,
  some ⟨.map 91 3, 1, 8, [.nilm], false, false⟩,
  some ⟨.slice 91, 1, 24, [.nils], false, false⟩,
  some ⟨.slice 179, 1, 24, [.nils], false, false⟩,
  some ⟨.slice 4, 1, 24, [.nils], false, false⟩,
  some ⟨.struct [(0, 171), (1, 170), (2, 172), (3, 173), (4, 22)], 5, 104, [.nils, .nilm, .nils, .nils, .nils], false, false⟩,
  some ⟨.struct [(0, 171), (1, 170), (2, 172), (3, 173), (4, 22)], 5, 104, [.nils, .nilm, .nils, .nils, .nils], false, false⟩,
  some ⟨.func, 1, 8, [.nilf], false, false⟩,
  some ⟨.func, 1, 8, [.nilf], false, false⟩,
  some ⟨.struct [(0, 3), (1, 3)], 2, 16, [.int .i64 0, .int .i64 0], true, true⟩,
  some ⟨.struct [(0, 3), (1, 3)], 2, 16, [.int .i64 0, .int .i64 0], true, true⟩,
  some ⟨.func, 1, 8, [.nilf], false, false⟩,
  some ⟨.func, 1, 8, [.nilf], false, false⟩,
  some ⟨.func, 1, 8, [.nilf], false, false⟩,
  some ⟨.struct [(0, 3), (1, 3)], 2, 16, [.int .i64 0, .int .i64 0], true, true⟩,
  some ⟨.struct [(0, 3), (1, 3)], 2, 16, [.int .i64 0, .int .i64 0], true, true⟩,
  some ⟨.struct [(0, 179), (2, 3), (3, 3)], 4, 32, [.int .i64 0, .int .i64 0, .int .i64 0, .int .i64 0], true, true⟩,
  some ⟨.struct [(0, 179), (2, 3), (3, 3)], 4, 32, [.int .i64 0, .int .i64 0, .int .i64 0, .int .i64 0], true, true⟩,
  none,
  some ⟨.func, 1, 8, [.nilf], false, false⟩,
  some ⟨.struct [(0, 22), (1, 179), (3, 3)], 4, 48, [.nils, .int .i64 0, .int .i64 0, .int .i64 0], false, false⟩,
  some ⟨.struct [(0, 22), (1, 179), (3, 3)], 4, 48, [.nils, .int .i64 0, .int .i64 0, .int .i64 0], false, false⟩,
  some ⟨.slice 190, 1, 24, [.nils], false, false⟩,
  some ⟨.slice 186, 1, 24, [.nils], false, false⟩,
  some ⟨.func, 1, 8, [.nilf], false, false⟩,
  some ⟨.struct [(0, 192), (1, 193)], 2, 32, [.nils, .nilf], false, false⟩,
  some ⟨.struct [(0, 192), (1, 193)], 2, 32, [.nils, .nilf], false, false⟩,
  some ⟨.struct [(0, 191), (1, 192), (2, 195), (4, 4)], 5, 88, [.nils, .nils, .nils, .nilf, .bool false], false, false⟩,
  some ⟨.struct [(0, 191), (1, 192), (2, 195), (4, 4)], 5, 88, [.nils, .nils, .nils, .nilf, .bool false], false, false⟩,
  some ⟨.ptr, 1, 8, [.nilp], false, false⟩,
  some ⟨.func, 1, 8, [.nilf], false, false⟩,
  some ⟨.int .u64, 1, 8, [.int .u64 0], false, false⟩,
  some ⟨.func, 1, 8, [.nilf], false, false⟩,
  some ⟨.func, 1, 8, [.nilf], false, false⟩,
  some ⟨.func, 1, 8, [.nilf], false, false⟩,
  some ⟨.ptr, 1, 8, [.nilp], false, false⟩,
  some ⟨.func, 1, 8, [.nilf], false, false⟩,
  some ⟨.func, 1, 8, [.nilf], false, false⟩,
  some ⟨.func, 1, 8, [.nilf], false, false⟩,
  some ⟨.func, 1, 8, [.nilf], false, false⟩,
  some ⟨.func, 1, 8, [.nilf], false, false⟩,
  some ⟨.func, 1, 8, [.nilf], false, false⟩,
  some ⟨.func, 1, 8, [.nilf], false, false⟩,
  some ⟨.func, 1, 8, [.nilf], false, false⟩,
  some ⟨.func, 1, 8, [.nilf], false, false⟩,
  some ⟨.ptr, 1, 8, [.nilp], false, false⟩,
  none,
  some ⟨.func, 1, 8, [.nilf], false, false⟩,
  some ⟨.func, 1, 8, [.nilf], false, false⟩,
  some ⟨.func, 1, 8, [.nilf], false, false⟩,
  some ⟨.func, 1, 8, [.nilf], false, false⟩,
  some ⟨.func, 1, 8, [.nilf], false, false⟩,
  some ⟨.func, 1, 8, [.nilf], false, false⟩,
  some ⟨.func, 1, 8, [.nilf], false, false⟩,
  some ⟨.ptr, 1, 8, [.nilp], false, false⟩,
  some ⟨.func, 1, 8, [.nilf], false, false⟩,
  some ⟨.func, 1, 8, [.nilf], false, false⟩,
  some ⟨.func, 1, 8, [.nilf], false, false⟩,
  some ⟨.func, 1, 8, [.nilf], false, false⟩,
  some ⟨.func, 1, 8, [.nilf], false, false⟩,
  some ⟨.func, 1, 8, [.nilf], false, false⟩,
  some ⟨.func, 1, 8, [.nilf], false, false⟩,
  some ⟨.func, 1, 8, [.nilf], false, false⟩,
  some ⟨.func, 1, 8, [.nilf], false, false⟩,
  some ⟨.struct [(0, 17), (1, 17), (2, 17), (3, 9)], 4, 40, [.nilp, .nilp, .nilp, .str .empty], false, false⟩,
  some ⟨.struct [(0, 17), (1, 17), (2, 17), (3, 9)], 4, 40, [.nilp, .nilp, .nilp, .str .empty], false, false⟩,
  some ⟨.arr 0 16, 0, 0, [], false, false⟩,
  some ⟨.struct [(0, 235)], 0, 0, [], false, false⟩,
  some ⟨.struct [(0, 235)], 0, 0, [], false, false⟩,
  some ⟨.func, 1, 8, [.nilf], false, false⟩,
  some ⟨.int .u8, 1, 1, [.int .u8 0], false, false⟩,
  some ⟨.int .u8, 1, 1, [.int .u8 0], false, false⟩,
  some ⟨.func, 1, 8, [.nilf], false, false⟩,
  some ⟨.ptr, 1, 8, [.nilp], false, false⟩,
  some ⟨.int .i32, 1, 4, [.int .i32 0], false, false⟩,
  some ⟨.int .i32, 1, 4, [.int .i32 0], false, false⟩,
  some ⟨.struct [(0, 12), (1, 12), (2, 155), (3, 239), (4, 5), (5, 5), (6, 240), (7, 241), (8, 242), (9, 243), (10, 244)], 11, 48, [.int .u64 0, .int .u64 0, .int .u32 0, .int .u8 0, .int .u8 0, .int .u8 0, .int .u8 0, .nilf, .nilp, .int .i32 0, .int .i32 0], false, false⟩,
  some ⟨.struct [(0, 12), (1, 12), (2, 155), (3, 239), (4, 5), (5, 5), (6, 240), (7, 241), (8, 242), (9, 243), (10, 244)], 11, 48, [.int .u64 0, .int .u64 0, .int .u32 0, .int .u8 0, .int .u8 0, .int .u8 0, .int .u8 0, .nilf, .nilp, .int .i32 0, .int .i32 0], false, false⟩,
  none]
def okL : List Nat := [3, 4, 5, 6, 7, 8, 9, 10, 11, 12, 13, 14, 15, 16, 17, 18, 19, 20, 21, 22, 23, 24, 25, 26, 27, 28, 29, 30, 31, 32, 33, 34, 35, 36, 37, 38, 39, 40, 41, 42, 43, 44, 45, 46, 47, 48, 49, 50, 51, 52, 53, 54, 55, 56, 57, 58, 59, 60, 61, 62, 63, 64, 65, 66, 67, 68, 69, 70, 71, 72, 73, 74, 75, 76, 77, 78, 79, 80, 81, 82, 83, 84, 85, 86, 87, 88, 89, 90, 91, 92, 93, 94, 95, 96, 97, 98, 99, 100, 101, 102, 103, 104, 105, 106, 107, 108, 109, 110, 111, 112, 113, 114, 115, 116, 117, 118, 119, 120, 121, 122, 123, 124, 125, 126, 127, 128, 129, 130, 131, 132, 133, 134, 135, 136, 137, 138, 139, 140, 141, 142, 143, 144, 145, 146, 147, 148, 149, 150, 151, 152, 153, 154, 155, 156, 158, 159, 160, 161]
def pureL : List Nat := [15, 16, 17, 18, 19, 20, 21, 22, 23, 24, 25, 26, 27, 28, 29, 30, 31, 32, 33, 34, 35, 36, 37, 38, 39, 40, 41, 42, 43, 44, 45, 46, 47, 48, 49, 50, 51, 52, 53, 54, 55, 56, 57, 58, 59, 60, 61, 62, 63, 66, 67, 68, 69, 70, 71, 72, 73, 74, 75, 77, 79, 80, 81, 82, 83, 84, 85, 87, 88, 89, 90, 92, 93, 97, 98, 99, 100, 101, 102, 103, 104, 105, 106, 107, 108, 110, 111, 112, 113, 114, 115, 116, 117, 118, 123, 124, 127, 128, 129, 130, 131, 132, 133, 134, 135, 140]
theorem tab_eq : tab = (List.range 248).map (tdOf Try.prog) := by kernel_rfl
/-- the context in which the functions h hand back new memory, and the functions np see the caller's heap -/
noncomputable def Cx (h np : List Nat) : Ctx := { P := Try.prog, ti := tiTab tab, fnok := fun f => okL.contains f, pureFn := fun f => pureL.contains f && !h.contains f && !np.contains f, hFn := fun f => h.contains f }
noncomputable def C : Ctx := Cx [] []
theorem fine : okL.all (fnFine Try.prog) = true := by kernel_rfl
theorem laid : laidOutB Try.prog = true := by kernel_rfl
theorem few : Try.prog.types.size + 2 ≤ 10000 := of_decide_eq_true (by kernel_rfl)
theorem tok : TOk Try.prog (tiTab tab) := tiTab_ok laid few tab_eq
theorem okx (h np : List Nat) : COk (Cx h np) := cok_of okL tok fine fun f hf => by simpa [Cx] using hf
theorem ok : COk C := okx [] []
theorem mixed : Try.prog.follows .mixedOrders = true := Try.checked.mixed
/-- the context of what is evaluated at once: the functions p see nothing of the heap, the functions x leave it as it is -/
noncomputable def Ce (p x : List Nat) : Ctx := { P := Try.prog, ti := tiTab tab, fnok := fun f => okL.contains f, pureFn := fun f => p.contains f, xFn := fun f => x.contains f }
theorem oke (p x : List Nat) : COk (Ce p x) := cok_of okL tok fine fun f hf => by simpa [Ce] using hf
end Go.Ab.V

/-
  Closed functions, evaluated at once. No condition.
-/
namespace Go.Ab.V
open Go.Proofs

noncomputable def xfetch : FuncId → Option Func := fun f => match f with
  | 15 => some Try.f15
  | 17 => some Try.f17
  | 21 => some Try.f21
  | 45 => some Try.f45
  | 49 => some Try.f49
  | 50 => some Try.f50
  | 51 => some Try.f51
  | 52 => some Try.f52
  | 53 => some Try.f53
  | 54 => some Try.f54
  | 55 => some Try.f55
  | 76 => some Try.f76
  | 77 => some Try.f77
  | 78 => some Try.f78
  | 83 => some Try.f83
  | 84 => some Try.f84
  | 94 => some Try.f94
  | 95 => some Try.f95
  | 96 => some Try.f96
  | 107 => some Try.f107
  | 119 => some Try.f119
  | 120 => some Try.f120
  | 121 => some Try.f121
  | 122 => some Try.f122
  | 123 => some Try.f123
  | 124 => some Try.f124
  | 125 => some Try.f125
  | 126 => some Try.f126
  | 136 => some Try.f136
  | 137 => some Try.f137
  | 138 => some Try.f138
  | 139 => some Try.f139
  | 140 => some Try.f140
  | 141 => some Try.f141
  | 152 => some Try.f152
  | 153 => some Try.f153
  | 158 => some Try.f158
  | 160 => some Try.f160
  | 161 => some Try.f161
  | _ => none
noncomputable def xord : FuncId → Nat → Option Plan := fun f r => match f, r with
  | 96, 5 => some (.one 0 (.one 1 (.one 2 (.one 3 (.one 4 (.one 6 (.br 5 7 (.one 7 (.one 8 (.one 9 (.done)))) (.one 5 (.one 8 (.one 9 (.done)))))))))))
  | 96, 7 => some (.one 0 (.one 1 (.one 6 (.br3 2 7 10 (.one 3 (.one 4 (.one 5 (.one 7 (.one 8 (.one 9 (.one 10 (.one 11 (.done))))))))) (.br 2 10 (.one 3 (.one 4 (.one 5 (.one 8 (.one 9 (.one 10 (.one 11 (.done)))))))) (.one 2 (.one 3 (.one 4 (.one 5 (.one 8 (.one 9 (.one 11 (.done))))))))) (.br 2 7 (.one 3 (.one 4 (.one 5 (.one 7 (.one 8 (.one 9 (.one 11 (.done)))))))) (.one 2 (.one 3 (.one 4 (.one 5 (.one 8 (.one 9 (.one 11 (.done)))))))))))))
  | 139, 3 => some (.one 0 (.one 1 (.one 2 (.one 3 (.one 4 (.one 5 (.one 6 (.one 7 (.one 8 (.one 9 (.br 10 12 (.one 11 (.one 12 (.one 13 (.one 14 (.one 15 (.done)))))) (.one 10 (.one 11 (.one 13 (.one 14 (.one 15 (.done)))))))))))))))))
  | 141, 4 => some (.one 1 (.one 2 (.one 3 (.one 4 (.one 5 (.one 7 (.one 8 (.br 0 6 (.one 6 (.one 9 (.one 10 (.one 11 (.one 12 (.one 13 (.one 14 (.done)))))))) (.one 9 (.br 0 10 (.one 10 (.one 11 (.one 12 (.one 13 (.one 14 (.done)))))) (.br 0 11 (.one 11 (.one 12 (.one 13 (.one 14 (.done))))) (.one 0 (.one 12 (.one 13 (.one 14 (.done))))))))))))))))
  | _, _ => none
noncomputable abbrev CX : Ctx := Ce [83, 84, 107, 123, 45, 124] [137, 52, 55]
theorem xfetch_ok : ∀ f fn, xfetch f = some fn → CX.P.funcs[f]? = some fn := by
  intro f fn h
  unfold xfetch at h
  split at h
  · cases h; exact Try.func15
  · cases h; exact Try.func17
  · cases h; exact Try.func21
  · cases h; exact Try.func45
  · cases h; exact Try.func49
  · cases h; exact Try.func50
  · cases h; exact Try.func51
  · cases h; exact Try.func52
  · cases h; exact Try.func53
  · cases h; exact Try.func54
  · cases h; exact Try.func55
  · cases h; exact Try.func76
  · cases h; exact Try.func77
  · cases h; exact Try.func78
  · cases h; exact Try.func83
  · cases h; exact Try.func84
  · cases h; exact Try.func94
  · cases h; exact Try.func95
  · cases h; exact Try.func96
  · cases h; exact Try.func107
  · cases h; exact Try.func119
  · cases h; exact Try.func120
  · cases h; exact Try.func121
  · cases h; exact Try.func122
  · cases h; exact Try.func123
  · cases h; exact Try.func124
  · cases h; exact Try.func125
  · cases h; exact Try.func126
  · cases h; exact Try.func136
  · cases h; exact Try.func137
  · cases h; exact Try.func138
  · cases h; exact Try.func139
  · cases h; exact Try.func140
  · cases h; exact Try.func141
  · cases h; exact Try.func152
  · cases h; exact Try.func153
  · cases h; exact Try.func158
  · cases h; exact Try.func160
  · cases h; exact Try.func161
  · cases h
def bodyOk (f : Nat) (fn : Func) : Prop := ∀ code, fn.body = some code → codeOk CX (xord f) code
theorem bodyOk_of {f : Nat} {fn : Func} (h : (match fn.body with | some c => codeOkB CX (xord f) c | none => true) = true) : bodyOk f fn := by
  intro code hc
  rw [hc] at h
  exact codeOk_of h
theorem bodyOk15 : bodyOk 15 Try.f15 := bodyOk_of (by kernel_rfl)
theorem bodyOk17 : bodyOk 17 Try.f17 := bodyOk_of (by kernel_rfl)
theorem bodyOk21 : bodyOk 21 Try.f21 := bodyOk_of (by kernel_rfl)
theorem bodyOk45 : bodyOk 45 Try.f45 := bodyOk_of (by kernel_rfl)
theorem bodyOk49 : bodyOk 49 Try.f49 := bodyOk_of (by kernel_rfl)
theorem bodyOk50 : bodyOk 50 Try.f50 := bodyOk_of (by kernel_rfl)
theorem bodyOk51 : bodyOk 51 Try.f51 := bodyOk_of (by kernel_rfl)
theorem bodyOk52 : bodyOk 52 Try.f52 := bodyOk_of (by kernel_rfl)
theorem bodyOk53 : bodyOk 53 Try.f53 := bodyOk_of (by kernel_rfl)
theorem bodyOk54 : bodyOk 54 Try.f54 := bodyOk_of (by kernel_rfl)
theorem bodyOk55 : bodyOk 55 Try.f55 := bodyOk_of (by kernel_rfl)
theorem bodyOk76 : bodyOk 76 Try.f76 := bodyOk_of (by kernel_rfl)
theorem bodyOk77 : bodyOk 77 Try.f77 := bodyOk_of (by kernel_rfl)
theorem bodyOk78 : bodyOk 78 Try.f78 := bodyOk_of (by kernel_rfl)
theorem bodyOk83 : bodyOk 83 Try.f83 := bodyOk_of (by kernel_rfl)
theorem bodyOk84 : bodyOk 84 Try.f84 := bodyOk_of (by kernel_rfl)
theorem bodyOk94 : bodyOk 94 Try.f94 := bodyOk_of (by kernel_rfl)
theorem bodyOk95 : bodyOk 95 Try.f95 := bodyOk_of (by kernel_rfl)
theorem bodyOk96 : bodyOk 96 Try.f96 := bodyOk_of (by kernel_rfl)
theorem bodyOk107 : bodyOk 107 Try.f107 := bodyOk_of (by kernel_rfl)
theorem bodyOk119 : bodyOk 119 Try.f119 := bodyOk_of (by kernel_rfl)
theorem bodyOk120 : bodyOk 120 Try.f120 := bodyOk_of (by kernel_rfl)
theorem bodyOk121 : bodyOk 121 Try.f121 := bodyOk_of (by kernel_rfl)
theorem bodyOk122 : bodyOk 122 Try.f122 := bodyOk_of (by kernel_rfl)
theorem bodyOk123 : bodyOk 123 Try.f123 := bodyOk_of (by kernel_rfl)
theorem bodyOk124 : bodyOk 124 Try.f124 := bodyOk_of (by kernel_rfl)
theorem bodyOk125 : bodyOk 125 Try.f125 := bodyOk_of (by kernel_rfl)
theorem bodyOk126 : bodyOk 126 Try.f126 := bodyOk_of (by kernel_rfl)
theorem bodyOk136 : bodyOk 136 Try.f136 := bodyOk_of (by kernel_rfl)
theorem bodyOk137 : bodyOk 137 Try.f137 := bodyOk_of (by kernel_rfl)
theorem bodyOk138 : bodyOk 138 Try.f138 := bodyOk_of (by kernel_rfl)
theorem bodyOk139 : bodyOk 139 Try.f139 := bodyOk_of (by kernel_rfl)
theorem bodyOk140 : bodyOk 140 Try.f140 := bodyOk_of (by kernel_rfl)
theorem bodyOk141 : bodyOk 141 Try.f141 := bodyOk_of (by kernel_rfl)
theorem bodyOk152 : bodyOk 152 Try.f152 := bodyOk_of (by kernel_rfl)
theorem bodyOk153 : bodyOk 153 Try.f153 := bodyOk_of (by kernel_rfl)
theorem bodyOk158 : bodyOk 158 Try.f158 := bodyOk_of (by kernel_rfl)
theorem bodyOk160 : bodyOk 160 Try.f160 := bodyOk_of (by kernel_rfl)
theorem bodyOk161 : bodyOk 161 Try.f161 := bodyOk_of (by kernel_rfl)
theorem xcode_ok : ∀ f fn code, xfetch f = some fn → fn.body = some code → codeOk CX (xord f) code := by
  intro f fn code h
  unfold xfetch at h
  split at h
  · cases h; exact bodyOk15 code
  · cases h; exact bodyOk17 code
  · cases h; exact bodyOk21 code
  · cases h; exact bodyOk45 code
  · cases h; exact bodyOk49 code
  · cases h; exact bodyOk50 code
  · cases h; exact bodyOk51 code
  · cases h; exact bodyOk52 code
  · cases h; exact bodyOk53 code
  · cases h; exact bodyOk54 code
  · cases h; exact bodyOk55 code
  · cases h; exact bodyOk76 code
  · cases h; exact bodyOk77 code
  · cases h; exact bodyOk78 code
  · cases h; exact bodyOk83 code
  · cases h; exact bodyOk84 code
  · cases h; exact bodyOk94 code
  · cases h; exact bodyOk95 code
  · cases h; exact bodyOk96 code
  · cases h; exact bodyOk107 code
  · cases h; exact bodyOk119 code
  · cases h; exact bodyOk120 code
  · cases h; exact bodyOk121 code
  · cases h; exact bodyOk122 code
  · cases h; exact bodyOk123 code
  · cases h; exact bodyOk124 code
  · cases h; exact bodyOk125 code
  · cases h; exact bodyOk126 code
  · cases h; exact bodyOk136 code
  · cases h; exact bodyOk137 code
  · cases h; exact bodyOk138 code
  · cases h; exact bodyOk139 code
  · cases h; exact bodyOk140 code
  · cases h; exact bodyOk141 code
  · cases h; exact bodyOk152 code
  · cases h; exact bodyOk153 code
  · cases h; exact bodyOk158 code
  · cases h; exact bodyOk160 code
  · cases h; exact bodyOk161 code
  · cases h
end Go.Ab.V

/-
  The example works. No condition.
-/
namespace Go.Ab.V
open Go.Proofs
set_option maxRecDepth 100000 in
theorem works_spec : PRet C.P 21 [] (.bool true) := pret_true (C := CX) (oke _ _) mixed rfl 100 40 xfetch_ok xcode_ok (by kernel_rfl)
end Go.Ab.V
