/-
  What is proved here serves the law's text: each part says its own claim and its conditions. No condition is left open.
-/
import Derived.Test.YtchkiolagohnlaaChecked
import Derived.KernelRfl
import Derived.Eval
import Derived.Test.YtchkiolagohnlaaKL
set_option linter.unusedSimpArgs false
set_option linter.unusedVariables false

/-
  The program of this seat as a context: its table of types, its functions. No condition.
-/
namespace Go.Ab.V
open Go.Proofs

def tab : List (Option TD) := [none,
  some ⟨.func, 1, 8, [.nilf], false, false⟩,
  some ⟨.int .i64, 1, 8, [.int .i64 0], false, false⟩,
  some ⟨.int .i64, 1, 8, [.int .i64 0], false, false⟩,
  some ⟨.bool, 1, 1, [.bool false], false, false⟩,
  some ⟨.int .u8, 1, 1, [.int .u8 0], false, false⟩,
  some ⟨.int .u8, 1, 1, [.int .u8 0], false, false⟩,
  some ⟨.struct [(0, 2), (1, 3), (2, 4), (3, 6)], 4, 24, [.int .i64 0, .int .i64 0, .bool false, .int .u8 0], true, true⟩,
  some ⟨.struct [(0, 2), (1, 3), (2, 4), (3, 6)], 4, 24, [.int .i64 0, .int .i64 0, .bool false, .int .u8 0], true, false⟩,
  some ⟨.str, 1, 16, [.str .empty], false, false⟩,
  some ⟨.str, 1, 16, [.str .empty], false, false⟩,
  some ⟨.str, 1, 16, [.str .empty], false, false⟩,
  some ⟨.int .u64, 1, 8, [.int .u64 0], false, false⟩,
  some ⟨.struct [(0, 9), (1, 12)], 2, 24, [.str .empty, .int .u64 0], false, false⟩,
  some ⟨.struct [(0, 9), (1, 12)], 2, 24, [.str .empty, .int .u64 0], false, false⟩,
  some ⟨.ptr, 1, 8, [.nilp], false, false⟩,
  some ⟨.ptr, 1, 8, [.nilp], false, false⟩,
  some ⟨.ptr, 1, 8, [.nilp], false, false⟩,
  some ⟨.struct [(0, 17)], 1, 8, [.nilp], false, false⟩,
  some ⟨.struct [(0, 17)], 1, 8, [.nilp], false, false⟩,
  none,
  some ⟨.int .i32, 1, 4, [.int .i32 0], false, false⟩,
  some ⟨.slice 79, 1, 24, [.nils], false, false⟩,
  some ⟨.slice 3, 1, 24, [.nils], false, false⟩,
  some ⟨.struct [(0, 22), (1, 23)], 2, 48, [.nils, .nils], false, false⟩,
  some ⟨.struct [(0, 22), (1, 23)], 2, 48, [.nils, .nils], false, false⟩,
  some ⟨.slice 59, 1, 24, [.nils], false, false⟩,
  some ⟨.struct [(0, 25), (2, 26)], 3, 72, [.nils, .nils, .nils], false, false⟩,
  some ⟨.struct [(0, 25), (2, 26)], 3, 72, [.nils, .nils, .nils], false, false⟩,
  some ⟨.func, 1, 8, [.nilf], false, false⟩,
  some ⟨.func, 1, 8, [.nilf], false, false⟩,
  some ⟨.slice 63, 1, 24, [.nils], false, false⟩,
  some ⟨.int .i64, 1, 8, [.int .i64 0], false, false⟩,
  none,
  some ⟨.func, 1, 8, [.nilf], false, false⟩,
  some ⟨.func, 1, 8, [.nilf], false, false⟩,
  some ⟨.func, 1, 8, [.nilf], false, false⟩,
  none,
  some ⟨.func, 1, 8, [.nilf], false, false⟩,
  some ⟨.func, 1, 8, [.nilf], false, false⟩,
  some ⟨.func, 1, 8, [.nilf], false, false⟩,
  some ⟨.func, 1, 8, [.nilf], false, false⟩,
  some ⟨.func, 1, 8, [.nilf], false, false⟩,
  some ⟨.slice 51, 1, 24, [.nils], false, false⟩,
  none,
  some ⟨.func, 1, 8, [.nilf], false, false⟩,
  some ⟨.slice 52, 1, 24, [.nils], false, false⟩,
  none,
  some ⟨.func, 1, 8, [.nilf], false, false⟩,
  some ⟨.func, 1, 8, [.nilf], false, false⟩,
  some ⟨.struct [(0, 3), (1, 3), (2, 3), (3, 3), (4, 3)], 5, 40, [.int .i64 0, .int .i64 0, .int .i64 0, .int .i64 0, .int .i64 0], true, true⟩,
  some ⟨.struct [(0, 3), (1, 3), (2, 3), (3, 3), (4, 3)], 5, 40, [.int .i64 0, .int .i64 0, .int .i64 0, .int .i64 0, .int .i64 0], true, true⟩,
  some ⟨.struct [(0, 3), (1, 3), (2, 3), (3, 3), (4, 3)], 5, 40, [.int .i64 0, .int .i64 0, .int .i64 0, .int .i64 0, .int .i64 0], true, true⟩,
  some ⟨.func, 1, 8, [.nilf], false, false⟩,
  some ⟨.func, 1, 8, [.nilf], false, false⟩,
  some ⟨.struct [(0, 3), (1, 4), (2, 4)], 3, 16, [.int .i64 0, .bool false, .bool false], true, true⟩,
  some ⟨.struct [(0, 3), (1, 4), (2, 4)], 3, 16, [.int .i64 0, .bool false, .bool false], true, true⟩,
  some ⟨.slice 61, 1, 24, [.nils], false, false⟩,
  some ⟨.struct [(0, 4), (1, 56), (4, 4), (5, 57)], 6, 56, [.bool false, .int .i64 0, .bool false, .bool false, .bool false, .nils], false, false⟩,
  some ⟨.struct [(0, 4), (1, 56), (4, 4), (5, 57)], 6, 56, [.bool false, .int .i64 0, .bool false, .bool false, .bool false, .nils], false, false⟩,
  some ⟨.struct [(0, 3), (1, 3), (2, 3), (3, 3), (4, 3)], 5, 40, [.int .i64 0, .int .i64 0, .int .i64 0, .int .i64 0, .int .i64 0], true, true⟩,
  some ⟨.struct [(0, 3), (1, 3), (2, 3), (3, 3), (4, 3)], 5, 40, [.int .i64 0, .int .i64 0, .int .i64 0, .int .i64 0, .int .i64 0], true, true⟩,
  some ⟨.struct [(0, 3), (1, 3), (2, 3), (3, 3), (4, 3)], 5, 40, [.int .i64 0, .int .i64 0, .int .i64 0, .int .i64 0, .int .i64 0], true, true⟩,
  some ⟨.struct [(0, 3), (1, 3), (2, 3), (3, 3), (4, 3)], 5, 40, [.int .i64 0, .int .i64 0, .int .i64 0, .int .i64 0, .int .i64 0], true, true⟩,
  some ⟨.func, 1, 8, [.nilf], false, false⟩,
  some ⟨.slice 69, 1, 24, [.nils], false, false⟩,
  none,
  some ⟨.func, 1, 8, [.nilf], false, false⟩,
  some ⟨.struct [(0, 3), (1, 3), (2, 23)], 3, 40, [.int .i64 0, .int .i64 0, .nils], false, false⟩,
  some ⟨.struct [(0, 3), (1, 3), (2, 23)], 3, 40, [.int .i64 0, .int .i64 0, .nils], false, false⟩,
  some ⟨.slice 114, 1, 24, [.nils], false, false⟩,
  none,
  some ⟨.func, 1, 8, [.nilf], false, false⟩,
  some ⟨.func, 1, 8, [.nilf], false, false⟩,
  some ⟨.slice 118, 1, 24, [.nils], false, false⟩,
  none,
  some ⟨.func, 1, 8, [.nilf], false, false⟩,
  some ⟨.func, 1, 8, [.nilf], false, false⟩,
  some ⟨.struct [(0, 3), (1, 3), (2, 4)], 3, 24, [.int .i64 0, .int .i64 0, .bool false], true, true⟩,
  some ⟨.struct [(0, 3), (1, 3), (2, 4)], 3, 24, [.int .i64 0, .int .i64 0, .bool false], true, true⟩,
  some ⟨.struct [(0, 28), (3, 23)], 4, 96, [.nils, .nils, .nils, .nils], false, false⟩,
  some ⟨.struct [(0, 28), (3, 23)], 4, 96, [.nils, .nils, .nils, .nils], false, false⟩,
  none,
  some ⟨.func, 1, 8, [.nilf], false, false⟩,
  none,
  some ⟨.func, 1, 8, [.nilf], false, false⟩,
  some ⟨.func, 1, 8, [.nilf], false, false⟩,
  some ⟨.func, 1, 8, [.nilf], false, false⟩,
  some ⟨.struct [(0, 3), (1, 3)], 2, 16, [.int .i64 0, .int .i64 0], true, true⟩,
  some ⟨.struct [(0, 3), (1, 3)], 2, 16, [.int .i64 0, .int .i64 0], true, true⟩,
  some ⟨.func, 1, 8, [.nilf], false, false⟩,
  some ⟨.func, 1, 8, [.nilf], false, false⟩,
  some ⟨.func, 1, 8, [.nilf], false, false⟩,
  some ⟨.func, 1, 8, [.nilf], false, false⟩,
  some ⟨.int .u64, 1, 8, [.int .u64 0], false, false⟩,
  some ⟨.func, 1, 8, [.nilf], false, false⟩,
  some ⟨.func, 1, 8, [.nilf], false, false⟩,
  some ⟨.func, 1, 8, [.nilf], false, false⟩,
  some ⟨.func, 1, 8, [.nilf], false, false⟩,
  some ⟨.func, 1, 8, [.nilf], false, false⟩,
  some ⟨.func, 1, 8, [.nilf], false, false⟩,
  some ⟨.func, 1, 8, [.nilf], false, false⟩,
  some ⟨.func, 1, 8, [.nilf], false, false⟩,
  some ⟨.func, 1, 8, [.nilf], false, false⟩,
  some ⟨.func, 1, 8, [.nilf], false, false⟩,
  some ⟨.func, 1, 8, [.nilf], false, false⟩,
  some ⟨.func, 1, 8, [.nilf], false, false⟩,
  some ⟨.func, 1, 8, [.nilf], false, false⟩,
  some ⟨.func, 1, 8, [.nilf], false, false⟩,
  some ⟨.func, 1, 8, [.nilf], false, false⟩,
  some ⟨.func, 1, 8, [.nilf], false, false⟩,
  some ⟨.func, 1, 8, [.nilf], false, false⟩,
  some ⟨.func, 1, 8, [.nilf], false, false⟩,
  some ⟨.func, 1, 8, [.nilf], false, false⟩,
  some ⟨.struct [(0, 3), (1, 3), (2, 23)], 3, 40, [.int .i64 0, .int .i64 0, .nils], false, false⟩,
  some ⟨.func, 1, 8, [.nilf], false, false⟩,
  some ⟨.func, 1, 8, [.nilf], false, false⟩,
  some ⟨.struct [(0, 3), (1, 3), (2, 3)], 3, 24, [.int .i64 0, .int .i64 0, .int .i64 0], true, true⟩,
  some ⟨.struct [(0, 3), (1, 3), (2, 3)], 3, 24, [.int .i64 0, .int .i64 0, .int .i64 0], true, true⟩,
  some ⟨.func, 1, 8, [.nilf], false, false⟩,
  some ⟨.func, 1, 8, [.nilf], false, false⟩,
  some ⟨.func, 1, 8, [.nilf], false, false⟩,
  some ⟨.func, 1, 8, [.nilf], false, false⟩,
  some ⟨.arr 15 3, 15, 120, [.int .i64 0, .int .i64 0, .int .i64 0, .int .i64 0, .int .i64 0, .int .i64 0, .int .i64 0, .int .i64 0, .int .i64 0, .int .i64 0, .int .i64 0, .int .i64 0, .int .i64 0, .int .i64 0, .int .i64 0], false, true⟩,
  some ⟨.func, 1, 8, [.nilf], false, false⟩,
  none,
  some ⟨.func, 1, 8, [.nilf], false, false⟩,
  some ⟨.func, 1, 8, [.nilf], false, false⟩,
  some ⟨.map 3 3, 1, 8, [.nilm], false, false⟩,
  some ⟨.func, 1, 8, [.nilf], false, false⟩,
  some ⟨.func, 1, 8, [.nilf], false, false⟩,
  some ⟨.func, 1, 8, [.nilf], false, false⟩,
  some ⟨.func, 1, 8, [.nilf], false, false⟩,
  some ⟨.func, 1, 8, [.nilf], false, false⟩,
  some ⟨.func, 1, 8, [.nilf], false, false⟩,
  some ⟨.func, 1, 8, [.nilf], false, false⟩,
  some ⟨.func, 1, 8, [.nilf], false, false⟩,
  some ⟨.func, 1, 8, [.nilf], false, false⟩,
  some ⟨.func, 1, 8, [.nilf], false, false⟩,
  some ⟨.func, 1, 8, [.nilf], false, false⟩,
  some ⟨.func, 1, 8, [.nilf], false, false⟩,
  some ⟨.func, 1, 8, [.nilf], false, false⟩,
  some ⟨.func, 1, 8, [.nilf], false, false⟩,
  some ⟨.func, 1, 8, [.nilf], false, false⟩,
  some ⟨.slice 56, 1, 24, [.nils], false, false⟩,
  some ⟨.func, 1, 8, [.nilf], false, false⟩,
  some ⟨.func, 1, 8, [.nilf], false, false⟩,
  some ⟨.int .i64, 1, 8, [.int .i64 0], false, false⟩,
  none,
  some ⟨.func, 1, 8, [.nilf], false, false⟩,
  some ⟨.func, 1, 8, [.nilf], false, false⟩,
  none,
  some ⟨.func, 1, 8, [.nilf], false, false⟩,
  some ⟨.func, 1, 8, [.nilf], false, false⟩,
  some ⟨.int .u32, 1, 4, [.int .u32 0], false, false⟩,
  some ⟨.func, 1, 8, [.nilf], false, false⟩,
  some ⟨.int .u64, 1, 8, [.int .u64 0], false, false⟩,
  some ⟨.func, 1, 8, [.nilf], false, false⟩,
  some ⟨.func, 1, 8, [.nilf], false, false⟩,
  some ⟨.func, 1, 8, [.nilf], false, false⟩,
  some ⟨.func, 1, 8, [.nilf], false, false⟩,
  some ⟨.func, 1, 8, [.nilf], false, false⟩,
  some ⟨.func, 1, 8, [.nilf], false, false⟩,
  some ⟨.func, 1, 8, [.nilf], false, false⟩,
  some ⟨.int .u64, 1, 8, [.int .u64 0], false, false⟩,
  some ⟨.func, 1, 8, [.nilf], false, false⟩,
  some ⟨.func, 1, 8, [.nilf], false, false⟩,
  some ⟨.func, 1, 8, [.nilf], false, false⟩,
  some ⟨.ptr, 1, 8, [.nilp], false, false⟩,
  some ⟨.func, 1, 8, [.nilf], false, false⟩,
  some ⟨.func, 1, 8, [.nilf], false, false⟩,
  some ⟨.func, 1, 8, [.nilf], false, false⟩,
  some ⟨.ptr, 1, 8, [.nilp], false, false⟩,
  none,
  some ⟨.func, 1, 8, [.nilf], false, false⟩,
  some ⟨.func, 1, 8, [.nilf], false, false⟩,
  some ⟨.func, 1, 8, [.nilf], false, false⟩,
  some ⟨.struct [(0, 17), (1, 17), (2, 17), (3, 9)], 4, 40, [.nilp, .nilp, .nilp, .str .empty], false, false⟩,
  some ⟨.struct [(0, 17), (1, 17), (2, 17), (3, 9)], 4, 40, [.nilp, .nilp, .nilp, .str .empty], false, false⟩,
  some ⟨.arr 0 16, 0, 0, [], false, false⟩,
  some ⟨.struct [(0, 179)], 0, 0, [], false, false⟩,
  some ⟨.struct [(0, 179)], 0, 0, [], false, false⟩,
  some ⟨.int .u8, 1, 1, [.int .u8 0], false, false⟩,
  some ⟨.int .u8, 1, 1, [.int .u8 0], false, false⟩,
  some ⟨.func, 1, 8, [.nilf], false, false⟩,
  some ⟨.ptr, 1, 8, [.nilp], false, false⟩,
  some ⟨.int .i32, 1, 4, [.int .i32 0], false, false⟩,
  some ⟨.int .i32, 1, 4, [.int .i32 0], false, false⟩,
  some ⟨.struct [(0, 12), (1, 12), (2, 154), (3, 182), (4, 5), (5, 5), (6, 183), (7, 184), (8, 185), (9, 186), (10, 187)], 11, 48, [.int .u64 0, .int .u64 0, .int .u32 0, .int .u8 0, .int .u8 0, .int .u8 0, .int .u8 0, .nilf, .nilp, .int .i32 0, .int .i32 0], false, false⟩,
  some ⟨.struct [(0, 12), (1, 12), (2, 154), (3, 182), (4, 5), (5, 5), (6, 183), (7, 184), (8, 185), (9, 186), (10, 187)], 11, 48, [.int .u64 0, .int .u64 0, .int .u32 0, .int .u8 0, .int .u8 0, .int .u8 0, .int .u8 0, .nilf, .nilp, .int .i32 0, .int .i32 0], false, false⟩,
  none]
def okL : List Nat := [3, 4, 5, 6, 7, 8, 9, 10, 11, 12, 13, 14, 15, 16, 17, 18, 19, 20, 21, 22, 23, 24, 25, 26, 27, 28, 29, 30, 31, 32, 33, 34, 35, 36, 37, 38, 39, 40, 41, 42, 43, 44, 45, 46, 47, 48, 49, 50, 51, 52, 53, 54, 55, 56, 57, 58, 59, 60, 61, 62, 63, 64, 65, 66, 67, 68, 69, 70, 71, 72, 73, 74, 75, 76, 77, 78, 79, 80, 81, 82, 83, 84, 85, 86, 87, 88, 89, 90, 91, 92, 93, 94, 95, 96, 97, 98, 99, 100, 101, 102, 103, 104, 105, 106, 107, 108, 109, 110, 111, 112, 113, 114, 115, 116, 117, 118, 119, 120, 121, 122, 123, 124, 125, 126, 127, 128, 129, 130, 131, 132, 133, 134, 135, 136, 137, 138, 139, 140, 141, 142, 143, 144, 145, 146]
def pureL : List Nat := [15, 16, 17, 18, 19, 20, 21, 22, 23, 24, 25, 26, 27, 28, 29, 30, 31, 32, 33, 34, 35, 36, 37, 38, 39, 40, 41, 42, 43, 44, 45, 46, 47, 48, 49, 50, 51, 52, 53, 54, 55, 56, 57, 58, 59, 60, 61, 62, 63, 64, 65, 66, 67, 68, 69, 70, 71, 72, 73, 74, 75, 76, 77, 78, 79, 80, 81, 82, 83, 84, 85, 86, 88, 89, 90, 91, 92, 93, 94, 95, 96, 97, 98, 99, 100, 101, 102, 103, 105, 106, 107, 108, 109, 110, 111, 112, 113, 114, 115, 116, 117, 118, 119, 120, 121, 122, 123, 124, 125, 126, 127, 128, 129, 130, 131, 132, 133, 134, 135, 136, 137, 138, 139, 140, 141, 142, 143, 144, 146]
theorem tab_eq : tab = (List.range 191).map (tdOf Try.prog) := by kernel_rfl
/-- the context in which the functions h hand back new memory, and the functions np see the caller's heap -/
noncomputable def Cx (h np : List Nat) : Ctx := { P := Try.prog, ti := tiTab tab, fnok := fun f => okL.contains f, pureFn := fun f => pureL.contains f && !h.contains f && !np.contains f, hFn := fun f => h.contains f }
noncomputable def C : Ctx := Cx [] []
theorem fine : okL.all (fnFine Try.prog) = true := by kernel_rfl
theorem laid : laidOutB Try.prog = true := by kernel_rfl
theorem few : Try.prog.types.size + 2 ≤ 10000 := of_decide_eq_true (by kernel_rfl)
theorem tok : TOk Try.prog (tiTab tab) := tiTab_ok laid few tab_eq
theorem okx (h np : List Nat) : COk (Cx h np) := cok_of okL tok fine fun f hf => by simpa [Cx] using hf
theorem ok : COk C := okx [] []
theorem mixed : Try.prog.follows .mixedOrders = true := Try.checked.mixed
/-- the context of what is evaluated at once: the functions p see nothing of the heap, the functions x leave it as it is -/
noncomputable def Ce (p x : List Nat) : Ctx := { P := Try.prog, ti := tiTab tab, fnok := fun f => okL.contains f, pureFn := fun f => p.contains f, xFn := fun f => x.contains f }
theorem oke (p x : List Nat) : COk (Ce p x) := cok_of okL tok fine fun f hf => by simpa [Ce] using hf
end Go.Ab.V

/-
  Closed functions, evaluated at once. No condition.
-/
namespace Go.Ab.V
open Go.Proofs

noncomputable def xfetch : FuncId → Option Func := fun f => match f with
  | 17 => some Try.f17
  | 21 => some Try.f21
  | 24 => some Try.f24
  | 27 => some Try.f27
  | 50 => some Try.f50
  | 51 => some Try.f51
  | 56 => some Try.f56
  | 59 => some Try.f59
  | 87 => some Try.f87
  | 88 => some Try.f88
  | 89 => some Try.f89
  | 92 => some Try.f92
  | 93 => some Try.f93
  | 101 => some Try.f101
  | 108 => some Try.f108
  | 109 => some Try.f109
  | 112 => some Try.f112
  | 118 => some Try.f118
  | 121 => some Try.f121
  | 122 => some Try.f122
  | 124 => some Try.f124
  | _ => none
noncomputable def xord : FuncId → Nat → Option Plan := fun f r => match f, r with
  | 51, 20 => some (.one 0 (.one 1 (.one 3 (.one 4 (.one 5 (.br3 2 6 8 (.br 6 8 (.one 7 (.one 8 (.one 9 (.done)))) (.one 6 (.one 7 (.one 9 (.done))))) (.one 2 (.one 7 (.one 8 (.one 9 (.done))))) (.br 2 6 (.one 6 (.one 7 (.one 9 (.done)))) (.one 2 (.one 7 (.one 9 (.done)))))))))))
  | 51, 22 => some (.one 0 (.one 2 (.one 3 (.one 4 (.one 5 (.br 1 6 (.one 6 (.one 7 (.one 8 (.one 9 (.one 10 (.one 11 (.done))))))) (.one 1 (.one 7 (.one 8 (.one 9 (.one 10 (.one 11 (.done)))))))))))))
  | _, _ => none
noncomputable abbrev CX : Ctx := Ce [21, 42, 57] []
theorem xfetch_ok : ∀ f fn, xfetch f = some fn → CX.P.funcs[f]? = some fn := by
  intro f fn h
  unfold xfetch at h
  split at h
  · cases h; exact Try.func17
  · cases h; exact Try.func21
  · cases h; exact Try.func24
  · cases h; exact Try.func27
  · cases h; exact Try.func50
  · cases h; exact Try.func51
  · cases h; exact Try.func56
  · cases h; exact Try.func59
  · cases h; exact Try.func87
  · cases h; exact Try.func88
  · cases h; exact Try.func89
  · cases h; exact Try.func92
  · cases h; exact Try.func93
  · cases h; exact Try.func101
  · cases h; exact Try.func108
  · cases h; exact Try.func109
  · cases h; exact Try.func112
  · cases h; exact Try.func118
  · cases h; exact Try.func121
  · cases h; exact Try.func122
  · cases h; exact Try.func124
  · cases h
def bodyOk (f : Nat) (fn : Func) : Prop := ∀ code, fn.body = some code → codeOk CX (xord f) code
theorem bodyOk_of {f : Nat} {fn : Func} (h : (match fn.body with | some c => codeOkB CX (xord f) c | none => true) = true) : bodyOk f fn := by
  intro code hc
  rw [hc] at h
  exact codeOk_of h
theorem bodyOk17 : bodyOk 17 Try.f17 := bodyOk_of (by kernel_rfl)
theorem bodyOk21 : bodyOk 21 Try.f21 := bodyOk_of (by kernel_rfl)
theorem bodyOk24 : bodyOk 24 Try.f24 := bodyOk_of (by kernel_rfl)
theorem bodyOk27 : bodyOk 27 Try.f27 := bodyOk_of (by kernel_rfl)
theorem bodyOk50 : bodyOk 50 Try.f50 := bodyOk_of (by kernel_rfl)
theorem bodyOk51 : bodyOk 51 Try.f51 := bodyOk_of (by kernel_rfl)
theorem bodyOk56 : bodyOk 56 Try.f56 := bodyOk_of (by kernel_rfl)
theorem bodyOk59 : bodyOk 59 Try.f59 := bodyOk_of (by kernel_rfl)
theorem bodyOk87 : bodyOk 87 Try.f87 := bodyOk_of (by kernel_rfl)
theorem bodyOk88 : bodyOk 88 Try.f88 := bodyOk_of (by kernel_rfl)
theorem bodyOk89 : bodyOk 89 Try.f89 := bodyOk_of (by kernel_rfl)
theorem bodyOk92 : bodyOk 92 Try.f92 := bodyOk_of (by kernel_rfl)
theorem bodyOk93 : bodyOk 93 Try.f93 := bodyOk_of (by kernel_rfl)
theorem bodyOk101 : bodyOk 101 Try.f101 := bodyOk_of (by kernel_rfl)
theorem bodyOk108 : bodyOk 108 Try.f108 := bodyOk_of (by kernel_rfl)
theorem bodyOk109 : bodyOk 109 Try.f109 := bodyOk_of (by kernel_rfl)
theorem bodyOk112 : bodyOk 112 Try.f112 := bodyOk_of (by kernel_rfl)
theorem bodyOk118 : bodyOk 118 Try.f118 := bodyOk_of (by kernel_rfl)
theorem bodyOk121 : bodyOk 121 Try.f121 := bodyOk_of (by kernel_rfl)
theorem bodyOk122 : bodyOk 122 Try.f122 := bodyOk_of (by kernel_rfl)
theorem bodyOk124 : bodyOk 124 Try.f124 := bodyOk_of (by kernel_rfl)
theorem xcode_ok : ∀ f fn code, xfetch f = some fn → fn.body = some code → codeOk CX (xord f) code := by
  intro f fn code h
  unfold xfetch at h
  split at h
  · cases h; exact bodyOk17 code
  · cases h; exact bodyOk21 code
  · cases h; exact bodyOk24 code
  · cases h; exact bodyOk27 code
  · cases h; exact bodyOk50 code
  · cases h; exact bodyOk51 code
  · cases h; exact bodyOk56 code
  · cases h; exact bodyOk59 code
  · cases h; exact bodyOk87 code
  · cases h; exact bodyOk88 code
  · cases h; exact bodyOk89 code
  · cases h; exact bodyOk92 code
  · cases h; exact bodyOk93 code
  · cases h; exact bodyOk101 code
  · cases h; exact bodyOk108 code
  · cases h; exact bodyOk109 code
  · cases h; exact bodyOk112 code
  · cases h; exact bodyOk118 code
  · cases h; exact bodyOk121 code
  · cases h; exact bodyOk122 code
  · cases h; exact bodyOk124 code
  · cases h
end Go.Ab.V
