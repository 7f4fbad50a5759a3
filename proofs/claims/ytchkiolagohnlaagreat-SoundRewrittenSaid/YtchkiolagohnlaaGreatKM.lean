/-
  What is proved here serves the law's text: each part says its own claim and its conditions. No condition is left open.
-/
import Derived.Test.YtchkiolagohnlaaGreatChecked
import Derived.KernelRfl
import Derived.Eval
import Derived.Test.YtchkiolagohnlaaGreatKL
set_option linter.unusedSimpArgs false
set_option linter.unusedVariables false

/-
  The program of this seat as a context: its table of types, its functions. No condition.
-/
namespace Go.Ab.V
open Go.Proofs

def tab : List (Option TD) := [none,
  some ⟨.func, 1, 8, [.nilf], false, false⟩,
  some ⟨.int .i64, 1, 8, [.int .i64 0], false, false⟩,
  some ⟨.int .i64, 1, 8, [.int .i64 0], false, false⟩,
  some ⟨.bool, 1, 1, [.bool false], false, false⟩,
  some ⟨.int .u8, 1, 1, [.int .u8 0], false, false⟩,
  some ⟨.int .u8, 1, 1, [.int .u8 0], false, false⟩,
  some ⟨.struct [(0, 2), (1, 3), (2, 4), (3, 6)], 4, 24, [.int .i64 0, .int .i64 0, .bool false, .int .u8 0], true, true⟩,
  some ⟨.struct [(0, 2), (1, 3), (2, 4), (3, 6)], 4, 24, [.int .i64 0, .int .i64 0, .bool false, .int .u8 0], true, false⟩,
  some ⟨.str, 1, 16, [.str .empty], false, false⟩,
  some ⟨.str, 1, 16, [.str .empty], false, false⟩,
  some ⟨.str, 1, 16, [.str .empty], false, false⟩,
  some ⟨.int .u64, 1, 8, [.int .u64 0], false, false⟩,
  some ⟨.struct [(0, 9), (1, 12)], 2, 24, [.str .empty, .int .u64 0], false, false⟩,
  some ⟨.struct [(0, 9), (1, 12)], 2, 24, [.str .empty, .int .u64 0], false, false⟩,
  some ⟨.ptr, 1, 8, [.nilp], false, false⟩,
  some ⟨.ptr, 1, 8, [.nilp], false, false⟩,
  some ⟨.ptr, 1, 8, [.nilp], false, false⟩,
  some ⟨.struct [(0, 17)], 1, 8, [.nilp], false, false⟩,
  some ⟨.struct [(0, 17)], 1, 8, [.nilp], false, false⟩,
  none,
  some ⟨.int .i32, 1, 4, [.int .i32 0], false, false⟩,
  some ⟨.slice 45, 1, 24, [.nils], false, false⟩,
  some ⟨.slice 3, 1, 24, [.nils], false, false⟩,
  some ⟨.struct [(0, 22), (1, 23)], 2, 48, [.nils, .nils], false, false⟩,
  some ⟨.struct [(0, 22), (1, 23)], 2, 48, [.nils, .nils], false, false⟩,
  some ⟨.slice 52, 1, 24, [.nils], false, false⟩,
  some ⟨.struct [(0, 25), (2, 26)], 3, 72, [.nils, .nils, .nils], false, false⟩,
  some ⟨.struct [(0, 25), (2, 26)], 3, 72, [.nils, .nils, .nils], false, false⟩,
  some ⟨.func, 1, 8, [.nilf], false, false⟩,
  some ⟨.int .i64, 1, 8, [.int .i64 0], false, false⟩,
  some ⟨.func, 1, 8, [.nilf], false, false⟩,
  some ⟨.func, 1, 8, [.nilf], false, false⟩,
  some ⟨.slice 62, 1, 24, [.nils], false, false⟩,
  none,
  some ⟨.func, 1, 8, [.nilf], false, false⟩,
  some ⟨.func, 1, 8, [.nilf], false, false⟩,
  none,
  some ⟨.func, 1, 8, [.nilf], false, false⟩,
  some ⟨.func, 1, 8, [.nilf], false, false⟩,
  some ⟨.func, 1, 8, [.nilf], false, false⟩,
  some ⟨.func, 1, 8, [.nilf], false, false⟩,
  some ⟨.func, 1, 8, [.nilf], false, false⟩,
  some ⟨.func, 1, 8, [.nilf], false, false⟩,
  some ⟨.struct [(0, 3), (1, 3), (2, 4)], 3, 24, [.int .i64 0, .int .i64 0, .bool false], true, true⟩,
  some ⟨.struct [(0, 3), (1, 3), (2, 4)], 3, 24, [.int .i64 0, .int .i64 0, .bool false], true, true⟩,
  some ⟨.struct [(0, 3), (1, 4), (2, 4)], 3, 16, [.int .i64 0, .bool false, .bool false], true, true⟩,
  some ⟨.struct [(0, 3), (1, 4), (2, 4)], 3, 16, [.int .i64 0, .bool false, .bool false], true, true⟩,
  some ⟨.struct [(0, 3), (1, 3), (2, 3), (3, 3), (4, 3)], 5, 40, [.int .i64 0, .int .i64 0, .int .i64 0, .int .i64 0, .int .i64 0], true, true⟩,
  some ⟨.struct [(0, 3), (1, 3), (2, 3), (3, 3), (4, 3)], 5, 40, [.int .i64 0, .int .i64 0, .int .i64 0, .int .i64 0, .int .i64 0], true, true⟩,
  some ⟨.slice 49, 1, 24, [.nils], false, false⟩,
  some ⟨.struct [(0, 4), (1, 47), (4, 4), (5, 50)], 6, 56, [.bool false, .int .i64 0, .bool false, .bool false, .bool false, .nils], false, false⟩,
  some ⟨.struct [(0, 4), (1, 47), (4, 4), (5, 50)], 6, 56, [.bool false, .int .i64 0, .bool false, .bool false, .bool false, .nils], false, false⟩,
  some ⟨.slice 59, 1, 24, [.nils], false, false⟩,
  none,
  some ⟨.func, 1, 8, [.nilf], false, false⟩,
  none,
  some ⟨.func, 1, 8, [.nilf], false, false⟩,
  some ⟨.struct [(0, 3), (1, 3), (2, 3), (3, 3), (4, 3)], 5, 40, [.int .i64 0, .int .i64 0, .int .i64 0, .int .i64 0, .int .i64 0], true, true⟩,
  some ⟨.struct [(0, 3), (1, 3), (2, 3), (3, 3), (4, 3)], 5, 40, [.int .i64 0, .int .i64 0, .int .i64 0, .int .i64 0, .int .i64 0], true, true⟩,
  some ⟨.func, 1, 8, [.nilf], false, false⟩,
  some ⟨.struct [(0, 3), (1, 3), (2, 3)], 3, 24, [.int .i64 0, .int .i64 0, .int .i64 0], true, true⟩,
  some ⟨.struct [(0, 3), (1, 3), (2, 3)], 3, 24, [.int .i64 0, .int .i64 0, .int .i64 0], true, true⟩,
  some ⟨.func, 1, 8, [.nilf], false, false⟩,
  some ⟨.func, 1, 8, [.nilf], false, false⟩,
  some ⟨.func, 1, 8, [.nilf], false, false⟩,
  some ⟨.func, 1, 8, [.nilf], false, false⟩,
  some ⟨.func, 1, 8, [.nilf], false, false⟩,
  some ⟨.func, 1, 8, [.nilf], false, false⟩,
  some ⟨.func, 1, 8, [.nilf], false, false⟩,
  some ⟨.slice 4, 1, 24, [.nils], false, false⟩,
  some ⟨.ptr, 1, 8, [.nilp], false, false⟩,
  none,
  some ⟨.func, 1, 8, [.nilf], false, false⟩,
  some ⟨.func, 1, 8, [.nilf], false, false⟩,
  some ⟨.func, 1, 8, [.nilf], false, false⟩,
  some ⟨.func, 1, 8, [.nilf], false, false⟩,
  some ⟨.ptr, 1, 8, [.nilp], false, false⟩,
  some ⟨.func, 1, 8, [.nilf], false, false⟩,
  some ⟨.slice 47, 1, 24, [.nils], false, false⟩,
  none,
  some ⟨.func, 1, 8, [.nilf], false, false⟩,
  some ⟨.func, 1, 8, [.nilf], false, false⟩,
  some ⟨.func, 1, 8, [.nilf], false, false⟩,
  some ⟨.func, 1, 8, [.nilf], false, false⟩,
  some ⟨.struct [(0, 28), (3, 23)], 4, 96, [.nils, .nils, .nils, .nils], false, false⟩,
  some ⟨.struct [(0, 28), (3, 23)], 4, 96, [.nils, .nils, .nils, .nils], false, false⟩,
  none,
  some ⟨.func, 1, 8, [.nilf], false, false⟩,
  some ⟨.slice 111, 1, 24, [.nils], false, false⟩,
  none,
  some ⟨.func, 1, 8, [.nilf], false, false⟩,
  some ⟨.func, 1, 8, [.nilf], false, false⟩,
  some ⟨.func, 1, 8, [.nilf], false, false⟩,
  some ⟨.func, 1, 8, [.nilf], false, false⟩,
  some ⟨.int .u64, 1, 8, [.int .u64 0], false, false⟩,
  some ⟨.func, 1, 8, [.nilf], false, false⟩,
  some ⟨.func, 1, 8, [.nilf], false, false⟩,
  some ⟨.func, 1, 8, [.nilf], false, false⟩,
  some ⟨.func, 1, 8, [.nilf], false, false⟩,
  some ⟨.func, 1, 8, [.nilf], false, false⟩,
  some ⟨.func, 1, 8, [.nilf], false, false⟩,
  some ⟨.func, 1, 8, [.nilf], false, false⟩,
  some ⟨.func, 1, 8, [.nilf], false, false⟩,
  some ⟨.arr 15 3, 15, 120, [.int .i64 0, .int .i64 0, .int .i64 0, .int .i64 0, .int .i64 0, .int .i64 0, .int .i64 0, .int .i64 0, .int .i64 0, .int .i64 0, .int .i64 0, .int .i64 0, .int .i64 0, .int .i64 0, .int .i64 0], false, true⟩,
  some ⟨.func, 1, 8, [.nilf], false, false⟩,
  none,
  some ⟨.func, 1, 8, [.nilf], false, false⟩,
  some ⟨.struct [(0, 3), (1, 3)], 2, 16, [.int .i64 0, .int .i64 0], true, true⟩,
  some ⟨.struct [(0, 3), (1, 3)], 2, 16, [.int .i64 0, .int .i64 0], true, true⟩,
  some ⟨.struct [(0, 3), (1, 3), (2, 3), (3, 3), (4, 3)], 5, 40, [.int .i64 0, .int .i64 0, .int .i64 0, .int .i64 0, .int .i64 0], true, true⟩,
  some ⟨.struct [(0, 3), (1, 3), (2, 3), (3, 3), (4, 3)], 5, 40, [.int .i64 0, .int .i64 0, .int .i64 0, .int .i64 0, .int .i64 0], true, true⟩,
  some ⟨.map 3 3, 1, 8, [.nilm], false, false⟩,
  some ⟨.func, 1, 8, [.nilf], false, false⟩,
  some ⟨.func, 1, 8, [.nilf], false, false⟩,
  some ⟨.int .i64, 1, 8, [.int .i64 0], false, false⟩,
  none,
  some ⟨.func, 1, 8, [.nilf], false, false⟩,
  some ⟨.func, 1, 8, [.nilf], false, false⟩,
  some ⟨.func, 1, 8, [.nilf], false, false⟩,
  none,
  some ⟨.func, 1, 8, [.nilf], false, false⟩,
  some ⟨.func, 1, 8, [.nilf], false, false⟩,
  some ⟨.int .u32, 1, 4, [.int .u32 0], false, false⟩,
  some ⟨.func, 1, 8, [.nilf], false, false⟩,
  some ⟨.int .u64, 1, 8, [.int .u64 0], false, false⟩,
  some ⟨.func, 1, 8, [.nilf], false, false⟩,
  some ⟨.func, 1, 8, [.nilf], false, false⟩,
  some ⟨.func, 1, 8, [.nilf], false, false⟩,
  some ⟨.func, 1, 8, [.nilf], false, false⟩,
  some ⟨.func, 1, 8, [.nilf], false, false⟩,
  some ⟨.func, 1, 8, [.nilf], false, false⟩,
  some ⟨.func, 1, 8, [.nilf], false, false⟩,
  some ⟨.func, 1, 8, [.nilf], false, false⟩,
  some ⟨.func, 1, 8, [.nilf], false, false⟩,
  some ⟨.func, 1, 8, [.nilf], false, false⟩,
  some ⟨.func, 1, 8, [.nilf], false, false⟩,
  some ⟨.func, 1, 8, [.nilf], false, false⟩,
  some ⟨.func, 1, 8, [.nilf], false, false⟩,
  some ⟨.func, 1, 8, [.nilf], false, false⟩,
  some ⟨.func, 1, 8, [.nilf], false, false⟩,
  some ⟨.int .u64, 1, 8, [.int .u64 0], false, false⟩,
  some ⟨.func, 1, 8, [.nilf], false, false⟩,
  some ⟨.func, 1, 8, [.nilf], false, false⟩,
  some ⟨.func, 1, 8, [.nilf], false, false⟩,
  some ⟨.ptr, 1, 8, [.nilp], false, false⟩,
  some ⟨.func, 1, 8, [.nilf], false, false⟩,
  some ⟨.func, 1, 8, [.nilf], false, false⟩,
  some ⟨.func, 1, 8, [.nilf], false, false⟩,
  some ⟨.func, 1, 8, [.nilf], false, false⟩,
  some ⟨.func, 1, 8, [.nilf], false, false⟩,
  some ⟨.ptr, 1, 8, [.nilp], false, false⟩,
  none,
  some ⟨.func, 1, 8, [.nilf], false, false⟩,
  some ⟨.func, 1, 8, [.nilf], false, false⟩,
  some ⟨.func, 1, 8, [.nilf], false, false⟩,
  some ⟨.func, 1, 8, [.nilf], false, false⟩,
  some ⟨.func, 1, 8, [.nilf], false, false⟩,
  some ⟨.func, 1, 8, [.nilf], false, false⟩,
  some ⟨.func, 1, 8, [.nilf], false, false⟩,
  some ⟨.func, 1, 8, [.nilf], false, false⟩,
  some ⟨.func, 1, 8, [.nilf], false, false⟩,
  some ⟨.func, 1, 8, [.nilf], false, false⟩,
  some ⟨.func, 1, 8, [.nilf], false, false⟩,
  some ⟨.func, 1, 8, [.nilf], false, false⟩,
  some ⟨.func, 1, 8, [.nilf], false, false⟩,
  some ⟨.func, 1, 8, [.nilf], false, false⟩,
  some ⟨.struct [(0, 17), (1, 17), (2, 17), (3, 9)], 4, 40, [.nilp, .nilp, .nilp, .str .empty], false, false⟩,
  some ⟨.struct [(0, 17), (1, 17), (2, 17), (3, 9)], 4, 40, [.nilp, .nilp, .nilp, .str .empty], false, false⟩,
  some ⟨.arr 0 16, 0, 0, [], false, false⟩,
  some ⟨.struct [(0, 169)], 0, 0, [], false, false⟩,
  some ⟨.struct [(0, 169)], 0, 0, [], false, false⟩,
  some ⟨.int .u8, 1, 1, [.int .u8 0], false, false⟩,
  some ⟨.int .u8, 1, 1, [.int .u8 0], false, false⟩,
  some ⟨.func, 1, 8, [.nilf], false, false⟩,
  some ⟨.ptr, 1, 8, [.nilp], false, false⟩,
  some ⟨.int .i32, 1, 4, [.int .i32 0], false, false⟩,
  some ⟨.int .i32, 1, 4, [.int .i32 0], false, false⟩,
  some ⟨.struct [(0, 12), (1, 12), (2, 123), (3, 172), (4, 5), (5, 5), (6, 173), (7, 174), (8, 175), (9, 176), (10, 177)], 11, 48, [.int .u64 0, .int .u64 0, .int .u32 0, .int .u8 0, .int .u8 0, .int .u8 0, .int .u8 0, .nilf, .nilp, .int .i32 0, .int .i32 0], false, false⟩,
  some ⟨.struct [(0, 12), (1, 12), (2, 123), (3, 172), (4, 5), (5, 5), (6, 173), (7, 174), (8, 175), (9, 176), (10, 177)], 11, 48, [.int .u64 0, .int .u64 0, .int .u32 0, .int .u8 0, .int .u8 0, .int .u8 0, .int .u8 0, .nilf, .nilp, .int .i32 0, .int .i32 0], false, false⟩,
  none]
def okL : List Nat := [3, 4, 5, 6, 7, 8, 9, 10, 11, 12, 13, 14, 15, 16, 17, 18, 19, 20, 21, 22, 23, 24, 25, 26, 27, 28, 29, 30, 31, 32, 33, 34, 35, 36, 37, 38, 39, 40, 41, 42, 43, 44, 45, 46, 47, 48, 49, 50, 51, 52, 53, 54, 55, 56, 57, 58, 59, 60, 61, 62, 63, 64, 65, 66, 67, 68, 69, 70, 71, 72, 73, 74, 75, 76, 77, 78, 79, 80, 81, 82, 83, 84, 85, 86, 87, 88, 89, 90, 91, 92, 93, 94, 95, 96, 97, 98, 99, 100, 101, 102, 103, 104, 105, 106, 107, 108, 109, 110, 111, 112, 113, 114, 115, 116, 117, 118]
def pureL : List Nat := [4, 5, 6, 7, 8, 9, 10, 11, 12, 13, 14, 15, 16, 17, 18, 19, 20, 21, 22, 23, 24, 28, 29, 30, 31, 32, 33, 34, 35, 36, 37, 38, 39, 40, 41, 42, 43, 44, 45, 46, 47, 50, 51, 53, 54, 55, 57, 58, 59, 60, 61, 62, 63, 64, 65, 66, 67, 68, 69, 70, 71, 72, 73, 74, 75, 77, 78, 79, 80, 81, 82, 83, 84, 85, 86, 87, 88, 89, 90, 91, 92, 93, 94, 95, 98, 99, 100, 101, 102, 111, 112, 117]
theorem tab_eq : tab = (List.range 181).map (tdOf Tryz.prog) := by kernel_rfl
/-- the context in which the functions h hand back new memory, and the functions np see the caller's heap -/
noncomputable def Cx (h np : List Nat) : Ctx := { P := Tryz.prog, ti := tiTab tab, fnok := fun f => okL.contains f, pureFn := fun f => pureL.contains f && !h.contains f && !np.contains f, hFn := fun f => h.contains f }
noncomputable def C : Ctx := Cx [] []
theorem fine : okL.all (fnFine Tryz.prog) = true := by kernel_rfl
theorem laid : laidOutB Tryz.prog = true := by kernel_rfl
theorem few : Tryz.prog.types.size + 2 ≤ 10000 := of_decide_eq_true (by kernel_rfl)
theorem tok : TOk Tryz.prog (tiTab tab) := tiTab_ok laid few tab_eq
theorem okx (h np : List Nat) : COk (Cx h np) := cok_of okL tok fine fun f hf => by simpa [Cx] using hf
theorem ok : COk C := okx [] []
theorem mixed : Tryz.prog.follows .mixedOrders = true := Tryz.checked.mixed
/-- the context of what is evaluated at once: the functions p see nothing of the heap, the functions x leave it as it is -/
noncomputable def Ce (p x : List Nat) : Ctx := { P := Tryz.prog, ti := tiTab tab, fnok := fun f => okL.contains f, pureFn := fun f => p.contains f, xFn := fun f => x.contains f }
theorem oke (p x : List Nat) : COk (Ce p x) := cok_of okL tok fine fun f hf => by simpa [Ce] using hf
end Go.Ab.V

/-
  Closed functions, evaluated at once. No condition.
-/
namespace Go.Ab.V
open Go.Proofs

noncomputable def xfetch : FuncId → Option Func := fun f => match f with
  | 17 => some Tryz.f17
  | 18 => some Tryz.f18
  | 37 => some Tryz.f37
  | 38 => some Tryz.f38
  | 39 => some Tryz.f39
  | 40 => some Tryz.f40
  | 42 => some Tryz.f42
  | 44 => some Tryz.f44
  | 45 => some Tryz.f45
  | 56 => some Tryz.f56
  | 57 => some Tryz.f57
  | 58 => some Tryz.f58
  | 59 => some Tryz.f59
  | 68 => some Tryz.f68
  | 69 => some Tryz.f69
  | 70 => some Tryz.f70
  | 79 => some Tryz.f79
  | 80 => some Tryz.f80
  | 86 => some Tryz.f86
  | 94 => some Tryz.f94
  | _ => none
noncomputable def xord : FuncId → Nat → Option Plan := fun f r => match f, r with
  | 38, 20 => some (.one 0 (.one 1 (.one 3 (.one 4 (.one 5 (.br3 2 6 8 (.br 6 8 (.one 7 (.one 8 (.one 9 (.done)))) (.one 6 (.one 7 (.one 9 (.done))))) (.one 2 (.one 7 (.one 8 (.one 9 (.done))))) (.br 2 6 (.one 6 (.one 7 (.one 9 (.done)))) (.one 2 (.one 7 (.one 9 (.done)))))))))))
  | 38, 22 => some (.one 0 (.one 2 (.one 3 (.one 4 (.one 5 (.br 1 6 (.one 6 (.one 7 (.one 8 (.one 9 (.one 10 (.one 11 (.done))))))) (.one 1 (.one 7 (.one 8 (.one 9 (.one 10 (.one 11 (.done)))))))))))))
  | _, _ => none
noncomputable abbrev CX : Ctx := Ce [40, 55, 41] []
theorem xfetch_ok : ∀ f fn, xfetch f = some fn → CX.P.funcs[f]? = some fn := by
  intro f fn h
  unfold xfetch at h
  split at h
  · cases h; exact Tryz.func17
  · cases h; exact Tryz.func18
  · cases h; exact Tryz.func37
  · cases h; exact Tryz.func38
  · cases h; exact Tryz.func39
  · cases h; exact Tryz.func40
  · cases h; exact Tryz.func42
  · cases h; exact Tryz.func44
  · cases h; exact Tryz.func45
  · cases h; exact Tryz.func56
  · cases h; exact Tryz.func57
  · cases h; exact Tryz.func58
  · cases h; exact Tryz.func59
  · cases h; exact Tryz.func68
  · cases h; exact Tryz.func69
  · cases h; exact Tryz.func70
  · cases h; exact Tryz.func79
  · cases h; exact Tryz.func80
  · cases h; exact Tryz.func86
  · cases h; exact Tryz.func94
  · cases h
def bodyOk (f : Nat) (fn : Func) : Prop := ∀ code, fn.body = some code → codeOk CX (xord f) code
theorem bodyOk_of {f : Nat} {fn : Func} (h : (match fn.body with | some c => codeOkB CX (xord f) c | none => true) = true) : bodyOk f fn := by
  intro code hc
  rw [hc] at h
  exact codeOk_of h
theorem bodyOk17 : bodyOk 17 Tryz.f17 := bodyOk_of (by kernel_rfl)
theorem bodyOk18 : bodyOk 18 Tryz.f18 := bodyOk_of (by kernel_rfl)
theorem bodyOk37 : bodyOk 37 Tryz.f37 := bodyOk_of (by kernel_rfl)
theorem bodyOk38 : bodyOk 38 Tryz.f38 := bodyOk_of (by kernel_rfl)
theorem bodyOk39 : bodyOk 39 Tryz.f39 := bodyOk_of (by kernel_rfl)
theorem bodyOk40 : bodyOk 40 Tryz.f40 := bodyOk_of (by kernel_rfl)
theorem bodyOk42 : bodyOk 42 Tryz.f42 := bodyOk_of (by kernel_rfl)
theorem bodyOk44 : bodyOk 44 Tryz.f44 := bodyOk_of (by kernel_rfl)
theorem bodyOk45 : bodyOk 45 Tryz.f45 := bodyOk_of (by kernel_rfl)
theorem bodyOk56 : bodyOk 56 Tryz.f56 := bodyOk_of (by kernel_rfl)
theorem bodyOk57 : bodyOk 57 Tryz.f57 := bodyOk_of (by kernel_rfl)
theorem bodyOk58 : bodyOk 58 Tryz.f58 := bodyOk_of (by kernel_rfl)
theorem bodyOk59 : bodyOk 59 Tryz.f59 := bodyOk_of (by kernel_rfl)
theorem bodyOk68 : bodyOk 68 Tryz.f68 := bodyOk_of (by kernel_rfl)
theorem bodyOk69 : bodyOk 69 Tryz.f69 := bodyOk_of (by kernel_rfl)
theorem bodyOk70 : bodyOk 70 Tryz.f70 := bodyOk_of (by kernel_rfl)
theorem bodyOk79 : bodyOk 79 Tryz.f79 := bodyOk_of (by kernel_rfl)
theorem bodyOk80 : bodyOk 80 Tryz.f80 := bodyOk_of (by kernel_rfl)
theorem bodyOk86 : bodyOk 86 Tryz.f86 := bodyOk_of (by kernel_rfl)
theorem bodyOk94 : bodyOk 94 Tryz.f94 := bodyOk_of (by kernel_rfl)
theorem xcode_ok : ∀ f fn code, xfetch f = some fn → fn.body = some code → codeOk CX (xord f) code := by
  intro f fn code h
  unfold xfetch at h
  split at h
  · cases h; exact bodyOk17 code
  · cases h; exact bodyOk18 code
  · cases h; exact bodyOk37 code
  · cases h; exact bodyOk38 code
  · cases h; exact bodyOk39 code
  · cases h; exact bodyOk40 code
  · cases h; exact bodyOk42 code
  · cases h; exact bodyOk44 code
  · cases h; exact bodyOk45 code
  · cases h; exact bodyOk56 code
  · cases h; exact bodyOk57 code
  · cases h; exact bodyOk58 code
  · cases h; exact bodyOk59 code
  · cases h; exact bodyOk68 code
  · cases h; exact bodyOk69 code
  · cases h; exact bodyOk70 code
  · cases h; exact bodyOk79 code
  · cases h; exact bodyOk80 code
  · cases h; exact bodyOk86 code
  · cases h; exact bodyOk94 code
  · cases h
end Go.Ab.V
