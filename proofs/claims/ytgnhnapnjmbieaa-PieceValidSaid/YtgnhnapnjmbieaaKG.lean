/-
  What is proved here serves the law's text: each part says its own claim and its conditions. No condition is left open.
-/
import Derived.Test.YtgnhnapnjmbieaaChecked
import Derived.KernelRfl
import Derived.Eval
import Derived.Test.YtgnhnapnjmbieaaKF
import Derived.IntWalk
set_option linter.unusedSimpArgs false
set_option linter.unusedVariables false

/-
  The program of this seat as a context: its table of types, its functions. No condition.
-/
namespace Go.Ab.V
open Go.Proofs

def tab : List (Option TD) := [none,
  some ⟨.func, 1, 8, [.nilf], false⟩,
  some ⟨.int .i64, 1, 8, [.int .i64 0], false⟩,
  some ⟨.int .i64, 1, 8, [.int .i64 0], false⟩,
  some ⟨.bool, 1, 1, [.bool false], false⟩,
  some ⟨.int .u8, 1, 1, [.int .u8 0], false⟩,
  some ⟨.int .u8, 1, 1, [.int .u8 0], false⟩,
  some ⟨.struct [(0, 2), (1, 3), (2, 4), (3, 6)], 4, 24, [.int .i64 0, .int .i64 0, .bool false, .int .u8 0], true⟩,
  some ⟨.struct [(0, 2), (1, 3), (2, 4), (3, 6)], 4, 24, [.int .i64 0, .int .i64 0, .bool false, .int .u8 0], true⟩,
  some ⟨.str, 1, 16, [.str .empty], false⟩,
  some ⟨.str, 1, 16, [.str .empty], false⟩,
  some ⟨.str, 1, 16, [.str .empty], false⟩,
  some ⟨.int .u64, 1, 8, [.int .u64 0], false⟩,
  some ⟨.struct [(0, 9), (1, 12)], 2, 24, [.str .empty, .int .u64 0], false⟩,
  some ⟨.struct [(0, 9), (1, 12)], 2, 24, [.str .empty, .int .u64 0], false⟩,
  some ⟨.ptr, 1, 8, [.nilp], false⟩,
  some ⟨.ptr, 1, 8, [.nilp], false⟩,
  some ⟨.ptr, 1, 8, [.nilp], false⟩,
  some ⟨.struct [(0, 17)], 1, 8, [.nilp], false⟩,
  some ⟨.struct [(0, 17)], 1, 8, [.nilp], false⟩,
  none,
  some ⟨.int .i32, 1, 4, [.int .i32 0], false⟩,
  some ⟨.slice 31, 1, 24, [.nils], false⟩,
  some ⟨.slice 3, 1, 24, [.nils], false⟩,
  some ⟨.struct [(0, 22), (1, 23)], 2, 48, [.nils, .nils], false⟩,
  some ⟨.struct [(0, 22), (1, 23)], 2, 48, [.nils, .nils], false⟩,
  some ⟨.slice 38, 1, 24, [.nils], false⟩,
  some ⟨.struct [(0, 25), (2, 26)], 3, 72, [.nils, .nils, .nils], false⟩,
  some ⟨.struct [(0, 25), (2, 26)], 3, 72, [.nils, .nils, .nils], false⟩,
  some ⟨.slice 46, 1, 24, [.nils], false⟩,
  some ⟨.struct [(0, 3), (1, 3), (2, 4)], 3, 24, [.int .i64 0, .int .i64 0, .bool false], true⟩,
  some ⟨.struct [(0, 3), (1, 3), (2, 4)], 3, 24, [.int .i64 0, .int .i64 0, .bool false], true⟩,
  some ⟨.struct [(0, 3), (1, 4), (2, 4)], 3, 16, [.int .i64 0, .bool false, .bool false], true⟩,
  some ⟨.struct [(0, 3), (1, 4), (2, 4)], 3, 16, [.int .i64 0, .bool false, .bool false], true⟩,
  some ⟨.struct [(0, 3), (1, 3), (2, 3), (3, 3), (4, 3)], 5, 40, [.int .i64 0, .int .i64 0, .int .i64 0, .int .i64 0, .int .i64 0], true⟩,
  some ⟨.struct [(0, 3), (1, 3), (2, 3), (3, 3), (4, 3)], 5, 40, [.int .i64 0, .int .i64 0, .int .i64 0, .int .i64 0, .int .i64 0], true⟩,
  some ⟨.slice 35, 1, 24, [.nils], false⟩,
  some ⟨.struct [(0, 4), (1, 33), (4, 4), (5, 36)], 6, 56, [.bool false, .int .i64 0, .bool false, .bool false, .bool false, .nils], false⟩,
  some ⟨.struct [(0, 4), (1, 33), (4, 4), (5, 36)], 6, 56, [.bool false, .int .i64 0, .bool false, .bool false, .bool false, .nils], false⟩,
  some ⟨.int .i64, 1, 8, [.int .i64 0], false⟩,
  none,
  some ⟨.func, 1, 8, [.nilf], false⟩,
  some ⟨.func, 1, 8, [.nilf], false⟩,
  some ⟨.func, 1, 8, [.nilf], false⟩,
  some ⟨.func, 1, 8, [.nilf], false⟩,
  some ⟨.struct [(0, 5), (1, 3)], 2, 16, [.int .u8 0, .int .i64 0], true⟩,
  some ⟨.struct [(0, 5), (1, 3)], 2, 16, [.int .u8 0, .int .i64 0], true⟩,
  some ⟨.func, 1, 8, [.nilf], false⟩,
  some ⟨.func, 1, 8, [.nilf], false⟩,
  some ⟨.func, 1, 8, [.nilf], false⟩,
  some ⟨.func, 1, 8, [.nilf], false⟩,
  some ⟨.func, 1, 8, [.nilf], false⟩,
  some ⟨.func, 1, 8, [.nilf], false⟩,
  some ⟨.func, 1, 8, [.nilf], false⟩,
  some ⟨.slice 33, 1, 24, [.nils], false⟩,
  none,
  some ⟨.func, 1, 8, [.nilf], false⟩,
  some ⟨.func, 1, 8, [.nilf], false⟩,
  some ⟨.func, 1, 8, [.nilf], false⟩,
  some ⟨.func, 1, 8, [.nilf], false⟩,
  some ⟨.func, 1, 8, [.nilf], false⟩,
  some ⟨.func, 1, 8, [.nilf], false⟩,
  none,
  some ⟨.func, 1, 8, [.nilf], false⟩,
  some ⟨.slice 71, 1, 24, [.nils], false⟩,
  none,
  some ⟨.func, 1, 8, [.nilf], false⟩,
  some ⟨.slice 72, 1, 24, [.nils], false⟩,
  none,
  some ⟨.func, 1, 8, [.nilf], false⟩,
  some ⟨.struct [(0, 3), (1, 3), (2, 3)], 3, 24, [.int .i64 0, .int .i64 0, .int .i64 0], true⟩,
  some ⟨.struct [(0, 3), (1, 3), (2, 3)], 3, 24, [.int .i64 0, .int .i64 0, .int .i64 0], true⟩,
  some ⟨.struct [(0, 3), (1, 3), (2, 3)], 3, 24, [.int .i64 0, .int .i64 0, .int .i64 0], true⟩,
  some ⟨.func, 1, 8, [.nilf], false⟩,
  some ⟨.func, 1, 8, [.nilf], false⟩,
  some ⟨.func, 1, 8, [.nilf], false⟩,
  some ⟨.func, 1, 8, [.nilf], false⟩,
  some ⟨.func, 1, 8, [.nilf], false⟩,
  some ⟨.func, 1, 8, [.nilf], false⟩,
  some ⟨.slice 28, 1, 24, [.nils], false⟩,
  some ⟨.arr 6 39, 6, 48, [.int .i64 0, .int .i64 0, .int .i64 0, .int .i64 0, .int .i64 0, .int .i64 0], false⟩,
  some ⟨.arr 6 28, 18, 432, [.nils, .nils, .nils, .nils, .nils, .nils, .nils, .nils, .nils, .nils, .nils, .nils, .nils, .nils, .nils, .nils, .nils, .nils], false⟩,
  some ⟨.func, 1, 8, [.nilf], false⟩,
  some ⟨.func, 1, 8, [.nilf], false⟩,
  some ⟨.func, 1, 8, [.nilf], false⟩,
  some ⟨.func, 1, 8, [.nilf], false⟩,
  some ⟨.func, 1, 8, [.nilf], false⟩,
  some ⟨.func, 1, 8, [.nilf], false⟩,
  some ⟨.func, 1, 8, [.nilf], false⟩,
  some ⟨.func, 1, 8, [.nilf], false⟩,
  some ⟨.func, 1, 8, [.nilf], false⟩,
  some ⟨.func, 1, 8, [.nilf], false⟩,
  some ⟨.func, 1, 8, [.nilf], false⟩,
  some ⟨.func, 1, 8, [.nilf], false⟩,
  some ⟨.func, 1, 8, [.nilf], false⟩,
  some ⟨.ptr, 1, 8, [.nilp], false⟩,
  some ⟨.func, 1, 8, [.nilf], false⟩,
  some ⟨.func, 1, 8, [.nilf], false⟩,
  some ⟨.func, 1, 8, [.nilf], false⟩,
  some ⟨.func, 1, 8, [.nilf], false⟩,
  some ⟨.func, 1, 8, [.nilf], false⟩,
  some ⟨.func, 1, 8, [.nilf], false⟩,
  some ⟨.func, 1, 8, [.nilf], false⟩,
  none,
  some ⟨.func, 1, 8, [.nilf], false⟩,
  some ⟨.func, 1, 8, [.nilf], false⟩,
  some ⟨.func, 1, 8, [.nilf], false⟩,
  some ⟨.func, 1, 8, [.nilf], false⟩,
  some ⟨.slice 4, 1, 24, [.nils], false⟩,
  some ⟨.ptr, 1, 8, [.nilp], false⟩,
  none,
  some ⟨.func, 1, 8, [.nilf], false⟩,
  some ⟨.ptr, 1, 8, [.nilp], false⟩,
  some ⟨.func, 1, 8, [.nilf], false⟩,
  some ⟨.func, 1, 8, [.nilf], false⟩,
  some ⟨.func, 1, 8, [.nilf], false⟩,
  some ⟨.func, 1, 8, [.nilf], false⟩,
  some ⟨.func, 1, 8, [.nilf], false⟩,
  some ⟨.func, 1, 8, [.nilf], false⟩,
  some ⟨.func, 1, 8, [.nilf], false⟩,
  some ⟨.func, 1, 8, [.nilf], false⟩,
  some ⟨.func, 1, 8, [.nilf], false⟩,
  some ⟨.func, 1, 8, [.nilf], false⟩,
  some ⟨.func, 1, 8, [.nilf], false⟩,
  some ⟨.int .u64, 1, 8, [.int .u64 0], false⟩,
  some ⟨.func, 1, 8, [.nilf], false⟩,
  some ⟨.func, 1, 8, [.nilf], false⟩,
  some ⟨.int .i64, 1, 8, [.int .i64 0], false⟩,
  none,
  some ⟨.func, 1, 8, [.nilf], false⟩,
  some ⟨.func, 1, 8, [.nilf], false⟩,
  some ⟨.func, 1, 8, [.nilf], false⟩,
  none,
  some ⟨.func, 1, 8, [.nilf], false⟩,
  some ⟨.func, 1, 8, [.nilf], false⟩,
  some ⟨.int .u32, 1, 4, [.int .u32 0], false⟩,
  some ⟨.func, 1, 8, [.nilf], false⟩,
  some ⟨.int .u64, 1, 8, [.int .u64 0], false⟩,
  some ⟨.int .u64, 1, 8, [.int .u64 0], false⟩,
  some ⟨.func, 1, 8, [.nilf], false⟩,
  some ⟨.func, 1, 8, [.nilf], false⟩,
  some ⟨.func, 1, 8, [.nilf], false⟩,
  some ⟨.ptr, 1, 8, [.nilp], false⟩,
  some ⟨.func, 1, 8, [.nilf], false⟩,
  some ⟨.ptr, 1, 8, [.nilp], false⟩,
  none,
  some ⟨.func, 1, 8, [.nilf], false⟩,
  some ⟨.func, 1, 8, [.nilf], false⟩,
  some ⟨.struct [(0, 17), (1, 17), (2, 17), (3, 9)], 4, 40, [.nilp, .nilp, .nilp, .str .empty], false⟩,
  some ⟨.struct [(0, 17), (1, 17), (2, 17), (3, 9)], 4, 40, [.nilp, .nilp, .nilp, .str .empty], false⟩,
  some ⟨.arr 0 16, 0, 0, [], false⟩,
  some ⟨.struct [(0, 150)], 0, 0, [], false⟩,
  some ⟨.struct [(0, 150)], 0, 0, [], false⟩,
  some ⟨.func, 1, 8, [.nilf], false⟩,
  some ⟨.int .u8, 1, 1, [.int .u8 0], false⟩,
  some ⟨.int .u8, 1, 1, [.int .u8 0], false⟩,
  some ⟨.func, 1, 8, [.nilf], false⟩,
  some ⟨.ptr, 1, 8, [.nilp], false⟩,
  some ⟨.int .i32, 1, 4, [.int .i32 0], false⟩,
  some ⟨.int .i32, 1, 4, [.int .i32 0], false⟩,
  some ⟨.struct [(0, 12), (1, 12), (2, 135), (3, 154), (4, 5), (5, 5), (6, 155), (7, 156), (8, 157), (9, 158), (10, 159)], 11, 48, [.int .u64 0, .int .u64 0, .int .u32 0, .int .u8 0, .int .u8 0, .int .u8 0, .int .u8 0, .nilf, .nilp, .int .i32 0, .int .i32 0], false⟩,
  some ⟨.struct [(0, 12), (1, 12), (2, 135), (3, 154), (4, 5), (5, 5), (6, 155), (7, 156), (8, 157), (9, 158), (10, 159)], 11, 48, [.int .u64 0, .int .u64 0, .int .u32 0, .int .u8 0, .int .u8 0, .int .u8 0, .int .u8 0, .nilf, .nilp, .int .i32 0, .int .i32 0], false⟩,
  none]
def okL : List Nat := [3, 4, 5, 6, 7, 8, 9, 10, 11, 12, 13, 14, 15, 16, 17, 18, 19, 20, 21, 22, 23, 24, 25, 26, 27, 28, 29, 30, 31, 32, 33, 34, 35, 36, 37, 38, 39, 40, 41, 42, 43, 44, 45, 46, 47, 48, 49, 50, 51, 52, 53, 54, 55, 56, 57, 58, 59, 60, 61, 62, 63, 64, 65, 66, 67, 68, 69, 70, 71, 72, 73, 74, 75, 76, 77, 78, 79, 80, 81, 82, 83, 84, 85, 86, 87, 88, 89, 90, 91, 92, 93, 94, 95, 96, 97, 98, 99, 100, 101, 102, 103, 104, 105, 106, 107, 108, 109, 110, 111, 112, 113, 114, 115, 116, 117, 118, 119, 120, 121, 122, 123, 124, 125, 126, 127, 128, 129, 130, 131, 132, 133]
def pureL : List Nat := [19, 20, 21, 22, 23, 24, 25, 26, 27, 28, 29, 30, 31, 32, 33, 34, 35, 36, 37, 38, 39, 40, 41, 42, 43, 44, 45, 46, 47, 48, 49, 50, 51, 52, 53, 54, 55, 56, 57, 58, 59, 60, 61, 62, 63, 64, 65, 66, 67, 68, 69, 71, 72, 73, 74, 75, 76, 77, 78, 82, 83, 84, 86, 87, 88, 89, 90, 91, 92, 93, 94, 96, 98, 99, 100, 101, 102, 103, 105, 106, 107, 108, 111, 112, 113, 114, 116, 117, 126, 127, 129]
theorem tab_eq : tab = (List.range 163).map (tdOf Try.prog) := by kernel_rfl
/-- the context in which the functions h hand back new memory, and the functions np see the caller's heap -/
noncomputable def Cx (h np : List Nat) : Ctx := { P := Try.prog, ti := tiTab tab, fnok := fun f => okL.contains f, pureFn := fun f => pureL.contains f && !h.contains f && !np.contains f, hFn := fun f => h.contains f }
noncomputable def C : Ctx := Cx [] []
theorem fine : okL.all (fnFine Try.prog) = true := by kernel_rfl
theorem okx (h np : List Nat) : COk (Cx h np) := cok_of okL (tiTab_ok tab_eq) fine fun f hf => by simpa [Cx] using hf
theorem ok : COk C := okx [] []
theorem mixed : Try.prog.follows .mixedOrders = true := Try.checked.mixed
end Go.Ab.V

/-
  The ticks of a sign, as the program and as the document say it. No condition.
-/
namespace Go.Ab.V
open Go.Proofs

/-- a sign -/
abbrev sg (v : Int) (d t : Bool) : AV := .agg [.int .i64 v, .bool d, .bool t]

def ticks (v : Int) (d t : Bool) : Int :=
  if v < 1 ∨ 7 < v ∨ (d && t) = true then 0 else
    let n : Int := if v = 1 then 384 else if v = 2 then 192 else if v = 3 then 96 else if v = 4 then 48 else if v = 5 then 24 else if v = 6 then 12 else 6
    if d = true then n / 2 * 3 else if t = true then n / 3 * 2 else n

def A26 : Ann := fun r => match r with
  | 0 => { slots := [(0, 0)] }
  | _ => {}

theorem seven {v : Int} (h1 : ¬ v < 1) (h2 : ¬ 7 < v) : v = 1 ∨ v = 2 ∨ v = 3 ∨ v = 4 ∨ v = 5 ∨ v = 6 ∨ v = 7 := by omega

theorem ticks_spec (v : Int) (d t : Bool) : PRet C.P 26 [sg v d t] (.int .i64 (ticks v d t)) := by
  by_cases h1 : v < 1
  · refine pret_of ok mixed (A := A26) 1 Try.func26 rfl ?_
    (repeat ((conv => whnf); first | exact rfl | exact ⟨rfl, rfl⟩ | refine ⟨rfl, ?_⟩ | refine ⟨by decide, ?_⟩ | refine ⟨by kernel_rfl, ?_⟩ | (intro ep)))
    conv => whnf
    rw [decide_eq_true h1]
    exact ⟨rfl, by simp [ticks, h1]⟩
  by_cases h2 : 7 < v
  · refine pret_of ok mixed (A := A26) 1 Try.func26 rfl ?_
    (repeat ((conv => whnf); first | exact rfl | exact ⟨rfl, rfl⟩ | refine ⟨rfl, ?_⟩ | refine ⟨by decide, ?_⟩ | refine ⟨by kernel_rfl, ?_⟩ | (intro ep)))
    conv => whnf
    rw [decide_eq_false h1]
    (repeat ((conv => whnf); first | exact rfl | exact ⟨rfl, rfl⟩ | refine ⟨rfl, ?_⟩ | refine ⟨by decide, ?_⟩ | refine ⟨by kernel_rfl, ?_⟩ | (intro ep)))
    conv => whnf
    rw [show decide (v > 7) = true from decide_eq_true h2]
    exact ⟨rfl, by simp [ticks, h2]⟩
  rcases seven h1 h2 with rfl | rfl | rfl | rfl | rfl | rfl | rfl <;> cases d <;> cases t <;>
    (refine pret_of ok mixed (A := A26) 1 Try.func26 rfl ?_; (repeat ((conv => whnf); first | exact rfl | exact ⟨rfl, rfl⟩ | refine ⟨rfl, ?_⟩ | refine ⟨by decide, ?_⟩ | refine ⟨by kernel_rfl, ?_⟩ | (intro ep))))

end Go.Ab.V

/-
  Whether a sign is valid, and its ticks, in the document's words. No condition.
-/
namespace Go.Ab.V
open Go.Proofs

def right (v : Int) (d t : Bool) : Bool :=
  if v = 0 then !d && !t else decide (1 ≤ v) && decide (v ≤ 7) && !(d && t)

theorem right_spec (v : Int) (d t : Bool) : PRet C.P 68 [sg v d t] (.bool (right v d t)) := by
  refine pret_of ok mixed (A := A26) 1 Try.func68 rfl ?_
  (repeat ((conv => whnf); first | exact rfl | exact ⟨rfl, rfl⟩ | refine ⟨rfl, ?_⟩ | refine ⟨by decide, ?_⟩ | refine ⟨by kernel_rfl, ?_⟩ | (intro ep)))
  conv => whnf
  refine ifB (fun h0 => ?_) (fun h0 => ?_)
  · simp only [beq_iff_eq] at h0
    subst h0
    cases d <;> cases t <;> (repeat ((conv => whnf); first | exact rfl | exact ⟨rfl, rfl⟩ | refine ⟨rfl, ?_⟩ | refine ⟨by decide, ?_⟩ | refine ⟨by kernel_rfl, ?_⟩ | (intro ep)))
  simp only [beq_eq_false_iff_ne, ne_eq] at h0
  (repeat ((conv => whnf); first | exact rfl | exact ⟨rfl, rfl⟩ | refine ⟨rfl, ?_⟩ | refine ⟨by decide, ?_⟩ | refine ⟨by kernel_rfl, ?_⟩ | (intro ep)))
  conv => whnf
  refine ifB (fun h1 => ?_) (fun h1 => ?_)
  · (repeat ((conv => whnf); first | exact rfl | exact ⟨rfl, rfl⟩ | refine ⟨rfl, ?_⟩ | refine ⟨by decide, ?_⟩ | refine ⟨by kernel_rfl, ?_⟩ | (intro ep)))
    conv => whnf
    refine ifB (fun h2 => ?_) (fun h2 => ?_)
    · cases d <;> cases t <;> (repeat ((conv => whnf); first | exact rfl | exact ⟨rfl, rfl⟩ | refine ⟨rfl, ?_⟩ | refine ⟨by decide, ?_⟩ | refine ⟨by kernel_rfl, ?_⟩ | (intro ep)))
      all_goals (conv => whnf); simp_all [right]
    · refine ⟨rfl, ?_⟩
      simp_all [right]
      intros; exfalso; omega
  · refine ⟨rfl, ?_⟩
    simp_all [right]
    intros; exfalso; omega

theorem refTicks_spec (v : Int) (d t : Bool) : PRet C.P 27 [sg v d t] (.int .i64 (ticks v d t)) := by
  refine pret_of ok mixed (A := A26) 1 Try.func27 rfl ?_
  (repeat ((conv => whnf); first | exact rfl | exact ⟨rfl, rfl⟩ | refine ⟨rfl, ?_⟩ | refine ⟨by decide, ?_⟩ | refine ⟨by kernel_rfl, ?_⟩ | (intro ep)))
  conv => whnf
  refine ⟨_, right_spec v d t, ?_⟩
  conv => whnf
  refine ifB (fun h0 => ?_) (fun h0 => ?_)
  · (repeat ((conv => whnf); first | exact rfl | exact ⟨rfl, rfl⟩ | refine ⟨rfl, ?_⟩ | refine ⟨by decide, ?_⟩ | refine ⟨by kernel_rfl, ?_⟩ | (intro ep)))
    simp only [Bool.not_eq_true'] at h0
    have : ticks v d t = 0 := by
      unfold right at h0
      unfold ticks
      split at h0
      · rename_i e; subst e; simp
      · rw [if_pos]
        simp only [Bool.and_eq_false_iff, decide_eq_false_iff_not, Bool.not_eq_false'] at h0
        rcases h0 with (h | h) | h
        · left; omega
        · right; left; omega
        · right; right; exact h
    rw [this]
  · (repeat ((conv => whnf); first | exact rfl | exact ⟨rfl, rfl⟩ | refine ⟨rfl, ?_⟩ | refine ⟨by decide, ?_⟩ | refine ⟨by kernel_rfl, ?_⟩ | (intro ep)))
    conv => whnf
    refine ifB (fun h1 => ?_) (fun h1 => ?_)
    · (repeat ((conv => whnf); first | exact rfl | exact ⟨rfl, rfl⟩ | refine ⟨rfl, ?_⟩ | refine ⟨by decide, ?_⟩ | refine ⟨by kernel_rfl, ?_⟩ | (intro ep)))
      conv => whnf
      simp only [beq_iff_eq] at h1
      subst h1
      exact rfl
    · simp at h0 h1
      have h2 : (v = 1 ∨ v = 2 ∨ v = 3 ∨ v = 4 ∨ v = 5 ∨ v = 6 ∨ v = 7) ∧ (d && t) = false := by
        simp [right, h1] at h0
        refine ⟨by omega, ?_⟩
        have := h0.2
        cases d <;> cases t <;> simp_all
      obtain ⟨rfl | rfl | rfl | rfl | rfl | rfl | rfl, h3⟩ := h2 <;> cases d <;> cases t <;> first | (exfalso; cases h3; done) |
        ((repeat ((conv => whnf); first | exact rfl | exact ⟨rfl, rfl⟩ | refine ⟨rfl, ?_⟩ | refine ⟨by decide, ?_⟩ | refine ⟨by kernel_rfl, ?_⟩ | (intro ep) | refine loopU ok mixed (A := fun _ => {}) 100 ?_)))

end Go.Ab.V

/-
  Pieces as plain data, and as values; the check of an instrument. No condition.
-/
namespace Go.Ab.V
open Go.Proofs

structure Stp where
  c : Int
  f : Int
  r : Int
  g : Int
  h : Int
  deriving DecidableEq
structure Evt where
  bar : Bool
  v : Int
  d : Bool
  t : Bool
  tie : Bool
  stops : List Stp
  deriving DecidableEq
structure Crs where
  pitch : Int
  frets : Int
  oct : Bool
  deriving DecidableEq
structure Ins where
  cs : List Crs
  steps : List Int
  deriving DecidableEq
structure Pc where
  ins : Ins
  evs : List Evt
  deriving DecidableEq

def ints (l : List Int) : List (List AV) := l.map fun x => [.int .i64 x]
def stR (s : Stp) : List AV := [.int .i64 s.c, .int .i64 s.f, .int .i64 s.r, .int .i64 s.g, .int .i64 s.h]
def stsA (l : List Stp) : AV := .lslc 5 (l.map stR) 0 l.length false
def evR (e : Evt) : List AV := [.bool e.bar, .int .i64 e.v, .bool e.d, .bool e.t, .bool e.tie, stsA e.stops]
def evsA (l : List Evt) : AV := .lslc 6 (l.map evR) 0 l.length false
def crR (c : Crs) : List AV := [.int .i64 c.pitch, .int .i64 c.frets, .bool c.oct]
def crsA (l : List Crs) : AV := .lslc 3 (l.map crR) 0 l.length false
def intsA (l : List Int) : AV := .lslc 1 (ints l) 0 l.length false
def inA (i : Ins) : AV := .agg [crsA i.cs, intsA i.steps]
def pcA (p : Pc) : AV := .agg [crsA p.ins.cs, intsA p.ins.steps, evsA p.evs]

theorem mapR {α : Type} {f : α → List AV} {l : List α} {i : Nat} (h : i < l.length) : (l.map f)[0 + ((i : Nat) : Int).toNat]? = some (f l[i]) := by
  rw [Nat.zero_add, Int.toNat_natCast, List.getElem?_map, List.getElem?_eq_getElem h]; rfl
theorem intsR {l : List Int} {i : Nat} (h : i < l.length) : (ints l)[0 + ((i : Nat) : Int).toNat]? = some [.int .i64 l[i]] := mapR h

/-- the steps ascend, from 1 to 127 -/
def chkSteps (last : Int) : List Int → Bool
  | [] => true
  | s :: r => decide (last < s) && decide (s ≤ 127) && chkSteps s r
def highest (steps : List Int) (c : Crs) : Int := c.pitch + (if 0 < c.frets then steps.getD (c.frets - 1).toNat 0 else 0) + if c.oct = true then 12 else 0
def chkCs (steps : List Int) : List Crs → Int
  | [] => 0
  | c :: r => if c.frets < 0 ∨ (steps.length : Int) < c.frets then 13 else if c.pitch < 0 ∨ 127 < c.pitch ∨ 127 < highest steps c then 10 else chkCs steps r
def chkIn (i : Ins) : Int := if 14 < i.cs.length ∨ 18 < i.steps.length then 2 else if i.cs.length = 0 then 11 else if chkSteps 0 i.steps = false then 11 else chkCs i.steps i.cs

theorem chkSteps_bd : ∀ (l : List Int) (last : Int), chkSteps last l = true → ∀ x ∈ l, last < x ∧ x ≤ 127 := by
  intro l
  induction l with
  | nil => intro last _ x hx; cases hx
  | cons s r ih =>
    intro last h x hx
    simp only [chkSteps, Bool.and_eq_true, decide_eq_true_eq] at h
    rcases List.mem_cons.1 hx with rfl | hx
    · exact h.1
    · have := ih s h.2 x hx
      omega

def A106 : Ann := fun r => match r with
  | 0 => { slots := [(0, 0), (1, 1)] }
  | _ => {}

set_option maxHeartbeats 1000000 in
set_option maxRecDepth 100000 in
theorem highest_spec (i : Ins) (c : Crs) (h1 : chkSteps 0 i.steps = true) (h2 : 0 ≤ c.frets) (h3 : c.frets ≤ i.steps.length) (hl : i.steps.length ≤ 18) (h4 : 0 ≤ c.pitch) (h5 : c.pitch ≤ 127) :
    PRet C.P 106 [inA i, .agg (crR c)] (.int .i64 (highest i.steps c)) := by
  have hf : 0 < c.frets → ∃ x, (ints i.steps)[0 + (c.frets - 1).toNat]? = some [.int .i64 x] ∧ i.steps.getD (c.frets - 1).toNat 0 = x ∧ 0 < x ∧ x ≤ 127 := by
    intro h
    have hlt : (c.frets - 1).toNat < i.steps.length := by omega
    refine ⟨i.steps[(c.frets - 1).toNat], ?_, ?_, ?_⟩
    · rw [Nat.zero_add]
      simp [ints, hlt]
    · rw [List.getD, List.getElem?_eq_getElem hlt]; rfl
    · exact chkSteps_bd _ _ h1 _ (List.getElem_mem hlt)
  refine pret_of ok mixed (A := A106) 2 Try.func106 rfl ?_
  unfold highest
  by_cases hc : 0 < c.frets
  · obtain ⟨x, x1, x2, x3, x4⟩ := hf hc
    rw [if_pos hc, x2]
    (repeat' (first | exact rfl | ((conv => whnf); first | exact rfl | refine ⟨by kernel_rfl, ?_⟩ | exact ⟨rfl, rfl⟩ | refine ⟨rfl, ?_⟩ | refine ⟨by (first | omega | (simp (disch := omega) only [wrapI]; omega) | (simp (disch := omega) only [wrapI]; simp; omega) | (simp; omega)), ?_⟩ | (intro ep) | refine optS (by (try simp (disch := omega) only [wrapI]); exact x1) ?_ | (refine ifB (fun hb => ?_) (fun hb => ?_) <;> (try simp only [decide_eq_true_eq, decide_eq_false_iff_not, beq_iff_eq, beq_eq_false_iff_ne, bne_iff_ne, bne_eq_false_iff_eq, ne_eq, not_false_eq_true, not_true_eq_false, Bool.not_eq_true, Bool.not_eq_true', Bool.not_eq_false', Int.not_lt, Int.not_le] at hb) <;> (try simp (disch := omega) only [wrapI] at hb) <;> (try (exfalso; omega))) | fail)))
    all_goals (simp (disch := omega) only [wrapI]; simp [hb])
  · rw [if_neg hc]
    (repeat' (first | exact rfl | ((conv => whnf); first | exact rfl | refine ⟨by kernel_rfl, ?_⟩ | exact ⟨rfl, rfl⟩ | refine ⟨rfl, ?_⟩ | refine ⟨by (first | omega | (simp (disch := omega) only [wrapI]; omega) | (simp (disch := omega) only [wrapI]; simp; omega) | (simp; omega)), ?_⟩ | (intro ep) | (refine ifB (fun hb => ?_) (fun hb => ?_) <;> (try simp only [decide_eq_true_eq, decide_eq_false_iff_not, beq_iff_eq, beq_eq_false_iff_ne, bne_iff_ne, bne_eq_false_iff_eq, ne_eq, not_false_eq_true, not_true_eq_false, Bool.not_eq_true, Bool.not_eq_true', Bool.not_eq_false', Int.not_lt, Int.not_le] at hb) <;> (try simp (disch := omega) only [wrapI] at hb) <;> (try (exfalso; omega))) | fail)))
    all_goals ((try simp (disch := omega) only [wrapI]); simp [hb])

def A73 : Ann := fun r => match r with
  | 0 => { slots := [(0, 0)] }
  | 15 => { slots := [(2, 1)] }
  | _ => {}

theorem drop_at {α : Type} {l : List α} {i : Nat} (h : i < l.length) : l.drop i = l[i] :: l.drop (i + 1) := List.drop_eq_getElem_cons h

set_option maxHeartbeats 2000000 in
set_option maxRecDepth 100000 in
theorem inCheck_spec (i : Ins) : PRet C.P 73 [inA i] (.int .i64 (chkIn i)) := by
  refine pret_of ok mixed (A := A73) 2 Try.func73 rfl ?_
  (repeat' (first | exact rfl | ((conv => whnf); first | exact rfl | refine ⟨by kernel_rfl, ?_⟩ | exact ⟨rfl, rfl⟩ | refine ⟨rfl, ?_⟩ | refine ⟨by (first | omega | (simp (disch := omega) only [wrapI]; omega) | (simp (disch := omega) only [wrapI]; simp; omega) | (simp; omega)), ?_⟩ | (intro ep) | (refine ifB (fun hb => ?_) (fun hb => ?_) <;> (try simp only [decide_eq_true_eq, decide_eq_false_iff_not, beq_iff_eq, beq_eq_false_iff_ne, bne_iff_ne, bne_eq_false_iff_eq, ne_eq, not_false_eq_true, not_true_eq_false, Bool.not_eq_true, Bool.not_eq_true', Bool.not_eq_false', Int.not_lt, Int.not_le] at hb) <;> (try simp (disch := omega) only [wrapI] at hb) <;> (try (exfalso; omega))) | fail)))
  · unfold chkIn; rw [if_pos (by omega)]
  · unfold chkIn; rw [if_pos (by omega)]
  · unfold chkIn; rw [if_neg (by omega), if_pos (by omega)]
  obtain ⟨e0, he0⟩ : ∃ e0, e0 = ep := ⟨_, rfl⟩
  subst he0
  (conv => whnf)
  refine loopM ok mixed (A := A73) [1, 3, 23, 24, 25] [0] (S := { x : Nat × Int // x.1 ≤ i.steps.length ∧ chkSteps x.2 (i.steps.drop x.1) = chkSteps 0 i.steps })
    (fr := fun s => frOf 0 71 [(1, .optr (.s 0) e0 2 0 0), (3, .int .i64 s.1.2), (23, intsA i.steps), (24, .int .i64 i.steps.length), (25, .int .i64 (s.1.1 : Int))])
    (h := fun s => ⟨[.vec e0 [[crsA i.cs, intsA i.steps]], .hole], []⟩) (μ := fun s => i.steps.length - s.1.1) ⟨(0, 0), by omega, rfl⟩ rfl rfl ?_
  rintro ⟨⟨k, last⟩, hk, hs⟩
  simp only at hk hs
  show aexR _ _ _ (frOf 0 71 [(1, .optr (.s 0) e0 2 0 0), (3, .int .i64 last), (23, intsA i.steps), (24, .int .i64 i.steps.length), (25, .int .i64 (k : Int))]) ⟨[.vec e0 [[crsA i.cs, intsA i.steps]], .hole], []⟩ _
  (conv => whnf)
  refine ifB (fun h1 => ?_) (fun h1 => ?_)
  · simp only [decide_eq_true_eq] at h1
    have hlt : k < i.steps.length := by omega
    rw [drop_at hlt] at hs
    simp only [chkSteps] at hs
    (repeat' (first | exact rfl | ((conv => whnf); first | exact rfl | refine ⟨by kernel_rfl, ?_⟩ | exact ⟨rfl, rfl⟩ | refine ⟨rfl, ?_⟩ | refine ⟨by (first | omega | (simp (disch := omega) only [wrapI]; omega) | (simp (disch := omega) only [wrapI]; simp; omega) | (simp; omega)), ?_⟩ | (intro ep) | refine optS (intsR hlt) ?_ | (refine ifB (fun hb => ?_) (fun hb => ?_) <;> (try simp only [decide_eq_true_eq, decide_eq_false_iff_not, beq_iff_eq, beq_eq_false_iff_ne, bne_iff_ne, bne_eq_false_iff_eq, ne_eq, not_false_eq_true, not_true_eq_false, Bool.not_eq_true, Bool.not_eq_true', Bool.not_eq_false', Int.not_lt, Int.not_le] at hb) <;> (try simp (disch := omega) only [wrapI] at hb) <;> (try (exfalso; omega))) | fail)))
    · rw [decide_eq_false (by omega)] at hs
      unfold chkIn; rw [if_neg (by omega), if_neg (by omega), if_pos (by rw [← hs]; simp)]
    · rw [decide_eq_false (show ¬ i.steps[k] ≤ 127 by omega)] at hs
      unfold chkIn; rw [if_neg (by omega), if_neg (by omega), if_pos (by rw [← hs]; simp)]
    · rw [decide_eq_true (by omega), decide_eq_true (by omega)] at hs
      refine back_of ⟨(k + 1, i.steps[k]), by omega, by simpa using hs⟩ ⟨by (first | exact rfl | (simp (disch := omega) only [wrapI]; exact rfl)), rfl, by simp only; omega⟩
  simp only [decide_eq_false_iff_not] at h1
  have hS : chkSteps 0 i.steps = true := by rw [← hs, List.drop_eq_nil_of_le (by omega)]; rfl
  (repeat' (first | exact rfl | ((conv => whnf); first | exact rfl | refine ⟨by kernel_rfl, ?_⟩ | exact ⟨rfl, rfl⟩ | refine ⟨rfl, ?_⟩ | refine ⟨by (first | omega | (simp (disch := omega) only [wrapI]; omega) | (simp (disch := omega) only [wrapI]; simp; omega) | (simp; omega)), ?_⟩ | (intro ep) | (refine ifB (fun hb => ?_) (fun hb => ?_) <;> (try simp only [decide_eq_true_eq, decide_eq_false_iff_not, beq_iff_eq, beq_eq_false_iff_ne, bne_iff_ne, bne_eq_false_iff_eq, ne_eq, not_false_eq_true, not_true_eq_false, Bool.not_eq_true, Bool.not_eq_true', Bool.not_eq_false', Int.not_lt, Int.not_le] at hb) <;> (try simp (disch := omega) only [wrapI] at hb) <;> (try (exfalso; omega))) | fail)))
  (conv => whnf)
  refine loopM ok mixed (A := A73) [1, 39, 40, 41] [0] (S := { k : Nat // k ≤ i.cs.length ∧ chkCs i.steps (i.cs.drop k) = chkCs i.steps i.cs })
    (fr := fun s => frOf 0 71 [(1, .optr (.s 0) e0 2 0 0), (39, crsA i.cs), (40, .int .i64 i.cs.length), (41, .int .i64 (s.1 : Int))])
    (h := fun s => ⟨[.vec e0 [[crsA i.cs, intsA i.steps]], .hole], []⟩) (μ := fun s => i.cs.length - s.1) ⟨0, by omega, rfl⟩ rfl rfl ?_
  have hA : chkIn i = chkCs i.steps i.cs := by unfold chkIn; rw [if_neg (by omega), if_neg (by omega), if_neg (by rw [hS]; simp)]
  rw [hA]
  rintro ⟨k, hk, hs⟩
  show aexR _ _ _ (frOf 0 71 [(1, .optr (.s 0) e0 2 0 0), (39, crsA i.cs), (40, .int .i64 i.cs.length), (41, .int .i64 (k : Int))]) ⟨[.vec e0 [[crsA i.cs, intsA i.steps]], .hole], []⟩ _
  (conv => whnf)
  refine ifB (fun h1 => ?_) (fun h1 => ?_)
  · simp only [decide_eq_true_eq] at h1
    have hlt : k < i.cs.length := by omega
    rw [drop_at hlt] at hs
    simp only [chkCs] at hs
    (repeat' (first | exact rfl | ((conv => whnf); first | exact rfl | refine ⟨by kernel_rfl, ?_⟩ | exact ⟨rfl, rfl⟩ | refine ⟨rfl, ?_⟩ | refine ⟨by (first | omega | (simp (disch := omega) only [wrapI]; omega) | (simp (disch := omega) only [wrapI]; simp; omega) | (simp; omega)), ?_⟩ | (intro ep) | refine optS (mapR hlt) ?_ | refine ⟨_, highest_spec i i.cs[k] hS (by omega) (by omega) (by omega) (by omega) (by omega), ?_⟩ | (refine ifB (fun hb => ?_) (fun hb => ?_) <;> (try simp only [decide_eq_true_eq, decide_eq_false_iff_not, beq_iff_eq, beq_eq_false_iff_ne, bne_iff_ne, bne_eq_false_iff_eq, ne_eq, not_false_eq_true, not_true_eq_false, Bool.not_eq_true, Bool.not_eq_true', Bool.not_eq_false', Int.not_lt, Int.not_le] at hb) <;> (try simp (disch := omega) only [wrapI] at hb) <;> (try (exfalso; omega))) | fail)))
    · rw [← hs, if_pos (by omega)]
    · rw [← hs, if_pos (by omega)]
    · rw [← hs, if_neg (by omega), if_pos (by omega)]
    · rw [← hs, if_neg (by omega), if_pos (by omega)]
    · rw [← hs, if_neg (by omega), if_pos (by omega)]
    · rw [if_neg (by omega), if_neg (by omega)] at hs
      refine back_of ⟨k + 1, by omega, hs⟩ ⟨by (first | exact rfl | (simp (disch := omega) only [wrapI]; exact rfl)), rfl, by simp only; omega⟩
  · simp only [decide_eq_false_iff_not] at h1
    have h0 : chkCs i.steps i.cs = 0 := by rw [← hs, List.drop_eq_nil_of_le (by omega)]; rfl
    (repeat' (first | exact rfl | ((conv => whnf); first | exact rfl | refine ⟨by kernel_rfl, ?_⟩ | exact ⟨rfl, rfl⟩ | refine ⟨rfl, ?_⟩ | refine ⟨by (first | omega | (simp (disch := omega) only [wrapI]; omega) | (simp (disch := omega) only [wrapI]; simp; omega) | (simp; omega)), ?_⟩ | (intro ep) | (refine ifB (fun hb => ?_) (fun hb => ?_) <;> (try simp only [decide_eq_true_eq, decide_eq_false_iff_not, beq_iff_eq, beq_eq_false_iff_ne, bne_iff_ne, bne_eq_false_iff_eq, ne_eq, not_false_eq_true, not_true_eq_false, Bool.not_eq_true, Bool.not_eq_true', Bool.not_eq_false', Int.not_lt, Int.not_le] at hb) <;> (try simp (disch := omega) only [wrapI] at hb) <;> (try (exfalso; omega))) | fail)))
    rw [h0]

end Go.Ab.V

/-
  Rests, stops on a course, holds. No condition.
-/
namespace Go.Ab.V
open Go.Proofs

def hasC (l : List Stp) (c : Int) : Bool := l.any fun s => s.c == c
def restE (e : Evt) : Bool := decide (e.stops.length = 0) && !e.tie

def A63 : Ann := fun r => match r with
  | 0 => { slots := [(0, 0)] }
  | _ => {}
def A76 : Ann := fun r => match r with
  | 0 => { slots := [(0, 0), (1, 1)] }
  | _ => {}
def A108 : Ann := fun r => match r with
  | 0 => { slots := [(0, 2)] }
  | _ => {}

theorem isRest_spec (e : Evt) : PRet C.P 63 [.agg (evR e)] (.bool (restE e)) := by
  refine pret_of ok mixed (A := A63) 1 Try.func63 rfl ?_
  (repeat' (first | exact rfl | ((conv => whnf); first | exact rfl | refine ⟨by kernel_rfl, ?_⟩ | exact ⟨rfl, rfl⟩ | refine ⟨rfl, ?_⟩ | refine ⟨by (first | omega | (simp (disch := omega) only [wrapI]; omega) | (simp (disch := omega) only [wrapI]; simp; omega) | (simp; omega)), ?_⟩ | (intro ep) | (refine ifB (fun hb => ?_) (fun hb => ?_) <;> (try simp only [decide_eq_true_eq, decide_eq_false_iff_not, beq_iff_eq, beq_eq_false_iff_ne, bne_iff_ne, bne_eq_false_iff_eq, ne_eq, not_false_eq_true, not_true_eq_false, Bool.not_eq_true, Bool.not_eq_true', Bool.not_eq_false', Int.not_lt, Int.not_le] at hb) <;> (try simp (disch := omega) only [wrapI] at hb) <;> (try (exfalso; omega))) | fail)))
  all_goals simp_all [restE]

def A74 : Ann := fun r => match r with
  | 0 => { slots := [(0, 0)] }
  | _ => {}
theorem ticks_pos (v : Int) (d t : Bool) : (0 < ticks v d t) = (1 ≤ v ∧ v ≤ 7 ∧ (d && t) = false) := by
  apply propext
  constructor
  · intro h
    unfold ticks at h
    split at h
    · omega
    · rename_i hc
      refine ⟨by omega, by omega, ?_⟩
      cases hdt : (d && t) with
      | false => rfl
      | true => exact absurd (.inr (.inr hdt)) hc
  · rintro ⟨h1, h2, h3⟩
    rcases seven (v := v) (by omega) (by omega) with rfl | rfl | rfl | rfl | rfl | rfl | rfl <;> cases d <;> cases t <;> first | (exfalso; cases h3; done) | decide
theorem valid_spec (v : Int) (d t : Bool) : PRet C.P 74 [sg v d t] (.bool (right v d t)) := by
  refine pret_of ok mixed (A := A74) 1 Try.func74 rfl ?_
  (repeat' (first | exact rfl | ((conv => whnf); first | exact rfl | refine ⟨by kernel_rfl, ?_⟩ | exact ⟨rfl, rfl⟩ | refine ⟨rfl, ?_⟩ | refine ⟨by (first | omega | (simp (disch := omega) only [wrapI]; omega) | (simp (disch := omega) only [wrapI]; simp; omega) | (simp; omega)), ?_⟩ | (intro ep) | refine ⟨_, ticks_spec v d t, ?_⟩ | (refine ifB (fun hb => ?_) (fun hb => ?_) <;> (try simp only [decide_eq_true_eq, decide_eq_false_iff_not, beq_iff_eq, beq_eq_false_iff_ne, bne_iff_ne, bne_eq_false_iff_eq, ne_eq, not_false_eq_true, not_true_eq_false, Bool.not_eq_true, Bool.not_eq_true', Bool.not_eq_false', Int.not_lt, Int.not_le] at hb) <;> (try simp (disch := omega) only [wrapI] at hb) <;> (try (exfalso; omega))) | fail)))
  · simp only [Bool.and_eq_true, decide_eq_true_eq, beq_iff_eq] at hb
    obtain ⟨rfl, rfl, rfl, _⟩ := hb
    rfl
  · refine congrArg AV.bool ?_
    have tp := ticks_pos v d t
    by_cases h0 : v = 0
    · subst h0
      have : ticks 0 d t = 0 := by simp [ticks]
      rw [this]
      cases d <;> cases t <;> first | rfl | (exfalso; revert hb; decide)
    · unfold right
      rw [if_neg h0]
      by_cases hp : 0 < ticks v d t
      · rw [decide_eq_true hp]
        rw [tp] at hp
        simp [hp]
      · rw [decide_eq_false hp]
        rw [tp] at hp
        by_cases h1 : 1 ≤ v <;> by_cases h2 : v ≤ 7 <;> simp_all <;> (intros; exfalso; omega)

theorem has_drop {l : List Stp} {k : Nat} (h : k < l.length) (c : Int) : hasC (l.drop k) c = (l[k].c == c || hasC (l.drop (k + 1)) c) := by
  rw [drop_at h]; rfl

set_option maxHeartbeats 1000000 in
set_option maxRecDepth 100000 in
theorem plucks_spec (e : Evt) (c : Int) (hl : e.stops.length ≤ 9223372036854775807) : PRet C.P 76 [.agg (evR e), .int .i64 c] (.bool (hasC e.stops c)) := by
  refine pret_of (okx [] [107, 108, 117]) mixed (A := A76) 2 Try.func76 rfl ?_
  (repeat' (first | exact rfl | ((conv => whnf); first | exact rfl | refine ⟨by kernel_rfl, ?_⟩ | exact ⟨rfl, rfl⟩ | refine ⟨rfl, ?_⟩ | refine ⟨by (first | omega | (simp (disch := omega) only [wrapI]; omega) | (simp (disch := omega) only [wrapI]; simp; omega) | (simp; omega)), ?_⟩ | (intro ep) | (refine ifB (fun hb => ?_) (fun hb => ?_) <;> (try simp only [decide_eq_true_eq, decide_eq_false_iff_not, beq_iff_eq, beq_eq_false_iff_ne, bne_iff_ne, bne_eq_false_iff_eq, ne_eq, not_false_eq_true, not_true_eq_false, Bool.not_eq_true, Bool.not_eq_true', Bool.not_eq_false', Int.not_lt, Int.not_le] at hb) <;> (try simp (disch := omega) only [wrapI] at hb) <;> (try (exfalso; omega))) | refine fn_of (okx [] [107, 108, 117]) mixed (A := fun _ => {}) 0 Try.func107 rfl ?_ | refine fn_of (okx [] [107, 108, 117]) mixed (A := fun _ => {}) 0 Try.func117 rfl ?_ | fail)))
  rename_i e0
  obtain ⟨e1, he⟩ : ∃ e1, e1 = ep := ⟨_, rfl⟩
  subst he
  (conv => whnf)
  refine loopM (okx [] [107, 108, 117]) mixed (A := fun _ => {}) [0, 1, 7, 8] [0, 1] (S := { k : Nat // k ≤ e.stops.length ∧ hasC (e.stops.drop k) c = hasC e.stops c })
    (fr := fun s => frOf 0 19 [(0, stsA e.stops), (1, .fn (.func 108) [] [.optr (.s 1) e1 1 0 0]), (7, .int .i64 e.stops.length), (8, .int .i64 (s.1 : Int))])
    (h := fun s => ⟨[.vec e0 [evR e], .vec e1 [[.int .i64 c]]], []⟩) (μ := fun s => e.stops.length - s.1) ⟨0, by omega, rfl⟩ rfl rfl ?_
  rintro ⟨k, hk, hs⟩
  show aexR _ _ _ (frOf 0 19 [(0, stsA e.stops), (1, .fn (.func 108) [] [.optr (.s 1) e1 1 0 0]), (7, .int .i64 e.stops.length), (8, .int .i64 (k : Int))]) ⟨[.vec e0 [evR e], .vec e1 [[.int .i64 c]]], []⟩ _
  (conv => whnf)
  refine ifB (fun h1 => ?_) (fun h1 => ?_)
  · simp only [decide_eq_true_eq] at h1
    have hlt : k < e.stops.length := by omega
    rw [has_drop hlt] at hs
    (repeat' (first | exact rfl | ((conv => whnf); first | exact rfl | refine ⟨by kernel_rfl, ?_⟩ | exact ⟨rfl, rfl⟩ | refine ⟨rfl, ?_⟩ | refine ⟨by (first | omega | (simp (disch := omega) only [wrapI]; omega) | (simp (disch := omega) only [wrapI]; simp; omega) | (simp; omega)), ?_⟩ | (intro ep) | refine optS (mapR hlt) ?_ | (refine ifB (fun hb => ?_) (fun hb => ?_) <;> (try simp only [decide_eq_true_eq, decide_eq_false_iff_not, beq_iff_eq, beq_eq_false_iff_ne, bne_iff_ne, bne_eq_false_iff_eq, ne_eq, not_false_eq_true, not_true_eq_false, Bool.not_eq_true, Bool.not_eq_true', Bool.not_eq_false', Int.not_lt, Int.not_le] at hb) <;> (try simp (disch := omega) only [wrapI] at hb) <;> (try (exfalso; omega))) | refine fn_of (okx [] [107, 108, 117]) mixed (A := A108) 1 Try.func108 rfl ?_ | fail)))
    · rw [← hs, hb]; simp
    · rw [beq_eq_false_iff_ne.2 hb, Bool.false_or] at hs
      refine back_of ⟨k + 1, by omega, hs⟩ ⟨by (first | exact rfl | (simp (disch := omega) only [wrapI]; exact rfl)), rfl, by simp only; omega⟩
  · simp only [decide_eq_false_iff_not] at h1
    rw [List.drop_eq_nil_of_le (by omega)] at hs
    (repeat' (first | exact rfl | ((conv => whnf); first | exact rfl | refine ⟨by kernel_rfl, ?_⟩ | exact ⟨rfl, rfl⟩ | refine ⟨rfl, ?_⟩ | refine ⟨by (first | omega | (simp (disch := omega) only [wrapI]; omega) | (simp (disch := omega) only [wrapI]; simp; omega) | (simp; omega)), ?_⟩ | (intro ep) | (refine ifB (fun hb => ?_) (fun hb => ?_) <;> (try simp only [decide_eq_true_eq, decide_eq_false_iff_not, beq_iff_eq, beq_eq_false_iff_ne, bne_iff_ne, bne_eq_false_iff_eq, ne_eq, not_false_eq_true, not_true_eq_false, Bool.not_eq_true, Bool.not_eq_true', Bool.not_eq_false', Int.not_lt, Int.not_le] at hb) <;> (try simp (disch := omega) only [wrapI] at hb) <;> (try (exfalso; omega))) | fail)))
    all_goals rw [← hs]; rfl

def longL (c : Int) : Nat → List Evt → Nat
  | 0, _ => 0
  | _ + 1, [] => 0
  | n + 1, e :: r => if (restE e || hasC e.stops c) = true then 0 else longL c n r + 1
def longest (evs : List Evt) (ev c : Int) : Int := if ev < 0 ∨ (evs.length : Int) ≤ ev then 0 else (longL c 15 (evs.drop (ev + 1).toNat) : Nat)

theorem longL_le (c : Int) : ∀ (n : Nat) (l : List Evt), longL c n l ≤ n := by
  intro n
  induction n with
  | zero => intro l; simp [longL]
  | succ n ih =>
    intro l
    cases l with
    | nil => simp [longL]
    | cons e r => simp only [longL]; split; · omega
                  · have := ih r; omega

theorem mapRo {α : Type} {f : α → List AV} {l : List α} {a i : Nat} (h : a + i < l.length) : (l.map f)[a + ((i : Nat) : Int).toNat]? = some (f l[a + i]) := by
  rw [Int.toNat_natCast, List.getElem?_map, List.getElem?_eq_getElem h]; rfl

/-- sizes that a machine has -/
structure Pc.Ok (p : Pc) : Prop where
  cs : p.ins.cs.length ≤ 9223372036854775807
  st : p.ins.steps.length ≤ 9223372036854775807
  ev : p.evs.length ≤ 9223372036854775807
  sp : ∀ e ∈ p.evs, e.stops.length ≤ 9223372036854775807

def A34 : Ann := fun r => match r with
  | 0 => { slots := [(0, 0)] }
  | 6 => { slots := [(2, 1)] }
  | _ => {}

set_option maxHeartbeats 1000000 in
set_option maxRecDepth 100000 in
theorem longest_spec (p : Pc) (hp : p.Ok) (ev c : Int) : PRet C.P 34 [pcA p, .int .i64 ev, .int .i64 c] (.int .i64 (longest p.evs ev c)) := by
  have hpe := hp.ev
  refine pret_of ok mixed (A := A34) 2 Try.func34 rfl ?_
  (repeat' (first | exact rfl | ((conv => whnf); first | exact rfl | refine ⟨by kernel_rfl, ?_⟩ | exact ⟨rfl, rfl⟩ | refine ⟨rfl, ?_⟩ | refine ⟨by (first | omega | (simp (disch := omega) only [wrapI]; omega) | (simp (disch := omega) only [wrapI]; simp; omega) | (simp; omega)), ?_⟩ | (intro ep) | (refine ifB (fun hb => ?_) (fun hb => ?_) <;> (try simp only [decide_eq_true_eq, decide_eq_false_iff_not, beq_iff_eq, beq_eq_false_iff_ne, bne_iff_ne, bne_eq_false_iff_eq, ne_eq, not_false_eq_true, not_true_eq_false, Bool.not_eq_true, Bool.not_eq_true', Bool.not_eq_false', Int.not_lt, Int.not_le] at hb) <;> (try simp (disch := omega) only [wrapI] at hb) <;> (try (exfalso; omega))) | fail)))
  · unfold longest; rw [if_pos (by omega)]
  · unfold longest; rw [if_pos (by omega)]
  obtain ⟨n, rfl⟩ : ∃ n : Nat, ev = n := ⟨ev.toNat, by omega⟩
  have hA : longest p.evs n c = ((longL c 15 (p.evs.drop (n + 1)) : Nat) : Int) := by unfold longest; rw [if_neg (by omega)]; rfl
  rw [hA]
  (conv => whnf)
  obtain ⟨e0, he⟩ : ∃ e0, e0 = ep := ⟨_, rfl⟩
  subst he
  refine loopM ok mixed (A := A34) [2, 7, 23, 24, 25] [0] (S := { k : Nat // k ≤ p.evs.length - (n + 1) ∧ k ≤ 15 ∧ longL c (15 - k) (p.evs.drop (n + 1 + k)) + k = longL c 15 (p.evs.drop (n + 1)) })
    (fr := fun s => frOf 0 44 [(2, .int .i64 c), (7, .int .i64 (s.1 : Int)), (23, .lslc 6 (p.evs.map evR) (0 + (n + 1)) (p.evs.length - (n + 1)) false), (24, .int .i64 ((p.evs.length - (n + 1) : Nat) : Int)), (25, .int .i64 (s.1 : Int))])
    (h := fun s => ⟨[.vec e0 [[crsA p.ins.cs, intsA p.ins.steps, evsA p.evs]], .hole], []⟩) (μ := fun s => 15 - s.1) ⟨0, by omega, by omega, rfl⟩ (by (first | exact rfl | (simp (disch := omega) only [wrapI]; exact rfl))) rfl ?_
  rintro ⟨k, hk, hk15, hs⟩
  show aexR _ _ _ (frOf 0 44 [(2, .int .i64 c), (7, .int .i64 (k : Int)), (23, .lslc 6 (p.evs.map evR) (0 + (n + 1)) (p.evs.length - (n + 1)) false), (24, .int .i64 ((p.evs.length - (n + 1) : Nat) : Int)), (25, .int .i64 (k : Int))]) ⟨[.vec e0 [[crsA p.ins.cs, intsA p.ins.steps, evsA p.evs]], .hole], []⟩ _
  (conv => whnf)
  refine ifB (fun h1 => ?_) (fun h1 => ?_)
  · simp only [decide_eq_true_eq] at h1
    have hlt : 0 + (n + 1) + k < p.evs.length := by omega
    have hlt' : n + 1 + k < p.evs.length := by omega
    obtain ⟨e, he⟩ : ∃ e, e = p.evs[0 + (n + 1) + k] := ⟨_, rfl⟩
    have he' : p.evs[n + 1 + k] = e := by rw [he]; congr 1; omega
    have hm : (p.evs.map evR)[0 + (n + 1) + ((k : Nat) : Int).toNat]? = some (evR e) := by rw [mapRo hlt, he]
    have hsl : e.stops.length ≤ 9223372036854775807 := hp.sp e (by rw [he]; exact List.getElem_mem hlt)
    rw [drop_at hlt', he'] at hs
    (repeat' (first | exact rfl | ((conv => whnf); first | exact rfl | refine ⟨by kernel_rfl, ?_⟩ | exact ⟨rfl, rfl⟩ | refine ⟨rfl, ?_⟩ | refine ⟨by (first | omega | (simp (disch := omega) only [wrapI]; omega) | (simp (disch := omega) only [wrapI]; simp; omega) | (simp; omega)), ?_⟩ | (intro ep) | refine optS hm ?_ | refine ⟨_, isRest_spec e, ?_⟩ | refine ⟨_, plucks_spec e c hsl, ?_⟩ | (refine ifB (fun hb => ?_) (fun hb => ?_) <;> (try simp only [decide_eq_true_eq, decide_eq_false_iff_not, beq_iff_eq, beq_eq_false_iff_ne, bne_iff_ne, bne_eq_false_iff_eq, ne_eq, not_false_eq_true, not_true_eq_false, Bool.not_eq_true, Bool.not_eq_true', Bool.not_eq_false', Int.not_lt, Int.not_le] at hb) <;> (try simp (disch := omega) only [wrapI] at hb) <;> (try (exfalso; omega))) | fail)))
    · obtain rfl : k = 15 := by omega
      simp only [Nat.sub_self, longL] at hs
      exact congrArg (AV.int .i64) (by omega)
    · obtain ⟨m, hm⟩ : ∃ m, 15 - k = m + 1 := ⟨14 - k, by omega⟩
      rw [hm] at hs
      simp only [longL, hb, Bool.true_or, if_true] at hs
      exact congrArg (AV.int .i64) (by omega)
    · rename_i hb1
      obtain ⟨m, hm⟩ : ∃ m, 15 - k = m + 1 := ⟨14 - k, by omega⟩
      rw [hm] at hs
      simp only [longL, hb, Bool.or_true, if_true] at hs
      exact congrArg (AV.int .i64) (by omega)
    · rename_i hb1
      obtain ⟨m, hm⟩ : ∃ m, 15 - k = m + 1 := ⟨14 - k, by omega⟩
      rw [hm] at hs
      simp only [longL, hb, hb1, Bool.or_false, Bool.false_eq_true, if_false] at hs
      refine back_of ⟨k + 1, by omega, by omega, ?_⟩ ⟨by (first | exact rfl | (simp (disch := omega) only [wrapI]; exact rfl)), rfl, by simp only; omega⟩
      rw [show 15 - (k + 1) = m by omega, show n + 1 + (k + 1) = n + 1 + k + 1 by omega]
      omega
  · simp only [decide_eq_false_iff_not] at h1
    rw [List.drop_eq_nil_of_le (by omega)] at hs
    have h0 : longL c (15 - k) [] = 0 := by cases 15 - k <;> rfl
    rw [h0] at hs
    (repeat' (first | exact rfl | ((conv => whnf); first | exact rfl | refine ⟨by kernel_rfl, ?_⟩ | exact ⟨rfl, rfl⟩ | refine ⟨rfl, ?_⟩ | refine ⟨by (first | omega | (simp (disch := omega) only [wrapI]; omega) | (simp (disch := omega) only [wrapI]; simp; omega) | (simp; omega)), ?_⟩ | (intro ep) | (refine ifB (fun hb => ?_) (fun hb => ?_) <;> (try simp only [decide_eq_true_eq, decide_eq_false_iff_not, beq_iff_eq, beq_eq_false_iff_ne, bne_iff_ne, bne_eq_false_iff_eq, ne_eq, not_false_eq_true, not_true_eq_false, Bool.not_eq_true, Bool.not_eq_true', Bool.not_eq_false', Int.not_lt, Int.not_le] at hb) <;> (try simp (disch := omega) only [wrapI] at hb) <;> (try (exfalso; omega))) | fail)))
    all_goals (rw [← hs]; simp)

def A77 : Ann := fun r => match r with
  | 0 => { slots := [(0, 0)] }
  | _ => {}
theorem refRest_spec (e : Evt) : PRet C.P 77 [.agg (evR e)] (.bool (restE e)) := by
  refine pret_of ok mixed (A := A77) 1 Try.func77 rfl ?_
  (repeat' (first | exact rfl | ((conv => whnf); first | exact rfl | refine ⟨by kernel_rfl, ?_⟩ | exact ⟨rfl, rfl⟩ | refine ⟨rfl, ?_⟩ | refine ⟨by (first | omega | (simp (disch := omega) only [wrapI]; omega) | (simp (disch := omega) only [wrapI]; simp; omega) | (simp; omega)), ?_⟩ | (intro ep) | (refine ifB (fun hb => ?_) (fun hb => ?_) <;> (try simp only [decide_eq_true_eq, decide_eq_false_iff_not, beq_iff_eq, beq_eq_false_iff_ne, bne_iff_ne, bne_eq_false_iff_eq, ne_eq, not_false_eq_true, not_true_eq_false, Bool.not_eq_true, Bool.not_eq_true', Bool.not_eq_false', Int.not_lt, Int.not_le] at hb) <;> (try simp (disch := omega) only [wrapI] at hb) <;> (try (exfalso; omega))) | fail)))
  all_goals simp_all [restE]

set_option maxHeartbeats 1000000 in
set_option maxRecDepth 100000 in
theorem refHas_spec (e : Evt) (c : Int) (hl : e.stops.length ≤ 9223372036854775807) : PRet C.P 78 [.agg (evR e), .int .i64 c] (.bool (hasC e.stops c)) := by
  refine pret_of ok mixed (A := A77) 1 Try.func78 rfl ?_
  (repeat' (first | exact rfl | ((conv => whnf); first | exact rfl | refine ⟨by kernel_rfl, ?_⟩ | exact ⟨rfl, rfl⟩ | refine ⟨rfl, ?_⟩ | refine ⟨by (first | omega | (simp (disch := omega) only [wrapI]; omega) | (simp (disch := omega) only [wrapI]; simp; omega) | (simp; omega)), ?_⟩ | (intro ep) | (refine ifB (fun hb => ?_) (fun hb => ?_) <;> (try simp only [decide_eq_true_eq, decide_eq_false_iff_not, beq_iff_eq, beq_eq_false_iff_ne, bne_iff_ne, bne_eq_false_iff_eq, ne_eq, not_false_eq_true, not_true_eq_false, Bool.not_eq_true, Bool.not_eq_true', Bool.not_eq_false', Int.not_lt, Int.not_le] at hb) <;> (try simp (disch := omega) only [wrapI] at hb) <;> (try (exfalso; omega))) | fail)))
  obtain ⟨e0, he⟩ : ∃ e1, e1 = ep := ⟨_, rfl⟩
  subst he
  (conv => whnf)
  refine loopM ok mixed (A := A77) [1, 2, 5] [0] (S := { k : Nat // k ≤ e.stops.length ∧ hasC (e.stops.drop k) c = hasC e.stops c })
    (fr := fun s => frOf 0 21 [(1, .int .i64 c), (2, .optr (.s 0) e0 6 0 0), (5, .int .i64 (s.1 : Int))])
    (h := fun s => ⟨[.vec e0 [evR e]], []⟩) (μ := fun s => e.stops.length - s.1) ⟨0, by omega, rfl⟩ rfl rfl ?_
  rintro ⟨k, hk, hs⟩
  show aexR _ _ _ (frOf 0 21 [(1, .int .i64 c), (2, .optr (.s 0) e0 6 0 0), (5, .int .i64 (k : Int))]) ⟨[.vec e0 [evR e]], []⟩ _
  (conv => whnf)
  refine ⟨rfl, ?_⟩
  (conv => whnf)
  refine ifB (fun h1 => ?_) (fun h1 => ?_)
  · simp only [decide_eq_true_eq] at h1
    have hlt : k < e.stops.length := by omega
    rw [has_drop hlt] at hs
    (repeat' (first | exact rfl | ((conv => whnf); first | exact rfl | refine ⟨by kernel_rfl, ?_⟩ | exact ⟨rfl, rfl⟩ | refine ⟨rfl, ?_⟩ | refine ⟨by (first | omega | (simp (disch := omega) only [wrapI]; omega) | (simp (disch := omega) only [wrapI]; simp; omega) | (simp; omega)), ?_⟩ | (intro ep) | refine optS (mapR hlt) ?_ | (refine ifB (fun hb => ?_) (fun hb => ?_) <;> (try simp only [decide_eq_true_eq, decide_eq_false_iff_not, beq_iff_eq, beq_eq_false_iff_ne, bne_iff_ne, bne_eq_false_iff_eq, ne_eq, not_false_eq_true, not_true_eq_false, Bool.not_eq_true, Bool.not_eq_true', Bool.not_eq_false', Int.not_lt, Int.not_le] at hb) <;> (try simp (disch := omega) only [wrapI] at hb) <;> (try (exfalso; omega))) | fail)))
    · rw [← hs, hb]; simp
    · rw [beq_eq_false_iff_ne.2 hb, Bool.false_or] at hs
      refine back_of ⟨k + 1, by omega, hs⟩ ⟨by (first | exact rfl | (simp (disch := omega) only [wrapI]; exact rfl)), rfl, by simp only; omega⟩
  · simp only [decide_eq_false_iff_not] at h1
    rw [List.drop_eq_nil_of_le (by omega)] at hs
    (repeat' (first | exact rfl | ((conv => whnf); first | exact rfl | refine ⟨by kernel_rfl, ?_⟩ | exact ⟨rfl, rfl⟩ | refine ⟨rfl, ?_⟩ | refine ⟨by (first | omega | (simp (disch := omega) only [wrapI]; omega) | (simp (disch := omega) only [wrapI]; simp; omega) | (simp; omega)), ?_⟩ | (intro ep) | (refine ifB (fun hb => ?_) (fun hb => ?_) <;> (try simp only [decide_eq_true_eq, decide_eq_false_iff_not, beq_iff_eq, beq_eq_false_iff_ne, bne_iff_ne, bne_eq_false_iff_eq, ne_eq, not_false_eq_true, not_true_eq_false, Bool.not_eq_true, Bool.not_eq_true', Bool.not_eq_false', Int.not_lt, Int.not_le] at hb) <;> (try simp (disch := omega) only [wrapI] at hb) <;> (try (exfalso; omega))) | fail)))
    all_goals rw [← hs]; rfl

end Go.Ab.V

/-
  The shapes of the arguments of the laws of a piece. No condition.
-/
namespace Go.Ab
theorem shp_struct {ti : TI} {m t : Nat} {xs : List AV} {d : TD} {fs : List (Nat × Nat)} (hd : ti t = some d) (hk : d.kind = .struct fs) (h : Shp ti (m + 1) t xs) :
    xs.length = d.size ∧ ∀ f ∈ fs, ∃ df, ti f.2 = some df ∧ Shp ti m f.2 ((xs.drop f.1).take df.size) := by
  unfold Shp at h; rw [hd] at h; simp only [hk] at h; exact h
theorem shp_int {ti : TI} {m t : Nat} {xs : List AV} {d : TD} {k : IntKind} (hd : ti t = some d) (hk : d.kind = .int k) (h : Shp ti (m + 1) t xs) : ∃ i, xs = [.int k i] ∧ k.min ≤ i ∧ i ≤ k.max := by
  unfold Shp at h; rw [hd] at h; simp only [hk] at h; exact h
theorem shp_bool {ti : TI} {m t : Nat} {xs : List AV} {d : TD} (hd : ti t = some d) (hk : d.kind = .bool) (h : Shp ti (m + 1) t xs) : ∃ b, xs = [.bool b] := by
  unfold Shp at h; rw [hd] at h; simp only [hk] at h; exact h
theorem shp_slice {ti : TI} {m t e : Nat} {xs : List AV} {d : TD} (hd : ti t = some d) (hk : d.kind = .slice e) (h : Shp ti (m + 1) t xs) :
    ∃ de rows, ti e = some de ∧ xs = [.lslc de.size rows 0 rows.length false] ∧ rows.length ≤ maxLen ∧ ∀ r ∈ rows, Shp ti m e r := by
  unfold Shp at h; rw [hd] at h; simp only [hk] at h; exact h
theorem rows_map {α : Type} {f : α → List AV} : ∀ {rows : List (List AV)}, (∀ r ∈ rows, ∃ x, r = f x) → ∃ l : List α, rows = l.map f
  | [], _ => ⟨[], rfl⟩
  | r :: rs, h => by
    obtain ⟨x, rfl⟩ := h r (List.mem_cons_self ..)
    obtain ⟨l, rfl⟩ := rows_map (rows := rs) (fun r hr => h r (List.mem_cons_of_mem _ hr))
    exact ⟨x :: l, rfl⟩
end Go.Ab
namespace Go.Ab.V
open Go.Proofs

theorem i64_bd {i : Int} (h : IntKind.i64.min ≤ i ∧ i ≤ IntKind.i64.max) : -9223372036854775808 ≤ i ∧ i ≤ 9223372036854775807 := h

theorem fld {n : Nat} {xs : List AV} {d : TD} {t off k : Nat} {P : List AV → Prop} (h : ∃ df, C.ti t = some df ∧ Shp C.ti n t ((xs.drop off).take df.size)) (hd : C.ti t = some d) (he : d.size = k) : Shp C.ti n t ((xs.drop off).take k) := by
  obtain ⟨df, h1, h2⟩ := h
  rw [hd] at h1
  cases h1
  rw [he] at h2
  exact h2

theorem shv_int {m : Nat} {a : AV} (h : ShpV C.ti (m + 1) 3 a) : ∃ i, a = .int .i64 i ∧ -9223372036854775808 ≤ i ∧ i ≤ 9223372036854775807 := by
  have h : Shp C.ti (m + 1) 3 [a] := h
  obtain ⟨i, e, b⟩ := shp_int rfl rfl h
  cases e
  exact ⟨i, rfl, b⟩

theorem len3 {l : List AV} (h : l.length = 3) : ∃ a b c, l = [a, b, c] := by
  match l, h with
  | [a, b, c], _ => exact ⟨a, b, c, rfl⟩
theorem len5 {l : List AV} (h : l.length = 5) : ∃ a b c d e, l = [a, b, c, d, e] := by
  match l, h with
  | [a, b, c, d, e], _ => exact ⟨a, b, c, d, e, rfl⟩
theorem len6 {l : List AV} (h : l.length = 6) : ∃ a b c d e f, l = [a, b, c, d, e, f] := by
  match l, h with
  | [a, b, c, d, e, f], _ => exact ⟨a, b, c, d, e, f, rfl⟩
theorem len2 {l : List AV} (h : l.length = 2) : ∃ a b, l = [a, b] := by
  match l, h with
  | [a, b], _ => exact ⟨a, b, rfl⟩

theorem s_int {m : Nat} {xs : List AV} (h : Shp C.ti (m + 1) 3 xs) : ∃ i, xs = [.int .i64 i] := by
  obtain ⟨i, e, _⟩ := shp_int rfl rfl h
  exact ⟨i, e⟩
theorem s_bool {m : Nat} {xs : List AV} (h : Shp C.ti (m + 1) 4 xs) : ∃ i, xs = [.bool i] := shp_bool rfl rfl h
theorem s_sign {m : Nat} {xs : List AV} (h : Shp C.ti (m + 2) 33 xs) : ∃ v d t, xs = [.int .i64 v, .bool d, .bool t] := by
  obtain ⟨l, hf⟩ := shp_struct (ti := C.ti) rfl rfl h
  obtain ⟨a, b, c, rfl⟩ := len3 l
  obtain ⟨x, hx⟩ := s_int (fld (P := fun _ => True) (hf (0, 3) (by decide)) rfl rfl)
  obtain ⟨y, hy⟩ := s_bool (fld (P := fun _ => True) (hf (1, 4) (by decide)) rfl rfl)
  obtain ⟨z, hz⟩ := s_bool (fld (P := fun _ => True) (hf (2, 4) (by decide)) rfl rfl)
  simp at hx hy hz
  exact ⟨x, y, z, by rw [hx, hy, hz]⟩
theorem shv_sign {m : Nat} {a : AV} (h : ShpV C.ti (m + 2) 33 a) : ∃ v d t, a = .agg [.int .i64 v, .bool d, .bool t] := by
  have h : ∃ xs, a = .agg xs ∧ Shp C.ti (m + 2) 33 xs := h
  obtain ⟨xs, rfl, h'⟩ := h
  obtain ⟨v, d, t, rfl⟩ := s_sign h'
  exact ⟨v, d, t, rfl⟩

theorem s_stp {m : Nat} {xs : List AV} (h : Shp C.ti (m + 2) 35 xs) : ∃ s, xs = stR s := by
  obtain ⟨l, hf⟩ := shp_struct (ti := C.ti) rfl rfl h
  obtain ⟨a, b, c, d, e, rfl⟩ := len5 l
  obtain ⟨x1, h1⟩ := s_int (fld (P := fun _ => True) (hf (0, 3) (by decide)) rfl rfl)
  obtain ⟨x2, h2⟩ := s_int (fld (P := fun _ => True) (hf (1, 3) (by decide)) rfl rfl)
  obtain ⟨x3, h3⟩ := s_int (fld (P := fun _ => True) (hf (2, 3) (by decide)) rfl rfl)
  obtain ⟨x4, h4⟩ := s_int (fld (P := fun _ => True) (hf (3, 3) (by decide)) rfl rfl)
  obtain ⟨x5, h5⟩ := s_int (fld (P := fun _ => True) (hf (4, 3) (by decide)) rfl rfl)
  simp at h1 h2 h3 h4 h5
  exact ⟨⟨x1, x2, x3, x4, x5⟩, by rw [h1, h2, h3, h4, h5]; rfl⟩
theorem s_slice {α : Type} {f : α → List AV} {m t e sz : Nat} {d de : TD} {xs : List AV} (hd : C.ti t = some d) (hk : d.kind = .slice e) (he : C.ti e = some de) (hz : de.size = sz) (hf : ∀ r, Shp C.ti m e r → ∃ x, r = f x) (h : Shp C.ti (m + 1) t xs) :
    ∃ l : List α, xs = [.lslc sz (l.map f) 0 l.length false] ∧ l.length ≤ 9223372036854775807 := by
  obtain ⟨de', rows, h1, rfl, h2, h3⟩ := shp_slice hd hk h
  rw [he] at h1
  cases h1
  obtain ⟨l, rfl⟩ := rows_map (fun r hr => hf r (h3 r hr))
  rw [List.length_map] at h2 ⊢
  exact ⟨l, by rw [hz], h2⟩
theorem s_sts {m : Nat} {xs : List AV} (h : Shp C.ti (m + 3) 36 xs) : ∃ l, xs = [stsA l] ∧ l.length ≤ 9223372036854775807 := s_slice (f := stR) rfl rfl rfl rfl (fun _ h => s_stp h) h
theorem s_ints {m : Nat} {xs : List AV} (h : Shp C.ti (m + 2) 23 xs) : ∃ l, xs = [intsA l] ∧ l.length ≤ 9223372036854775807 := s_slice (f := fun x => [.int .i64 x]) rfl rfl rfl rfl (fun _ h => s_int h) h
theorem s_crs {m : Nat} {xs : List AV} (h : Shp C.ti (m + 2) 31 xs) : ∃ c, xs = crR c := by
  obtain ⟨l, hf⟩ := shp_struct (ti := C.ti) rfl rfl h
  obtain ⟨a, b, c, rfl⟩ := len3 l
  obtain ⟨x, hx⟩ := s_int (fld (P := fun _ => True) (hf (0, 3) (by decide)) rfl rfl)
  obtain ⟨y, hy⟩ := s_int (fld (P := fun _ => True) (hf (1, 3) (by decide)) rfl rfl)
  obtain ⟨z, hz⟩ := s_bool (fld (P := fun _ => True) (hf (2, 4) (by decide)) rfl rfl)
  simp at hx hy hz
  exact ⟨⟨x, y, z⟩, by rw [hx, hy, hz]; rfl⟩
theorem s_crss {m : Nat} {xs : List AV} (h : Shp C.ti (m + 3) 22 xs) : ∃ l, xs = [crsA l] ∧ l.length ≤ 9223372036854775807 := s_slice (f := crR) rfl rfl rfl rfl (fun _ h => s_crs h) h
theorem s_evt {m : Nat} {xs : List AV} (h : Shp C.ti (m + 4) 38 xs) : ∃ e : Evt, xs = evR e ∧ e.stops.length ≤ 9223372036854775807 := by
  obtain ⟨l, hf⟩ := shp_struct (ti := C.ti) rfl rfl h
  obtain ⟨a, b, c, d, e, f, rfl⟩ := len6 l
  obtain ⟨x1, h1⟩ := s_bool (fld (P := fun _ => True) (hf (0, 4) (by decide)) rfl rfl)
  obtain ⟨x2, x3, x4, h2⟩ := s_sign (fld (P := fun _ => True) (hf (1, 33) (by decide)) rfl rfl)
  obtain ⟨x5, h5⟩ := s_bool (fld (P := fun _ => True) (hf (4, 4) (by decide)) rfl rfl)
  obtain ⟨x6, h6, h7⟩ := s_sts (fld (P := fun _ => True) (hf (5, 36) (by decide)) rfl rfl)
  simp at h1 h2 h5 h6
  obtain ⟨h2, h3, h4⟩ := h2
  exact ⟨⟨x1, x2, x3, x4, x5, x6⟩, by rw [h1, h2, h3, h4, h5, h6]; rfl, h7⟩
theorem s_evts {m : Nat} {xs : List AV} (h : Shp C.ti (m + 5) 26 xs) : ∃ l, xs = [evsA l] ∧ l.length ≤ 9223372036854775807 ∧ ∀ e ∈ l, e.stops.length ≤ 9223372036854775807 := by
  obtain ⟨l, h1, h2⟩ := s_slice (f := fun x : { e : Evt // e.stops.length ≤ 9223372036854775807 } => evR x.1) rfl rfl rfl rfl (fun r h => by obtain ⟨e, h1, h2⟩ := s_evt h; exact ⟨⟨e, h2⟩, h1⟩) h
  refine ⟨l.map Subtype.val, ?_, by simpa using h2, fun e he => ?_⟩
  · rw [h1]; unfold evsA; simp
  · obtain ⟨x, _, rfl⟩ := List.mem_map.1 he
    exact x.2
theorem shv_piece {m : Nat} {a : AV} (h : ShpV C.ti (m + 6) 28 a) : ∃ p : Pc, a = pcA p ∧ p.Ok := by
  have h : ∃ xs, a = .agg xs ∧ Shp C.ti (m + 6) 28 xs := h
  obtain ⟨xs, rfl, h'⟩ := h
  obtain ⟨l, hf⟩ := shp_struct (ti := C.ti) rfl rfl h'
  obtain ⟨a, b, c, rfl⟩ := len3 l
  have h1 := fld (P := fun _ => True) (hf (0, 25) (by decide)) rfl rfl
  obtain ⟨es, h2, h3, h4⟩ := s_evts (fld (P := fun _ => True) (hf (2, 26) (by decide)) rfl rfl)
  obtain ⟨l, hg⟩ := shp_struct (ti := C.ti) rfl rfl h1
  obtain ⟨cs, h5, h6⟩ := s_crss (fld (P := fun _ => True) (hg (0, 22) (by decide)) rfl rfl)
  obtain ⟨ss, h7, h8⟩ := s_ints (fld (P := fun _ => True) (hg (1, 23) (by decide)) rfl rfl)
  simp at h2 h5 h7
  exact ⟨⟨⟨cs, ss⟩, es⟩, by rw [h2, h5, h7]; rfl, ⟨h6, h8, h3, h4⟩⟩

end Go.Ab.V

/-
  The signs in descending order. No condition.
-/
namespace Go.Ab.V
open Go.Proofs

set_option maxRecDepth 100000 in
theorem len64_21 : PRet C.P 127 [.int .u64 21] (.int .i64 5) := by
  refine pret_of ok mixed (A := fun _ => {}) 0 Try.func127 rfl ?_
  (repeat ((conv => whnf); first | exact rfl | exact ⟨rfl, rfl⟩ | refine ⟨rfl, ?_⟩ | refine ⟨by decide, ?_⟩ | refine ⟨by kernel_rfl, ?_⟩ | (intro ep)))

theorem len_21 : PRet C.P 116 [.int .u64 21] (.int .i64 5) := by
  refine pret_of ok mixed (A := fun _ => {}) 0 Try.func116 rfl ?_
  (repeat ((conv => whnf); first | exact rfl | exact ⟨rfl, rfl⟩ | refine ⟨rfl, ?_⟩ | refine ⟨by decide, ?_⟩ | refine ⟨by kernel_rfl, ?_⟩ | (intro ep)))
  conv => whnf
  refine ⟨_, len64_21, ?_⟩
  (repeat ((conv => whnf); first | exact rfl | exact ⟨rfl, rfl⟩ | refine ⟨rfl, ?_⟩ | refine ⟨by decide, ?_⟩ | refine ⟨by kernel_rfl, ?_⟩ | (intro ep)))

def A105 : Ann := fun r => match r with
  | 0 => { slots := [(0, 0), (1, 1)] }
  | _ => {}

theorem cmp_spec (v : Int) (d t : Bool) (v' : Int) (d' t' : Bool) : PRet C.P 105 [sg v d t, sg v' d' t'] (.int .i64 (IntKind.i64.wrap (ticks v' d' t' - ticks v d t))) := by
  refine pret_of ok mixed (A := A105) 2 Try.func105 rfl ?_
  (repeat ((conv => whnf); first | exact rfl | exact ⟨rfl, rfl⟩ | refine ⟨rfl, ?_⟩ | refine ⟨by decide, ?_⟩ | refine ⟨by kernel_rfl, ?_⟩ | (intro ep)))
  conv => whnf
  refine ⟨_, ticks_spec v' d' t', ?_⟩
  (repeat ((conv => whnf); first | exact rfl | exact ⟨rfl, rfl⟩ | refine ⟨rfl, ?_⟩ | refine ⟨by decide, ?_⟩ | refine ⟨by kernel_rfl, ?_⟩ | (intro ep)))
  conv => whnf
  refine ⟨_, ticks_spec v d t, ?_⟩
  (repeat ((conv => whnf); first | exact rfl | exact ⟨rfl, rfl⟩ | refine ⟨rfl, ?_⟩ | refine ⟨by decide, ?_⟩ | refine ⟨by kernel_rfl, ?_⟩ | (intro ep)))

end Go.Ab.V

/-
  All signs, sorted. No condition.
-/
namespace Go.Ab.V
open Go.Proofs

def A69 : Ann := fun r => match r with
  | 5 => { slots := [(7, 0), (8, 1)] }
  | _ => {}
def A121 : Ann := fun r => match r with
  | 2 => { slots := [(0, 2)] }
  | _ => {}

theorem pureRows_of {rows : List (List AV)} (h : (rows.all fun r => r.all AV.pure1) = true) : pureRows rows :=
  fun row hr c hc => List.all_eq_true.1 (List.all_eq_true.1 h row hr) c hc

def allRows : List (List AV) := [[.int .i64 1, .bool true, .bool false],
  [.int .i64 1, .bool false, .bool false],
  [.int .i64 2, .bool true, .bool false],
  [.int .i64 1, .bool false, .bool true],
  [.int .i64 2, .bool false, .bool false],
  [.int .i64 3, .bool true, .bool false],
  [.int .i64 2, .bool false, .bool true],
  [.int .i64 3, .bool false, .bool false],
  [.int .i64 4, .bool true, .bool false],
  [.int .i64 3, .bool false, .bool true],
  [.int .i64 4, .bool false, .bool false],
  [.int .i64 5, .bool true, .bool false],
  [.int .i64 4, .bool false, .bool true],
  [.int .i64 5, .bool false, .bool false],
  [.int .i64 6, .bool true, .bool false],
  [.int .i64 5, .bool false, .bool true],
  [.int .i64 6, .bool false, .bool false],
  [.int .i64 7, .bool true, .bool false],
  [.int .i64 6, .bool false, .bool true],
  [.int .i64 7, .bool false, .bool false],
  [.int .i64 7, .bool false, .bool true]]

set_option maxRecDepth 100000 in
set_option maxHeartbeats 4000000 in
theorem all_spec : PRet C.P 69 [] (.lslc 3 allRows 0 21 false) := by
  refine pret_of ok mixed (A := A69) 2 Try.func69 rfl ?_
  (conv => whnf)
  refine loopU ok mixed (A := A69) 100 ?_
  (repeat ((conv => whnf); first | exact rfl | exact ⟨rfl, rfl⟩ | refine ⟨rfl, ?_⟩ | refine ⟨by decide, ?_⟩ | refine ⟨_, cmp_spec _ _ _ _ _ _, ?_⟩ | refine ⟨_, len_21, ?_⟩ | (intro ep) | refine loopU ok mixed (A := fun _ => {}) 100 ?_ | refine fn_of ok mixed (A := fun _ => {}) 0 Try.func104 rfl ?_ | refine fn_of ok mixed (A := fun _ => {}) 0 Try.func115 rfl ?_ | refine fn_of ok mixed (A := A121) 1 Try.func121 rfl ?_ | refine fn_of ok mixed (A := fun _ => {}) 0 Try.func132 rfl ?_ | refine fn_of ok mixed (A := fun _ => {}) 0 Try.func131 rfl ?_ | refine fn_of ok mixed (A := fun _ => {}) 0 Try.func133 rfl ?_ | refine fn_of ok mixed (A := fun _ => {}) 0 Try.func118 rfl ?_ | refine fn_of ok mixed (A := fun _ => {}) 0 Try.func122 rfl ?_ | refine fn_of ok mixed (A := fun _ => {}) 0 Try.func123 rfl ?_ | refine fn_of ok mixed (A := fun _ => {}) 0 Try.func124 rfl ?_ | refine fn_of ok mixed (A := fun _ => {}) 0 Try.func125 rfl ?_ | refine ⟨by kernel_rfl, ?_⟩))
  refine ⟨pureRows_of (by kernel_rfl), ?_⟩
  (conv => whnf)
  exact ⟨rfl, by kernel_rfl⟩

end Go.Ab.V

/-
  All signs, in the document's words. No condition.
-/
namespace Go.Ab.V
open Go.Proofs

end Go.Ab.V

/-
  The fewest signs, as a table. No condition.
-/
namespace Go.Ab.V
open Go.Proofs

/-- the signs as plain data -/
def allS : List (Int × Bool × Bool) := allRows.map fun r => match r with
  | [.int _ v, .bool d, .bool t] => (v, d, t)
  | _ => (0, false, false)
def sRow (s : Int × Bool × Bool) : List AV := [.int .i64 s.1, .bool s.2.1, .bool s.2.2]
def tkS (s : Int × Bool × Bool) : Int := ticks s.1 s.2.1 s.2.2

theorem allRows_eq : allRows = allS.map sRow := rfl
theorem allS_len : allS.length = 21 := by decide

/-- one sign more in the account of a duration i, whose fewest are x so far -/
def better (tab : List Int) (i : Int) (x : Int) (t : Int) : Int :=
  let y := tab.getD (i - t).toNat (-1)
  if t ≤ i ∧ 0 ≤ y ∧ (x < 0 ∨ y + 1 < x) then y + 1 else x
def least (tab : List Int) (i : Int) : Int := (allS.map tkS).foldl (better tab i) (-1)
def table : Nat → List Int
  | 0 => [0]
  | n + 1 => table n ++ [least (table n) (n + 1)]

end Go.Ab.V

/-
  The document's table of fewest signs. No condition.
-/
namespace Go.Ab.V
open Go.Proofs

def iRows (l : List Int) : List (List AV) := l.map fun x => [.int .i64 x]

theorem iRows_get {l : List Int} {i : Nat} {x : Int} (h : l[i]? = some x) : (iRows l)[i]? = some [.int .i64 x] := by
  simp [iRows, h]
theorem iRows_set (l : List Int) (i : Nat) (x : Int) : (iRows l).set i [.int .i64 x] = iRows (l.set i x) := by
  simp [iRows, List.map_set]
theorem table_len : ∀ n, (table n).length = n + 1 := by
  intro n
  induction n with
  | zero => rfl
  | succ n ih => simp [table, ih]

/-- the table of a duration i + 1 after k signs -/
def bestK (tab : List Int) (i : Int) (k : Nat) : Int := ((allS.map tkS).take k).foldl (better tab i) (-1)
def midT (n i k : Nat) : List Int := table i ++ [bestK (table i) ((i + 1 : Nat) : Int) k] ++ List.replicate (n - i - 1) 0
theorem midT_zero {n i : Nat} (h : i + 1 ≤ n) : (table i ++ List.replicate (n - i) 0).set (0 + (((i + 1 : Nat) : Int)).toNat) (-1) = midT n i 0 := by
  obtain ⟨m, hm⟩ : ∃ m, n - i = m + 1 := ⟨n - i - 1, by omega⟩
  have e : n - i - 1 = m := by omega
  rw [Nat.zero_add, Int.toNat_natCast]
  simp [List.set_append, midT, bestK, table_len, hm, List.replicate_succ]
theorem rep_get {n i : Nat} (h : i + 1 ≤ n) : (table i ++ List.replicate (n - i) 0)[0 + (((i + 1 : Nat) : Int)).toNat]? = some 0 := by
  rw [Nat.zero_add, Int.toNat_natCast, List.getElem?_append_right (by simp [table_len]), List.getElem?_replicate]
  simp [table_len]; omega
theorem midR_lo {n i k : Nat} {x : Int} (h : 0 ≤ x ∧ x ≤ i) : (iRows (midT n i k))[0 + x.toNat]? = some [.int .i64 ((table i).getD x.toNat (-1))] := by
  refine iRows_get ?_
  have hl : x.toNat < (table i).length := by rw [table_len]; omega
  rw [Nat.zero_add, midT, List.append_assoc, List.getElem?_append_left hl, List.getElem?_eq_getElem hl]
  simp [List.getD, hl]
theorem midR_hi {n i k j : Nat} (h : j = i + 1) : (iRows (midT n i k))[0 + ((j : Nat) : Int).toNat]? = some [.int .i64 (bestK (table i) ((i + 1 : Nat) : Int) k)] := by
  subst h
  refine iRows_get ?_
  rw [Nat.zero_add, Int.toNat_natCast, midT, List.append_assoc, List.getElem?_append_right (by rw [table_len]; omega), table_len]
  simp

theorem sRow_get {k : Nat} (h : k < 21) : ∃ v d t, allRows[k]? = some [.int .i64 v, .bool d, .bool t] ∧ (allS.map tkS)[k]? = some (ticks v d t) := by
  have hl : k < allS.length := by rw [allS_len]; exact h
  refine ⟨allS[k].1, allS[k].2.1, allS[k].2.2, ?_, ?_⟩
  · rw [allRows_eq, List.getElem?_map, List.getElem?_eq_getElem hl]; rfl
  · rw [List.getElem?_map, List.getElem?_eq_getElem hl]; rfl
theorem tk_pos {k : Nat} {x : Int} (h : (allS.map tkS)[k]? = some x) : 4 ≤ x ∧ x ≤ 576 := by
  have h1 : x ∈ allS.map tkS := List.mem_of_getElem? h
  have h2 : ∀ x ∈ allS.map tkS, 4 ≤ x ∧ x ≤ 576 := by decide
  exact h2 x h1
theorem bestK_succ {tab : List Int} {i x : Int} {k : Nat} (h : (allS.map tkS)[k]? = some x) : bestK tab i (k + 1) = better tab i (bestK tab i k) x := by
  unfold bestK
  have hl : k < (allS.map tkS).length := (List.getElem?_eq_some_iff.1 h).1
  have e := (List.getElem?_eq_some_iff.1 h).2
  rw [← List.take_append_getElem hl, List.foldl_append, e]
  rfl
theorem midT_succ {n i k : Nat} {x : Int} (h : (allS.map tkS)[k]? = some x) (h1 : better (table i) ((i + 1 : Nat) : Int) (bestK (table i) ((i + 1 : Nat) : Int) k) x = bestK (table i) ((i + 1 : Nat) : Int) k) : midT n i (k + 1) = midT n i k := by
  unfold midT; rw [bestK_succ h, h1]
theorem midT_set {n i k : Nat} {x y : Int} (h : (allS.map tkS)[k]? = some x) (h1 : better (table i) ((i + 1 : Nat) : Int) (bestK (table i) ((i + 1 : Nat) : Int) k) x = y) : (midT n i k).set (0 + (((i + 1 : Nat) : Int)).toNat) y = midT n i (k + 1) := by
  unfold midT; rw [bestK_succ h, h1, Nat.zero_add, Int.toNat_natCast, List.append_assoc, List.set_append_right _ _ (by rw [table_len]; omega), table_len, List.append_assoc]
  simp
theorem midT_last {n i : Nat} : midT n i 21 = table (i + 1) ++ List.replicate (n - (i + 1)) 0 := by
  unfold midT bestK
  rw [List.take_of_length_le (by decide)]
  rw [show n - i - 1 = n - (i + 1) by omega]
  rfl
theorem bestK_bd {tab : List Int} {i : Int} {M : Int} (hM : -1 ≤ M) (h : ∀ j, j < tab.length → tab.getD j (-1) + 1 ≤ M) : ∀ k, -1 ≤ bestK tab i k ∧ bestK tab i k ≤ M := by
  intro k
  unfold bestK
  generalize (allS.map tkS).take k = l
  have key : ∀ (l : List Int) (x : Int), -1 ≤ x → x ≤ M → -1 ≤ l.foldl (better tab i) x ∧ l.foldl (better tab i) x ≤ M := by
    intro l
    induction l with
    | nil => intro x h1 h2; exact ⟨h1, h2⟩
    | cons t l ih =>
      intro x h1 h2
      refine ih _ ?_ ?_
      · simp only [better]; split <;> omega
      · simp only [better]
        split
        · rename_i hc
          by_cases hj : (i - t).toNat < tab.length
          · exact h _ hj
          · have : tab.getD (i - t).toNat (-1) = -1 := by
              have hn : tab[(i - t).toNat]? = none := List.getElem?_eq_none (by omega)
              simp [List.getD, hn]
            omega
        · exact h2
  exact key l (-1) (by omega) hM
theorem tab_all : ∀ (n j : Nat), j < (table n).length → -1 ≤ (table n).getD j (-1) ∧ (table n).getD j (-1) ≤ n := by
  intro n
  induction n with
  | zero =>
    intro j h
    have : j = 0 := by simp [table] at h; exact h
    subst this
    simp [table, List.getD]
  | succ n ih =>
    intro j h
    have hl := table_len n
    simp only [table, List.getD]
    by_cases hj : j < n + 1
    · rw [List.getElem?_append_left (by omega)]
      have := ih j (by omega)
      simp only [List.getD] at this
      omega
    · rw [List.getElem?_append_right (by omega)]
      have e : j - (table n).length = 0 := by rw [table_len] at h; omega
      rw [e]
      have := bestK_bd (tab := table n) (i := ((n + 1 : Nat) : Int)) (M := n + 1) (by omega) (fun j hj => by have := ih j hj; omega) 21
      unfold bestK at this
      rw [List.take_of_length_le (by decide)] at this
      simp only [least, List.getElem?_cons_zero, Option.getD_some]
      exact ⟨this.1, this.2⟩
theorem tab_bd (n j : Nat) (h : j ≤ n) : -1 ≤ (table n).getD j (-1) ∧ (table n).getD j (-1) ≤ n := tab_all n j (by rw [table_len]; omega)
end Go.Ab.V

/-
  The fewest signs of a duration, and the choice of the next one. No condition.
-/
namespace Go.Ab.V
open Go.Proofs

/-- the ticks of the signs, in descending order -/
def tkL : List Int := allS.map tkS
/-- how many signs a duration takes; -1: it can't be written -/
def fw (n : Nat) : Int := (table n).getD n (-1)

theorem table_getD : ∀ {N n : Nat}, n ≤ N → (table N).getD n (-1) = fw n := by
  intro N
  induction N with
  | zero =>
    intro n h
    obtain rfl : n = 0 := by omega
    rfl
  | succ N ih =>
    intro n h
    by_cases hn : n = N + 1
    · subst hn; rfl
    · rw [← ih (show n ≤ N by omega)]
      simp only [table, List.getD]
      rw [List.getElem?_append_left (by rw [table_len]; omega)]

theorem fw_bd (n : Nat) : -1 ≤ fw n ∧ fw n ≤ n := tab_bd n n (Nat.le_refl _)

theorem fw_succ (n : Nat) : fw (n + 1) = tkL.foldl (better (table n) ((n + 1 : Nat) : Int)) (-1) := by
  unfold fw
  simp only [table, List.getD]
  rw [List.getElem?_append_right (by rw [table_len]; omega), table_len]
  simp [least, tkL]

/-- what the fold finds -/
theorem fold_best {tab : List Int} {i : Int} : ∀ (l : List Int) (x : Int), -1 ≤ x →
    (x ≤ l.foldl (better tab i) x ∨ 0 ≤ l.foldl (better tab i) x) ∧ (0 ≤ x → l.foldl (better tab i) x ≤ x) ∧ (0 ≤ x → 0 ≤ l.foldl (better tab i) x) ∧
    (∀ t ∈ l, t ≤ i → 0 ≤ tab.getD (i - t).toNat (-1) → 0 ≤ l.foldl (better tab i) x ∧ l.foldl (better tab i) x ≤ tab.getD (i - t).toNat (-1) + 1) ∧
    (l.foldl (better tab i) x = x ∨ ∃ t ∈ l, t ≤ i ∧ 0 ≤ tab.getD (i - t).toNat (-1) ∧ l.foldl (better tab i) x = tab.getD (i - t).toNat (-1) + 1) := by
  intro l
  induction l with
  | nil => intro x hx; exact ⟨.inl (Int.le_refl _), fun _ => Int.le_refl _, fun h => h, fun t ht => by simp at ht, .inl rfl⟩
  | cons a l ih =>
    intro x hx
    simp only [List.foldl_cons]
    have hb : better tab i x a = x ∨ (a ≤ i ∧ 0 ≤ tab.getD (i - a).toNat (-1) ∧ better tab i x a = tab.getD (i - a).toNat (-1) + 1 ∧ (x < 0 ∨ better tab i x a < x)) := by
      simp only [better]
      split
      · rename_i h; exact .inr ⟨h.1, h.2.1, rfl, h.2.2⟩
      · exact .inl rfl
    have hge : a ≤ i → 0 ≤ tab.getD (i - a).toNat (-1) → 0 ≤ better tab i x a ∧ better tab i x a ≤ tab.getD (i - a).toNat (-1) + 1 := by
      intro h1 h2
      simp only [better]
      split
      · omega
      · omega
    obtain ⟨i1, i2, i3, i4, i5⟩ := ih (better tab i x a) (by rcases hb with h | ⟨_, h1, h2, _⟩ <;> omega)
    refine ⟨?_, fun h => ?_, fun h => ?_, fun t ht h1 h2 => ?_, ?_⟩
    · rcases hb with h | ⟨_, h1, h2, h3⟩
      · rw [h] at i1; rw [h]; exact i1
      · right; exact i3 (by omega)
    · rcases hb with h' | ⟨_, h1, h2, h3⟩
      · rw [h'] at i2; rw [h']; exact i2 h
      · have := i2 (by omega); omega
    · rcases hb with h' | ⟨_, h1, h2, h3⟩
      · rw [h'] at i3; rw [h']; exact i3 h
      · exact i3 (by omega)
    · rcases List.mem_cons.1 ht with rfl | ht
      · have := hge h1 h2
        exact ⟨i3 this.1, Int.le_trans (i2 this.1) this.2⟩
      · exact i4 t ht h1 h2
    · rcases i5 with h | ⟨t, h1, h2⟩
      · rcases hb with h' | ⟨h1, h2, h3, _⟩
        · left; rw [h, h']
        · right; exact ⟨a, by simp, h1, h2, by rw [h, h3]⟩
      · right; exact ⟨t, by simp [h1], h2⟩

theorem tkL_pos : ∀ t ∈ tkL, 4 ≤ t ∧ t ≤ 576 := by decide
theorem tkL_len : tkL.length = 21 := by decide

theorem fw_le {n : Nat} {t : Int} (ht : t ∈ tkL) (h : t ≤ n) (h0 : 0 ≤ fw ((n : Int) - t).toNat) : 0 ≤ fw n ∧ fw n ≤ fw ((n : Int) - t).toNat + 1 := by
  have hp := tkL_pos t ht
  match n, h with
  | 0, h => exact absurd h (by simp only [Int.natCast_zero]; omega)
  | n + 1, h =>
    rw [fw_succ]
    have hg : (table n).getD (((n + 1 : Nat) : Int) - t).toNat (-1) = fw (((n + 1 : Nat) : Int) - t).toNat := table_getD (by omega)
    have := (fold_best (tab := table n) (i := ((n + 1 : Nat) : Int)) tkL (-1) (by omega)).2.2.2.1 t ht h (by rw [hg]; exact h0)
    rw [hg] at this
    exact this

theorem fw_step {n : Nat} (h : 0 ≤ fw n) (h0 : n ≠ 0) : ∃ t ∈ tkL, t ≤ n ∧ 0 ≤ fw ((n : Int) - t).toNat ∧ fw n = fw ((n : Int) - t).toNat + 1 := by
  match n, h0 with
  | 0, h0 => exact absurd rfl h0
  | n + 1, _ =>
    rw [fw_succ] at h ⊢
    rcases (fold_best (tab := table n) (i := ((n + 1 : Nat) : Int)) tkL (-1) (by omega)).2.2.2.2 with e | ⟨t, h1, h2, h3, h4⟩
    · omega
    · have hp := tkL_pos t h1
      have hg : (table n).getD (((n + 1 : Nat) : Int) - t).toNat (-1) = fw (((n + 1 : Nat) : Int) - t).toNat := table_getD (by omega)
      rw [hg] at h3 h4
      exact ⟨t, h1, h2, h3, h4⟩

/-- may the sign k come first? -/
def okK (n : Nat) (k : Nat) : Bool := decide (tkL.getD k 0 ≤ n) && decide (fw ((n : Int) - tkL.getD k 0).toNat = fw n - 1)
def firstK (p : Nat → Bool) : Nat → Nat → Nat
  | 0, k => k
  | f + 1, k => if p k = true then k else firstK p f (k + 1)
theorem firstK_le {p : Nat → Bool} : ∀ {f k j : Nat}, p j = true → k ≤ j → j < k + f → firstK p f k ≤ j ∧ p (firstK p f k) = true := by
  intro f
  induction f with
  | zero => intro k j _ h1 h2; omega
  | succ f ih =>
    intro k j hp h1 h2
    unfold firstK
    split
    · rename_i h; exact ⟨h1, h⟩
    · rename_i h
      have : k ≠ j := fun e => h (e ▸ hp)
      exact ih hp (by omega) (by omega)
/-- the sign that comes first -/
def nxt (n : Nat) : Nat := firstK (okK n) 21 0

theorem nxt_spec {n : Nat} (h : 0 ≤ fw n) (h0 : n ≠ 0) : nxt n < 21 ∧ okK n (nxt n) = true := by
  obtain ⟨t, h1, h2, h3, h4⟩ := fw_step h h0
  obtain ⟨k, hk⟩ := List.getElem?_of_mem h1
  have hk21 : k < 21 := by have := (List.getElem?_eq_some_iff.1 hk).1; rw [tkL_len] at this; exact this
  have hok : okK n k = true := by
    simp only [okK, List.getD, hk, Option.getD_some, Bool.and_eq_true, decide_eq_true_eq]
    omega
  have := firstK_le (f := 21) (k := 0) hok (by omega) (by omega)
  exact ⟨by unfold nxt; omega, this.2⟩
theorem nxt_min {n k : Nat} (h : okK n k = true) (hk : k < 21) : nxt n ≤ k := (firstK_le (f := 21) (k := 0) h (by omega) (by omega)).1
def tkN (k : Nat) : Nat := (tkL.getD k 0).toNat
/-- the signs that are chosen, by their numbers -/
def pickL : Nat → Nat → List Nat
  | 0, _ => []
  | f + 1, n => if n = 0 then [] else nxt n :: pickL f (n - tkN (nxt n))

theorem tkN_pos {k : Nat} (h : k < 21) : 4 ≤ tkN k ∧ tkN k ≤ 576 ∧ ((tkN k : Nat) : Int) = tkL.getD k 0 := by
  have hl : k < tkL.length := by rw [tkL_len]; exact h
  have : tkL.getD k 0 ∈ tkL := by simp [List.getD, hl]
  have := tkL_pos _ this
  unfold tkN
  omega

theorem pickL_fuel : ∀ (f f' n : Nat), n ≤ f → n ≤ f' → 0 ≤ fw n → pickL f n = pickL f' n := by
  intro f
  induction f with
  | zero =>
    intro f' n h h' _
    obtain rfl : n = 0 := by omega
    cases f' <;> simp [pickL]
  | succ f ih =>
    intro f' n h h' hw
    cases f' with
    | zero =>
      obtain rfl : n = 0 := by omega
      simp [pickL]
    | succ f' =>
      simp only [pickL]
      by_cases h0 : n = 0
      · rw [if_pos h0, if_pos h0]
      · rw [if_neg h0, if_neg h0]
        obtain ⟨n1, n2⟩ := nxt_spec hw h0
        obtain ⟨p1, p2, p3⟩ := tkN_pos n1
        simp only [okK, Bool.and_eq_true, decide_eq_true_eq] at n2
        rw [ih f' (n - tkN (nxt n)) (by omega) (by omega)]
        have e : ((n : Int) - tkL.getD (nxt n) 0).toNat = n - tkN (nxt n) := by omega
        rw [e] at n2
        rcases fw_step hw h0 with ⟨t, _, _, h3, h4⟩
        omega

/-- the signs of a duration -/
def sigK (n : Nat) : List Nat := pickL n n
theorem sigK_zero : sigK 0 = [] := rfl
theorem fw_nxt {n : Nat} (hw : 0 ≤ fw n) (h0 : n ≠ 0) : tkN (nxt n) ≤ n ∧ fw (n - tkN (nxt n)) = fw n - 1 ∧ 0 ≤ fw (n - tkN (nxt n)) := by
  obtain ⟨n1, n2⟩ := nxt_spec hw h0
  obtain ⟨p1, p2, p3⟩ := tkN_pos n1
  simp only [okK, Bool.and_eq_true, decide_eq_true_eq] at n2
  have e : ((n : Int) - tkL.getD (nxt n) 0).toNat = n - tkN (nxt n) := by omega
  rw [e] at n2
  rcases fw_step hw h0 with ⟨t, _, _, h3, h4⟩
  exact ⟨by omega, n2.2, by omega⟩
theorem sigK_step {n : Nat} (hw : 0 ≤ fw n) (h0 : n ≠ 0) : sigK n = nxt n :: sigK (n - tkN (nxt n)) := by
  obtain ⟨n1, n2⟩ := nxt_spec hw h0
  obtain ⟨p1, p2, p3⟩ := tkN_pos n1
  obtain ⟨q1, q2, q3⟩ := fw_nxt hw h0
  match n, h0 with
  | 0, h0 => exact absurd rfl h0
  | n + 1, _ =>
    unfold sigK
    conv => lhs; unfold pickL
    rw [if_neg (by omega), pickL_fuel n (n + 1 - tkN (nxt (n + 1))) _ (by omega) (Nat.le_refl _) q3]

/-- no later sign is greater -/
theorem nxt_mono {n : Nat} (hw : 0 ≤ fw n) (h0 : n ≠ 0) (h1 : n - tkN (nxt n) ≠ 0) : nxt n ≤ nxt (n - tkN (nxt n)) := by
  obtain ⟨n1, n2⟩ := nxt_spec hw h0
  obtain ⟨p1, p2, p3⟩ := tkN_pos n1
  obtain ⟨q1, q2, q3⟩ := fw_nxt hw h0
  obtain ⟨m1, m2⟩ := nxt_spec q3 h1
  obtain ⟨r1, r2, r3⟩ := tkN_pos m1
  obtain ⟨s1, s2, s3⟩ := fw_nxt q3 h1
  refine nxt_min ?_ m1
  have hm : tkL.getD (nxt (n - tkN (nxt n))) 0 ∈ tkL := by
    have hl : nxt (n - tkN (nxt n)) < tkL.length := by rw [tkL_len]; exact m1
    simp [List.getD, hl]
  have hn : tkL.getD (nxt n) 0 ∈ tkL := by
    have hl : nxt n < tkL.length := by rw [tkL_len]; exact n1
    simp [List.getD, hl]
  -- the same two signs in the other order
  have k1 : fw (n - tkN (nxt (n - tkN (nxt n)))) ≤ fw (n - tkN (nxt n) - tkN (nxt (n - tkN (nxt n)))) + 1 ∧ 0 ≤ fw (n - tkN (nxt (n - tkN (nxt n)))) := by
    have := fw_le (n := n - tkN (nxt (n - tkN (nxt n)))) hn (by omega)
    rw [show (((n - tkN (nxt (n - tkN (nxt n))) : Nat) : Int) - tkL.getD (nxt n) 0).toNat = n - tkN (nxt n) - tkN (nxt (n - tkN (nxt n))) by omega] at this
    exact ⟨(this s3).2, (this s3).1⟩
  have k2 : fw n ≤ fw (n - tkN (nxt (n - tkN (nxt n)))) + 1 := by
    have := fw_le (n := n) hm (by omega)
    rw [show ((n : Int) - tkL.getD (nxt (n - tkN (nxt n))) 0).toNat = n - tkN (nxt (n - tkN (nxt n))) by omega] at this
    exact (this k1.2).2
  simp only [okK, Bool.and_eq_true, decide_eq_true_eq]
  rw [show ((n : Int) - tkL.getD (nxt (n - tkN (nxt n))) 0).toNat = n - tkN (nxt (n - tkN (nxt n))) by omega]
  omega

end Go.Ab.V

/-
  The document's Signs. No condition.
-/
namespace Go.Ab.V
open Go.Proofs

def sgR (k : Nat) : List AV := allRows.getD k []
def outR (l : List Nat) : List (List AV) := l.map sgR

theorem tabR {n : Nat} {x : Int} (h : 0 ≤ x ∧ x ≤ n) : (iRows (table n))[0 + x.toNat]? = some [.int .i64 (fw x.toNat)] := by
  refine iRows_get ?_
  have hl : x.toNat < (table n).length := by rw [table_len]; omega
  rw [Nat.zero_add, ← table_getD (show x.toNat ≤ n by omega), List.getElem?_eq_getElem hl]
  simp [List.getD, hl]
theorem tkL_get {k : Nat} (h : k < 21) : ∃ v d t, allRows[k]? = some [.int .i64 v, .bool d, .bool t] ∧ sgR k = [.int .i64 v, .bool d, .bool t] ∧ ticks v d t = tkL.getD k 0 := by
  obtain ⟨v, d, t, h1, h2⟩ := sRow_get h
  exact ⟨v, d, t, h1, by simp [sgR, List.getD, h1], by simp [tkL, List.getD, h2]⟩
theorem sigK_len : ∀ {n : Nat}, 0 ≤ fw n → (sigK n).length ≤ n := by
  intro n
  induction n using Nat.strongRecOn with
  | _ n ih =>
    intro h
    by_cases h0 : n = 0
    · subst h0; simp [sigK_zero]
    · obtain ⟨a, b, c⟩ := fw_nxt h h0
      have p := (tkN_pos (nxt_spec h h0).1).1
      rw [sigK_step h h0]
      have := ih _ (by omega) c
      simp only [List.length_cons]
      omega
theorem sigK_lt : ∀ {n : Nat}, 0 ≤ fw n → ∀ k ∈ sigK n, k < 21 := by
  intro n
  induction n using Nat.strongRecOn with
  | _ n ih =>
    intro h k hk
    by_cases h0 : n = 0
    · subst h0; rw [sigK_zero] at hk; cases hk
    · obtain ⟨a, b, c⟩ := fw_nxt h h0
      have p := (tkN_pos (nxt_spec h h0).1).1
      rw [sigK_step h h0] at hk
      rcases List.mem_cons.1 hk with rfl | hk
      · exact (nxt_spec h h0).1
      · exact ih _ (by omega) c k hk
theorem pure_outR (n : Nat) (h : 0 ≤ fw n) : pureRows (outR (sigK n)) := by
  intro row hr c hc
  simp only [outR, List.mem_map] at hr
  obtain ⟨k, hk, rfl⟩ := hr
  obtain ⟨v, d, t, _, g, _⟩ := tkL_get (sigK_lt h k hk)
  rw [g] at hc
  simp only [List.mem_cons, List.not_mem_nil, or_false] at hc
  rcases hc with rfl | rfl | rfl <;> rfl
theorem outR_snoc (l : List Nat) (k : Nat) : outR (l ++ [k]) = outR l ++ [sgR k] := by simp [outR]

end Go.Ab.V

/-
  The program's Signs: the closure that calls itself. No condition.
-/
namespace Go.Ab.V
open Go.Proofs

def A70 : Ann := fun r => match r with
  | 5 => { slots := [(2, 7)] }
  | 8 => { slots := [(2, 8), (3, 9)] }
  | _ => {}

theorem tk_desc {j k : Nat} (h : j ≤ k) (hk : k < 21) : tkN k ≤ tkN j := by
  have h1 : ∀ k, k < 21 → ∀ j, j ≤ k → tkN k ≤ tkN j := by decide
  exact h1 k hk j h

/-- the variables of Signs, when the signs l have been put out -/
def HB (n e0 e1 e2 e4 e5 e6 : Nat) (rows : List (List AV)) (l : List Nat) : List AObj := [.vec e0 [[.lslc 3 rows 0 21 false]], .vec e1 (iRows (table n)), .vec e2 [[.oslc (.s 1) e1 1 0 (n + 1) false]], .hole,
  .vec e4 [[.oslc (.s 6) e6 3 0 l.length false]],
  .vec e5 [[.fn (.func 70) [] [.optr (.s 0) e0 1 0 0, .optr (.s 2) e2 1 0 0, .optr (.s 4) e4 1 0 0, .optr (.s 5) e5 1 0 0]]],
  .vec e6 (outR l)]

set_option maxHeartbeats 4000000 in
set_option maxRecDepth 100000 in
theorem split_spec (n : Nat) (hn : n ≤ 4608) (e0 e1 e2 e4 e5 : Nat) : ∀ (m : Nat) (most : Int) (l : List Nat) (e6 : Nat), m ≤ n → 0 ≤ fw m → (m ≠ 0 → (tkN (nxt m) : Int) ≤ most) → l.length + m ≤ n →
    ACalls C.P 70 [.int .i64 m, .int .i64 most, .optr (.s 0) e0 1 0 0, .optr (.s 2) e2 1 0 0, .optr (.s 4) e4 1 0 0, .optr (.s 5) e5 1 0 0] ⟨HB n e0 e1 e2 e4 e5 e6 allRows l, []⟩
      fun r h' => r = .bool true ∧ ∃ e6', padTo 7 h'.st = HB n e0 e1 e2 e4 e5 e6' allRows (l ++ sigK m) ∧ h'.dy = [] := by
  intro m
  generalize hr : allRows = rows
  induction m using Nat.strongRecOn with
  | _ m ih =>
  intro most l e6 hmn hm hmost hll
  have hfm : fw ((m : Int)).toNat = fw m := by rw [Int.toNat_natCast]
  refine fn_of ok mixed (A := A70) 3 Try.func70 rfl ?_
  (conv => whnf)
  refine ifB (fun h0 => ?_) (fun h0 => ?_)
  · simp only [beq_iff_eq] at h0
    obtain rfl : m = 0 := by omega
    (conv => whnf)
    rw [sigK_zero, List.append_nil]
    exact ⟨rfl, e6, rfl, rfl⟩
  simp only [beq_eq_false_iff_ne, ne_eq] at h0
  (repeat' ((conv => whnf); first | exact rfl | refine ⟨by kernel_rfl, ?_⟩ | exact ⟨rfl, rfl⟩ | refine ⟨rfl, ?_⟩ | refine ⟨by (first | omega | (simp (disch := omega) only [wrapI]; omega) | (simp (disch := omega) only [wrapI]; simp; omega) | (simp; omega)), ?_⟩ | (intro ep) | fail))
  (conv => whnf)
  refine loopM ok mixed (A := A70) [0, 1, 3, 4, 5, 14, 15, 16] [0, 1, 2, 4, 5, 6] (S := { k : Nat // k ≤ nxt m })
    (fr := fun s => frOf 0 60 [(0, .int .i64 (m : Int)), (1, .int .i64 most), (3, .optr (.s 2) e2 1 0 0), (4, .optr (.s 4) e4 1 0 0), (5, .optr (.s 5) e5 1 0 0), (14, .lslc 3 rows 0 21 false), (15, .int .i64 21), (16, .int .i64 (s.1 : Int))])
    (h := fun s => ⟨HB n e0 e1 e2 e4 e5 e6 rows l ++ [.hole, .hole, .hole], []⟩) (μ := fun s => 21 - s.1) ⟨0, Nat.zero_le _⟩ rfl rfl ?_
  intro s
  have hk := s.2
  obtain ⟨x1, x2⟩ := nxt_spec hm (by omega)
  obtain ⟨v, d, t, g1, g3, g2⟩ := tkL_get (k := s.1) (by omega)
  have gp := tkN_pos (k := s.1) (by omega)
  rw [hr] at g1
  (repeat' ((conv => whnf); first | exact rfl | refine ⟨by kernel_rfl, ?_⟩ | exact ⟨rfl, rfl⟩ | refine ⟨rfl, ?_⟩ | refine ⟨by (first | omega | (simp (disch := omega) only [wrapI]; omega) | (simp (disch := omega) only [wrapI]; simp; omega) | (simp; omega)), ?_⟩ | (intro ep) | refine ⟨_, ticks_spec v d t, ?_⟩ | refine optS (tabR (by omega)) ?_ | refine optS (by rw [Nat.zero_add, Int.toNat_natCast]; exact g1) ?_ | refine ⟨by simp; omega, ?_⟩ | (rw [IntWalk.i64_in _ (by have := fw_bd m; omega)]) | (refine ifB (fun hb => ?_) (fun hb => ?_) <;> (try simp only [decide_eq_true_eq, decide_eq_false_iff_not, beq_iff_eq, beq_eq_false_iff_ne, bne_iff_ne, bne_eq_false_iff_eq, ne_eq, not_false_eq_true, not_true_eq_false, Bool.not_eq_true, Bool.not_eq_true', Bool.not_eq_false', Int.not_lt, Int.not_le] at hb) <;> (try simp (disch := omega) only [wrapI] at hb) <;> (try (exfalso; omega))) | fail))
  · refine back_of ⟨s.1 + 1, ?_⟩ ⟨rfl, rfl, by simp only; omega⟩
    by_cases e : s.1 = nxt m
    · have := hmost (by omega); rw [← e] at this; omega
    · omega
  · refine back_of ⟨s.1 + 1, ?_⟩ ⟨rfl, rfl, by simp only; omega⟩
    by_cases e : s.1 = nxt m
    · obtain ⟨a, b⟩ := fw_nxt hm (by omega); rw [← e] at a; omega
    · omega
  · refine back_of ⟨s.1 + 1, ?_⟩ ⟨rfl, rfl, by simp only; omega⟩
    by_cases e : s.1 = nxt m
    · simp only [okK, Bool.and_eq_true, decide_eq_true_eq] at x2
      rw [← e, ← g2] at x2
      rw [hfm] at hb
      omega
    · omega
  · have hsub : ((m : Int) - ticks v d t).toNat = m - tkN s.1 := by omega
    have hok : okK m s.1 = true := by
      simp only [okK, Bool.and_eq_true, decide_eq_true_eq]
      rw [← g2]
      rw [hfm] at hb
      exact ⟨by omega, hb⟩
    have hnx : nxt m = s.1 := by have := nxt_min hok (by omega); omega
    obtain ⟨q1, q2, q3⟩ := fw_nxt hm (by omega)
    rw [hnx] at q1 q2 q3
    have hst := sigK_step hm (by omega)
    rw [hnx] at hst
    have e4' : List.take l.length (List.drop 0 (outR l)) = outR l := by rw [List.drop_zero, List.take_of_length_le (by simp [outR])]
    have e3' : (l ++ [s.1]).length = l.length + 1 := by simp
    have e : ((m : Int) - ticks v d t) = ((m - tkN s.1 : Nat) : Int) := by omega
    have hHB : HB n e0 e1 e2 e4 e5 ep rows (l ++ [s.1]) = [.vec e0 [[.lslc 3 rows 0 21 false]], .vec e1 (iRows (table n)), .vec e2 [[.oslc (.s 1) e1 1 0 (n + 1) false]], .hole,
        .vec e4 [[.oslc (.s 6) ep 3 0 (l.length + 1) false]],
        .vec e5 [[.fn (.func 70) [] [.optr (.s 0) e0 1 0 0, .optr (.s 2) e2 1 0 0, .optr (.s 4) e4 1 0 0, .optr (.s 5) e5 1 0 0]]],
        .vec ep (List.take l.length (List.drop 0 (outR l)) ++ [[.int .i64 v, .bool d, .bool t]])] := by
      unfold HB; rw [e3', e4', outR_snoc, g3]
    have key := ih (m - tkN s.1) (by omega) (ticks v d t) (l ++ [s.1]) ep (by omega) q3 (fun hne => by
      have hmo := nxt_mono hm (by omega) (by rw [hnx]; exact hne)
      rw [hnx] at hmo
      obtain ⟨y1, _⟩ := nxt_spec q3 hne
      have := tk_desc hmo y1
      omega) (by rw [e3']; omega)
    rw [← e, hHB] at key
    refine ACalls.part (dy := []) 7 (by exact rfl) (by exact rfl) (by exact rfl) key ?_
    rintro r h1 ⟨rfl, e6', hp, hd⟩
    rw [hp, hd]
    (conv => whnf)
    refine ⟨rfl, e6', ?_, rfl⟩
    rw [hst, show l ++ s.1 :: sigK (m - tkN s.1) = l ++ [s.1] ++ sigK (m - tkN s.1) by simp]
    rfl

end Go.Ab.V

/-
  The program's Signs. No condition.
-/
namespace Go.Ab.V
open Go.Proofs

def A29 : Ann := fun r => match r with
  | 3 => { slots := [(1, 0)] }
  | 4 => { slots := [(2, 1), (3, 2)] }
  | 11 => { slots := [(2, 3)] }
  | 18 => { slots := [(0, 4)] }
  | 19 => { slots := [(0, 5)] }
  | _ => {}

/-- what Signs hands back -/
def sigV (n : Nat) : AV := if fw n < 0 then .tup [.nils, .int .i64 25] else .tup [.lslc 3 (outR (sigK n)) 0 (sigK n).length false, .int .i64 0]

set_option maxHeartbeats 4000000 in
set_option maxRecDepth 100000 in
theorem signs_spec (n : Nat) (hn : n ≤ 4608) : PRet C.P 29 [.int .i64 n] (sigV n) := by
  have w1 : IntKind.i64.wrap (↑n + 1) = ((n + 1 : Nat) : Int) := by rw [IntWalk.i64_in _ (by omega)]; rfl
  have hf : fw ((n : Int)).toNat = fw n := by rw [Int.toNat_natCast]
  have wn : (IntKind.i64.wrap (↑n + 1)).toNat = n + 1 := by rw [w1]; rfl
  refine pret_of ok mixed (A := A29) 7 Try.func29 rfl ?_
  obtain ⟨rows, hr, hall⟩ : ∃ rows, allRows = rows ∧ PRet C.P 69 [] (.lslc 3 rows 0 21 false) := ⟨_, rfl, all_spec⟩
  (repeat' ((conv => whnf); first | exact rfl | refine ⟨by kernel_rfl, ?_⟩ | exact ⟨rfl, rfl⟩ | refine ⟨rfl, ?_⟩ | refine ⟨by (first | omega | (simp (disch := omega) only [wrapI]; omega) | (simp (disch := omega) only [wrapI]; simp; omega) | (simp; omega)), ?_⟩ | (intro ep) | refine ⟨_, hall, ?_⟩ | (refine ifB (fun hb => ?_) (fun hb => ?_) <;> (try simp only [decide_eq_true_eq, decide_eq_false_iff_not, beq_iff_eq, beq_eq_false_iff_ne, bne_iff_ne, bne_eq_false_iff_eq, ne_eq, not_false_eq_true, not_true_eq_false, Bool.not_eq_true, Bool.not_eq_true', Bool.not_eq_false', Int.not_lt, Int.not_le] at hb) <;> (try simp (disch := omega) only [wrapI] at hb) <;> (try (exfalso; omega))) | fail))
  (conv => whnf)
  rename_i e0 e1
  obtain ⟨e2, he2⟩ : ∃ e2, e2 = ep := ⟨_, rfl⟩
  subst he2
  refine loopM ok mixed (A := A29) [0, 4, 5, 6] [0, 1, 2] (S := { i : Nat // i ≤ n })
    (fr := fun s => frOf 0 87 [(0, .int .i64 n), (4, .optr (.s 0) e0 1 0 0), (5, .optr (.s 2) e2 1 0 0), (6, .int .i64 ((s.1 + 1 : Nat) : Int))])
    (h := fun s => ⟨[.vec e0 [[.lslc 3 rows 0 21 false]], .vec e1 (iRows (table s.1 ++ List.replicate (n - s.1) 0)), .vec e2 [[.oslc (.s 1) e1 1 0 (n + 1) false]], .hole, .hole, .hole, .hole], []⟩) (μ := fun s => n - s.1) ⟨0, Nat.zero_le n⟩ ?_ ?_ ?_
  · rfl
  · show (⟨[AObj.vec e0 [[.lslc 3 rows 0 21 false]], .vec e1 (List.replicate (IntKind.i64.wrap (↑n + 1)).toNat [AV.int .i64 0]), .vec e2 [[.oslc (.s 1) e1 1 0 (IntKind.i64.wrap (↑n + 1)).toNat false]], .hole, .hole, .hole, .hole], []⟩ : Heap) = ⟨[_, AObj.vec e1 (iRows ([0] ++ List.replicate n 0)), _, _, _, _, _], []⟩
    rw [wn]
    simp [iRows, List.replicate_succ]
  · intro s
    have hi := s.2
    (conv => whnf)
    refine ifB (fun h1 => ?_) (fun h1 => ?_)
    · simp only [decide_eq_true_eq] at h1
      (repeat' ((conv => whnf); first | exact rfl | refine ⟨by kernel_rfl, ?_⟩ | exact ⟨rfl, rfl⟩ | refine ⟨rfl, ?_⟩ | refine ⟨by (first | omega | (simp (disch := omega) only [wrapI]; omega) | (simp (disch := omega) only [wrapI]; simp; omega) | (simp; omega)), ?_⟩ | (intro ep) | refine optS (iRows_get (rep_get (n := n) (i := s.1) (by omega))) ?_ | fail))
      (conv => whnf)
      refine loopM ok mixed (A := A29) [0, 4, 5, 6, 30, 31, 32] [0, 1, 2] (S := { k : Nat // k ≤ 21 })
        (fr := fun k => frOf 0 87 [(0, .int .i64 n), (4, .optr (.s 0) e0 1 0 0), (5, .optr (.s 2) e2 1 0 0), (6, .int .i64 ((s.1 + 1 : Nat) : Int)), (30, .lslc 3 rows 0 21 false), (31, .int .i64 21), (32, .int .i64 (k.1 : Int))])
        (h := fun k => ⟨[.vec e0 [[.lslc 3 rows 0 21 false]], .vec e1 (iRows (midT n s.1 k.1)), .vec e2 [[.oslc (.s 1) e1 1 0 (n + 1) false]], .hole, .hole, .hole, .hole], []⟩) (μ := fun k => 21 - k.1) ⟨0, Nat.zero_le _⟩ rfl ?_ ?_
      · show (⟨[AObj.vec e0 [[.lslc 3 rows 0 21 false]], .vec e1 ((iRows (table s.1 ++ List.replicate (n - s.1) 0)).set (0 + (((s.1 + 1 : Nat) : Int)).toNat) [AV.int .i64 (-1)]), .vec e2 [[.oslc (.s 1) e1 1 0 (n + 1) false]], .hole, .hole, .hole, .hole], []⟩ : Heap) = _
        rw [iRows_set, midT_zero (by omega)]
      · intro k
        have hk := k.2
        (conv => whnf)
        refine ifB (fun h2 => ?_) (fun h2 => ?_)
        · simp only [decide_eq_true_eq] at h2
          obtain ⟨v, d, t, g1, g2⟩ := sRow_get (k := k.1) (by omega)
          have gp := tk_pos g2
          rw [hr] at g1
          have hbd := tab_bd s.1 ((↑(s.1 + 1) - ticks v d t).toNat) (by omega)
          (repeat' ((conv => whnf); first | exact rfl | refine ⟨by kernel_rfl, ?_⟩ | exact ⟨rfl, rfl⟩ | refine ⟨rfl, ?_⟩ | refine ⟨by (first | omega | (simp (disch := omega) only [wrapI]; omega) | (simp (disch := omega) only [wrapI]; simp; omega) | (simp; omega)), ?_⟩ | (intro ep) | refine ⟨_, ticks_spec v d t, ?_⟩ | refine optS (by (try simp (disch := omega) only [wrapI]); first | exact midR_lo (by omega) | exact midR_hi (by omega) | (rw [Nat.zero_add, Int.toNat_natCast]; exact g1)) ?_ | (refine ifB (fun hb => ?_) (fun hb => ?_) <;> (try simp only [decide_eq_true_eq, decide_eq_false_iff_not, beq_iff_eq, beq_eq_false_iff_ne, bne_iff_ne, bne_eq_false_iff_eq, ne_eq, not_false_eq_true, not_true_eq_false, Bool.not_eq_true, Bool.not_eq_true', Bool.not_eq_false', Int.not_lt, Int.not_le] at hb) <;> (try simp (disch := omega) only [wrapI] at hb) <;> (try (exfalso; omega))) | fail))
          all_goals refine back_of ⟨k.1 + 1, by omega⟩ ⟨by (first | exact rfl | (simp (disch := omega) only [wrapI]; exact rfl)), ?_, by simp only; omega⟩
          all_goals (try simp (disch := omega) only [wrapI])
          all_goals show (⟨[AObj.vec e0 [[.lslc 3 rows 0 21 false]], AObj.vec e1 _, AObj.vec e2 [[.oslc (.s 1) e1 1 0 (n + 1) false]], _, _, _, _], []⟩ : Heap) = ⟨[AObj.vec e0 [[.lslc 3 rows 0 21 false]], AObj.vec e1 (iRows (midT n s.1 (k.1 + 1))), AObj.vec e2 [[.oslc (.s 1) e1 1 0 (n + 1) false]], _, _, _, _], []⟩
          all_goals first
            | (rw [iRows_set, midT_set g2 (by simp only [better]; rw [if_pos (by omega)])]; done)
            | (rw [midT_succ g2 (by simp only [better]; rw [if_neg (by omega)])]; done)
        · simp only [decide_eq_false_iff_not] at h2
          have e21 : k.1 = 21 := by omega
          (conv => whnf)
          refine back_of ⟨s.1 + 1, by omega⟩ ⟨?_, ?_, by simp only; omega⟩
          · rw [IntWalk.i64_in _ (by omega)]; rfl
          · rw [e21, midT_last]; rfl
    · simp only [decide_eq_false_iff_not] at h1
      have e : s.1 = n := by omega
      have e2' : table n ++ List.replicate (n - n) 0 = table n := by simp
      (conv => whnf)
      rw [e, e2']
      (repeat' ((conv => whnf); first | exact rfl | refine ⟨by kernel_rfl, ?_⟩ | exact ⟨rfl, rfl⟩ | refine ⟨rfl, ?_⟩ | refine ⟨by (first | omega | (simp (disch := omega) only [wrapI]; omega) | (simp (disch := omega) only [wrapI]; simp; omega) | (simp; omega)), ?_⟩ | (intro ep) | refine optS (tabR (by omega)) ?_ | (refine ifB (fun hb => ?_) (fun hb => ?_) <;> (try simp only [decide_eq_true_eq, decide_eq_false_iff_not, beq_iff_eq, beq_eq_false_iff_ne, bne_iff_ne, bne_eq_false_iff_eq, ne_eq, not_false_eq_true, not_true_eq_false, Bool.not_eq_true, Bool.not_eq_true', Bool.not_eq_false', Int.not_lt, Int.not_le] at hb) <;> (try simp (disch := omega) only [wrapI] at hb) <;> (try (exfalso; omega))) | fail))
      · rw [hf] at hb
        unfold sigV
        rw [if_pos hb]
      · rename_i e4
        rw [hf] at hb
        obtain ⟨e5, he5⟩ : ∃ e5, e5 = ep := ⟨_, rfl⟩
        subst he5
        (conv => whnf)
        refine ACalls.liftV 4 6 e4 3 (by decide) rfl ?_
        intro e6
        have key := split_spec n hn e0 e1 e2 e4 e5 n 768 [] e6 (Nat.le_refl _) hb (fun hne => by have := (tkN_pos (nxt_spec hb hne).1).2.1; omega) (by simp)
        rw [hr] at key
        simp only [List.nil_append] at key
        refine ACalls.part (dy := []) 7 (by exact rfl) (by exact rfl) (by exact rfl) key ?_
        rintro r h1 ⟨rfl, e6', hp, hd⟩
        rw [hp, hd]
        (repeat' (first | exact rfl | ((conv => whnf); first | exact rfl | refine ⟨rfl, ?_⟩ | refine ⟨pure_outR _ hb, ?_⟩ | fail)))
        unfold sigV
        rw [if_neg (by omega)]

end Go.Ab.V

/-
  The check of a piece, by the program. No condition on the piece but that its lists are no longer than a machine's.
-/
namespace Go.Ab.V
open Go.Proofs

def fretsOf (i : Ins) (c : Int) : Int := (i.cs.getD (c - 1).toNat ⟨0, 0, false⟩).frets
def chkStop (i : Ins) (lg : Int) (s : Stp) (last : Int) : Int :=
  if s.c < 1 ∨ (i.cs.length : Int) < s.c then 12 else if s.f < 0 ∨ fretsOf i s.c < s.f then 13 else if s.c ≤ last then 22 else
    if s.r < 0 ∨ 3 < s.r ∨ s.g < 0 ∨ 4 < s.g then 23 else if s.h < 0 ∨ lg < s.h ∨ (0 < s.h ∧ s.f = 0) then 24 else 0
def chkStops (p : Pc) (k : Nat) (last : Int) : List Stp → Int
  | [] => 0
  | s :: r => if chkStop p.ins (longest p.evs k s.c) s last = 0 then chkStops p k s.c r else chkStop p.ins (longest p.evs k s.c) s last
def chkEv (p : Pc) (k : Nat) (e : Evt) : Int :=
  if right e.v e.d e.t = false ∨ (k = 0 ∧ e.v = 0) then 20 else if e.tie = true ∧ (k = 0 ∨ 0 < e.stops.length) then 21 else chkStops p k 0 e.stops
def chkEvs (p : Pc) (k : Nat) : List Evt → Int
  | [] => 0
  | e :: r => if chkEv p k e = 0 then chkEvs p (k + 1) r else chkEv p k e
def chk (p : Pc) : Int := if chkIn p.ins = 0 then (if 400 < p.evs.length then 2 else chkEvs p 0 p.evs) else chkIn p.ins

def A75 : Ann := fun r => match r with
  | 0 => { slots := [(0, 0), (1, 1)] }
  | _ => {}

theorem fretsR {i : Ins} {c : Int} (h : 1 ≤ c ∧ c ≤ i.cs.length) : ∃ x, (i.cs.map crR)[0 + (c - 1).toNat]? = some (crR x) ∧ x.frets = fretsOf i c := by
  have hl : (c - 1).toNat < i.cs.length := by omega
  refine ⟨i.cs[(c - 1).toNat], ?_, ?_⟩
  · rw [Nat.zero_add, List.getElem?_map, List.getElem?_eq_getElem hl]; rfl
  · unfold fretsOf; rw [List.getD, List.getElem?_eq_getElem hl]; rfl

set_option maxHeartbeats 1000000 in
set_option maxRecDepth 100000 in
theorem checkStop_spec (p : Pc) (hp : p.Ok) (k : Nat) (s : Stp) (last : Int) : PRet C.P 75 [pcA p, .int .i64 k, .agg (stR s), .int .i64 last] (.int .i64 (chkStop p.ins (longest p.evs k s.c) s last)) := by
  have hpc := hp.cs
  refine pret_of ok mixed (A := A75) 2 Try.func75 rfl ?_
  unfold chkStop
  (repeat' (first | exact rfl | ((conv => whnf); first | exact rfl | refine ⟨by kernel_rfl, ?_⟩ | exact ⟨rfl, rfl⟩ | refine ⟨rfl, ?_⟩ | refine ⟨by (first | omega | (simp (disch := omega) only [wrapI]; omega) | (simp (disch := omega) only [wrapI]; simp; omega) | (simp; omega)), ?_⟩ | (intro ep) | (refine ifB (fun hb => ?_) (fun hb => ?_) <;> (try simp only [decide_eq_true_eq, decide_eq_false_iff_not, beq_iff_eq, beq_eq_false_iff_ne, bne_iff_ne, bne_eq_false_iff_eq, ne_eq, not_false_eq_true, not_true_eq_false, Bool.not_eq_true, Bool.not_eq_true', Bool.not_eq_false', Int.not_lt, Int.not_le] at hb) <;> (try simp (disch := omega) only [wrapI] at hb) <;> (try (exfalso; omega))) | fail)))
  · rw [if_pos (by omega)]
  · rw [if_pos (by omega)]
  (repeat' (first | exact rfl | ((conv => whnf); first | exact rfl | refine ⟨by kernel_rfl, ?_⟩ | exact ⟨rfl, rfl⟩ | refine ⟨rfl, ?_⟩ | refine ⟨by (first | omega | (simp (disch := omega) only [wrapI]; omega) | (simp (disch := omega) only [wrapI]; simp; omega) | (simp; omega)), ?_⟩ | (intro ep) | (refine ifB (fun hb => ?_) (fun hb => ?_) <;> (try simp only [decide_eq_true_eq, decide_eq_false_iff_not, beq_iff_eq, beq_eq_false_iff_ne, bne_iff_ne, bne_eq_false_iff_eq, ne_eq, not_false_eq_true, not_true_eq_false, Bool.not_eq_true, Bool.not_eq_true', Bool.not_eq_false', Int.not_lt, Int.not_le] at hb) <;> (try simp (disch := omega) only [wrapI] at hb) <;> (try (exfalso; omega))) | fail)))
  · rw [if_neg (by omega), if_pos (by omega)]
  obtain ⟨x, x1, x2⟩ := fretsR (i := p.ins) (c := s.c) (by omega)
  (repeat' (first | exact rfl | ((conv => whnf); first | exact rfl | refine ⟨by kernel_rfl, ?_⟩ | exact ⟨rfl, rfl⟩ | refine ⟨rfl, ?_⟩ | refine ⟨by (first | omega | (simp (disch := omega) only [wrapI]; omega) | (simp (disch := omega) only [wrapI]; simp; omega) | (simp; omega)), ?_⟩ | (intro ep) | refine optS (by (try simp (disch := omega) only [wrapI]); exact x1) ?_ | refine ⟨_, longest_spec p hp k s.c, ?_⟩ | (refine ifB (fun hb => ?_) (fun hb => ?_) <;> (try simp only [decide_eq_true_eq, decide_eq_false_iff_not, beq_iff_eq, beq_eq_false_iff_ne, bne_iff_ne, bne_eq_false_iff_eq, ne_eq, not_false_eq_true, not_true_eq_false, Bool.not_eq_true, Bool.not_eq_true', Bool.not_eq_false', Int.not_lt, Int.not_le] at hb) <;> (try simp (disch := omega) only [wrapI] at hb) <;> (try (exfalso; omega))) | fail)))
  all_goals (refine congrArg (AV.int .i64) ?_; rw [← x2]; (repeat' split) <;> omega)

def A33 : Ann := fun r => match r with
  | 0 => { slots := [(0, 0)] }
  | 8 => { slots := [(3, 1)] }
  | 16 => { slots := [(2, 2)] }
  | _ => {}

theorem right_zero {v : Int} {d t : Bool} (h : right v d t = true) : (decide (v = 0) && (d == false && (t == false && true))) = decide (v = 0) := by
  by_cases h0 : v = 0
  · subst h0
    cases d <;> cases t <;> first | rfl | (exfalso; revert h; decide)
  · simp [h0]

set_option maxHeartbeats 2000000 in
set_option maxRecDepth 100000 in
theorem check_spec (p : Pc) (hp : p.Ok) : PRet C.P 33 [pcA p] (.int .i64 (chk p)) := by
  refine pret_of ok mixed (A := A33) 3 Try.func33 rfl ?_
  (repeat' (first | exact rfl | ((conv => whnf); first | exact rfl | refine ⟨by kernel_rfl, ?_⟩ | exact ⟨rfl, rfl⟩ | refine ⟨rfl, ?_⟩ | refine ⟨by (first | omega | (simp (disch := omega) only [wrapI]; omega) | (simp (disch := omega) only [wrapI]; simp; omega) | (simp; omega)), ?_⟩ | (intro ep) | refine ⟨_, inCheck_spec p.ins, ?_⟩ | (refine ifB (fun hb => ?_) (fun hb => ?_) <;> (try simp only [decide_eq_true_eq, decide_eq_false_iff_not, beq_iff_eq, beq_eq_false_iff_ne, bne_iff_ne, bne_eq_false_iff_eq, ne_eq, not_false_eq_true, not_true_eq_false, Bool.not_eq_true, Bool.not_eq_true', Bool.not_eq_false', Int.not_lt, Int.not_le] at hb) <;> (try simp (disch := omega) only [wrapI] at hb) <;> (try (exfalso; omega))) | fail)))
  · unfold chk; rw [if_neg hb]
  · rename_i hb1
    unfold chk; rw [if_pos hb1, if_pos (by omega)]
  rename_i hI
  have hA : chk p = chkEvs p 0 p.evs := by unfold chk; rw [if_pos hI, if_neg (by omega)]
  rw [hA]
  obtain ⟨e0, he⟩ : ∃ e1, e1 = ep := ⟨_, rfl⟩
  subst he
  (repeat' (first | exact rfl | ((conv => whnf); first | exact rfl | refine ⟨by kernel_rfl, ?_⟩ | exact ⟨rfl, rfl⟩ | refine ⟨rfl, ?_⟩ | refine ⟨by (first | omega | (simp (disch := omega) only [wrapI]; omega) | (simp (disch := omega) only [wrapI]; simp; omega) | (simp; omega)), ?_⟩ | (intro ep) | (refine ifB (fun hb => ?_) (fun hb => ?_) <;> (try simp only [decide_eq_true_eq, decide_eq_false_iff_not, beq_iff_eq, beq_eq_false_iff_ne, bne_iff_ne, bne_eq_false_iff_eq, ne_eq, not_false_eq_true, not_true_eq_false, Bool.not_eq_true, Bool.not_eq_true', Bool.not_eq_false', Int.not_lt, Int.not_le] at hb) <;> (try simp (disch := omega) only [wrapI] at hb) <;> (try (exfalso; omega))) | fail)))
  (conv => whnf)
  refine loopM ok mixed (A := A33) [1, 21, 22, 23] [0] (S := { k : Nat // k ≤ p.evs.length ∧ chkEvs p k (p.evs.drop k) = chkEvs p 0 p.evs })
    (fr := fun s => frOf 0 73 [(1, .optr (.s 0) e0 3 0 0), (21, evsA p.evs), (22, .int .i64 p.evs.length), (23, .int .i64 (s.1 : Int))])
    (h := fun s => ⟨[.vec e0 [[crsA p.ins.cs, intsA p.ins.steps, evsA p.evs]], .hole, .hole], []⟩) (μ := fun s => p.evs.length - s.1) ⟨0, by omega, rfl⟩ rfl rfl ?_
  rintro ⟨k, hk, hs⟩
  show aexR _ _ _ (frOf 0 73 [(1, .optr (.s 0) e0 3 0 0), (21, evsA p.evs), (22, .int .i64 p.evs.length), (23, .int .i64 (k : Int))]) ⟨[.vec e0 [[crsA p.ins.cs, intsA p.ins.steps, evsA p.evs]], .hole, .hole], []⟩ _
  (conv => whnf)
  refine ifB (fun h1 => ?_) (fun h1 => ?_)
  · simp only [decide_eq_true_eq] at h1
    have hlt : k < p.evs.length := by omega
    obtain ⟨e, hev⟩ : ∃ e, p.evs[k] = e := ⟨_, rfl⟩
    have hm : (p.evs.map evR)[0 + ((k : Nat) : Int).toNat]? = some (evR e) := by rw [mapR hlt, hev]
    have hsl : e.stops.length ≤ 9223372036854775807 := hp.sp e (by rw [← hev]; exact List.getElem_mem hlt)
    rw [drop_at hlt, hev] at hs
    have key : chkEv p k e ≠ 0 → chkEvs p 0 p.evs = chkEv p k e := fun h => by rw [← hs, chkEvs, if_neg h]
    have key0 : chkEv p k e = 0 → chkEvs p (k + 1) (p.evs.drop (k + 1)) = chkEvs p 0 p.evs := fun h => by rw [← hs, chkEvs, if_pos h]
    clear hs
    have e20 : (right e.v e.d e.t = false ∨ (k = 0 ∧ e.v = 0)) → chkEv p k e = 20 := fun h => by unfold chkEv; rw [if_pos h]
    have e21 : ¬ (right e.v e.d e.t = false ∨ (k = 0 ∧ e.v = 0)) → e.tie = true ∧ (k = 0 ∨ 0 < e.stops.length) → chkEv p k e = 21 := fun h h' => by unfold chkEv; rw [if_neg h, if_pos h']
    have e0' : ¬ (right e.v e.d e.t = false ∨ (k = 0 ∧ e.v = 0)) → ¬ (e.tie = true ∧ (k = 0 ∨ 0 < e.stops.length)) → chkEv p k e = chkStops p k 0 e.stops := fun h h' => by unfold chkEv; rw [if_neg h, if_neg h']
    (repeat' (first | exact rfl | ((conv => whnf); first | exact rfl | refine ⟨by kernel_rfl, ?_⟩ | exact ⟨rfl, rfl⟩ | refine ⟨rfl, ?_⟩ | refine ⟨by (first | omega | (simp (disch := omega) only [wrapI]; omega) | (simp (disch := omega) only [wrapI]; simp; omega) | (simp; omega)), ?_⟩ | (intro ep) | refine optS hm ?_ | refine ⟨_, valid_spec e.v e.d e.t, ?_⟩ | (refine ifB (fun hb => ?_) (fun hb => ?_) <;> (try simp only [decide_eq_true_eq, decide_eq_false_iff_not, beq_iff_eq, beq_eq_false_iff_ne, bne_iff_ne, bne_eq_false_iff_eq, ne_eq, not_false_eq_true, not_true_eq_false, Bool.not_eq_true, Bool.not_eq_true', Bool.not_eq_false', Int.not_lt, Int.not_le] at hb) <;> (try simp (disch := omega) only [wrapI] at hb) <;> (try (exfalso; omega))) | fail)))
    · rename_i hb1
      first | (rw [key (by rw [e20 (.inl hb1)]; decide), e20 (.inl hb1)]) | (rw [key (by rw [e20 (.inl hb)]; decide), e20 (.inl hb)])
    · rename_i hb2 hb1
      have hv : e.v = 0 := by simp only [Bool.and_eq_true, decide_eq_true_eq] at hb; exact hb.1
      rw [key (by rw [e20 (.inr ⟨by omega, hv⟩)]; decide), e20 (.inr ⟨by omega, hv⟩)]
    all_goals
      have hR : right e.v e.d e.t = true := by assumption
      have hn : ¬ (right e.v e.d e.t = false ∨ (k = 0 ∧ e.v = 0)) := by
        rintro (h | ⟨h, h'⟩)
        · rw [hR] at h; cases h
        · first
            | omega
            | (have hz : (decide (e.v = 0) && (e.d == false && (e.t == false && true))) = false := by assumption
               rw [right_zero hR, h'] at hz
               cases hz)
      replace e21 := e21 hn
      replace e0' := e0' hn
    · rename_i ht
      have := e21 ⟨by assumption, .inl (by omega)⟩
      rw [key (by rw [this]; decide), this]
    all_goals first
      | (have h2 := e21 ⟨by assumption, .inr (by omega)⟩
         rw [key (by rw [h2]; decide), h2]
         done)
      | skip
    all_goals
      have hT : ¬ (e.tie = true ∧ (k = 0 ∨ 0 < e.stops.length)) := by
        rintro ⟨h, h'⟩
        rcases h' with h' | h' <;> first | omega | (simp_all; done)
      replace e0' := e0' hT
      (repeat' (first | exact rfl | ((conv => whnf); first | exact rfl | refine ⟨by kernel_rfl, ?_⟩ | exact ⟨rfl, rfl⟩ | refine ⟨rfl, ?_⟩ | refine ⟨by (first | omega | (simp (disch := omega) only [wrapI]; omega) | (simp (disch := omega) only [wrapI]; simp; omega) | (simp; omega)), ?_⟩ | (intro ep) | (refine ifB (fun hb => ?_) (fun hb => ?_) <;> (try simp only [decide_eq_true_eq, decide_eq_false_iff_not, beq_iff_eq, beq_eq_false_iff_ne, bne_iff_ne, bne_eq_false_iff_eq, ne_eq, not_false_eq_true, not_true_eq_false, Bool.not_eq_true, Bool.not_eq_true', Bool.not_eq_false', Int.not_lt, Int.not_le] at hb) <;> (try simp (disch := omega) only [wrapI] at hb) <;> (try (exfalso; omega))) | fail)))
      (conv => whnf)
      refine loopM ok mixed (A := A33) [1, 4, 6, 21, 22, 23, 55, 56, 57] [0] (S := { x : Nat × Int // x.1 ≤ e.stops.length ∧ chkStops p k x.2 (e.stops.drop x.1) = chkStops p k 0 e.stops })
        (fr := fun s => frOf 0 73 [(1, .optr (.s 0) e0 3 0 0), (4, .int .i64 k), (6, .int .i64 s.1.2), (21, evsA p.evs), (22, .int .i64 p.evs.length), (23, .int .i64 (k : Int)), (55, stsA e.stops), (56, .int .i64 e.stops.length), (57, .int .i64 (s.1.1 : Int))])
        (h := fun s => ⟨[.vec e0 [[crsA p.ins.cs, intsA p.ins.steps, evsA p.evs]], .hole, .hole], []⟩) (μ := fun s => e.stops.length - s.1.1) ⟨(0, 0), by omega, rfl⟩ rfl rfl ?_
      rintro ⟨⟨j, last⟩, hj, hs⟩
      show aexR _ _ _ (frOf 0 73 [(1, .optr (.s 0) e0 3 0 0), (4, .int .i64 k), (6, .int .i64 last), (21, evsA p.evs), (22, .int .i64 p.evs.length), (23, .int .i64 (k : Int)), (55, stsA e.stops), (56, .int .i64 e.stops.length), (57, .int .i64 (j : Int))]) ⟨[.vec e0 [[crsA p.ins.cs, intsA p.ins.steps, evsA p.evs]], .hole, .hole], []⟩ _
      simp only at hj hs
      (conv => whnf)
      refine ifB (fun h2 => ?_) (fun h2 => ?_)
      · simp only [decide_eq_true_eq] at h2
        have hlj : j < e.stops.length := by omega
        first
          | (exfalso; omega)
          | skip
        all_goals
          rw [drop_at hlj] at hs
          simp only [chkStops] at hs
          (repeat' (first | exact rfl | ((conv => whnf); first | exact rfl | refine ⟨by kernel_rfl, ?_⟩ | exact ⟨rfl, rfl⟩ | refine ⟨rfl, ?_⟩ | refine ⟨by (first | omega | (simp (disch := omega) only [wrapI]; omega) | (simp (disch := omega) only [wrapI]; simp; omega) | (simp; omega)), ?_⟩ | (intro ep) | refine optS (mapR hlj) ?_ | refine ⟨_, checkStop_spec p hp k e.stops[j] last, ?_⟩ | (refine ifB (fun hb => ?_) (fun hb => ?_) <;> (try simp only [decide_eq_true_eq, decide_eq_false_iff_not, beq_iff_eq, beq_eq_false_iff_ne, bne_iff_ne, bne_eq_false_iff_eq, ne_eq, not_false_eq_true, not_true_eq_false, Bool.not_eq_true, Bool.not_eq_true', Bool.not_eq_false', Int.not_lt, Int.not_le] at hb) <;> (try simp (disch := omega) only [wrapI] at hb) <;> (try (exfalso; omega))) | fail)))
          · rw [if_neg hb] at hs
            have hc : chkEv p k e = chkStop p.ins (longest p.evs k (e.stops[j]).c) e.stops[j] last := by rw [e0', hs]
            rw [key (by rw [hc]; exact hb), hc]
          · rw [if_pos hb] at hs
            refine back_of ⟨(j + 1, (e.stops[j]).c), by omega, hs⟩ ⟨by (first | exact rfl | (simp (disch := omega) only [wrapI]; exact rfl)), rfl, by simp only; omega⟩
      · simp only [decide_eq_false_iff_not] at h2
        rw [List.drop_eq_nil_of_le (by omega)] at hs
        (conv => whnf)
        refine back_of ⟨k + 1, by omega, key0 (by rw [e0', ← hs]; rfl)⟩ ⟨by (first | exact rfl | (simp (disch := omega) only [wrapI]; exact rfl)), rfl, by simp only; omega⟩
  · simp only [decide_eq_false_iff_not] at h1
    have h0 : chkEvs p 0 p.evs = 0 := by rw [← hs, List.drop_eq_nil_of_le (by omega)]; rfl
    (repeat' (first | exact rfl | ((conv => whnf); first | exact rfl | refine ⟨by kernel_rfl, ?_⟩ | exact ⟨rfl, rfl⟩ | refine ⟨rfl, ?_⟩ | refine ⟨by (first | omega | (simp (disch := omega) only [wrapI]; omega) | (simp (disch := omega) only [wrapI]; simp; omega) | (simp; omega)), ?_⟩ | (intro ep) | (refine ifB (fun hb => ?_) (fun hb => ?_) <;> (try simp only [decide_eq_true_eq, decide_eq_false_iff_not, beq_iff_eq, beq_eq_false_iff_ne, bne_iff_ne, bne_eq_false_iff_eq, ne_eq, not_false_eq_true, not_true_eq_false, Bool.not_eq_true, Bool.not_eq_true', Bool.not_eq_false', Int.not_lt, Int.not_le] at hb) <;> (try simp (disch := omega) only [wrapI] at hb) <;> (try (exfalso; omega))) | fail)))
    rw [h0]

end Go.Ab.V

/-
  The program's Onsets. No condition on the piece but that its lists are no longer than a machine's.
-/
namespace Go.Ab.V
open Go.Proofs

theorem ints_app (l m : List Int) : ints (l ++ m) = ints l ++ ints m := List.map_append
theorem pure_ints (l : List Int) : pureRows (ints l) := by
  intro row hr c hc
  obtain ⟨x, _, rfl⟩ := List.mem_map.mp hr
  cases List.mem_singleton.mp hc
  rfl
/-- the duration in force -/
def frc (f : Int) (e : Evt) : Int := if 0 < ticks e.v e.d e.t then ticks e.v e.d e.t else f
def onsT (f t : Int) : List Evt → List Int
  | [] => []
  | e :: r => (t + frc f e) :: onsT (frc f e) (t + frc f e) r
def onsets (p : Pc) : List Int := 0 :: onsT 0 0 p.evs

def A79 : Ann := fun r => match r with
  | 0 => { slots := [(0, 0)] }
  | _ => {}
def pcV (p : Pc) : List AV := [crsA p.ins.cs, intsA p.ins.steps, evsA p.evs]

theorem timed_spec (p : Pc) : HRet C.P 79 [pcA p] (fun B eps => .fn (.func 109) [] [.optr (.d B) (eps 0) 3 0 0]) (fun B eps => [.vec (eps 0) [pcV p]]) := by
  refine hret_of ok mixed (A := A79) 1 Try.func79 rfl ?_ (fun B E eps => ⟨fun k => eps k + E, rfl, rfl⟩)
  (repeat' (first | exact rfl | ((conv => whnf); first | exact rfl | refine ⟨by kernel_rfl, ?_⟩ | exact ⟨rfl, rfl⟩ | refine ⟨rfl, ?_⟩ | refine ⟨by (first | omega | (simp (disch := omega) only [wrapI]; omega) | (simp (disch := omega) only [wrapI]; simp; omega) | (simp; omega)), ?_⟩ | (intro ep) | (refine ifB (fun hb => ?_) (fun hb => ?_) <;> (try simp only [decide_eq_true_eq, decide_eq_false_iff_not, beq_iff_eq, beq_eq_false_iff_ne, bne_iff_ne, bne_eq_false_iff_eq, ne_eq, not_false_eq_true, not_true_eq_false, Bool.not_eq_true, Bool.not_eq_true', Bool.not_eq_false', Int.not_lt, Int.not_le] at hb) <;> (try simp (disch := omega) only [wrapI] at hb) <;> (try (exfalso; omega))) | fail)))
  exact ⟨fun _ => ep, rfl, rfl⟩

theorem ticks_bd (v : Int) (d t : Bool) : 0 ≤ ticks v d t ∧ ticks v d t ≤ 576 := by
  unfold ticks
  split
  · omega
  · simp only
    repeat' split
    all_goals omega

def A36 : Ann := fun r => match r with
  | 0 => { slots := [(0, 0)] }
  | 4 => { slots := [(0, 1), (1, 2)] }
  | 8 => { slots := [(7, 3), (8, 4)] }
  | _ => {}
def A109 : Ann := fun r => match r with
  | 3 => { slots := [(3, 5)] }
  | _ => {}
theorem chk_len {p : Pc} (h : chk p = 0) : p.evs.length ≤ 400 := by
  unfold chk at h
  split at h
  · split at h
    · omega
    · omega
  · omega
/-- what Onsets hands back -/
def onsV (p : Pc) : AV := if chk p = 0 then .tup [intsA (onsets p), .int .i64 0] else .tup [.nils, .int .i64 (chk p)]

set_option maxHeartbeats 2000000 in
set_option maxRecDepth 100000 in
theorem onsets_spec (p : Pc) (hp : p.Ok) : PRet C.P 36 [pcA p] (onsV p) := by
  unfold onsV
  refine pret_of (okx [79] []) mixed (A := A36) 5 Try.func36 rfl ?_
  (repeat' (first | exact rfl | ((conv => whnf); first | exact rfl | refine ⟨by kernel_rfl, ?_⟩ | exact ⟨rfl, rfl⟩ | refine ⟨rfl, ?_⟩ | refine ⟨by (first | omega | (simp (disch := omega) only [wrapI]; omega) | (simp (disch := omega) only [wrapI]; simp; omega) | (simp; omega)), ?_⟩ | (intro ep) | refine ⟨_, check_spec p hp, ?_⟩ | refine ⟨_, _, timed_spec p, ?_⟩ | (refine ifB (fun hb => ?_) (fun hb => ?_) <;> (try simp only [decide_eq_true_eq, decide_eq_false_iff_not, beq_iff_eq, beq_eq_false_iff_ne, bne_iff_ne, bne_eq_false_iff_eq, ne_eq, not_false_eq_true, not_true_eq_false, Bool.not_eq_true, Bool.not_eq_true', Bool.not_eq_false', Int.not_lt, Int.not_le] at hb) <;> (try simp (disch := omega) only [wrapI] at hb) <;> (try (exfalso; omega))) | fail)))
  · rw [if_neg hb]
  rw [if_pos hb]
  have hlen := chk_len hb
  rename_i e0 eA e2
  revert ep
  intro ep0
  (conv => whnf)
  refine rangeF (okx [79] []) rfl rfl ?_
  intro l fnid T D
  refine fnY_of (okx [79] []) mixed (A := A109) 1 Try.func109 rfl ?_
  (repeat' (first | exact rfl | ((conv => whnf); first | exact rfl | refine ⟨by kernel_rfl, ?_⟩ | exact ⟨rfl, rfl⟩ | refine ⟨rfl, ?_⟩ | refine ⟨by (first | omega | (simp (disch := omega) only [wrapI]; omega) | (simp (disch := omega) only [wrapI]; simp; omega) | (simp; omega)), ?_⟩ | (intro ep) | (refine ifB (fun hb => ?_) (fun hb => ?_) <;> (try simp only [decide_eq_true_eq, decide_eq_false_iff_not, beq_iff_eq, beq_eq_false_iff_ne, bne_iff_ne, bne_eq_false_iff_eq, ne_eq, not_false_eq_true, not_true_eq_false, Bool.not_eq_true, Bool.not_eq_true', Bool.not_eq_false', Int.not_lt, Int.not_le] at hb) <;> (try simp (disch := omega) only [wrapI] at hb) <;> (try (exfalso; omega))) | fail)))
  (conv => whnf)
  refine loopM (C := (Cx [79] []).withY _) ⟨(okx [79] []).tok, (okx [79] []).fn⟩ mixed (A := A109) [0, 3, 8, 9, 10] [0, 1, 2] (S := { x : Nat × Int × Int × List Int × Nat // x.1 ≤ p.evs.length ∧ x.2.2.2.1.length = x.1 ∧ (0 ≤ x.2.1 ∧ x.2.1 ≤ 576) ∧ (0 ≤ x.2.2.1 ∧ x.2.2.1 ≤ 576 * x.1) ∧ x.2.2.2.1 ++ [x.2.2.1] ++ onsT x.2.1 x.2.2.1 (p.evs.drop x.1) = onsets p })
    (fr := fun s => frOf 0 27 [(0, .fn (.yield l) [] []), (3, .int .i64 s.1.2.1), (8, evsA p.evs), (9, .int .i64 p.evs.length), (10, .int .i64 (s.1.1 : Int))])
    (h := fun s => ⟨[.vec e0 [pcV p], .vec s.1.2.2.2.2 (ints (s.1.2.2.2.1 ++ [s.1.2.2.1])), .vec e2 [[.oslc (.s 1) s.1.2.2.2.2 1 0 (s.1.1 + 1) false]], .hole, .hole, .hole], [.vec (ep0 0) [pcV p]]⟩) (μ := fun s => p.evs.length - s.1.1)
    ⟨(0, 0, 0, [], eA), by simp, rfl, by simp, by simp, by simp [onsets]⟩ ?_ ?_ ?_
  · exact rfl
  · exact rfl
  rintro ⟨⟨k, f, t, pre, eB⟩, hk, hpre, hf, ht, hs⟩
  simp only at hk hpre hf ht hs
  show aexR _ _ _ (frOf 0 27 [(0, .fn (.yield l) [] []), (3, .int .i64 f), (8, evsA p.evs), (9, .int .i64 p.evs.length), (10, .int .i64 (k : Int))])
    ⟨[.vec e0 [pcV p], .vec eB (ints (pre ++ [t])), .vec e2 [[.oslc (.s 1) eB 1 0 (k + 1) false]], .hole, .hole, .hole], [.vec (ep0 0) [pcV p]]⟩ _
  (conv => whnf)
  refine ifB (fun h1 => ?_) (fun h1 => ?_)
  · simp only [decide_eq_true_eq] at h1
    have hlt : k < p.evs.length := by omega
    obtain ⟨e, hev⟩ : ∃ e, p.evs[k] = e := ⟨_, rfl⟩
    have hm : (p.evs.map evR)[0 + ((k : Nat) : Int).toNat]? = some (evR e) := by rw [mapR hlt, hev]
    have tb := ticks_bd e.v e.d e.t
    rw [drop_at hlt, hev] at hs
    simp only [onsT] at hs
    have hrd : (ints (pre ++ [t]))[0 + ((k : Nat) : Int).toNat]? = some [.int .i64 t] := by
      rw [intsR (by simp [hpre])]
      simp [← hpre]
    (repeat' (first | exact rfl | ((conv => whnf); first | exact rfl | refine ⟨by kernel_rfl, ?_⟩ | exact ⟨rfl, rfl⟩ | refine ⟨rfl, ?_⟩ | refine ⟨by (first | omega | (simp (disch := omega) only [wrapI]; omega) | (simp (disch := omega) only [wrapI]; simp; omega) | (simp; omega)), ?_⟩ | (intro ep) | refine optS hm ?_ | refine ⟨_, ticks_spec e.v e.d e.t, ?_⟩ | (refine ifB (fun hb => ?_) (fun hb => ?_) <;> (try simp only [decide_eq_true_eq, decide_eq_false_iff_not, beq_iff_eq, beq_eq_false_iff_ne, bne_iff_ne, bne_eq_false_iff_eq, ne_eq, not_false_eq_true, not_true_eq_false, Bool.not_eq_true, Bool.not_eq_true', Bool.not_eq_false', Int.not_lt, Int.not_le] at hb) <;> (try simp (disch := omega) only [wrapI] at hb) <;> (try (exfalso; omega))) | (refine ⟨by exact rfl, by exact rfl, wk_of (okx [79] []) mixed (A := A36) ?_⟩) | refine wk_of (okx [79] []) mixed (A := A36) ?_ | refine optS hrd ?_ | fail)))
    all_goals (conv => whnf)
    · have e1 : frc f e = ticks e.v e.d e.t := by unfold frc; rw [if_pos (by omega)]
      rw [e1] at hs
      refine back_of ⟨(k + 1, ticks e.v e.d e.t, t + ticks e.v e.d e.t, pre ++ [t], ep), by simp only; omega, by simp [hpre], by simp only; omega, by simp only; omega, by simpa using hs⟩ ⟨by (first | exact rfl | (simp (disch := omega) only [wrapI]; exact rfl)), ?_, by simp only; omega⟩
      simp (disch := omega) only [wrapI]
      refine Eq.trans (b := ⟨[.vec e0 [pcV p], .vec ep ((ints (pre ++ [t])).take (k + 1) ++ [[.int .i64 (t + ticks e.v e.d e.t)]]), .vec e2 [[.oslc (.s 1) ep 1 0 (k + 1 + 1) false]], .hole, .hole, .hole], [.vec (ep0 0) [pcV p]]⟩) rfl ?_
      rw [ints_app (pre ++ [t]), List.take_of_length_le (by simp [ints, hpre])]
      rfl
    · have e1 : frc f e = f := by unfold frc; rw [if_neg (by omega)]
      rw [e1] at hs
      refine back_of ⟨(k + 1, f, t + f, pre ++ [t], ep), by simp only; omega, by simp [hpre], by simp only; omega, by simp only; omega, by simpa using hs⟩ ⟨by (first | exact rfl | (simp (disch := omega) only [wrapI]; exact rfl)), ?_, by simp only; omega⟩
      simp (disch := omega) only [wrapI]
      refine Eq.trans (b := ⟨[.vec e0 [pcV p], .vec ep ((ints (pre ++ [t])).take (k + 1) ++ [[.int .i64 (t + f)]]), .vec e2 [[.oslc (.s 1) ep 1 0 (k + 1 + 1) false]], .hole, .hole, .hole], [.vec (ep0 0) [pcV p]]⟩) rfl ?_
      rw [ints_app (pre ++ [t]), List.take_of_length_le (by simp [ints, hpre])]
      rfl
  · simp only [decide_eq_false_iff_not] at h1
    rw [List.drop_eq_nil_of_le (by omega)] at hs
    simp only [onsT, List.append_nil] at hs
    (repeat' (first | exact rfl | ((conv => whnf); first | exact rfl | refine ⟨by kernel_rfl, ?_⟩ | exact ⟨rfl, rfl⟩ | refine ⟨rfl, ?_⟩ | refine ⟨by (first | omega | (simp (disch := omega) only [wrapI]; omega) | (simp (disch := omega) only [wrapI]; simp; omega) | (simp; omega)), ?_⟩ | (intro ep) | (refine ifB (fun hb => ?_) (fun hb => ?_) <;> (try simp only [decide_eq_true_eq, decide_eq_false_iff_not, beq_iff_eq, beq_eq_false_iff_ne, bne_iff_ne, bne_eq_false_iff_eq, ne_eq, not_false_eq_true, not_true_eq_false, Bool.not_eq_true, Bool.not_eq_true', Bool.not_eq_false', Int.not_lt, Int.not_le] at hb) <;> (try simp (disch := omega) only [wrapI] at hb) <;> (try (exfalso; omega))) | fail)))
    refine ⟨pure_ints _, ?_⟩
    rw [← hs]
    refine ⟨by first | rfl | kernel_rfl, ?_⟩
    show AV.tup [.lslc 1 (ints (pre ++ [t])) 0 (k + 1) false, _] = .tup [.lslc 1 (ints (pre ++ [t])) 0 (pre ++ [t]).length false, _]
    rw [show (pre ++ [t]).length = k + 1 by simp [hpre]]

end Go.Ab.V

/-
  The program's check of itself at one example, works: it answers true. No condition.
-/
namespace Go.Ab.V
open Go.Proofs

def pcW : Pc := { ins := { cs := [⟨60, 2, false⟩], steps := [1, 2] }, evs := [⟨false, 3, false, false, false, [⟨1, 2, 0, 0, 1⟩]⟩, ⟨false, 4, false, false, true, []⟩] }

theorem pret_eq {P : Program} {f : FuncId} {args args' : List AV} {r : AV} (h : PRet P f args r) (e : args' = args) : PRet P f args' r := e ▸ h
def A28 : Ann := fun r => match r with
  | 2 => { slots := [(1, 0), (2, 1), (4, 2)] }
  | 3 => { slots := [(3, 3), (7, 4), (9, 5)], frz := [1000, 1001, 1003, 1004] }
  | _ => {}
def sg2 : AV := .lslc 3 [[.int .i64 3, .bool false, .bool false], [.int .i64 5, .bool false, .bool false]] 0 2 false
theorem sigV_w : sigV 120 = .tup [sg2, .int .i64 0] := by kernel_rfl
theorem onsV_w : onsV pcW = .tup [.lslc 1 [[.int .i64 0], [.int .i64 96], [.int .i64 144]] 0 3 false, .int .i64 0] := by kernel_rfl
theorem ok_w : pcW.Ok := ⟨by decide, by decide, by decide, by decide⟩
theorem signs_w : PRet C.P 29 [.int .i64 120] (.tup [sg2, .int .i64 0]) := by
  have h := signs_spec 120 (by omega)
  rwa [sigV_w] at h
def pcN : AV := .agg [crsA pcW.ins.cs, intsA pcW.ins.steps, .lslc 6 [evR ⟨false, 3, false, false, false, [⟨1, 2, 0, 0, 1⟩]⟩, [.bool false, .int .i64 4, .bool false, .bool false, .bool true, .nils]] 0 2 false]
theorem onsets_w : PRet C.P 36 [pcN] (.tup [.lslc 1 [[.int .i64 0], [.int .i64 96], [.int .i64 144]] 0 3 false, .int .i64 0]) := by
  have h := onsets_spec pcW ok_w
  rw [onsV_w] at h
  exact h.sub (.cons (.agg (.cons (.refl _) (.cons (.refl _) (.cons (.lslc (.cons (.refl _) (.cons (.cons (.refl _) (.cons (.refl _) (.cons (.refl _) (.cons (.refl _) (.cons (.refl _) (.cons .nils .nil)))))) .nil))) .nil)))) .nil)

set_option maxHeartbeats 2000000 in
set_option maxRecDepth 100000 in
theorem works_spec : PRet C.P 28 [] (.bool true) := by
  refine pret_of ok mixed (A := A28) 6 Try.func28 rfl ?_
  (repeat' (first | exact rfl | ((conv => whnf); first | exact rfl | refine ⟨by kernel_rfl, ?_⟩ | exact ⟨rfl, rfl⟩ | refine ⟨rfl, ?_⟩ | refine ⟨by (first | omega | (simp (disch := omega) only [wrapI]; omega) | (simp (disch := omega) only [wrapI]; simp; omega) | (simp; omega)), ?_⟩ | (intro ep) | refine ⟨pureRows_of (by kernel_rfl), by (repeat' (first | exact trivial | exact eqsP_rows _ (fun x => rfl) | ((conv => whnf); first | exact trivial | refine ⟨rfl, ?_⟩ | refine ⟨?_, ?_⟩ | fail))), by (repeat' (first | exact trivial | exact eqsP_rows _ (fun x => rfl) | ((conv => whnf); first | exact trivial | refine ⟨rfl, ?_⟩ | refine ⟨?_, ?_⟩ | fail))), by (repeat' (first | exact trivial | exact eqsP_rows _ (fun x => rfl) | ((conv => whnf); first | exact trivial | refine ⟨rfl, ?_⟩ | refine ⟨?_, ?_⟩ | fail))), ?_⟩ | refine ⟨_, signs_w, ?_⟩ | refine ⟨_, pret_eq onsets_w (by kernel_rfl), ?_⟩ | (refine ifB (fun hb => ?_) (fun hb => ?_) <;> (try simp only [decide_eq_true_eq, decide_eq_false_iff_not, beq_iff_eq, beq_eq_false_iff_ne, bne_iff_ne, bne_eq_false_iff_eq, ne_eq, not_false_eq_true, not_true_eq_false, Bool.not_eq_true, Bool.not_eq_true', Bool.not_eq_false', Int.not_lt, Int.not_le] at hb) <;> (try simp (disch := omega) only [wrapI] at hb) <;> (try (exfalso; omega))) | fail)))

end Go.Ab.V

/-
  SameSigns of a list with itself; the laws PieceTicks and PieceSigns are true at every input.
-/
namespace Go.Ab.V
open Go.Proofs

end Go.Ab.V
