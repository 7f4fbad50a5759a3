/-
  What is proved here serves the law's text: each part says its own claim and its conditions. No condition is left open.
-/
import Derived.Test.YtchkiolagohnlaaGreatJH
set_option linter.unusedSimpArgs false
set_option linter.unusedVariables false

/-
  The signs in descending order. No condition.
-/
namespace Go.Ab.V
open Go.Proofs

set_option maxRecDepth 100000 in
theorem len64_21 : PRet C.P 69 [.int .u64 21] (.int .i64 5) := by
  refine pret_of ok mixed (A := fun _ => {}) 0 Tryz.func69 rfl ?_
  (repeat ((conv => whnf); first | exact rfl | exact ⟨rfl, rfl⟩ | refine ⟨rfl, ?_⟩ | refine ⟨by decide, ?_⟩ | refine ⟨by kernel_rfl, ?_⟩ | (intro ep)))

theorem len_21 : PRet C.P 44 [.int .u64 21] (.int .i64 5) := by
  refine pret_of ok mixed (A := fun _ => {}) 0 Tryz.func44 rfl ?_
  (repeat ((conv => whnf); first | exact rfl | exact ⟨rfl, rfl⟩ | refine ⟨rfl, ?_⟩ | refine ⟨by decide, ?_⟩ | refine ⟨by kernel_rfl, ?_⟩ | (intro ep)))
  conv => whnf
  refine ⟨_, len64_21, ?_⟩
  (repeat ((conv => whnf); first | exact rfl | exact ⟨rfl, rfl⟩ | refine ⟨rfl, ?_⟩ | refine ⟨by decide, ?_⟩ | refine ⟨by kernel_rfl, ?_⟩ | (intro ep)))

def A77 : Ann := fun r => match r with
  | 0 => { slots := [(0, 0), (1, 1)] }
  | _ => {}

theorem cmp_spec (v : Int) (d t : Bool) (v' : Int) (d' t' : Bool) : PRet C.P 77 [sg v d t, sg v' d' t'] (.int .i64 (IntKind.i64.wrap (ticks v' d' t' - ticks v d t))) := by
  refine pret_of ok mixed (A := A77) 2 Tryz.func77 rfl ?_
  (repeat ((conv => whnf); first | exact rfl | exact ⟨rfl, rfl⟩ | refine ⟨rfl, ?_⟩ | refine ⟨by decide, ?_⟩ | refine ⟨by kernel_rfl, ?_⟩ | (intro ep)))
  conv => whnf
  refine ⟨_, ticks_spec v' d' t', ?_⟩
  (repeat ((conv => whnf); first | exact rfl | exact ⟨rfl, rfl⟩ | refine ⟨rfl, ?_⟩ | refine ⟨by decide, ?_⟩ | refine ⟨by kernel_rfl, ?_⟩ | (intro ep)))
  conv => whnf
  refine ⟨_, ticks_spec v d t, ?_⟩
  (repeat ((conv => whnf); first | exact rfl | exact ⟨rfl, rfl⟩ | refine ⟨rfl, ?_⟩ | refine ⟨by decide, ?_⟩ | refine ⟨by kernel_rfl, ?_⟩ | (intro ep)))

end Go.Ab.V

/-
  All signs, sorted. No condition.
-/
namespace Go.Ab.V
open Go.Proofs

def A51 : Ann := fun r => match r with
  | 5 => { slots := [(7, 0), (8, 1)] }
  | _ => {}
def A106 : Ann := fun r => match r with
  | 2 => { slots := [(0, 2)] }
  | _ => {}

def allRows : List (List AV) := [[.int .i64 1, .bool true, .bool false],
  [.int .i64 1, .bool false, .bool false],
  [.int .i64 2, .bool true, .bool false],
  [.int .i64 1, .bool false, .bool true],
  [.int .i64 2, .bool false, .bool false],
  [.int .i64 3, .bool true, .bool false],
  [.int .i64 2, .bool false, .bool true],
  [.int .i64 3, .bool false, .bool false],
  [.int .i64 4, .bool true, .bool false],
  [.int .i64 3, .bool false, .bool true],
  [.int .i64 4, .bool false, .bool false],
  [.int .i64 5, .bool true, .bool false],
  [.int .i64 4, .bool false, .bool true],
  [.int .i64 5, .bool false, .bool false],
  [.int .i64 6, .bool true, .bool false],
  [.int .i64 5, .bool false, .bool true],
  [.int .i64 6, .bool false, .bool false],
  [.int .i64 7, .bool true, .bool false],
  [.int .i64 6, .bool false, .bool true],
  [.int .i64 7, .bool false, .bool false],
  [.int .i64 7, .bool false, .bool true]]

set_option maxRecDepth 100000 in
set_option maxHeartbeats 4000000 in
theorem all_spec : PRet C.P 51 [] (.lslc 3 allRows 0 21 false) := by
  refine pret_of ok mixed (A := A51) 2 Tryz.func51 rfl ?_
  (conv => whnf)
  refine loopU ok mixed (A := A51) 100 ?_
  (repeat ((conv => whnf); first | exact rfl | exact ⟨rfl, rfl⟩ | refine ⟨rfl, ?_⟩ | refine ⟨by decide, ?_⟩ | refine ⟨_, cmp_spec _ _ _ _ _ _, ?_⟩ | refine ⟨_, len_21, ?_⟩ | (intro ep) | refine loopU ok mixed (A := fun _ => {}) 100 ?_ | refine fn_of ok mixed (A := fun _ => {}) 0 Tryz.func76 rfl ?_ | refine fn_of ok mixed (A := fun _ => {}) 0 Tryz.func96 rfl ?_ | refine fn_of ok mixed (A := A106) 1 Tryz.func106 rfl ?_ | refine fn_of ok mixed (A := fun _ => {}) 0 Tryz.func116 rfl ?_ | refine fn_of ok mixed (A := fun _ => {}) 0 Tryz.func115 rfl ?_ | refine fn_of ok mixed (A := fun _ => {}) 0 Tryz.func118 rfl ?_ | refine fn_of ok mixed (A := fun _ => {}) 0 Tryz.func103 rfl ?_ | refine fn_of ok mixed (A := fun _ => {}) 0 Tryz.func107 rfl ?_ | refine fn_of ok mixed (A := fun _ => {}) 0 Tryz.func108 rfl ?_ | refine fn_of ok mixed (A := fun _ => {}) 0 Tryz.func109 rfl ?_ | refine fn_of ok mixed (A := fun _ => {}) 0 Tryz.func110 rfl ?_ | refine ⟨by kernel_rfl, ?_⟩))
  refine ⟨pureRows_of (by kernel_rfl), ?_⟩
  (conv => whnf)
  exact ⟨rfl, by kernel_rfl⟩

end Go.Ab.V
