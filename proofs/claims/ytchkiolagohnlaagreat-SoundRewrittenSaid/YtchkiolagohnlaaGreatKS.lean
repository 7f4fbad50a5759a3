/-
  What is proved here serves the law's text: each part says its own claim and its conditions. No condition is left open.
-/
import Derived.Test.YtchkiolagohnlaaGreatKG
import Derived.Test.YtchkiolagohnlaaGreatKQ
import Derived.Test.YtchkiolagohnlaaGreatKR
set_option linter.unusedSimpArgs false
set_option linter.unusedVariables false

/-
  A function whose code is shown piece by piece. No condition.
-/
namespace Go.Ab

theorem wk_aex {C : Ctx} (ok : COk C) (hm : C.P.follows .mixedOrders = true) {A : Ann} {c : Code} {fr : List AV} {h : Heap} {K : AE → List AV → Heap → Prop} (hk : forceR fr fun fr => forceHR h fun h => aexR C A c fr h K) : WK C c fr h K := by
  rw [forceR_eq, forceHR_eq, aexR_eq] at hk
  exact aexec_sound ok hm hk
theorem wk_grow0 {C : Ctx} {c : Code} {fr : List AV} {K : AE → List AV → Heap → Prop} (n : Nat) (k : WK C c fr (heap0 Heap.nil n) K) : WK C c fr Heap.nil K := by
  refine ⟨fun rd B σ w a Q hrd hy hB s hf hd hQ => ?_⟩
  have m : Mv σ Heap.nil w σ (heap0 Heap.nil n) w := s.forget fun i o x => by
    cases i with
    | s k =>
      have x : (heap0 Heap.nil n).st[k]? = some o := x
      left
      simp only [heap0, Heap.nil, List.nil_append] at x
      rw [List.getElem?_replicate] at x
      split at x
      · exact (Option.some.inj x).symm
      · cases x
    | d k => right; exact x
  exact k.use rd B σ w a Q hrd hy hB m.sim hf hd fun e fr' h' σ' a' w' k2 m2 => hQ e fr' h' σ' a' w' k2 (m.trans m2)
/-- a pure function, shown piece by piece -/
theorem pret_wk {C : Ctx} (ok : COk C) {f : FuncId} {fn : Func} {c : Code} (n : Nat) (hf : C.P.funcs[f]? = some fn) (hb : fn.body = some c) {args : List AV} {r : AV}
    (hk : WK C c (frame0 args fn.ntmps) (heap0 Heap.nil n) fun e fr h' => match e with
      | .normal | .ret => resK C.ti fr h' fn.results.toList fun vs => frzK h' (resV vs) fun r' _ => r'.isPure2 = true ∧ r' = r
      | .exit _ => False) (hy : C.yl = none := by rfl) : PRet C.P f args r :=
  ⟨⟨acalls_wk ok hf hb hy (wk_grow0 n hk)⟩⟩
end Go.Ab
