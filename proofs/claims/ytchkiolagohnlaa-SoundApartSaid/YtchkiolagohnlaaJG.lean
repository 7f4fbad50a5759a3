/-
  What is proved here serves the law's text: each part says its own claim and its conditions. No condition is left open.
-/
import Derived.Test.YtchkiolagohnlaaKQ
import Derived.Test.YtchkiolagohnlaaJF
set_option linter.unusedSimpArgs false
set_option linter.unusedVariables false

/-
  What was made anew is frozen, and stands for less. No condition.
-/
namespace Go.Ab

theorem Sub.tup {l m : List AV} (h : SubL l m) : Sub (.tup l) (.tup m) := ⟨fun σ v hv => by
  cases hv with
  | @tup _ _ vs len w =>
    refine .tup (by rw [← h.get.1]; exact len) fun i c u x y => ?_
    obtain ⟨a, ha, s⟩ := h.get.2 i c x
    exact s.use _ _ (w i a u ha y)⟩
theorem psubD_of {C : Ctx} (ok : COk C) (hm : C.P.follows .mixedOrders = true) {A : Ann} {f : FuncId} {fn : Func} {c : Code} (n : Nat) (hf : C.P.funcs[f]? = some fn) (hb : fn.body = some c) {args : List AV} {r : AV} (hp : r.isPure2 = true)
    (hk : forceR (frame0 args fn.ntmps) fun fr => forceHR (heap0 Heap.nil n) fun h => aexR C A c fr h fun e fr h' => match e with
      | .normal => resR C.ti fn.results.toList fr h' fun vs => retV vs fun v => frzD h' v fun v h' => frzK h' v fun r' _ => r'.isPure2 = true ∧ Sub r' r
      | .ret => resR C.ti fn.results.toList fr h' fun vs => retV vs fun v => frzD h' v fun v h' => frzK h' v fun r' _ => r'.isPure2 = true ∧ Sub r' r
      | .exit _ => False) (hy : C.yl = none := by rfl) : PRet C.P f args r := by
  refine PCalls.sub ⟨⟨fun σ w vs s hv => ?_⟩⟩ hp
  refine ((fn_of ok hm n hf hb hk hy).use σ w vs s hv).mono ?_
  rintro e w' ⟨v, rfl, σ1, h1, r1, k, m, x⟩
  obtain ⟨σ2, h2, r2, m2, x2, k2⟩ := frzD_sound m.sim x k
  exact ⟨v, rfl, σ2, h2, r2, k2, m.trans m2, x2⟩
/-- the first elements of a list of rows, as a list of its own -/
theorem sub_pre {sz n : Nat} {l m : List (List AV)} (hl : l.length = n) : Sub (.lslc sz (l ++ m) 0 n false) (.lslc sz l 0 n false) := by
  have := Sub.part (sz := sz) (off := 0) (len := n) (rows := l ++ m) (by rw [List.length_append]; omega)
  rwa [List.drop_zero, List.take_left' hl] at this
end Go.Ab
