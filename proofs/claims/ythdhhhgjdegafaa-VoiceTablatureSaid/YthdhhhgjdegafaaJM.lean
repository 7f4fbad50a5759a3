/-
  What is proved here serves the law's text: each part says its own claim and its conditions. No condition is left open.
-/
import Derived.Test.YthdhhhgjdegafaaJI
import Derived.Test.YthdhhhgjdegafaaJL
set_option linter.unusedSimpArgs false
set_option linter.unusedVariables false

namespace Go.Ab
section
variable {fr : List AV} {K : List AV → Heap → Prop}
end
@[irreducible] def TRB (fr : List AV) (h : Heap) (K : List AV → Heap → Prop) : Prop := TR fr h K
theorem trb_of {fr : List AV} {h : Heap} {K : List AV → Heap → Prop} (k : TR fr h K) : TRB fr h K := by unfold TRB; exact k
theorem TR.mono {fr : List AV} {h : Heap} {K K' : List AV → Heap → Prop} (k : TR fr h K) (hk : ∀ f h, K f h → K' f h) : TR fr h K' := by
 intro σ w vs hf s
 obtain ⟨σ2, fr2, h2, k2, m2, r2⟩ := k σ w vs hf s
 exact ⟨σ2, fr2, h2, hk _ _ k2, m2, r2⟩
end Go.Ab
