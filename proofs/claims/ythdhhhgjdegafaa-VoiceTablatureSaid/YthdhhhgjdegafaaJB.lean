/-
  What is proved here serves the law's text: each part says its own claim and its conditions. No condition is left open.
-/
import Derived.Test.YthdhhhgjdegafaaKY
import Derived.Test.YthdhhhgjdegafaaJA
set_option linter.unusedSimpArgs false
set_option linter.unusedVariables false

namespace Go.Ab
theorem run_copy_to {P : Program} {argTypes : Array TypeId} {t e : Nat} {d : TD} (w : World) (h0 : argTypes[0]? = some t) (hu : P.underlying t = some (.slice e)) (hd : DOk P e d) {blk : Nat} {T : TypeId} {cells : Array Value} (hw : w.heap[blk]? = some (.cells cells T (0, 0)))
  {o dlen slen m : Nat} {a : Addr} {vs : List Value} (hm : m = Nat.min slen dlen) (hvl : vs.length = m * d.size) (hsrc : ∀ (j : Nat) (v : Value), vs[j]? = some v → w.cell? (a.add j) = some v) (hroom : o + vs.length ≤ cells.size) (h1 : ∀ v ∈ vs, v.oneCell' = true) :
  ∃ w', (∀ ty dcap scap, (Builtin.copy_ argTypes ty #[.slice (some ⟨blk, o, none⟩) dlen dcap, .slice (some a) slen scap]).run P w = .ok (goInt m) w') ∧ SameOut w w' ∧ w'.heap.size = w.heap.size ∧ (∀ b, b ≠ blk → w'.heap[b]? = w.heap[b]?) ∧ w'.heap[blk]? = some (.cells (over o vs cells) T (0, 0)) := by
 obtain ⟨w', r1, r2, r3, r4, r5⟩ := run_storeCells' (P := P) blk T vs 0 o cells w hw (by omega) h1
 refine ⟨w', fun ty dcap scap => ?_, r2, r3, r4, by simpa using r5⟩
 have hfirst : (Builtin.firstCells d.size m (.slice (some a) slen scap)).run P w = .ok vs.toArray w := run_firstCells_some _ _ _ a _ _ _ hvl hsrc
 simp only [hm] at hfirst
 simp [Builtin.copy_, h0, run_und hu, hd.run_sizeOf, Builtin.lenOf, hfirst, goInt, r1, hm]
end Go.Ab
