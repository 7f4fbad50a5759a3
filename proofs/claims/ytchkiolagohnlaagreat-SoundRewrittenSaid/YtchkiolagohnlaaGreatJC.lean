/-
  What is proved here serves the law's text: each part says its own claim and its conditions. No condition is left open.
-/
import Derived.Test.YtchkiolagohnlaaGreatJB
set_option linter.unusedSimpArgs false
set_option linter.unusedVariables false

/-
  Notes: the program's and the document's. The pieces are of the sizes that a statement looks at.
-/
namespace Go.Ab.V
open Go.Proofs

def notesV (p : Pc) : AV := if chk p = 0 then .tup [ntsA (notesL p), .int .i64 0] else .tup [.nils, .int .i64 (chk p)]
def A17 : Ann := fun r => match r with
  | 0 => { slots := [(0, 0)] }
  | 1 => { slots := [(5, 1)] }
  | _ => {}
set_option maxRecDepth 100000 in
theorem notes17 (p : Pc) (hp : p.Ok) : PRet C.P 17 [pcA p] (notesV p) := by
  unfold notesV
  by_cases hc : chk p = 0
  · rw [if_pos hc]
    have h1 := listen_ok p hp hc
    have h2 := notes51 p (vp hc)
    generalize notesL p = N at h2
    refine pret_of ok mixed (A := A17) 2 Tryz.func17 rfl ?_
    (repeat' (first | exact rfl | ((conv => whnf); first | refine ⟨_, h1, ?_⟩ | refine ⟨_, h2, ?_⟩ | exact rfl | exact ⟨rfl, rfl⟩ | refine ⟨(by kernel_rfl : drawOk _ _ _ _ = true), ?_⟩ | refine ⟨(by kernel_rfl : planOk _ _ _ _ = true), ?_⟩ | refine ⟨rfl, ?_⟩ | refine ⟨by (first | omega | (simp (disch := omega) only [wrapI]; omega) | (simp (disch := omega) only [wrapI]; simp; omega) | (simp; omega)), ?_⟩ | (intro ep) | (refine ifB (fun hb => ?_) (fun hb => ?_) <;> (try simp only [decide_eq_true_eq, decide_eq_false_iff_not, beq_iff_eq, beq_eq_false_iff_ne, bne_iff_ne, bne_eq_false_iff_eq, ne_eq, not_false_eq_true, not_true_eq_false, Bool.not_eq_true, Bool.not_eq_true', Bool.not_eq_false', Int.not_lt, Int.not_le] at hb) <;> (try simp (disch := omega) only [wrapI] at hb) <;> (try (exfalso; omega))) | fail)))
  · rw [if_neg hc]
    have h1 := listen_bad p hp hc
    generalize chk p = e at h1 hc
    refine pret_of ok mixed (A := A17) 2 Tryz.func17 rfl ?_
    (repeat' (first | exact rfl | ((conv => whnf); first | refine ⟨_, h1, ?_⟩ | exact rfl | exact ⟨rfl, rfl⟩ | refine ⟨(by kernel_rfl : drawOk _ _ _ _ = true), ?_⟩ | refine ⟨(by kernel_rfl : planOk _ _ _ _ = true), ?_⟩ | refine ⟨rfl, ?_⟩ | refine ⟨by (first | omega | (simp (disch := omega) only [wrapI]; omega) | (simp (disch := omega) only [wrapI]; simp; omega) | (simp; omega)), ?_⟩ | (intro ep) | (refine ifB (fun hb => ?_) (fun hb => ?_) <;> (try simp only [decide_eq_true_eq, decide_eq_false_iff_not, beq_iff_eq, beq_eq_false_iff_ne, bne_iff_ne, bne_eq_false_iff_eq, ne_eq, not_false_eq_true, not_true_eq_false, Bool.not_eq_true, Bool.not_eq_true', Bool.not_eq_false', Int.not_lt, Int.not_le] at hb) <;> (try simp (disch := omega) only [wrapI] at hb) <;> (try (exfalso; omega))) | fail)))
theorem newL_drop {α : Type} (g : Nat → Stp → α) {l : List Evt} {k : Nat} (h : k < l.length) : newL g k (l.drop k) = l[k].stops.map (g k) ++ newL g (k + 1) (l.drop (k + 1)) := by
  rw [List.drop_eq_getElem_cons h, newL]
end Go.Ab.V

/-
  Strings: the program's and the document's; SameNotes of a list with itself. The pieces are of the sizes that a statement looks at.
-/
namespace Go.Ab.V
open Go.Proofs

theorem newL_len {α : Type} {g : Nat → Stp → α} : ∀ {l : List Evt} {k : Nat}, (∀ e ∈ l, e.stops.length ≤ 14) → (newL g k l).length ≤ 14 * l.length
  | [], k, h => by simp [newL]
  | e :: r, k, h => by
    rw [newL, List.length_append, List.length_map, List.length_cons]
    have h1 := h e (by simp)
    have h2 := newL_len (g := g) (l := r) (k := k + 1) (fun x hx => h x (List.mem_cons_of_mem _ hx))
    omega
theorem notes_len {p : Pc} (v : Vp p) : (notesL p).length ≤ 5600 := by
  have h1 := newL_len (g := noteOf p) (l := p.evs) (k := 0) (fun e he => by
    obtain ⟨k, hk, rfl⟩ := List.getElem_of_mem he
    exact v.sl k hk)
  have h2 := v.len
  have h3 : notesL p = newL (noteOf p) 0 p.evs := rfl
  rw [h3]
  omega
end Go.Ab.V
