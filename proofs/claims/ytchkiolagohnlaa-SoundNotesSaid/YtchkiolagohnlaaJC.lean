/-
  What is proved here serves the law's text: each part says its own claim and its conditions. No condition is left open.
-/
import Derived.Test.YtchkiolagohnlaaJB
import Derived.Test.YtchkiolagohnlaaKV
import Derived.Test.YtchkiolagohnlaaKF
import Derived.Test.YtchkiolagohnlaaKQ
set_option linter.unusedSimpArgs false
set_option linter.unusedVariables false

/-
  The law of notes. No condition but the machine's sizes.
-/
namespace Go.Ab.V
open Go.Proofs

def A3 : Ann := fun r => match r with
  | 0 => { slots := [(0, 0)] }
  | _ => {}
set_option maxHeartbeats 4000000 in
set_option maxRecDepth 100000 in
theorem law_notes (p : Pc) (hp : p.Ok) : ACalls C.P 3 [pcA p] Heap.nil fun r _ => r = .bool true := by
  have hb0 := big_spec p hp
  cases hb : bigB p with
  | true =>
    rw [hb] at hb0
    refine fn_of ok mixed (A := A3) 1 Try.func3 rfl ?_
    (repeat' (first | exact rfl | ((conv => whnf); first | refine ⟨_, works_spec, ?_⟩ | refine ⟨_, hb0, ?_⟩ | exact rfl | exact ⟨rfl, rfl⟩ | refine ⟨(by kernel_rfl : drawOk _ _ _ _ = true), ?_⟩ | refine ⟨(by kernel_rfl : planOk _ _ _ _ = true), ?_⟩ | refine ⟨rfl, ?_⟩ | refine ⟨by (first | omega | (simp (disch := omega) only [wrapI]; omega) | (simp (disch := omega) only [wrapI]; simp; omega) | (simp; omega)), ?_⟩ | (intro ep) | (refine ifB (fun hb => ?_) (fun hb => ?_) <;> (try simp only [decide_eq_true_eq, decide_eq_false_iff_not, beq_iff_eq, beq_eq_false_iff_ne, bne_iff_ne, bne_eq_false_iff_eq, ne_eq, not_false_eq_true, not_true_eq_false, Bool.not_eq_true, Bool.not_eq_true', Bool.not_eq_false', Int.not_lt, Int.not_le] at hb) <;> (try simp (disch := omega) only [wrapI] at hb) <;> (try (exfalso; omega))) | fail)))
  | false =>
    have hs := Pc.Sm.of_big hb
    have hcp := copy_spec p hs
    rw [hb] at hb0
    have h1 := notes17 p hp
    have h2 := refNotes19 p hp hs
    have h3 := strings21 p hp
    have h4 := refStrings22 p hp hs
    unfold notesV at h1 h2
    unfold stringsV at h3 h4
    by_cases hc : chk p = 0
    · rw [if_pos hc] at h1 h2 h3 h4
      have hl := notes_len (vp hc)
      have s1 := sameNotes_self (notesL p) (by omega)
      have s2 := sameNotes_self (stringsL p) (by have := strL_len p.ins (notesL p); unfold stringsL; omega)
      generalize notesL p = N at h1 h2 s1
      generalize stringsL p = M at h3 h4 s2
      refine fn_of ok mixed (A := A3) 1 Try.func3 rfl ?_
      (repeat' (first | exact rfl | ((conv => whnf); first | refine ⟨_, works_spec, ?_⟩ | refine ⟨_, hb0, ?_⟩ | refine ⟨_, hcp, ?_⟩ | refine ⟨_, h1, ?_⟩ | refine ⟨_, h2, ?_⟩ | refine ⟨_, h3, ?_⟩ | refine ⟨_, h4, ?_⟩ | refine ⟨_, s1, ?_⟩ | refine ⟨_, s2, ?_⟩ | exact rfl | exact ⟨rfl, rfl⟩ | refine ⟨(by kernel_rfl : drawOk _ _ _ _ = true), ?_⟩ | refine ⟨(by kernel_rfl : planOk _ _ _ _ = true), ?_⟩ | refine ⟨rfl, ?_⟩ | refine ⟨by (first | omega | (simp (disch := omega) only [wrapI]; omega) | (simp (disch := omega) only [wrapI]; simp; omega) | (simp; omega)), ?_⟩ | (intro ep) | (refine ifB (fun hb => ?_) (fun hb => ?_) <;> (try simp only [decide_eq_true_eq, decide_eq_false_iff_not, beq_iff_eq, beq_eq_false_iff_ne, bne_iff_ne, bne_eq_false_iff_eq, ne_eq, not_false_eq_true, not_true_eq_false, Bool.not_eq_true, Bool.not_eq_true', Bool.not_eq_false', Int.not_lt, Int.not_le] at hb) <;> (try simp (disch := omega) only [wrapI] at hb) <;> (try (exfalso; omega))) | fail)))
    · rw [if_neg hc] at h1 h2 h3 h4
      have s1 := sameNotes_nil
      have s2 := True.intro
      generalize chk p = e at h1 h2 h3 h4
      refine fn_of ok mixed (A := A3) 1 Try.func3 rfl ?_
      (repeat' (first | exact rfl | ((conv => whnf); first | refine ⟨_, works_spec, ?_⟩ | refine ⟨_, hb0, ?_⟩ | refine ⟨_, hcp, ?_⟩ | refine ⟨_, h1, ?_⟩ | refine ⟨_, h2, ?_⟩ | refine ⟨_, h3, ?_⟩ | refine ⟨_, h4, ?_⟩ | refine ⟨_, s1, ?_⟩ | refine ⟨_, s2, ?_⟩ | exact rfl | exact ⟨rfl, rfl⟩ | refine ⟨(by kernel_rfl : drawOk _ _ _ _ = true), ?_⟩ | refine ⟨(by kernel_rfl : planOk _ _ _ _ = true), ?_⟩ | refine ⟨rfl, ?_⟩ | refine ⟨by (first | omega | (simp (disch := omega) only [wrapI]; omega) | (simp (disch := omega) only [wrapI]; simp; omega) | (simp; omega)), ?_⟩ | (intro ep) | (refine ifB (fun hb => ?_) (fun hb => ?_) <;> (try simp only [decide_eq_true_eq, decide_eq_false_iff_not, beq_iff_eq, beq_eq_false_iff_ne, bne_iff_ne, bne_eq_false_iff_eq, ne_eq, not_false_eq_true, not_true_eq_false, Bool.not_eq_true, Bool.not_eq_true', Bool.not_eq_false', Int.not_lt, Int.not_le] at hb) <;> (try simp (disch := omega) only [wrapI] at hb) <;> (try (exfalso; omega))) | fail)))
end Go.Ab.V
