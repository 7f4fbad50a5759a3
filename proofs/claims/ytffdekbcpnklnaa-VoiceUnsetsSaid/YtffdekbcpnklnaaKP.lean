/-
  What is proved here serves the law's text: each part says its own claim and its conditions. No condition is left open.
-/
import Derived.Test.YtffdekbcpnklnaaKO
import Derived.Test.YtffdekbcpnklnaaKM
set_option linter.unusedSimpArgs false
set_option linter.unusedVariables false

/-
  The law Unsets. No condition.
-/
namespace Go.Ab.V
open Go.Proofs

theorem uns_len : ∀ (l : List Wr) (acc : List Tn) (en fr : Int), acc.length ≤ 400 → (uns l acc en fr).1.length ≤ 400
  | [], acc, en, fr, h => h
  | w :: r, acc, en, fr, h => by
    unfold uns
    split
    · exact Nat.zero_le _
    split
    · exact Nat.zero_le _
    split
    · exact Nat.zero_le _
    split
    · exact Nat.zero_le _
    · rename_i hh
      refine uns_len r _ _ _ ?_
      split
      · rename_i hc
        have hn : ¬ acc.length = 400 := fun e => hh (.inr ⟨hc.1, hc.2, e⟩)
        simp only [List.length_append, List.length_cons, List.length_nil]; omega
      · exact h
theorem same_nil : PRet C.P 32 [.nils, .nils] (.bool true) := by
  refine pret_of ok mixed (A := A32) 0 Try.func32 rfl ?_
  (repeat ((conv => whnf); first | exact rfl | exact ⟨rfl, rfl⟩ | refine ⟨rfl, ?_⟩ | refine ⟨by decide, ?_⟩ | refine ⟨by kernel_rfl, ?_⟩ | (intro ep) | refine loopU ok mixed (A := fun _ => {}) 100 ?_))
def A8 : Ann := fun _ => {}
set_option maxHeartbeats 4000000 in
set_option maxRecDepth 100000 in
theorem law_unsets (l : List Wr) (hl : l.length ≤ 9223372036854775807) : ACalls C.P 8 [wrsA l] Heap.nil fun r _ => r = .bool true := by
  by_cases h : 10000 < l.length
  · refine fn_of ok mixed (A := A8) 0 Try.func8 rfl ?_
    (repeat' (first | exact rfl | ((conv => whnf); first | refine ⟨_, works_spec, ?_⟩ | exact rfl | refine ⟨by kernel_rfl, ?_⟩ | exact ⟨rfl, rfl⟩ | refine ⟨rfl, ?_⟩ | refine ⟨by (first | omega | (simp (disch := omega) only [wrapI]; omega) | (simp (disch := omega) only [wrapI]; simp; omega) | (simp; omega)), ?_⟩ | (intro ep) | (refine ifB (fun hb => ?_) (fun hb => ?_) <;> (try simp only [decide_eq_true_eq, decide_eq_false_iff_not, beq_iff_eq, beq_eq_false_iff_ne, bne_iff_ne, bne_eq_false_iff_eq, ne_eq, not_false_eq_true, not_true_eq_false, Bool.not_eq_true, Bool.not_eq_true', Bool.not_eq_false', Int.not_lt, Int.not_le] at hb) <;> (try simp (disch := omega) only [wrapI] at hb) <;> (try (exfalso; omega))) | fail)))
  have h1 := unset_spec l (by omega)
  have h2 := refUnset_spec l (by omega)
  have hL := uns_len l [] 0 0 (by simp)
  generalize uns l [] 0 0 = R at h1 h2 hL
  obtain ⟨x, n, e⟩ := R
  unfold unsV at h1 h2
  simp only at h1 h2 hL
  by_cases he : e = 0
  · rw [if_pos he] at h1 h2
    have h3 := same32 x (by omega)
    refine fn_of ok mixed (A := A8) 0 Try.func8 rfl ?_
    (repeat' (first | exact rfl | ((conv => whnf); first | refine ⟨_, h1, ?_⟩ | refine ⟨_, h2, ?_⟩ | refine ⟨_, h3, ?_⟩ | refine ⟨_, works_spec, ?_⟩ | exact rfl | refine ⟨by kernel_rfl, ?_⟩ | exact ⟨rfl, rfl⟩ | refine ⟨rfl, ?_⟩ | refine ⟨by (first | omega | (simp (disch := omega) only [wrapI]; omega) | (simp (disch := omega) only [wrapI]; simp; omega) | (simp; omega)), ?_⟩ | (intro ep) | (refine ifB (fun hb => ?_) (fun hb => ?_) <;> (try simp only [decide_eq_true_eq, decide_eq_false_iff_not, beq_iff_eq, beq_eq_false_iff_ne, bne_iff_ne, bne_eq_false_iff_eq, ne_eq, not_false_eq_true, not_true_eq_false, Bool.not_eq_true, Bool.not_eq_true', Bool.not_eq_false', Int.not_lt, Int.not_le] at hb) <;> (try simp (disch := omega) only [wrapI] at hb) <;> (try (exfalso; omega))) | fail)))
  · rw [if_neg he] at h1 h2
    refine fn_of ok mixed (A := A8) 0 Try.func8 rfl ?_
    (repeat' (first | exact rfl | ((conv => whnf); first | refine ⟨_, h1, ?_⟩ | refine ⟨_, h2, ?_⟩ | refine ⟨_, same_nil, ?_⟩ | refine ⟨_, works_spec, ?_⟩ | exact rfl | refine ⟨by kernel_rfl, ?_⟩ | exact ⟨rfl, rfl⟩ | refine ⟨rfl, ?_⟩ | refine ⟨by (first | omega | (simp (disch := omega) only [wrapI]; omega) | (simp (disch := omega) only [wrapI]; simp; omega) | (simp; omega)), ?_⟩ | (intro ep) | (refine ifB (fun hb => ?_) (fun hb => ?_) <;> (try simp only [decide_eq_true_eq, decide_eq_false_iff_not, beq_iff_eq, beq_eq_false_iff_ne, bne_iff_ne, bne_eq_false_iff_eq, ne_eq, not_false_eq_true, not_true_eq_false, Bool.not_eq_true, Bool.not_eq_true', Bool.not_eq_false', Int.not_lt, Int.not_le] at hb) <;> (try simp (disch := omega) only [wrapI] at hb) <;> (try (exfalso; omega))) | fail)))
end Go.Ab.V
