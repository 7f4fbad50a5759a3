/-
  What is proved here serves the law's text: each part says its own claim and its conditions. No condition is left open.
-/
import Derived.Test.YtchkiolagohnlaaKW
import Derived.Test.YtchkiolagohnlaaKU
import Derived.Test.YtchkiolagohnlaaKN
import Derived.Test.YtchkiolagohnlaaKQ
set_option linter.unusedSimpArgs false
set_option linter.unusedVariables false

/-
  The law of concords. No condition but the length and that the numbers are ints.
-/
namespace Go.Ab.V
open Go.Proofs

def A5 : Ann := fun r => match r with
  | 3 => { slots := [(0, 0), (2, 1)] }
  | _ => {}
set_option maxHeartbeats 4000000 in
set_option maxRecDepth 100000 in
theorem law_concords (l : List Int) (hl : l.length ≤ 9223372036854775807) (hb : ∀ x ∈ l, -9223372036854775808 ≤ x ∧ x ≤ 9223372036854775807) : ACalls C.P 5 [intsA l] Heap.nil fun r _ => r = .bool true := by
  by_cases c1 : 200 < l.length
  · refine fn_of (okx [] [27]) mixed (A := A5) 2 Try.func5 rfl ?_
    (repeat' (first | exact rfl | ((conv => whnf); first | refine ⟨_, works_spec, ?_⟩ | exact rfl | exact ⟨rfl, rfl⟩ | refine ⟨(by kernel_rfl : drawOk _ _ _ _ = true), ?_⟩ | refine ⟨(by kernel_rfl : planOk _ _ _ _ = true), ?_⟩ | refine ⟨rfl, ?_⟩ | refine ⟨by (first | omega | (simp (disch := omega) only [wrapI]; omega) | (simp (disch := omega) only [wrapI]; simp; omega) | (simp; omega)), ?_⟩ | (intro ep) | (refine ifB (fun hb => ?_) (fun hb => ?_) <;> (try simp only [decide_eq_true_eq, decide_eq_false_iff_not, beq_iff_eq, beq_eq_false_iff_ne, bne_iff_ne, bne_eq_false_iff_eq, ne_eq, not_false_eq_true, not_true_eq_false, Bool.not_eq_true, Bool.not_eq_true', Bool.not_eq_false', Int.not_lt, Int.not_le] at hb) <;> (try simp (disch := omega) only [wrapI] at hb) <;> (try (exfalso; omega))) | fail)))
  have h1 := conc27 l (by omega) hb
  have h2 := refConc28 l (by omega) hb
  generalize rc l = b at h1 h2
  refine fn_of (okx [] [27]) mixed (A := A5) 2 Try.func5 rfl ?_
  (repeat' (first | exact rfl | ((conv => whnf); first | refine ⟨_, h2, ?_⟩ | exact rfl | exact ⟨rfl, rfl⟩ | refine ⟨(by kernel_rfl : drawOk _ _ _ _ = true), ?_⟩ | refine ⟨(by kernel_rfl : planOk _ _ _ _ = true), ?_⟩ | refine ⟨rfl, ?_⟩ | refine ⟨by (first | omega | (simp (disch := omega) only [wrapI]; omega) | (simp (disch := omega) only [wrapI]; simp; omega) | (simp; omega)), ?_⟩ | (intro ep) | (refine ifB (fun hb => ?_) (fun hb => ?_) <;> (try simp only [decide_eq_true_eq, decide_eq_false_iff_not, beq_iff_eq, beq_eq_false_iff_ne, bne_iff_ne, bne_eq_false_iff_eq, ne_eq, not_false_eq_true, not_true_eq_false, Bool.not_eq_true, Bool.not_eq_true', Bool.not_eq_false', Int.not_lt, Int.not_le] at hb) <;> (try simp (disch := omega) only [wrapI] at hb) <;> (try (exfalso; omega))) | fail)))
  all_goals (conv => whnf)
  refine ACalls.fz 0 ?_
  (conv => whnf)
  have e0 : (ints l).length = l.length := by simp [ints]
  refine ⟨?_, by (repeat' (first | exact trivial | exact eqsP_rows _ (fun x => rfl) | ((conv => whnf); first | exact trivial | refine ⟨rfl, ?_⟩ | refine ⟨?_, ?_⟩ | fail))), by (repeat' (first | exact trivial | exact eqsP_rows _ (fun x => rfl) | ((conv => whnf); first | exact trivial | refine ⟨rfl, ?_⟩ | refine ⟨?_, ?_⟩ | fail))), by (repeat' (first | exact trivial | exact eqsP_rows _ (fun x => rfl) | ((conv => whnf); first | exact trivial | refine ⟨rfl, ?_⟩ | refine ⟨?_, ?_⟩ | fail))), ?_⟩
  · rw [List.take_zero, List.nil_append, List.drop_zero, List.take_of_length_le (by omega)]
    exact Go.Ab.pure_map (f := fun x : Int => [AV.int .i64 x]) l fun x => rfl
  have e1 : List.take l.length (List.drop 0 (ints l)) = ints l := by rw [List.drop_zero, List.take_of_length_le (by omega)]
  refine PRet.calls (pret_eq h1 ?_) ?_
  · show [AV.lslc 1 (List.take 0 _ ++ List.take l.length (List.drop 0 (ints l))) 0 (0 + (List.take l.length (List.drop 0 (ints l))).length) false] = [intsA l]
    rw [List.take_zero, List.nil_append, e1, Nat.zero_add, e0]
    rfl
  (repeat' (first | exact rfl | ((conv => whnf); first | refine ⟨_, works_spec, ?_⟩ | refine ⟨_, h2, ?_⟩ | exact rfl | exact ⟨rfl, rfl⟩ | refine ⟨(by kernel_rfl : drawOk _ _ _ _ = true), ?_⟩ | refine ⟨(by kernel_rfl : planOk _ _ _ _ = true), ?_⟩ | refine ⟨rfl, ?_⟩ | refine ⟨by (first | omega | (simp (disch := omega) only [wrapI]; omega) | (simp (disch := omega) only [wrapI]; simp; omega) | (simp; omega)), ?_⟩ | (intro ep) | (refine ifB (fun hb => ?_) (fun hb => ?_) <;> (try simp only [decide_eq_true_eq, decide_eq_false_iff_not, beq_iff_eq, beq_eq_false_iff_ne, bne_iff_ne, bne_eq_false_iff_eq, ne_eq, not_false_eq_true, not_true_eq_false, Bool.not_eq_true, Bool.not_eq_true', Bool.not_eq_false', Int.not_lt, Int.not_le] at hb) <;> (try simp (disch := omega) only [wrapI] at hb) <;> (try (exfalso; omega))) | fail)))
end Go.Ab.V
