/-
  What is proved here serves the law's text: each part says its own claim and its conditions. No condition is left open.
-/
import Derived.Test.YtffdekbcpnklnaaKU
import Derived.Test.YtffdekbcpnklnaaKM
set_option linter.unusedSimpArgs false
set_option linter.unusedVariables false

/-
  The law Parts. No condition but the lengths.
-/
namespace Go.Ab.V
open Go.Proofs

def A25 : Ann := fun _ => {}
set_option maxHeartbeats 4000000 in
set_option maxRecDepth 100000 in
theorem same25 (P : List (List Tn)) (hl : P.length ≤ 9223372036854775806) (hp : ∀ p ∈ P, p.length ≤ 9223372036854775806) : PRet C.P 25 [prtsA P, prtsA P] (.bool true) := by
  refine pret_of ok mixed (A := A25) 0 Try.func25 rfl ?_
  (repeat' (first | exact rfl | ((conv => whnf); first | exact rfl | exact ⟨rfl, rfl⟩ | refine ⟨(by kernel_rfl : drawOk _ _ _ _ = true), ?_⟩ | refine ⟨(by kernel_rfl : planOk _ _ _ _ = true), ?_⟩ | refine ⟨rfl, ?_⟩ | refine ⟨by (first | omega | (simp (disch := omega) only [wrapI]; omega) | (simp (disch := omega) only [wrapI]; simp; omega) | (simp; omega)), ?_⟩ | (intro ep) | (refine ifB (fun hb => ?_) (fun hb => ?_) <;> (try simp only [decide_eq_true_eq, decide_eq_false_iff_not, beq_iff_eq, beq_eq_false_iff_ne, bne_iff_ne, bne_eq_false_iff_eq, ne_eq, not_false_eq_true, not_true_eq_false, Bool.not_eq_true, Bool.not_eq_true', Bool.not_eq_false', Int.not_lt, Int.not_le] at hb) <;> (try simp (disch := omega) only [wrapI] at hb) <;> (try (exfalso; omega))) | fail)))
  all_goals (conv => whnf)
  refine loopX ok mixed (A := A25) [0, 1, 5] [] (S := { k : Nat // k ≤ P.length })
    (fr := fun s => frOf 0 27 [(0, prtsA P), (1, prtsA P), (5, .int .i64 (s.1 : Int))])
    (h := fun s => ⟨[], []⟩) (μ := fun s => P.length - s.1) ⟨0, by omega⟩ ?_ ?_
    [] [] (S' := Unit) (X := fun _ => 0) (frX := fun s => frOf 0 27 []) (hX := fun s => ⟨[], []⟩) (R := fun _ _ => False) ?_ (fun _ _ h => h.elim) ?_
  · exact rfl
  · exact rfl
  · rintro ⟨k, hk⟩
    show aexR _ _ _ (frOf 0 27 [(0, prtsA P), (1, prtsA P), (5, .int .i64 (k : Int))]) ⟨[], []⟩ _
    (conv => whnf)
    refine ifB (fun g1 => ?_) (fun g1 => ?_)
    · simp only [decide_eq_true_eq] at g1
      have h1 : k < P.length := by omega
      have hm := mapR (f := fun p => [tnsA p]) h1
      have hs := same32 P[k] (hp _ (List.getElem_mem h1))
      generalize P[k] = p at hm hs
      (repeat' (first | exact rfl | ((conv => whnf); first | refine optS hm ?_ | refine ⟨_, hs, ?_⟩ | exact rfl | exact ⟨rfl, rfl⟩ | refine ⟨(by kernel_rfl : drawOk _ _ _ _ = true), ?_⟩ | refine ⟨(by kernel_rfl : planOk _ _ _ _ = true), ?_⟩ | refine ⟨rfl, ?_⟩ | refine ⟨by (first | omega | (simp (disch := omega) only [wrapI]; omega) | (simp (disch := omega) only [wrapI]; simp; omega) | (simp; omega)), ?_⟩ | (intro ep) | (refine ifB (fun hb => ?_) (fun hb => ?_) <;> (try simp only [decide_eq_true_eq, decide_eq_false_iff_not, beq_iff_eq, beq_eq_false_iff_ne, bne_iff_ne, bne_eq_false_iff_eq, ne_eq, not_false_eq_true, not_true_eq_false, Bool.not_eq_true, Bool.not_eq_true', Bool.not_eq_false', Int.not_lt, Int.not_le] at hb) <;> (try simp (disch := omega) only [wrapI] at hb) <;> (try (exfalso; omega))) | fail)))
      all_goals (conv => whnf)
      exact back_of ⟨k + 1, by omega⟩ ⟨by (first | exact rfl | (simp (disch := omega) only [wrapI]; exact rfl)), rfl, by simp only; omega⟩
    · (repeat' (first | exact rfl | ((conv => whnf); first | exact rfl | exact ⟨rfl, rfl⟩ | refine ⟨(by kernel_rfl : drawOk _ _ _ _ = true), ?_⟩ | refine ⟨(by kernel_rfl : planOk _ _ _ _ = true), ?_⟩ | refine ⟨rfl, ?_⟩ | refine ⟨by (first | omega | (simp (disch := omega) only [wrapI]; omega) | (simp (disch := omega) only [wrapI]; simp; omega) | (simp; omega)), ?_⟩ | (intro ep) | fail)))
      all_goals (conv => whnf)
      exact back_of () ⟨rfl, rfl, rfl⟩
  · rintro ⟨⟩
    (repeat' (first | exact rfl | ((conv => whnf); first | exact rfl | exact ⟨rfl, rfl⟩ | refine ⟨(by kernel_rfl : drawOk _ _ _ _ = true), ?_⟩ | refine ⟨(by kernel_rfl : planOk _ _ _ _ = true), ?_⟩ | refine ⟨rfl, ?_⟩ | refine ⟨by (first | omega | (simp (disch := omega) only [wrapI]; omega) | (simp (disch := omega) only [wrapI]; simp; omega) | (simp; omega)), ?_⟩ | (intro ep) | fail)))
set_option maxHeartbeats 4000000 in
theorem same25_nil : PRet C.P 25 [.nils, .nils] (.bool true) := by
  refine pret_of ok mixed (A := A25) 0 Try.func25 rfl ?_
  (repeat ((conv => whnf); first | exact rfl | exact ⟨rfl, rfl⟩ | refine ⟨rfl, ?_⟩ | refine ⟨by decide, ?_⟩ | refine ⟨by kernel_rfl, ?_⟩ | (intro ep) | refine loopU ok mixed (A := fun _ => {}) 100 ?_))
def A4 : Ann := fun _ => {}
set_option maxHeartbeats 4000000 in
set_option maxRecDepth 100000 in
theorem law_parts (l : List Nt) (ks : List Int) (n : Int) (h3 : l.length ≤ 9223372036854775807) (h4 : ks.length ≤ 9223372036854775807) : ACalls C.P 4 [ntsA l, intsA ks, .int .i64 n] Heap.nil fun r _ => r = .bool true := by
  have hM := many22 l 400 (by omega) h3
  have a1 := parts23 l ks n h3 h4
  have a2 := refParts24 l ks n h3 h4
  generalize hMB : manyB l.length 400 = M at hM
  cases M
  case true =>
    refine fn_of ok mixed (A := A4) 0 Try.func4 rfl ?_
    (repeat' (first | exact rfl | ((conv => whnf); first | refine ⟨_, hM, ?_⟩ | refine ⟨_, works_spec, ?_⟩ | exact rfl | exact ⟨rfl, rfl⟩ | refine ⟨(by kernel_rfl : drawOk _ _ _ _ = true), ?_⟩ | refine ⟨(by kernel_rfl : planOk _ _ _ _ = true), ?_⟩ | refine ⟨rfl, ?_⟩ | refine ⟨by (first | omega | (simp (disch := omega) only [wrapI]; omega) | (simp (disch := omega) only [wrapI]; simp; omega) | (simp; omega)), ?_⟩ | (intro ep) | (refine ifB (fun hb => ?_) (fun hb => ?_) <;> (try simp only [decide_eq_true_eq, decide_eq_false_iff_not, beq_iff_eq, beq_eq_false_iff_ne, bne_iff_ne, bne_eq_false_iff_eq, ne_eq, not_false_eq_true, not_true_eq_false, Bool.not_eq_true, Bool.not_eq_true', Bool.not_eq_false', Int.not_lt, Int.not_le] at hb) <;> (try simp (disch := omega) only [wrapI] at hb) <;> (try (exfalso; omega))) | fail)))
  have hcase : (∃ e : Int, partsV l ks n = .tup [.nils, .int .i64 e]) ∨ ∃ P : List (List Tn), P.length ≤ 5 ∧ (∀ p ∈ P, p.length ≤ 5600) ∧ partsV l ks n = .tup [prtsA P, .int .i64 0] := by
    unfold partsV
    by_cases c1 : chkN l ≠ 0
    · rw [if_pos c1]; exact .inl ⟨_, rfl⟩
    rw [if_neg c1]
    by_cases c2 : ks.length ≠ l.length ∨ n < 1 ∨ 5 < n
    · rw [if_pos c2]; exact .inl ⟨_, rfl⟩
    rw [if_neg c2]
    have hc : chkN l = 0 := by omega
    have NN := (ntsOk_of hc).len
    rcases parts_all (n := n.toNat) hc (by omega : ks.length = l.length) with ⟨a, b⟩ | ⟨a, b⟩
    · rw [b]
      refine .inr ⟨prtL n.toNat l ks, by simp [prtL]; omega, fun p hp => ?_, rfl⟩
      simp only [prtL, List.mem_map] at hp
      obtain ⟨j, _, rfl⟩ := hp
      rw [tie_len]
      have := sel_len_le l ks ((j : Int) + 1)
      omega
    · rw [b]; exact .inl ⟨_, rfl⟩
  rcases hcase with ⟨e, h⟩ | ⟨P, hP1, hP2, h⟩
  · rw [h] at a1 a2
    have hs := same25_nil
    refine fn_of ok mixed (A := A4) 0 Try.func4 rfl ?_
    (repeat' (first | exact rfl | ((conv => whnf); first | refine ⟨_, hM, ?_⟩ | refine ⟨_, a1, ?_⟩ | refine ⟨_, a2, ?_⟩ | refine ⟨_, hs, ?_⟩ | refine ⟨_, works_spec, ?_⟩ | exact rfl | exact ⟨rfl, rfl⟩ | refine ⟨(by kernel_rfl : drawOk _ _ _ _ = true), ?_⟩ | refine ⟨(by kernel_rfl : planOk _ _ _ _ = true), ?_⟩ | refine ⟨rfl, ?_⟩ | refine ⟨by (first | omega | (simp (disch := omega) only [wrapI]; omega) | (simp (disch := omega) only [wrapI]; simp; omega) | (simp; omega)), ?_⟩ | (intro ep) | (refine ifB (fun hb => ?_) (fun hb => ?_) <;> (try simp only [decide_eq_true_eq, decide_eq_false_iff_not, beq_iff_eq, beq_eq_false_iff_ne, bne_iff_ne, bne_eq_false_iff_eq, ne_eq, not_false_eq_true, not_true_eq_false, Bool.not_eq_true, Bool.not_eq_true', Bool.not_eq_false', Int.not_lt, Int.not_le] at hb) <;> (try simp (disch := omega) only [wrapI] at hb) <;> (try (exfalso; omega))) | fail)))
  · rw [h] at a1 a2
    have hs := same25 P (by omega) (fun p hp => by have := hP2 p hp; omega)
    refine fn_of ok mixed (A := A4) 0 Try.func4 rfl ?_
    (repeat' (first | exact rfl | ((conv => whnf); first | refine ⟨_, hM, ?_⟩ | refine ⟨_, a1, ?_⟩ | refine ⟨_, a2, ?_⟩ | refine ⟨_, hs, ?_⟩ | refine ⟨_, works_spec, ?_⟩ | exact rfl | exact ⟨rfl, rfl⟩ | refine ⟨(by kernel_rfl : drawOk _ _ _ _ = true), ?_⟩ | refine ⟨(by kernel_rfl : planOk _ _ _ _ = true), ?_⟩ | refine ⟨rfl, ?_⟩ | refine ⟨by (first | omega | (simp (disch := omega) only [wrapI]; omega) | (simp (disch := omega) only [wrapI]; simp; omega) | (simp; omega)), ?_⟩ | (intro ep) | (refine ifB (fun hb => ?_) (fun hb => ?_) <;> (try simp only [decide_eq_true_eq, decide_eq_false_iff_not, beq_iff_eq, beq_eq_false_iff_ne, bne_iff_ne, bne_eq_false_iff_eq, ne_eq, not_false_eq_true, not_true_eq_false, Bool.not_eq_true, Bool.not_eq_true', Bool.not_eq_false', Int.not_lt, Int.not_le] at hb) <;> (try simp (disch := omega) only [wrapI] at hb) <;> (try (exfalso; omega))) | fail)))
end Go.Ab.V
