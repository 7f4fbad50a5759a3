/-
  What is proved here serves the law's text: each part says its own claim and its conditions. No condition is left open.
-/
import Derived.Test.YtffdekbcpnklnaaKT
import Derived.Test.YtffdekbcpnklnaaKM
set_option linter.unusedSimpArgs false
set_option linter.unusedVariables false

/-
  The law Meetings. No condition but the lengths.
-/
namespace Go.Ab.V
open Go.Proofs

theorem meetP_len (u l : List Tn) : ∀ (T : List Int) (o : Option (Int × Int)), (meetP u l o T).length ≤ T.length
  | [], o => by simp [meetP]
  | t :: r, o => by
    rw [meetP]
    split
    · have := meetP_len u l r o; simp; omega
    · have := meetP_len u l r (some (atR u t, atR l t)); simp; omega
theorem meets_len (u l : List Tn) : (meets u l).length ≤ u.length + l.length := by
  unfold meets
  have h1 := meetP_len u l (mrg (u.map (·.f)) (l.map (·.f))) none
  have h2 := mrg_len (u.map (·.f)) (l.map (·.f))
  simp only [List.length_map] at h2
  omega
theorem meetV_or (u l : List Tn) : (∃ e, e ≠ 0 ∧ meetV u l = .tup [.nils, .int .i64 e]) ∨ (u.length ≤ 400 ∧ good 0 u ∧ l.length ≤ 400 ∧ good 0 l ∧ meetV u l = .tup [mtsA (meets u l), .int .i64 0]) := by
  unfold meetV
  by_cases c1 : chkP [u] ≠ 0
  · rw [if_pos c1]; exact .inl ⟨_, c1, rfl⟩
  rw [if_neg c1]
  by_cases c2 : chkP [l] ≠ 0
  · rw [if_pos c2]; exact .inl ⟨_, c2, rfl⟩
  rw [if_neg c2]
  have g1 := chk1 (p := u) (by omega)
  have g2 := chk1 (p := l) (by omega)
  exact .inr ⟨g1.1, g1.2, g2.1, g2.2, rfl⟩
def A11 : Ann := fun _ => {}
set_option maxHeartbeats 4000000 in
set_option maxRecDepth 100000 in
theorem law_meetings (u l : List Tn) (nu : u.length ≤ 9223372036854775807) (nl : l.length ≤ 9223372036854775807) : ACalls C.P 11 [tnsA u, tnsA l] Heap.nil fun r _ => r = .bool true := by
  have a1 := meet40 u l nu nl
  have a2 := refMeet41 u l nu nl
  rcases meetV_or u l with ⟨e, he, hv⟩ | ⟨g1, _, g2, _, hv⟩
  · rw [hv] at a1 a2
    refine fn_of ok mixed (A := A11) 0 Try.func11 rfl ?_
    (repeat' (first | exact rfl | ((conv => whnf); first | refine ⟨_, a1, ?_⟩ | refine ⟨_, a2, ?_⟩ | refine ⟨_, works_spec, ?_⟩ | refine loopU ok mixed (A := fun _ => {}) 100 ?_ | exact rfl | exact ⟨rfl, rfl⟩ | refine ⟨(by kernel_rfl : drawOk _ _ _ _ = true), ?_⟩ | refine ⟨(by kernel_rfl : planOk _ _ _ _ = true), ?_⟩ | refine ⟨rfl, ?_⟩ | refine ⟨by (first | omega | (simp (disch := omega) only [wrapI]; omega) | (simp (disch := omega) only [wrapI]; simp; omega) | (simp; omega)), ?_⟩ | (intro ep) | (refine ifB (fun hb => ?_) (fun hb => ?_) <;> (try simp only [decide_eq_true_eq, decide_eq_false_iff_not, beq_iff_eq, beq_eq_false_iff_ne, bne_iff_ne, bne_eq_false_iff_eq, ne_eq, not_false_eq_true, not_true_eq_false, Bool.not_eq_true, Bool.not_eq_true', Bool.not_eq_false', Int.not_lt, Int.not_le] at hb) <;> (try simp (disch := omega) only [wrapI] at hb) <;> (try (exfalso; omega))) | fail)))
  · have hl := meets_len u l
    rw [hv] at a1 a2
    generalize meets u l = R at hv a1 a2 hl
    refine fn_of ok mixed (A := A11) 0 Try.func11 rfl ?_
    (repeat' (first | exact rfl | ((conv => whnf); first | refine ⟨_, a1, ?_⟩ | refine ⟨_, a2, ?_⟩ | refine ⟨_, works_spec, ?_⟩ | exact rfl | exact ⟨rfl, rfl⟩ | refine ⟨(by kernel_rfl : drawOk _ _ _ _ = true), ?_⟩ | refine ⟨(by kernel_rfl : planOk _ _ _ _ = true), ?_⟩ | refine ⟨rfl, ?_⟩ | refine ⟨by (first | omega | (simp (disch := omega) only [wrapI]; omega) | (simp (disch := omega) only [wrapI]; simp; omega) | (simp; omega)), ?_⟩ | (intro ep) | (refine ifB (fun hb => ?_) (fun hb => ?_) <;> (try simp only [decide_eq_true_eq, decide_eq_false_iff_not, beq_iff_eq, beq_eq_false_iff_ne, bne_iff_ne, bne_eq_false_iff_eq, ne_eq, not_false_eq_true, not_true_eq_false, Bool.not_eq_true, Bool.not_eq_true', Bool.not_eq_false', Int.not_lt, Int.not_le] at hb) <;> (try simp (disch := omega) only [wrapI] at hb) <;> (try (exfalso; omega))) | fail)))
    all_goals (conv => whnf)
    refine loopY ok mixed (A := A11) [5, 7, 9] [] (S := { k : Nat // k ≤ R.length })
      (fr := fun s => frOf 0 48 [(5, mtsA R), (7, mtsA R), (9, .int .i64 (s.1 : Int))])
      (h := fun s => ⟨[], []⟩) (μ := fun s => R.length - s.1) ⟨0, by omega⟩ ?_ ?_
      [] [] (S' := Unit) (X := fun _ => 0) (frX := fun s => frOf 0 48 []) (hX := fun s => ⟨[], []⟩)
      [] [] (S2 := Empty) (frR := fun s => frOf 0 48 []) (hR := fun s => ⟨[], []⟩) ?_ ?_ ?_
    · exact rfl
    · exact rfl
    · rintro ⟨k, hk⟩
      show aexR _ _ _ (frOf 0 48 [(5, mtsA R), (7, mtsA R), (9, .int .i64 (k : Int))]) ⟨[], []⟩ _
      (conv => whnf)
      refine ifB (fun g1 => ?_) (fun g1 => ?_)
      · simp only [decide_eq_true_eq] at g1
        have hlt : k < R.length := by omega
        have hm := mapR (f := mtR) hlt
        generalize R[k] = x at hm
        obtain ⟨x1, x2, x3⟩ := x
        (repeat' (first | exact rfl | ((conv => whnf); first | refine optS hm ?_ | exact rfl | exact ⟨rfl, rfl⟩ | refine ⟨(by kernel_rfl : drawOk _ _ _ _ = true), ?_⟩ | refine ⟨(by kernel_rfl : planOk _ _ _ _ = true), ?_⟩ | refine ⟨rfl, ?_⟩ | refine ⟨by (first | omega | (simp (disch := omega) only [wrapI]; omega) | (simp (disch := omega) only [wrapI]; simp; omega) | (simp; omega)), ?_⟩ | (intro ep) | fail)))
        all_goals (conv => whnf)
        refine ifB (fun hb => ?_) (fun hb => ?_)
        · exfalso; simp at hb
        (repeat' (first | exact rfl | ((conv => whnf); first | exact rfl | exact ⟨rfl, rfl⟩ | refine ⟨(by kernel_rfl : drawOk _ _ _ _ = true), ?_⟩ | refine ⟨(by kernel_rfl : planOk _ _ _ _ = true), ?_⟩ | refine ⟨rfl, ?_⟩ | refine ⟨by (first | omega | (simp (disch := omega) only [wrapI]; omega) | (simp (disch := omega) only [wrapI]; simp; omega) | (simp; omega)), ?_⟩ | (intro ep) | fail)))
        all_goals (conv => whnf)
        exact back_of ⟨k + 1, by omega⟩ ⟨by (first | exact rfl | (simp (disch := omega) only [wrapI]; exact rfl)), rfl, by simp only; omega⟩
      · simp only [decide_eq_false_iff_not] at g1
        (repeat' (first | exact rfl | ((conv => whnf); first | exact rfl | exact ⟨rfl, rfl⟩ | refine ⟨(by kernel_rfl : drawOk _ _ _ _ = true), ?_⟩ | refine ⟨(by kernel_rfl : planOk _ _ _ _ = true), ?_⟩ | refine ⟨rfl, ?_⟩ | refine ⟨by (first | omega | (simp (disch := omega) only [wrapI]; omega) | (simp (disch := omega) only [wrapI]; simp; omega) | (simp; omega)), ?_⟩ | (intro ep) | fail)))
        all_goals (conv => whnf)
        exact back_of () ⟨rfl, rfl, rfl⟩
    · rintro ⟨⟩
    · rintro ⟨⟩
      (repeat' (first | exact rfl | ((conv => whnf); first | refine ⟨_, works_spec, ?_⟩ | exact rfl | exact ⟨rfl, rfl⟩ | refine ⟨(by kernel_rfl : drawOk _ _ _ _ = true), ?_⟩ | refine ⟨(by kernel_rfl : planOk _ _ _ _ = true), ?_⟩ | refine ⟨rfl, ?_⟩ | refine ⟨by (first | omega | (simp (disch := omega) only [wrapI]; omega) | (simp (disch := omega) only [wrapI]; simp; omega) | (simp; omega)), ?_⟩ | (intro ep) | (refine ifB (fun hb => ?_) (fun hb => ?_) <;> (try simp only [decide_eq_true_eq, decide_eq_false_iff_not, beq_iff_eq, beq_eq_false_iff_ne, bne_iff_ne, bne_eq_false_iff_eq, ne_eq, not_false_eq_true, not_true_eq_false, Bool.not_eq_true, Bool.not_eq_true', Bool.not_eq_false', Int.not_lt, Int.not_le] at hb) <;> (try simp (disch := omega) only [wrapI] at hb) <;> (try (exfalso; omega))) | fail)))
end Go.Ab.V
