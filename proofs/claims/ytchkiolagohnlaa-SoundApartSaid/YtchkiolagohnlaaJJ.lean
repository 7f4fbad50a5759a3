/-
  What is proved here serves the law's text: each part says its own claim and its conditions. No condition is left open.
-/
import Derived.Test.YtchkiolagohnlaaJI
import Derived.Test.YtchkiolagohnlaaJC
import Derived.Test.YtchkiolagohnlaaKW
import Derived.Test.YtchkiolagohnlaaKV
import Derived.Test.YtchkiolagohnlaaKF
import Derived.Test.YtchkiolagohnlaaKQ
set_option linter.unusedSimpArgs false
set_option linter.unusedVariables false

/-
  The law of notes that are apart. No condition but the machine's sizes.
-/
namespace Go.Ab.V
open Go.Proofs

def A9 : Ann := fun r => match r with
  | 0 => { slots := [(0, 0)] }
  | _ => {}
set_option maxHeartbeats 16000000 in
set_option maxRecDepth 100000 in
theorem law_apart (p : Pc) (hp : p.Ok) : ACalls C.P 9 [pcA p] Heap.nil fun r _ => r = .bool true := by
  have hb0 := long_spec p hp
  have h3 := True.intro
  cases hb : longB p with
  | true =>
    rw [hb] at hb0
    have hcp := True.intro
    have h1 := True.intro
    have h2 := True.intro
    refine fn_of ok mixed (A := A9) 1 Try.func9 rfl ?_
    (repeat' (first | exact rfl | ((conv => whnf); first | refine ⟨_, works_spec, ?_⟩ | refine ⟨_, hb0, ?_⟩ | refine ⟨_, hcp, ?_⟩ | refine ⟨_, h1, ?_⟩ | refine ⟨_, h2, ?_⟩ | refine ⟨_, h3, ?_⟩ | exact rfl | exact ⟨rfl, rfl⟩ | refine ⟨(by kernel_rfl : drawOk _ _ _ _ = true), ?_⟩ | refine ⟨(by kernel_rfl : planOk _ _ _ _ = true), ?_⟩ | refine ⟨rfl, ?_⟩ | refine ⟨by (first | omega | (simp (disch := omega) only [wrapI]; omega) | (simp (disch := omega) only [wrapI]; simp; omega) | (simp; omega)), ?_⟩ | (intro ep) | (refine ifB (fun hb => ?_) (fun hb => ?_) <;> (try simp only [decide_eq_true_eq, decide_eq_false_iff_not, beq_iff_eq, beq_eq_false_iff_ne, bne_iff_ne, bne_eq_false_iff_eq, ne_eq, not_false_eq_true, not_true_eq_false, Bool.not_eq_true, Bool.not_eq_true', Bool.not_eq_false', Int.not_lt, Int.not_le] at hb) <;> (try simp (disch := omega) only [wrapI] at hb) <;> (try (exfalso; omega))) | fail)))
  | false =>
    have hs := Pc.Sm.of_big (longB_no hb).1
    have hcp := copy_spec p hs
    rw [hb] at hb0
    have h2 := refCheck_spec p hp (by have := hs.ev; omega)
    by_cases hc : ¬ chk p = 0
    · have h1 := True.intro
      generalize chk p = e at h2 hc
      refine fn_of ok mixed (A := A9) 1 Try.func9 rfl ?_
      (repeat' (first | exact rfl | ((conv => whnf); first | refine ⟨_, works_spec, ?_⟩ | refine ⟨_, hb0, ?_⟩ | refine ⟨_, hcp, ?_⟩ | refine ⟨_, h1, ?_⟩ | refine ⟨_, h2, ?_⟩ | refine ⟨_, h3, ?_⟩ | exact rfl | exact ⟨rfl, rfl⟩ | refine ⟨(by kernel_rfl : drawOk _ _ _ _ = true), ?_⟩ | refine ⟨(by kernel_rfl : planOk _ _ _ _ = true), ?_⟩ | refine ⟨rfl, ?_⟩ | refine ⟨by (first | omega | (simp (disch := omega) only [wrapI]; omega) | (simp (disch := omega) only [wrapI]; simp; omega) | (simp; omega)), ?_⟩ | (intro ep) | (refine ifB (fun hb => ?_) (fun hb => ?_) <;> (try simp only [decide_eq_true_eq, decide_eq_false_iff_not, beq_iff_eq, beq_eq_false_iff_ne, bne_iff_ne, bne_eq_false_iff_eq, ne_eq, not_false_eq_true, not_true_eq_false, Bool.not_eq_true, Bool.not_eq_true', Bool.not_eq_false', Int.not_lt, Int.not_le] at hb) <;> (try simp (disch := omega) only [wrapI] at hb) <;> (try (exfalso; omega))) | fail)))
    have hc := Decidable.not_not.1 hc
    rw [hc] at h2
    have v := vp hc
    have h1 := notes17 p hp
    have h3 := presses29 p hp
    unfold notesV at h1
    unfold pressesV at h3
    rw [if_pos hc] at h1 h3
    have hNl := notes_len v
    have hMl : (pressF p 0 p.evs).length ≤ 5600 := by
      have := press_len v
      rw [← kept_pressL v]
      have := List.length_filter_le (fun x => !opn x) (pressL p)
      unfold kept
      omega
    have hap := List.pairwise_iff_getElem.1 (notes_apart hc)
    have hpm := fun m (hm : m ∈ pressF p 0 p.evs) => press_mate hm
    have hlen := v.len
    have hn0 : (newL (noteOf p) 0 p.evs).length = (notesL p).length := rfl
    obtain ⟨M, hM⟩ : ∃ M, M = pressF p 0 p.evs := ⟨_, rfl⟩
    have hm0 : (pressF p 0 p.evs).length = M.length := by rw [hM]
    rw [← hM] at h3 hMl hpm
    clear hM
    generalize notesL p = N at h1 hNl hap hpm hn0
    refine fn_of ok mixed (A := A9) 1 Try.func9 rfl ?_
    (repeat' (first | exact rfl | ((conv => whnf); first | refine ⟨_, works_spec, ?_⟩ | refine ⟨_, hb0, ?_⟩ | refine ⟨_, hcp, ?_⟩ | refine ⟨_, h1, ?_⟩ | refine ⟨_, h2, ?_⟩ | refine ⟨_, h3, ?_⟩ | exact rfl | exact ⟨rfl, rfl⟩ | refine ⟨(by kernel_rfl : drawOk _ _ _ _ = true), ?_⟩ | refine ⟨(by kernel_rfl : planOk _ _ _ _ = true), ?_⟩ | refine ⟨rfl, ?_⟩ | refine ⟨by (first | omega | (simp (disch := omega) only [wrapI]; omega) | (simp (disch := omega) only [wrapI]; simp; omega) | (simp; omega)), ?_⟩ | (intro ep) | (refine ifB (fun hb => ?_) (fun hb => ?_) <;> (try simp only [decide_eq_true_eq, decide_eq_false_iff_not, beq_iff_eq, beq_eq_false_iff_ne, bne_iff_ne, bne_eq_false_iff_eq, ne_eq, not_false_eq_true, not_true_eq_false, Bool.not_eq_true, Bool.not_eq_true', Bool.not_eq_false', Int.not_lt, Int.not_le] at hb) <;> (try simp (disch := omega) only [wrapI] at hb) <;> (try (exfalso; omega))) | fail)))
    all_goals (conv => whnf)
    obtain ⟨e0, he⟩ : ∃ e0, e0 = ep := ⟨_, rfl⟩
    subst he
    refine loopY ok mixed (A := A9) [1, 3, 5, 7, 8, 9] [0] (S := { z : Nat × Nat × Nat // z.1 ≤ p.evs.length ∧ z.2.1 + (newL (noteOf p) z.1 (p.evs.drop z.1)).length = N.length ∧ z.2.2 + (pressF p z.1 (p.evs.drop z.1)).length = M.length })
      (fr := fun s => frOf 0 229 [(1, .optr (.s 0) e0 3 0 0), (3, ntsA N), (5, prsA M), (7, .int .i64 (s.1.2.1 : Int)), (8, .int .i64 (s.1.2.2 : Int)), (9, .int .i64 (s.1.1 : Int))])
      (h := fun s => ⟨[.vec e0 [pcV p]], []⟩) (μ := fun s => p.evs.length - s.1.1) ⟨(0, 0, 0), Nat.zero_le _, by dsimp only; rw [List.drop_zero, Nat.zero_add]; exact hn0, by dsimp only; rw [List.drop_zero, Nat.zero_add]; exact hm0⟩ ?_ ?_
      [3, 5, 7, 8] [] (S' := Unit) (X := fun _ => 0)
      (frX := fun s => frOf 0 229 [(3, ntsA N), (5, prsA M), (7, .int .i64 (N.length : Int)), (8, .int .i64 (M.length : Int))])
      (hX := fun s => ⟨[.hole], []⟩)
      [] [] (S2 := Empty) (frR := fun s => frOf 0 229 []) (hR := fun s => ⟨[], []⟩) ?_ ?_ ?_
    · exact rfl
    · exact rfl
    · rintro ⟨⟨k, a, b⟩, hk, ha, hb1⟩
      dsimp only at hk ha hb1
      show aexR _ _ _ (frOf 0 229 [(1, .optr (.s 0) e0 3 0 0), (3, ntsA N), (5, prsA M), (7, .int .i64 (a : Int)), (8, .int .i64 (b : Int)), (9, .int .i64 (k : Int))]) ⟨[.vec e0 [pcV p]], []⟩ _
      by_cases hk2 : k < p.evs.length
      · have hmk := mapR (f := evR) hk2
        have hsl := v.sl k hk2
        rw [newL_drop _ hk2, List.length_append, List.length_map] at ha
        rw [pressF_drop p hk2, List.length_append, List.length_map] at hb1
        generalize p.evs[k] = e at hmk hsl ha hb1
        obtain ⟨eb, ev, ed, et, ey, l⟩ := e
        dsimp only at hsl ha hb1
        (repeat' (first | exact rfl | ((conv => whnf); first | refine optS hmk ?_ | exact rfl | exact ⟨rfl, rfl⟩ | refine ⟨(by kernel_rfl : drawOk _ _ _ _ = true), ?_⟩ | refine ⟨(by kernel_rfl : planOk _ _ _ _ = true), ?_⟩ | refine ⟨rfl, ?_⟩ | refine ⟨by (first | omega | (simp (disch := omega) only [wrapI]; omega) | (simp (disch := omega) only [wrapI]; simp; omega) | (simp; omega)), ?_⟩ | (intro ep) | (refine ifB (fun hb => ?_) (fun hb => ?_) <;> (try simp only [decide_eq_true_eq, decide_eq_false_iff_not, beq_iff_eq, beq_eq_false_iff_ne, bne_iff_ne, bne_eq_false_iff_eq, ne_eq, not_false_eq_true, not_true_eq_false, Bool.not_eq_true, Bool.not_eq_true', Bool.not_eq_false', Int.not_lt, Int.not_le] at hb) <;> (try simp (disch := omega) only [wrapI] at hb) <;> (try (exfalso; omega))) | fail)))
        all_goals (conv => whnf)
        have hwa : IntKind.i64.wrap ((a : Int) + (l.length : Int)) = ((a + l.length : Nat) : Int) := by rw [wrapI (by omega) (by omega)]; omega
        rw [hwa]
        refine loopY ok mixed (A := A9) [1, 3, 5, 7, 8, 9, 10] [0] (S := { z : Nat × Nat // z.1 ≤ l.length ∧ z.2 + (prF (l.drop z.1)).length = b + (prF l).length ∧ z.2 ≤ 5600 })
          (fr := fun s => frOf 0 229 [(1, .optr (.s 0) e0 3 0 0), (3, ntsA N), (5, prsA M), (7, .int .i64 ((a + l.length : Nat) : Int)), (8, .int .i64 (s.1.2 : Int)), (9, .int .i64 (k : Int)), (10, .int .i64 (s.1.1 : Int))])
          (h := fun s => ⟨[.vec e0 [pcV p]], []⟩) (μ := fun s => l.length - s.1.1) ⟨(0, b), Nat.zero_le _, rfl, by dsimp only; omega⟩ ?_ ?_
          [1, 3, 5, 7, 8, 9] [0] (S' := Unit) (X := fun _ => 2)
          (frX := fun s => frOf 0 229 [(1, .optr (.s 0) e0 3 0 0), (3, ntsA N), (5, prsA M), (7, .int .i64 ((a + l.length : Nat) : Int)), (8, .int .i64 ((b + (prF l).length : Nat) : Int)), (9, .int .i64 (k : Int))])
          (hX := fun s => ⟨[.vec e0 [pcV p]], []⟩)
          [] [] (S2 := Empty) (frR := fun s => frOf 0 229 []) (hR := fun s => ⟨[], []⟩) ?_ ?_ ?_
        · exact rfl
        · exact rfl
        · rintro ⟨⟨j, c⟩, hj, hcc, hc5⟩
          dsimp only at hj hcc hc5
          show aexR _ _ _ (frOf 0 229 [(1, .optr (.s 0) e0 3 0 0), (3, ntsA N), (5, prsA M), (7, .int .i64 ((a + l.length : Nat) : Int)), (8, .int .i64 (c : Int)), (9, .int .i64 (k : Int)), (10, .int .i64 (j : Int))]) ⟨[.vec e0 [pcV p]], []⟩ _
          by_cases g3 : j < l.length
          · have hm := mapR (f := stR) g3
            rw [prF_drop g3] at hcc
            generalize l[j] = s at hm hcc
            obtain ⟨sc, sf, sr, sg, sh⟩ := s
            dsimp only at hcc
            by_cases hf : 0 < sf
            · rw [if_pos hf, List.length_cons] at hcc
              have hwc : IntKind.i64.wrap ((c : Int) + 1) = ((c + 1 : Nat) : Int) := by rw [wrapI (by omega) (by omega)]; omega
              (repeat' (first | exact rfl | ((conv => whnf); first | refine optS hmk ?_ | refine optS hm ?_ | exact rfl | exact ⟨rfl, rfl⟩ | refine ⟨(by kernel_rfl : drawOk _ _ _ _ = true), ?_⟩ | refine ⟨(by kernel_rfl : planOk _ _ _ _ = true), ?_⟩ | refine ⟨rfl, ?_⟩ | refine ⟨by (first | omega | (simp (disch := omega) only [wrapI]; omega) | (simp (disch := omega) only [wrapI]; simp; omega) | (simp; omega)), ?_⟩ | (intro ep) | (refine ifB (fun hb => ?_) (fun hb => ?_) <;> (try simp only [decide_eq_true_eq, decide_eq_false_iff_not, beq_iff_eq, beq_eq_false_iff_ne, bne_iff_ne, bne_eq_false_iff_eq, ne_eq, not_false_eq_true, not_true_eq_false, Bool.not_eq_true, Bool.not_eq_true', Bool.not_eq_false', Int.not_lt, Int.not_le] at hb) <;> (try simp (disch := omega) only [wrapI] at hb) <;> (try (exfalso; omega))) | fail)))
              all_goals (conv => whnf)
              all_goals exact back_of ⟨(j + 1, c + 1), by dsimp only; omega, by dsimp only; omega, by dsimp only; omega⟩ ⟨by (first | exact rfl | (simp (disch := omega) only [wrapI]; exact rfl)), rfl, by dsimp only; omega⟩
            · rw [if_neg hf] at hcc
              (repeat' (first | exact rfl | ((conv => whnf); first | refine optS hmk ?_ | refine optS hm ?_ | exact rfl | exact ⟨rfl, rfl⟩ | refine ⟨(by kernel_rfl : drawOk _ _ _ _ = true), ?_⟩ | refine ⟨(by kernel_rfl : planOk _ _ _ _ = true), ?_⟩ | refine ⟨rfl, ?_⟩ | refine ⟨by (first | omega | (simp (disch := omega) only [wrapI]; omega) | (simp (disch := omega) only [wrapI]; simp; omega) | (simp; omega)), ?_⟩ | (intro ep) | (refine ifB (fun hb => ?_) (fun hb => ?_) <;> (try simp only [decide_eq_true_eq, decide_eq_false_iff_not, beq_iff_eq, beq_eq_false_iff_ne, bne_iff_ne, bne_eq_false_iff_eq, ne_eq, not_false_eq_true, not_true_eq_false, Bool.not_eq_true, Bool.not_eq_true', Bool.not_eq_false', Int.not_lt, Int.not_le] at hb) <;> (try simp (disch := omega) only [wrapI] at hb) <;> (try (exfalso; omega))) | fail)))
              all_goals (conv => whnf)
              all_goals exact back_of ⟨(j + 1, c), by dsimp only; omega, by dsimp only; omega, by dsimp only; omega⟩ ⟨by (first | exact rfl | (simp (disch := omega) only [wrapI]; exact rfl)), rfl, by dsimp only; omega⟩
          · have hj2 : j = l.length := by omega
            rw [List.drop_eq_nil_of_le (by omega), show prF [] = [] from rfl, List.length_nil, Nat.add_zero] at hcc
            subst hcc
            (repeat' (first | exact rfl | ((conv => whnf); first | refine optS hmk ?_ | exact rfl | exact ⟨rfl, rfl⟩ | refine ⟨(by kernel_rfl : drawOk _ _ _ _ = true), ?_⟩ | refine ⟨(by kernel_rfl : planOk _ _ _ _ = true), ?_⟩ | refine ⟨rfl, ?_⟩ | refine ⟨by (first | omega | (simp (disch := omega) only [wrapI]; omega) | (simp (disch := omega) only [wrapI]; simp; omega) | (simp; omega)), ?_⟩ | (intro ep) | (refine ifB (fun hb => ?_) (fun hb => ?_) <;> (try simp only [decide_eq_true_eq, decide_eq_false_iff_not, beq_iff_eq, beq_eq_false_iff_ne, bne_iff_ne, bne_eq_false_iff_eq, ne_eq, not_false_eq_true, not_true_eq_false, Bool.not_eq_true, Bool.not_eq_true', Bool.not_eq_false', Int.not_lt, Int.not_le] at hb) <;> (try simp (disch := omega) only [wrapI] at hb) <;> (try (exfalso; omega))) | fail)))
            all_goals (conv => whnf)
            all_goals exact back_of () ⟨rfl, rfl, rfl⟩
        · rintro ⟨⟩
        · rintro ⟨⟩
          (repeat' (first | exact rfl | ((conv => whnf); first | exact rfl | exact ⟨rfl, rfl⟩ | refine ⟨(by kernel_rfl : drawOk _ _ _ _ = true), ?_⟩ | refine ⟨(by kernel_rfl : planOk _ _ _ _ = true), ?_⟩ | refine ⟨rfl, ?_⟩ | refine ⟨by (first | omega | (simp (disch := omega) only [wrapI]; omega) | (simp (disch := omega) only [wrapI]; simp; omega) | (simp; omega)), ?_⟩ | (intro ep) | fail)))
          all_goals (conv => whnf)
          all_goals exact back_of ⟨(k + 1, a + l.length, b + (prF l).length), by dsimp only; omega, by dsimp only; omega, by dsimp only; omega⟩ ⟨by (first | exact rfl | (simp (disch := omega) only [wrapI]; exact rfl)), rfl, by dsimp only; omega⟩
      · have hk3 : k = p.evs.length := by omega
        rw [List.drop_eq_nil_of_le (by omega), newL, List.length_nil, Nat.add_zero] at ha
        rw [List.drop_eq_nil_of_le (by omega), pressF, List.length_nil, Nat.add_zero] at hb1
        subst ha
        subst hb1
        (repeat' (first | exact rfl | ((conv => whnf); first | exact rfl | exact ⟨rfl, rfl⟩ | refine ⟨(by kernel_rfl : drawOk _ _ _ _ = true), ?_⟩ | refine ⟨(by kernel_rfl : planOk _ _ _ _ = true), ?_⟩ | refine ⟨rfl, ?_⟩ | refine ⟨by (first | omega | (simp (disch := omega) only [wrapI]; omega) | (simp (disch := omega) only [wrapI]; simp; omega) | (simp; omega)), ?_⟩ | (intro ep) | (refine ifB (fun hb => ?_) (fun hb => ?_) <;> (try simp only [decide_eq_true_eq, decide_eq_false_iff_not, beq_iff_eq, beq_eq_false_iff_ne, bne_iff_ne, bne_eq_false_iff_eq, ne_eq, not_false_eq_true, not_true_eq_false, Bool.not_eq_true, Bool.not_eq_true', Bool.not_eq_false', Int.not_lt, Int.not_le] at hb) <;> (try simp (disch := omega) only [wrapI] at hb) <;> (try (exfalso; omega))) | fail)))
        all_goals (conv => whnf)
        all_goals exact back_of () ⟨rfl, rfl, rfl⟩
    · rintro ⟨⟩
    · rintro ⟨⟩
      clear h1 h3 hcp h2 hb0 hn0 hm0
      (repeat' (first | exact rfl | ((conv => whnf); first | exact rfl | exact ⟨rfl, rfl⟩ | refine ⟨(by kernel_rfl : drawOk _ _ _ _ = true), ?_⟩ | refine ⟨(by kernel_rfl : planOk _ _ _ _ = true), ?_⟩ | refine ⟨rfl, ?_⟩ | refine ⟨by (first | omega | (simp (disch := omega) only [wrapI]; omega) | (simp (disch := omega) only [wrapI]; simp; omega) | (simp; omega)), ?_⟩ | (intro ep) | (refine ifB (fun hb => ?_) (fun hb => ?_) <;> (try simp only [decide_eq_true_eq, decide_eq_false_iff_not, beq_iff_eq, beq_eq_false_iff_ne, bne_iff_ne, bne_eq_false_iff_eq, ne_eq, not_false_eq_true, not_true_eq_false, Bool.not_eq_true, Bool.not_eq_true', Bool.not_eq_false', Int.not_lt, Int.not_le] at hb) <;> (try simp (disch := omega) only [wrapI] at hb) <;> (try (exfalso; omega))) | fail)))
      all_goals (conv => whnf)
      refine loopY ok mixed (A := A9) [3, 5, 11] [] (S := { i : Nat // i ≤ N.length })
        (fr := fun s => frOf 0 229 [(3, ntsA N), (5, prsA M), (11, .int .i64 (s.1 : Int))])
        (h := fun s => ⟨[.hole], []⟩) (μ := fun s => N.length - s.1) ⟨0, Nat.zero_le _⟩ ?_ ?_
        [3, 5] [] (S' := Unit) (X := fun _ => 4) (frX := fun s => frOf 0 229 [(3, ntsA N), (5, prsA M)]) (hX := fun s => ⟨[.hole], []⟩)
        [] [] (S2 := Empty) (frR := fun s => frOf 0 229 []) (hR := fun s => ⟨[], []⟩) ?_ ?_ ?_
      · exact rfl
      · exact rfl
      · rintro ⟨i, hi⟩
        show aexR _ _ _ (frOf 0 229 [(3, ntsA N), (5, prsA M), (11, .int .i64 (i : Int))]) ⟨[.hole], []⟩ _
        by_cases g : i < N.length
        · have hmi := mapR (f := ntR) g
          have hai := fun k (h : k < i) => hap k i (by omega) g h
          obtain ⟨x, hx⟩ : ∃ x, x = N[i] := ⟨_, rfl⟩
          rw [← hx] at hmi
          simp only [← hx] at hai
          obtain ⟨xe, xc, xp, xf, xt⟩ := x
          clear hx
          (repeat' (first | exact rfl | ((conv => whnf); first | exact rfl | exact ⟨rfl, rfl⟩ | refine ⟨(by kernel_rfl : drawOk _ _ _ _ = true), ?_⟩ | refine ⟨(by kernel_rfl : planOk _ _ _ _ = true), ?_⟩ | refine ⟨rfl, ?_⟩ | refine ⟨by (first | omega | (simp (disch := omega) only [wrapI]; omega) | (simp (disch := omega) only [wrapI]; simp; omega) | (simp; omega)), ?_⟩ | (intro ep) | (refine ifB (fun hb => ?_) (fun hb => ?_) <;> (try simp only [decide_eq_true_eq, decide_eq_false_iff_not, beq_iff_eq, beq_eq_false_iff_ne, bne_iff_ne, bne_eq_false_iff_eq, ne_eq, not_false_eq_true, not_true_eq_false, Bool.not_eq_true, Bool.not_eq_true', Bool.not_eq_false', Int.not_lt, Int.not_le] at hb) <;> (try simp (disch := omega) only [wrapI] at hb) <;> (try (exfalso; omega))) | fail)))
          all_goals (conv => whnf)
          refine loopY ok mixed (A := A9) [3, 5, 11, 12] [] (S := { k : Nat // k ≤ i })
            (fr := fun s => frOf 0 229 [(3, ntsA N), (5, prsA M), (11, .int .i64 (i : Int)), (12, .int .i64 (s.1 : Int))])
            (h := fun s => ⟨[.hole], []⟩) (μ := fun s => i - s.1) ⟨0, Nat.zero_le _⟩ ?_ ?_
            [3, 5, 11] [] (S' := Unit) (X := fun _ => 6) (frX := fun s => frOf 0 229 [(3, ntsA N), (5, prsA M), (11, .int .i64 (i : Int))]) (hX := fun s => ⟨[.hole], []⟩)
            [] [] (S2 := Empty) (frR := fun s => frOf 0 229 []) (hR := fun s => ⟨[], []⟩) ?_ ?_ ?_
          · exact rfl
          · exact rfl
          · rintro ⟨k, hk⟩
            show aexR _ _ _ (frOf 0 229 [(3, ntsA N), (5, prsA M), (11, .int .i64 (i : Int)), (12, .int .i64 (k : Int))]) ⟨[.hole], []⟩ _
            by_cases g2 : k < i
            · have hk3 : k < N.length := by omega
              have hmk := mapR (f := ntR) hk3
              obtain ⟨a1, a2⟩ := hai k g2
              generalize N[k] = y at hmk a1 a2
              obtain ⟨ye, yc, yp, yf, yt⟩ := y
              dsimp only at a1 a2
              by_cases c1 : xc = yc
              · by_cases c2 : xf < yt
                · by_cases c3 : yf < xt
                  · exact absurd ⟨c1, c2, c3⟩ a2
                  · (repeat' (first | exact rfl | ((conv => whnf); first | refine optS hmi ?_ | refine optS hmk ?_ | exact rfl | exact ⟨rfl, rfl⟩ | refine ⟨(by kernel_rfl : drawOk _ _ _ _ = true), ?_⟩ | refine ⟨(by kernel_rfl : planOk _ _ _ _ = true), ?_⟩ | refine ⟨rfl, ?_⟩ | refine ⟨by (first | omega | (simp (disch := omega) only [wrapI]; omega) | (simp (disch := omega) only [wrapI]; simp; omega) | (simp; omega)), ?_⟩ | (intro ep) | (refine ifB (fun hb => ?_) (fun hb => ?_) <;> (try simp only [decide_eq_true_eq, decide_eq_false_iff_not, beq_iff_eq, beq_eq_false_iff_ne, bne_iff_ne, bne_eq_false_iff_eq, ne_eq, not_false_eq_true, not_true_eq_false, Bool.not_eq_true, Bool.not_eq_true', Bool.not_eq_false', Int.not_lt, Int.not_le] at hb) <;> (try simp (disch := omega) only [wrapI] at hb) <;> (try (exfalso; omega))) | fail)))
                    all_goals (conv => whnf)
                    all_goals exact back_of ⟨k + 1, by omega⟩ ⟨by (first | exact rfl | (simp (disch := omega) only [wrapI]; exact rfl)), rfl, by dsimp only; omega⟩
                · (repeat' (first | exact rfl | ((conv => whnf); first | refine optS hmi ?_ | refine optS hmk ?_ | exact rfl | exact ⟨rfl, rfl⟩ | refine ⟨(by kernel_rfl : drawOk _ _ _ _ = true), ?_⟩ | refine ⟨(by kernel_rfl : planOk _ _ _ _ = true), ?_⟩ | refine ⟨rfl, ?_⟩ | refine ⟨by (first | omega | (simp (disch := omega) only [wrapI]; omega) | (simp (disch := omega) only [wrapI]; simp; omega) | (simp; omega)), ?_⟩ | (intro ep) | (refine ifB (fun hb => ?_) (fun hb => ?_) <;> (try simp only [decide_eq_true_eq, decide_eq_false_iff_not, beq_iff_eq, beq_eq_false_iff_ne, bne_iff_ne, bne_eq_false_iff_eq, ne_eq, not_false_eq_true, not_true_eq_false, Bool.not_eq_true, Bool.not_eq_true', Bool.not_eq_false', Int.not_lt, Int.not_le] at hb) <;> (try simp (disch := omega) only [wrapI] at hb) <;> (try (exfalso; omega))) | fail)))
                  all_goals (conv => whnf)
                  all_goals exact back_of ⟨k + 1, by omega⟩ ⟨by (first | exact rfl | (simp (disch := omega) only [wrapI]; exact rfl)), rfl, by dsimp only; omega⟩
              · (repeat' (first | exact rfl | ((conv => whnf); first | refine optS hmi ?_ | refine optS hmk ?_ | exact rfl | exact ⟨rfl, rfl⟩ | refine ⟨(by kernel_rfl : drawOk _ _ _ _ = true), ?_⟩ | refine ⟨(by kernel_rfl : planOk _ _ _ _ = true), ?_⟩ | refine ⟨rfl, ?_⟩ | refine ⟨by (first | omega | (simp (disch := omega) only [wrapI]; omega) | (simp (disch := omega) only [wrapI]; simp; omega) | (simp; omega)), ?_⟩ | (intro ep) | (refine ifB (fun hb => ?_) (fun hb => ?_) <;> (try simp only [decide_eq_true_eq, decide_eq_false_iff_not, beq_iff_eq, beq_eq_false_iff_ne, bne_iff_ne, bne_eq_false_iff_eq, ne_eq, not_false_eq_true, not_true_eq_false, Bool.not_eq_true, Bool.not_eq_true', Bool.not_eq_false', Int.not_lt, Int.not_le] at hb) <;> (try simp (disch := omega) only [wrapI] at hb) <;> (try (exfalso; omega))) | fail)))
                all_goals (conv => whnf)
                all_goals exact back_of ⟨k + 1, by omega⟩ ⟨by (first | exact rfl | (simp (disch := omega) only [wrapI]; exact rfl)), rfl, by dsimp only; omega⟩
            · (repeat' (first | exact rfl | ((conv => whnf); first | exact rfl | exact ⟨rfl, rfl⟩ | refine ⟨(by kernel_rfl : drawOk _ _ _ _ = true), ?_⟩ | refine ⟨(by kernel_rfl : planOk _ _ _ _ = true), ?_⟩ | refine ⟨rfl, ?_⟩ | refine ⟨by (first | omega | (simp (disch := omega) only [wrapI]; omega) | (simp (disch := omega) only [wrapI]; simp; omega) | (simp; omega)), ?_⟩ | (intro ep) | (refine ifB (fun hb => ?_) (fun hb => ?_) <;> (try simp only [decide_eq_true_eq, decide_eq_false_iff_not, beq_iff_eq, beq_eq_false_iff_ne, bne_iff_ne, bne_eq_false_iff_eq, ne_eq, not_false_eq_true, not_true_eq_false, Bool.not_eq_true, Bool.not_eq_true', Bool.not_eq_false', Int.not_lt, Int.not_le] at hb) <;> (try simp (disch := omega) only [wrapI] at hb) <;> (try (exfalso; omega))) | fail)))
              all_goals (conv => whnf)
              all_goals exact back_of () ⟨rfl, rfl, rfl⟩
          · rintro ⟨⟩
          · rintro ⟨⟩
            (repeat' (first | exact rfl | ((conv => whnf); first | exact rfl | exact ⟨rfl, rfl⟩ | refine ⟨(by kernel_rfl : drawOk _ _ _ _ = true), ?_⟩ | refine ⟨(by kernel_rfl : planOk _ _ _ _ = true), ?_⟩ | refine ⟨rfl, ?_⟩ | refine ⟨by (first | omega | (simp (disch := omega) only [wrapI]; omega) | (simp (disch := omega) only [wrapI]; simp; omega) | (simp; omega)), ?_⟩ | (intro ep) | fail)))
            all_goals (conv => whnf)
            all_goals exact back_of ⟨i + 1, by omega⟩ ⟨by (first | exact rfl | (simp (disch := omega) only [wrapI]; exact rfl)), rfl, by dsimp only; omega⟩
        · (repeat' (first | exact rfl | ((conv => whnf); first | exact rfl | exact ⟨rfl, rfl⟩ | refine ⟨(by kernel_rfl : drawOk _ _ _ _ = true), ?_⟩ | refine ⟨(by kernel_rfl : planOk _ _ _ _ = true), ?_⟩ | refine ⟨rfl, ?_⟩ | refine ⟨by (first | omega | (simp (disch := omega) only [wrapI]; omega) | (simp (disch := omega) only [wrapI]; simp; omega) | (simp; omega)), ?_⟩ | (intro ep) | (refine ifB (fun hb => ?_) (fun hb => ?_) <;> (try simp only [decide_eq_true_eq, decide_eq_false_iff_not, beq_iff_eq, beq_eq_false_iff_ne, bne_iff_ne, bne_eq_false_iff_eq, ne_eq, not_false_eq_true, not_true_eq_false, Bool.not_eq_true, Bool.not_eq_true', Bool.not_eq_false', Int.not_lt, Int.not_le] at hb) <;> (try simp (disch := omega) only [wrapI] at hb) <;> (try (exfalso; omega))) | fail)))
          all_goals (conv => whnf)
          all_goals exact back_of () ⟨rfl, rfl, rfl⟩
      · rintro ⟨⟩
      · rintro ⟨⟩
        (repeat' (first | exact rfl | ((conv => whnf); first | exact rfl | exact ⟨rfl, rfl⟩ | refine ⟨(by kernel_rfl : drawOk _ _ _ _ = true), ?_⟩ | refine ⟨(by kernel_rfl : planOk _ _ _ _ = true), ?_⟩ | refine ⟨rfl, ?_⟩ | refine ⟨by (first | omega | (simp (disch := omega) only [wrapI]; omega) | (simp (disch := omega) only [wrapI]; simp; omega) | (simp; omega)), ?_⟩ | (intro ep) | fail)))
        all_goals (conv => whnf)
        refine loopY ok mixed (A := A9) [3, 5, 13] [] (S := { i : Nat // i ≤ M.length })
          (fr := fun s => frOf 0 229 [(3, ntsA N), (5, prsA M), (13, .int .i64 (s.1 : Int))])
          (h := fun s => ⟨[.hole], []⟩) (μ := fun s => M.length - s.1) ⟨0, Nat.zero_le _⟩ ?_ ?_
          [] [] (S' := Unit) (X := fun _ => 8) (frX := fun s => frOf 0 229 []) (hX := fun s => ⟨[.hole], []⟩)
          [] [] (S2 := Empty) (frR := fun s => frOf 0 229 []) (hR := fun s => ⟨[], []⟩) ?_ ?_ ?_
        · exact rfl
        · exact rfl
        · rintro ⟨i, hi⟩
          show aexR _ _ _ (frOf 0 229 [(3, ntsA N), (5, prsA M), (13, .int .i64 (i : Int))]) ⟨[.hole], []⟩ _
          by_cases g : i < M.length
          · have hmi := mapR (f := prR) g
            obtain ⟨q1, q2⟩ := hpm M[i] (List.getElem_mem g)
            generalize M[i] = m at hmi q1 q2
            obtain ⟨me, mc, mf, mr, mt⟩ := m
            dsimp only at q1
            (repeat' (first | exact rfl | ((conv => whnf); first | exact rfl | exact ⟨rfl, rfl⟩ | refine ⟨(by kernel_rfl : drawOk _ _ _ _ = true), ?_⟩ | refine ⟨(by kernel_rfl : planOk _ _ _ _ = true), ?_⟩ | refine ⟨rfl, ?_⟩ | refine ⟨by (first | omega | (simp (disch := omega) only [wrapI]; omega) | (simp (disch := omega) only [wrapI]; simp; omega) | (simp; omega)), ?_⟩ | (intro ep) | (refine ifB (fun hb => ?_) (fun hb => ?_) <;> (try simp only [decide_eq_true_eq, decide_eq_false_iff_not, beq_iff_eq, beq_eq_false_iff_ne, bne_iff_ne, bne_eq_false_iff_eq, ne_eq, not_false_eq_true, not_true_eq_false, Bool.not_eq_true, Bool.not_eq_true', Bool.not_eq_false', Int.not_lt, Int.not_le] at hb) <;> (try simp (disch := omega) only [wrapI] at hb) <;> (try (exfalso; omega))) | fail)))
            all_goals (conv => whnf)
            refine loopY ok mixed (A := A9) [3, 5, 13, 14, 15] [] (S := { z : Nat × Bool // z.1 ≤ N.length ∧ (z.2 || (N.drop z.1).any (mate ⟨me, mc, mf, mr, mt⟩)) = true })
              (fr := fun s => frOf 0 229 [(3, ntsA N), (5, prsA M), (13, .int .i64 (i : Int)), (14, .bool s.1.2), (15, .int .i64 (s.1.1 : Int))])
              (h := fun s => ⟨[.hole], []⟩) (μ := fun s => N.length - s.1.1) ⟨(0, false), Nat.zero_le _, by simpa using q2⟩ ?_ ?_
              [3, 5, 13, 14] [] (S' := Unit) (X := fun _ => 10) (frX := fun s => frOf 0 229 [(3, ntsA N), (5, prsA M), (13, .int .i64 (i : Int)), (14, .bool true)]) (hX := fun s => ⟨[.hole], []⟩)
              [] [] (S2 := Empty) (frR := fun s => frOf 0 229 []) (hR := fun s => ⟨[], []⟩) ?_ ?_ ?_
            · exact rfl
            · exact rfl
            · rintro ⟨⟨k, b⟩, hk, hq⟩
              dsimp only at hk hq
              show aexR _ _ _ (frOf 0 229 [(3, ntsA N), (5, prsA M), (13, .int .i64 (i : Int)), (14, .bool b), (15, .int .i64 (k : Int))]) ⟨[.hole], []⟩ _
              by_cases g2 : k < N.length
              · have hmk := mapR (f := ntR) g2
                rw [List.drop_eq_getElem_cons g2, List.any_cons, ← Bool.or_assoc] at hq
                generalize N[k] = y at hmk hq
                obtain ⟨ye, yc, yp, yf, yt⟩ := y
                have hmt : mate ⟨me, mc, mf, mr, mt⟩ ⟨ye, yc, yp, yf, yt⟩ = (decide (ye = me) && (decide (yc = mc) && (decide (yf = mr) && decide (yt = mt)))) := rfl
                rw [hmt] at hq
                clear hmt
                cases b with
                | true =>
                  (repeat' (first | exact rfl | ((conv => whnf); first | refine optS hmi ?_ | refine optS hmk ?_ | exact rfl | exact ⟨rfl, rfl⟩ | refine ⟨(by kernel_rfl : drawOk _ _ _ _ = true), ?_⟩ | refine ⟨(by kernel_rfl : planOk _ _ _ _ = true), ?_⟩ | refine ⟨rfl, ?_⟩ | refine ⟨by (first | omega | (simp (disch := omega) only [wrapI]; omega) | (simp (disch := omega) only [wrapI]; simp; omega) | (simp; omega)), ?_⟩ | (intro ep) | (refine ifB (fun hb => ?_) (fun hb => ?_) <;> (try simp only [decide_eq_true_eq, decide_eq_false_iff_not, beq_iff_eq, beq_eq_false_iff_ne, bne_iff_ne, bne_eq_false_iff_eq, ne_eq, not_false_eq_true, not_true_eq_false, Bool.not_eq_true, Bool.not_eq_true', Bool.not_eq_false', Int.not_lt, Int.not_le] at hb) <;> (try simp (disch := omega) only [wrapI] at hb) <;> (try (exfalso; omega))) | fail)))
                  all_goals (conv => whnf)
                  all_goals exact back_of ⟨(k + 1, true), by dsimp only; omega, rfl⟩ ⟨by (first | exact rfl | (simp (disch := omega) only [wrapI]; exact rfl)), rfl, by dsimp only; omega⟩
                | false =>
                  by_cases c1 : ye = me ∧ yc = mc ∧ yf = mr
                  · obtain ⟨rfl, rfl, rfl⟩ := c1
                    by_cases c4 : yt = mt
                    · (repeat' (first | exact rfl | ((conv => whnf); first | refine optS hmi ?_ | refine optS hmk ?_ | exact rfl | exact ⟨rfl, rfl⟩ | refine ⟨(by kernel_rfl : drawOk _ _ _ _ = true), ?_⟩ | refine ⟨(by kernel_rfl : planOk _ _ _ _ = true), ?_⟩ | refine ⟨rfl, ?_⟩ | refine ⟨by (first | omega | (simp (disch := omega) only [wrapI]; omega) | (simp (disch := omega) only [wrapI]; simp; omega) | (simp; omega)), ?_⟩ | (intro ep) | (refine ifB (fun hb => ?_) (fun hb => ?_) <;> (try simp only [decide_eq_true_eq, decide_eq_false_iff_not, beq_iff_eq, beq_eq_false_iff_ne, bne_iff_ne, bne_eq_false_iff_eq, ne_eq, not_false_eq_true, not_true_eq_false, Bool.not_eq_true, Bool.not_eq_true', Bool.not_eq_false', Int.not_lt, Int.not_le] at hb) <;> (try simp (disch := omega) only [wrapI] at hb) <;> (try (exfalso; omega))) | fail)))
                      all_goals (first | (exfalso; omega) | skip)
                      all_goals (conv => whnf)
                      all_goals refine back_of ⟨(k + 1, true), by dsimp only; omega, rfl⟩ ⟨?_, rfl, by dsimp only; omega⟩
                      all_goals (show maskF 0 _ _ = frOf 0 229 [(3, ntsA N), (5, prsA M), (13, .int .i64 (i : Int)), (14, .bool true), (15, .int .i64 ((k + 1 : Nat) : Int))]; rw [← decide_eq_true c4]; (first | exact rfl | (simp (disch := omega) only [wrapI]; exact rfl)))
                    · have hq2 : (false || (N.drop (k + 1)).any (mate ⟨ye, yc, mf, yf, mt⟩)) = true := by
                        rw [show (decide (ye = ye) && (decide (yc = yc) && (decide (yf = yf) && decide (yt = mt)))) = false by simp [c4]] at hq
                        simpa using hq
                      (repeat' (first | exact rfl | ((conv => whnf); first | refine optS hmi ?_ | refine optS hmk ?_ | exact rfl | exact ⟨rfl, rfl⟩ | refine ⟨(by kernel_rfl : drawOk _ _ _ _ = true), ?_⟩ | refine ⟨(by kernel_rfl : planOk _ _ _ _ = true), ?_⟩ | refine ⟨rfl, ?_⟩ | refine ⟨by (first | omega | (simp (disch := omega) only [wrapI]; omega) | (simp (disch := omega) only [wrapI]; simp; omega) | (simp; omega)), ?_⟩ | (intro ep) | (refine ifB (fun hb => ?_) (fun hb => ?_) <;> (try simp only [decide_eq_true_eq, decide_eq_false_iff_not, beq_iff_eq, beq_eq_false_iff_ne, bne_iff_ne, bne_eq_false_iff_eq, ne_eq, not_false_eq_true, not_true_eq_false, Bool.not_eq_true, Bool.not_eq_true', Bool.not_eq_false', Int.not_lt, Int.not_le] at hb) <;> (try simp (disch := omega) only [wrapI] at hb) <;> (try (exfalso; omega))) | fail)))
                      all_goals (first | (exfalso; omega) | skip)
                      all_goals (conv => whnf)
                      all_goals refine back_of ⟨(k + 1, false), by dsimp only; omega, hq2⟩ ⟨?_, rfl, by dsimp only; omega⟩
                      all_goals (show maskF 0 _ _ = frOf 0 229 [(3, ntsA N), (5, prsA M), (13, .int .i64 (i : Int)), (14, .bool false), (15, .int .i64 ((k + 1 : Nat) : Int))]; rw [← decide_eq_false c4]; (first | exact rfl | (simp (disch := omega) only [wrapI]; exact rfl)))
                  · have hq2 : (false || (N.drop (k + 1)).any (mate ⟨me, mc, mf, mr, mt⟩)) = true := by
                      rw [show (decide (ye = me) && (decide (yc = mc) && (decide (yf = mr) && decide (yt = mt)))) = false by
                        cases hd : (decide (ye = me) && (decide (yc = mc) && (decide (yf = mr) && decide (yt = mt))))
                        · rfl
                        · exfalso; simp only [Bool.and_eq_true, decide_eq_true_eq] at hd; exact c1 ⟨hd.1, hd.2.1, hd.2.2.1⟩] at hq
                      simpa using hq
                    (repeat' (first | exact rfl | ((conv => whnf); first | refine optS hmi ?_ | refine optS hmk ?_ | exact rfl | exact ⟨rfl, rfl⟩ | refine ⟨(by kernel_rfl : drawOk _ _ _ _ = true), ?_⟩ | refine ⟨(by kernel_rfl : planOk _ _ _ _ = true), ?_⟩ | refine ⟨rfl, ?_⟩ | refine ⟨by (first | omega | (simp (disch := omega) only [wrapI]; omega) | (simp (disch := omega) only [wrapI]; simp; omega) | (simp; omega)), ?_⟩ | (intro ep) | (refine ifB (fun hb => ?_) (fun hb => ?_) <;> (try simp only [decide_eq_true_eq, decide_eq_false_iff_not, beq_iff_eq, beq_eq_false_iff_ne, bne_iff_ne, bne_eq_false_iff_eq, ne_eq, not_false_eq_true, not_true_eq_false, Bool.not_eq_true, Bool.not_eq_true', Bool.not_eq_false', Int.not_lt, Int.not_le] at hb) <;> (try simp (disch := omega) only [wrapI] at hb) <;> (try (exfalso; omega))) | fail)))
                    all_goals (first | (exfalso; omega) | skip)
                    all_goals (conv => whnf)
                    all_goals exact back_of ⟨(k + 1, false), by dsimp only; omega, hq2⟩ ⟨by (first | exact rfl | (simp (disch := omega) only [wrapI]; exact rfl)), rfl, by dsimp only; omega⟩
              · rw [List.drop_eq_nil_of_le (by omega), List.any_nil, Bool.or_false] at hq
                subst hq
                (repeat' (first | exact rfl | ((conv => whnf); first | exact rfl | exact ⟨rfl, rfl⟩ | refine ⟨(by kernel_rfl : drawOk _ _ _ _ = true), ?_⟩ | refine ⟨(by kernel_rfl : planOk _ _ _ _ = true), ?_⟩ | refine ⟨rfl, ?_⟩ | refine ⟨by (first | omega | (simp (disch := omega) only [wrapI]; omega) | (simp (disch := omega) only [wrapI]; simp; omega) | (simp; omega)), ?_⟩ | (intro ep) | (refine ifB (fun hb => ?_) (fun hb => ?_) <;> (try simp only [decide_eq_true_eq, decide_eq_false_iff_not, beq_iff_eq, beq_eq_false_iff_ne, bne_iff_ne, bne_eq_false_iff_eq, ne_eq, not_false_eq_true, not_true_eq_false, Bool.not_eq_true, Bool.not_eq_true', Bool.not_eq_false', Int.not_lt, Int.not_le] at hb) <;> (try simp (disch := omega) only [wrapI] at hb) <;> (try (exfalso; omega))) | fail)))
                all_goals (conv => whnf)
                all_goals exact back_of () ⟨rfl, rfl, rfl⟩
            · rintro ⟨⟩
            · rintro ⟨⟩
              (repeat' (first | exact rfl | ((conv => whnf); first | refine optS hmi ?_ | exact rfl | exact ⟨rfl, rfl⟩ | refine ⟨(by kernel_rfl : drawOk _ _ _ _ = true), ?_⟩ | refine ⟨(by kernel_rfl : planOk _ _ _ _ = true), ?_⟩ | refine ⟨rfl, ?_⟩ | refine ⟨by (first | omega | (simp (disch := omega) only [wrapI]; omega) | (simp (disch := omega) only [wrapI]; simp; omega) | (simp; omega)), ?_⟩ | (intro ep) | (refine ifB (fun hb => ?_) (fun hb => ?_) <;> (try simp only [decide_eq_true_eq, decide_eq_false_iff_not, beq_iff_eq, beq_eq_false_iff_ne, bne_iff_ne, bne_eq_false_iff_eq, ne_eq, not_false_eq_true, not_true_eq_false, Bool.not_eq_true, Bool.not_eq_true', Bool.not_eq_false', Int.not_lt, Int.not_le] at hb) <;> (try simp (disch := omega) only [wrapI] at hb) <;> (try (exfalso; omega))) | fail)))
              all_goals (conv => whnf)
              all_goals exact back_of ⟨i + 1, by omega⟩ ⟨by (first | exact rfl | (simp (disch := omega) only [wrapI]; exact rfl)), rfl, by dsimp only; omega⟩
          · (repeat' (first | exact rfl | ((conv => whnf); first | exact rfl | exact ⟨rfl, rfl⟩ | refine ⟨(by kernel_rfl : drawOk _ _ _ _ = true), ?_⟩ | refine ⟨(by kernel_rfl : planOk _ _ _ _ = true), ?_⟩ | refine ⟨rfl, ?_⟩ | refine ⟨by (first | omega | (simp (disch := omega) only [wrapI]; omega) | (simp (disch := omega) only [wrapI]; simp; omega) | (simp; omega)), ?_⟩ | (intro ep) | (refine ifB (fun hb => ?_) (fun hb => ?_) <;> (try simp only [decide_eq_true_eq, decide_eq_false_iff_not, beq_iff_eq, beq_eq_false_iff_ne, bne_iff_ne, bne_eq_false_iff_eq, ne_eq, not_false_eq_true, not_true_eq_false, Bool.not_eq_true, Bool.not_eq_true', Bool.not_eq_false', Int.not_lt, Int.not_le] at hb) <;> (try simp (disch := omega) only [wrapI] at hb) <;> (try (exfalso; omega))) | fail)))
            all_goals (conv => whnf)
            all_goals exact back_of () ⟨rfl, rfl, rfl⟩
        · rintro ⟨⟩
        · rintro ⟨⟩
          (repeat' (first | exact rfl | ((conv => whnf); first | refine ⟨_, works_spec, ?_⟩ | exact rfl | exact ⟨rfl, rfl⟩ | refine ⟨(by kernel_rfl : drawOk _ _ _ _ = true), ?_⟩ | refine ⟨(by kernel_rfl : planOk _ _ _ _ = true), ?_⟩ | refine ⟨rfl, ?_⟩ | refine ⟨by (first | omega | (simp (disch := omega) only [wrapI]; omega) | (simp (disch := omega) only [wrapI]; simp; omega) | (simp; omega)), ?_⟩ | (intro ep) | (refine ifB (fun hb => ?_) (fun hb => ?_) <;> (try simp only [decide_eq_true_eq, decide_eq_false_iff_not, beq_iff_eq, beq_eq_false_iff_ne, bne_iff_ne, bne_eq_false_iff_eq, ne_eq, not_false_eq_true, not_true_eq_false, Bool.not_eq_true, Bool.not_eq_true', Bool.not_eq_false', Int.not_lt, Int.not_le] at hb) <;> (try simp (disch := omega) only [wrapI] at hb) <;> (try (exfalso; omega))) | fail)))
end Go.Ab.V
