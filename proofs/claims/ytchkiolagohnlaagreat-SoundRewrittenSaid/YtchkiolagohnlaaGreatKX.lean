/-
  What is proved here serves the law's text: each part says its own claim and its conditions. No condition is left open.
-/
import Derived.Test.YtchkiolagohnlaaGreatKO
import Derived.Test.YtchkiolagohnlaaGreatKW
set_option linter.unusedSimpArgs false
set_option linter.unusedVariables false

/-
  The document's check of a piece. The pieces have at most 4000 events.
-/
namespace Go.Ab.V
open Go.Proofs

def A15 : Ann := fun r => match r with
  | 0 => { slots := [(0, 0)] }
  | 15 => { slots := [(5, 1)] }
  | _ => {}

theorem high_of (i : Ins) (c : Crs) (h1 : chkSteps 0 i.steps = true) (h2 : ¬ (c.frets < 0 ∨ (i.steps.length : Int) < c.frets)) (hl : i.steps.length ≤ 18) :
    ∃ x, (0 < c.frets → (ints i.steps)[0 + (c.frets - 1).toNat]? = some [.int .i64 x]) ∧ highest i.steps c = c.pitch + (if 0 < c.frets then x else 0) + (if c.oct = true then 12 else 0) ∧ 0 < x ∧ x ≤ 127 := by
  by_cases h : 0 < c.frets
  · have hlt : (c.frets - 1).toNat < i.steps.length := by omega
    refine ⟨i.steps[(c.frets - 1).toNat], fun _ => ?_, ?_, ?_⟩
    · rw [Nat.zero_add]
      simp [ints, hlt]
    · unfold highest
      rw [List.getD, List.getElem?_eq_getElem hlt]; rfl
    · exact chkSteps_bd _ _ h1 _ (List.getElem_mem hlt)
  · exact ⟨1, fun x => absurd x h, by unfold highest; rw [if_neg h, if_neg h], by omega, by omega⟩

set_option maxHeartbeats 2000000 in
set_option maxRecDepth 100000 in
theorem refInCheck_spec (i : Ins) : PRet C.P 15 [inA i] (.int .i64 (chkIn i)) := by
  refine pret_of ok mixed (A := A15) 2 Tryz.func15 rfl ?_
  (repeat' (first | exact rfl | ((conv => whnf); first | exact rfl | refine ⟨by kernel_rfl, ?_⟩ | exact ⟨rfl, rfl⟩ | refine ⟨rfl, ?_⟩ | refine ⟨by (first | omega | (simp (disch := omega) only [wrapI]; omega) | (simp (disch := omega) only [wrapI]; simp; omega) | (simp; omega)), ?_⟩ | (intro ep) | (refine ifB (fun hb => ?_) (fun hb => ?_) <;> (try simp only [decide_eq_true_eq, decide_eq_false_iff_not, beq_iff_eq, beq_eq_false_iff_ne, bne_iff_ne, bne_eq_false_iff_eq, ne_eq, not_false_eq_true, not_true_eq_false, Bool.not_eq_true, Bool.not_eq_true', Bool.not_eq_false', Int.not_lt, Int.not_le] at hb) <;> (try simp (disch := omega) only [wrapI] at hb) <;> (try (exfalso; omega))) | fail)))
  · unfold chkIn; rw [if_pos (by omega)]
  · unfold chkIn; rw [if_pos (by omega)]
  · unfold chkIn; rw [if_neg (by omega), if_pos (by omega)]
  obtain ⟨e0, he0⟩ : ∃ e0, e0 = ep := ⟨_, rfl⟩
  subst he0
  (conv => whnf)
  refine loopM ok mixed (A := A15) [1, 3, 4] [0] (S := { x : Nat × Int // x.1 ≤ i.steps.length ∧ chkSteps x.2 (i.steps.drop x.1) = chkSteps 0 i.steps })
    (fr := fun s => frOf 0 100 [(1, .optr (.s 0) e0 2 0 0), (3, .int .i64 s.1.2), (4, .int .i64 (s.1.1 : Int))])
    (h := fun s => ⟨[.vec e0 [[crsA i.cs, intsA i.steps]], .hole], []⟩) (μ := fun s => i.steps.length - s.1.1) ⟨(0, 0), by omega, rfl⟩ rfl rfl ?_
  rintro ⟨⟨k, last⟩, hk, hs⟩
  simp only at hk hs
  show aexR _ _ _ (frOf 0 100 [(1, .optr (.s 0) e0 2 0 0), (3, .int .i64 last), (4, .int .i64 (k : Int))]) ⟨[.vec e0 [[crsA i.cs, intsA i.steps]], .hole], []⟩ _
  (conv => whnf)
  refine ⟨rfl, ?_⟩
  (conv => whnf)
  refine ifB (fun h1 => ?_) (fun h1 => ?_)
  · simp only [decide_eq_true_eq] at h1
    have hlt : k < i.steps.length := by omega
    rw [drop_at hlt] at hs
    simp only [chkSteps] at hs
    (repeat' (first | exact rfl | ((conv => whnf); first | exact rfl | refine ⟨by kernel_rfl, ?_⟩ | exact ⟨rfl, rfl⟩ | refine ⟨rfl, ?_⟩ | refine ⟨by (first | omega | (simp (disch := omega) only [wrapI]; omega) | (simp (disch := omega) only [wrapI]; simp; omega) | (simp; omega)), ?_⟩ | (intro ep) | refine optS (intsR hlt) ?_ | (refine ifB (fun hb => ?_) (fun hb => ?_) <;> (try simp only [decide_eq_true_eq, decide_eq_false_iff_not, beq_iff_eq, beq_eq_false_iff_ne, bne_iff_ne, bne_eq_false_iff_eq, ne_eq, not_false_eq_true, not_true_eq_false, Bool.not_eq_true, Bool.not_eq_true', Bool.not_eq_false', Int.not_lt, Int.not_le] at hb) <;> (try simp (disch := omega) only [wrapI] at hb) <;> (try (exfalso; omega))) | fail)))
    · rw [decide_eq_false (by omega)] at hs
      unfold chkIn; rw [if_neg (by omega), if_neg (by omega), if_pos (by rw [← hs]; simp)]
    · rw [decide_eq_false (show ¬ i.steps[k] ≤ 127 by omega)] at hs
      unfold chkIn; rw [if_neg (by omega), if_neg (by omega), if_pos (by rw [← hs]; simp)]
    · rw [decide_eq_true (by omega), decide_eq_true (by omega)] at hs
      refine back_of ⟨(k + 1, i.steps[k]), by omega, by simpa using hs⟩ ⟨by (first | exact rfl | (simp (disch := omega) only [wrapI]; exact rfl)), rfl, by simp only; omega⟩
  simp only [decide_eq_false_iff_not] at h1
  have hS : chkSteps 0 i.steps = true := by rw [← hs, List.drop_eq_nil_of_le (by omega)]; rfl
  (repeat' (first | exact rfl | ((conv => whnf); first | exact rfl | refine ⟨by kernel_rfl, ?_⟩ | exact ⟨rfl, rfl⟩ | refine ⟨rfl, ?_⟩ | refine ⟨by (first | omega | (simp (disch := omega) only [wrapI]; omega) | (simp (disch := omega) only [wrapI]; simp; omega) | (simp; omega)), ?_⟩ | (intro ep) | (refine ifB (fun hb => ?_) (fun hb => ?_) <;> (try simp only [decide_eq_true_eq, decide_eq_false_iff_not, beq_iff_eq, beq_eq_false_iff_ne, bne_iff_ne, bne_eq_false_iff_eq, ne_eq, not_false_eq_true, not_true_eq_false, Bool.not_eq_true, Bool.not_eq_true', Bool.not_eq_false', Int.not_lt, Int.not_le] at hb) <;> (try simp (disch := omega) only [wrapI] at hb) <;> (try (exfalso; omega))) | fail)))
  (conv => whnf)
  refine loopM ok mixed (A := A15) [1, 5] [0] (S := { k : Nat // k ≤ i.cs.length ∧ chkCs i.steps (i.cs.drop k) = chkCs i.steps i.cs })
    (fr := fun s => frOf 0 100 [(1, .optr (.s 0) e0 2 0 0), (5, .int .i64 (s.1 : Int))])
    (h := fun s => ⟨[.vec e0 [[crsA i.cs, intsA i.steps]], .hole], []⟩) (μ := fun s => i.cs.length - s.1) ⟨0, by omega, rfl⟩ rfl rfl ?_
  have hA : chkIn i = chkCs i.steps i.cs := by unfold chkIn; rw [if_neg (by omega), if_neg (by omega), if_neg (by rw [hS]; simp)]
  rw [hA]
  clear hs
  rintro ⟨k, hk, hs⟩
  show aexR _ _ _ (frOf 0 100 [(1, .optr (.s 0) e0 2 0 0), (5, .int .i64 (k : Int))]) ⟨[.vec e0 [[crsA i.cs, intsA i.steps]], .hole], []⟩ _
  (conv => whnf)
  refine ⟨rfl, ?_⟩
  (conv => whnf)
  refine ifB (fun h2 => ?_) (fun h2 => ?_)
  · simp only [decide_eq_true_eq] at h2
    have hlt : k < i.cs.length := by omega
    obtain ⟨c, hc⟩ : ∃ c, i.cs[k] = c := ⟨_, rfl⟩
    have hm : (i.cs.map crR)[0 + ((k : Nat) : Int).toNat]? = some (crR c) := by rw [mapR hlt, hc]
    rw [drop_at hlt, hc] at hs
    simp only [chkCs] at hs
    by_cases g1 : c.frets < 0 ∨ (i.steps.length : Int) < c.frets
    · rw [if_pos g1] at hs
      (repeat' (first | exact rfl | ((conv => whnf); first | exact rfl | refine ⟨by kernel_rfl, ?_⟩ | exact ⟨rfl, rfl⟩ | refine ⟨rfl, ?_⟩ | refine ⟨by (first | omega | (simp (disch := omega) only [wrapI]; omega) | (simp (disch := omega) only [wrapI]; simp; omega) | (simp; omega)), ?_⟩ | (intro ep) | refine optS hm ?_ | (refine ifB (fun hb => ?_) (fun hb => ?_) <;> (try simp only [decide_eq_true_eq, decide_eq_false_iff_not, beq_iff_eq, beq_eq_false_iff_ne, bne_iff_ne, bne_eq_false_iff_eq, ne_eq, not_false_eq_true, not_true_eq_false, Bool.not_eq_true, Bool.not_eq_true', Bool.not_eq_false', Int.not_lt, Int.not_le] at hb) <;> (try simp (disch := omega) only [wrapI] at hb) <;> (try (exfalso; omega))) | fail)))
      all_goals exact congrArg (AV.int .i64) hs
    rw [if_neg g1] at hs
    obtain ⟨x, x1, x2, x3, x4⟩ := high_of i c hS g1 (by omega)
    by_cases g2 : c.pitch < 0 ∨ 127 < c.pitch
    · rw [if_pos (by omega)] at hs
      (repeat' (first | exact rfl | ((conv => whnf); first | exact rfl | refine ⟨by kernel_rfl, ?_⟩ | exact ⟨rfl, rfl⟩ | refine ⟨rfl, ?_⟩ | refine ⟨by (first | omega | (simp (disch := omega) only [wrapI]; omega) | (simp (disch := omega) only [wrapI]; simp; omega) | (simp; omega)), ?_⟩ | (intro ep) | refine optS hm ?_ | (refine ifB (fun hb => ?_) (fun hb => ?_) <;> (try simp only [decide_eq_true_eq, decide_eq_false_iff_not, beq_iff_eq, beq_eq_false_iff_ne, bne_iff_ne, bne_eq_false_iff_eq, ne_eq, not_false_eq_true, not_true_eq_false, Bool.not_eq_true, Bool.not_eq_true', Bool.not_eq_false', Int.not_lt, Int.not_le] at hb) <;> (try simp (disch := omega) only [wrapI] at hb) <;> (try (exfalso; omega))) | fail)))
      all_goals exact congrArg (AV.int .i64) hs
    by_cases g3 : 0 < c.frets
    · replace x1 := x1 g3
      rw [if_pos g3] at x2
      (repeat' (first | exact rfl | ((conv => whnf); first | exact rfl | refine ⟨by kernel_rfl, ?_⟩ | exact ⟨rfl, rfl⟩ | refine ⟨rfl, ?_⟩ | refine ⟨by (first | omega | (simp (disch := omega) only [wrapI]; omega) | (simp (disch := omega) only [wrapI]; simp; omega) | (simp; omega)), ?_⟩ | (intro ep) | refine optS hm ?_ | refine optS (by (try simp (disch := omega) only [wrapI]); exact x1) ?_ | (refine ifB (fun hb => ?_) (fun hb => ?_) <;> (try simp only [decide_eq_true_eq, decide_eq_false_iff_not, beq_iff_eq, beq_eq_false_iff_ne, bne_iff_ne, bne_eq_false_iff_eq, ne_eq, not_false_eq_true, not_true_eq_false, Bool.not_eq_true, Bool.not_eq_true', Bool.not_eq_false', Int.not_lt, Int.not_le] at hb) <;> (try simp (disch := omega) only [wrapI] at hb) <;> (try (exfalso; omega))) | fail)))
      all_goals first
        | (have hH : 127 < highest i.steps c := by
             rw [x2]
             split <;> first | omega | (exfalso; simp_all; done)
           rw [if_pos (.inr (.inr hH))] at hs
           exact congrArg (AV.int .i64) hs)
        | (have hH : ¬ (c.pitch < 0 ∨ 127 < c.pitch ∨ 127 < highest i.steps c) := by
             rw [x2]
             split <;> first | omega | (exfalso; simp_all; done)
           rw [if_neg hH] at hs
           (conv => whnf)
           refine back_of ⟨k + 1, by omega, hs⟩ ⟨by (first | exact rfl | (simp (disch := omega) only [wrapI]; exact rfl)), rfl, by simp only; omega⟩)
    · rw [if_neg g3] at x2
      (repeat' (first | exact rfl | ((conv => whnf); first | exact rfl | refine ⟨by kernel_rfl, ?_⟩ | exact ⟨rfl, rfl⟩ | refine ⟨rfl, ?_⟩ | refine ⟨by (first | omega | (simp (disch := omega) only [wrapI]; omega) | (simp (disch := omega) only [wrapI]; simp; omega) | (simp; omega)), ?_⟩ | (intro ep) | refine optS hm ?_ | (refine ifB (fun hb => ?_) (fun hb => ?_) <;> (try simp only [decide_eq_true_eq, decide_eq_false_iff_not, beq_iff_eq, beq_eq_false_iff_ne, bne_iff_ne, bne_eq_false_iff_eq, ne_eq, not_false_eq_true, not_true_eq_false, Bool.not_eq_true, Bool.not_eq_true', Bool.not_eq_false', Int.not_lt, Int.not_le] at hb) <;> (try simp (disch := omega) only [wrapI] at hb) <;> (try (exfalso; omega))) | fail)))
      all_goals first
        | (have hH : 127 < highest i.steps c := by
             rw [x2]
             split <;> first | omega | (exfalso; simp_all; done)
           rw [if_pos (.inr (.inr hH))] at hs
           exact congrArg (AV.int .i64) hs)
        | (have hH : ¬ (c.pitch < 0 ∨ 127 < c.pitch ∨ 127 < highest i.steps c) := by
             rw [x2]
             split <;> first | omega | (exfalso; simp_all; done)
           rw [if_neg hH] at hs
           (conv => whnf)
           refine back_of ⟨k + 1, by omega, hs⟩ ⟨by (first | exact rfl | (simp (disch := omega) only [wrapI]; exact rfl)), rfl, by simp only; omega⟩)
  · simp only [decide_eq_false_iff_not] at h2
    have h0 : chkCs i.steps i.cs = 0 := by rw [← hs, List.drop_eq_nil_of_le (by omega)]; rfl
    (repeat' (first | exact rfl | ((conv => whnf); first | exact rfl | refine ⟨by kernel_rfl, ?_⟩ | exact ⟨rfl, rfl⟩ | refine ⟨rfl, ?_⟩ | refine ⟨by (first | omega | (simp (disch := omega) only [wrapI]; omega) | (simp (disch := omega) only [wrapI]; simp; omega) | (simp; omega)), ?_⟩ | (intro ep) | (refine ifB (fun hb => ?_) (fun hb => ?_) <;> (try simp only [decide_eq_true_eq, decide_eq_false_iff_not, beq_iff_eq, beq_eq_false_iff_ne, bne_iff_ne, bne_eq_false_iff_eq, ne_eq, not_false_eq_true, not_true_eq_false, Bool.not_eq_true, Bool.not_eq_true', Bool.not_eq_false', Int.not_lt, Int.not_le] at hb) <;> (try simp (disch := omega) only [wrapI] at hb) <;> (try (exfalso; omega))) | fail)))
    rw [h0]

def A36 : Ann := fun r => match r with
  | 0 => { slots := [(0, 0)] }
  | 5 => { slots := [(8, 1)] }
  | _ => {}

set_option maxHeartbeats 1000000 in
set_option maxRecDepth 100000 in
theorem refLongest_spec (p : Pc) (hp : p.Ok) (hl : p.evs.length ≤ 4000) (ev c : Int) : PRet C.P 36 [pcA p, .int .i64 ev, .int .i64 c] (.int .i64 (longest p.evs ev c)) := by
  refine pret_of ok mixed (A := A36) 2 Tryz.func36 rfl ?_
  (repeat' (first | exact rfl | ((conv => whnf); first | exact rfl | refine ⟨by kernel_rfl, ?_⟩ | exact ⟨rfl, rfl⟩ | refine ⟨rfl, ?_⟩ | refine ⟨by (first | omega | (simp (disch := omega) only [wrapI]; omega) | (simp (disch := omega) only [wrapI]; simp; omega) | (simp; omega)), ?_⟩ | (intro ep) | (refine ifB (fun hb => ?_) (fun hb => ?_) <;> (try simp only [decide_eq_true_eq, decide_eq_false_iff_not, beq_iff_eq, beq_eq_false_iff_ne, bne_iff_ne, bne_eq_false_iff_eq, ne_eq, not_false_eq_true, not_true_eq_false, Bool.not_eq_true, Bool.not_eq_true', Bool.not_eq_false', Int.not_lt, Int.not_le] at hb) <;> (try simp (disch := omega) only [wrapI] at hb) <;> (try (exfalso; omega))) | fail)))
  · unfold longest; rw [if_pos (by omega)]
  · unfold longest; rw [if_pos (by omega)]
  obtain ⟨n, rfl⟩ : ∃ n : Nat, ev = n := ⟨ev.toNat, by omega⟩
  have hA : longest p.evs n c = ((longL c 15 (p.evs.drop (n + 1)) : Nat) : Int) := by unfold longest; rw [if_neg (by omega)]; rfl
  rw [hA]
  obtain ⟨e0, he⟩ : ∃ e0, e0 = ep := ⟨_, rfl⟩
  subst he
  (repeat' (first | exact rfl | ((conv => whnf); first | exact rfl | refine ⟨by kernel_rfl, ?_⟩ | exact ⟨rfl, rfl⟩ | refine ⟨rfl, ?_⟩ | refine ⟨by (first | omega | (simp (disch := omega) only [wrapI]; omega) | (simp (disch := omega) only [wrapI]; simp; omega) | (simp; omega)), ?_⟩ | (intro ep) | (refine ifB (fun hb => ?_) (fun hb => ?_) <;> (try simp only [decide_eq_true_eq, decide_eq_false_iff_not, beq_iff_eq, beq_eq_false_iff_ne, bne_iff_ne, bne_eq_false_iff_eq, ne_eq, not_false_eq_true, not_true_eq_false, Bool.not_eq_true, Bool.not_eq_true', Bool.not_eq_false', Int.not_lt, Int.not_le] at hb) <;> (try simp (disch := omega) only [wrapI] at hb) <;> (try (exfalso; omega))) | fail)))
  (conv => whnf)
  refine loopM ok mixed (A := A36) [1, 2, 3, 7] [0] (S := { k : Nat // k ≤ p.evs.length - (n + 1) ∧ k ≤ 15 ∧ longL c (15 - k) (p.evs.drop (n + 1 + k)) + k = longL c 15 (p.evs.drop (n + 1)) })
    (fr := fun s => frOf 0 48 [(1, .int .i64 (n : Int)), (2, .int .i64 c), (3, .optr (.s 0) e0 3 0 0), (7, .int .i64 (s.1 : Int))])
    (h := fun s => ⟨[.vec e0 [[crsA p.ins.cs, intsA p.ins.steps, evsA p.evs]], .hole], []⟩) (μ := fun s => 15 - s.1) ⟨0, by omega, by omega, rfl⟩ rfl rfl ?_
  rintro ⟨k, hk, hk15, hs⟩
  show aexR _ _ _ (frOf 0 48 [(1, .int .i64 (n : Int)), (2, .int .i64 c), (3, .optr (.s 0) e0 3 0 0), (7, .int .i64 (k : Int))]) ⟨[.vec e0 [[crsA p.ins.cs, intsA p.ins.steps, evsA p.evs]], .hole], []⟩ _
  by_cases h1 : k < 15 ∧ n + 1 + k < p.evs.length
  · obtain ⟨hk1, hlt⟩ := h1
    obtain ⟨e, he⟩ : ∃ e, e = p.evs[n + 1 + k] := ⟨_, rfl⟩
    have hm : (p.evs.map evR)[0 + ((n : Int) + k + 1).toNat]? = some (evR e) := by
      rw [show 0 + ((n : Int) + k + 1).toNat = n + 1 + k by omega, List.getElem?_map, List.getElem?_eq_getElem hlt, he]; rfl
    have hsl : e.stops.length ≤ 9223372036854775807 := hp.sp e (by rw [he]; exact List.getElem_mem hlt)
    rw [drop_at hlt, ← he] at hs
    (repeat' (first | exact rfl | ((conv => whnf); first | exact rfl | refine ⟨by kernel_rfl, ?_⟩ | exact ⟨rfl, rfl⟩ | refine ⟨rfl, ?_⟩ | refine ⟨by (first | omega | (simp (disch := omega) only [wrapI]; omega) | (simp (disch := omega) only [wrapI]; simp; omega) | (simp; omega)), ?_⟩ | (intro ep) | refine optS (by (try simp (disch := omega) only [wrapI]); exact hm) ?_ | refine ⟨_, refRest_spec e, ?_⟩ | refine ⟨_, refHas_spec e c hsl, ?_⟩ | (refine ifB (fun hb => ?_) (fun hb => ?_) <;> (try simp only [decide_eq_true_eq, decide_eq_false_iff_not, beq_iff_eq, beq_eq_false_iff_ne, bne_iff_ne, bne_eq_false_iff_eq, ne_eq, not_false_eq_true, not_true_eq_false, Bool.not_eq_true, Bool.not_eq_true', Bool.not_eq_false', Int.not_lt, Int.not_le] at hb) <;> (try simp (disch := omega) only [wrapI] at hb) <;> (try (exfalso; omega))) | fail)))
    · obtain ⟨m, hm⟩ : ∃ m, 15 - k = m + 1 := ⟨14 - k, by omega⟩
      rw [hm] at hs
      simp only [longL, hb, Bool.true_or, if_true] at hs
      exact congrArg (AV.int .i64) (by omega)
    · rename_i hb1
      obtain ⟨m, hm⟩ : ∃ m, 15 - k = m + 1 := ⟨14 - k, by omega⟩
      rw [hm] at hs
      simp only [longL, hb, Bool.or_true, if_true] at hs
      exact congrArg (AV.int .i64) (by omega)
    · rename_i hb1
      obtain ⟨m, hm⟩ : ∃ m, 15 - k = m + 1 := ⟨14 - k, by omega⟩
      rw [hm] at hs
      simp only [longL, hb, hb1, Bool.or_false, Bool.false_eq_true, if_false] at hs
      (conv => whnf)
      refine back_of ⟨k + 1, by omega, by omega, ?_⟩ ⟨by (first | exact rfl | (simp (disch := omega) only [wrapI]; exact rfl)), rfl, by simp only; omega⟩
      rw [show 15 - (k + 1) = m by omega, show n + 1 + (k + 1) = n + 1 + k + 1 by omega]
      omega
  · have hend : longL c (15 - k) (p.evs.drop (n + 1 + k)) = 0 := by
      rcases Nat.lt_or_ge k 15 with h | h
      · rw [List.drop_eq_nil_of_le (by omega)]
        cases 15 - k <;> rfl
      · rw [show 15 - k = 0 by omega]; cases p.evs.drop (n + 1 + k) <;> rfl
    rw [hend] at hs
    (repeat' (first | exact rfl | ((conv => whnf); first | exact rfl | refine ⟨by kernel_rfl, ?_⟩ | exact ⟨rfl, rfl⟩ | refine ⟨rfl, ?_⟩ | refine ⟨by (first | omega | (simp (disch := omega) only [wrapI]; omega) | (simp (disch := omega) only [wrapI]; simp; omega) | (simp; omega)), ?_⟩ | (intro ep) | (refine ifB (fun hb => ?_) (fun hb => ?_) <;> (try simp only [decide_eq_true_eq, decide_eq_false_iff_not, beq_iff_eq, beq_eq_false_iff_ne, bne_iff_ne, bne_eq_false_iff_eq, ne_eq, not_false_eq_true, not_true_eq_false, Bool.not_eq_true, Bool.not_eq_true', Bool.not_eq_false', Int.not_lt, Int.not_le] at hb) <;> (try simp (disch := omega) only [wrapI] at hb) <;> (try (exfalso; omega))) | fail)))
    all_goals (refine congrArg (AV.int .i64) ?_; omega)

def A16 : Ann := fun r => match r with
  | 0 => { slots := [(0, 0)] }
  | 1 => { slots := [(5, 1)] }
  | 9 => { slots := [(5, 2)] }
  | _ => {}
def lastC (l : List Stp) (j : Nat) : Int := if j = 0 then 0 else (l.getD (j - 1) ⟨0, 0, 0, 0, 0⟩).c

set_option maxHeartbeats 2000000 in
set_option maxRecDepth 100000 in
theorem event_spec (p : Pc) (hp : p.Ok) (hl : p.evs.length ≤ 4000) (k : Nat) (hk : k < p.evs.length) : PRet C.P 16 [pcA p, .int .i64 k] (.int .i64 (chkEv p k p.evs[k])) := by
  have hpc := hp.cs
  obtain ⟨e, hev⟩ : ∃ e, p.evs[k] = e := ⟨_, rfl⟩
  have hm : (p.evs.map evR)[0 + ((k : Nat) : Int).toNat]? = some (evR e) := by rw [mapR hk, hev]
  have hsl : e.stops.length ≤ 9223372036854775807 := hp.sp e (by rw [← hev]; exact List.getElem_mem hk)
  rw [hev]
  have e20 : (right e.v e.d e.t = false ∨ (k = 0 ∧ e.v = 0)) → chkEv p k e = 20 := fun h => by unfold chkEv; rw [if_pos h]
  have e21 : ¬ (right e.v e.d e.t = false ∨ (k = 0 ∧ e.v = 0)) → e.tie = true ∧ (k = 0 ∨ 0 < e.stops.length) → chkEv p k e = 21 := fun h h' => by unfold chkEv; rw [if_neg h, if_pos h']
  have e0' : ¬ (right e.v e.d e.t = false ∨ (k = 0 ∧ e.v = 0)) → ¬ (e.tie = true ∧ (k = 0 ∨ 0 < e.stops.length)) → chkEv p k e = chkStops p k 0 e.stops := fun h h' => by unfold chkEv; rw [if_neg h, if_neg h']
  obtain ⟨bar, v, d, t, tie, stops⟩ := e
  simp only at e20 e21 e0' hsl
  have rs := right_spec v d t
  have hpi := hp.cs
  cases hr : right v d t
  · rw [hr] at rs
    replace e20 := e20 (.inl hr)
    refine pret_of ok mixed (A := A16) 3 Tryz.func16 rfl ?_
    (repeat' (first | exact rfl | ((conv => whnf); first | exact rfl | refine ⟨by kernel_rfl, ?_⟩ | exact ⟨rfl, rfl⟩ | refine ⟨rfl, ?_⟩ | refine ⟨by (first | omega | (simp (disch := omega) only [wrapI]; omega) | (simp (disch := omega) only [wrapI]; simp; omega) | (simp; omega)), ?_⟩ | (intro ep) | refine optS hm ?_ | refine ⟨_, rs, ?_⟩ | (refine ifB (fun hb => ?_) (fun hb => ?_) <;> (try simp only [decide_eq_true_eq, decide_eq_false_iff_not, beq_iff_eq, beq_eq_false_iff_ne, bne_iff_ne, bne_eq_false_iff_eq, ne_eq, not_false_eq_true, not_true_eq_false, Bool.not_eq_true, Bool.not_eq_true', Bool.not_eq_false', Int.not_lt, Int.not_le] at hb) <;> (try simp (disch := omega) only [wrapI] at hb) <;> (try (exfalso; omega))) | fail)))
    all_goals exact congrArg (AV.int .i64) e20.symm
  rw [hr] at rs e20 e21 e0'
  by_cases g1 : k = 0 ∧ v = 0
  · replace e20 := e20 (.inr g1)
    refine pret_of ok mixed (A := A16) 3 Tryz.func16 rfl ?_
    (repeat' (first | exact rfl | ((conv => whnf); first | exact rfl | refine ⟨by kernel_rfl, ?_⟩ | exact ⟨rfl, rfl⟩ | refine ⟨rfl, ?_⟩ | refine ⟨by (first | omega | (simp (disch := omega) only [wrapI]; omega) | (simp (disch := omega) only [wrapI]; simp; omega) | (simp; omega)), ?_⟩ | (intro ep) | refine optS hm ?_ | refine ⟨_, rs, ?_⟩ | (refine ifB (fun hb => ?_) (fun hb => ?_) <;> (try simp only [decide_eq_true_eq, decide_eq_false_iff_not, beq_iff_eq, beq_eq_false_iff_ne, bne_iff_ne, bne_eq_false_iff_eq, ne_eq, not_false_eq_true, not_true_eq_false, Bool.not_eq_true, Bool.not_eq_true', Bool.not_eq_false', Int.not_lt, Int.not_le] at hb) <;> (try simp (disch := omega) only [wrapI] at hb) <;> (try (exfalso; omega))) | fail)))
    all_goals exact congrArg (AV.int .i64) e20.symm
  replace e21 := e21 (by simpa using g1)
  replace e0' := e0' (by simpa using g1)
  refine pret_of ok mixed (A := A16) 3 Tryz.func16 rfl ?_
  (conv => whnf)
  intro e0
  (repeat' (first | exact rfl | ((conv => whnf); first | exact rfl | refine ⟨by kernel_rfl, ?_⟩ | exact ⟨rfl, rfl⟩ | refine ⟨rfl, ?_⟩ | refine ⟨by (first | omega | (simp (disch := omega) only [wrapI]; omega) | (simp (disch := omega) only [wrapI]; simp; omega) | (simp; omega)), ?_⟩ | (intro ep) | refine optS hm ?_ | refine ⟨_, rs, ?_⟩ | (refine ifB (fun hb => ?_) (fun hb => ?_) <;> (try simp only [decide_eq_true_eq, decide_eq_false_iff_not, beq_iff_eq, beq_eq_false_iff_ne, bne_iff_ne, bne_eq_false_iff_eq, ne_eq, not_false_eq_true, not_true_eq_false, Bool.not_eq_true, Bool.not_eq_true', Bool.not_eq_false', Int.not_lt, Int.not_le] at hb) <;> (try simp (disch := omega) only [wrapI] at hb) <;> (try (exfalso; omega))) | fail)))
  all_goals (try (rename_i ht; exact congrArg (AV.int .i64) (e21 ⟨by assumption, by omega⟩).symm))
  all_goals
    have hT : ¬ (tie = true ∧ (k = 0 ∨ 0 < stops.length)) := by
      rintro ⟨h, h'⟩
      rcases h' with h' | h' <;> first | omega | (simp_all; done)
    replace e0' := e0' hT
    clear e20 e21 hT
    obtain ⟨e1, he⟩ : ∃ e1, e1 = ep := ⟨_, rfl⟩
    subst he
    (repeat' (first | exact rfl | ((conv => whnf); first | exact rfl | refine ⟨by kernel_rfl, ?_⟩ | exact ⟨rfl, rfl⟩ | refine ⟨rfl, ?_⟩ | refine ⟨by (first | omega | (simp (disch := omega) only [wrapI]; omega) | (simp (disch := omega) only [wrapI]; simp; omega) | (simp; omega)), ?_⟩ | (intro ep) | (refine ifB (fun hb => ?_) (fun hb => ?_) <;> (try simp only [decide_eq_true_eq, decide_eq_false_iff_not, beq_iff_eq, beq_eq_false_iff_ne, bne_iff_ne, bne_eq_false_iff_eq, ne_eq, not_false_eq_true, not_true_eq_false, Bool.not_eq_true, Bool.not_eq_true', Bool.not_eq_false', Int.not_lt, Int.not_le] at hb) <;> (try simp (disch := omega) only [wrapI] at hb) <;> (try (exfalso; omega))) | fail)))
    (conv => whnf)
    refine loopM ok mixed (A := A16) [1, 2, 5, 6] [0, 1] (S := { j : Nat // j ≤ stops.length ∧ chkStops p k (lastC stops j) (stops.drop j) = chkStops p k 0 stops })
      (fr := fun s => frOf 0 135 [(1, .int .i64 k), (2, .optr (.s 0) e0 3 0 0), (5, .optr (.s 1) e1 6 0 0), (6, .int .i64 (s.1 : Int))])
      (h := fun s => ⟨[.vec e0 [[crsA p.ins.cs, intsA p.ins.steps, evsA p.evs]], .vec e1 [evR ⟨bar, v, d, t, tie, stops⟩], .hole], []⟩) (μ := fun s => stops.length - s.1) ⟨0, by omega, rfl⟩ rfl rfl ?_
    rintro ⟨j, hj, hs⟩
    show aexR _ _ _ (frOf 0 135 [(1, .int .i64 k), (2, .optr (.s 0) e0 3 0 0), (5, .optr (.s 1) e1 6 0 0), (6, .int .i64 (j : Int))])
      ⟨[.vec e0 [[crsA p.ins.cs, intsA p.ins.steps, evsA p.evs]], .vec e1 [evR ⟨bar, v, d, t, tie, stops⟩], .hole], []⟩ _
    (conv => whnf)
    refine ⟨rfl, ?_⟩
    (conv => whnf)
    refine ifB (fun h2 => ?_) (fun h2 => ?_)
    · simp only [decide_eq_true_eq] at h2
      have hlj : j < stops.length := by omega
      obtain ⟨s, hsj⟩ : ∃ s, stops[j] = s := ⟨_, rfl⟩
      have hm2 : (stops.map stR)[0 + ((j : Nat) : Int).toNat]? = some (stR s) := by rw [mapR hlj, hsj]
      have hn : lastC stops (j + 1) = s.c := by
        unfold lastC
        rw [if_neg (by omega), Nat.add_sub_cancel, List.getD, List.getElem?_eq_getElem hlj, hsj]; rfl
      rw [drop_at hlj, hsj] at hs
      simp only [chkStops] at hs
      have key : ∀ n, chkStop p.ins (longest p.evs k s.c) s (lastC stops j) = n → n ≠ 0 → AV.int .i64 n = AV.int .i64 (chkEv p k ⟨bar, v, d, t, tie, stops⟩) := by
        intro n h h'
        rw [h, if_neg h'] at hs
        rw [e0', hs]
      have key0 : chkStop p.ins (longest p.evs k s.c) s (lastC stops j) = 0 → chkStops p k (lastC stops (j + 1)) (stops.drop (j + 1)) = chkStops p k 0 stops := by
        intro h
        rw [h, if_pos rfl] at hs
        rw [hn]; exact hs
      clear hs
      unfold chkStop at key key0
      by_cases g3 : s.c < 1 ∨ (p.ins.cs.length : Int) < s.c
      · replace key := key _ (if_pos g3) (by decide)
        (repeat' (first | exact rfl | ((conv => whnf); first | exact rfl | refine ⟨by kernel_rfl, ?_⟩ | exact ⟨rfl, rfl⟩ | refine ⟨rfl, ?_⟩ | refine ⟨by (first | omega | (simp (disch := omega) only [wrapI]; omega) | (simp (disch := omega) only [wrapI]; simp; omega) | (simp; omega)), ?_⟩ | (intro ep) | refine optS hm2 ?_ | (refine ifB (fun hb => ?_) (fun hb => ?_) <;> (try simp only [decide_eq_true_eq, decide_eq_false_iff_not, beq_iff_eq, beq_eq_false_iff_ne, bne_iff_ne, bne_eq_false_iff_eq, ne_eq, not_false_eq_true, not_true_eq_false, Bool.not_eq_true, Bool.not_eq_true', Bool.not_eq_false', Int.not_lt, Int.not_le] at hb) <;> (try simp (disch := omega) only [wrapI] at hb) <;> (try (exfalso; omega))) | fail)))
        all_goals exact key
      obtain ⟨x, x1, x2⟩ := fretsR (i := p.ins) (c := s.c) (by omega)
      rw [if_neg g3] at key key0
      have hlast : 0 < j → ∃ s' : Stp, (stops.map stR)[0 + ((j : Int) - 1).toNat]? = some (stR s') ∧ lastC stops j = s'.c := by
        intro h
        have hlt : j - 1 < stops.length := by omega
        refine ⟨stops[j - 1], ?_, ?_⟩
        · rw [show 0 + ((j : Int) - 1).toNat = j - 1 by omega, List.getElem?_map, List.getElem?_eq_getElem hlt]; rfl
        · unfold lastC; rw [if_neg (by omega), List.getD, List.getElem?_eq_getElem hlt]; rfl
      have hl0 : j = 0 → lastC stops j = 0 := fun h => by unfold lastC; rw [if_pos h]
      by_cases g4 : s.f < 0 ∨ fretsOf p.ins s.c < s.f
      · replace key := key _ (if_pos g4) (by decide)
        (repeat' (first | exact rfl | ((conv => whnf); first | exact rfl | refine ⟨by kernel_rfl, ?_⟩ | exact ⟨rfl, rfl⟩ | refine ⟨rfl, ?_⟩ | refine ⟨by (first | omega | (simp (disch := omega) only [wrapI]; omega) | (simp (disch := omega) only [wrapI]; simp; omega) | (simp; omega)), ?_⟩ | (intro ep) | refine optS hm2 ?_ | refine optS (by (try simp (disch := omega) only [wrapI]); exact x1) ?_ | (refine ifB (fun hb => ?_) (fun hb => ?_) <;> (try simp only [decide_eq_true_eq, decide_eq_false_iff_not, beq_iff_eq, beq_eq_false_iff_ne, bne_iff_ne, bne_eq_false_iff_eq, ne_eq, not_false_eq_true, not_true_eq_false, Bool.not_eq_true, Bool.not_eq_true', Bool.not_eq_false', Int.not_lt, Int.not_le] at hb) <;> (try simp (disch := omega) only [wrapI] at hb) <;> (try (exfalso; omega))) | fail)))
        all_goals exact key
      rw [if_neg g4] at key key0
      obtain ⟨s', y1, y2⟩ : ∃ s' : Stp, (0 < j → (stops.map stR)[0 + ((j : Int) - 1).toNat]? = some (stR s')) ∧ (0 < j → lastC stops j = s'.c) := by
        rcases Nat.eq_zero_or_pos j with h | h
        · exact ⟨⟨0, 0, 0, 0, 0⟩, fun h' => by omega, fun h' => by omega⟩
        · obtain ⟨s', a, b⟩ := hlast h
          exact ⟨s', fun _ => a, fun _ => b⟩
      have hlg := refLongest_spec p hp hl k s.c
      (repeat' (first | exact rfl | ((conv => whnf); first | exact rfl | refine ⟨by kernel_rfl, ?_⟩ | exact ⟨rfl, rfl⟩ | refine ⟨rfl, ?_⟩ | refine ⟨by (first | omega | (simp (disch := omega) only [wrapI]; omega) | (simp (disch := omega) only [wrapI]; simp; omega) | (simp; omega)), ?_⟩ | (intro ep) | refine optS hm2 ?_ | refine optS (by (try simp (disch := omega) only [wrapI]); exact x1) ?_ | refine optS (by (try simp (disch := omega) only [wrapI]); exact y1 (by omega)) ?_ | refine ⟨_, hlg, ?_⟩ | (refine ifB (fun hb => ?_) (fun hb => ?_) <;> (try simp only [decide_eq_true_eq, decide_eq_false_iff_not, beq_iff_eq, beq_eq_false_iff_ne, bne_iff_ne, bne_eq_false_iff_eq, ne_eq, not_false_eq_true, not_true_eq_false, Bool.not_eq_true, Bool.not_eq_true', Bool.not_eq_false', Int.not_lt, Int.not_le] at hb) <;> (try simp (disch := omega) only [wrapI] at hb) <;> (try (exfalso; omega))) | fail)))
      all_goals
        have yy : (0 < j ∧ lastC stops j = s'.c) ∨ (j = 0 ∧ lastC stops j = 0) := by
          rcases Nat.eq_zero_or_pos j with h | h
          · exact .inr ⟨h, hl0 h⟩
          · exact .inl ⟨h, y2 h⟩
        first
          | exact key _ (by (repeat' split) <;> first | rfl | (exfalso; omega)) (by decide)
          | (have hk0 := key0 (by (repeat' split) <;> first | rfl | (exfalso; omega))
             (repeat' (first | exact rfl | ((conv => whnf); first | exact rfl | refine ⟨by kernel_rfl, ?_⟩ | exact ⟨rfl, rfl⟩ | refine ⟨rfl, ?_⟩ | refine ⟨by (first | omega | (simp (disch := omega) only [wrapI]; omega) | (simp (disch := omega) only [wrapI]; simp; omega) | (simp; omega)), ?_⟩ | (intro ep) | fail)))
             (conv => whnf)
             refine back_of ⟨j + 1, by omega, hk0⟩ ⟨by (first | exact rfl | (simp (disch := omega) only [wrapI]; exact rfl)), rfl, by simp only; omega⟩)
    · simp only [decide_eq_false_iff_not] at h2
      rw [List.drop_eq_nil_of_le (by omega)] at hs
      (repeat' (first | exact rfl | ((conv => whnf); first | exact rfl | refine ⟨by kernel_rfl, ?_⟩ | exact ⟨rfl, rfl⟩ | refine ⟨rfl, ?_⟩ | refine ⟨by (first | omega | (simp (disch := omega) only [wrapI]; omega) | (simp (disch := omega) only [wrapI]; simp; omega) | (simp; omega)), ?_⟩ | (intro ep) | (refine ifB (fun hb => ?_) (fun hb => ?_) <;> (try simp only [decide_eq_true_eq, decide_eq_false_iff_not, beq_iff_eq, beq_eq_false_iff_ne, bne_iff_ne, bne_eq_false_iff_eq, ne_eq, not_false_eq_true, not_true_eq_false, Bool.not_eq_true, Bool.not_eq_true', Bool.not_eq_false', Int.not_lt, Int.not_le] at hb) <;> (try simp (disch := omega) only [wrapI] at hb) <;> (try (exfalso; omega))) | fail)))
      all_goals (rw [e0', ← hs]; rfl)

def A5 : Ann := fun r => match r with
  | 0 => { slots := [(0, 0)] }
  | _ => {}

set_option maxHeartbeats 2000000 in
set_option maxRecDepth 100000 in
theorem refCheck_spec (p : Pc) (hp : p.Ok) (hl : p.evs.length ≤ 4000) : PRet C.P 5 [pcA p] (.int .i64 (chk p)) := by
  refine pret_of ok mixed (A := A5) 1 Tryz.func5 rfl ?_
  (repeat' (first | exact rfl | ((conv => whnf); first | exact rfl | refine ⟨by kernel_rfl, ?_⟩ | exact ⟨rfl, rfl⟩ | refine ⟨rfl, ?_⟩ | refine ⟨by (first | omega | (simp (disch := omega) only [wrapI]; omega) | (simp (disch := omega) only [wrapI]; simp; omega) | (simp; omega)), ?_⟩ | (intro ep) | refine ⟨_, refInCheck_spec p.ins, ?_⟩ | (refine ifB (fun hb => ?_) (fun hb => ?_) <;> (try simp only [decide_eq_true_eq, decide_eq_false_iff_not, beq_iff_eq, beq_eq_false_iff_ne, bne_iff_ne, bne_eq_false_iff_eq, ne_eq, not_false_eq_true, not_true_eq_false, Bool.not_eq_true, Bool.not_eq_true', Bool.not_eq_false', Int.not_lt, Int.not_le] at hb) <;> (try simp (disch := omega) only [wrapI] at hb) <;> (try (exfalso; omega))) | fail)))
  · unfold chk; rw [if_neg hb]
  · rename_i hb1
    unfold chk; rw [if_pos hb1, if_pos (by omega)]
  rename_i hI
  have hA : chk p = chkEvs p 0 p.evs := by unfold chk; rw [if_pos hI, if_neg (by omega)]
  rw [hA]
  obtain ⟨e0, he⟩ : ∃ e1, e1 = ep := ⟨_, rfl⟩
  subst he
  (repeat' (first | exact rfl | ((conv => whnf); first | exact rfl | refine ⟨by kernel_rfl, ?_⟩ | exact ⟨rfl, rfl⟩ | refine ⟨rfl, ?_⟩ | refine ⟨by (first | omega | (simp (disch := omega) only [wrapI]; omega) | (simp (disch := omega) only [wrapI]; simp; omega) | (simp; omega)), ?_⟩ | (intro ep) | (refine ifB (fun hb => ?_) (fun hb => ?_) <;> (try simp only [decide_eq_true_eq, decide_eq_false_iff_not, beq_iff_eq, beq_eq_false_iff_ne, bne_iff_ne, bne_eq_false_iff_eq, ne_eq, not_false_eq_true, not_true_eq_false, Bool.not_eq_true, Bool.not_eq_true', Bool.not_eq_false', Int.not_lt, Int.not_le] at hb) <;> (try simp (disch := omega) only [wrapI] at hb) <;> (try (exfalso; omega))) | fail)))
  (conv => whnf)
  refine loopM ok mixed (A := A5) [1, 4] [0] (S := { k : Nat // k ≤ p.evs.length ∧ chkEvs p k (p.evs.drop k) = chkEvs p 0 p.evs })
    (fr := fun s => frOf 0 28 [(1, .optr (.s 0) e0 3 0 0), (4, .int .i64 (s.1 : Int))])
    (h := fun s => ⟨[.vec e0 [[crsA p.ins.cs, intsA p.ins.steps, evsA p.evs]]], []⟩) (μ := fun s => p.evs.length - s.1) ⟨0, by omega, rfl⟩ rfl rfl ?_
  rintro ⟨k, hk, hs⟩
  show aexR _ _ _ (frOf 0 28 [(1, .optr (.s 0) e0 3 0 0), (4, .int .i64 (k : Int))]) ⟨[.vec e0 [[crsA p.ins.cs, intsA p.ins.steps, evsA p.evs]]], []⟩ _
  (conv => whnf)
  refine ⟨rfl, ?_⟩
  (conv => whnf)
  refine ifB (fun h1 => ?_) (fun h1 => ?_)
  · simp only [decide_eq_true_eq] at h1
    have hlt : k < p.evs.length := by omega
    have hev := event_spec p hp hl k hlt
    rw [drop_at hlt] at hs
    simp only [chkEvs] at hs
    (repeat' (first | exact rfl | ((conv => whnf); first | exact rfl | refine ⟨by kernel_rfl, ?_⟩ | exact ⟨rfl, rfl⟩ | refine ⟨rfl, ?_⟩ | refine ⟨by (first | omega | (simp (disch := omega) only [wrapI]; omega) | (simp (disch := omega) only [wrapI]; simp; omega) | (simp; omega)), ?_⟩ | (intro ep) | refine ⟨_, hev, ?_⟩ | (refine ifB (fun hb => ?_) (fun hb => ?_) <;> (try simp only [decide_eq_true_eq, decide_eq_false_iff_not, beq_iff_eq, beq_eq_false_iff_ne, bne_iff_ne, bne_eq_false_iff_eq, ne_eq, not_false_eq_true, not_true_eq_false, Bool.not_eq_true, Bool.not_eq_true', Bool.not_eq_false', Int.not_lt, Int.not_le] at hb) <;> (try simp (disch := omega) only [wrapI] at hb) <;> (try (exfalso; omega))) | fail)))
    · rw [if_neg hb] at hs
      exact congrArg (AV.int .i64) hs
    · rw [if_pos hb] at hs
      refine back_of ⟨k + 1, by omega, hs⟩ ⟨by (first | exact rfl | (simp (disch := omega) only [wrapI]; exact rfl)), rfl, by simp only; omega⟩
  · simp only [decide_eq_false_iff_not] at h1
    have h0 : chkEvs p 0 p.evs = 0 := by rw [← hs, List.drop_eq_nil_of_le (by omega)]; rfl
    (repeat' (first | exact rfl | ((conv => whnf); first | exact rfl | refine ⟨by kernel_rfl, ?_⟩ | exact ⟨rfl, rfl⟩ | refine ⟨rfl, ?_⟩ | refine ⟨by (first | omega | (simp (disch := omega) only [wrapI]; omega) | (simp (disch := omega) only [wrapI]; simp; omega) | (simp; omega)), ?_⟩ | (intro ep) | (refine ifB (fun hb => ?_) (fun hb => ?_) <;> (try simp only [decide_eq_true_eq, decide_eq_false_iff_not, beq_iff_eq, beq_eq_false_iff_ne, bne_iff_ne, bne_eq_false_iff_eq, ne_eq, not_false_eq_true, not_true_eq_false, Bool.not_eq_true, Bool.not_eq_true', Bool.not_eq_false', Int.not_lt, Int.not_le] at hb) <;> (try simp (disch := omega) only [wrapI] at hb) <;> (try (exfalso; omega))) | fail)))
    rw [h0]

end Go.Ab.V
