/-
  What is proved here serves the law's text: each part says its own claim and its conditions. No condition is left open.
-/
import Derived.Test.YtchkiolagohnlaaJD
import Derived.Test.YtchkiolagohnlaaKW
import Derived.Test.YtchkiolagohnlaaKV
set_option linter.unusedSimpArgs false
set_option linter.unusedVariables false

/-
  Melody and Ground: the document's, and the law of lines. The pieces are of the sizes that a statement looks at.
-/
namespace Go.Ab.V
open Go.Proofs

theorem lineS_true (x q : Int) : lineS true x q = if x < 0 then q else if q > x then q else x := by
  unfold lineS pick
  simp only [if_true]
  (repeat' split) <;> omega
theorem lineS_false (x q : Int) : lineS false x q = if x < 0 then q else if q < x then q else x := by
  unfold lineS pick
  simp only [Bool.false_eq_true, if_false]
  (repeat' split) <;> omega
def A68 : Ann := fun r => match r with
  | 0 => { slots := [(0, 0)] }
  | 12 => { slots := [(9, 1)] }
  | 16 => { slots := [(2, 2), (3, 3)] }
  | _ => {}
set_option maxHeartbeats 8000000 in
set_option maxRecDepth 100000 in
theorem line68 (p : Pc) (hp : p.Ok) (hs : p.Sm) (h : Bool) : PRet C.P 68 [pcA p, .bool h] (lineV h p) := by
  have hO := refCheck_spec p hp (by have := hs.ev; omega)
  unfold lineV
  by_cases hc : ¬ chk p = 0
  · rw [if_neg hc]
    generalize chk p = e at hO hc
    refine pret_of ok mixed (A := A68) 4 Try.func68 rfl ?_
    (repeat' (first | exact rfl | ((conv => whnf); first | refine ⟨_, hO, ?_⟩ | exact rfl | exact ⟨rfl, rfl⟩ | refine ⟨(by kernel_rfl : drawOk _ _ _ _ = true), ?_⟩ | refine ⟨(by kernel_rfl : planOk _ _ _ _ = true), ?_⟩ | refine ⟨rfl, ?_⟩ | refine ⟨by (first | omega | (simp (disch := omega) only [wrapI]; omega) | (simp (disch := omega) only [wrapI]; simp; omega) | (simp; omega)), ?_⟩ | (intro ep) | (refine ifB (fun hb => ?_) (fun hb => ?_) <;> (try simp only [decide_eq_true_eq, decide_eq_false_iff_not, beq_iff_eq, beq_eq_false_iff_ne, bne_iff_ne, bne_eq_false_iff_eq, ne_eq, not_false_eq_true, not_true_eq_false, Bool.not_eq_true, Bool.not_eq_true', Bool.not_eq_false', Int.not_lt, Int.not_le] at hb) <;> (try simp (disch := omega) only [wrapI] at hb) <;> (try (exfalso; omega))) | fail)))
  have hc := Decidable.not_not.1 hc
  rw [if_pos hc]
  rw [hc] at hO
  have v := vp hc
  have hlen := v.len
  have hcs := v.cs
  obtain ⟨Z, hZ⟩ : ∃ Z, Z = lineL h p := ⟨_, rfl⟩
  rw [← hZ]
  refine pret_of ok mixed (A := A68) 4 Try.func68 rfl ?_
  (repeat' ((conv => whnf); first | refine ⟨_, hO, ?_⟩ | exact rfl | exact ⟨rfl, rfl⟩ | refine ⟨(by kernel_rfl : drawOk _ _ _ _ = true), ?_⟩ | refine ⟨(by kernel_rfl : planOk _ _ _ _ = true), ?_⟩ | refine ⟨rfl, ?_⟩ | refine ⟨by (first | omega | (simp (disch := omega) only [wrapI]; omega) | (simp (disch := omega) only [wrapI]; simp; omega) | (simp; omega)), ?_⟩ | (intro ep) | (refine ifB (fun hb => ?_) (fun hb => ?_) <;> (try simp only [decide_eq_true_eq, decide_eq_false_iff_not, beq_iff_eq, beq_eq_false_iff_ne, bne_iff_ne, bne_eq_false_iff_eq, ne_eq, not_false_eq_true, not_true_eq_false, Bool.not_eq_true, Bool.not_eq_true', Bool.not_eq_false', Int.not_lt, Int.not_le] at hb) <;> (try simp (disch := omega) only [wrapI] at hb) <;> (try (exfalso; omega))) | fail))
  all_goals (conv => whnf)
  obtain ⟨e0, he⟩ : ∃ e0, e0 = ep := ⟨_, rfl⟩
  subst he
  refine wk_lift 7 3 1 rfl ?_
  intro e3
  refine loopY ok mixed (A := A68) [1, 2, 7, 8] [0, 3] (S := { z : Nat × Nat × List Int // z.1 ≤ p.evs.length ∧ z.2.2 ++ (p.evs.drop z.1).map (lineE h p) = Z ∧ z.2.2.length ≤ z.1 })
    (fr := fun s => frOf 0 78 [(1, .bool h), (2, .optr (.s 0) e0 3 0 0), (7, .oslc (.s 3) s.1.2.1 1 0 s.1.2.2.length false), (8, .int .i64 (s.1.1 : Int))])
    (h := fun s => ⟨[.vec e0 [pcV p], .hole, .hole, .vec s.1.2.1 (ints s.1.2.2)], []⟩) (μ := fun s => p.evs.length - s.1.1)
    ⟨(0, e3, []), by simp, hZ.symm, by simp⟩ ?_ ?_
    [7] [3] (S' := { z : Nat × List Int // z.2 = Z }) (X := fun _ => 0)
    (frX := fun s => frOf 0 78 [(7, .oslc (.s 3) s.1.1 1 0 s.1.2.length false)])
    (hX := fun s => ⟨[.hole, .hole, .hole, .vec s.1.1 (ints s.1.2)], []⟩)
    [] [] (S2 := Empty) (frR := fun s => frOf 0 78 []) (hR := fun s => ⟨[], []⟩) ?_ ?_ ?_
  · exact rfl
  · exact rfl
  · rintro ⟨⟨k, e3, L⟩, hk, hu, hL⟩
    dsimp only at hk hu hL
    show aexR _ _ _ (frOf 0 78 [(1, .bool h), (2, .optr (.s 0) e0 3 0 0), (7, .oslc (.s 3) e3 1 0 L.length false), (8, .int .i64 (k : Int))]) ⟨[.vec e0 [pcV p], .hole, .hole, .vec e3 (ints L)], []⟩ _
    by_cases hk2 : k < p.evs.length
    · have g1 : (k : Int) < p.evs.length := by omega
      have hmk := mapR (f := evR) hk2
      have hsp := v.sp k hk2
      have hsl := v.sl k hk2
      rw [List.drop_eq_getElem_cons hk2, List.map_cons, List.append_cons] at hu
      generalize p.evs[k] = e at hmk hsp hsl hu
      obtain ⟨eb, ev, ed, et, ey, l⟩ := e
      dsimp only at hsp hsl hu
      obtain ⟨Y, hY⟩ : ∃ Y, Y = lineE h p ⟨eb, ev, ed, et, ey, l⟩ := ⟨_, rfl⟩
      rw [← hY] at hu
      replace hY : l.foldl (fun x s => lineS h x (pitchOf p.ins s.c s.f)) (-1) = Y := hY.symm
      (repeat' (first | exact rfl | ((conv => whnf); first | exact rfl | exact ⟨rfl, rfl⟩ | refine ⟨(by kernel_rfl : drawOk _ _ _ _ = true), ?_⟩ | refine ⟨(by kernel_rfl : planOk _ _ _ _ = true), ?_⟩ | refine ⟨rfl, ?_⟩ | refine ⟨by (first | omega | (simp (disch := omega) only [wrapI]; omega) | (simp (disch := omega) only [wrapI]; simp; omega) | (simp; omega)), ?_⟩ | (intro ep) | (refine ifB (fun hb => ?_) (fun hb => ?_) <;> (try simp only [decide_eq_true_eq, decide_eq_false_iff_not, beq_iff_eq, beq_eq_false_iff_ne, bne_iff_ne, bne_eq_false_iff_eq, ne_eq, not_false_eq_true, not_true_eq_false, Bool.not_eq_true, Bool.not_eq_true', Bool.not_eq_false', Int.not_lt, Int.not_le] at hb) <;> (try simp (disch := omega) only [wrapI] at hb) <;> (try (exfalso; omega))) | fail)))
      all_goals (conv => whnf)
      refine loopY ok mixed (A := A68) [1, 2, 7, 8, 9, 10] [0, 3] (S := { z : Nat × Int // z.1 ≤ l.length ∧ (l.drop z.1).foldl (fun x s => lineS h x (pitchOf p.ins s.c s.f)) z.2 = Y })
        (fr := fun s => frOf 0 78 [(1, .bool h), (2, .optr (.s 0) e0 3 0 0), (7, .oslc (.s 3) e3 1 0 L.length false), (8, .int .i64 (k : Int)), (9, .int .i64 s.1.2), (10, .int .i64 (s.1.1 : Int))])
        (h := fun s => ⟨[.vec e0 [pcV p], .hole, .hole, .vec e3 (ints L)], []⟩) (μ := fun s => l.length - s.1.1)
        ⟨(0, -1), by simp, hY⟩ ?_ ?_
        [1, 2, 7, 8, 9] [0, 3] (S' := Unit) (X := fun _ => 2)
        (frX := fun s => frOf 0 78 [(1, .bool h), (2, .optr (.s 0) e0 3 0 0), (7, .oslc (.s 3) e3 1 0 L.length false), (8, .int .i64 (k : Int)), (9, .int .i64 Y)])
        (hX := fun s => ⟨[.vec e0 [pcV p], .hole, .hole, .vec e3 (ints L)], []⟩)
        [] [] (S2 := Empty) (frR := fun s => frOf 0 78 []) (hR := fun s => ⟨[], []⟩) ?_ ?_ ?_
      · exact rfl
      · exact rfl
      · rintro ⟨⟨j, x⟩, hj, hu2⟩
        dsimp only at hj hu2
        show aexR _ _ _ (frOf 0 78 [(1, .bool h), (2, .optr (.s 0) e0 3 0 0), (7, .oslc (.s 3) e3 1 0 L.length false), (8, .int .i64 (k : Int)), (9, .int .i64 x), (10, .int .i64 (j : Int))]) ⟨[.vec e0 [pcV p], .hole, .hole, .vec e3 (ints L)], []⟩ _
        by_cases g3 : j < l.length
        · have hm := mapR (f := stR) g3
          have hs1 := hsp l[j] (List.getElem_mem g3)
          rw [List.drop_eq_getElem_cons g3, List.foldl_cons] at hu2
          generalize l[j] = s at hm hs1 hu2
          have hS := sound54 p v s.c s.f hs1.1 hs1.2.1
          generalize pitchOf p.ins s.c s.f = q at hS hu2
          obtain ⟨sc, sf, sr, sg, sh⟩ := s
          dsimp only at hS hu2
          clear hsp hs1 hY hZ
          cases h with
          | true =>
            rw [lineS_true] at hu2
            (repeat' (first | exact rfl | ((conv => whnf); first | refine optS hmk ?_ | refine optS hm ?_ | refine ⟨_, hS, ?_⟩ | exact rfl | exact ⟨rfl, rfl⟩ | refine ⟨(by kernel_rfl : drawOk _ _ _ _ = true), ?_⟩ | refine ⟨(by kernel_rfl : planOk _ _ _ _ = true), ?_⟩ | refine ⟨rfl, ?_⟩ | refine ⟨by (first | omega | (simp (disch := omega) only [wrapI]; omega) | (simp (disch := omega) only [wrapI]; simp; omega) | (simp; omega)), ?_⟩ | (intro ep) | (refine ifB (fun hb => ?_) (fun hb => ?_) <;> (try simp only [decide_eq_true_eq, decide_eq_false_iff_not, beq_iff_eq, beq_eq_false_iff_ne, bne_iff_ne, bne_eq_false_iff_eq, ne_eq, not_false_eq_true, not_true_eq_false, Bool.not_eq_true, Bool.not_eq_true', Bool.not_eq_false', Int.not_lt, Int.not_le] at hb) <;> (try simp (disch := omega) only [wrapI] at hb) <;> (try (exfalso; omega))) | fail)))
            all_goals (conv => whnf)
            all_goals refine back_of ⟨(j + 1, _), by dsimp only; omega, ?_⟩ ⟨by (first | exact rfl | (simp (disch := omega) only [wrapI]; exact rfl)), rfl, by dsimp only; omega⟩
            all_goals dsimp only
            all_goals (first | (rw [if_pos (by omega)] at hu2; exact hu2) | (rw [if_neg (by omega), if_pos (by omega)] at hu2; exact hu2) | (rw [if_neg (by omega), if_neg (by omega)] at hu2; exact hu2))
          | false =>
            rw [lineS_false] at hu2
            (repeat' (first | exact rfl | ((conv => whnf); first | refine optS hmk ?_ | refine optS hm ?_ | refine ⟨_, hS, ?_⟩ | exact rfl | exact ⟨rfl, rfl⟩ | refine ⟨(by kernel_rfl : drawOk _ _ _ _ = true), ?_⟩ | refine ⟨(by kernel_rfl : planOk _ _ _ _ = true), ?_⟩ | refine ⟨rfl, ?_⟩ | refine ⟨by (first | omega | (simp (disch := omega) only [wrapI]; omega) | (simp (disch := omega) only [wrapI]; simp; omega) | (simp; omega)), ?_⟩ | (intro ep) | (refine ifB (fun hb => ?_) (fun hb => ?_) <;> (try simp only [decide_eq_true_eq, decide_eq_false_iff_not, beq_iff_eq, beq_eq_false_iff_ne, bne_iff_ne, bne_eq_false_iff_eq, ne_eq, not_false_eq_true, not_true_eq_false, Bool.not_eq_true, Bool.not_eq_true', Bool.not_eq_false', Int.not_lt, Int.not_le] at hb) <;> (try simp (disch := omega) only [wrapI] at hb) <;> (try (exfalso; omega))) | fail)))
            all_goals (conv => whnf)
            all_goals refine back_of ⟨(j + 1, _), by dsimp only; omega, ?_⟩ ⟨by (first | exact rfl | (simp (disch := omega) only [wrapI]; exact rfl)), rfl, by dsimp only; omega⟩
            all_goals dsimp only
            all_goals (first | (rw [if_pos (by omega)] at hu2; exact hu2) | (rw [if_neg (by omega), if_pos (by omega)] at hu2; exact hu2) | (rw [if_neg (by omega), if_neg (by omega)] at hu2; exact hu2))
        · have hj2 : j = l.length := by omega
          subst hj2
          rw [List.drop_length, List.foldl_nil] at hu2
          subst hu2
          (repeat' (first | exact rfl | ((conv => whnf); first | refine optS hmk ?_ | exact rfl | exact ⟨rfl, rfl⟩ | refine ⟨(by kernel_rfl : drawOk _ _ _ _ = true), ?_⟩ | refine ⟨(by kernel_rfl : planOk _ _ _ _ = true), ?_⟩ | refine ⟨rfl, ?_⟩ | refine ⟨by (first | omega | (simp (disch := omega) only [wrapI]; omega) | (simp (disch := omega) only [wrapI]; simp; omega) | (simp; omega)), ?_⟩ | (intro ep) | (refine ifB (fun hb => ?_) (fun hb => ?_) <;> (try simp only [decide_eq_true_eq, decide_eq_false_iff_not, beq_iff_eq, beq_eq_false_iff_ne, bne_iff_ne, bne_eq_false_iff_eq, ne_eq, not_false_eq_true, not_true_eq_false, Bool.not_eq_true, Bool.not_eq_true', Bool.not_eq_false', Int.not_lt, Int.not_le] at hb) <;> (try simp (disch := omega) only [wrapI] at hb) <;> (try (exfalso; omega))) | fail)))
          all_goals (conv => whnf)
          all_goals exact back_of () ⟨rfl, rfl, rfl⟩
      · rintro ⟨⟩
      · rintro ⟨⟩
        have t1 : List.take L.length (List.drop 0 (ints L)) = ints L := by rw [List.drop_zero, List.take_of_length_le (by simp [ints])]
        (repeat' (first | exact rfl | ((conv => whnf); first | exact rfl | exact ⟨rfl, rfl⟩ | refine ⟨(by kernel_rfl : drawOk _ _ _ _ = true), ?_⟩ | refine ⟨(by kernel_rfl : planOk _ _ _ _ = true), ?_⟩ | refine ⟨rfl, ?_⟩ | refine ⟨by (first | omega | (simp (disch := omega) only [wrapI]; omega) | (simp (disch := omega) only [wrapI]; simp; omega) | (simp; omega)), ?_⟩ | (intro ep) | (refine ifB (fun hb => ?_) (fun hb => ?_) <;> (try simp only [decide_eq_true_eq, decide_eq_false_iff_not, beq_iff_eq, beq_eq_false_iff_ne, bne_iff_ne, bne_eq_false_iff_eq, ne_eq, not_false_eq_true, not_true_eq_false, Bool.not_eq_true, Bool.not_eq_true', Bool.not_eq_false', Int.not_lt, Int.not_le] at hb) <;> (try simp (disch := omega) only [wrapI] at hb) <;> (try (exfalso; omega))) | fail)))
        all_goals (conv => whnf)
        refine back_of ⟨(k + 1, ep, L ++ [Y]), by dsimp only; omega, hu, by dsimp only; rw [List.length_append, List.length_singleton]; omega⟩ ⟨?_, ?_, by dsimp only; omega⟩
        · show maskF 0 _ _ = frOf 0 78 [(1, .bool h), (2, .optr (.s 0) e0 3 0 0), (7, .oslc (.s 3) ep 1 0 (L ++ [Y]).length false), (8, .int .i64 ((k + 1 : Nat) : Int))]
          rw [List.length_append, List.length_singleton]
          (first | exact rfl | (simp (disch := omega) only [wrapI]; exact rfl))
        · show maskH 0 _ _ = ⟨[.vec e0 [pcV p], .hole, .hole, .vec ep (ints (L ++ [Y]))], []⟩
          have em : ints (L ++ [Y]) = List.take L.length (List.drop 0 (ints L)) ++ [[.int .i64 Y]] := by rw [t1]; simp [ints]
          rw [em]
          (first | exact rfl | (simp (disch := omega) only [wrapI]; exact rfl))
    · have hk2 : k = p.evs.length := by omega
      subst hk2
      rw [List.drop_length, List.map_nil, List.append_nil] at hu
      (repeat' (first | exact rfl | ((conv => whnf); first | exact rfl | exact ⟨rfl, rfl⟩ | refine ⟨(by kernel_rfl : drawOk _ _ _ _ = true), ?_⟩ | refine ⟨(by kernel_rfl : planOk _ _ _ _ = true), ?_⟩ | refine ⟨rfl, ?_⟩ | refine ⟨by (first | omega | (simp (disch := omega) only [wrapI]; omega) | (simp (disch := omega) only [wrapI]; simp; omega) | (simp; omega)), ?_⟩ | (intro ep) | (refine ifB (fun hb => ?_) (fun hb => ?_) <;> (try simp only [decide_eq_true_eq, decide_eq_false_iff_not, beq_iff_eq, beq_eq_false_iff_ne, bne_iff_ne, bne_eq_false_iff_eq, ne_eq, not_false_eq_true, not_true_eq_false, Bool.not_eq_true, Bool.not_eq_true', Bool.not_eq_false', Int.not_lt, Int.not_le] at hb) <;> (try simp (disch := omega) only [wrapI] at hb) <;> (try (exfalso; omega))) | fail)))
      all_goals (conv => whnf)
      all_goals exact back_of ⟨(e3, L), hu⟩ ⟨rfl, rfl, rfl⟩
  · rintro ⟨⟩
  · rintro ⟨⟨e3, L⟩, hz⟩
    dsimp only at hz
    subst hz
    (repeat' (first | exact rfl | ((conv => whnf); first | exact rfl | exact ⟨rfl, rfl⟩ | refine ⟨(by kernel_rfl : drawOk _ _ _ _ = true), ?_⟩ | refine ⟨(by kernel_rfl : planOk _ _ _ _ = true), ?_⟩ | refine ⟨rfl, ?_⟩ | refine ⟨by (first | omega | (simp (disch := omega) only [wrapI]; omega) | (simp (disch := omega) only [wrapI]; simp; omega) | (simp; omega)), ?_⟩ | (intro ep) | (refine ifB (fun hb => ?_) (fun hb => ?_) <;> (try simp only [decide_eq_true_eq, decide_eq_false_iff_not, beq_iff_eq, beq_eq_false_iff_ne, bne_iff_ne, bne_eq_false_iff_eq, ne_eq, not_false_eq_true, not_true_eq_false, Bool.not_eq_true, Bool.not_eq_true', Bool.not_eq_false', Int.not_lt, Int.not_le] at hb) <;> (try simp (disch := omega) only [wrapI] at hb) <;> (try (exfalso; omega))) | fail)))
    all_goals (conv => whnf)
    exact ⟨Go.Ab.V.pure_map (f := fun x : Int => [AV.int .i64 x]) L fun x => rfl, rfl, rfl⟩
def A32 : Ann := fun r => match r with
  | 0 => { slots := [(0, 0)] }
  | _ => {}
theorem melody32 (p : Pc) (hp : p.Ok) : PRet C.P 32 [pcA p] (lineV true p) := by
  have h1 := extremes66max p hp
  unfold lineV at h1 ⊢
  by_cases hc : chk p = 0
  · rw [if_pos hc] at h1 ⊢
    generalize lineL true p = L at h1
    refine pret_of ok mixed (A := A32) 1 Try.func32 rfl ?_
    (repeat' (first | exact rfl | ((conv => whnf); first | refine ⟨_, h1, ?_⟩ | exact rfl | exact ⟨rfl, rfl⟩ | refine ⟨(by kernel_rfl : drawOk _ _ _ _ = true), ?_⟩ | refine ⟨(by kernel_rfl : planOk _ _ _ _ = true), ?_⟩ | refine ⟨rfl, ?_⟩ | refine ⟨by (first | omega | (simp (disch := omega) only [wrapI]; omega) | (simp (disch := omega) only [wrapI]; simp; omega) | (simp; omega)), ?_⟩ | (intro ep) | (refine ifB (fun hb => ?_) (fun hb => ?_) <;> (try simp only [decide_eq_true_eq, decide_eq_false_iff_not, beq_iff_eq, beq_eq_false_iff_ne, bne_iff_ne, bne_eq_false_iff_eq, ne_eq, not_false_eq_true, not_true_eq_false, Bool.not_eq_true, Bool.not_eq_true', Bool.not_eq_false', Int.not_lt, Int.not_le] at hb) <;> (try simp (disch := omega) only [wrapI] at hb) <;> (try (exfalso; omega))) | fail)))
  · rw [if_neg hc] at h1 ⊢
    generalize chk p = e at h1
    refine pret_of ok mixed (A := A32) 1 Try.func32 rfl ?_
    (repeat' (first | exact rfl | ((conv => whnf); first | refine ⟨_, h1, ?_⟩ | exact rfl | exact ⟨rfl, rfl⟩ | refine ⟨(by kernel_rfl : drawOk _ _ _ _ = true), ?_⟩ | refine ⟨(by kernel_rfl : planOk _ _ _ _ = true), ?_⟩ | refine ⟨rfl, ?_⟩ | refine ⟨by (first | omega | (simp (disch := omega) only [wrapI]; omega) | (simp (disch := omega) only [wrapI]; simp; omega) | (simp; omega)), ?_⟩ | (intro ep) | (refine ifB (fun hb => ?_) (fun hb => ?_) <;> (try simp only [decide_eq_true_eq, decide_eq_false_iff_not, beq_iff_eq, beq_eq_false_iff_ne, bne_iff_ne, bne_eq_false_iff_eq, ne_eq, not_false_eq_true, not_true_eq_false, Bool.not_eq_true, Bool.not_eq_true', Bool.not_eq_false', Int.not_lt, Int.not_le] at hb) <;> (try simp (disch := omega) only [wrapI] at hb) <;> (try (exfalso; omega))) | fail)))
theorem ground34 (p : Pc) (hp : p.Ok) : PRet C.P 34 [pcA p] (lineV false p) := by
  have h1 := extremes66min p hp
  unfold lineV at h1 ⊢
  by_cases hc : chk p = 0
  · rw [if_pos hc] at h1 ⊢
    generalize lineL false p = L at h1
    refine pret_of ok mixed (A := A32) 1 Try.func34 rfl ?_
    (repeat' (first | exact rfl | ((conv => whnf); first | refine ⟨_, h1, ?_⟩ | exact rfl | exact ⟨rfl, rfl⟩ | refine ⟨(by kernel_rfl : drawOk _ _ _ _ = true), ?_⟩ | refine ⟨(by kernel_rfl : planOk _ _ _ _ = true), ?_⟩ | refine ⟨rfl, ?_⟩ | refine ⟨by (first | omega | (simp (disch := omega) only [wrapI]; omega) | (simp (disch := omega) only [wrapI]; simp; omega) | (simp; omega)), ?_⟩ | (intro ep) | (refine ifB (fun hb => ?_) (fun hb => ?_) <;> (try simp only [decide_eq_true_eq, decide_eq_false_iff_not, beq_iff_eq, beq_eq_false_iff_ne, bne_iff_ne, bne_eq_false_iff_eq, ne_eq, not_false_eq_true, not_true_eq_false, Bool.not_eq_true, Bool.not_eq_true', Bool.not_eq_false', Int.not_lt, Int.not_le] at hb) <;> (try simp (disch := omega) only [wrapI] at hb) <;> (try (exfalso; omega))) | fail)))
  · rw [if_neg hc] at h1 ⊢
    generalize chk p = e at h1
    refine pret_of ok mixed (A := A32) 1 Try.func34 rfl ?_
    (repeat' (first | exact rfl | ((conv => whnf); first | refine ⟨_, h1, ?_⟩ | exact rfl | exact ⟨rfl, rfl⟩ | refine ⟨(by kernel_rfl : drawOk _ _ _ _ = true), ?_⟩ | refine ⟨(by kernel_rfl : planOk _ _ _ _ = true), ?_⟩ | refine ⟨rfl, ?_⟩ | refine ⟨by (first | omega | (simp (disch := omega) only [wrapI]; omega) | (simp (disch := omega) only [wrapI]; simp; omega) | (simp; omega)), ?_⟩ | (intro ep) | (refine ifB (fun hb => ?_) (fun hb => ?_) <;> (try simp only [decide_eq_true_eq, decide_eq_false_iff_not, beq_iff_eq, beq_eq_false_iff_ne, bne_iff_ne, bne_eq_false_iff_eq, ne_eq, not_false_eq_true, not_true_eq_false, Bool.not_eq_true, Bool.not_eq_true', Bool.not_eq_false', Int.not_lt, Int.not_le] at hb) <;> (try simp (disch := omega) only [wrapI] at hb) <;> (try (exfalso; omega))) | fail)))
theorem melody33 (p : Pc) (hp : p.Ok) (hs : p.Sm) : PRet C.P 33 [pcA p] (lineV true p) := by
  have h1 := line68 p hp hs true
  unfold lineV at h1 ⊢
  by_cases hc : chk p = 0
  · rw [if_pos hc] at h1 ⊢
    generalize lineL true p = L at h1
    refine pret_of ok mixed (A := A32) 1 Try.func33 rfl ?_
    (repeat' (first | exact rfl | ((conv => whnf); first | refine ⟨_, h1, ?_⟩ | exact rfl | exact ⟨rfl, rfl⟩ | refine ⟨(by kernel_rfl : drawOk _ _ _ _ = true), ?_⟩ | refine ⟨(by kernel_rfl : planOk _ _ _ _ = true), ?_⟩ | refine ⟨rfl, ?_⟩ | refine ⟨by (first | omega | (simp (disch := omega) only [wrapI]; omega) | (simp (disch := omega) only [wrapI]; simp; omega) | (simp; omega)), ?_⟩ | (intro ep) | (refine ifB (fun hb => ?_) (fun hb => ?_) <;> (try simp only [decide_eq_true_eq, decide_eq_false_iff_not, beq_iff_eq, beq_eq_false_iff_ne, bne_iff_ne, bne_eq_false_iff_eq, ne_eq, not_false_eq_true, not_true_eq_false, Bool.not_eq_true, Bool.not_eq_true', Bool.not_eq_false', Int.not_lt, Int.not_le] at hb) <;> (try simp (disch := omega) only [wrapI] at hb) <;> (try (exfalso; omega))) | fail)))
  · rw [if_neg hc] at h1 ⊢
    generalize chk p = e at h1
    refine pret_of ok mixed (A := A32) 1 Try.func33 rfl ?_
    (repeat' (first | exact rfl | ((conv => whnf); first | refine ⟨_, h1, ?_⟩ | exact rfl | exact ⟨rfl, rfl⟩ | refine ⟨(by kernel_rfl : drawOk _ _ _ _ = true), ?_⟩ | refine ⟨(by kernel_rfl : planOk _ _ _ _ = true), ?_⟩ | refine ⟨rfl, ?_⟩ | refine ⟨by (first | omega | (simp (disch := omega) only [wrapI]; omega) | (simp (disch := omega) only [wrapI]; simp; omega) | (simp; omega)), ?_⟩ | (intro ep) | (refine ifB (fun hb => ?_) (fun hb => ?_) <;> (try simp only [decide_eq_true_eq, decide_eq_false_iff_not, beq_iff_eq, beq_eq_false_iff_ne, bne_iff_ne, bne_eq_false_iff_eq, ne_eq, not_false_eq_true, not_true_eq_false, Bool.not_eq_true, Bool.not_eq_true', Bool.not_eq_false', Int.not_lt, Int.not_le] at hb) <;> (try simp (disch := omega) only [wrapI] at hb) <;> (try (exfalso; omega))) | fail)))
theorem ground35 (p : Pc) (hp : p.Ok) (hs : p.Sm) : PRet C.P 35 [pcA p] (lineV false p) := by
  have h1 := line68 p hp hs false
  unfold lineV at h1 ⊢
  by_cases hc : chk p = 0
  · rw [if_pos hc] at h1 ⊢
    generalize lineL false p = L at h1
    refine pret_of ok mixed (A := A32) 1 Try.func35 rfl ?_
    (repeat' (first | exact rfl | ((conv => whnf); first | refine ⟨_, h1, ?_⟩ | exact rfl | exact ⟨rfl, rfl⟩ | refine ⟨(by kernel_rfl : drawOk _ _ _ _ = true), ?_⟩ | refine ⟨(by kernel_rfl : planOk _ _ _ _ = true), ?_⟩ | refine ⟨rfl, ?_⟩ | refine ⟨by (first | omega | (simp (disch := omega) only [wrapI]; omega) | (simp (disch := omega) only [wrapI]; simp; omega) | (simp; omega)), ?_⟩ | (intro ep) | (refine ifB (fun hb => ?_) (fun hb => ?_) <;> (try simp only [decide_eq_true_eq, decide_eq_false_iff_not, beq_iff_eq, beq_eq_false_iff_ne, bne_iff_ne, bne_eq_false_iff_eq, ne_eq, not_false_eq_true, not_true_eq_false, Bool.not_eq_true, Bool.not_eq_true', Bool.not_eq_false', Int.not_lt, Int.not_le] at hb) <;> (try simp (disch := omega) only [wrapI] at hb) <;> (try (exfalso; omega))) | fail)))
  · rw [if_neg hc] at h1 ⊢
    generalize chk p = e at h1
    refine pret_of ok mixed (A := A32) 1 Try.func35 rfl ?_
    (repeat' (first | exact rfl | ((conv => whnf); first | refine ⟨_, h1, ?_⟩ | exact rfl | exact ⟨rfl, rfl⟩ | refine ⟨(by kernel_rfl : drawOk _ _ _ _ = true), ?_⟩ | refine ⟨(by kernel_rfl : planOk _ _ _ _ = true), ?_⟩ | refine ⟨rfl, ?_⟩ | refine ⟨by (first | omega | (simp (disch := omega) only [wrapI]; omega) | (simp (disch := omega) only [wrapI]; simp; omega) | (simp; omega)), ?_⟩ | (intro ep) | (refine ifB (fun hb => ?_) (fun hb => ?_) <;> (try simp only [decide_eq_true_eq, decide_eq_false_iff_not, beq_iff_eq, beq_eq_false_iff_ne, bne_iff_ne, bne_eq_false_iff_eq, ne_eq, not_false_eq_true, not_true_eq_false, Bool.not_eq_true, Bool.not_eq_true', Bool.not_eq_false', Int.not_lt, Int.not_le] at hb) <;> (try simp (disch := omega) only [wrapI] at hb) <;> (try (exfalso; omega))) | fail)))
def A8 : Ann := fun r => match r with
  | 0 => { slots := [(0, 0)] }
  | _ => {}
set_option maxHeartbeats 8000000 in
set_option maxRecDepth 100000 in
theorem law_lines (p : Pc) (hp : p.Ok) : ACalls C.P 8 [pcA p] Heap.nil fun r _ => r = .bool true := by
  have hb0 := big_spec p hp
  cases hb : bigB p with
  | true =>
    rw [hb] at hb0
    refine fn_of ok mixed (A := A8) 1 Try.func8 rfl ?_
    (repeat' (first | exact rfl | ((conv => whnf); first | refine ⟨_, works_spec, ?_⟩ | refine ⟨_, hb0, ?_⟩ | exact rfl | exact ⟨rfl, rfl⟩ | refine ⟨(by kernel_rfl : drawOk _ _ _ _ = true), ?_⟩ | refine ⟨(by kernel_rfl : planOk _ _ _ _ = true), ?_⟩ | refine ⟨rfl, ?_⟩ | refine ⟨by (first | omega | (simp (disch := omega) only [wrapI]; omega) | (simp (disch := omega) only [wrapI]; simp; omega) | (simp; omega)), ?_⟩ | (intro ep) | (refine ifB (fun hb => ?_) (fun hb => ?_) <;> (try simp only [decide_eq_true_eq, decide_eq_false_iff_not, beq_iff_eq, beq_eq_false_iff_ne, bne_iff_ne, bne_eq_false_iff_eq, ne_eq, not_false_eq_true, not_true_eq_false, Bool.not_eq_true, Bool.not_eq_true', Bool.not_eq_false', Int.not_lt, Int.not_le] at hb) <;> (try simp (disch := omega) only [wrapI] at hb) <;> (try (exfalso; omega))) | fail)))
  | false =>
    have hs := Pc.Sm.of_big hb
    have hcp := copy_spec p hs
    rw [hb] at hb0
    have h1 := melody32 p hp
    have h2 := melody33 p hp hs
    have h3 := ground34 p hp
    have h4 := ground35 p hp hs
    unfold lineV at h1 h2 h3 h4
    by_cases hc : chk p = 0
    · rw [if_pos hc] at h1 h2 h3 h4
      have hl := (vp hc).len
      have h5 := sameInts_self (lineL true p) (by unfold lineL; rw [List.length_map]; omega)
      have h6 := sameInts_self (lineL false p) (by unfold lineL; rw [List.length_map]; omega)
      generalize lineL true p = N at h1 h2 h5
      generalize lineL false p = M at h3 h4 h6
      refine fn_of ok mixed (A := A8) 1 Try.func8 rfl ?_
      (repeat' (first | exact rfl | ((conv => whnf); first | refine ⟨_, works_spec, ?_⟩ | refine ⟨_, hb0, ?_⟩ | refine ⟨_, hcp, ?_⟩ | refine ⟨_, h1, ?_⟩ | refine ⟨_, h2, ?_⟩ | refine ⟨_, h3, ?_⟩ | refine ⟨_, h4, ?_⟩ | refine ⟨_, h5, ?_⟩ | refine ⟨_, h6, ?_⟩ | exact rfl | exact ⟨rfl, rfl⟩ | refine ⟨(by kernel_rfl : drawOk _ _ _ _ = true), ?_⟩ | refine ⟨(by kernel_rfl : planOk _ _ _ _ = true), ?_⟩ | refine ⟨rfl, ?_⟩ | refine ⟨by (first | omega | (simp (disch := omega) only [wrapI]; omega) | (simp (disch := omega) only [wrapI]; simp; omega) | (simp; omega)), ?_⟩ | (intro ep) | (refine ifB (fun hb => ?_) (fun hb => ?_) <;> (try simp only [decide_eq_true_eq, decide_eq_false_iff_not, beq_iff_eq, beq_eq_false_iff_ne, bne_iff_ne, bne_eq_false_iff_eq, ne_eq, not_false_eq_true, not_true_eq_false, Bool.not_eq_true, Bool.not_eq_true', Bool.not_eq_false', Int.not_lt, Int.not_le] at hb) <;> (try simp (disch := omega) only [wrapI] at hb) <;> (try (exfalso; omega))) | fail)))
    · rw [if_neg hc] at h1 h2 h3 h4
      have h5 := sameInts_nil
      have h6 := True.intro
      generalize chk p = e at h1 h2 h3 h4
      refine fn_of ok mixed (A := A8) 1 Try.func8 rfl ?_
      (repeat' (first | exact rfl | ((conv => whnf); first | refine ⟨_, works_spec, ?_⟩ | refine ⟨_, hb0, ?_⟩ | refine ⟨_, hcp, ?_⟩ | refine ⟨_, h1, ?_⟩ | refine ⟨_, h2, ?_⟩ | refine ⟨_, h3, ?_⟩ | refine ⟨_, h4, ?_⟩ | refine ⟨_, h5, ?_⟩ | refine ⟨_, h6, ?_⟩ | exact rfl | exact ⟨rfl, rfl⟩ | refine ⟨(by kernel_rfl : drawOk _ _ _ _ = true), ?_⟩ | refine ⟨(by kernel_rfl : planOk _ _ _ _ = true), ?_⟩ | refine ⟨rfl, ?_⟩ | refine ⟨by (first | omega | (simp (disch := omega) only [wrapI]; omega) | (simp (disch := omega) only [wrapI]; simp; omega) | (simp; omega)), ?_⟩ | (intro ep) | (refine ifB (fun hb => ?_) (fun hb => ?_) <;> (try simp only [decide_eq_true_eq, decide_eq_false_iff_not, beq_iff_eq, beq_eq_false_iff_ne, bne_iff_ne, bne_eq_false_iff_eq, ne_eq, not_false_eq_true, not_true_eq_false, Bool.not_eq_true, Bool.not_eq_true', Bool.not_eq_false', Int.not_lt, Int.not_le] at hb) <;> (try simp (disch := omega) only [wrapI] at hb) <;> (try (exfalso; omega))) | fail)))
end Go.Ab.V
