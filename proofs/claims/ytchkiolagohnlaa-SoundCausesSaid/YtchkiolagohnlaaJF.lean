/-
  What is proved here serves the law's text: each part says its own claim and its conditions. No condition is left open.
-/
import Derived.Test.YtchkiolagohnlaaJE
import Derived.Test.YtchkiolagohnlaaKV
import Derived.Test.YtchkiolagohnlaaJC
import Derived.Test.YtchkiolagohnlaaKW
set_option linter.unusedSimpArgs false
set_option linter.unusedVariables false

/-
  Causes: the program's and the document's, and the law. The pieces are of the sizes that a statement looks at.
-/
namespace Go.Ab.V
open Go.Proofs

theorem newL_map {α β : Type} (f : α → β) (g : Nat → Stp → α) : ∀ (l : List Evt) (k : Nat), (newL g k l).map f = newL (fun k s => f (g k s)) k l
  | [], k => rfl
  | e :: r, k => by
    rw [newL, List.map_append, newL_map f g r (k + 1), List.map_map, newL]
    rfl
theorem newL_pair {α β : Type} (g : Nat → Stp → α) (h : Nat → Stp → β) (l : List Evt) (k : Nat) : (newL g k l).length = (newL h k l).length ∧
    ∀ j (h1 : j < (newL g k l).length) (h2 : j < (newL h k l).length), ∃ i, ∃ hi : i < l.length, ∃ s ∈ l[i].stops, (newL g k l)[j] = g (k + i) s ∧ (newL h k l)[j] = h (k + i) s := by
  have e1 : newL g k l = (newL (fun k s => (g k s, h k s)) k l).map Prod.fst := (newL_map Prod.fst (fun k s => (g k s, h k s)) l k).symm
  have e2 : newL h k l = (newL (fun k s => (g k s, h k s)) k l).map Prod.snd := (newL_map Prod.snd (fun k s => (g k s, h k s)) l k).symm
  refine ⟨by rw [e1, e2, List.length_map, List.length_map], fun j h1 h2 => ?_⟩
  have h3 : j < (newL (fun k s => (g k s, h k s)) k l).length := by rw [e1, List.length_map] at h1; exact h1
  obtain ⟨i, hi, s, hs, hx⟩ := newL_mem (List.getElem_mem h3)
  refine ⟨i, hi, s, hs, ?_, ?_⟩
  · simp only [e1, List.getElem_map, hx]
  · simp only [e2, List.getElem_map, hx]
def causesV (p : Pc) : AV := if chk p = 0 then .tup [intsA (causesL p), .int .i64 0] else .tup [.nils, .int .i64 (chk p)]
def A39 : Ann := fun r => match r with
  | 0 => { slots := [(0, 0)] }
  | 1 => { slots := [(5, 1)] }
  | 8 => { slots := [(2, 2)] }
  | 9 => { slots := [(4, 3), (5, 4)] }
  | _ => {}
set_option maxHeartbeats 8000000 in
set_option maxRecDepth 100000 in
theorem causes39 (p : Pc) (hp : p.Ok) : PRet C.P 39 [pcA p] (causesV p) := by
  unfold causesV
  by_cases hc : ¬ chk p = 0
  · rw [if_neg hc]
    have h1 := listen_bad p hp hc
    generalize chk p = e at h1 hc
    refine pret_of ok mixed (A := A39) 5 Try.func39 rfl ?_
    (repeat' (first | exact rfl | ((conv => whnf); first | refine ⟨_, h1, ?_⟩ | exact rfl | exact ⟨rfl, rfl⟩ | refine ⟨(by kernel_rfl : drawOk _ _ _ _ = true), ?_⟩ | refine ⟨(by kernel_rfl : planOk _ _ _ _ = true), ?_⟩ | refine ⟨rfl, ?_⟩ | refine ⟨by (first | omega | (simp (disch := omega) only [wrapI]; omega) | (simp (disch := omega) only [wrapI]; simp; omega) | (simp; omega)), ?_⟩ | (intro ep) | (refine ifB (fun hb => ?_) (fun hb => ?_) <;> (try simp only [decide_eq_true_eq, decide_eq_false_iff_not, beq_iff_eq, beq_eq_false_iff_ne, bne_iff_ne, bne_eq_false_iff_eq, ne_eq, not_false_eq_true, not_true_eq_false, Bool.not_eq_true, Bool.not_eq_true', Bool.not_eq_false', Int.not_lt, Int.not_le] at hb) <;> (try simp (disch := omega) only [wrapI] at hb) <;> (try (exfalso; omega))) | fail)))
  have hc := Decidable.not_not.1 hc
  rw [if_pos hc]
  have v := vp hc
  have h1 := listen_ok p hp hc
  have h2 := notes51 p v
  have hl := notes_len v
  have hpair := newL_pair (noteOf p) (causeOf p) p.evs 0
  have h74 : ∀ j (h1 : j < (notesL p).length) (h2 : j < (causesL p).length), PRet C.P 74 [sndA p, .agg (ntR (notesL p)[j])] (.int .i64 (causesL p)[j]) := fun j h1 h2 => by
    obtain ⟨i, hi, s, hs, e1, e2⟩ := hpair.2 j h1 h2
    have e1 : (notesL p)[j] = noteOf p i s := by rw [Nat.zero_add] at e1; exact e1
    have e2 : (causesL p)[j] = causeOf p i s := by rw [Nat.zero_add] at e2; exact e2
    rw [e1, e2]
    exact cause74 p hc i hi s hs
  have hlen : (notesL p).length = (causesL p).length := hpair.1
  clear hpair
  obtain ⟨Z, hZ⟩ : ∃ Z, Z = causesL p := ⟨_, rfl⟩
  rw [← hZ] at hlen ⊢
  simp only [← hZ] at h74
  generalize notesL p = N at h2 hl h74 hlen
  generalize pressL p = W at h2
  refine pret_of ok mixed (A := A39) 5 Try.func39 rfl ?_
  (repeat' (first | exact rfl | ((conv => whnf); first | refine ⟨_, h1, ?_⟩ | refine ⟨_, h2, ?_⟩ | exact rfl | exact ⟨rfl, rfl⟩ | refine ⟨(by kernel_rfl : drawOk _ _ _ _ = true), ?_⟩ | refine ⟨(by kernel_rfl : planOk _ _ _ _ = true), ?_⟩ | refine ⟨rfl, ?_⟩ | refine ⟨by (first | omega | (simp (disch := omega) only [wrapI]; omega) | (simp (disch := omega) only [wrapI]; simp; omega) | (simp; omega)), ?_⟩ | (intro ep) | (refine ifB (fun hb => ?_) (fun hb => ?_) <;> (try simp only [decide_eq_true_eq, decide_eq_false_iff_not, beq_iff_eq, beq_eq_false_iff_ne, bne_iff_ne, bne_eq_false_iff_eq, ne_eq, not_false_eq_true, not_true_eq_false, Bool.not_eq_true, Bool.not_eq_true', Bool.not_eq_false', Int.not_lt, Int.not_le] at hb) <;> (try simp (disch := omega) only [wrapI] at hb) <;> (try (exfalso; omega))) | fail)))
  all_goals (conv => whnf)
  obtain ⟨e1, he⟩ : ∃ e1, e1 = ep := ⟨_, rfl⟩
  subst he
  refine wk_lift 8 4 1 rfl ?_
  intro e4
  refine loopY ok mixed (A := A39) [4, 8, 24, 25, 26] [1, 4] (S := { z : Nat × Nat × List Int // z.1 ≤ N.length ∧ z.2.2 = Z.take z.1 })
    (fr := fun s => frOf 0 38 [(4, .optr (.s 1) e1 4 0 0), (8, .oslc (.s 4) s.1.2.1 1 0 s.1.2.2.length false), (24, ntsA N), (25, .int .i64 (N.length : Int)), (26, .int .i64 (s.1.1 : Int))])
    (h := fun s => ⟨[.hole, .vec e1 [sndV p], .hole, .hole, .vec s.1.2.1 (ints s.1.2.2)], []⟩) (μ := fun s => N.length - s.1.1)
    ⟨(0, e4, []), by simp, by simp⟩ ?_ ?_
    [8] [4] (S' := { z : Nat × List Int // z.2 = Z }) (X := fun _ => 0)
    (frX := fun s => frOf 0 38 [(8, .oslc (.s 4) s.1.1 1 0 s.1.2.length false)])
    (hX := fun s => ⟨[.hole, .hole, .hole, .hole, .vec s.1.1 (ints s.1.2)], []⟩)
    [] [] (S2 := Empty) (frR := fun s => frOf 0 38 []) (hR := fun s => ⟨[], []⟩) ?_ ?_ ?_
  · exact rfl
  · exact rfl
  · rintro ⟨⟨j, e4, L⟩, hj, hu⟩
    dsimp only at hj hu
    show aexR _ _ _ (frOf 0 38 [(4, .optr (.s 1) e1 4 0 0), (8, .oslc (.s 4) e4 1 0 L.length false), (24, ntsA N), (25, .int .i64 (N.length : Int)), (26, .int .i64 (j : Int))]) ⟨[.hole, .vec e1 [sndV p], .hole, .hole, .vec e4 (ints L)], []⟩ _
    by_cases g : j < N.length
    · have hm := mapR (f := ntR) g
      have hjz : j < Z.length := by omega
      have h3 := h74 j g hjz
      have hnx : L ++ [Z[j]] = Z.take (j + 1) := by rw [List.take_add_one, List.getElem?_eq_getElem hjz, hu]; rfl
      have hLl : L.length ≤ 5600 := by rw [hu, List.length_take]; omega
      clear h74
      generalize N[j] = x at hm h3
      generalize Z[j] = y at h3 hnx
      obtain ⟨xe, xc, xp, xf, xt⟩ := x
      have t1 : List.take L.length (List.drop 0 (ints L)) = ints L := by rw [List.drop_zero, List.take_of_length_le (by simp [ints])]
      (repeat' (first | exact rfl | ((conv => whnf); first | refine optS hm ?_ | refine ⟨_, h3, ?_⟩ | exact rfl | exact ⟨rfl, rfl⟩ | refine ⟨(by kernel_rfl : drawOk _ _ _ _ = true), ?_⟩ | refine ⟨(by kernel_rfl : planOk _ _ _ _ = true), ?_⟩ | refine ⟨rfl, ?_⟩ | refine ⟨by (first | omega | (simp (disch := omega) only [wrapI]; omega) | (simp (disch := omega) only [wrapI]; simp; omega) | (simp; omega)), ?_⟩ | (intro ep) | (refine ifB (fun hb => ?_) (fun hb => ?_) <;> (try simp only [decide_eq_true_eq, decide_eq_false_iff_not, beq_iff_eq, beq_eq_false_iff_ne, bne_iff_ne, bne_eq_false_iff_eq, ne_eq, not_false_eq_true, not_true_eq_false, Bool.not_eq_true, Bool.not_eq_true', Bool.not_eq_false', Int.not_lt, Int.not_le] at hb) <;> (try simp (disch := omega) only [wrapI] at hb) <;> (try (exfalso; omega))) | fail)))
      all_goals (conv => whnf)
      refine back_of ⟨(j + 1, ep, L ++ [y]), by dsimp only; omega, hnx⟩ ⟨?_, ?_, by dsimp only; omega⟩
      · show maskF 0 _ _ = frOf 0 38 [(4, .optr (.s 1) e1 4 0 0), (8, .oslc (.s 4) ep 1 0 (L ++ [y]).length false), (24, ntsA N), (25, .int .i64 (N.length : Int)), (26, .int .i64 ((j + 1 : Nat) : Int))]
        rw [List.length_append, List.length_singleton]
        (first | exact rfl | (simp (disch := omega) only [wrapI]; exact rfl))
      · show maskH 0 _ _ = ⟨[.hole, .vec e1 [sndV p], .hole, .hole, .vec ep (ints (L ++ [y]))], []⟩
        have em : ints (L ++ [y]) = List.take L.length (List.drop 0 (ints L)) ++ [[.int .i64 y]] := by rw [t1]; simp [ints]
        rw [em]
        (first | exact rfl | (simp (disch := omega) only [wrapI]; exact rfl))
    · have hj2 : j = N.length := by omega
      subst hj2
      rw [hlen, List.take_length] at hu
      (repeat' (first | exact rfl | ((conv => whnf); first | exact rfl | exact ⟨rfl, rfl⟩ | refine ⟨(by kernel_rfl : drawOk _ _ _ _ = true), ?_⟩ | refine ⟨(by kernel_rfl : planOk _ _ _ _ = true), ?_⟩ | refine ⟨rfl, ?_⟩ | refine ⟨by (first | omega | (simp (disch := omega) only [wrapI]; omega) | (simp (disch := omega) only [wrapI]; simp; omega) | (simp; omega)), ?_⟩ | (intro ep) | (refine ifB (fun hb => ?_) (fun hb => ?_) <;> (try simp only [decide_eq_true_eq, decide_eq_false_iff_not, beq_iff_eq, beq_eq_false_iff_ne, bne_iff_ne, bne_eq_false_iff_eq, ne_eq, not_false_eq_true, not_true_eq_false, Bool.not_eq_true, Bool.not_eq_true', Bool.not_eq_false', Int.not_lt, Int.not_le] at hb) <;> (try simp (disch := omega) only [wrapI] at hb) <;> (try (exfalso; omega))) | fail)))
      all_goals (conv => whnf)
      all_goals exact back_of ⟨(e4, L), hu⟩ ⟨rfl, rfl, rfl⟩
  · rintro ⟨⟩
  · rintro ⟨⟨e4, L⟩, hz⟩
    dsimp only at hz
    subst hz
    (repeat' (first | exact rfl | ((conv => whnf); first | exact rfl | exact ⟨rfl, rfl⟩ | refine ⟨(by kernel_rfl : drawOk _ _ _ _ = true), ?_⟩ | refine ⟨(by kernel_rfl : planOk _ _ _ _ = true), ?_⟩ | refine ⟨rfl, ?_⟩ | refine ⟨by (first | omega | (simp (disch := omega) only [wrapI]; omega) | (simp (disch := omega) only [wrapI]; simp; omega) | (simp; omega)), ?_⟩ | (intro ep) | (refine ifB (fun hb => ?_) (fun hb => ?_) <;> (try simp only [decide_eq_true_eq, decide_eq_false_iff_not, beq_iff_eq, beq_eq_false_iff_ne, bne_iff_ne, bne_eq_false_iff_eq, ne_eq, not_false_eq_true, not_true_eq_false, Bool.not_eq_true, Bool.not_eq_true', Bool.not_eq_false', Int.not_lt, Int.not_le] at hb) <;> (try simp (disch := omega) only [wrapI] at hb) <;> (try (exfalso; omega))) | fail)))
    all_goals (conv => whnf)
    exact ⟨Go.Ab.V.pure_map (f := fun x : Int => [AV.int .i64 x]) L fun x => rfl, rfl, rfl⟩
def A40 : Ann := fun r => match r with
  | 0 => { slots := [(0, 0)] }
  | 11 => { slots := [(9, 1)] }
  | 13 => { slots := [(1, 2), (2, 3)] }
  | 15 => { slots := [(1, 2), (2, 3)] }
  | 17 => { slots := [(1, 2), (2, 3)] }
  | 19 => { slots := [(1, 2), (2, 3)] }
  | _ => {}
set_option maxHeartbeats 16000000 in
set_option maxRecDepth 100000 in
theorem refCauses40 (p : Pc) (hp : p.Ok) (hs : p.Sm) : PRet C.P 40 [pcA p] (causesV p) := by
  have hO := refCheck_spec p hp (by have := hs.ev; omega)
  unfold causesV
  by_cases hc : ¬ chk p = 0
  · rw [if_neg hc]
    generalize chk p = e at hO hc
    refine pret_of ok mixed (A := A40) 4 Try.func40 rfl ?_
    (repeat' (first | exact rfl | ((conv => whnf); first | refine ⟨_, hO, ?_⟩ | exact rfl | exact ⟨rfl, rfl⟩ | refine ⟨(by kernel_rfl : drawOk _ _ _ _ = true), ?_⟩ | refine ⟨(by kernel_rfl : planOk _ _ _ _ = true), ?_⟩ | refine ⟨rfl, ?_⟩ | refine ⟨by (first | omega | (simp (disch := omega) only [wrapI]; omega) | (simp (disch := omega) only [wrapI]; simp; omega) | (simp; omega)), ?_⟩ | (intro ep) | (refine ifB (fun hb => ?_) (fun hb => ?_) <;> (try simp only [decide_eq_true_eq, decide_eq_false_iff_not, beq_iff_eq, beq_eq_false_iff_ne, bne_iff_ne, bne_eq_false_iff_eq, ne_eq, not_false_eq_true, not_true_eq_false, Bool.not_eq_true, Bool.not_eq_true', Bool.not_eq_false', Int.not_lt, Int.not_le] at hb) <;> (try simp (disch := omega) only [wrapI] at hb) <;> (try (exfalso; omega))) | fail)))
  have hc := Decidable.not_not.1 hc
  rw [if_pos hc]
  rw [hc] at hO
  have v := vp hc
  have hlen := v.len
  have hcs := v.cs
  obtain ⟨Z, hZ⟩ : ∃ Z, Z = causesL p := ⟨_, rfl⟩
  rw [← hZ]
  refine pret_of ok mixed (A := A40) 4 Try.func40 rfl ?_
  (repeat' ((conv => whnf); first | refine ⟨_, hO, ?_⟩ | exact rfl | exact ⟨rfl, rfl⟩ | refine ⟨(by kernel_rfl : drawOk _ _ _ _ = true), ?_⟩ | refine ⟨(by kernel_rfl : planOk _ _ _ _ = true), ?_⟩ | refine ⟨rfl, ?_⟩ | refine ⟨by (first | omega | (simp (disch := omega) only [wrapI]; omega) | (simp (disch := omega) only [wrapI]; simp; omega) | (simp; omega)), ?_⟩ | (intro ep) | (refine ifB (fun hb => ?_) (fun hb => ?_) <;> (try simp only [decide_eq_true_eq, decide_eq_false_iff_not, beq_iff_eq, beq_eq_false_iff_ne, bne_iff_ne, bne_eq_false_iff_eq, ne_eq, not_false_eq_true, not_true_eq_false, Bool.not_eq_true, Bool.not_eq_true', Bool.not_eq_false', Int.not_lt, Int.not_le] at hb) <;> (try simp (disch := omega) only [wrapI] at hb) <;> (try (exfalso; omega))) | fail))
  all_goals (conv => whnf)
  obtain ⟨e0, he⟩ : ∃ e0, e0 = ep := ⟨_, rfl⟩
  subst he
  refine wk_lift 5 3 1 rfl ?_
  intro e3
  refine loopY ok mixed (A := A40) [1, 5, 6] [0, 3] (S := { z : Nat × Nat × List Int // z.1 ≤ p.evs.length ∧ z.2.2 ++ newL (causeOf p) z.1 (p.evs.drop z.1) = Z ∧ z.2.2.length ≤ 14 * z.1 })
    (fr := fun s => frOf 0 81 [(1, .optr (.s 0) e0 3 0 0), (5, .oslc (.s 3) s.1.2.1 1 0 s.1.2.2.length false), (6, .int .i64 (s.1.1 : Int))])
    (h := fun s => ⟨[.vec e0 [pcV p], .hole, .hole, .vec s.1.2.1 (ints s.1.2.2)], []⟩) (μ := fun s => p.evs.length - s.1.1)
    ⟨(0, e3, []), by simp, hZ.symm, by simp⟩ ?_ ?_
    [5] [3] (S' := { z : Nat × List Int // z.2 = Z }) (X := fun _ => 0)
    (frX := fun s => frOf 0 81 [(5, .oslc (.s 3) s.1.1 1 0 s.1.2.length false)])
    (hX := fun s => ⟨[.hole, .hole, .hole, .vec s.1.1 (ints s.1.2)], []⟩)
    [] [] (S2 := Empty) (frR := fun s => frOf 0 81 []) (hR := fun s => ⟨[], []⟩) ?_ ?_ ?_
  · exact rfl
  · exact rfl
  · rintro ⟨⟨k, e3, L⟩, hk, hu, hL⟩
    dsimp only at hk hu hL
    show aexR _ _ _ (frOf 0 81 [(1, .optr (.s 0) e0 3 0 0), (5, .oslc (.s 3) e3 1 0 L.length false), (6, .int .i64 (k : Int))]) ⟨[.vec e0 [pcV p], .hole, .hole, .vec e3 (ints L)], []⟩ _
    by_cases hk2 : k < p.evs.length
    · have g1 : (k : Int) < p.evs.length := by omega
      have hmk := mapR (f := evR) hk2
      have hsp := v.sp k hk2
      have hsl := v.sl k hk2
      have hEl := fun s hs => endN_le v hk2 (s := s) hs
      rw [newL_drop _ hk2, ← List.append_assoc] at hu
      generalize p.evs[k] = e at hmk hsp hsl hu hEl
      obtain ⟨eb, ev, ed, et, ey, l⟩ := e
      dsimp only at hsp hsl hu hEl
      obtain ⟨Y, hY⟩ : ∃ Y, Y = L ++ l.map (causeOf p k) := ⟨_, rfl⟩
      rw [← hY] at hu
      (repeat' (first | exact rfl | ((conv => whnf); first | exact rfl | exact ⟨rfl, rfl⟩ | refine ⟨(by kernel_rfl : drawOk _ _ _ _ = true), ?_⟩ | refine ⟨(by kernel_rfl : planOk _ _ _ _ = true), ?_⟩ | refine ⟨rfl, ?_⟩ | refine ⟨by (first | omega | (simp (disch := omega) only [wrapI]; omega) | (simp (disch := omega) only [wrapI]; simp; omega) | (simp; omega)), ?_⟩ | (intro ep) | (refine ifB (fun hb => ?_) (fun hb => ?_) <;> (try simp only [decide_eq_true_eq, decide_eq_false_iff_not, beq_iff_eq, beq_eq_false_iff_ne, bne_iff_ne, bne_eq_false_iff_eq, ne_eq, not_false_eq_true, not_true_eq_false, Bool.not_eq_true, Bool.not_eq_true', Bool.not_eq_false', Int.not_lt, Int.not_le] at hb) <;> (try simp (disch := omega) only [wrapI] at hb) <;> (try (exfalso; omega))) | fail)))
      all_goals (conv => whnf)
      refine loopY ok mixed (A := A40) [1, 5, 6, 7] [0, 3] (S := { z : Nat × Nat × List Int // z.1 ≤ l.length ∧ z.2.2 ++ (l.drop z.1).map (causeOf p k) = Y ∧ z.2.2.length ≤ 14 * k + z.1 })
        (fr := fun s => frOf 0 81 [(1, .optr (.s 0) e0 3 0 0), (5, .oslc (.s 3) s.1.2.1 1 0 s.1.2.2.length false), (6, .int .i64 (k : Int)), (7, .int .i64 (s.1.1 : Int))])
        (h := fun s => ⟨[.vec e0 [pcV p], .hole, .hole, .vec s.1.2.1 (ints s.1.2.2)], []⟩) (μ := fun s => l.length - s.1.1)
        ⟨(0, e3, L), by simp, hY.symm, by dsimp only; omega⟩ ?_ ?_
        [1, 5, 6] [0, 3] (S' := { z : Nat × List Int // z.2 = Y ∧ z.2.length ≤ 14 * k + 14 }) (X := fun _ => 2)
        (frX := fun s => frOf 0 81 [(1, .optr (.s 0) e0 3 0 0), (5, .oslc (.s 3) s.1.1 1 0 s.1.2.length false), (6, .int .i64 (k : Int))])
        (hX := fun s => ⟨[.vec e0 [pcV p], .hole, .hole, .vec s.1.1 (ints s.1.2)], []⟩)
        [] [] (S2 := Empty) (frR := fun s => frOf 0 81 []) (hR := fun s => ⟨[], []⟩) ?_ ?_ ?_
      · exact rfl
      · exact rfl
      · rintro ⟨⟨j, e3, L⟩, hj, hu2, hL⟩
        dsimp only at hj hu2 hL
        show aexR _ _ _ (frOf 0 81 [(1, .optr (.s 0) e0 3 0 0), (5, .oslc (.s 3) e3 1 0 L.length false), (6, .int .i64 (k : Int)), (7, .int .i64 (j : Int))]) ⟨[.vec e0 [pcV p], .hole, .hole, .vec e3 (ints L)], []⟩ _
        by_cases g3 : j < l.length
        · have hm := mapR (f := stR) g3
          have hs1 := hsp l[j] (List.getElem_mem g3)
          have hle := hEl l[j] (List.getElem_mem g3)
          rw [List.drop_eq_getElem_cons g3, List.map_cons, List.append_cons] at hu2
          generalize l[j] = s at hm hs1 hu2 hle
          have hE := end55 p v k hk2 s (by omega) (by omega)
          obtain ⟨y, hy⟩ : ∃ y, y = causeOf p k s := ⟨_, rfl⟩
          rw [← hy] at hu2
          unfold causeOf at hy
          generalize endN p.evs k s = N at hE hle hy
          obtain ⟨sc, sf, sr, sg, sh⟩ := s
          dsimp only at hy hE
          have t1 : List.take L.length (List.drop 0 (ints L)) = ints L := by rw [List.drop_zero, List.take_of_length_le (by simp [ints])]
          have fin : ∀ (e : Nat) (K : List AV → Heap → Prop), True := fun _ _ => trivial
          by_cases hN : N = p.evs.length
          · have hy : y = 4 := by rw [hy]; unfold causeJ; rw [List.getElem?_eq_none (by omega)]
            subst hy
            subst hN
            (repeat' (first | exact rfl | ((conv => whnf); first | refine optS hmk ?_ | refine optS hm ?_ | refine ⟨_, hE, ?_⟩ | exact rfl | exact ⟨rfl, rfl⟩ | refine ⟨(by kernel_rfl : drawOk _ _ _ _ = true), ?_⟩ | refine ⟨(by kernel_rfl : planOk _ _ _ _ = true), ?_⟩ | refine ⟨rfl, ?_⟩ | refine ⟨by (first | omega | (simp (disch := omega) only [wrapI]; omega) | (simp (disch := omega) only [wrapI]; simp; omega) | (simp; omega)), ?_⟩ | (intro ep) | (refine ifB (fun hb => ?_) (fun hb => ?_) <;> (try simp only [decide_eq_true_eq, decide_eq_false_iff_not, beq_iff_eq, beq_eq_false_iff_ne, bne_iff_ne, bne_eq_false_iff_eq, ne_eq, not_false_eq_true, not_true_eq_false, Bool.not_eq_true, Bool.not_eq_true', Bool.not_eq_false', Int.not_lt, Int.not_le] at hb) <;> (try simp (disch := omega) only [wrapI] at hb) <;> (try (exfalso; omega))) | fail)))
            all_goals (conv => whnf)
            refine back_of ⟨(j + 1, ep, L ++ [4]), by dsimp only; omega, hu2, by dsimp only; rw [List.length_append, List.length_singleton]; omega⟩ ⟨?_, ?_, by dsimp only; omega⟩
            · show maskF 0 _ _ = frOf 0 81 [(1, .optr (.s 0) e0 3 0 0), (5, .oslc (.s 3) ep 1 0 (L ++ [(4 : Int)]).length false), (6, .int .i64 (k : Int)), (7, .int .i64 ((j + 1 : Nat) : Int))]
              rw [List.length_append, List.length_singleton]
              (first | exact rfl | (simp (disch := omega) only [wrapI]; exact rfl))
            · show maskH 0 _ _ = ⟨[.vec e0 [pcV p], .hole, .hole, .vec ep (ints (L ++ [(4 : Int)]))], []⟩
              rw [show ints (L ++ [(4 : Int)]) = List.take L.length (List.drop 0 (ints L)) ++ [[.int .i64 4]] by rw [t1]; simp [ints]]
              (first | exact rfl | (simp (disch := omega) only [wrapI]; exact rfl))
          · have hN2 : N < p.evs.length := by omega
            have hmN := mapR (f := evR) hN2
            have hslN := v.sl N hN2
            have hy : y = if hasC p.evs[N].stops sc = true then 1 else if restE p.evs[N] = true then 2 else 3 := by rw [hy]; unfold causeJ; rw [List.getElem?_eq_getElem hN2]
            generalize p.evs[N] = e at hmN hslN hy
            have h75 := refHas_spec e sc (by omega)
            have h76 := refRest_spec e
            generalize hasC e.stops sc = b at h75 hy
            generalize restE e = r at h76 hy
            cases b with
            | true =>
              have hy : y = 1 := by simpa using hy
              subst hy
              (repeat' (first | exact rfl | ((conv => whnf); first | refine optS hmk ?_ | refine optS hm ?_ | refine optS hmN ?_ | refine ⟨_, hE, ?_⟩ | refine ⟨_, h75, ?_⟩ | refine ⟨_, h76, ?_⟩ | exact rfl | exact ⟨rfl, rfl⟩ | refine ⟨(by kernel_rfl : drawOk _ _ _ _ = true), ?_⟩ | refine ⟨(by kernel_rfl : planOk _ _ _ _ = true), ?_⟩ | refine ⟨rfl, ?_⟩ | refine ⟨by (first | omega | (simp (disch := omega) only [wrapI]; omega) | (simp (disch := omega) only [wrapI]; simp; omega) | (simp; omega)), ?_⟩ | (intro ep) | (refine ifB (fun hb => ?_) (fun hb => ?_) <;> (try simp only [decide_eq_true_eq, decide_eq_false_iff_not, beq_iff_eq, beq_eq_false_iff_ne, bne_iff_ne, bne_eq_false_iff_eq, ne_eq, not_false_eq_true, not_true_eq_false, Bool.not_eq_true, Bool.not_eq_true', Bool.not_eq_false', Int.not_lt, Int.not_le] at hb) <;> (try simp (disch := omega) only [wrapI] at hb) <;> (try (exfalso; omega))) | fail)))
              all_goals (conv => whnf)
              refine back_of ⟨(j + 1, ep, L ++ [1]), by dsimp only; omega, hu2, by dsimp only; rw [List.length_append, List.length_singleton]; omega⟩ ⟨?_, ?_, by dsimp only; omega⟩
              · show maskF 0 _ _ = frOf 0 81 [(1, .optr (.s 0) e0 3 0 0), (5, .oslc (.s 3) ep 1 0 (L ++ [(1 : Int)]).length false), (6, .int .i64 (k : Int)), (7, .int .i64 ((j + 1 : Nat) : Int))]
                rw [List.length_append, List.length_singleton]
                (first | exact rfl | (simp (disch := omega) only [wrapI]; exact rfl))
              · show maskH 0 _ _ = ⟨[.vec e0 [pcV p], .hole, .hole, .vec ep (ints (L ++ [(1 : Int)]))], []⟩
                rw [show ints (L ++ [(1 : Int)]) = List.take L.length (List.drop 0 (ints L)) ++ [[.int .i64 1]] by rw [t1]; simp [ints]]
                (first | exact rfl | (simp (disch := omega) only [wrapI]; exact rfl))
            | false =>
              cases r with
              | true =>
                have hy : y = 2 := by simpa using hy
                subst hy
                (repeat' (first | exact rfl | ((conv => whnf); first | refine optS hmk ?_ | refine optS hm ?_ | refine optS hmN ?_ | refine ⟨_, hE, ?_⟩ | refine ⟨_, h75, ?_⟩ | refine ⟨_, h76, ?_⟩ | exact rfl | exact ⟨rfl, rfl⟩ | refine ⟨(by kernel_rfl : drawOk _ _ _ _ = true), ?_⟩ | refine ⟨(by kernel_rfl : planOk _ _ _ _ = true), ?_⟩ | refine ⟨rfl, ?_⟩ | refine ⟨by (first | omega | (simp (disch := omega) only [wrapI]; omega) | (simp (disch := omega) only [wrapI]; simp; omega) | (simp; omega)), ?_⟩ | (intro ep) | (refine ifB (fun hb => ?_) (fun hb => ?_) <;> (try simp only [decide_eq_true_eq, decide_eq_false_iff_not, beq_iff_eq, beq_eq_false_iff_ne, bne_iff_ne, bne_eq_false_iff_eq, ne_eq, not_false_eq_true, not_true_eq_false, Bool.not_eq_true, Bool.not_eq_true', Bool.not_eq_false', Int.not_lt, Int.not_le] at hb) <;> (try simp (disch := omega) only [wrapI] at hb) <;> (try (exfalso; omega))) | fail)))
                all_goals (conv => whnf)
                refine back_of ⟨(j + 1, ep, L ++ [2]), by dsimp only; omega, hu2, by dsimp only; rw [List.length_append, List.length_singleton]; omega⟩ ⟨?_, ?_, by dsimp only; omega⟩
                · show maskF 0 _ _ = frOf 0 81 [(1, .optr (.s 0) e0 3 0 0), (5, .oslc (.s 3) ep 1 0 (L ++ [(2 : Int)]).length false), (6, .int .i64 (k : Int)), (7, .int .i64 ((j + 1 : Nat) : Int))]
                  rw [List.length_append, List.length_singleton]
                  (first | exact rfl | (simp (disch := omega) only [wrapI]; exact rfl))
                · show maskH 0 _ _ = ⟨[.vec e0 [pcV p], .hole, .hole, .vec ep (ints (L ++ [(2 : Int)]))], []⟩
                  rw [show ints (L ++ [(2 : Int)]) = List.take L.length (List.drop 0 (ints L)) ++ [[.int .i64 2]] by rw [t1]; simp [ints]]
                  (first | exact rfl | (simp (disch := omega) only [wrapI]; exact rfl))
              | false =>
                have hy : y = 3 := by simpa using hy
                subst hy
                (repeat' (first | exact rfl | ((conv => whnf); first | refine optS hmk ?_ | refine optS hm ?_ | refine optS hmN ?_ | refine ⟨_, hE, ?_⟩ | refine ⟨_, h75, ?_⟩ | refine ⟨_, h76, ?_⟩ | exact rfl | exact ⟨rfl, rfl⟩ | refine ⟨(by kernel_rfl : drawOk _ _ _ _ = true), ?_⟩ | refine ⟨(by kernel_rfl : planOk _ _ _ _ = true), ?_⟩ | refine ⟨rfl, ?_⟩ | refine ⟨by (first | omega | (simp (disch := omega) only [wrapI]; omega) | (simp (disch := omega) only [wrapI]; simp; omega) | (simp; omega)), ?_⟩ | (intro ep) | (refine ifB (fun hb => ?_) (fun hb => ?_) <;> (try simp only [decide_eq_true_eq, decide_eq_false_iff_not, beq_iff_eq, beq_eq_false_iff_ne, bne_iff_ne, bne_eq_false_iff_eq, ne_eq, not_false_eq_true, not_true_eq_false, Bool.not_eq_true, Bool.not_eq_true', Bool.not_eq_false', Int.not_lt, Int.not_le] at hb) <;> (try simp (disch := omega) only [wrapI] at hb) <;> (try (exfalso; omega))) | fail)))
                all_goals (conv => whnf)
                refine back_of ⟨(j + 1, ep, L ++ [3]), by dsimp only; omega, hu2, by dsimp only; rw [List.length_append, List.length_singleton]; omega⟩ ⟨?_, ?_, by dsimp only; omega⟩
                · show maskF 0 _ _ = frOf 0 81 [(1, .optr (.s 0) e0 3 0 0), (5, .oslc (.s 3) ep 1 0 (L ++ [(3 : Int)]).length false), (6, .int .i64 (k : Int)), (7, .int .i64 ((j + 1 : Nat) : Int))]
                  rw [List.length_append, List.length_singleton]
                  (first | exact rfl | (simp (disch := omega) only [wrapI]; exact rfl))
                · show maskH 0 _ _ = ⟨[.vec e0 [pcV p], .hole, .hole, .vec ep (ints (L ++ [(3 : Int)]))], []⟩
                  rw [show ints (L ++ [(3 : Int)]) = List.take L.length (List.drop 0 (ints L)) ++ [[.int .i64 3]] by rw [t1]; simp [ints]]
                  (first | exact rfl | (simp (disch := omega) only [wrapI]; exact rfl))
        · have hj2 : j = l.length := by omega
          subst hj2
          rw [List.drop_length, List.map_nil, List.append_nil] at hu2
          (repeat' (first | exact rfl | ((conv => whnf); first | refine optS hmk ?_ | exact rfl | exact ⟨rfl, rfl⟩ | refine ⟨(by kernel_rfl : drawOk _ _ _ _ = true), ?_⟩ | refine ⟨(by kernel_rfl : planOk _ _ _ _ = true), ?_⟩ | refine ⟨rfl, ?_⟩ | refine ⟨by (first | omega | (simp (disch := omega) only [wrapI]; omega) | (simp (disch := omega) only [wrapI]; simp; omega) | (simp; omega)), ?_⟩ | (intro ep) | (refine ifB (fun hb => ?_) (fun hb => ?_) <;> (try simp only [decide_eq_true_eq, decide_eq_false_iff_not, beq_iff_eq, beq_eq_false_iff_ne, bne_iff_ne, bne_eq_false_iff_eq, ne_eq, not_false_eq_true, not_true_eq_false, Bool.not_eq_true, Bool.not_eq_true', Bool.not_eq_false', Int.not_lt, Int.not_le] at hb) <;> (try simp (disch := omega) only [wrapI] at hb) <;> (try (exfalso; omega))) | fail)))
          all_goals (conv => whnf)
          all_goals exact back_of ⟨(e3, L), hu2, by dsimp only; omega⟩ ⟨rfl, rfl, rfl⟩
      · rintro ⟨⟩
      · rintro ⟨⟨e3, L⟩, hz, h1⟩
        dsimp only at hz h1
        rw [← hz] at hu
        (repeat' (first | exact rfl | ((conv => whnf); first | exact rfl | exact ⟨rfl, rfl⟩ | refine ⟨(by kernel_rfl : drawOk _ _ _ _ = true), ?_⟩ | refine ⟨(by kernel_rfl : planOk _ _ _ _ = true), ?_⟩ | refine ⟨rfl, ?_⟩ | refine ⟨by (first | omega | (simp (disch := omega) only [wrapI]; omega) | (simp (disch := omega) only [wrapI]; simp; omega) | (simp; omega)), ?_⟩ | (intro ep) | fail)))
        all_goals (conv => whnf)
        all_goals exact back_of ⟨(k + 1, e3, L), by dsimp only; omega, hu, by dsimp only; omega⟩ ⟨by (first | exact rfl | (simp (disch := omega) only [wrapI]; exact rfl)), rfl, by dsimp only; omega⟩
    · have hk2 : k = p.evs.length := by omega
      subst hk2
      rw [List.drop_length, newL, List.append_nil] at hu
      (repeat' (first | exact rfl | ((conv => whnf); first | exact rfl | exact ⟨rfl, rfl⟩ | refine ⟨(by kernel_rfl : drawOk _ _ _ _ = true), ?_⟩ | refine ⟨(by kernel_rfl : planOk _ _ _ _ = true), ?_⟩ | refine ⟨rfl, ?_⟩ | refine ⟨by (first | omega | (simp (disch := omega) only [wrapI]; omega) | (simp (disch := omega) only [wrapI]; simp; omega) | (simp; omega)), ?_⟩ | (intro ep) | (refine ifB (fun hb => ?_) (fun hb => ?_) <;> (try simp only [decide_eq_true_eq, decide_eq_false_iff_not, beq_iff_eq, beq_eq_false_iff_ne, bne_iff_ne, bne_eq_false_iff_eq, ne_eq, not_false_eq_true, not_true_eq_false, Bool.not_eq_true, Bool.not_eq_true', Bool.not_eq_false', Int.not_lt, Int.not_le] at hb) <;> (try simp (disch := omega) only [wrapI] at hb) <;> (try (exfalso; omega))) | fail)))
      all_goals (conv => whnf)
      all_goals exact back_of ⟨(e3, L), hu⟩ ⟨rfl, rfl, rfl⟩
  · rintro ⟨⟩
  · rintro ⟨⟨e3, L⟩, hz⟩
    dsimp only at hz
    subst hz
    (repeat' (first | exact rfl | ((conv => whnf); first | exact rfl | exact ⟨rfl, rfl⟩ | refine ⟨(by kernel_rfl : drawOk _ _ _ _ = true), ?_⟩ | refine ⟨(by kernel_rfl : planOk _ _ _ _ = true), ?_⟩ | refine ⟨rfl, ?_⟩ | refine ⟨by (first | omega | (simp (disch := omega) only [wrapI]; omega) | (simp (disch := omega) only [wrapI]; simp; omega) | (simp; omega)), ?_⟩ | (intro ep) | (refine ifB (fun hb => ?_) (fun hb => ?_) <;> (try simp only [decide_eq_true_eq, decide_eq_false_iff_not, beq_iff_eq, beq_eq_false_iff_ne, bne_iff_ne, bne_eq_false_iff_eq, ne_eq, not_false_eq_true, not_true_eq_false, Bool.not_eq_true, Bool.not_eq_true', Bool.not_eq_false', Int.not_lt, Int.not_le] at hb) <;> (try simp (disch := omega) only [wrapI] at hb) <;> (try (exfalso; omega))) | fail)))
    all_goals (conv => whnf)
    exact ⟨Go.Ab.V.pure_map (f := fun x : Int => [AV.int .i64 x]) L fun x => rfl, rfl, rfl⟩
def A11 : Ann := fun r => match r with
  | 0 => { slots := [(0, 0)] }
  | _ => {}
set_option maxHeartbeats 4000000 in
set_option maxRecDepth 100000 in
theorem law_causes (p : Pc) (hp : p.Ok) : ACalls C.P 11 [pcA p] Heap.nil fun r _ => r = .bool true := by
  have hb0 := big_spec p hp
  cases hb : bigB p with
  | true =>
    rw [hb] at hb0
    refine fn_of ok mixed (A := A11) 1 Try.func11 rfl ?_
    (repeat' (first | exact rfl | ((conv => whnf); first | refine ⟨_, works_spec, ?_⟩ | refine ⟨_, hb0, ?_⟩ | exact rfl | exact ⟨rfl, rfl⟩ | refine ⟨(by kernel_rfl : drawOk _ _ _ _ = true), ?_⟩ | refine ⟨(by kernel_rfl : planOk _ _ _ _ = true), ?_⟩ | refine ⟨rfl, ?_⟩ | refine ⟨by (first | omega | (simp (disch := omega) only [wrapI]; omega) | (simp (disch := omega) only [wrapI]; simp; omega) | (simp; omega)), ?_⟩ | (intro ep) | (refine ifB (fun hb => ?_) (fun hb => ?_) <;> (try simp only [decide_eq_true_eq, decide_eq_false_iff_not, beq_iff_eq, beq_eq_false_iff_ne, bne_iff_ne, bne_eq_false_iff_eq, ne_eq, not_false_eq_true, not_true_eq_false, Bool.not_eq_true, Bool.not_eq_true', Bool.not_eq_false', Int.not_lt, Int.not_le] at hb) <;> (try simp (disch := omega) only [wrapI] at hb) <;> (try (exfalso; omega))) | fail)))
  | false =>
    have hs := Pc.Sm.of_big hb
    have hcp := copy_spec p hs
    rw [hb] at hb0
    have h1 := causes39 p hp
    have h2 := refCauses40 p hp hs
    unfold causesV at h1 h2
    by_cases hc : chk p = 0
    · rw [if_pos hc] at h1 h2
      have h3 := sameInts_self (causesL p) (by
        have e1 := (newL_pair (noteOf p) (causeOf p) p.evs 0).1
        have e2 := notes_len (vp hc)
        have e3 : notesL p = newL (noteOf p) 0 p.evs := rfl
        have e4 : causesL p = newL (causeOf p) 0 p.evs := rfl
        rw [e3] at e2
        rw [e4]
        omega)
      generalize causesL p = L at h1 h2 h3
      refine fn_of ok mixed (A := A11) 1 Try.func11 rfl ?_
      (repeat' (first | exact rfl | ((conv => whnf); first | refine ⟨_, works_spec, ?_⟩ | refine ⟨_, hb0, ?_⟩ | refine ⟨_, hcp, ?_⟩ | refine ⟨_, h1, ?_⟩ | refine ⟨_, h2, ?_⟩ | refine ⟨_, h3, ?_⟩ | exact rfl | exact ⟨rfl, rfl⟩ | refine ⟨(by kernel_rfl : drawOk _ _ _ _ = true), ?_⟩ | refine ⟨(by kernel_rfl : planOk _ _ _ _ = true), ?_⟩ | refine ⟨rfl, ?_⟩ | refine ⟨by (first | omega | (simp (disch := omega) only [wrapI]; omega) | (simp (disch := omega) only [wrapI]; simp; omega) | (simp; omega)), ?_⟩ | (intro ep) | (refine ifB (fun hb => ?_) (fun hb => ?_) <;> (try simp only [decide_eq_true_eq, decide_eq_false_iff_not, beq_iff_eq, beq_eq_false_iff_ne, bne_iff_ne, bne_eq_false_iff_eq, ne_eq, not_false_eq_true, not_true_eq_false, Bool.not_eq_true, Bool.not_eq_true', Bool.not_eq_false', Int.not_lt, Int.not_le] at hb) <;> (try simp (disch := omega) only [wrapI] at hb) <;> (try (exfalso; omega))) | fail)))
    · rw [if_neg hc] at h1 h2
      have h3 := sameInts_nil
      generalize chk p = e at h1 h2
      refine fn_of ok mixed (A := A11) 1 Try.func11 rfl ?_
      (repeat' (first | exact rfl | ((conv => whnf); first | refine ⟨_, works_spec, ?_⟩ | refine ⟨_, hb0, ?_⟩ | refine ⟨_, hcp, ?_⟩ | refine ⟨_, h1, ?_⟩ | refine ⟨_, h2, ?_⟩ | refine ⟨_, h3, ?_⟩ | exact rfl | exact ⟨rfl, rfl⟩ | refine ⟨(by kernel_rfl : drawOk _ _ _ _ = true), ?_⟩ | refine ⟨(by kernel_rfl : planOk _ _ _ _ = true), ?_⟩ | refine ⟨rfl, ?_⟩ | refine ⟨by (first | omega | (simp (disch := omega) only [wrapI]; omega) | (simp (disch := omega) only [wrapI]; simp; omega) | (simp; omega)), ?_⟩ | (intro ep) | (refine ifB (fun hb => ?_) (fun hb => ?_) <;> (try simp only [decide_eq_true_eq, decide_eq_false_iff_not, beq_iff_eq, beq_eq_false_iff_ne, bne_iff_ne, bne_eq_false_iff_eq, ne_eq, not_false_eq_true, not_true_eq_false, Bool.not_eq_true, Bool.not_eq_true', Bool.not_eq_false', Int.not_lt, Int.not_le] at hb) <;> (try simp (disch := omega) only [wrapI] at hb) <;> (try (exfalso; omega))) | fail)))
end Go.Ab.V
