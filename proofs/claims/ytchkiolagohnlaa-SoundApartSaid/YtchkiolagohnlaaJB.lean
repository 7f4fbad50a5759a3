/-
  What is proved here serves the law's text: each part says its own claim and its conditions. No condition is left open.
-/
import Derived.Test.YtchkiolagohnlaaJA
set_option linter.unusedSimpArgs false
set_option linter.unusedVariables false

/-
  Notes: the program's and the document's. The pieces are of the sizes that a statement looks at.
-/
namespace Go.Ab.V
open Go.Proofs

def notesV (p : Pc) : AV := if chk p = 0 then .tup [ntsA (notesL p), .int .i64 0] else .tup [.nils, .int .i64 (chk p)]
def A17 : Ann := fun r => match r with
  | 0 => { slots := [(0, 0)] }
  | 1 => { slots := [(5, 1)] }
  | _ => {}
def A19 : Ann := fun r => match r with
  | 0 => { slots := [(0, 0)] }
  | 11 => { slots := [(9, 1)] }
  | 13 => { slots := [(17, 2), (18, 3)] }
  | _ => {}
set_option maxRecDepth 100000 in
theorem notes17 (p : Pc) (hp : p.Ok) : PRet C.P 17 [pcA p] (notesV p) := by
  unfold notesV
  by_cases hc : chk p = 0
  · rw [if_pos hc]
    have h1 := listen_ok p hp hc
    have h2 := notes51 p (vp hc)
    generalize notesL p = N at h2
    refine pret_of ok mixed (A := A17) 2 Try.func17 rfl ?_
    (repeat' (first | exact rfl | ((conv => whnf); first | refine ⟨_, h1, ?_⟩ | refine ⟨_, h2, ?_⟩ | exact rfl | exact ⟨rfl, rfl⟩ | refine ⟨(by kernel_rfl : drawOk _ _ _ _ = true), ?_⟩ | refine ⟨(by kernel_rfl : planOk _ _ _ _ = true), ?_⟩ | refine ⟨rfl, ?_⟩ | refine ⟨by (first | omega | (simp (disch := omega) only [wrapI]; omega) | (simp (disch := omega) only [wrapI]; simp; omega) | (simp; omega)), ?_⟩ | (intro ep) | (refine ifB (fun hb => ?_) (fun hb => ?_) <;> (try simp only [decide_eq_true_eq, decide_eq_false_iff_not, beq_iff_eq, beq_eq_false_iff_ne, bne_iff_ne, bne_eq_false_iff_eq, ne_eq, not_false_eq_true, not_true_eq_false, Bool.not_eq_true, Bool.not_eq_true', Bool.not_eq_false', Int.not_lt, Int.not_le] at hb) <;> (try simp (disch := omega) only [wrapI] at hb) <;> (try (exfalso; omega))) | fail)))
  · rw [if_neg hc]
    have h1 := listen_bad p hp hc
    generalize chk p = e at h1 hc
    refine pret_of ok mixed (A := A17) 2 Try.func17 rfl ?_
    (repeat' (first | exact rfl | ((conv => whnf); first | refine ⟨_, h1, ?_⟩ | exact rfl | exact ⟨rfl, rfl⟩ | refine ⟨(by kernel_rfl : drawOk _ _ _ _ = true), ?_⟩ | refine ⟨(by kernel_rfl : planOk _ _ _ _ = true), ?_⟩ | refine ⟨rfl, ?_⟩ | refine ⟨by (first | omega | (simp (disch := omega) only [wrapI]; omega) | (simp (disch := omega) only [wrapI]; simp; omega) | (simp; omega)), ?_⟩ | (intro ep) | (refine ifB (fun hb => ?_) (fun hb => ?_) <;> (try simp only [decide_eq_true_eq, decide_eq_false_iff_not, beq_iff_eq, beq_eq_false_iff_ne, bne_iff_ne, bne_eq_false_iff_eq, ne_eq, not_false_eq_true, not_true_eq_false, Bool.not_eq_true, Bool.not_eq_true', Bool.not_eq_false', Int.not_lt, Int.not_le] at hb) <;> (try simp (disch := omega) only [wrapI] at hb) <;> (try (exfalso; omega))) | fail)))
theorem newL_drop {α : Type} (g : Nat → Stp → α) {l : List Evt} {k : Nat} (h : k < l.length) : newL g k (l.drop k) = l[k].stops.map (g k) ++ newL g (k + 1) (l.drop (k + 1)) := by
  rw [List.drop_eq_getElem_cons h, newL]
set_option maxHeartbeats 16000000 in
set_option maxRecDepth 100000 in
theorem refNotes19 (p : Pc) (hp : p.Ok) (hs : p.Sm) : PRet C.P 19 [pcA p] (notesV p) := by
  have hO := refOnsets_spec p hp hs
  unfold notesV
  unfold onsV at hO
  by_cases hc : ¬ chk p = 0
  · rw [if_neg hc] at hO ⊢
    generalize chk p = e at hO hc
    refine pret_of ok mixed (A := A19) 4 Try.func19 rfl ?_
    (repeat' (first | exact rfl | ((conv => whnf); first | refine ⟨_, hO, ?_⟩ | exact rfl | exact ⟨rfl, rfl⟩ | refine ⟨(by kernel_rfl : drawOk _ _ _ _ = true), ?_⟩ | refine ⟨(by kernel_rfl : planOk _ _ _ _ = true), ?_⟩ | refine ⟨rfl, ?_⟩ | refine ⟨by (first | omega | (simp (disch := omega) only [wrapI]; omega) | (simp (disch := omega) only [wrapI]; simp; omega) | (simp; omega)), ?_⟩ | (intro ep) | (refine ifB (fun hb => ?_) (fun hb => ?_) <;> (try simp only [decide_eq_true_eq, decide_eq_false_iff_not, beq_iff_eq, beq_eq_false_iff_ne, bne_iff_ne, bne_eq_false_iff_eq, ne_eq, not_false_eq_true, not_true_eq_false, Bool.not_eq_true, Bool.not_eq_true', Bool.not_eq_false', Int.not_lt, Int.not_le] at hb) <;> (try simp (disch := omega) only [wrapI] at hb) <;> (try (exfalso; omega))) | fail)))
  have hc := Decidable.not_not.1 hc
  rw [if_pos hc] at hO ⊢
  have v := vp hc
  have hlen := v.len
  have hcs := v.cs
  have hol := ons_len p
  obtain ⟨Z, hZ⟩ : ∃ Z, Z = notesL p := ⟨_, rfl⟩
  rw [← hZ]
  refine pret_of ok mixed (A := A19) 4 Try.func19 rfl ?_
  (repeat' ((conv => whnf); first | refine ⟨_, hO, ?_⟩ | exact rfl | exact ⟨rfl, rfl⟩ | refine ⟨(by kernel_rfl : drawOk _ _ _ _ = true), ?_⟩ | refine ⟨(by kernel_rfl : planOk _ _ _ _ = true), ?_⟩ | refine ⟨rfl, ?_⟩ | refine ⟨by (first | omega | (simp (disch := omega) only [wrapI]; omega) | (simp (disch := omega) only [wrapI]; simp; omega) | (simp; omega)), ?_⟩ | (intro ep) | (refine ifB (fun hb => ?_) (fun hb => ?_) <;> (try simp only [decide_eq_true_eq, decide_eq_false_iff_not, beq_iff_eq, beq_eq_false_iff_ne, bne_iff_ne, bne_eq_false_iff_eq, ne_eq, not_false_eq_true, not_true_eq_false, Bool.not_eq_true, Bool.not_eq_true', Bool.not_eq_false', Int.not_lt, Int.not_le] at hb) <;> (try simp (disch := omega) only [wrapI] at hb) <;> (try (exfalso; omega))) | fail))
  all_goals (conv => whnf)
  obtain ⟨e0, he⟩ : ∃ e0, e0 = ep := ⟨_, rfl⟩
  subst he
  refine wk_lift 6 3 5 rfl ?_
  intro e3
  refine loopY ok mixed (A := A19) [1, 4, 6, 7] [0, 3] (S := { z : Nat × Nat × List Nt // z.1 ≤ p.evs.length ∧ z.2.2 ++ newL (noteOf p) z.1 (p.evs.drop z.1) = Z ∧ z.2.2.length ≤ 14 * z.1 })
    (fr := fun s => frOf 0 74 [(1, .optr (.s 0) e0 3 0 0), (4, intsA (onsets p)), (6, .oslc (.s 3) s.1.2.1 5 0 s.1.2.2.length false), (7, .int .i64 (s.1.1 : Int))])
    (h := fun s => ⟨[.vec e0 [pcV p], .hole, .hole, .vec s.1.2.1 (s.1.2.2.map ntR)], []⟩) (μ := fun s => p.evs.length - s.1.1)
    ⟨(0, e3, []), by simp, hZ.symm, by simp⟩ ?_ ?_
    [6] [3] (S' := { z : Nat × List Nt // z.2 = Z ∧ z.2.length ≤ 5600 }) (X := fun _ => 0)
    (frX := fun s => frOf 0 74 [(6, .oslc (.s 3) s.1.1 5 0 s.1.2.length false)])
    (hX := fun s => ⟨[.hole, .hole, .hole, .vec s.1.1 (s.1.2.map ntR)], []⟩)
    [] [] (S2 := Empty) (frR := fun s => frOf 0 74 []) (hR := fun s => ⟨[], []⟩) ?_ ?_ ?_
  · exact rfl
  · exact rfl
  · rintro ⟨⟨k, e3, L⟩, hk, hu, hL⟩
    dsimp only at hk hu hL
    show aexR _ _ _ (frOf 0 74 [(1, .optr (.s 0) e0 3 0 0), (4, intsA (onsets p)), (6, .oslc (.s 3) e3 5 0 L.length false), (7, .int .i64 (k : Int))]) ⟨[.vec e0 [pcV p], .hole, .hole, .vec e3 (L.map ntR)], []⟩ _
    by_cases hk2 : k < p.evs.length
    · have g1 : (k : Int) < p.evs.length := by omega
      have hmk := mapR (f := evR) hk2
      have hmo := intsR (l := onsets p) (i := k) (by omega)
      rw [on_get (by omega)] at hmo
      have hsp := v.sp k hk2
      have hsl := v.sl k hk2
      rw [newL_drop _ hk2, ← List.append_assoc] at hu
      generalize p.evs[k] = e at hmk hsp hsl hu
      obtain ⟨eb, ev, ed, et, ey, l⟩ := e
      dsimp only at hsp hsl hu
      obtain ⟨Y, hY⟩ : ∃ Y, Y = L ++ l.map (noteOf p k) := ⟨_, rfl⟩
      rw [← hY] at hu
      (repeat' (first | exact rfl | ((conv => whnf); first | exact rfl | exact ⟨rfl, rfl⟩ | refine ⟨(by kernel_rfl : drawOk _ _ _ _ = true), ?_⟩ | refine ⟨(by kernel_rfl : planOk _ _ _ _ = true), ?_⟩ | refine ⟨rfl, ?_⟩ | refine ⟨by (first | omega | (simp (disch := omega) only [wrapI]; omega) | (simp (disch := omega) only [wrapI]; simp; omega) | (simp; omega)), ?_⟩ | (intro ep) | (refine ifB (fun hb => ?_) (fun hb => ?_) <;> (try simp only [decide_eq_true_eq, decide_eq_false_iff_not, beq_iff_eq, beq_eq_false_iff_ne, bne_iff_ne, bne_eq_false_iff_eq, ne_eq, not_false_eq_true, not_true_eq_false, Bool.not_eq_true, Bool.not_eq_true', Bool.not_eq_false', Int.not_lt, Int.not_le] at hb) <;> (try simp (disch := omega) only [wrapI] at hb) <;> (try (exfalso; omega))) | fail)))
      all_goals (conv => whnf)
      refine loopY ok mixed (A := A19) [1, 4, 6, 7, 8] [0, 3] (S := { z : Nat × Nat × List Nt // z.1 ≤ l.length ∧ z.2.2 ++ (l.drop z.1).map (noteOf p k) = Y ∧ z.2.2.length ≤ 14 * k + z.1 })
        (fr := fun s => frOf 0 74 [(1, .optr (.s 0) e0 3 0 0), (4, intsA (onsets p)), (6, .oslc (.s 3) s.1.2.1 5 0 s.1.2.2.length false), (7, .int .i64 (k : Int)), (8, .int .i64 (s.1.1 : Int))])
        (h := fun s => ⟨[.vec e0 [pcV p], .hole, .hole, .vec s.1.2.1 (s.1.2.2.map ntR)], []⟩) (μ := fun s => l.length - s.1.1)
        ⟨(0, e3, L), by simp, hY.symm, by dsimp only; omega⟩ ?_ ?_
        [1, 4, 6, 7] [0, 3] (S' := { z : Nat × List Nt // z.2 = Y ∧ z.2.length ≤ 14 * k + 14 }) (X := fun _ => 2)
        (frX := fun s => frOf 0 74 [(1, .optr (.s 0) e0 3 0 0), (4, intsA (onsets p)), (6, .oslc (.s 3) s.1.1 5 0 s.1.2.length false), (7, .int .i64 (k : Int))])
        (hX := fun s => ⟨[.vec e0 [pcV p], .hole, .hole, .vec s.1.1 (s.1.2.map ntR)], []⟩)
        [] [] (S2 := Empty) (frR := fun s => frOf 0 74 []) (hR := fun s => ⟨[], []⟩) ?_ ?_ ?_
      · exact rfl
      · exact rfl
      · rintro ⟨⟨j, e3, L⟩, hj, hu2, hL⟩
        dsimp only at hj hu2 hL
        show aexR _ _ _ (frOf 0 74 [(1, .optr (.s 0) e0 3 0 0), (4, intsA (onsets p)), (6, .oslc (.s 3) e3 5 0 L.length false), (7, .int .i64 (k : Int)), (8, .int .i64 (j : Int))]) ⟨[.vec e0 [pcV p], .hole, .hole, .vec e3 (L.map ntR)], []⟩ _
        by_cases g3 : j < l.length
        · have hm := mapR (f := stR) g3
          have hs1 := hsp l[j] (List.getElem_mem g3)
          rw [List.drop_eq_getElem_cons g3, List.map_cons, List.append_cons] at hu2
          generalize l[j] = s at hm hs1 hu2
          have hE := end55 p v k hk2 s (by omega) (by omega)
          have hle : endN p.evs k s ≤ p.evs.length := by
            unfold endN
            split
            · exact stayN_le (by omega)
            · exact openN_le _ hk2
          have hmE := intsR (l := onsets p) (i := endN p.evs k s) (by omega)
          rw [on_get hle] at hmE
          have hS := sound54 p v s.c s.f hs1.1 hs1.2.1
          have hno : noteOf p k s = ⟨k, s.c, pitchOf p.ins s.c s.f, on p k, on p (endN p.evs k s)⟩ := rfl
          rw [hno] at hu2
          generalize endN p.evs k s = N at hE hle hmE hu2 hno
          generalize on p N = tN at hmE hu2 hno
          generalize pitchOf p.ins s.c s.f = pi at hS hu2 hno
          obtain ⟨sc, sf, sr, sg, sh⟩ := s
          dsimp only at hS hu2
          have t1 : List.take L.length (List.drop 0 (L.map ntR)) = L.map ntR := by rw [List.drop_zero, List.take_of_length_le (by simp)]
          (repeat' (first | exact rfl | ((conv => whnf); first | refine optS hmk ?_ | refine optS hm ?_ | refine optS hmo ?_ | refine optS hmE ?_ | refine ⟨_, hS, ?_⟩ | refine ⟨_, hE, ?_⟩ | exact rfl | exact ⟨rfl, rfl⟩ | refine ⟨(by kernel_rfl : drawOk _ _ _ _ = true), ?_⟩ | refine ⟨(by kernel_rfl : planOk _ _ _ _ = true), ?_⟩ | refine ⟨rfl, ?_⟩ | refine ⟨by (first | omega | (simp (disch := omega) only [wrapI]; omega) | (simp (disch := omega) only [wrapI]; simp; omega) | (simp; omega)), ?_⟩ | (intro ep) | (refine ifB (fun hb => ?_) (fun hb => ?_) <;> (try simp only [decide_eq_true_eq, decide_eq_false_iff_not, beq_iff_eq, beq_eq_false_iff_ne, bne_iff_ne, bne_eq_false_iff_eq, ne_eq, not_false_eq_true, not_true_eq_false, Bool.not_eq_true, Bool.not_eq_true', Bool.not_eq_false', Int.not_lt, Int.not_le] at hb) <;> (try simp (disch := omega) only [wrapI] at hb) <;> (try (exfalso; omega))) | fail)))
          all_goals (conv => whnf)
          refine back_of ⟨(j + 1, ep, L ++ [⟨k, sc, pi, on p k, tN⟩]), by dsimp only; omega, hu2, by dsimp only; rw [List.length_append, List.length_singleton]; omega⟩ ⟨?_, ?_, by dsimp only; omega⟩
          · show maskF 0 _ _ = frOf 0 74 [(1, .optr (.s 0) e0 3 0 0), (4, intsA (onsets p)), (6, .oslc (.s 3) ep 5 0 (L ++ [(⟨k, sc, pi, on p k, tN⟩ : Nt)]).length false), (7, .int .i64 (k : Int)), (8, .int .i64 ((j + 1 : Nat) : Int))]
            rw [List.length_append, List.length_singleton]
            (first | exact rfl | (simp (disch := omega) only [wrapI]; exact rfl))
          · show maskH 0 _ _ = ⟨[.vec e0 [pcV p], .hole, .hole, .vec ep ((L ++ [(⟨k, sc, pi, on p k, tN⟩ : Nt)]).map ntR)], []⟩
            have em : (L ++ [(⟨k, sc, pi, on p k, tN⟩ : Nt)]).map ntR = List.take L.length (List.drop 0 (L.map ntR)) ++ [[.int .i64 k, .int .i64 sc, .int .i64 pi, .int .i64 (on p k), .int .i64 tN]] := by rw [t1]; simp [ntR]
            rw [em]
            (first | exact rfl | (simp (disch := omega) only [wrapI]; exact rfl))
        · have hj2 : j = l.length := by omega
          subst hj2
          rw [List.drop_length, List.map_nil, List.append_nil] at hu2
          (repeat' (first | exact rfl | ((conv => whnf); first | refine optS hmk ?_ | exact rfl | exact ⟨rfl, rfl⟩ | refine ⟨(by kernel_rfl : drawOk _ _ _ _ = true), ?_⟩ | refine ⟨(by kernel_rfl : planOk _ _ _ _ = true), ?_⟩ | refine ⟨rfl, ?_⟩ | refine ⟨by (first | omega | (simp (disch := omega) only [wrapI]; omega) | (simp (disch := omega) only [wrapI]; simp; omega) | (simp; omega)), ?_⟩ | (intro ep) | (refine ifB (fun hb => ?_) (fun hb => ?_) <;> (try simp only [decide_eq_true_eq, decide_eq_false_iff_not, beq_iff_eq, beq_eq_false_iff_ne, bne_iff_ne, bne_eq_false_iff_eq, ne_eq, not_false_eq_true, not_true_eq_false, Bool.not_eq_true, Bool.not_eq_true', Bool.not_eq_false', Int.not_lt, Int.not_le] at hb) <;> (try simp (disch := omega) only [wrapI] at hb) <;> (try (exfalso; omega))) | fail)))
          all_goals (conv => whnf)
          all_goals exact back_of ⟨(e3, L), hu2, by dsimp only; omega⟩ ⟨rfl, rfl, rfl⟩
      · rintro ⟨⟩
      · rintro ⟨⟨e3, L⟩, hz, h1⟩
        dsimp only at hz h1
        rw [← hz] at hu
        (repeat' (first | exact rfl | ((conv => whnf); first | exact rfl | exact ⟨rfl, rfl⟩ | refine ⟨(by kernel_rfl : drawOk _ _ _ _ = true), ?_⟩ | refine ⟨(by kernel_rfl : planOk _ _ _ _ = true), ?_⟩ | refine ⟨rfl, ?_⟩ | refine ⟨by (first | omega | (simp (disch := omega) only [wrapI]; omega) | (simp (disch := omega) only [wrapI]; simp; omega) | (simp; omega)), ?_⟩ | (intro ep) | fail)))
        all_goals (conv => whnf)
        all_goals exact back_of ⟨(k + 1, e3, L), by dsimp only; omega, hu, by dsimp only; omega⟩ ⟨by (first | exact rfl | (simp (disch := omega) only [wrapI]; exact rfl)), rfl, by dsimp only; omega⟩
    · have hk2 : k = p.evs.length := by omega
      subst hk2
      rw [List.drop_length, newL, List.append_nil] at hu
      (repeat' (first | exact rfl | ((conv => whnf); first | exact rfl | exact ⟨rfl, rfl⟩ | refine ⟨(by kernel_rfl : drawOk _ _ _ _ = true), ?_⟩ | refine ⟨(by kernel_rfl : planOk _ _ _ _ = true), ?_⟩ | refine ⟨rfl, ?_⟩ | refine ⟨by (first | omega | (simp (disch := omega) only [wrapI]; omega) | (simp (disch := omega) only [wrapI]; simp; omega) | (simp; omega)), ?_⟩ | (intro ep) | (refine ifB (fun hb => ?_) (fun hb => ?_) <;> (try simp only [decide_eq_true_eq, decide_eq_false_iff_not, beq_iff_eq, beq_eq_false_iff_ne, bne_iff_ne, bne_eq_false_iff_eq, ne_eq, not_false_eq_true, not_true_eq_false, Bool.not_eq_true, Bool.not_eq_true', Bool.not_eq_false', Int.not_lt, Int.not_le] at hb) <;> (try simp (disch := omega) only [wrapI] at hb) <;> (try (exfalso; omega))) | fail)))
      all_goals (conv => whnf)
      all_goals exact back_of ⟨(e3, L), hu, by dsimp only; omega⟩ ⟨rfl, rfl, rfl⟩
  · rintro ⟨⟩
  · rintro ⟨⟨e3, L⟩, hz, h1⟩
    dsimp only at hz h1
    subst hz
    (repeat' (first | exact rfl | ((conv => whnf); first | exact rfl | exact ⟨rfl, rfl⟩ | refine ⟨(by kernel_rfl : drawOk _ _ _ _ = true), ?_⟩ | refine ⟨(by kernel_rfl : planOk _ _ _ _ = true), ?_⟩ | refine ⟨rfl, ?_⟩ | refine ⟨by (first | omega | (simp (disch := omega) only [wrapI]; omega) | (simp (disch := omega) only [wrapI]; simp; omega) | (simp; omega)), ?_⟩ | (intro ep) | (refine ifB (fun hb => ?_) (fun hb => ?_) <;> (try simp only [decide_eq_true_eq, decide_eq_false_iff_not, beq_iff_eq, beq_eq_false_iff_ne, bne_iff_ne, bne_eq_false_iff_eq, ne_eq, not_false_eq_true, not_true_eq_false, Bool.not_eq_true, Bool.not_eq_true', Bool.not_eq_false', Int.not_lt, Int.not_le] at hb) <;> (try simp (disch := omega) only [wrapI] at hb) <;> (try (exfalso; omega))) | fail)))
    all_goals (conv => whnf)
    exact ⟨Go.Ab.V.pure_map (f := ntR) L fun x => rfl, rfl, rfl⟩
end Go.Ab.V

/-
  Strings: the program's and the document's; SameNotes of a list with itself. The pieces are of the sizes that a statement looks at.
-/
namespace Go.Ab.V
open Go.Proofs

def A20 : Ann := fun _ => {}
theorem sameNotes_nil : PRet C.P 20 [.nils, .nils] (.bool true) := by
  refine pret_of ok mixed (A := A20) 0 Try.func20 rfl ?_
  (repeat' (first | exact rfl | ((conv => whnf); first | exact rfl | exact ⟨rfl, rfl⟩ | refine ⟨(by kernel_rfl : drawOk _ _ _ _ = true), ?_⟩ | refine ⟨(by kernel_rfl : planOk _ _ _ _ = true), ?_⟩ | refine ⟨rfl, ?_⟩ | refine ⟨by (first | omega | (simp (disch := omega) only [wrapI]; omega) | (simp (disch := omega) only [wrapI]; simp; omega) | (simp; omega)), ?_⟩ | (intro ep) | refine loopU ok mixed (A := A20) 2 ?_ | (refine ifB (fun hb => ?_) (fun hb => ?_) <;> (try simp only [decide_eq_true_eq, decide_eq_false_iff_not, beq_iff_eq, beq_eq_false_iff_ne, bne_iff_ne, bne_eq_false_iff_eq, ne_eq, not_false_eq_true, not_true_eq_false, Bool.not_eq_true, Bool.not_eq_true', Bool.not_eq_false', Int.not_lt, Int.not_le] at hb) <;> (try simp (disch := omega) only [wrapI] at hb) <;> (try (exfalso; omega))) | fail)))
set_option maxHeartbeats 1000000 in
set_option maxRecDepth 100000 in
theorem sameNotes_self (l : List Nt) (hn : l.length ≤ 100000) : PRet C.P 20 [ntsA l, ntsA l] (.bool true) := by
  refine pret_of ok mixed (A := A20) 0 Try.func20 rfl ?_
  (repeat' (first | exact rfl | ((conv => whnf); first | exact rfl | exact ⟨rfl, rfl⟩ | refine ⟨(by kernel_rfl : drawOk _ _ _ _ = true), ?_⟩ | refine ⟨(by kernel_rfl : planOk _ _ _ _ = true), ?_⟩ | refine ⟨rfl, ?_⟩ | refine ⟨by (first | omega | (simp (disch := omega) only [wrapI]; omega) | (simp (disch := omega) only [wrapI]; simp; omega) | (simp; omega)), ?_⟩ | (intro ep) | (refine ifB (fun hb => ?_) (fun hb => ?_) <;> (try simp only [decide_eq_true_eq, decide_eq_false_iff_not, beq_iff_eq, beq_eq_false_iff_ne, bne_iff_ne, bne_eq_false_iff_eq, ne_eq, not_false_eq_true, not_true_eq_false, Bool.not_eq_true, Bool.not_eq_true', Bool.not_eq_false', Int.not_lt, Int.not_le] at hb) <;> (try simp (disch := omega) only [wrapI] at hb) <;> (try (exfalso; omega))) | fail)))
  (conv => whnf)
  refine loopM ok mixed (A := A20) [0, 1, 5] [] (S := { k : Nat // k ≤ l.length })
    (fr := fun s => frOf 0 26 [(0, ntsA l), (1, ntsA l), (5, .int .i64 (s.1 : Int))])
    (h := fun s => ⟨[], []⟩) (μ := fun s => l.length - s.1) ⟨0, by omega⟩ rfl rfl ?_
  rintro ⟨k, hk⟩
  show aexR _ _ _ (frOf 0 26 [(0, ntsA l), (1, ntsA l), (5, .int .i64 (k : Int))]) ⟨[], []⟩ _
  (conv => whnf)
  refine ifB (fun h1 => ?_) (fun h1 => ?_)
  · simp only [decide_eq_true_eq] at h1
    have hm := mapR (f := ntR) (show k < l.length by omega)
    generalize l[k] = x at hm
    obtain ⟨a, b, c, d, e⟩ := x
    (repeat' (first | exact rfl | ((conv => whnf); first | exact rfl | exact ⟨rfl, rfl⟩ | refine ⟨(by kernel_rfl : drawOk _ _ _ _ = true), ?_⟩ | refine ⟨(by kernel_rfl : planOk _ _ _ _ = true), ?_⟩ | refine ⟨rfl, ?_⟩ | refine ⟨by (first | omega | (simp (disch := omega) only [wrapI]; omega) | (simp (disch := omega) only [wrapI]; simp; omega) | (simp; omega)), ?_⟩ | (intro ep) | refine optS hm ?_ | (refine ifB (fun hb => ?_) (fun hb => ?_) <;> (try simp only [decide_eq_true_eq, decide_eq_false_iff_not, beq_iff_eq, beq_eq_false_iff_ne, bne_iff_ne, bne_eq_false_iff_eq, ne_eq, not_false_eq_true, not_true_eq_false, Bool.not_eq_true, Bool.not_eq_true', Bool.not_eq_false', Int.not_lt, Int.not_le] at hb) <;> (try simp (disch := omega) only [wrapI] at hb) <;> (try (exfalso; omega))) | fail)))
    · simp at hb
    (conv => whnf)
    refine back_of ⟨k + 1, by omega⟩ ⟨by (first | exact rfl | (simp (disch := omega) only [wrapI]; exact rfl)), rfl, by simp only; omega⟩
  · simp only [decide_eq_false_iff_not] at h1
    (repeat' (first | exact rfl | ((conv => whnf); first | exact rfl | exact ⟨rfl, rfl⟩ | refine ⟨(by kernel_rfl : drawOk _ _ _ _ = true), ?_⟩ | refine ⟨(by kernel_rfl : planOk _ _ _ _ = true), ?_⟩ | refine ⟨rfl, ?_⟩ | refine ⟨by (first | omega | (simp (disch := omega) only [wrapI]; omega) | (simp (disch := omega) only [wrapI]; simp; omega) | (simp; omega)), ?_⟩ | (intro ep) | (refine ifB (fun hb => ?_) (fun hb => ?_) <;> (try simp only [decide_eq_true_eq, decide_eq_false_iff_not, beq_iff_eq, beq_eq_false_iff_ne, bne_iff_ne, bne_eq_false_iff_eq, ne_eq, not_false_eq_true, not_true_eq_false, Bool.not_eq_true, Bool.not_eq_true', Bool.not_eq_false', Int.not_lt, Int.not_le] at hb) <;> (try simp (disch := omega) only [wrapI] at hb) <;> (try (exfalso; omega))) | fail)))

theorem newL_mem {α : Type} {g : Nat → Stp → α} {x : α} : ∀ {l : List Evt} {k : Nat}, x ∈ newL g k l → ∃ j, ∃ h : j < l.length, ∃ s ∈ l[j].stops, x = g (k + j) s
  | [], k, h => by cases h
  | e :: r, k, h => by
    rw [newL] at h
    rcases List.mem_append.1 h with h | h
    · obtain ⟨s, hs, rfl⟩ := List.mem_map.1 h
      exact ⟨0, by simp, s, hs, rfl⟩
    · obtain ⟨j, hj, s, hs, rfl⟩ := newL_mem h
      exact ⟨j + 1, by simpa using hj, s, by simpa using hs, by rw [show k + 1 + j = k + (j + 1) by omega]⟩
theorem newL_len {α : Type} {g : Nat → Stp → α} : ∀ {l : List Evt} {k : Nat}, (∀ e ∈ l, e.stops.length ≤ 14) → (newL g k l).length ≤ 14 * l.length
  | [], k, h => by simp [newL]
  | e :: r, k, h => by
    rw [newL, List.length_append, List.length_map, List.length_cons]
    have h1 := h e (by simp)
    have h2 := newL_len (g := g) (l := r) (k := k + 1) (fun x hx => h x (List.mem_cons_of_mem _ hx))
    omega
theorem notes_mem {p : Pc} {x : Nt} (h : x ∈ notesL p) : ∃ k, ∃ hk : k < p.evs.length, ∃ s ∈ p.evs[k].stops, x = noteOf p k s := by
  obtain ⟨j, hj, s, hs, e⟩ := newL_mem h
  exact ⟨j, hj, s, hs, by rw [e, Nat.zero_add]⟩
theorem notes_len {p : Pc} (v : Vp p) : (notesL p).length ≤ 5600 := by
  have h1 := newL_len (g := noteOf p) (l := p.evs) (k := 0) (fun e he => by
    obtain ⟨k, hk, rfl⟩ := List.getElem_of_mem he
    exact v.sl k hk)
  have h2 := v.len
  have h3 : notesL p = newL (noteOf p) 0 p.evs := rfl
  rw [h3]
  omega
theorem pitch_bd {p : Pc} (v : Vp p) {c : Int} (hc : 1 ≤ c ∧ c ≤ p.ins.cs.length) (f : Int) : 0 ≤ pitchOf p.ins c f ∧ pitchOf p.ins c f ≤ 254 := by
  have h1 := v.crs _ (crsAt_mem hc)
  have h2 := steps_bd v.stp (f - 1).toNat
  unfold pitchOf
  split <;> omega
theorem notes_rng {p : Pc} (v : Vp p) {x : Nt} (h : x ∈ notesL p) : (1 ≤ x.c ∧ x.c ≤ p.ins.cs.length) ∧ (0 ≤ x.p ∧ x.p ≤ 254) := by
  obtain ⟨k, hk, s, hs, rfl⟩ := notes_mem h
  have h1 := v.sp k hk s hs
  exact ⟨h1.1, pitch_bd v h1.1 s.f⟩
/-- a note's strings -/
def strs (i : Ins) (x : Nt) : List Nt := if (crsAt i x.c).oct = true then [x, ⟨x.e, x.c, x.p + 12, x.f, x.t⟩] else [x]
def strL (i : Ins) (l : List Nt) : List Nt := (l.map (strs i)).flatten
def stringsL (p : Pc) : List Nt := strL p.ins (notesL p)
theorem strL_cons (i : Ins) {l : List Nt} {k : Nat} (h : k < l.length) : strL i (l.drop k) = strs i l[k] ++ strL i (l.drop (k + 1)) := by
  rw [List.drop_eq_getElem_cons h]; rfl
theorem strL_len (i : Ins) : ∀ l : List Nt, (strL i l).length ≤ 2 * l.length
  | [] => by simp [strL]
  | x :: r => by
    have h : strL i (x :: r) = strs i x ++ strL i r := rfl
    have h1 := strL_len i r
    have h2 : (strs i x).length ≤ 2 := by unfold strs; split <;> simp
    rw [h, List.length_append, List.length_cons]
    omega
def stringsV (p : Pc) : AV := if chk p = 0 then .tup [ntsA (stringsL p), .int .i64 0] else .tup [.nils, .int .i64 (chk p)]
def A21 : Ann := fun r => match r with
  | 0 => { slots := [(0, 0)] }
  | 7 => { slots := [(2, 1)] }
  | 8 => { slots := [(2, 2), (3, 3)] }
  | 11 => { slots := [(2, 4), (3, 5)] }
  | _ => {}
def A22 : Ann := fun r => match r with
  | 0 => { slots := [(0, 0)] }
  | 8 => { slots := [(4, 1)] }
  | 9 => { slots := [(2, 2), (3, 3)] }
  | 12 => { slots := [(2, 4), (3, 5)] }
  | _ => {}
set_option maxHeartbeats 16000000 in
set_option maxRecDepth 100000 in
theorem strings21 (p : Pc) (hp : p.Ok) : PRet C.P 21 [pcA p] (stringsV p) := by
  have hO := notes17 p hp
  unfold stringsV
  unfold notesV at hO
  by_cases hc : ¬ chk p = 0
  · rw [if_neg hc] at hO ⊢
    generalize chk p = e at hO hc
    refine pret_of ok mixed (A := A21) 6 Try.func21 rfl ?_
    (repeat' (first | exact rfl | ((conv => whnf); first | refine ⟨_, hO, ?_⟩ | exact rfl | exact ⟨rfl, rfl⟩ | refine ⟨(by kernel_rfl : drawOk _ _ _ _ = true), ?_⟩ | refine ⟨(by kernel_rfl : planOk _ _ _ _ = true), ?_⟩ | refine ⟨rfl, ?_⟩ | refine ⟨by (first | omega | (simp (disch := omega) only [wrapI]; omega) | (simp (disch := omega) only [wrapI]; simp; omega) | (simp; omega)), ?_⟩ | (intro ep) | (refine ifB (fun hb => ?_) (fun hb => ?_) <;> (try simp only [decide_eq_true_eq, decide_eq_false_iff_not, beq_iff_eq, beq_eq_false_iff_ne, bne_iff_ne, bne_eq_false_iff_eq, ne_eq, not_false_eq_true, not_true_eq_false, Bool.not_eq_true, Bool.not_eq_true', Bool.not_eq_false', Int.not_lt, Int.not_le] at hb) <;> (try simp (disch := omega) only [wrapI] at hb) <;> (try (exfalso; omega))) | fail)))
  have hc := Decidable.not_not.1 hc
  rw [if_pos hc] at hO ⊢
  have v := vp hc
  have hcs := v.cs
  have hNl := notes_len v
  have hNr := fun x => notes_rng v (x := x)
  obtain ⟨Z, hZ⟩ : ∃ Z, Z = stringsL p := ⟨_, rfl⟩
  rw [← hZ]
  unfold stringsL at hZ
  generalize notesL p = N at hO hNl hNr hZ
  refine pret_of ok mixed (A := A21) 6 Try.func21 rfl ?_
  (repeat' ((conv => whnf); first | refine ⟨_, hO, ?_⟩ | exact rfl | exact ⟨rfl, rfl⟩ | refine ⟨(by kernel_rfl : drawOk _ _ _ _ = true), ?_⟩ | refine ⟨(by kernel_rfl : planOk _ _ _ _ = true), ?_⟩ | refine ⟨rfl, ?_⟩ | refine ⟨by (first | omega | (simp (disch := omega) only [wrapI]; omega) | (simp (disch := omega) only [wrapI]; simp; omega) | (simp; omega)), ?_⟩ | (intro ep) | (refine ifB (fun hb => ?_) (fun hb => ?_) <;> (try simp only [decide_eq_true_eq, decide_eq_false_iff_not, beq_iff_eq, beq_eq_false_iff_ne, bne_iff_ne, bne_eq_false_iff_eq, ne_eq, not_false_eq_true, not_true_eq_false, Bool.not_eq_true, Bool.not_eq_true', Bool.not_eq_false', Int.not_lt, Int.not_le] at hb) <;> (try simp (disch := omega) only [wrapI] at hb) <;> (try (exfalso; omega))) | fail))
  all_goals (conv => whnf)
  obtain ⟨e0, he⟩ : ∃ e0, e0 = ep := ⟨_, rfl⟩
  subst he
  refine wk_lift 6 3 5 rfl ?_
  intro e3
  (conv => whnf)
  refine loopY ok mixed (A := A21) [1, 6, 17, 18, 19] [0, 3] (S := { z : Nat × Nat × List Nt // z.1 ≤ N.length ∧ z.2.2 ++ strL p.ins (N.drop z.1) = Z ∧ z.2.2.length ≤ 2 * z.1 })
    (fr := fun s => frOf 0 46 [(1, .optr (.s 0) e0 3 0 0), (6, .oslc (.s 3) s.1.2.1 5 0 s.1.2.2.length false), (17, ntsA N), (18, .int .i64 (N.length : Int)), (19, .int .i64 (s.1.1 : Int))])
    (h := fun s => ⟨[.vec e0 [pcV p], .hole, .hole, .vec s.1.2.1 (s.1.2.2.map ntR), .hole, .hole], []⟩) (μ := fun s => N.length - s.1.1)
    ⟨(0, e3, []), by simp, by simp [hZ], by simp⟩ ?_ ?_
    [6] [3] (S' := { z : Nat × List Nt // z.2 = Z ∧ z.2.length ≤ 11200 }) (X := fun _ => 0)
    (frX := fun s => frOf 0 46 [(6, .oslc (.s 3) s.1.1 5 0 s.1.2.length false)])
    (hX := fun s => ⟨[.hole, .hole, .hole, .vec s.1.1 (s.1.2.map ntR), .hole, .hole], []⟩)
    [] [] (S2 := Empty) (frR := fun s => frOf 0 46 []) (hR := fun s => ⟨[], []⟩) ?_ ?_ ?_
  · exact rfl
  · exact rfl
  · rintro ⟨⟨k, e3, L⟩, hk, hu, hL⟩
    dsimp only at hk hu hL
    show aexR _ _ _ (frOf 0 46 [(1, .optr (.s 0) e0 3 0 0), (6, .oslc (.s 3) e3 5 0 L.length false), (17, ntsA N), (18, .int .i64 (N.length : Int)), (19, .int .i64 (k : Int))]) ⟨[.vec e0 [pcV p], .hole, .hole, .vec e3 (L.map ntR), .hole, .hole], []⟩ _
    by_cases hk2 : k < N.length
    · have g1 : (k : Int) < N.length := by omega
      have hm := mapR (f := ntR) hk2
      have hr := hNr N[k] (List.getElem_mem hk2)
      rw [strL_cons p.ins hk2, ← List.append_assoc] at hu
      generalize N[k] = x at hm hr hu
      obtain ⟨xe, xc, xp, xf, xt⟩ := x
      dsimp only at hr
      have hmc := crsAt_get hr.1
      unfold strs at hu
      dsimp only at hu
      generalize crsAt p.ins xc = y at hmc hu
      obtain ⟨yp, yf, yo⟩ := y
      dsimp only at hu
      have hw : IntKind.i64.wrap (xc - 1) = xc - 1 := wrapI (by omega) (by omega)
      rw [← hw] at hmc
      have hw2 : IntKind.i64.wrap (xp + 12) = xp + 12 := wrapI (by omega) (by omega)
      have t1 : List.take L.length (List.drop 0 (L.map ntR)) = L.map ntR := by rw [List.drop_zero, List.take_of_length_le (by simp)]
      have em : (L ++ [(⟨xe, xc, xp, xf, xt⟩ : Nt)]).map ntR = List.take L.length (List.drop 0 (L.map ntR)) ++ [[.int .i64 xe, .int .i64 xc, .int .i64 xp, .int .i64 xf, .int .i64 xt]] := by rw [t1]; simp [ntR]
      cases yo with
      | true =>
        rw [if_pos rfl, ← hw2] at hu
        (repeat' (first | exact rfl | ((conv => whnf); first | refine optS hm ?_ | refine optS hmc ?_ | exact rfl | exact ⟨rfl, rfl⟩ | refine ⟨(by kernel_rfl : drawOk _ _ _ _ = true), ?_⟩ | refine ⟨(by kernel_rfl : planOk _ _ _ _ = true), ?_⟩ | refine ⟨rfl, ?_⟩ | refine ⟨by (first | omega | (simp (disch := omega) only [wrapI]; omega) | (simp (disch := omega) only [wrapI]; simp; omega) | (simp; omega)), ?_⟩ | (intro ep) | (refine ifB (fun hb => ?_) (fun hb => ?_) <;> (try simp only [decide_eq_true_eq, decide_eq_false_iff_not, beq_iff_eq, beq_eq_false_iff_ne, bne_iff_ne, bne_eq_false_iff_eq, ne_eq, not_false_eq_true, not_true_eq_false, Bool.not_eq_true, Bool.not_eq_true', Bool.not_eq_false', Int.not_lt, Int.not_le] at hb) <;> (try simp (disch := omega) only [wrapI] at hb) <;> (try (exfalso; omega))) | fail)))
        all_goals (conv => whnf)
        refine back_of ⟨(k + 1, ep, L ++ [⟨xe, xc, xp, xf, xt⟩, ⟨xe, xc, IntKind.i64.wrap (xp + 12), xf, xt⟩]), by dsimp only; omega, hu, by dsimp only; rw [List.length_append]; simp only [List.length_cons, List.length_nil]; omega⟩ ⟨?_, ?_, by dsimp only; omega⟩
        · show maskF 0 _ _ = frOf 0 46 [(1, .optr (.s 0) e0 3 0 0), (6, .oslc (.s 3) ep 5 0 (L ++ [(⟨xe, xc, xp, xf, xt⟩ : Nt), ⟨xe, xc, IntKind.i64.wrap (xp + 12), xf, xt⟩]).length false), (17, ntsA N), (18, .int .i64 (N.length : Int)), (19, .int .i64 ((k + 1 : Nat) : Int))]
          rw [List.length_append]
          (first | exact rfl | (simp (disch := omega) only [wrapI]; exact rfl))
        · show maskH 0 _ _ = ⟨[.vec e0 [pcV p], .hole, .hole, .vec ep ((L ++ [(⟨xe, xc, xp, xf, xt⟩ : Nt), ⟨xe, xc, IntKind.i64.wrap (xp + 12), xf, xt⟩]).map ntR), .hole, .hole], []⟩
          have em2 : (L ++ [(⟨xe, xc, xp, xf, xt⟩ : Nt), ⟨xe, xc, IntKind.i64.wrap (xp + 12), xf, xt⟩]).map ntR = (List.take L.length (List.drop 0 (L.map ntR)) ++ [[.int .i64 xe, .int .i64 xc, .int .i64 xp, .int .i64 xf, .int .i64 xt]]) ++ [[.int .i64 xe, .int .i64 xc, .int .i64 (IntKind.i64.wrap (xp + 12)), .int .i64 xf, .int .i64 xt]] := by rw [t1]; simp [ntR]
          have t2 : List.take (L.length + 1) (List.drop 0 (List.take L.length (List.drop 0 (L.map ntR)) ++ [[.int .i64 xe, .int .i64 xc, .int .i64 xp, .int .i64 xf, .int .i64 xt]])) = List.take L.length (List.drop 0 (L.map ntR)) ++ [[.int .i64 xe, .int .i64 xc, .int .i64 xp, .int .i64 xf, .int .i64 xt]] := by rw [t1, List.drop_zero, List.take_of_length_le (by simp)]
          rw [em2, ← t2]
          (first | exact rfl | (simp (disch := omega) only [wrapI]; exact rfl))
      | false =>
        rw [if_neg (by simp)] at hu
        (repeat' (first | exact rfl | ((conv => whnf); first | refine optS hm ?_ | refine optS hmc ?_ | exact rfl | exact ⟨rfl, rfl⟩ | refine ⟨(by kernel_rfl : drawOk _ _ _ _ = true), ?_⟩ | refine ⟨(by kernel_rfl : planOk _ _ _ _ = true), ?_⟩ | refine ⟨rfl, ?_⟩ | refine ⟨by (first | omega | (simp (disch := omega) only [wrapI]; omega) | (simp (disch := omega) only [wrapI]; simp; omega) | (simp; omega)), ?_⟩ | (intro ep) | (refine ifB (fun hb => ?_) (fun hb => ?_) <;> (try simp only [decide_eq_true_eq, decide_eq_false_iff_not, beq_iff_eq, beq_eq_false_iff_ne, bne_iff_ne, bne_eq_false_iff_eq, ne_eq, not_false_eq_true, not_true_eq_false, Bool.not_eq_true, Bool.not_eq_true', Bool.not_eq_false', Int.not_lt, Int.not_le] at hb) <;> (try simp (disch := omega) only [wrapI] at hb) <;> (try (exfalso; omega))) | fail)))
        all_goals (conv => whnf)
        refine back_of ⟨(k + 1, ep, L ++ [⟨xe, xc, xp, xf, xt⟩]), by dsimp only; omega, hu, by dsimp only; rw [List.length_append, List.length_singleton]; omega⟩ ⟨?_, ?_, by dsimp only; omega⟩
        · show maskF 0 _ _ = frOf 0 46 [(1, .optr (.s 0) e0 3 0 0), (6, .oslc (.s 3) ep 5 0 (L ++ [(⟨xe, xc, xp, xf, xt⟩ : Nt)]).length false), (17, ntsA N), (18, .int .i64 (N.length : Int)), (19, .int .i64 ((k + 1 : Nat) : Int))]
          rw [List.length_append, List.length_singleton]
          (first | exact rfl | (simp (disch := omega) only [wrapI]; exact rfl))
        · show maskH 0 _ _ = ⟨[.vec e0 [pcV p], .hole, .hole, .vec ep ((L ++ [(⟨xe, xc, xp, xf, xt⟩ : Nt)]).map ntR), .hole, .hole], []⟩
          rw [em]
          (first | exact rfl | (simp (disch := omega) only [wrapI]; exact rfl))
    · have hk3 : k = N.length := by omega
      subst hk3
      rw [List.drop_length, show strL p.ins [] = [] from rfl, List.append_nil] at hu
      (repeat' (first | exact rfl | ((conv => whnf); first | exact rfl | exact ⟨rfl, rfl⟩ | refine ⟨(by kernel_rfl : drawOk _ _ _ _ = true), ?_⟩ | refine ⟨(by kernel_rfl : planOk _ _ _ _ = true), ?_⟩ | refine ⟨rfl, ?_⟩ | refine ⟨by (first | omega | (simp (disch := omega) only [wrapI]; omega) | (simp (disch := omega) only [wrapI]; simp; omega) | (simp; omega)), ?_⟩ | (intro ep) | (refine ifB (fun hb => ?_) (fun hb => ?_) <;> (try simp only [decide_eq_true_eq, decide_eq_false_iff_not, beq_iff_eq, beq_eq_false_iff_ne, bne_iff_ne, bne_eq_false_iff_eq, ne_eq, not_false_eq_true, not_true_eq_false, Bool.not_eq_true, Bool.not_eq_true', Bool.not_eq_false', Int.not_lt, Int.not_le] at hb) <;> (try simp (disch := omega) only [wrapI] at hb) <;> (try (exfalso; omega))) | fail)))
      all_goals (conv => whnf)
      all_goals exact back_of ⟨(e3, L), hu, by dsimp only; omega⟩ ⟨rfl, rfl, rfl⟩
  · rintro ⟨⟩
  · rintro ⟨⟨e3, L⟩, hz, h1⟩
    dsimp only at hz h1
    subst hz
    (repeat' (first | exact rfl | ((conv => whnf); first | exact rfl | exact ⟨rfl, rfl⟩ | refine ⟨(by kernel_rfl : drawOk _ _ _ _ = true), ?_⟩ | refine ⟨(by kernel_rfl : planOk _ _ _ _ = true), ?_⟩ | refine ⟨rfl, ?_⟩ | refine ⟨by (first | omega | (simp (disch := omega) only [wrapI]; omega) | (simp (disch := omega) only [wrapI]; simp; omega) | (simp; omega)), ?_⟩ | (intro ep) | (refine ifB (fun hb => ?_) (fun hb => ?_) <;> (try simp only [decide_eq_true_eq, decide_eq_false_iff_not, beq_iff_eq, beq_eq_false_iff_ne, bne_iff_ne, bne_eq_false_iff_eq, ne_eq, not_false_eq_true, not_true_eq_false, Bool.not_eq_true, Bool.not_eq_true', Bool.not_eq_false', Int.not_lt, Int.not_le] at hb) <;> (try simp (disch := omega) only [wrapI] at hb) <;> (try (exfalso; omega))) | fail)))
    all_goals (conv => whnf)
    exact ⟨Go.Ab.V.pure_map (f := ntR) L fun x => rfl, rfl, rfl⟩
set_option maxHeartbeats 16000000 in
set_option maxRecDepth 100000 in
theorem refStrings22 (p : Pc) (hp : p.Ok) (hs : p.Sm) : PRet C.P 22 [pcA p] (stringsV p) := by
  have hO := refNotes19 p hp hs
  unfold stringsV
  unfold notesV at hO
  by_cases hc : ¬ chk p = 0
  · rw [if_neg hc] at hO ⊢
    generalize chk p = e at hO hc
    refine pret_of ok mixed (A := A22) 6 Try.func22 rfl ?_
    (repeat' (first | exact rfl | ((conv => whnf); first | refine ⟨_, hO, ?_⟩ | exact rfl | exact ⟨rfl, rfl⟩ | refine ⟨(by kernel_rfl : drawOk _ _ _ _ = true), ?_⟩ | refine ⟨(by kernel_rfl : planOk _ _ _ _ = true), ?_⟩ | refine ⟨rfl, ?_⟩ | refine ⟨by (first | omega | (simp (disch := omega) only [wrapI]; omega) | (simp (disch := omega) only [wrapI]; simp; omega) | (simp; omega)), ?_⟩ | (intro ep) | (refine ifB (fun hb => ?_) (fun hb => ?_) <;> (try simp only [decide_eq_true_eq, decide_eq_false_iff_not, beq_iff_eq, beq_eq_false_iff_ne, bne_iff_ne, bne_eq_false_iff_eq, ne_eq, not_false_eq_true, not_true_eq_false, Bool.not_eq_true, Bool.not_eq_true', Bool.not_eq_false', Int.not_lt, Int.not_le] at hb) <;> (try simp (disch := omega) only [wrapI] at hb) <;> (try (exfalso; omega))) | fail)))
  have hc := Decidable.not_not.1 hc
  rw [if_pos hc] at hO ⊢
  have v := vp hc
  have hcs := v.cs
  have hNl := notes_len v
  have hNr := fun x => notes_rng v (x := x)
  obtain ⟨Z, hZ⟩ : ∃ Z, Z = stringsL p := ⟨_, rfl⟩
  rw [← hZ]
  unfold stringsL at hZ
  generalize notesL p = N at hO hNl hNr hZ
  refine pret_of ok mixed (A := A22) 6 Try.func22 rfl ?_
  (repeat' ((conv => whnf); first | refine ⟨_, hO, ?_⟩ | exact rfl | exact ⟨rfl, rfl⟩ | refine ⟨(by kernel_rfl : drawOk _ _ _ _ = true), ?_⟩ | refine ⟨(by kernel_rfl : planOk _ _ _ _ = true), ?_⟩ | refine ⟨rfl, ?_⟩ | refine ⟨by (first | omega | (simp (disch := omega) only [wrapI]; omega) | (simp (disch := omega) only [wrapI]; simp; omega) | (simp; omega)), ?_⟩ | (intro ep) | (refine ifB (fun hb => ?_) (fun hb => ?_) <;> (try simp only [decide_eq_true_eq, decide_eq_false_iff_not, beq_iff_eq, beq_eq_false_iff_ne, bne_iff_ne, bne_eq_false_iff_eq, ne_eq, not_false_eq_true, not_true_eq_false, Bool.not_eq_true, Bool.not_eq_true', Bool.not_eq_false', Int.not_lt, Int.not_le] at hb) <;> (try simp (disch := omega) only [wrapI] at hb) <;> (try (exfalso; omega))) | fail))
  all_goals (conv => whnf)
  obtain ⟨e0, he⟩ : ∃ e0, e0 = ep := ⟨_, rfl⟩
  subst he
  refine wk_lift 6 3 5 rfl ?_
  intro e3
  (conv => whnf)
  refine loopY ok mixed (A := A22) [1, 4, 6, 7] [0, 3] (S := { z : Nat × Nat × List Nt // z.1 ≤ N.length ∧ z.2.2 ++ strL p.ins (N.drop z.1) = Z ∧ z.2.2.length ≤ 2 * z.1 })
    (fr := fun s => frOf 0 49 [(1, .optr (.s 0) e0 3 0 0), (4, ntsA N), (6, .oslc (.s 3) s.1.2.1 5 0 s.1.2.2.length false), (7, .int .i64 (s.1.1 : Int))])
    (h := fun s => ⟨[.vec e0 [pcV p], .hole, .hole, .vec s.1.2.1 (s.1.2.2.map ntR), .hole, .hole], []⟩) (μ := fun s => N.length - s.1.1)
    ⟨(0, e3, []), by simp, by simp [hZ], by simp⟩ ?_ ?_
    [6] [3] (S' := { z : Nat × List Nt // z.2 = Z ∧ z.2.length ≤ 11200 }) (X := fun _ => 0)
    (frX := fun s => frOf 0 49 [(6, .oslc (.s 3) s.1.1 5 0 s.1.2.length false)])
    (hX := fun s => ⟨[.hole, .hole, .hole, .vec s.1.1 (s.1.2.map ntR), .hole, .hole], []⟩)
    [] [] (S2 := Empty) (frR := fun s => frOf 0 49 []) (hR := fun s => ⟨[], []⟩) ?_ ?_ ?_
  · exact rfl
  · exact rfl
  · rintro ⟨⟨k, e3, L⟩, hk, hu, hL⟩
    dsimp only at hk hu hL
    show aexR _ _ _ (frOf 0 49 [(1, .optr (.s 0) e0 3 0 0), (4, ntsA N), (6, .oslc (.s 3) e3 5 0 L.length false), (7, .int .i64 (k : Int))]) ⟨[.vec e0 [pcV p], .hole, .hole, .vec e3 (L.map ntR), .hole, .hole], []⟩ _
    by_cases hk2 : k < N.length
    · have g1 : (k : Int) < N.length := by omega
      have hm := mapR (f := ntR) hk2
      have hr := hNr N[k] (List.getElem_mem hk2)
      rw [strL_cons p.ins hk2, ← List.append_assoc] at hu
      generalize N[k] = x at hm hr hu
      obtain ⟨xe, xc, xp, xf, xt⟩ := x
      dsimp only at hr
      have hmc := crsAt_get hr.1
      unfold strs at hu
      dsimp only at hu
      generalize crsAt p.ins xc = y at hmc hu
      obtain ⟨yp, yf, yo⟩ := y
      dsimp only at hu
      have hw : IntKind.i64.wrap (xc - 1) = xc - 1 := wrapI (by omega) (by omega)
      rw [← hw] at hmc
      have hw2 : IntKind.i64.wrap (xp + 12) = xp + 12 := wrapI (by omega) (by omega)
      have t1 : List.take L.length (List.drop 0 (L.map ntR)) = L.map ntR := by rw [List.drop_zero, List.take_of_length_le (by simp)]
      have em : (L ++ [(⟨xe, xc, xp, xf, xt⟩ : Nt)]).map ntR = List.take L.length (List.drop 0 (L.map ntR)) ++ [[.int .i64 xe, .int .i64 xc, .int .i64 xp, .int .i64 xf, .int .i64 xt]] := by rw [t1]; simp [ntR]
      cases yo with
      | true =>
        rw [if_pos rfl, ← hw2] at hu
        (repeat' (first | exact rfl | ((conv => whnf); first | refine optS hm ?_ | refine optS hmc ?_ | exact rfl | exact ⟨rfl, rfl⟩ | refine ⟨(by kernel_rfl : drawOk _ _ _ _ = true), ?_⟩ | refine ⟨(by kernel_rfl : planOk _ _ _ _ = true), ?_⟩ | refine ⟨rfl, ?_⟩ | refine ⟨by (first | omega | (simp (disch := omega) only [wrapI]; omega) | (simp (disch := omega) only [wrapI]; simp; omega) | (simp; omega)), ?_⟩ | (intro ep) | (refine ifB (fun hb => ?_) (fun hb => ?_) <;> (try simp only [decide_eq_true_eq, decide_eq_false_iff_not, beq_iff_eq, beq_eq_false_iff_ne, bne_iff_ne, bne_eq_false_iff_eq, ne_eq, not_false_eq_true, not_true_eq_false, Bool.not_eq_true, Bool.not_eq_true', Bool.not_eq_false', Int.not_lt, Int.not_le] at hb) <;> (try simp (disch := omega) only [wrapI] at hb) <;> (try (exfalso; omega))) | fail)))
        all_goals (conv => whnf)
        refine back_of ⟨(k + 1, ep, L ++ [⟨xe, xc, xp, xf, xt⟩, ⟨xe, xc, IntKind.i64.wrap (xp + 12), xf, xt⟩]), by dsimp only; omega, hu, by dsimp only; rw [List.length_append]; simp only [List.length_cons, List.length_nil]; omega⟩ ⟨?_, ?_, by dsimp only; omega⟩
        · show maskF 0 _ _ = frOf 0 49 [(1, .optr (.s 0) e0 3 0 0), (4, ntsA N), (6, .oslc (.s 3) ep 5 0 (L ++ [(⟨xe, xc, xp, xf, xt⟩ : Nt), ⟨xe, xc, IntKind.i64.wrap (xp + 12), xf, xt⟩]).length false), (7, .int .i64 ((k + 1 : Nat) : Int))]
          rw [List.length_append]
          (first | exact rfl | (simp (disch := omega) only [wrapI]; exact rfl))
        · show maskH 0 _ _ = ⟨[.vec e0 [pcV p], .hole, .hole, .vec ep ((L ++ [(⟨xe, xc, xp, xf, xt⟩ : Nt), ⟨xe, xc, IntKind.i64.wrap (xp + 12), xf, xt⟩]).map ntR), .hole, .hole], []⟩
          have em2 : (L ++ [(⟨xe, xc, xp, xf, xt⟩ : Nt), ⟨xe, xc, IntKind.i64.wrap (xp + 12), xf, xt⟩]).map ntR = (List.take L.length (List.drop 0 (L.map ntR)) ++ [[.int .i64 xe, .int .i64 xc, .int .i64 xp, .int .i64 xf, .int .i64 xt]]) ++ [[.int .i64 xe, .int .i64 xc, .int .i64 (IntKind.i64.wrap (xp + 12)), .int .i64 xf, .int .i64 xt]] := by rw [t1]; simp [ntR]
          have t2 : List.take (L.length + 1) (List.drop 0 (List.take L.length (List.drop 0 (L.map ntR)) ++ [[.int .i64 xe, .int .i64 xc, .int .i64 xp, .int .i64 xf, .int .i64 xt]])) = List.take L.length (List.drop 0 (L.map ntR)) ++ [[.int .i64 xe, .int .i64 xc, .int .i64 xp, .int .i64 xf, .int .i64 xt]] := by rw [t1, List.drop_zero, List.take_of_length_le (by simp)]
          rw [em2, ← t2]
          (first | exact rfl | (simp (disch := omega) only [wrapI]; exact rfl))
      | false =>
        rw [if_neg (by simp)] at hu
        (repeat' (first | exact rfl | ((conv => whnf); first | refine optS hm ?_ | refine optS hmc ?_ | exact rfl | exact ⟨rfl, rfl⟩ | refine ⟨(by kernel_rfl : drawOk _ _ _ _ = true), ?_⟩ | refine ⟨(by kernel_rfl : planOk _ _ _ _ = true), ?_⟩ | refine ⟨rfl, ?_⟩ | refine ⟨by (first | omega | (simp (disch := omega) only [wrapI]; omega) | (simp (disch := omega) only [wrapI]; simp; omega) | (simp; omega)), ?_⟩ | (intro ep) | (refine ifB (fun hb => ?_) (fun hb => ?_) <;> (try simp only [decide_eq_true_eq, decide_eq_false_iff_not, beq_iff_eq, beq_eq_false_iff_ne, bne_iff_ne, bne_eq_false_iff_eq, ne_eq, not_false_eq_true, not_true_eq_false, Bool.not_eq_true, Bool.not_eq_true', Bool.not_eq_false', Int.not_lt, Int.not_le] at hb) <;> (try simp (disch := omega) only [wrapI] at hb) <;> (try (exfalso; omega))) | fail)))
        all_goals (conv => whnf)
        refine back_of ⟨(k + 1, ep, L ++ [⟨xe, xc, xp, xf, xt⟩]), by dsimp only; omega, hu, by dsimp only; rw [List.length_append, List.length_singleton]; omega⟩ ⟨?_, ?_, by dsimp only; omega⟩
        · show maskF 0 _ _ = frOf 0 49 [(1, .optr (.s 0) e0 3 0 0), (4, ntsA N), (6, .oslc (.s 3) ep 5 0 (L ++ [(⟨xe, xc, xp, xf, xt⟩ : Nt)]).length false), (7, .int .i64 ((k + 1 : Nat) : Int))]
          rw [List.length_append, List.length_singleton]
          (first | exact rfl | (simp (disch := omega) only [wrapI]; exact rfl))
        · show maskH 0 _ _ = ⟨[.vec e0 [pcV p], .hole, .hole, .vec ep ((L ++ [(⟨xe, xc, xp, xf, xt⟩ : Nt)]).map ntR), .hole, .hole], []⟩
          rw [em]
          (first | exact rfl | (simp (disch := omega) only [wrapI]; exact rfl))
    · have hk3 : k = N.length := by omega
      subst hk3
      rw [List.drop_length, show strL p.ins [] = [] from rfl, List.append_nil] at hu
      (repeat' (first | exact rfl | ((conv => whnf); first | exact rfl | exact ⟨rfl, rfl⟩ | refine ⟨(by kernel_rfl : drawOk _ _ _ _ = true), ?_⟩ | refine ⟨(by kernel_rfl : planOk _ _ _ _ = true), ?_⟩ | refine ⟨rfl, ?_⟩ | refine ⟨by (first | omega | (simp (disch := omega) only [wrapI]; omega) | (simp (disch := omega) only [wrapI]; simp; omega) | (simp; omega)), ?_⟩ | (intro ep) | (refine ifB (fun hb => ?_) (fun hb => ?_) <;> (try simp only [decide_eq_true_eq, decide_eq_false_iff_not, beq_iff_eq, beq_eq_false_iff_ne, bne_iff_ne, bne_eq_false_iff_eq, ne_eq, not_false_eq_true, not_true_eq_false, Bool.not_eq_true, Bool.not_eq_true', Bool.not_eq_false', Int.not_lt, Int.not_le] at hb) <;> (try simp (disch := omega) only [wrapI] at hb) <;> (try (exfalso; omega))) | fail)))
      all_goals (conv => whnf)
      all_goals exact back_of ⟨(e3, L), hu, by dsimp only; omega⟩ ⟨rfl, rfl, rfl⟩
  · rintro ⟨⟩
  · rintro ⟨⟨e3, L⟩, hz, h1⟩
    dsimp only at hz h1
    subst hz
    (repeat' (first | exact rfl | ((conv => whnf); first | exact rfl | exact ⟨rfl, rfl⟩ | refine ⟨(by kernel_rfl : drawOk _ _ _ _ = true), ?_⟩ | refine ⟨(by kernel_rfl : planOk _ _ _ _ = true), ?_⟩ | refine ⟨rfl, ?_⟩ | refine ⟨by (first | omega | (simp (disch := omega) only [wrapI]; omega) | (simp (disch := omega) only [wrapI]; simp; omega) | (simp; omega)), ?_⟩ | (intro ep) | (refine ifB (fun hb => ?_) (fun hb => ?_) <;> (try simp only [decide_eq_true_eq, decide_eq_false_iff_not, beq_iff_eq, beq_eq_false_iff_ne, bne_iff_ne, bne_eq_false_iff_eq, ne_eq, not_false_eq_true, not_true_eq_false, Bool.not_eq_true, Bool.not_eq_true', Bool.not_eq_false', Int.not_lt, Int.not_le] at hb) <;> (try simp (disch := omega) only [wrapI] at hb) <;> (try (exfalso; omega))) | fail)))
    all_goals (conv => whnf)
    exact ⟨Go.Ab.V.pure_map (f := ntR) L fun x => rfl, rfl, rfl⟩
end Go.Ab.V
