/-
  What is proved here serves the law's text: each part says its own claim and its conditions. No condition is left open.
-/
import Derived.Test.YtchkiolagohnlaaKZ
import Derived.Test.YtchkiolagohnlaaJE
set_option linter.unusedSimpArgs false
set_option linter.unusedVariables false

/-
  Presses: the document's. The pieces are of the sizes that a statement looks at.
-/
namespace Go.Ab.V
open Go.Proofs

/-- the stopped stops, and their presses -/
def prF (l : List Stp) : List Stp := l.filter fun s => decide (0 < s.f)
theorem prF_drop {l : List Stp} {k : Nat} (h : k < l.length) : prF (l.drop k) = if 0 < l[k].f then l[k] :: prF (l.drop (k + 1)) else prF (l.drop (k + 1)) := by
  rw [List.drop_eq_getElem_cons h]
  unfold prF
  rw [List.filter_cons]
  by_cases c : 0 < l[k].f <;> simp [c]
def pressF (p : Pc) : Nat → List Evt → List Pr
  | _, [] => []
  | k, e :: r => (prF e.stops).map (pressOf p k) ++ pressF p (k + 1) r
theorem pressF_drop (p : Pc) {l : List Evt} {k : Nat} (h : k < l.length) : pressF p k (l.drop k) = (prF l[k].stops).map (pressOf p k) ++ pressF p (k + 1) (l.drop (k + 1)) := by
  rw [List.drop_eq_getElem_cons h, pressF]
def pressesV (p : Pc) : AV := if chk p = 0 then .tup [prsA (pressF p 0 p.evs), .int .i64 0] else .tup [.nils, .int .i64 (chk p)]
def A30 : Ann := fun r => match r with
  | 0 => { slots := [(0, 0)] }
  | 11 => { slots := [(9, 1)] }
  | 13 => { slots := [(19, 2), (20, 3)] }
  | _ => {}
set_option maxHeartbeats 16000000 in
set_option maxRecDepth 100000 in
theorem refPresses30 (p : Pc) (hp : p.Ok) (hs : p.Sm) : PRet C.P 30 [pcA p] (pressesV p) := by
  have hO := refOnsets_spec p hp hs
  unfold pressesV
  unfold onsV at hO
  by_cases hc : ¬ chk p = 0
  · rw [if_neg hc] at hO ⊢
    generalize chk p = e at hO hc
    refine pret_of ok mixed (A := A30) 4 Try.func30 rfl ?_
    (repeat' (first | exact rfl | ((conv => whnf); first | refine ⟨_, hO, ?_⟩ | exact rfl | exact ⟨rfl, rfl⟩ | refine ⟨(by kernel_rfl : drawOk _ _ _ _ = true), ?_⟩ | refine ⟨(by kernel_rfl : planOk _ _ _ _ = true), ?_⟩ | refine ⟨rfl, ?_⟩ | refine ⟨by (first | omega | (simp (disch := omega) only [wrapI]; omega) | (simp (disch := omega) only [wrapI]; simp; omega) | (simp; omega)), ?_⟩ | (intro ep) | (refine ifB (fun hb => ?_) (fun hb => ?_) <;> (try simp only [decide_eq_true_eq, decide_eq_false_iff_not, beq_iff_eq, beq_eq_false_iff_ne, bne_iff_ne, bne_eq_false_iff_eq, ne_eq, not_false_eq_true, not_true_eq_false, Bool.not_eq_true, Bool.not_eq_true', Bool.not_eq_false', Int.not_lt, Int.not_le] at hb) <;> (try simp (disch := omega) only [wrapI] at hb) <;> (try (exfalso; omega))) | fail)))
  have hc := Decidable.not_not.1 hc
  rw [if_pos hc] at hO ⊢
  have v := vp hc
  have hlen := v.len
  have hcs := v.cs
  have hol := ons_len p
  obtain ⟨Z, hZ⟩ : ∃ Z, Z = pressF p 0 p.evs := ⟨_, rfl⟩
  rw [← hZ]
  refine pret_of ok mixed (A := A30) 4 Try.func30 rfl ?_
  (repeat' ((conv => whnf); first | refine ⟨_, hO, ?_⟩ | exact rfl | exact ⟨rfl, rfl⟩ | refine ⟨(by kernel_rfl : drawOk _ _ _ _ = true), ?_⟩ | refine ⟨(by kernel_rfl : planOk _ _ _ _ = true), ?_⟩ | refine ⟨rfl, ?_⟩ | refine ⟨by (first | omega | (simp (disch := omega) only [wrapI]; omega) | (simp (disch := omega) only [wrapI]; simp; omega) | (simp; omega)), ?_⟩ | (intro ep) | (refine ifB (fun hb => ?_) (fun hb => ?_) <;> (try simp only [decide_eq_true_eq, decide_eq_false_iff_not, beq_iff_eq, beq_eq_false_iff_ne, bne_iff_ne, bne_eq_false_iff_eq, ne_eq, not_false_eq_true, not_true_eq_false, Bool.not_eq_true, Bool.not_eq_true', Bool.not_eq_false', Int.not_lt, Int.not_le] at hb) <;> (try simp (disch := omega) only [wrapI] at hb) <;> (try (exfalso; omega))) | fail))
  all_goals (conv => whnf)
  obtain ⟨e0, he⟩ : ∃ e0, e0 = ep := ⟨_, rfl⟩
  subst he
  refine wk_lift 6 3 5 rfl ?_
  intro e3
  refine loopY ok mixed (A := A30) [1, 4, 6, 7] [0, 3] (S := { z : Nat × Nat × List Pr // z.1 ≤ p.evs.length ∧ z.2.2 ++ pressF p z.1 (p.evs.drop z.1) = Z ∧ z.2.2.length ≤ 14 * z.1 })
    (fr := fun s => frOf 0 70 [(1, .optr (.s 0) e0 3 0 0), (4, intsA (onsets p)), (6, .oslc (.s 3) s.1.2.1 5 0 s.1.2.2.length false), (7, .int .i64 (s.1.1 : Int))])
    (h := fun s => ⟨[.vec e0 [pcV p], .hole, .hole, .vec s.1.2.1 (s.1.2.2.map prR)], []⟩) (μ := fun s => p.evs.length - s.1.1)
    ⟨(0, e3, []), by simp, hZ.symm, by simp⟩ ?_ ?_
    [6] [3] (S' := { z : Nat × List Pr // z.2 = Z ∧ z.2.length ≤ 5600 }) (X := fun _ => 0)
    (frX := fun s => frOf 0 70 [(6, .oslc (.s 3) s.1.1 5 0 s.1.2.length false)])
    (hX := fun s => ⟨[.hole, .hole, .hole, .vec s.1.1 (s.1.2.map prR)], []⟩)
    [] [] (S2 := Empty) (frR := fun s => frOf 0 70 []) (hR := fun s => ⟨[], []⟩) ?_ ?_ ?_
  · exact rfl
  · exact rfl
  · rintro ⟨⟨k, e3, L⟩, hk, hu, hL⟩
    dsimp only at hk hu hL
    show aexR _ _ _ (frOf 0 70 [(1, .optr (.s 0) e0 3 0 0), (4, intsA (onsets p)), (6, .oslc (.s 3) e3 5 0 L.length false), (7, .int .i64 (k : Int))]) ⟨[.vec e0 [pcV p], .hole, .hole, .vec e3 (L.map prR)], []⟩ _
    by_cases hk2 : k < p.evs.length
    · have g1 : (k : Int) < p.evs.length := by omega
      have hmk := mapR (f := evR) hk2
      have hmo := intsR (l := onsets p) (i := k) (by omega)
      rw [on_get (by omega)] at hmo
      have hsp := v.sp k hk2
      have hsl := v.sl k hk2
      rw [pressF_drop p hk2, ← List.append_assoc] at hu
      generalize p.evs[k] = e at hmk hsp hsl hu
      obtain ⟨eb, ev, ed, et, ey, l⟩ := e
      dsimp only at hsp hsl hu
      obtain ⟨Y, hY⟩ : ∃ Y, Y = L ++ (prF l).map (pressOf p k) := ⟨_, rfl⟩
      rw [← hY] at hu
      (repeat' (first | exact rfl | ((conv => whnf); first | exact rfl | exact ⟨rfl, rfl⟩ | refine ⟨(by kernel_rfl : drawOk _ _ _ _ = true), ?_⟩ | refine ⟨(by kernel_rfl : planOk _ _ _ _ = true), ?_⟩ | refine ⟨rfl, ?_⟩ | refine ⟨by (first | omega | (simp (disch := omega) only [wrapI]; omega) | (simp (disch := omega) only [wrapI]; simp; omega) | (simp; omega)), ?_⟩ | (intro ep) | (refine ifB (fun hb => ?_) (fun hb => ?_) <;> (try simp only [decide_eq_true_eq, decide_eq_false_iff_not, beq_iff_eq, beq_eq_false_iff_ne, bne_iff_ne, bne_eq_false_iff_eq, ne_eq, not_false_eq_true, not_true_eq_false, Bool.not_eq_true, Bool.not_eq_true', Bool.not_eq_false', Int.not_lt, Int.not_le] at hb) <;> (try simp (disch := omega) only [wrapI] at hb) <;> (try (exfalso; omega))) | fail)))
      all_goals (conv => whnf)
      refine loopY ok mixed (A := A30) [1, 4, 6, 7, 8] [0, 3] (S := { z : Nat × Nat × List Pr // z.1 ≤ l.length ∧ z.2.2 ++ (prF (l.drop z.1)).map (pressOf p k) = Y ∧ z.2.2.length ≤ 14 * k + z.1 })
        (fr := fun s => frOf 0 70 [(1, .optr (.s 0) e0 3 0 0), (4, intsA (onsets p)), (6, .oslc (.s 3) s.1.2.1 5 0 s.1.2.2.length false), (7, .int .i64 (k : Int)), (8, .int .i64 (s.1.1 : Int))])
        (h := fun s => ⟨[.vec e0 [pcV p], .hole, .hole, .vec s.1.2.1 (s.1.2.2.map prR)], []⟩) (μ := fun s => l.length - s.1.1)
        ⟨(0, e3, L), by simp, hY.symm, by dsimp only; omega⟩ ?_ ?_
        [1, 4, 6, 7] [0, 3] (S' := { z : Nat × List Pr // z.2 = Y ∧ z.2.length ≤ 14 * k + 14 }) (X := fun _ => 2)
        (frX := fun s => frOf 0 70 [(1, .optr (.s 0) e0 3 0 0), (4, intsA (onsets p)), (6, .oslc (.s 3) s.1.1 5 0 s.1.2.length false), (7, .int .i64 (k : Int))])
        (hX := fun s => ⟨[.vec e0 [pcV p], .hole, .hole, .vec s.1.1 (s.1.2.map prR)], []⟩)
        [] [] (S2 := Empty) (frR := fun s => frOf 0 70 []) (hR := fun s => ⟨[], []⟩) ?_ ?_ ?_
      · exact rfl
      · exact rfl
      · rintro ⟨⟨j, e3, L⟩, hj, hu2, hL⟩
        dsimp only at hj hu2 hL
        show aexR _ _ _ (frOf 0 70 [(1, .optr (.s 0) e0 3 0 0), (4, intsA (onsets p)), (6, .oslc (.s 3) e3 5 0 L.length false), (7, .int .i64 (k : Int)), (8, .int .i64 (j : Int))]) ⟨[.vec e0 [pcV p], .hole, .hole, .vec e3 (L.map prR)], []⟩ _
        by_cases g3 : j < l.length
        · have hm := mapR (f := stR) g3
          have hs1 := hsp l[j] (List.getElem_mem g3)
          rw [prF_drop g3] at hu2
          generalize l[j] = s at hm hs1 hu2
          by_cases hf : 0 < s.f
          · rw [if_pos hf, List.map_cons, List.append_cons] at hu2
            have hE := stay63 p v k s.h (by omega) (by omega)
            have hle := stayN_le (l := p.evs) (i := k) (h := s.h.toNat) (by omega)
            have hmE := intsR (l := onsets p) (i := stayN p.evs k s.h.toNat) (by omega)
            rw [on_get hle] at hmE
            have hno : pressOf p k s = ⟨k, s.c, s.f, on p k, on p (stayN p.evs k s.h.toNat)⟩ := by unfold pressOf toOf; rw [if_pos hf]
            rw [hno] at hu2
            generalize stayN p.evs k s.h.toNat = N at hE hle hmE hu2 hno
            generalize on p N = tN at hmE hu2 hno
            obtain ⟨sc, sf, sr, sg, sh⟩ := s
            dsimp only at hu2 hf hE
            have t1 : List.take L.length (List.drop 0 (L.map prR)) = L.map prR := by rw [List.drop_zero, List.take_of_length_le (by simp)]
            (repeat' (first | exact rfl | ((conv => whnf); first | refine optS hmk ?_ | refine optS hm ?_ | refine optS hmo ?_ | refine optS hmE ?_ | refine ⟨_, hE, ?_⟩ | exact rfl | exact ⟨rfl, rfl⟩ | refine ⟨(by kernel_rfl : drawOk _ _ _ _ = true), ?_⟩ | refine ⟨(by kernel_rfl : planOk _ _ _ _ = true), ?_⟩ | refine ⟨rfl, ?_⟩ | refine ⟨by (first | omega | (simp (disch := omega) only [wrapI]; omega) | (simp (disch := omega) only [wrapI]; simp; omega) | (simp; omega)), ?_⟩ | (intro ep) | (refine ifB (fun hb => ?_) (fun hb => ?_) <;> (try simp only [decide_eq_true_eq, decide_eq_false_iff_not, beq_iff_eq, beq_eq_false_iff_ne, bne_iff_ne, bne_eq_false_iff_eq, ne_eq, not_false_eq_true, not_true_eq_false, Bool.not_eq_true, Bool.not_eq_true', Bool.not_eq_false', Int.not_lt, Int.not_le] at hb) <;> (try simp (disch := omega) only [wrapI] at hb) <;> (try (exfalso; omega))) | fail)))
            all_goals (conv => whnf)
            refine back_of ⟨(j + 1, ep, L ++ [⟨k, sc, sf, on p k, tN⟩]), by dsimp only; omega, hu2, by dsimp only; rw [List.length_append, List.length_singleton]; omega⟩ ⟨?_, ?_, by dsimp only; omega⟩
            · show maskF 0 _ _ = frOf 0 70 [(1, .optr (.s 0) e0 3 0 0), (4, intsA (onsets p)), (6, .oslc (.s 3) ep 5 0 (L ++ [(⟨k, sc, sf, on p k, tN⟩ : Pr)]).length false), (7, .int .i64 (k : Int)), (8, .int .i64 ((j + 1 : Nat) : Int))]
              rw [List.length_append, List.length_singleton]
              (first | exact rfl | (simp (disch := omega) only [wrapI]; exact rfl))
            · show maskH 0 _ _ = ⟨[.vec e0 [pcV p], .hole, .hole, .vec ep ((L ++ [(⟨k, sc, sf, on p k, tN⟩ : Pr)]).map prR)], []⟩
              have em : (L ++ [(⟨k, sc, sf, on p k, tN⟩ : Pr)]).map prR = List.take L.length (List.drop 0 (L.map prR)) ++ [[.int .i64 k, .int .i64 sc, .int .i64 sf, .int .i64 (on p k), .int .i64 tN]] := by rw [t1]; simp [prR]
              rw [em]
              (first | exact rfl | (simp (disch := omega) only [wrapI]; exact rfl))
          · rw [if_neg hf] at hu2
            obtain ⟨sc, sf, sr, sg, sh⟩ := s
            dsimp only at hf
            (repeat' (first | exact rfl | ((conv => whnf); first | refine optS hmk ?_ | refine optS hm ?_ | exact rfl | exact ⟨rfl, rfl⟩ | refine ⟨(by kernel_rfl : drawOk _ _ _ _ = true), ?_⟩ | refine ⟨(by kernel_rfl : planOk _ _ _ _ = true), ?_⟩ | refine ⟨rfl, ?_⟩ | refine ⟨by (first | omega | (simp (disch := omega) only [wrapI]; omega) | (simp (disch := omega) only [wrapI]; simp; omega) | (simp; omega)), ?_⟩ | (intro ep) | (refine ifB (fun hb => ?_) (fun hb => ?_) <;> (try simp only [decide_eq_true_eq, decide_eq_false_iff_not, beq_iff_eq, beq_eq_false_iff_ne, bne_iff_ne, bne_eq_false_iff_eq, ne_eq, not_false_eq_true, not_true_eq_false, Bool.not_eq_true, Bool.not_eq_true', Bool.not_eq_false', Int.not_lt, Int.not_le] at hb) <;> (try simp (disch := omega) only [wrapI] at hb) <;> (try (exfalso; omega))) | fail)))
            all_goals (conv => whnf)
            all_goals exact back_of ⟨(j + 1, e3, L), by dsimp only; omega, hu2, by dsimp only; omega⟩ ⟨by (first | exact rfl | (simp (disch := omega) only [wrapI]; exact rfl)), rfl, by dsimp only; omega⟩
        · have hj2 : j = l.length := by omega
          subst hj2
          rw [List.drop_length, show prF [] = [] from rfl, List.map_nil, List.append_nil] at hu2
          (repeat' (first | exact rfl | ((conv => whnf); first | refine optS hmk ?_ | exact rfl | exact ⟨rfl, rfl⟩ | refine ⟨(by kernel_rfl : drawOk _ _ _ _ = true), ?_⟩ | refine ⟨(by kernel_rfl : planOk _ _ _ _ = true), ?_⟩ | refine ⟨rfl, ?_⟩ | refine ⟨by (first | omega | (simp (disch := omega) only [wrapI]; omega) | (simp (disch := omega) only [wrapI]; simp; omega) | (simp; omega)), ?_⟩ | (intro ep) | (refine ifB (fun hb => ?_) (fun hb => ?_) <;> (try simp only [decide_eq_true_eq, decide_eq_false_iff_not, beq_iff_eq, beq_eq_false_iff_ne, bne_iff_ne, bne_eq_false_iff_eq, ne_eq, not_false_eq_true, not_true_eq_false, Bool.not_eq_true, Bool.not_eq_true', Bool.not_eq_false', Int.not_lt, Int.not_le] at hb) <;> (try simp (disch := omega) only [wrapI] at hb) <;> (try (exfalso; omega))) | fail)))
          all_goals (conv => whnf)
          all_goals exact back_of ⟨(e3, L), hu2, by dsimp only; omega⟩ ⟨rfl, rfl, rfl⟩
      · rintro ⟨⟩
      · rintro ⟨⟨e3, L⟩, hz, h1⟩
        dsimp only at hz h1
        rw [← hz] at hu
        (repeat' (first | exact rfl | ((conv => whnf); first | exact rfl | exact ⟨rfl, rfl⟩ | refine ⟨(by kernel_rfl : drawOk _ _ _ _ = true), ?_⟩ | refine ⟨(by kernel_rfl : planOk _ _ _ _ = true), ?_⟩ | refine ⟨rfl, ?_⟩ | refine ⟨by (first | omega | (simp (disch := omega) only [wrapI]; omega) | (simp (disch := omega) only [wrapI]; simp; omega) | (simp; omega)), ?_⟩ | (intro ep) | fail)))
        all_goals (conv => whnf)
        all_goals exact back_of ⟨(k + 1, e3, L), by dsimp only; omega, hu, by dsimp only; omega⟩ ⟨by (first | exact rfl | (simp (disch := omega) only [wrapI]; exact rfl)), rfl, by dsimp only; omega⟩
    · have hk2 : k = p.evs.length := by omega
      subst hk2
      rw [List.drop_length, pressF, List.append_nil] at hu
      (repeat' (first | exact rfl | ((conv => whnf); first | exact rfl | exact ⟨rfl, rfl⟩ | refine ⟨(by kernel_rfl : drawOk _ _ _ _ = true), ?_⟩ | refine ⟨(by kernel_rfl : planOk _ _ _ _ = true), ?_⟩ | refine ⟨rfl, ?_⟩ | refine ⟨by (first | omega | (simp (disch := omega) only [wrapI]; omega) | (simp (disch := omega) only [wrapI]; simp; omega) | (simp; omega)), ?_⟩ | (intro ep) | (refine ifB (fun hb => ?_) (fun hb => ?_) <;> (try simp only [decide_eq_true_eq, decide_eq_false_iff_not, beq_iff_eq, beq_eq_false_iff_ne, bne_iff_ne, bne_eq_false_iff_eq, ne_eq, not_false_eq_true, not_true_eq_false, Bool.not_eq_true, Bool.not_eq_true', Bool.not_eq_false', Int.not_lt, Int.not_le] at hb) <;> (try simp (disch := omega) only [wrapI] at hb) <;> (try (exfalso; omega))) | fail)))
      all_goals (conv => whnf)
      all_goals exact back_of ⟨(e3, L), hu, by dsimp only; omega⟩ ⟨rfl, rfl, rfl⟩
  · rintro ⟨⟩
  · rintro ⟨⟨e3, L⟩, hz, h1⟩
    dsimp only at hz h1
    subst hz
    (repeat' (first | exact rfl | ((conv => whnf); first | exact rfl | exact ⟨rfl, rfl⟩ | refine ⟨(by kernel_rfl : drawOk _ _ _ _ = true), ?_⟩ | refine ⟨(by kernel_rfl : planOk _ _ _ _ = true), ?_⟩ | refine ⟨rfl, ?_⟩ | refine ⟨by (first | omega | (simp (disch := omega) only [wrapI]; omega) | (simp (disch := omega) only [wrapI]; simp; omega) | (simp; omega)), ?_⟩ | (intro ep) | (refine ifB (fun hb => ?_) (fun hb => ?_) <;> (try simp only [decide_eq_true_eq, decide_eq_false_iff_not, beq_iff_eq, beq_eq_false_iff_ne, bne_iff_ne, bne_eq_false_iff_eq, ne_eq, not_false_eq_true, not_true_eq_false, Bool.not_eq_true, Bool.not_eq_true', Bool.not_eq_false', Int.not_lt, Int.not_le] at hb) <;> (try simp (disch := omega) only [wrapI] at hb) <;> (try (exfalso; omega))) | fail)))
    all_goals (conv => whnf)
    exact ⟨Go.Ab.V.pure_map (f := prR) L fun x => rfl, rfl, rfl⟩
end Go.Ab.V
