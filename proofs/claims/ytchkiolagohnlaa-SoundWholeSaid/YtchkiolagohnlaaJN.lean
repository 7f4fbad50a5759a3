/-
  What is proved here serves the law's text: each part says its own claim and its conditions. No condition is left open.
-/
import Derived.Test.YtchkiolagohnlaaJM
set_option linter.unusedSimpArgs false
set_option linter.unusedVariables false

/-
  Sonorities: the document's walk. The pieces are of the sizes that a statement looks at.
-/
namespace Go.Ab.V
open Go.Proofs

theorem chg_drop {S : List Nt} {k : Nat} (h : k < S.length) (t : Int) : chg (S.drop k) t = ((decide (S[k].f = t) || decide (S[k].t = t)) || chg (S.drop (k + 1)) t) := by
  rw [List.drop_eq_getElem_cons h]
  unfold chg
  rw [List.any_cons]
theorem sns_set {A : List Sn} {x y : Sn} {i : Nat} (h : i = A.length) : ((A ++ [x]).map snR).set i (snR y) = (A ++ [y]).map snR := by
  subst h
  rw [← List.map_set, List.set_append_right _ _ (Nat.le_refl _), Nat.sub_self]
  rfl
def A43 : Ann := fun r => match r with
  | 0 => { slots := [(0, 0)] }
  | 15 => { slots := [(12, 1), (13, 2)] }
  | _ => {}
set_option maxHeartbeats 16000000 in
set_option maxRecDepth 100000 in
theorem refSon43 (p : Pc) (hp : p.Ok) (hs : p.Sm) : PRet C.P 43 [pcA p] (sonV p) := by
  have hO := refOnsets_spec p hp hs
  unfold onsV at hO
  unfold sonV
  by_cases hc : ¬ chk p = 0
  · rw [if_neg hc] at hO ⊢
    generalize chk p = e at hO hc
    refine pret_of ok mixed (A := A43) 3 Try.func43 rfl ?_
    (repeat' (first | exact rfl | ((conv => whnf); first | refine ⟨_, hO, ?_⟩ | exact rfl | exact ⟨rfl, rfl⟩ | refine ⟨(by kernel_rfl : drawOk _ _ _ _ = true), ?_⟩ | refine ⟨(by kernel_rfl : planOk _ _ _ _ = true), ?_⟩ | refine ⟨rfl, ?_⟩ | refine ⟨by (first | omega | (simp (disch := omega) only [wrapI]; omega) | (simp (disch := omega) only [wrapI]; simp; omega) | (simp; omega)), ?_⟩ | (intro ep) | (refine ifB (fun hb => ?_) (fun hb => ?_) <;> (try simp only [decide_eq_true_eq, decide_eq_false_iff_not, beq_iff_eq, beq_eq_false_iff_ne, bne_iff_ne, bne_eq_false_iff_eq, ne_eq, not_false_eq_true, not_true_eq_false, Bool.not_eq_true, Bool.not_eq_true', Bool.not_eq_false', Int.not_lt, Int.not_le] at hb) <;> (try simp (disch := omega) only [wrapI] at hb) <;> (try (exfalso; omega))) | fail)))
  have hc := Decidable.not_not.1 hc
  rw [if_pos hc] at hO ⊢
  have v := vp hc
  have hlen := v.len
  have hol := ons_len p
  have h2 := refStrings22 p hp hs
  unfold stringsV at h2
  rw [if_pos hc] at h2
  have hsl := strings_len v
  obtain ⟨Z, hZ⟩ : ∃ Z, Z = sonL p := ⟨_, rfl⟩
  have hZ2 : sonP (stringsL p) (timK p p.evs.length ++ [on p p.evs.length]) = Z := by rw [hZ]; unfold sonL; rw [timL_end]; rfl
  rw [← hZ]
  clear hZ
  have h4 := fun t => sounding58 (stringsL p) t (by omega)
  have hmk := fun k (h : k < p.evs.length) => mark_in hc h
  have htk := fun k (h : k ≤ p.evs.length) => timK_succ (p := p) h
  have htn := fun k (h : 0 < k) => timK_ne (p := p) h
  have ht0 : timK p 0 = [] := rfl
  generalize stringsL p = S at h2 h4 hsl hZ2 hmk htk
  generalize timK p = TK at hZ2 htk htn ht0
  refine pret_of ok mixed (A := A43) 3 Try.func43 rfl ?_
  (repeat' (first | exact rfl | ((conv => whnf); first | refine ⟨_, hO, ?_⟩ | refine ⟨_, h2, ?_⟩ | exact rfl | exact ⟨rfl, rfl⟩ | refine ⟨(by kernel_rfl : drawOk _ _ _ _ = true), ?_⟩ | refine ⟨(by kernel_rfl : planOk _ _ _ _ = true), ?_⟩ | refine ⟨rfl, ?_⟩ | refine ⟨by (first | omega | (simp (disch := omega) only [wrapI]; omega) | (simp (disch := omega) only [wrapI]; simp; omega) | (simp; omega)), ?_⟩ | (intro ep) | (refine ifB (fun hb => ?_) (fun hb => ?_) <;> (try simp only [decide_eq_true_eq, decide_eq_false_iff_not, beq_iff_eq, beq_eq_false_iff_ne, bne_iff_ne, bne_eq_false_iff_eq, ne_eq, not_false_eq_true, not_true_eq_false, Bool.not_eq_true, Bool.not_eq_true', Bool.not_eq_false', Int.not_lt, Int.not_le] at hb) <;> (try simp (disch := omega) only [wrapI] at hb) <;> (try (exfalso; omega))) | fail)))
  all_goals (conv => whnf)
  obtain ⟨e0, he⟩ : ∃ e0, e0 = ep := ⟨_, rfl⟩
  subst he
  refine wk_lift 8 2 3 rfl ?_
  intro e2
  refine loopY ok mixed (A := A43) [1, 4, 6, 8, 9] [0, 2] (S := { z : Nat × Nat × List Sn // z.1 ≤ p.evs.length ∧ z.2.2 = sonP S (TK z.1 ++ [on p z.1]) ∧ z.2.2.length ≤ z.1 })
    (fr := fun s => frOf 0 92 [(1, .optr (.s 0) e0 3 0 0), (4, intsA (onsets p)), (6, ntsA S), (8, .oslc (.s 2) s.1.2.1 3 0 s.1.2.2.length false), (9, .int .i64 (s.1.1 : Int))])
    (h := fun s => ⟨[.vec e0 [pcV p], .hole, .vec s.1.2.1 (s.1.2.2.map snR)], []⟩) (μ := fun s => p.evs.length - s.1.1)
    ⟨(0, e2, []), Nat.zero_le _, by dsimp only; rw [ht0]; rfl, by simp⟩ ?_ ?_
    [8] [2] (S' := { z : Nat × List Sn // z.2 = Z }) (X := fun _ => 0)
    (frX := fun s => frOf 0 92 [(8, .oslc (.s 2) s.1.1 3 0 s.1.2.length false)])
    (hX := fun s => ⟨[.hole, .hole, .vec s.1.1 (s.1.2.map snR)], []⟩)
    [] [] (S2 := Empty) (frR := fun s => frOf 0 92 []) (hR := fun s => ⟨[], []⟩) ?_ ?_ ?_
  · exact rfl
  · exact rfl
  · rintro ⟨⟨k, e2, L⟩, hk, hu, hL⟩
    dsimp only at hk hu hL
    show aexR _ _ _ (frOf 0 92 [(1, .optr (.s 0) e0 3 0 0), (4, intsA (onsets p)), (6, ntsA S), (8, .oslc (.s 2) e2 3 0 L.length false), (9, .int .i64 (k : Int))]) ⟨[.vec e0 [pcV p], .hole, .vec e2 (L.map snR)], []⟩ _
    by_cases hk2 : k < p.evs.length
    · have hmo := intsR (l := onsets p) (i := k) (by omega)
      have hmo2 := intsR (l := onsets p) (i := k + 1) (by omega)
      rw [on_get (by omega)] at hmo hmo2
      have hM := hmk k hk2
      have hT := htk k hk
      have hn := htn k
      clear htk htn hmk
      rw [hM] at hT
      have hw : IntKind.i64.wrap ((k : Int) + 1) = ((k + 1 : Nat) : Int) := by rw [wrapI (by omega) (by omega)]; omega
      rw [← hw] at hmo2
      have huu := hu
      obtain ⟨t, ht⟩ : ∃ t, t = on p k := ⟨_, rfl⟩
      rw [← ht] at hmo hM hT huu
      obtain ⟨u, hu'⟩ : ∃ u, u = on p (k + 1) := ⟨_, rfl⟩
      rw [← hu'] at hmo2
      obtain ⟨M, hMM⟩ : ∃ M, M = (decide (k = 0) || chg S t) := ⟨_, rfl⟩
      rw [← hMM] at hT
      (repeat' (first | exact rfl | ((conv => whnf); first | exact rfl | exact ⟨rfl, rfl⟩ | refine ⟨(by kernel_rfl : drawOk _ _ _ _ = true), ?_⟩ | refine ⟨(by kernel_rfl : planOk _ _ _ _ = true), ?_⟩ | refine ⟨rfl, ?_⟩ | refine ⟨by (first | omega | (simp (disch := omega) only [wrapI]; omega) | (simp (disch := omega) only [wrapI]; simp; omega) | (simp; omega)), ?_⟩ | (intro ep) | (refine ifB (fun hb => ?_) (fun hb => ?_) <;> (try simp only [decide_eq_true_eq, decide_eq_false_iff_not, beq_iff_eq, beq_eq_false_iff_ne, bne_iff_ne, bne_eq_false_iff_eq, ne_eq, not_false_eq_true, not_true_eq_false, Bool.not_eq_true, Bool.not_eq_true', Bool.not_eq_false', Int.not_lt, Int.not_le] at hb) <;> (try simp (disch := omega) only [wrapI] at hb) <;> (try (exfalso; omega))) | fail)))
      all_goals (conv => whnf)
      refine loopY ok mixed (A := A43) [1, 4, 6, 8, 9, 10, 11] [0, 2] (S := { z : Nat × Bool // z.1 ≤ S.length ∧ (z.2 || chg (S.drop z.1) t) = M })
        (fr := fun s => frOf 0 92 [(1, .optr (.s 0) e0 3 0 0), (4, intsA (onsets p)), (6, ntsA S), (8, .oslc (.s 2) e2 3 0 L.length false), (9, .int .i64 (k : Int)), (10, .bool s.1.2), (11, .int .i64 (s.1.1 : Int))])
        (h := fun s => ⟨[.vec e0 [pcV p], .hole, .vec e2 (L.map snR)], []⟩) (μ := fun s => S.length - s.1.1)
        ⟨(0, decide ((k : Int) = 0)), Nat.zero_le _, by dsimp only; rw [hMM, List.drop_zero]; congr 1; rw [decide_eq_decide]; omega⟩ ?_ ?_
        [1, 4, 6, 8, 9, 10] [0, 2] (S' := Unit) (X := fun _ => 2)
        (frX := fun s => frOf 0 92 [(1, .optr (.s 0) e0 3 0 0), (4, intsA (onsets p)), (6, ntsA S), (8, .oslc (.s 2) e2 3 0 L.length false), (9, .int .i64 (k : Int)), (10, .bool M)])
        (hX := fun s => ⟨[.vec e0 [pcV p], .hole, .vec e2 (L.map snR)], []⟩)
        [] [] (S2 := Empty) (frR := fun s => frOf 0 92 []) (hR := fun s => ⟨[], []⟩) ?_ ?_ ?_
      · exact rfl
      · exact rfl
      · rintro ⟨⟨j, b⟩, hj, hq⟩
        dsimp only at hj hq
        show aexR _ _ _ (frOf 0 92 [(1, .optr (.s 0) e0 3 0 0), (4, intsA (onsets p)), (6, ntsA S), (8, .oslc (.s 2) e2 3 0 L.length false), (9, .int .i64 (k : Int)), (10, .bool b), (11, .int .i64 (j : Int))]) ⟨[.vec e0 [pcV p], .hole, .vec e2 (L.map snR)], []⟩ _
        by_cases g : j < S.length
        · have hm := mapR (f := ntR) g
          rw [chg_drop g, ← Bool.or_assoc] at hq
          generalize S[j] = x at hm hq
          obtain ⟨xe, xc, xp, xf, xt⟩ := x
          dsimp only at hq
          cases b with
          | true =>
            rw [Bool.true_or] at hq
            (repeat' (first | exact rfl | ((conv => whnf); first | refine optS hm ?_ | refine optS hmo ?_ | exact rfl | exact ⟨rfl, rfl⟩ | refine ⟨(by kernel_rfl : drawOk _ _ _ _ = true), ?_⟩ | refine ⟨(by kernel_rfl : planOk _ _ _ _ = true), ?_⟩ | refine ⟨rfl, ?_⟩ | refine ⟨by (first | omega | (simp (disch := omega) only [wrapI]; omega) | (simp (disch := omega) only [wrapI]; simp; omega) | (simp; omega)), ?_⟩ | (intro ep) | (refine ifB (fun hb => ?_) (fun hb => ?_) <;> (try simp only [decide_eq_true_eq, decide_eq_false_iff_not, beq_iff_eq, beq_eq_false_iff_ne, bne_iff_ne, bne_eq_false_iff_eq, ne_eq, not_false_eq_true, not_true_eq_false, Bool.not_eq_true, Bool.not_eq_true', Bool.not_eq_false', Int.not_lt, Int.not_le] at hb) <;> (try simp (disch := omega) only [wrapI] at hb) <;> (try (exfalso; omega))) | fail)))
            all_goals (conv => whnf)
            all_goals exact back_of ⟨(j + 1, true), by dsimp only; omega, hq⟩ ⟨by (first | exact rfl | (simp (disch := omega) only [wrapI]; exact rfl)), rfl, by dsimp only; omega⟩
          | false =>
            by_cases c1 : xf = t
            · rw [decide_eq_true c1] at hq
              (repeat' (first | exact rfl | ((conv => whnf); first | refine optS hm ?_ | refine optS hmo ?_ | exact rfl | exact ⟨rfl, rfl⟩ | refine ⟨(by kernel_rfl : drawOk _ _ _ _ = true), ?_⟩ | refine ⟨(by kernel_rfl : planOk _ _ _ _ = true), ?_⟩ | refine ⟨rfl, ?_⟩ | refine ⟨by (first | omega | (simp (disch := omega) only [wrapI]; omega) | (simp (disch := omega) only [wrapI]; simp; omega) | (simp; omega)), ?_⟩ | (intro ep) | (refine ifB (fun hb => ?_) (fun hb => ?_) <;> (try simp only [decide_eq_true_eq, decide_eq_false_iff_not, beq_iff_eq, beq_eq_false_iff_ne, bne_iff_ne, bne_eq_false_iff_eq, ne_eq, not_false_eq_true, not_true_eq_false, Bool.not_eq_true, Bool.not_eq_true', Bool.not_eq_false', Int.not_lt, Int.not_le] at hb) <;> (try simp (disch := omega) only [wrapI] at hb) <;> (try (exfalso; omega))) | fail)))
              all_goals (conv => whnf)
              all_goals exact back_of ⟨(j + 1, true), by dsimp only; omega, hq⟩ ⟨by (first | exact rfl | (simp (disch := omega) only [wrapI]; exact rfl)), rfl, by dsimp only; omega⟩
            · by_cases c2 : xt = t
              · rw [decide_eq_false c1, decide_eq_true c2] at hq
                (repeat' (first | exact rfl | ((conv => whnf); first | refine optS hm ?_ | refine optS hmo ?_ | exact rfl | exact ⟨rfl, rfl⟩ | refine ⟨(by kernel_rfl : drawOk _ _ _ _ = true), ?_⟩ | refine ⟨(by kernel_rfl : planOk _ _ _ _ = true), ?_⟩ | refine ⟨rfl, ?_⟩ | refine ⟨by (first | omega | (simp (disch := omega) only [wrapI]; omega) | (simp (disch := omega) only [wrapI]; simp; omega) | (simp; omega)), ?_⟩ | (intro ep) | (refine ifB (fun hb => ?_) (fun hb => ?_) <;> (try simp only [decide_eq_true_eq, decide_eq_false_iff_not, beq_iff_eq, beq_eq_false_iff_ne, bne_iff_ne, bne_eq_false_iff_eq, ne_eq, not_false_eq_true, not_true_eq_false, Bool.not_eq_true, Bool.not_eq_true', Bool.not_eq_false', Int.not_lt, Int.not_le] at hb) <;> (try simp (disch := omega) only [wrapI] at hb) <;> (try (exfalso; omega))) | fail)))
                all_goals (conv => whnf)
                all_goals refine back_of ⟨(j + 1, true), by dsimp only; omega, hq⟩ ⟨?_, rfl, by dsimp only; omega⟩
                all_goals (show maskF 0 _ _ = frOf 0 92 [(1, .optr (.s 0) e0 3 0 0), (4, intsA (onsets p)), (6, ntsA S), (8, .oslc (.s 2) e2 3 0 L.length false), (9, .int .i64 (k : Int)), (10, .bool true), (11, .int .i64 ((j + 1 : Nat) : Int))]; rw [← decide_eq_true c2]; (first | exact rfl | (simp (disch := omega) only [wrapI]; exact rfl)))
              · rw [decide_eq_false c1, decide_eq_false c2] at hq
                (repeat' (first | exact rfl | ((conv => whnf); first | refine optS hm ?_ | refine optS hmo ?_ | exact rfl | exact ⟨rfl, rfl⟩ | refine ⟨(by kernel_rfl : drawOk _ _ _ _ = true), ?_⟩ | refine ⟨(by kernel_rfl : planOk _ _ _ _ = true), ?_⟩ | refine ⟨rfl, ?_⟩ | refine ⟨by (first | omega | (simp (disch := omega) only [wrapI]; omega) | (simp (disch := omega) only [wrapI]; simp; omega) | (simp; omega)), ?_⟩ | (intro ep) | (refine ifB (fun hb => ?_) (fun hb => ?_) <;> (try simp only [decide_eq_true_eq, decide_eq_false_iff_not, beq_iff_eq, beq_eq_false_iff_ne, bne_iff_ne, bne_eq_false_iff_eq, ne_eq, not_false_eq_true, not_true_eq_false, Bool.not_eq_true, Bool.not_eq_true', Bool.not_eq_false', Int.not_lt, Int.not_le] at hb) <;> (try simp (disch := omega) only [wrapI] at hb) <;> (try (exfalso; omega))) | fail)))
                all_goals (conv => whnf)
                all_goals refine back_of ⟨(j + 1, false), by dsimp only; omega, hq⟩ ⟨?_, rfl, by dsimp only; omega⟩
                all_goals (show maskF 0 _ _ = frOf 0 92 [(1, .optr (.s 0) e0 3 0 0), (4, intsA (onsets p)), (6, ntsA S), (8, .oslc (.s 2) e2 3 0 L.length false), (9, .int .i64 (k : Int)), (10, .bool false), (11, .int .i64 ((j + 1 : Nat) : Int))]; rw [← decide_eq_false c2]; (first | exact rfl | (simp (disch := omega) only [wrapI]; exact rfl)))
        · rw [List.drop_eq_nil_of_le (by omega), show chg [] t = false from rfl, Bool.or_false] at hq
          subst hq
          (repeat' (first | exact rfl | ((conv => whnf); first | exact rfl | exact ⟨rfl, rfl⟩ | refine ⟨(by kernel_rfl : drawOk _ _ _ _ = true), ?_⟩ | refine ⟨(by kernel_rfl : planOk _ _ _ _ = true), ?_⟩ | refine ⟨rfl, ?_⟩ | refine ⟨by (first | omega | (simp (disch := omega) only [wrapI]; omega) | (simp (disch := omega) only [wrapI]; simp; omega) | (simp; omega)), ?_⟩ | (intro ep) | (refine ifB (fun hb => ?_) (fun hb => ?_) <;> (try simp only [decide_eq_true_eq, decide_eq_false_iff_not, beq_iff_eq, beq_eq_false_iff_ne, bne_iff_ne, bne_eq_false_iff_eq, ne_eq, not_false_eq_true, not_true_eq_false, Bool.not_eq_true, Bool.not_eq_true', Bool.not_eq_false', Int.not_lt, Int.not_le] at hb) <;> (try simp (disch := omega) only [wrapI] at hb) <;> (try (exfalso; omega))) | fail)))
          all_goals (conv => whnf)
          all_goals exact back_of () ⟨rfl, rfl, rfl⟩
      · rintro ⟨⟩
      · rintro ⟨⟩
        have h5 := h4 t
        cases M with
        | true =>
          rw [if_pos rfl] at hT
          have hu2 : L ++ [⟨t, u, sndF S t 128 0⟩] = sonP S (TK (k + 1) ++ [on p (k + 1)]) := by
            rw [huu, ← hu', hT, List.append_assoc]
            exact (sonP_snoc S t u (TK k)).symm
          generalize sndF S t 128 0 = Q at h5 hu2
          have t1 : List.take L.length (List.drop 0 (L.map snR)) = L.map snR := by rw [List.drop_zero, List.take_of_length_le (by simp)]
          have hw2 : IntKind.i64.wrap ((L.length : Int) + 1 - 1) = (L.length : Int) := by rw [wrapI (by omega) (by omega)]; omega
          have hmr : (List.take L.length (List.drop 0 (L.map snR)) ++ [[.int .i64 t, .int .i64 0, intsA Q]])[0 + (IntKind.i64.wrap (((L.length + 1 : Nat) : Int) - 1)).toNat]? = some [.int .i64 t, .int .i64 0, intsA Q] := by
            rw [t1, show IntKind.i64.wrap (((L.length + 1 : Nat) : Int) - 1) = (L.length : Int) by rw [wrapI (by omega) (by omega)]; omega, Nat.zero_add, Int.toNat_natCast, List.getElem?_append_right (by simp)]
            simp
          have hset : (List.take L.length (List.drop 0 (L.map snR)) ++ [[.int .i64 t, .int .i64 0, intsA Q]]).set (0 + (IntKind.i64.wrap (((L.length + 1 : Nat) : Int) - 1)).toNat) [.int .i64 t, .int .i64 u, intsA Q] = (L ++ [(⟨t, u, Q⟩ : Sn)]).map snR := by
            rw [t1, show IntKind.i64.wrap (((L.length + 1 : Nat) : Int) - 1) = (L.length : Int) by rw [wrapI (by omega) (by omega)]; omega]
            exact (congrArg (fun l => List.set l (0 + ((L.length : Nat) : Int).toNat) (snR ⟨t, u, Q⟩)) (by simp [snR] : L.map snR ++ [[.int .i64 t, .int .i64 0, intsA Q]] = (L ++ [(⟨t, 0, Q⟩ : Sn)]).map snR)).trans (sns_set (by omega))
          have hbd : 0 ≤ IntKind.i64.wrap (((L.length + 1 : Nat) : Int) - 1) ∧ IntKind.i64.wrap (((L.length + 1 : Nat) : Int) - 1) < ((L.length + 1 : Nat) : Int) := by rw [wrapI (by omega) (by omega)]; omega
          (repeat' (first | exact rfl | ((conv => whnf); first | refine optS hmo ?_ | refine optS hmo2 ?_ | refine optS hmr ?_ | refine ⟨_, h5, ?_⟩ | exact rfl | exact ⟨rfl, rfl⟩ | refine ⟨(by kernel_rfl : drawOk _ _ _ _ = true), ?_⟩ | refine ⟨(by kernel_rfl : planOk _ _ _ _ = true), ?_⟩ | refine ⟨rfl, ?_⟩ | refine ⟨by (first | omega | (simp (disch := omega) only [wrapI]; omega) | (simp (disch := omega) only [wrapI]; simp; omega) | (simp; omega)), ?_⟩ | (intro ep) | refine ⟨hbd, ?_⟩ | (refine ifB (fun hb => ?_) (fun hb => ?_) <;> (try simp only [decide_eq_true_eq, decide_eq_false_iff_not, beq_iff_eq, beq_eq_false_iff_ne, bne_iff_ne, bne_eq_false_iff_eq, ne_eq, not_false_eq_true, not_true_eq_false, Bool.not_eq_true, Bool.not_eq_true', Bool.not_eq_false', Int.not_lt, Int.not_le] at hb) <;> (try simp (disch := omega) only [wrapI] at hb) <;> (try (exfalso; omega))) | fail)))
          all_goals (conv => whnf)
          refine back_of ⟨(k + 1, ep, L ++ [⟨t, u, Q⟩]), by dsimp only; omega, hu2, by dsimp only; rw [List.length_append, List.length_singleton]; omega⟩ ⟨?_, ?_, by dsimp only; omega⟩
          · show maskF 0 _ _ = frOf 0 92 [(1, .optr (.s 0) e0 3 0 0), (4, intsA (onsets p)), (6, ntsA S), (8, .oslc (.s 2) ep 3 0 (L ++ [(⟨t, u, Q⟩ : Sn)]).length false), (9, .int .i64 ((k + 1 : Nat) : Int))]
            rw [List.length_append, List.length_singleton]
            (first | exact rfl | (simp (disch := omega) only [wrapI]; exact rfl))
          · show maskH 0 _ _ = ⟨[.vec e0 [pcV p], .hole, .vec ep ((L ++ [(⟨t, u, Q⟩ : Sn)]).map snR)], []⟩
            rw [← hset]
            (first | exact rfl | (simp (disch := omega) only [wrapI]; exact rfl))
        | false =>
          rw [if_neg (by simp)] at hT
          have hk0 : 0 < k := by
            rcases Nat.eq_zero_or_pos k with c | c
            · rw [decide_eq_true c] at hMM; cases hMM
            · exact c
          obtain ⟨C, c, hC⟩ : ∃ C c, TK k = C ++ [c] := by
            have := hn hk0
            exact ⟨(TK k).dropLast, (TK k).getLast this, (List.dropLast_concat_getLast this).symm⟩
          have e1 : sonP S (TK k ++ [t]) = sonP S (C ++ [c]) ++ [⟨c, t, sndF S c 128 0⟩] := by
            rw [hC, List.append_assoc]; exact sonP_snoc S c t C
          have e2' : sonP S (TK (k + 1) ++ [on p (k + 1)]) = sonP S (C ++ [c]) ++ [⟨c, u, sndF S c 128 0⟩] := by
            rw [hT, ← hu', hC, List.append_assoc]; exact sonP_snoc S c u C
          rw [e1] at huu
          generalize sonP S (C ++ [c]) = A at huu e2'
          generalize sndF S c 128 0 = Q at huu e2'
          clear e1 hT hn hC
          subst huu
          have hmr : ((A ++ [(⟨c, t, Q⟩ : Sn)]).map snR)[0 + (IntKind.i64.wrap (((A ++ [(⟨c, t, Q⟩ : Sn)]).length : Int) - 1)).toNat]? = some [.int .i64 c, .int .i64 t, intsA Q] := by
            rw [List.length_append, List.length_singleton, show IntKind.i64.wrap (((A.length + 1 : Nat) : Int) - 1) = (A.length : Int) by rw [wrapI (by omega) (by rw [List.length_append, List.length_singleton] at hL; omega)]; omega, Nat.zero_add, Int.toNat_natCast, List.map_append, List.getElem?_append_right (by simp)]
            simp [snR]
          have hset : ((A ++ [(⟨c, t, Q⟩ : Sn)]).map snR).set (0 + (IntKind.i64.wrap (((A ++ [(⟨c, t, Q⟩ : Sn)]).length : Int) - 1)).toNat) [.int .i64 c, .int .i64 u, intsA Q] = (A ++ [(⟨c, u, Q⟩ : Sn)]).map snR := by
            refine sns_set (y := ⟨c, u, Q⟩) ?_
            rw [List.length_append, List.length_singleton] at hL ⊢
            rw [wrapI (by omega) (by omega)]
            omega
          have hbd : 0 ≤ IntKind.i64.wrap (((A ++ [(⟨c, t, Q⟩ : Sn)]).length : Int) - 1) ∧ IntKind.i64.wrap (((A ++ [(⟨c, t, Q⟩ : Sn)]).length : Int) - 1) < ((A ++ [(⟨c, t, Q⟩ : Sn)]).length : Int) := by
            rw [List.length_append, List.length_singleton] at hL ⊢
            rw [wrapI (by omega) (by omega)]; omega
          (repeat' (first | exact rfl | ((conv => whnf); first | refine optS hmo ?_ | refine optS hmo2 ?_ | refine optS hmr ?_ | refine ⟨hbd, ?_⟩ | exact rfl | exact ⟨rfl, rfl⟩ | refine ⟨(by kernel_rfl : drawOk _ _ _ _ = true), ?_⟩ | refine ⟨(by kernel_rfl : planOk _ _ _ _ = true), ?_⟩ | refine ⟨rfl, ?_⟩ | refine ⟨by (first | omega | (simp (disch := omega) only [wrapI]; omega) | (simp (disch := omega) only [wrapI]; simp; omega) | (simp; omega)), ?_⟩ | (intro ep) | (refine ifB (fun hb => ?_) (fun hb => ?_) <;> (try simp only [decide_eq_true_eq, decide_eq_false_iff_not, beq_iff_eq, beq_eq_false_iff_ne, bne_iff_ne, bne_eq_false_iff_eq, ne_eq, not_false_eq_true, not_true_eq_false, Bool.not_eq_true, Bool.not_eq_true', Bool.not_eq_false', Int.not_lt, Int.not_le] at hb) <;> (try simp (disch := omega) only [wrapI] at hb) <;> (try (exfalso; omega))) | fail)))
          all_goals (conv => whnf)
          refine back_of ⟨(k + 1, e2, A ++ [⟨c, u, Q⟩]), by dsimp only; omega, e2'.symm, by dsimp only; rw [List.length_append, List.length_singleton] at hL ⊢; omega⟩ ⟨?_, ?_, by dsimp only; omega⟩
          · show maskF 0 _ _ = frOf 0 92 [(1, .optr (.s 0) e0 3 0 0), (4, intsA (onsets p)), (6, ntsA S), (8, .oslc (.s 2) e2 3 0 (A ++ [(⟨c, u, Q⟩ : Sn)]).length false), (9, .int .i64 ((k + 1 : Nat) : Int))]
            rw [show (A ++ [(⟨c, u, Q⟩ : Sn)]).length = (A ++ [(⟨c, t, Q⟩ : Sn)]).length by simp]
            (first | exact rfl | (simp (disch := omega) only [wrapI]; exact rfl))
          · show maskH 0 _ _ = ⟨[.vec e0 [pcV p], .hole, .vec e2 ((A ++ [(⟨c, u, Q⟩ : Sn)]).map snR)], []⟩
            rw [← hset]
            (first | exact rfl | (simp (disch := omega) only [wrapI]; exact rfl))
    · have hk3 : k = p.evs.length := by omega
      have hLz : L = Z := by rw [hu, hk3]; exact hZ2
      (repeat' (first | exact rfl | ((conv => whnf); first | exact rfl | exact ⟨rfl, rfl⟩ | refine ⟨(by kernel_rfl : drawOk _ _ _ _ = true), ?_⟩ | refine ⟨(by kernel_rfl : planOk _ _ _ _ = true), ?_⟩ | refine ⟨rfl, ?_⟩ | refine ⟨by (first | omega | (simp (disch := omega) only [wrapI]; omega) | (simp (disch := omega) only [wrapI]; simp; omega) | (simp; omega)), ?_⟩ | (intro ep) | (refine ifB (fun hb => ?_) (fun hb => ?_) <;> (try simp only [decide_eq_true_eq, decide_eq_false_iff_not, beq_iff_eq, beq_eq_false_iff_ne, bne_iff_ne, bne_eq_false_iff_eq, ne_eq, not_false_eq_true, not_true_eq_false, Bool.not_eq_true, Bool.not_eq_true', Bool.not_eq_false', Int.not_lt, Int.not_le] at hb) <;> (try simp (disch := omega) only [wrapI] at hb) <;> (try (exfalso; omega))) | fail)))
      all_goals (conv => whnf)
      all_goals exact back_of ⟨(e2, L), hLz⟩ ⟨rfl, rfl, rfl⟩
  · rintro ⟨⟩
  · rintro ⟨⟨e2, L⟩, hz⟩
    dsimp only at hz
    subst hz
    (repeat' (first | exact rfl | ((conv => whnf); first | exact rfl | exact ⟨rfl, rfl⟩ | refine ⟨(by kernel_rfl : drawOk _ _ _ _ = true), ?_⟩ | refine ⟨(by kernel_rfl : planOk _ _ _ _ = true), ?_⟩ | refine ⟨rfl, ?_⟩ | refine ⟨by (first | omega | (simp (disch := omega) only [wrapI]; omega) | (simp (disch := omega) only [wrapI]; simp; omega) | (simp; omega)), ?_⟩ | (intro ep) | (refine ifB (fun hb => ?_) (fun hb => ?_) <;> (try simp only [decide_eq_true_eq, decide_eq_false_iff_not, beq_iff_eq, beq_eq_false_iff_ne, bne_iff_ne, bne_eq_false_iff_eq, ne_eq, not_false_eq_true, not_true_eq_false, Bool.not_eq_true, Bool.not_eq_true', Bool.not_eq_false', Int.not_lt, Int.not_le] at hb) <;> (try simp (disch := omega) only [wrapI] at hb) <;> (try (exfalso; omega))) | fail)))
    all_goals (conv => whnf)
    exact ⟨pure_sns L, rfl, rfl⟩
end Go.Ab.V
