/-
  What is proved here serves the law's text: each part says its own claim and its conditions. No condition is left open.
-/
import Derived.Test.YtchkiolagohnlaaJQ
import Derived.Test.YtchkiolagohnlaaJO
import Derived.Test.YtchkiolagohnlaaJP
import Derived.Test.YtchkiolagohnlaaKX
set_option linter.unusedSimpArgs false
set_option linter.unusedVariables false

/-
  The law of the whole. No condition but the machine's sizes.
-/
namespace Go.Ab.V
open Go.Proofs

def A12 : Ann := fun r => match r with
  | 0 => { slots := [(0, 0)] }
  | _ => {}
def fndB (t e : Int) : Bool := decide (0 ≤ t) && decide (t < e)
theorem fndB_true {t e : Int} (h : 0 ≤ t ∧ t < e) : fndB t e = true := by unfold fndB; simp [h]
theorem fndB_false {t e : Int} (h : ¬ (0 ≤ t ∧ t < e)) : fndB t e = false := by
  cases hb : fndB t e
  · rfl
  · exfalso; unfold fndB at hb; simp at hb; omega
set_option maxHeartbeats 16000000 in
set_option maxRecDepth 100000 in
theorem law_whole (p : Pc) (hp : p.Ok) (t : Int) : ACalls C.P 12 [pcA p, .int .i64 t] Heap.nil fun r _ => r = .bool true := by
  have hb0 := long_spec p hp
  have hmL := True.intro
  have h4 := True.intro
  have h3 := True.intro
  cases hb : longB p with
  | true =>
    rw [hb] at hb0
    have hcp := True.intro
    have h1 := True.intro
    have h2 := True.intro
    refine fn_of ok mixed (A := A12) 1 Try.func12 rfl ?_
    (repeat' (first | exact rfl | ((conv => whnf); first | refine ⟨_, works_spec, ?_⟩ | refine ⟨_, hb0, ?_⟩ | refine ⟨_, hcp, ?_⟩ | refine ⟨_, h1, ?_⟩ | refine ⟨_, h2, ?_⟩ | refine ⟨_, h3, ?_⟩ | refine ⟨_, h4, ?_⟩ | refine optS hmL ?_ | exact rfl | exact ⟨rfl, rfl⟩ | refine ⟨(by kernel_rfl : drawOk _ _ _ _ = true), ?_⟩ | refine ⟨(by kernel_rfl : planOk _ _ _ _ = true), ?_⟩ | refine ⟨rfl, ?_⟩ | refine ⟨by (first | omega | (simp (disch := omega) only [wrapI]; omega) | (simp (disch := omega) only [wrapI]; simp; omega) | (simp; omega)), ?_⟩ | (intro ep) | (refine ifB (fun hb => ?_) (fun hb => ?_) <;> (try simp only [decide_eq_true_eq, decide_eq_false_iff_not, beq_iff_eq, beq_eq_false_iff_ne, bne_iff_ne, bne_eq_false_iff_eq, ne_eq, not_false_eq_true, not_true_eq_false, Bool.not_eq_true, Bool.not_eq_true', Bool.not_eq_false', Int.not_lt, Int.not_le] at hb) <;> (try simp (disch := omega) only [wrapI] at hb) <;> (try (exfalso; omega))) | fail)))
  | false =>
    have hs := Pc.Sm.of_big (longB_no hb).1
    have hcp := copy_spec p hs
    rw [hb] at hb0
    have h2 := refCheck_spec p hp (by have := hs.ev; omega)
    by_cases hc : ¬ chk p = 0
    · have h1 := True.intro
      generalize chk p = e at h2 hc
      refine fn_of ok mixed (A := A12) 1 Try.func12 rfl ?_
      (repeat' (first | exact rfl | ((conv => whnf); first | refine ⟨_, works_spec, ?_⟩ | refine ⟨_, hb0, ?_⟩ | refine ⟨_, hcp, ?_⟩ | refine ⟨_, h1, ?_⟩ | refine ⟨_, h2, ?_⟩ | refine ⟨_, h3, ?_⟩ | refine ⟨_, h4, ?_⟩ | refine optS hmL ?_ | exact rfl | exact ⟨rfl, rfl⟩ | refine ⟨(by kernel_rfl : drawOk _ _ _ _ = true), ?_⟩ | refine ⟨(by kernel_rfl : planOk _ _ _ _ = true), ?_⟩ | refine ⟨rfl, ?_⟩ | refine ⟨by (first | omega | (simp (disch := omega) only [wrapI]; omega) | (simp (disch := omega) only [wrapI]; simp; omega) | (simp; omega)), ?_⟩ | (intro ep) | (refine ifB (fun hb => ?_) (fun hb => ?_) <;> (try simp only [decide_eq_true_eq, decide_eq_false_iff_not, beq_iff_eq, beq_eq_false_iff_ne, bne_iff_ne, bne_eq_false_iff_eq, ne_eq, not_false_eq_true, not_true_eq_false, Bool.not_eq_true, Bool.not_eq_true', Bool.not_eq_false', Int.not_lt, Int.not_le] at hb) <;> (try simp (disch := omega) only [wrapI] at hb) <;> (try (exfalso; omega))) | fail)))
    have hc := Decidable.not_not.1 hc
    rw [hc] at h2
    have v := vp hc
    have h1 := son41 p hp
    have h3 := onsets_spec p hp
    have h4 := at24 p hp t
    unfold sonV at h1
    unfold onsV at h3
    unfold atV at h4
    rw [if_pos hc] at h1 h3
    rw [if_neg (by omega)] at h4
    have hol := ons_len p
    have hlen := v.len
    have hsat := son_at hc t
    have hbd := fun i (h : i ≤ (sonL p).length) => eAt_bd hc h
    have he0 := eAt_zero hc
    have heL := eAt_last p
    have hsl := fun x (hx : x ∈ sonL p) => son_bd hx
    have hll := son_len v
    have hEE : endT p = on p p.evs.length := rfl
    have hmL : (ints (onsets p))[0 + (((onsets p).length : Int) - 1).toNat]? = some [.int .i64 (on p p.evs.length)] := by
      have := intsR (l := onsets p) (i := p.evs.length) (by omega)
      rw [on_get (Nat.le_refl _)] at this
      rw [hol, show (((p.evs.length + 1 : Nat) : Int) - 1).toNat = p.evs.length by omega]
      rwa [Int.toNat_natCast] at this
    have hw : IntKind.i64.wrap (((onsets p).length : Int) - 1) = ((onsets p).length : Int) - 1 := wrapI (by omega) (by omega)
    rw [← hw] at hmL
    obtain ⟨Q, hQ⟩ : ∃ Q, Q = sndF (stringsL p) t 128 0 := ⟨_, rfl⟩
    rw [← hQ] at h4
    simp only [← hQ] at hsat
    generalize eAt p = e at hsat hbd he0 heL
    generalize sonL p = L at h1 hsat hbd heL hsl hll
    rw [hEE] at hbd heL
    generalize on p p.evs.length = E at h4 hbd heL hmL
    by_cases ht : t < 0 ∨ E ≤ t
    · rw [if_pos ht] at h4
      refine fn_of ok mixed (A := A12) 1 Try.func12 rfl ?_
      (repeat' (first | exact rfl | ((conv => whnf); first | refine ⟨_, works_spec, ?_⟩ | refine ⟨_, hb0, ?_⟩ | refine ⟨_, hcp, ?_⟩ | refine ⟨_, h1, ?_⟩ | refine ⟨_, h2, ?_⟩ | refine ⟨_, h3, ?_⟩ | refine ⟨_, h4, ?_⟩ | refine optS hmL ?_ | exact rfl | exact ⟨rfl, rfl⟩ | refine ⟨(by kernel_rfl : drawOk _ _ _ _ = true), ?_⟩ | refine ⟨(by kernel_rfl : planOk _ _ _ _ = true), ?_⟩ | refine ⟨rfl, ?_⟩ | refine ⟨by (first | omega | (simp (disch := omega) only [wrapI]; omega) | (simp (disch := omega) only [wrapI]; simp; omega) | (simp; omega)), ?_⟩ | (intro ep) | (refine ifB (fun hb => ?_) (fun hb => ?_) <;> (try simp only [decide_eq_true_eq, decide_eq_false_iff_not, beq_iff_eq, beq_eq_false_iff_ne, bne_iff_ne, bne_eq_false_iff_eq, ne_eq, not_false_eq_true, not_true_eq_false, Bool.not_eq_true, Bool.not_eq_true', Bool.not_eq_false', Int.not_lt, Int.not_le] at hb) <;> (try simp (disch := omega) only [wrapI] at hb) <;> (try (exfalso; omega))) | fail)))
      all_goals (conv => whnf)
      refine loopY ok mixed (A := A12) [1, 5, 7, 9, 10, 11, 12, 13] [] (S := { z : Nat × Int × Bool // z.1 ≤ L.length ∧ z.2.1 = e z.1 ∧ z.2.2 = fndB t (e z.1) })
        (fr := fun s => frOf 0 135 [(1, .int .i64 t), (5, snsA L), (7, intsA (onsets p)), (9, .int .i64 s.1.2.1), (10, .nils), (11, .int .i64 1), (12, .bool s.1.2.2), (13, .int .i64 (s.1.1 : Int))])
        (h := fun s => ⟨[.hole], []⟩) (μ := fun s => L.length - s.1.1) ⟨(0, 0, false), Nat.zero_le _, he0.symm, by dsimp only; rw [he0]; exact (fndB_false (by omega)).symm⟩ ?_ ?_
        [1, 7, 9, 11, 12] [] (S' := Unit) (X := fun _ => 0)
        (frX := fun s => frOf 0 135 [(1, .int .i64 t), (7, intsA (onsets p)), (9, .int .i64 E), (11, .int .i64 1), (12, .bool false)])
        (hX := fun s => ⟨[.hole], []⟩)
        [] [] (S2 := Empty) (frR := fun s => frOf 0 135 []) (hR := fun s => ⟨[], []⟩) ?_ ?_ ?_
      · exact rfl
      · exact rfl
      · rintro ⟨⟨i, u, b⟩, hi, hu, hbb⟩
        dsimp only at hi hu hbb
        show aexR _ _ _ (frOf 0 135 [(1, .int .i64 t), (5, snsA L), (7, intsA (onsets p)), (9, .int .i64 u), (10, .nils), (11, .int .i64 1), (12, .bool b), (13, .int .i64 (i : Int))]) ⟨[.hole], []⟩ _
        by_cases g1 : i < L.length
        · have hm := mapR (f := snR) g1
          obtain ⟨s1, s2, s3, s4⟩ := hsat i g1
          have b1 := hbd i hi
          have b2 := hbd (i + 1) g1
          have hx := hsl L[i] (List.getElem_mem g1)
          have hnx : fndB t (e (i + 1)) = (decide (e i ≤ t ∧ t < e (i + 1)) || b) := by
            rw [hbb]
            by_cases c1 : e i ≤ t ∧ t < e (i + 1)
            · rw [decide_eq_true c1, Bool.true_or]
              exact fndB_true (by omega)
            · rw [decide_eq_false c1, Bool.false_or]
              by_cases c2 : 0 ≤ t ∧ t < e i
              · rw [fndB_true c2, fndB_true (by omega)]
              · rw [fndB_false c2, fndB_false (by omega)]
          generalize L[i] = x at hm s1 s2 s4 hx
          obtain ⟨xf, xt, xl⟩ := x
          dsimp only at s1 s2 s4 hx
          have hi1 : IntKind.i64.wrap ((i : Int) + 1) = ((i + 1 : Nat) : Int) := by rw [wrapI (by omega) (by omega)]; omega
          have hu2 := hu
          obtain ⟨ei, hei⟩ : ∃ ei, ei = e i := ⟨_, rfl⟩
          rw [← hei] at hu2 s1 s3 s4 b1 hnx
          obtain ⟨u', hu'⟩ : ∃ u', u' = e (i + 1) := ⟨_, rfl⟩
          rw [← hu'] at s2 s3 s4 b2 hnx
          subst s1
          subst s2
          subst hu2
          by_cases c1 : u ≤ t
          · by_cases c2 : t < xt
            · exfalso; omega
            · rw [decide_eq_false (fun x => c2 x.2), Bool.false_or] at hnx
              (repeat' (first | exact rfl | ((conv => whnf); first | refine optS hm ?_ | exact rfl | exact ⟨rfl, rfl⟩ | refine ⟨(by kernel_rfl : drawOk _ _ _ _ = true), ?_⟩ | refine ⟨(by kernel_rfl : planOk _ _ _ _ = true), ?_⟩ | refine ⟨rfl, ?_⟩ | refine ⟨by (first | omega | (simp (disch := omega) only [wrapI]; omega) | (simp (disch := omega) only [wrapI]; simp; omega) | (simp; omega)), ?_⟩ | (intro ep) | (refine ifB (fun hb => ?_) (fun hb => ?_) <;> (try simp only [decide_eq_true_eq, decide_eq_false_iff_not, beq_iff_eq, beq_eq_false_iff_ne, bne_iff_ne, bne_eq_false_iff_eq, ne_eq, not_false_eq_true, not_true_eq_false, Bool.not_eq_true, Bool.not_eq_true', Bool.not_eq_false', Int.not_lt, Int.not_le] at hb) <;> (try simp (disch := omega) only [wrapI] at hb) <;> (try (exfalso; omega))) | fail)))
              all_goals (conv => whnf)
              all_goals exact back_of ⟨(i + 1, xt, b), by dsimp only; omega, hu', by dsimp only; rw [← hu']; exact hnx.symm⟩ ⟨by (first | exact rfl | (simp (disch := omega) only [wrapI]; exact rfl)), rfl, by dsimp only; omega⟩
          · rw [decide_eq_false (fun x => c1 x.1), Bool.false_or] at hnx
            (repeat' (first | exact rfl | ((conv => whnf); first | refine optS hm ?_ | exact rfl | exact ⟨rfl, rfl⟩ | refine ⟨(by kernel_rfl : drawOk _ _ _ _ = true), ?_⟩ | refine ⟨(by kernel_rfl : planOk _ _ _ _ = true), ?_⟩ | refine ⟨rfl, ?_⟩ | refine ⟨by (first | omega | (simp (disch := omega) only [wrapI]; omega) | (simp (disch := omega) only [wrapI]; simp; omega) | (simp; omega)), ?_⟩ | (intro ep) | (refine ifB (fun hb => ?_) (fun hb => ?_) <;> (try simp only [decide_eq_true_eq, decide_eq_false_iff_not, beq_iff_eq, beq_eq_false_iff_ne, bne_iff_ne, bne_eq_false_iff_eq, ne_eq, not_false_eq_true, not_true_eq_false, Bool.not_eq_true, Bool.not_eq_true', Bool.not_eq_false', Int.not_lt, Int.not_le] at hb) <;> (try simp (disch := omega) only [wrapI] at hb) <;> (try (exfalso; omega))) | fail)))
            all_goals (conv => whnf)
            all_goals exact back_of ⟨(i + 1, xt, b), by dsimp only; omega, hu', by dsimp only; rw [← hu']; exact hnx.symm⟩ ⟨by (first | exact rfl | (simp (disch := omega) only [wrapI]; exact rfl)), rfl, by dsimp only; omega⟩
        · have hi2 : i = L.length := by omega
          subst hi2
          rw [heL] at hu hbb
          have hB : b = false := by rw [hbb]; exact fndB_false (by omega)
          subst hB
          subst hu
          (repeat' (first | exact rfl | ((conv => whnf); first | exact rfl | exact ⟨rfl, rfl⟩ | refine ⟨(by kernel_rfl : drawOk _ _ _ _ = true), ?_⟩ | refine ⟨(by kernel_rfl : planOk _ _ _ _ = true), ?_⟩ | refine ⟨rfl, ?_⟩ | refine ⟨by (first | omega | (simp (disch := omega) only [wrapI]; omega) | (simp (disch := omega) only [wrapI]; simp; omega) | (simp; omega)), ?_⟩ | (intro ep) | (refine ifB (fun hb => ?_) (fun hb => ?_) <;> (try simp only [decide_eq_true_eq, decide_eq_false_iff_not, beq_iff_eq, beq_eq_false_iff_ne, bne_iff_ne, bne_eq_false_iff_eq, ne_eq, not_false_eq_true, not_true_eq_false, Bool.not_eq_true, Bool.not_eq_true', Bool.not_eq_false', Int.not_lt, Int.not_le] at hb) <;> (try simp (disch := omega) only [wrapI] at hb) <;> (try (exfalso; omega))) | fail)))
          all_goals (conv => whnf)
          all_goals exact back_of () ⟨rfl, rfl, rfl⟩
      · rintro ⟨⟩
      · rintro ⟨⟩
        (repeat' (first | exact rfl | ((conv => whnf); first | refine ⟨_, works_spec, ?_⟩ | refine ⟨_, hb0, ?_⟩ | refine ⟨_, hcp, ?_⟩ | refine ⟨_, h1, ?_⟩ | refine ⟨_, h2, ?_⟩ | refine ⟨_, h3, ?_⟩ | refine ⟨_, h4, ?_⟩ | refine optS hmL ?_ | exact rfl | exact ⟨rfl, rfl⟩ | refine ⟨(by kernel_rfl : drawOk _ _ _ _ = true), ?_⟩ | refine ⟨(by kernel_rfl : planOk _ _ _ _ = true), ?_⟩ | refine ⟨rfl, ?_⟩ | refine ⟨by (first | omega | (simp (disch := omega) only [wrapI]; omega) | (simp (disch := omega) only [wrapI]; simp; omega) | (simp; omega)), ?_⟩ | (intro ep) | (refine ifB (fun hb => ?_) (fun hb => ?_) <;> (try simp only [decide_eq_true_eq, decide_eq_false_iff_not, beq_iff_eq, beq_eq_false_iff_ne, bne_iff_ne, bne_eq_false_iff_eq, ne_eq, not_false_eq_true, not_true_eq_false, Bool.not_eq_true, Bool.not_eq_true', Bool.not_eq_false', Int.not_lt, Int.not_le] at hb) <;> (try simp (disch := omega) only [wrapI] at hb) <;> (try (exfalso; omega))) | fail)))
        all_goals (try (exfalso; simp at hb; omega))
    · rw [if_neg ht] at h4
      refine fn_of ok mixed (A := A12) 1 Try.func12 rfl ?_
      (repeat' (first | exact rfl | ((conv => whnf); first | refine ⟨_, works_spec, ?_⟩ | refine ⟨_, hb0, ?_⟩ | refine ⟨_, hcp, ?_⟩ | refine ⟨_, h1, ?_⟩ | refine ⟨_, h2, ?_⟩ | refine ⟨_, h3, ?_⟩ | refine ⟨_, h4, ?_⟩ | refine optS hmL ?_ | exact rfl | exact ⟨rfl, rfl⟩ | refine ⟨(by kernel_rfl : drawOk _ _ _ _ = true), ?_⟩ | refine ⟨(by kernel_rfl : planOk _ _ _ _ = true), ?_⟩ | refine ⟨rfl, ?_⟩ | refine ⟨by (first | omega | (simp (disch := omega) only [wrapI]; omega) | (simp (disch := omega) only [wrapI]; simp; omega) | (simp; omega)), ?_⟩ | (intro ep) | (refine ifB (fun hb => ?_) (fun hb => ?_) <;> (try simp only [decide_eq_true_eq, decide_eq_false_iff_not, beq_iff_eq, beq_eq_false_iff_ne, bne_iff_ne, bne_eq_false_iff_eq, ne_eq, not_false_eq_true, not_true_eq_false, Bool.not_eq_true, Bool.not_eq_true', Bool.not_eq_false', Int.not_lt, Int.not_le] at hb) <;> (try simp (disch := omega) only [wrapI] at hb) <;> (try (exfalso; omega))) | fail)))
      all_goals (conv => whnf)
      refine loopY ok mixed (A := A12) [1, 5, 7, 9, 10, 11, 12, 13] [] (S := { z : Nat × Int × Bool // z.1 ≤ L.length ∧ z.2.1 = e z.1 ∧ z.2.2 = fndB t (e z.1) })
        (fr := fun s => frOf 0 135 [(1, .int .i64 t), (5, snsA L), (7, intsA (onsets p)), (9, .int .i64 s.1.2.1), (10, intsA Q), (11, .int .i64 0), (12, .bool s.1.2.2), (13, .int .i64 (s.1.1 : Int))])
        (h := fun s => ⟨[.hole], []⟩) (μ := fun s => L.length - s.1.1) ⟨(0, 0, false), Nat.zero_le _, he0.symm, by dsimp only; rw [he0]; exact (fndB_false (by omega)).symm⟩ ?_ ?_
        [1, 7, 9, 11, 12] [] (S' := Unit) (X := fun _ => 0)
        (frX := fun s => frOf 0 135 [(1, .int .i64 t), (7, intsA (onsets p)), (9, .int .i64 E), (11, .int .i64 0), (12, .bool true)])
        (hX := fun s => ⟨[.hole], []⟩)
        [] [] (S2 := Empty) (frR := fun s => frOf 0 135 []) (hR := fun s => ⟨[], []⟩) ?_ ?_ ?_
      · exact rfl
      · exact rfl
      · rintro ⟨⟨i, u, b⟩, hi, hu, hbb⟩
        dsimp only at hi hu hbb
        show aexR _ _ _ (frOf 0 135 [(1, .int .i64 t), (5, snsA L), (7, intsA (onsets p)), (9, .int .i64 u), (10, intsA Q), (11, .int .i64 0), (12, .bool b), (13, .int .i64 (i : Int))]) ⟨[.hole], []⟩ _
        by_cases g1 : i < L.length
        · have hm := mapR (f := snR) g1
          obtain ⟨s1, s2, s3, s4⟩ := hsat i g1
          have b1 := hbd i hi
          have b2 := hbd (i + 1) g1
          have hx := hsl L[i] (List.getElem_mem g1)
          have hnx : fndB t (e (i + 1)) = (decide (e i ≤ t ∧ t < e (i + 1)) || b) := by
            rw [hbb]
            by_cases c1 : e i ≤ t ∧ t < e (i + 1)
            · rw [decide_eq_true c1, Bool.true_or]
              exact fndB_true (by omega)
            · rw [decide_eq_false c1, Bool.false_or]
              by_cases c2 : 0 ≤ t ∧ t < e i
              · rw [fndB_true c2, fndB_true (by omega)]
              · rw [fndB_false c2, fndB_false (by omega)]
          generalize L[i] = x at hm s1 s2 s4 hx
          obtain ⟨xf, xt, xl⟩ := x
          dsimp only at s1 s2 s4 hx
          have hi1 : IntKind.i64.wrap ((i : Int) + 1) = ((i + 1 : Nat) : Int) := by rw [wrapI (by omega) (by omega)]; omega
          have hu2 := hu
          obtain ⟨ei, hei⟩ : ∃ ei, ei = e i := ⟨_, rfl⟩
          rw [← hei] at hu2 s1 s3 s4 b1 hnx
          obtain ⟨u', hu'⟩ : ∃ u', u' = e (i + 1) := ⟨_, rfl⟩
          rw [← hu'] at s2 s3 s4 b2 hnx
          subst s1
          subst s2
          subst hu2
          by_cases c1 : u ≤ t
          · by_cases c2 : t < xt
            · have hq := s4 c1 c2
              subst hq
              have h9 := sameInts_self xl (by omega)
              rw [decide_eq_true ⟨c1, c2⟩, Bool.true_or] at hnx
              (repeat' (first | exact rfl | ((conv => whnf); first | refine optS hm ?_ | refine ⟨_, h9, ?_⟩ | exact rfl | exact ⟨rfl, rfl⟩ | refine ⟨(by kernel_rfl : drawOk _ _ _ _ = true), ?_⟩ | refine ⟨(by kernel_rfl : planOk _ _ _ _ = true), ?_⟩ | refine ⟨rfl, ?_⟩ | refine ⟨by (first | omega | (simp (disch := omega) only [wrapI]; omega) | (simp (disch := omega) only [wrapI]; simp; omega) | (simp; omega)), ?_⟩ | (intro ep) | (refine ifB (fun hb => ?_) (fun hb => ?_) <;> (try simp only [decide_eq_true_eq, decide_eq_false_iff_not, beq_iff_eq, beq_eq_false_iff_ne, bne_iff_ne, bne_eq_false_iff_eq, ne_eq, not_false_eq_true, not_true_eq_false, Bool.not_eq_true, Bool.not_eq_true', Bool.not_eq_false', Int.not_lt, Int.not_le] at hb) <;> (try simp (disch := omega) only [wrapI] at hb) <;> (try (exfalso; omega))) | fail)))
              all_goals (conv => whnf)
              all_goals exact back_of ⟨(i + 1, xt, true), by dsimp only; omega, hu', by dsimp only; rw [← hu']; exact hnx.symm⟩ ⟨by (first | exact rfl | (simp (disch := omega) only [wrapI]; exact rfl)), rfl, by dsimp only; omega⟩
            · rw [decide_eq_false (fun x => c2 x.2), Bool.false_or] at hnx
              (repeat' (first | exact rfl | ((conv => whnf); first | refine optS hm ?_ | exact rfl | exact ⟨rfl, rfl⟩ | refine ⟨(by kernel_rfl : drawOk _ _ _ _ = true), ?_⟩ | refine ⟨(by kernel_rfl : planOk _ _ _ _ = true), ?_⟩ | refine ⟨rfl, ?_⟩ | refine ⟨by (first | omega | (simp (disch := omega) only [wrapI]; omega) | (simp (disch := omega) only [wrapI]; simp; omega) | (simp; omega)), ?_⟩ | (intro ep) | (refine ifB (fun hb => ?_) (fun hb => ?_) <;> (try simp only [decide_eq_true_eq, decide_eq_false_iff_not, beq_iff_eq, beq_eq_false_iff_ne, bne_iff_ne, bne_eq_false_iff_eq, ne_eq, not_false_eq_true, not_true_eq_false, Bool.not_eq_true, Bool.not_eq_true', Bool.not_eq_false', Int.not_lt, Int.not_le] at hb) <;> (try simp (disch := omega) only [wrapI] at hb) <;> (try (exfalso; omega))) | fail)))
              all_goals (conv => whnf)
              all_goals exact back_of ⟨(i + 1, xt, b), by dsimp only; omega, hu', by dsimp only; rw [← hu']; exact hnx.symm⟩ ⟨by (first | exact rfl | (simp (disch := omega) only [wrapI]; exact rfl)), rfl, by dsimp only; omega⟩
          · rw [decide_eq_false (fun x => c1 x.1), Bool.false_or] at hnx
            (repeat' (first | exact rfl | ((conv => whnf); first | refine optS hm ?_ | exact rfl | exact ⟨rfl, rfl⟩ | refine ⟨(by kernel_rfl : drawOk _ _ _ _ = true), ?_⟩ | refine ⟨(by kernel_rfl : planOk _ _ _ _ = true), ?_⟩ | refine ⟨rfl, ?_⟩ | refine ⟨by (first | omega | (simp (disch := omega) only [wrapI]; omega) | (simp (disch := omega) only [wrapI]; simp; omega) | (simp; omega)), ?_⟩ | (intro ep) | (refine ifB (fun hb => ?_) (fun hb => ?_) <;> (try simp only [decide_eq_true_eq, decide_eq_false_iff_not, beq_iff_eq, beq_eq_false_iff_ne, bne_iff_ne, bne_eq_false_iff_eq, ne_eq, not_false_eq_true, not_true_eq_false, Bool.not_eq_true, Bool.not_eq_true', Bool.not_eq_false', Int.not_lt, Int.not_le] at hb) <;> (try simp (disch := omega) only [wrapI] at hb) <;> (try (exfalso; omega))) | fail)))
            all_goals (conv => whnf)
            all_goals exact back_of ⟨(i + 1, xt, b), by dsimp only; omega, hu', by dsimp only; rw [← hu']; exact hnx.symm⟩ ⟨by (first | exact rfl | (simp (disch := omega) only [wrapI]; exact rfl)), rfl, by dsimp only; omega⟩
        · have hi2 : i = L.length := by omega
          subst hi2
          rw [heL] at hu hbb
          have hB : b = true := by rw [hbb]; exact fndB_true (by omega)
          subst hB
          subst hu
          (repeat' (first | exact rfl | ((conv => whnf); first | exact rfl | exact ⟨rfl, rfl⟩ | refine ⟨(by kernel_rfl : drawOk _ _ _ _ = true), ?_⟩ | refine ⟨(by kernel_rfl : planOk _ _ _ _ = true), ?_⟩ | refine ⟨rfl, ?_⟩ | refine ⟨by (first | omega | (simp (disch := omega) only [wrapI]; omega) | (simp (disch := omega) only [wrapI]; simp; omega) | (simp; omega)), ?_⟩ | (intro ep) | (refine ifB (fun hb => ?_) (fun hb => ?_) <;> (try simp only [decide_eq_true_eq, decide_eq_false_iff_not, beq_iff_eq, beq_eq_false_iff_ne, bne_iff_ne, bne_eq_false_iff_eq, ne_eq, not_false_eq_true, not_true_eq_false, Bool.not_eq_true, Bool.not_eq_true', Bool.not_eq_false', Int.not_lt, Int.not_le] at hb) <;> (try simp (disch := omega) only [wrapI] at hb) <;> (try (exfalso; omega))) | fail)))
          all_goals (conv => whnf)
          all_goals exact back_of () ⟨rfl, rfl, rfl⟩
      · rintro ⟨⟩
      · rintro ⟨⟩
        (repeat' (first | exact rfl | ((conv => whnf); first | refine ⟨_, works_spec, ?_⟩ | refine ⟨_, hb0, ?_⟩ | refine ⟨_, hcp, ?_⟩ | refine ⟨_, h1, ?_⟩ | refine ⟨_, h2, ?_⟩ | refine ⟨_, h3, ?_⟩ | refine ⟨_, h4, ?_⟩ | refine optS hmL ?_ | exact rfl | exact ⟨rfl, rfl⟩ | refine ⟨(by kernel_rfl : drawOk _ _ _ _ = true), ?_⟩ | refine ⟨(by kernel_rfl : planOk _ _ _ _ = true), ?_⟩ | refine ⟨rfl, ?_⟩ | refine ⟨by (first | omega | (simp (disch := omega) only [wrapI]; omega) | (simp (disch := omega) only [wrapI]; simp; omega) | (simp; omega)), ?_⟩ | (intro ep) | (refine ifB (fun hb => ?_) (fun hb => ?_) <;> (try simp only [decide_eq_true_eq, decide_eq_false_iff_not, beq_iff_eq, beq_eq_false_iff_ne, bne_iff_ne, bne_eq_false_iff_eq, ne_eq, not_false_eq_true, not_true_eq_false, Bool.not_eq_true, Bool.not_eq_true', Bool.not_eq_false', Int.not_lt, Int.not_le] at hb) <;> (try simp (disch := omega) only [wrapI] at hb) <;> (try (exfalso; omega))) | fail)))
        all_goals (try (exfalso; simp at hb; omega))
end Go.Ab.V
