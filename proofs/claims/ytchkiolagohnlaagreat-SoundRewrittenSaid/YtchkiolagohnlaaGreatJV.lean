/-
  What is proved here serves the law's text: each part says its own claim and its conditions. No condition is left open.
-/
import Derived.Test.YtchkiolagohnlaaGreatJU
import Derived.Test.YtchkiolagohnlaaGreatJQ
import Derived.Test.YtchkiolagohnlaaGreatJO
import Derived.Test.YtchkiolagohnlaaGreatJH
import Derived.Test.YtchkiolagohnlaaGreatJG
import Derived.Test.YtchkiolagohnlaaGreatKX
set_option linter.unusedSimpArgs false
set_option linter.unusedVariables false

/-
  The law of rewritten pieces. No condition but the machine's sizes.
-/
namespace Go.Ab.V
open Go.Proofs

theorem brkP_ne {p : Pc} {b e : Int} (h : brkP p b = .error e) : e ≠ 0 := by
  unfold brkP at h
  split at h
  · rename_i hc; cases h; exact hc
  · split at h
    · cases h; decide
    · unfold brkQ at h
      split at h
      · cases h; decide
      · split at h
        · cases h; decide
        · unfold brkT at h
          split at h
          · cases h; decide
          · cases h
def A12 : Ann := fun r => match r with
  | 0 => { slots := [(0, 0)] }
  | _ => {}
set_option maxRecDepth 100000 in
theorem sounds12 {p q : Pc} (hq : q.Ok) (hcq : chk q = 0) (hc : chk p = 0) (ht : tonesL q = tonesL p) : PRet C.P 12 [pcA q, tnsA (sortT (tonesL p))] (.bool true) := by
  have h1 := tones47 q hq
  unfold tonesV at h1
  rw [if_pos hcq, ht] at h1
  have h2 := sameTones_self (sortT (tonesL p)) (by
    have := notes_len (vp hc)
    rw [sortT_len]; unfold tonesL; rw [List.length_map]; omega)
  generalize sortT (tonesL p) = L at h1 h2
  refine pret_of ok mixed (A := A12) 1 Tryz.func12 rfl ?_
  (repeat' (first | exact rfl | ((conv => whnf); first | refine ⟨_, h1, ?_⟩ | refine ⟨_, h2, ?_⟩ | exact rfl | exact ⟨rfl, rfl⟩ | refine ⟨(by kernel_rfl : drawOk _ _ _ _ = true), ?_⟩ | refine ⟨(by kernel_rfl : planOk _ _ _ _ = true), ?_⟩ | refine ⟨rfl, ?_⟩ | refine ⟨by (first | omega | (simp (disch := omega) only [wrapI]; omega) | (simp (disch := omega) only [wrapI]; simp; omega) | (simp; omega)), ?_⟩ | (intro ep) | (refine ifB (fun hb => ?_) (fun hb => ?_) <;> (try simp only [decide_eq_true_eq, decide_eq_false_iff_not, beq_iff_eq, beq_eq_false_iff_ne, bne_iff_ne, bne_eq_false_iff_eq, ne_eq, not_false_eq_true, not_true_eq_false, Bool.not_eq_true, Bool.not_eq_true', Bool.not_eq_false', Int.not_lt, Int.not_le] at hb) <;> (try simp (disch := omega) only [wrapI] at hb) <;> (try (exfalso; omega))) | fail)))
def A3 : Ann := fun r => match r with
  | 0 => { slots := [(0, 0)] }
  | 4 => { slots := [(6, 1)] }
  | 5 => { slots := [(6, 2)] }
  | 6 => { slots := [(6, 3)] }
  | 9 => { slots := [(7, 4)] }
  | _ => {}
set_option maxHeartbeats 8000000 in
set_option maxRecDepth 100000 in
theorem law_rewritten (p : Pc) (hp : p.Ok) (bar : Int) : ACalls C.P 3 [pcA p, .int .i64 bar] Heap.nil fun r _ => r = .bool true := by
  have hb0 := long_spec p hp
  have h1 := True.intro
  have h3 := True.intro
  have h4 := True.intro
  have h5 := True.intro
  have h6 := True.intro
  have s3 := True.intro
  have s4 := True.intro
  have s5 := True.intro
  have s6 := True.intro
  cases hb : longB p with
  | true =>
    rw [hb] at hb0
    have hcp := True.intro
    have h2 := True.intro
    refine fn_of ok mixed (A := A3) 5 Tryz.func3 rfl ?_
    (repeat' (first | exact rfl | ((conv => whnf); first | refine ⟨_, works_spec, ?_⟩ | refine ⟨_, hb0, ?_⟩ | refine ⟨_, hcp, ?_⟩ | refine ⟨_, h2, ?_⟩ | refine ⟨_, h1, ?_⟩ | refine ⟨_, h3, ?_⟩ | refine ⟨_, h4, ?_⟩ | refine ⟨_, h5, ?_⟩ | refine ⟨_, h6, ?_⟩ | refine ⟨_, s3, ?_⟩ | refine ⟨_, s4, ?_⟩ | refine ⟨_, s5, ?_⟩ | refine ⟨_, s6, ?_⟩ | exact rfl | exact ⟨rfl, rfl⟩ | refine ⟨(by kernel_rfl : drawOk _ _ _ _ = true), ?_⟩ | refine ⟨(by kernel_rfl : planOk _ _ _ _ = true), ?_⟩ | refine ⟨rfl, ?_⟩ | refine ⟨by (first | omega | (simp (disch := omega) only [wrapI]; omega) | (simp (disch := omega) only [wrapI]; simp; omega) | (simp; omega)), ?_⟩ | (intro ep) | (refine ifB (fun hb => ?_) (fun hb => ?_) <;> (try simp only [decide_eq_true_eq, decide_eq_false_iff_not, beq_iff_eq, beq_eq_false_iff_ne, bne_iff_ne, bne_eq_false_iff_eq, ne_eq, not_false_eq_true, not_true_eq_false, Bool.not_eq_true, Bool.not_eq_true', Bool.not_eq_false', Int.not_lt, Int.not_le] at hb) <;> (try simp (disch := omega) only [wrapI] at hb) <;> (try (exfalso; omega))) | fail)))
  | false =>
    have hs := Pc.Sm.of_big (longB_no hb).1
    have hcp := copy_spec p hs
    rw [hb] at hb0
    have h2 := refCheck_spec p hp (by have := hs.ev; omega)
    by_cases hc : ¬ chk p = 0
    · generalize chk p = e at h2 hc
      refine fn_of ok mixed (A := A3) 5 Tryz.func3 rfl ?_
      (repeat' (first | exact rfl | ((conv => whnf); first | refine ⟨_, works_spec, ?_⟩ | refine ⟨_, hb0, ?_⟩ | refine ⟨_, hcp, ?_⟩ | refine ⟨_, h2, ?_⟩ | refine ⟨_, h1, ?_⟩ | refine ⟨_, h3, ?_⟩ | refine ⟨_, h4, ?_⟩ | refine ⟨_, h5, ?_⟩ | refine ⟨_, h6, ?_⟩ | refine ⟨_, s3, ?_⟩ | refine ⟨_, s4, ?_⟩ | refine ⟨_, s5, ?_⟩ | refine ⟨_, s6, ?_⟩ | exact rfl | exact ⟨rfl, rfl⟩ | refine ⟨(by kernel_rfl : drawOk _ _ _ _ = true), ?_⟩ | refine ⟨(by kernel_rfl : planOk _ _ _ _ = true), ?_⟩ | refine ⟨rfl, ?_⟩ | refine ⟨by (first | omega | (simp (disch := omega) only [wrapI]; omega) | (simp (disch := omega) only [wrapI]; simp; omega) | (simp; omega)), ?_⟩ | (intro ep) | (refine ifB (fun hb => ?_) (fun hb => ?_) <;> (try simp only [decide_eq_true_eq, decide_eq_false_iff_not, beq_iff_eq, beq_eq_false_iff_ne, bne_iff_ne, bne_eq_false_iff_eq, ne_eq, not_false_eq_true, not_true_eq_false, Bool.not_eq_true, Bool.not_eq_true', Bool.not_eq_false', Int.not_lt, Int.not_le] at hb) <;> (try simp (disch := omega) only [wrapI] at hb) <;> (try (exfalso; omega))) | fail)))
    have hc := Decidable.not_not.1 hc
    rw [hc] at h2
    have h1 := tones47 p hp
    unfold tonesV at h1
    rw [if_pos hc] at h1
    have h3 := plain_spec p hp hs
    have h4 := terse_spec p hp hs
    have h5 := join_spec p hp hs
    have h6 := break_spec p hp hs bar
    unfold plnP at h3
    unfold trsP at h4
    unfold joinP at h5
    rw [if_neg (by omega)] at h3 h4 h5
    have s3 := sounds12 (p := p) (q := ⟨p.ins, outE plnS sz p.evs⟩) (Sm_body (q := ⟨p.ins, outE plnS sz p.evs⟩) hs rfl (pln_body p.evs).symm).ok (pln_chk hc) hc (tones_pln hc)
    have s4 := sounds12 (p := p) (q := ⟨p.ins, outE trsS sz p.evs⟩) (Sm_body (q := ⟨p.ins, outE trsS sz p.evs⟩) hs rfl (trs_body p.evs).symm).ok (trs_chk hc) hc (tones_trs hc)
    have s5 := sounds12 (p := p) (q := ⟨p.ins, joinE (outE plnS sz p.evs)⟩) (join_sm hs).ok (joined_chk hc) hc (tones_join hc)
    cases hX : brkP p bar with
    | error e =>
      rw [hX] at h6
      have hne := brkP_ne hX
      generalize sortT (tonesL p) = L at h1 s3 s4 s5
      refine fn_of ok mixed (A := A3) 5 Tryz.func3 rfl ?_
      (repeat' (first | exact rfl | ((conv => whnf); first | refine ⟨_, works_spec, ?_⟩ | refine ⟨_, hb0, ?_⟩ | refine ⟨_, hcp, ?_⟩ | refine ⟨_, h2, ?_⟩ | refine ⟨_, h1, ?_⟩ | refine ⟨_, h3, ?_⟩ | refine ⟨_, h4, ?_⟩ | refine ⟨_, h5, ?_⟩ | refine ⟨_, h6, ?_⟩ | refine ⟨_, s3, ?_⟩ | refine ⟨_, s4, ?_⟩ | refine ⟨_, s5, ?_⟩ | refine ⟨_, s6, ?_⟩ | exact rfl | exact ⟨rfl, rfl⟩ | refine ⟨(by kernel_rfl : drawOk _ _ _ _ = true), ?_⟩ | refine ⟨(by kernel_rfl : planOk _ _ _ _ = true), ?_⟩ | refine ⟨rfl, ?_⟩ | refine ⟨by (first | omega | (simp (disch := omega) only [wrapI]; omega) | (simp (disch := omega) only [wrapI]; simp; omega) | (simp; omega)), ?_⟩ | (intro ep) | (refine ifB (fun hb => ?_) (fun hb => ?_) <;> (try simp only [decide_eq_true_eq, decide_eq_false_iff_not, beq_iff_eq, beq_eq_false_iff_ne, bne_iff_ne, bne_eq_false_iff_eq, ne_eq, not_false_eq_true, not_true_eq_false, Bool.not_eq_true, Bool.not_eq_true', Bool.not_eq_false', Int.not_lt, Int.not_le] at hb) <;> (try simp (disch := omega) only [wrapI] at hb) <;> (try (exfalso; omega))) | fail)))
    | ok q =>
      rw [hX] at h6
      have s6 := sounds12 (p := p) (q := q) (brk_sm hs hX).ok (brk_chk hX) hc (tones_brk hX)
      generalize sortT (tonesL p) = L at h1 s3 s4 s5 s6
      refine fn_of ok mixed (A := A3) 5 Tryz.func3 rfl ?_
      (repeat' (first | exact rfl | ((conv => whnf); first | refine ⟨_, works_spec, ?_⟩ | refine ⟨_, hb0, ?_⟩ | refine ⟨_, hcp, ?_⟩ | refine ⟨_, h2, ?_⟩ | refine ⟨_, h1, ?_⟩ | refine ⟨_, h3, ?_⟩ | refine ⟨_, h4, ?_⟩ | refine ⟨_, h5, ?_⟩ | refine ⟨_, h6, ?_⟩ | refine ⟨_, s3, ?_⟩ | refine ⟨_, s4, ?_⟩ | refine ⟨_, s5, ?_⟩ | refine ⟨_, s6, ?_⟩ | exact rfl | exact ⟨rfl, rfl⟩ | refine ⟨(by kernel_rfl : drawOk _ _ _ _ = true), ?_⟩ | refine ⟨(by kernel_rfl : planOk _ _ _ _ = true), ?_⟩ | refine ⟨rfl, ?_⟩ | refine ⟨by (first | omega | (simp (disch := omega) only [wrapI]; omega) | (simp (disch := omega) only [wrapI]; simp; omega) | (simp; omega)), ?_⟩ | (intro ep) | (refine ifB (fun hb => ?_) (fun hb => ?_) <;> (try simp only [decide_eq_true_eq, decide_eq_false_iff_not, beq_iff_eq, beq_eq_false_iff_ne, bne_iff_ne, bne_eq_false_iff_eq, ne_eq, not_false_eq_true, not_true_eq_false, Bool.not_eq_true, Bool.not_eq_true', Bool.not_eq_false', Int.not_lt, Int.not_le] at hb) <;> (try simp (disch := omega) only [wrapI] at hb) <;> (try (exfalso; omega))) | fail)))
end Go.Ab.V
