/-
  What is proved here serves the law's text: each part says its own claim and its conditions. No condition is left open.
-/
import Derived.Test.YtffdekbcpnklnaaKS
set_option linter.unusedSimpArgs false
set_option linter.unusedVariables false

/-
  Meetings: the document's function, checks first. No condition but the lengths.
-/
namespace Go.Ab.V
open Go.Proofs

def A41 : Ann := fun r => match r with
  | 1 => { slots := [(1, 0)] }
  | 4 => { slots := [(1, 1)] }
  | _ => {}
theorem refMeet41 (u l : List Tn) (nu : u.length ≤ 9223372036854775807) (nl : l.length ≤ 9223372036854775807) : PRet C.P 41 [tnsA u, tnsA l] (meetV u l) := by
  have h1 := refCheckParts_spec [u] (by simp) (by simpa using nu)
  have h2 := refCheckParts_spec [l] (by simp) (by simpa using nl)
  unfold meetV
  by_cases c1 : chkP [u] ≠ 0
  · rw [if_pos c1]
    generalize chkP [u] = e at h1 c1
    refine pret_of (okx [] [20]) mixed (A := A41) 2 Try.func41 rfl ?_
    (repeat' (first | exact rfl | ((conv => whnf); first | (refine ACalls.fz 0 ?_; (conv => whnf); refine ⟨pure_map (f := fun p : List Tn => [tnsA p]) [u] fun x => rfl, by (repeat' (first | exact trivial | exact eqsP_rows _ (fun x => rfl) | ((conv => whnf); first | exact trivial | refine ⟨rfl, ?_⟩ | refine ⟨?_, ?_⟩ | fail))), by (repeat' (first | exact trivial | exact eqsP_rows _ (fun x => rfl) | ((conv => whnf); first | exact trivial | refine ⟨rfl, ?_⟩ | refine ⟨?_, ?_⟩ | fail))), by (repeat' (first | exact trivial | exact eqsP_rows _ (fun x => rfl) | ((conv => whnf); first | exact trivial | refine ⟨rfl, ?_⟩ | refine ⟨?_, ?_⟩ | fail))), ?_⟩; refine PRet.calls h1 ?_) | exact rfl | exact ⟨rfl, rfl⟩ | refine ⟨(by kernel_rfl : drawOk _ _ _ _ = true), ?_⟩ | refine ⟨(by kernel_rfl : planOk _ _ _ _ = true), ?_⟩ | refine ⟨rfl, ?_⟩ | refine ⟨by (first | omega | (simp (disch := omega) only [wrapI]; omega) | (simp (disch := omega) only [wrapI]; simp; omega) | (simp; omega)), ?_⟩ | (intro ep) | (refine ifB (fun hb => ?_) (fun hb => ?_) <;> (try simp only [decide_eq_true_eq, decide_eq_false_iff_not, beq_iff_eq, beq_eq_false_iff_ne, bne_iff_ne, bne_eq_false_iff_eq, ne_eq, not_false_eq_true, not_true_eq_false, Bool.not_eq_true, Bool.not_eq_true', Bool.not_eq_false', Int.not_lt, Int.not_le] at hb) <;> (try simp (disch := omega) only [wrapI] at hb) <;> (try (exfalso; omega))) | fail)))
  rw [if_neg c1]
  have c1 : chkP [u] = 0 := by omega
  rw [c1] at h1
  by_cases c2 : chkP [l] ≠ 0
  · rw [if_pos c2]
    generalize chkP [l] = e at h2 c2
    refine pret_of (okx [] [20]) mixed (A := A41) 2 Try.func41 rfl ?_
    (repeat' (first | exact rfl | ((conv => whnf); first | (refine ACalls.fz 0 ?_; (conv => whnf); refine ⟨pure_map (f := fun p : List Tn => [tnsA p]) [u] fun x => rfl, by (repeat' (first | exact trivial | exact eqsP_rows _ (fun x => rfl) | ((conv => whnf); first | exact trivial | refine ⟨rfl, ?_⟩ | refine ⟨?_, ?_⟩ | fail))), by (repeat' (first | exact trivial | exact eqsP_rows _ (fun x => rfl) | ((conv => whnf); first | exact trivial | refine ⟨rfl, ?_⟩ | refine ⟨?_, ?_⟩ | fail))), by (repeat' (first | exact trivial | exact eqsP_rows _ (fun x => rfl) | ((conv => whnf); first | exact trivial | refine ⟨rfl, ?_⟩ | refine ⟨?_, ?_⟩ | fail))), ?_⟩; refine PRet.calls h1 ?_) | (refine ACalls.fz 1 ?_; (conv => whnf); refine ⟨pure_map (f := fun p : List Tn => [tnsA p]) [l] fun x => rfl, by (repeat' (first | exact trivial | exact eqsP_rows _ (fun x => rfl) | ((conv => whnf); first | exact trivial | refine ⟨rfl, ?_⟩ | refine ⟨?_, ?_⟩ | fail))), by (repeat' (first | exact trivial | exact eqsP_rows _ (fun x => rfl) | ((conv => whnf); first | exact trivial | refine ⟨rfl, ?_⟩ | refine ⟨?_, ?_⟩ | fail))), by (repeat' (first | exact trivial | exact eqsP_rows _ (fun x => rfl) | ((conv => whnf); first | exact trivial | refine ⟨rfl, ?_⟩ | refine ⟨?_, ?_⟩ | fail))), ?_⟩; refine PRet.calls h2 ?_) | exact rfl | exact ⟨rfl, rfl⟩ | refine ⟨(by kernel_rfl : drawOk _ _ _ _ = true), ?_⟩ | refine ⟨(by kernel_rfl : planOk _ _ _ _ = true), ?_⟩ | refine ⟨rfl, ?_⟩ | refine ⟨by (first | omega | (simp (disch := omega) only [wrapI]; omega) | (simp (disch := omega) only [wrapI]; simp; omega) | (simp; omega)), ?_⟩ | (intro ep) | (refine ifB (fun hb => ?_) (fun hb => ?_) <;> (try simp only [decide_eq_true_eq, decide_eq_false_iff_not, beq_iff_eq, beq_eq_false_iff_ne, bne_iff_ne, bne_eq_false_iff_eq, ne_eq, not_false_eq_true, not_true_eq_false, Bool.not_eq_true, Bool.not_eq_true', Bool.not_eq_false', Int.not_lt, Int.not_le] at hb) <;> (try simp (disch := omega) only [wrapI] at hb) <;> (try (exfalso; omega))) | fail)))
  rw [if_neg c2]
  have c2 : chkP [l] = 0 := by omega
  rw [c2] at h2
  have g1 := chk1 c1
  have g2 := chk1 c2
  have hm := ref72 u l g1.2 g2.2 g1.1 g2.1
  refine pret_of (okx [] [20]) mixed (A := A41) 2 Try.func41 rfl ?_
  (repeat' (first | exact rfl | ((conv => whnf); first | (refine ACalls.fz 0 ?_; (conv => whnf); refine ⟨pure_map (f := fun p : List Tn => [tnsA p]) [u] fun x => rfl, by (repeat' (first | exact trivial | exact eqsP_rows _ (fun x => rfl) | ((conv => whnf); first | exact trivial | refine ⟨rfl, ?_⟩ | refine ⟨?_, ?_⟩ | fail))), by (repeat' (first | exact trivial | exact eqsP_rows _ (fun x => rfl) | ((conv => whnf); first | exact trivial | refine ⟨rfl, ?_⟩ | refine ⟨?_, ?_⟩ | fail))), by (repeat' (first | exact trivial | exact eqsP_rows _ (fun x => rfl) | ((conv => whnf); first | exact trivial | refine ⟨rfl, ?_⟩ | refine ⟨?_, ?_⟩ | fail))), ?_⟩; refine PRet.calls h1 ?_) | (refine ACalls.fz 1 ?_; (conv => whnf); refine ⟨pure_map (f := fun p : List Tn => [tnsA p]) [l] fun x => rfl, by (repeat' (first | exact trivial | exact eqsP_rows _ (fun x => rfl) | ((conv => whnf); first | exact trivial | refine ⟨rfl, ?_⟩ | refine ⟨?_, ?_⟩ | fail))), by (repeat' (first | exact trivial | exact eqsP_rows _ (fun x => rfl) | ((conv => whnf); first | exact trivial | refine ⟨rfl, ?_⟩ | refine ⟨?_, ?_⟩ | fail))), by (repeat' (first | exact trivial | exact eqsP_rows _ (fun x => rfl) | ((conv => whnf); first | exact trivial | refine ⟨rfl, ?_⟩ | refine ⟨?_, ?_⟩ | fail))), ?_⟩; refine PRet.calls h2 ?_) | refine ⟨_, hm, ?_⟩ | exact rfl | exact ⟨rfl, rfl⟩ | refine ⟨(by kernel_rfl : drawOk _ _ _ _ = true), ?_⟩ | refine ⟨(by kernel_rfl : planOk _ _ _ _ = true), ?_⟩ | refine ⟨rfl, ?_⟩ | refine ⟨by (first | omega | (simp (disch := omega) only [wrapI]; omega) | (simp (disch := omega) only [wrapI]; simp; omega) | (simp; omega)), ?_⟩ | (intro ep) | (refine ifB (fun hb => ?_) (fun hb => ?_) <;> (try simp only [decide_eq_true_eq, decide_eq_false_iff_not, beq_iff_eq, beq_eq_false_iff_ne, bne_iff_ne, bne_eq_false_iff_eq, ne_eq, not_false_eq_true, not_true_eq_false, Bool.not_eq_true, Bool.not_eq_true', Bool.not_eq_false', Int.not_lt, Int.not_le] at hb) <;> (try simp (disch := omega) only [wrapI] at hb) <;> (try (exfalso; omega))) | fail)))
  all_goals (conv => whnf)
  all_goals trace_state
end Go.Ab.V

/-
  Meetings: the program's function. No condition but the lengths.
-/
namespace Go.Ab.V
open Go.Proofs

def A40 : Ann := fun r => match r with
  | 1 => { slots := [(2, 0)] }
  | 4 => { slots := [(1, 1)] }
  | 9 => { slots := [(2, 2)] }
  | 11 => { slots := [(2, 3)] }
  | 12 => { slots := [(3, 4), (4, 5)] }
  | 22 => { slots := [(5, 6)] }
  | 25 => { slots := [(2, 7), (3, 8)] }
  | _ => {}
theorem compact69n {h : Heap} {id : Id} {ep n : Nat} {zs : List Int} (ho : h[id]? = some (.vec ep (ints zs))) (hl : zs.length ≤ 9223372036854775807) (hn : n = zs.length) :
    ACalls C.P 69 [.oslc id ep 1 0 n false] h fun r h' => r = .oslc id ep 1 0 (cpt zs).length false ∧ h' = h.set id (.vec ep (ints (cpt zs ++ List.replicate (zs.length - (cpt zs).length) 0))) := by subst hn; exact compact69 ho hl
theorem good_mem {l : List Tn} (h : good 0 l) : ∀ t ∈ l.map (·.f), 0 ≤ t ∧ t < 262144 := fun t ht => by
  obtain ⟨x, hx, rfl⟩ := List.mem_map.1 ht
  obtain ⟨j, hj, rfl⟩ := List.mem_iff_getElem.1 hx
  exact ⟨good_ge h j hj, good_lt h j hj⟩
abbrev St40 (u l : List Tn) (T : List Int) (R : List Mt) := { z : Nat × Option (Int × Int) × List Mt × Nat // z.1 ≤ T.length ∧ z.2.2.1.length ≤ z.1 ∧ (z.2.2.1 = [] ↔ z.2.1 = none) ∧ z.2.2.1 ++ meetP u l z.2.1 (T.drop z.1) = R ∧ ∀ p, z.2.1 = some p → 0 ≤ p.1 ∧ p.1 ≤ 127 ∧ 0 ≤ p.2 ∧ p.2 ≤ 127 }
abbrev X40 := okx [] [19, 61, 68, 69]
set_option maxHeartbeats 16000000 in
set_option maxRecDepth 100000 in
theorem meet40 (u l : List Tn) (nu : u.length ≤ 9223372036854775807) (nl : l.length ≤ 9223372036854775807) : PRet C.P 40 [tnsA u, tnsA l] (meetV u l) := by
  have h1 := checkParts_spec [u] (by simp) (by simpa using nu)
  have h2 := checkParts_spec [l] (by simp) (by simpa using nl)
  obtain ⟨V, hV0⟩ : ∃ V, V = meetV u l := ⟨_, rfl⟩
  rw [← hV0]
  unfold meetV at hV0
  obtain ⟨cu, hcu⟩ : ∃ cu, cu = chkP [u] := ⟨_, rfl⟩
  obtain ⟨cl, hcl⟩ : ∃ cl, cl = chkP [l] := ⟨_, rfl⟩
  rw [← hcu, ← hcl] at hV0
  rw [← hcu] at h1
  rw [← hcl] at h2
  refine pret_of X40 mixed (A := A40) 9 Try.func40 rfl ?_
  (repeat' (first | exact rfl | ((conv => whnf); first | exact rfl | exact ⟨rfl, rfl⟩ | refine ⟨(by kernel_rfl : drawOk _ _ _ _ = true), ?_⟩ | refine ⟨(by kernel_rfl : planOk _ _ _ _ = true), ?_⟩ | refine ⟨rfl, ?_⟩ | refine ⟨by (first | omega | (simp (disch := omega) only [wrapI]; omega) | (simp (disch := omega) only [wrapI]; simp; omega) | (simp; omega)), ?_⟩ | (intro ep) | (refine ifB (fun hb => ?_) (fun hb => ?_) <;> (try simp only [decide_eq_true_eq, decide_eq_false_iff_not, beq_iff_eq, beq_eq_false_iff_ne, bne_iff_ne, bne_eq_false_iff_eq, ne_eq, not_false_eq_true, not_true_eq_false, Bool.not_eq_true, Bool.not_eq_true', Bool.not_eq_false', Int.not_lt, Int.not_le] at hb) <;> (try simp (disch := omega) only [wrapI] at hb) <;> (try (exfalso; omega))) | fail)))
  all_goals (conv => whnf)
  obtain ⟨e0, he0⟩ : ∃ e0, e0 = ep := ⟨_, rfl⟩
  subst he0
  refine loopY X40 mixed (A := A40) [0, 1, 4, 23, 24, 25] [0] (S := { k : Nat // k ≤ 2 ∧ (1 ≤ k → cu = 0) ∧ (2 ≤ k → cl = 0) })
    (fr := fun k => frOf 0 102 [(0, tnsA u), (1, tnsA l), (4, .nils), (23, .oslc (.s 0) e0 1 0 2 false), (24, .int .i64 2), (25, .int .i64 (k.1 : Int))])
    (h := fun k => ⟨[.vec e0 [[tnsA u], [tnsA l]], .hole, .hole, .hole, .hole, .hole, .hole, .hole, .hole], []⟩) (μ := fun k => 2 - k.1) ⟨0, by omega, fun h => by omega, fun h => by omega⟩ ?_ ?_
    [0, 1, 4] [] (S' := { x : Unit // cu = 0 ∧ cl = 0 }) (X := fun _ => 0) (frX := fun k => frOf 0 102 [(0, tnsA u), (1, tnsA l), (4, .nils)]) (hX := fun k => ⟨[.hole, .hole, .hole, .hole, .hole, .hole, .hole, .hole, .hole], []⟩)
    [4, 5] [] (S2 := { e : Int // V = .tup [.nils, .int .i64 e] }) (frR := fun e => frOf 0 102 [(4, .nils), (5, .int .i64 e.1)]) (hR := fun k => ⟨[.hole, .hole, .hole, .hole, .hole, .hole, .hole, .hole, .hole], []⟩) ?_ ?_ ?_
  · exact rfl
  · exact rfl
  · rintro ⟨k, hk, k1, k2⟩
    show aexR _ _ _ (frOf 0 102 [(0, tnsA u), (1, tnsA l), (4, .nils), (23, .oslc (.s 0) e0 1 0 2 false), (24, .int .i64 2), (25, .int .i64 (k : Int))]) ⟨[.vec e0 [[tnsA u], [tnsA l]], .hole, .hole, .hole, .hole, .hole, .hole, .hole, .hole], []⟩ _
    obtain rfl | rfl | rfl : k = 0 ∨ k = 1 ∨ k = 2 := by omega
    · by_cases c1 : cu ≠ 0
      · have hV : V = .tup [.nils, .int .i64 (cu)] := by rw [hV0, if_pos c1]
        (repeat' (first | exact rfl | ((conv => whnf); first | (refine ACalls.fz 1 ?_; (conv => whnf); refine ⟨pure_map (f := fun p : List Tn => [tnsA p]) [u] fun x => rfl, by (repeat' (first | exact trivial | exact eqsP_rows _ (fun x => rfl) | ((conv => whnf); first | exact trivial | refine ⟨rfl, ?_⟩ | refine ⟨?_, ?_⟩ | fail))), by (repeat' (first | exact trivial | exact eqsP_rows _ (fun x => rfl) | ((conv => whnf); first | exact trivial | refine ⟨rfl, ?_⟩ | refine ⟨?_, ?_⟩ | fail))), by (repeat' (first | exact trivial | exact eqsP_rows _ (fun x => rfl) | ((conv => whnf); first | exact trivial | refine ⟨rfl, ?_⟩ | refine ⟨?_, ?_⟩ | fail))), ?_⟩; refine PRet.calls h1 ?_) | exact rfl | exact ⟨rfl, rfl⟩ | refine ⟨(by kernel_rfl : drawOk _ _ _ _ = true), ?_⟩ | refine ⟨(by kernel_rfl : planOk _ _ _ _ = true), ?_⟩ | refine ⟨rfl, ?_⟩ | refine ⟨by (first | omega | (simp (disch := omega) only [wrapI]; omega) | (simp (disch := omega) only [wrapI]; simp; omega) | (simp; omega)), ?_⟩ | (intro ep) | (refine ifB (fun hb => ?_) (fun hb => ?_) <;> (try simp only [decide_eq_true_eq, decide_eq_false_iff_not, beq_iff_eq, beq_eq_false_iff_ne, bne_iff_ne, bne_eq_false_iff_eq, ne_eq, not_false_eq_true, not_true_eq_false, Bool.not_eq_true, Bool.not_eq_true', Bool.not_eq_false', Int.not_lt, Int.not_le] at hb) <;> (try simp (disch := omega) only [wrapI] at hb) <;> (try (exfalso; omega))) | fail)))
        all_goals (conv => whnf)
        all_goals exact back_of ⟨_, hV⟩ ⟨rfl, rfl⟩
      · have c1 : cu = 0 := by omega
        rw [c1] at h1
        (repeat' (first | exact rfl | ((conv => whnf); first | (refine ACalls.fz 1 ?_; (conv => whnf); refine ⟨pure_map (f := fun p : List Tn => [tnsA p]) [u] fun x => rfl, by (repeat' (first | exact trivial | exact eqsP_rows _ (fun x => rfl) | ((conv => whnf); first | exact trivial | refine ⟨rfl, ?_⟩ | refine ⟨?_, ?_⟩ | fail))), by (repeat' (first | exact trivial | exact eqsP_rows _ (fun x => rfl) | ((conv => whnf); first | exact trivial | refine ⟨rfl, ?_⟩ | refine ⟨?_, ?_⟩ | fail))), by (repeat' (first | exact trivial | exact eqsP_rows _ (fun x => rfl) | ((conv => whnf); first | exact trivial | refine ⟨rfl, ?_⟩ | refine ⟨?_, ?_⟩ | fail))), ?_⟩; refine PRet.calls h1 ?_) | exact rfl | exact ⟨rfl, rfl⟩ | refine ⟨(by kernel_rfl : drawOk _ _ _ _ = true), ?_⟩ | refine ⟨(by kernel_rfl : planOk _ _ _ _ = true), ?_⟩ | refine ⟨rfl, ?_⟩ | refine ⟨by (first | omega | (simp (disch := omega) only [wrapI]; omega) | (simp (disch := omega) only [wrapI]; simp; omega) | (simp; omega)), ?_⟩ | (intro ep) | (refine ifB (fun hb => ?_) (fun hb => ?_) <;> (try simp only [decide_eq_true_eq, decide_eq_false_iff_not, beq_iff_eq, beq_eq_false_iff_ne, bne_iff_ne, bne_eq_false_iff_eq, ne_eq, not_false_eq_true, not_true_eq_false, Bool.not_eq_true, Bool.not_eq_true', Bool.not_eq_false', Int.not_lt, Int.not_le] at hb) <;> (try simp (disch := omega) only [wrapI] at hb) <;> (try (exfalso; omega))) | fail)))
        all_goals (conv => whnf)
        all_goals exact back_of ⟨1, by omega, fun _ => c1, fun h => by omega⟩ ⟨by (first | exact rfl | (simp (disch := omega) only [wrapI]; exact rfl)), rfl, by simp only; omega⟩
    · have c0 := k1 (by omega)
      by_cases c1 : cl ≠ 0
      · have hV : V = .tup [.nils, .int .i64 (cl)] := by rw [hV0, if_neg (by simp [c0]), if_pos c1]
        (repeat' (first | exact rfl | ((conv => whnf); first | (refine ACalls.fz 1 ?_; (conv => whnf); refine ⟨pure_map (f := fun p : List Tn => [tnsA p]) [l] fun x => rfl, by (repeat' (first | exact trivial | exact eqsP_rows _ (fun x => rfl) | ((conv => whnf); first | exact trivial | refine ⟨rfl, ?_⟩ | refine ⟨?_, ?_⟩ | fail))), by (repeat' (first | exact trivial | exact eqsP_rows _ (fun x => rfl) | ((conv => whnf); first | exact trivial | refine ⟨rfl, ?_⟩ | refine ⟨?_, ?_⟩ | fail))), by (repeat' (first | exact trivial | exact eqsP_rows _ (fun x => rfl) | ((conv => whnf); first | exact trivial | refine ⟨rfl, ?_⟩ | refine ⟨?_, ?_⟩ | fail))), ?_⟩; refine PRet.calls h2 ?_) | exact rfl | exact ⟨rfl, rfl⟩ | refine ⟨(by kernel_rfl : drawOk _ _ _ _ = true), ?_⟩ | refine ⟨(by kernel_rfl : planOk _ _ _ _ = true), ?_⟩ | refine ⟨rfl, ?_⟩ | refine ⟨by (first | omega | (simp (disch := omega) only [wrapI]; omega) | (simp (disch := omega) only [wrapI]; simp; omega) | (simp; omega)), ?_⟩ | (intro ep) | (refine ifB (fun hb => ?_) (fun hb => ?_) <;> (try simp only [decide_eq_true_eq, decide_eq_false_iff_not, beq_iff_eq, beq_eq_false_iff_ne, bne_iff_ne, bne_eq_false_iff_eq, ne_eq, not_false_eq_true, not_true_eq_false, Bool.not_eq_true, Bool.not_eq_true', Bool.not_eq_false', Int.not_lt, Int.not_le] at hb) <;> (try simp (disch := omega) only [wrapI] at hb) <;> (try (exfalso; omega))) | fail)))
        all_goals (conv => whnf)
        all_goals exact back_of ⟨_, hV⟩ ⟨rfl, rfl⟩
      · have c1 : cl = 0 := by omega
        rw [c1] at h2
        (repeat' (first | exact rfl | ((conv => whnf); first | (refine ACalls.fz 1 ?_; (conv => whnf); refine ⟨pure_map (f := fun p : List Tn => [tnsA p]) [l] fun x => rfl, by (repeat' (first | exact trivial | exact eqsP_rows _ (fun x => rfl) | ((conv => whnf); first | exact trivial | refine ⟨rfl, ?_⟩ | refine ⟨?_, ?_⟩ | fail))), by (repeat' (first | exact trivial | exact eqsP_rows _ (fun x => rfl) | ((conv => whnf); first | exact trivial | refine ⟨rfl, ?_⟩ | refine ⟨?_, ?_⟩ | fail))), by (repeat' (first | exact trivial | exact eqsP_rows _ (fun x => rfl) | ((conv => whnf); first | exact trivial | refine ⟨rfl, ?_⟩ | refine ⟨?_, ?_⟩ | fail))), ?_⟩; refine PRet.calls h2 ?_) | exact rfl | exact ⟨rfl, rfl⟩ | refine ⟨(by kernel_rfl : drawOk _ _ _ _ = true), ?_⟩ | refine ⟨(by kernel_rfl : planOk _ _ _ _ = true), ?_⟩ | refine ⟨rfl, ?_⟩ | refine ⟨by (first | omega | (simp (disch := omega) only [wrapI]; omega) | (simp (disch := omega) only [wrapI]; simp; omega) | (simp; omega)), ?_⟩ | (intro ep) | (refine ifB (fun hb => ?_) (fun hb => ?_) <;> (try simp only [decide_eq_true_eq, decide_eq_false_iff_not, beq_iff_eq, beq_eq_false_iff_ne, bne_iff_ne, bne_eq_false_iff_eq, ne_eq, not_false_eq_true, not_true_eq_false, Bool.not_eq_true, Bool.not_eq_true', Bool.not_eq_false', Int.not_lt, Int.not_le] at hb) <;> (try simp (disch := omega) only [wrapI] at hb) <;> (try (exfalso; omega))) | fail)))
        all_goals (conv => whnf)
        all_goals exact back_of ⟨2, by omega, fun _ => c0, fun h => c1⟩ ⟨by (first | exact rfl | (simp (disch := omega) only [wrapI]; exact rfl)), rfl, by simp only; omega⟩
    · (repeat' (first | exact rfl | ((conv => whnf); first | exact rfl | exact ⟨rfl, rfl⟩ | refine ⟨(by kernel_rfl : drawOk _ _ _ _ = true), ?_⟩ | refine ⟨(by kernel_rfl : planOk _ _ _ _ = true), ?_⟩ | refine ⟨rfl, ?_⟩ | refine ⟨by (first | omega | (simp (disch := omega) only [wrapI]; omega) | (simp (disch := omega) only [wrapI]; simp; omega) | (simp; omega)), ?_⟩ | (intro ep) | fail)))
      all_goals (conv => whnf)
      all_goals exact back_of ⟨(), k1 (by omega), k2 (by omega)⟩ ⟨rfl, rfl, rfl⟩
  · rintro ⟨e, he⟩
    (repeat' (first | exact rfl | ((conv => whnf); first | exact rfl | exact ⟨rfl, rfl⟩ | refine ⟨(by kernel_rfl : drawOk _ _ _ _ = true), ?_⟩ | refine ⟨(by kernel_rfl : planOk _ _ _ _ = true), ?_⟩ | refine ⟨rfl, ?_⟩ | refine ⟨by (first | omega | (simp (disch := omega) only [wrapI]; omega) | (simp (disch := omega) only [wrapI]; simp; omega) | (simp; omega)), ?_⟩ | (intro ep) | fail)))
    all_goals (conv => whnf)
    all_goals exact he.symm
  · rintro ⟨⟨⟩, c1, c2⟩
    have g1 := chk1 (hcu.symm.trans c1)
    have g2 := chk1 (hcl.symm.trans c2)
    have hC : PRet C.P 61 [prtsA [u, l]] (tnsA (u ++ l)) := by
      have h := concatP [u, l] (by simp) (by simp [tot]; omega)
      rwa [show List.flatten [u, l] = u ++ l by simp] at h
    rw [show V = .tup [mtsA (meets u l), .int .i64 0] by rw [hV0, if_neg (by simp [c1]), if_neg (by simp [c2])]]
    have hTT := times_eq g1.2 g2.2
    have hlen : (u ++ l).length ≤ 800 := by rw [List.length_append]; omega
    obtain ⟨ul, hul⟩ : ∃ ul, ul = u ++ l := ⟨_, rfl⟩
    rw [← hul] at hC hTT hlen
    (repeat' (first | exact rfl | ((conv => whnf); first | (refine ACalls.fz 2 ?_; (conv => whnf); refine ⟨pure_map (f := fun p : List Tn => [tnsA p]) [u, l] fun x => rfl, by (repeat' (first | exact trivial | exact eqsP_rows _ (fun x => rfl) | ((conv => whnf); first | exact trivial | refine ⟨rfl, ?_⟩ | refine ⟨?_, ?_⟩ | fail))), by (repeat' (first | exact trivial | exact eqsP_rows _ (fun x => rfl) | ((conv => whnf); first | exact trivial | refine ⟨rfl, ?_⟩ | refine ⟨?_, ?_⟩ | fail))), by (repeat' (first | exact trivial | exact eqsP_rows _ (fun x => rfl) | ((conv => whnf); first | exact trivial | refine ⟨rfl, ?_⟩ | refine ⟨?_, ?_⟩ | fail))), ?_⟩; refine PRet.calls hC ?_) | exact rfl | exact ⟨rfl, rfl⟩ | refine ⟨(by kernel_rfl : drawOk _ _ _ _ = true), ?_⟩ | refine ⟨(by kernel_rfl : planOk _ _ _ _ = true), ?_⟩ | refine ⟨rfl, ?_⟩ | refine ⟨by (first | omega | (simp (disch := omega) only [wrapI]; omega) | (simp (disch := omega) only [wrapI]; simp; omega) | (simp; omega)), ?_⟩ | (intro ep) | (refine ifB (fun hb => ?_) (fun hb => ?_) <;> (try simp only [decide_eq_true_eq, decide_eq_false_iff_not, beq_iff_eq, beq_eq_false_iff_ne, bne_iff_ne, bne_eq_false_iff_eq, ne_eq, not_false_eq_true, not_true_eq_false, Bool.not_eq_true, Bool.not_eq_true', Bool.not_eq_false', Int.not_lt, Int.not_le] at hb) <;> (try simp (disch := omega) only [wrapI] at hb) <;> (try (exfalso; omega))) | fail)))
    all_goals (conv => whnf)
    refine wk_lift 9 5 1 rfl ?_
    intro e5
    refine loopY X40 mixed (A := A40) [0, 1, 4, 9, 39, 40, 41] [5] (S := { z : Nat × Nat // z.1 ≤ ul.length })
      (fr := fun z => frOf 0 102 [(0, tnsA u), (1, tnsA l), (4, .nils), (9, .oslc (.s 5) z.1.2 1 0 ((ul.take z.1.1).map (·.f)).length false), (39, tnsA ul), (40, .int .i64 (ul.length : Int)), (41, .int .i64 (z.1.1 : Int))])
      (h := fun z => ⟨[.hole, .hole, .hole, .hole, .hole, .vec z.1.2 (ints ((ul.take z.1.1).map (·.f))), .hole, .hole, .hole], []⟩) (μ := fun z => ul.length - z.1.1) ⟨(0, e5), Nat.zero_le _⟩ ?_ ?_
      [0, 1, 4, 9] [5] (S' := Nat) (X := fun _ => 2) (frX := fun e => frOf 0 102 [(0, tnsA u), (1, tnsA l), (4, .nils), (9, .oslc (.s 5) e 1 0 (ul.map (·.f)).length false)]) (hX := fun e => ⟨[.hole, .hole, .hole, .hole, .hole, .vec e (ints (ul.map (·.f))), .hole, .hole, .hole], []⟩)
      [] [] (S2 := Empty) (frR := fun s => frOf 0 102 []) (hR := fun s => ⟨[], []⟩) ?_ ?_ ?_
    · exact rfl
    · exact rfl
    · rintro ⟨⟨k, e⟩, hk⟩
      simp only at hk
      show aexR _ _ _ (frOf 0 102 [(0, tnsA u), (1, tnsA l), (4, .nils), (9, .oslc (.s 5) e 1 0 ((ul.take k).map (·.f)).length false), (39, tnsA ul), (40, .int .i64 (ul.length : Int)), (41, .int .i64 (k : Int))]) ⟨[.hole, .hole, .hole, .hole, .hole, .vec e (ints ((ul.take k).map (·.f))), .hole, .hole, .hole], []⟩ _
      (conv => whnf)
      refine ifB (fun g3 => ?_) (fun g3 => ?_)
      · simp only [decide_eq_true_eq] at g3
        have q1 : k < ul.length := by omega
        have hm := mapR (f := tnR) q1
        have hk1 : (ul.take (k + 1)).map (·.f) = (ul.take k).map (·.f) ++ [ul[k].f] := by rw [List.take_add_one, List.getElem?_eq_getElem q1, List.map_append]; rfl
        have hbl : ((ul.take k).map (·.f)).length ≤ 800 := by rw [List.length_map, List.length_take]; omega
        generalize ul[k] = x at hm hk1
        generalize hts : (ul.take k).map (·.f) = ts at hk1 hbl
        have T1 : List.take ts.length (List.drop 0 (ints ts)) = ints ts := by rw [List.drop_zero, List.take_of_length_le (by simp [ints])]
        (repeat' (first | exact rfl | ((conv => whnf); first | refine optS hm ?_ | exact rfl | exact ⟨rfl, rfl⟩ | refine ⟨(by kernel_rfl : drawOk _ _ _ _ = true), ?_⟩ | refine ⟨(by kernel_rfl : planOk _ _ _ _ = true), ?_⟩ | refine ⟨rfl, ?_⟩ | refine ⟨by (first | omega | (simp (disch := omega) only [wrapI]; omega) | (simp (disch := omega) only [wrapI]; simp; omega) | (simp; omega)), ?_⟩ | (intro ep) | (refine ifB (fun hb => ?_) (fun hb => ?_) <;> (try simp only [decide_eq_true_eq, decide_eq_false_iff_not, beq_iff_eq, beq_eq_false_iff_ne, bne_iff_ne, bne_eq_false_iff_eq, ne_eq, not_false_eq_true, not_true_eq_false, Bool.not_eq_true, Bool.not_eq_true', Bool.not_eq_false', Int.not_lt, Int.not_le] at hb) <;> (try simp (disch := omega) only [wrapI] at hb) <;> (try (exfalso; omega))) | fail)))
        all_goals (conv => whnf)
        have T2 : ints (ts ++ [x.f]) = ints ts ++ [[.int .i64 x.f]] := by simp [ints]
        rw [T1]
        refine back_of ⟨(k + 1, ep), by simp only; omega⟩ ⟨?_, ?_, by simp only; omega⟩
        · simp only [hk1, List.length_append, List.length_singleton]; (first | exact rfl | (simp (disch := omega) only [wrapI]; exact rfl))
        · simp only [hk1, T2]; rfl
      · simp only [decide_eq_false_iff_not] at g3
        obtain rfl : k = ul.length := by omega
        rw [List.take_length]
        (repeat' (first | exact rfl | ((conv => whnf); first | exact rfl | exact ⟨rfl, rfl⟩ | refine ⟨(by kernel_rfl : drawOk _ _ _ _ = true), ?_⟩ | refine ⟨(by kernel_rfl : planOk _ _ _ _ = true), ?_⟩ | refine ⟨rfl, ?_⟩ | refine ⟨by (first | omega | (simp (disch := omega) only [wrapI]; omega) | (simp (disch := omega) only [wrapI]; simp; omega) | (simp; omega)), ?_⟩ | (intro ep) | fail)))
        all_goals (conv => whnf)
        exact back_of e ⟨rfl, rfl, rfl⟩
    · rintro ⟨⟩
    · rintro e
      have hzl : (ul.map (·.f)).length ≤ 800 := by rw [List.length_map]; exact hlen
      generalize ul.map (·.f) = zs at hTT hzl
      (repeat' (first | exact rfl | ((conv => whnf); first | exact rfl | exact ⟨rfl, rfl⟩ | refine ⟨(by kernel_rfl : drawOk _ _ _ _ = true), ?_⟩ | refine ⟨(by kernel_rfl : planOk _ _ _ _ = true), ?_⟩ | refine ⟨rfl, ?_⟩ | refine ⟨by (first | omega | (simp (disch := omega) only [wrapI]; omega) | (simp (disch := omega) only [wrapI]; simp; omega) | (simp; omega)), ?_⟩ | (intro ep) | (refine ifB (fun hb => ?_) (fun hb => ?_) <;> (try simp only [decide_eq_true_eq, decide_eq_false_iff_not, beq_iff_eq, beq_eq_false_iff_ne, bne_iff_ne, bne_eq_false_iff_eq, ne_eq, not_false_eq_true, not_true_eq_false, Bool.not_eq_true, Bool.not_eq_true', Bool.not_eq_false', Int.not_lt, Int.not_le] at hb) <;> (try simp (disch := omega) only [wrapI] at hb) <;> (try (exfalso; omega))) | fail)))
      all_goals (conv => whnf)
      refine (sort68 (zs := zs) rfl (by omega)).mono ?_
      rintro r h' ⟨rfl, rfl⟩
      (repeat' (first | exact rfl | ((conv => whnf); first | exact rfl | exact ⟨rfl, rfl⟩ | refine ⟨(by kernel_rfl : drawOk _ _ _ _ = true), ?_⟩ | refine ⟨(by kernel_rfl : planOk _ _ _ _ = true), ?_⟩ | refine ⟨rfl, ?_⟩ | refine ⟨by (first | omega | (simp (disch := omega) only [wrapI]; omega) | (simp (disch := omega) only [wrapI]; simp; omega) | (simp; omega)), ?_⟩ | (intro ep) | (refine ifB (fun hb => ?_) (fun hb => ?_) <;> (try simp only [decide_eq_true_eq, decide_eq_false_iff_not, beq_iff_eq, beq_eq_false_iff_ne, bne_iff_ne, bne_eq_false_iff_eq, ne_eq, not_false_eq_true, not_true_eq_false, Bool.not_eq_true, Bool.not_eq_true', Bool.not_eq_false', Int.not_lt, Int.not_le] at hb) <;> (try simp (disch := omega) only [wrapI] at hb) <;> (try (exfalso; omega))) | fail)))
      all_goals (conv => whnf)
      refine (compact69n (zs := srt zs) rfl (by rw [srt_len]; omega) (srt_len zs).symm).mono ?_
      rintro r h' ⟨rfl, rfl⟩
      have hTl : (cpt (srt zs)).length ≤ 800 := by rw [hTT]; have := mrg_len (u.map (·.f)) (l.map (·.f)); rw [List.length_map, List.length_map] at this; omega
      have hTm : ∀ t ∈ cpt (srt zs), 0 ≤ t ∧ t < 262144 := fun t ht => by
        rw [hTT, mrg_mem] at ht
        exact ht.elim (good_mem g1.2 t) (good_mem g2.2 t)
      have hR0 : meets u l = meetP u l none (cpt (srt zs)) := by rw [hTT]; rfl
      obtain ⟨R, hR⟩ : ∃ R, R = meets u l := ⟨_, rfl⟩
      rw [← hR] at hR0
      have hVR : V = .tup [mtsA R, .int .i64 0] := by rw [hV0, if_neg (by simp [c1]), if_neg (by simp [c2]), ← hR]
      generalize (srt zs).length - (cpt (srt zs)).length = rep at *
      generalize cpt (srt zs) = T at *
      rw [show mtsA (meets u l) = mtsA R by rw [hR]]
      (repeat' (first | exact rfl | ((conv => whnf); first | exact rfl | exact ⟨rfl, rfl⟩ | refine ⟨(by kernel_rfl : drawOk _ _ _ _ = true), ?_⟩ | refine ⟨(by kernel_rfl : planOk _ _ _ _ = true), ?_⟩ | refine ⟨rfl, ?_⟩ | refine ⟨by (first | omega | (simp (disch := omega) only [wrapI]; omega) | (simp (disch := omega) only [wrapI]; simp; omega) | (simp; omega)), ?_⟩ | (intro ep) | (refine ifB (fun hb => ?_) (fun hb => ?_) <;> (try simp only [decide_eq_true_eq, decide_eq_false_iff_not, beq_iff_eq, beq_eq_false_iff_ne, bne_iff_ne, bne_eq_false_iff_eq, ne_eq, not_false_eq_true, not_true_eq_false, Bool.not_eq_true, Bool.not_eq_true', Bool.not_eq_false', Int.not_lt, Int.not_le] at hb) <;> (try simp (disch := omega) only [wrapI] at hb) <;> (try (exfalso; omega))) | fail)))
      all_goals (conv => whnf)
      refine wk_lift 4 8 3 rfl ?_
      intro e8
      refine loopY X40 mixed (A := A40) [0, 1, 4, 12, 13, 54, 55, 56] [5, 8] (S := St40 u l T R)
        (fr := fun z => frOf 0 102 [(0, tnsA u), (1, tnsA l), (4, .oslc (.s 8) z.1.2.2.2 3 0 z.1.2.2.1.length false), (12, .int .i64 (prO z.1.2.1).1), (13, .int .i64 (prO z.1.2.1).2), (54, .oslc (.s 5) e 1 0 T.length false), (55, .int .i64 (T.length : Int)), (56, .int .i64 (z.1.1 : Int))])
        (h := fun z => ⟨[.hole, .hole, .hole, .hole, .hole, .vec e (ints (T ++ List.replicate rep 0)), .hole, .hole, .vec z.1.2.2.2 (z.1.2.2.1.map mtR)], []⟩) (μ := fun z => T.length - z.1.1)
        ⟨(0, none, [], e8), Nat.zero_le _, by simp, by simp, by simpa using hR0.symm, fun p h => by cases h⟩ ?_ ?_
        [4] [8] (S' := Nat) (X := fun _ => 4) (frX := fun e => frOf 0 102 [(4, .oslc (.s 8) e 3 0 R.length false)]) (hX := fun e => ⟨[.hole, .hole, .hole, .hole, .hole, .hole, .hole, .hole, .vec e (R.map mtR)], []⟩)
        [] [] (S2 := Empty) (frR := fun s => frOf 0 102 []) (hR := fun s => ⟨[], []⟩) ?_ ?_ ?_
      · exact rfl
      · exact rfl
      · rintro ⟨⟨k, o, out, ep⟩, hk, hlen, ho, hz, hp⟩
        simp only at hk hlen ho hz hp
        show aexR _ _ _ (frOf 0 102 [(0, tnsA u), (1, tnsA l), (4, .oslc (.s 8) ep 3 0 out.length false), (12, .int .i64 (prO o).1), (13, .int .i64 (prO o).2), (54, .oslc (.s 5) e 1 0 T.length false), (55, .int .i64 (T.length : Int)), (56, .int .i64 (k : Int))]) ⟨[.hole, .hole, .hole, .hole, .hole, .vec e (ints (T ++ List.replicate rep 0)), .hole, .hole, .vec ep (out.map mtR)], []⟩ _
        (conv => whnf)
        refine ifB (fun g3 => ?_) (fun g3 => ?_)
        · simp only [decide_eq_true_eq] at g3
          have q1 : k < T.length := by omega
          have hm := intsR (l := T ++ List.replicate rep 0) (i := k) (by rw [List.length_append]; omega)
          rw [List.getElem_append_left q1] at hm
          obtain ⟨t1, t2⟩ := hTm T[k] (List.getElem_mem q1)
          rw [List.drop_eq_getElem_cons q1] at hz
          generalize T[k] = t at hm t1 t2 hz
          have hs := stepM hz
          have hA := at70 u t (good_asc g1.2) (by omega) (by omega) (by omega)
          have hB := at70 l t (good_asc g2.2) (by omega) (by omega) (by omega)
          rw [atP_eq t g1.2] at hA
          rw [atP_eq t g2.2] at hB
          obtain ⟨a1, a2⟩ := atR_le t g1.2
          obtain ⟨b3, b4⟩ := atR_le t g2.2
          generalize atR u t = a at hs hA a1 a2
          generalize atR l t = b at hs hB b3 b4
          by_cases c4 : a < 0 ∨ b < 0
          · rw [if_pos c4] at hs
            by_cases c5 : a < 0
            · rw [if_pos c5] at hA
              by_cases c6 : b < 0
              · rw [if_pos c6] at hB
                (repeat' (first | exact rfl | ((conv => whnf); first | refine optS hm ?_ | refine ⟨_, hA, ?_⟩ | refine ⟨_, hB, ?_⟩ | exact rfl | exact ⟨rfl, rfl⟩ | refine ⟨(by kernel_rfl : drawOk _ _ _ _ = true), ?_⟩ | refine ⟨(by kernel_rfl : planOk _ _ _ _ = true), ?_⟩ | refine ⟨rfl, ?_⟩ | refine ⟨by (first | omega | (simp (disch := omega) only [wrapI]; omega) | (simp (disch := omega) only [wrapI]; simp; omega) | (simp; omega)), ?_⟩ | (intro ep) | (refine ifB (fun hb => ?_) (fun hb => ?_) <;> (try simp only [decide_eq_true_eq, decide_eq_false_iff_not, beq_iff_eq, beq_eq_false_iff_ne, bne_iff_ne, bne_eq_false_iff_eq, ne_eq, not_false_eq_true, not_true_eq_false, Bool.not_eq_true, Bool.not_eq_true', Bool.not_eq_false', Int.not_lt, Int.not_le] at hb) <;> (try simp (disch := omega) only [wrapI] at hb) <;> (try (exfalso; omega))) | fail)))
                all_goals (conv => whnf)
                all_goals exact back_of ⟨(k + 1, o, out, ep), by simp only; omega, by simp only; omega, ho, hs, hp⟩ ⟨by (first | exact rfl | (simp (disch := omega) only [wrapI]; exact rfl)), rfl, by simp only; omega⟩
              · rw [if_neg c6] at hB
                (repeat' (first | exact rfl | ((conv => whnf); first | refine optS hm ?_ | refine ⟨_, hA, ?_⟩ | refine ⟨_, hB, ?_⟩ | exact rfl | exact ⟨rfl, rfl⟩ | refine ⟨(by kernel_rfl : drawOk _ _ _ _ = true), ?_⟩ | refine ⟨(by kernel_rfl : planOk _ _ _ _ = true), ?_⟩ | refine ⟨rfl, ?_⟩ | refine ⟨by (first | omega | (simp (disch := omega) only [wrapI]; omega) | (simp (disch := omega) only [wrapI]; simp; omega) | (simp; omega)), ?_⟩ | (intro ep) | (refine ifB (fun hb => ?_) (fun hb => ?_) <;> (try simp only [decide_eq_true_eq, decide_eq_false_iff_not, beq_iff_eq, beq_eq_false_iff_ne, bne_iff_ne, bne_eq_false_iff_eq, ne_eq, not_false_eq_true, not_true_eq_false, Bool.not_eq_true, Bool.not_eq_true', Bool.not_eq_false', Int.not_lt, Int.not_le] at hb) <;> (try simp (disch := omega) only [wrapI] at hb) <;> (try (exfalso; omega))) | fail)))
                all_goals (conv => whnf)
                all_goals exact back_of ⟨(k + 1, o, out, ep), by simp only; omega, by simp only; omega, ho, hs, hp⟩ ⟨by (first | exact rfl | (simp (disch := omega) only [wrapI]; exact rfl)), rfl, by simp only; omega⟩
            · rw [if_neg c5] at hA
              rw [if_pos (by omega)] at hB
              (repeat' (first | exact rfl | ((conv => whnf); first | refine optS hm ?_ | refine ⟨_, hA, ?_⟩ | refine ⟨_, hB, ?_⟩ | exact rfl | exact ⟨rfl, rfl⟩ | refine ⟨(by kernel_rfl : drawOk _ _ _ _ = true), ?_⟩ | refine ⟨(by kernel_rfl : planOk _ _ _ _ = true), ?_⟩ | refine ⟨rfl, ?_⟩ | refine ⟨by (first | omega | (simp (disch := omega) only [wrapI]; omega) | (simp (disch := omega) only [wrapI]; simp; omega) | (simp; omega)), ?_⟩ | (intro ep) | (refine ifB (fun hb => ?_) (fun hb => ?_) <;> (try simp only [decide_eq_true_eq, decide_eq_false_iff_not, beq_iff_eq, beq_eq_false_iff_ne, bne_iff_ne, bne_eq_false_iff_eq, ne_eq, not_false_eq_true, not_true_eq_false, Bool.not_eq_true, Bool.not_eq_true', Bool.not_eq_false', Int.not_lt, Int.not_le] at hb) <;> (try simp (disch := omega) only [wrapI] at hb) <;> (try (exfalso; omega))) | fail)))
              all_goals (conv => whnf)
              all_goals exact back_of ⟨(k + 1, o, out, ep), by simp only; omega, by simp only; omega, ho, hs, hp⟩ ⟨by (first | exact rfl | (simp (disch := omega) only [wrapI]; exact rfl)), rfl, by simp only; omega⟩
          · rw [if_neg c4] at hs
            rw [if_neg (by omega)] at hA hB
            have T1 : List.take out.length (List.drop 0 (out.map mtR)) = out.map mtR := by rw [List.drop_zero, List.take_of_length_le (by rw [List.length_map]; exact Nat.le_refl _)]
            cases o with
            | none =>
              have hn : out.length = 0 := by rw [ho.2 rfl]; rfl
              (repeat' (first | exact rfl | ((conv => whnf); first | refine optS hm ?_ | refine ⟨_, hA, ?_⟩ | refine ⟨_, hB, ?_⟩ | exact rfl | exact ⟨rfl, rfl⟩ | refine ⟨(by kernel_rfl : drawOk _ _ _ _ = true), ?_⟩ | refine ⟨(by kernel_rfl : planOk _ _ _ _ = true), ?_⟩ | refine ⟨rfl, ?_⟩ | refine ⟨by (first | omega | (simp (disch := omega) only [wrapI]; omega) | (simp (disch := omega) only [wrapI]; simp; omega) | (simp; omega)), ?_⟩ | (intro ep) | (refine ifB (fun hb => ?_) (fun hb => ?_) <;> (try simp only [decide_eq_true_eq, decide_eq_false_iff_not, beq_iff_eq, beq_eq_false_iff_ne, bne_iff_ne, bne_eq_false_iff_eq, ne_eq, not_false_eq_true, not_true_eq_false, Bool.not_eq_true, Bool.not_eq_true', Bool.not_eq_false', Int.not_lt, Int.not_le] at hb) <;> (try simp (disch := omega) only [wrapI] at hb) <;> (try (exfalso; omega))) | fail)))
              all_goals (conv => whnf)
              all_goals (rw [T1])
              all_goals exact back_of ⟨(k + 1, some (a, b), _, ep), by simp only; omega, by simp only [List.length_append, List.length_singleton]; omega, by simp, hs, fun p hq => by cases hq; exact ⟨by simp only; omega, by simp only; omega, by simp only; omega, by simp only; omega⟩⟩ ⟨by (simp only [List.length_append, List.length_singleton]; (first | exact rfl | (simp (disch := omega) only [wrapI]; exact rfl))), (by simp only [List.map_append, List.map_cons, List.map_nil]; (first | exact rfl | (simp (disch := omega) only [wrapI]; exact rfl))), by simp only; omega⟩
            | some p =>
              obtain ⟨p1, p2⟩ := p
              have hn : out.length ≠ 0 := fun h => by have := ho.1 (List.length_eq_zero_iff.1 h); cases this
              obtain ⟨q1, q2, q3, q4⟩ := hp (p1, p2) rfl
              simp only at q1 q2 q3 q4
              have hM := mot71 (IntKind.i64.wrap (a - p1)) (IntKind.i64.wrap (b - p2))
              have hM2 : mot (IntKind.i64.wrap (a - p1)) (IntKind.i64.wrap (b - p2)) = movO (some (p1, p2)) a b := by rw [wrapI (by omega) (by omega), wrapI (by omega) (by omega)]; rfl
              rw [hM2] at hM
              generalize movO (some (p1, p2)) a b = mo at hs hM
              (repeat' (first | exact rfl | ((conv => whnf); first | refine optS hm ?_ | refine ⟨_, hA, ?_⟩ | refine ⟨_, hB, ?_⟩ | refine ⟨_, hM, ?_⟩ | exact rfl | exact ⟨rfl, rfl⟩ | refine ⟨(by kernel_rfl : drawOk _ _ _ _ = true), ?_⟩ | refine ⟨(by kernel_rfl : planOk _ _ _ _ = true), ?_⟩ | refine ⟨rfl, ?_⟩ | refine ⟨by (first | omega | (simp (disch := omega) only [wrapI]; omega) | (simp (disch := omega) only [wrapI]; simp; omega) | (simp; omega)), ?_⟩ | (intro ep) | (refine ifB (fun hb => ?_) (fun hb => ?_) <;> (try simp only [decide_eq_true_eq, decide_eq_false_iff_not, beq_iff_eq, beq_eq_false_iff_ne, bne_iff_ne, bne_eq_false_iff_eq, ne_eq, not_false_eq_true, not_true_eq_false, Bool.not_eq_true, Bool.not_eq_true', Bool.not_eq_false', Int.not_lt, Int.not_le] at hb) <;> (try simp (disch := omega) only [wrapI] at hb) <;> (try (exfalso; omega))) | fail)))
              all_goals (conv => whnf)
              all_goals (rw [T1])
              all_goals exact back_of ⟨(k + 1, some (a, b), _, ep), by simp only; omega, by simp only [List.length_append, List.length_singleton]; omega, by simp, hs, fun p hq => by cases hq; exact ⟨by simp only; omega, by simp only; omega, by simp only; omega, by simp only; omega⟩⟩ ⟨by (simp only [List.length_append, List.length_singleton]; (first | exact rfl | (simp (disch := omega) only [wrapI]; exact rfl))), (by simp only [List.map_append, List.map_cons, List.map_nil]; (first | exact rfl | (simp (disch := omega) only [wrapI]; exact rfl))), by simp only; omega⟩
        · simp only [decide_eq_false_iff_not] at g3
          rw [List.drop_eq_nil_of_le (by omega), meetP, List.append_nil] at hz
          subst hz
          (repeat' (first | exact rfl | ((conv => whnf); first | exact rfl | exact ⟨rfl, rfl⟩ | refine ⟨(by kernel_rfl : drawOk _ _ _ _ = true), ?_⟩ | refine ⟨(by kernel_rfl : planOk _ _ _ _ = true), ?_⟩ | refine ⟨rfl, ?_⟩ | refine ⟨by (first | omega | (simp (disch := omega) only [wrapI]; omega) | (simp (disch := omega) only [wrapI]; simp; omega) | (simp; omega)), ?_⟩ | (intro ep) | fail)))
          all_goals (conv => whnf)
          exact back_of ep ⟨rfl, rfl, rfl⟩
      · rintro ⟨⟩
      · rintro e9
        (repeat' (first | exact rfl | ((conv => whnf); first | exact rfl | exact ⟨rfl, rfl⟩ | refine ⟨(by kernel_rfl : drawOk _ _ _ _ = true), ?_⟩ | refine ⟨(by kernel_rfl : planOk _ _ _ _ = true), ?_⟩ | refine ⟨rfl, ?_⟩ | refine ⟨by (first | omega | (simp (disch := omega) only [wrapI]; omega) | (simp (disch := omega) only [wrapI]; simp; omega) | (simp; omega)), ?_⟩ | (intro ep) | fail)))
        all_goals (conv => whnf)
        exact ⟨pure_map R fun x => rfl, rfl, rfl⟩
end Go.Ab.V
