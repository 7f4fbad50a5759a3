/-
  What is proved here serves the law's text: each part says its own claim and its conditions. No condition is left open.
-/
import Derived.Test.YthdhhhgjdegafaaJA
import Derived.Test.YthdhhhgjdegafaaKM
set_option linter.unusedSimpArgs false
set_option linter.unusedVariables false

/-
  The fewest voices: the program's walk. No condition but the sizes of numbers.
-/
namespace Go.Ab.V
open Go.Proofs

@[irreducible] def S4Q (S : FSr) (res : Option (List Int)) (r : AV) (h' : Heap) : Prop := match res with
  | none => r = .bool true ∧ h'.st.take 4 = S.h4 .nils 72 ∧ h'.dy = []
  | some s => r = .bool false ∧ h'.st.take 4 = S.h4 (intsA s) (S.F s) ∧ h'.dy = []
def A47 : Ann := fun r => match r with
  | 0 => { slots := [(0, 4), (1, 5), (2, 6)] }
  | 1 => { slots := [(0, 7)] }
  | 2 => { slots := [(0, 8)] }
  | _ => {}
set_option maxHeartbeats 16000000 in
set_option maxRecDepth 100000 in
theorem sets47 (S : FSr) (X : LmOk S.x) (hN : chkN S.n = 0) (hs1 : 1 ≤ S.size) (hs5 : S.size ≤ 5) :
    ACalls C.P 47 [.int .i64 (S.L : Int), .int .i64 (S.size : Int), .fn (.func 46) [] S.caps] ⟨S.h4 .nils 72, []⟩ (S4Q S ((subs S.L S.size 0 []).find? S.bad)) := by
  obtain ⟨Q, hQ⟩ : ∃ Q, Q = (subs S.L S.size 0 []).find? S.bad := ⟨_, rfl⟩
  rw [← hQ]
  refine fn_of (okz [] [70] []) mixed (A := A47) 6 Try.func47 rfl ?_
  unfold FSr.h4
  (repeat' (first | ((conv => whnf); first | refine (forceL_eq S.caps _).mpr ?_ | exact rfl | exact ⟨rfl, rfl⟩ | refine ⟨(by kernel_rfl : drawOk _ _ _ _ = true), ?_⟩ | refine ⟨(by kernel_rfl : planOk _ _ _ _ = true), ?_⟩ | refine ⟨rfl, ?_⟩ | refine ⟨by (first | omega | (simp (disch := omega) only [wrapI]; omega) | (simp (disch := omega) only [wrapI]; simp; omega) | (simp; omega)), ?_⟩ | (intro ep) | (refine ifB (fun hb => ?_) (fun hb => ?_) <;> (try simp only [decide_eq_true_eq, decide_eq_false_iff_not, beq_iff_eq, beq_eq_false_iff_ne, bne_iff_ne, bne_eq_false_iff_eq, ne_eq, not_false_eq_true, not_true_eq_false, Bool.not_eq_true, Bool.not_eq_true', Bool.not_eq_false', Int.not_lt, Int.not_le] at hb) <;> (try simp (disch := omega) only [wrapI] at hb) <;> (try (exfalso; omega))) | fail)))
  all_goals (conv => whnf)
  rename_i p4 p5 p6 p7
  refine ACalls.liftC 7 9 p7 1 0 0 (by decide) (by exact rfl) (by exact rfl) (by exact rfl) fun e9 => ?_
  have hC := sets70 ⟨S.x, S.n, S.e0, S.e1, S.e2, S.e3, p4, p5, p6, p7, ep, S.size⟩ X hN hs1 hs5 S.size 0 (by simp) 0 [] e9 [] rfl rfl (by intro r h; simp at h) (by simp) (Nat.zero_le _) 1 rfl
  refine ACalls.part (st1 := FSr.h10 ⟨S.x, S.n, S.e0, S.e1, S.e2, S.e3, p4, p5, p6, p7, ep, S.size⟩ e9 [] 0) (dy := []) 10 (by exact rfl) (by exact rfl) (by exact rfl) hC ?_
  rintro r h1 hq
  have hq : SQ ⟨S.x, S.n, S.e0, S.e1, S.e2, S.e3, p4, p5, p6, p7, ep, S.size⟩ ((subs S.L S.size 0 []).find? S.bad) 0 [] r h1 := hq
  rw [← hQ] at hq
  cases hQq : Q with
  | none =>
    rw [hQq] at hq
    obtain ⟨rfl, e', R', h2, h3, hst, hd⟩ := sq_none hq
    rw [padTo_of hst rfl, hd]
    unfold FSr.h10 FSr.h4
    (repeat' (first | ((conv => whnf); first | exact rfl | exact ⟨rfl, rfl⟩ | refine ⟨(by kernel_rfl : drawOk _ _ _ _ = true), ?_⟩ | refine ⟨(by kernel_rfl : planOk _ _ _ _ = true), ?_⟩ | refine ⟨rfl, ?_⟩ | refine ⟨by (first | omega | (simp (disch := omega) only [wrapI]; omega) | (simp (disch := omega) only [wrapI]; simp; omega) | (simp; omega)), ?_⟩ | (intro ep) | (refine ifB (fun hb => ?_) (fun hb => ?_) <;> (try simp only [decide_eq_true_eq, decide_eq_false_iff_not, beq_iff_eq, beq_eq_false_iff_ne, bne_iff_ne, bne_eq_false_iff_eq, ne_eq, not_false_eq_true, not_true_eq_false, Bool.not_eq_true, Bool.not_eq_true', Bool.not_eq_false', Int.not_lt, Int.not_le] at hb) <;> (try simp (disch := omega) only [wrapI] at hb) <;> (try (exfalso; omega))) | fail)))
    all_goals (conv => whnf)
    unfold S4Q
    exact ⟨rfl, rfl, rfl⟩
  | some q =>
    rw [hQq] at hq
    obtain ⟨rfl, hst, hd⟩ := sq_some hq
    obtain ⟨b0, b1, b2, b3, b4, b5, hp⟩ := padTo_pre hst rfl
    rw [hp, hd]
    unfold FSr.h4
    (repeat' (first | ((conv => whnf); first | exact rfl | exact ⟨rfl, rfl⟩ | refine ⟨(by kernel_rfl : drawOk _ _ _ _ = true), ?_⟩ | refine ⟨(by kernel_rfl : planOk _ _ _ _ = true), ?_⟩ | refine ⟨rfl, ?_⟩ | refine ⟨by (first | omega | (simp (disch := omega) only [wrapI]; omega) | (simp (disch := omega) only [wrapI]; simp; omega) | (simp; omega)), ?_⟩ | (intro ep) | (refine ifB (fun hb => ?_) (fun hb => ?_) <;> (try simp only [decide_eq_true_eq, decide_eq_false_iff_not, beq_iff_eq, beq_eq_false_iff_ne, bne_iff_ne, bne_eq_false_iff_eq, ne_eq, not_false_eq_true, not_true_eq_false, Bool.not_eq_true, Bool.not_eq_true', Bool.not_eq_false', Int.not_lt, Int.not_le] at hb) <;> (try simp (disch := omega) only [wrapI] at hb) <;> (try (exfalso; omega))) | fail)))
    all_goals (conv => whnf)
    unfold S4Q
    exact ⟨rfl, rfl, rfl⟩

/-- the sizes in turn: the first set that is no dead end -/
def fewF (F : List Int → Int) (L : Nat) : Nat → Nat → Option (List Int)
  | 0, _ => none
  | k + 1, q => match (subs L q 0 []).find? fun s => decide (F s ≠ 72) with
    | some s => some s
    | none => fewF F L k (q + 1)
def fewV (x : Lm) (n : List Nt) : AV := if both x n ≠ 0 then .tup [.nils, .int .i64 (both x n)] else if n = [] then .tup [.nils, .int .i64 0] else
  match fewF (fun s => errR (only x s) n) x.lo.length x.lo.length 1 with
  | none => .tup [.nils, .int .i64 72]
  | some s => if errR (only x s) n ≠ 0 then .tup [.nils, .int .i64 (errR (only x s) n)] else .tup [intsA s, .int .i64 0]
def A27 : Ann := fun r => match r with
  | 0 => { slots := [(0, 0), (1, 1), (2, 2), (3, 3)] }
  | 10 => { plan := some (.br 0 1 (.one 1 (.one 2 .done)) (.one 0 (.one 2 .done))) }
  | _ => {}
set_option maxHeartbeats 16000000 in
set_option maxRecDepth 100000 in
theorem fewest27 (x : Lm) (n : List Nt) (hl : x.lo.length ≤ 9223372036854775807) (hh : x.hi.length ≤ 9223372036854775807) (h3 : n.length ≤ 9223372036854775807) : PRet C.P 27 [lmA x, ntsA n] (fewV x n) := by
  have hB := check51_spec x n hl hh h3
  unfold fewV
  by_cases c1 : both x n ≠ 0
  · rw [if_pos c1]
    generalize both x n = b at hB c1
    refine pret_of (okx [] [47]) mixed (A := A27) 4 Try.func27 rfl ?_
    (repeat' (first | exact rfl | ((conv => whnf); first | refine ⟨_, hB, ?_⟩ | exact rfl | exact ⟨rfl, rfl⟩ | refine ⟨(by kernel_rfl : drawOk _ _ _ _ = true), ?_⟩ | refine ⟨(by kernel_rfl : planOk _ _ _ _ = true), ?_⟩ | refine ⟨rfl, ?_⟩ | refine ⟨by (first | omega | (simp (disch := omega) only [wrapI]; omega) | (simp (disch := omega) only [wrapI]; simp; omega) | (simp; omega)), ?_⟩ | (intro ep) | (refine ifB (fun hb => ?_) (fun hb => ?_) <;> (try simp only [decide_eq_true_eq, decide_eq_false_iff_not, beq_iff_eq, beq_eq_false_iff_ne, bne_iff_ne, bne_eq_false_iff_eq, ne_eq, not_false_eq_true, not_true_eq_false, Bool.not_eq_true, Bool.not_eq_true', Bool.not_eq_false', Int.not_lt, Int.not_le] at hb) <;> (try simp (disch := omega) only [wrapI] at hb) <;> (try (exfalso; omega))) | fail)))
  rw [if_neg c1]
  have c1 : both x n = 0 := by omega
  rw [c1] at hB
  by_cases c2 : n = []
  · rw [if_pos c2]
    subst c2
    refine pret_of (okx [] [47]) mixed (A := A27) 4 Try.func27 rfl ?_
    (repeat' (first | exact rfl | ((conv => whnf); first | refine ⟨_, hB, ?_⟩ | exact rfl | exact ⟨rfl, rfl⟩ | refine ⟨(by kernel_rfl : drawOk _ _ _ _ = true), ?_⟩ | refine ⟨(by kernel_rfl : planOk _ _ _ _ = true), ?_⟩ | refine ⟨rfl, ?_⟩ | refine ⟨by (first | omega | (simp (disch := omega) only [wrapI]; omega) | (simp (disch := omega) only [wrapI]; simp; omega) | (simp; omega)), ?_⟩ | (intro ep) | (refine ifB (fun hb => ?_) (fun hb => ?_) <;> (try simp only [decide_eq_true_eq, decide_eq_false_iff_not, beq_iff_eq, beq_eq_false_iff_ne, bne_iff_ne, bne_eq_false_iff_eq, ne_eq, not_false_eq_true, not_true_eq_false, Bool.not_eq_true, Bool.not_eq_true', Bool.not_eq_false', Int.not_lt, Int.not_le] at hb) <;> (try simp (disch := omega) only [wrapI] at hb) <;> (try (exfalso; omega))) | fail)))
  rw [if_neg c2]
  have hX : chkL x = 0 := by
    unfold both at c1; split at c1
    · rename_i h; exact absurd c1 h
    · rename_i h; simpa using h
  have hN : chkN n = 0 := by unfold both at c1; rw [hX] at c1; simpa using c1
  have X := lmOk_of hX
  have X5 := X.lo5
  have X1 := X.lo1
  have cn : n.length ≠ 0 := fun h => c2 (List.length_eq_zero_iff.1 h)
  obtain ⟨RES, hRES⟩ : ∃ RES, RES = fewF (fun s => errR (only x s) n) x.lo.length x.lo.length 1 := ⟨_, rfl⟩
  rw [← hRES]
  obtain ⟨V, hV⟩ : ∃ V, V = (match RES with
    | none => AV.tup [.nils, .int .i64 72]
    | some s => if errR (only x s) n ≠ 0 then .tup [.nils, .int .i64 (errR (only x s) n)] else .tup [intsA s, .int .i64 0]) := ⟨_, rfl⟩
  refine Eq.mp (congrArg (fun v => PRet C.P 27 _ v) hV) ?_
  refine pret_of (okx [] [47]) mixed (A := A27) 4 Try.func27 rfl ?_
  (repeat' (first | exact rfl | ((conv => whnf); first | refine ⟨_, hB, ?_⟩ | exact rfl | exact ⟨rfl, rfl⟩ | refine ⟨(by kernel_rfl : drawOk _ _ _ _ = true), ?_⟩ | refine ⟨(by kernel_rfl : planOk _ _ _ _ = true), ?_⟩ | refine ⟨rfl, ?_⟩ | refine ⟨by (first | omega | (simp (disch := omega) only [wrapI]; omega) | (simp (disch := omega) only [wrapI]; simp; omega) | (simp; omega)), ?_⟩ | (intro ep) | (refine ifB (fun hb => ?_) (fun hb => ?_) <;> (try simp only [decide_eq_true_eq, decide_eq_false_iff_not, beq_iff_eq, beq_eq_false_iff_ne, bne_iff_ne, bne_eq_false_iff_eq, ne_eq, not_false_eq_true, not_true_eq_false, Bool.not_eq_true, Bool.not_eq_true', Bool.not_eq_false', Int.not_lt, Int.not_le] at hb) <;> (try simp (disch := omega) only [wrapI] at hb) <;> (try (exfalso; omega))) | fail)))
  all_goals (conv => whnf)
  rename_i p0 p1 p2
  refine loopX (okx [] [47]) mixed (A := A27) [2, 4, 5, 7, 8] [0, 1, 2, 3] (S := { q : Nat // (1 ≤ q ∧ q ≤ x.lo.length + 1) ∧ fewF (fun s => errR (only x s) n) x.lo.length (x.lo.length + 1 - q) q = RES })
    (fr := fun z => frOf 0 40 [(2, .optr (.s 0) p0 5 0 0), (4, .optr (.s 2) p2 1 0 0), (5, .optr (.s 3) ep 1 0 0), (7, .fn (.func 46) [] [.optr (.s 0) p0 5 0 0, .optr (.s 1) p1 1 0 0, .optr (.s 3) ep 1 0 0, .optr (.s 2) p2 1 0 0]), (8, .int .i64 (z.1 : Int))])
    (h := fun z => ⟨[.vec p0 [lmR x], .vec p1 [[ntsA n]], .vec p2 [[.nils]], .vec ep [[.int .i64 72]]], []⟩) (μ := fun z => x.lo.length + 1 - z.1) ⟨1, by omega, by rw [hRES, show x.lo.length + 1 - 1 = x.lo.length by omega]⟩ ?_ ?_
    [4, 5] [2, 3] (S' := Unit) (X := fun _ => 0) (frX := fun _ => frOf 0 40 [(4, .optr (.s 2) p2 1 0 0), (5, .optr (.s 3) ep 1 0 0)])
    (hX := fun _ => ⟨[.hole, .hole, .vec p2 [[match RES with | none => .nils | some s => intsA s]], .vec ep [[.int .i64 (match RES with | none => 72 | some s => errR (only x s) n)]]], []⟩) (R := fun _ _ => False) ?_ (fun _ _ h => h.elim) ?_
  · exact rfl
  · exact rfl
  · rintro ⟨q, hq, hu⟩
    show aexR _ _ _ (frOf 0 40 [(2, .optr (.s 0) p0 5 0 0), (4, .optr (.s 2) p2 1 0 0), (5, .optr (.s 3) ep 1 0 0), (7, .fn (.func 46) [] [.optr (.s 0) p0 5 0 0, .optr (.s 1) p1 1 0 0, .optr (.s 3) ep 1 0 0, .optr (.s 2) p2 1 0 0]), (8, .int .i64 (q : Int))]) ⟨[.vec p0 [lmR x], .vec p1 [[ntsA n]], .vec p2 [[.nils]], .vec ep [[.int .i64 72]]], []⟩ _
    by_cases g : q ≤ x.lo.length
    · rw [show x.lo.length + 1 - q = (x.lo.length + 1 - (q + 1)) + 1 by omega, fewF] at hu
      have hC := sets47 ⟨x, n, p0, p1, p2, ep, 0, 0, 0, 0, 0, q⟩ X hN hq.1 (by simp only; omega)
      have hC : ACalls C.P 47 [.int .i64 (x.lo.length : Int), .int .i64 (q : Int), .fn (.func 46) [] [.optr (.s 0) p0 5 0 0, .optr (.s 1) p1 1 0 0, .optr (.s 3) ep 1 0 0, .optr (.s 2) p2 1 0 0]] ⟨[.vec p0 [lmR x], .vec p1 [[ntsA n]], .vec p2 [[.nils]], .vec ep [[.int .i64 72]]], []⟩ (S4Q ⟨x, n, p0, p1, p2, ep, 0, 0, 0, 0, 0, q⟩ ((subs x.lo.length q 0 []).find? fun s => decide (errR (only x s) n ≠ 72))) := hC
      generalize (subs x.lo.length q 0 []).find? (fun s => decide (errR (only x s) n ≠ 72)) = Q at hC hu
      (repeat' (first | exact rfl | ((conv => whnf); first | exact rfl | exact ⟨rfl, rfl⟩ | refine ⟨(by kernel_rfl : drawOk _ _ _ _ = true), ?_⟩ | refine ⟨(by kernel_rfl : planOk _ _ _ _ = true), ?_⟩ | refine ⟨rfl, ?_⟩ | refine ⟨by (first | omega | (simp (disch := omega) only [wrapI]; omega) | (simp (disch := omega) only [wrapI]; simp; omega) | (simp; omega)), ?_⟩ | (intro ep) | (refine ifB (fun hb => ?_) (fun hb => ?_) <;> (try simp only [decide_eq_true_eq, decide_eq_false_iff_not, beq_iff_eq, beq_eq_false_iff_ne, bne_iff_ne, bne_eq_false_iff_eq, ne_eq, not_false_eq_true, not_true_eq_false, Bool.not_eq_true, Bool.not_eq_true', Bool.not_eq_false', Int.not_lt, Int.not_le] at hb) <;> (try simp (disch := omega) only [wrapI] at hb) <;> (try (exfalso; omega))) | fail)))
      all_goals (conv => whnf)
      refine ACalls.part (st1 := _) (dy := []) 4 (by exact rfl) (by exact rfl) (by exact rfl) hC ?_
      rintro r h1 hq'
      unfold S4Q at hq'
      cases Q with
      | none =>
        obtain ⟨rfl, hst, hd⟩ := hq'
        rw [padTo_of hst rfl, hd]
        unfold FSr.h4
        (repeat' (first | exact rfl | ((conv => whnf); first | exact rfl | exact ⟨rfl, rfl⟩ | refine ⟨(by kernel_rfl : drawOk _ _ _ _ = true), ?_⟩ | refine ⟨(by kernel_rfl : planOk _ _ _ _ = true), ?_⟩ | refine ⟨rfl, ?_⟩ | refine ⟨by (first | omega | (simp (disch := omega) only [wrapI]; omega) | (simp (disch := omega) only [wrapI]; simp; omega) | (simp; omega)), ?_⟩ | (intro ep) | (refine ifB (fun hb => ?_) (fun hb => ?_) <;> (try simp only [decide_eq_true_eq, decide_eq_false_iff_not, beq_iff_eq, beq_eq_false_iff_ne, bne_iff_ne, bne_eq_false_iff_eq, ne_eq, not_false_eq_true, not_true_eq_false, Bool.not_eq_true, Bool.not_eq_true', Bool.not_eq_false', Int.not_lt, Int.not_le] at hb) <;> (try simp (disch := omega) only [wrapI] at hb) <;> (try (exfalso; omega))) | fail)))
        all_goals (conv => whnf)
        exact back_of ⟨q + 1, by omega, hu⟩ ⟨by (first | exact rfl | (simp (disch := omega) only [wrapI]; exact rfl)), rfl, by simp only; omega⟩
      | some s =>
        obtain ⟨rfl, hst, hd⟩ := hq'
        rw [padTo_of hst rfl, hd]
        unfold FSr.h4
        simp only at hu
        (repeat' (first | exact rfl | ((conv => whnf); first | exact rfl | exact ⟨rfl, rfl⟩ | refine ⟨(by kernel_rfl : drawOk _ _ _ _ = true), ?_⟩ | refine ⟨(by kernel_rfl : planOk _ _ _ _ = true), ?_⟩ | refine ⟨rfl, ?_⟩ | refine ⟨by (first | omega | (simp (disch := omega) only [wrapI]; omega) | (simp (disch := omega) only [wrapI]; simp; omega) | (simp; omega)), ?_⟩ | (intro ep) | (refine ifB (fun hb => ?_) (fun hb => ?_) <;> (try simp only [decide_eq_true_eq, decide_eq_false_iff_not, beq_iff_eq, beq_eq_false_iff_ne, bne_iff_ne, bne_eq_false_iff_eq, ne_eq, not_false_eq_true, not_true_eq_false, Bool.not_eq_true, Bool.not_eq_true', Bool.not_eq_false', Int.not_lt, Int.not_le] at hb) <;> (try simp (disch := omega) only [wrapI] at hb) <;> (try (exfalso; omega))) | fail)))
        all_goals (conv => whnf)
        refine back_of () ⟨rfl, rfl, ?_⟩
        rw [← hu]
        exact rfl
    · have e : q = x.lo.length + 1 := by omega
      rw [show x.lo.length + 1 - q = 0 by omega, fewF] at hu
      (repeat' (first | exact rfl | ((conv => whnf); first | exact rfl | exact ⟨rfl, rfl⟩ | refine ⟨(by kernel_rfl : drawOk _ _ _ _ = true), ?_⟩ | refine ⟨(by kernel_rfl : planOk _ _ _ _ = true), ?_⟩ | refine ⟨rfl, ?_⟩ | refine ⟨by (first | omega | (simp (disch := omega) only [wrapI]; omega) | (simp (disch := omega) only [wrapI]; simp; omega) | (simp; omega)), ?_⟩ | (intro ep) | (refine ifB (fun hb => ?_) (fun hb => ?_) <;> (try simp only [decide_eq_true_eq, decide_eq_false_iff_not, beq_iff_eq, beq_eq_false_iff_ne, bne_iff_ne, bne_eq_false_iff_eq, ne_eq, not_false_eq_true, not_true_eq_false, Bool.not_eq_true, Bool.not_eq_true', Bool.not_eq_false', Int.not_lt, Int.not_le] at hb) <;> (try simp (disch := omega) only [wrapI] at hb) <;> (try (exfalso; omega))) | fail)))
      all_goals (conv => whnf)
      refine back_of () ⟨rfl, rfl, ?_⟩
      rw [← hu]
      exact rfl
  · rintro ⟨⟩
    cases hR : RES with
    | none =>
      rw [hR] at hV
      simp only at hV
      (repeat' (first | exact rfl | ((conv => whnf); first | exact rfl | exact ⟨rfl, rfl⟩ | refine ⟨(by kernel_rfl : drawOk _ _ _ _ = true), ?_⟩ | refine ⟨(by kernel_rfl : planOk _ _ _ _ = true), ?_⟩ | refine ⟨rfl, ?_⟩ | refine ⟨by (first | omega | (simp (disch := omega) only [wrapI]; omega) | (simp (disch := omega) only [wrapI]; simp; omega) | (simp; omega)), ?_⟩ | (intro ep) | (refine ifB (fun hb => ?_) (fun hb => ?_) <;> (try simp only [decide_eq_true_eq, decide_eq_false_iff_not, beq_iff_eq, beq_eq_false_iff_ne, bne_iff_ne, bne_eq_false_iff_eq, ne_eq, not_false_eq_true, not_true_eq_false, Bool.not_eq_true, Bool.not_eq_true', Bool.not_eq_false', Int.not_lt, Int.not_le] at hb) <;> (try simp (disch := omega) only [wrapI] at hb) <;> (try (exfalso; omega))) | fail)))
      all_goals (conv => whnf)
      all_goals (refine ⟨?_, ?_⟩)
      all_goals (repeat' (first | exact rfl | ((conv => whnf); first | exact rfl | exact ⟨rfl, rfl⟩ | refine ⟨(by kernel_rfl : drawOk _ _ _ _ = true), ?_⟩ | refine ⟨(by kernel_rfl : planOk _ _ _ _ = true), ?_⟩ | refine ⟨rfl, ?_⟩ | refine ⟨by (first | omega | (simp (disch := omega) only [wrapI]; omega) | (simp (disch := omega) only [wrapI]; simp; omega) | (simp; omega)), ?_⟩ | (intro ep) | (refine ifB (fun hb => ?_) (fun hb => ?_) <;> (try simp only [decide_eq_true_eq, decide_eq_false_iff_not, beq_iff_eq, beq_eq_false_iff_ne, bne_iff_ne, bne_eq_false_iff_eq, ne_eq, not_false_eq_true, not_true_eq_false, Bool.not_eq_true, Bool.not_eq_true', Bool.not_eq_false', Int.not_lt, Int.not_le] at hb) <;> (try simp (disch := omega) only [wrapI] at hb) <;> (try (exfalso; omega))) | fail)))
      all_goals first | (rw [hV]; done) | (rw [hV]; exact rfl)
    | some s =>
      rw [hR] at hV
      simp only at hV
      by_cases c : errR (only x s) n = 0
      · rw [if_neg (by simp [c])] at hV
        have c' : (errR (only x s) n != 0) = false := by simp [c]
        (repeat' (first | exact rfl | ((conv => whnf); first | exact rfl | exact ⟨rfl, rfl⟩ | refine ⟨(by kernel_rfl : drawOk _ _ _ _ = true), ?_⟩ | refine ⟨(by kernel_rfl : planOk _ _ _ _ = true), ?_⟩ | refine ⟨rfl, ?_⟩ | refine ⟨by (first | omega | (simp (disch := omega) only [wrapI]; omega) | (simp (disch := omega) only [wrapI]; simp; omega) | (simp; omega)), ?_⟩ | (intro ep) | (refine ifB (fun hb => ?_) (fun hb => ?_) <;> (try simp only [decide_eq_true_eq, decide_eq_false_iff_not, beq_iff_eq, beq_eq_false_iff_ne, bne_iff_ne, bne_eq_false_iff_eq, ne_eq, not_false_eq_true, not_true_eq_false, Bool.not_eq_true, Bool.not_eq_true', Bool.not_eq_false', Int.not_lt, Int.not_le] at hb) <;> (try simp (disch := omega) only [wrapI] at hb) <;> (try (exfalso; omega))) | fail)))
        all_goals first | (rw [hV]; done) | (rw [hV]; exact rfl)
      · rw [if_pos c] at hV
        have c' : (errR (only x s) n != 0) = true := by simp [c]
        (repeat' (first | exact rfl | ((conv => whnf); first | exact rfl | exact ⟨rfl, rfl⟩ | refine ⟨(by kernel_rfl : drawOk _ _ _ _ = true), ?_⟩ | refine ⟨(by kernel_rfl : planOk _ _ _ _ = true), ?_⟩ | refine ⟨rfl, ?_⟩ | refine ⟨by (first | omega | (simp (disch := omega) only [wrapI]; omega) | (simp (disch := omega) only [wrapI]; simp; omega) | (simp; omega)), ?_⟩ | (intro ep) | (refine ifB (fun hb => ?_) (fun hb => ?_) <;> (try simp only [decide_eq_true_eq, decide_eq_false_iff_not, beq_iff_eq, beq_eq_false_iff_ne, bne_iff_ne, bne_eq_false_iff_eq, ne_eq, not_false_eq_true, not_true_eq_false, Bool.not_eq_true, Bool.not_eq_true', Bool.not_eq_false', Int.not_lt, Int.not_le] at hb) <;> (try simp (disch := omega) only [wrapI] at hb) <;> (try (exfalso; omega))) | fail)))
        all_goals (conv => whnf)
        all_goals (refine ⟨?_, ?_⟩)
        all_goals (repeat' (first | exact rfl | ((conv => whnf); first | exact rfl | exact ⟨rfl, rfl⟩ | refine ⟨(by kernel_rfl : drawOk _ _ _ _ = true), ?_⟩ | refine ⟨(by kernel_rfl : planOk _ _ _ _ = true), ?_⟩ | refine ⟨rfl, ?_⟩ | refine ⟨by (first | omega | (simp (disch := omega) only [wrapI]; omega) | (simp (disch := omega) only [wrapI]; simp; omega) | (simp; omega)), ?_⟩ | (intro ep) | (refine ifB (fun hb => ?_) (fun hb => ?_) <;> (try simp only [decide_eq_true_eq, decide_eq_false_iff_not, beq_iff_eq, beq_eq_false_iff_ne, bne_iff_ne, bne_eq_false_iff_eq, ne_eq, not_false_eq_true, not_true_eq_false, Bool.not_eq_true, Bool.not_eq_true', Bool.not_eq_false', Int.not_lt, Int.not_le] at hb) <;> (try simp (disch := omega) only [wrapI] at hb) <;> (try (exfalso; omega))) | fail)))
        all_goals first | (rw [hV]; done) | (rw [hV]; exact rfl)
end Go.Ab.V

/-
  Some voices alone, and all ascending lists, as the document makes them: the walks. No condition but the sizes of numbers.
-/
namespace Go.Ab.V
open Go.Proofs

def extW (l : List Int) (a L : Nat) : List (List Int) := (upto a L).map fun v => l ++ [v]
theorem extW_cons {l : List Int} {a L : Nat} (h : a < L) : extW l a L = [l ++ [(a : Int) + 1]] ++ extW l (a + 1) L := by
  unfold extW
  rw [upto_cons h]
  rfl
theorem extW_nil {l : List Int} {a L : Nat} (h : L ≤ a) : extW l a L = [] := by unfold extW; rw [upto_nil h]; rfl
/-- the last number of a list -/
def lastN (l : List Int) : Int := l.getD (l.length - 1) 0
def extS (L : Nat) (C : List (List Int)) : List (List Int) := C.flatMap fun l => extW l (lastN l).toNat L
theorem extS_cons (L : Nat) (l : List Int) (C : List (List Int)) : extS L (l :: C) = extW l (lastN l).toNat L ++ extS L C := by unfold extS; rw [List.flatMap_cons]
def setsB (L : Nat) : Nat → List (List Int) → List (List Int)
  | 0, C => C
  | k + 1, C => setsB L k (extS L C)
theorem setsB_succ (L : Nat) : ∀ (j : Nat) (C : List (List Int)), setsB L (j + 1) C = extS L (setsB L j C)
  | 0, C => rfl
  | j + 1, C => by
    show setsB L (j + 1) (extS L C) = _
    rw [setsB_succ L j]
    rfl
def A48 : Ann := fun r => match r with
  | 1 => { slots := [(0, 0)] }
  | 5 => { lifts := [(6, 5, 1)] }
  | 15 => { slots := [(5, 1), (7, 2), (8, 1), (9, 4), (10, 5)], frz := [2049, 1001] }
  | 16 => { frz := [5] }
  | _ => {}
set_option maxHeartbeats 16000000 in
set_option maxRecDepth 100000 in
theorem sets48 (L k : Nat) (hL : L ≤ 5) (hk : k ≤ 5600) (hb : ∀ j, j ≤ k → (setsB L j [[]]).length ≤ 100000 ∧ ∀ l ∈ setsB L j [[]], l.length ≤ 100000 ∧ 0 ≤ lastN l ∧ lastN l ≤ L) : PRet C.P 48 [.int .i64 (L : Int), .int .i64 (k : Int)] (lsA (setsB L k [[]])) := by
  refine pret_of ok mixed (A := A48) 6 Try.func48 rfl ?_
  (repeat' (first | exact rfl | ((conv => whnf); first | exact rfl | exact ⟨rfl, rfl⟩ | refine ⟨(by kernel_rfl : drawOk _ _ _ _ = true), ?_⟩ | refine ⟨(by kernel_rfl : planOk _ _ _ _ = true), ?_⟩ | refine ⟨rfl, ?_⟩ | refine ⟨by (first | omega | (simp (disch := omega) only [wrapI]; omega) | (simp (disch := omega) only [wrapI]; simp; omega) | (simp; omega)), ?_⟩ | (intro ep) | fail)))
  all_goals (conv => whnf)
  refine wk_mapc (nilS 1) (fun σ a u h => nilS_rel 1 σ a u h) ?_
  refine wk_tr (tr_fz 0 ep (rows := [[intsA []]]) rfl (pureRows_of1 (by kernel_rfl)) (by (repeat' (first | exact trivial | exact rfl | ((conv => whnf); first | exact trivial | exact rfl | refine ⟨?_, ?_⟩ | fail)))) (by (repeat' (first | exact trivial | exact rfl | ((conv => whnf); first | exact trivial | exact rfl | refine ⟨?_, ?_⟩ | fail)))) (by simp) rfl rfl (tr_done ?_))
  refine loopX ok mixed (A := A48) [0, 1, 5] [] (S := { j : Nat // j ≤ k })
    (fr := fun j => frOf 0 57 [(0, .int .i64 (L : Int)), (1, .int .i64 ((k - j.1 : Nat) : Int)), (5, lsA (setsB L j.1 [[]]))])
    (h := fun _ => ⟨List.replicate 6 .hole, []⟩) (μ := fun j => k - j.1) ⟨0, Nat.zero_le _⟩ ?_ ?_
    [5] [] (S' := Unit) (X := fun _ => 0) (frX := fun _ => frOf 0 57 [(5, lsA (setsB L k [[]]))]) (hX := fun _ => ⟨List.replicate 6 .hole, []⟩) (R := fun _ _ => False) ?_ (fun _ _ h => h.elim) ?_
  · exact rfl
  · exact rfl
  · rintro ⟨j, hj⟩
    obtain ⟨bC, bl⟩ := hb j hj
    show aexR _ _ _ (frOf 0 57 [(0, .int .i64 (L : Int)), (1, .int .i64 ((k - j : Nat) : Int)), (5, lsA (setsB L j [[]]))]) ⟨List.replicate 6 .hole, []⟩ _
    (conv => whnf)
    refine ifB (fun g => ?_) (fun g => ?_)
    · simp only [decide_eq_true_eq] at g
      have g : j < k := by omega
      obtain ⟨bR, _⟩ := hb (j + 1) g
      have hR := setsB_succ L j [[]]
      generalize setsB L (j + 1) [[]] = R at bR hR
      generalize hCC : setsB L j [[]] = CC at bC bl hR
      (repeat' (first | ((conv => whnf); first | exact rfl | exact ⟨rfl, rfl⟩ | refine ⟨(by kernel_rfl : drawOk _ _ _ _ = true), ?_⟩ | refine ⟨(by kernel_rfl : planOk _ _ _ _ = true), ?_⟩ | refine ⟨rfl, ?_⟩ | refine ⟨by (first | omega | (simp (disch := omega) only [wrapI]; omega) | (simp (disch := omega) only [wrapI]; simp; omega) | (simp; omega)), ?_⟩ | (intro ep) | fail)))
      all_goals (conv => whnf)
      refine loopX ok mixed (A := A48) [0, 1, 5, 6, 7] [5] (S := { z : Nat × Nat × List (List Int) // z.2.1 ≤ CC.length ∧ z.2.2 ++ extS L (CC.drop z.2.1) = R })
        (fr := fun z => frOf 0 57 [(0, .int .i64 (L : Int)), (1, .int .i64 ((k - j : Nat) : Int)), (5, lsA CC), (6, .oslc (.s 5) z.1.1 1 0 z.1.2.2.length false), (7, .int .i64 (z.1.2.1 : Int))])
        (h := fun z => ⟨[.hole, .hole, .hole, .hole, .hole, .vec z.1.1 (rowsL z.1.2.2)], []⟩) (μ := fun z => CC.length - z.1.2.1) ⟨(ep, 0, []), Nat.zero_le _, by simp [hR]⟩ ?_ ?_
        [0, 1, 6] [5] (S' := { z : Nat × List (List Int) // z.2 = R }) (X := fun _ => 2) (frX := fun z => frOf 0 57 [(0, .int .i64 (L : Int)), (1, .int .i64 ((k - j : Nat) : Int)), (6, .oslc (.s 5) z.1.1 1 0 z.1.2.length false)])
        (hX := fun z => ⟨[.hole, .hole, .hole, .hole, .hole, .vec z.1.1 (rowsL z.1.2)], []⟩) (R := fun _ _ => False) ?_ (fun _ _ h => h.elim) ?_
      · exact rfl
      · exact rfl
      · rintro ⟨⟨e, i, acc⟩, hi, hu⟩
        simp only at hi hu
        show aexR _ _ _ (frOf 0 57 [(0, .int .i64 (L : Int)), (1, .int .i64 ((k - j : Nat) : Int)), (5, lsA CC), (6, .oslc (.s 5) e 1 0 acc.length false), (7, .int .i64 (i : Int))]) ⟨[.hole, .hole, .hole, .hole, .hole, .vec e (rowsL acc)], []⟩ _
        (conv => whnf)
        refine ifB (fun g1 => ?_) (fun g1 => ?_)
        · simp only [decide_eq_true_eq] at g1
          have g1 : i < CC.length := by omega
          have hrow : (rowsL CC)[0 + ((i : Nat) : Int).toNat]? = some [intsA CC[i]] := mapR (f := fun l => [intsA l]) g1
          obtain ⟨hll, hla1, hla2⟩ := bl _ (List.getElem_mem g1)
          rw [List.drop_eq_getElem_cons g1, extS_cons] at hu
          have hlst : (0 < CC[i].length → (ints CC[i])[0 + (IntKind.i64.wrap ((CC[i].length : Int) - 1)).toNat]? = some [.int .i64 (lastN CC[i])]) ∧ (¬ 0 < CC[i].length → lastN CC[i] = 0) := by
            constructor
            · intro h
              have h2 : CC[i].length - 1 < CC[i].length := by omega
              rw [wrapI (by omega) (by omega), show ((CC[i].length : Int) - 1).toNat = CC[i].length - 1 by omega]
              unfold lastN
              rw [List.getD_eq_getElem?_getD, List.getElem?_eq_getElem h2]
              have := intsR h2
              rwa [Int.toNat_natCast] at this
            · intro h
              unfold lastN
              rw [List.getD_eq_getElem?_getD, List.getElem?_eq_none (by omega)]; rfl
          generalize CC[i] = l at hrow hll hu hla1 hla2 hlst
          obtain ⟨la, hla⟩ : ∃ la : Nat, lastN l = (la : Int) := ⟨(lastN l).toNat, by omega⟩
          rw [hla] at hu hla2 hlst
          rw [Int.toNat_natCast] at hu
          have hcase : (0 < l.length) ∨ ¬ (0 < l.length) := by omega
          rcases hcase with hc | hc
          all_goals
            have hlst1 := hlst.1
            have hlst2 := hlst.2
            first
              | (have hm := hlst1 hc; clear hlst1 hlst2)
              | (have hm := hlst2 hc; have hla0 : la = 0 := by omega
                 subst hla0; clear hlst1 hlst2)
            clear hlst
            (repeat' (first | ((conv => whnf); first | refine optS hrow ?_ | refine optS hm ?_ | exact rfl | exact ⟨rfl, rfl⟩ | refine ⟨(by kernel_rfl : drawOk _ _ _ _ = true), ?_⟩ | refine ⟨(by kernel_rfl : planOk _ _ _ _ = true), ?_⟩ | refine ⟨rfl, ?_⟩ | refine ⟨by (first | omega | (simp (disch := omega) only [wrapI]; omega) | (simp (disch := omega) only [wrapI]; simp; omega) | (simp; omega)), ?_⟩ | (intro ep) | (refine ifB (fun hb => ?_) (fun hb => ?_) <;> (try simp only [decide_eq_true_eq, decide_eq_false_iff_not, beq_iff_eq, beq_eq_false_iff_ne, bne_iff_ne, bne_eq_false_iff_eq, ne_eq, not_false_eq_true, not_true_eq_false, Bool.not_eq_true, Bool.not_eq_true', Bool.not_eq_false', Int.not_lt, Int.not_le] at hb) <;> (try simp (disch := omega) only [wrapI] at hb) <;> (try (exfalso; omega))) | fail)))
            all_goals (conv => whnf)
            refine loopX ok mixed (A := A48) [0, 1, 5, 6, 7, 10] [5] (S := { z : Nat × Nat × List (List Int) // z.2.1 ≤ L ∧ z.2.2 ++ (extW l z.2.1 L ++ extS L (CC.drop (i + 1))) = R })
              (fr := fun z => frOf 0 57 [(0, .int .i64 (L : Int)), (1, .int .i64 ((k - j : Nat) : Int)), (5, lsA CC), (6, .oslc (.s 5) z.1.1 1 0 z.1.2.2.length false), (7, .int .i64 (i : Int)), (10, .int .i64 (IntKind.i64.wrap ((z.1.2.1 : Int) + 1)))])
              (h := fun z => ⟨[.hole, .hole, .hole, .hole, .hole, .vec z.1.1 (rowsL z.1.2.2)], []⟩) (μ := fun z => L - z.1.2.1) ⟨(e, _, acc), by simp only; omega, hu⟩ ?_ ?_
              [0, 1, 5, 6, 7] [5] (S' := { z : Nat × List (List Int) // z.2 ++ extS L (CC.drop (i + 1)) = R }) (X := fun _ => 4)
              (frX := fun z => frOf 0 57 [(0, .int .i64 (L : Int)), (1, .int .i64 ((k - j : Nat) : Int)), (5, lsA CC), (6, .oslc (.s 5) z.1.1 1 0 z.1.2.length false), (7, .int .i64 (i : Int))])
              (hX := fun z => ⟨[.hole, .hole, .hole, .hole, .hole, .vec z.1.1 (rowsL z.1.2)], []⟩) (R := fun _ _ => False) ?_ (fun _ _ h => h.elim) ?_
            · exact rfl
            · exact rfl
            · rintro ⟨⟨e, v, acc⟩, hv, hu⟩
              simp only at hv hu
              show aexR _ _ _ (frOf 0 57 [(0, .int .i64 (L : Int)), (1, .int .i64 ((k - j : Nat) : Int)), (5, lsA CC), (6, .oslc (.s 5) e 1 0 acc.length false), (7, .int .i64 (i : Int)), (10, .int .i64 (IntKind.i64.wrap ((v : Int) + 1)))]) ⟨[.hole, .hole, .hole, .hole, .hole, .vec e (rowsL acc)], []⟩ _
              rw [show IntKind.i64.wrap ((v : Int) + 1) = (v : Int) + 1 from wrapI (by omega) (by omega)]
              (conv => whnf)
              refine ifB (fun g2 => ?_) (fun g2 => ?_)
              · simp only [decide_eq_true_eq] at g2
                have g2 : v < L := by omega
                rw [extW_cons g2] at hu
                have hacc : acc.length < R.length := by rw [← hu]; simp
                have t3 : List.take acc.length (List.drop 0 (rowsL acc)) = rowsL acc := by rw [List.drop_zero, List.take_of_length_le (by simp [rowsL])]
                have t4 : List.take l.length (List.drop 0 (ints l)) = ints l := by rw [List.drop_zero, List.take_of_length_le (by simp [ints])]
                (repeat' (first | ((conv => whnf); first | refine optS hrow ?_ | exact rfl | exact ⟨rfl, rfl⟩ | refine ⟨(by kernel_rfl : drawOk _ _ _ _ = true), ?_⟩ | refine ⟨(by kernel_rfl : planOk _ _ _ _ = true), ?_⟩ | refine ⟨rfl, ?_⟩ | refine ⟨by (first | omega | (simp (disch := omega) only [wrapI]; omega) | (simp (disch := omega) only [wrapI]; simp; omega) | (simp; omega)), ?_⟩ | (intro ep) | (refine ifB (fun hb => ?_) (fun hb => ?_) <;> (try simp only [decide_eq_true_eq, decide_eq_false_iff_not, beq_iff_eq, beq_eq_false_iff_ne, bne_iff_ne, bne_eq_false_iff_eq, ne_eq, not_false_eq_true, not_true_eq_false, Bool.not_eq_true, Bool.not_eq_true', Bool.not_eq_false', Int.not_lt, Int.not_le] at hb) <;> (try simp (disch := omega) only [wrapI] at hb) <;> (try (exfalso; omega))) | fail)))
                all_goals (conv => whnf)
                rename_i p1 p4
                have nsr : ∀ r ∈ List.take acc.length (List.drop 0 (rowsL acc)), r.all noS = true := fun r hr => by
                  rw [t3] at hr
                  obtain ⟨z, _, rfl⟩ := List.mem_map.1 hr
                  rfl
                have tt : List.take (List.take l.length (List.drop 0 (ints l))).length (List.drop 0 (List.take l.length (List.drop 0 (ints l)))) ++ [[.int .i64 ((v : Int) + 1)]] = ints (l ++ [(v : Int) + 1]) := by
                  rw [t4, List.drop_zero, List.take_of_length_le (Nat.le_refl _)]
                  simp [ints]
                have hR2 : pureRows (List.take (List.take l.length (List.drop 0 (ints l))).length (List.drop 0 (List.take l.length (List.drop 0 (ints l)))) ++ [[.int .i64 ((v : Int) + 1)]]) := by rw [tt]; exact pure_ints _
                refine ⟨hR2, by (repeat' (first | exact trivial | exact rfl | ((conv => whnf); first | exact trivial | exact rfl | refine ⟨?_, ?_⟩ | fail))), ⟨trivial, trivial, by (repeat' (first | exact trivial | exact rfl | ((conv => whnf); first | exact trivial | exact rfl | refine ⟨?_, ?_⟩ | fail))), trivial, by (repeat' (first | exact trivial | exact rfl | ((conv => whnf); first | exact trivial | exact rfl | refine ⟨?_, ?_⟩ | fail))), eqsP_snoc nsr, trivial⟩, trivial, ?_⟩
                (conv => whnf)
                have e5 := fcS_snoc (n := 1) (ep := p1) (sz := 1) (o := 0) (l := (List.take l.length (List.drop 0 (ints l))).length + 1) (lim := false) (R := List.take (List.take l.length (List.drop 0 (ints l))).length (List.drop 0 (List.take l.length (List.drop 0 (ints l)))) ++ [[.int .i64 ((v : Int) + 1)]]) nsr
                have e6 : List.take acc.length (List.drop 0 (rowsL acc)) ++ [[AV.lslc 1 (List.take (List.take l.length (List.drop 0 (ints l))).length (List.drop 0 (List.take l.length (List.drop 0 (ints l)))) ++ [[.int .i64 ((v : Int) + 1)]]) 0 ((List.take l.length (List.drop 0 (ints l))).length + 1) false]] = rowsL (acc ++ [l ++ [(v : Int) + 1]]) := by
                  rw [t3, tt, t4]
                  simp [rowsL, intsA, ints]
                rw [e6] at e5
                refine back_of ⟨(ep, v + 1, acc ++ [l ++ [(v : Int) + 1]]), g2, by simpa using hu⟩ ⟨?_, ?_, by simp only; omega⟩
                · show _ = frOf 0 57 [(0, .int .i64 (L : Int)), (1, .int .i64 ((k - j : Nat) : Int)), (5, lsA CC), (6, .oslc (.s 5) ep 1 0 (acc ++ [l ++ [(v : Int) + 1]]).length false), (7, .int .i64 (i : Int)), (10, .int .i64 (IntKind.i64.wrap (((v + 1 : Nat) : Int) + 1)))]
                  rw [show (acc ++ [l ++ [(v : Int) + 1]]).length = acc.length + 1 by simp, show ((v + 1 : Nat) : Int) = (v : Int) + 1 by omega]
                  exact rfl
                · exact congrArg (fun r => Heap.mk [.hole, .hole, .hole, .hole, .hole, .vec ep r] []) e5
              · simp only [decide_eq_false_iff_not] at g2
                rw [extW_nil (by omega), List.nil_append] at hu
                (repeat' (first | exact rfl | ((conv => whnf); first | exact rfl | exact ⟨rfl, rfl⟩ | refine ⟨(by kernel_rfl : drawOk _ _ _ _ = true), ?_⟩ | refine ⟨(by kernel_rfl : planOk _ _ _ _ = true), ?_⟩ | refine ⟨rfl, ?_⟩ | refine ⟨by (first | omega | (simp (disch := omega) only [wrapI]; omega) | (simp (disch := omega) only [wrapI]; simp; omega) | (simp; omega)), ?_⟩ | (intro ep) | fail)))
                all_goals (conv => whnf)
                exact back_of ⟨(e, acc), hu⟩ ⟨rfl, rfl, rfl⟩
            · rintro ⟨⟨e, acc⟩, hu⟩
              simp only at hu
              (repeat' (first | exact rfl | ((conv => whnf); first | exact rfl | exact ⟨rfl, rfl⟩ | refine ⟨(by kernel_rfl : drawOk _ _ _ _ = true), ?_⟩ | refine ⟨(by kernel_rfl : planOk _ _ _ _ = true), ?_⟩ | refine ⟨rfl, ?_⟩ | refine ⟨by (first | omega | (simp (disch := omega) only [wrapI]; omega) | (simp (disch := omega) only [wrapI]; simp; omega) | (simp; omega)), ?_⟩ | (intro ep) | fail)))
              all_goals (conv => whnf)
              refine back_of ⟨(e, i + 1, acc), g1, hu⟩ ⟨?_, rfl, by simp only; omega⟩
              (first | exact rfl | (simp (disch := omega) only [wrapI]; exact rfl))
        · simp only [decide_eq_false_iff_not] at g1
          rw [List.drop_eq_nil_of_le (by omega)] at hu
          (repeat' (first | exact rfl | ((conv => whnf); first | exact rfl | exact ⟨rfl, rfl⟩ | refine ⟨(by kernel_rfl : drawOk _ _ _ _ = true), ?_⟩ | refine ⟨(by kernel_rfl : planOk _ _ _ _ = true), ?_⟩ | refine ⟨rfl, ?_⟩ | refine ⟨by (first | omega | (simp (disch := omega) only [wrapI]; omega) | (simp (disch := omega) only [wrapI]; simp; omega) | (simp; omega)), ?_⟩ | (intro ep) | fail)))
          all_goals (conv => whnf)
          exact back_of ⟨(e, acc), by simpa [extS] using hu⟩ ⟨rfl, rfl, rfl⟩
      · rintro ⟨⟨e, acc⟩, hu⟩
        simp only at hu
        subst hu
        (repeat' (first | exact rfl | ((conv => whnf); first | exact rfl | exact ⟨rfl, rfl⟩ | refine ⟨(by kernel_rfl : drawOk _ _ _ _ = true), ?_⟩ | refine ⟨(by kernel_rfl : planOk _ _ _ _ = true), ?_⟩ | refine ⟨rfl, ?_⟩ | refine ⟨by (first | omega | (simp (disch := omega) only [wrapI]; omega) | (simp (disch := omega) only [wrapI]; simp; omega) | (simp; omega)), ?_⟩ | (intro ep) | fail)))
        all_goals (conv => whnf)
        refine ⟨pure_rowsL acc, ?_⟩
        (repeat' (first | exact rfl | ((conv => whnf); first | exact rfl | exact ⟨rfl, rfl⟩ | refine ⟨(by kernel_rfl : drawOk _ _ _ _ = true), ?_⟩ | refine ⟨(by kernel_rfl : planOk _ _ _ _ = true), ?_⟩ | refine ⟨rfl, ?_⟩ | refine ⟨by (first | omega | (simp (disch := omega) only [wrapI]; omega) | (simp (disch := omega) only [wrapI]; simp; omega) | (simp; omega)), ?_⟩ | (intro ep) | fail)))
        all_goals (conv => whnf)
        refine back_of ⟨j + 1, g⟩ ⟨?_, rfl, by simp only; omega⟩
        show _ = frOf 0 57 [(0, .int .i64 (L : Int)), (1, .int .i64 ((k - (j + 1) : Nat) : Int)), (5, lsA (setsB L (j + 1) [[]]))]
        rw [setsB_succ, hCC, ← hR]
        have e : IntKind.i64.wrap (((k - j : Nat) : Int) - 1) = ((k - (j + 1) : Nat) : Int) := by rw [wrapI (by omega) (by omega)]; omega
        rw [← e]
        exact rfl
    · simp only [decide_eq_false_iff_not] at g
      have e : j = k := by omega
      subst e
      (repeat' (first | exact rfl | ((conv => whnf); first | exact rfl | exact ⟨rfl, rfl⟩ | refine ⟨(by kernel_rfl : drawOk _ _ _ _ = true), ?_⟩ | refine ⟨(by kernel_rfl : planOk _ _ _ _ = true), ?_⟩ | refine ⟨rfl, ?_⟩ | refine ⟨by (first | omega | (simp (disch := omega) only [wrapI]; omega) | (simp (disch := omega) only [wrapI]; simp; omega) | (simp; omega)), ?_⟩ | (intro ep) | fail)))
      all_goals (conv => whnf)
      exact back_of () ⟨rfl, rfl, rfl⟩
  · rintro ⟨⟩
    (repeat' (first | exact rfl | ((conv => whnf); first | exact rfl | exact ⟨rfl, rfl⟩ | refine ⟨(by kernel_rfl : drawOk _ _ _ _ = true), ?_⟩ | refine ⟨(by kernel_rfl : planOk _ _ _ _ = true), ?_⟩ | refine ⟨rfl, ?_⟩ | refine ⟨by (first | omega | (simp (disch := omega) only [wrapI]; omega) | (simp (disch := omega) only [wrapI]; simp; omega) | (simp; omega)), ?_⟩ | (intro ep) | fail)))
end Go.Ab.V

/-
  The fewest voices, as the document says it: the walks; the law Fewest. No condition but the sizes of numbers.
-/
namespace Go.Ab.V
open Go.Proofs

def A29 : Ann := fun r => match r with
  | 0 => { slots := [(0, 0), (1, 1)] }
  | 1 => { slots := [(7, 2)] }
  | 5 => { slots := [(11, 3), (12, 4)] }
  | 6 => { slots := [(11, 5), (12, 6)] }
  | _ => {}
set_option maxHeartbeats 16000000 in
set_option maxRecDepth 100000 in
theorem only29 (x : Lm) (s : List Int) (X : LmOk x) (h5 : s.length ≤ 5) (hs : ∀ v ∈ s, 1 ≤ v ∧ v ≤ x.lo.length) : PRet C.P 29 [lmA x, intsA s] (lmA (only x s)) := by
  obtain ⟨o, ho⟩ : ∃ o, o = only x s := ⟨_, rfl⟩
  have hlo : o.lo.length = s.length := by rw [ho]; simp [only]
  have hhi : o.hi.length = s.length := by rw [ho]; simp [only]
  have ho5 : o.leap = x.leap ∧ o.gap = x.gap ∧ o.cross = x.cross := by rw [ho]; exact ⟨rfl, rfl, rfl⟩
  have hxh := X.hi
  have hx5 := X.lo5
  have hget : ∀ (k : Nat) (h : k < s.length), 1 ≤ s[k] ∧ (s[k] - 1).toNat < x.lo.length ∧ s[k] ≤ 5 ∧ o.lo[k]? = some (x.lo.getD (s[k] - 1).toNat 0) ∧ o.hi[k]? = some (x.hi.getD (s[k] - 1).toNat 0) := fun k h => by
    have := hs _ (List.getElem_mem h)
    exact ⟨by omega, by omega, by omega, by rw [ho]; simp [only, h], by rw [ho]; simp [only, h]⟩
  rw [← ho]
  refine pret_of ok mixed (A := A29) 7 Try.func29 rfl ?_
  (repeat' (first | exact rfl | ((conv => whnf); first | exact rfl | exact ⟨rfl, rfl⟩ | refine ⟨(by kernel_rfl : drawOk _ _ _ _ = true), ?_⟩ | refine ⟨(by kernel_rfl : planOk _ _ _ _ = true), ?_⟩ | refine ⟨rfl, ?_⟩ | refine ⟨by (first | omega | (simp (disch := omega) only [wrapI]; omega) | (simp (disch := omega) only [wrapI]; simp; omega) | (simp; omega)), ?_⟩ | (intro ep) | fail)))
  all_goals (conv => whnf)
  rename_i p0 p1
  refine wk_liftC 2 4 ep 1 0 0 (by decide) (by exact rfl) (by exact rfl) (by exact rfl) ?_
  intro a4
  refine wk_liftC 2 6 ep 1 0 1 (by decide) (by exact rfl) (by exact rfl) (by exact rfl) ?_
  intro a6
  refine loopZ ok mixed (A := A29) [1, 2, 4, 5, 6] [0, 1, 2, 4, 6] (S := { z : Nat × Nat × Nat // z.1 ≤ s.length })
    (fr := fun z => frOf 0 49 [(1, intsA s), (2, .optr (.s 0) p0 5 0 0), (4, .optr (.s 1) p1 5 0 0), (5, .optr (.s 2) ep 5 0 0), (6, .int .i64 (z.1.1 : Int))])
    (h := fun z => ⟨[.vec p0 [lmR x], .vec p1 [[.nils, .nils, .int .i64 0, .int .i64 0, .int .i64 0]], .vec ep [[.oslc (.s 4) z.1.2.1 1 0 z.1.1 false, .oslc (.s 6) z.1.2.2 1 0 z.1.1 false, .int .i64 x.leap, .int .i64 x.gap, .int .i64 x.cross]], .hole, .vec z.1.2.1 (ints (o.lo.take z.1.1)), .hole, .vec z.1.2.2 (ints (o.hi.take z.1.1))], []⟩) (μ := fun z => s.length - z.1.1) ⟨(0, a4, a6), Nat.zero_le _⟩ ?_ ?_
    [4, 5] [1, 2, 4, 6] (S' := Nat × Nat) (X := fun _ => 0) (frX := fun _ => frOf 0 49 [(4, .optr (.s 1) p1 5 0 0), (5, .optr (.s 2) ep 5 0 0)])
    (hX := fun z => ⟨[.hole, .vec p1 [[.nils, .nils, .int .i64 0, .int .i64 0, .int .i64 0]], .vec ep [[.oslc (.s 4) z.1 1 0 s.length false, .oslc (.s 6) z.2 1 0 s.length false, .int .i64 x.leap, .int .i64 x.gap, .int .i64 x.cross]], .hole, .vec z.1 (ints o.lo), .hole, .vec z.2 (ints o.hi)], []⟩)
    [] [] (S2 := Empty) (frR := fun _ => []) (hR := fun _ => Heap.nil) ?_ (fun z => z.elim) ?_
  · exact rfl
  · exact rfl
  · rintro ⟨⟨k, b4, b6⟩, hk⟩
    simp only at hk
    show aexR _ _ _ (frOf 0 49 [(1, intsA s), (2, .optr (.s 0) p0 5 0 0), (4, .optr (.s 1) p1 5 0 0), (5, .optr (.s 2) ep 5 0 0), (6, .int .i64 (k : Int))])
      ⟨[.vec p0 [lmR x], .vec p1 [[.nils, .nils, .int .i64 0, .int .i64 0, .int .i64 0]], .vec ep [[.oslc (.s 4) b4 1 0 k false, .oslc (.s 6) b6 1 0 k false, .int .i64 x.leap, .int .i64 x.gap, .int .i64 x.cross]], .hole, .vec b4 (ints (o.lo.take k)), .hole, .vec b6 (ints (o.hi.take k))], []⟩ _
    (conv => whnf)
    refine ifB (fun g => ?_) (fun g => ?_)
    · simp only [decide_eq_true_eq] at g
      have g : k < s.length := by omega
      have hrow := intsR g
      obtain ⟨q1, q2, q5, q3, q4⟩ := hget k g
      have tl : o.lo.take (k + 1) = o.lo.take k ++ [x.lo.getD (s[k] - 1).toNat 0] := by rw [List.take_add_one, q3]; rfl
      have th : o.hi.take (k + 1) = o.hi.take k ++ [x.hi.getD (s[k] - 1).toNat 0] := by rw [List.take_add_one, q4]; rfl
      have vlo : (ints x.lo)[0 + (IntKind.i64.wrap (s[k] - 1)).toNat]? = some [.int .i64 (x.lo.getD (s[k] - 1).toNat 0)] := by
        rw [wrapI (by omega) (by omega), List.getD_eq_getElem?_getD, List.getElem?_eq_getElem q2]
        have := intsR q2
        rw [show (((s[k] - 1).toNat : Nat) : Int).toNat = (s[k] - 1).toNat by omega] at this
        exact this
      have vhi : (ints x.hi)[0 + (IntKind.i64.wrap (s[k] - 1)).toNat]? = some [.int .i64 (x.hi.getD (s[k] - 1).toNat 0)] := by
        have q2' : (s[k] - 1).toNat < x.hi.length := by omega
        rw [wrapI (by omega) (by omega), List.getD_eq_getElem?_getD, List.getElem?_eq_getElem q2']
        have := intsR q2'
        rw [show (((s[k] - 1).toNat : Nat) : Int).toNat = (s[k] - 1).toNat by omega] at this
        exact this
      clear q3 q4
      generalize x.lo.getD (s[k] - 1).toNat 0 = vl at vlo tl
      generalize x.hi.getD (s[k] - 1).toNat 0 = vh at vhi th
      generalize s[k] = v at hrow q1 q2 q5 vlo vhi
      have l1 : (ints (o.lo.take k)).length = k := by simp [ints]; omega
      have l2 : (ints (o.hi.take k)).length = k := by simp [ints]; omega
      have t1 : List.take k (List.drop 0 (ints (o.lo.take k))) = ints (o.lo.take k) := by rw [List.drop_zero, List.take_of_length_le (by omega)]
      have t2 : List.take k (List.drop 0 (ints (o.hi.take k))) = ints (o.hi.take k) := by rw [List.drop_zero, List.take_of_length_le (by omega)]
      (repeat' (first | exact rfl | ((conv => whnf); first | refine optS hrow ?_ | refine optS vlo ?_ | refine optS vhi ?_ | exact rfl | exact ⟨rfl, rfl⟩ | refine ⟨(by kernel_rfl : drawOk _ _ _ _ = true), ?_⟩ | refine ⟨(by kernel_rfl : planOk _ _ _ _ = true), ?_⟩ | refine ⟨rfl, ?_⟩ | refine ⟨by (first | omega | (simp (disch := omega) only [wrapI]; omega) | (simp (disch := omega) only [wrapI]; simp; omega) | (simp; omega)), ?_⟩ | (intro ep) | (refine ifB (fun hb => ?_) (fun hb => ?_) <;> (try simp only [decide_eq_true_eq, decide_eq_false_iff_not, beq_iff_eq, beq_eq_false_iff_ne, bne_iff_ne, bne_eq_false_iff_eq, ne_eq, not_false_eq_true, not_true_eq_false, Bool.not_eq_true, Bool.not_eq_true', Bool.not_eq_false', Int.not_lt, Int.not_le] at hb) <;> (try simp (disch := omega) only [wrapI] at hb) <;> (try (exfalso; omega))) | fail)))
      all_goals (conv => whnf)
      rename_i p8 p11 p12 p13
      refine back_of ⟨(k + 1, p12, ep), g⟩ ⟨by (first | exact rfl | (simp (disch := omega) only [wrapI]; exact rfl)), ?_, by simp only; omega⟩
      have e1 : ints (o.lo.take (k + 1)) = List.take k (List.drop 0 (ints (o.lo.take k))) ++ [[.int .i64 vl]] := by rw [tl, t1]; simp [ints]
      have e2 : ints (o.hi.take (k + 1)) = List.take k (List.drop 0 (ints (o.hi.take k))) ++ [[.int .i64 vh]] := by rw [th, t2]; simp [ints]
      simp only [e1, e2]
      exact rfl
    · simp only [decide_eq_false_iff_not] at g
      have e : k = s.length := by omega
      subst e
      rw [List.take_of_length_le (l := o.lo) (by omega), List.take_of_length_le (l := o.hi) (by omega)]
      (repeat' (first | exact rfl | ((conv => whnf); first | exact rfl | exact ⟨rfl, rfl⟩ | refine ⟨(by kernel_rfl : drawOk _ _ _ _ = true), ?_⟩ | refine ⟨(by kernel_rfl : planOk _ _ _ _ = true), ?_⟩ | refine ⟨rfl, ?_⟩ | refine ⟨by (first | omega | (simp (disch := omega) only [wrapI]; omega) | (simp (disch := omega) only [wrapI]; simp; omega) | (simp; omega)), ?_⟩ | (intro ep) | fail)))
      all_goals (conv => whnf)
      exact back_of (b4, b6) ⟨rfl, rfl, rfl⟩
  · rintro ⟨b4, b6⟩
    have eI : ∀ (m : Nat) (Q : List (List AV)) (l : List Int), (ints l).map (fun r : List AV => r.map (fcS m Q)) = ints l := fun m Q l => fcS_flat (noS_pure (pure_ints l))
    refine tr_fz 4 b4 (rows := ints o.lo) (fr' := frOf 0 49 [(4, .optr (.s 1) p1 5 0 0), (5, .optr (.s 2) ep 5 0 0)])
      (st' := [.hole, .vec p1 [[.nils, .nils, .int .i64 0, .int .i64 0, .int .i64 0]], .vec ep [[.lslc 1 (ints o.lo) 0 s.length false, .oslc (.s 6) b6 1 0 s.length false, .int .i64 x.leap, .int .i64 x.gap, .int .i64 x.cross]], .hole, .hole, .hole, .vec b6 (ints o.hi)]) (by exact rfl) (pure_ints _) (by (repeat' (first | exact trivial | exact rfl | ((conv => whnf); first | exact trivial | exact rfl | refine ⟨?_, ?_⟩ | fail))))
      ⟨trivial, by (repeat' (first | exact trivial | exact rfl | ((conv => whnf); first | exact trivial | exact rfl | refine ⟨?_, ?_⟩ | fail))), by (repeat' (first | exact trivial | exact rfl | ((conv => whnf); first | exact trivial | exact rfl | refine ⟨?_, ?_⟩ | fail))), trivial, trivial, trivial, eqsP_pure (pure_ints _), trivial⟩ (by simp) rfl ?_ ?_
    · show ([_, _, _, _, _, _, .vec b6 ((ints o.hi).map fun r : List AV => r.map (fcS 4 (ints o.lo)))] : List AObj) = _
      rw [eI]
      exact rfl
    refine tr_fz 6 b6 (rows := ints o.hi) (fr' := frOf 0 49 [(4, .optr (.s 1) p1 5 0 0), (5, .optr (.s 2) ep 5 0 0)])
      (st' := [.hole, .vec p1 [[.nils, .nils, .int .i64 0, .int .i64 0, .int .i64 0]], .vec ep [[.lslc 1 (ints o.lo) 0 s.length false, .lslc 1 (ints o.hi) 0 s.length false, .int .i64 x.leap, .int .i64 x.gap, .int .i64 x.cross]], .hole, .hole, .hole, .hole]) (by exact rfl) (pure_ints _) (by (repeat' (first | exact trivial | exact rfl | ((conv => whnf); first | exact trivial | exact rfl | refine ⟨?_, ?_⟩ | fail))))
      ⟨trivial, by (repeat' (first | exact trivial | exact rfl | ((conv => whnf); first | exact trivial | exact rfl | refine ⟨?_, ?_⟩ | fail))), by (repeat' (first | exact trivial | exact rfl | ((conv => whnf); first | exact trivial | exact rfl | refine ⟨?_, ?_⟩ | fail))), trivial, trivial, trivial, trivial, trivial⟩ (by simp) rfl rfl ?_
    have eL : ([.lslc 1 (ints o.lo) 0 s.length false, .lslc 1 (ints o.hi) 0 s.length false, .int .i64 x.leap, .int .i64 x.gap, .int .i64 x.cross] : List AV) = lmR o := by
      unfold lmR intsA
      rw [hlo, hhi, ho5.1, ho5.2.1, ho5.2.2]
    rw [eL]
    refine tr_done ?_
    (repeat' (first | exact rfl | ((conv => whnf); first | exact rfl | exact ⟨rfl, rfl⟩ | refine ⟨(by kernel_rfl : drawOk _ _ _ _ = true), ?_⟩ | refine ⟨(by kernel_rfl : planOk _ _ _ _ = true), ?_⟩ | refine ⟨rfl, ?_⟩ | refine ⟨by (first | omega | (simp (disch := omega) only [wrapI]; omega) | (simp (disch := omega) only [wrapI]; simp; omega) | (simp; omega)), ?_⟩ | (intro ep) | (refine ifB (fun hb => ?_) (fun hb => ?_) <;> (try simp only [decide_eq_true_eq, decide_eq_false_iff_not, beq_iff_eq, beq_eq_false_iff_ne, bne_iff_ne, bne_eq_false_iff_eq, ne_eq, not_false_eq_true, not_true_eq_false, Bool.not_eq_true, Bool.not_eq_true', Bool.not_eq_false', Int.not_lt, Int.not_le] at hb) <;> (try simp (disch := omega) only [wrapI] at hb) <;> (try (exfalso; omega))) | fail)))
end Go.Ab.V

/-
  The fewest voices, as the document says it: the walk; the law Fewest. No condition but the sizes of numbers.
-/
namespace Go.Ab.V
open Go.Proofs

theorem err_eq {x : Lm} {n : List Nt} (X : LmOk x) (hN : chkN n = 0) : (expR x n (segR 0 n) 0 [[0, 0, 0, 0, 0]] []).2.2 = errR x n := by
  have hch : Chain n.length 0 (segR 0 n) := by have := chain_segR n.length 0 n (Nat.le_refl _); rwa [Nat.zero_add] at this
  have := (run_exp X hN (segR 0 n).length 0 0 [[0, 0, 0, 0, 0]] ([st0], [1]) [] [] (by simp) (by simpa using hch) lay0_ok (fun _ => ⟨rfl, fun z hz => by rw [List.mem_singleton.1 hz]; exact ZOk.zero _⟩)).err
  rw [List.drop_zero] at this
  exact this.symm
theorem setsB_subs : ∀ L, L < 6 → ∀ q, q < 6 → setsB L q [[]] = subs L q 0 [] := by decide
theorem setsB_bd : ∀ L, L < 6 → ∀ q, q < 6 → (setsB L q [[]]).length ≤ 100 ∧ ∀ l ∈ setsB L q [[]], l.length ≤ 5 ∧ 0 ≤ lastN l ∧ lastN l ≤ (L : Int) := by decide
def A28 : Ann := fun r => match r with
  | 0 => { slots := [(0, 0)] }
  | _ => {}
set_option maxHeartbeats 16000000 in
set_option maxRecDepth 100000 in
theorem refFewest28 (x : Lm) (n : List Nt) (hl : x.lo.length ≤ 9223372036854775807) (hh : x.hi.length ≤ 9223372036854775807) (h3 : n.length ≤ 9223372036854775807) : PRet C.P 28 [lmA x, ntsA n] (fewV x n) := by
  have hB := both56_spec x n hl hh h3
  unfold fewV
  by_cases c1 : both x n ≠ 0
  · rw [if_pos c1]
    generalize both x n = b at hB c1
    refine pret_of ok mixed (A := A28) 1 Try.func28 rfl ?_
    (repeat' (first | exact rfl | ((conv => whnf); first | refine ⟨_, hB, ?_⟩ | exact rfl | exact ⟨rfl, rfl⟩ | refine ⟨(by kernel_rfl : drawOk _ _ _ _ = true), ?_⟩ | refine ⟨(by kernel_rfl : planOk _ _ _ _ = true), ?_⟩ | refine ⟨rfl, ?_⟩ | refine ⟨by (first | omega | (simp (disch := omega) only [wrapI]; omega) | (simp (disch := omega) only [wrapI]; simp; omega) | (simp; omega)), ?_⟩ | (intro ep) | (refine ifB (fun hb => ?_) (fun hb => ?_) <;> (try simp only [decide_eq_true_eq, decide_eq_false_iff_not, beq_iff_eq, beq_eq_false_iff_ne, bne_iff_ne, bne_eq_false_iff_eq, ne_eq, not_false_eq_true, not_true_eq_false, Bool.not_eq_true, Bool.not_eq_true', Bool.not_eq_false', Int.not_lt, Int.not_le] at hb) <;> (try simp (disch := omega) only [wrapI] at hb) <;> (try (exfalso; omega))) | fail)))
  rw [if_neg c1]
  have c1 : both x n = 0 := by omega
  rw [c1] at hB
  by_cases c2 : n = []
  · rw [if_pos c2]
    subst c2
    refine pret_of ok mixed (A := A28) 1 Try.func28 rfl ?_
    (repeat' (first | exact rfl | ((conv => whnf); first | refine ⟨_, hB, ?_⟩ | exact rfl | exact ⟨rfl, rfl⟩ | refine ⟨(by kernel_rfl : drawOk _ _ _ _ = true), ?_⟩ | refine ⟨(by kernel_rfl : planOk _ _ _ _ = true), ?_⟩ | refine ⟨rfl, ?_⟩ | refine ⟨by (first | omega | (simp (disch := omega) only [wrapI]; omega) | (simp (disch := omega) only [wrapI]; simp; omega) | (simp; omega)), ?_⟩ | (intro ep) | (refine ifB (fun hb => ?_) (fun hb => ?_) <;> (try simp only [decide_eq_true_eq, decide_eq_false_iff_not, beq_iff_eq, beq_eq_false_iff_ne, bne_iff_ne, bne_eq_false_iff_eq, ne_eq, not_false_eq_true, not_true_eq_false, Bool.not_eq_true, Bool.not_eq_true', Bool.not_eq_false', Int.not_lt, Int.not_le] at hb) <;> (try simp (disch := omega) only [wrapI] at hb) <;> (try (exfalso; omega))) | fail)))
  rw [if_neg c2]
  have hX : chkL x = 0 := by
    unfold both at c1; split at c1
    · rename_i h; exact absurd c1 h
    · rename_i h; simpa using h
  have hN : chkN n = 0 := by unfold both at c1; rw [hX] at c1; simpa using c1
  have X := lmOk_of hX
  have X5 := X.lo5
  have X1 := X.lo1
  have cn : n.length ≠ 0 := fun h => c2 (List.length_eq_zero_iff.1 h)
  obtain ⟨F, hF⟩ : ∃ F : List Int → Int, F = fun s => errR (only x s) n := ⟨_, rfl⟩
  rw [← hF]
  obtain ⟨RES, hRES⟩ : ∃ RES, RES = fewF F x.lo.length x.lo.length 1 := ⟨_, rfl⟩
  rw [← hRES]
  obtain ⟨V, hV⟩ : ∃ V, V = (match RES with
    | none => AV.tup [.nils, .int .i64 72]
    | some s => if errR (only x s) n ≠ 0 then .tup [.nils, .int .i64 (errR (only x s) n)] else .tup [intsA s, .int .i64 0]) := ⟨_, rfl⟩
  refine Eq.mp (congrArg (fun v => PRet C.P 28 _ v) hV) ?_
  refine pret_of ok mixed (A := A28) 1 Try.func28 rfl ?_
  (repeat' (first | exact rfl | ((conv => whnf); first | refine ⟨_, hB, ?_⟩ | exact rfl | exact ⟨rfl, rfl⟩ | refine ⟨(by kernel_rfl : drawOk _ _ _ _ = true), ?_⟩ | refine ⟨(by kernel_rfl : planOk _ _ _ _ = true), ?_⟩ | refine ⟨rfl, ?_⟩ | refine ⟨by (first | omega | (simp (disch := omega) only [wrapI]; omega) | (simp (disch := omega) only [wrapI]; simp; omega) | (simp; omega)), ?_⟩ | (intro ep) | (refine ifB (fun hb => ?_) (fun hb => ?_) <;> (try simp only [decide_eq_true_eq, decide_eq_false_iff_not, beq_iff_eq, beq_eq_false_iff_ne, bne_iff_ne, bne_eq_false_iff_eq, ne_eq, not_false_eq_true, not_true_eq_false, Bool.not_eq_true, Bool.not_eq_true', Bool.not_eq_false', Int.not_lt, Int.not_le] at hb) <;> (try simp (disch := omega) only [wrapI] at hb) <;> (try (exfalso; omega))) | fail)))
  all_goals (conv => whnf)
  refine loopY ok mixed (A := A28) [1, 2, 7] [0] (S := { q : Nat // (1 ≤ q ∧ q ≤ x.lo.length + 1) ∧ fewF F x.lo.length (x.lo.length + 1 - q) q = RES })
    (fr := fun z => frOf 0 61 [(1, ntsA n), (2, .optr (.s 0) ep 5 0 0), (7, .int .i64 (z.1 : Int))])
    (h := fun z => ⟨[.vec ep [lmR x]], []⟩) (μ := fun z => x.lo.length + 1 - z.1) ⟨1, by omega, by rw [hRES, show x.lo.length + 1 - 1 = x.lo.length by omega]⟩ ?_ ?_
    [] [] (S' := { _u : Unit // RES = none }) (X := fun _ => 0) (frX := fun _ => frOf 0 61 []) (hX := fun _ => ⟨[.hole], []⟩)
    [4, 5] [] (S2 := { s : List Int // RES = some s }) (frR := fun s => frOf 0 61 [(4, if F s.1 = 0 then intsA s.1 else .nils), (5, .int .i64 (F s.1))]) (hR := fun _ => ⟨[.hole], []⟩) ?_ ?_ ?_
  · exact rfl
  · exact rfl
  · rintro ⟨q, hq, hu⟩
    show aexR _ _ _ (frOf 0 61 [(1, ntsA n), (2, .optr (.s 0) ep 5 0 0), (7, .int .i64 (q : Int))]) ⟨[.vec ep [lmR x]], []⟩ _
    (repeat' (first | ((conv => whnf); first | exact rfl | exact ⟨rfl, rfl⟩ | refine ⟨(by kernel_rfl : drawOk _ _ _ _ = true), ?_⟩ | refine ⟨(by kernel_rfl : planOk _ _ _ _ = true), ?_⟩ | refine ⟨rfl, ?_⟩ | refine ⟨by (first | omega | (simp (disch := omega) only [wrapI]; omega) | (simp (disch := omega) only [wrapI]; simp; omega) | (simp; omega)), ?_⟩ | (intro ep) | fail)))
    all_goals (conv => whnf)
    refine ifB (fun g => ?_) (fun g => ?_)
    · simp only [decide_eq_true_eq] at g
      have g : q ≤ x.lo.length := by omega
      rw [show x.lo.length + 1 - q = (x.lo.length + 1 - (q + 1)) + 1 by omega, fewF, ← setsB_subs x.lo.length (by omega) q (by omega)] at hu
      have hS := sets48 x.lo.length q X5 (by omega) (fun j hj => by
        obtain ⟨h1, h2⟩ := setsB_bd x.lo.length (by omega) j (by omega)
        exact ⟨by omega, fun l hl => by have := h2 l hl; omega⟩)
      have hmem : ∀ s ∈ setsB x.lo.length q [[]], s.length = q ∧ ∀ v ∈ s, 1 ≤ v ∧ v ≤ x.lo.length := fun s hs => by
        rw [setsB_subs x.lo.length (by omega) q (by omega)] at hs
        obtain ⟨h1, h2⟩ := subs_mem x.lo.length q 0 [] s hs
        exact ⟨by simpa using h1, h2 (by simp)⟩
      have hbd := (setsB_bd x.lo.length (by omega) q (by omega)).1
      generalize setsB x.lo.length q [[]] = CC at hS hu hmem hbd
      obtain ⟨Q, hQ⟩ : ∃ Q, Q = CC.find? fun s => decide (F s ≠ 72) := ⟨_, rfl⟩
      rw [← hQ] at hu
      (repeat' (first | ((conv => whnf); first | refine ⟨_, hS, ?_⟩ | exact rfl | exact ⟨rfl, rfl⟩ | refine ⟨(by kernel_rfl : drawOk _ _ _ _ = true), ?_⟩ | refine ⟨(by kernel_rfl : planOk _ _ _ _ = true), ?_⟩ | refine ⟨rfl, ?_⟩ | refine ⟨by (first | omega | (simp (disch := omega) only [wrapI]; omega) | (simp (disch := omega) only [wrapI]; simp; omega) | (simp; omega)), ?_⟩ | (intro ep) | fail)))
      all_goals (conv => whnf)
      refine loopY ok mixed (A := A28) [1, 2, 7, 8, 9] [0] (S := { i : Nat // i ≤ CC.length ∧ (CC.drop i).find? (fun s => decide (F s ≠ 72)) = Q })
        (fr := fun z => frOf 0 61 [(1, ntsA n), (2, .optr (.s 0) ep 5 0 0), (7, .int .i64 (q : Int)), (8, lsA CC), (9, .int .i64 (z.1 : Int))])
        (h := fun z => ⟨[.vec ep [lmR x]], []⟩) (μ := fun z => CC.length - z.1) ⟨0, Nat.zero_le _, by rw [hQ]; rfl⟩ ?_ ?_
        [1, 2, 7] [0] (S' := { _u : Unit // Q = none }) (X := fun _ => 2) (frX := fun _ => frOf 0 61 [(1, ntsA n), (2, .optr (.s 0) ep 5 0 0), (7, .int .i64 (q : Int))]) (hX := fun _ => ⟨[.vec ep [lmR x]], []⟩)
        [4, 5] [] (S2 := { s : List Int // Q = some s }) (frR := fun s => frOf 0 61 [(4, if F s.1 = 0 then intsA s.1 else .nils), (5, .int .i64 (F s.1))]) (hR := fun _ => ⟨[.hole], []⟩) ?_ ?_ ?_
      · exact rfl
      · exact rfl
      · rintro ⟨i, hi, hv⟩
        show aexR _ _ _ (frOf 0 61 [(1, ntsA n), (2, .optr (.s 0) ep 5 0 0), (7, .int .i64 (q : Int)), (8, lsA CC), (9, .int .i64 (i : Int))]) ⟨[.vec ep [lmR x]], []⟩ _
        (conv => whnf)
        refine ifB (fun g1 => ?_) (fun g1 => ?_)
        · simp only [decide_eq_true_eq] at g1
          have g1 : i < CC.length := by omega
          have hrow : (rowsL CC)[0 + ((i : Nat) : Int).toNat]? = some [intsA CC[i]] := mapR (f := fun l => [intsA l]) g1
          obtain ⟨m1, m2⟩ := hmem _ (List.getElem_mem g1)
          rw [List.drop_eq_getElem_cons g1, List.find?_cons] at hv
          generalize CC[i] = s at hrow m1 m2 hv
          have XO := only_ok X (s := s) (by omega) (by omega) m2
          have hO := only29 x s X (by omega) m2
          have hE := explore39 (only x s) n XO hN
          have he := err_eq XO hN
          have hFs : F s = errR (only x s) n := by rw [hF]
          rw [← hFs] at he
          unfold expV at hE
          generalize expR (only x s) n (segR 0 n) 0 [[0, 0, 0, 0, 0]] [] = E at hE he
          obtain ⟨E1, E2, E3⟩ := E
          simp only at he hE
          subst he
          by_cases c7 : F s = 72
          · rw [show decide (F s ≠ 72) = false by simp [c7]] at hv
            simp only at hv
            rw [c7] at hE
            (repeat' (first | exact rfl | ((conv => whnf); first | refine optS hrow ?_ | refine ⟨_, hO, ?_⟩ | refine ⟨_, hE, ?_⟩ | exact rfl | exact ⟨rfl, rfl⟩ | refine ⟨(by kernel_rfl : drawOk _ _ _ _ = true), ?_⟩ | refine ⟨(by kernel_rfl : planOk _ _ _ _ = true), ?_⟩ | refine ⟨rfl, ?_⟩ | refine ⟨by (first | omega | (simp (disch := omega) only [wrapI]; omega) | (simp (disch := omega) only [wrapI]; simp; omega) | (simp; omega)), ?_⟩ | (intro ep) | (refine ifB (fun hb => ?_) (fun hb => ?_) <;> (try simp only [decide_eq_true_eq, decide_eq_false_iff_not, beq_iff_eq, beq_eq_false_iff_ne, bne_iff_ne, bne_eq_false_iff_eq, ne_eq, not_false_eq_true, not_true_eq_false, Bool.not_eq_true, Bool.not_eq_true', Bool.not_eq_false', Int.not_lt, Int.not_le] at hb) <;> (try simp (disch := omega) only [wrapI] at hb) <;> (try (exfalso; omega))) | fail)))
            all_goals (conv => whnf)
            exact back_of ⟨i + 1, g1, hv⟩ ⟨by (first | exact rfl | (simp (disch := omega) only [wrapI]; exact rfl)), rfl, by simp only; omega⟩
          · rw [show decide (F s ≠ 72) = true by simp [c7]] at hv
            simp only at hv
            by_cases c0 : F s = 0
            · rw [c0, if_pos rfl] at hE
              (repeat' (first | exact rfl | ((conv => whnf); first | refine optS hrow ?_ | refine ⟨_, hO, ?_⟩ | refine ⟨_, hE, ?_⟩ | exact rfl | exact ⟨rfl, rfl⟩ | refine ⟨(by kernel_rfl : drawOk _ _ _ _ = true), ?_⟩ | refine ⟨(by kernel_rfl : planOk _ _ _ _ = true), ?_⟩ | refine ⟨rfl, ?_⟩ | refine ⟨by (first | omega | (simp (disch := omega) only [wrapI]; omega) | (simp (disch := omega) only [wrapI]; simp; omega) | (simp; omega)), ?_⟩ | (intro ep) | (refine ifB (fun hb => ?_) (fun hb => ?_) <;> (try simp only [decide_eq_true_eq, decide_eq_false_iff_not, beq_iff_eq, beq_eq_false_iff_ne, bne_iff_ne, bne_eq_false_iff_eq, ne_eq, not_false_eq_true, not_true_eq_false, Bool.not_eq_true, Bool.not_eq_true', Bool.not_eq_false', Int.not_lt, Int.not_le] at hb) <;> (try simp (disch := omega) only [wrapI] at hb) <;> (try (exfalso; omega))) | fail)))
              all_goals (conv => whnf)
              refine back_of ⟨s, hv.symm⟩ ⟨?_, rfl⟩
              simp only [if_pos c0, c0]
              exact rfl
            · rw [if_neg c0] at hE
              (repeat' (first | exact rfl | ((conv => whnf); first | refine optS hrow ?_ | refine ⟨_, hO, ?_⟩ | refine ⟨_, hE, ?_⟩ | exact rfl | exact ⟨rfl, rfl⟩ | refine ⟨(by kernel_rfl : drawOk _ _ _ _ = true), ?_⟩ | refine ⟨(by kernel_rfl : planOk _ _ _ _ = true), ?_⟩ | refine ⟨rfl, ?_⟩ | refine ⟨by (first | omega | (simp (disch := omega) only [wrapI]; omega) | (simp (disch := omega) only [wrapI]; simp; omega) | (simp; omega)), ?_⟩ | (intro ep) | (refine ifB (fun hb => ?_) (fun hb => ?_) <;> (try simp only [decide_eq_true_eq, decide_eq_false_iff_not, beq_iff_eq, beq_eq_false_iff_ne, bne_iff_ne, bne_eq_false_iff_eq, ne_eq, not_false_eq_true, not_true_eq_false, Bool.not_eq_true, Bool.not_eq_true', Bool.not_eq_false', Int.not_lt, Int.not_le] at hb) <;> (try simp (disch := omega) only [wrapI] at hb) <;> (try (exfalso; omega))) | fail)))
              all_goals (conv => whnf)
              refine back_of ⟨s, hv.symm⟩ ⟨?_, rfl⟩
              simp only [if_neg c0]
              exact rfl
        · simp only [decide_eq_false_iff_not] at g1
          rw [List.drop_eq_nil_of_le (by omega)] at hv
          (repeat' (first | exact rfl | ((conv => whnf); first | exact rfl | exact ⟨rfl, rfl⟩ | refine ⟨(by kernel_rfl : drawOk _ _ _ _ = true), ?_⟩ | refine ⟨(by kernel_rfl : planOk _ _ _ _ = true), ?_⟩ | refine ⟨rfl, ?_⟩ | refine ⟨by (first | omega | (simp (disch := omega) only [wrapI]; omega) | (simp (disch := omega) only [wrapI]; simp; omega) | (simp; omega)), ?_⟩ | (intro ep) | fail)))
          all_goals (conv => whnf)
          exact back_of ⟨(), hv.symm⟩ ⟨rfl, rfl, rfl⟩
      · rintro ⟨s, hs⟩
        have hR : RES = some s := by rw [← hu, hs]
        (repeat' (first | ((conv => whnf); first | exact rfl | exact ⟨rfl, rfl⟩ | refine ⟨(by kernel_rfl : drawOk _ _ _ _ = true), ?_⟩ | refine ⟨(by kernel_rfl : planOk _ _ _ _ = true), ?_⟩ | refine ⟨rfl, ?_⟩ | refine ⟨by (first | omega | (simp (disch := omega) only [wrapI]; omega) | (simp (disch := omega) only [wrapI]; simp; omega) | (simp; omega)), ?_⟩ | (intro ep) | fail)))
        all_goals (conv => whnf)
        exact back_of ⟨s, hR⟩ ⟨rfl, rfl⟩
      · rintro ⟨_, hs⟩
        have hu2 : fewF F x.lo.length (x.lo.length + 1 - (q + 1)) (q + 1) = RES := by rw [← hu, hs]
        (repeat' (first | ((conv => whnf); first | exact rfl | exact ⟨rfl, rfl⟩ | refine ⟨(by kernel_rfl : drawOk _ _ _ _ = true), ?_⟩ | refine ⟨(by kernel_rfl : planOk _ _ _ _ = true), ?_⟩ | refine ⟨rfl, ?_⟩ | refine ⟨by (first | omega | (simp (disch := omega) only [wrapI]; omega) | (simp (disch := omega) only [wrapI]; simp; omega) | (simp; omega)), ?_⟩ | (intro ep) | fail)))
        all_goals (conv => whnf)
        exact back_of ⟨q + 1, by omega, hu2⟩ ⟨by (first | exact rfl | (simp (disch := omega) only [wrapI]; exact rfl)), rfl, by simp only; omega⟩
    · simp only [decide_eq_false_iff_not] at g
      rw [show x.lo.length + 1 - q = 0 by omega, fewF] at hu
      (repeat' (first | exact rfl | ((conv => whnf); first | exact rfl | exact ⟨rfl, rfl⟩ | refine ⟨(by kernel_rfl : drawOk _ _ _ _ = true), ?_⟩ | refine ⟨(by kernel_rfl : planOk _ _ _ _ = true), ?_⟩ | refine ⟨rfl, ?_⟩ | refine ⟨by (first | omega | (simp (disch := omega) only [wrapI]; omega) | (simp (disch := omega) only [wrapI]; simp; omega) | (simp; omega)), ?_⟩ | (intro ep) | fail)))
      all_goals (conv => whnf)
      exact back_of ⟨(), hu.symm⟩ ⟨rfl, rfl, rfl⟩
  · rintro ⟨s, hs⟩
    rw [hs] at hV
    have hFs : F s = errR (only x s) n := by rw [hF]
    simp only [← hFs] at hV
    by_cases c0 : F s = 0
    · rw [if_neg (by simp [c0])] at hV
      simp only [if_pos c0, c0]
      (repeat' (first | ((conv => whnf); first | exact rfl | exact ⟨rfl, rfl⟩ | refine ⟨(by kernel_rfl : drawOk _ _ _ _ = true), ?_⟩ | refine ⟨(by kernel_rfl : planOk _ _ _ _ = true), ?_⟩ | refine ⟨rfl, ?_⟩ | refine ⟨by (first | omega | (simp (disch := omega) only [wrapI]; omega) | (simp (disch := omega) only [wrapI]; simp; omega) | (simp; omega)), ?_⟩ | (intro ep) | fail)))
      all_goals first | (rw [hV]; done) | (rw [hV]; exact rfl)
    · rw [if_pos c0] at hV
      simp only [if_neg c0]
      (repeat' (first | ((conv => whnf); first | exact rfl | exact ⟨rfl, rfl⟩ | refine ⟨(by kernel_rfl : drawOk _ _ _ _ = true), ?_⟩ | refine ⟨(by kernel_rfl : planOk _ _ _ _ = true), ?_⟩ | refine ⟨rfl, ?_⟩ | refine ⟨by (first | omega | (simp (disch := omega) only [wrapI]; omega) | (simp (disch := omega) only [wrapI]; simp; omega) | (simp; omega)), ?_⟩ | (intro ep) | fail)))
      all_goals first | (rw [hV]; done) | (rw [hV]; exact rfl)
  · rintro ⟨_, hs⟩
    rw [hs] at hV
    simp only at hV
    (repeat' (first | ((conv => whnf); first | exact rfl | exact ⟨rfl, rfl⟩ | refine ⟨(by kernel_rfl : drawOk _ _ _ _ = true), ?_⟩ | refine ⟨(by kernel_rfl : planOk _ _ _ _ = true), ?_⟩ | refine ⟨rfl, ?_⟩ | refine ⟨by (first | omega | (simp (disch := omega) only [wrapI]; omega) | (simp (disch := omega) only [wrapI]; simp; omega) | (simp; omega)), ?_⟩ | (intro ep) | fail)))
    all_goals first | (rw [hV]; done) | (rw [hV]; exact rfl)
end Go.Ab.V

/-
  The law Fewest. No condition but the lengths.
-/
namespace Go.Ab.V
open Go.Proofs

def A10 : Ann := fun _ => {}
def manyB (l m : Nat) : Bool := decide (m < l) && decide (l ≤ 5600)
set_option maxHeartbeats 4000000 in
set_option maxRecDepth 100000 in
theorem many10 (n : List Nt) (m : Nat) (hm : m ≤ 5600) (h3 : n.length ≤ 9223372036854775807) : PRet C.P 10 [ntsA n, .int .i64 (m : Int)] (.bool (manyB n.length m)) := by
  unfold manyB
  by_cases c1 : m < n.length
  · rw [decide_eq_true c1]
    by_cases c2 : n.length ≤ 5600
    · rw [decide_eq_true c2]
      refine pret_of ok mixed (A := A10) 0 Try.func10 rfl ?_
      (repeat' (first | exact rfl | ((conv => whnf); first | exact rfl | exact ⟨rfl, rfl⟩ | refine ⟨(by kernel_rfl : drawOk _ _ _ _ = true), ?_⟩ | refine ⟨(by kernel_rfl : planOk _ _ _ _ = true), ?_⟩ | refine ⟨rfl, ?_⟩ | refine ⟨by (first | omega | (simp (disch := omega) only [wrapI]; omega) | (simp (disch := omega) only [wrapI]; simp; omega) | (simp; omega)), ?_⟩ | (intro ep) | (refine ifB (fun hb => ?_) (fun hb => ?_) <;> (try simp only [decide_eq_true_eq, decide_eq_false_iff_not, beq_iff_eq, beq_eq_false_iff_ne, bne_iff_ne, bne_eq_false_iff_eq, ne_eq, not_false_eq_true, not_true_eq_false, Bool.not_eq_true, Bool.not_eq_true', Bool.not_eq_false', Int.not_lt, Int.not_le] at hb) <;> (try simp (disch := omega) only [wrapI] at hb) <;> (try (exfalso; omega))) | fail)))
      all_goals (refine congrArg AV.bool ?_; simp; omega)
    · rw [decide_eq_false c2]
      refine pret_of ok mixed (A := A10) 0 Try.func10 rfl ?_
      (repeat' (first | exact rfl | ((conv => whnf); first | exact rfl | exact ⟨rfl, rfl⟩ | refine ⟨(by kernel_rfl : drawOk _ _ _ _ = true), ?_⟩ | refine ⟨(by kernel_rfl : planOk _ _ _ _ = true), ?_⟩ | refine ⟨rfl, ?_⟩ | refine ⟨by (first | omega | (simp (disch := omega) only [wrapI]; omega) | (simp (disch := omega) only [wrapI]; simp; omega) | (simp; omega)), ?_⟩ | (intro ep) | (refine ifB (fun hb => ?_) (fun hb => ?_) <;> (try simp only [decide_eq_true_eq, decide_eq_false_iff_not, beq_iff_eq, beq_eq_false_iff_ne, bne_iff_ne, bne_eq_false_iff_eq, ne_eq, not_false_eq_true, not_true_eq_false, Bool.not_eq_true, Bool.not_eq_true', Bool.not_eq_false', Int.not_lt, Int.not_le] at hb) <;> (try simp (disch := omega) only [wrapI] at hb) <;> (try (exfalso; omega))) | fail)))
      all_goals (refine congrArg AV.bool ?_; simp; omega)
  · rw [decide_eq_false c1]
    refine pret_of ok mixed (A := A10) 0 Try.func10 rfl ?_
    (repeat' (first | exact rfl | ((conv => whnf); first | exact rfl | exact ⟨rfl, rfl⟩ | refine ⟨(by kernel_rfl : drawOk _ _ _ _ = true), ?_⟩ | refine ⟨(by kernel_rfl : planOk _ _ _ _ = true), ?_⟩ | refine ⟨rfl, ?_⟩ | refine ⟨by (first | omega | (simp (disch := omega) only [wrapI]; omega) | (simp (disch := omega) only [wrapI]; simp; omega) | (simp; omega)), ?_⟩ | (intro ep) | (refine ifB (fun hb => ?_) (fun hb => ?_) <;> (try simp only [decide_eq_true_eq, decide_eq_false_iff_not, beq_iff_eq, beq_eq_false_iff_ne, bne_iff_ne, bne_eq_false_iff_eq, ne_eq, not_false_eq_true, not_true_eq_false, Bool.not_eq_true, Bool.not_eq_true', Bool.not_eq_false', Int.not_lt, Int.not_le] at hb) <;> (try simp (disch := omega) only [wrapI] at hb) <;> (try (exfalso; omega))) | fail)))

def A19 : Ann := fun _ => {}
set_option maxHeartbeats 4000000 in
set_option maxRecDepth 100000 in
theorem same19 (l : List Int) (hl : l.length ≤ 9223372036854775806) : PRet C.P 19 [intsA l, intsA l] (.bool true) := by
  refine pret_of ok mixed (A := A19) 0 Try.func19 rfl ?_
  (repeat' (first | exact rfl | ((conv => whnf); first | exact rfl | exact ⟨rfl, rfl⟩ | refine ⟨(by kernel_rfl : drawOk _ _ _ _ = true), ?_⟩ | refine ⟨(by kernel_rfl : planOk _ _ _ _ = true), ?_⟩ | refine ⟨rfl, ?_⟩ | refine ⟨by (first | omega | (simp (disch := omega) only [wrapI]; omega) | (simp (disch := omega) only [wrapI]; simp; omega) | (simp; omega)), ?_⟩ | (intro ep) | (refine ifB (fun hb => ?_) (fun hb => ?_) <;> (try simp only [decide_eq_true_eq, decide_eq_false_iff_not, beq_iff_eq, beq_eq_false_iff_ne, bne_iff_ne, bne_eq_false_iff_eq, ne_eq, not_false_eq_true, not_true_eq_false, Bool.not_eq_true, Bool.not_eq_true', Bool.not_eq_false', Int.not_lt, Int.not_le] at hb) <;> (try simp (disch := omega) only [wrapI] at hb) <;> (try (exfalso; omega))) | fail)))
  all_goals (conv => whnf)
  refine loopX ok mixed (A := A19) [0, 1, 5] [] (S := { k : Nat // k ≤ l.length })
    (fr := fun s => frOf 0 26 [(0, intsA l), (1, intsA l), (5, .int .i64 (s.1 : Int))])
    (h := fun s => ⟨[], []⟩) (μ := fun s => l.length - s.1) ⟨0, by omega⟩ ?_ ?_
    [] [] (S' := Unit) (X := fun _ => 0) (frX := fun s => frOf 0 26 []) (hX := fun s => ⟨[], []⟩) (R := fun _ _ => False) ?_ (fun _ _ h => h.elim) ?_
  · exact rfl
  · exact rfl
  · rintro ⟨k, hk⟩
    show aexR _ _ _ (frOf 0 26 [(0, intsA l), (1, intsA l), (5, .int .i64 (k : Int))]) ⟨[], []⟩ _
    (conv => whnf)
    refine ifB (fun g1 => ?_) (fun g1 => ?_)
    · simp only [decide_eq_true_eq] at g1
      have h1 : k < l.length := by omega
      have hm := intsR h1
      (repeat' (first | exact rfl | ((conv => whnf); first | refine optS hm ?_ | exact rfl | exact ⟨rfl, rfl⟩ | refine ⟨(by kernel_rfl : drawOk _ _ _ _ = true), ?_⟩ | refine ⟨(by kernel_rfl : planOk _ _ _ _ = true), ?_⟩ | refine ⟨rfl, ?_⟩ | refine ⟨by (first | omega | (simp (disch := omega) only [wrapI]; omega) | (simp (disch := omega) only [wrapI]; simp; omega) | (simp; omega)), ?_⟩ | (intro ep) | (refine ifB (fun hb => ?_) (fun hb => ?_) <;> (try simp only [decide_eq_true_eq, decide_eq_false_iff_not, beq_iff_eq, beq_eq_false_iff_ne, bne_iff_ne, bne_eq_false_iff_eq, ne_eq, not_false_eq_true, not_true_eq_false, Bool.not_eq_true, Bool.not_eq_true', Bool.not_eq_false', Int.not_lt, Int.not_le] at hb) <;> (try simp (disch := omega) only [wrapI] at hb) <;> (try (exfalso; omega))) | fail)))
      all_goals (conv => whnf)
      exact back_of ⟨k + 1, by omega⟩ ⟨by (first | exact rfl | (simp (disch := omega) only [wrapI]; exact rfl)), rfl, by simp only; omega⟩
    · (repeat' (first | exact rfl | ((conv => whnf); first | exact rfl | exact ⟨rfl, rfl⟩ | refine ⟨(by kernel_rfl : drawOk _ _ _ _ = true), ?_⟩ | refine ⟨(by kernel_rfl : planOk _ _ _ _ = true), ?_⟩ | refine ⟨rfl, ?_⟩ | refine ⟨by (first | omega | (simp (disch := omega) only [wrapI]; omega) | (simp (disch := omega) only [wrapI]; simp; omega) | (simp; omega)), ?_⟩ | (intro ep) | fail)))
      all_goals (conv => whnf)
      exact back_of () ⟨rfl, rfl, rfl⟩
  · rintro ⟨⟩
    (repeat' (first | exact rfl | ((conv => whnf); first | exact rfl | exact ⟨rfl, rfl⟩ | refine ⟨(by kernel_rfl : drawOk _ _ _ _ = true), ?_⟩ | refine ⟨(by kernel_rfl : planOk _ _ _ _ = true), ?_⟩ | refine ⟨rfl, ?_⟩ | refine ⟨by (first | omega | (simp (disch := omega) only [wrapI]; omega) | (simp (disch := omega) only [wrapI]; simp; omega) | (simp; omega)), ?_⟩ | (intro ep) | fail)))
set_option maxHeartbeats 4000000 in
theorem same19_nil : PRet C.P 19 [.nils, .nils] (.bool true) := by
  refine pret_of ok mixed (A := A19) 0 Try.func19 rfl ?_
  (repeat ((conv => whnf); first | exact rfl | exact ⟨rfl, rfl⟩ | refine ⟨rfl, ?_⟩ | refine ⟨by decide, ?_⟩ | refine ⟨by kernel_rfl, ?_⟩ | (intro ep) | refine loopU ok mixed (A := fun _ => {}) 100 ?_))
def A14 : Ann := fun r => match r with
  | 0 => { slots := [(0, 0), (1, 1)] }
  | _ => {}
set_option maxHeartbeats 4000000 in
set_option maxRecDepth 100000 in
theorem same14 {a : AV} (c m : Int) (h : PRet C.P 19 [a, a] (.bool true)) (ha : (∃ l, a = intsA l) ∨ a = .nils) : PRet C.P 14 [.agg [a, .int .i64 c, .int .i64 m], .agg [a, .int .i64 c, .int .i64 m]] (.bool true) := by
  rcases ha with ⟨l, rfl⟩ | rfl
  all_goals
    refine pret_of ok mixed (A := A14) 2 Try.func14 rfl ?_
    (repeat' (first | exact rfl | ((conv => whnf); first | refine ⟨_, h, ?_⟩ | exact rfl | exact ⟨rfl, rfl⟩ | refine ⟨(by kernel_rfl : drawOk _ _ _ _ = true), ?_⟩ | refine ⟨(by kernel_rfl : planOk _ _ _ _ = true), ?_⟩ | refine ⟨rfl, ?_⟩ | refine ⟨by (first | omega | (simp (disch := omega) only [wrapI]; omega) | (simp (disch := omega) only [wrapI]; simp; omega) | (simp; omega)), ?_⟩ | (intro ep) | (refine ifB (fun hb => ?_) (fun hb => ?_) <;> (try simp only [decide_eq_true_eq, decide_eq_false_iff_not, beq_iff_eq, beq_eq_false_iff_ne, bne_iff_ne, bne_eq_false_iff_eq, ne_eq, not_false_eq_true, not_true_eq_false, Bool.not_eq_true, Bool.not_eq_true', Bool.not_eq_false', Int.not_lt, Int.not_le] at hb) <;> (try simp (disch := omega) only [wrapI] at hb) <;> (try (exfalso; omega))) | fail)))

theorem fewF_mem {F : List Int → Int} {L : Nat} : ∀ {k q : Nat} {s : List Int}, fewF F L k q = some s → q + k ≤ L + 1 → s.length ≤ L ∧ q ≤ s.length ∧ (∀ v ∈ s, 1 ≤ v ∧ v ≤ L) ∧ F s ≠ 72
  | 0, q, s, h, _ => by simp [fewF] at h
  | k + 1, q, s, h, hq => by
    unfold fewF at h
    cases hf : (subs L q 0 []).find? fun s => decide (F s ≠ 72) with
    | none =>
      rw [hf] at h
      have := fewF_mem (k := k) (q := q + 1) h (by omega)
      exact ⟨this.1, by omega, this.2.2⟩
    | some t =>
      rw [hf] at h
      cases h
      have hm := List.mem_of_find?_eq_some hf
      have hp := List.find?_some hf
      obtain ⟨h1, h2⟩ := subs_mem L q 0 [] s hm
      refine ⟨by simp at h1; omega, by simp at h1; omega, h2 (by simp), by simpa using hp⟩
theorem fewV_cases (x : Lm) (n : List Nt) : (∃ e : Int, fewV x n = .tup [.nils, .int .i64 e]) ∨ (∃ s : List Int, s.length ≤ 5 ∧ fewV x n = .tup [intsA s, .int .i64 0]) := by
  unfold fewV
  by_cases c1 : both x n ≠ 0
  · rw [if_pos c1]; exact .inl ⟨_, rfl⟩
  rw [if_neg c1]
  by_cases c2 : n = []
  · rw [if_pos c2]; exact .inl ⟨_, rfl⟩
  rw [if_neg c2]
  have c1 : both x n = 0 := by omega
  have hX : chkL x = 0 := by
    unfold both at c1; split at c1
    · rename_i h; exact absurd c1 h
    · rename_i h; simpa using h
  have X5 := (lmOk_of hX).lo5
  cases hf : fewF (fun s => errR (only x s) n) x.lo.length x.lo.length 1 with
  | none => exact .inl ⟨_, rfl⟩
  | some s =>
    have := fewF_mem hf (by omega)
    simp only
    split
    · exact .inl ⟨_, rfl⟩
    · exact .inr ⟨s, by omega, rfl⟩
def A7 : Ann := fun r => match r with
  | 0 => { slots := [(0, 0)] }
  | _ => {}
set_option maxHeartbeats 4000000 in
set_option maxRecDepth 100000 in
theorem law_fewest (x : Lm) (n : List Nt) (h1 : x.lo.length ≤ 9223372036854775807) (h2 : x.hi.length ≤ 9223372036854775807) (h3 : n.length ≤ 9223372036854775807) : ACalls C.P 7 [caseA x n] Heap.nil fun r _ => r = .bool true := by
  have hM := many10 n 24 (by omega) h3
  have a1 := fewest27 x n h1 h2 h3
  have a2 := refFewest28 x n h1 h2 h3
  cases hb : manyB n.length 24 with
  | true =>
    rw [hb] at hM
    refine fn_of ok mixed (A := A7) 1 Try.func7 rfl ?_
    (repeat' (first | exact rfl | ((conv => whnf); first | refine ⟨_, hM, ?_⟩ | refine ⟨_, works_spec, ?_⟩ | exact rfl | exact ⟨rfl, rfl⟩ | refine ⟨(by kernel_rfl : drawOk _ _ _ _ = true), ?_⟩ | refine ⟨(by kernel_rfl : planOk _ _ _ _ = true), ?_⟩ | refine ⟨rfl, ?_⟩ | refine ⟨by (first | omega | (simp (disch := omega) only [wrapI]; omega) | (simp (disch := omega) only [wrapI]; simp; omega) | (simp; omega)), ?_⟩ | (intro ep) | (refine ifB (fun hb => ?_) (fun hb => ?_) <;> (try simp only [decide_eq_true_eq, decide_eq_false_iff_not, beq_iff_eq, beq_eq_false_iff_ne, bne_iff_ne, bne_eq_false_iff_eq, ne_eq, not_false_eq_true, not_true_eq_false, Bool.not_eq_true, Bool.not_eq_true', Bool.not_eq_false', Int.not_lt, Int.not_le] at hb) <;> (try simp (disch := omega) only [wrapI] at hb) <;> (try (exfalso; omega))) | fail)))
  | false =>
    rw [hb] at hM
    rcases fewV_cases x n with ⟨e, he⟩ | ⟨s, hs, he⟩
    · rw [he] at a1 a2
      refine fn_of ok mixed (A := A7) 1 Try.func7 rfl ?_
      (repeat' (first | exact rfl | ((conv => whnf); first | refine ⟨_, hM, ?_⟩ | refine ⟨_, a1, ?_⟩ | refine ⟨_, a2, ?_⟩ | refine ⟨_, same19_nil, ?_⟩ | refine ⟨_, works_spec, ?_⟩ | exact rfl | exact ⟨rfl, rfl⟩ | refine ⟨(by kernel_rfl : drawOk _ _ _ _ = true), ?_⟩ | refine ⟨(by kernel_rfl : planOk _ _ _ _ = true), ?_⟩ | refine ⟨rfl, ?_⟩ | refine ⟨by (first | omega | (simp (disch := omega) only [wrapI]; omega) | (simp (disch := omega) only [wrapI]; simp; omega) | (simp; omega)), ?_⟩ | (intro ep) | (refine ifB (fun hb => ?_) (fun hb => ?_) <;> (try simp only [decide_eq_true_eq, decide_eq_false_iff_not, beq_iff_eq, beq_eq_false_iff_ne, bne_iff_ne, bne_eq_false_iff_eq, ne_eq, not_false_eq_true, not_true_eq_false, Bool.not_eq_true, Bool.not_eq_true', Bool.not_eq_false', Int.not_lt, Int.not_le] at hb) <;> (try simp (disch := omega) only [wrapI] at hb) <;> (try (exfalso; omega))) | fail)))
      all_goals (exfalso; rename_i hq; simp at hq)
    · rw [he] at a1 a2
      have hS := same19 s (by omega)
      refine fn_of ok mixed (A := A7) 1 Try.func7 rfl ?_
      (repeat' (first | exact rfl | ((conv => whnf); first | refine ⟨_, hM, ?_⟩ | refine ⟨_, a1, ?_⟩ | refine ⟨_, a2, ?_⟩ | refine ⟨_, hS, ?_⟩ | refine ⟨_, works_spec, ?_⟩ | exact rfl | exact ⟨rfl, rfl⟩ | refine ⟨(by kernel_rfl : drawOk _ _ _ _ = true), ?_⟩ | refine ⟨(by kernel_rfl : planOk _ _ _ _ = true), ?_⟩ | refine ⟨rfl, ?_⟩ | refine ⟨by (first | omega | (simp (disch := omega) only [wrapI]; omega) | (simp (disch := omega) only [wrapI]; simp; omega) | (simp; omega)), ?_⟩ | (intro ep) | (refine ifB (fun hb => ?_) (fun hb => ?_) <;> (try simp only [decide_eq_true_eq, decide_eq_false_iff_not, beq_iff_eq, beq_eq_false_iff_ne, bne_iff_ne, bne_eq_false_iff_eq, ne_eq, not_false_eq_true, not_true_eq_false, Bool.not_eq_true, Bool.not_eq_true', Bool.not_eq_false', Int.not_lt, Int.not_le] at hb) <;> (try simp (disch := omega) only [wrapI] at hb) <;> (try (exfalso; omega))) | fail)))
end Go.Ab.V
