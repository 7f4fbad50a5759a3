/-
  What is proved here serves the law's text: each part says its own claim and its conditions. No condition is left open.
-/
import Derived.Test.YtchkiolagohnlaaJC
import Derived.Test.YtchkiolagohnlaaKF
import Derived.Test.YtchkiolagohnlaaKQ
import Derived.Test.YtchkiolagohnlaaJG
set_option linter.unusedSimpArgs false
set_option linter.unusedVariables false

/-
  Deleting from a list that the caller owns. No condition but the lengths.
-/
namespace Go.Ab.V
open Go.Proofs

def A97 : Ann := fun _ => {}
set_option maxHeartbeats 8000000 in
set_option maxRecDepth 100000 in
theorem index97 (u0 u1 v1 : AObj) (e2 : Nat) (tm : Int) (q : Nt → Bool) (l : List Nt) (hl : l.length ≤ 1000000) (hq : ∀ x ∈ l, ∀ dy, ACalls C.P 73 [.agg (ntR x), .optr (.s 2) e2 1 0 0] ⟨[u0, u1, .vec e2 [[.int .i64 tm]]], dy⟩ fun r h' => r = .bool (q x) ∧ padTo 3 h'.st = [u0, u1, .vec e2 [[.int .i64 tm]]] ∧ h'.dy = dy) (e9 : Nat) :
    ACalls C.P 97 [.oslc (.d 0) e9 5 0 l.length false, .fn (.func 73) [] [.optr (.s 2) e2 1 0 0]] ⟨[u0, u1, .vec e2 [[.int .i64 tm]]], [.vec e9 (l.map ntR), v1]⟩ fun r h' => r = .int .i64 (idxF q l 0) ∧ padTo 3 h'.st = [u0, u1, .vec e2 [[.int .i64 tm]]] ∧ h'.dy = [.vec e9 (l.map ntR), v1] := by
  obtain ⟨J, hJ⟩ : ∃ J, J = idxF q l 0 := ⟨_, rfl⟩
  rw [← hJ]
  refine fn_of (okx [] [97, 73]) mixed (A := A97) 0 Try.func97 rfl ?_
  (repeat' (first | exact rfl | ((conv => whnf); first | exact rfl | exact ⟨rfl, rfl⟩ | refine ⟨(by kernel_rfl : drawOk _ _ _ _ = true), ?_⟩ | refine ⟨(by kernel_rfl : planOk _ _ _ _ = true), ?_⟩ | refine ⟨rfl, ?_⟩ | refine ⟨by (first | omega | (simp (disch := omega) only [wrapI]; omega) | (simp (disch := omega) only [wrapI]; simp; omega) | (simp; omega)), ?_⟩ | (intro ep) | (refine ifB (fun hb => ?_) (fun hb => ?_) <;> (try simp only [decide_eq_true_eq, decide_eq_false_iff_not, beq_iff_eq, beq_eq_false_iff_ne, bne_iff_ne, bne_eq_false_iff_eq, ne_eq, not_false_eq_true, not_true_eq_false, Bool.not_eq_true, Bool.not_eq_true', Bool.not_eq_false', Int.not_lt, Int.not_le] at hb) <;> (try simp (disch := omega) only [wrapI] at hb) <;> (try (exfalso; omega))) | fail)))
  all_goals (conv => whnf)
  refine loopY (okx [] [97, 73]) mixed (A := A97) [0, 1, 7, 8] [0, 1, 2] (S := { k : Nat // k ≤ l.length ∧ idxF q (l.drop k) k = J })
    (fr := fun s => frOf 0 19 [(0, .oslc (.d 0) e9 5 0 l.length false), (1, .fn (.func 73) [] [.optr (.s 2) e2 1 0 0]), (7, .int .i64 (l.length : Int)), (8, .int .i64 (s.1 : Int))])
    (h := fun s => ⟨[u0, u1, .vec e2 [[.int .i64 tm]]], [.vec e9 (l.map ntR), v1]⟩) (μ := fun s => l.length - s.1) ⟨0, by simp [hJ]⟩ ?_ ?_
    [] [0, 1, 2] (S' := { k : Nat // -1 = J }) (X := fun _ => 0) (frX := fun s => frOf 0 19 []) (hX := fun s => ⟨[u0, u1, .vec e2 [[.int .i64 tm]]], [.vec e9 (l.map ntR), v1]⟩)
    [4] [0, 1, 2] (S2 := { k : Nat // (k : Int) = J }) (frR := fun s => frOf 0 19 [(4, .int .i64 (s.1 : Int))]) (hR := fun s => ⟨[u0, u1, .vec e2 [[.int .i64 tm]]], [.vec e9 (l.map ntR), v1]⟩) ?_ ?_ ?_
  · exact rfl
  · exact rfl
  · rintro ⟨k, hk, hu⟩
    show aexR _ _ _ (frOf 0 19 [(0, .oslc (.d 0) e9 5 0 l.length false), (1, .fn (.func 73) [] [.optr (.s 2) e2 1 0 0]), (7, .int .i64 (l.length : Int)), (8, .int .i64 (k : Int))]) ⟨[u0, u1, .vec e2 [[.int .i64 tm]]], [.vec e9 (l.map ntR), v1]⟩ _
    by_cases g1 : k < l.length
    · have hm := mapR (f := ntR) g1
      rw [List.drop_eq_getElem_cons g1, idxF] at hu
      have hmem := List.getElem_mem g1
      generalize l[k] = x at hm hu hmem
      have hc := hq x hmem
      have hx : ntR x = ntR x := rfl
      generalize q x = b at hu hc
      cases b with
      | true =>
        rw [if_pos rfl] at hu
        (repeat' (first | exact rfl | ((conv => whnf); first | refine optS hm ?_ | (refine (ACalls.part 3 (by exact rfl) (by exact rfl) (by exact rfl) (hc _)) ?_; rintro r h' ⟨rfl, hp1, hp2⟩; rw [hp1, hp2]) | exact rfl | exact ⟨rfl, rfl⟩ | refine ⟨(by kernel_rfl : drawOk _ _ _ _ = true), ?_⟩ | refine ⟨(by kernel_rfl : planOk _ _ _ _ = true), ?_⟩ | refine ⟨rfl, ?_⟩ | refine ⟨by (first | omega | (simp (disch := omega) only [wrapI]; omega) | (simp (disch := omega) only [wrapI]; simp; omega) | (simp; omega)), ?_⟩ | (intro ep) | (refine ifB (fun hb => ?_) (fun hb => ?_) <;> (try simp only [decide_eq_true_eq, decide_eq_false_iff_not, beq_iff_eq, beq_eq_false_iff_ne, bne_iff_ne, bne_eq_false_iff_eq, ne_eq, not_false_eq_true, not_true_eq_false, Bool.not_eq_true, Bool.not_eq_true', Bool.not_eq_false', Int.not_lt, Int.not_le] at hb) <;> (try simp (disch := omega) only [wrapI] at hb) <;> (try (exfalso; omega))) | fail)))
        all_goals (conv => whnf)
        all_goals exact back_of ⟨k, hu⟩ ⟨rfl, rfl⟩
      | false =>
        rw [if_neg (by simp)] at hu
        (repeat' (first | exact rfl | ((conv => whnf); first | refine optS hm ?_ | (refine (ACalls.part 3 (by exact rfl) (by exact rfl) (by exact rfl) (hc _)) ?_; rintro r h' ⟨rfl, hp1, hp2⟩; rw [hp1, hp2]) | exact rfl | exact ⟨rfl, rfl⟩ | refine ⟨(by kernel_rfl : drawOk _ _ _ _ = true), ?_⟩ | refine ⟨(by kernel_rfl : planOk _ _ _ _ = true), ?_⟩ | refine ⟨rfl, ?_⟩ | refine ⟨by (first | omega | (simp (disch := omega) only [wrapI]; omega) | (simp (disch := omega) only [wrapI]; simp; omega) | (simp; omega)), ?_⟩ | (intro ep) | (refine ifB (fun hb => ?_) (fun hb => ?_) <;> (try simp only [decide_eq_true_eq, decide_eq_false_iff_not, beq_iff_eq, beq_eq_false_iff_ne, bne_iff_ne, bne_eq_false_iff_eq, ne_eq, not_false_eq_true, not_true_eq_false, Bool.not_eq_true, Bool.not_eq_true', Bool.not_eq_false', Int.not_lt, Int.not_le] at hb) <;> (try simp (disch := omega) only [wrapI] at hb) <;> (try (exfalso; omega))) | fail)))
        all_goals (conv => whnf)
        all_goals exact back_of ⟨k + 1, by omega, hu⟩ ⟨by (first | exact rfl | (simp (disch := omega) only [wrapI]; exact rfl)), rfl, by dsimp only; omega⟩
    · rw [List.drop_eq_nil_of_le (by omega), idxF] at hu
      (repeat' (first | exact rfl | ((conv => whnf); first | exact rfl | exact ⟨rfl, rfl⟩ | refine ⟨(by kernel_rfl : drawOk _ _ _ _ = true), ?_⟩ | refine ⟨(by kernel_rfl : planOk _ _ _ _ = true), ?_⟩ | refine ⟨rfl, ?_⟩ | refine ⟨by (first | omega | (simp (disch := omega) only [wrapI]; omega) | (simp (disch := omega) only [wrapI]; simp; omega) | (simp; omega)), ?_⟩ | (intro ep) | (refine ifB (fun hb => ?_) (fun hb => ?_) <;> (try simp only [decide_eq_true_eq, decide_eq_false_iff_not, beq_iff_eq, beq_eq_false_iff_ne, bne_iff_ne, bne_eq_false_iff_eq, ne_eq, not_false_eq_true, not_true_eq_false, Bool.not_eq_true, Bool.not_eq_true', Bool.not_eq_false', Int.not_lt, Int.not_le] at hb) <;> (try simp (disch := omega) only [wrapI] at hb) <;> (try (exfalso; omega))) | fail)))
      all_goals (conv => whnf)
      all_goals exact back_of ⟨0, hu⟩ ⟨rfl, rfl, rfl⟩
  · rintro ⟨x, hx⟩
    (repeat' (first | exact rfl | ((conv => whnf); first | exact rfl | exact ⟨rfl, rfl⟩ | refine ⟨(by kernel_rfl : drawOk _ _ _ _ = true), ?_⟩ | refine ⟨(by kernel_rfl : planOk _ _ _ _ = true), ?_⟩ | refine ⟨rfl, ?_⟩ | refine ⟨by (first | omega | (simp (disch := omega) only [wrapI]; omega) | (simp (disch := omega) only [wrapI]; simp; omega) | (simp; omega)), ?_⟩ | (intro ep) | fail)))
    all_goals (conv => whnf)
    all_goals exact ⟨by rw [hx], rfl, rfl⟩
  · rintro ⟨x, hx⟩
    (repeat' (first | exact rfl | ((conv => whnf); first | exact rfl | exact ⟨rfl, rfl⟩ | refine ⟨(by kernel_rfl : drawOk _ _ _ _ = true), ?_⟩ | refine ⟨(by kernel_rfl : planOk _ _ _ _ = true), ?_⟩ | refine ⟨rfl, ?_⟩ | refine ⟨by (first | omega | (simp (disch := omega) only [wrapI]; omega) | (simp (disch := omega) only [wrapI]; simp; omega) | (simp; omega)), ?_⟩ | (intro ep) | fail)))
    all_goals (conv => whnf)
    all_goals exact ⟨by rw [← hx], rfl, rfl⟩

def A72 : Ann := fun r => match r with
  | 7 => { slots := [(4, 3)] }
  | _ => {}
set_option maxHeartbeats 8000000 in
set_option maxRecDepth 100000 in
theorem del72 (u0 u1 v1 : AObj) (e2 : Nat) (tm : Int) (q : Nt → Bool) (l : List Nt) (hl : l.length ≤ 1000000) (hq : ∀ x ∈ l, ∀ dy, ACalls C.P 73 [.agg (ntR x), .optr (.s 2) e2 1 0 0] ⟨[u0, u1, .vec e2 [[.int .i64 tm]]], dy⟩ fun r h' => r = .bool (q x) ∧ padTo 3 h'.st = [u0, u1, .vec e2 [[.int .i64 tm]]] ∧ h'.dy = dy) (e9 : Nat) :
    ACalls C.P 72 [.oslc (.d 0) e9 5 0 l.length false, .fn (.func 73) [] [.optr (.s 2) e2 1 0 0]] ⟨[u0, u1, .vec e2 [[.int .i64 tm]]], [.vec e9 (l.map ntR), v1]⟩ fun r h' => (∃ T : List Nt, (kept q l).length + T.length = l.length ∧ r = .oslc (.d 0) e9 5 0 (kept q l).length false ∧ h'.dy = [.vec e9 ((kept q l).map ntR ++ List.replicate T.length [.int .i64 0, .int .i64 0, .int .i64 0, .int .i64 0, .int .i64 0]), v1]) ∧ padTo 3 h'.st = [u0, u1, .vec e2 [[.int .i64 tm]]] := by
  obtain ⟨Z, hZ⟩ : ∃ Z, Z = kept q l := ⟨_, rfl⟩
  have hi := index97 u0 u1 v1 e2 tm q l hl hq e9
  rw [← hZ]
  refine fn_of (okx [] [97, 73]) mixed (A := A72) 1 Try.func72 rfl ?_
  rcases idxF_spec q l 0 with ⟨e1, e2⟩ | ⟨i, i1, i2, i3⟩
  · rw [e1] at hi
    rw [← hZ] at e2
    subst e2
    (repeat' (first | exact rfl | ((conv => whnf); first | refine (ACalls.part 3 (by exact rfl) (by exact rfl) (by exact rfl) hi) ?_ | (rintro r h' ⟨rfl, hp1, hp2⟩; rw [hp1, hp2]) | exact rfl | exact ⟨rfl, rfl⟩ | refine ⟨(by kernel_rfl : drawOk _ _ _ _ = true), ?_⟩ | refine ⟨(by kernel_rfl : planOk _ _ _ _ = true), ?_⟩ | refine ⟨rfl, ?_⟩ | refine ⟨by (first | omega | (simp (disch := omega) only [wrapI]; omega) | (simp (disch := omega) only [wrapI]; simp; omega) | (simp; omega)), ?_⟩ | (intro ep) | (refine ifB (fun hb => ?_) (fun hb => ?_) <;> (try simp only [decide_eq_true_eq, decide_eq_false_iff_not, beq_iff_eq, beq_eq_false_iff_ne, bne_iff_ne, bne_eq_false_iff_eq, ne_eq, not_false_eq_true, not_true_eq_false, Bool.not_eq_true, Bool.not_eq_true', Bool.not_eq_false', Int.not_lt, Int.not_le] at hb) <;> (try simp (disch := omega) only [wrapI] at hb) <;> (try (exfalso; omega))) | fail)))
    all_goals (conv => whnf)
    all_goals exact ⟨⟨[], by simp, rfl, by rw [List.length_nil, List.replicate_zero, List.append_nil]⟩, rfl⟩
  · rw [i2, Int.zero_add] at hi
    rw [← hZ] at i3
    obtain ⟨K0, hK0⟩ : ∃ K0, K0 = l.take i := ⟨_, rfl⟩
    rw [← hK0] at i3
    obtain ⟨x0, hx0⟩ : ∃ x0, x0 = l[i] := ⟨_, rfl⟩
    have hKl : K0.length = i := by rw [hK0, List.length_take]; omega
    have hl2 : K0 ++ [x0] ++ l.drop (i + 1) = l := by rw [hK0, hx0, List.append_assoc, List.singleton_append, ← List.drop_eq_getElem_cons i1, List.take_append_drop]
    subst hKl
    clear hK0 hx0
    (repeat' (first | exact rfl | ((conv => whnf); first | refine (ACalls.part 3 (by exact rfl) (by exact rfl) (by exact rfl) hi) ?_ | (rintro r h' ⟨rfl, hp1, hp2⟩; rw [hp1, hp2]) | exact rfl | exact ⟨rfl, rfl⟩ | refine ⟨(by kernel_rfl : drawOk _ _ _ _ = true), ?_⟩ | refine ⟨(by kernel_rfl : planOk _ _ _ _ = true), ?_⟩ | refine ⟨rfl, ?_⟩ | refine ⟨by (first | omega | (simp (disch := omega) only [wrapI]; omega) | (simp (disch := omega) only [wrapI]; simp; omega) | (simp; omega)), ?_⟩ | (intro ep) | (refine ifB (fun hb => ?_) (fun hb => ?_) <;> (try simp only [decide_eq_true_eq, decide_eq_false_iff_not, beq_iff_eq, beq_eq_false_iff_ne, bne_iff_ne, bne_eq_false_iff_eq, ne_eq, not_false_eq_true, not_true_eq_false, Bool.not_eq_true, Bool.not_eq_true', Bool.not_eq_false', Int.not_lt, Int.not_le] at hb) <;> (try simp (disch := omega) only [wrapI] at hb) <;> (try (exfalso; omega))) | fail)))
    all_goals (conv => whnf)
    refine loopY (okx [] [97, 73]) mixed (A := A72) [0, 1, 5, 6] [0, 1, 2] (S := { z : Nat × List Nt × List Nt // z.1 ≤ l.length ∧ z.2.1.length + z.2.2.length = z.1 ∧ 0 < z.2.2.length ∧ z.2.1 ++ kept q (l.drop z.1) = Z })
      (fr := fun s => frOf 0 42 [(0, .oslc (.d 0) e9 5 0 l.length false), (1, .fn (.func 73) [] [.optr (.s 2) e2 1 0 0]), (5, .int .i64 (s.1.2.1.length : Int)), (6, .int .i64 (s.1.1 : Int))])
      (h := fun s => ⟨[u0, u1, .vec e2 [[.int .i64 tm]], .hole], [.vec e9 (((s.1.2.1 ++ s.1.2.2 ++ l.drop s.1.1).map ntR)), v1]⟩) (μ := fun s => l.length - s.1.1) ⟨(K0.length + 1, K0, [x0]), by dsimp only; omega, by simp, by simp, i3⟩ ?_ ?_
      [0, 5] [0, 1, 2] (S' := { z : List Nt // Z.length + z.length = l.length ∧ 0 < z.length }) (X := fun _ => 0) (frX := fun s => frOf 0 42 [(0, .oslc (.d 0) e9 5 0 l.length false), (5, .int .i64 (Z.length : Int))]) (hX := fun s => ⟨[u0, u1, .vec e2 [[.int .i64 tm]], .hole], [.vec e9 (((Z ++ s.1).map ntR)), v1]⟩)
      [] [] (S2 := Empty) (frR := fun s => frOf 0 42 []) (hR := fun s => ⟨[], []⟩) ?_ ?_ ?_
    · (first | exact rfl | (simp (disch := omega) only [wrapI]; exact rfl))
    · show _ = (⟨[u0, u1, .vec e2 [[.int .i64 tm]], .hole], [.vec e9 (((K0 ++ [x0] ++ l.drop (K0.length + 1)).map ntR)), v1]⟩ : Heap)
      rw [hl2]
      exact rfl
    · rintro ⟨⟨j, K, T⟩, hj, hKT, hT0, hz⟩
      dsimp only at hj hKT hT0 hz
      show aexR _ _ _ (frOf 0 42 [(0, .oslc (.d 0) e9 5 0 l.length false), (1, .fn (.func 73) [] [.optr (.s 2) e2 1 0 0]), (5, .int .i64 (K.length : Int)), (6, .int .i64 (j : Int))]) ⟨[u0, u1, .vec e2 [[.int .i64 tm]], .hole], [.vec e9 (((K ++ T ++ l.drop j).map ntR)), v1]⟩ _
      by_cases g1 : j < l.length
      · have hjl : j < (K ++ T ++ l.drop j).length := by simp only [List.length_append, List.length_drop]; omega
        have hm := mapR (f := ntR) hjl
        have hget : (K ++ T ++ l.drop j)[j] = l[j] := by
          rw [List.getElem_append_right (by rw [List.length_append]; omega), List.getElem_drop]
          congr 1
          rw [List.length_append]; omega
        rw [hget] at hm
        rw [kept_cons q g1] at hz
        have hdr := List.drop_eq_getElem_cons g1
        have hlen : ((K ++ T ++ l.drop j).map ntR).length = l.length := by simp only [List.length_map, List.length_append, List.length_drop]; omega
        obtain ⟨W, hW⟩ : ∃ W, W = K ++ T ++ l.drop j := ⟨_, rfl⟩
        rw [← hW] at hm hlen ⊢
        rw [hdr] at hW
        clear hget hjl hdr
        have hmem := List.getElem_mem g1
        generalize l[j] = x at hm hz hW hmem
        have hc := hq x hmem
        obtain ⟨b, hb⟩ : ∃ b, b = q x := ⟨_, rfl⟩
        rw [← hb] at hz hc
        cases b with
        | true =>
          rw [if_pos rfl] at hz
          (repeat' (first | exact rfl | ((conv => whnf); first | refine optS hm ?_ | (refine (ACalls.part 3 (by exact rfl) (by exact rfl) (by exact rfl) (hc _)) ?_; rintro r h' ⟨rfl, hp1, hp2⟩; rw [hp1, hp2]) | exact rfl | exact ⟨rfl, rfl⟩ | refine ⟨(by kernel_rfl : drawOk _ _ _ _ = true), ?_⟩ | refine ⟨(by kernel_rfl : planOk _ _ _ _ = true), ?_⟩ | refine ⟨rfl, ?_⟩ | refine ⟨by (first | omega | (simp (disch := omega) only [wrapI]; omega) | (simp (disch := omega) only [wrapI]; simp; omega) | (simp; omega)), ?_⟩ | (intro ep) | (refine ifB (fun hb => ?_) (fun hb => ?_) <;> (try simp only [decide_eq_true_eq, decide_eq_false_iff_not, beq_iff_eq, beq_eq_false_iff_ne, bne_iff_ne, bne_eq_false_iff_eq, ne_eq, not_false_eq_true, not_true_eq_false, Bool.not_eq_true, Bool.not_eq_true', Bool.not_eq_false', Int.not_lt, Int.not_le] at hb) <;> (try simp (disch := omega) only [wrapI] at hb) <;> (try (exfalso; omega))) | fail)))
          all_goals (conv => whnf)
          refine back_of ⟨(j + 1, K, T ++ [x]), by dsimp only; omega, by dsimp only; rw [List.length_append, List.length_singleton]; omega, by dsimp only; rw [List.length_append, List.length_singleton]; omega, hz⟩ ⟨by (first | exact rfl | (simp (disch := omega) only [wrapI]; exact rfl)), ?_, by dsimp only; omega⟩
          show _ = (⟨[u0, u1, .vec e2 [[.int .i64 tm]], .hole], [.vec e9 (((K ++ (T ++ [x]) ++ l.drop (j + 1)).map ntR)), v1]⟩ : Heap)
          rw [show K ++ (T ++ [x]) ++ l.drop (j + 1) = W by rw [hW]; simp]
          exact rfl
        | false =>
          rw [if_neg (by simp)] at hz
          cases T with
          | nil => simp at hT0
          | cons t T =>
          rw [List.length_cons] at hKT
          have hset : (W.map ntR).set (0 + ((K.length : Nat) : Int).toNat) (ntR x) = ((K ++ [x]) ++ (T ++ [x]) ++ l.drop (j + 1)).map ntR := by
            rw [Nat.zero_add, Int.toNat_natCast, ← List.map_set, hW]
            congr 1
            rw [List.append_assoc, List.append_assoc, List.set_append_right _ _ (Nat.le_refl _), Nat.sub_self]
            simp
          have hmr : (W.map ntR)[0 + ((K.length : Nat) : Int).toNat]? = some (ntR t) := by
            rw [hW, Nat.zero_add, Int.toNat_natCast, List.getElem?_map, List.append_assoc, List.getElem?_append_right (Nat.le_refl _), Nat.sub_self]
            rfl
          (repeat' (first | exact rfl | ((conv => whnf); first | refine optS hm ?_ | refine optS hmr ?_ | (refine (ACalls.part 3 (by exact rfl) (by exact rfl) (by exact rfl) (hc _)) ?_; rintro r h' ⟨rfl, hp1, hp2⟩; rw [hp1, hp2]) | exact rfl | exact ⟨rfl, rfl⟩ | refine ⟨(by kernel_rfl : drawOk _ _ _ _ = true), ?_⟩ | refine ⟨(by kernel_rfl : planOk _ _ _ _ = true), ?_⟩ | refine ⟨rfl, ?_⟩ | refine ⟨by (first | omega | (simp (disch := omega) only [wrapI]; omega) | (simp (disch := omega) only [wrapI]; simp; omega) | (simp; omega)), ?_⟩ | (intro ep) | (refine ifB (fun hb => ?_) (fun hb => ?_) <;> (try simp only [decide_eq_true_eq, decide_eq_false_iff_not, beq_iff_eq, beq_eq_false_iff_ne, bne_iff_ne, bne_eq_false_iff_eq, ne_eq, not_false_eq_true, not_true_eq_false, Bool.not_eq_true, Bool.not_eq_true', Bool.not_eq_false', Int.not_lt, Int.not_le] at hb) <;> (try simp (disch := omega) only [wrapI] at hb) <;> (try (exfalso; omega))) | fail)))
          all_goals (conv => whnf)
          refine back_of ⟨(j + 1, K ++ [x], T ++ [x]), by dsimp only; omega, by dsimp only; rw [List.length_append, List.length_append, List.length_singleton]; omega, by dsimp only; rw [List.length_append, List.length_singleton]; omega, by dsimp only; rw [List.append_assoc]; exact hz⟩ ⟨?_, ?_, by dsimp only; omega⟩
          · show maskF 0 _ _ = frOf 0 42 [(0, .oslc (.d 0) e9 5 0 l.length false), (1, .fn (.func 73) [] [.optr (.s 2) e2 1 0 0]), (5, .int .i64 ((K ++ [x]).length : Int)), (6, .int .i64 ((j + 1 : Nat) : Int))]
            rw [List.length_append, List.length_singleton]
            (first | exact rfl | (simp (disch := omega) only [wrapI]; exact rfl))
          · show _ = (⟨[u0, u1, .vec e2 [[.int .i64 tm]], .hole], [.vec e9 (((K ++ [x]) ++ (T ++ [x]) ++ l.drop (j + 1)).map ntR), v1]⟩ : Heap)
            rw [← hset]
            exact rfl
      · have hj2 : j = l.length := by omega
        subst hj2
        rw [List.drop_length, show kept q [] = [] from rfl, List.append_nil] at hz
        subst hz
        (repeat' (first | exact rfl | ((conv => whnf); first | exact rfl | exact ⟨rfl, rfl⟩ | refine ⟨(by kernel_rfl : drawOk _ _ _ _ = true), ?_⟩ | refine ⟨(by kernel_rfl : planOk _ _ _ _ = true), ?_⟩ | refine ⟨rfl, ?_⟩ | refine ⟨by (first | omega | (simp (disch := omega) only [wrapI]; omega) | (simp (disch := omega) only [wrapI]; simp; omega) | (simp; omega)), ?_⟩ | (intro ep) | (refine ifB (fun hb => ?_) (fun hb => ?_) <;> (try simp only [decide_eq_true_eq, decide_eq_false_iff_not, beq_iff_eq, beq_eq_false_iff_ne, bne_iff_ne, bne_eq_false_iff_eq, ne_eq, not_false_eq_true, not_true_eq_false, Bool.not_eq_true, Bool.not_eq_true', Bool.not_eq_false', Int.not_lt, Int.not_le] at hb) <;> (try simp (disch := omega) only [wrapI] at hb) <;> (try (exfalso; omega))) | fail)))
        all_goals (conv => whnf)
        all_goals refine back_of ⟨T, hKT, hT0⟩ ⟨rfl, rfl, ?_⟩
        show _ = (⟨[u0, u1, .vec e2 [[.int .i64 tm]], .hole], [.vec e9 (((K ++ T).map ntR)), v1]⟩ : Heap)
        rw [List.drop_length, List.append_nil]
        exact rfl
    · rintro ⟨⟩
    · rintro ⟨T, hT, hT0⟩
      (repeat' (first | exact rfl | ((conv => whnf); first | exact rfl | exact ⟨rfl, rfl⟩ | refine ⟨(by kernel_rfl : drawOk _ _ _ _ = true), ?_⟩ | refine ⟨(by kernel_rfl : planOk _ _ _ _ = true), ?_⟩ | refine ⟨rfl, ?_⟩ | refine ⟨by (first | omega | (simp (disch := omega) only [wrapI]; omega) | (simp (disch := omega) only [wrapI]; simp; omega) | (simp; omega)), ?_⟩ | (intro ep) | (refine ifB (fun hb => ?_) (fun hb => ?_) <;> (try simp only [decide_eq_true_eq, decide_eq_false_iff_not, beq_iff_eq, beq_eq_false_iff_ne, bne_iff_ne, bne_eq_false_iff_eq, ne_eq, not_false_eq_true, not_true_eq_false, Bool.not_eq_true, Bool.not_eq_true', Bool.not_eq_false', Int.not_lt, Int.not_le] at hb) <;> (try simp (disch := omega) only [wrapI] at hb) <;> (try (exfalso; omega))) | fail)))
      all_goals (conv => whnf)
      have hrow : List.take (0 + ((Z.length : Nat) : Int).toNat) ((Z ++ T).map ntR) ++ List.replicate (l.length - ((Z.length : Nat) : Int).toNat) [.int .i64 0, .int .i64 0, .int .i64 0, .int .i64 0, .int .i64 0] ++ List.drop (0 + ((Z.length : Nat) : Int).toNat + (l.length - ((Z.length : Nat) : Int).toNat)) ((Z ++ T).map ntR) = Z.map ntR ++ List.replicate T.length [.int .i64 0, .int .i64 0, .int .i64 0, .int .i64 0, .int .i64 0] := by
        rw [Nat.zero_add, Int.toNat_natCast, show l.length - Z.length = T.length by omega, List.map_append, List.take_left' (by simp), List.drop_eq_nil_of_le (by simp), List.append_nil]
      refine ⟨⟨T, hT, by rw [Int.toNat_natCast], ?_⟩, rfl⟩
      show ([.vec e9 (List.take (0 + ((Z.length : Nat) : Int).toNat) ((Z ++ T).map ntR) ++ List.replicate (l.length - ((Z.length : Nat) : Int).toNat) [.int .i64 0, .int .i64 0, .int .i64 0, .int .i64 0, .int .i64 0] ++ List.drop (0 + ((Z.length : Nat) : Int).toNat + (l.length - ((Z.length : Nat) : Int).toNat)) ((Z ++ T).map ntR)), v1] : List AObj) = _
      rw [hrow]
end Go.Ab.V
