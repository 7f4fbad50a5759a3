/-
  What is proved here serves the law's text: each part says its own claim and its conditions. No condition is left open.
-/
import Derived.Test.YtchkiolagohnlaaKZ
import Derived.Test.YtchkiolagohnlaaKF
import Derived.Test.YtchkiolagohnlaaKQ
import Derived.Test.YtchkiolagohnlaaJC
set_option linter.unusedSimpArgs false
set_option linter.unusedVariables false

/-
  Deleting from a list that the caller owns. No condition but the lengths.
-/
namespace Go.Ab.V
open Go.Proofs

def idxF {α : Type} (q : α → Bool) : List α → Int → Int
  | [], _ => -1
  | x :: r, k => if q x = true then k else idxF q r (k + 1)
def kept {α : Type} (q : α → Bool) (l : List α) : List α := l.filter fun x => !q x
theorem kept_cons {α : Type} (q : α → Bool) {l : List α} {k : Nat} (h : k < l.length) : kept q (l.drop k) = if q l[k] = true then kept q (l.drop (k + 1)) else l[k] :: kept q (l.drop (k + 1)) := by
  rw [List.drop_eq_getElem_cons h]
  unfold kept
  rw [List.filter_cons]
  cases q l[k] <;> simp
theorem idxF_spec {α : Type} (q : α → Bool) : ∀ (l : List α) (k : Int), (idxF q l k = -1 ∧ l = kept q l) ∨ ∃ i, i < l.length ∧ idxF q l k = k + (i : Nat) ∧ l.take i ++ kept q (l.drop (i + 1)) = kept q l
  | [], k => .inl ⟨rfl, rfl⟩
  | x :: r, k => by
    unfold idxF
    cases h : q x with
    | true =>
      refine .inr ⟨0, by simp, by simp, ?_⟩
      simp [kept, h]
    | false =>
      simp only [Bool.false_eq_true, if_false]
      rcases idxF_spec q r (k + 1) with ⟨e1, e2⟩ | ⟨i, i1, i2, i3⟩
      · refine .inl ⟨e1, ?_⟩
        unfold kept at e2 ⊢
        rw [List.filter_cons, h]
        simp only [Bool.not_false, if_true]
        rw [← e2]
      · refine .inr ⟨i + 1, by simpa using i1, by rw [i2]; omega, ?_⟩
        unfold kept at i3 ⊢
        rw [List.take_succ_cons, List.drop_succ_cons, List.cons_append, i3, List.filter_cons, h]
        simp
def A94 : Ann := fun _ => {}
set_option maxHeartbeats 8000000 in
set_option maxRecDepth 100000 in
theorem index94 (y0 : AObj) (q : Pr → Bool) (l : List Pr) (hl : l.length ≤ 1000000) (hq : ∀ x ∈ l, PRet C.P 62 [.agg (prR x)] (.bool (q x))) (e9 : Nat) :
    ACalls C.P 94 [.oslc (.d 1) e9 5 0 l.length false, .fn (.func 62) [] []] ⟨[], [y0, .vec e9 (l.map prR)]⟩ fun r h' => r = .int .i64 (idxF q l 0) ∧ padTo 0 h'.st = [] ∧ h'.dy = [y0, .vec e9 (l.map prR)] := by
  obtain ⟨J, hJ⟩ : ∃ J, J = idxF q l 0 := ⟨_, rfl⟩
  rw [← hJ]
  refine fn_of (okx [] [94]) mixed (A := A94) 0 Try.func94 rfl ?_
  (repeat' (first | exact rfl | ((conv => whnf); first | exact rfl | exact ⟨rfl, rfl⟩ | refine ⟨(by kernel_rfl : drawOk _ _ _ _ = true), ?_⟩ | refine ⟨(by kernel_rfl : planOk _ _ _ _ = true), ?_⟩ | refine ⟨rfl, ?_⟩ | refine ⟨by (first | omega | (simp (disch := omega) only [wrapI]; omega) | (simp (disch := omega) only [wrapI]; simp; omega) | (simp; omega)), ?_⟩ | (intro ep) | (refine ifB (fun hb => ?_) (fun hb => ?_) <;> (try simp only [decide_eq_true_eq, decide_eq_false_iff_not, beq_iff_eq, beq_eq_false_iff_ne, bne_iff_ne, bne_eq_false_iff_eq, ne_eq, not_false_eq_true, not_true_eq_false, Bool.not_eq_true, Bool.not_eq_true', Bool.not_eq_false', Int.not_lt, Int.not_le] at hb) <;> (try simp (disch := omega) only [wrapI] at hb) <;> (try (exfalso; omega))) | fail)))
  all_goals (conv => whnf)
  refine loopY (okx [] [94]) mixed (A := A94) [0, 1, 7, 8] [] (S := { k : Nat // k ≤ l.length ∧ idxF q (l.drop k) k = J })
    (fr := fun s => frOf 0 19 [(0, .oslc (.d 1) e9 5 0 l.length false), (1, .fn (.func 62) [] []), (7, .int .i64 (l.length : Int)), (8, .int .i64 (s.1 : Int))])
    (h := fun s => ⟨[], [y0, .vec e9 (l.map prR)]⟩) (μ := fun s => l.length - s.1) ⟨0, by simp [hJ]⟩ ?_ ?_
    [] [] (S' := { k : Nat // -1 = J }) (X := fun _ => 0) (frX := fun s => frOf 0 19 []) (hX := fun s => ⟨[], [y0, .vec e9 (l.map prR)]⟩)
    [4] [] (S2 := { k : Nat // (k : Int) = J }) (frR := fun s => frOf 0 19 [(4, .int .i64 (s.1 : Int))]) (hR := fun s => ⟨[], [y0, .vec e9 (l.map prR)]⟩) ?_ ?_ ?_
  · exact rfl
  · exact rfl
  · rintro ⟨k, hk, hu⟩
    show aexR _ _ _ (frOf 0 19 [(0, .oslc (.d 1) e9 5 0 l.length false), (1, .fn (.func 62) [] []), (7, .int .i64 (l.length : Int)), (8, .int .i64 (k : Int))]) ⟨[], [y0, .vec e9 (l.map prR)]⟩ _
    by_cases g1 : k < l.length
    · have hm := mapR (f := prR) g1
      rw [List.drop_eq_getElem_cons g1, idxF] at hu
      have hmem := List.getElem_mem g1
      generalize l[k] = x at hm hu hmem
      have hc := hq x hmem
      have hx : prR x = prR x := rfl
      generalize q x = b at hu hc
      cases b with
      | true =>
        rw [if_pos rfl] at hu
        (repeat' (first | exact rfl | ((conv => whnf); first | refine optS hm ?_ | refine ⟨_, hc, ?_⟩ | exact rfl | exact ⟨rfl, rfl⟩ | refine ⟨(by kernel_rfl : drawOk _ _ _ _ = true), ?_⟩ | refine ⟨(by kernel_rfl : planOk _ _ _ _ = true), ?_⟩ | refine ⟨rfl, ?_⟩ | refine ⟨by (first | omega | (simp (disch := omega) only [wrapI]; omega) | (simp (disch := omega) only [wrapI]; simp; omega) | (simp; omega)), ?_⟩ | (intro ep) | (refine ifB (fun hb => ?_) (fun hb => ?_) <;> (try simp only [decide_eq_true_eq, decide_eq_false_iff_not, beq_iff_eq, beq_eq_false_iff_ne, bne_iff_ne, bne_eq_false_iff_eq, ne_eq, not_false_eq_true, not_true_eq_false, Bool.not_eq_true, Bool.not_eq_true', Bool.not_eq_false', Int.not_lt, Int.not_le] at hb) <;> (try simp (disch := omega) only [wrapI] at hb) <;> (try (exfalso; omega))) | fail)))
        all_goals (conv => whnf)
        all_goals exact back_of ⟨k, hu⟩ ⟨rfl, rfl⟩
      | false =>
        rw [if_neg (by simp)] at hu
        (repeat' (first | exact rfl | ((conv => whnf); first | refine optS hm ?_ | refine ⟨_, hc, ?_⟩ | exact rfl | exact ⟨rfl, rfl⟩ | refine ⟨(by kernel_rfl : drawOk _ _ _ _ = true), ?_⟩ | refine ⟨(by kernel_rfl : planOk _ _ _ _ = true), ?_⟩ | refine ⟨rfl, ?_⟩ | refine ⟨by (first | omega | (simp (disch := omega) only [wrapI]; omega) | (simp (disch := omega) only [wrapI]; simp; omega) | (simp; omega)), ?_⟩ | (intro ep) | (refine ifB (fun hb => ?_) (fun hb => ?_) <;> (try simp only [decide_eq_true_eq, decide_eq_false_iff_not, beq_iff_eq, beq_eq_false_iff_ne, bne_iff_ne, bne_eq_false_iff_eq, ne_eq, not_false_eq_true, not_true_eq_false, Bool.not_eq_true, Bool.not_eq_true', Bool.not_eq_false', Int.not_lt, Int.not_le] at hb) <;> (try simp (disch := omega) only [wrapI] at hb) <;> (try (exfalso; omega))) | fail)))
        all_goals (conv => whnf)
        all_goals exact back_of ⟨k + 1, by omega, hu⟩ ⟨by (first | exact rfl | (simp (disch := omega) only [wrapI]; exact rfl)), rfl, by dsimp only; omega⟩
    · rw [List.drop_eq_nil_of_le (by omega), idxF] at hu
      (repeat' (first | exact rfl | ((conv => whnf); first | exact rfl | exact ⟨rfl, rfl⟩ | refine ⟨(by kernel_rfl : drawOk _ _ _ _ = true), ?_⟩ | refine ⟨(by kernel_rfl : planOk _ _ _ _ = true), ?_⟩ | refine ⟨rfl, ?_⟩ | refine ⟨by (first | omega | (simp (disch := omega) only [wrapI]; omega) | (simp (disch := omega) only [wrapI]; simp; omega) | (simp; omega)), ?_⟩ | (intro ep) | (refine ifB (fun hb => ?_) (fun hb => ?_) <;> (try simp only [decide_eq_true_eq, decide_eq_false_iff_not, beq_iff_eq, beq_eq_false_iff_ne, bne_iff_ne, bne_eq_false_iff_eq, ne_eq, not_false_eq_true, not_true_eq_false, Bool.not_eq_true, Bool.not_eq_true', Bool.not_eq_false', Int.not_lt, Int.not_le] at hb) <;> (try simp (disch := omega) only [wrapI] at hb) <;> (try (exfalso; omega))) | fail)))
      all_goals (conv => whnf)
      all_goals exact back_of ⟨0, hu⟩ ⟨rfl, rfl, rfl⟩
  · rintro ⟨x, hx⟩
    (repeat' (first | exact rfl | ((conv => whnf); first | exact rfl | exact ⟨rfl, rfl⟩ | refine ⟨(by kernel_rfl : drawOk _ _ _ _ = true), ?_⟩ | refine ⟨(by kernel_rfl : planOk _ _ _ _ = true), ?_⟩ | refine ⟨rfl, ?_⟩ | refine ⟨by (first | omega | (simp (disch := omega) only [wrapI]; omega) | (simp (disch := omega) only [wrapI]; simp; omega) | (simp; omega)), ?_⟩ | (intro ep) | fail)))
    all_goals (conv => whnf)
    all_goals exact ⟨by rw [hx], rfl, rfl⟩
  · rintro ⟨x, hx⟩
    (repeat' (first | exact rfl | ((conv => whnf); first | exact rfl | exact ⟨rfl, rfl⟩ | refine ⟨(by kernel_rfl : drawOk _ _ _ _ = true), ?_⟩ | refine ⟨(by kernel_rfl : planOk _ _ _ _ = true), ?_⟩ | refine ⟨rfl, ?_⟩ | refine ⟨by (first | omega | (simp (disch := omega) only [wrapI]; omega) | (simp (disch := omega) only [wrapI]; simp; omega) | (simp; omega)), ?_⟩ | (intro ep) | fail)))
    all_goals (conv => whnf)
    all_goals exact ⟨by rw [← hx], rfl, rfl⟩

def A61 : Ann := fun r => match r with
  | 7 => { slots := [(4, 0)] }
  | _ => {}
set_option maxHeartbeats 8000000 in
set_option maxRecDepth 100000 in
theorem del61 (y0 : AObj) (q : Pr → Bool) (l : List Pr) (hl : l.length ≤ 1000000) (hq : ∀ x ∈ l, PRet C.P 62 [.agg (prR x)] (.bool (q x))) (e9 : Nat) :
    ACalls C.P 61 [.oslc (.d 1) e9 5 0 l.length false, .fn (.func 62) [] []] ⟨[], [y0, .vec e9 (l.map prR)]⟩ fun r h' => (∃ T : List Pr, (kept q l).length + T.length = l.length ∧ r = .oslc (.d 1) e9 5 0 (kept q l).length false ∧ h'.dy = [y0, .vec e9 ((kept q l).map prR ++ List.replicate T.length [.int .i64 0, .int .i64 0, .int .i64 0, .int .i64 0, .int .i64 0])]) ∧ padTo 0 h'.st = [] := by
  obtain ⟨Z, hZ⟩ : ∃ Z, Z = kept q l := ⟨_, rfl⟩
  have hi := index94 y0 q l hl hq e9
  rw [← hZ]
  refine fn_of (okx [] [94]) mixed (A := A61) 1 Try.func61 rfl ?_
  rcases idxF_spec q l 0 with ⟨e1, e2⟩ | ⟨i, i1, i2, i3⟩
  · rw [e1] at hi
    rw [← hZ] at e2
    subst e2
    (repeat' (first | exact rfl | ((conv => whnf); first | refine (ACalls.part 0 (by exact rfl) (by exact rfl) (by exact rfl) hi) ?_ | (rintro r h' ⟨rfl, hp1, hp2⟩; rw [hp1, hp2]) | exact rfl | exact ⟨rfl, rfl⟩ | refine ⟨(by kernel_rfl : drawOk _ _ _ _ = true), ?_⟩ | refine ⟨(by kernel_rfl : planOk _ _ _ _ = true), ?_⟩ | refine ⟨rfl, ?_⟩ | refine ⟨by (first | omega | (simp (disch := omega) only [wrapI]; omega) | (simp (disch := omega) only [wrapI]; simp; omega) | (simp; omega)), ?_⟩ | (intro ep) | (refine ifB (fun hb => ?_) (fun hb => ?_) <;> (try simp only [decide_eq_true_eq, decide_eq_false_iff_not, beq_iff_eq, beq_eq_false_iff_ne, bne_iff_ne, bne_eq_false_iff_eq, ne_eq, not_false_eq_true, not_true_eq_false, Bool.not_eq_true, Bool.not_eq_true', Bool.not_eq_false', Int.not_lt, Int.not_le] at hb) <;> (try simp (disch := omega) only [wrapI] at hb) <;> (try (exfalso; omega))) | fail)))
    all_goals (conv => whnf)
    all_goals exact ⟨⟨[], by simp, rfl, by rw [List.length_nil, List.replicate_zero, List.append_nil]⟩, rfl⟩
  · rw [i2, Int.zero_add] at hi
    rw [← hZ] at i3
    obtain ⟨K0, hK0⟩ : ∃ K0, K0 = l.take i := ⟨_, rfl⟩
    rw [← hK0] at i3
    obtain ⟨x0, hx0⟩ : ∃ x0, x0 = l[i] := ⟨_, rfl⟩
    have hKl : K0.length = i := by rw [hK0, List.length_take]; omega
    have hl2 : K0 ++ [x0] ++ l.drop (i + 1) = l := by rw [hK0, hx0, List.append_assoc, List.singleton_append, ← List.drop_eq_getElem_cons i1, List.take_append_drop]
    subst hKl
    clear hK0 hx0
    (repeat' (first | exact rfl | ((conv => whnf); first | refine (ACalls.part 0 (by exact rfl) (by exact rfl) (by exact rfl) hi) ?_ | (rintro r h' ⟨rfl, hp1, hp2⟩; rw [hp1, hp2]) | exact rfl | exact ⟨rfl, rfl⟩ | refine ⟨(by kernel_rfl : drawOk _ _ _ _ = true), ?_⟩ | refine ⟨(by kernel_rfl : planOk _ _ _ _ = true), ?_⟩ | refine ⟨rfl, ?_⟩ | refine ⟨by (first | omega | (simp (disch := omega) only [wrapI]; omega) | (simp (disch := omega) only [wrapI]; simp; omega) | (simp; omega)), ?_⟩ | (intro ep) | (refine ifB (fun hb => ?_) (fun hb => ?_) <;> (try simp only [decide_eq_true_eq, decide_eq_false_iff_not, beq_iff_eq, beq_eq_false_iff_ne, bne_iff_ne, bne_eq_false_iff_eq, ne_eq, not_false_eq_true, not_true_eq_false, Bool.not_eq_true, Bool.not_eq_true', Bool.not_eq_false', Int.not_lt, Int.not_le] at hb) <;> (try simp (disch := omega) only [wrapI] at hb) <;> (try (exfalso; omega))) | fail)))
    all_goals (conv => whnf)
    refine loopY (okx [] [94]) mixed (A := A61) [0, 1, 5, 6] [] (S := { z : Nat × List Pr × List Pr // z.1 ≤ l.length ∧ z.2.1.length + z.2.2.length = z.1 ∧ 0 < z.2.2.length ∧ z.2.1 ++ kept q (l.drop z.1) = Z })
      (fr := fun s => frOf 0 42 [(0, .oslc (.d 1) e9 5 0 l.length false), (1, .fn (.func 62) [] []), (5, .int .i64 (s.1.2.1.length : Int)), (6, .int .i64 (s.1.1 : Int))])
      (h := fun s => ⟨[.hole], [y0, .vec e9 (((s.1.2.1 ++ s.1.2.2 ++ l.drop s.1.1).map prR))]⟩) (μ := fun s => l.length - s.1.1) ⟨(K0.length + 1, K0, [x0]), by dsimp only; omega, by simp, by simp, i3⟩ ?_ ?_
      [0, 5] [] (S' := { z : List Pr // Z.length + z.length = l.length ∧ 0 < z.length }) (X := fun _ => 0) (frX := fun s => frOf 0 42 [(0, .oslc (.d 1) e9 5 0 l.length false), (5, .int .i64 (Z.length : Int))]) (hX := fun s => ⟨[.hole], [y0, .vec e9 (((Z ++ s.1).map prR))]⟩)
      [] [] (S2 := Empty) (frR := fun s => frOf 0 42 []) (hR := fun s => ⟨[], []⟩) ?_ ?_ ?_
    · (first | exact rfl | (simp (disch := omega) only [wrapI]; exact rfl))
    · show _ = (⟨[.hole], [y0, .vec e9 (((K0 ++ [x0] ++ l.drop (K0.length + 1)).map prR))]⟩ : Heap)
      rw [hl2]
      exact rfl
    · rintro ⟨⟨j, K, T⟩, hj, hKT, hT0, hz⟩
      dsimp only at hj hKT hT0 hz
      show aexR _ _ _ (frOf 0 42 [(0, .oslc (.d 1) e9 5 0 l.length false), (1, .fn (.func 62) [] []), (5, .int .i64 (K.length : Int)), (6, .int .i64 (j : Int))]) ⟨[.hole], [y0, .vec e9 (((K ++ T ++ l.drop j).map prR))]⟩ _
      by_cases g1 : j < l.length
      · have hjl : j < (K ++ T ++ l.drop j).length := by simp only [List.length_append, List.length_drop]; omega
        have hm := mapR (f := prR) hjl
        have hget : (K ++ T ++ l.drop j)[j] = l[j] := by
          rw [List.getElem_append_right (by rw [List.length_append]; omega), List.getElem_drop]
          congr 1
          rw [List.length_append]; omega
        rw [hget] at hm
        rw [kept_cons q g1] at hz
        have hdr := List.drop_eq_getElem_cons g1
        have hlen : ((K ++ T ++ l.drop j).map prR).length = l.length := by simp only [List.length_map, List.length_append, List.length_drop]; omega
        obtain ⟨W, hW⟩ : ∃ W, W = K ++ T ++ l.drop j := ⟨_, rfl⟩
        rw [← hW] at hm hlen ⊢
        rw [hdr] at hW
        clear hget hjl hdr
        have hmem := List.getElem_mem g1
        generalize l[j] = x at hm hz hW hmem
        have hc := hq x hmem
        obtain ⟨b, hb⟩ : ∃ b, b = q x := ⟨_, rfl⟩
        rw [← hb] at hz hc
        cases b with
        | true =>
          rw [if_pos rfl] at hz
          (repeat' (first | exact rfl | ((conv => whnf); first | refine optS hm ?_ | refine ⟨_, hc, ?_⟩ | exact rfl | exact ⟨rfl, rfl⟩ | refine ⟨(by kernel_rfl : drawOk _ _ _ _ = true), ?_⟩ | refine ⟨(by kernel_rfl : planOk _ _ _ _ = true), ?_⟩ | refine ⟨rfl, ?_⟩ | refine ⟨by (first | omega | (simp (disch := omega) only [wrapI]; omega) | (simp (disch := omega) only [wrapI]; simp; omega) | (simp; omega)), ?_⟩ | (intro ep) | (refine ifB (fun hb => ?_) (fun hb => ?_) <;> (try simp only [decide_eq_true_eq, decide_eq_false_iff_not, beq_iff_eq, beq_eq_false_iff_ne, bne_iff_ne, bne_eq_false_iff_eq, ne_eq, not_false_eq_true, not_true_eq_false, Bool.not_eq_true, Bool.not_eq_true', Bool.not_eq_false', Int.not_lt, Int.not_le] at hb) <;> (try simp (disch := omega) only [wrapI] at hb) <;> (try (exfalso; omega))) | fail)))
          all_goals (conv => whnf)
          refine back_of ⟨(j + 1, K, T ++ [x]), by dsimp only; omega, by dsimp only; rw [List.length_append, List.length_singleton]; omega, by dsimp only; rw [List.length_append, List.length_singleton]; omega, hz⟩ ⟨by (first | exact rfl | (simp (disch := omega) only [wrapI]; exact rfl)), ?_, by dsimp only; omega⟩
          show _ = (⟨[.hole], [y0, .vec e9 (((K ++ (T ++ [x]) ++ l.drop (j + 1)).map prR))]⟩ : Heap)
          rw [show K ++ (T ++ [x]) ++ l.drop (j + 1) = W by rw [hW]; simp]
          exact rfl
        | false =>
          rw [if_neg (by simp)] at hz
          cases T with
          | nil => simp at hT0
          | cons t T =>
          rw [List.length_cons] at hKT
          have hset : (W.map prR).set (0 + ((K.length : Nat) : Int).toNat) (prR x) = ((K ++ [x]) ++ (T ++ [x]) ++ l.drop (j + 1)).map prR := by
            rw [Nat.zero_add, Int.toNat_natCast, ← List.map_set, hW]
            congr 1
            rw [List.append_assoc, List.append_assoc, List.set_append_right _ _ (Nat.le_refl _), Nat.sub_self]
            simp
          have hmr : (W.map prR)[0 + ((K.length : Nat) : Int).toNat]? = some (prR t) := by
            rw [hW, Nat.zero_add, Int.toNat_natCast, List.getElem?_map, List.append_assoc, List.getElem?_append_right (Nat.le_refl _), Nat.sub_self]
            rfl
          (repeat' (first | exact rfl | ((conv => whnf); first | refine optS hm ?_ | refine optS hmr ?_ | refine ⟨_, hc, ?_⟩ | exact rfl | exact ⟨rfl, rfl⟩ | refine ⟨(by kernel_rfl : drawOk _ _ _ _ = true), ?_⟩ | refine ⟨(by kernel_rfl : planOk _ _ _ _ = true), ?_⟩ | refine ⟨rfl, ?_⟩ | refine ⟨by (first | omega | (simp (disch := omega) only [wrapI]; omega) | (simp (disch := omega) only [wrapI]; simp; omega) | (simp; omega)), ?_⟩ | (intro ep) | (refine ifB (fun hb => ?_) (fun hb => ?_) <;> (try simp only [decide_eq_true_eq, decide_eq_false_iff_not, beq_iff_eq, beq_eq_false_iff_ne, bne_iff_ne, bne_eq_false_iff_eq, ne_eq, not_false_eq_true, not_true_eq_false, Bool.not_eq_true, Bool.not_eq_true', Bool.not_eq_false', Int.not_lt, Int.not_le] at hb) <;> (try simp (disch := omega) only [wrapI] at hb) <;> (try (exfalso; omega))) | fail)))
          all_goals (conv => whnf)
          refine back_of ⟨(j + 1, K ++ [x], T ++ [x]), by dsimp only; omega, by dsimp only; rw [List.length_append, List.length_append, List.length_singleton]; omega, by dsimp only; rw [List.length_append, List.length_singleton]; omega, by dsimp only; rw [List.append_assoc]; exact hz⟩ ⟨?_, ?_, by dsimp only; omega⟩
          · show maskF 0 _ _ = frOf 0 42 [(0, .oslc (.d 1) e9 5 0 l.length false), (1, .fn (.func 62) [] []), (5, .int .i64 ((K ++ [x]).length : Int)), (6, .int .i64 ((j + 1 : Nat) : Int))]
            rw [List.length_append, List.length_singleton]
            (first | exact rfl | (simp (disch := omega) only [wrapI]; exact rfl))
          · show _ = (⟨[.hole], [y0, .vec e9 (((K ++ [x]) ++ (T ++ [x]) ++ l.drop (j + 1)).map prR)]⟩ : Heap)
            rw [← hset]
            exact rfl
      · have hj2 : j = l.length := by omega
        subst hj2
        rw [List.drop_length, show kept q [] = [] from rfl, List.append_nil] at hz
        subst hz
        (repeat' (first | exact rfl | ((conv => whnf); first | exact rfl | exact ⟨rfl, rfl⟩ | refine ⟨(by kernel_rfl : drawOk _ _ _ _ = true), ?_⟩ | refine ⟨(by kernel_rfl : planOk _ _ _ _ = true), ?_⟩ | refine ⟨rfl, ?_⟩ | refine ⟨by (first | omega | (simp (disch := omega) only [wrapI]; omega) | (simp (disch := omega) only [wrapI]; simp; omega) | (simp; omega)), ?_⟩ | (intro ep) | (refine ifB (fun hb => ?_) (fun hb => ?_) <;> (try simp only [decide_eq_true_eq, decide_eq_false_iff_not, beq_iff_eq, beq_eq_false_iff_ne, bne_iff_ne, bne_eq_false_iff_eq, ne_eq, not_false_eq_true, not_true_eq_false, Bool.not_eq_true, Bool.not_eq_true', Bool.not_eq_false', Int.not_lt, Int.not_le] at hb) <;> (try simp (disch := omega) only [wrapI] at hb) <;> (try (exfalso; omega))) | fail)))
        all_goals (conv => whnf)
        all_goals refine back_of ⟨T, hKT, hT0⟩ ⟨rfl, rfl, ?_⟩
        show _ = (⟨[.hole], [y0, .vec e9 (((K ++ T).map prR))]⟩ : Heap)
        rw [List.drop_length, List.append_nil]
        exact rfl
    · rintro ⟨⟩
    · rintro ⟨T, hT, hT0⟩
      (repeat' (first | exact rfl | ((conv => whnf); first | exact rfl | exact ⟨rfl, rfl⟩ | refine ⟨(by kernel_rfl : drawOk _ _ _ _ = true), ?_⟩ | refine ⟨(by kernel_rfl : planOk _ _ _ _ = true), ?_⟩ | refine ⟨rfl, ?_⟩ | refine ⟨by (first | omega | (simp (disch := omega) only [wrapI]; omega) | (simp (disch := omega) only [wrapI]; simp; omega) | (simp; omega)), ?_⟩ | (intro ep) | (refine ifB (fun hb => ?_) (fun hb => ?_) <;> (try simp only [decide_eq_true_eq, decide_eq_false_iff_not, beq_iff_eq, beq_eq_false_iff_ne, bne_iff_ne, bne_eq_false_iff_eq, ne_eq, not_false_eq_true, not_true_eq_false, Bool.not_eq_true, Bool.not_eq_true', Bool.not_eq_false', Int.not_lt, Int.not_le] at hb) <;> (try simp (disch := omega) only [wrapI] at hb) <;> (try (exfalso; omega))) | fail)))
      all_goals (conv => whnf)
      have hrow : List.take (0 + ((Z.length : Nat) : Int).toNat) ((Z ++ T).map prR) ++ List.replicate (l.length - ((Z.length : Nat) : Int).toNat) [.int .i64 0, .int .i64 0, .int .i64 0, .int .i64 0, .int .i64 0] ++ List.drop (0 + ((Z.length : Nat) : Int).toNat + (l.length - ((Z.length : Nat) : Int).toNat)) ((Z ++ T).map prR) = Z.map prR ++ List.replicate T.length [.int .i64 0, .int .i64 0, .int .i64 0, .int .i64 0, .int .i64 0] := by
        rw [Nat.zero_add, Int.toNat_natCast, show l.length - Z.length = T.length by omega, List.map_append, List.take_left' (by simp), List.drop_eq_nil_of_le (by simp), List.append_nil]
      refine ⟨⟨T, hT, by rw [Int.toNat_natCast], ?_⟩, rfl⟩
      show ([y0, .vec e9 (List.take (0 + ((Z.length : Nat) : Int).toNat) ((Z ++ T).map prR) ++ List.replicate (l.length - ((Z.length : Nat) : Int).toNat) [.int .i64 0, .int .i64 0, .int .i64 0, .int .i64 0, .int .i64 0] ++ List.drop (0 + ((Z.length : Nat) : Int).toNat + (l.length - ((Z.length : Nat) : Int).toNat)) ((Z ++ T).map prR))] : List AObj) = _
      rw [hrow]
end Go.Ab.V
