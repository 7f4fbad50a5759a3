/-
  What is proved here serves the law's text: each part says its own claim and its conditions. No condition is left open.
-/
import Derived.Test.YtchkiolagohnlaaJD
import Derived.Test.YtchkiolagohnlaaJB
set_option linter.unusedSimpArgs false
set_option linter.unusedVariables false

/-
  Why a note ends: the program's walk. The pieces are valid.
-/
namespace Go.Ab.V
open Go.Proofs

def A98 : Ann := fun _ => {}
set_option maxHeartbeats 8000000 in
set_option maxRecDepth 100000 in
theorem index98 (l : List Int) (t : Int) (hl : l.length ≤ 1000000) : PRet C.P 98 [intsA l, .int .i64 t] (.int .i64 (idxF (fun y => decide (t = y)) l 0)) := by
  obtain ⟨R, hR⟩ : ∃ R, R = idxF (fun y => decide (t = y)) l 0 := ⟨_, rfl⟩
  rw [← hR]
  refine pret_of ok mixed (A := A98) 0 Try.func98 rfl ?_
  (repeat' (first | exact rfl | ((conv => whnf); first | exact rfl | exact ⟨rfl, rfl⟩ | refine ⟨(by kernel_rfl : drawOk _ _ _ _ = true), ?_⟩ | refine ⟨(by kernel_rfl : planOk _ _ _ _ = true), ?_⟩ | refine ⟨rfl, ?_⟩ | refine ⟨by (first | omega | (simp (disch := omega) only [wrapI]; omega) | (simp (disch := omega) only [wrapI]; simp; omega) | (simp; omega)), ?_⟩ | (intro ep) | (refine ifB (fun hb => ?_) (fun hb => ?_) <;> (try simp only [decide_eq_true_eq, decide_eq_false_iff_not, beq_iff_eq, beq_eq_false_iff_ne, bne_iff_ne, bne_eq_false_iff_eq, ne_eq, not_false_eq_true, not_true_eq_false, Bool.not_eq_true, Bool.not_eq_true', Bool.not_eq_false', Int.not_lt, Int.not_le] at hb) <;> (try simp (disch := omega) only [wrapI] at hb) <;> (try (exfalso; omega))) | fail)))
  all_goals (conv => whnf)
  refine loopY ok mixed (A := A98) [0, 1, 7, 8] [] (S := { k : Nat // k ≤ l.length ∧ idxF (fun y => decide (t = y)) (l.drop k) k = R })
    (fr := fun s => frOf 0 19 [(0, intsA l), (1, .int .i64 t), (7, .int .i64 (l.length : Int)), (8, .int .i64 (s.1 : Int))])
    (h := fun s => ⟨[], []⟩) (μ := fun s => l.length - s.1) ⟨0, by simp [hR]⟩ ?_ ?_
    [] [] (S' := { k : Nat // -1 = R }) (X := fun _ => 0) (frX := fun s => frOf 0 19 []) (hX := fun s => ⟨[], []⟩)
    [4] [] (S2 := { k : Nat // (k : Int) = R }) (frR := fun s => frOf 0 19 [(4, .int .i64 (s.1 : Int))]) (hR := fun s => ⟨[], []⟩) ?_ ?_ ?_
  · exact rfl
  · exact rfl
  · rintro ⟨k, hk, hu⟩
    show aexR _ _ _ (frOf 0 19 [(0, intsA l), (1, .int .i64 t), (7, .int .i64 (l.length : Int)), (8, .int .i64 (k : Int))]) ⟨[], []⟩ _
    by_cases h1 : k < l.length
    · have hm := intsR h1
      rw [List.drop_eq_getElem_cons h1, idxF] at hu
      generalize l[k] = y at hm hu
      by_cases c1 : t = y
      · rw [if_pos (by simp [c1])] at hu
        (repeat' (first | exact rfl | ((conv => whnf); first | refine optS hm ?_ | exact rfl | exact ⟨rfl, rfl⟩ | refine ⟨(by kernel_rfl : drawOk _ _ _ _ = true), ?_⟩ | refine ⟨(by kernel_rfl : planOk _ _ _ _ = true), ?_⟩ | refine ⟨rfl, ?_⟩ | refine ⟨by (first | omega | (simp (disch := omega) only [wrapI]; omega) | (simp (disch := omega) only [wrapI]; simp; omega) | (simp; omega)), ?_⟩ | (intro ep) | (refine ifB (fun hb => ?_) (fun hb => ?_) <;> (try simp only [decide_eq_true_eq, decide_eq_false_iff_not, beq_iff_eq, beq_eq_false_iff_ne, bne_iff_ne, bne_eq_false_iff_eq, ne_eq, not_false_eq_true, not_true_eq_false, Bool.not_eq_true, Bool.not_eq_true', Bool.not_eq_false', Int.not_lt, Int.not_le] at hb) <;> (try simp (disch := omega) only [wrapI] at hb) <;> (try (exfalso; omega))) | fail)))
        all_goals (conv => whnf)
        all_goals exact back_of ⟨k, hu⟩ ⟨rfl, rfl⟩
      · rw [if_neg (by simp [c1])] at hu
        (repeat' (first | exact rfl | ((conv => whnf); first | refine optS hm ?_ | exact rfl | exact ⟨rfl, rfl⟩ | refine ⟨(by kernel_rfl : drawOk _ _ _ _ = true), ?_⟩ | refine ⟨(by kernel_rfl : planOk _ _ _ _ = true), ?_⟩ | refine ⟨rfl, ?_⟩ | refine ⟨by (first | omega | (simp (disch := omega) only [wrapI]; omega) | (simp (disch := omega) only [wrapI]; simp; omega) | (simp; omega)), ?_⟩ | (intro ep) | (refine ifB (fun hb => ?_) (fun hb => ?_) <;> (try simp only [decide_eq_true_eq, decide_eq_false_iff_not, beq_iff_eq, beq_eq_false_iff_ne, bne_iff_ne, bne_eq_false_iff_eq, ne_eq, not_false_eq_true, not_true_eq_false, Bool.not_eq_true, Bool.not_eq_true', Bool.not_eq_false', Int.not_lt, Int.not_le] at hb) <;> (try simp (disch := omega) only [wrapI] at hb) <;> (try (exfalso; omega))) | fail)))
        all_goals (conv => whnf)
        all_goals exact back_of ⟨k + 1, by omega, hu⟩ ⟨by (first | exact rfl | (simp (disch := omega) only [wrapI]; exact rfl)), rfl, by dsimp only; omega⟩
    · rw [List.drop_eq_nil_of_le (by omega), idxF] at hu
      (repeat' (first | exact rfl | ((conv => whnf); first | exact rfl | exact ⟨rfl, rfl⟩ | refine ⟨(by kernel_rfl : drawOk _ _ _ _ = true), ?_⟩ | refine ⟨(by kernel_rfl : planOk _ _ _ _ = true), ?_⟩ | refine ⟨rfl, ?_⟩ | refine ⟨by (first | omega | (simp (disch := omega) only [wrapI]; omega) | (simp (disch := omega) only [wrapI]; simp; omega) | (simp; omega)), ?_⟩ | (intro ep) | (refine ifB (fun hb => ?_) (fun hb => ?_) <;> (try simp only [decide_eq_true_eq, decide_eq_false_iff_not, beq_iff_eq, beq_eq_false_iff_ne, bne_iff_ne, bne_eq_false_iff_eq, ne_eq, not_false_eq_true, not_true_eq_false, Bool.not_eq_true, Bool.not_eq_true', Bool.not_eq_false', Int.not_lt, Int.not_le] at hb) <;> (try simp (disch := omega) only [wrapI] at hb) <;> (try (exfalso; omega))) | fail)))
      all_goals (conv => whnf)
      all_goals exact back_of ⟨0, hu⟩ ⟨rfl, rfl, rfl⟩
  · rintro ⟨x, hx⟩
    (repeat' (first | exact rfl | ((conv => whnf); first | exact rfl | exact ⟨rfl, rfl⟩ | refine ⟨(by kernel_rfl : drawOk _ _ _ _ = true), ?_⟩ | refine ⟨(by kernel_rfl : planOk _ _ _ _ = true), ?_⟩ | refine ⟨rfl, ?_⟩ | refine ⟨by (first | omega | (simp (disch := omega) only [wrapI]; omega) | (simp (disch := omega) only [wrapI]; simp; omega) | (simp; omega)), ?_⟩ | (intro ep) | fail)))
    all_goals (conv => whnf)
    all_goals (subst hx; rfl)
  · rintro ⟨x, hx⟩
    (repeat' (first | exact rfl | ((conv => whnf); first | exact rfl | exact ⟨rfl, rfl⟩ | refine ⟨(by kernel_rfl : drawOk _ _ _ _ = true), ?_⟩ | refine ⟨(by kernel_rfl : planOk _ _ _ _ = true), ?_⟩ | refine ⟨rfl, ?_⟩ | refine ⟨by (first | omega | (simp (disch := omega) only [wrapI]; omega) | (simp (disch := omega) only [wrapI]; simp; omega) | (simp; omega)), ?_⟩ | (intro ep) | fail)))
    all_goals (conv => whnf)
    all_goals (subst hx; rfl)
def onC (x : Nt) (s : Stp) : Bool := decide (s.c = x.c)
def A100 : Ann := fun r => match r with
  | 0 => { slots := [(0, 3)] }
  | _ => {}
theorem onC100 (u0 u2 : AObj) (e1 : Nat) (x : Nt) (s : Stp) : ACalls C.P 100 [.agg (stR s), .optr (.s 1) e1 5 0 0] ⟨[u0, .vec e1 [ntR x], u2], []⟩
    fun r h' => r = .bool (onC x s) ∧ padTo 3 h'.st = [u0, .vec e1 [ntR x], u2] ∧ h'.dy = [] := by
  obtain ⟨e, c, p, f, t⟩ := x
  obtain ⟨sc, sf, sr, sg, sh⟩ := s
  unfold onC
  dsimp only
  refine fn_of ok mixed (A := A100) 1 Try.func100 rfl ?_
  (repeat' (first | exact rfl | ((conv => whnf); first | exact rfl | exact ⟨rfl, rfl⟩ | refine ⟨(by kernel_rfl : drawOk _ _ _ _ = true), ?_⟩ | refine ⟨(by kernel_rfl : planOk _ _ _ _ = true), ?_⟩ | refine ⟨rfl, ?_⟩ | refine ⟨by (first | omega | (simp (disch := omega) only [wrapI]; omega) | (simp (disch := omega) only [wrapI]; simp; omega) | (simp; omega)), ?_⟩ | (intro ep) | (refine ifB (fun hb => ?_) (fun hb => ?_) <;> (try simp only [decide_eq_true_eq, decide_eq_false_iff_not, beq_iff_eq, beq_eq_false_iff_ne, bne_iff_ne, bne_eq_false_iff_eq, ne_eq, not_false_eq_true, not_true_eq_false, Bool.not_eq_true, Bool.not_eq_true', Bool.not_eq_false', Int.not_lt, Int.not_le] at hb) <;> (try simp (disch := omega) only [wrapI] at hb) <;> (try (exfalso; omega))) | fail)))
  all_goals (conv => whnf)
  all_goals exact ⟨rfl, rfl, rfl⟩
def A123 : Ann := fun _ => {}
set_option maxHeartbeats 8000000 in
set_option maxRecDepth 100000 in
theorem index123 (u0 u2 : AObj) (e1 : Nat) (x : Nt) (l : List Stp) (hl : l.length ≤ 1000000) :
    ACalls C.P 123 [stsA l, .fn (.func 100) [] [.optr (.s 1) e1 5 0 0]] ⟨[u0, .vec e1 [ntR x], u2], []⟩ fun r h' => r = .int .i64 (idxF (onC x) l 0) ∧ padTo 3 h'.st = [u0, .vec e1 [ntR x], u2] ∧ h'.dy = [] := by
  obtain ⟨J, hJ⟩ : ∃ J, J = idxF (onC x) l 0 := ⟨_, rfl⟩
  rw [← hJ]
  refine fn_of (okx [] [100]) mixed (A := A123) 0 Try.func123 rfl ?_
  (repeat' (first | exact rfl | ((conv => whnf); first | exact rfl | exact ⟨rfl, rfl⟩ | refine ⟨(by kernel_rfl : drawOk _ _ _ _ = true), ?_⟩ | refine ⟨(by kernel_rfl : planOk _ _ _ _ = true), ?_⟩ | refine ⟨rfl, ?_⟩ | refine ⟨by (first | omega | (simp (disch := omega) only [wrapI]; omega) | (simp (disch := omega) only [wrapI]; simp; omega) | (simp; omega)), ?_⟩ | (intro ep) | (refine ifB (fun hb => ?_) (fun hb => ?_) <;> (try simp only [decide_eq_true_eq, decide_eq_false_iff_not, beq_iff_eq, beq_eq_false_iff_ne, bne_iff_ne, bne_eq_false_iff_eq, ne_eq, not_false_eq_true, not_true_eq_false, Bool.not_eq_true, Bool.not_eq_true', Bool.not_eq_false', Int.not_lt, Int.not_le] at hb) <;> (try simp (disch := omega) only [wrapI] at hb) <;> (try (exfalso; omega))) | fail)))
  all_goals (conv => whnf)
  refine loopY (okx [] [100]) mixed (A := A123) [0, 1, 7, 8] [0, 1, 2] (S := { k : Nat // k ≤ l.length ∧ idxF (onC x) (l.drop k) k = J })
    (fr := fun s => frOf 0 19 [(0, stsA l), (1, .fn (.func 100) [] [.optr (.s 1) e1 5 0 0]), (7, .int .i64 (l.length : Int)), (8, .int .i64 (s.1 : Int))])
    (h := fun s => ⟨[u0, .vec e1 [ntR x], u2], []⟩) (μ := fun s => l.length - s.1) ⟨0, by simp [hJ]⟩ ?_ ?_
    [] [0, 1, 2] (S' := { k : Nat // -1 = J }) (X := fun _ => 0) (frX := fun s => frOf 0 19 []) (hX := fun s => ⟨[u0, .vec e1 [ntR x], u2], []⟩)
    [4] [0, 1, 2] (S2 := { k : Nat // (k : Int) = J }) (frR := fun s => frOf 0 19 [(4, .int .i64 (s.1 : Int))]) (hR := fun s => ⟨[u0, .vec e1 [ntR x], u2], []⟩) ?_ ?_ ?_
  · exact rfl
  · exact rfl
  · rintro ⟨k, hk, hu⟩
    show aexR _ _ _ (frOf 0 19 [(0, stsA l), (1, .fn (.func 100) [] [.optr (.s 1) e1 5 0 0]), (7, .int .i64 (l.length : Int)), (8, .int .i64 (k : Int))]) ⟨[u0, .vec e1 [ntR x], u2], []⟩ _
    by_cases g1 : k < l.length
    · have hm := mapR (f := stR) g1
      rw [List.drop_eq_getElem_cons g1, idxF] at hu
      generalize l[k] = s at hm hu
      have hc := onC100 u0 u2 e1 x s
      generalize onC x s = b at hu hc
      cases b with
      | true =>
        rw [if_pos rfl] at hu
        (repeat' (first | exact rfl | ((conv => whnf); first | refine optS hm ?_ | (refine (ACalls.part 3 (by exact rfl) (by exact rfl) (by exact rfl) hc) ?_; rintro r h' ⟨rfl, hp1, hp2⟩; rw [hp1, hp2]) | exact rfl | exact ⟨rfl, rfl⟩ | refine ⟨(by kernel_rfl : drawOk _ _ _ _ = true), ?_⟩ | refine ⟨(by kernel_rfl : planOk _ _ _ _ = true), ?_⟩ | refine ⟨rfl, ?_⟩ | refine ⟨by (first | omega | (simp (disch := omega) only [wrapI]; omega) | (simp (disch := omega) only [wrapI]; simp; omega) | (simp; omega)), ?_⟩ | (intro ep) | (refine ifB (fun hb => ?_) (fun hb => ?_) <;> (try simp only [decide_eq_true_eq, decide_eq_false_iff_not, beq_iff_eq, beq_eq_false_iff_ne, bne_iff_ne, bne_eq_false_iff_eq, ne_eq, not_false_eq_true, not_true_eq_false, Bool.not_eq_true, Bool.not_eq_true', Bool.not_eq_false', Int.not_lt, Int.not_le] at hb) <;> (try simp (disch := omega) only [wrapI] at hb) <;> (try (exfalso; omega))) | fail)))
        all_goals (conv => whnf)
        all_goals exact back_of ⟨k, hu⟩ ⟨rfl, rfl⟩
      | false =>
        rw [if_neg (by simp)] at hu
        (repeat' (first | exact rfl | ((conv => whnf); first | refine optS hm ?_ | (refine (ACalls.part 3 (by exact rfl) (by exact rfl) (by exact rfl) hc) ?_; rintro r h' ⟨rfl, hp1, hp2⟩; rw [hp1, hp2]) | exact rfl | exact ⟨rfl, rfl⟩ | refine ⟨(by kernel_rfl : drawOk _ _ _ _ = true), ?_⟩ | refine ⟨(by kernel_rfl : planOk _ _ _ _ = true), ?_⟩ | refine ⟨rfl, ?_⟩ | refine ⟨by (first | omega | (simp (disch := omega) only [wrapI]; omega) | (simp (disch := omega) only [wrapI]; simp; omega) | (simp; omega)), ?_⟩ | (intro ep) | (refine ifB (fun hb => ?_) (fun hb => ?_) <;> (try simp only [decide_eq_true_eq, decide_eq_false_iff_not, beq_iff_eq, beq_eq_false_iff_ne, bne_iff_ne, bne_eq_false_iff_eq, ne_eq, not_false_eq_true, not_true_eq_false, Bool.not_eq_true, Bool.not_eq_true', Bool.not_eq_false', Int.not_lt, Int.not_le] at hb) <;> (try simp (disch := omega) only [wrapI] at hb) <;> (try (exfalso; omega))) | fail)))
        all_goals (conv => whnf)
        all_goals exact back_of ⟨k + 1, by omega, hu⟩ ⟨by (first | exact rfl | (simp (disch := omega) only [wrapI]; exact rfl)), rfl, by dsimp only; omega⟩
    · rw [List.drop_eq_nil_of_le (by omega), idxF] at hu
      (repeat' (first | exact rfl | ((conv => whnf); first | exact rfl | exact ⟨rfl, rfl⟩ | refine ⟨(by kernel_rfl : drawOk _ _ _ _ = true), ?_⟩ | refine ⟨(by kernel_rfl : planOk _ _ _ _ = true), ?_⟩ | refine ⟨rfl, ?_⟩ | refine ⟨by (first | omega | (simp (disch := omega) only [wrapI]; omega) | (simp (disch := omega) only [wrapI]; simp; omega) | (simp; omega)), ?_⟩ | (intro ep) | (refine ifB (fun hb => ?_) (fun hb => ?_) <;> (try simp only [decide_eq_true_eq, decide_eq_false_iff_not, beq_iff_eq, beq_eq_false_iff_ne, bne_iff_ne, bne_eq_false_iff_eq, ne_eq, not_false_eq_true, not_true_eq_false, Bool.not_eq_true, Bool.not_eq_true', Bool.not_eq_false', Int.not_lt, Int.not_le] at hb) <;> (try simp (disch := omega) only [wrapI] at hb) <;> (try (exfalso; omega))) | fail)))
      all_goals (conv => whnf)
      all_goals exact back_of ⟨0, hu⟩ ⟨rfl, rfl, rfl⟩
  · rintro ⟨y, hx⟩
    (repeat' (first | exact rfl | ((conv => whnf); first | exact rfl | exact ⟨rfl, rfl⟩ | refine ⟨(by kernel_rfl : drawOk _ _ _ _ = true), ?_⟩ | refine ⟨(by kernel_rfl : planOk _ _ _ _ = true), ?_⟩ | refine ⟨rfl, ?_⟩ | refine ⟨by (first | omega | (simp (disch := omega) only [wrapI]; omega) | (simp (disch := omega) only [wrapI]; simp; omega) | (simp; omega)), ?_⟩ | (intro ep) | fail)))
    all_goals (conv => whnf)
    all_goals exact ⟨by rw [hx], rfl, rfl⟩
  · rintro ⟨y, hx⟩
    (repeat' (first | exact rfl | ((conv => whnf); first | exact rfl | exact ⟨rfl, rfl⟩ | refine ⟨(by kernel_rfl : drawOk _ _ _ _ = true), ?_⟩ | refine ⟨(by kernel_rfl : planOk _ _ _ _ = true), ?_⟩ | refine ⟨rfl, ?_⟩ | refine ⟨by (first | omega | (simp (disch := omega) only [wrapI]; omega) | (simp (disch := omega) only [wrapI]; simp; omega) | (simp; omega)), ?_⟩ | (intro ep) | fail)))
    all_goals (conv => whnf)
    all_goals exact ⟨by rw [← hx], rfl, rfl⟩
theorem idxF_any {α : Type} (q : α → Bool) : ∀ (l : List α) (k : Int), 0 ≤ k → decide (idxF q l k ≥ 0) = l.any q
  | [], k, _ => by simp [idxF]
  | x :: r, k, h => by
    unfold idxF
    rw [List.any_cons]
    cases hq : q x with
    | true => simp [h]
    | false => simpa using idxF_any q r (k + 1) (by omega)
def A99 : Ann := fun _ => {}
set_option maxHeartbeats 8000000 in
set_option maxRecDepth 100000 in
theorem has99 (u0 u2 : AObj) (e1 : Nat) (x : Nt) (l : List Stp) (hl : l.length ≤ 1000000) :
    ACalls C.P 99 [stsA l, .fn (.func 100) [] [.optr (.s 1) e1 5 0 0]] ⟨[u0, .vec e1 [ntR x], u2], []⟩ fun r h' => r = .bool (hasC l x.c) ∧ padTo 3 h'.st = [u0, .vec e1 [ntR x], u2] ∧ h'.dy = [] := by
  have hc := index123 u0 u2 e1 x l hl
  have h2 : hasC l x.c = decide (idxF (onC x) l 0 ≥ 0) := by
    rw [idxF_any _ _ _ (by omega)]
    unfold hasC onC
    congr 1
  rw [h2]
  generalize idxF (onC x) l 0 = J at hc
  refine fn_of (okx [] [123]) mixed (A := A99) 0 Try.func99 rfl ?_
  (repeat' (first | exact rfl | ((conv => whnf); first | (refine (ACalls.part 3 (by exact rfl) (by exact rfl) (by exact rfl) hc) ?_; rintro r h' ⟨rfl, hp1, hp2⟩; rw [hp1, hp2]) | exact rfl | exact ⟨rfl, rfl⟩ | refine ⟨(by kernel_rfl : drawOk _ _ _ _ = true), ?_⟩ | refine ⟨(by kernel_rfl : planOk _ _ _ _ = true), ?_⟩ | refine ⟨rfl, ?_⟩ | refine ⟨by (first | omega | (simp (disch := omega) only [wrapI]; omega) | (simp (disch := omega) only [wrapI]; simp; omega) | (simp; omega)), ?_⟩ | (intro ep) | fail)))
  all_goals (conv => whnf)
  all_goals exact ⟨rfl, rfl, rfl⟩
/-- why the note of a stop ends -/
def causeJ (l : List Evt) (j : Nat) (c : Int) : Int := match l[j]? with
  | none => 4
  | some e => if hasC e.stops c = true then 1 else if restE e = true then 2 else 3
def causeOf (p : Pc) (k : Nat) (s : Stp) : Int := causeJ p.evs (endN p.evs k s) s.c
def causesL (p : Pc) : List Int := newL (causeOf p) 0 p.evs
theorem idxF_at {l : List Int} (ha : l.Pairwise (· < ·)) : ∀ (j : Nat) (k : Int) (h : j < l.length), idxF (fun y => decide (l[j] = y)) l k = k + j := by
  induction l with
  | nil => intro j k h; simp at h
  | cons x r ih =>
    intro j k h
    obtain ⟨h1, h2⟩ := List.pairwise_cons.1 ha
    cases j with
    | zero => simp [idxF]
    | succ j =>
      have hj : j < r.length := by simpa using h
      have := h1 r[j] (List.getElem_mem hj)
      unfold idxF
      rw [List.getElem_cons_succ, if_neg (by simp; omega), ih h2 j (k + 1) hj]
      omega
theorem idx_on {p : Pc} (hc : chk p = 0) {j : Nat} (h : j ≤ p.evs.length) : idxF (fun y => decide (on p j = y)) (onsets p) 0 = j := by
  have := idxF_at (ons_asc hc).1 j 0 (by rw [ons_len]; omega)
  rw [on_get h] at this
  rw [this]; omega
theorem endN_le {p : Pc} (v : Vp p) {k : Nat} (hk : k < p.evs.length) {s : Stp} (hs : s ∈ p.evs[k].stops) : endN p.evs k s ≤ p.evs.length := by
  have h1 := v.sp k hk s hs
  unfold endN
  split
  · exact stayN_le (by omega)
  · exact openN_le _ hk
def A74 : Ann := fun r => match r with
  | 0 => { slots := [(0, 0), (1, 1)] }
  | 3 => { slots := [(10, 2)] }
  | _ => {}
set_option maxHeartbeats 8000000 in
set_option maxRecDepth 100000 in
theorem cause74 (p : Pc) (hc : chk p = 0) (k : Nat) (hk : k < p.evs.length) (s : Stp) (hs : s ∈ p.evs[k].stops) : PRet C.P 74 [sndA p, .agg (ntR (noteOf p k s))] (.int .i64 (causeOf p k s)) := by
  have v := vp hc
  have hle := endN_le v hk hs
  have h56 := end56 p v
  have hol := ons_len p
  have hlen := v.len
  have e1 : (noteOf p k s).t = on p (endN p.evs k s) := rfl
  have e2 : (noteOf p k s).c = s.c := rfl
  have h98 := index98 (onsets p) (on p (endN p.evs k s)) (by omega)
  rw [idx_on hc hle] at h98
  have hin := on_inj hc (i := endN p.evs k s) (j := p.evs.length) hle (Nat.le_refl _)
  have h99 := fun u0 u2 ee l hl => has99 u0 u2 ee (noteOf p k s) l hl
  rw [e2] at h99
  have hcz : causeOf p k s = causeJ p.evs (endN p.evs k s) s.c := rfl
  rw [hcz]
  generalize noteOf p k s = x at e1 e2 h99
  generalize endN p.evs k s = j at hle e1 h98 hin
  obtain ⟨xe, xc, xp, xf, xt⟩ := x
  dsimp only at e1 e2
  subst e1
  subst e2
  by_cases hj : j = p.evs.length
  · subst hj
    have hz : causeJ p.evs p.evs.length s.c = 4 := by unfold causeJ; rw [List.getElem?_eq_none (Nat.le_refl _)]
    rw [hz]
    generalize on p p.evs.length = E at h56 h98
    refine pret_of (okx [] [99]) mixed (A := A74) 3 Try.func74 rfl ?_
    (repeat' (first | exact rfl | ((conv => whnf); first | refine ⟨_, h56, ?_⟩ | exact rfl | exact ⟨rfl, rfl⟩ | refine ⟨(by kernel_rfl : drawOk _ _ _ _ = true), ?_⟩ | refine ⟨(by kernel_rfl : planOk _ _ _ _ = true), ?_⟩ | refine ⟨rfl, ?_⟩ | refine ⟨by (first | omega | (simp (disch := omega) only [wrapI]; omega) | (simp (disch := omega) only [wrapI]; simp; omega) | (simp; omega)), ?_⟩ | (intro ep) | (refine ifB (fun hb => ?_) (fun hb => ?_) <;> (try simp only [decide_eq_true_eq, decide_eq_false_iff_not, beq_iff_eq, beq_eq_false_iff_ne, bne_iff_ne, bne_eq_false_iff_eq, ne_eq, not_false_eq_true, not_true_eq_false, Bool.not_eq_true, Bool.not_eq_true', Bool.not_eq_false', Int.not_lt, Int.not_le] at hb) <;> (try simp (disch := omega) only [wrapI] at hb) <;> (try (exfalso; omega))) | fail)))
    all_goals (exfalso; simp at hb)
  · have hj2 : j < p.evs.length := by omega
    have hm := mapR (f := evR) hj2
    have hne : on p j ≠ on p p.evs.length := fun h => hj (hin h)
    have hsl := v.sl j hj2
    have hz : causeJ p.evs j s.c = if hasC p.evs[j].stops s.c = true then 1 else if restE p.evs[j] = true then 2 else 3 := by unfold causeJ; rw [List.getElem?_eq_getElem hj2]
    rw [hz]
    generalize on p p.evs.length = E at h56 hne
    generalize on p j = tj at hne h98 h99
    generalize p.evs[j] = e at hm hsl
    obtain ⟨eb, ev, ed, et, ey, l⟩ := e
    dsimp only at hsl
    have h99 := fun u0 u2 ee => h99 u0 u2 ee l (by omega)
    unfold restE
    dsimp only
    generalize hasC l s.c = b at h99
    refine pret_of (okx [] [99]) mixed (A := A74) 3 Try.func74 rfl ?_
    cases b with
    | true =>
      (repeat' (first | exact rfl | ((conv => whnf); first | refine ⟨_, h56, ?_⟩ | refine ⟨_, h98, ?_⟩ | refine optS hm ?_ | (refine (ACalls.part 3 (by exact rfl) (by exact rfl) (by exact rfl) (h99 _ _ _)) ?_; rintro r h' ⟨rfl, hp1, hp2⟩; rw [hp1, hp2]) | exact rfl | exact ⟨rfl, rfl⟩ | refine ⟨(by kernel_rfl : drawOk _ _ _ _ = true), ?_⟩ | refine ⟨(by kernel_rfl : planOk _ _ _ _ = true), ?_⟩ | refine ⟨rfl, ?_⟩ | refine ⟨by (first | omega | (simp (disch := omega) only [wrapI]; omega) | (simp (disch := omega) only [wrapI]; simp; omega) | (simp; omega)), ?_⟩ | (intro ep) | (refine ifB (fun hb => ?_) (fun hb => ?_) <;> (try simp only [decide_eq_true_eq, decide_eq_false_iff_not, beq_iff_eq, beq_eq_false_iff_ne, bne_iff_ne, bne_eq_false_iff_eq, ne_eq, not_false_eq_true, not_true_eq_false, Bool.not_eq_true, Bool.not_eq_true', Bool.not_eq_false', Int.not_lt, Int.not_le] at hb) <;> (try simp (disch := omega) only [wrapI] at hb) <;> (try (exfalso; omega))) | fail)))
    | false =>
      cases ey with
      | true =>
        by_cases hl0 : l.length = 0
        · (repeat' (first | exact rfl | ((conv => whnf); first | refine ⟨_, h56, ?_⟩ | refine ⟨_, h98, ?_⟩ | refine optS hm ?_ | (refine (ACalls.part 3 (by exact rfl) (by exact rfl) (by exact rfl) (h99 _ _ _)) ?_; rintro r h' ⟨rfl, hp1, hp2⟩; rw [hp1, hp2]) | exact rfl | exact ⟨rfl, rfl⟩ | refine ⟨(by kernel_rfl : drawOk _ _ _ _ = true), ?_⟩ | refine ⟨(by kernel_rfl : planOk _ _ _ _ = true), ?_⟩ | refine ⟨rfl, ?_⟩ | refine ⟨by (first | omega | (simp (disch := omega) only [wrapI]; omega) | (simp (disch := omega) only [wrapI]; simp; omega) | (simp; omega)), ?_⟩ | (intro ep) | (refine ifB (fun hb => ?_) (fun hb => ?_) <;> (try simp only [decide_eq_true_eq, decide_eq_false_iff_not, beq_iff_eq, beq_eq_false_iff_ne, bne_iff_ne, bne_eq_false_iff_eq, ne_eq, not_false_eq_true, not_true_eq_false, Bool.not_eq_true, Bool.not_eq_true', Bool.not_eq_false', Int.not_lt, Int.not_le] at hb) <;> (try simp (disch := omega) only [wrapI] at hb) <;> (try (exfalso; omega))) | fail)))
          all_goals simp
        · (repeat' (first | exact rfl | ((conv => whnf); first | refine ⟨_, h56, ?_⟩ | refine ⟨_, h98, ?_⟩ | refine optS hm ?_ | (refine (ACalls.part 3 (by exact rfl) (by exact rfl) (by exact rfl) (h99 _ _ _)) ?_; rintro r h' ⟨rfl, hp1, hp2⟩; rw [hp1, hp2]) | exact rfl | exact ⟨rfl, rfl⟩ | refine ⟨(by kernel_rfl : drawOk _ _ _ _ = true), ?_⟩ | refine ⟨(by kernel_rfl : planOk _ _ _ _ = true), ?_⟩ | refine ⟨rfl, ?_⟩ | refine ⟨by (first | omega | (simp (disch := omega) only [wrapI]; omega) | (simp (disch := omega) only [wrapI]; simp; omega) | (simp; omega)), ?_⟩ | (intro ep) | (refine ifB (fun hb => ?_) (fun hb => ?_) <;> (try simp only [decide_eq_true_eq, decide_eq_false_iff_not, beq_iff_eq, beq_eq_false_iff_ne, bne_iff_ne, bne_eq_false_iff_eq, ne_eq, not_false_eq_true, not_true_eq_false, Bool.not_eq_true, Bool.not_eq_true', Bool.not_eq_false', Int.not_lt, Int.not_le] at hb) <;> (try simp (disch := omega) only [wrapI] at hb) <;> (try (exfalso; omega))) | fail)))
          all_goals simp
      | false =>
        by_cases hl0 : l.length = 0
        · rw [decide_eq_true hl0]
          (repeat' (first | exact rfl | ((conv => whnf); first | refine ⟨_, h56, ?_⟩ | refine ⟨_, h98, ?_⟩ | refine optS hm ?_ | (refine (ACalls.part 3 (by exact rfl) (by exact rfl) (by exact rfl) (h99 _ _ _)) ?_; rintro r h' ⟨rfl, hp1, hp2⟩; rw [hp1, hp2]) | exact rfl | exact ⟨rfl, rfl⟩ | refine ⟨(by kernel_rfl : drawOk _ _ _ _ = true), ?_⟩ | refine ⟨(by kernel_rfl : planOk _ _ _ _ = true), ?_⟩ | refine ⟨rfl, ?_⟩ | refine ⟨by (first | omega | (simp (disch := omega) only [wrapI]; omega) | (simp (disch := omega) only [wrapI]; simp; omega) | (simp; omega)), ?_⟩ | (intro ep) | (refine ifB (fun hb => ?_) (fun hb => ?_) <;> (try simp only [decide_eq_true_eq, decide_eq_false_iff_not, beq_iff_eq, beq_eq_false_iff_ne, bne_iff_ne, bne_eq_false_iff_eq, ne_eq, not_false_eq_true, not_true_eq_false, Bool.not_eq_true, Bool.not_eq_true', Bool.not_eq_false', Int.not_lt, Int.not_le] at hb) <;> (try simp (disch := omega) only [wrapI] at hb) <;> (try (exfalso; omega))) | fail)))
        · rw [decide_eq_false hl0]
          (repeat' (first | exact rfl | ((conv => whnf); first | refine ⟨_, h56, ?_⟩ | refine ⟨_, h98, ?_⟩ | refine optS hm ?_ | (refine (ACalls.part 3 (by exact rfl) (by exact rfl) (by exact rfl) (h99 _ _ _)) ?_; rintro r h' ⟨rfl, hp1, hp2⟩; rw [hp1, hp2]) | exact rfl | exact ⟨rfl, rfl⟩ | refine ⟨(by kernel_rfl : drawOk _ _ _ _ = true), ?_⟩ | refine ⟨(by kernel_rfl : planOk _ _ _ _ = true), ?_⟩ | refine ⟨rfl, ?_⟩ | refine ⟨by (first | omega | (simp (disch := omega) only [wrapI]; omega) | (simp (disch := omega) only [wrapI]; simp; omega) | (simp; omega)), ?_⟩ | (intro ep) | (refine ifB (fun hb => ?_) (fun hb => ?_) <;> (try simp only [decide_eq_true_eq, decide_eq_false_iff_not, beq_iff_eq, beq_eq_false_iff_ne, bne_iff_ne, bne_eq_false_iff_eq, ne_eq, not_false_eq_true, not_true_eq_false, Bool.not_eq_true, Bool.not_eq_true', Bool.not_eq_false', Int.not_lt, Int.not_le] at hb) <;> (try simp (disch := omega) only [wrapI] at hb) <;> (try (exfalso; omega))) | fail)))
end Go.Ab.V
