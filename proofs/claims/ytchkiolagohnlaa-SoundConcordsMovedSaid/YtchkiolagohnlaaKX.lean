/-
  What is proved here serves the law's text: each part says its own claim and its conditions. No condition is left open.
-/
import Derived.Test.YtchkiolagohnlaaKW
import Derived.Test.YtchkiolagohnlaaKU
import Derived.Test.YtchkiolagohnlaaKN
import Derived.Test.YtchkiolagohnlaaKQ
import Derived.Test.YtchkiolagohnlaaKF
set_option linter.unusedSimpArgs false
set_option linter.unusedVariables false

/-
  The law of concords. No condition but the length and that the numbers are ints.
-/
namespace Go.Ab.V
open Go.Proofs

def A5 : Ann := fun r => match r with
  | 3 => { slots := [(0, 0), (2, 1)] }
  | _ => {}
set_option maxHeartbeats 4000000 in
set_option maxRecDepth 100000 in
theorem law_concords (l : List Int) (hl : l.length ≤ 9223372036854775807) (hb : ∀ x ∈ l, -9223372036854775808 ≤ x ∧ x ≤ 9223372036854775807) : ACalls C.P 5 [intsA l] Heap.nil fun r _ => r = .bool true := by
  by_cases c1 : 200 < l.length
  · refine fn_of (okx [] [27]) mixed (A := A5) 2 Try.func5 rfl ?_
    (repeat' (first | exact rfl | ((conv => whnf); first | refine ⟨_, works_spec, ?_⟩ | exact rfl | exact ⟨rfl, rfl⟩ | refine ⟨(by kernel_rfl : drawOk _ _ _ _ = true), ?_⟩ | refine ⟨(by kernel_rfl : planOk _ _ _ _ = true), ?_⟩ | refine ⟨rfl, ?_⟩ | refine ⟨by (first | omega | (simp (disch := omega) only [wrapI]; omega) | (simp (disch := omega) only [wrapI]; simp; omega) | (simp; omega)), ?_⟩ | (intro ep) | (refine ifB (fun hb => ?_) (fun hb => ?_) <;> (try simp only [decide_eq_true_eq, decide_eq_false_iff_not, beq_iff_eq, beq_eq_false_iff_ne, bne_iff_ne, bne_eq_false_iff_eq, ne_eq, not_false_eq_true, not_true_eq_false, Bool.not_eq_true, Bool.not_eq_true', Bool.not_eq_false', Int.not_lt, Int.not_le] at hb) <;> (try simp (disch := omega) only [wrapI] at hb) <;> (try (exfalso; omega))) | fail)))
  have h1 := conc27 l (by omega) hb
  have h2 := refConc28 l (by omega) hb
  generalize rc l = b at h1 h2
  refine fn_of (okx [] [27]) mixed (A := A5) 2 Try.func5 rfl ?_
  (repeat' (first | exact rfl | ((conv => whnf); first | refine ⟨_, h2, ?_⟩ | exact rfl | exact ⟨rfl, rfl⟩ | refine ⟨(by kernel_rfl : drawOk _ _ _ _ = true), ?_⟩ | refine ⟨(by kernel_rfl : planOk _ _ _ _ = true), ?_⟩ | refine ⟨rfl, ?_⟩ | refine ⟨by (first | omega | (simp (disch := omega) only [wrapI]; omega) | (simp (disch := omega) only [wrapI]; simp; omega) | (simp; omega)), ?_⟩ | (intro ep) | (refine ifB (fun hb => ?_) (fun hb => ?_) <;> (try simp only [decide_eq_true_eq, decide_eq_false_iff_not, beq_iff_eq, beq_eq_false_iff_ne, bne_iff_ne, bne_eq_false_iff_eq, ne_eq, not_false_eq_true, not_true_eq_false, Bool.not_eq_true, Bool.not_eq_true', Bool.not_eq_false', Int.not_lt, Int.not_le] at hb) <;> (try simp (disch := omega) only [wrapI] at hb) <;> (try (exfalso; omega))) | fail)))
  all_goals (conv => whnf)
  refine ACalls.fz 0 ?_
  (conv => whnf)
  have e0 : (ints l).length = l.length := by simp [ints]
  refine ⟨?_, by (repeat' (first | exact trivial | exact eqsP_rows _ (fun x => rfl) | ((conv => whnf); first | exact trivial | refine ⟨rfl, ?_⟩ | refine ⟨?_, ?_⟩ | fail))), by (repeat' (first | exact trivial | exact eqsP_rows _ (fun x => rfl) | ((conv => whnf); first | exact trivial | refine ⟨rfl, ?_⟩ | refine ⟨?_, ?_⟩ | fail))), by (repeat' (first | exact trivial | exact eqsP_rows _ (fun x => rfl) | ((conv => whnf); first | exact trivial | refine ⟨rfl, ?_⟩ | refine ⟨?_, ?_⟩ | fail))), ?_⟩
  · rw [List.take_zero, List.nil_append, List.drop_zero, List.take_of_length_le (by omega)]
    exact Go.Ab.pure_map (f := fun x : Int => [AV.int .i64 x]) l fun x => rfl
  have e1 : List.take l.length (List.drop 0 (ints l)) = ints l := by rw [List.drop_zero, List.take_of_length_le (by omega)]
  refine PRet.calls (pret_eq h1 ?_) ?_
  · show [AV.lslc 1 (List.take 0 _ ++ List.take l.length (List.drop 0 (ints l))) 0 (0 + (List.take l.length (List.drop 0 (ints l))).length) false] = [intsA l]
    rw [List.take_zero, List.nil_append, e1, Nat.zero_add, e0]
    rfl
  (repeat' (first | exact rfl | ((conv => whnf); first | refine ⟨_, works_spec, ?_⟩ | refine ⟨_, h2, ?_⟩ | exact rfl | exact ⟨rfl, rfl⟩ | refine ⟨(by kernel_rfl : drawOk _ _ _ _ = true), ?_⟩ | refine ⟨(by kernel_rfl : planOk _ _ _ _ = true), ?_⟩ | refine ⟨rfl, ?_⟩ | refine ⟨by (first | omega | (simp (disch := omega) only [wrapI]; omega) | (simp (disch := omega) only [wrapI]; simp; omega) | (simp; omega)), ?_⟩ | (intro ep) | (refine ifB (fun hb => ?_) (fun hb => ?_) <;> (try simp only [decide_eq_true_eq, decide_eq_false_iff_not, beq_iff_eq, beq_eq_false_iff_ne, bne_iff_ne, bne_eq_false_iff_eq, ne_eq, not_false_eq_true, not_true_eq_false, Bool.not_eq_true, Bool.not_eq_true', Bool.not_eq_false', Int.not_lt, Int.not_le] at hb) <;> (try simp (disch := omega) only [wrapI] at hb) <;> (try (exfalso; omega))) | fail)))
end Go.Ab.V

/-
  The law of concords that are moved. No condition but the length and that the numbers are ints.
-/
namespace Go.Ab.V
open Go.Proofs

/-- the numbers, from behind or not -/
def ord (l : List Int) (b : Bool) : List Int := if b = true then l.reverse else l
def dbl : List Int → List Int
  | [] => []
  | x :: r => x :: x :: dbl r
theorem dbl_app : ∀ (l : List Int) (x : Int), dbl (l ++ [x]) = dbl l ++ [x, x]
  | [], x => rfl
  | y :: r, x => by rw [List.cons_append, dbl, dbl_app r x]; rfl
theorem dbl_len : ∀ l : List Int, (dbl l).length = 2 * l.length
  | [] => rfl
  | x :: r => by rw [dbl, List.length_cons, List.length_cons, dbl_len r, List.length_cons]; omega
theorem dbl_mem : ∀ (l : List Int) (x : Int), x ∈ dbl l ↔ x ∈ l
  | [], x => by simp [dbl]
  | y :: r, x => by rw [dbl]; simp [dbl_mem r x]
theorem ord_len (l : List Int) (b : Bool) : (ord l b).length = l.length := by unfold ord; split <;> simp
theorem ord_mem (l : List Int) (b : Bool) (x : Int) : x ∈ ord l b ↔ x ∈ l := by unfold ord; split <;> simp
theorem rc_dbl (l : List Int) (b : Bool) : rc (dbl (ord l b)) = rc l := rc_congr (conc_mem fun x => by rw [dbl_mem, ord_mem])
theorem rc_up (l : List Int) (b : Bool) (n : Int) : rc ((ord l b).map (· + n)) = rc l := rc_congr ((conc_map _ n).trans (conc_mem fun x => ord_mem l b x))
theorem ord_get {l : List Int} {b : Bool} {k : Nat} (h : k < l.length) : (ord l b)[k]'(by rw [ord_len]; exact h) = if b = true then l[l.length - 1 - k]'(by omega) else l[k] := by
  unfold ord
  cases b
  · simp
  · simp
def A6 : Ann := fun r => match r with
  | 3 => { slots := [(0, 0), (2, 1)] }
  | 13 => { slots := [(9, 2), (10, 3)] }
  | 14 => { slots := [(7, 4), (8, 5)] }
  | _ => {}
abbrev X6 := okx [] [27]
set_option maxHeartbeats 8000000 in
set_option maxRecDepth 100000 in
theorem law_moved (l : List Int) (turn n : Int) (hl : l.length ≤ 9223372036854775807) (hbx : ∀ x ∈ l, -9223372036854775808 ≤ x ∧ x ≤ 9223372036854775807) : ACalls C.P 6 [intsA l, .int .i64 turn, .int .i64 n] Heap.nil fun r _ => r = .bool true := by
  by_cases c1 : 100 < l.length ∨ n < -1000 ∨ 1000 < n
  · refine fn_of X6 mixed (A := A6) 6 Try.func6 rfl ?_
    by_cases c2 : 100 < l.length
    · (repeat' (first | exact rfl | ((conv => whnf); first | refine ⟨_, works_spec, ?_⟩ | exact rfl | exact ⟨rfl, rfl⟩ | refine ⟨(by kernel_rfl : drawOk _ _ _ _ = true), ?_⟩ | refine ⟨(by kernel_rfl : planOk _ _ _ _ = true), ?_⟩ | refine ⟨rfl, ?_⟩ | refine ⟨by (first | omega | (simp (disch := omega) only [wrapI]; omega) | (simp (disch := omega) only [wrapI]; simp; omega) | (simp; omega)), ?_⟩ | (intro ep) | (refine ifB (fun hb => ?_) (fun hb => ?_) <;> (try simp only [decide_eq_true_eq, decide_eq_false_iff_not, beq_iff_eq, beq_eq_false_iff_ne, bne_iff_ne, bne_eq_false_iff_eq, ne_eq, not_false_eq_true, not_true_eq_false, Bool.not_eq_true, Bool.not_eq_true', Bool.not_eq_false', Int.not_lt, Int.not_le] at hb) <;> (try simp (disch := omega) only [wrapI] at hb) <;> (try (exfalso; omega))) | fail)))
    · by_cases c3 : n < -1000
      · (repeat' (first | exact rfl | ((conv => whnf); first | refine ⟨_, works_spec, ?_⟩ | exact rfl | exact ⟨rfl, rfl⟩ | refine ⟨(by kernel_rfl : drawOk _ _ _ _ = true), ?_⟩ | refine ⟨(by kernel_rfl : planOk _ _ _ _ = true), ?_⟩ | refine ⟨rfl, ?_⟩ | refine ⟨by (first | omega | (simp (disch := omega) only [wrapI]; omega) | (simp (disch := omega) only [wrapI]; simp; omega) | (simp; omega)), ?_⟩ | (intro ep) | (refine ifB (fun hb => ?_) (fun hb => ?_) <;> (try simp only [decide_eq_true_eq, decide_eq_false_iff_not, beq_iff_eq, beq_eq_false_iff_ne, bne_iff_ne, bne_eq_false_iff_eq, ne_eq, not_false_eq_true, not_true_eq_false, Bool.not_eq_true, Bool.not_eq_true', Bool.not_eq_false', Int.not_lt, Int.not_le] at hb) <;> (try simp (disch := omega) only [wrapI] at hb) <;> (try (exfalso; omega))) | fail)))
      · (repeat' (first | exact rfl | ((conv => whnf); first | refine ⟨_, works_spec, ?_⟩ | exact rfl | exact ⟨rfl, rfl⟩ | refine ⟨(by kernel_rfl : drawOk _ _ _ _ = true), ?_⟩ | refine ⟨(by kernel_rfl : planOk _ _ _ _ = true), ?_⟩ | refine ⟨rfl, ?_⟩ | refine ⟨by (first | omega | (simp (disch := omega) only [wrapI]; omega) | (simp (disch := omega) only [wrapI]; simp; omega) | (simp; omega)), ?_⟩ | (intro ep) | (refine ifB (fun hb => ?_) (fun hb => ?_) <;> (try simp only [decide_eq_true_eq, decide_eq_false_iff_not, beq_iff_eq, beq_eq_false_iff_ne, bne_iff_ne, bne_eq_false_iff_eq, ne_eq, not_false_eq_true, not_true_eq_false, Bool.not_eq_true, Bool.not_eq_true', Bool.not_eq_false', Int.not_lt, Int.not_le] at hb) <;> (try simp (disch := omega) only [wrapI] at hb) <;> (try (exfalso; omega))) | fail)))
  have h1 := conc27 l (by omega) hbx
  obtain ⟨B, hB⟩ : ∃ B, B = rc l := ⟨_, rfl⟩
  rw [← hB] at h1
  obtain ⟨t, ht⟩ : ∃ t : Bool, t = (turn.tmod 2 != 0) := ⟨_, rfl⟩
  have hO := ord_len l t
  refine fn_of X6 mixed (A := A6) 6 Try.func6 rfl ?_
  (repeat' (first | exact rfl | ((conv => whnf); first | exact rfl | exact ⟨rfl, rfl⟩ | refine ⟨(by kernel_rfl : drawOk _ _ _ _ = true), ?_⟩ | refine ⟨(by kernel_rfl : planOk _ _ _ _ = true), ?_⟩ | refine ⟨rfl, ?_⟩ | refine ⟨by (first | omega | (simp (disch := omega) only [wrapI]; omega) | (simp (disch := omega) only [wrapI]; simp; omega) | (simp; omega)), ?_⟩ | (intro ep) | (refine ifB (fun hb => ?_) (fun hb => ?_) <;> (try simp only [decide_eq_true_eq, decide_eq_false_iff_not, beq_iff_eq, beq_eq_false_iff_ne, bne_iff_ne, bne_eq_false_iff_eq, ne_eq, not_false_eq_true, not_true_eq_false, Bool.not_eq_true, Bool.not_eq_true', Bool.not_eq_false', Int.not_lt, Int.not_le] at hb) <;> (try simp (disch := omega) only [wrapI] at hb) <;> (try (exfalso; omega))) | fail)))
  all_goals (conv => whnf)
  refine ACalls.fz 0 ?_
  (conv => whnf)
  have e0 : (ints l).length = l.length := by simp [ints]
  refine ⟨?_, by (repeat' (first | exact trivial | exact eqsP_rows _ (fun x => rfl) | ((conv => whnf); first | exact trivial | refine ⟨rfl, ?_⟩ | refine ⟨?_, ?_⟩ | fail))), by (repeat' (first | exact trivial | exact eqsP_rows _ (fun x => rfl) | ((conv => whnf); first | exact trivial | refine ⟨rfl, ?_⟩ | refine ⟨?_, ?_⟩ | fail))), by (repeat' (first | exact trivial | exact eqsP_rows _ (fun x => rfl) | ((conv => whnf); first | exact trivial | refine ⟨rfl, ?_⟩ | refine ⟨?_, ?_⟩ | fail))), ?_⟩
  · rw [List.take_zero, List.nil_append, List.drop_zero, List.take_of_length_le (by omega)]
    exact Go.Ab.pure_map (f := fun x : Int => [AV.int .i64 x]) l fun x => rfl
  have e1 : List.take l.length (List.drop 0 (ints l)) = ints l := by rw [List.drop_zero, List.take_of_length_le (by omega)]
  refine PRet.calls (pret_eq h1 ?_) ?_
  · show [AV.lslc 1 (List.take 0 _ ++ List.take l.length (List.drop 0 (ints l))) 0 (0 + (List.take l.length (List.drop 0 (ints l))).length) false] = [intsA l]
    rw [List.take_zero, List.nil_append, e1, Nat.zero_add, e0]
    rfl
  (repeat' (first | exact rfl | ((conv => whnf); first | exact rfl | exact ⟨rfl, rfl⟩ | refine ⟨(by kernel_rfl : drawOk _ _ _ _ = true), ?_⟩ | refine ⟨(by kernel_rfl : planOk _ _ _ _ = true), ?_⟩ | refine ⟨rfl, ?_⟩ | refine ⟨by (first | omega | (simp (disch := omega) only [wrapI]; omega) | (simp (disch := omega) only [wrapI]; simp; omega) | (simp; omega)), ?_⟩ | (intro ep) | fail)))
  all_goals (conv => whnf)
  refine wk_lift 8 3 1 rfl ?_
  intro e3
  refine wk_lift 9 5 1 rfl ?_
  intro e5
  refine loopY X6 mixed (A := A6) [0, 1, 2, 7, 8, 9, 10] [3, 5] (S := { z : Nat × Nat × Nat × List Int // z.1 ≤ l.length ∧ z.2.2.2 = (ord l t).take z.1 ∧ ∀ x ∈ z.2.2.2, -1099511627776 ≤ x ∧ x ≤ 1099511627776 })
    (fr := fun z => frOf 0 89 [(0, intsA l), (1, .int .i64 turn), (2, .int .i64 n), (7, .bool B), (8, .oslc (.s 3) z.1.2.1 1 0 (dbl z.1.2.2.2).length false), (9, .oslc (.s 5) z.1.2.2.1 1 0 (z.1.2.2.2.map (· + n)).length false), (10, .int .i64 (z.1.1 : Int))])
    (h := fun z => ⟨[.hole, .hole, .hole, .vec z.1.2.1 (ints (dbl z.1.2.2.2)), .hole, .vec z.1.2.2.1 (ints (z.1.2.2.2.map (· + n)))], []⟩) (μ := fun z => l.length - z.1.1) ⟨(0, e3, e5, []), Nat.zero_le _, by simp, by simp⟩ ?_ ?_
    [7, 8, 9] [3, 5] (S' := { z : Nat × Nat × List Int // z.2.2 = ord l t ∧ ∀ x ∈ z.2.2, -1099511627776 ≤ x ∧ x ≤ 1099511627776 }) (X := fun _ => 0)
    (frX := fun z => frOf 0 89 [(7, .bool B), (8, .oslc (.s 3) z.1.1 1 0 (dbl z.1.2.2).length false), (9, .oslc (.s 5) z.1.2.1 1 0 (z.1.2.2.map (· + n)).length false)])
    (hX := fun z => ⟨[.hole, .hole, .hole, .vec z.1.1 (ints (dbl z.1.2.2)), .hole, .vec z.1.2.1 (ints (z.1.2.2.map (· + n)))], []⟩)
    [6] [] (S2 := Unit) (frR := fun z => frOf 0 89 [(6, .bool true)]) (hR := fun z => ⟨[.hole, .hole, .hole, .hole, .hole, .hole], []⟩) ?_ ?_ ?_
  · exact rfl
  · exact rfl
  · rintro ⟨⟨k, ea, eb, T⟩, hk, hT, hbd⟩
    dsimp only at hk hT hbd
    show aexR _ _ _ (frOf 0 89 [(0, intsA l), (1, .int .i64 turn), (2, .int .i64 n), (7, .bool B), (8, .oslc (.s 3) ea 1 0 (dbl T).length false), (9, .oslc (.s 5) eb 1 0 (T.map (· + n)).length false), (10, .int .i64 (k : Int))])
      ⟨[.hole, .hole, .hole, .vec ea (ints (dbl T)), .hole, .vec eb (ints (T.map (· + n)))], []⟩ _
    (conv => whnf)
    refine ifB (fun g1 => ?_) (fun g1 => ?_)
    · simp only [decide_eq_true_eq] at g1
      have hk2 : k < l.length := by omega
      have hkO : k < (ord l t).length := by omega
      have htk : (ord l t).take (k + 1) = T ++ [(ord l t)[k]] := by rw [List.take_add_one, List.getElem?_eq_getElem hkO, hT]; rfl
      have hog := ord_get (b := t) hk2
      have hxm : (ord l t)[k] ∈ l := (ord_mem l t _).1 (List.getElem_mem hkO)
      have hxb := hbx _ hxm
      have hlen : T.length = k := by rw [hT]; simp; omega
      have hdl := dbl_len T
      have hml : (T.map (· + n)).length = T.length := by simp
      generalize (ord l t)[k] = x at htk hxm hxb hog
      (repeat' (first | exact rfl | ((conv => whnf); first | exact rfl | exact ⟨rfl, rfl⟩ | refine ⟨(by kernel_rfl : drawOk _ _ _ _ = true), ?_⟩ | refine ⟨(by kernel_rfl : planOk _ _ _ _ = true), ?_⟩ | refine ⟨rfl, ?_⟩ | refine ⟨by (first | omega | (simp (disch := omega) only [wrapI]; omega) | (simp (disch := omega) only [wrapI]; simp; omega) | (simp; omega)), ?_⟩ | (intro ep) | fail)))
      all_goals (conv => whnf)
      refine ifB (fun g2 => ?_) (fun g2 => ?_)
      · have htt : t = true := ht.trans g2
        rw [if_pos htt] at hog
        have hm1 := intsR (l := l) (i := l.length - 1 - k) (by omega)
        rw [← hog] at hm1
        have hw : IntKind.i64.wrap (IntKind.i64.wrap ((l.length : Int) - 1) - (k : Int)) = ((l.length - 1 - k : Nat) : Int) := by rw [wrapI (x := (l.length : Int) - 1) (by omega) (by omega), wrapI (by omega) (by omega)]; omega
        (repeat' (first | exact rfl | ((conv => whnf); first | exact rfl | exact ⟨rfl, rfl⟩ | refine ⟨(by kernel_rfl : drawOk _ _ _ _ = true), ?_⟩ | refine ⟨(by kernel_rfl : planOk _ _ _ _ = true), ?_⟩ | refine ⟨rfl, ?_⟩ | refine ⟨by (first | omega | (simp (disch := omega) only [wrapI]; omega) | (simp (disch := omega) only [wrapI]; simp; omega) | (simp; omega)), ?_⟩ | (intro ep) | fail)))
        all_goals (conv => whnf)
        rw [hw]
        have hj : l.length - 1 - k < l.length := by omega
        generalize l.length - 1 - k = j at hm1 hj
        (repeat' (first | exact rfl | ((conv => whnf); first | refine optS hm1 ?_ | refine ⟨_, works_spec, ?_⟩ | exact rfl | exact ⟨rfl, rfl⟩ | refine ⟨(by kernel_rfl : drawOk _ _ _ _ = true), ?_⟩ | refine ⟨(by kernel_rfl : planOk _ _ _ _ = true), ?_⟩ | refine ⟨rfl, ?_⟩ | refine ⟨by (first | omega | (simp (disch := omega) only [wrapI]; omega) | (simp (disch := omega) only [wrapI]; simp; omega) | (simp; omega)), ?_⟩ | (intro ep) | (refine ifB (fun hb => ?_) (fun hb => ?_) <;> (try simp only [decide_eq_true_eq, decide_eq_false_iff_not, beq_iff_eq, beq_eq_false_iff_ne, bne_iff_ne, bne_eq_false_iff_eq, ne_eq, not_false_eq_true, not_true_eq_false, Bool.not_eq_true, Bool.not_eq_true', Bool.not_eq_false', Int.not_lt, Int.not_le] at hb) <;> (try simp (disch := omega) only [wrapI] at hb) <;> (try (exfalso; omega))) | fail)))
        all_goals (conv => whnf)
        · exact back_of () ⟨rfl, rfl⟩
        · exact back_of () ⟨rfl, rfl⟩
        · have td : List.take (dbl T).length (List.drop 0 (ints (dbl T))) = ints (dbl T) := by rw [List.drop_zero, List.take_of_length_le (by simp [ints])]
          have tm : List.take (T.map (· + n)).length (List.drop 0 (ints (T.map (· + n)))) = ints (T.map (· + n)) := by rw [List.drop_zero, List.take_of_length_le (by simp [ints])]
          have hwx : IntKind.i64.wrap (x + n) = x + n := wrapI (by omega) (by omega)
          rename_i ep3 _
          refine back_of ⟨(k + 1, ep3, ep, T ++ [x]), by dsimp only; omega, htk.symm, fun y hy => ?_⟩ ⟨?_, ?_, by dsimp only; omega⟩
          · rcases List.mem_append.1 hy with hy | hy
            · exact hbd y hy
            · rw [List.mem_singleton.1 hy]; omega
          · dsimp only
            rw [dbl_app, List.length_append, List.map_append, List.length_append]
            (first | exact rfl | (simp (disch := omega) only [wrapI]; exact rfl))
          · dsimp only
            rw [dbl_app, List.map_append, show ints (dbl T ++ [x, x]) = List.take (dbl T).length (List.drop 0 (ints (dbl T))) ++ [[.int .i64 x], [.int .i64 x]] by rw [td]; simp [ints],
              show ints (T.map (· + n) ++ [x].map (· + n)) = List.take (T.map (· + n)).length (List.drop 0 (ints (T.map (· + n)))) ++ [[.int .i64 (IntKind.i64.wrap (x + n))]] by rw [tm, hwx]; simp [ints]]
            exact rfl
      · have htt : ¬ (t = true) := by rw [ht, g2]; simp
        rw [if_neg htt] at hog
        have hm1 := intsR (l := l) (i := k) (by omega)
        rw [← hog] at hm1
        (repeat' (first | exact rfl | ((conv => whnf); first | refine optS hm1 ?_ | refine ⟨_, works_spec, ?_⟩ | exact rfl | exact ⟨rfl, rfl⟩ | refine ⟨(by kernel_rfl : drawOk _ _ _ _ = true), ?_⟩ | refine ⟨(by kernel_rfl : planOk _ _ _ _ = true), ?_⟩ | refine ⟨rfl, ?_⟩ | refine ⟨by (first | omega | (simp (disch := omega) only [wrapI]; omega) | (simp (disch := omega) only [wrapI]; simp; omega) | (simp; omega)), ?_⟩ | (intro ep) | (refine ifB (fun hb => ?_) (fun hb => ?_) <;> (try simp only [decide_eq_true_eq, decide_eq_false_iff_not, beq_iff_eq, beq_eq_false_iff_ne, bne_iff_ne, bne_eq_false_iff_eq, ne_eq, not_false_eq_true, not_true_eq_false, Bool.not_eq_true, Bool.not_eq_true', Bool.not_eq_false', Int.not_lt, Int.not_le] at hb) <;> (try simp (disch := omega) only [wrapI] at hb) <;> (try (exfalso; omega))) | fail)))
        all_goals (conv => whnf)
        · exact back_of () ⟨rfl, rfl⟩
        · exact back_of () ⟨rfl, rfl⟩
        · have td : List.take (dbl T).length (List.drop 0 (ints (dbl T))) = ints (dbl T) := by rw [List.drop_zero, List.take_of_length_le (by simp [ints])]
          have tm : List.take (T.map (· + n)).length (List.drop 0 (ints (T.map (· + n)))) = ints (T.map (· + n)) := by rw [List.drop_zero, List.take_of_length_le (by simp [ints])]
          have hwx : IntKind.i64.wrap (x + n) = x + n := wrapI (by omega) (by omega)
          rename_i ep3 _
          refine back_of ⟨(k + 1, ep3, ep, T ++ [x]), by dsimp only; omega, htk.symm, fun y hy => ?_⟩ ⟨?_, ?_, by dsimp only; omega⟩
          · rcases List.mem_append.1 hy with hy | hy
            · exact hbd y hy
            · rw [List.mem_singleton.1 hy]; omega
          · dsimp only
            rw [dbl_app, List.length_append, List.map_append, List.length_append]
            (first | exact rfl | (simp (disch := omega) only [wrapI]; exact rfl))
          · dsimp only
            rw [dbl_app, List.map_append, show ints (dbl T ++ [x, x]) = List.take (dbl T).length (List.drop 0 (ints (dbl T))) ++ [[.int .i64 x], [.int .i64 x]] by rw [td]; simp [ints],
              show ints (T.map (· + n) ++ [x].map (· + n)) = List.take (T.map (· + n)).length (List.drop 0 (ints (T.map (· + n)))) ++ [[.int .i64 (IntKind.i64.wrap (x + n))]] by rw [tm, hwx]; simp [ints]]
            exact rfl
    · simp only [decide_eq_false_iff_not] at g1
      have : k = l.length := by omega
      have htake : (ord l t).take k = ord l t := List.take_of_length_le (by omega)
      rw [htake] at hT
      (repeat' (first | exact rfl | ((conv => whnf); first | exact rfl | exact ⟨rfl, rfl⟩ | refine ⟨(by kernel_rfl : drawOk _ _ _ _ = true), ?_⟩ | refine ⟨(by kernel_rfl : planOk _ _ _ _ = true), ?_⟩ | refine ⟨rfl, ?_⟩ | refine ⟨by (first | omega | (simp (disch := omega) only [wrapI]; omega) | (simp (disch := omega) only [wrapI]; simp; omega) | (simp; omega)), ?_⟩ | (intro ep) | fail)))
      all_goals (conv => whnf)
      all_goals exact back_of ⟨(ea, eb, T), hT, hbd⟩ ⟨rfl, rfl, rfl⟩
  · intro u
    (repeat' (first | exact rfl | ((conv => whnf); first | refine ⟨_, works_spec, ?_⟩ | exact rfl | exact ⟨rfl, rfl⟩ | refine ⟨(by kernel_rfl : drawOk _ _ _ _ = true), ?_⟩ | refine ⟨(by kernel_rfl : planOk _ _ _ _ = true), ?_⟩ | refine ⟨rfl, ?_⟩ | refine ⟨by (first | omega | (simp (disch := omega) only [wrapI]; omega) | (simp (disch := omega) only [wrapI]; simp; omega) | (simp; omega)), ?_⟩ | (intro ep) | (refine ifB (fun hb => ?_) (fun hb => ?_) <;> (try simp only [decide_eq_true_eq, decide_eq_false_iff_not, beq_iff_eq, beq_eq_false_iff_ne, bne_iff_ne, bne_eq_false_iff_eq, ne_eq, not_false_eq_true, not_true_eq_false, Bool.not_eq_true, Bool.not_eq_true', Bool.not_eq_false', Int.not_lt, Int.not_le] at hb) <;> (try simp (disch := omega) only [wrapI] at hb) <;> (try (exfalso; omega))) | fail)))
  · rintro ⟨⟨ea, eb, T⟩, hT, hbd⟩
    dsimp only at hT
    have h2 := conc27 (dbl (ord l t)) (by rw [dbl_len]; omega) (fun x hx => hbx x ((ord_mem l t x).1 ((dbl_mem _ x).1 hx)))
    have h3 := conc27 ((ord l t).map (· + n)) (by simp; omega) (fun y hy => by
      obtain ⟨x, hx, rfl⟩ := List.mem_map.1 hy
      have := hbd x (by rw [hT]; exact hx)
      omega)
    rw [rc_dbl, ← hB, ← hT] at h2
    rw [rc_up, ← hB, ← hT] at h3
    have hdl := dbl_len T
    have hml : (T.map (· + n)).length = T.length := by simp
    (repeat' (first | exact rfl | ((conv => whnf); first | refine ⟨_, works_spec, ?_⟩ | exact rfl | exact ⟨rfl, rfl⟩ | refine ⟨(by kernel_rfl : drawOk _ _ _ _ = true), ?_⟩ | refine ⟨(by kernel_rfl : planOk _ _ _ _ = true), ?_⟩ | refine ⟨rfl, ?_⟩ | refine ⟨by (first | omega | (simp (disch := omega) only [wrapI]; omega) | (simp (disch := omega) only [wrapI]; simp; omega) | (simp; omega)), ?_⟩ | (intro ep) | (refine ifB (fun hb => ?_) (fun hb => ?_) <;> (try simp only [decide_eq_true_eq, decide_eq_false_iff_not, beq_iff_eq, beq_eq_false_iff_ne, bne_iff_ne, bne_eq_false_iff_eq, ne_eq, not_false_eq_true, not_true_eq_false, Bool.not_eq_true, Bool.not_eq_true', Bool.not_eq_false', Int.not_lt, Int.not_le] at hb) <;> (try simp (disch := omega) only [wrapI] at hb) <;> (try (exfalso; omega))) | fail)))
    all_goals (conv => whnf)
    dsimp only
    refine ACalls.fz 3 ?_
    (conv => whnf)
    refine ⟨Go.Ab.pure_map (f := fun x : Int => [AV.int .i64 x]) _ fun x => rfl, by (repeat' (first | exact trivial | exact eqsP_rows _ (fun x => rfl) | ((conv => whnf); first | exact trivial | refine ⟨rfl, ?_⟩ | refine ⟨?_, ?_⟩ | fail))), by (repeat' (first | exact trivial | exact eqsP_rows _ (fun x => rfl) | ((conv => whnf); first | exact trivial | refine ⟨rfl, ?_⟩ | refine ⟨?_, ?_⟩ | fail))), by (repeat' (first | exact trivial | exact eqsP_rows _ (fun x => rfl) | ((conv => whnf); first | exact trivial | refine ⟨rfl, ?_⟩ | refine ⟨?_, ?_⟩ | fail))), ?_⟩
    refine PRet.calls (pret_eq h2 rfl) ?_
    (repeat' (first | exact rfl | ((conv => whnf); first | refine ⟨_, works_spec, ?_⟩ | exact rfl | exact ⟨rfl, rfl⟩ | refine ⟨(by kernel_rfl : drawOk _ _ _ _ = true), ?_⟩ | refine ⟨(by kernel_rfl : planOk _ _ _ _ = true), ?_⟩ | refine ⟨rfl, ?_⟩ | refine ⟨by (first | omega | (simp (disch := omega) only [wrapI]; omega) | (simp (disch := omega) only [wrapI]; simp; omega) | (simp; omega)), ?_⟩ | (intro ep) | (refine ifB (fun hb => ?_) (fun hb => ?_) <;> (try simp only [decide_eq_true_eq, decide_eq_false_iff_not, beq_iff_eq, beq_eq_false_iff_ne, bne_iff_ne, bne_eq_false_iff_eq, ne_eq, not_false_eq_true, not_true_eq_false, Bool.not_eq_true, Bool.not_eq_true', Bool.not_eq_false', Int.not_lt, Int.not_le] at hb) <;> (try simp (disch := omega) only [wrapI] at hb) <;> (try (exfalso; omega))) | fail)))
    all_goals (conv => whnf)
    refine ACalls.fz 5 ?_
    (conv => whnf)
    have hfc : List.map (fun r => List.map (fcS 3 (ints (dbl T))) r) (ints (T.map (· + n))) = ints (T.map (· + n)) := by
      unfold ints
      rw [List.map_map]
      exact List.map_congr_left fun x _ => rfl
    rw [hfc]
    refine ⟨Go.Ab.pure_map (f := fun x : Int => [AV.int .i64 x]) _ fun x => rfl, by (repeat' (first | exact trivial | exact eqsP_rows _ (fun x => rfl) | ((conv => whnf); first | exact trivial | refine ⟨rfl, ?_⟩ | refine ⟨?_, ?_⟩ | fail))), by (repeat' (first | exact trivial | exact eqsP_rows _ (fun x => rfl) | ((conv => whnf); first | exact trivial | refine ⟨rfl, ?_⟩ | refine ⟨?_, ?_⟩ | fail))), by (repeat' (first | exact trivial | exact eqsP_rows _ (fun x => rfl) | ((conv => whnf); first | exact trivial | refine ⟨rfl, ?_⟩ | refine ⟨?_, ?_⟩ | fail))), ?_⟩
    refine PRet.calls (pret_eq h3 rfl) ?_
    (repeat' (first | exact rfl | ((conv => whnf); first | refine ⟨_, works_spec, ?_⟩ | exact rfl | exact ⟨rfl, rfl⟩ | refine ⟨(by kernel_rfl : drawOk _ _ _ _ = true), ?_⟩ | refine ⟨(by kernel_rfl : planOk _ _ _ _ = true), ?_⟩ | refine ⟨rfl, ?_⟩ | refine ⟨by (first | omega | (simp (disch := omega) only [wrapI]; omega) | (simp (disch := omega) only [wrapI]; simp; omega) | (simp; omega)), ?_⟩ | (intro ep) | (refine ifB (fun hb => ?_) (fun hb => ?_) <;> (try simp only [decide_eq_true_eq, decide_eq_false_iff_not, beq_iff_eq, beq_eq_false_iff_ne, bne_iff_ne, bne_eq_false_iff_eq, ne_eq, not_false_eq_true, not_true_eq_false, Bool.not_eq_true, Bool.not_eq_true', Bool.not_eq_false', Int.not_lt, Int.not_le] at hb) <;> (try simp (disch := omega) only [wrapI] at hb) <;> (try (exfalso; omega))) | fail)))
end Go.Ab.V
