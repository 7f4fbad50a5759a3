/-
  What is proved here serves the law's text: each part says its own claim and its conditions. No condition is left open.
-/
import Derived.Test.YtffdekbcpnklnaaKN
set_option linter.unusedSimpArgs false
set_option linter.unusedVariables false

/-
  Whether a part is valid, as the document says it. No condition but the length.
-/
namespace Go.Ab.V
open Go.Proofs

def tnBad (en : Int) (x : Tn) : Prop := x.p < 0 ∨ 127 < x.p ∨ x.f < en ∨ x.t ≤ x.f ∨ 262144 < x.t
instance (en : Int) (x : Tn) : Decidable (tnBad en x) := by unfold tnBad; infer_instance
/-- whether tones are a part behind a time -/
def rgt : Int → List Tn → Bool
  | _, [] => true
  | en, x :: r => if tnBad en x then false else rgt x.t r
def endT (l : List Tn) (k : Nat) : Int := if k = 0 then 0 else match l[k - 1]? with | some x => x.t | none => 0
theorem endT_s {l : List Tn} {k : Nat} (h : k < l.length) : endT l (k + 1) = l[k].t := by
  unfold endT
  rw [if_neg (by omega)]
  simp [h]
def A48 : Ann := fun r => match r with
  | 4 => { slots := [(4, 0)] }
  | _ => {}
set_option maxHeartbeats 8000000 in
set_option maxRecDepth 100000 in
theorem right_part (l : List Tn) (hl : l.length ≤ 9223372036854775807) : PRet C.P 48 [tnsA l] (.bool (rgt 0 l)) := by
  obtain ⟨R, hR⟩ : ∃ R, R = rgt 0 l := ⟨_, rfl⟩
  rw [← hR]
  refine pret_of ok mixed (A := A48) 1 Try.func48 rfl ?_
  (repeat' (first | exact rfl | ((conv => whnf); first | exact rfl | refine ⟨by kernel_rfl, ?_⟩ | exact ⟨rfl, rfl⟩ | refine ⟨rfl, ?_⟩ | refine ⟨by (first | omega | (simp (disch := omega) only [wrapI]; omega) | (simp (disch := omega) only [wrapI]; simp; omega) | (simp; omega)), ?_⟩ | (intro ep) | (refine ifB (fun hb => ?_) (fun hb => ?_) <;> (try simp only [decide_eq_true_eq, decide_eq_false_iff_not, beq_iff_eq, beq_eq_false_iff_ne, bne_iff_ne, bne_eq_false_iff_eq, ne_eq, not_false_eq_true, not_true_eq_false, Bool.not_eq_true, Bool.not_eq_true', Bool.not_eq_false', Int.not_lt, Int.not_le] at hb) <;> (try simp (disch := omega) only [wrapI] at hb) <;> (try (exfalso; omega))) | fail)))
  all_goals (conv => whnf)
  refine loopY ok mixed (A := A48) [0, 3] [] (S := { k : Nat // k ≤ l.length ∧ 0 ≤ endT l k ∧ rgt (endT l k) (l.drop k) = R })
    (fr := fun s => frOf 0 55 [(0, tnsA l), (3, .int .i64 (s.1 : Int))])
    (h := fun s => ⟨[.hole], []⟩) (μ := fun s => l.length - s.1) ⟨0, by simp [hR, endT]⟩ ?_ ?_
    [] [] (S' := { k : Nat // true = R }) (X := fun _ => 0) (frX := fun s => frOf 0 55 []) (hX := fun s => ⟨[.hole], []⟩)
    [2] [] (S2 := { k : Nat // false = R }) (frR := fun s => frOf 0 55 [(2, .bool false)]) (hR := fun s => ⟨[.hole], []⟩) ?_ ?_ ?_
  · exact rfl
  · exact rfl
  · rintro ⟨k, hk, h0, hu⟩
    show aexR _ _ _ (frOf 0 55 [(0, tnsA l), (3, .int .i64 (k : Int))]) ⟨[.hole], []⟩ _
    (conv => whnf)
    refine ifB (fun g1 => ?_) (fun g1 => ?_)
    · simp only [decide_eq_true_eq] at g1
      have h1 : k < l.length := by omega
      have hm := mapR (f := tnR) h1
      have hp := endT_s h1
      rw [List.drop_eq_getElem_cons h1, rgt] at hu
      obtain ⟨n, hn⟩ : ∃ n, l[k] = n := ⟨_, rfl⟩
      rw [hn] at hu hm hp
      obtain ⟨p, f, t⟩ := n
      replace hm : (l.map tnR)[0 + ((k : Nat) : Int).toNat]? = some [.int .i64 p, .int .i64 f, .int .i64 t] := hm
      simp only at hp
      cases k with
      | zero =>
        replace hu : (if tnBad 0 ⟨p, f, t⟩ then false else rgt t (l.drop 1)) = R := hu
        by_cases c1 : tnBad 0 ⟨p, f, t⟩
        · rw [if_pos c1] at hu
          unfold tnBad at c1
          simp only at c1
          (repeat' (first | exact rfl | ((conv => whnf); first | refine optS hm ?_ | exact rfl | refine ⟨by kernel_rfl, ?_⟩ | exact ⟨rfl, rfl⟩ | refine ⟨rfl, ?_⟩ | refine ⟨by (first | omega | (simp (disch := omega) only [wrapI]; omega) | (simp (disch := omega) only [wrapI]; simp; omega) | (simp; omega)), ?_⟩ | (intro ep) | (refine ifB (fun hb => ?_) (fun hb => ?_) <;> (try simp only [decide_eq_true_eq, decide_eq_false_iff_not, beq_iff_eq, beq_eq_false_iff_ne, bne_iff_ne, bne_eq_false_iff_eq, ne_eq, not_false_eq_true, not_true_eq_false, Bool.not_eq_true, Bool.not_eq_true', Bool.not_eq_false', Int.not_lt, Int.not_le] at hb) <;> (try simp (disch := omega) only [wrapI] at hb) <;> (try (exfalso; omega))) | fail)))
          all_goals (conv => whnf)
          all_goals exact back_of ⟨0, hu⟩ ⟨rfl, rfl⟩
        · rw [if_neg c1] at hu
          unfold tnBad at c1
          simp only at c1
          (repeat' (first | exact rfl | ((conv => whnf); first | refine optS hm ?_ | exact rfl | refine ⟨by kernel_rfl, ?_⟩ | exact ⟨rfl, rfl⟩ | refine ⟨rfl, ?_⟩ | refine ⟨by (first | omega | (simp (disch := omega) only [wrapI]; omega) | (simp (disch := omega) only [wrapI]; simp; omega) | (simp; omega)), ?_⟩ | (intro ep) | (refine ifB (fun hb => ?_) (fun hb => ?_) <;> (try simp only [decide_eq_true_eq, decide_eq_false_iff_not, beq_iff_eq, beq_eq_false_iff_ne, bne_iff_ne, bne_eq_false_iff_eq, ne_eq, not_false_eq_true, not_true_eq_false, Bool.not_eq_true, Bool.not_eq_true', Bool.not_eq_false', Int.not_lt, Int.not_le] at hb) <;> (try simp (disch := omega) only [wrapI] at hb) <;> (try (exfalso; omega))) | fail)))
          all_goals (conv => whnf)
          all_goals exact back_of ⟨1, by omega, by rw [hp]; omega, by rw [hp]; exact hu⟩ ⟨by (first | exact rfl | (simp (disch := omega) only [wrapI]; exact rfl)), rfl, by simp only; omega⟩
      | succ j =>
        have h2 : j < l.length := by omega
        have hm2 := mapR (f := tnR) h2
        have hq := endT_s h2
        generalize l[j] = b at hm2 hq
        obtain ⟨p', f', t'⟩ := b
        replace hm2 : (l.map tnR)[0 + (IntKind.i64.wrap (((j + 1 : Nat) : Int) - 1)).toNat]? = some [.int .i64 p', .int .i64 f', .int .i64 t'] := by
          rw [wrapI (by omega) (by omega), show ((j + 1 : Nat) : Int) - 1 = (j : Int) by omega]; exact hm2
        simp only at hq
        rw [hq] at hu h0
        by_cases c1 : tnBad t' ⟨p, f, t⟩
        · rw [if_pos c1] at hu
          unfold tnBad at c1
          simp only at c1
          (repeat' (first | exact rfl | ((conv => whnf); first | refine optS hm ?_ | refine optS hm2 ?_ | exact rfl | refine ⟨by kernel_rfl, ?_⟩ | exact ⟨rfl, rfl⟩ | refine ⟨rfl, ?_⟩ | refine ⟨by (first | omega | (simp (disch := omega) only [wrapI]; omega) | (simp (disch := omega) only [wrapI]; simp; omega) | (simp; omega)), ?_⟩ | (intro ep) | (refine ifB (fun hb => ?_) (fun hb => ?_) <;> (try simp only [decide_eq_true_eq, decide_eq_false_iff_not, beq_iff_eq, beq_eq_false_iff_ne, bne_iff_ne, bne_eq_false_iff_eq, ne_eq, not_false_eq_true, not_true_eq_false, Bool.not_eq_true, Bool.not_eq_true', Bool.not_eq_false', Int.not_lt, Int.not_le] at hb) <;> (try simp (disch := omega) only [wrapI] at hb) <;> (try (exfalso; omega))) | fail)))
          all_goals (conv => whnf)
          all_goals exact back_of ⟨0, hu⟩ ⟨rfl, rfl⟩
        · rw [if_neg c1] at hu
          unfold tnBad at c1
          simp only at c1
          (repeat' (first | exact rfl | ((conv => whnf); first | refine optS hm ?_ | refine optS hm2 ?_ | exact rfl | refine ⟨by kernel_rfl, ?_⟩ | exact ⟨rfl, rfl⟩ | refine ⟨rfl, ?_⟩ | refine ⟨by (first | omega | (simp (disch := omega) only [wrapI]; omega) | (simp (disch := omega) only [wrapI]; simp; omega) | (simp; omega)), ?_⟩ | (intro ep) | (refine ifB (fun hb => ?_) (fun hb => ?_) <;> (try simp only [decide_eq_true_eq, decide_eq_false_iff_not, beq_iff_eq, beq_eq_false_iff_ne, bne_iff_ne, bne_eq_false_iff_eq, ne_eq, not_false_eq_true, not_true_eq_false, Bool.not_eq_true, Bool.not_eq_true', Bool.not_eq_false', Int.not_lt, Int.not_le] at hb) <;> (try simp (disch := omega) only [wrapI] at hb) <;> (try (exfalso; omega))) | fail)))
          all_goals (conv => whnf)
          all_goals exact back_of ⟨j + 1 + 1, by omega, by rw [hp]; omega, by rw [hp]; exact hu⟩ ⟨by (first | exact rfl | (simp (disch := omega) only [wrapI]; exact rfl)), rfl, by simp only; omega⟩
    · simp only [decide_eq_false_iff_not] at g1
      rw [List.drop_eq_nil_of_le (by omega), rgt] at hu
      (repeat' (first | exact rfl | ((conv => whnf); first | exact rfl | refine ⟨by kernel_rfl, ?_⟩ | exact ⟨rfl, rfl⟩ | refine ⟨rfl, ?_⟩ | refine ⟨by (first | omega | (simp (disch := omega) only [wrapI]; omega) | (simp (disch := omega) only [wrapI]; simp; omega) | (simp; omega)), ?_⟩ | (intro ep) | fail)))
      all_goals (conv => whnf)
      exact back_of ⟨0, hu⟩ ⟨rfl, rfl, rfl⟩
  · rintro ⟨x, hx⟩
    (repeat' (first | exact rfl | ((conv => whnf); first | exact rfl | refine ⟨by kernel_rfl, ?_⟩ | exact ⟨rfl, rfl⟩ | refine ⟨rfl, ?_⟩ | refine ⟨by (first | omega | (simp (disch := omega) only [wrapI]; omega) | (simp (disch := omega) only [wrapI]; simp; omega) | (simp; omega)), ?_⟩ | (intro ep) | fail)))
    all_goals (conv => whnf)
    all_goals (subst hx; rfl)
  · rintro ⟨x, hx⟩
    (repeat' (first | exact rfl | ((conv => whnf); first | exact rfl | refine ⟨by kernel_rfl, ?_⟩ | exact ⟨rfl, rfl⟩ | refine ⟨rfl, ?_⟩ | refine ⟨by (first | omega | (simp (disch := omega) only [wrapI]; omega) | (simp (disch := omega) only [wrapI]; simp; omega) | (simp; omega)), ?_⟩ | (intro ep) | fail)))
    all_goals (conv => whnf)
    all_goals (subst hx; rfl)
end Go.Ab.V

/-
  Whether parts are valid. No condition but the lengths.
-/
namespace Go.Ab.V
open Go.Proofs

/-- the first part that is too long -/
def bigAt : List (List Tn) → Int → Int
  | [], _ => -1
  | p :: r, k => if 400 < p.length then k else bigAt r (k + 1)
def anyB (l : List (List Tn)) : Bool := l.any fun p => decide (400 < p.length)
theorem bigAt_iff : ∀ (l : List (List Tn)) (k : Int), 0 ≤ k → (decide (bigAt l k ≥ 0) = anyB l)
  | [], k, h => by simp [bigAt, anyB]
  | p :: r, k, h => by
    unfold bigAt anyB
    rw [List.any_cons]
    split
    · rename_i h1; simp [h1, h]
    · rename_i h1
      have := bigAt_iff r (k + 1) (by omega)
      unfold anyB at this
      rw [this]; simp [h1]
def A47 : Ann := fun _ => {}
theorem big47 (p : List Tn) : PRet C.P 47 [tnsA p] (.bool (decide (400 < p.length))) := by
  by_cases h : 400 < p.length
  · rw [decide_eq_true h]
    refine pret_of ok mixed (A := A47) 0 Try.func47 rfl ?_
    (repeat' (first | exact rfl | ((conv => whnf); first | exact rfl | refine ⟨by kernel_rfl, ?_⟩ | exact ⟨rfl, rfl⟩ | refine ⟨rfl, ?_⟩ | refine ⟨by (first | omega | (simp (disch := omega) only [wrapI]; omega) | (simp (disch := omega) only [wrapI]; simp; omega) | (simp; omega)), ?_⟩ | (intro ep) | (refine ifB (fun hb => ?_) (fun hb => ?_) <;> (try simp only [decide_eq_true_eq, decide_eq_false_iff_not, beq_iff_eq, beq_eq_false_iff_ne, bne_iff_ne, bne_eq_false_iff_eq, ne_eq, not_false_eq_true, not_true_eq_false, Bool.not_eq_true, Bool.not_eq_true', Bool.not_eq_false', Int.not_lt, Int.not_le] at hb) <;> (try simp (disch := omega) only [wrapI] at hb) <;> (try (exfalso; omega))) | fail)))
    all_goals (conv => whnf)
    all_goals (simp; omega)
  · rw [decide_eq_false h]
    refine pret_of ok mixed (A := A47) 0 Try.func47 rfl ?_
    (repeat' (first | exact rfl | ((conv => whnf); first | exact rfl | refine ⟨by kernel_rfl, ?_⟩ | exact ⟨rfl, rfl⟩ | refine ⟨rfl, ?_⟩ | refine ⟨by (first | omega | (simp (disch := omega) only [wrapI]; omega) | (simp (disch := omega) only [wrapI]; simp; omega) | (simp; omega)), ?_⟩ | (intro ep) | (refine ifB (fun hb => ?_) (fun hb => ?_) <;> (try simp only [decide_eq_true_eq, decide_eq_false_iff_not, beq_iff_eq, beq_eq_false_iff_ne, bne_iff_ne, bne_eq_false_iff_eq, ne_eq, not_false_eq_true, not_true_eq_false, Bool.not_eq_true, Bool.not_eq_true', Bool.not_eq_false', Int.not_lt, Int.not_le] at hb) <;> (try simp (disch := omega) only [wrapI] at hb) <;> (try (exfalso; omega))) | fail)))
    all_goals (conv => whnf)
    all_goals (simp; omega)
def A75 : Ann := fun _ => {}
set_option maxHeartbeats 8000000 in
set_option maxRecDepth 100000 in
theorem index75 (l : List (List Tn)) (hl : l.length ≤ 9223372036854775806) : PRet C.P 75 [prtsA l, .fn (.func 47) [] []] (.int .i64 (bigAt l 0)) := by
  obtain ⟨R, hR⟩ : ∃ R, R = bigAt l 0 := ⟨_, rfl⟩
  rw [← hR]
  refine pret_of ok mixed (A := A75) 0 Try.func75 rfl ?_
  (repeat' (first | exact rfl | ((conv => whnf); first | exact rfl | refine ⟨by kernel_rfl, ?_⟩ | exact ⟨rfl, rfl⟩ | refine ⟨rfl, ?_⟩ | refine ⟨by (first | omega | (simp (disch := omega) only [wrapI]; omega) | (simp (disch := omega) only [wrapI]; simp; omega) | (simp; omega)), ?_⟩ | (intro ep) | (refine ifB (fun hb => ?_) (fun hb => ?_) <;> (try simp only [decide_eq_true_eq, decide_eq_false_iff_not, beq_iff_eq, beq_eq_false_iff_ne, bne_iff_ne, bne_eq_false_iff_eq, ne_eq, not_false_eq_true, not_true_eq_false, Bool.not_eq_true, Bool.not_eq_true', Bool.not_eq_false', Int.not_lt, Int.not_le] at hb) <;> (try simp (disch := omega) only [wrapI] at hb) <;> (try (exfalso; omega))) | fail)))
  all_goals (conv => whnf)
  refine loopY ok mixed (A := A75) [0, 1, 7, 8] [] (S := { k : Nat // k ≤ l.length ∧ bigAt (l.drop k) k = R })
    (fr := fun s => frOf 0 19 [(0, prtsA l), (1, .fn (.func 47) [] []), (7, .int .i64 (l.length : Int)), (8, .int .i64 (s.1 : Int))])
    (h := fun s => ⟨[], []⟩) (μ := fun s => l.length - s.1) ⟨0, by simp [hR]⟩ ?_ ?_
    [] [] (S' := { k : Nat // -1 = R }) (X := fun _ => 0) (frX := fun s => frOf 0 19 []) (hX := fun s => ⟨[], []⟩)
    [4] [] (S2 := { k : Nat // (k : Int) = R }) (frR := fun s => frOf 0 19 [(4, .int .i64 (s.1 : Int))]) (hR := fun s => ⟨[], []⟩) ?_ ?_ ?_
  · exact rfl
  · exact rfl
  · rintro ⟨k, hk, hu⟩
    show aexR _ _ _ (frOf 0 19 [(0, prtsA l), (1, .fn (.func 47) [] []), (7, .int .i64 (l.length : Int)), (8, .int .i64 (k : Int))]) ⟨[], []⟩ _
    (conv => whnf)
    refine ifB (fun g1 => ?_) (fun g1 => ?_)
    · simp only [decide_eq_true_eq] at g1
      have h1 : k < l.length := by omega
      have hm := mapR (f := fun p => [tnsA p]) h1
      rw [List.drop_eq_getElem_cons h1, bigAt] at hu
      generalize l[k] = p at hm hu
      have hc := big47 p
      by_cases c1 : 400 < p.length
      · rw [if_pos c1] at hu
        rw [decide_eq_true c1] at hc
        (repeat' (first | exact rfl | ((conv => whnf); first | refine optS hm ?_ | refine ⟨_, hc, ?_⟩ | exact rfl | refine ⟨by kernel_rfl, ?_⟩ | exact ⟨rfl, rfl⟩ | refine ⟨rfl, ?_⟩ | refine ⟨by (first | omega | (simp (disch := omega) only [wrapI]; omega) | (simp (disch := omega) only [wrapI]; simp; omega) | (simp; omega)), ?_⟩ | (intro ep) | (refine ifB (fun hb => ?_) (fun hb => ?_) <;> (try simp only [decide_eq_true_eq, decide_eq_false_iff_not, beq_iff_eq, beq_eq_false_iff_ne, bne_iff_ne, bne_eq_false_iff_eq, ne_eq, not_false_eq_true, not_true_eq_false, Bool.not_eq_true, Bool.not_eq_true', Bool.not_eq_false', Int.not_lt, Int.not_le] at hb) <;> (try simp (disch := omega) only [wrapI] at hb) <;> (try (exfalso; omega))) | fail)))
        all_goals (conv => whnf)
        all_goals exact back_of ⟨k, hu⟩ ⟨rfl, rfl⟩
      · rw [if_neg c1] at hu
        rw [decide_eq_false c1] at hc
        (repeat' (first | exact rfl | ((conv => whnf); first | refine optS hm ?_ | refine ⟨_, hc, ?_⟩ | exact rfl | refine ⟨by kernel_rfl, ?_⟩ | exact ⟨rfl, rfl⟩ | refine ⟨rfl, ?_⟩ | refine ⟨by (first | omega | (simp (disch := omega) only [wrapI]; omega) | (simp (disch := omega) only [wrapI]; simp; omega) | (simp; omega)), ?_⟩ | (intro ep) | (refine ifB (fun hb => ?_) (fun hb => ?_) <;> (try simp only [decide_eq_true_eq, decide_eq_false_iff_not, beq_iff_eq, beq_eq_false_iff_ne, bne_iff_ne, bne_eq_false_iff_eq, ne_eq, not_false_eq_true, not_true_eq_false, Bool.not_eq_true, Bool.not_eq_true', Bool.not_eq_false', Int.not_lt, Int.not_le] at hb) <;> (try simp (disch := omega) only [wrapI] at hb) <;> (try (exfalso; omega))) | fail)))
        all_goals (conv => whnf)
        all_goals exact back_of ⟨k + 1, by omega, hu⟩ ⟨by (first | exact rfl | (simp (disch := omega) only [wrapI]; exact rfl)), rfl, by simp only; omega⟩
    · simp only [decide_eq_false_iff_not] at g1
      rw [List.drop_eq_nil_of_le (by omega), bigAt] at hu
      (repeat' (first | exact rfl | ((conv => whnf); first | exact rfl | refine ⟨by kernel_rfl, ?_⟩ | exact ⟨rfl, rfl⟩ | refine ⟨rfl, ?_⟩ | refine ⟨by (first | omega | (simp (disch := omega) only [wrapI]; omega) | (simp (disch := omega) only [wrapI]; simp; omega) | (simp; omega)), ?_⟩ | (intro ep) | fail)))
      all_goals (conv => whnf)
      exact back_of ⟨0, hu⟩ ⟨rfl, rfl, rfl⟩
  · rintro ⟨x, hx⟩
    (repeat' (first | exact rfl | ((conv => whnf); first | exact rfl | refine ⟨by kernel_rfl, ?_⟩ | exact ⟨rfl, rfl⟩ | refine ⟨rfl, ?_⟩ | refine ⟨by (first | omega | (simp (disch := omega) only [wrapI]; omega) | (simp (disch := omega) only [wrapI]; simp; omega) | (simp; omega)), ?_⟩ | (intro ep) | fail)))
    all_goals (conv => whnf)
    all_goals (subst hx; rfl)
  · rintro ⟨x, hx⟩
    (repeat' (first | exact rfl | ((conv => whnf); first | exact rfl | refine ⟨by kernel_rfl, ?_⟩ | exact ⟨rfl, rfl⟩ | refine ⟨rfl, ?_⟩ | refine ⟨by (first | omega | (simp (disch := omega) only [wrapI]; omega) | (simp (disch := omega) only [wrapI]; simp; omega) | (simp; omega)), ?_⟩ | (intro ep) | fail)))
    all_goals (conv => whnf)
    all_goals (subst hx; rfl)
def A46 : Ann := fun _ => {}
theorem any46 (l : List (List Tn)) (hl : l.length ≤ 9223372036854775806) : PRet C.P 46 [prtsA l, .fn (.func 47) [] []] (.bool (anyB l)) := by
  have h1 := index75 l hl
  rw [← bigAt_iff l 0 (by omega)]
  refine pret_of ok mixed (A := A46) 0 Try.func46 rfl ?_
  (repeat' (first | exact rfl | ((conv => whnf); first | refine ⟨_, h1, ?_⟩ | exact rfl | refine ⟨by kernel_rfl, ?_⟩ | exact ⟨rfl, rfl⟩ | refine ⟨rfl, ?_⟩ | refine ⟨by (first | omega | (simp (disch := omega) only [wrapI]; omega) | (simp (disch := omega) only [wrapI]; simp; omega) | (simp; omega)), ?_⟩ | (intro ep) | fail)))
end Go.Ab.V

/-
  Whether parts are valid, as the program says it. No condition but the lengths.
-/
namespace Go.Ab.V
open Go.Proofs

def chkP (l : List (List Tn)) : Int := if 6 < l.length then 2 else if anyB l = true then 2 else if l.all (rgt 0) = true then 0 else 80
def A19 : Ann := fun r => match r with
  | 9 => { slots := [(2, 0)] }
  | _ => {}
set_option maxHeartbeats 8000000 in
set_option maxRecDepth 100000 in
theorem checkParts_spec (l : List (List Tn)) (hl : l.length ≤ 9223372036854775807) (hp : ∀ p ∈ l, p.length ≤ 9223372036854775807) : PRet C.P 19 [prtsA l] (.int .i64 (chkP l)) := by
  unfold chkP
  by_cases c0 : 6 < l.length
  · rw [if_pos c0]
    refine pret_of ok mixed (A := A19) 1 Try.func19 rfl ?_
    (repeat' (first | exact rfl | ((conv => whnf); first | exact rfl | refine ⟨by kernel_rfl, ?_⟩ | exact ⟨rfl, rfl⟩ | refine ⟨rfl, ?_⟩ | refine ⟨by (first | omega | (simp (disch := omega) only [wrapI]; omega) | (simp (disch := omega) only [wrapI]; simp; omega) | (simp; omega)), ?_⟩ | (intro ep) | (refine ifB (fun hb => ?_) (fun hb => ?_) <;> (try simp only [decide_eq_true_eq, decide_eq_false_iff_not, beq_iff_eq, beq_eq_false_iff_ne, bne_iff_ne, bne_eq_false_iff_eq, ne_eq, not_false_eq_true, not_true_eq_false, Bool.not_eq_true, Bool.not_eq_true', Bool.not_eq_false', Int.not_lt, Int.not_le] at hb) <;> (try simp (disch := omega) only [wrapI] at hb) <;> (try (exfalso; omega))) | fail)))
  rw [if_neg c0]
  have hA := any46 l (by omega)
  by_cases c1 : anyB l = true
  · rw [if_pos c1]
    rw [c1] at hA
    refine pret_of ok mixed (A := A19) 1 Try.func19 rfl ?_
    (repeat' (first | exact rfl | ((conv => whnf); first | refine ⟨_, hA, ?_⟩ | exact rfl | refine ⟨by kernel_rfl, ?_⟩ | exact ⟨rfl, rfl⟩ | refine ⟨rfl, ?_⟩ | refine ⟨by (first | omega | (simp (disch := omega) only [wrapI]; omega) | (simp (disch := omega) only [wrapI]; simp; omega) | (simp; omega)), ?_⟩ | (intro ep) | (refine ifB (fun hb => ?_) (fun hb => ?_) <;> (try simp only [decide_eq_true_eq, decide_eq_false_iff_not, beq_iff_eq, beq_eq_false_iff_ne, bne_iff_ne, bne_eq_false_iff_eq, ne_eq, not_false_eq_true, not_true_eq_false, Bool.not_eq_true, Bool.not_eq_true', Bool.not_eq_false', Int.not_lt, Int.not_le] at hb) <;> (try simp (disch := omega) only [wrapI] at hb) <;> (try (exfalso; omega))) | fail)))
  rw [if_neg c1]
  rw [Bool.not_eq_true] at c1
  rw [c1] at hA
  obtain ⟨R, hR⟩ : ∃ R, R = l.all (rgt 0) := ⟨_, rfl⟩
  rw [← hR]
  refine pret_of ok mixed (A := A19) 1 Try.func19 rfl ?_
  (repeat' (first | exact rfl | ((conv => whnf); first | refine ⟨_, hA, ?_⟩ | exact rfl | refine ⟨by kernel_rfl, ?_⟩ | exact ⟨rfl, rfl⟩ | refine ⟨rfl, ?_⟩ | refine ⟨by (first | omega | (simp (disch := omega) only [wrapI]; omega) | (simp (disch := omega) only [wrapI]; simp; omega) | (simp; omega)), ?_⟩ | (intro ep) | (refine ifB (fun hb => ?_) (fun hb => ?_) <;> (try simp only [decide_eq_true_eq, decide_eq_false_iff_not, beq_iff_eq, beq_eq_false_iff_ne, bne_iff_ne, bne_eq_false_iff_eq, ne_eq, not_false_eq_true, not_true_eq_false, Bool.not_eq_true, Bool.not_eq_true', Bool.not_eq_false', Int.not_lt, Int.not_le] at hb) <;> (try simp (disch := omega) only [wrapI] at hb) <;> (try (exfalso; omega))) | fail)))
  all_goals (conv => whnf)
  refine loopY ok mixed (A := A19) [15, 16, 17] [] (S := { k : Nat // k ≤ l.length ∧ (l.drop k).all (rgt 0) = R })
    (fr := fun s => frOf 0 53 [(15, prtsA l), (16, .int .i64 (l.length : Int)), (17, .int .i64 (s.1 : Int))])
    (h := fun s => ⟨[.hole], []⟩) (μ := fun s => l.length - s.1) ⟨0, by simp [hR]⟩ ?_ ?_
    [] [] (S' := { k : Nat // true = R }) (X := fun _ => 0) (frX := fun s => frOf 0 53 []) (hX := fun s => ⟨[.hole], []⟩)
    [2] [] (S2 := { k : Nat // false = R }) (frR := fun s => frOf 0 53 [(2, .int .i64 80)]) (hR := fun s => ⟨[.hole], []⟩) ?_ ?_ ?_
  · exact rfl
  · exact rfl
  · rintro ⟨k, hk, hu⟩
    show aexR _ _ _ (frOf 0 53 [(15, prtsA l), (16, .int .i64 (l.length : Int)), (17, .int .i64 (k : Int))]) ⟨[.hole], []⟩ _
    (conv => whnf)
    refine ifB (fun g1 => ?_) (fun g1 => ?_)
    · simp only [decide_eq_true_eq] at g1
      have h1 : k < l.length := by omega
      have hm := mapR (f := fun p => [tnsA p]) h1
      have hpl := hp l[k] (List.getElem_mem h1)
      rw [List.drop_eq_getElem_cons h1, List.all_cons] at hu
      generalize l[k] = p at hm hu hpl
      obtain ⟨r, hr⟩ : ∃ r, r = rgt 0 p := ⟨_, rfl⟩
      rw [← hr] at hu
      (repeat' (first | exact rfl | ((conv => whnf); first | refine optS hm ?_ | exact rfl | refine ⟨by kernel_rfl, ?_⟩ | exact ⟨rfl, rfl⟩ | refine ⟨rfl, ?_⟩ | refine ⟨by (first | omega | (simp (disch := omega) only [wrapI]; omega) | (simp (disch := omega) only [wrapI]; simp; omega) | (simp; omega)), ?_⟩ | (intro ep) | fail)))
      all_goals (conv => whnf)
      refine loopY ok mixed (A := A19) [5, 15, 16, 17, 21, 22, 23] [] (S := { x : Nat × Int // x.1 ≤ p.length ∧ rgt x.2 (p.drop x.1) = r })
        (fr := fun s => frOf 0 53 [(5, .int .i64 s.1.2), (15, prtsA l), (16, .int .i64 (l.length : Int)), (17, .int .i64 (k : Int)), (21, tnsA p), (22, .int .i64 (p.length : Int)), (23, .int .i64 (s.1.1 : Int))])
        (h := fun s => ⟨[.hole], []⟩) (μ := fun s => p.length - s.1.1) ⟨(0, 0), by simp [hr]⟩ ?_ ?_
        [15, 16, 17] [] (S' := { k : Nat // true = r }) (X := fun _ => 2) (frX := fun s => frOf 0 53 [(15, prtsA l), (16, .int .i64 (l.length : Int)), (17, .int .i64 (k : Int))]) (hX := fun s => ⟨[.hole], []⟩)
        [2] [] (S2 := { k : Nat // false = r }) (frR := fun s => frOf 0 53 [(2, .int .i64 80)]) (hR := fun s => ⟨[.hole], []⟩) ?_ ?_ ?_
      · exact rfl
      · exact rfl
      · rintro ⟨⟨j, en⟩, hj, hv⟩
        simp only at hj hv
        show aexR _ _ _ (frOf 0 53 [(5, .int .i64 en), (15, prtsA l), (16, .int .i64 (l.length : Int)), (17, .int .i64 (k : Int)), (21, tnsA p), (22, .int .i64 (p.length : Int)), (23, .int .i64 (j : Int))]) ⟨[.hole], []⟩ _
        (conv => whnf)
        refine ifB (fun g2 => ?_) (fun g2 => ?_)
        · simp only [decide_eq_true_eq] at g2
          have h2 : j < p.length := by omega
          have hm2 := mapR (f := tnR) h2
          rw [List.drop_eq_getElem_cons h2, rgt] at hv
          generalize p[j] = x at hm2 hv
          obtain ⟨q, f, t⟩ := x
          replace hm2 : (p.map tnR)[0 + ((j : Nat) : Int).toNat]? = some [.int .i64 q, .int .i64 f, .int .i64 t] := hm2
          simp only at hv
          by_cases b1 : q < 0 ∨ 127 < q
          · have w1 := within_f (n := q) (a := 0) (b := 127) b1
            rw [if_pos (by unfold tnBad; simp only; omega)] at hv
            (repeat' (first | exact rfl | ((conv => whnf); first | refine optS hm2 ?_ | refine ⟨_, w1, ?_⟩ | exact rfl | refine ⟨by kernel_rfl, ?_⟩ | exact ⟨rfl, rfl⟩ | refine ⟨rfl, ?_⟩ | refine ⟨by (first | omega | (simp (disch := omega) only [wrapI]; omega) | (simp (disch := omega) only [wrapI]; simp; omega) | (simp; omega)), ?_⟩ | (intro ep) | (refine ifB (fun hb => ?_) (fun hb => ?_) <;> (try simp only [decide_eq_true_eq, decide_eq_false_iff_not, beq_iff_eq, beq_eq_false_iff_ne, bne_iff_ne, bne_eq_false_iff_eq, ne_eq, not_false_eq_true, not_true_eq_false, Bool.not_eq_true, Bool.not_eq_true', Bool.not_eq_false', Int.not_lt, Int.not_le] at hb) <;> (try simp (disch := omega) only [wrapI] at hb) <;> (try (exfalso; omega))) | fail)))
            all_goals (conv => whnf)
            all_goals exact back_of ⟨0, hv⟩ ⟨rfl, rfl⟩
          have w1 := within_t (n := q) (a := 0) (b := 127) (by omega)
          by_cases b2 : tnBad en ⟨q, f, t⟩
          · rw [if_pos b2] at hv
            unfold tnBad at b2
            simp only at b2
            (repeat' (first | exact rfl | ((conv => whnf); first | refine optS hm2 ?_ | refine ⟨_, w1, ?_⟩ | exact rfl | refine ⟨by kernel_rfl, ?_⟩ | exact ⟨rfl, rfl⟩ | refine ⟨rfl, ?_⟩ | refine ⟨by (first | omega | (simp (disch := omega) only [wrapI]; omega) | (simp (disch := omega) only [wrapI]; simp; omega) | (simp; omega)), ?_⟩ | (intro ep) | (refine ifB (fun hb => ?_) (fun hb => ?_) <;> (try simp only [decide_eq_true_eq, decide_eq_false_iff_not, beq_iff_eq, beq_eq_false_iff_ne, bne_iff_ne, bne_eq_false_iff_eq, ne_eq, not_false_eq_true, not_true_eq_false, Bool.not_eq_true, Bool.not_eq_true', Bool.not_eq_false', Int.not_lt, Int.not_le] at hb) <;> (try simp (disch := omega) only [wrapI] at hb) <;> (try (exfalso; omega))) | fail)))
            all_goals (conv => whnf)
            all_goals exact back_of ⟨0, hv⟩ ⟨rfl, rfl⟩
          · rw [if_neg b2] at hv
            unfold tnBad at b2
            simp only at b2
            (repeat' (first | exact rfl | ((conv => whnf); first | refine optS hm2 ?_ | refine ⟨_, w1, ?_⟩ | exact rfl | refine ⟨by kernel_rfl, ?_⟩ | exact ⟨rfl, rfl⟩ | refine ⟨rfl, ?_⟩ | refine ⟨by (first | omega | (simp (disch := omega) only [wrapI]; omega) | (simp (disch := omega) only [wrapI]; simp; omega) | (simp; omega)), ?_⟩ | (intro ep) | (refine ifB (fun hb => ?_) (fun hb => ?_) <;> (try simp only [decide_eq_true_eq, decide_eq_false_iff_not, beq_iff_eq, beq_eq_false_iff_ne, bne_iff_ne, bne_eq_false_iff_eq, ne_eq, not_false_eq_true, not_true_eq_false, Bool.not_eq_true, Bool.not_eq_true', Bool.not_eq_false', Int.not_lt, Int.not_le] at hb) <;> (try simp (disch := omega) only [wrapI] at hb) <;> (try (exfalso; omega))) | fail)))
            all_goals (conv => whnf)
            all_goals exact back_of ⟨(j + 1, t), by simp only; omega, hv⟩ ⟨by (first | exact rfl | (simp (disch := omega) only [wrapI]; exact rfl)), rfl, by simp only; omega⟩
        · simp only [decide_eq_false_iff_not] at g2
          rw [List.drop_eq_nil_of_le (by omega), rgt] at hv
          (repeat' (first | exact rfl | ((conv => whnf); first | exact rfl | refine ⟨by kernel_rfl, ?_⟩ | exact ⟨rfl, rfl⟩ | refine ⟨rfl, ?_⟩ | refine ⟨by (first | omega | (simp (disch := omega) only [wrapI]; omega) | (simp (disch := omega) only [wrapI]; simp; omega) | (simp; omega)), ?_⟩ | (intro ep) | fail)))
          all_goals (conv => whnf)
          exact back_of ⟨0, hv⟩ ⟨rfl, rfl, rfl⟩
      · rintro ⟨x, hx⟩
        subst hx
        rw [Bool.false_and] at hu
        exact back_of ⟨0, hu⟩ ⟨rfl, rfl⟩
      · rintro ⟨x, hx⟩
        subst hx
        rw [Bool.true_and] at hu
        (repeat' (first | exact rfl | ((conv => whnf); first | exact rfl | refine ⟨by kernel_rfl, ?_⟩ | exact ⟨rfl, rfl⟩ | refine ⟨rfl, ?_⟩ | refine ⟨by (first | omega | (simp (disch := omega) only [wrapI]; omega) | (simp (disch := omega) only [wrapI]; simp; omega) | (simp; omega)), ?_⟩ | (intro ep) | fail)))
        all_goals (conv => whnf)
        exact back_of ⟨k + 1, by omega, hu⟩ ⟨by (first | exact rfl | (simp (disch := omega) only [wrapI]; exact rfl)), rfl, by simp only; omega⟩
    · simp only [decide_eq_false_iff_not] at g1
      rw [List.drop_eq_nil_of_le (by omega), List.all_nil] at hu
      (repeat' (first | exact rfl | ((conv => whnf); first | exact rfl | refine ⟨by kernel_rfl, ?_⟩ | exact ⟨rfl, rfl⟩ | refine ⟨rfl, ?_⟩ | refine ⟨by (first | omega | (simp (disch := omega) only [wrapI]; omega) | (simp (disch := omega) only [wrapI]; simp; omega) | (simp; omega)), ?_⟩ | (intro ep) | fail)))
      all_goals (conv => whnf)
      exact back_of ⟨0, hu⟩ ⟨rfl, rfl, rfl⟩
  · rintro ⟨x, hx⟩
    (repeat' (first | exact rfl | ((conv => whnf); first | exact rfl | refine ⟨by kernel_rfl, ?_⟩ | exact ⟨rfl, rfl⟩ | refine ⟨rfl, ?_⟩ | refine ⟨by (first | omega | (simp (disch := omega) only [wrapI]; omega) | (simp (disch := omega) only [wrapI]; simp; omega) | (simp; omega)), ?_⟩ | (intro ep) | fail)))
    all_goals (conv => whnf)
    all_goals (subst hx; rfl)
  · rintro ⟨x, hx⟩
    (repeat' (first | exact rfl | ((conv => whnf); first | exact rfl | refine ⟨by kernel_rfl, ?_⟩ | exact ⟨rfl, rfl⟩ | refine ⟨rfl, ?_⟩ | refine ⟨by (first | omega | (simp (disch := omega) only [wrapI]; omega) | (simp (disch := omega) only [wrapI]; simp; omega) | (simp; omega)), ?_⟩ | (intro ep) | fail)))
    all_goals (conv => whnf)
    all_goals (subst hx; rfl)
end Go.Ab.V

/-
  Whether parts are valid, as the document says it. No condition but the lengths.
-/
namespace Go.Ab.V
open Go.Proofs

def A20 : Ann := fun _ => {}
theorem anyB_cons (p : List Tn) (r : List (List Tn)) : anyB (p :: r) = (decide (400 < p.length) || anyB r) := by unfold anyB; rw [List.any_cons]
set_option maxHeartbeats 8000000 in
set_option maxRecDepth 100000 in
theorem refCheckParts_spec (l : List (List Tn)) (hl : l.length ≤ 9223372036854775807) (hp : ∀ p ∈ l, p.length ≤ 9223372036854775807) : PRet C.P 20 [prtsA l] (.int .i64 (chkP l)) := by
  obtain ⟨R, hR⟩ : ∃ R, R = chkP l := ⟨_, rfl⟩
  rw [← hR]
  obtain ⟨M, hM⟩ : ∃ M : Bool, M = (decide (6 < l.length) || anyB l) := ⟨_, rfl⟩
  refine pret_of ok mixed (A := A20) 0 Try.func20 rfl ?_
  (repeat' (first | exact rfl | ((conv => whnf); first | exact rfl | refine ⟨by kernel_rfl, ?_⟩ | exact ⟨rfl, rfl⟩ | refine ⟨rfl, ?_⟩ | refine ⟨by (first | omega | (simp (disch := omega) only [wrapI]; omega) | (simp (disch := omega) only [wrapI]; simp; omega) | (simp; omega)), ?_⟩ | (intro ep) | (refine ifB (fun hb => ?_) (fun hb => ?_) <;> (try simp only [decide_eq_true_eq, decide_eq_false_iff_not, beq_iff_eq, beq_eq_false_iff_ne, bne_iff_ne, bne_eq_false_iff_eq, ne_eq, not_false_eq_true, not_true_eq_false, Bool.not_eq_true, Bool.not_eq_true', Bool.not_eq_false', Int.not_lt, Int.not_le] at hb) <;> (try simp (disch := omega) only [wrapI] at hb) <;> (try (exfalso; omega))) | fail)))
  all_goals (conv => whnf)
  refine loopX ok mixed (A := A20) [0, 3, 4] [] (S := { x : Nat × Bool // x.1 ≤ l.length ∧ (x.2 || anyB (l.drop x.1)) = M })
    (fr := fun s => frOf 0 37 [(0, prtsA l), (3, .bool s.1.2), (4, .int .i64 (s.1.1 : Int))])
    (h := fun s => ⟨[], []⟩) (μ := fun s => l.length - s.1.1) ⟨(0, decide (6 < l.length)), by simp [hM]⟩ ?_ ?_
    [0, 3] [] (S' := { b : Bool // b = M }) (X := fun _ => 0) (frX := fun s => frOf 0 37 [(0, prtsA l), (3, .bool s.1)]) (hX := fun s => ⟨[], []⟩)
    (R := fun _ _ => False) ?_ (fun _ _ h => h.elim) ?_
  · show maskF 0 _ _ = frOf 0 37 [(0, prtsA l), (3, .bool (decide (6 < l.length))), (4, .int .i64 0)]
    have e : decide ((l.length : Int) > 6) = decide (6 < l.length) := by simp; omega
    rw [← e]
    exact rfl
  · exact rfl
  · rintro ⟨⟨k, b⟩, hk, hu⟩
    simp only at hk hu
    show aexR _ _ _ (frOf 0 37 [(0, prtsA l), (3, .bool b), (4, .int .i64 (k : Int))]) ⟨[], []⟩ _
    (conv => whnf)
    refine ifB (fun g1 => ?_) (fun g1 => ?_)
    · simp only [decide_eq_true_eq] at g1
      have h1 : k < l.length := by omega
      have hm := mapR (f := fun p => [tnsA p]) h1
      rw [List.drop_eq_getElem_cons h1, anyB_cons] at hu
      generalize l[k] = p at hm hu
      cases b
      · (repeat' (first | exact rfl | ((conv => whnf); first | refine optS hm ?_ | exact rfl | refine ⟨by kernel_rfl, ?_⟩ | exact ⟨rfl, rfl⟩ | refine ⟨rfl, ?_⟩ | refine ⟨by (first | omega | (simp (disch := omega) only [wrapI]; omega) | (simp (disch := omega) only [wrapI]; simp; omega) | (simp; omega)), ?_⟩ | (intro ep) | fail)))
        all_goals (conv => whnf)
        refine back_of ⟨(k + 1, decide (400 < p.length)), by simp only; omega, by simpa using hu⟩ ⟨?_, rfl, by simp only; omega⟩
        show maskF 0 _ _ = frOf 0 37 [(0, prtsA l), (3, .bool (decide (400 < p.length))), (4, .int .i64 ((k + 1 : Nat) : Int))]
        have e : decide ((p.length : Int) > 400) = decide (400 < p.length) := by simp; omega
        rw [← e]
        (first | exact rfl | (simp (disch := omega) only [wrapI]; exact rfl))
      · (repeat' (first | exact rfl | ((conv => whnf); first | refine optS hm ?_ | exact rfl | refine ⟨by kernel_rfl, ?_⟩ | exact ⟨rfl, rfl⟩ | refine ⟨rfl, ?_⟩ | refine ⟨by (first | omega | (simp (disch := omega) only [wrapI]; omega) | (simp (disch := omega) only [wrapI]; simp; omega) | (simp; omega)), ?_⟩ | (intro ep) | fail)))
        all_goals (conv => whnf)
        exact back_of ⟨(k + 1, true), by simp only; omega, by simpa using hu⟩ ⟨by (first | exact rfl | (simp (disch := omega) only [wrapI]; exact rfl)), rfl, by simp only; omega⟩
    · simp only [decide_eq_false_iff_not] at g1
      rw [List.drop_eq_nil_of_le (by omega), anyB, List.any_nil, Bool.or_false] at hu
      (repeat' (first | exact rfl | ((conv => whnf); first | exact rfl | refine ⟨by kernel_rfl, ?_⟩ | exact ⟨rfl, rfl⟩ | refine ⟨rfl, ?_⟩ | refine ⟨by (first | omega | (simp (disch := omega) only [wrapI]; omega) | (simp (disch := omega) only [wrapI]; simp; omega) | (simp; omega)), ?_⟩ | (intro ep) | fail)))
      all_goals (conv => whnf)
      exact back_of ⟨b, hu⟩ ⟨rfl, rfl, rfl⟩
  · rintro ⟨b, hb⟩
    subst hb
    cases b
    · have c0 : ¬ 6 < l.length := by intro h; rw [decide_eq_true h] at hM; simp at hM
      have c1 : anyB l = false := by cases h : anyB l; rfl; rw [h] at hM; simp at hM
      unfold chkP at hR
      rw [if_neg c0, c1, if_neg (by decide)] at hR
      obtain ⟨Q, hQ⟩ : ∃ Q, Q = l.all (rgt 0) := ⟨_, rfl⟩
      rw [← hQ] at hR
      (repeat' (first | exact rfl | ((conv => whnf); first | exact rfl | refine ⟨by kernel_rfl, ?_⟩ | exact ⟨rfl, rfl⟩ | refine ⟨rfl, ?_⟩ | refine ⟨by (first | omega | (simp (disch := omega) only [wrapI]; omega) | (simp (disch := omega) only [wrapI]; simp; omega) | (simp; omega)), ?_⟩ | (intro ep) | (refine ifB (fun hb => ?_) (fun hb => ?_) <;> (try simp only [decide_eq_true_eq, decide_eq_false_iff_not, beq_iff_eq, beq_eq_false_iff_ne, bne_iff_ne, bne_eq_false_iff_eq, ne_eq, not_false_eq_true, not_true_eq_false, Bool.not_eq_true, Bool.not_eq_true', Bool.not_eq_false', Int.not_lt, Int.not_le] at hb) <;> (try simp (disch := omega) only [wrapI] at hb) <;> (try (exfalso; omega))) | fail)))
      all_goals (conv => whnf)
      refine loopY ok mixed (A := A20) [0, 5] [] (S := { k : Nat // k ≤ l.length ∧ (l.drop k).all (rgt 0) = Q })
        (fr := fun s => frOf 0 37 [(0, prtsA l), (5, .int .i64 (s.1 : Int))])
        (h := fun s => ⟨[], []⟩) (μ := fun s => l.length - s.1) ⟨0, by simp [hQ]⟩ ?_ ?_
        [] [] (S' := { k : Nat // true = Q }) (X := fun _ => 2) (frX := fun s => frOf 0 37 []) (hX := fun s => ⟨[], []⟩)
        [2] [] (S2 := { k : Nat // false = Q }) (frR := fun s => frOf 0 37 [(2, .int .i64 80)]) (hR := fun s => ⟨[], []⟩) ?_ ?_ ?_
      · exact rfl
      · exact rfl
      · rintro ⟨k, hk, hu⟩
        show aexR _ _ _ (frOf 0 37 [(0, prtsA l), (5, .int .i64 (k : Int))]) ⟨[], []⟩ _
        (conv => whnf)
        refine ifB (fun g1 => ?_) (fun g1 => ?_)
        · simp only [decide_eq_true_eq] at g1
          have h1 : k < l.length := by omega
          have hm := mapR (f := fun p => [tnsA p]) h1
          have hc := right_part l[k] (hp l[k] (List.getElem_mem h1))
          rw [List.drop_eq_getElem_cons h1, List.all_cons] at hu
          generalize l[k] = p at hm hu hc
          cases hr : rgt 0 p
          · rw [hr] at hc hu
            rw [Bool.false_and] at hu
            (repeat' (first | exact rfl | ((conv => whnf); first | refine optS hm ?_ | refine ⟨_, hc, ?_⟩ | exact rfl | refine ⟨by kernel_rfl, ?_⟩ | exact ⟨rfl, rfl⟩ | refine ⟨rfl, ?_⟩ | refine ⟨by (first | omega | (simp (disch := omega) only [wrapI]; omega) | (simp (disch := omega) only [wrapI]; simp; omega) | (simp; omega)), ?_⟩ | (intro ep) | fail)))
            all_goals (conv => whnf)
            all_goals exact back_of ⟨0, hu⟩ ⟨rfl, rfl⟩
          · rw [hr] at hc hu
            rw [Bool.true_and] at hu
            (repeat' (first | exact rfl | ((conv => whnf); first | refine optS hm ?_ | refine ⟨_, hc, ?_⟩ | exact rfl | refine ⟨by kernel_rfl, ?_⟩ | exact ⟨rfl, rfl⟩ | refine ⟨rfl, ?_⟩ | refine ⟨by (first | omega | (simp (disch := omega) only [wrapI]; omega) | (simp (disch := omega) only [wrapI]; simp; omega) | (simp; omega)), ?_⟩ | (intro ep) | fail)))
            all_goals (conv => whnf)
            all_goals exact back_of ⟨k + 1, by omega, hu⟩ ⟨by (first | exact rfl | (simp (disch := omega) only [wrapI]; exact rfl)), rfl, by simp only; omega⟩
        · simp only [decide_eq_false_iff_not] at g1
          rw [List.drop_eq_nil_of_le (by omega), List.all_nil] at hu
          (repeat' (first | exact rfl | ((conv => whnf); first | exact rfl | refine ⟨by kernel_rfl, ?_⟩ | exact ⟨rfl, rfl⟩ | refine ⟨rfl, ?_⟩ | refine ⟨by (first | omega | (simp (disch := omega) only [wrapI]; omega) | (simp (disch := omega) only [wrapI]; simp; omega) | (simp; omega)), ?_⟩ | (intro ep) | fail)))
          all_goals (conv => whnf)
          exact back_of ⟨0, hu⟩ ⟨rfl, rfl, rfl⟩
      · rintro ⟨x, hx⟩
        (repeat' (first | exact rfl | ((conv => whnf); first | exact rfl | refine ⟨by kernel_rfl, ?_⟩ | exact ⟨rfl, rfl⟩ | refine ⟨rfl, ?_⟩ | refine ⟨by (first | omega | (simp (disch := omega) only [wrapI]; omega) | (simp (disch := omega) only [wrapI]; simp; omega) | (simp; omega)), ?_⟩ | (intro ep) | fail)))
        all_goals (conv => whnf)
        all_goals (subst hx; rw [hR]; rfl)
      · rintro ⟨x, hx⟩
        (repeat' (first | exact rfl | ((conv => whnf); first | exact rfl | refine ⟨by kernel_rfl, ?_⟩ | exact ⟨rfl, rfl⟩ | refine ⟨rfl, ?_⟩ | refine ⟨by (first | omega | (simp (disch := omega) only [wrapI]; omega) | (simp (disch := omega) only [wrapI]; simp; omega) | (simp; omega)), ?_⟩ | (intro ep) | fail)))
        all_goals (conv => whnf)
        all_goals (subst hx; rw [hR]; rfl)
    · have e : R = 2 := by
        rw [hR]; unfold chkP
        split
        · rfl
        · rename_i c0
          rw [decide_eq_false c0, Bool.false_or] at hM
          rw [if_pos hM.symm]
      (repeat' (first | exact rfl | ((conv => whnf); first | exact rfl | refine ⟨by kernel_rfl, ?_⟩ | exact ⟨rfl, rfl⟩ | refine ⟨rfl, ?_⟩ | refine ⟨by (first | omega | (simp (disch := omega) only [wrapI]; omega) | (simp (disch := omega) only [wrapI]; simp; omega) | (simp; omega)), ?_⟩ | (intro ep) | (refine ifB (fun hb => ?_) (fun hb => ?_) <;> (try simp only [decide_eq_true_eq, decide_eq_false_iff_not, beq_iff_eq, beq_eq_false_iff_ne, bne_iff_ne, bne_eq_false_iff_eq, ne_eq, not_false_eq_true, not_true_eq_false, Bool.not_eq_true, Bool.not_eq_true', Bool.not_eq_false', Int.not_lt, Int.not_le] at hb) <;> (try simp (disch := omega) only [wrapI] at hb) <;> (try (exfalso; omega))) | fail)))
      all_goals (conv => whnf)
      all_goals (rw [e])
end Go.Ab.V
