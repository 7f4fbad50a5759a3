/-
  What is proved here serves the law's text: each part says its own claim and its conditions. No condition is left open.
-/
import Derived.Test.YtffdekbcpnklnaaKT
import Derived.Test.YtffdekbcpnklnaaKM
set_option linter.unusedSimpArgs false
set_option linter.unusedVariables false

/-
  The law Meetings. No condition but the lengths.
-/
namespace Go.Ab.V
open Go.Proofs

theorem meetP_len (u l : List Tn) : ∀ (T : List Int) (o : Option (Int × Int)), (meetP u l o T).length ≤ T.length
  | [], o => by simp [meetP]
  | t :: r, o => by
    rw [meetP]
    split
    · have := meetP_len u l r o; simp; omega
    · have := meetP_len u l r (some (atR u t, atR l t)); simp; omega
theorem meets_len (u l : List Tn) : (meets u l).length ≤ u.length + l.length := by
  unfold meets
  have h1 := meetP_len u l (mrg (u.map (·.f)) (l.map (·.f))) none
  have h2 := mrg_len (u.map (·.f)) (l.map (·.f))
  simp only [List.length_map] at h2
  omega
theorem meetV_or (u l : List Tn) : (∃ e, e ≠ 0 ∧ meetV u l = .tup [.nils, .int .i64 e]) ∨ (u.length ≤ 400 ∧ good 0 u ∧ l.length ≤ 400 ∧ good 0 l ∧ meetV u l = .tup [mtsA (meets u l), .int .i64 0]) := by
  unfold meetV
  by_cases c1 : chkP [u] ≠ 0
  · rw [if_pos c1]; exact .inl ⟨_, c1, rfl⟩
  rw [if_neg c1]
  by_cases c2 : chkP [l] ≠ 0
  · rw [if_pos c2]; exact .inl ⟨_, c2, rfl⟩
  rw [if_neg c2]
  have g1 := chk1 (p := u) (by omega)
  have g2 := chk1 (p := l) (by omega)
  exact .inr ⟨g1.1, g1.2, g2.1, g2.2, rfl⟩
def A11 : Ann := fun _ => {}
set_option maxHeartbeats 4000000 in
set_option maxRecDepth 100000 in
theorem law_meetings (u l : List Tn) (nu : u.length ≤ 9223372036854775807) (nl : l.length ≤ 9223372036854775807) : ACalls C.P 11 [tnsA u, tnsA l] Heap.nil fun r _ => r = .bool true := by
  have a1 := meet40 u l nu nl
  have a2 := refMeet41 u l nu nl
  rcases meetV_or u l with ⟨e, he, hv⟩ | ⟨g1, _, g2, _, hv⟩
  · rw [hv] at a1 a2
    refine fn_of ok mixed (A := A11) 0 Try.func11 rfl ?_
    (repeat' (first | exact rfl | ((conv => whnf); first | refine ⟨_, a1, ?_⟩ | refine ⟨_, a2, ?_⟩ | refine ⟨_, works_spec, ?_⟩ | refine loopU ok mixed (A := fun _ => {}) 100 ?_ | exact rfl | exact ⟨rfl, rfl⟩ | refine ⟨(by kernel_rfl : drawOk _ _ _ _ = true), ?_⟩ | refine ⟨(by kernel_rfl : planOk _ _ _ _ = true), ?_⟩ | refine ⟨rfl, ?_⟩ | refine ⟨by (first | omega | (simp (disch := omega) only [wrapI]; omega) | (simp (disch := omega) only [wrapI]; simp; omega) | (simp; omega)), ?_⟩ | (intro ep) | (refine ifB (fun hb => ?_) (fun hb => ?_) <;> (try simp only [decide_eq_true_eq, decide_eq_false_iff_not, beq_iff_eq, beq_eq_false_iff_ne, bne_iff_ne, bne_eq_false_iff_eq, ne_eq, not_false_eq_true, not_true_eq_false, Bool.not_eq_true, Bool.not_eq_true', Bool.not_eq_false', Int.not_lt, Int.not_le] at hb) <;> (try simp (disch := omega) only [wrapI] at hb) <;> (try (exfalso; omega))) | fail)))
  · have hl := meets_len u l
    rw [hv] at a1 a2
    generalize meets u l = R at hv a1 a2 hl
    refine fn_of ok mixed (A := A11) 0 Try.func11 rfl ?_
    (repeat' (first | exact rfl | ((conv => whnf); first | refine ⟨_, a1, ?_⟩ | refine ⟨_, a2, ?_⟩ | refine ⟨_, works_spec, ?_⟩ | exact rfl | exact ⟨rfl, rfl⟩ | refine ⟨(by kernel_rfl : drawOk _ _ _ _ = true), ?_⟩ | refine ⟨(by kernel_rfl : planOk _ _ _ _ = true), ?_⟩ | refine ⟨rfl, ?_⟩ | refine ⟨by (first | omega | (simp (disch := omega) only [wrapI]; omega) | (simp (disch := omega) only [wrapI]; simp; omega) | (simp; omega)), ?_⟩ | (intro ep) | (refine ifB (fun hb => ?_) (fun hb => ?_) <;> (try simp only [decide_eq_true_eq, decide_eq_false_iff_not, beq_iff_eq, beq_eq_false_iff_ne, bne_iff_ne, bne_eq_false_iff_eq, ne_eq, not_false_eq_true, not_true_eq_false, Bool.not_eq_true, Bool.not_eq_true', Bool.not_eq_false', Int.not_lt, Int.not_le] at hb) <;> (try simp (disch := omega) only [wrapI] at hb) <;> (try (exfalso; omega))) | fail)))
    all_goals (conv => whnf)
    refine loopY ok mixed (A := A11) [5, 7, 9] [] (S := { k : Nat // k ≤ R.length })
      (fr := fun s => frOf 0 48 [(5, mtsA R), (7, mtsA R), (9, .int .i64 (s.1 : Int))])
      (h := fun s => ⟨[], []⟩) (μ := fun s => R.length - s.1) ⟨0, by omega⟩ ?_ ?_
      [] [] (S' := Unit) (X := fun _ => 0) (frX := fun s => frOf 0 48 []) (hX := fun s => ⟨[], []⟩)
      [] [] (S2 := Empty) (frR := fun s => frOf 0 48 []) (hR := fun s => ⟨[], []⟩) ?_ ?_ ?_
    · exact rfl
    · exact rfl
    · rintro ⟨k, hk⟩
      show aexR _ _ _ (frOf 0 48 [(5, mtsA R), (7, mtsA R), (9, .int .i64 (k : Int))]) ⟨[], []⟩ _
      (conv => whnf)
      refine ifB (fun g1 => ?_) (fun g1 => ?_)
      · simp only [decide_eq_true_eq] at g1
        have hlt : k < R.length := by omega
        have hm := mapR (f := mtR) hlt
        generalize R[k] = x at hm
        obtain ⟨x1, x2, x3⟩ := x
        (repeat' (first | exact rfl | ((conv => whnf); first | refine optS hm ?_ | exact rfl | exact ⟨rfl, rfl⟩ | refine ⟨(by kernel_rfl : drawOk _ _ _ _ = true), ?_⟩ | refine ⟨(by kernel_rfl : planOk _ _ _ _ = true), ?_⟩ | refine ⟨rfl, ?_⟩ | refine ⟨by (first | omega | (simp (disch := omega) only [wrapI]; omega) | (simp (disch := omega) only [wrapI]; simp; omega) | (simp; omega)), ?_⟩ | (intro ep) | fail)))
        all_goals (conv => whnf)
        refine ifB (fun hb => ?_) (fun hb => ?_)
        · exfalso; simp at hb
        (repeat' (first | exact rfl | ((conv => whnf); first | exact rfl | exact ⟨rfl, rfl⟩ | refine ⟨(by kernel_rfl : drawOk _ _ _ _ = true), ?_⟩ | refine ⟨(by kernel_rfl : planOk _ _ _ _ = true), ?_⟩ | refine ⟨rfl, ?_⟩ | refine ⟨by (first | omega | (simp (disch := omega) only [wrapI]; omega) | (simp (disch := omega) only [wrapI]; simp; omega) | (simp; omega)), ?_⟩ | (intro ep) | fail)))
        all_goals (conv => whnf)
        exact back_of ⟨k + 1, by omega⟩ ⟨by (first | exact rfl | (simp (disch := omega) only [wrapI]; exact rfl)), rfl, by simp only; omega⟩
      · simp only [decide_eq_false_iff_not] at g1
        (repeat' (first | exact rfl | ((conv => whnf); first | exact rfl | exact ⟨rfl, rfl⟩ | refine ⟨(by kernel_rfl : drawOk _ _ _ _ = true), ?_⟩ | refine ⟨(by kernel_rfl : planOk _ _ _ _ = true), ?_⟩ | refine ⟨rfl, ?_⟩ | refine ⟨by (first | omega | (simp (disch := omega) only [wrapI]; omega) | (simp (disch := omega) only [wrapI]; simp; omega) | (simp; omega)), ?_⟩ | (intro ep) | fail)))
        all_goals (conv => whnf)
        exact back_of () ⟨rfl, rfl, rfl⟩
    · rintro ⟨⟩
    · rintro ⟨⟩
      (repeat' (first | exact rfl | ((conv => whnf); first | refine ⟨_, works_spec, ?_⟩ | exact rfl | exact ⟨rfl, rfl⟩ | refine ⟨(by kernel_rfl : drawOk _ _ _ _ = true), ?_⟩ | refine ⟨(by kernel_rfl : planOk _ _ _ _ = true), ?_⟩ | refine ⟨rfl, ?_⟩ | refine ⟨by (first | omega | (simp (disch := omega) only [wrapI]; omega) | (simp (disch := omega) only [wrapI]; simp; omega) | (simp; omega)), ?_⟩ | (intro ep) | (refine ifB (fun hb => ?_) (fun hb => ?_) <;> (try simp only [decide_eq_true_eq, decide_eq_false_iff_not, beq_iff_eq, beq_eq_false_iff_ne, bne_iff_ne, bne_eq_false_iff_eq, ne_eq, not_false_eq_true, not_true_eq_false, Bool.not_eq_true, Bool.not_eq_true', Bool.not_eq_false', Int.not_lt, Int.not_le] at hb) <;> (try simp (disch := omega) only [wrapI] at hb) <;> (try (exfalso; omega))) | fail)))
end Go.Ab.V

/-
  Meetings exchanged: plain laws, and the pitch at a time. No condition but the lengths.
-/
namespace Go.Ab.V
open Go.Proofs

theorem mot_comm (a b : Int) : mot a b = mot b a := by
  unfold mot
  by_cases h1 : a = 0 <;> by_cases h2 : b = 0 <;> by_cases h3 : 0 < a <;> by_cases h4 : 0 < b <;> by_cases h5 : a = b <;> simp_all <;> omega
def exM (m : Mt) : Mt := ⟨m.tm, -m.iv, m.mo⟩
theorem meetP_ex (u l : List Tn) : ∀ (T : List Int) (o : Option (Int × Int)), meetP l u (o.map fun p => (p.2, p.1)) T = (meetP u l o T).map exM
  | [], o => by simp [meetP]
  | t :: r, o => by
    rw [meetP, meetP]
    by_cases c : atR u t < 0 ∨ atR l t < 0
    · rw [if_pos c, if_pos (by omega), meetP_ex u l r o]
    · rw [if_neg c, if_neg (by omega), List.map_cons, ← meetP_ex u l r (some (atR u t, atR l t))]
      have h : movO (o.map fun p => (p.2, p.1)) (atR l t) (atR u t) = movO o (atR u t) (atR l t) := by
        cases o with
        | none => rfl
        | some p => exact mot_comm _ _
      rw [h]
      unfold exM
      simp only [Option.map_some]
      rw [show atR l t - atR u t = -(atR u t - atR l t) by omega]
theorem mrg_comm {a b : List Int} (ha : inc a) (hb : inc b) : mrg a b = mrg b a :=
  inc_ext (mrg_inc _ _ ha hb) (mrg_inc _ _ hb ha) fun x => by rw [mrg_mem, mrg_mem]; exact Or.comm
theorem meets_ex {u l : List Tn} (hu : good 0 u) (hl : good 0 l) : meets l u = (meets u l).map exM := by
  unfold meets
  rw [mrg_comm (good_inc hl).1 (good_inc hu).1]
  exact meetP_ex u l _ none
theorem meetP_mem (u l : List Tn) : ∀ (T : List Int) (o : Option (Int × Int)), ∀ m ∈ meetP u l o T, m.tm ∈ T ∧ 0 ≤ atR u m.tm ∧ 0 ≤ atR l m.tm ∧ m.iv = atR u m.tm - atR l m.tm
  | [], o, m, h => by simp [meetP] at h
  | t :: r, o, m, h => by
    rw [meetP] at h
    split at h
    · have := meetP_mem u l r o m h
      exact ⟨by simp [this.1], this.2⟩
    · rcases List.mem_cons.1 h with rfl | h
      · exact ⟨by simp, by simp only; omega, by simp only; omega, rfl⟩
      · have := meetP_mem u l r _ m h
        exact ⟨by simp [this.1], this.2⟩
theorem meetP_asc (u l : List Tn) : ∀ (T : List Int) (o : Option (Int × Int)), inc T → ∀ (i : Nat) (h : i + 1 < (meetP u l o T).length), (meetP u l o T)[i].tm < (meetP u l o T)[i + 1].tm
  | [], o, _, i, h => by simp [meetP] at h
  | t :: r, o, ht, i, h => by
    by_cases c : atR u t < 0 ∨ atR l t < 0
    · have e : meetP u l o (t :: r) = meetP u l o r := by rw [meetP, if_pos c]
      simp only [e] at h ⊢
      exact meetP_asc u l r o ht.2 i h
    · have e : meetP u l o (t :: r) = ⟨t, atR u t - atR l t, movO o (atR u t) (atR l t)⟩ :: meetP u l (some (atR u t, atR l t)) r := by rw [meetP, if_neg c]
      simp only [e] at h ⊢
      simp only [List.length_cons] at h
      cases i with
      | zero =>
        simp only [List.getElem_cons_zero, List.getElem_cons_succ]
        exact ht.1 _ (meetP_mem u l r _ _ (List.getElem_mem (by omega))).1
      | succ i =>
        simp only [List.getElem_cons_succ]
        exact meetP_asc u l r _ ht.2 i (by omega)
def A42 : Ann := fun r => match r with
  | 3 => { slots := [(2, 0)] }
  | _ => {}
set_option maxHeartbeats 8000000 in
set_option maxRecDepth 100000 in
theorem pitch42 (l : List Tn) (t : Int) (hl : l.length ≤ 9223372036854775807) : PRet C.P 42 [tnsA l, .int .i64 t] (.int .i64 (atR l t)) := by
  obtain ⟨R, hR⟩ : ∃ R, R = atR l t := ⟨_, rfl⟩
  rw [← hR]
  refine pret_of ok mixed (A := A42) 1 Try.func42 rfl ?_
  (repeat' (first | exact rfl | ((conv => whnf); first | exact rfl | exact ⟨rfl, rfl⟩ | refine ⟨(by kernel_rfl : drawOk _ _ _ _ = true), ?_⟩ | refine ⟨(by kernel_rfl : planOk _ _ _ _ = true), ?_⟩ | refine ⟨rfl, ?_⟩ | refine ⟨by (first | omega | (simp (disch := omega) only [wrapI]; omega) | (simp (disch := omega) only [wrapI]; simp; omega) | (simp; omega)), ?_⟩ | (intro ep) | (refine ifB (fun hb => ?_) (fun hb => ?_) <;> (try simp only [decide_eq_true_eq, decide_eq_false_iff_not, beq_iff_eq, beq_eq_false_iff_ne, bne_iff_ne, bne_eq_false_iff_eq, ne_eq, not_false_eq_true, not_true_eq_false, Bool.not_eq_true, Bool.not_eq_true', Bool.not_eq_false', Int.not_lt, Int.not_le] at hb) <;> (try simp (disch := omega) only [wrapI] at hb) <;> (try (exfalso; omega))) | fail)))
  all_goals (conv => whnf)
  refine loopY ok mixed (A := A42) [1, 7, 8, 9] [] (S := { k : Nat // k ≤ l.length ∧ atR (l.drop k) t = R })
    (fr := fun s => frOf 0 26 [(1, .int .i64 t), (7, tnsA l), (8, .int .i64 (l.length : Int)), (9, .int .i64 (s.1 : Int))])
    (h := fun s => ⟨[.hole], []⟩) (μ := fun s => l.length - s.1) ⟨0, by simp [hR]⟩ ?_ ?_
    [] [] (S' := { k : Nat // -1 = R }) (X := fun _ => 0) (frX := fun s => frOf 0 26 []) (hX := fun s => ⟨[.hole], []⟩)
    [4] [] (S2 := Unit) (frR := fun s => frOf 0 26 [(4, .int .i64 R)]) (hR := fun s => ⟨[.hole], []⟩) ?_ ?_ ?_
  · exact rfl
  · exact rfl
  · rintro ⟨k, hk, hu⟩
    show aexR _ _ _ (frOf 0 26 [(1, .int .i64 t), (7, tnsA l), (8, .int .i64 (l.length : Int)), (9, .int .i64 (k : Int))]) ⟨[.hole], []⟩ _
    (conv => whnf)
    refine ifB (fun g1 => ?_) (fun g1 => ?_)
    · simp only [decide_eq_true_eq] at g1
      have h1 : k < l.length := by omega
      have hx := mapR (f := tnR) h1
      rw [List.drop_eq_getElem_cons h1, atR] at hu
      generalize l[k] = x at hx hu
      by_cases c1 : x.f ≤ t ∧ t < x.t
      · rw [if_pos c1] at hu
        obtain ⟨c1, c2⟩ := c1
        (repeat' (first | exact rfl | ((conv => whnf); first | refine optS hx ?_ | exact rfl | exact ⟨rfl, rfl⟩ | refine ⟨(by kernel_rfl : drawOk _ _ _ _ = true), ?_⟩ | refine ⟨(by kernel_rfl : planOk _ _ _ _ = true), ?_⟩ | refine ⟨rfl, ?_⟩ | refine ⟨by (first | omega | (simp (disch := omega) only [wrapI]; omega) | (simp (disch := omega) only [wrapI]; simp; omega) | (simp; omega)), ?_⟩ | (intro ep) | (refine ifB (fun hb => ?_) (fun hb => ?_) <;> (try simp only [decide_eq_true_eq, decide_eq_false_iff_not, beq_iff_eq, beq_eq_false_iff_ne, bne_iff_ne, bne_eq_false_iff_eq, ne_eq, not_false_eq_true, not_true_eq_false, Bool.not_eq_true, Bool.not_eq_true', Bool.not_eq_false', Int.not_lt, Int.not_le] at hb) <;> (try simp (disch := omega) only [wrapI] at hb) <;> (try (exfalso; omega))) | fail)))
        all_goals (conv => whnf)
        all_goals exact back_of () ⟨by rw [← hu]; rfl, rfl⟩
      · rw [if_neg c1] at hu
        by_cases c2 : x.f ≤ t
        · have c3 : ¬ t < x.t := fun h => c1 ⟨c2, h⟩
          (repeat' (first | exact rfl | ((conv => whnf); first | refine optS hx ?_ | exact rfl | exact ⟨rfl, rfl⟩ | refine ⟨(by kernel_rfl : drawOk _ _ _ _ = true), ?_⟩ | refine ⟨(by kernel_rfl : planOk _ _ _ _ = true), ?_⟩ | refine ⟨rfl, ?_⟩ | refine ⟨by (first | omega | (simp (disch := omega) only [wrapI]; omega) | (simp (disch := omega) only [wrapI]; simp; omega) | (simp; omega)), ?_⟩ | (intro ep) | (refine ifB (fun hb => ?_) (fun hb => ?_) <;> (try simp only [decide_eq_true_eq, decide_eq_false_iff_not, beq_iff_eq, beq_eq_false_iff_ne, bne_iff_ne, bne_eq_false_iff_eq, ne_eq, not_false_eq_true, not_true_eq_false, Bool.not_eq_true, Bool.not_eq_true', Bool.not_eq_false', Int.not_lt, Int.not_le] at hb) <;> (try simp (disch := omega) only [wrapI] at hb) <;> (try (exfalso; omega))) | fail)))
          all_goals (conv => whnf)
          all_goals exact back_of ⟨k + 1, by omega, hu⟩ ⟨by (first | exact rfl | (simp (disch := omega) only [wrapI]; exact rfl)), rfl, by simp only; omega⟩
        · (repeat' (first | exact rfl | ((conv => whnf); first | refine optS hx ?_ | exact rfl | exact ⟨rfl, rfl⟩ | refine ⟨(by kernel_rfl : drawOk _ _ _ _ = true), ?_⟩ | refine ⟨(by kernel_rfl : planOk _ _ _ _ = true), ?_⟩ | refine ⟨rfl, ?_⟩ | refine ⟨by (first | omega | (simp (disch := omega) only [wrapI]; omega) | (simp (disch := omega) only [wrapI]; simp; omega) | (simp; omega)), ?_⟩ | (intro ep) | (refine ifB (fun hb => ?_) (fun hb => ?_) <;> (try simp only [decide_eq_true_eq, decide_eq_false_iff_not, beq_iff_eq, beq_eq_false_iff_ne, bne_iff_ne, bne_eq_false_iff_eq, ne_eq, not_false_eq_true, not_true_eq_false, Bool.not_eq_true, Bool.not_eq_true', Bool.not_eq_false', Int.not_lt, Int.not_le] at hb) <;> (try simp (disch := omega) only [wrapI] at hb) <;> (try (exfalso; omega))) | fail)))
          all_goals (conv => whnf)
          all_goals exact back_of ⟨k + 1, by omega, hu⟩ ⟨by (first | exact rfl | (simp (disch := omega) only [wrapI]; exact rfl)), rfl, by simp only; omega⟩
    · simp only [decide_eq_false_iff_not] at g1
      rw [List.drop_eq_nil_of_le (by omega), atR] at hu
      (repeat' (first | exact rfl | ((conv => whnf); first | exact rfl | exact ⟨rfl, rfl⟩ | refine ⟨(by kernel_rfl : drawOk _ _ _ _ = true), ?_⟩ | refine ⟨(by kernel_rfl : planOk _ _ _ _ = true), ?_⟩ | refine ⟨rfl, ?_⟩ | refine ⟨by (first | omega | (simp (disch := omega) only [wrapI]; omega) | (simp (disch := omega) only [wrapI]; simp; omega) | (simp; omega)), ?_⟩ | (intro ep) | fail)))
      all_goals (conv => whnf)
      exact back_of ⟨0, hu⟩ ⟨rfl, rfl, rfl⟩
  · rintro ⟨⟩
    (repeat' (first | exact rfl | ((conv => whnf); first | exact rfl | exact ⟨rfl, rfl⟩ | refine ⟨(by kernel_rfl : drawOk _ _ _ _ = true), ?_⟩ | refine ⟨(by kernel_rfl : planOk _ _ _ _ = true), ?_⟩ | refine ⟨rfl, ?_⟩ | refine ⟨by (first | omega | (simp (disch := omega) only [wrapI]; omega) | (simp (disch := omega) only [wrapI]; simp; omega) | (simp; omega)), ?_⟩ | (intro ep) | fail)))
    all_goals (conv => whnf)
    all_goals exact ⟨rfl, rfl⟩
  · rintro ⟨x, hx⟩
    (repeat' (first | exact rfl | ((conv => whnf); first | exact rfl | exact ⟨rfl, rfl⟩ | refine ⟨(by kernel_rfl : drawOk _ _ _ _ = true), ?_⟩ | refine ⟨(by kernel_rfl : planOk _ _ _ _ = true), ?_⟩ | refine ⟨rfl, ?_⟩ | refine ⟨by (first | omega | (simp (disch := omega) only [wrapI]; omega) | (simp (disch := omega) only [wrapI]; simp; omega) | (simp; omega)), ?_⟩ | (intro ep) | fail)))
    all_goals (conv => whnf)
    all_goals (subst hx; rfl)
end Go.Ab.V
