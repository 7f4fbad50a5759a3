/-
  What is proved here serves the law's text: each part says its own claim and its conditions. No condition is left open.
-/
import Derived.Test.YtgnhnapnjmbieaaKG
set_option linter.unusedSimpArgs false
set_option linter.unusedVariables false

/-
  The signs of a number add up to it, descend, and are the fewest; which numbers have signs. No condition.
-/
namespace Go.Ab.V
open Go.Proofs

def sumK : List Nat → Nat
  | [] => 0
  | k :: l => tkN k + sumK l
theorem sumK_snoc (l : List Nat) (k : Nat) : sumK (l ++ [k]) = sumK l + tkN k := by
  induction l with
  | nil => simp [sumK]
  | cons a l ih => simp only [List.cons_append, sumK, ih]; omega
theorem sigK_all (n : Nat) : 0 ≤ fw n → sumK (sigK n) = n ∧ ((sigK n).length : Int) = fw n ∧ (∀ i (h : i + 1 < (sigK n).length), tkN ((sigK n)[i + 1]) ≤ tkN ((sigK n)[i])) := by
  induction n using Nat.strongRecOn with
  | _ n ih =>
  intro hw
  by_cases h0 : n = 0
  · subst h0
    refine ⟨rfl, rfl, fun i h => ?_⟩
    simp [sigK_zero] at h
  obtain ⟨n1, n2⟩ := nxt_spec hw h0
  obtain ⟨q1, q2, q3⟩ := fw_nxt hw h0
  obtain ⟨p1, p2, p3⟩ := tkN_pos n1
  have hs := sigK_step hw h0
  obtain ⟨i1, i2, i3⟩ := ih (n - tkN (nxt n)) (by omega) q3
  refine ⟨by rw [hs, sumK, i1]; omega, by rw [hs, List.length_cons, Int.natCast_add, i2, q2]; simp, ?_⟩
  intro i h
  have key : ∀ (l : List Nat), l = nxt n :: sigK (n - tkN (nxt n)) → ∀ h : i + 1 < l.length, tkN (l[i + 1]) ≤ tkN (l[i]) := by
    rintro l rfl h
    cases i with
    | succ j => simp only [List.getElem_cons_succ]; exact i3 j (by simpa using h)
    | zero =>
      by_cases h1 : n - tkN (nxt n) = 0
      · rw [h1, sigK_zero] at h; simp at h
      have hs2 := sigK_step q3 h1
      have hm := nxt_mono hw h0 h1
      have := tk_desc hm (nxt_spec q3 h1).1
      simp only [List.getElem_cons_succ, List.getElem_cons_zero]
      have e : ∀ (l : List Nat), l = nxt (n - tkN (nxt n)) :: sigK (n - tkN (nxt n) - tkN (nxt (n - tkN (nxt n)))) → ∀ h : 0 < l.length, l[0] = nxt (n - tkN (nxt n)) := by
        rintro l rfl h; rfl
      rw [e _ hs2]
      exact this
  exact key _ hs h

theorem fw_add (b : Nat) (hb : 0 ≤ fw b) (a : Nat) : 0 ≤ fw a → 0 ≤ fw (a + b) ∧ fw (a + b) ≤ fw a + fw b := by
  induction a using Nat.strongRecOn with
  | _ a ih =>
  intro ha
  by_cases h0 : a = 0
  · subst h0; rw [Nat.zero_add, fw_zero]; omega
  obtain ⟨t, ht, h1, h2, h3⟩ := fw_step ha h0
  have hp := tkL_pos t ht
  obtain ⟨i1, i2⟩ := ih ((a : Int) - t).toNat (by omega) h2
  have e : ((a : Int) - t).toNat + b = (((a + b : Nat) : Int) - t).toNat := by omega
  rw [e] at i1 i2
  obtain ⟨j1, j2⟩ := fw_le (n := a + b) ht (by omega) i1
  exact ⟨j1, by omega⟩

theorem fw_small : ∀ n, n < 16 → (0 ≤ fw n ↔ (n ≠ 1 ∧ n ≠ 2 ∧ n ≠ 3 ∧ n ≠ 5 ∧ n ≠ 7 ∧ n ≠ 11)) := by decide +kernel
theorem fw_iff (n : Nat) : 0 ≤ fw n ↔ (n ≠ 1 ∧ n ≠ 2 ∧ n ≠ 3 ∧ n ≠ 5 ∧ n ≠ 7 ∧ n ≠ 11) := by
  induction n using Nat.strongRecOn with
  | _ n ih =>
  by_cases h : n < 16
  · exact fw_small n h
  have i := (ih (n - 4) (by omega)).2 (by omega)
  have := (fw_le (n := n) (t := 4) (by decide) (by omega) (by rw [show ((n : Int) - 4).toNat = n - 4 by omega]; exact i)).1
  exact ⟨fun _ => by omega, fun _ => this⟩

theorem outR_get {n i : Nat} (h : 0 ≤ fw n) (hi : i < (sigK n).length) : ∃ v d t, (outR (sigK n))[0 + ((i : Nat) : Int).toNat]? = some [.int .i64 v, .bool d, .bool t] ∧ ticks v d t = (tkN ((sigK n)[i]) : Int) := by
  have hk := sigK_lt h _ (List.getElem_mem hi)
  obtain ⟨v, d, t, e1, e2, e3⟩ := tkL_get hk
  refine ⟨v, d, t, ?_, by rw [e3, (tkN_pos hk).2.2]⟩
  rw [Nat.zero_add, Int.toNat_natCast, outR, List.getElem?_map, List.getElem?_eq_getElem hi]
  exact congrArg some e2

def A6 : Ann := fun _ => {}
end Go.Ab.V

/-
  The law PieceSignsAdd is true at every input.
-/
namespace Go.Ab.V
open Go.Proofs

theorem signs_any (n : Nat) (hn : n ≤ 4608) : (fw n < 0 ∧ PRet C.P 29 [.int .i64 n] (.tup [.nils, .int .i64 25])) ∨ (0 ≤ fw n ∧ PRet C.P 29 [.int .i64 n] (.tup [.lslc 3 (outR (sigK n)) 0 (sigK n).length false, .int .i64 0])) := by
  have h := signs_spec n hn
  unfold sigV at h
  by_cases g : fw n < 0
  · rw [if_pos g] at h; exact .inl ⟨g, h⟩
  · rw [if_neg g] at h; exact .inr ⟨by omega, h⟩

theorem law_add_bad (a b : Int) (ha : -9223372036854775808 ≤ a ∧ a ≤ 9223372036854775807) (hbb : -9223372036854775808 ≤ b ∧ b ≤ 9223372036854775807) (h : a < 0 ∨ b < 0 ∨ 4608 < a ∨ 4608 - a < b) :
    ACalls C.P 6 [.int .i64 a, .int .i64 b] Heap.nil fun r _ => r = .bool true := by
  refine fn_of ok mixed (A := A6) 0 Try.func6 rfl ?_
  (repeat' (first | exact rfl | ((conv => whnf); first | exact rfl | refine ⟨by kernel_rfl, ?_⟩ | exact ⟨rfl, rfl⟩ | refine ⟨rfl, ?_⟩ | refine ⟨by (first | omega | (simp (disch := omega) only [wrapI]; omega) | (simp (disch := omega) only [wrapI]; simp; omega) | (simp; omega)), ?_⟩ | (intro ep) | refine ⟨_, works_spec, ?_⟩ | (refine ifB (fun hb => ?_) (fun hb => ?_) <;> (try simp only [decide_eq_true_eq, decide_eq_false_iff_not, beq_iff_eq, beq_eq_false_iff_ne, bne_iff_ne, bne_eq_false_iff_eq, ne_eq, not_false_eq_true, not_true_eq_false, Bool.not_eq_true, Bool.not_eq_true', Bool.not_eq_false', Int.not_lt, Int.not_le] at hb) <;> (try simp (disch := omega) only [wrapI] at hb) <;> (try (exfalso; omega))) | fail)))

set_option maxHeartbeats 4000000 in
set_option maxRecDepth 100000 in
theorem law_add_ok (a b : Nat) (hab : a + b ≤ 4608) : ACalls C.P 6 [.int .i64 a, .int .i64 b] Heap.nil fun r _ => r = .bool true := by
  have hw : IntKind.i64.wrap ((a : Int) + b) = ((a + b : Nat) : Int) := by rw [IntWalk.i64_in _ (by omega)]; rfl
  have hi := fw_iff (a + b)
  rcases signs_any (a + b) hab with ⟨g, hn⟩ | ⟨g, hn⟩
  · rw [← hw] at hn
    have hno : ¬ (0 ≤ fw a ∧ 0 ≤ fw b) := fun h => by have := (fw_add b h.2 a h.1).1; omega
    have hodd : a + b = 1 ∨ a + b = 2 ∨ a + b = 3 ∨ a + b = 5 ∨ a + b = 7 ∨ a + b = 11 := by
      have : ¬ (0 ≤ fw (a + b)) := by omega
      rw [hi] at this; omega
    rcases signs_any a (by omega) with ⟨ga, h1⟩ | ⟨ga, h1⟩
    · rcases signs_any b (by omega) with ⟨gb, h2⟩ | ⟨gb, h2⟩
      · refine fn_of ok mixed (A := A6) 0 Try.func6 rfl ?_
        (repeat' (first | exact rfl | ((conv => whnf); first | exact rfl | refine ⟨by kernel_rfl, ?_⟩ | exact ⟨rfl, rfl⟩ | refine ⟨rfl, ?_⟩ | refine ⟨by (first | omega | (simp (disch := omega) only [wrapI]; omega) | (simp (disch := omega) only [wrapI]; simp; omega) | (simp; omega)), ?_⟩ | (intro ep) | refine ⟨_, hn, ?_⟩ | refine ⟨_, h1, ?_⟩ | refine ⟨_, h2, ?_⟩ | refine ⟨_, works_spec, ?_⟩ | refine loopU ok mixed (A := A6) 2 ?_ | (refine ifB (fun hb => ?_) (fun hb => ?_) <;> (try simp only [decide_eq_true_eq, decide_eq_false_iff_not, beq_iff_eq, beq_eq_false_iff_ne, bne_iff_ne, bne_eq_false_iff_eq, ne_eq, not_false_eq_true, not_true_eq_false, Bool.not_eq_true, Bool.not_eq_true', Bool.not_eq_false', Int.not_lt, Int.not_le] at hb) <;> (try simp (disch := omega) only [wrapI] at hb) <;> (try (exfalso; omega))) | fail)))
        all_goals (exfalso; have e : ((a : Int) + b) = 11 := by omega)
        all_goals (rw [e] at hb; exact hb rfl)
      · refine fn_of ok mixed (A := A6) 0 Try.func6 rfl ?_
        (repeat' (first | exact rfl | ((conv => whnf); first | exact rfl | refine ⟨by kernel_rfl, ?_⟩ | exact ⟨rfl, rfl⟩ | refine ⟨rfl, ?_⟩ | refine ⟨by (first | omega | (simp (disch := omega) only [wrapI]; omega) | (simp (disch := omega) only [wrapI]; simp; omega) | (simp; omega)), ?_⟩ | (intro ep) | refine ⟨_, hn, ?_⟩ | refine ⟨_, h1, ?_⟩ | refine ⟨_, h2, ?_⟩ | refine ⟨_, works_spec, ?_⟩ | refine loopU ok mixed (A := A6) 2 ?_ | (refine ifB (fun hb => ?_) (fun hb => ?_) <;> (try simp only [decide_eq_true_eq, decide_eq_false_iff_not, beq_iff_eq, beq_eq_false_iff_ne, bne_iff_ne, bne_eq_false_iff_eq, ne_eq, not_false_eq_true, not_true_eq_false, Bool.not_eq_true, Bool.not_eq_true', Bool.not_eq_false', Int.not_lt, Int.not_le] at hb) <;> (try simp (disch := omega) only [wrapI] at hb) <;> (try (exfalso; omega))) | fail)))
        all_goals (exfalso; have e : ((a : Int) + b) = 11 := by omega)
        all_goals (rw [e] at hb; exact hb rfl)
    · rcases signs_any b (by omega) with ⟨gb, h2⟩ | ⟨gb, h2⟩
      · refine fn_of ok mixed (A := A6) 0 Try.func6 rfl ?_
        (repeat' (first | exact rfl | ((conv => whnf); first | exact rfl | refine ⟨by kernel_rfl, ?_⟩ | exact ⟨rfl, rfl⟩ | refine ⟨rfl, ?_⟩ | refine ⟨by (first | omega | (simp (disch := omega) only [wrapI]; omega) | (simp (disch := omega) only [wrapI]; simp; omega) | (simp; omega)), ?_⟩ | (intro ep) | refine ⟨_, hn, ?_⟩ | refine ⟨_, h1, ?_⟩ | refine ⟨_, h2, ?_⟩ | refine ⟨_, works_spec, ?_⟩ | refine loopU ok mixed (A := A6) 2 ?_ | (refine ifB (fun hb => ?_) (fun hb => ?_) <;> (try simp only [decide_eq_true_eq, decide_eq_false_iff_not, beq_iff_eq, beq_eq_false_iff_ne, bne_iff_ne, bne_eq_false_iff_eq, ne_eq, not_false_eq_true, not_true_eq_false, Bool.not_eq_true, Bool.not_eq_true', Bool.not_eq_false', Int.not_lt, Int.not_le] at hb) <;> (try simp (disch := omega) only [wrapI] at hb) <;> (try (exfalso; omega))) | fail)))
        all_goals (exfalso; have e : ((a : Int) + b) = 11 := by omega)
        all_goals (rw [e] at hb; exact hb rfl)
      · exact absurd ⟨ga, gb⟩ hno
  · rw [← hw] at hn
    have hne : a + b ≠ 1 ∧ a + b ≠ 2 ∧ a + b ≠ 3 ∧ a + b ≠ 5 ∧ a + b ≠ 7 ∧ a + b ≠ 11 := hi.1 g
    have hfb := fw_bd (a + b)
    obtain ⟨l, hn, k1, k2, k3, hget⟩ : ∃ l : List Nat, PRet C.P 29 [AV.int IntKind.i64 (IntKind.i64.wrap (↑a + ↑b))] (.tup [.lslc 3 (outR l) 0 l.length false, .int .i64 0]) ∧ sumK l = a + b ∧ (l.length : Int) = fw (a + b) ∧
        (∀ i (h : i + 1 < l.length), tkN (l[i + 1]) ≤ tkN (l[i])) ∧
        ∀ i (hi : i < l.length), ∃ v d t, (outR l)[0 + ((i : Nat) : Int).toNat]? = some [.int .i64 v, .bool d, .bool t] ∧ ticks v d t = (tkN (l[i]) : Int) ∧ 4 ≤ tkN (l[i]) ∧ tkN (l[i]) ≤ 576 := by
      obtain ⟨k1, k2, k3⟩ := sigK_all (a + b) g
      refine ⟨sigK (a + b), hn, k1, k2, k3, fun i hi => ?_⟩
      obtain ⟨v, d, t, x, y⟩ := outR_get g hi
      have := tkN_pos (sigK_lt g _ (List.getElem_mem hi))
      exact ⟨v, d, t, x, y, this.1, this.2.1⟩
    have hsum : ∀ i, i ≤ l.length → sumK (l.take i) ≤ 576 * i := by
      intro i
      induction i with
      | zero => intro _; simp [sumK]
      | succ i ih =>
        intro h
        obtain ⟨_, _, _, _, _, _, h4⟩ := hget i (by omega)
        have e : l.take (i + 1) = l.take i ++ [l[i]] := by rw [List.take_add_one, List.getElem?_eq_getElem (by omega)]; rfl
        rw [e, sumK_snoc]
        have := ih (by omega)
        omega
    refine fn_of ok mixed (A := A6) 0 Try.func6 rfl ?_
    (repeat' (first | exact rfl | ((conv => whnf); first | exact rfl | refine ⟨by kernel_rfl, ?_⟩ | exact ⟨rfl, rfl⟩ | refine ⟨rfl, ?_⟩ | refine ⟨by (first | omega | (simp (disch := omega) only [wrapI]; omega) | (simp (disch := omega) only [wrapI]; simp; omega) | (simp; omega)), ?_⟩ | (intro ep) | refine ⟨_, hn, ?_⟩ | (refine ifB (fun hb => ?_) (fun hb => ?_) <;> (try simp only [decide_eq_true_eq, decide_eq_false_iff_not, beq_iff_eq, beq_eq_false_iff_ne, bne_iff_ne, bne_eq_false_iff_eq, ne_eq, not_false_eq_true, not_true_eq_false, Bool.not_eq_true, Bool.not_eq_true', Bool.not_eq_false', Int.not_lt, Int.not_le] at hb) <;> (try simp (disch := omega) only [wrapI] at hb) <;> (try (exfalso; omega))) | fail)))
    (conv => whnf)
    refine loopM ok mixed (A := A6) [0, 1, 5, 6, 7, 8] [] (S := { k : Nat // k ≤ l.length })
      (fr := fun s => frOf 0 139 [(0, .int .i64 a), (1, .int .i64 b), (5, .lslc 3 (outR l) 0 l.length false), (6, .int .i64 0), (7, .int .i64 (sumK (l.take s.1) : Nat)), (8, .int .i64 (s.1 : Int))])
      (h := fun s => ⟨[], []⟩) (μ := fun s => l.length - s.1) ⟨0, by omega⟩ rfl rfl ?_
    rintro ⟨k, hk⟩
    show aexR _ _ _ (frOf 0 139 [(0, .int .i64 a), (1, .int .i64 b), (5, .lslc 3 (outR l) 0 l.length false), (6, .int .i64 0), (7, .int .i64 (sumK (l.take k) : Nat)), (8, .int .i64 (k : Int))]) ⟨[], []⟩ _
    (conv => whnf)
    refine ifB (fun h1 => ?_) (fun h1 => ?_)
    · simp only [decide_eq_true_eq] at h1
      have hlt : k < l.length := by omega
      obtain ⟨v, d, t, m1, m2, m3, m4⟩ := hget k hlt
      have hsk := hsum k hk
      have e : l.take (k + 1) = l.take k ++ [l[k]] := by rw [List.take_add_one, List.getElem?_eq_getElem hlt]; rfl
      have hS : IntKind.i64.wrap (((sumK (l.take k) : Nat) : Int) + ticks v d t) = ((sumK (l.take (k + 1)) : Nat) : Int) := by
        rw [IntWalk.i64_in _ (by omega), e, sumK_snoc, m2]; rfl
      by_cases h0 : k = 0
      · (repeat' (first | exact rfl | ((conv => whnf); first | exact rfl | refine ⟨by kernel_rfl, ?_⟩ | exact ⟨rfl, rfl⟩ | refine ⟨rfl, ?_⟩ | refine ⟨by (first | omega | (simp (disch := omega) only [wrapI]; omega) | (simp (disch := omega) only [wrapI]; simp; omega) | (simp; omega)), ?_⟩ | (intro ep) | refine optS m1 ?_ | refine ⟨_, ticks_spec v d t, ?_⟩ | (refine ifB (fun hb => ?_) (fun hb => ?_) <;> (try simp only [decide_eq_true_eq, decide_eq_false_iff_not, beq_iff_eq, beq_eq_false_iff_ne, bne_iff_ne, bne_eq_false_iff_eq, ne_eq, not_false_eq_true, not_true_eq_false, Bool.not_eq_true, Bool.not_eq_true', Bool.not_eq_false', Int.not_lt, Int.not_le] at hb) <;> (try simp (disch := omega) only [wrapI] at hb) <;> (try (exfalso; omega))) | fail)))
        (conv => whnf)
        refine back_of ⟨k + 1, by omega⟩ ⟨by rw [hS]; (first | exact rfl | (simp (disch := omega) only [wrapI]; exact rfl)), rfl, by simp only; omega⟩
      · obtain ⟨j, rfl⟩ : ∃ j, k = j + 1 := ⟨k - 1, by omega⟩
        obtain ⟨v2, d2, t2, n1, n2, n3, n4⟩ := hget j (by omega)
        have hdd := k3 j hlt
        have wj : IntKind.i64.wrap (((j + 1 : Nat) : Int) - 1) = ((j : Nat) : Int) := by rw [IntWalk.i64_in _ (by omega)]; omega
        rw [← wj] at n1
        (repeat' (first | exact rfl | ((conv => whnf); first | exact rfl | refine ⟨by kernel_rfl, ?_⟩ | exact ⟨rfl, rfl⟩ | refine ⟨rfl, ?_⟩ | refine ⟨by (first | omega | (simp (disch := omega) only [wrapI]; omega) | (simp (disch := omega) only [wrapI]; simp; omega) | (simp; omega)), ?_⟩ | (intro ep) | refine optS m1 ?_ | refine optS n1 ?_ | refine ⟨_, ticks_spec v d t, ?_⟩ | refine ⟨_, ticks_spec v2 d2 t2, ?_⟩ | (refine ifB (fun hb => ?_) (fun hb => ?_) <;> (try simp only [decide_eq_true_eq, decide_eq_false_iff_not, beq_iff_eq, beq_eq_false_iff_ne, bne_iff_ne, bne_eq_false_iff_eq, ne_eq, not_false_eq_true, not_true_eq_false, Bool.not_eq_true, Bool.not_eq_true', Bool.not_eq_false', Int.not_lt, Int.not_le] at hb) <;> (try simp (disch := omega) only [wrapI] at hb) <;> (try (exfalso; omega))) | fail)))
        (conv => whnf)
        refine back_of ⟨j + 1 + 1, by omega⟩ ⟨by rw [hS]; (first | exact rfl | (simp (disch := omega) only [wrapI]; exact rfl)), rfl, by simp only; omega⟩
    · simp only [decide_eq_false_iff_not] at h1
      have e : l.take k = l := List.take_of_length_le (by omega)
      rw [e, k1]
      have hhb : (l.length : Int) ≤ a + b := by omega
      rcases signs_any a (by omega) with ⟨ga, h1⟩ | ⟨ga, h1⟩
      · rcases signs_any b (by omega) with ⟨gb, h2⟩ | ⟨gb, h2⟩
        · (repeat' (first | exact rfl | ((conv => whnf); first | exact rfl | refine ⟨by kernel_rfl, ?_⟩ | exact ⟨rfl, rfl⟩ | refine ⟨rfl, ?_⟩ | refine ⟨by (first | omega | (simp (disch := omega) only [wrapI]; omega) | (simp (disch := omega) only [wrapI]; simp; omega) | (simp; omega)), ?_⟩ | (intro ep) | refine ⟨_, h1, ?_⟩ | refine ⟨_, h2, ?_⟩ | refine ⟨_, works_spec, ?_⟩ | (refine ifB (fun hb => ?_) (fun hb => ?_) <;> (try simp only [decide_eq_true_eq, decide_eq_false_iff_not, beq_iff_eq, beq_eq_false_iff_ne, bne_iff_ne, bne_eq_false_iff_eq, ne_eq, not_false_eq_true, not_true_eq_false, Bool.not_eq_true, Bool.not_eq_true', Bool.not_eq_false', Int.not_lt, Int.not_le] at hb) <;> (try simp (disch := omega) only [wrapI] at hb) <;> (try (exfalso; omega))) | fail)))
          all_goals (have e : (((a : Int) + b) != 11) = true := by simp; omega)
          all_goals (rw [e] at hb; exact absurd rfl hb)
        · (repeat' (first | exact rfl | ((conv => whnf); first | exact rfl | refine ⟨by kernel_rfl, ?_⟩ | exact ⟨rfl, rfl⟩ | refine ⟨rfl, ?_⟩ | refine ⟨by (first | omega | (simp (disch := omega) only [wrapI]; omega) | (simp (disch := omega) only [wrapI]; simp; omega) | (simp; omega)), ?_⟩ | (intro ep) | refine ⟨_, h1, ?_⟩ | refine ⟨_, h2, ?_⟩ | refine ⟨_, works_spec, ?_⟩ | (refine ifB (fun hb => ?_) (fun hb => ?_) <;> (try simp only [decide_eq_true_eq, decide_eq_false_iff_not, beq_iff_eq, beq_eq_false_iff_ne, bne_iff_ne, bne_eq_false_iff_eq, ne_eq, not_false_eq_true, not_true_eq_false, Bool.not_eq_true, Bool.not_eq_true', Bool.not_eq_false', Int.not_lt, Int.not_le] at hb) <;> (try simp (disch := omega) only [wrapI] at hb) <;> (try (exfalso; omega))) | fail)))
          all_goals (have e : (((a : Int) + b) != 11) = true := by simp; omega)
          all_goals (rw [e] at hb; exact absurd rfl hb)
      · rcases signs_any b (by omega) with ⟨gb, h2⟩ | ⟨gb, h2⟩
        · (repeat' (first | exact rfl | ((conv => whnf); first | exact rfl | refine ⟨by kernel_rfl, ?_⟩ | exact ⟨rfl, rfl⟩ | refine ⟨rfl, ?_⟩ | refine ⟨by (first | omega | (simp (disch := omega) only [wrapI]; omega) | (simp (disch := omega) only [wrapI]; simp; omega) | (simp; omega)), ?_⟩ | (intro ep) | refine ⟨_, h1, ?_⟩ | refine ⟨_, h2, ?_⟩ | refine ⟨_, works_spec, ?_⟩ | (refine ifB (fun hb => ?_) (fun hb => ?_) <;> (try simp only [decide_eq_true_eq, decide_eq_false_iff_not, beq_iff_eq, beq_eq_false_iff_ne, bne_iff_ne, bne_eq_false_iff_eq, ne_eq, not_false_eq_true, not_true_eq_false, Bool.not_eq_true, Bool.not_eq_true', Bool.not_eq_false', Int.not_lt, Int.not_le] at hb) <;> (try simp (disch := omega) only [wrapI] at hb) <;> (try (exfalso; omega))) | fail)))
          all_goals (have e : (((a : Int) + b) != 11) = true := by simp; omega)
          all_goals (rw [e] at hb; exact absurd rfl hb)
        · have hadd := (fw_add b gb a ga).2
          have ka := (sigK_all a ga).2.1
          have kb := (sigK_all b gb).2.1
          have fa := fw_bd a
          have fb := fw_bd b
          (repeat' (first | exact rfl | ((conv => whnf); first | exact rfl | refine ⟨by kernel_rfl, ?_⟩ | exact ⟨rfl, rfl⟩ | refine ⟨rfl, ?_⟩ | refine ⟨by (first | omega | (simp (disch := omega) only [wrapI]; omega) | (simp (disch := omega) only [wrapI]; simp; omega) | (simp; omega)), ?_⟩ | (intro ep) | refine ⟨_, h1, ?_⟩ | refine ⟨_, h2, ?_⟩ | refine ⟨_, works_spec, ?_⟩ | (refine ifB (fun hb => ?_) (fun hb => ?_) <;> (try simp only [decide_eq_true_eq, decide_eq_false_iff_not, beq_iff_eq, beq_eq_false_iff_ne, bne_iff_ne, bne_eq_false_iff_eq, ne_eq, not_false_eq_true, not_true_eq_false, Bool.not_eq_true, Bool.not_eq_true', Bool.not_eq_false', Int.not_lt, Int.not_le] at hb) <;> (try simp (disch := omega) only [wrapI] at hb) <;> (try (exfalso; omega))) | fail)))
          all_goals (have e : (((a : Int) + b) != 11) = true := by simp; omega)
          all_goals (rw [e] at hb; exact absurd rfl hb)

theorem law_add (a b : Int) (ha : -9223372036854775808 ≤ a ∧ a ≤ 9223372036854775807) (hb : -9223372036854775808 ≤ b ∧ b ≤ 9223372036854775807) : ACalls C.P 6 [.int .i64 a, .int .i64 b] Heap.nil fun r _ => r = .bool true := by
  by_cases h : a < 0 ∨ b < 0 ∨ 4608 < a ∨ 4608 - a < b
  · exact law_add_bad a b ha hb h
  · obtain ⟨m, rfl⟩ : ∃ m : Nat, a = m := ⟨a.toNat, by omega⟩
    obtain ⟨n, rfl⟩ : ∃ n : Nat, b = n := ⟨b.toNat, by omega⟩
    exact law_add_ok m n (by omega)

end Go.Ab.V
