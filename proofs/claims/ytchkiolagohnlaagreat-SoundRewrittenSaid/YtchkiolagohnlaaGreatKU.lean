/-
  What is proved here serves the law's text: each part says its own claim and its conditions. No condition is left open.
-/
import Derived.Test.YtchkiolagohnlaaGreatKQ
import Derived.Test.YtchkiolagohnlaaGreatKR
import Derived.Test.YtchkiolagohnlaaGreatKT
set_option linter.unusedSimpArgs false
set_option linter.unusedVariables false

/-
  Concords, in plain terms: the sorted list's pairs, and all pairs. No condition.
-/
namespace Go.Ab.V

def bad4 (c : Int) : Bool := decide (c = 1) || decide (c = 2) || decide (c = 10) || decide (c = 11)
def bad2 (c : Int) : Bool := decide (c = 5) || decide (c = 6)
def okP (f : Bool) (a b : Int) : Bool := !(bad4 ((b - a) % 12)) && !(f && bad2 ((b - a) % 12))
/-- the pairs of a list, one with all that follow -/
def pc : Bool → List Int → Bool
  | _, [] => true
  | f, a :: r => (r.all fun b => okP f a b) && pc false r
/-- all pairs -/
def rc (l : List Int) : Bool := l.all fun a => l.all fun b => !((l.all fun x => decide (a ≤ x)) && (bad4 ((b - a) % 12) || bad2 ((b - a) % 12))) && !(decide (a < b) && bad4 ((b - a) % 12))
def Rc (a b : Int) : Prop := bad4 ((b - a) % 12) = false
def conc (l : List Int) : Prop := ∀ a ∈ l, ∀ b ∈ l, (a < b → Rc a b) ∧ ((∀ x ∈ l, a ≤ x) → bad2 ((b - a) % 12) = false)
theorem Rc_self (a : Int) : Rc a a := by unfold Rc; rw [Int.sub_self]; decide
theorem bad2_self (a : Int) : bad2 ((a - a) % 12) = false := by rw [Int.sub_self]; decide
theorem rc_iff (l : List Int) : rc l = true ↔ conc l := by
  unfold rc conc
  simp only [List.all_eq_true, Bool.and_eq_true, Bool.not_eq_true', Bool.and_eq_false_iff, Bool.or_eq_false_iff, decide_eq_false_iff_not]
  constructor
  · intro h a ha b hb
    obtain ⟨h1, h2⟩ := h a ha b hb
    refine ⟨fun hlt => ?_, fun hm => ?_⟩
    · rcases h2 with h2 | h2
      · exact absurd hlt h2
      · exact h2
    · rcases h1 with h1 | h1
      · exfalso
        have : (l.all fun x => decide (a ≤ x)) = true := by simpa using hm
        rw [this] at h1; cases h1
      · exact h1.2
  · intro h a ha b hb
    obtain ⟨h1, h2⟩ := h a ha b hb
    constructor
    · cases hm : (l.all fun x => decide (a ≤ x))
      · exact .inl rfl
      · have hm2 : ∀ x ∈ l, a ≤ x := by simpa using hm
        refine .inr ⟨?_, h2 hm2⟩
        by_cases e : a < b
        · exact h1 e
        · have : a = b := by have := hm2 b hb; omega
          subst this
          exact Rc_self a
    · by_cases e : a < b
      · exact .inr (h1 e)
      · exact .inl e
theorem pc_false (l : List Int) : pc false l = true ↔ l.Pairwise Rc := by
  induction l with
  | nil => simp [pc]
  | cons a r ih =>
    simp only [pc, Bool.and_eq_true, List.all_eq_true, ih, List.pairwise_cons, okP, Bool.false_and, Bool.not_false, Bool.and_true, Bool.not_eq_true']
    rfl
theorem pair_iff {l : List Int} (hs : l.Pairwise (· ≤ ·)) : l.Pairwise Rc ↔ ∀ a ∈ l, ∀ b ∈ l, a < b → Rc a b := by
  induction l with
  | nil => simp
  | cons m r ih =>
    obtain ⟨h1, h2⟩ := List.pairwise_cons.1 hs
    rw [List.pairwise_cons, ih h2]
    constructor
    · rintro ⟨a1, a2⟩ a ha b hb hlt
      rcases List.mem_cons.1 ha with rfl | _
      · rcases List.mem_cons.1 hb with rfl | hb
        · omega
        · exact a1 b hb
      · rename_i ha2
        rcases List.mem_cons.1 hb with rfl | hb
        · have := h1 a ha2; omega
        · exact a2 a ha2 b hb hlt
    · intro h
      refine ⟨fun b hb => ?_, fun a ha b hb hlt => h a (List.mem_cons_of_mem _ ha) b (List.mem_cons_of_mem _ hb) hlt⟩
      by_cases e : m < b
      · exact h m (by simp) b (List.mem_cons_of_mem _ hb) e
      · have : m = b := by have := h1 b hb; omega
        subst this
        exact Rc_self m
theorem pc_true {l : List Int} (hs : l.Pairwise (· ≤ ·)) : pc true l = true ↔ conc l := by
  cases l with
  | nil => simp [pc, conc]
  | cons m r =>
    obtain ⟨h1, h2⟩ := List.pairwise_cons.1 hs
    have hp := pair_iff hs
    rw [List.pairwise_cons] at hp
    simp only [pc, Bool.and_eq_true, List.all_eq_true, pc_false, okP, Bool.true_and, Bool.not_eq_true']
    constructor
    · rintro ⟨a1, a2⟩ a ha b hb
      refine ⟨fun hlt => hp.1 ⟨fun x hx => (a1 x hx).1, a2⟩ a ha b hb hlt, fun hm => ?_⟩
      have ham : a = m := by
        have u := hm m (by simp)
        rcases List.mem_cons.1 ha with e | ha
        · exact e
        · have := h1 a ha; omega
      subst ham
      rcases List.mem_cons.1 hb with rfl | hb
      · exact bad2_self b
      · exact (a1 b hb).2
    · intro h
      obtain ⟨q1, q2⟩ := hp.2 fun a ha b hb hlt => (h a ha b hb).1 hlt
      refine ⟨fun b hb => ⟨q1 b hb, (h m (by simp) b (List.mem_cons_of_mem _ hb)).2 fun x hx => ?_⟩, q2⟩
      rcases List.mem_cons.1 hx with rfl | hx
      · exact Int.le_refl _
      · exact h1 x hx
theorem conc_mem {l m : List Int} (h : ∀ x, x ∈ l ↔ x ∈ m) : conc l ↔ conc m := by
  unfold conc
  constructor
  · intro c a ha b hb
    obtain ⟨c1, c2⟩ := c a ((h a).2 ha) b ((h b).2 hb)
    exact ⟨c1, fun hm => c2 fun x hx => hm x ((h x).1 hx)⟩
  · intro c a ha b hb
    obtain ⟨c1, c2⟩ := c a ((h a).1 ha) b ((h b).1 hb)
    exact ⟨c1, fun hm => c2 fun x hx => hm x ((h x).2 hx)⟩
theorem srt_pair (l : List Int) : (srt l).Pairwise (· ≤ ·) := by
  have := List.pairwise_mergeSort (le := fun x y : Int => decide (x ≤ y)) (fun a b c h1 h2 => by simp at *; omega) (fun a b => by simp; omega) l
  exact this.imp fun h => by simpa using h
theorem srt_mem (l : List Int) (x : Int) : x ∈ srt l ↔ x ∈ l := (List.mergeSort_perm l _).mem_iff
theorem pc_srt (l : List Int) : pc true (srt l) = rc l := by
  have h1 := pc_true (srt_pair l)
  have h2 := rc_iff l
  have h3 := conc_mem (srt_mem l)
  cases hp : pc true (srt l) <;> cases hr : rc l
  · rfl
  · exfalso; rw [hp] at h1; rw [hr] at h2; simp at h1 h2; exact h1 (h3.2 h2)
  · exfalso; rw [hp] at h1; rw [hr] at h2; simp at h1 h2; exact h2 (h3.1 h1)
  · rfl
end Go.Ab.V

/-
  Concordant: the program's walk. No condition but the length and that the numbers are ints.
-/
namespace Go.Ab.V
open Go.Proofs

def A19 : Ann := fun r => match r with
  | 1 => { slots := [(2, 0)] }
  | _ => {}
abbrev X27 := okx [] [42]
theorem pc_cons {s : List Int} {k : Nat} (f : Bool) (h : k < s.length) : pc f (s.drop k) = (((s.drop (k + 1)).all fun b => okP f s[k] b) && pc false (s.drop (k + 1))) := by
  rw [List.drop_eq_getElem_cons h, pc]
theorem u64w (x : Int) : IntKind.u64.wrap x = x % 18446744073709551616 := by
  simp [IntKind.wrap, IntKind.bits, IntKind.signed]
theorem uint_diff {a b : Int} (ha : -9223372036854775808 ≤ a ∧ a ≤ 9223372036854775807) (hb : -9223372036854775808 ≤ b ∧ b ≤ 9223372036854775807) (h : a ≤ b) :
    (IntKind.u64.wrap (IntKind.u64.wrap b - IntKind.u64.wrap a)).tmod 12 = (b - a) % 12 := by
  rw [u64w, u64w, u64w]
  have e : (b % 18446744073709551616 - a % 18446744073709551616) % 18446744073709551616 = b - a := by omega
  rw [e, Int.tmod_eq_emod_of_nonneg (by omega)]
set_option maxHeartbeats 8000000 in
set_option maxRecDepth 100000 in
theorem conc27 (l : List Int) (hl : l.length ≤ 100000) (hb : ∀ x ∈ l, -9223372036854775808 ≤ x ∧ x ≤ 9223372036854775807) : PRet C.P 19 [intsA l] (.bool (rc l)) := by
  rw [← pc_srt]
  have hbs : ∀ x ∈ srt l, -9223372036854775808 ≤ x ∧ x ≤ 9223372036854775807 := fun x hx => hb x ((srt_mem l x).1 hx)
  have hps := srt_pair l
  have hsl : (srt l).length = l.length := List.length_mergeSort _
  refine pret_of X27 mixed (A := A19) 1 Tryz.func19 rfl ?_
  (repeat' (first | exact rfl | ((conv => whnf); first | exact rfl | exact ⟨rfl, rfl⟩ | refine ⟨(by kernel_rfl : drawOk _ _ _ _ = true), ?_⟩ | refine ⟨(by kernel_rfl : planOk _ _ _ _ = true), ?_⟩ | refine ⟨rfl, ?_⟩ | refine ⟨by (first | omega | (simp (disch := omega) only [wrapI]; omega) | (simp (disch := omega) only [wrapI]; simp; omega) | (simp; omega)), ?_⟩ | (intro ep) | (refine ifB (fun hb => ?_) (fun hb => ?_) <;> (try simp only [decide_eq_true_eq, decide_eq_false_iff_not, beq_iff_eq, beq_eq_false_iff_ne, bne_iff_ne, bne_eq_false_iff_eq, ne_eq, not_false_eq_true, not_true_eq_false, Bool.not_eq_true, Bool.not_eq_true', Bool.not_eq_false', Int.not_lt, Int.not_le] at hb) <;> (try simp (disch := omega) only [wrapI] at hb) <;> (try (exfalso; omega))) | fail)))
  all_goals (conv => whnf)
  have hrow : (List.take 0 (List.replicate l.length [AV.int IntKind.i64 0]) ++ List.take l.length (List.take l.length (List.drop 0 (ints l))) ++ List.drop (0 + (List.take l.length (List.take l.length (List.drop 0 (ints l)))).length) (List.replicate l.length [AV.int IntKind.i64 0])) = ints l := by
    have : (ints l).length = l.length := by simp [ints]
    simp [this, List.take_of_length_le]
  refine (sort59 (zs := l) (id := .s 0) (ep := ep) (congrArg (fun x => some (AObj.vec ep x)) hrow) (by omega)).mono ?_
  rintro r h' ⟨rfl, rfl⟩
  obtain ⟨s, hs⟩ : ∃ s, s = srt l := ⟨_, rfl⟩
  rw [← hs] at hbs hps hsl ⊢
  rw [← hsl] at hl ⊢
  (repeat' (first | exact rfl | ((conv => whnf); first | exact rfl | exact ⟨rfl, rfl⟩ | refine ⟨(by kernel_rfl : drawOk _ _ _ _ = true), ?_⟩ | refine ⟨(by kernel_rfl : planOk _ _ _ _ = true), ?_⟩ | refine ⟨rfl, ?_⟩ | refine ⟨by (first | omega | (simp (disch := omega) only [wrapI]; omega) | (simp (disch := omega) only [wrapI]; simp; omega) | (simp; omega)), ?_⟩ | (intro ep) | (refine ifB (fun hb => ?_) (fun hb => ?_) <;> (try simp only [decide_eq_true_eq, decide_eq_false_iff_not, beq_iff_eq, beq_eq_false_iff_ne, bne_iff_ne, bne_eq_false_iff_eq, ne_eq, not_false_eq_true, not_true_eq_false, Bool.not_eq_true, Bool.not_eq_true', Bool.not_eq_false', Int.not_lt, Int.not_le] at hb) <;> (try simp (disch := omega) only [wrapI] at hb) <;> (try (exfalso; omega))) | fail)))
  all_goals (conv => whnf)
  clear hrow
  obtain ⟨R, hR⟩ : ∃ R, R = pc true s := ⟨_, rfl⟩
  rw [← hR]
  refine loopY X27 mixed (A := A19) [3, 17, 18, 19] [0] (S := { k : Nat // k ≤ s.length ∧ pc (decide (k = 0)) (s.drop k) = R })
    (fr := fun z => frOf 0 52 [(3, .oslc (.s 0) ep 1 0 s.length false), (17, .oslc (.s 0) ep 1 0 s.length false), (18, .int .i64 (s.length : Int)), (19, .int .i64 (z.1 : Int))])
    (h := fun z => ⟨[.vec ep (ints s)], []⟩) (μ := fun z => s.length - z.1) ⟨0, Nat.zero_le _, by simpa using hR.symm⟩ ?_ ?_
    [] [] (S' := { _u : Unit // R = true }) (X := fun _ => 0) (frX := fun z => frOf 0 52 []) (hX := fun z => ⟨[.hole], []⟩)
    [2] [] (S2 := { _u : Unit // R = false }) (frR := fun z => frOf 0 52 [(2, .bool false)]) (hR := fun z => ⟨[.hole], []⟩) ?_ ?_ ?_
  · exact rfl
  · exact rfl
  · rintro ⟨k, hk, hu⟩
    show aexR _ _ _ (frOf 0 52 [(3, .oslc (.s 0) ep 1 0 s.length false), (17, .oslc (.s 0) ep 1 0 s.length false), (18, .int .i64 (s.length : Int)), (19, .int .i64 (k : Int))]) ⟨[.vec ep (ints s)], []⟩ _
    (conv => whnf)
    refine ifB (fun g1 => ?_) (fun g1 => ?_)
    · simp only [decide_eq_true_eq] at g1
      have h1 : k < s.length := by omega
      have hm := intsR h1
      have ha := hbs s[k] (List.getElem_mem h1)
      have hle : ∀ b ∈ s.drop (k + 1), s[k] ≤ b := by
        have h2 := List.drop_eq_getElem_cons h1
        have h3 : (s.drop k).Pairwise (· ≤ ·) := hps.sublist (List.drop_sublist _ _)
        rw [h2] at h3
        exact (List.pairwise_cons.1 h3).1
      rw [pc_cons _ h1] at hu
      generalize s[k] = a at hm ha hle hu
      obtain ⟨M, hM⟩ : ∃ M, M = ((s.drop (k + 1)).all fun b => okP (decide (k = 0)) a b) := ⟨_, rfl⟩
      rw [← hM] at hu
      (repeat' (first | exact rfl | ((conv => whnf); first | refine optS hm ?_ | exact rfl | exact ⟨rfl, rfl⟩ | refine ⟨(by kernel_rfl : drawOk _ _ _ _ = true), ?_⟩ | refine ⟨(by kernel_rfl : planOk _ _ _ _ = true), ?_⟩ | refine ⟨rfl, ?_⟩ | refine ⟨by (first | omega | (simp (disch := omega) only [wrapI]; omega) | (simp (disch := omega) only [wrapI]; simp; omega) | (simp; omega)), ?_⟩ | (intro ep) | (refine ifB (fun hb => ?_) (fun hb => ?_) <;> (try simp only [decide_eq_true_eq, decide_eq_false_iff_not, beq_iff_eq, beq_eq_false_iff_ne, bne_iff_ne, bne_eq_false_iff_eq, ne_eq, not_false_eq_true, not_true_eq_false, Bool.not_eq_true, Bool.not_eq_true', Bool.not_eq_false', Int.not_lt, Int.not_le] at hb) <;> (try simp (disch := omega) only [wrapI] at hb) <;> (try (exfalso; omega))) | fail)))
      all_goals (conv => whnf)
      refine loopY X27 mixed (A := A19) [3, 4, 5, 17, 18, 19, 27, 28, 29] [0] (S := { j : Nat // j ≤ s.length - (k + 1) ∧ ((s.drop (k + 1 + j)).all fun b => okP (decide (k = 0)) a b) = M })
        (fr := fun z => frOf 0 52 [(3, .oslc (.s 0) ep 1 0 s.length false), (4, .int .i64 (k : Int)), (5, .int .i64 a), (17, .oslc (.s 0) ep 1 0 s.length false), (18, .int .i64 (s.length : Int)), (19, .int .i64 (k : Int)), (27, .oslc (.s 0) ep 1 (k + 1) (s.length - (k + 1)) false), (28, .int .i64 ((s.length - (k + 1) : Nat) : Int)), (29, .int .i64 (z.1 : Int))])
        (h := fun z => ⟨[.vec ep (ints s)], []⟩) (μ := fun z => s.length - (k + 1) - z.1) ⟨0, Nat.zero_le _, by rw [Nat.add_zero]; exact hM.symm⟩ ?_ ?_
        [3, 17, 18, 19] [0] (S' := { _u : Unit // M = true }) (X := fun _ => 2) (frX := fun z => frOf 0 52 [(3, .oslc (.s 0) ep 1 0 s.length false), (17, .oslc (.s 0) ep 1 0 s.length false), (18, .int .i64 (s.length : Int)), (19, .int .i64 (k : Int))]) (hX := fun z => ⟨[.vec ep (ints s)], []⟩)
        [2] [] (S2 := { _u : Unit // M = false }) (frR := fun z => frOf 0 52 [(2, .bool false)]) (hR := fun z => ⟨[.hole], []⟩) ?_ ?_ ?_
      · have e1 : (IntKind.i64.wrap ((k : Int) + 1)).toNat = k + 1 := by rw [wrapI (by omega) (by omega)]; omega
        show maskF 0 [3, 4, 5, 17, 18, 19, 27, 28, 29] _ = frOf 0 52 [(3, .oslc (.s 0) ep 1 0 s.length false), (4, .int .i64 (k : Int)), (5, .int .i64 a), (17, .oslc (.s 0) ep 1 0 s.length false), (18, .int .i64 (s.length : Int)), (19, .int .i64 (k : Int)), (27, .oslc (.s 0) ep 1 (k + 1) (s.length - (k + 1)) false), (28, .int .i64 ((s.length - (k + 1) : Nat) : Int)), (29, .int .i64 0)]
        rw [e1, Nat.zero_add (k + 1)]
        exact rfl
      · exact rfl
      · rintro ⟨j, hj, hv⟩
        show aexR _ _ _ (frOf 0 52 [(3, .oslc (.s 0) ep 1 0 s.length false), (4, .int .i64 (k : Int)), (5, .int .i64 a), (17, .oslc (.s 0) ep 1 0 s.length false), (18, .int .i64 (s.length : Int)), (19, .int .i64 (k : Int)), (27, .oslc (.s 0) ep 1 (k + 1) (s.length - (k + 1)) false), (28, .int .i64 ((s.length - (k + 1) : Nat) : Int)), (29, .int .i64 (j : Int))]) ⟨[.vec ep (ints s)], []⟩ _
        (conv => whnf)
        refine ifB (fun g2 => ?_) (fun g2 => ?_)
        · simp only [decide_eq_true_eq] at g2
          have h2 : k + 1 + j < s.length := by omega
          have hm2 : (ints s)[(k + 1) + ((j : Nat) : Int).toNat]? = some [.int .i64 s[k + 1 + j]] := by
            rw [Int.toNat_natCast]; simp [ints, h2]
          rw [List.drop_eq_getElem_cons h2, List.all_cons] at hv
          have hb2 := hbs s[k + 1 + j] (List.getElem_mem h2)
          have hab : a ≤ s[k + 1 + j] := hle _ (by rw [List.mem_iff_getElem]; exact ⟨j, by simp; omega, by simp⟩)
          generalize s[k + 1 + j] = b at hm2 hv hb2 hab
          have hq := uint_diff ha hb2 hab
          unfold okP at hv
          (repeat' (first | exact rfl | ((conv => whnf); first | refine optS hm2 ?_ | exact rfl | exact ⟨rfl, rfl⟩ | refine ⟨(by kernel_rfl : drawOk _ _ _ _ = true), ?_⟩ | refine ⟨(by kernel_rfl : planOk _ _ _ _ = true), ?_⟩ | refine ⟨rfl, ?_⟩ | refine ⟨by (first | omega | (simp (disch := omega) only [wrapI]; omega) | (simp (disch := omega) only [wrapI]; simp; omega) | (simp; omega)), ?_⟩ | (intro ep) | fail)))
          all_goals (conv => whnf)
          rw [hq]
          obtain ⟨c, hc⟩ : ∃ c, c = (b - a) % 12 := ⟨_, rfl⟩
          rw [← hc] at hv ⊢
          by_cases c1 : c = 1 ∨ c = 2 ∨ c = 10 ∨ c = 11
          · have hM0 : M = false := by
              rw [← hv, show bad4 c = true by unfold bad4; simp; omega]; simp
            (repeat' (first | exact rfl | ((conv => whnf); first | exact rfl | exact ⟨rfl, rfl⟩ | refine ⟨(by kernel_rfl : drawOk _ _ _ _ = true), ?_⟩ | refine ⟨(by kernel_rfl : planOk _ _ _ _ = true), ?_⟩ | refine ⟨rfl, ?_⟩ | refine ⟨by (first | omega | (simp (disch := omega) only [wrapI]; omega) | (simp (disch := omega) only [wrapI]; simp; omega) | (simp; omega)), ?_⟩ | (intro ep) | (refine ifB (fun hb => ?_) (fun hb => ?_) <;> (try simp only [decide_eq_true_eq, decide_eq_false_iff_not, beq_iff_eq, beq_eq_false_iff_ne, bne_iff_ne, bne_eq_false_iff_eq, ne_eq, not_false_eq_true, not_true_eq_false, Bool.not_eq_true, Bool.not_eq_true', Bool.not_eq_false', Int.not_lt, Int.not_le] at hb) <;> (try simp (disch := omega) only [wrapI] at hb) <;> (try (exfalso; omega))) | fail)))
            all_goals (conv => whnf)
            all_goals exact back_of ⟨(), hM0⟩ ⟨rfl, rfl⟩
          have hb4 : bad4 c = false := by unfold bad4; simp; omega
          rw [hb4, Bool.not_false, Bool.true_and] at hv
          by_cases c2 : c = 5 ∨ c = 6
          · have hb2' : bad2 c = true := by unfold bad2; simp; omega
            rw [hb2', Bool.and_true] at hv
            by_cases c3 : k = 0
            · have hM0 : M = false := by rw [← hv]; simp [c3]
              (repeat' (first | exact rfl | ((conv => whnf); first | exact rfl | exact ⟨rfl, rfl⟩ | refine ⟨(by kernel_rfl : drawOk _ _ _ _ = true), ?_⟩ | refine ⟨(by kernel_rfl : planOk _ _ _ _ = true), ?_⟩ | refine ⟨rfl, ?_⟩ | refine ⟨by (first | omega | (simp (disch := omega) only [wrapI]; omega) | (simp (disch := omega) only [wrapI]; simp; omega) | (simp; omega)), ?_⟩ | (intro ep) | (refine ifB (fun hb => ?_) (fun hb => ?_) <;> (try simp only [decide_eq_true_eq, decide_eq_false_iff_not, beq_iff_eq, beq_eq_false_iff_ne, bne_iff_ne, bne_eq_false_iff_eq, ne_eq, not_false_eq_true, not_true_eq_false, Bool.not_eq_true, Bool.not_eq_true', Bool.not_eq_false', Int.not_lt, Int.not_le] at hb) <;> (try simp (disch := omega) only [wrapI] at hb) <;> (try (exfalso; omega))) | fail)))
              all_goals (conv => whnf)
              all_goals exact back_of ⟨(), hM0⟩ ⟨rfl, rfl⟩
            · rw [show decide (k = 0) = false by simp [c3], Bool.not_false, Bool.true_and] at hv
              (repeat' (first | exact rfl | ((conv => whnf); first | exact rfl | exact ⟨rfl, rfl⟩ | refine ⟨(by kernel_rfl : drawOk _ _ _ _ = true), ?_⟩ | refine ⟨(by kernel_rfl : planOk _ _ _ _ = true), ?_⟩ | refine ⟨rfl, ?_⟩ | refine ⟨by (first | omega | (simp (disch := omega) only [wrapI]; omega) | (simp (disch := omega) only [wrapI]; simp; omega) | (simp; omega)), ?_⟩ | (intro ep) | (refine ifB (fun hb => ?_) (fun hb => ?_) <;> (try simp only [decide_eq_true_eq, decide_eq_false_iff_not, beq_iff_eq, beq_eq_false_iff_ne, bne_iff_ne, bne_eq_false_iff_eq, ne_eq, not_false_eq_true, not_true_eq_false, Bool.not_eq_true, Bool.not_eq_true', Bool.not_eq_false', Int.not_lt, Int.not_le] at hb) <;> (try simp (disch := omega) only [wrapI] at hb) <;> (try (exfalso; omega))) | fail)))
              all_goals (conv => whnf)
              all_goals exact back_of ⟨j + 1, by omega, by rw [show decide (k = 0) = false by simp [c3]]; rw [← hv]; rfl⟩ ⟨by (first | exact rfl | (simp (disch := omega) only [wrapI]; exact rfl)), rfl, by simp only; omega⟩
          · have hb2' : bad2 c = false := by unfold bad2; simp; omega
            rw [hb2', Bool.and_false, Bool.not_false, Bool.true_and] at hv
            (repeat' (first | exact rfl | ((conv => whnf); first | exact rfl | exact ⟨rfl, rfl⟩ | refine ⟨(by kernel_rfl : drawOk _ _ _ _ = true), ?_⟩ | refine ⟨(by kernel_rfl : planOk _ _ _ _ = true), ?_⟩ | refine ⟨rfl, ?_⟩ | refine ⟨by (first | omega | (simp (disch := omega) only [wrapI]; omega) | (simp (disch := omega) only [wrapI]; simp; omega) | (simp; omega)), ?_⟩ | (intro ep) | (refine ifB (fun hb => ?_) (fun hb => ?_) <;> (try simp only [decide_eq_true_eq, decide_eq_false_iff_not, beq_iff_eq, beq_eq_false_iff_ne, bne_iff_ne, bne_eq_false_iff_eq, ne_eq, not_false_eq_true, not_true_eq_false, Bool.not_eq_true, Bool.not_eq_true', Bool.not_eq_false', Int.not_lt, Int.not_le] at hb) <;> (try simp (disch := omega) only [wrapI] at hb) <;> (try (exfalso; omega))) | fail)))
            all_goals (conv => whnf)
            all_goals exact back_of ⟨j + 1, by omega, hv⟩ ⟨by (first | exact rfl | (simp (disch := omega) only [wrapI]; exact rfl)), rfl, by simp only; omega⟩
        · simp only [decide_eq_false_iff_not] at g2
          rw [List.drop_eq_nil_of_le (by omega), List.all_nil] at hv
          (repeat' (first | exact rfl | ((conv => whnf); first | exact rfl | exact ⟨rfl, rfl⟩ | refine ⟨(by kernel_rfl : drawOk _ _ _ _ = true), ?_⟩ | refine ⟨(by kernel_rfl : planOk _ _ _ _ = true), ?_⟩ | refine ⟨rfl, ?_⟩ | refine ⟨by (first | omega | (simp (disch := omega) only [wrapI]; omega) | (simp (disch := omega) only [wrapI]; simp; omega) | (simp; omega)), ?_⟩ | (intro ep) | fail)))
          all_goals (conv => whnf)
          all_goals exact back_of ⟨(), hv.symm⟩ ⟨rfl, rfl, rfl⟩
      · rintro ⟨⟨⟩, hx⟩
        rw [hx, Bool.false_and] at hu
        exact back_of ⟨(), hu.symm⟩ ⟨rfl, rfl⟩
      · rintro ⟨⟨⟩, hx⟩
        rw [hx, Bool.true_and] at hu
        (repeat' (first | exact rfl | ((conv => whnf); first | exact rfl | exact ⟨rfl, rfl⟩ | refine ⟨(by kernel_rfl : drawOk _ _ _ _ = true), ?_⟩ | refine ⟨(by kernel_rfl : planOk _ _ _ _ = true), ?_⟩ | refine ⟨rfl, ?_⟩ | refine ⟨by (first | omega | (simp (disch := omega) only [wrapI]; omega) | (simp (disch := omega) only [wrapI]; simp; omega) | (simp; omega)), ?_⟩ | (intro ep) | fail)))
        all_goals (conv => whnf)
        all_goals exact back_of ⟨k + 1, by omega, by simpa using hu⟩ ⟨by (first | exact rfl | (simp (disch := omega) only [wrapI]; exact rfl)), rfl, by simp only; omega⟩
    · simp only [decide_eq_false_iff_not] at g1
      rw [List.drop_eq_nil_of_le (by omega), pc] at hu
      (repeat' (first | exact rfl | ((conv => whnf); first | exact rfl | exact ⟨rfl, rfl⟩ | refine ⟨(by kernel_rfl : drawOk _ _ _ _ = true), ?_⟩ | refine ⟨(by kernel_rfl : planOk _ _ _ _ = true), ?_⟩ | refine ⟨rfl, ?_⟩ | refine ⟨by (first | omega | (simp (disch := omega) only [wrapI]; omega) | (simp (disch := omega) only [wrapI]; simp; omega) | (simp; omega)), ?_⟩ | (intro ep) | fail)))
      all_goals (conv => whnf)
      all_goals exact back_of ⟨(), hu.symm⟩ ⟨rfl, rfl, rfl⟩
  · rintro ⟨⟨⟩, hx⟩
    (repeat' (first | exact rfl | ((conv => whnf); first | exact rfl | exact ⟨rfl, rfl⟩ | refine ⟨(by kernel_rfl : drawOk _ _ _ _ = true), ?_⟩ | refine ⟨(by kernel_rfl : planOk _ _ _ _ = true), ?_⟩ | refine ⟨rfl, ?_⟩ | refine ⟨by (first | omega | (simp (disch := omega) only [wrapI]; omega) | (simp (disch := omega) only [wrapI]; simp; omega) | (simp; omega)), ?_⟩ | (intro ep) | fail)))
    all_goals (conv => whnf)
    all_goals (subst hx; rfl)
  · rintro ⟨⟨⟩, hx⟩
    (repeat' (first | exact rfl | ((conv => whnf); first | exact rfl | exact ⟨rfl, rfl⟩ | refine ⟨(by kernel_rfl : drawOk _ _ _ _ = true), ?_⟩ | refine ⟨(by kernel_rfl : planOk _ _ _ _ = true), ?_⟩ | refine ⟨rfl, ?_⟩ | refine ⟨by (first | omega | (simp (disch := omega) only [wrapI]; omega) | (simp (disch := omega) only [wrapI]; simp; omega) | (simp; omega)), ?_⟩ | (intro ep) | fail)))
    all_goals (conv => whnf)
    all_goals (subst hx; rfl)
end Go.Ab.V
