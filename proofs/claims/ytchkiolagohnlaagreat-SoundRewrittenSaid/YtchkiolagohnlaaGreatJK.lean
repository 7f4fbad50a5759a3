/-
  What is proved here serves the law's text: each part says its own claim and its conditions. No condition is left open.
-/
import Derived.Test.YtchkiolagohnlaaGreatJJ
set_option linter.unusedSimpArgs false
set_option linter.unusedVariables false

/-
  The program's Signs: the closure that calls itself. No condition.
-/
namespace Go.Ab.V
open Go.Proofs

def A52 : Ann := fun r => match r with
  | 5 => { slots := [(2, 7)] }
  | 8 => { slots := [(2, 8), (3, 9)] }
  | _ => {}

theorem tk_desc {j k : Nat} (h : j ≤ k) (hk : k < 21) : tkN k ≤ tkN j := by
  have h1 : ∀ k, k < 21 → ∀ j, j ≤ k → tkN k ≤ tkN j := by decide
  exact h1 k hk j h

/-- the variables of Signs, when the signs l have been put out -/
def HB (n e0 e1 e2 e4 e5 e6 : Nat) (rows : List (List AV)) (l : List Nat) : List AObj := [.vec e0 [[.lslc 3 rows 0 21 false]], .vec e1 (iRows (table n)), .vec e2 [[.oslc (.s 1) e1 1 0 (n + 1) false]], .hole,
  .vec e4 [[.oslc (.s 6) e6 3 0 l.length false]],
  .vec e5 [[.fn (.func 52) [] [.optr (.s 0) e0 1 0 0, .optr (.s 2) e2 1 0 0, .optr (.s 4) e4 1 0 0, .optr (.s 5) e5 1 0 0]]],
  .vec e6 (outR l)]

set_option maxHeartbeats 4000000 in
set_option maxRecDepth 100000 in
theorem split_spec (n : Nat) (hn : n ≤ 4608) (e0 e1 e2 e4 e5 : Nat) : ∀ (m : Nat) (most : Int) (l : List Nat) (e6 : Nat), m ≤ n → 0 ≤ fw m → (m ≠ 0 → (tkN (nxt m) : Int) ≤ most) → l.length + m ≤ n →
    ACalls C.P 52 [.int .i64 m, .int .i64 most, .optr (.s 0) e0 1 0 0, .optr (.s 2) e2 1 0 0, .optr (.s 4) e4 1 0 0, .optr (.s 5) e5 1 0 0] ⟨HB n e0 e1 e2 e4 e5 e6 allRows l, []⟩
      fun r h' => r = .bool true ∧ ∃ e6', padTo 7 h'.st = HB n e0 e1 e2 e4 e5 e6' allRows (l ++ sigK m) ∧ h'.dy = [] := by
  intro m
  generalize hr : allRows = rows
  induction m using Nat.strongRecOn with
  | _ m ih =>
  intro most l e6 hmn hm hmost hll
  have hfm : fw ((m : Int)).toNat = fw m := by rw [Int.toNat_natCast]
  refine fn_of ok mixed (A := A52) 3 Tryz.func52 rfl ?_
  (conv => whnf)
  refine ifB (fun h0 => ?_) (fun h0 => ?_)
  · simp only [beq_iff_eq] at h0
    obtain rfl : m = 0 := by omega
    (conv => whnf)
    rw [sigK_zero, List.append_nil]
    exact ⟨rfl, e6, rfl, rfl⟩
  simp only [beq_eq_false_iff_ne, ne_eq] at h0
  (repeat' ((conv => whnf); first | exact rfl | refine ⟨by kernel_rfl, ?_⟩ | exact ⟨rfl, rfl⟩ | refine ⟨rfl, ?_⟩ | refine ⟨by (first | omega | (simp (disch := omega) only [wrapI]; omega) | (simp (disch := omega) only [wrapI]; simp; omega) | (simp; omega)), ?_⟩ | (intro ep) | fail))
  (conv => whnf)
  refine loopM ok mixed (A := A52) [0, 1, 3, 4, 5, 14, 15, 16] [0, 1, 2, 4, 5, 6] (S := { k : Nat // k ≤ nxt m })
    (fr := fun s => frOf 0 60 [(0, .int .i64 (m : Int)), (1, .int .i64 most), (3, .optr (.s 2) e2 1 0 0), (4, .optr (.s 4) e4 1 0 0), (5, .optr (.s 5) e5 1 0 0), (14, .lslc 3 rows 0 21 false), (15, .int .i64 21), (16, .int .i64 (s.1 : Int))])
    (h := fun s => ⟨HB n e0 e1 e2 e4 e5 e6 rows l ++ [.hole, .hole, .hole], []⟩) (μ := fun s => 21 - s.1) ⟨0, Nat.zero_le _⟩ rfl rfl ?_
  intro s
  have hk := s.2
  obtain ⟨x1, x2⟩ := nxt_spec hm (by omega)
  obtain ⟨v, d, t, g1, g3, g2⟩ := tkL_get (k := s.1) (by omega)
  have gp := tkN_pos (k := s.1) (by omega)
  rw [hr] at g1
  (repeat' ((conv => whnf); first | exact rfl | refine ⟨by kernel_rfl, ?_⟩ | exact ⟨rfl, rfl⟩ | refine ⟨rfl, ?_⟩ | refine ⟨by (first | omega | (simp (disch := omega) only [wrapI]; omega) | (simp (disch := omega) only [wrapI]; simp; omega) | (simp; omega)), ?_⟩ | (intro ep) | refine ⟨_, ticks_spec v d t, ?_⟩ | refine optS (tabR (by omega)) ?_ | refine optS (by rw [Nat.zero_add, Int.toNat_natCast]; exact g1) ?_ | refine ⟨by simp; omega, ?_⟩ | (rw [IntWalk.i64_in _ (by have := fw_bd m; omega)]) | (refine ifB (fun hb => ?_) (fun hb => ?_) <;> (try simp only [decide_eq_true_eq, decide_eq_false_iff_not, beq_iff_eq, beq_eq_false_iff_ne, bne_iff_ne, bne_eq_false_iff_eq, ne_eq, not_false_eq_true, not_true_eq_false, Bool.not_eq_true, Bool.not_eq_true', Bool.not_eq_false', Int.not_lt, Int.not_le] at hb) <;> (try simp (disch := omega) only [wrapI] at hb) <;> (try (exfalso; omega))) | fail))
  · refine back_of ⟨s.1 + 1, ?_⟩ ⟨rfl, rfl, by simp only; omega⟩
    by_cases e : s.1 = nxt m
    · have := hmost (by omega); rw [← e] at this; omega
    · omega
  · refine back_of ⟨s.1 + 1, ?_⟩ ⟨rfl, rfl, by simp only; omega⟩
    by_cases e : s.1 = nxt m
    · obtain ⟨a, b⟩ := fw_nxt hm (by omega); rw [← e] at a; omega
    · omega
  · refine back_of ⟨s.1 + 1, ?_⟩ ⟨rfl, rfl, by simp only; omega⟩
    by_cases e : s.1 = nxt m
    · simp only [okK, Bool.and_eq_true, decide_eq_true_eq] at x2
      rw [← e, ← g2] at x2
      rw [hfm] at hb
      omega
    · omega
  · have hsub : ((m : Int) - ticks v d t).toNat = m - tkN s.1 := by omega
    have hok : okK m s.1 = true := by
      simp only [okK, Bool.and_eq_true, decide_eq_true_eq]
      rw [← g2]
      rw [hfm] at hb
      exact ⟨by omega, hb⟩
    have hnx : nxt m = s.1 := by have := nxt_min hok (by omega); omega
    obtain ⟨q1, q2, q3⟩ := fw_nxt hm (by omega)
    rw [hnx] at q1 q2 q3
    have hst := sigK_step hm (by omega)
    rw [hnx] at hst
    have e4' : List.take l.length (List.drop 0 (outR l)) = outR l := by rw [List.drop_zero, List.take_of_length_le (by simp [outR])]
    have e3' : (l ++ [s.1]).length = l.length + 1 := by simp
    have e : ((m : Int) - ticks v d t) = ((m - tkN s.1 : Nat) : Int) := by omega
    have hHB : HB n e0 e1 e2 e4 e5 ep rows (l ++ [s.1]) = [.vec e0 [[.lslc 3 rows 0 21 false]], .vec e1 (iRows (table n)), .vec e2 [[.oslc (.s 1) e1 1 0 (n + 1) false]], .hole,
        .vec e4 [[.oslc (.s 6) ep 3 0 (l.length + 1) false]],
        .vec e5 [[.fn (.func 52) [] [.optr (.s 0) e0 1 0 0, .optr (.s 2) e2 1 0 0, .optr (.s 4) e4 1 0 0, .optr (.s 5) e5 1 0 0]]],
        .vec ep (List.take l.length (List.drop 0 (outR l)) ++ [[.int .i64 v, .bool d, .bool t]])] := by
      unfold HB; rw [e3', e4', outR_snoc, g3]
    have key := ih (m - tkN s.1) (by omega) (ticks v d t) (l ++ [s.1]) ep (by omega) q3 (fun hne => by
      have hmo := nxt_mono hm (by omega) (by rw [hnx]; exact hne)
      rw [hnx] at hmo
      obtain ⟨y1, _⟩ := nxt_spec q3 hne
      have := tk_desc hmo y1
      omega) (by rw [e3']; omega)
    rw [← e, hHB] at key
    refine ACalls.part (dy := []) 7 (by exact rfl) (by exact rfl) (by exact rfl) key ?_
    rintro r h1 ⟨rfl, e6', hp, hd⟩
    rw [hp, hd]
    (conv => whnf)
    refine ⟨rfl, e6', ?_, rfl⟩
    rw [hst, show l ++ s.1 :: sigK (m - tkN s.1) = l ++ [s.1] ++ sigK (m - tkN s.1) by simp]
    rfl

end Go.Ab.V

/-
  The program's Signs. No condition.
-/
namespace Go.Ab.V
open Go.Proofs

def A33 : Ann := fun r => match r with
  | 3 => { slots := [(1, 0)] }
  | 4 => { slots := [(2, 1), (3, 2)] }
  | 11 => { slots := [(2, 3)] }
  | 18 => { slots := [(0, 4)] }
  | 19 => { slots := [(0, 5)] }
  | _ => {}

/-- what Signs hands back -/
def sigV (n : Nat) : AV := if fw n < 0 then .tup [.nils, .int .i64 25] else .tup [.lslc 3 (outR (sigK n)) 0 (sigK n).length false, .int .i64 0]

set_option maxHeartbeats 4000000 in
set_option maxRecDepth 100000 in
theorem signs_spec (n : Nat) (hn : n ≤ 4608) : PRet C.P 33 [.int .i64 n] (sigV n) := by
  have w1 : IntKind.i64.wrap (↑n + 1) = ((n + 1 : Nat) : Int) := by rw [IntWalk.i64_in _ (by omega)]; rfl
  have hf : fw ((n : Int)).toNat = fw n := by rw [Int.toNat_natCast]
  have wn : (IntKind.i64.wrap (↑n + 1)).toNat = n + 1 := by rw [w1]; rfl
  refine pret_of ok mixed (A := A33) 7 Tryz.func33 rfl ?_
  obtain ⟨rows, hr, hall⟩ : ∃ rows, allRows = rows ∧ PRet C.P 51 [] (.lslc 3 rows 0 21 false) := ⟨_, rfl, all_spec⟩
  (repeat' ((conv => whnf); first | exact rfl | refine ⟨by kernel_rfl, ?_⟩ | exact ⟨rfl, rfl⟩ | refine ⟨rfl, ?_⟩ | refine ⟨by (first | omega | (simp (disch := omega) only [wrapI]; omega) | (simp (disch := omega) only [wrapI]; simp; omega) | (simp; omega)), ?_⟩ | (intro ep) | refine ⟨_, hall, ?_⟩ | (refine ifB (fun hb => ?_) (fun hb => ?_) <;> (try simp only [decide_eq_true_eq, decide_eq_false_iff_not, beq_iff_eq, beq_eq_false_iff_ne, bne_iff_ne, bne_eq_false_iff_eq, ne_eq, not_false_eq_true, not_true_eq_false, Bool.not_eq_true, Bool.not_eq_true', Bool.not_eq_false', Int.not_lt, Int.not_le] at hb) <;> (try simp (disch := omega) only [wrapI] at hb) <;> (try (exfalso; omega))) | fail))
  (conv => whnf)
  rename_i e0 e1
  obtain ⟨e2, he2⟩ : ∃ e2, e2 = ep := ⟨_, rfl⟩
  subst he2
  refine loopM ok mixed (A := A33) [0, 4, 5, 6] [0, 1, 2] (S := { i : Nat // i ≤ n })
    (fr := fun s => frOf 0 87 [(0, .int .i64 n), (4, .optr (.s 0) e0 1 0 0), (5, .optr (.s 2) e2 1 0 0), (6, .int .i64 ((s.1 + 1 : Nat) : Int))])
    (h := fun s => ⟨[.vec e0 [[.lslc 3 rows 0 21 false]], .vec e1 (iRows (table s.1 ++ List.replicate (n - s.1) 0)), .vec e2 [[.oslc (.s 1) e1 1 0 (n + 1) false]], .hole, .hole, .hole, .hole], []⟩) (μ := fun s => n - s.1) ⟨0, Nat.zero_le n⟩ ?_ ?_ ?_
  · rfl
  · show (⟨[AObj.vec e0 [[.lslc 3 rows 0 21 false]], .vec e1 (List.replicate (IntKind.i64.wrap (↑n + 1)).toNat [AV.int .i64 0]), .vec e2 [[.oslc (.s 1) e1 1 0 (IntKind.i64.wrap (↑n + 1)).toNat false]], .hole, .hole, .hole, .hole], []⟩ : Heap) = ⟨[_, AObj.vec e1 (iRows ([0] ++ List.replicate n 0)), _, _, _, _, _], []⟩
    rw [wn]
    simp [iRows, List.replicate_succ]
  · intro s
    have hi := s.2
    (conv => whnf)
    refine ifB (fun h1 => ?_) (fun h1 => ?_)
    · simp only [decide_eq_true_eq] at h1
      (repeat' ((conv => whnf); first | exact rfl | refine ⟨by kernel_rfl, ?_⟩ | exact ⟨rfl, rfl⟩ | refine ⟨rfl, ?_⟩ | refine ⟨by (first | omega | (simp (disch := omega) only [wrapI]; omega) | (simp (disch := omega) only [wrapI]; simp; omega) | (simp; omega)), ?_⟩ | (intro ep) | refine optS (iRows_get (rep_get (n := n) (i := s.1) (by omega))) ?_ | fail))
      (conv => whnf)
      refine loopM ok mixed (A := A33) [0, 4, 5, 6, 30, 31, 32] [0, 1, 2] (S := { k : Nat // k ≤ 21 })
        (fr := fun k => frOf 0 87 [(0, .int .i64 n), (4, .optr (.s 0) e0 1 0 0), (5, .optr (.s 2) e2 1 0 0), (6, .int .i64 ((s.1 + 1 : Nat) : Int)), (30, .lslc 3 rows 0 21 false), (31, .int .i64 21), (32, .int .i64 (k.1 : Int))])
        (h := fun k => ⟨[.vec e0 [[.lslc 3 rows 0 21 false]], .vec e1 (iRows (midT n s.1 k.1)), .vec e2 [[.oslc (.s 1) e1 1 0 (n + 1) false]], .hole, .hole, .hole, .hole], []⟩) (μ := fun k => 21 - k.1) ⟨0, Nat.zero_le _⟩ rfl ?_ ?_
      · show (⟨[AObj.vec e0 [[.lslc 3 rows 0 21 false]], .vec e1 ((iRows (table s.1 ++ List.replicate (n - s.1) 0)).set (0 + (((s.1 + 1 : Nat) : Int)).toNat) [AV.int .i64 (-1)]), .vec e2 [[.oslc (.s 1) e1 1 0 (n + 1) false]], .hole, .hole, .hole, .hole], []⟩ : Heap) = _
        rw [iRows_set, midT_zero (by omega)]
      · intro k
        have hk := k.2
        (conv => whnf)
        refine ifB (fun h2 => ?_) (fun h2 => ?_)
        · simp only [decide_eq_true_eq] at h2
          obtain ⟨v, d, t, g1, g2⟩ := sRow_get (k := k.1) (by omega)
          have gp := tk_pos g2
          rw [hr] at g1
          have hbd := tab_bd s.1 ((↑(s.1 + 1) - ticks v d t).toNat) (by omega)
          (repeat' ((conv => whnf); first | exact rfl | refine ⟨by kernel_rfl, ?_⟩ | exact ⟨rfl, rfl⟩ | refine ⟨rfl, ?_⟩ | refine ⟨by (first | omega | (simp (disch := omega) only [wrapI]; omega) | (simp (disch := omega) only [wrapI]; simp; omega) | (simp; omega)), ?_⟩ | (intro ep) | refine ⟨_, ticks_spec v d t, ?_⟩ | refine optS (by (try simp (disch := omega) only [wrapI]); first | exact midR_lo (by omega) | exact midR_hi (by omega) | (rw [Nat.zero_add, Int.toNat_natCast]; exact g1)) ?_ | (refine ifB (fun hb => ?_) (fun hb => ?_) <;> (try simp only [decide_eq_true_eq, decide_eq_false_iff_not, beq_iff_eq, beq_eq_false_iff_ne, bne_iff_ne, bne_eq_false_iff_eq, ne_eq, not_false_eq_true, not_true_eq_false, Bool.not_eq_true, Bool.not_eq_true', Bool.not_eq_false', Int.not_lt, Int.not_le] at hb) <;> (try simp (disch := omega) only [wrapI] at hb) <;> (try (exfalso; omega))) | fail))
          all_goals refine back_of ⟨k.1 + 1, by omega⟩ ⟨by (first | exact rfl | (simp (disch := omega) only [wrapI]; exact rfl)), ?_, by simp only; omega⟩
          all_goals (try simp (disch := omega) only [wrapI])
          all_goals show (⟨[AObj.vec e0 [[.lslc 3 rows 0 21 false]], AObj.vec e1 _, AObj.vec e2 [[.oslc (.s 1) e1 1 0 (n + 1) false]], _, _, _, _], []⟩ : Heap) = ⟨[AObj.vec e0 [[.lslc 3 rows 0 21 false]], AObj.vec e1 (iRows (midT n s.1 (k.1 + 1))), AObj.vec e2 [[.oslc (.s 1) e1 1 0 (n + 1) false]], _, _, _, _], []⟩
          all_goals first
            | (rw [iRows_set, midT_set g2 (by simp only [better]; rw [if_pos (by omega)])]; done)
            | (rw [midT_succ g2 (by simp only [better]; rw [if_neg (by omega)])]; done)
        · simp only [decide_eq_false_iff_not] at h2
          have e21 : k.1 = 21 := by omega
          (conv => whnf)
          refine back_of ⟨s.1 + 1, by omega⟩ ⟨?_, ?_, by simp only; omega⟩
          · rw [IntWalk.i64_in _ (by omega)]; rfl
          · rw [e21, midT_last]; rfl
    · simp only [decide_eq_false_iff_not] at h1
      have e : s.1 = n := by omega
      have e2' : table n ++ List.replicate (n - n) 0 = table n := by simp
      (conv => whnf)
      rw [e, e2']
      (repeat' ((conv => whnf); first | exact rfl | refine ⟨by kernel_rfl, ?_⟩ | exact ⟨rfl, rfl⟩ | refine ⟨rfl, ?_⟩ | refine ⟨by (first | omega | (simp (disch := omega) only [wrapI]; omega) | (simp (disch := omega) only [wrapI]; simp; omega) | (simp; omega)), ?_⟩ | (intro ep) | refine optS (tabR (by omega)) ?_ | (refine ifB (fun hb => ?_) (fun hb => ?_) <;> (try simp only [decide_eq_true_eq, decide_eq_false_iff_not, beq_iff_eq, beq_eq_false_iff_ne, bne_iff_ne, bne_eq_false_iff_eq, ne_eq, not_false_eq_true, not_true_eq_false, Bool.not_eq_true, Bool.not_eq_true', Bool.not_eq_false', Int.not_lt, Int.not_le] at hb) <;> (try simp (disch := omega) only [wrapI] at hb) <;> (try (exfalso; omega))) | fail))
      · rw [hf] at hb
        unfold sigV
        rw [if_pos hb]
      · rename_i e4
        rw [hf] at hb
        obtain ⟨e5, he5⟩ : ∃ e5, e5 = ep := ⟨_, rfl⟩
        subst he5
        (conv => whnf)
        refine ACalls.liftV 4 6 e4 3 (by decide) rfl ?_
        intro e6
        have key := split_spec n hn e0 e1 e2 e4 e5 n 768 [] e6 (Nat.le_refl _) hb (fun hne => by have := (tkN_pos (nxt_spec hb hne).1).2.1; omega) (by simp)
        rw [hr] at key
        simp only [List.nil_append] at key
        refine ACalls.part (dy := []) 7 (by exact rfl) (by exact rfl) (by exact rfl) key ?_
        rintro r h1 ⟨rfl, e6', hp, hd⟩
        rw [hp, hd]
        (repeat' (first | exact rfl | ((conv => whnf); first | exact rfl | refine ⟨rfl, ?_⟩ | refine ⟨pure_outR _ hb, ?_⟩ | fail)))
        unfold sigV
        rw [if_neg (by omega)]

end Go.Ab.V
