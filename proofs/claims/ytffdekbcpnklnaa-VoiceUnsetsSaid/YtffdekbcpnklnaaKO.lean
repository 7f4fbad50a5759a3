/-
  What is proved here serves the law's text: each part says its own claim and its conditions. No condition is left open.
-/
import Derived.Test.YtffdekbcpnklnaaKN
set_option linter.unusedSimpArgs false
set_option linter.unusedVariables false

/-
  Reading a written part. No condition but the length.
-/
namespace Go.Ab.V
open Go.Proofs

def A45 : Ann := fun _ => {}
theorem within_spec (n a b : Int) : PRet C.P 45 [.int .i64 n, .int .i64 a, .int .i64 b] (.bool (decide (a ≤ n) && decide (n ≤ b))) := by
  by_cases h1 : a ≤ n <;> by_cases h2 : n ≤ b <;>
    (refine pret_of ok mixed (A := A45) 0 Try.func45 rfl ?_
     (repeat' (first | exact rfl | ((conv => whnf); first | exact rfl | refine ⟨by kernel_rfl, ?_⟩ | exact ⟨rfl, rfl⟩ | refine ⟨rfl, ?_⟩ | refine ⟨by (first | omega | (simp (disch := omega) only [wrapI]; omega) | (simp (disch := omega) only [wrapI]; simp; omega) | (simp; omega)), ?_⟩ | (intro ep) | (refine ifB (fun hb => ?_) (fun hb => ?_) <;> (try simp only [decide_eq_true_eq, decide_eq_false_iff_not, beq_iff_eq, beq_eq_false_iff_ne, bne_iff_ne, bne_eq_false_iff_eq, ne_eq, not_false_eq_true, not_true_eq_false, Bool.not_eq_true, Bool.not_eq_true', Bool.not_eq_false', Int.not_lt, Int.not_le] at hb) <;> (try simp (disch := omega) only [wrapI] at hb) <;> (try (exfalso; omega))) | fail)))
     all_goals (conv => whnf)
     all_goals (simp [h1, h2]))

/-- whether the next one is not of the pitch -/
def nxD : List Wr → Int → Bool
  | [], _ => true
  | x :: _, p => !decide (x.p = p)
/-- what comes of a written part: the tones, the end, the error -/
def uns : List Wr → List Tn → Int → Int → List Tn × Int × Int
  | [], acc, en, _ => (acc, en, 0)
  | w :: r, acc, en, fr =>
    if w.p < -1 ∨ 127 < w.p then ([], 0, 80) else
    if ticks w.v w.d w.t = 0 then ([], 0, 25) else
    if w.y = true ∧ (w.p < 0 ∨ nxD r w.p = true) then ([], 0, 21) else
    if 262144 < en + ticks w.v w.d w.t ∨ (0 ≤ w.p ∧ w.y = false ∧ acc.length = 400) then ([], 0, 2) else
    uns r (if 0 ≤ w.p ∧ w.y = false then acc ++ [⟨w.p, fr, en + ticks w.v w.d w.t⟩] else acc) (en + ticks w.v w.d w.t) (if w.y = true then fr else en + ticks w.v w.d w.t)
def unsV (x : List Tn × Int × Int) : AV := if x.2.2 = 0 then .tup [tnsA x.1, .int .i64 x.2.1, .int .i64 0] else .tup [.nils, .int .i64 0, .int .i64 x.2.2]

theorem ticks_rng (v : Int) (d t : Bool) : 0 ≤ ticks v d t ∧ ticks v d t ≤ 576 := by
  unfold ticks
  split
  · omega
  rename_i h
  have : v = 1 ∨ v = 2 ∨ v = 3 ∨ v = 4 ∨ v = 5 ∨ v = 6 ∨ v = 7 := by omega
  rcases this with rfl | rfl | rfl | rfl | rfl | rfl | rfl <;> cases d <;> cases t <;> decide

theorem uns_cons {l : List Wr} {k : Nat} (h : k < l.length) (acc : List Tn) (en fr : Int) : uns (l.drop k) acc en fr =
    if l[k].p < -1 ∨ 127 < l[k].p then ([], 0, 80) else
    if ticks l[k].v l[k].d l[k].t = 0 then ([], 0, 25) else
    if l[k].y = true ∧ (l[k].p < 0 ∨ nxD (l.drop (k + 1)) l[k].p = true) then ([], 0, 21) else
    if 262144 < en + ticks l[k].v l[k].d l[k].t ∨ (0 ≤ l[k].p ∧ l[k].y = false ∧ acc.length = 400) then ([], 0, 2) else
    uns (l.drop (k + 1)) (if 0 ≤ l[k].p ∧ l[k].y = false then acc ++ [⟨l[k].p, fr, en + ticks l[k].v l[k].d l[k].t⟩] else acc) (en + ticks l[k].v l[k].d l[k].t) (if l[k].y = true then fr else en + ticks l[k].v l[k].d l[k].t) := by
  rw [List.drop_eq_getElem_cons h, uns]
theorem nxD_some {l : List Wr} {k : Nat} (h : k < l.length) (p : Int) : nxD (l.drop k) p = !decide (l[k].p = p) := by
  rw [List.drop_eq_getElem_cons h, nxD]
theorem nxD_none {l : List Wr} {k : Nat} (h : l.length ≤ k) (p : Int) : nxD (l.drop k) p = true := by
  rw [List.drop_eq_nil_of_le h]; rfl

theorem pure_tns (l : List Tn) : pureRows (l.map tnR) := by
  intro r hr c hc
  obtain ⟨x, _, rfl⟩ := List.mem_map.1 hr
  simp [tnR] at hc
  rcases hc with rfl | rfl | rfl <;> rfl
def A30 : Ann := fun r => match r with
  | 4 => { slots := [(3, 0)] }
  | 18 => { slots := [(6, 1), (7, 2)] }
  | _ => {}
set_option maxHeartbeats 8000000 in
set_option maxRecDepth 100000 in
theorem unset_spec (l : List Wr) (hl : l.length ≤ 10000) : PRet C.P 30 [wrsA l] (unsV (uns l [] 0 0)) := by
  obtain ⟨R, hR⟩ : ∃ R, R = uns l [] 0 0 := ⟨_, rfl⟩
  rw [← hR]
  refine pret_of ok mixed (A := A30) 3 Try.func30 rfl ?_
  (conv => whnf)
  (repeat' (first | exact rfl | ((conv => whnf); first | exact rfl | refine ⟨by kernel_rfl, ?_⟩ | exact ⟨rfl, rfl⟩ | refine ⟨rfl, ?_⟩ | refine ⟨by (first | omega | (simp (disch := omega) only [wrapI]; omega) | (simp (disch := omega) only [wrapI]; simp; omega) | (simp; omega)), ?_⟩ | (intro ep) | fail)))
  (conv => whnf)
  refine wk_lift 2 2 3 rfl ?_
  intro eA
  refine loopY ok mixed (A := A30) [0, 2, 3, 5, 10, 11, 12] [2] (S := { x : Nat × Nat × List Tn × Int × Int // x.1 ≤ l.length ∧ x.2.2.1.length ≤ 400 ∧ (0 ≤ x.2.2.2.1 ∧ x.2.2.2.1 ≤ 262144) ∧ uns (l.drop x.1) x.2.2.1 x.2.2.2.1 x.2.2.2.2 = R })
    (fr := fun s => frOf 0 92 [(0, wrsA l), (2, .oslc (.s 2) s.1.2.1 3 0 s.1.2.2.1.length false), (3, .int .i64 s.1.2.2.2.1), (5, .int .i64 s.1.2.2.2.2), (10, wrsA l), (11, .int .i64 (l.length : Int)), (12, .int .i64 (s.1.1 : Int))])
    (h := fun s => ⟨[.hole, .hole, .vec s.1.2.1 (s.1.2.2.1.map tnR)], []⟩) (μ := fun s => l.length - s.1.1) ⟨(0, eA, [], 0, 0), by simp [hR]⟩ ?_ ?_
    [2, 3] [2] (S' := { x : Nat × List Tn × Int // (x.2.1, x.2.2, 0) = R }) (X := fun _ => 0)
    (frX := fun s => frOf 0 92 [(2, .oslc (.s 2) s.1.1 3 0 s.1.2.1.length false), (3, .int .i64 s.1.2.2)])
    (hX := fun s => ⟨[.hole, .hole, .vec s.1.1 (s.1.2.1.map tnR)], []⟩)
    [2, 3, 4] [] (S2 := { x : Int // x ≠ 0 ∧ ([], 0, x) = R })
    (frR := fun s => frOf 0 92 [(2, .nils), (3, .int .i64 0), (4, .int .i64 s.1)])
    (hR := fun s => ⟨[.hole, .hole, .hole], []⟩) ?_ ?_ ?_
  · exact rfl
  · exact rfl
  · rintro ⟨⟨k, e, acc, en, from0⟩, hk, hacc, hen, hu⟩
    simp only at hk hacc hen hu
    show aexR _ _ _ (frOf 0 92 [(0, wrsA l), (2, .oslc (.s 2) e 3 0 acc.length false), (3, .int .i64 en), (5, .int .i64 from0), (10, wrsA l), (11, .int .i64 (l.length : Int)), (12, .int .i64 (k : Int))])
      ⟨[.hole, .hole, .vec e (acc.map tnR)], []⟩ _
    (conv => whnf)
    refine ifB (fun g1 => ?_) (fun g1 => ?_)
    · simp only [decide_eq_true_eq] at g1
      have hlt : k < l.length := by omega
      have hm := mapR (f := wrR) hlt
      rw [uns_cons hlt] at hu
      obtain ⟨w, hw⟩ : ∃ w, l[k] = w := ⟨_, rfl⟩
      rw [hw] at hm hu
      obtain ⟨p, v, d, t, y⟩ := w
      simp only at hu
      have hT := ticks_rng v d t
      have hts := ticks_spec v d t
      obtain ⟨T, hTT⟩ : ∃ T, ticks v d t = T := ⟨_, rfl⟩
      rw [hTT] at hu hT hts
      replace hm : (l.map wrR)[0 + ((k : Nat) : Int).toNat]? = some [.int .i64 p, .int .i64 v, .bool d, .bool t, .bool y] := hm
      by_cases c1 : p < -1 ∨ 127 < p
      · have hwi : PRet C.P 45 [.int .i64 p, .int .i64 (-1), .int .i64 127] (.bool false) := by
          have := within_spec p (-1) 127
          rwa [show (decide (-1 ≤ p) && decide (p ≤ 127)) = false by simp; omega] at this
        rw [if_pos c1] at hu
        cases y <;> (repeat' (first | exact rfl | ((conv => whnf); first | refine optS hm ?_ | refine ⟨_, hts, ?_⟩ | refine ⟨_, hwi, ?_⟩ | exact rfl | refine ⟨by kernel_rfl, ?_⟩ | exact ⟨rfl, rfl⟩ | refine ⟨rfl, ?_⟩ | refine ⟨by (first | omega | (simp (disch := omega) only [wrapI]; omega) | (simp (disch := omega) only [wrapI]; simp; omega) | (simp; omega)), ?_⟩ | (intro ep) | (refine ifB (fun hb => ?_) (fun hb => ?_) <;> (try simp only [decide_eq_true_eq, decide_eq_false_iff_not, beq_iff_eq, beq_eq_false_iff_ne, bne_iff_ne, bne_eq_false_iff_eq, ne_eq, not_false_eq_true, not_true_eq_false, Bool.not_eq_true, Bool.not_eq_true', Bool.not_eq_false', Int.not_lt, Int.not_le] at hb) <;> (try simp (disch := omega) only [wrapI] at hb) <;> (try (exfalso; omega))) | fail)))
        all_goals (conv => whnf)
        all_goals exact back_of ⟨80, by decide, hu⟩ ⟨rfl, rfl⟩
      rw [if_neg c1] at hu
      have hwi : PRet C.P 45 [.int .i64 p, .int .i64 (-1), .int .i64 127] (.bool true) := by
        have := within_spec p (-1) 127
        rwa [show (decide (-1 ≤ p) && decide (p ≤ 127)) = true by simp; omega] at this
      by_cases c2 : T = 0
      · rw [if_pos c2] at hu
        subst c2
        cases y <;> (repeat' (first | exact rfl | ((conv => whnf); first | refine optS hm ?_ | refine ⟨_, hts, ?_⟩ | refine ⟨_, hwi, ?_⟩ | exact rfl | refine ⟨by kernel_rfl, ?_⟩ | exact ⟨rfl, rfl⟩ | refine ⟨rfl, ?_⟩ | refine ⟨by (first | omega | (simp (disch := omega) only [wrapI]; omega) | (simp (disch := omega) only [wrapI]; simp; omega) | (simp; omega)), ?_⟩ | (intro ep) | (refine ifB (fun hb => ?_) (fun hb => ?_) <;> (try simp only [decide_eq_true_eq, decide_eq_false_iff_not, beq_iff_eq, beq_eq_false_iff_ne, bne_iff_ne, bne_eq_false_iff_eq, ne_eq, not_false_eq_true, not_true_eq_false, Bool.not_eq_true, Bool.not_eq_true', Bool.not_eq_false', Int.not_lt, Int.not_le] at hb) <;> (try simp (disch := omega) only [wrapI] at hb) <;> (try (exfalso; omega))) | fail)))
        all_goals (conv => whnf)
        all_goals exact back_of ⟨25, by decide, hu⟩ ⟨rfl, rfl⟩
      rw [if_neg c2] at hu
      have t3 : List.take acc.length (List.drop 0 (acc.map tnR)) = acc.map tnR := by rw [List.drop_zero, List.take_of_length_le (by simp)]
      cases y
      · rw [if_neg (by simp)] at hu
        by_cases c3 : 262144 < en + T
        · rw [if_pos (.inl c3)] at hu
          (repeat' (first | exact rfl | ((conv => whnf); first | refine optS hm ?_ | refine ⟨_, hts, ?_⟩ | refine ⟨_, hwi, ?_⟩ | exact rfl | refine ⟨by kernel_rfl, ?_⟩ | exact ⟨rfl, rfl⟩ | refine ⟨rfl, ?_⟩ | refine ⟨by (first | omega | (simp (disch := omega) only [wrapI]; omega) | (simp (disch := omega) only [wrapI]; simp; omega) | (simp; omega)), ?_⟩ | (intro ep) | (refine ifB (fun hb => ?_) (fun hb => ?_) <;> (try simp only [decide_eq_true_eq, decide_eq_false_iff_not, beq_iff_eq, beq_eq_false_iff_ne, bne_iff_ne, bne_eq_false_iff_eq, ne_eq, not_false_eq_true, not_true_eq_false, Bool.not_eq_true, Bool.not_eq_true', Bool.not_eq_false', Int.not_lt, Int.not_le] at hb) <;> (try simp (disch := omega) only [wrapI] at hb) <;> (try (exfalso; omega))) | fail)))
          all_goals (conv => whnf)
          all_goals exact back_of ⟨2, by decide, hu⟩ ⟨rfl, rfl⟩
        by_cases c4 : 0 ≤ p
        · by_cases c5 : acc.length = 400
          · rw [if_pos (.inr ⟨c4, rfl, c5⟩)] at hu
            (repeat' (first | exact rfl | ((conv => whnf); first | refine optS hm ?_ | refine ⟨_, hts, ?_⟩ | refine ⟨_, hwi, ?_⟩ | exact rfl | refine ⟨by kernel_rfl, ?_⟩ | exact ⟨rfl, rfl⟩ | refine ⟨rfl, ?_⟩ | refine ⟨by (first | omega | (simp (disch := omega) only [wrapI]; omega) | (simp (disch := omega) only [wrapI]; simp; omega) | (simp; omega)), ?_⟩ | (intro ep) | (refine ifB (fun hb => ?_) (fun hb => ?_) <;> (try simp only [decide_eq_true_eq, decide_eq_false_iff_not, beq_iff_eq, beq_eq_false_iff_ne, bne_iff_ne, bne_eq_false_iff_eq, ne_eq, not_false_eq_true, not_true_eq_false, Bool.not_eq_true, Bool.not_eq_true', Bool.not_eq_false', Int.not_lt, Int.not_le] at hb) <;> (try simp (disch := omega) only [wrapI] at hb) <;> (try (exfalso; omega))) | fail)))
            all_goals (conv => whnf)
            all_goals exact back_of ⟨2, by decide, hu⟩ ⟨rfl, rfl⟩
          · rw [if_neg (by omega), if_pos ⟨c4, rfl⟩, if_neg (by simp)] at hu
            (repeat' (first | exact rfl | ((conv => whnf); first | refine optS hm ?_ | refine ⟨_, hts, ?_⟩ | refine ⟨_, hwi, ?_⟩ | exact rfl | refine ⟨by kernel_rfl, ?_⟩ | exact ⟨rfl, rfl⟩ | refine ⟨rfl, ?_⟩ | refine ⟨by (first | omega | (simp (disch := omega) only [wrapI]; omega) | (simp (disch := omega) only [wrapI]; simp; omega) | (simp; omega)), ?_⟩ | (intro ep) | (refine ifB (fun hb => ?_) (fun hb => ?_) <;> (try simp only [decide_eq_true_eq, decide_eq_false_iff_not, beq_iff_eq, beq_eq_false_iff_ne, bne_iff_ne, bne_eq_false_iff_eq, ne_eq, not_false_eq_true, not_true_eq_false, Bool.not_eq_true, Bool.not_eq_true', Bool.not_eq_false', Int.not_lt, Int.not_le] at hb) <;> (try simp (disch := omega) only [wrapI] at hb) <;> (try (exfalso; omega))) | fail)))
            all_goals (conv => whnf)
            refine back_of ⟨(k + 1, ep, acc ++ [⟨p, from0, en + T⟩], en + T, en + T), by simp only; omega, by simp only [List.length_append, List.length_cons, List.length_nil]; omega, by simp only; omega, hu⟩ ⟨?_, ?_, by simp only; omega⟩
            · have e1 : (acc ++ [(⟨p, from0, en + T⟩ : Tn)]).length = acc.length + 1 := by simp
              show maskF 0 _ _ = frOf 0 92 [(0, wrsA l), (2, .oslc (.s 2) ep 3 0 (acc ++ [(⟨p, from0, en + T⟩ : Tn)]).length false), (3, .int .i64 (en + T)), (5, .int .i64 (en + T)), (10, wrsA l), (11, .int .i64 (l.length : Int)), (12, .int .i64 ((k + 1 : Nat) : Int))]
              rw [e1]
              (first | exact rfl | (simp (disch := omega) only [wrapI]; exact rfl))
            · have e1 : (acc ++ [(⟨p, from0, en + T⟩ : Tn)]).map tnR = List.take acc.length (List.drop 0 (acc.map tnR)) ++ [[.int .i64 p, .int .i64 from0, .int .i64 (en + T)]] := by rw [t3]; simp [tnR]
              show maskH 0 _ _ = ⟨[.hole, .hole, .vec ep ((acc ++ [(⟨p, from0, en + T⟩ : Tn)]).map tnR)], []⟩
              rw [e1]
              (first | exact rfl | (simp (disch := omega) only [wrapI]; exact rfl))
        · rw [if_neg (by omega), if_neg (by omega), if_neg (by simp)] at hu
          (repeat' (first | exact rfl | ((conv => whnf); first | refine optS hm ?_ | refine ⟨_, hts, ?_⟩ | refine ⟨_, hwi, ?_⟩ | exact rfl | refine ⟨by kernel_rfl, ?_⟩ | exact ⟨rfl, rfl⟩ | refine ⟨rfl, ?_⟩ | refine ⟨by (first | omega | (simp (disch := omega) only [wrapI]; omega) | (simp (disch := omega) only [wrapI]; simp; omega) | (simp; omega)), ?_⟩ | (intro ep) | (refine ifB (fun hb => ?_) (fun hb => ?_) <;> (try simp only [decide_eq_true_eq, decide_eq_false_iff_not, beq_iff_eq, beq_eq_false_iff_ne, bne_iff_ne, bne_eq_false_iff_eq, ne_eq, not_false_eq_true, not_true_eq_false, Bool.not_eq_true, Bool.not_eq_true', Bool.not_eq_false', Int.not_lt, Int.not_le] at hb) <;> (try simp (disch := omega) only [wrapI] at hb) <;> (try (exfalso; omega))) | fail)))
          all_goals (conv => whnf)
          all_goals exact back_of ⟨(k + 1, e, acc, en + T, en + T), by simp only; omega, hacc, by simp only; omega, hu⟩ ⟨by (first | exact rfl | (simp (disch := omega) only [wrapI]; exact rfl)), rfl, by simp only; omega⟩
      · by_cases c4 : p < 0
        · rw [if_pos ⟨rfl, .inl c4⟩] at hu
          (repeat' (first | exact rfl | ((conv => whnf); first | refine optS hm ?_ | refine ⟨_, hts, ?_⟩ | refine ⟨_, hwi, ?_⟩ | exact rfl | refine ⟨by kernel_rfl, ?_⟩ | exact ⟨rfl, rfl⟩ | refine ⟨rfl, ?_⟩ | refine ⟨by (first | omega | (simp (disch := omega) only [wrapI]; omega) | (simp (disch := omega) only [wrapI]; simp; omega) | (simp; omega)), ?_⟩ | (intro ep) | (refine ifB (fun hb => ?_) (fun hb => ?_) <;> (try simp only [decide_eq_true_eq, decide_eq_false_iff_not, beq_iff_eq, beq_eq_false_iff_ne, bne_iff_ne, bne_eq_false_iff_eq, ne_eq, not_false_eq_true, not_true_eq_false, Bool.not_eq_true, Bool.not_eq_true', Bool.not_eq_false', Int.not_lt, Int.not_le] at hb) <;> (try simp (disch := omega) only [wrapI] at hb) <;> (try (exfalso; omega))) | fail)))
          all_goals (conv => whnf)
          all_goals exact back_of ⟨21, by decide, hu⟩ ⟨rfl, rfl⟩
        by_cases c5 : k + 1 < l.length
        · have hm1 := mapR (f := wrR) c5
          rw [nxD_some c5] at hu
          generalize l[k + 1] = w1 at hm1 hu
          obtain ⟨p1, v1, d1, t1, y1⟩ := w1
          simp only at hu
          replace hm1 : (l.map wrR)[0 + (IntKind.i64.wrap ((k : Nat) + 1 : Int)).toNat]? = some [.int .i64 p1, .int .i64 v1, .bool d1, .bool t1, .bool y1] := by
            rw [wrapI (by omega) (by omega)]; exact hm1
          by_cases c6 : p1 = p
          · rw [if_neg (by simp [c6, c4])] at hu
            subst c6
            by_cases c3 : 262144 < en + T
            · rw [if_pos (.inl c3)] at hu
              (repeat' (first | exact rfl | ((conv => whnf); first | refine optS hm ?_ | refine optS hm1 ?_ | refine ⟨_, hts, ?_⟩ | refine ⟨_, hwi, ?_⟩ | exact rfl | refine ⟨by kernel_rfl, ?_⟩ | exact ⟨rfl, rfl⟩ | refine ⟨rfl, ?_⟩ | refine ⟨by (first | omega | (simp (disch := omega) only [wrapI]; omega) | (simp (disch := omega) only [wrapI]; simp; omega) | (simp; omega)), ?_⟩ | (intro ep) | (refine ifB (fun hb => ?_) (fun hb => ?_) <;> (try simp only [decide_eq_true_eq, decide_eq_false_iff_not, beq_iff_eq, beq_eq_false_iff_ne, bne_iff_ne, bne_eq_false_iff_eq, ne_eq, not_false_eq_true, not_true_eq_false, Bool.not_eq_true, Bool.not_eq_true', Bool.not_eq_false', Int.not_lt, Int.not_le] at hb) <;> (try simp (disch := omega) only [wrapI] at hb) <;> (try (exfalso; omega))) | fail)))
              all_goals (conv => whnf)
              all_goals exact back_of ⟨2, by decide, hu⟩ ⟨rfl, rfl⟩
            · rw [if_neg (by simp; omega), if_neg (by simp), if_pos trivial] at hu
              (repeat' (first | exact rfl | ((conv => whnf); first | refine optS hm ?_ | refine optS hm1 ?_ | refine ⟨_, hts, ?_⟩ | refine ⟨_, hwi, ?_⟩ | exact rfl | refine ⟨by kernel_rfl, ?_⟩ | exact ⟨rfl, rfl⟩ | refine ⟨rfl, ?_⟩ | refine ⟨by (first | omega | (simp (disch := omega) only [wrapI]; omega) | (simp (disch := omega) only [wrapI]; simp; omega) | (simp; omega)), ?_⟩ | (intro ep) | (refine ifB (fun hb => ?_) (fun hb => ?_) <;> (try simp only [decide_eq_true_eq, decide_eq_false_iff_not, beq_iff_eq, beq_eq_false_iff_ne, bne_iff_ne, bne_eq_false_iff_eq, ne_eq, not_false_eq_true, not_true_eq_false, Bool.not_eq_true, Bool.not_eq_true', Bool.not_eq_false', Int.not_lt, Int.not_le] at hb) <;> (try simp (disch := omega) only [wrapI] at hb) <;> (try (exfalso; omega))) | fail)))
              all_goals (conv => whnf)
              all_goals exact back_of ⟨(k + 1, e, acc, en + T, from0), by simp only; omega, hacc, by simp only; omega, hu⟩ ⟨by (first | exact rfl | (simp (disch := omega) only [wrapI]; exact rfl)), rfl, by simp only; omega⟩
          · rw [if_pos ⟨trivial, .inr (by simp [c6])⟩] at hu
            (repeat' (first | exact rfl | ((conv => whnf); first | refine optS hm ?_ | refine optS hm1 ?_ | refine ⟨_, hts, ?_⟩ | refine ⟨_, hwi, ?_⟩ | exact rfl | refine ⟨by kernel_rfl, ?_⟩ | exact ⟨rfl, rfl⟩ | refine ⟨rfl, ?_⟩ | refine ⟨by (first | omega | (simp (disch := omega) only [wrapI]; omega) | (simp (disch := omega) only [wrapI]; simp; omega) | (simp; omega)), ?_⟩ | (intro ep) | (refine ifB (fun hb => ?_) (fun hb => ?_) <;> (try simp only [decide_eq_true_eq, decide_eq_false_iff_not, beq_iff_eq, beq_eq_false_iff_ne, bne_iff_ne, bne_eq_false_iff_eq, ne_eq, not_false_eq_true, not_true_eq_false, Bool.not_eq_true, Bool.not_eq_true', Bool.not_eq_false', Int.not_lt, Int.not_le] at hb) <;> (try simp (disch := omega) only [wrapI] at hb) <;> (try (exfalso; omega))) | fail)))
            all_goals (conv => whnf)
            all_goals exact back_of ⟨21, by decide, hu⟩ ⟨rfl, rfl⟩
        · rw [if_pos ⟨rfl, .inr (nxD_none (by omega) _)⟩] at hu
          (repeat' (first | exact rfl | ((conv => whnf); first | refine optS hm ?_ | refine ⟨_, hts, ?_⟩ | refine ⟨_, hwi, ?_⟩ | exact rfl | refine ⟨by kernel_rfl, ?_⟩ | exact ⟨rfl, rfl⟩ | refine ⟨rfl, ?_⟩ | refine ⟨by (first | omega | (simp (disch := omega) only [wrapI]; omega) | (simp (disch := omega) only [wrapI]; simp; omega) | (simp; omega)), ?_⟩ | (intro ep) | (refine ifB (fun hb => ?_) (fun hb => ?_) <;> (try simp only [decide_eq_true_eq, decide_eq_false_iff_not, beq_iff_eq, beq_eq_false_iff_ne, bne_iff_ne, bne_eq_false_iff_eq, ne_eq, not_false_eq_true, not_true_eq_false, Bool.not_eq_true, Bool.not_eq_true', Bool.not_eq_false', Int.not_lt, Int.not_le] at hb) <;> (try simp (disch := omega) only [wrapI] at hb) <;> (try (exfalso; omega))) | fail)))
          all_goals (conv => whnf)
          all_goals exact back_of ⟨21, by decide, hu⟩ ⟨rfl, rfl⟩
    · simp only [decide_eq_false_iff_not] at g1
      have hk2 : k = l.length := by omega
      rw [List.drop_eq_nil_of_le (by omega), uns] at hu
      (repeat' (first | exact rfl | ((conv => whnf); first | exact rfl | refine ⟨by kernel_rfl, ?_⟩ | exact ⟨rfl, rfl⟩ | refine ⟨rfl, ?_⟩ | refine ⟨by (first | omega | (simp (disch := omega) only [wrapI]; omega) | (simp (disch := omega) only [wrapI]; simp; omega) | (simp; omega)), ?_⟩ | (intro ep) | fail)))
      all_goals (conv => whnf)
      refine back_of ⟨(e, acc, en), hu⟩ ⟨rfl, rfl, rfl⟩
  · rintro ⟨x, hx, hx2⟩
    (repeat' (first | exact rfl | ((conv => whnf); first | exact rfl | refine ⟨by kernel_rfl, ?_⟩ | exact ⟨rfl, rfl⟩ | refine ⟨rfl, ?_⟩ | refine ⟨by (first | omega | (simp (disch := omega) only [wrapI]; omega) | (simp (disch := omega) only [wrapI]; simp; omega) | (simp; omega)), ?_⟩ | (intro ep) | fail)))
    all_goals (conv => whnf)
    subst hx2
    unfold unsV
    simp [hx]
  · rintro ⟨⟨e, acc, en⟩, hu⟩
    (repeat' (first | exact rfl | ((conv => whnf); first | exact rfl | refine ⟨by kernel_rfl, ?_⟩ | exact ⟨rfl, rfl⟩ | refine ⟨rfl, ?_⟩ | refine ⟨by (first | omega | (simp (disch := omega) only [wrapI]; omega) | (simp (disch := omega) only [wrapI]; simp; omega) | (simp; omega)), ?_⟩ | (intro ep) | fail)))
    all_goals (conv => whnf)
    simp only at hu
    subst hu
    refine ⟨pure_tns acc, rfl, ?_⟩
    unfold unsV
    simp [tnsA]
end Go.Ab.V

/-
  Reading a written part, as the document says it. No condition but the length.
-/
namespace Go.Ab.V
open Go.Proofs

def A31 : Ann := fun r => match r with
  | 6 => { slots := [(4, 0)] }
  | 21 => { slots := [(6, 1), (7, 2)] }
  | _ => {}
set_option maxHeartbeats 8000000 in
set_option maxRecDepth 100000 in
theorem refUnset_spec (l : List Wr) (hl : l.length ≤ 10000) : PRet C.P 31 [wrsA l] (unsV (uns l [] 0 0)) := by
  obtain ⟨R, hR⟩ : ∃ R, R = uns l [] 0 0 := ⟨_, rfl⟩
  rw [← hR]
  refine pret_of ok mixed (A := A31) 3 Try.func31 rfl ?_
  (conv => whnf)
  (repeat' (first | exact rfl | ((conv => whnf); first | exact rfl | refine ⟨by kernel_rfl, ?_⟩ | exact ⟨rfl, rfl⟩ | refine ⟨rfl, ?_⟩ | refine ⟨by (first | omega | (simp (disch := omega) only [wrapI]; omega) | (simp (disch := omega) only [wrapI]; simp; omega) | (simp; omega)), ?_⟩ | (intro ep) | fail)))
  (conv => whnf)
  refine wk_lift 5 2 3 rfl ?_
  intro eA
  refine loopY ok mixed (A := A31) [0, 5, 6, 7, 8] [2] (S := { x : Nat × Nat × List Tn × Int × Int // x.1 ≤ l.length ∧ x.2.2.1.length ≤ 400 ∧ (0 ≤ x.2.2.2.1 ∧ x.2.2.2.1 ≤ 262144) ∧ uns (l.drop x.1) x.2.2.1 x.2.2.2.1 x.2.2.2.2 = R })
    (fr := fun s => frOf 0 83 [(0, wrsA l), (5, .oslc (.s 2) s.1.2.1 3 0 s.1.2.2.1.length false), (6, .int .i64 s.1.2.2.2.1), (7, .int .i64 s.1.2.2.2.2), (8, .int .i64 (s.1.1 : Int))])
    (h := fun s => ⟨[.hole, .hole, .vec s.1.2.1 (s.1.2.2.1.map tnR)], []⟩) (μ := fun s => l.length - s.1.1) ⟨(0, eA, [], 0, 0), by simp [hR]⟩ ?_ ?_
    [5, 6] [2] (S' := { x : Nat × List Tn × Int // (x.2.1, x.2.2, 0) = R }) (X := fun _ => 0)
    (frX := fun s => frOf 0 83 [(5, .oslc (.s 2) s.1.1 3 0 s.1.2.1.length false), (6, .int .i64 s.1.2.2)])
    (hX := fun s => ⟨[.hole, .hole, .vec s.1.1 (s.1.2.1.map tnR)], []⟩)
    [2, 3, 4] [] (S2 := { x : Int // x ≠ 0 ∧ ([], 0, x) = R })
    (frR := fun s => frOf 0 83 [(2, .nils), (3, .int .i64 0), (4, .int .i64 s.1)])
    (hR := fun s => ⟨[.hole, .hole, .hole], []⟩) ?_ ?_ ?_
  · exact rfl
  · exact rfl
  · rintro ⟨⟨k, e, acc, en, from0⟩, hk, hacc, hen, hu⟩
    simp only at hk hacc hen hu
    show aexR _ _ _ (frOf 0 83 [(0, wrsA l), (5, .oslc (.s 2) e 3 0 acc.length false), (6, .int .i64 en), (7, .int .i64 from0), (8, .int .i64 (k : Int))])
      ⟨[.hole, .hole, .vec e (acc.map tnR)], []⟩ _
    (conv => whnf)
    refine ifB (fun g1 => ?_) (fun g1 => ?_)
    · simp only [decide_eq_true_eq] at g1
      have hlt : k < l.length := by omega
      have hm := mapR (f := wrR) hlt
      rw [uns_cons hlt] at hu
      obtain ⟨w, hw⟩ : ∃ w, l[k] = w := ⟨_, rfl⟩
      rw [hw] at hm hu
      obtain ⟨p, v, d, t, y⟩ := w
      simp only at hu
      have hT := ticks_rng v d t
      have hts := refTicks_spec v d t
      obtain ⟨T, hTT⟩ : ∃ T, ticks v d t = T := ⟨_, rfl⟩
      rw [hTT] at hu hT hts
      replace hm : (l.map wrR)[0 + ((k : Nat) : Int).toNat]? = some [.int .i64 p, .int .i64 v, .bool d, .bool t, .bool y] := hm
      by_cases c1 : p < -1 ∨ 127 < p
      · rw [if_pos c1] at hu
        cases y <;> (repeat' (first | exact rfl | ((conv => whnf); first | refine optS hm ?_ | refine ⟨_, hts, ?_⟩ | exact rfl | refine ⟨by kernel_rfl, ?_⟩ | exact ⟨rfl, rfl⟩ | refine ⟨rfl, ?_⟩ | refine ⟨by (first | omega | (simp (disch := omega) only [wrapI]; omega) | (simp (disch := omega) only [wrapI]; simp; omega) | (simp; omega)), ?_⟩ | (intro ep) | (refine ifB (fun hb => ?_) (fun hb => ?_) <;> (try simp only [decide_eq_true_eq, decide_eq_false_iff_not, beq_iff_eq, beq_eq_false_iff_ne, bne_iff_ne, bne_eq_false_iff_eq, ne_eq, not_false_eq_true, not_true_eq_false, Bool.not_eq_true, Bool.not_eq_true', Bool.not_eq_false', Int.not_lt, Int.not_le] at hb) <;> (try simp (disch := omega) only [wrapI] at hb) <;> (try (exfalso; omega))) | fail)))
        all_goals (conv => whnf)
        all_goals exact back_of ⟨80, by decide, hu⟩ ⟨rfl, rfl⟩
      rw [if_neg c1] at hu
      by_cases c2 : T = 0
      · rw [if_pos c2] at hu
        subst c2
        cases y <;> (repeat' (first | exact rfl | ((conv => whnf); first | refine optS hm ?_ | refine ⟨_, hts, ?_⟩ | exact rfl | refine ⟨by kernel_rfl, ?_⟩ | exact ⟨rfl, rfl⟩ | refine ⟨rfl, ?_⟩ | refine ⟨by (first | omega | (simp (disch := omega) only [wrapI]; omega) | (simp (disch := omega) only [wrapI]; simp; omega) | (simp; omega)), ?_⟩ | (intro ep) | (refine ifB (fun hb => ?_) (fun hb => ?_) <;> (try simp only [decide_eq_true_eq, decide_eq_false_iff_not, beq_iff_eq, beq_eq_false_iff_ne, bne_iff_ne, bne_eq_false_iff_eq, ne_eq, not_false_eq_true, not_true_eq_false, Bool.not_eq_true, Bool.not_eq_true', Bool.not_eq_false', Int.not_lt, Int.not_le] at hb) <;> (try simp (disch := omega) only [wrapI] at hb) <;> (try (exfalso; omega))) | fail)))
        all_goals (conv => whnf)
        all_goals exact back_of ⟨25, by decide, hu⟩ ⟨rfl, rfl⟩
      rw [if_neg c2] at hu
      have t3 : List.take acc.length (List.drop 0 (acc.map tnR)) = acc.map tnR := by rw [List.drop_zero, List.take_of_length_le (by simp)]
      cases y
      · rw [if_neg (by simp)] at hu
        by_cases c3 : 262144 < en + T
        · rw [if_pos (.inl c3)] at hu
          (repeat' (first | exact rfl | ((conv => whnf); first | refine optS hm ?_ | refine ⟨_, hts, ?_⟩ | exact rfl | refine ⟨by kernel_rfl, ?_⟩ | exact ⟨rfl, rfl⟩ | refine ⟨rfl, ?_⟩ | refine ⟨by (first | omega | (simp (disch := omega) only [wrapI]; omega) | (simp (disch := omega) only [wrapI]; simp; omega) | (simp; omega)), ?_⟩ | (intro ep) | (refine ifB (fun hb => ?_) (fun hb => ?_) <;> (try simp only [decide_eq_true_eq, decide_eq_false_iff_not, beq_iff_eq, beq_eq_false_iff_ne, bne_iff_ne, bne_eq_false_iff_eq, ne_eq, not_false_eq_true, not_true_eq_false, Bool.not_eq_true, Bool.not_eq_true', Bool.not_eq_false', Int.not_lt, Int.not_le] at hb) <;> (try simp (disch := omega) only [wrapI] at hb) <;> (try (exfalso; omega))) | fail)))
          all_goals (conv => whnf)
          all_goals exact back_of ⟨2, by decide, hu⟩ ⟨rfl, rfl⟩
        by_cases c4 : 0 ≤ p
        · by_cases c5 : acc.length = 400
          · rw [if_pos (.inr ⟨c4, rfl, c5⟩)] at hu
            (repeat' (first | exact rfl | ((conv => whnf); first | refine optS hm ?_ | refine ⟨_, hts, ?_⟩ | exact rfl | refine ⟨by kernel_rfl, ?_⟩ | exact ⟨rfl, rfl⟩ | refine ⟨rfl, ?_⟩ | refine ⟨by (first | omega | (simp (disch := omega) only [wrapI]; omega) | (simp (disch := omega) only [wrapI]; simp; omega) | (simp; omega)), ?_⟩ | (intro ep) | (refine ifB (fun hb => ?_) (fun hb => ?_) <;> (try simp only [decide_eq_true_eq, decide_eq_false_iff_not, beq_iff_eq, beq_eq_false_iff_ne, bne_iff_ne, bne_eq_false_iff_eq, ne_eq, not_false_eq_true, not_true_eq_false, Bool.not_eq_true, Bool.not_eq_true', Bool.not_eq_false', Int.not_lt, Int.not_le] at hb) <;> (try simp (disch := omega) only [wrapI] at hb) <;> (try (exfalso; omega))) | fail)))
            all_goals (conv => whnf)
            all_goals exact back_of ⟨2, by decide, hu⟩ ⟨rfl, rfl⟩
          · rw [if_neg (by omega), if_pos ⟨c4, rfl⟩, if_neg (by simp)] at hu
            (repeat' (first | exact rfl | ((conv => whnf); first | refine optS hm ?_ | refine ⟨_, hts, ?_⟩ | exact rfl | refine ⟨by kernel_rfl, ?_⟩ | exact ⟨rfl, rfl⟩ | refine ⟨rfl, ?_⟩ | refine ⟨by (first | omega | (simp (disch := omega) only [wrapI]; omega) | (simp (disch := omega) only [wrapI]; simp; omega) | (simp; omega)), ?_⟩ | (intro ep) | (refine ifB (fun hb => ?_) (fun hb => ?_) <;> (try simp only [decide_eq_true_eq, decide_eq_false_iff_not, beq_iff_eq, beq_eq_false_iff_ne, bne_iff_ne, bne_eq_false_iff_eq, ne_eq, not_false_eq_true, not_true_eq_false, Bool.not_eq_true, Bool.not_eq_true', Bool.not_eq_false', Int.not_lt, Int.not_le] at hb) <;> (try simp (disch := omega) only [wrapI] at hb) <;> (try (exfalso; omega))) | fail)))
            all_goals (conv => whnf)
            refine back_of ⟨(k + 1, ep, acc ++ [⟨p, from0, en + T⟩], en + T, en + T), by simp only; omega, by simp only [List.length_append, List.length_cons, List.length_nil]; omega, by simp only; omega, hu⟩ ⟨?_, ?_, by simp only; omega⟩
            · have e1 : (acc ++ [(⟨p, from0, en + T⟩ : Tn)]).length = acc.length + 1 := by simp
              show maskF 0 _ _ = frOf 0 83 [(0, wrsA l), (5, .oslc (.s 2) ep 3 0 (acc ++ [(⟨p, from0, en + T⟩ : Tn)]).length false), (6, .int .i64 (en + T)), (7, .int .i64 (en + T)), (8, .int .i64 ((k + 1 : Nat) : Int))]
              rw [e1]
              (first | exact rfl | (simp (disch := omega) only [wrapI]; exact rfl))
            · have e1 : (acc ++ [(⟨p, from0, en + T⟩ : Tn)]).map tnR = List.take acc.length (List.drop 0 (acc.map tnR)) ++ [[.int .i64 p, .int .i64 from0, .int .i64 (en + T)]] := by rw [t3]; simp [tnR]
              show maskH 0 _ _ = ⟨[.hole, .hole, .vec ep ((acc ++ [(⟨p, from0, en + T⟩ : Tn)]).map tnR)], []⟩
              rw [e1]
              (first | exact rfl | (simp (disch := omega) only [wrapI]; exact rfl))
        · rw [if_neg (by omega), if_neg (by omega), if_neg (by simp)] at hu
          (repeat' (first | exact rfl | ((conv => whnf); first | refine optS hm ?_ | refine ⟨_, hts, ?_⟩ | exact rfl | refine ⟨by kernel_rfl, ?_⟩ | exact ⟨rfl, rfl⟩ | refine ⟨rfl, ?_⟩ | refine ⟨by (first | omega | (simp (disch := omega) only [wrapI]; omega) | (simp (disch := omega) only [wrapI]; simp; omega) | (simp; omega)), ?_⟩ | (intro ep) | (refine ifB (fun hb => ?_) (fun hb => ?_) <;> (try simp only [decide_eq_true_eq, decide_eq_false_iff_not, beq_iff_eq, beq_eq_false_iff_ne, bne_iff_ne, bne_eq_false_iff_eq, ne_eq, not_false_eq_true, not_true_eq_false, Bool.not_eq_true, Bool.not_eq_true', Bool.not_eq_false', Int.not_lt, Int.not_le] at hb) <;> (try simp (disch := omega) only [wrapI] at hb) <;> (try (exfalso; omega))) | fail)))
          all_goals (conv => whnf)
          all_goals exact back_of ⟨(k + 1, e, acc, en + T, en + T), by simp only; omega, hacc, by simp only; omega, hu⟩ ⟨by (first | exact rfl | (simp (disch := omega) only [wrapI]; exact rfl)), rfl, by simp only; omega⟩
      · by_cases c4 : p < 0
        · rw [if_pos ⟨rfl, .inl c4⟩] at hu
          (repeat' (first | exact rfl | ((conv => whnf); first | refine optS hm ?_ | refine ⟨_, hts, ?_⟩ | exact rfl | refine ⟨by kernel_rfl, ?_⟩ | exact ⟨rfl, rfl⟩ | refine ⟨rfl, ?_⟩ | refine ⟨by (first | omega | (simp (disch := omega) only [wrapI]; omega) | (simp (disch := omega) only [wrapI]; simp; omega) | (simp; omega)), ?_⟩ | (intro ep) | (refine ifB (fun hb => ?_) (fun hb => ?_) <;> (try simp only [decide_eq_true_eq, decide_eq_false_iff_not, beq_iff_eq, beq_eq_false_iff_ne, bne_iff_ne, bne_eq_false_iff_eq, ne_eq, not_false_eq_true, not_true_eq_false, Bool.not_eq_true, Bool.not_eq_true', Bool.not_eq_false', Int.not_lt, Int.not_le] at hb) <;> (try simp (disch := omega) only [wrapI] at hb) <;> (try (exfalso; omega))) | fail)))
          all_goals (conv => whnf)
          all_goals exact back_of ⟨21, by decide, hu⟩ ⟨rfl, rfl⟩
        by_cases c5 : k + 1 < l.length
        · have hm1 := mapR (f := wrR) c5
          rw [nxD_some c5] at hu
          generalize l[k + 1] = w1 at hm1 hu
          obtain ⟨p1, v1, d1, t1, y1⟩ := w1
          simp only at hu
          replace hm1 : (l.map wrR)[0 + (IntKind.i64.wrap ((k : Nat) + 1 : Int)).toNat]? = some [.int .i64 p1, .int .i64 v1, .bool d1, .bool t1, .bool y1] := by
            rw [wrapI (by omega) (by omega)]; exact hm1
          by_cases c6 : p1 = p
          · rw [if_neg (by simp [c6, c4])] at hu
            subst c6
            by_cases c3 : 262144 < en + T
            · rw [if_pos (.inl c3)] at hu
              (repeat' (first | exact rfl | ((conv => whnf); first | refine optS hm ?_ | refine optS hm1 ?_ | refine ⟨_, hts, ?_⟩ | exact rfl | refine ⟨by kernel_rfl, ?_⟩ | exact ⟨rfl, rfl⟩ | refine ⟨rfl, ?_⟩ | refine ⟨by (first | omega | (simp (disch := omega) only [wrapI]; omega) | (simp (disch := omega) only [wrapI]; simp; omega) | (simp; omega)), ?_⟩ | (intro ep) | (refine ifB (fun hb => ?_) (fun hb => ?_) <;> (try simp only [decide_eq_true_eq, decide_eq_false_iff_not, beq_iff_eq, beq_eq_false_iff_ne, bne_iff_ne, bne_eq_false_iff_eq, ne_eq, not_false_eq_true, not_true_eq_false, Bool.not_eq_true, Bool.not_eq_true', Bool.not_eq_false', Int.not_lt, Int.not_le] at hb) <;> (try simp (disch := omega) only [wrapI] at hb) <;> (try (exfalso; omega))) | fail)))
              all_goals (conv => whnf)
              all_goals exact back_of ⟨2, by decide, hu⟩ ⟨rfl, rfl⟩
            · rw [if_neg (by simp; omega), if_neg (by simp), if_pos trivial] at hu
              (repeat' (first | exact rfl | ((conv => whnf); first | refine optS hm ?_ | refine optS hm1 ?_ | refine ⟨_, hts, ?_⟩ | exact rfl | refine ⟨by kernel_rfl, ?_⟩ | exact ⟨rfl, rfl⟩ | refine ⟨rfl, ?_⟩ | refine ⟨by (first | omega | (simp (disch := omega) only [wrapI]; omega) | (simp (disch := omega) only [wrapI]; simp; omega) | (simp; omega)), ?_⟩ | (intro ep) | (refine ifB (fun hb => ?_) (fun hb => ?_) <;> (try simp only [decide_eq_true_eq, decide_eq_false_iff_not, beq_iff_eq, beq_eq_false_iff_ne, bne_iff_ne, bne_eq_false_iff_eq, ne_eq, not_false_eq_true, not_true_eq_false, Bool.not_eq_true, Bool.not_eq_true', Bool.not_eq_false', Int.not_lt, Int.not_le] at hb) <;> (try simp (disch := omega) only [wrapI] at hb) <;> (try (exfalso; omega))) | fail)))
              all_goals (conv => whnf)
              all_goals exact back_of ⟨(k + 1, e, acc, en + T, from0), by simp only; omega, hacc, by simp only; omega, hu⟩ ⟨by (first | exact rfl | (simp (disch := omega) only [wrapI]; exact rfl)), rfl, by simp only; omega⟩
          · rw [if_pos ⟨trivial, .inr (by simp [c6])⟩] at hu
            (repeat' (first | exact rfl | ((conv => whnf); first | refine optS hm ?_ | refine optS hm1 ?_ | refine ⟨_, hts, ?_⟩ | exact rfl | refine ⟨by kernel_rfl, ?_⟩ | exact ⟨rfl, rfl⟩ | refine ⟨rfl, ?_⟩ | refine ⟨by (first | omega | (simp (disch := omega) only [wrapI]; omega) | (simp (disch := omega) only [wrapI]; simp; omega) | (simp; omega)), ?_⟩ | (intro ep) | (refine ifB (fun hb => ?_) (fun hb => ?_) <;> (try simp only [decide_eq_true_eq, decide_eq_false_iff_not, beq_iff_eq, beq_eq_false_iff_ne, bne_iff_ne, bne_eq_false_iff_eq, ne_eq, not_false_eq_true, not_true_eq_false, Bool.not_eq_true, Bool.not_eq_true', Bool.not_eq_false', Int.not_lt, Int.not_le] at hb) <;> (try simp (disch := omega) only [wrapI] at hb) <;> (try (exfalso; omega))) | fail)))
            all_goals (conv => whnf)
            all_goals exact back_of ⟨21, by decide, hu⟩ ⟨rfl, rfl⟩
        · rw [if_pos ⟨rfl, .inr (nxD_none (by omega) _)⟩] at hu
          (repeat' (first | exact rfl | ((conv => whnf); first | refine optS hm ?_ | refine ⟨_, hts, ?_⟩ | exact rfl | refine ⟨by kernel_rfl, ?_⟩ | exact ⟨rfl, rfl⟩ | refine ⟨rfl, ?_⟩ | refine ⟨by (first | omega | (simp (disch := omega) only [wrapI]; omega) | (simp (disch := omega) only [wrapI]; simp; omega) | (simp; omega)), ?_⟩ | (intro ep) | (refine ifB (fun hb => ?_) (fun hb => ?_) <;> (try simp only [decide_eq_true_eq, decide_eq_false_iff_not, beq_iff_eq, beq_eq_false_iff_ne, bne_iff_ne, bne_eq_false_iff_eq, ne_eq, not_false_eq_true, not_true_eq_false, Bool.not_eq_true, Bool.not_eq_true', Bool.not_eq_false', Int.not_lt, Int.not_le] at hb) <;> (try simp (disch := omega) only [wrapI] at hb) <;> (try (exfalso; omega))) | fail)))
          all_goals (conv => whnf)
          all_goals exact back_of ⟨21, by decide, hu⟩ ⟨rfl, rfl⟩
    · simp only [decide_eq_false_iff_not] at g1
      have hk2 : k = l.length := by omega
      rw [List.drop_eq_nil_of_le (by omega), uns] at hu
      (repeat' (first | exact rfl | ((conv => whnf); first | exact rfl | refine ⟨by kernel_rfl, ?_⟩ | exact ⟨rfl, rfl⟩ | refine ⟨rfl, ?_⟩ | refine ⟨by (first | omega | (simp (disch := omega) only [wrapI]; omega) | (simp (disch := omega) only [wrapI]; simp; omega) | (simp; omega)), ?_⟩ | (intro ep) | fail)))
      all_goals (conv => whnf)
      refine back_of ⟨(e, acc, en), hu⟩ ⟨rfl, rfl, rfl⟩
  · rintro ⟨x, hx, hx2⟩
    (repeat' (first | exact rfl | ((conv => whnf); first | exact rfl | refine ⟨by kernel_rfl, ?_⟩ | exact ⟨rfl, rfl⟩ | refine ⟨rfl, ?_⟩ | refine ⟨by (first | omega | (simp (disch := omega) only [wrapI]; omega) | (simp (disch := omega) only [wrapI]; simp; omega) | (simp; omega)), ?_⟩ | (intro ep) | fail)))
    all_goals (conv => whnf)
    subst hx2
    unfold unsV
    simp [hx]
  · rintro ⟨⟨e, acc, en⟩, hu⟩
    (repeat' (first | exact rfl | ((conv => whnf); first | exact rfl | refine ⟨by kernel_rfl, ?_⟩ | exact ⟨rfl, rfl⟩ | refine ⟨rfl, ?_⟩ | refine ⟨by (first | omega | (simp (disch := omega) only [wrapI]; omega) | (simp (disch := omega) only [wrapI]; simp; omega) | (simp; omega)), ?_⟩ | (intro ep) | fail)))
    all_goals (conv => whnf)
    simp only at hu
    subst hu
    refine ⟨pure_tns acc, rfl, ?_⟩
    unfold unsV
    simp [tnsA]
end Go.Ab.V
