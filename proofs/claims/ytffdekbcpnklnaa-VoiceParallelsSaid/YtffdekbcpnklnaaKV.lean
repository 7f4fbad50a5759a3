/-
  What is proved here serves the law's text: each part says its own claim and its conditions. No condition is left open.
-/
import Derived.Test.YtffdekbcpnklnaaKU
import Derived.Test.YtffdekbcpnklnaaKM
set_option linter.unusedSimpArgs false
set_option linter.unusedVariables false

/-
  Parallels: plain definitions, the program's walk and the document's. No condition but the lengths.
-/
namespace Go.Ab.V
open Go.Proofs

/-- a fault -/
structure Ft where
  u : Int
  l : Int
  tm : Int
  c : Int
def ftR (x : Ft) : List AV := [.int .i64 x.u, .int .i64 x.l, .int .i64 x.tm, .int .i64 x.c]
def ftsA (l : List Ft) : AV := .lslc 4 (l.map ftR) 0 l.length false
/-- the class of an interval -/
def cls (i : Int) : Int := Int.tmod (if i < -i then -i else i) 12
abbrev bad (m n : Mt) : Prop := (n.mo = 3 ∨ n.mo = 4) ∧ (cls n.iv = 0 ∨ cls n.iv = 7) ∧ cls n.iv = cls m.iv
def scanF (a b : Int) : List Mt → List Ft
  | [] => []
  | m :: r => match r with
    | [] => []
    | n :: q => if bad m n then ⟨a, b, n.tm, cls n.iv⟩ :: scanF a b r else scanF a b r
def inB (p : List Tn) (a : Nat) : Nat → List (List Tn) → List Ft
  | _, [] => []
  | k, q :: r => scanF (a + 1 : Nat) (k + 1 : Nat) (meets p q) ++ inB p a (k + 1) r
def outA : Nat → List (List Tn) → List Ft
  | _, [] => []
  | a, p :: r => inB p a (a + 1) r ++ outA (a + 1) r
def parV (P : List (List Tn)) : AV := if chkP P ≠ 0 then .tup [.nils, .int .i64 (chkP P)] else .tup [ftsA (outA 0 P), .int .i64 0]
theorem scan_cons {a b : Int} {L : List Mt} {j : Nat} (h : j + 1 < L.length) : scanF a b (L.drop j) = if bad L[j] L[j + 1] then ⟨a, b, L[j + 1].tm, cls L[j + 1].iv⟩ :: scanF a b (L.drop (j + 1)) else scanF a b (L.drop (j + 1)) := by
  rw [List.drop_eq_getElem_cons (by omega : j < L.length), List.drop_eq_getElem_cons h, scanF]
theorem scan_end {a b : Int} {L : List Mt} {j : Nat} (h : L.length ≤ j + 1) : scanF a b (L.drop j) = [] := by
  by_cases c : j < L.length
  · rw [List.drop_eq_getElem_cons c, List.drop_eq_nil_of_le h, scanF]
  · rw [List.drop_eq_nil_of_le (by omega), scanF]
theorem scan_len (a b : Int) : ∀ (L : List Mt), (scanF a b L).length ≤ L.length
  | [] => by simp [scanF]
  | [m] => by simp [scanF]
  | m :: n :: q => by
    have := scan_len a b (n :: q)
    rw [scanF]
    split
    · simp only [List.length_cons] at *; omega
    · simp only [List.length_cons] at *; omega
theorem inB_len (p : List Tn) (a : Nat) (hp : p.length ≤ 400) : ∀ (r : List (List Tn)) (k : Nat), (∀ q ∈ r, q.length ≤ 400) → (inB p a k r).length ≤ 800 * r.length
  | [], k, _ => by simp [inB]
  | q :: r, k, h => by
    rw [inB, List.length_append, List.length_cons]
    have h1 := scan_len (a + 1 : Nat) (k + 1 : Nat) (meets p q)
    have h2 := meets_len p q
    have h3 := h q (by simp)
    have h4 := inB_len p a hp r (k + 1) fun q hq => h q (by simp [hq])
    omega
theorem outA_len : ∀ (r : List (List Tn)) (a : Nat), (∀ q ∈ r, q.length ≤ 400) → r.length ≤ 6 → (outA a r).length ≤ 4800 * r.length
  | [], a, _, _ => by simp [outA]
  | p :: r, a, h, h6 => by
    simp only [List.length_cons] at h6
    rw [outA, List.length_append, List.length_cons]
    have h1 := inB_len p a (h p (by simp)) r (a + 1) fun q hq => h q (by simp [hq])
    have h2 := outA_len r (a + 1) (fun q hq => h q (by simp [hq])) (by omega)
    omega
theorem chkAll {P : List (List Tn)} (h : chkP P = 0) : P.length ≤ 6 ∧ ∀ p ∈ P, p.length ≤ 400 ∧ good 0 p ∧ chkP [p] = 0 := by
  unfold chkP at h
  split at h
  · omega
  split at h
  · omega
  split at h
  · rename_i h0 h1 h2
    refine ⟨by omega, fun p hp => ?_⟩
    have a : p.length ≤ 400 := by
      unfold anyB at h1
      by_cases c : 400 < p.length
      · exact absurd (List.any_eq_true.2 ⟨p, hp, by simpa using c⟩) h1
      · omega
    have b : rgt 0 p = true := List.all_eq_true.1 h2 p hp
    refine ⟨a, good_of b, ?_⟩
    unfold chkP anyB
    simp [b]; omega
  · omega
theorem ivB {u l : List Tn} (hu : good 0 u) (hl : good 0 l) : ∀ m ∈ meets u l, -127 ≤ m.iv ∧ m.iv ≤ 127 := fun m hm => by
  obtain ⟨-, h1, h2, h3⟩ := meetP_mem u l _ none m hm
  have := atR_le m.tm hu
  have := atR_le m.tm hl
  omega
theorem cls_f {i : Int} : Int.tmod (if (if true = true then i < 0 - i else 0 - i < i) then 0 - i else i) 12 = cls i := by unfold cls; simp
def A73 : Ann := fun r => match r with
  | 0 => { slots := [(0, 0)] }
  | _ => {}
theorem class73 (m : Mt) (h : -127 ≤ m.iv ∧ m.iv ≤ 127) : PRet C.P 73 [.agg (mtR m)] (.int .i64 (cls m.iv)) := by
  obtain ⟨x, y, z⟩ := m
  simp only at h ⊢
  rw [← cls_f]
  refine pret_of ok mixed (A := A73) 1 Try.func73 rfl ?_
  (conv => whnf)
  intro e0
  (repeat' (first | exact rfl | ((conv => whnf); first | exact rfl | exact ⟨rfl, rfl⟩ | refine ⟨(by kernel_rfl : drawOk _ _ _ _ = true), ?_⟩ | refine ⟨(by kernel_rfl : planOk _ _ _ _ = true), ?_⟩ | refine ⟨rfl, ?_⟩ | refine ⟨by (first | omega | (simp (disch := omega) only [wrapI]; omega) | (simp (disch := omega) only [wrapI]; simp; omega) | (simp; omega)), ?_⟩ | (intro ep) | (refine ifB (fun hb => ?_) (fun hb => ?_) <;> (try simp only [decide_eq_true_eq, decide_eq_false_iff_not, beq_iff_eq, beq_eq_false_iff_ne, bne_iff_ne, bne_eq_false_iff_eq, ne_eq, not_false_eq_true, not_true_eq_false, Bool.not_eq_true, Bool.not_eq_true', Bool.not_eq_false', Int.not_lt, Int.not_le] at hb) <;> (try simp (disch := omega) only [wrapI] at hb) <;> (try (exfalso; omega))) | fail)))
  all_goals (conv => whnf)
  all_goals (refine congrArg (AV.int .i64) ?_; simp only; simp (disch := omega) only [wrapI])

def A43 : Ann := fun r => match r with
  | 18 => { slots := [(12, 0), (13, 1)] }
  | _ => {}
set_option maxHeartbeats 16000000 in
set_option maxRecDepth 100000 in
theorem par43 (P : List (List Tn)) (hl : P.length ≤ 9223372036854775807) (hp : ∀ p ∈ P, p.length ≤ 9223372036854775807) : PRet C.P 43 [prtsA P] (parV P) := by
  have hC := checkParts_spec P (by omega) (fun p h => by have := hp p h; omega)
  unfold parV
  by_cases c1 : chkP P ≠ 0
  · rw [if_pos c1]
    generalize chkP P = e at hC c1
    refine pret_of ok mixed (A := A43) 2 Try.func43 rfl ?_
    (repeat' (first | exact rfl | ((conv => whnf); first | refine ⟨_, hC, ?_⟩ | exact rfl | exact ⟨rfl, rfl⟩ | refine ⟨(by kernel_rfl : drawOk _ _ _ _ = true), ?_⟩ | refine ⟨(by kernel_rfl : planOk _ _ _ _ = true), ?_⟩ | refine ⟨rfl, ?_⟩ | refine ⟨by (first | omega | (simp (disch := omega) only [wrapI]; omega) | (simp (disch := omega) only [wrapI]; simp; omega) | (simp; omega)), ?_⟩ | (intro ep) | (refine ifB (fun hb => ?_) (fun hb => ?_) <;> (try simp only [decide_eq_true_eq, decide_eq_false_iff_not, beq_iff_eq, beq_eq_false_iff_ne, bne_iff_ne, bne_eq_false_iff_eq, ne_eq, not_false_eq_true, not_true_eq_false, Bool.not_eq_true, Bool.not_eq_true', Bool.not_eq_false', Int.not_lt, Int.not_le] at hb) <;> (try simp (disch := omega) only [wrapI] at hb) <;> (try (exfalso; omega))) | fail)))
  rw [if_neg c1]
  have c1 : chkP P = 0 := by omega
  rw [c1] at hC
  obtain ⟨h6, hall⟩ := chkAll c1
  obtain ⟨R, hR⟩ : ∃ R, R = outA 0 P := ⟨_, rfl⟩
  have hRl : R.length ≤ 30000 := by rw [hR]; have := outA_len P 0 (fun q hq => (hall q hq).1) h6; omega
  rw [← hR]
  refine pret_of ok mixed (A := A43) 2 Try.func43 rfl ?_
  (repeat' (first | exact rfl | ((conv => whnf); first | refine ⟨_, hC, ?_⟩ | exact rfl | exact ⟨rfl, rfl⟩ | refine ⟨(by kernel_rfl : drawOk _ _ _ _ = true), ?_⟩ | refine ⟨(by kernel_rfl : planOk _ _ _ _ = true), ?_⟩ | refine ⟨rfl, ?_⟩ | refine ⟨by (first | omega | (simp (disch := omega) only [wrapI]; omega) | (simp (disch := omega) only [wrapI]; simp; omega) | (simp; omega)), ?_⟩ | (intro ep) | (refine ifB (fun hb => ?_) (fun hb => ?_) <;> (try simp only [decide_eq_true_eq, decide_eq_false_iff_not, beq_iff_eq, beq_eq_false_iff_ne, bne_iff_ne, bne_eq_false_iff_eq, ne_eq, not_false_eq_true, not_true_eq_false, Bool.not_eq_true, Bool.not_eq_true', Bool.not_eq_false', Int.not_lt, Int.not_le] at hb) <;> (try simp (disch := omega) only [wrapI] at hb) <;> (try (exfalso; omega))) | fail)))
  all_goals (conv => whnf)
  refine wk_lift 2 1 4 rfl ?_
  intro e1
  refine loopY ok mixed (A := A43) [0, 2, 17, 18] [1] (S := { z : Nat × List Ft × Nat // z.1 ≤ P.length ∧ z.2.1 ++ outA z.1 (P.drop z.1) = R })
    (fr := fun z => frOf 0 103 [(0, prtsA P), (2, .oslc (.s 1) z.1.2.2 4 0 z.1.2.1.length false), (17, .int .i64 (P.length : Int)), (18, .int .i64 (z.1.1 : Int))])
    (h := fun z => ⟨[.hole, .vec z.1.2.2 (z.1.2.1.map ftR)], []⟩) (μ := fun z => P.length - z.1.1) ⟨(0, [], e1), Nat.zero_le _, by simp [hR]⟩ ?_ ?_
    [2] [1] (S' := Nat) (X := fun _ => 0) (frX := fun e => frOf 0 103 [(2, .oslc (.s 1) e 4 0 R.length false)]) (hX := fun e => ⟨[.hole, .vec e (R.map ftR)], []⟩)
    [] [] (S2 := Empty) (frR := fun s => frOf 0 103 []) (hR := fun s => ⟨[], []⟩) ?_ ?_ ?_
  · exact rfl
  · exact rfl
  · rintro ⟨⟨a, out, ep⟩, ha, hz⟩
    simp only at ha hz
    show aexR _ _ _ (frOf 0 103 [(0, prtsA P), (2, .oslc (.s 1) ep 4 0 out.length false), (17, .int .i64 (P.length : Int)), (18, .int .i64 (a : Int))]) ⟨[.hole, .vec ep (out.map ftR)], []⟩ _
    (conv => whnf)
    refine ifB (fun g1 => ?_) (fun g1 => ?_)
    · simp only [decide_eq_true_eq] at g1
      have h1 : a < P.length := by omega
      have hm1 := mapR (f := fun p => [tnsA p]) h1
      have pp := hall P[a] (List.getElem_mem h1)
      rw [List.drop_eq_getElem_cons h1, outA] at hz
      generalize P[a] = p at hm1 pp hz
      obtain ⟨Z, hZ⟩ : ∃ Z, Z = outA (a + 1) (P.drop (a + 1)) := ⟨_, rfl⟩
      rw [← hZ, ← List.append_assoc] at hz
      obtain ⟨Y, hY⟩ : ∃ Y, Y = out ++ inB p a (a + 1) (P.drop (a + 1)) := ⟨_, rfl⟩
      rw [← hY] at hz
      have hYl : Y.length ≤ 30000 := by have := congrArg List.length hz; rw [List.length_append] at this; omega
      (repeat' (first | exact rfl | ((conv => whnf); first | exact rfl | exact ⟨rfl, rfl⟩ | refine ⟨(by kernel_rfl : drawOk _ _ _ _ = true), ?_⟩ | refine ⟨(by kernel_rfl : planOk _ _ _ _ = true), ?_⟩ | refine ⟨rfl, ?_⟩ | refine ⟨by (first | omega | (simp (disch := omega) only [wrapI]; omega) | (simp (disch := omega) only [wrapI]; simp; omega) | (simp; omega)), ?_⟩ | (intro ep) | (refine ifB (fun hb => ?_) (fun hb => ?_) <;> (try simp only [decide_eq_true_eq, decide_eq_false_iff_not, beq_iff_eq, beq_eq_false_iff_ne, bne_iff_ne, bne_eq_false_iff_eq, ne_eq, not_false_eq_true, not_true_eq_false, Bool.not_eq_true, Bool.not_eq_true', Bool.not_eq_false', Int.not_lt, Int.not_le] at hb) <;> (try simp (disch := omega) only [wrapI] at hb) <;> (try (exfalso; omega))) | fail)))
      all_goals (conv => whnf)
      refine loopY ok mixed (A := A43) [0, 2, 5, 6, 17, 18] [1] (S := { z : Nat × List Ft × Nat // a < z.1 ∧ z.1 ≤ P.length ∧ z.2.1 ++ inB p a z.1 (P.drop z.1) = Y })
        (fr := fun z => frOf 0 103 [(0, prtsA P), (2, .oslc (.s 1) z.1.2.2 4 0 z.1.2.1.length false), (5, .int .i64 (a : Int)), (6, .int .i64 (z.1.1 : Int)), (17, .int .i64 (P.length : Int)), (18, .int .i64 (a : Int))])
        (h := fun z => ⟨[.hole, .vec z.1.2.2 (z.1.2.1.map ftR)], []⟩) (μ := fun z => P.length - z.1.1) ⟨(a + 1, out, ep), by simp only; omega, by simp only; omega, hY.symm⟩ ?_ ?_
        [0, 2, 17, 18] [1] (S' := Nat) (X := fun _ => 2) (frX := fun e => frOf 0 103 [(0, prtsA P), (2, .oslc (.s 1) e 4 0 Y.length false), (17, .int .i64 (P.length : Int)), (18, .int .i64 (a : Int))]) (hX := fun e => ⟨[.hole, .vec e (Y.map ftR)], []⟩)
        [] [] (S2 := Empty) (frR := fun s => frOf 0 103 []) (hR := fun s => ⟨[], []⟩) ?_ ?_ ?_
      · (conv => whnf); (first | exact rfl | (simp (disch := omega) only [wrapI]; exact rfl))
      · exact rfl
      · rintro ⟨⟨k, out, ep⟩, hak, hk, hz⟩
        simp only at hak hk hz
        show aexR _ _ _ (frOf 0 103 [(0, prtsA P), (2, .oslc (.s 1) ep 4 0 out.length false), (5, .int .i64 (a : Int)), (6, .int .i64 (k : Int)), (17, .int .i64 (P.length : Int)), (18, .int .i64 (a : Int))]) ⟨[.hole, .vec ep (out.map ftR)], []⟩ _
        (conv => whnf)
        refine ifB (fun g2 => ?_) (fun g2 => ?_)
        · simp only [decide_eq_true_eq] at g2
          have h2 : k < P.length := by omega
          have hm2 := mapR (f := fun p => [tnsA p]) h2
          have qq := hall P[k] (List.getElem_mem h2)
          rw [List.drop_eq_getElem_cons h2, inB] at hz
          generalize P[k] = q at hm2 qq hz
          have hM := meet40 p q (by omega) (by omega)
          rw [show meetV p q = .tup [mtsA (meets p q), .int .i64 0] by unfold meetV; rw [if_neg (by simp [pp.2.2]), if_neg (by simp [qq.2.2])]] at hM
          have hiv := ivB pp.2.1 qq.2.1
          have hLl := meets_len p q
          obtain ⟨Z2, hZ2⟩ : ∃ Z2, Z2 = inB p a (k + 1) (P.drop (k + 1)) := ⟨_, rfl⟩
          rw [← hZ2, ← List.append_assoc] at hz
          generalize meets p q = L at hM hz hiv hLl
          obtain ⟨X, hX⟩ : ∃ X, X = out ++ scanF (a + 1 : Nat) (k + 1 : Nat) L := ⟨_, rfl⟩
          rw [← hX] at hz
          have hXl : X.length ≤ 30000 := by have := congrArg List.length hz; rw [List.length_append] at this; omega
          (repeat' (first | exact rfl | ((conv => whnf); first | refine optS hm1 ?_ | refine optS hm2 ?_ | refine ⟨_, hM, ?_⟩ | exact rfl | exact ⟨rfl, rfl⟩ | refine ⟨(by kernel_rfl : drawOk _ _ _ _ = true), ?_⟩ | refine ⟨(by kernel_rfl : planOk _ _ _ _ = true), ?_⟩ | refine ⟨rfl, ?_⟩ | refine ⟨by (first | omega | (simp (disch := omega) only [wrapI]; omega) | (simp (disch := omega) only [wrapI]; simp; omega) | (simp; omega)), ?_⟩ | (intro ep) | (refine ifB (fun hb => ?_) (fun hb => ?_) <;> (try simp only [decide_eq_true_eq, decide_eq_false_iff_not, beq_iff_eq, beq_eq_false_iff_ne, bne_iff_ne, bne_eq_false_iff_eq, ne_eq, not_false_eq_true, not_true_eq_false, Bool.not_eq_true, Bool.not_eq_true', Bool.not_eq_false', Int.not_lt, Int.not_le] at hb) <;> (try simp (disch := omega) only [wrapI] at hb) <;> (try (exfalso; omega))) | fail)))
          all_goals (conv => whnf)
          refine loopY ok mixed (A := A43) [0, 2, 5, 6, 7, 9, 17, 18] [1] (S := { z : Nat × List Ft × Nat // z.1 ≤ L.length ∧ z.2.1 ++ scanF (a + 1 : Nat) (k + 1 : Nat) (L.drop z.1) = X })
            (fr := fun z => frOf 0 103 [(0, prtsA P), (2, .oslc (.s 1) z.1.2.2 4 0 z.1.2.1.length false), (5, .int .i64 (a : Int)), (6, .int .i64 (k : Int)), (7, mtsA L), (9, .int .i64 ((z.1.1 + 1 : Nat) : Int)), (17, .int .i64 (P.length : Int)), (18, .int .i64 (a : Int))])
            (h := fun z => ⟨[.hole, .vec z.1.2.2 (z.1.2.1.map ftR)], []⟩) (μ := fun z => L.length - z.1.1) ⟨(0, out, ep), Nat.zero_le _, hX.symm⟩ ?_ ?_
            [0, 2, 5, 6, 17, 18] [1] (S' := Nat) (X := fun _ => 4) (frX := fun e => frOf 0 103 [(0, prtsA P), (2, .oslc (.s 1) e 4 0 X.length false), (5, .int .i64 (a : Int)), (6, .int .i64 (k : Int)), (17, .int .i64 (P.length : Int)), (18, .int .i64 (a : Int))]) (hX := fun e => ⟨[.hole, .vec e (X.map ftR)], []⟩)
            [] [] (S2 := Empty) (frR := fun s => frOf 0 103 []) (hR := fun s => ⟨[], []⟩) ?_ ?_ ?_
          · exact rfl
          · exact rfl
          · rintro ⟨⟨j, out, ep⟩, hj, hz⟩
            simp only at hj hz
            show aexR _ _ _ (frOf 0 103 [(0, prtsA P), (2, .oslc (.s 1) ep 4 0 out.length false), (5, .int .i64 (a : Int)), (6, .int .i64 (k : Int)), (7, mtsA L), (9, .int .i64 ((j + 1 : Nat) : Int)), (17, .int .i64 (P.length : Int)), (18, .int .i64 (a : Int))]) ⟨[.hole, .vec ep (out.map ftR)], []⟩ _
            (conv => whnf)
            refine ifB (fun g3 => ?_) (fun g3 => ?_)
            · simp only [decide_eq_true_eq] at g3
              have h3 : j + 1 < L.length := by omega
              have hx := mapR (f := mtR) h3
              have hy := mapR (f := mtR) (l := L) (i := j) (by omega)
              have i1 := hiv L[j + 1] (List.getElem_mem h3)
              have i2 := hiv L[j] (List.getElem_mem (by omega))
              rw [scan_cons h3] at hz
              have hw : IntKind.i64.wrap (((j + 1 : Nat) : Int) - 1) = (j : Int) := by rw [wrapI (by omega) (by omega)]; omega
              rw [← hw] at hy
              generalize L[j + 1] = n at hx i1 hz
              generalize L[j] = m at hy i2 hz
              have k1 := class73 n i1
              have k2 := class73 m i2
              obtain ⟨n1, n2, n3⟩ := n
              obtain ⟨m1, m2, m3⟩ := m
              simp only [bad] at hz
              simp only at hz i1 i2 k1 k2
              obtain ⟨cn, hcn⟩ : ∃ cn, cn = cls n2 := ⟨_, rfl⟩
              obtain ⟨cm, hcm⟩ : ∃ cm, cm = cls m2 := ⟨_, rfl⟩
              rw [← hcn] at k1 hz
              rw [← hcm] at k2 hz
              have T1 : List.take out.length (List.drop 0 (out.map ftR)) = out.map ftR := by rw [List.drop_zero, List.take_of_length_le (by rw [List.length_map]; exact Nat.le_refl _)]
              have wa : IntKind.i64.wrap ((a : Int) + 1) = ((a + 1 : Nat) : Int) := by rw [wrapI (by omega) (by omega)]; omega
              have wk : IntKind.i64.wrap ((k : Int) + 1) = ((k + 1 : Nat) : Int) := by rw [wrapI (by omega) (by omega)]; omega
              by_cases cb : (n3 = 3 ∨ n3 = 4) ∧ (cn = 0 ∨ cn = 7) ∧ cn = cm
              · rw [if_pos cb] at hz
                have hol : out.length + 1 ≤ 30000 := by have := congrArg List.length hz; rw [List.length_append, List.length_cons] at this; omega
                (repeat' (first | exact rfl | ((conv => whnf); first | refine optS hx ?_ | refine optS hy ?_ | refine ⟨_, k1, ?_⟩ | refine ⟨_, k2, ?_⟩ | exact rfl | exact ⟨rfl, rfl⟩ | refine ⟨(by kernel_rfl : drawOk _ _ _ _ = true), ?_⟩ | refine ⟨(by kernel_rfl : planOk _ _ _ _ = true), ?_⟩ | refine ⟨rfl, ?_⟩ | refine ⟨by (first | omega | (simp (disch := omega) only [wrapI]; omega) | (simp (disch := omega) only [wrapI]; simp; omega) | (simp; omega)), ?_⟩ | (intro ep) | (refine ifB (fun hb => ?_) (fun hb => ?_) <;> (try simp only [decide_eq_true_eq, decide_eq_false_iff_not, beq_iff_eq, beq_eq_false_iff_ne, bne_iff_ne, bne_eq_false_iff_eq, ne_eq, not_false_eq_true, not_true_eq_false, Bool.not_eq_true, Bool.not_eq_true', Bool.not_eq_false', Int.not_lt, Int.not_le] at hb) <;> (try simp (disch := omega) only [wrapI] at hb) <;> (try (exfalso; omega))) | fail)))
                all_goals (conv => whnf)
                all_goals (rw [T1, wa, wk])
                all_goals exact back_of ⟨(j + 1, out ++ [⟨(a + 1 : Nat), (k + 1 : Nat), n1, cn⟩], _), by simp only; omega, by simp only [List.append_assoc]; exact hz⟩ ⟨by (simp only [List.length_append, List.length_singleton]; (first | exact rfl | (simp (disch := omega) only [wrapI]; exact rfl))), (by simp only [List.map_append, List.map_cons, List.map_nil]; (first | exact rfl | (simp (disch := omega) only [wrapI]; exact rfl))), by simp only; omega⟩
              · rw [if_neg cb] at hz
                (repeat' (first | exact rfl | ((conv => whnf); first | refine optS hx ?_ | refine optS hy ?_ | refine ⟨_, k1, ?_⟩ | refine ⟨_, k2, ?_⟩ | exact rfl | exact ⟨rfl, rfl⟩ | refine ⟨(by kernel_rfl : drawOk _ _ _ _ = true), ?_⟩ | refine ⟨(by kernel_rfl : planOk _ _ _ _ = true), ?_⟩ | refine ⟨rfl, ?_⟩ | refine ⟨by (first | omega | (simp (disch := omega) only [wrapI]; omega) | (simp (disch := omega) only [wrapI]; simp; omega) | (simp; omega)), ?_⟩ | (intro ep) | (refine ifB (fun hb => ?_) (fun hb => ?_) <;> (try simp only [decide_eq_true_eq, decide_eq_false_iff_not, beq_iff_eq, beq_eq_false_iff_ne, bne_iff_ne, bne_eq_false_iff_eq, ne_eq, not_false_eq_true, not_true_eq_false, Bool.not_eq_true, Bool.not_eq_true', Bool.not_eq_false', Int.not_lt, Int.not_le] at hb) <;> (try simp (disch := omega) only [wrapI] at hb) <;> (try (exfalso; omega))) | fail)))
                all_goals (conv => whnf)
                all_goals exact back_of ⟨(j + 1, out, ep), by simp only; omega, hz⟩ ⟨by (first | exact rfl | (simp (disch := omega) only [wrapI]; exact rfl)), rfl, by simp only; omega⟩
            · simp only [decide_eq_false_iff_not] at g3
              rw [scan_end (by omega), List.append_nil] at hz
              subst hz
              (repeat' (first | exact rfl | ((conv => whnf); first | exact rfl | exact ⟨rfl, rfl⟩ | refine ⟨(by kernel_rfl : drawOk _ _ _ _ = true), ?_⟩ | refine ⟨(by kernel_rfl : planOk _ _ _ _ = true), ?_⟩ | refine ⟨rfl, ?_⟩ | refine ⟨by (first | omega | (simp (disch := omega) only [wrapI]; omega) | (simp (disch := omega) only [wrapI]; simp; omega) | (simp; omega)), ?_⟩ | (intro ep) | fail)))
              all_goals (conv => whnf)
              exact back_of ep ⟨rfl, rfl, rfl⟩
          · rintro ⟨⟩
          · rintro e
            (repeat' (first | exact rfl | ((conv => whnf); first | exact rfl | exact ⟨rfl, rfl⟩ | refine ⟨(by kernel_rfl : drawOk _ _ _ _ = true), ?_⟩ | refine ⟨(by kernel_rfl : planOk _ _ _ _ = true), ?_⟩ | refine ⟨rfl, ?_⟩ | refine ⟨by (first | omega | (simp (disch := omega) only [wrapI]; omega) | (simp (disch := omega) only [wrapI]; simp; omega) | (simp; omega)), ?_⟩ | (intro ep) | fail)))
            all_goals (conv => whnf)
            exact back_of ⟨(k + 1, X, e), by simp only; omega, by simp only; omega, by rw [← hZ2]; exact hz⟩ ⟨by (first | exact rfl | (simp (disch := omega) only [wrapI]; exact rfl)), rfl, by simp only; omega⟩
        · simp only [decide_eq_false_iff_not] at g2
          rw [List.drop_eq_nil_of_le (by omega), inB, List.append_nil] at hz
          subst hz
          (repeat' (first | exact rfl | ((conv => whnf); first | exact rfl | exact ⟨rfl, rfl⟩ | refine ⟨(by kernel_rfl : drawOk _ _ _ _ = true), ?_⟩ | refine ⟨(by kernel_rfl : planOk _ _ _ _ = true), ?_⟩ | refine ⟨rfl, ?_⟩ | refine ⟨by (first | omega | (simp (disch := omega) only [wrapI]; omega) | (simp (disch := omega) only [wrapI]; simp; omega) | (simp; omega)), ?_⟩ | (intro ep) | fail)))
          all_goals (conv => whnf)
          exact back_of ep ⟨rfl, rfl, rfl⟩
      · rintro ⟨⟩
      · rintro e
        (repeat' (first | exact rfl | ((conv => whnf); first | exact rfl | exact ⟨rfl, rfl⟩ | refine ⟨(by kernel_rfl : drawOk _ _ _ _ = true), ?_⟩ | refine ⟨(by kernel_rfl : planOk _ _ _ _ = true), ?_⟩ | refine ⟨rfl, ?_⟩ | refine ⟨by (first | omega | (simp (disch := omega) only [wrapI]; omega) | (simp (disch := omega) only [wrapI]; simp; omega) | (simp; omega)), ?_⟩ | (intro ep) | fail)))
        all_goals (conv => whnf)
        exact back_of ⟨(a + 1, Y, e), by simp only; omega, by rw [← hZ]; exact hz⟩ ⟨by (first | exact rfl | (simp (disch := omega) only [wrapI]; exact rfl)), rfl, by simp only; omega⟩
    · simp only [decide_eq_false_iff_not] at g1
      rw [List.drop_eq_nil_of_le (by omega), outA, List.append_nil] at hz
      subst hz
      (repeat' (first | exact rfl | ((conv => whnf); first | exact rfl | exact ⟨rfl, rfl⟩ | refine ⟨(by kernel_rfl : drawOk _ _ _ _ = true), ?_⟩ | refine ⟨(by kernel_rfl : planOk _ _ _ _ = true), ?_⟩ | refine ⟨rfl, ?_⟩ | refine ⟨by (first | omega | (simp (disch := omega) only [wrapI]; omega) | (simp (disch := omega) only [wrapI]; simp; omega) | (simp; omega)), ?_⟩ | (intro ep) | fail)))
      all_goals (conv => whnf)
      exact back_of ep ⟨rfl, rfl, rfl⟩
  · rintro ⟨⟩
  · rintro e
    (repeat' (first | exact rfl | ((conv => whnf); first | exact rfl | exact ⟨rfl, rfl⟩ | refine ⟨(by kernel_rfl : drawOk _ _ _ _ = true), ?_⟩ | refine ⟨(by kernel_rfl : planOk _ _ _ _ = true), ?_⟩ | refine ⟨rfl, ?_⟩ | refine ⟨by (first | omega | (simp (disch := omega) only [wrapI]; omega) | (simp (disch := omega) only [wrapI]; simp; omega) | (simp; omega)), ?_⟩ | (intro ep) | fail)))
    all_goals (conv => whnf)
    exact ⟨pure_map R fun x => rfl, rfl, rfl⟩
end Go.Ab.V

/-
  Parallels: the document's walk. No condition but the lengths.
-/
namespace Go.Ab.V
open Go.Proofs

def A74s : Ann := fun _ => {}
theorem siz74 (d : Int) (h : -100000 ≤ d ∧ d ≤ 100000) : PRet C.P 74 [.int .i64 d] (.int .i64 (if d < -d then -d else d)) := by
  refine pret_of ok mixed (A := A74s) 0 Try.func74 rfl ?_
  (repeat' (first | exact rfl | ((conv => whnf); first | refine ⟨rfl, ?_⟩ | (intro ep))))
  all_goals (refine congrArg (AV.int .i64) ?_; simp (disch := omega) only [wrapI]; simp only [if_true, Int.zero_sub])

def A44 : Ann := fun r => match r with
  | 17 => { slots := [(12, 0), (13, 1)] }
  | _ => {}
set_option maxHeartbeats 16000000 in
set_option maxRecDepth 100000 in
theorem refPar44 (P : List (List Tn)) (hl : P.length ≤ 9223372036854775807) (hp : ∀ p ∈ P, p.length ≤ 9223372036854775807) : PRet C.P 44 [prtsA P] (parV P) := by
  have hC := refCheckParts_spec P (by omega) (fun p h => by have := hp p h; omega)
  unfold parV
  by_cases c1 : chkP P ≠ 0
  · rw [if_pos c1]
    generalize chkP P = e at hC c1
    refine pret_of ok mixed (A := A44) 2 Try.func44 rfl ?_
    (repeat' (first | exact rfl | ((conv => whnf); first | refine ⟨_, hC, ?_⟩ | exact rfl | exact ⟨rfl, rfl⟩ | refine ⟨(by kernel_rfl : drawOk _ _ _ _ = true), ?_⟩ | refine ⟨(by kernel_rfl : planOk _ _ _ _ = true), ?_⟩ | refine ⟨rfl, ?_⟩ | refine ⟨by (first | omega | (simp (disch := omega) only [wrapI]; omega) | (simp (disch := omega) only [wrapI]; simp; omega) | (simp; omega)), ?_⟩ | (intro ep) | (refine ifB (fun hb => ?_) (fun hb => ?_) <;> (try simp only [decide_eq_true_eq, decide_eq_false_iff_not, beq_iff_eq, beq_eq_false_iff_ne, bne_iff_ne, bne_eq_false_iff_eq, ne_eq, not_false_eq_true, not_true_eq_false, Bool.not_eq_true, Bool.not_eq_true', Bool.not_eq_false', Int.not_lt, Int.not_le] at hb) <;> (try simp (disch := omega) only [wrapI] at hb) <;> (try (exfalso; omega))) | fail)))
  rw [if_neg c1]
  have c1 : chkP P = 0 := by omega
  rw [c1] at hC
  obtain ⟨h6, hall⟩ := chkAll c1
  obtain ⟨R, hR⟩ : ∃ R, R = outA 0 P := ⟨_, rfl⟩
  have hRl : R.length ≤ 30000 := by rw [hR]; have := outA_len P 0 (fun q hq => (hall q hq).1) h6; omega
  rw [← hR]
  refine pret_of ok mixed (A := A44) 2 Try.func44 rfl ?_
  (repeat' (first | exact rfl | ((conv => whnf); first | refine ⟨_, hC, ?_⟩ | exact rfl | exact ⟨rfl, rfl⟩ | refine ⟨(by kernel_rfl : drawOk _ _ _ _ = true), ?_⟩ | refine ⟨(by kernel_rfl : planOk _ _ _ _ = true), ?_⟩ | refine ⟨rfl, ?_⟩ | refine ⟨by (first | omega | (simp (disch := omega) only [wrapI]; omega) | (simp (disch := omega) only [wrapI]; simp; omega) | (simp; omega)), ?_⟩ | (intro ep) | (refine ifB (fun hb => ?_) (fun hb => ?_) <;> (try simp only [decide_eq_true_eq, decide_eq_false_iff_not, beq_iff_eq, beq_eq_false_iff_ne, bne_iff_ne, bne_eq_false_iff_eq, ne_eq, not_false_eq_true, not_true_eq_false, Bool.not_eq_true, Bool.not_eq_true', Bool.not_eq_false', Int.not_lt, Int.not_le] at hb) <;> (try simp (disch := omega) only [wrapI] at hb) <;> (try (exfalso; omega))) | fail)))
  all_goals (conv => whnf)
  refine wk_lift 5 1 4 rfl ?_
  intro e1
  refine loopY ok mixed (A := A44) [0, 5, 6] [1] (S := { z : Nat × List Ft × Nat // z.1 ≤ P.length ∧ z.2.1 ++ outA z.1 (P.drop z.1) = R })
    (fr := fun z => frOf 0 101 [(0, prtsA P), (5, .oslc (.s 1) z.1.2.2 4 0 z.1.2.1.length false), (6, .int .i64 (z.1.1 : Int))])
    (h := fun z => ⟨[.hole, .vec z.1.2.2 (z.1.2.1.map ftR)], []⟩) (μ := fun z => P.length - z.1.1) ⟨(0, [], e1), Nat.zero_le _, by simp [hR]⟩ ?_ ?_
    [5] [1] (S' := Nat) (X := fun _ => 0) (frX := fun e => frOf 0 101 [(5, .oslc (.s 1) e 4 0 R.length false)]) (hX := fun e => ⟨[.hole, .vec e (R.map ftR)], []⟩)
    [] [] (S2 := Empty) (frR := fun s => frOf 0 101 []) (hR := fun s => ⟨[], []⟩) ?_ ?_ ?_
  · exact rfl
  · exact rfl
  · rintro ⟨⟨a, out, ep⟩, ha, hz⟩
    simp only at ha hz
    show aexR _ _ _ (frOf 0 101 [(0, prtsA P), (5, .oslc (.s 1) ep 4 0 out.length false), (6, .int .i64 (a : Int))]) ⟨[.hole, .vec ep (out.map ftR)], []⟩ _
    (conv => whnf)
    refine ifB (fun g1 => ?_) (fun g1 => ?_)
    · simp only [decide_eq_true_eq] at g1
      have h1 : a < P.length := by omega
      have hm1 := mapR (f := fun p => [tnsA p]) h1
      have pp := hall P[a] (List.getElem_mem h1)
      rw [List.drop_eq_getElem_cons h1, outA] at hz
      generalize P[a] = p at hm1 pp hz
      obtain ⟨Z, hZ⟩ : ∃ Z, Z = outA (a + 1) (P.drop (a + 1)) := ⟨_, rfl⟩
      rw [← hZ, ← List.append_assoc] at hz
      obtain ⟨Y, hY⟩ : ∃ Y, Y = out ++ inB p a (a + 1) (P.drop (a + 1)) := ⟨_, rfl⟩
      rw [← hY] at hz
      have hYl : Y.length ≤ 30000 := by have := congrArg List.length hz; rw [List.length_append] at this; omega
      (repeat' (first | exact rfl | ((conv => whnf); first | exact rfl | exact ⟨rfl, rfl⟩ | refine ⟨(by kernel_rfl : drawOk _ _ _ _ = true), ?_⟩ | refine ⟨(by kernel_rfl : planOk _ _ _ _ = true), ?_⟩ | refine ⟨rfl, ?_⟩ | refine ⟨by (first | omega | (simp (disch := omega) only [wrapI]; omega) | (simp (disch := omega) only [wrapI]; simp; omega) | (simp; omega)), ?_⟩ | (intro ep) | (refine ifB (fun hb => ?_) (fun hb => ?_) <;> (try simp only [decide_eq_true_eq, decide_eq_false_iff_not, beq_iff_eq, beq_eq_false_iff_ne, bne_iff_ne, bne_eq_false_iff_eq, ne_eq, not_false_eq_true, not_true_eq_false, Bool.not_eq_true, Bool.not_eq_true', Bool.not_eq_false', Int.not_lt, Int.not_le] at hb) <;> (try simp (disch := omega) only [wrapI] at hb) <;> (try (exfalso; omega))) | fail)))
      all_goals (conv => whnf)
      refine loopY ok mixed (A := A44) [0, 5, 6, 7] [1] (S := { z : Nat × List Ft × Nat // a < z.1 ∧ z.1 ≤ P.length ∧ z.2.1 ++ inB p a z.1 (P.drop z.1) = Y })
        (fr := fun z => frOf 0 101 [(0, prtsA P), (5, .oslc (.s 1) z.1.2.2 4 0 z.1.2.1.length false), (6, .int .i64 (a : Int)), (7, .int .i64 (z.1.1 : Int))])
        (h := fun z => ⟨[.hole, .vec z.1.2.2 (z.1.2.1.map ftR)], []⟩) (μ := fun z => P.length - z.1.1) ⟨(a + 1, out, ep), by simp only; omega, by simp only; omega, hY.symm⟩ ?_ ?_
        [0, 5, 6] [1] (S' := Nat) (X := fun _ => 2) (frX := fun e => frOf 0 101 [(0, prtsA P), (5, .oslc (.s 1) e 4 0 Y.length false), (6, .int .i64 (a : Int))]) (hX := fun e => ⟨[.hole, .vec e (Y.map ftR)], []⟩)
        [] [] (S2 := Empty) (frR := fun s => frOf 0 101 []) (hR := fun s => ⟨[], []⟩) ?_ ?_ ?_
      · (conv => whnf); (first | exact rfl | (simp (disch := omega) only [wrapI]; exact rfl))
      · exact rfl
      · rintro ⟨⟨k, out, ep⟩, hak, hk, hz⟩
        simp only at hak hk hz
        show aexR _ _ _ (frOf 0 101 [(0, prtsA P), (5, .oslc (.s 1) ep 4 0 out.length false), (6, .int .i64 (a : Int)), (7, .int .i64 (k : Int))]) ⟨[.hole, .vec ep (out.map ftR)], []⟩ _
        (conv => whnf)
        refine ifB (fun g2 => ?_) (fun g2 => ?_)
        · simp only [decide_eq_true_eq] at g2
          have h2 : k < P.length := by omega
          have hm2 := mapR (f := fun p => [tnsA p]) h2
          have qq := hall P[k] (List.getElem_mem h2)
          rw [List.drop_eq_getElem_cons h2, inB] at hz
          generalize P[k] = q at hm2 qq hz
          have hM := ref72 p q pp.2.1 qq.2.1 pp.1 qq.1
          have hiv := ivB pp.2.1 qq.2.1
          have hLl := meets_len p q
          obtain ⟨Z2, hZ2⟩ : ∃ Z2, Z2 = inB p a (k + 1) (P.drop (k + 1)) := ⟨_, rfl⟩
          rw [← hZ2, ← List.append_assoc] at hz
          generalize meets p q = L at hM hz hiv hLl
          obtain ⟨X, hX⟩ : ∃ X, X = out ++ scanF (a + 1 : Nat) (k + 1 : Nat) L := ⟨_, rfl⟩
          rw [← hX] at hz
          have hXl : X.length ≤ 30000 := by have := congrArg List.length hz; rw [List.length_append] at this; omega
          (repeat' (first | exact rfl | ((conv => whnf); first | refine optS hm1 ?_ | refine optS hm2 ?_ | refine ⟨_, hM, ?_⟩ | exact rfl | exact ⟨rfl, rfl⟩ | refine ⟨(by kernel_rfl : drawOk _ _ _ _ = true), ?_⟩ | refine ⟨(by kernel_rfl : planOk _ _ _ _ = true), ?_⟩ | refine ⟨rfl, ?_⟩ | refine ⟨by (first | omega | (simp (disch := omega) only [wrapI]; omega) | (simp (disch := omega) only [wrapI]; simp; omega) | (simp; omega)), ?_⟩ | (intro ep) | (refine ifB (fun hb => ?_) (fun hb => ?_) <;> (try simp only [decide_eq_true_eq, decide_eq_false_iff_not, beq_iff_eq, beq_eq_false_iff_ne, bne_iff_ne, bne_eq_false_iff_eq, ne_eq, not_false_eq_true, not_true_eq_false, Bool.not_eq_true, Bool.not_eq_true', Bool.not_eq_false', Int.not_lt, Int.not_le] at hb) <;> (try simp (disch := omega) only [wrapI] at hb) <;> (try (exfalso; omega))) | fail)))
          all_goals (conv => whnf)
          refine loopY ok mixed (A := A44) [0, 5, 6, 7, 8, 9] [1] (S := { z : Nat × List Ft × Nat // z.1 ≤ L.length ∧ z.2.1 ++ scanF (a + 1 : Nat) (k + 1 : Nat) (L.drop z.1) = X })
            (fr := fun z => frOf 0 101 [(0, prtsA P), (5, .oslc (.s 1) z.1.2.2 4 0 z.1.2.1.length false), (6, .int .i64 (a : Int)), (7, .int .i64 (k : Int)), (8, mtsA L), (9, .int .i64 ((z.1.1 + 1 : Nat) : Int))])
            (h := fun z => ⟨[.hole, .vec z.1.2.2 (z.1.2.1.map ftR)], []⟩) (μ := fun z => L.length - z.1.1) ⟨(0, out, ep), Nat.zero_le _, hX.symm⟩ ?_ ?_
            [0, 5, 6, 7] [1] (S' := Nat) (X := fun _ => 4) (frX := fun e => frOf 0 101 [(0, prtsA P), (5, .oslc (.s 1) e 4 0 X.length false), (6, .int .i64 (a : Int)), (7, .int .i64 (k : Int))]) (hX := fun e => ⟨[.hole, .vec e (X.map ftR)], []⟩)
            [] [] (S2 := Empty) (frR := fun s => frOf 0 101 []) (hR := fun s => ⟨[], []⟩) ?_ ?_ ?_
          · exact rfl
          · exact rfl
          · rintro ⟨⟨j, out, ep⟩, hj, hz⟩
            simp only at hj hz
            show aexR _ _ _ (frOf 0 101 [(0, prtsA P), (5, .oslc (.s 1) ep 4 0 out.length false), (6, .int .i64 (a : Int)), (7, .int .i64 (k : Int)), (8, mtsA L), (9, .int .i64 ((j + 1 : Nat) : Int))]) ⟨[.hole, .vec ep (out.map ftR)], []⟩ _
            (conv => whnf)
            refine ifB (fun g3 => ?_) (fun g3 => ?_)
            · simp only [decide_eq_true_eq] at g3
              have h3 : j + 1 < L.length := by omega
              have hx := mapR (f := mtR) h3
              have hy := mapR (f := mtR) (l := L) (i := j) (by omega)
              have i1 := hiv L[j + 1] (List.getElem_mem h3)
              have i2 := hiv L[j] (List.getElem_mem (by omega))
              rw [scan_cons h3] at hz
              have hw : IntKind.i64.wrap (((j + 1 : Nat) : Int) - 1) = (j : Int) := by rw [wrapI (by omega) (by omega)]; omega
              rw [← hw] at hy
              generalize L[j + 1] = n at hx i1 hz
              generalize L[j] = m at hy i2 hz
              have k1 := siz74 n.iv (by omega)
              have k2 := siz74 m.iv (by omega)
              obtain ⟨n1, n2, n3⟩ := n
              obtain ⟨m1, m2, m3⟩ := m
              simp only [bad] at hz
              simp only at hz i1 i2 k1 k2
              obtain ⟨cn, hcn⟩ : ∃ cn, cls n2 = cn := ⟨_, rfl⟩
              obtain ⟨cm, hcm⟩ : ∃ cm, cls m2 = cm := ⟨_, rfl⟩
              rw [hcn, hcm] at hz
              unfold cls at hcn hcm
              obtain ⟨sn, hsn⟩ : ∃ sn, sn = (if n2 < -n2 then -n2 else n2) := ⟨_, rfl⟩
              obtain ⟨sm, hsm⟩ : ∃ sm, sm = (if m2 < -m2 then -m2 else m2) := ⟨_, rfl⟩
              rw [← hsn] at k1 hcn
              rw [← hsm] at k2 hcm
              have T1 : List.take out.length (List.drop 0 (out.map ftR)) = out.map ftR := by rw [List.drop_zero, List.take_of_length_le (by rw [List.length_map]; exact Nat.le_refl _)]
              have wa : IntKind.i64.wrap ((a : Int) + 1) = ((a + 1 : Nat) : Int) := by rw [wrapI (by omega) (by omega)]; omega
              have wk : IntKind.i64.wrap ((k : Int) + 1) = ((k + 1 : Nat) : Int) := by rw [wrapI (by omega) (by omega)]; omega
              by_cases cb : (n3 = 3 ∨ n3 = 4) ∧ (cn = 0 ∨ cn = 7) ∧ cn = cm
              · rw [if_pos cb] at hz
                have hol : out.length + 1 ≤ 30000 := by have := congrArg List.length hz; rw [List.length_append, List.length_cons] at this; omega
                (repeat' (first | exact rfl | ((conv => whnf); first | rw [hcn] | rw [hcm] | refine optS hx ?_ | refine optS hy ?_ | refine ⟨_, k1, ?_⟩ | refine ⟨_, k2, ?_⟩ | exact rfl | exact ⟨rfl, rfl⟩ | refine ⟨(by kernel_rfl : drawOk _ _ _ _ = true), ?_⟩ | refine ⟨(by kernel_rfl : planOk _ _ _ _ = true), ?_⟩ | refine ⟨rfl, ?_⟩ | refine ⟨by (first | omega | (simp (disch := omega) only [wrapI]; omega) | (simp (disch := omega) only [wrapI]; simp; omega) | (simp; omega)), ?_⟩ | (intro ep) | (refine ifB (fun hb => ?_) (fun hb => ?_) <;> (try simp only [decide_eq_true_eq, decide_eq_false_iff_not, beq_iff_eq, beq_eq_false_iff_ne, bne_iff_ne, bne_eq_false_iff_eq, ne_eq, not_false_eq_true, not_true_eq_false, Bool.not_eq_true, Bool.not_eq_true', Bool.not_eq_false', Int.not_lt, Int.not_le] at hb) <;> (try simp (disch := omega) only [wrapI] at hb) <;> (try (exfalso; omega))) | fail)))
                all_goals (conv => whnf)
                all_goals (rw [T1, wa, wk])
                all_goals exact back_of ⟨(j + 1, out ++ [⟨(a + 1 : Nat), (k + 1 : Nat), n1, cn⟩], _), by simp only; omega, by simp only [List.append_assoc]; exact hz⟩ ⟨by (simp only [List.length_append, List.length_singleton]; (first | exact rfl | (simp (disch := omega) only [wrapI]; exact rfl))), (by simp only [List.map_append, List.map_cons, List.map_nil]; (first | exact rfl | (simp (disch := omega) only [wrapI]; exact rfl))), by simp only; omega⟩
              · rw [if_neg cb] at hz
                (repeat' (first | exact rfl | ((conv => whnf); first | rw [hcn] | rw [hcm] | refine optS hx ?_ | refine optS hy ?_ | refine ⟨_, k1, ?_⟩ | refine ⟨_, k2, ?_⟩ | exact rfl | exact ⟨rfl, rfl⟩ | refine ⟨(by kernel_rfl : drawOk _ _ _ _ = true), ?_⟩ | refine ⟨(by kernel_rfl : planOk _ _ _ _ = true), ?_⟩ | refine ⟨rfl, ?_⟩ | refine ⟨by (first | omega | (simp (disch := omega) only [wrapI]; omega) | (simp (disch := omega) only [wrapI]; simp; omega) | (simp; omega)), ?_⟩ | (intro ep) | (refine ifB (fun hb => ?_) (fun hb => ?_) <;> (try simp only [decide_eq_true_eq, decide_eq_false_iff_not, beq_iff_eq, beq_eq_false_iff_ne, bne_iff_ne, bne_eq_false_iff_eq, ne_eq, not_false_eq_true, not_true_eq_false, Bool.not_eq_true, Bool.not_eq_true', Bool.not_eq_false', Int.not_lt, Int.not_le] at hb) <;> (try simp (disch := omega) only [wrapI] at hb) <;> (try (exfalso; omega))) | fail)))
                all_goals (conv => whnf)
                all_goals exact back_of ⟨(j + 1, out, ep), by simp only; omega, hz⟩ ⟨by (first | exact rfl | (simp (disch := omega) only [wrapI]; exact rfl)), rfl, by simp only; omega⟩
            · simp only [decide_eq_false_iff_not] at g3
              rw [scan_end (by omega), List.append_nil] at hz
              subst hz
              (repeat' (first | exact rfl | ((conv => whnf); first | exact rfl | exact ⟨rfl, rfl⟩ | refine ⟨(by kernel_rfl : drawOk _ _ _ _ = true), ?_⟩ | refine ⟨(by kernel_rfl : planOk _ _ _ _ = true), ?_⟩ | refine ⟨rfl, ?_⟩ | refine ⟨by (first | omega | (simp (disch := omega) only [wrapI]; omega) | (simp (disch := omega) only [wrapI]; simp; omega) | (simp; omega)), ?_⟩ | (intro ep) | fail)))
              all_goals (conv => whnf)
              exact back_of ep ⟨rfl, rfl, rfl⟩
          · rintro ⟨⟩
          · rintro e
            (repeat' (first | exact rfl | ((conv => whnf); first | exact rfl | exact ⟨rfl, rfl⟩ | refine ⟨(by kernel_rfl : drawOk _ _ _ _ = true), ?_⟩ | refine ⟨(by kernel_rfl : planOk _ _ _ _ = true), ?_⟩ | refine ⟨rfl, ?_⟩ | refine ⟨by (first | omega | (simp (disch := omega) only [wrapI]; omega) | (simp (disch := omega) only [wrapI]; simp; omega) | (simp; omega)), ?_⟩ | (intro ep) | fail)))
            all_goals (conv => whnf)
            exact back_of ⟨(k + 1, X, e), by simp only; omega, by simp only; omega, by rw [← hZ2]; exact hz⟩ ⟨by (first | exact rfl | (simp (disch := omega) only [wrapI]; exact rfl)), rfl, by simp only; omega⟩
        · simp only [decide_eq_false_iff_not] at g2
          rw [List.drop_eq_nil_of_le (by omega), inB, List.append_nil] at hz
          subst hz
          (repeat' (first | exact rfl | ((conv => whnf); first | exact rfl | exact ⟨rfl, rfl⟩ | refine ⟨(by kernel_rfl : drawOk _ _ _ _ = true), ?_⟩ | refine ⟨(by kernel_rfl : planOk _ _ _ _ = true), ?_⟩ | refine ⟨rfl, ?_⟩ | refine ⟨by (first | omega | (simp (disch := omega) only [wrapI]; omega) | (simp (disch := omega) only [wrapI]; simp; omega) | (simp; omega)), ?_⟩ | (intro ep) | fail)))
          all_goals (conv => whnf)
          exact back_of ep ⟨rfl, rfl, rfl⟩
      · rintro ⟨⟩
      · rintro e
        (repeat' (first | exact rfl | ((conv => whnf); first | exact rfl | exact ⟨rfl, rfl⟩ | refine ⟨(by kernel_rfl : drawOk _ _ _ _ = true), ?_⟩ | refine ⟨(by kernel_rfl : planOk _ _ _ _ = true), ?_⟩ | refine ⟨rfl, ?_⟩ | refine ⟨by (first | omega | (simp (disch := omega) only [wrapI]; omega) | (simp (disch := omega) only [wrapI]; simp; omega) | (simp; omega)), ?_⟩ | (intro ep) | fail)))
        all_goals (conv => whnf)
        exact back_of ⟨(a + 1, Y, e), by simp only; omega, by rw [← hZ]; exact hz⟩ ⟨by (first | exact rfl | (simp (disch := omega) only [wrapI]; exact rfl)), rfl, by simp only; omega⟩
    · simp only [decide_eq_false_iff_not] at g1
      rw [List.drop_eq_nil_of_le (by omega), outA, List.append_nil] at hz
      subst hz
      (repeat' (first | exact rfl | ((conv => whnf); first | exact rfl | exact ⟨rfl, rfl⟩ | refine ⟨(by kernel_rfl : drawOk _ _ _ _ = true), ?_⟩ | refine ⟨(by kernel_rfl : planOk _ _ _ _ = true), ?_⟩ | refine ⟨rfl, ?_⟩ | refine ⟨by (first | omega | (simp (disch := omega) only [wrapI]; omega) | (simp (disch := omega) only [wrapI]; simp; omega) | (simp; omega)), ?_⟩ | (intro ep) | fail)))
      all_goals (conv => whnf)
      exact back_of ep ⟨rfl, rfl, rfl⟩
  · rintro ⟨⟩
  · rintro e
    (repeat' (first | exact rfl | ((conv => whnf); first | exact rfl | exact ⟨rfl, rfl⟩ | refine ⟨(by kernel_rfl : drawOk _ _ _ _ = true), ?_⟩ | refine ⟨(by kernel_rfl : planOk _ _ _ _ = true), ?_⟩ | refine ⟨rfl, ?_⟩ | refine ⟨by (first | omega | (simp (disch := omega) only [wrapI]; omega) | (simp (disch := omega) only [wrapI]; simp; omega) | (simp; omega)), ?_⟩ | (intro ep) | fail)))
    all_goals (conv => whnf)
    exact ⟨pure_map R fun x => rfl, rfl, rfl⟩
end Go.Ab.V

/-
  The law Parallels. No condition but the lengths.
-/
namespace Go.Ab.V
open Go.Proofs

theorem parV_or (P : List (List Tn)) : (∃ e, e ≠ 0 ∧ parV P = .tup [.nils, .int .i64 e]) ∨ (∃ R : List Ft, R.length ≤ 30000 ∧ parV P = .tup [ftsA R, .int .i64 0]) := by
  unfold parV
  by_cases c1 : chkP P ≠ 0
  · rw [if_pos c1]; exact .inl ⟨_, c1, rfl⟩
  rw [if_neg c1]
  obtain ⟨h6, hall⟩ := chkAll (P := P) (by omega)
  refine .inr ⟨_, ?_, rfl⟩
  have := outA_len P 0 (fun q hq => (hall q hq).1) h6
  omega
def A14 : Ann := fun _ => {}
set_option maxHeartbeats 4000000 in
set_option maxRecDepth 100000 in
theorem law_parallels (P : List (List Tn)) (hl : P.length ≤ 9223372036854775807) (hp : ∀ p ∈ P, p.length ≤ 9223372036854775807) : ACalls C.P 14 [prtsA P] Heap.nil fun r _ => r = .bool true := by
  have a1 := par43 P hl hp
  have a2 := refPar44 P hl hp
  rcases parV_or P with ⟨e, he, hv⟩ | ⟨R, hl, hv⟩
  · rw [hv] at a1 a2
    refine fn_of ok mixed (A := A14) 0 Try.func14 rfl ?_
    (repeat' (first | exact rfl | ((conv => whnf); first | refine ⟨_, a1, ?_⟩ | refine ⟨_, a2, ?_⟩ | refine ⟨_, works_spec, ?_⟩ | refine loopU ok mixed (A := fun _ => {}) 100 ?_ | exact rfl | exact ⟨rfl, rfl⟩ | refine ⟨(by kernel_rfl : drawOk _ _ _ _ = true), ?_⟩ | refine ⟨(by kernel_rfl : planOk _ _ _ _ = true), ?_⟩ | refine ⟨rfl, ?_⟩ | refine ⟨by (first | omega | (simp (disch := omega) only [wrapI]; omega) | (simp (disch := omega) only [wrapI]; simp; omega) | (simp; omega)), ?_⟩ | (intro ep) | (refine ifB (fun hb => ?_) (fun hb => ?_) <;> (try simp only [decide_eq_true_eq, decide_eq_false_iff_not, beq_iff_eq, beq_eq_false_iff_ne, bne_iff_ne, bne_eq_false_iff_eq, ne_eq, not_false_eq_true, not_true_eq_false, Bool.not_eq_true, Bool.not_eq_true', Bool.not_eq_false', Int.not_lt, Int.not_le] at hb) <;> (try simp (disch := omega) only [wrapI] at hb) <;> (try (exfalso; omega))) | fail)))
  · rw [hv] at a1 a2
    refine fn_of ok mixed (A := A14) 0 Try.func14 rfl ?_
    (repeat' (first | exact rfl | ((conv => whnf); first | refine ⟨_, a1, ?_⟩ | refine ⟨_, a2, ?_⟩ | refine ⟨_, works_spec, ?_⟩ | exact rfl | exact ⟨rfl, rfl⟩ | refine ⟨(by kernel_rfl : drawOk _ _ _ _ = true), ?_⟩ | refine ⟨(by kernel_rfl : planOk _ _ _ _ = true), ?_⟩ | refine ⟨rfl, ?_⟩ | refine ⟨by (first | omega | (simp (disch := omega) only [wrapI]; omega) | (simp (disch := omega) only [wrapI]; simp; omega) | (simp; omega)), ?_⟩ | (intro ep) | (refine ifB (fun hb => ?_) (fun hb => ?_) <;> (try simp only [decide_eq_true_eq, decide_eq_false_iff_not, beq_iff_eq, beq_eq_false_iff_ne, bne_iff_ne, bne_eq_false_iff_eq, ne_eq, not_false_eq_true, not_true_eq_false, Bool.not_eq_true, Bool.not_eq_true', Bool.not_eq_false', Int.not_lt, Int.not_le] at hb) <;> (try simp (disch := omega) only [wrapI] at hb) <;> (try (exfalso; omega))) | fail)))
    all_goals (conv => whnf)
    refine loopY ok mixed (A := A14) [3, 5, 7] [] (S := { k : Nat // k ≤ R.length })
      (fr := fun s => frOf 0 44 [(3, ftsA R), (5, ftsA R), (7, .int .i64 (s.1 : Int))])
      (h := fun s => ⟨[], []⟩) (μ := fun s => R.length - s.1) ⟨0, by omega⟩ ?_ ?_
      [] [] (S' := Unit) (X := fun _ => 0) (frX := fun s => frOf 0 44 []) (hX := fun s => ⟨[], []⟩)
      [] [] (S2 := Empty) (frR := fun s => frOf 0 44 []) (hR := fun s => ⟨[], []⟩) ?_ ?_ ?_
    · exact rfl
    · exact rfl
    · rintro ⟨k, hk⟩
      show aexR _ _ _ (frOf 0 44 [(3, ftsA R), (5, ftsA R), (7, .int .i64 (k : Int))]) ⟨[], []⟩ _
      (conv => whnf)
      refine ifB (fun g1 => ?_) (fun g1 => ?_)
      · simp only [decide_eq_true_eq] at g1
        have hlt : k < R.length := by omega
        have hm := mapR (f := ftR) hlt
        generalize R[k] = x at hm
        obtain ⟨x1, x2, x3, x4⟩ := x
        (repeat' (first | exact rfl | ((conv => whnf); first | refine optS hm ?_ | exact rfl | exact ⟨rfl, rfl⟩ | refine ⟨(by kernel_rfl : drawOk _ _ _ _ = true), ?_⟩ | refine ⟨(by kernel_rfl : planOk _ _ _ _ = true), ?_⟩ | refine ⟨rfl, ?_⟩ | refine ⟨by (first | omega | (simp (disch := omega) only [wrapI]; omega) | (simp (disch := omega) only [wrapI]; simp; omega) | (simp; omega)), ?_⟩ | (intro ep) | fail)))
        all_goals (conv => whnf)
        refine ifB (fun hb => ?_) (fun hb => ?_)
        · exfalso; simp at hb
        (repeat' (first | exact rfl | ((conv => whnf); first | exact rfl | exact ⟨rfl, rfl⟩ | refine ⟨(by kernel_rfl : drawOk _ _ _ _ = true), ?_⟩ | refine ⟨(by kernel_rfl : planOk _ _ _ _ = true), ?_⟩ | refine ⟨rfl, ?_⟩ | refine ⟨by (first | omega | (simp (disch := omega) only [wrapI]; omega) | (simp (disch := omega) only [wrapI]; simp; omega) | (simp; omega)), ?_⟩ | (intro ep) | fail)))
        all_goals (conv => whnf)
        exact back_of ⟨k + 1, by omega⟩ ⟨by (first | exact rfl | (simp (disch := omega) only [wrapI]; exact rfl)), rfl, by simp only; omega⟩
      · simp only [decide_eq_false_iff_not] at g1
        (repeat' (first | exact rfl | ((conv => whnf); first | exact rfl | exact ⟨rfl, rfl⟩ | refine ⟨(by kernel_rfl : drawOk _ _ _ _ = true), ?_⟩ | refine ⟨(by kernel_rfl : planOk _ _ _ _ = true), ?_⟩ | refine ⟨rfl, ?_⟩ | refine ⟨by (first | omega | (simp (disch := omega) only [wrapI]; omega) | (simp (disch := omega) only [wrapI]; simp; omega) | (simp; omega)), ?_⟩ | (intro ep) | fail)))
        all_goals (conv => whnf)
        exact back_of () ⟨rfl, rfl, rfl⟩
    · rintro ⟨⟩
    · rintro ⟨⟩
      (repeat' (first | exact rfl | ((conv => whnf); first | refine ⟨_, works_spec, ?_⟩ | exact rfl | exact ⟨rfl, rfl⟩ | refine ⟨(by kernel_rfl : drawOk _ _ _ _ = true), ?_⟩ | refine ⟨(by kernel_rfl : planOk _ _ _ _ = true), ?_⟩ | refine ⟨rfl, ?_⟩ | refine ⟨by (first | omega | (simp (disch := omega) only [wrapI]; omega) | (simp (disch := omega) only [wrapI]; simp; omega) | (simp; omega)), ?_⟩ | (intro ep) | (refine ifB (fun hb => ?_) (fun hb => ?_) <;> (try simp only [decide_eq_true_eq, decide_eq_false_iff_not, beq_iff_eq, beq_eq_false_iff_ne, bne_iff_ne, bne_eq_false_iff_eq, ne_eq, not_false_eq_true, not_true_eq_false, Bool.not_eq_true, Bool.not_eq_true', Bool.not_eq_false', Int.not_lt, Int.not_le] at hb) <;> (try simp (disch := omega) only [wrapI] at hb) <;> (try (exfalso; omega))) | fail)))
end Go.Ab.V
