/-
  What is proved here serves the law's text: each part says its own claim and its conditions. No condition is left open.
-/
import Derived.Test.YthdhhhgjdegafaaKR
import Derived.Test.YthdhhhgjdegafaaKQ
import Derived.Test.YthdhhhgjdegafaaKS
import Derived.Test.YthdhhhgjdegafaaKV
import Derived.Test.YthdhhhgjdegafaaKU
import Derived.Test.YthdhhhgjdegafaaKW
set_option linter.unusedSimpArgs false
set_option linter.unusedVariables false

namespace Go.Ab.V
open Go.Proofs
theorem bnds_next {S : List (Nat × Nat)} {L b : Nat} {j : Nat} (h : Chain L b (S.drop j)) (hj : j ≤ S.length) : (S.map (fun x => (x.1 : Int)) ++ [(L : Int)])[j]? = some (b : Int) := by
 by_cases hl : j < S.length
 ·rw [List.drop_eq_getElem_cons hl] at h
  rw [List.getElem?_append_left (by simpa using hl), List.getElem?_map, List.getElem?_eq_getElem hl]
  have h1 : S[j].1 = b := h.1
  simp [h1]
 ·rw [List.drop_eq_nil_of_le (by omega)] at h
  have e : j = S.length := by omega
  subst e
  rw [List.getElem?_append_right (by simp)]
  simp
  rw [show b = L from h]
theorem nx0 (L : Nat) : NxOk L [0, 0, 0, 0, 0] 0 0 [0, 0, 0, 0, 0] := by
 have h : ∀ i, i < 5 → [(0 : Int), 0, 0, 0, 0].getD i 0 = 0 := fun i hi => by
  obtain rfl | rfl | rfl | rfl | rfl : i = 0 ∨ i = 1 ∨ i = 2 ∨ i = 3 ∨ i = 4 := by omega
  all_goals rfl
 exact ⟨rfl, fun i hi => by rw [h i hi]; simp, fun i hi _ => rfl, fun i hi _ => h i hi⟩
theorem evt_bd {x : Lm} (h5 : x.lo.length ≤ 5) : ∀ (c i : Nat) (s : St) (m : Int) (l : List Nt) (ks : List Int) (d : St × Int), s.ok → (∀ n ∈ l, ntFit n) → evt x s m i c l ks = .inr d → m ≤ d.2 ∧ d.2 ≤ m + 127 * c
 | 0, i, s, m, l, ks, d, hs, hl, h => by
  unfold evt at h; cases h; simp
 | c + 1, i, s, m, [], ks, d, hs, hl, h => by simp [evt] at h
 | c + 1, i, s, m, n :: r, [], d, hs, hl, h => by simp [evt] at h
 | c + 1, i, s, m, n :: r, k :: q, d, hs, hl, h => by
  unfold evt at h
  cases hj : join x s n k with
  | none => rw [hj] at h; simp at h
  | some d2 =>
   rw [hj] at h
   simp only at h
   obtain ⟨h1, h2, h3⟩ := join_ok hj h5 hs (hl n (by simp))
   have := evt_bd h5 c (i + 1) d2.2 (m + d2.1) r q d h1 (fun x hx => hl x (by simp [hx])) h
   omega
theorem lookS_ok {l : List Nt} (hl : ∀ n ∈ l, ntFit n) (s : List Int) : (lookS l s).ok := by
 have h : ∀ z, ntFit (look l z) := fun z => by
  unfold look
  split
  ·unfold ntFit nt0; decide
  ·cases hh : l[(z - 1).toNat]? with
   | none => unfold ntFit nt0; simp
   | some n => exact hl n (List.mem_of_getElem? hh)
 intro k
 unfold St.get lookS
 split <;> first | exact h _ | (unfold ntFit nt0; decide)
end Go.Ab.V

namespace Go.Ab.V
open Go.Proofs
def rowsL (C : List (List Int)) : List (List AV) := C.map fun l => [intsA l]
def lsA (C : List (List Int)) : AV := .lslc 1 (rowsL C) 0 C.length false
theorem pure_rowsL (C : List (List Int)) : pureRows (rowsL C) := by
 intro row hr c hc
 obtain ⟨x, _, rfl⟩ := List.mem_map.1 hr
 simp at hc
 subst hc
 rfl
def okC (l : List Int) (v : Int) : Bool := !l.contains v
def upto (a b : Nat) : List Int := (List.range (b - a)).map fun (k : Nat) => ((a + k : Nat) : Int) + 1
theorem upto_cons {a b : Nat} (h : a < b) : upto a b = ((a : Int) + 1) :: upto (a + 1) b := by
 unfold upto
 rw [show b - a = (b - (a + 1)) + 1 by omega, List.range_succ_eq_map, List.map_cons, List.map_map]
 simp only [Nat.add_zero, List.cons.injEq, true_and]
 refine List.map_congr_left fun k _ => ?_
 simp only [Function.comp]
 omega
theorem upto_nil {a b : Nat} (h : b ≤ a) : upto a b = [] := by unfold upto; rw [show b - a = 0 by omega]; rfl
def extU (L : Nat) (C : List (List Int)) : List (List Int) := extL (upto 0 L) okC C
def extV (l : List Int) (a L : Nat) : List (List Int) := ((upto a L).filter (okC l)).map fun v => l ++ [v]
theorem extU_cons (L : Nat) (l : List Int) (C : List (List Int)) : extU L (l :: C) = extV l 0 L ++ extU L C := by unfold extU extL extV; rw [List.flatMap_cons]
theorem extV_cons {l : List Int} {a L : Nat} (h : a < L) : extV l a L = (if okC l ((a : Int) + 1) then [l ++ [(a : Int) + 1]] else []) ++ extV l (a + 1) L := by
 unfold extV
 rw [upto_cons h, List.filter_cons]
 split <;> rfl
theorem extV_nil {l : List Int} {a L : Nat} (h : L ≤ a) : extV l a L = [] := by unfold extV; rw [upto_nil h]; rfl
def chC (L : Nat) : Nat → List (List Int) → List (List Int)
 | 0, C => C
 | k + 1, C => chC L k (extU L C)
theorem chC_succ (L : Nat) : ∀ (j : Nat) (C : List (List Int)), chC L (j + 1) C = extU L (chC L j C)
 | 0, C => rfl
 | j + 1, C => by
  show chC L (j + 1) (extU L C) = _
  rw [chC_succ L j]
  rfl
theorem pureRows_of1 {rows : List (List AV)} (h : (rows.all fun r => r.all AV.pure1) = true) : pureRows rows :=
 fun row hr c hc => List.all_eq_true.1 (List.all_eq_true.1 h row hr) c hc
def A63 : Ann := fun r => match r with
 | 1 => { slots := [(0, 0)] }
 | 5 => { lifts := [(6, 5, 1)] }
 | 17 => { slots := [(5, 1), (7, 2), (8, 1), (9, 4), (10, 5)], frz := [2055, 1001] }
 | 18 => { frz := [5] }
 | _ => {}
theorem has_succ {l : List Int} {k : Nat} (h : k < l.length) (v : Int) : (l.take (k + 1)).contains v = ((l.take k).contains v || decide (l[k] = v)) := by
 rw [List.take_succ_eq_append_getElem h, List.contains_eq_mem, List.contains_eq_mem]
 simp only [List.mem_append, List.mem_singleton, Bool.decide_or]
 congr 1
 exact decide_eq_decide.2 eq_comm
set_option maxHeartbeats 16000000 in
set_option maxRecDepth 100000 in
theorem choices63 (L k : Nat) (hL : L ≤ 5) (hk : k ≤ 5600) (hb : ∀ j, j ≤ k → (chC L j [[]]).length ≤ 100000 ∧ ∀ l ∈ chC L j [[]], l.length ≤ 100000) : PRet C.P 63 [.int .i64 (L : Int), .int .i64 (k : Int)] (lsA (chC L k [[]])) := by
 refine pret_of ok mixed (A := A63) 6 Try.func63 rfl ?_
 (repeat' (first | exact rfl | ((conv => whnf); first | exact rfl | exact ⟨rfl, rfl⟩ | refine dk (by kernel_rfl) ?_ | refine pk (by kernel_rfl) ?_ | refine ⟨rfl, ?_⟩ | refine ⟨by (first | omega | (simp (disch := omega) only [wrapI]; first | omega | (simp; omega)) | (simp; omega)), ?_⟩ | (intro ep) | fail)))
 all_goals (conv => whnf)
 refine wk_mapc (nilS 1) (fun σ a u h => nilS_rel 1 σ a u h) ?_
 refine wk_tr (tr_fz 0 ep (rows := [[intsA []]]) rfl (pureRows_of1 (by kernel_rfl)) (by (repeat' (first | exact trivial | exact rfl | ((conv => whnf); first | exact trivial | exact rfl | refine ⟨?_, ?_⟩ | fail)))) (by (repeat' (first | exact trivial | exact rfl | ((conv => whnf); first | exact trivial | exact rfl | refine ⟨?_, ?_⟩ | fail)))) (by simp) rfl rfl (tr_done ?_))
 refine loopX ok mixed (A := A63) [0, 1, 5] [] (S := { j : Nat // j ≤ k })
  (fr := fun j => frOf 0 63 [(0, .int .i64 (L : Int)), (1, .int .i64 ((k - j.1 : Nat) : Int)), (5, lsA (chC L j.1 [[]]))])
  (h := fun _ => ⟨List.replicate 6 .hole, []⟩) (μ := fun j => k - j.1) ⟨0, Nat.zero_le _⟩ ?_ ?_
  [5] [] (S' := Unit) (X := fun _ => 0) (frX := fun _ => frOf 0 63 [(5, lsA (chC L k [[]]))]) (hX := fun _ => ⟨List.replicate 6 .hole, []⟩) (R := fun _ _ => False) ?_ (fun _ _ h => h.elim) ?_
 ·exact rfl
 ·exact rfl
 ·rintro ⟨j, hj⟩
  obtain ⟨bC, bl⟩ := hb j hj
  show aexR _ _ _ (frOf 0 63 [(0, .int .i64 (L : Int)), (1, .int .i64 ((k - j : Nat) : Int)), (5, lsA (chC L j [[]]))]) ⟨List.replicate 6 .hole, []⟩ _
  (conv => whnf)
  refine ifB (fun g => ?_) (fun g => ?_)
  ·simp only [decide_eq_true_eq] at g
   have g : j < k := by omega
   obtain ⟨bR, _⟩ := hb (j + 1) g
   have hR := chC_succ L j [[]]
   generalize chC L (j + 1) [[]] = R at bR hR
   generalize hCC : chC L j [[]] = CC at bC bl hR
   (repeat' (first | ((conv => whnf); first | exact rfl | exact ⟨rfl, rfl⟩ | refine dk (by kernel_rfl) ?_ | refine pk (by kernel_rfl) ?_ | refine ⟨rfl, ?_⟩ | refine ⟨by (first | omega | (simp (disch := omega) only [wrapI]; first | omega | (simp; omega)) | (simp; omega)), ?_⟩ | (intro ep) | fail)))
   all_goals (conv => whnf)
   refine loopX ok mixed (A := A63) [0, 1, 5, 6, 7] [5] (S := { z : Nat × Nat × List (List Int) // z.2.1 ≤ CC.length ∧ z.2.2 ++ extU L (CC.drop z.2.1) = R })
    (fr := fun z => frOf 0 63 [(0, .int .i64 (L : Int)), (1, .int .i64 ((k - j : Nat) : Int)), (5, lsA CC), (6, .oslc (.s 5) z.1.1 1 0 z.1.2.2.length false), (7, .int .i64 (z.1.2.1 : Int))])
    (h := fun z => ⟨[.hole, .hole, .hole, .hole, .hole, .vec z.1.1 (rowsL z.1.2.2)], []⟩) (μ := fun z => CC.length - z.1.2.1) ⟨(ep, 0, []), Nat.zero_le _, by simp [hR]⟩ ?_ ?_
    [0, 1, 6] [5] (S' := { z : Nat × List (List Int) // z.2 = R }) (X := fun _ => 2) (frX := fun z => frOf 0 63 [(0, .int .i64 (L : Int)), (1, .int .i64 ((k - j : Nat) : Int)), (6, .oslc (.s 5) z.1.1 1 0 z.1.2.length false)])
    (hX := fun z => ⟨[.hole, .hole, .hole, .hole, .hole, .vec z.1.1 (rowsL z.1.2)], []⟩) (R := fun _ _ => False) ?_ (fun _ _ h => h.elim) ?_
   ·exact rfl
   ·exact rfl
   ·rintro ⟨⟨e, i, acc⟩, hi, hu⟩
    simp only at hi hu
    show aexR _ _ _ (frOf 0 63 [(0, .int .i64 (L : Int)), (1, .int .i64 ((k - j : Nat) : Int)), (5, lsA CC), (6, .oslc (.s 5) e 1 0 acc.length false), (7, .int .i64 (i : Int))]) ⟨[.hole, .hole, .hole, .hole, .hole, .vec e (rowsL acc)], []⟩ _
    (conv => whnf)
    refine ifB (fun g1 => ?_) (fun g1 => ?_)
    ·simp only [decide_eq_true_eq] at g1
     have g1 : i < CC.length := by omega
     have hrow : (rowsL CC)[0 + ((i : Nat) : Int).toNat]? = some [intsA CC[i]] := mapR (f := fun l => [intsA l]) g1
     have hll := bl _ (List.getElem_mem g1)
     rw [List.drop_eq_getElem_cons g1, extU_cons] at hu
     generalize CC[i] = l at hrow hll hu
     (repeat' (first | ((conv => whnf); first | exact rfl | exact ⟨rfl, rfl⟩ | refine dk (by kernel_rfl) ?_ | refine pk (by kernel_rfl) ?_ | refine ⟨rfl, ?_⟩ | refine ⟨by (first | omega | (simp (disch := omega) only [wrapI]; first | omega | (simp; omega)) | (simp; omega)), ?_⟩ | (intro ep) | fail)))
     all_goals (conv => whnf)
     refine loopX ok mixed (A := A63) [0, 1, 5, 6, 7, 8] [5] (S := { z : Nat × Nat × List (List Int) // z.2.1 ≤ L ∧ z.2.2 ++ (extV l z.2.1 L ++ extU L (CC.drop (i + 1))) = R })
      (fr := fun z => frOf 0 63 [(0, .int .i64 (L : Int)), (1, .int .i64 ((k - j : Nat) : Int)), (5, lsA CC), (6, .oslc (.s 5) z.1.1 1 0 z.1.2.2.length false), (7, .int .i64 (i : Int)), (8, .int .i64 ((z.1.2.1 : Int) + 1))])
      (h := fun z => ⟨[.hole, .hole, .hole, .hole, .hole, .vec z.1.1 (rowsL z.1.2.2)], []⟩) (μ := fun z => L - z.1.2.1) ⟨(e, 0, acc), Nat.zero_le _, hu⟩ ?_ ?_
      [0, 1, 5, 6, 7] [5] (S' := { z : Nat × List (List Int) // z.2 ++ extU L (CC.drop (i + 1)) = R }) (X := fun _ => 4)
      (frX := fun z => frOf 0 63 [(0, .int .i64 (L : Int)), (1, .int .i64 ((k - j : Nat) : Int)), (5, lsA CC), (6, .oslc (.s 5) z.1.1 1 0 z.1.2.length false), (7, .int .i64 (i : Int))])
      (hX := fun z => ⟨[.hole, .hole, .hole, .hole, .hole, .vec z.1.1 (rowsL z.1.2)], []⟩) (R := fun _ _ => False) ?_ (fun _ _ h => h.elim) ?_
     ·exact rfl
     ·exact rfl
     ·rintro ⟨⟨e, v, acc⟩, hv, hu⟩
      simp only at hv hu
      show aexR _ _ _ (frOf 0 63 [(0, .int .i64 (L : Int)), (1, .int .i64 ((k - j : Nat) : Int)), (5, lsA CC), (6, .oslc (.s 5) e 1 0 acc.length false), (7, .int .i64 (i : Int)), (8, .int .i64 ((v : Int) + 1))]) ⟨[.hole, .hole, .hole, .hole, .hole, .vec e (rowsL acc)], []⟩ _
      (conv => whnf)
      refine ifB (fun g2 => ?_) (fun g2 => ?_)
      ·simp only [decide_eq_true_eq] at g2
       have g2 : v < L := by omega
       rw [extV_cons g2] at hu
       (repeat' (first | ((conv => whnf); first | exact rfl | exact ⟨rfl, rfl⟩ | refine dk (by kernel_rfl) ?_ | refine pk (by kernel_rfl) ?_ | refine ⟨rfl, ?_⟩ | refine ⟨by (first | omega | (simp (disch := omega) only [wrapI]; first | omega | (simp; omega)) | (simp; omega)), ?_⟩ | (intro ep) | fail)))
       all_goals (conv => whnf)
       refine loopX ok mixed (A := A63) [0, 1, 5, 6, 7, 8, 9, 10] [5] (S := { q : Nat // q ≤ l.length })
        (fr := fun q => frOf 0 63 [(0, .int .i64 (L : Int)), (1, .int .i64 ((k - j : Nat) : Int)), (5, lsA CC), (6, .oslc (.s 5) e 1 0 acc.length false), (7, .int .i64 (i : Int)), (8, .int .i64 ((v : Int) + 1)), (9, .bool ((l.take q.1).contains ((v : Int) + 1))), (10, .int .i64 (q.1 : Int))])
        (h := fun _ => ⟨[.hole, .hole, .hole, .hole, .hole, .vec e (rowsL acc)], []⟩) (μ := fun q => l.length - q.1) ⟨0, Nat.zero_le _⟩ ?_ ?_
        [0, 1, 5, 6, 7, 8, 9] [5] (S' := Unit) (X := fun _ => 6)
        (frX := fun _ => frOf 0 63 [(0, .int .i64 (L : Int)), (1, .int .i64 ((k - j : Nat) : Int)), (5, lsA CC), (6, .oslc (.s 5) e 1 0 acc.length false), (7, .int .i64 (i : Int)), (8, .int .i64 ((v : Int) + 1)), (9, .bool (l.contains ((v : Int) + 1)))])
        (hX := fun _ => ⟨[.hole, .hole, .hole, .hole, .hole, .vec e (rowsL acc)], []⟩) (R := fun _ _ => False) ?_ (fun _ _ h => h.elim) ?_
       ·exact rfl
       ·exact rfl
       ·rintro ⟨q, hq⟩
        show aexR _ _ _ (frOf 0 63 [(0, .int .i64 (L : Int)), (1, .int .i64 ((k - j : Nat) : Int)), (5, lsA CC), (6, .oslc (.s 5) e 1 0 acc.length false), (7, .int .i64 (i : Int)), (8, .int .i64 ((v : Int) + 1)), (9, .bool ((l.take q).contains ((v : Int) + 1))), (10, .int .i64 (q : Int))]) ⟨[.hole, .hole, .hole, .hole, .hole, .vec e (rowsL acc)], []⟩ _
        by_cases g3 : q < l.length
        ·have hs := has_succ g3 ((v : Int) + 1)
         have hk1 := intsR g3
         generalize l[q] = u at hs hk1
         cases hc : (l.take q).contains ((v : Int) + 1) with
         | true =>
          rw [hc, Bool.true_or] at hs
          (repeat' (first | ((conv => whnf); first | refine optS hrow ?_ | refine optS hk1 ?_ | exact rfl | exact ⟨rfl, rfl⟩ | refine dk (by kernel_rfl) ?_ | refine pk (by kernel_rfl) ?_ | refine ⟨rfl, ?_⟩ | refine ⟨by (first | omega | (simp (disch := omega) only [wrapI]; first | omega | (simp; omega)) | (simp; omega)), ?_⟩ | (intro ep) | (refine ifB (fun hb => ?_) (fun hb => ?_) <;> (try simp only [qs] at hb) <;> (try simp (disch := omega) only [wrapI] at hb) <;> (try (exfalso; omega))) | fail)))
          all_goals (conv => whnf)
          refine back_of ⟨q + 1, by omega⟩ ⟨?_, rfl, by simp only; omega⟩
          simp only [hs]
          (first | exact rfl | (simp (disch := omega) only [wrapI]; exact rfl))
         | false =>
          rw [hc, Bool.false_or] at hs
          (repeat' (first | ((conv => whnf); first | refine optS hrow ?_ | refine optS hk1 ?_ | exact rfl | exact ⟨rfl, rfl⟩ | refine dk (by kernel_rfl) ?_ | refine pk (by kernel_rfl) ?_ | refine ⟨rfl, ?_⟩ | refine ⟨by (first | omega | (simp (disch := omega) only [wrapI]; first | omega | (simp; omega)) | (simp; omega)), ?_⟩ | (intro ep) | (refine ifB (fun hb => ?_) (fun hb => ?_) <;> (try simp only [qs] at hb) <;> (try simp (disch := omega) only [wrapI] at hb) <;> (try (exfalso; omega))) | fail)))
          all_goals (conv => whnf)
          refine back_of ⟨q + 1, by omega⟩ ⟨?_, rfl, by simp only; omega⟩
          simp only [hs]
          (first | exact rfl | (simp (disch := omega) only [wrapI]; exact rfl))
        ·have e1 : l.take q = l := List.take_of_length_le (by omega)
         rw [e1]
         (repeat' (first | ((conv => whnf); first | refine optS hrow ?_ | exact rfl | exact ⟨rfl, rfl⟩ | refine dk (by kernel_rfl) ?_ | refine pk (by kernel_rfl) ?_ | refine ⟨rfl, ?_⟩ | refine ⟨by (first | omega | (simp (disch := omega) only [wrapI]; first | omega | (simp; omega)) | (simp; omega)), ?_⟩ | (intro ep) | (refine ifB (fun hb => ?_) (fun hb => ?_) <;> (try simp only [qs] at hb) <;> (try simp (disch := omega) only [wrapI] at hb) <;> (try (exfalso; omega))) | fail)))
         all_goals (conv => whnf)
         exact back_of () ⟨rfl, rfl, rfl⟩
       ·rintro ⟨⟩
        have hacc : acc.length < R.length ∨ okC l ((v : Int) + 1) = false := by
         by_cases c : okC l ((v : Int) + 1) = true
         ·left
          rw [if_pos c] at hu
          rw [← hu]
          simp
         ·right; simpa using c
        unfold okC at hu hacc
        cases hc : l.contains ((v : Int) + 1) with
        | true =>
         rw [hc] at hu
         rw [if_neg (by simp), List.nil_append] at hu
         (repeat' (first | ((conv => whnf); first | exact rfl | exact ⟨rfl, rfl⟩ | refine dk (by kernel_rfl) ?_ | refine pk (by kernel_rfl) ?_ | refine ⟨rfl, ?_⟩ | refine ⟨by (first | omega | (simp (disch := omega) only [wrapI]; first | omega | (simp; omega)) | (simp; omega)), ?_⟩ | (intro ep) | (refine ifB (fun hb => ?_) (fun hb => ?_) <;> (try simp only [qs] at hb) <;> (try simp (disch := omega) only [wrapI] at hb) <;> (try (exfalso; omega))) | fail)))
         all_goals (conv => whnf)
         refine back_of ⟨(e, v + 1, acc), g2, hu⟩ ⟨?_, rfl, by simp only; omega⟩
         (first | exact rfl | (simp (disch := omega) only [wrapI]; exact rfl))
        | false =>
         rw [hc] at hu hacc
         rw [if_pos (by simp)] at hu
         have hacc : acc.length < R.length := by simpa using hacc
         have t3 : List.take acc.length (List.drop 0 (rowsL acc)) = rowsL acc := by rw [List.drop_zero, List.take_of_length_le (by simp [rowsL])]
         have t4 : List.take l.length (List.drop 0 (ints l)) = ints l := by rw [List.drop_zero, List.take_of_length_le (by simp [ints])]
         (repeat' (first | ((conv => whnf); first | refine optS hrow ?_ | exact rfl | exact ⟨rfl, rfl⟩ | refine dk (by kernel_rfl) ?_ | refine pk (by kernel_rfl) ?_ | refine ⟨rfl, ?_⟩ | refine ⟨by (first | omega | (simp (disch := omega) only [wrapI]; first | omega | (simp; omega)) | (simp; omega)), ?_⟩ | (intro ep) | (refine ifB (fun hb => ?_) (fun hb => ?_) <;> (try simp only [qs] at hb) <;> (try simp (disch := omega) only [wrapI] at hb) <;> (try (exfalso; omega))) | fail)))
         all_goals (conv => whnf)
         rename_i p1 p4
         have nsr : ∀ r ∈ List.take acc.length (List.drop 0 (rowsL acc)), r.all noS = true := fun r hr => by
          rw [t3] at hr
          obtain ⟨z, _, rfl⟩ := List.mem_map.1 hr
          rfl
         have tt : List.take (List.take l.length (List.drop 0 (ints l))).length (List.drop 0 (List.take l.length (List.drop 0 (ints l)))) ++ [[.int .i64 ((v : Int) + 1)]] = ints (l ++ [(v : Int) + 1]) := by
          rw [t4, List.drop_zero, List.take_of_length_le (Nat.le_refl _)]
          simp [ints]
         have hR2 : pureRows (List.take (List.take l.length (List.drop 0 (ints l))).length (List.drop 0 (List.take l.length (List.drop 0 (ints l)))) ++ [[.int .i64 ((v : Int) + 1)]]) := by rw [tt]; exact pure_ints _
         refine ⟨hR2, by (repeat' (first | exact trivial | exact rfl | ((conv => whnf); first | exact trivial | exact rfl | refine ⟨?_, ?_⟩ | fail))), ⟨trivial, trivial, by (repeat' (first | exact trivial | exact rfl | ((conv => whnf); first | exact trivial | exact rfl | refine ⟨?_, ?_⟩ | fail))), trivial, by (repeat' (first | exact trivial | exact rfl | ((conv => whnf); first | exact trivial | exact rfl | refine ⟨?_, ?_⟩ | fail))), eqsP_snoc nsr, trivial⟩, trivial, ?_⟩
         (conv => whnf)
         have e5 := fcS_snoc (n := 1) (ep := p1) (sz := 1) (o := 0) (l := (List.take l.length (List.drop 0 (ints l))).length + 1) (lim := false) (R := List.take (List.take l.length (List.drop 0 (ints l))).length (List.drop 0 (List.take l.length (List.drop 0 (ints l)))) ++ [[.int .i64 ((v : Int) + 1)]]) nsr
         have e6 : List.take acc.length (List.drop 0 (rowsL acc)) ++ [[AV.lslc 1 (List.take (List.take l.length (List.drop 0 (ints l))).length (List.drop 0 (List.take l.length (List.drop 0 (ints l)))) ++ [[.int .i64 ((v : Int) + 1)]]) 0 ((List.take l.length (List.drop 0 (ints l))).length + 1) false]] = rowsL (acc ++ [l ++ [(v : Int) + 1]]) := by
          rw [t3, tt, t4]
          simp [rowsL, intsA, ints]
         rw [e6] at e5
         refine back_of ⟨(ep, v + 1, acc ++ [l ++ [(v : Int) + 1]]), g2, by simpa using hu⟩ ⟨?_, ?_, by simp only; omega⟩
         ·show _ = frOf 0 63 [(0, .int .i64 (L : Int)), (1, .int .i64 ((k - j : Nat) : Int)), (5, lsA CC), (6, .oslc (.s 5) ep 1 0 (acc ++ [l ++ [(v : Int) + 1]]).length false), (7, .int .i64 (i : Int)), (8, .int .i64 (((v + 1 : Nat) : Int) + 1))]
          rw [show (acc ++ [l ++ [(v : Int) + 1]]).length = acc.length + 1 by simp]
          (first | exact rfl | (simp (disch := omega) only [wrapI]; exact rfl))
         ·exact congrArg (fun r => Heap.mk [.hole, .hole, .hole, .hole, .hole, .vec ep r] []) e5
      ·simp only [decide_eq_false_iff_not] at g2
       rw [extV_nil (by omega), List.nil_append] at hu
       (repeat' (first | exact rfl | ((conv => whnf); first | exact rfl | exact ⟨rfl, rfl⟩ | refine dk (by kernel_rfl) ?_ | refine pk (by kernel_rfl) ?_ | refine ⟨rfl, ?_⟩ | refine ⟨by (first | omega | (simp (disch := omega) only [wrapI]; first | omega | (simp; omega)) | (simp; omega)), ?_⟩ | (intro ep) | fail)))
       all_goals (conv => whnf)
       exact back_of ⟨(e, acc), hu⟩ ⟨rfl, rfl, rfl⟩
     ·rintro ⟨⟨e, acc⟩, hu⟩
      simp only at hu
      (repeat' (first | exact rfl | ((conv => whnf); first | exact rfl | exact ⟨rfl, rfl⟩ | refine dk (by kernel_rfl) ?_ | refine pk (by kernel_rfl) ?_ | refine ⟨rfl, ?_⟩ | refine ⟨by (first | omega | (simp (disch := omega) only [wrapI]; first | omega | (simp; omega)) | (simp; omega)), ?_⟩ | (intro ep) | fail)))
      all_goals (conv => whnf)
      refine back_of ⟨(e, i + 1, acc), g1, hu⟩ ⟨?_, rfl, by simp only; omega⟩
      (first | exact rfl | (simp (disch := omega) only [wrapI]; exact rfl))
    ·simp only [decide_eq_false_iff_not] at g1
     rw [List.drop_eq_nil_of_le (by omega)] at hu
     (repeat' (first | exact rfl | ((conv => whnf); first | exact rfl | exact ⟨rfl, rfl⟩ | refine dk (by kernel_rfl) ?_ | refine pk (by kernel_rfl) ?_ | refine ⟨rfl, ?_⟩ | refine ⟨by (first | omega | (simp (disch := omega) only [wrapI]; first | omega | (simp; omega)) | (simp; omega)), ?_⟩ | (intro ep) | fail)))
     all_goals (conv => whnf)
     exact back_of ⟨(e, acc), by simpa [extU, extL] using hu⟩ ⟨rfl, rfl, rfl⟩
   ·rintro ⟨⟨e, acc⟩, hu⟩
    simp only at hu
    subst hu
    (repeat' (first | exact rfl | ((conv => whnf); first | exact rfl | exact ⟨rfl, rfl⟩ | refine dk (by kernel_rfl) ?_ | refine pk (by kernel_rfl) ?_ | refine ⟨rfl, ?_⟩ | refine ⟨by (first | omega | (simp (disch := omega) only [wrapI]; first | omega | (simp; omega)) | (simp; omega)), ?_⟩ | (intro ep) | fail)))
    all_goals (conv => whnf)
    refine ⟨pure_rowsL acc, ?_⟩
    (repeat' (first | exact rfl | ((conv => whnf); first | exact rfl | exact ⟨rfl, rfl⟩ | refine dk (by kernel_rfl) ?_ | refine pk (by kernel_rfl) ?_ | refine ⟨rfl, ?_⟩ | refine ⟨by (first | omega | (simp (disch := omega) only [wrapI]; first | omega | (simp; omega)) | (simp; omega)), ?_⟩ | (intro ep) | fail)))
    all_goals (conv => whnf)
    refine back_of ⟨j + 1, g⟩ ⟨?_, rfl, by simp only; omega⟩
    show _ = frOf 0 63 [(0, .int .i64 (L : Int)), (1, .int .i64 ((k - (j + 1) : Nat) : Int)), (5, lsA (chC L (j + 1) [[]]))]
    rw [chC_succ, hCC, ← hR]
    have e : IntKind.i64.wrap (((k - j : Nat) : Int) - 1) = ((k - (j + 1) : Nat) : Int) := by rw [wrapI (by omega) (by omega)]; omega
    rw [← e]
    exact rfl
  ·simp only [decide_eq_false_iff_not] at g
   have e : j = k := by omega
   subst e
   (repeat' (first | exact rfl | ((conv => whnf); first | exact rfl | exact ⟨rfl, rfl⟩ | refine dk (by kernel_rfl) ?_ | refine pk (by kernel_rfl) ?_ | refine ⟨rfl, ?_⟩ | refine ⟨by (first | omega | (simp (disch := omega) only [wrapI]; first | omega | (simp; omega)) | (simp; omega)), ?_⟩ | (intro ep) | fail)))
   all_goals (conv => whnf)
   exact back_of () ⟨rfl, rfl, rfl⟩
 ·rintro ⟨⟩
  (repeat' (first | exact rfl | ((conv => whnf); first | exact rfl | exact ⟨rfl, rfl⟩ | refine dk (by kernel_rfl) ?_ | refine pk (by kernel_rfl) ?_ | refine ⟨rfl, ?_⟩ | refine ⟨by (first | omega | (simp (disch := omega) only [wrapI]; first | omega | (simp; omega)) | (simp; omega)), ?_⟩ | (intro ep) | fail)))
end Go.Ab.V

namespace Go.Ab.V
open Go.Proofs
def sitZ (x : Lm) (n : List Nt) (f z : Int) : Int := if 0 < z ∧ (look n z).t + x.gap < f then 0 else z
def sitS (x : Lm) (n : List Nt) (f : Int) (s : List Int) : List Int := s.map (sitZ x n f)
def A65 : Ann := fun r => match r with
 | 0 => { slots := [(0, 0), (1, 1), (2, 2)] }
 | _ => {}
set_option maxHeartbeats 16000000 in
set_option maxRecDepth 100000 in
theorem situation65 (x : Lm) (n : List Nt) (s : List Int) (f : Int) (X : LmOk x) (hN : chkN n = 0) (hs : s.length = 5) (hb : ∀ z ∈ s, 0 ≤ z ∧ z ≤ n.length) :
  PRet C.P 65 [lmA x, ntsA n, .agg (arr s), .int .i64 f] (.agg (arr (sitS x n f s))) := by
 have NN := ntsOk_of hN
 have hlen := NN.len
 have hgap := X.gap
 obtain ⟨s0, s1, s2, s3, s4, rfl⟩ := l5 hs
 have key : ∀ z ∈ [s0, s1, s2, s3, s4], (¬ 0 < z ∧ sitZ x n f z = z) ∨ ((0 < z ∧ z ≤ n.length) ∧ ∃ e c p a t : Int, (n.map ntR)[0 + (IntKind.i64.wrap (z - 1)).toNat]? = some [.int .i64 e, .int .i64 c, .int .i64 p, .int .i64 a, .int .i64 t] ∧ (0 ≤ t ∧ t ≤ 262144) ∧ ((t + x.gap < f ∧ sitZ x n f z = 0) ∨ (¬ t + x.gap < f ∧ sitZ x n f z = z))) := by
  intro z hz
  have b := hb z hz
  by_cases c : 0 < z
  ·right
   refine ⟨⟨c, b.2⟩, ?_⟩
   have hzl : (z - 1).toNat < n.length := by omega
   have hzw : IntKind.i64.wrap (z - 1) = (((z - 1).toNat : Nat) : Int) := by rw [wrapI (by omega) (by omega)]; omega
   have hm2 : (n.map ntR)[0 + (IntKind.i64.wrap (z - 1)).toNat]? = some (ntR n[(z - 1).toNat]) := by rw [hzw]; exact mapR hzl
   have hlk : look n z = n[(z - 1).toNat] := by unfold look; rw [if_neg (by omega), List.getElem?_eq_getElem hzl]; rfl
   have hf2 := NN.fit _ (List.getElem_mem hzl)
   have hS : sitZ x n f z = if (look n z).t + x.gap < f then 0 else z := by
    unfold sitZ
    by_cases q : (look n z).t + x.gap < f
    ·rw [if_pos ⟨c, q⟩, if_pos q]
    ·rw [if_neg (fun h => q h.2), if_neg q]
   rw [hlk] at hS
   generalize n[(z - 1).toNat] = b at hm2 hS hf2
   obtain ⟨be, bc, bp, bf, bt⟩ := b
   refine ⟨be, bc, bp, bf, bt, hm2, by unfold ntBad at hf2; simp only at hf2; omega, ?_⟩
   simp only at hS
   by_cases q : bt + x.gap < f
   ·left; rw [if_pos q] at hS; exact ⟨q, hS⟩
   ·right; rw [if_neg q] at hS; exact ⟨q, hS⟩
  ·left
   exact ⟨c, by unfold sitZ; rw [if_neg (fun h => c h.1)]⟩
 unfold sitS
 simp only [List.map_cons, List.map_nil]
 have k0 := key s0 (by simp)
 have k1 := key s1 (by simp)
 have k2 := key s2 (by simp)
 have k3 := key s3 (by simp)
 have k4 := key s4 (by simp)
 clear key hb
 generalize sitZ x n f s0 = w0 at k0
 generalize sitZ x n f s1 = w1 at k1
 generalize sitZ x n f s2 = w2 at k2
 generalize sitZ x n f s3 = w3 at k3
 generalize sitZ x n f s4 = w4 at k4
 refine pret_of ok mixed (A := A65) 3 Try.func65 rfl ?_
 (conv => whnf)
 intro e0
 (conv => whnf)
 intro e1
 (conv => whnf)
 intro e2
 (repeat' (first | exact rfl | ((conv => whnf); first | refine optS hm ?_ | exact rfl | exact ⟨rfl, rfl⟩ | refine dk (by kernel_rfl) ?_ | refine pk (by kernel_rfl) ?_ | refine ⟨rfl, ?_⟩ | refine ⟨by (first | omega | (simp (disch := omega) only [wrapI]; first | omega | (simp; omega)) | (simp; omega)), ?_⟩ | (intro ep) | (refine ifB (fun hb => ?_) (fun hb => ?_) <;> (try simp only [qs] at hb) <;> (try simp (disch := omega) only [wrapI] at hb) <;> (try (exfalso; omega))) | fail)))
 all_goals (conv => whnf)
 obtain ⟨ar, har⟩ : ∃ ar : Nat → List Int, ar = fun k => match k with | 0 => [s0, s1, s2, s3, s4] | 1 => [w0, s1, s2, s3, s4] | 2 => [w0, w1, s2, s3, s4] | 3 => [w0, w1, w2, s3, s4] | 4 => [w0, w1, w2, w3, s4] | _ => [w0, w1, w2, w3, w4] := ⟨_, rfl⟩
 have a0 : ar 0 = [s0, s1, s2, s3, s4] := by subst har; rfl
 have a1 : ar 1 = [w0, s1, s2, s3, s4] := by subst har; rfl
 have a2 : ar 2 = [w0, w1, s2, s3, s4] := by subst har; rfl
 have a3 : ar 3 = [w0, w1, w2, s3, s4] := by subst har; rfl
 have a4 : ar 4 = [w0, w1, w2, w3, s4] := by subst har; rfl
 have a5 : ar 5 = [w0, w1, w2, w3, w4] := by subst har; rfl
 refine loopX ok mixed (A := A65) [1, 3, 4, 6, 8, 9] [0, 1, 2] (S := { k : Nat // k ≤ 5 })
  (fr := fun z => frOf 0 36 [(1, ntsA n), (3, .int .i64 f), (4, .optr (.s 0) e0 5 0 0), (6, .optr (.s 1) e1 5 0 0), (8, .optr (.s 2) e2 5 0 0), (9, .int .i64 (z.1 : Int))])
  (h := fun z => ⟨[.vec e0 [lmR x], .vec e1 [arr (ar z.1)], .vec e2 [arr [0, 0, 0, 0, 0]]], []⟩) (μ := fun z => 5 - z.1) ⟨0, by omega⟩ ?_ ?_
  [6, 8] [0, 1, 2] (S' := Unit) (X := fun _ => 0) (frX := fun _ => frOf 0 36 [(6, .optr (.s 1) e1 5 0 0), (8, .optr (.s 2) e2 5 0 0)])
  (hX := fun _ => ⟨[.vec e0 [lmR x], .vec e1 [arr [w0, w1, w2, w3, w4]], .vec e2 [arr [0, 0, 0, 0, 0]]], []⟩) (R := fun _ _ => False) ?_ (fun _ _ h => h.elim) ?_
 ·exact rfl
 ·show _ = (⟨[.vec e0 [lmR x], .vec e1 [arr (ar 0)], .vec e2 [arr [0, 0, 0, 0, 0]]], []⟩ : Heap)
  rw [a0]
  exact rfl
 ·rintro ⟨k, hk⟩
  obtain rfl | rfl | rfl | rfl | rfl | rfl : k = 0 ∨ k = 1 ∨ k = 2 ∨ k = 3 ∨ k = 4 ∨ k = 5 := by omega
  ·show aexR _ _ _ (frOf 0 36 [(1, ntsA n), (3, .int .i64 f), (4, .optr (.s 0) e0 5 0 0), (6, .optr (.s 1) e1 5 0 0), (8, .optr (.s 2) e2 5 0 0), (9, .int .i64 0)]) ⟨[.vec e0 [lmR x], .vec e1 [arr (ar 0)], .vec e2 [arr [0, 0, 0, 0, 0]]], []⟩ _
   rw [a0]
   rcases k0 with ⟨c, hw⟩ | ⟨c, e, cc, p, a, t, hm, hbt, ⟨c2, hw⟩ | ⟨c2, hw⟩⟩
   all_goals
    (repeat' (first | exact rfl | ((conv => whnf); first | refine optS hm ?_ | exact rfl | exact ⟨rfl, rfl⟩ | refine dk (by kernel_rfl) ?_ | refine pk (by kernel_rfl) ?_ | refine ⟨rfl, ?_⟩ | refine ⟨by (first | omega | (simp (disch := omega) only [wrapI]; first | omega | (simp; omega)) | (simp; omega)), ?_⟩ | (intro ep) | (refine ifB (fun hb => ?_) (fun hb => ?_) <;> (try simp only [qs] at hb) <;> (try simp (disch := omega) only [wrapI] at hb) <;> (try (exfalso; omega))) | fail)))
    all_goals (conv => whnf)
    all_goals refine back_of ⟨1, by omega⟩ ⟨by (first | exact rfl | (simp (disch := omega) only [wrapI]; exact rfl)), ?_, by simp only; omega⟩
    all_goals show _ = (⟨[.vec e0 [lmR x], .vec e1 [arr (ar 1)], .vec e2 [arr [0, 0, 0, 0, 0]]], []⟩ : Heap)
    all_goals (rw [a1, hw]; exact rfl)
  ·show aexR _ _ _ (frOf 0 36 [(1, ntsA n), (3, .int .i64 f), (4, .optr (.s 0) e0 5 0 0), (6, .optr (.s 1) e1 5 0 0), (8, .optr (.s 2) e2 5 0 0), (9, .int .i64 1)]) ⟨[.vec e0 [lmR x], .vec e1 [arr (ar 1)], .vec e2 [arr [0, 0, 0, 0, 0]]], []⟩ _
   rw [a1]
   rcases k1 with ⟨c, hw⟩ | ⟨c, e, cc, p, a, t, hm, hbt, ⟨c2, hw⟩ | ⟨c2, hw⟩⟩
   all_goals
    (repeat' (first | exact rfl | ((conv => whnf); first | refine optS hm ?_ | exact rfl | exact ⟨rfl, rfl⟩ | refine dk (by kernel_rfl) ?_ | refine pk (by kernel_rfl) ?_ | refine ⟨rfl, ?_⟩ | refine ⟨by (first | omega | (simp (disch := omega) only [wrapI]; first | omega | (simp; omega)) | (simp; omega)), ?_⟩ | (intro ep) | (refine ifB (fun hb => ?_) (fun hb => ?_) <;> (try simp only [qs] at hb) <;> (try simp (disch := omega) only [wrapI] at hb) <;> (try (exfalso; omega))) | fail)))
    all_goals (conv => whnf)
    all_goals refine back_of ⟨2, by omega⟩ ⟨by (first | exact rfl | (simp (disch := omega) only [wrapI]; exact rfl)), ?_, by simp only; omega⟩
    all_goals show _ = (⟨[.vec e0 [lmR x], .vec e1 [arr (ar 2)], .vec e2 [arr [0, 0, 0, 0, 0]]], []⟩ : Heap)
    all_goals (rw [a2, hw]; exact rfl)
  ·show aexR _ _ _ (frOf 0 36 [(1, ntsA n), (3, .int .i64 f), (4, .optr (.s 0) e0 5 0 0), (6, .optr (.s 1) e1 5 0 0), (8, .optr (.s 2) e2 5 0 0), (9, .int .i64 2)]) ⟨[.vec e0 [lmR x], .vec e1 [arr (ar 2)], .vec e2 [arr [0, 0, 0, 0, 0]]], []⟩ _
   rw [a2]
   rcases k2 with ⟨c, hw⟩ | ⟨c, e, cc, p, a, t, hm, hbt, ⟨c2, hw⟩ | ⟨c2, hw⟩⟩
   all_goals
    (repeat' (first | exact rfl | ((conv => whnf); first | refine optS hm ?_ | exact rfl | exact ⟨rfl, rfl⟩ | refine dk (by kernel_rfl) ?_ | refine pk (by kernel_rfl) ?_ | refine ⟨rfl, ?_⟩ | refine ⟨by (first | omega | (simp (disch := omega) only [wrapI]; first | omega | (simp; omega)) | (simp; omega)), ?_⟩ | (intro ep) | (refine ifB (fun hb => ?_) (fun hb => ?_) <;> (try simp only [qs] at hb) <;> (try simp (disch := omega) only [wrapI] at hb) <;> (try (exfalso; omega))) | fail)))
    all_goals (conv => whnf)
    all_goals refine back_of ⟨3, by omega⟩ ⟨by (first | exact rfl | (simp (disch := omega) only [wrapI]; exact rfl)), ?_, by simp only; omega⟩
    all_goals show _ = (⟨[.vec e0 [lmR x], .vec e1 [arr (ar 3)], .vec e2 [arr [0, 0, 0, 0, 0]]], []⟩ : Heap)
    all_goals (rw [a3, hw]; exact rfl)
  ·show aexR _ _ _ (frOf 0 36 [(1, ntsA n), (3, .int .i64 f), (4, .optr (.s 0) e0 5 0 0), (6, .optr (.s 1) e1 5 0 0), (8, .optr (.s 2) e2 5 0 0), (9, .int .i64 3)]) ⟨[.vec e0 [lmR x], .vec e1 [arr (ar 3)], .vec e2 [arr [0, 0, 0, 0, 0]]], []⟩ _
   rw [a3]
   rcases k3 with ⟨c, hw⟩ | ⟨c, e, cc, p, a, t, hm, hbt, ⟨c2, hw⟩ | ⟨c2, hw⟩⟩
   all_goals
    (repeat' (first | exact rfl | ((conv => whnf); first | refine optS hm ?_ | exact rfl | exact ⟨rfl, rfl⟩ | refine dk (by kernel_rfl) ?_ | refine pk (by kernel_rfl) ?_ | refine ⟨rfl, ?_⟩ | refine ⟨by (first | omega | (simp (disch := omega) only [wrapI]; first | omega | (simp; omega)) | (simp; omega)), ?_⟩ | (intro ep) | (refine ifB (fun hb => ?_) (fun hb => ?_) <;> (try simp only [qs] at hb) <;> (try simp (disch := omega) only [wrapI] at hb) <;> (try (exfalso; omega))) | fail)))
    all_goals (conv => whnf)
    all_goals refine back_of ⟨4, by omega⟩ ⟨by (first | exact rfl | (simp (disch := omega) only [wrapI]; exact rfl)), ?_, by simp only; omega⟩
    all_goals show _ = (⟨[.vec e0 [lmR x], .vec e1 [arr (ar 4)], .vec e2 [arr [0, 0, 0, 0, 0]]], []⟩ : Heap)
    all_goals (rw [a4, hw]; exact rfl)
  ·show aexR _ _ _ (frOf 0 36 [(1, ntsA n), (3, .int .i64 f), (4, .optr (.s 0) e0 5 0 0), (6, .optr (.s 1) e1 5 0 0), (8, .optr (.s 2) e2 5 0 0), (9, .int .i64 4)]) ⟨[.vec e0 [lmR x], .vec e1 [arr (ar 4)], .vec e2 [arr [0, 0, 0, 0, 0]]], []⟩ _
   rw [a4]
   rcases k4 with ⟨c, hw⟩ | ⟨c, e, cc, p, a, t, hm, hbt, ⟨c2, hw⟩ | ⟨c2, hw⟩⟩
   all_goals
    (repeat' (first | exact rfl | ((conv => whnf); first | refine optS hm ?_ | exact rfl | exact ⟨rfl, rfl⟩ | refine dk (by kernel_rfl) ?_ | refine pk (by kernel_rfl) ?_ | refine ⟨rfl, ?_⟩ | refine ⟨by (first | omega | (simp (disch := omega) only [wrapI]; first | omega | (simp; omega)) | (simp; omega)), ?_⟩ | (intro ep) | (refine ifB (fun hb => ?_) (fun hb => ?_) <;> (try simp only [qs] at hb) <;> (try simp (disch := omega) only [wrapI] at hb) <;> (try (exfalso; omega))) | fail)))
    all_goals (conv => whnf)
    all_goals refine back_of ⟨5, by omega⟩ ⟨by (first | exact rfl | (simp (disch := omega) only [wrapI]; exact rfl)), ?_, by simp only; omega⟩
    all_goals show _ = (⟨[.vec e0 [lmR x], .vec e1 [arr (ar 5)], .vec e2 [arr [0, 0, 0, 0, 0]]], []⟩ : Heap)
    all_goals (rw [a5, hw]; exact rfl)
  ·show aexR _ _ _ (frOf 0 36 [(1, ntsA n), (3, .int .i64 f), (4, .optr (.s 0) e0 5 0 0), (6, .optr (.s 1) e1 5 0 0), (8, .optr (.s 2) e2 5 0 0), (9, .int .i64 5)]) ⟨[.vec e0 [lmR x], .vec e1 [arr (ar 5)], .vec e2 [arr [0, 0, 0, 0, 0]]], []⟩ _
   rw [a5]
   (repeat' (first | exact rfl | ((conv => whnf); first | refine optS hm ?_ | exact rfl | exact ⟨rfl, rfl⟩ | refine dk (by kernel_rfl) ?_ | refine pk (by kernel_rfl) ?_ | refine ⟨rfl, ?_⟩ | refine ⟨by (first | omega | (simp (disch := omega) only [wrapI]; first | omega | (simp; omega)) | (simp; omega)), ?_⟩ | (intro ep) | (refine ifB (fun hb => ?_) (fun hb => ?_) <;> (try simp only [qs] at hb) <;> (try simp (disch := omega) only [wrapI] at hb) <;> (try (exfalso; omega))) | fail)))
   all_goals (conv => whnf)
   exact back_of () ⟨rfl, rfl, rfl⟩
 ·rintro ⟨⟩
  (repeat' (first | exact rfl | ((conv => whnf); first | refine optS hm ?_ | exact rfl | exact ⟨rfl, rfl⟩ | refine dk (by kernel_rfl) ?_ | refine pk (by kernel_rfl) ?_ | refine ⟨rfl, ?_⟩ | refine ⟨by (first | omega | (simp (disch := omega) only [wrapI]; first | omega | (simp; omega)) | (simp; omega)), ?_⟩ | (intro ep) | (refine ifB (fun hb => ?_) (fun hb => ?_) <;> (try simp only [qs] at hb) <;> (try simp (disch := omega) only [wrapI] at hb) <;> (try (exfalso; omega))) | fail)))
theorem idxA_at {α : Type} [DecidableEq α] {D : List α} {s : α} {k : Nat} (h : k < D.length) (hno : ∀ j, j < k → D[j]? ≠ some s) : D[k] = s → idxA s D = k := by
 intro e
 have hm : s ∈ D := by rw [← e]; exact List.getElem_mem h
 have h1 := idxA_get hm
 have h2 : ¬ idxA s D < k := fun x => hno _ x h1
 by_cases c : k < idxA s D
 ·exfalso
  have h3 := List.not_of_lt_findIdx (p := (· == s)) (xs := D) c
  simp [e] at h3
 ·omega
theorem idxA_none {α : Type} [DecidableEq α] {D : List α} {s : α} (hno : ∀ j, j < D.length → D[j]? ≠ some s) : idxA s D = D.length := by
 by_cases c : s ∈ D
 ·exact absurd (idxA_get c) (hno _ (idxA_lt c))
 ·unfold idxA
  rw [List.findIdx_eq_length]
  intro x hx
  simp only [beq_eq_false_iff_ne, ne_eq]
  intro e
  rw [e] at hx
  exact c hx
def rowsZ (C : List (List Int)) : List (List AV) := C.map arr
def A66 : Ann := fun r => match r with
 | 0 => { slots := [(0, 0)] }
 | _ => {}
set_option maxHeartbeats 16000000 in
set_option maxRecDepth 100000 in
theorem index66 (D : List (List Int)) (s : List Int) (hs : s.length = 5) (hD : ∀ l ∈ D, l.length = 5) (hl : D.length ≤ 100000000) : PRet C.P 66 [.lslc 5 (rowsZ D) 0 D.length false, .agg (arr s)] (.int .i64 (idxA s D : Int)) := by
 obtain ⟨s0, s1, s2, s3, s4, rfl⟩ := l5 hs
 refine pret_of ok mixed (A := A66) 1 Try.func66 rfl ?_
 (conv => whnf)
 intro e0
 (repeat' (first | exact rfl | ((conv => whnf); first | refine optS hrow ?_ | exact rfl | exact ⟨rfl, rfl⟩ | refine dk (by kernel_rfl) ?_ | refine pk (by kernel_rfl) ?_ | refine ⟨rfl, ?_⟩ | refine ⟨by (first | omega | (simp (disch := omega) only [wrapI]; first | omega | (simp; omega)) | (simp; omega)), ?_⟩ | (intro ep) | (refine ifB (fun hb => ?_) (fun hb => ?_) <;> (try simp only [qs] at hb) <;> (try simp (disch := omega) only [wrapI] at hb) <;> (try (exfalso; omega))) | fail)))
 all_goals (conv => whnf)
 refine loopY ok mixed (A := A66) [0, 3, 5] [0] (S := { k : Nat // k ≤ D.length ∧ ∀ j, j < k → D[j]? ≠ some [s0, s1, s2, s3, s4] })
  (fr := fun z => frOf 0 21 [(0, .lslc 5 (rowsZ D) 0 D.length false), (3, .optr (.s 0) e0 5 0 0), (5, .int .i64 (z.1 : Int))])
  (h := fun z => ⟨[.vec e0 [arr [s0, s1, s2, s3, s4]]], []⟩) (μ := fun z => D.length - z.1) ⟨0, by omega, fun j h => by omega⟩ ?_ ?_
  [0] [] (S' := { _u : Unit // idxA [s0, s1, s2, s3, s4] D = D.length }) (X := fun _ => 0) (frX := fun _ => frOf 0 21 [(0, .lslc 5 (rowsZ D) 0 D.length false)]) (hX := fun _ => ⟨[.hole], []⟩)
  [4] [] (S2 := Unit) (frR := fun _ => frOf 0 21 [(4, .int .i64 (idxA [s0, s1, s2, s3, s4] D : Int))]) (hR := fun _ => ⟨[.hole], []⟩) ?_ ?_ ?_
 ·exact rfl
 ·exact rfl
 ·rintro ⟨k, hk, hno⟩
  show aexR _ _ _ (frOf 0 21 [(0, .lslc 5 (rowsZ D) 0 D.length false), (3, .optr (.s 0) e0 5 0 0), (5, .int .i64 (k : Int))]) ⟨[.vec e0 [arr [s0, s1, s2, s3, s4]]], []⟩ _
  (conv => whnf)
  refine ifB (fun g => ?_) (fun g => ?_)
  ·simp only [decide_eq_true_eq] at g
   have g : k < D.length := by omega
   have hrow : (rowsZ D)[0 + ((k : Nat) : Int).toNat]? = some (arr D[k]) := mapR (f := arr) g
   have hx := idxA_at (s := [s0, s1, s2, s3, s4]) g hno
   have hno' : D[k] ≠ [s0, s1, s2, s3, s4] → ∀ j, j < k + 1 → D[j]? ≠ some [s0, s1, s2, s3, s4] := fun h j hj => by
    by_cases e : j = k
    ·subst e
     rw [List.getElem?_eq_getElem g]
     exact fun x => h (Option.some.inj x)
    ·exact hno j (by omega)
   have h5 := hD _ (List.getElem_mem g)
   generalize D[k] = d at hrow hx hno' h5
   obtain ⟨d0, d1, d2, d3, d4, rfl⟩ := l5 h5
   (repeat' (first | exact rfl | ((conv => whnf); first | refine optS hrow ?_ | exact rfl | exact ⟨rfl, rfl⟩ | refine dk (by kernel_rfl) ?_ | refine pk (by kernel_rfl) ?_ | refine ⟨rfl, ?_⟩ | refine ⟨by (first | omega | (simp (disch := omega) only [wrapI]; first | omega | (simp; omega)) | (simp; omega)), ?_⟩ | (intro ep) | fail)))
   all_goals (conv => whnf)
   refine ifB (fun hb => ?_) (fun hb => ?_)
   ·simp only [Bool.and_eq_true, decide_eq_true_eq, Bool.and_true] at hb
    rw [hx (by simp [hb])]
    (repeat' (first | exact rfl | ((conv => whnf); first | refine optS hrow ?_ | exact rfl | exact ⟨rfl, rfl⟩ | refine dk (by kernel_rfl) ?_ | refine pk (by kernel_rfl) ?_ | refine ⟨rfl, ?_⟩ | refine ⟨by (first | omega | (simp (disch := omega) only [wrapI]; first | omega | (simp; omega)) | (simp; omega)), ?_⟩ | (intro ep) | (refine ifB (fun hb => ?_) (fun hb => ?_) <;> (try simp only [qs] at hb) <;> (try simp (disch := omega) only [wrapI] at hb) <;> (try (exfalso; omega))) | fail)))
    all_goals (conv => whnf)
    exact back_of () ⟨rfl, rfl⟩
   ·have hne : [d0, d1, d2, d3, d4] ≠ [s0, s1, s2, s3, s4] := fun h => by
     simp only [List.cons.injEq, and_true] at h
     simp [h] at hb
    (repeat' (first | exact rfl | ((conv => whnf); first | refine optS hrow ?_ | exact rfl | exact ⟨rfl, rfl⟩ | refine dk (by kernel_rfl) ?_ | refine pk (by kernel_rfl) ?_ | refine ⟨rfl, ?_⟩ | refine ⟨by (first | omega | (simp (disch := omega) only [wrapI]; first | omega | (simp; omega)) | (simp; omega)), ?_⟩ | (intro ep) | (refine ifB (fun hb => ?_) (fun hb => ?_) <;> (try simp only [qs] at hb) <;> (try simp (disch := omega) only [wrapI] at hb) <;> (try (exfalso; omega))) | fail)))
    all_goals (conv => whnf)
    exact back_of ⟨k + 1, g, hno' hne⟩ ⟨by (first | exact rfl | (simp (disch := omega) only [wrapI]; exact rfl)), rfl, by simp only; omega⟩
  ·simp only [decide_eq_false_iff_not] at g
   have e : k = D.length := by omega
   (repeat' (first | exact rfl | ((conv => whnf); first | refine optS hrow ?_ | exact rfl | exact ⟨rfl, rfl⟩ | refine dk (by kernel_rfl) ?_ | refine pk (by kernel_rfl) ?_ | refine ⟨rfl, ?_⟩ | refine ⟨by (first | omega | (simp (disch := omega) only [wrapI]; first | omega | (simp; omega)) | (simp; omega)), ?_⟩ | (intro ep) | (refine ifB (fun hb => ?_) (fun hb => ?_) <;> (try simp only [qs] at hb) <;> (try simp (disch := omega) only [wrapI] at hb) <;> (try (exfalso; omega))) | fail)))
   all_goals (conv => whnf)
   refine back_of ⟨(), ?_⟩ ⟨rfl, rfl, rfl⟩
   exact idxA_none fun j hj => hno j (by omega)
 ·rintro ⟨⟩
  (repeat' (first | exact rfl | ((conv => whnf); first | refine optS hrow ?_ | exact rfl | exact ⟨rfl, rfl⟩ | refine dk (by kernel_rfl) ?_ | refine pk (by kernel_rfl) ?_ | refine ⟨rfl, ?_⟩ | refine ⟨by (first | omega | (simp (disch := omega) only [wrapI]; first | omega | (simp; omega)) | (simp; omega)), ?_⟩ | (intro ep) | (refine ifB (fun hb => ?_) (fun hb => ?_) <;> (try simp only [qs] at hb) <;> (try simp (disch := omega) only [wrapI] at hb) <;> (try (exfalso; omega))) | fail)))
 ·rintro ⟨_, hz⟩
  (repeat' (first | exact rfl | ((conv => whnf); first | refine optS hrow ?_ | exact rfl | exact ⟨rfl, rfl⟩ | refine dk (by kernel_rfl) ?_ | refine pk (by kernel_rfl) ?_ | refine ⟨rfl, ?_⟩ | refine ⟨by (first | omega | (simp (disch := omega) only [wrapI]; first | omega | (simp; omega)) | (simp; omega)), ?_⟩ | (intro ep) | (refine ifB (fun hb => ?_) (fun hb => ?_) <;> (try simp only [qs] at hb) <;> (try simp (disch := omega) only [wrapI] at hb) <;> (try (exfalso; omega))) | fail)))
  all_goals (rw [hz])
end Go.Ab.V

namespace Go.Ab.V
open Go.Proofs
structure ZOk (L k : Nat) (s : List Int) : Prop where
 len : s.length = 5
 bd : ∀ i, i < 5 → 0 ≤ s.getD i 0 ∧ s.getD i 0 ≤ k
 out : ∀ i, i < 5 → L ≤ i → s.getD i 0 = 0
theorem ZOk.nx {L k : Nat} {s : List Int} (h : ZOk L k s) : NxOk L s k k s := ⟨h.len, h.bd, fun _ _ _ => rfl, h.out⟩
theorem NxOk.z {L a k : Nat} {s nx : List Int} (h : NxOk L s a k nx) : ZOk L k nx := ⟨h.len, h.bd, h.out⟩
theorem ZOk.mem {L k : Nat} {s : List Int} (h : ZOk L k s) : ∀ z ∈ s, 0 ≤ z ∧ z ≤ k := by
 intro z hz
 obtain ⟨i, hi⟩ := List.mem_iff_getElem?.1 hz
 have hl := (List.getElem?_eq_some_iff.1 hi).1
 rw [h.len] at hl
 have := h.bd i hl
 rw [List.getD_eq_getElem?_getD, hi] at this
 exact this
theorem ZOk.zero (L : Nat) : ZOk L 0 [0, 0, 0, 0, 0] := (nx0 L).z
theorem sitS_ok {L k : Nat} {s : List Int} (h : ZOk L k s) (x : Lm) (n : List Nt) (f : Int) : ZOk L k (sitS x n f s) := by
 have g : ∀ i, i < 5 → (sitS x n f s).getD i 0 = sitZ x n f (s.getD i 0) := fun i hi => by
  have hl := h.len
  unfold sitS
  rw [List.getD_eq_getElem?_getD, List.getElem?_map, List.getD_eq_getElem?_getD, List.getElem?_eq_getElem (by omega)]
  rfl
 refine ⟨by unfold sitS; rw [List.length_map]; exact h.len, fun i hi => ?_, fun i hi hL => ?_⟩
 ·rw [g i hi]
  have := h.bd i hi
  unfold sitZ
  split <;> omega
 ·rw [g i hi, h.out i hi hL]
  unfold sitZ
  rw [if_neg (by omega)]
def padK (n : List Nt) (a : Nat) (l : List Int) : List Int := List.replicate a 0 ++ l ++ List.replicate (n.length - a - l.length) 0
theorem padK_len {n : List Nt} {a : Nat} {l : List Int} (h : a + l.length ≤ n.length) : (padK n a l).length = n.length := by
 unfold padK; simp; omega
theorem padK_at {n : List Nt} {a : Nat} {l : List Int} {i : Nat} (h : i < l.length) : l[0 + i]? = (padK n a l)[a + i]? := by
 unfold padK
 rw [List.append_assoc, List.getElem?_append_right (by simp), List.length_replicate, Nat.add_sub_cancel_left, List.getElem?_append_left h, Nat.zero_add]
def refT (x : Lm) (n : List Nt) (a cnt : Nat) (s : List Int) (l : List Int) : Option (List Int × Int × Int) := match evt x (lookS n s) 0 a cnt (n.drop a) ((padK n a l).drop a) with
 | .inl _ => none
 | .inr d => if x.cross < crs d.1 (frN n a) then none else some (nxt s a cnt ((padK n a l).drop a), crs d.1 (frN n a), d.2)
theorem refT_turn {x : Lm} {n : List Nt} {a cnt : Nat} {s l : List Int} (X : LmOk x) (hN : chkN n = 0) (sg : SegOk n a cnt) (hz : ZOk x.lo.length a s) (hl : l.length = cnt) :
  (refT x n a cnt s l = none ∧ ∃ j : Int, 0 ≤ j ∧ turnV x n (padK n a l) s a cnt = .tup [.agg (arr s), .int .i64 0, .int .i64 0, .int .i64 j]) ∨
  (∃ nx c m, refT x n a cnt s l = some (nx, c, m) ∧ turnV x n (padK n a l) s a cnt = .tup [.agg (arr nx), .int .i64 c, .int .i64 m, .int .i64 (-1)] ∧ ZOk x.lo.length (a + cnt) nx ∧ (0 ≤ c ∧ c ≤ 10) ∧ (0 ≤ m ∧ m ≤ 127 * cnt)) := by
 have hp := sg.pos
 have hle := sg.le
 have NN := ntsOk_of hN
 have hev := fun d => evt_nxt (d := d) X hN sg (padK_len (n := n) (a := a) (l := l) (by omega)) cnt a s 0 hz.nx (Nat.le_refl _) rfl
 have hbd := fun d => evt_bd (x := x) X.lo5 cnt a (lookS n s) 0 (n.drop a) ((padK n a l).drop a) d (lookS_ok (fun y hy => fit_of (NN.fit y hy)) s) (fun y hy => fit_of (NN.fit y (List.mem_of_mem_drop hy)))
 unfold refT turnV
 generalize evt x (lookS n s) 0 a cnt (n.drop a) ((padK n a l).drop a) = E at hev hbd
 cases E with
 | inl j => exact .inl ⟨rfl, j, by omega, rfl⟩
 | inr d =>
  obtain ⟨h1, h2⟩ := hev d rfl
  have h3 := hbd d rfl
  have hc := X.cross
  have hcb := crs_bd d.1 (frN n a)
  simp only
  by_cases c6 : x.cross < crs d.1 (frN n a)
  ·rw [if_pos c6, if_pos c6]
   exact .inl ⟨rfl, _, by omega, rfl⟩
  ·rw [if_neg c6, if_neg c6]
   exact .inr ⟨_, _, _, rfl, rfl, h2.z, by omega, by omega⟩
structure RMv where
 ks : List Int
 to : Nat
 c : Int
 m : Int
def rOpt (x : Lm) (n : List Nt) (a cnt : Nat) (s : List Int) (acc : List (List Int) × List RMv) (l : List Int) : List (List Int) × List RMv := match refT x n a cnt s l with
 | none => acc
 | some (nx, c, m) => if a + cnt < n.length then (putN acc.1 (sitS x n (frN n (a + cnt)) nx), acc.2 ++ [⟨l, idxA (sitS x n (frN n (a + cnt)) nx) acc.1, c, m⟩]) else (acc.1, acc.2 ++ [⟨l, 0, c, m⟩])
def rHere (x : Lm) (n : List Nt) (a cnt : Nat) (s : List Int) (opts : List (List Int)) (acc : List (List Int) × List RMv) : List (List Int) × List RMv := opts.foldl (rOpt x n a cnt s) acc
def rSt (x : Lm) (n : List Nt) (a cnt : Nat) (opts : List (List Int)) (acc : List (List Int) × List (List RMv)) (s : List Int) : List (List Int) × List (List RMv) := ((rHere x n a cnt s opts (acc.1, [])).1, acc.2 ++ [(rHere x n a cnt s opts (acc.1, [])).2])
def rMoves (x : Lm) (n : List Nt) (a cnt : Nat) (opts : List (List Int)) (st : List (List Int)) (acc : List (List Int) × List (List RMv)) : List (List Int) × List (List RMv) := st.foldl (rSt x n a cnt opts) acc
def optsR (x : Lm) (cnt : Nat) : List (List Int) := chC x.lo.length cnt [[]]
def rEv (x : Lm) (n : List Nt) (a cnt : Nat) (st : List (List Int)) : List (List Int) × List (List RMv) := rMoves x n a cnt (optsR x cnt) st ([], [])
abbrev Steps := List (List (List RMv))
def anyM (l : List (List RMv)) : Bool := l.any fun h => !h.isEmpty
def expR (x : Lm) (n : List Nt) : List (Nat × Nat) → Nat → List (List Int) → Steps → Steps × Int × Int
 | [], _, _, out => (out, 0, 0)
 | (a, cnt) :: r, i, st, out => if anyM (rEv x n a cnt st).2 = false then ([], (i : Int), 72) else if 1000 < (rEv x n a cnt st).1.length then ([], (i : Int), 2) else expR x n r (i + 1) (rEv x n a cnt st).1 (out ++ [(rEv x n a cnt st).2])
theorem chC_mem (L : Nat) : ∀ (j : Nat) (C : List (List Int)) (q : Nat), (∀ l ∈ C, l.length = q ∧ l.Nodup ∧ ∀ v ∈ l, 1 ≤ v ∧ v ≤ L) → ∀ l ∈ chC L j C, l.length = q + j ∧ l.Nodup ∧ ∀ v ∈ l, 1 ≤ v ∧ v ≤ L
 | 0, C, q, h, l, hl => h l hl
 | j + 1, C, q, h, l, hl => by
  have := chC_mem L j (extU L C) (q + 1) (fun l hl => ?_) l hl
  ·rw [show q + (j + 1) = q + 1 + j by omega]; exact this
  ·unfold extU extL at hl
   obtain ⟨l0, h0, h1⟩ := List.mem_flatMap.1 hl
   obtain ⟨v, hv, rfl⟩ := List.mem_map.1 h1
   obtain ⟨hv1, hv2⟩ := List.mem_filter.1 hv
   obtain ⟨a1, a2, a3⟩ := h l0 h0
   unfold upto at hv1
   obtain ⟨k, hk, rfl⟩ := List.mem_map.1 hv1
   have hk := List.mem_range.1 hk
   unfold okC at hv2
   simp only [Bool.not_eq_true', List.contains_eq_mem, decide_eq_false_iff_not] at hv2
   refine ⟨by simp [a1], ?_, fun u hu => ?_⟩
   ·rw [List.nodup_append]
    exact ⟨a2, by simp, fun x hx y hy e => hv2 (by rw [List.mem_singleton.1 hy] at e; rw [← e]; exact hx)⟩
   ·rcases List.mem_append.1 hu with h | h
    ·exact a3 u h
    ·rw [List.mem_singleton.1 h]; omega
theorem extU_len (L : Nat) (C : List (List Int)) : (extU L C).length ≤ L * C.length := by
 induction C with
 | nil => simp [extU, extL]
 | cons l C ih =>
  rw [extU_cons, List.length_append, List.length_cons, Nat.mul_succ]
  have h1 : (extV l 0 L).length ≤ L := by
   unfold extV upto
   rw [List.length_map]
   exact Nat.le_trans (List.length_filter_le _ _) (by simp)
  omega
theorem chC_len (L : Nat) : ∀ j, (chC L j [[]]).length ≤ L ^ j
 | 0 => by simp [chC]
 | j + 1 => by
  rw [chC_succ]
  refine Nat.le_trans (extU_len L _) ?_
  rw [Nat.pow_succ, Nat.mul_comm]
  exact Nat.mul_le_mul_right _ (chC_len L j)
end Go.Ab.V

namespace Go.Ab.V
open Go.Proofs
theorem optsR_mem {x : Lm} {cnt : Nat} : ∀ l ∈ optsR x cnt, l.length = cnt ∧ l.Nodup ∧ ∀ v ∈ l, 1 ≤ v ∧ v ≤ x.lo.length := fun l hl => by
 have := chC_mem x.lo.length cnt [[]] 0 (fun l hl => by rw [List.mem_singleton.1 hl]; simp) l hl
 rwa [Nat.zero_add] at this
theorem chC_bd {L : Nat} (hL : L ≤ 5) (j : Nat) : (chC L j [[]]).length ≤ 3125 ∧ ∀ l ∈ chC L j [[]], l.length ≤ 5 := by
 have hm := chC_mem L j [[]] 0 (fun l hl => by rw [List.mem_singleton.1 hl]; simp)
 have h5 : ∀ l ∈ chC L j [[]], l.length ≤ 5 := fun l hl => by
  obtain ⟨_, a, b⟩ := hm l hl
  have := nodup_len L l a b
  omega
 refine ⟨?_, h5⟩
 by_cases c : j ≤ 5
 ·refine Nat.le_trans (chC_len L j) (Nat.le_trans (Nat.pow_le_pow_left hL _) ?_)
  exact Nat.le_trans (Nat.pow_le_pow_right (by decide) c) (by decide)
 ·cases hd : chC L j [[]] with
  | nil => simp
  | cons l r =>
   have h1 := hm l (by rw [hd]; simp)
   have h2 := h5 l (by rw [hd]; simp)
   omega
theorem optsR_len {x : Lm} (X : LmOk x) (cnt : Nat) : (optsR x cnt).length ≤ 3125 := (chC_bd X.lo5 cnt).1
theorem optsR_walk {x : Lm} (X : LmOk x) {cnt : Nat} (h : cnt ≤ 5600) {z : Int} (hz : z = (cnt : Int)) : PRet C.P 63 [.int .i64 (x.lo.length : Int), .int .i64 z] (lsA (optsR x cnt)) := by
 subst hz
 exact choices63 x.lo.length cnt X.lo5 h fun j _ => ⟨by have := (chC_bd X.lo5 j).1; omega, fun l hl => by have := (chC_bd X.lo5 j).2 l hl; omega⟩
end Go.Ab.V
