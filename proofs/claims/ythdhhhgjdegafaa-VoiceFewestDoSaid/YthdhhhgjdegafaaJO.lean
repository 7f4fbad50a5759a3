/-
  What is proved here serves the law's text: each part says its own claim and its conditions. No condition is left open.
-/
import Derived.Test.YthdhhhgjdegafaaJN
set_option linter.unusedSimpArgs false
set_option linter.unusedVariables false

namespace Go.Ab.V
open Go.Proofs
theorem chk_lm {x : Lm} (h : LmOk x) : chkL x = 0 := by
 have h1 := h.lo1
 have h2 := h.lo5
 have h3 := h.hi
 have h4 := h.leap
 have h5 := h.gap
 have h6 := h.cross
 unfold chkL
 rw [if_neg (by omega), if_neg (by omega), if_neg (by omega), if_neg (by omega), if_neg (by omega)]
 exact h.prs
theorem both_of {x : Lm} {n : List Nt} (h : LmOk x) (hN : chkN n = 0) : both x n = 0 := by unfold both; rw [chk_lm h, hN]; rfl
theorem fewF_first {F : List Int → Int} {L : Nat} : ∀ {k q : Nat} {s : List Int}, fewF F L k q = some s → (∀ r, q ≤ r → r < s.length → ∀ t ∈ subs L r 0 [], F t = 72)
 | 0, q, s, h => by simp [fewF] at h
 | k + 1, q, s, h => by
  intro r hr hs t ht
  unfold fewF at h
  cases hf : (subs L q 0 []).find? fun s => decide (F s ≠ 72) with
  | none =>
   rw [hf] at h
   by_cases c : r = q
   ·subst c
    have := List.find?_eq_none.1 hf t ht
    simpa using this
   ·exact fewF_first h r (by omega) hs t ht
  | some u =>
   rw [hf] at h
   cases h
   have := (subs_mem L q 0 [] _ (List.mem_of_find?_eq_some hf)).1
   simp at this
   omega
theorem inc_subs {L : Nat} : ∀ (k a : Nat) (l t : List Int), t.length = k → t.Pairwise (· < ·) → (∀ v ∈ t, (a : Int) < v ∧ v ≤ L) → l ++ t ∈ subs L k a l
 | 0, a, l, t, hl, _, _ => by
  have : t = [] := List.length_eq_zero_iff.1 hl
  subst this
  simp [subs]
 | k + 1, a, l, [], hl, _, _ => by simp at hl
 | k + 1, a, l, v :: t, hl, hp, hv => by
  have h1 := hv v (List.mem_cons_self ..)
  rw [List.pairwise_cons] at hp
  rw [subs]
  refine List.mem_flatMap.2 ⟨(v - a - 1).toNat, List.mem_range.2 (by omega), ?_⟩
  have e : ((a + (v - a - 1).toNat : Nat) : Int) + 1 = v := by omega
  rw [e, show l ++ v :: t = (l ++ [v]) ++ t by simp]
  refine inc_subs k _ _ t (by simpa using hl) hp.2 fun u hu => ?_
  have h2 := hp.1 u hu
  have h3 := hv u (List.mem_cons_of_mem _ hu)
  omega
theorem fewDo (x : Lm) (n : List Nt) (hn : n ≠ []) : (∃ e : Int, e ≠ 0 ∧ fewV x n = .tup [.nils, .int .i64 e]) ∨ (∃ s : List Int, LmOk x ∧ chkN n = 0 ∧ 1 ≤ s.length ∧ s.length ≤ x.lo.length ∧ (∀ v ∈ s, 1 ≤ v ∧ v ≤ x.lo.length) ∧ errR (only x s) n = 0 ∧ fewV x n = .tup [intsA s, .int .i64 0] ∧
  ∀ r, 1 ≤ r → r < s.length → ∀ t ∈ subs x.lo.length r 0 [], errR (only x t) n = 72) := by
 unfold fewV
 by_cases c1 : both x n ≠ 0
 ·rw [if_pos c1]; exact .inl ⟨_, c1, rfl⟩
 rw [if_neg c1, if_neg hn]
 have c1 : both x n = 0 := by omega
 obtain ⟨X, hN⟩ := both_zero c1
 cases hf : fewF (fun s => errR (only x s) n) x.lo.length x.lo.length 1 with
 | none => exact .inl ⟨72, by decide, rfl⟩
 | some s =>
  have h1 := fewF_mem hf (by omega)
  have h2 := fewF_first hf
  simp only
  by_cases c : errR (only x s) n ≠ 0
  ·rw [if_pos c]; exact .inl ⟨_, c, rfl⟩
  ·rw [if_neg c]
   exact .inr ⟨s, X, hN, h1.2.1, h1.1, h1.2.2.1, by omega, rfl, h2⟩
theorem best_err {x : Lm} {n : List Nt} (X : LmOk x) (hN : chkN n = 0) (h : errR x n = 72) : bestV x n = .tup [.agg [.nils, .int .i64 0, .int .i64 0], .int .i64 72] := by
 unfold bestV
 rw [if_neg (by rw [both_of X hN]; omega), if_pos (by omega), h]
theorem best_ok {x : Lm} {n : List Nt} (X : LmOk x) (hN : chkN n = 0) (h : errR x n = 0) : ∃ l c m, bestV x n = .tup [.agg (voiR l c m), .int .i64 0] := by
 rcases bestV_ok x n with ⟨e, he, h2⟩ | ⟨l, c, m, _, h2⟩
 ·exfalso
  unfold bestV at h2
  rw [if_neg (by rw [both_of X hN]; omega), if_neg (by omega)] at h2
  simp only [AV.tup.injEq, List.cons.injEq, AV.int.injEq, true_and, and_true] at h2
  exact he h2.2.symm
 ·exact ⟨l, c, m, h2⟩
def A22 : Ann := fun _ => {}
theorem rest22n (a n : Int) (h : 0 < n) (hn : n ≤ 100000) : ∃ r : Int, 0 ≤ r ∧ r < n ∧ PRet C.P 22 [.int .i64 a, .int .i64 n] (.int .i64 r) := by
 have h1 := Int.tmod_lt_of_pos a h
 have h2 := Int.lt_tmod_of_pos a h
 obtain ⟨t, ht⟩ : ∃ t, t = a.tmod n := ⟨_, rfl⟩
 have h3 := Int.tmod_lt_of_pos (t + n) h
 have h4 := Int.tmod_nonneg (a := t + n) n (by omega)
 refine ⟨(t + n).tmod n, h4, h3, ?_⟩
 refine pret_of ok mixed (A := A22) 0 Try.func22 rfl ?_
 (repeat' (first | ((conv => whnf); first | refine ⟨rfl, ?_⟩ | refine ⟨by omega, ?_⟩ | (intro ep))))
 all_goals (refine congrArg (AV.int .i64) ?_; rw [← ht, wrapI (x := t + n) (by omega) (by omega)])
def A8 : Ann := fun r => match r with
 | 0 => { slots := [(0, 0)] }
 | 7 => { lifts := [(7, 2, 1)] }
 | 11 => { slots := [(2, 1), (3, 2)] }
 | 20 => { slots := [(10, 3)] }
 | 24 => { slots := [(10, 4)] }
 | _ => {}
structure Z8 where
 i : Nat
 e : Nat
 o : List Int
structure Z8.Ok (L : Nat) (z : Z8) : Prop where
 i1 : 1 ≤ z.i
 iL : z.i ≤ L + 1
 p : z.o.Pairwise (· < ·)
 v : ∀ u ∈ z.o, 1 ≤ u ∧ u < z.i
 l : z.o.length < z.i
set_option maxHeartbeats 16000000 in
set_option maxRecDepth 100000 in
theorem law_fewestDo (x : Lm) (n : List Nt) (set : Int) (h1 : x.lo.length ≤ 9223372036854775807) (h2 : x.hi.length ≤ 9223372036854775807) (h3 : n.length ≤ 9223372036854775807) : ACalls C.P 8 [caseA x n, .int .i64 set] Heap.nil fun r _ => r = .bool true := by
 have hM := many10 n 24 (by omega) h3
 have hC := refCheck_spec x h1 h2
 have a1 := fewest27 x n h1 h2 h3
 cases hb : manyB n.length 24 with
 | true =>
  rw [hb] at hM
  refine fn_of ok mixed (A := A8) 5 Try.func8 rfl ?_
  (repeat' (first | exact rfl | ((conv => whnf); first | refine ⟨_, hM, ?_⟩ | refine ⟨_, works2, ?_⟩ | exact rfl | exact ⟨rfl, rfl⟩ | refine dk (by kernel_rfl) ?_ | refine pk (by kernel_rfl) ?_ | refine ⟨rfl, ?_⟩ | refine ⟨by (first | omega | (simp (disch := omega) only [wrapI]; first | omega | (simp; omega)) | (simp; omega)), ?_⟩ | (intro ep) | (refine ifB (fun hb => ?_) (fun hb => ?_) <;> (try simp only [qs] at hb) <;> (try simp (disch := omega) only [wrapI] at hb) <;> (try (exfalso; omega))) | fail)))
 | false =>
  rw [hb] at hM
  by_cases cL : chkL x ≠ 0
  ·generalize chkL x = q at hC cL
   refine fn_of ok mixed (A := A8) 5 Try.func8 rfl ?_
   (repeat' (first | exact rfl | ((conv => whnf); first | refine ⟨_, hM, ?_⟩ | refine ⟨_, hC, ?_⟩ | refine ⟨_, works2, ?_⟩ | exact rfl | exact ⟨rfl, rfl⟩ | refine dk (by kernel_rfl) ?_ | refine pk (by kernel_rfl) ?_ | refine ⟨rfl, ?_⟩ | refine ⟨by (first | omega | (simp (disch := omega) only [wrapI]; first | omega | (simp; omega)) | (simp; omega)), ?_⟩ | (intro ep) | (refine ifB (fun hb => ?_) (fun hb => ?_) <;> (try simp only [qs] at hb) <;> (try simp (disch := omega) only [wrapI] at hb) <;> (try (exfalso; omega))) | fail)))
  rw [show chkL x = 0 by omega] at hC
  by_cases cn : n = []
  ·subst cn
   refine fn_of ok mixed (A := A8) 5 Try.func8 rfl ?_
   (repeat' (first | exact rfl | ((conv => whnf); first | refine ⟨_, hM, ?_⟩ | refine ⟨_, hC, ?_⟩ | refine ⟨_, works2, ?_⟩ | exact rfl | exact ⟨rfl, rfl⟩ | refine dk (by kernel_rfl) ?_ | refine pk (by kernel_rfl) ?_ | refine ⟨rfl, ?_⟩ | refine ⟨by (first | omega | (simp (disch := omega) only [wrapI]; first | omega | (simp; omega)) | (simp; omega)), ?_⟩ | (intro ep) | (refine ifB (fun hb => ?_) (fun hb => ?_) <;> (try simp only [qs] at hb) <;> (try simp (disch := omega) only [wrapI] at hb) <;> (try (exfalso; omega))) | fail)))
  have cl : n.length ≠ 0 := fun h => cn (List.length_eq_zero_iff.1 h)
  rcases fewDo x n cn with ⟨e, he, hf⟩ | ⟨s, X, hN, hs1, hsL, hsv, hse, hf, hlow⟩
  ·rw [hf] at a1
   refine fn_of ok mixed (A := A8) 5 Try.func8 rfl ?_
   (repeat' (first | exact rfl | ((conv => whnf); first | refine ⟨_, hM, ?_⟩ | refine ⟨_, hC, ?_⟩ | refine ⟨_, a1, ?_⟩ | refine ⟨_, works2, ?_⟩ | exact rfl | exact ⟨rfl, rfl⟩ | refine dk (by kernel_rfl) ?_ | refine pk (by kernel_rfl) ?_ | refine ⟨rfl, ?_⟩ | refine ⟨by (first | omega | (simp (disch := omega) only [wrapI]; first | omega | (simp; omega)) | (simp; omega)), ?_⟩ | (intro ep) | (refine ifB (fun hb => ?_) (fun hb => ?_) <;> (try simp only [qs] at hb) <;> (try simp (disch := omega) only [wrapI] at hb) <;> (try (exfalso; omega))) | fail)))
  ·have X5 := X.lo5
   rw [hf] at a1
   have hO1 := only29 x s X (by omega) hsv
   have XO1 := only_ok X hs1 (by omega) hsv
   obtain ⟨bl, bc, bm, hBV⟩ := best_ok XO1 hN hse
   have hB1 := best15 (only x s) n (by have := XO1.lo5; omega) (by have := XO1.lo5; have := XO1.hi; omega) h3
   rw [hBV] at hB1
   unfold voiR at hB1
   unfold intsA at a1 hO1
   refine fn_of ok mixed (A := A8) 5 Try.func8 rfl ?_
   (repeat' (first | exact rfl | ((conv => whnf); first | refine ⟨_, hM, ?_⟩ | refine ⟨_, hC, ?_⟩ | refine ⟨_, a1, ?_⟩ | exact rfl | exact ⟨rfl, rfl⟩ | refine dk (by kernel_rfl) ?_ | refine pk (by kernel_rfl) ?_ | refine ⟨rfl, ?_⟩ | refine ⟨by (first | omega | (simp (disch := omega) only [wrapI]; first | omega | (simp; omega)) | (simp; omega)), ?_⟩ | (intro ep) | (refine ifB (fun hb => ?_) (fun hb => ?_) <;> (try simp only [qs] at hb) <;> (try simp (disch := omega) only [wrapI] at hb) <;> (try (exfalso; omega))) | fail)))
   all_goals (conv => whnf)
   rename_i q0
   refine loopZ ok mixed (A := A8) [1, 2, 5, 7, 8] [0, 2] (S := { z : Z8 // z.Ok x.lo.length })
    (fr := fun z => frOf 0 115 [(1, .int .i64 set), (2, .optr (.s 0) q0 6 0 0), (5, intsA s), (7, .oslc (.s 2) z.1.e 1 0 z.1.o.length false), (8, .int .i64 (z.1.i : Int))])
    (h := fun z => ⟨[.vec q0 [caseR x n], .hole, .vec z.1.e (ints z.1.o), .hole, .hole], []⟩) (μ := fun z => x.lo.length + 1 - z.1.i)
    ⟨⟨1, ep, []⟩, ⟨by simp, by simp, .nil, by simp, by simp⟩⟩ ?_ ?_
    [2, 5, 7] [0, 2] (S' := { z : Nat × List Int // z.2.Pairwise (· < ·) ∧ (∀ u ∈ z.2, 1 ≤ u ∧ u ≤ x.lo.length) ∧ z.2.length ≤ x.lo.length }) (X := fun _ => 0)
    (frX := fun z => frOf 0 115 [(2, .optr (.s 0) q0 6 0 0), (5, intsA s), (7, .oslc (.s 2) z.1.1 1 0 z.1.2.length false)])
    (hX := fun z => ⟨[.vec q0 [caseR x n], .hole, .vec z.1.1 (ints z.1.2), .hole, .hole], []⟩)
    [] [] (S2 := Empty) (frR := fun _ => []) (hR := fun _ => Heap.nil) ?_ (fun z => z.elim) ?_
   ·exact rfl
   ·exact rfl
   ·rintro ⟨⟨i, e, o⟩, hz⟩
    obtain ⟨i1, iL, hp, hv, hol⟩ := hz
    simp only at i1 iL hp hv hol
    show aexR _ _ _ (frOf 0 115 [(1, .int .i64 set), (2, .optr (.s 0) q0 6 0 0), (5, intsA s), (7, .oslc (.s 2) e 1 0 o.length false), (8, .int .i64 (i : Int))]) ⟨[.vec q0 [caseR x n], .hole, .vec e (ints o), .hole, .hole], []⟩ _
    by_cases g : i ≤ x.lo.length
    ·obtain ⟨r, _, _, hr⟩ := rest22n (Int.fdiv set (2 ^ (min (IntKind.u64.wrap (i : Int)).toNat IntKind.i64.bits))) 2 (by omega) (by omega)
     have hwu : IntKind.u64.wrap (i : Int) = (i : Int) := wrapU (by omega) (by omega)
     (repeat' (first | exact rfl | ((conv => whnf); first | refine ⟨_, hr, ?_⟩ | exact rfl | exact ⟨rfl, rfl⟩ | refine dk (by kernel_rfl) ?_ | refine pk (by kernel_rfl) ?_ | refine ⟨rfl, ?_⟩ | refine ⟨by (first | omega | (simp (disch := omega) only [wrapI]; first | omega | (simp; omega)) | (simp; omega)), ?_⟩ | (intro ep) | (refine ifB (fun hb => ?_) (fun hb => ?_) <;> (try simp only [qs] at hb) <;> (try simp (disch := omega) only [wrapI] at hb) <;> (try (exfalso; omega))) | fail)))
     all_goals (conv => whnf)
     all_goals first
      | (
        have t1 : List.take o.length (List.drop 0 (ints o)) = ints o := by rw [List.drop_zero, List.take_of_length_le (by simp [ints])]
        have e1 : ints (o ++ [(i : Int)]) = List.take o.length (List.drop 0 (ints o)) ++ [[.int .i64 (i : Int)]] := by rw [t1]; simp [ints]
        have e2 : (o ++ [(i : Int)]).length = o.length + 1 := by simp
        refine back_of (S := { z : Z8 // z.Ok x.lo.length }) ⟨⟨i + 1, ep, o ++ [(i : Int)]⟩, ⟨by simp only; omega, by simp only; omega, ?_, ?_, by simp only [e2]; omega⟩⟩ ⟨?_, ?_, by simp only; omega⟩
        ·exact List.pairwise_append.2 ⟨hp, List.pairwise_singleton _ _, fun u hu w hw => by rw [List.mem_singleton.1 hw]; exact (hv u hu).2⟩
        ·intro u hu
         rcases List.mem_append.1 hu with h | h
         ·have := hv u h; simp only; omega
         ·rw [List.mem_singleton.1 h]; simp only; omega
        ·simp only [e2]
         (first | exact rfl | (simp (disch := omega) only [wrapI]; exact rfl))
        ·simp only [e1]
         exact rfl)
      | exact back_of (S := { z : Z8 // z.Ok x.lo.length }) ⟨⟨i + 1, e, o⟩, ⟨by simp only; omega, by simp only; omega, hp, fun u hu => by have := hv u hu; simp only; omega, by simp only; omega⟩⟩ ⟨by (first | exact rfl | (simp (disch := omega) only [wrapI]; exact rfl)), rfl, by simp only; omega⟩
    ·have g : i = x.lo.length + 1 := by omega
     (repeat' (first | exact rfl | ((conv => whnf); first | exact rfl | exact ⟨rfl, rfl⟩ | refine dk (by kernel_rfl) ?_ | refine pk (by kernel_rfl) ?_ | refine ⟨rfl, ?_⟩ | refine ⟨by (first | omega | (simp (disch := omega) only [wrapI]; first | omega | (simp; omega)) | (simp; omega)), ?_⟩ | (intro ep) | (refine ifB (fun hb => ?_) (fun hb => ?_) <;> (try simp only [qs] at hb) <;> (try simp (disch := omega) only [wrapI] at hb) <;> (try (exfalso; omega))) | fail)))
     all_goals (conv => whnf)
     exact back_of ⟨(e, o), hp, fun u hu => by have := hv u hu; omega, by simp only; omega⟩ ⟨rfl, rfl, rfl⟩
   ·rintro ⟨⟨e, o⟩, hp, hv, hol⟩
    simp only at hp hv hol
    refine tr_fz 2 e (rows := ints o) (fr' := frOf 0 115 [(2, .optr (.s 0) q0 6 0 0), (5, intsA s), (7, intsA o)])
     (st' := [.vec q0 [caseR x n], .hole, .hole, .hole, .hole]) (by exact rfl) (pure_ints _) (by (repeat' (first | exact trivial | exact rfl | ((conv => whnf); first | exact trivial | exact rfl | refine ⟨?_, ?_⟩ | fail)))) (by (repeat' (first | exact trivial | exact rfl | ((conv => whnf); first | exact trivial | exact rfl | refine ⟨?_, ?_⟩ | fail)))) (fun o h => absurd h (by simp)) (by exact rfl) (by exact rfl) (tr_done ?_)
    (repeat' (first | exact rfl | ((conv => whnf); first | exact rfl | exact ⟨rfl, rfl⟩ | refine dk (by kernel_rfl) ?_ | refine pk (by kernel_rfl) ?_ | refine ⟨rfl, ?_⟩ | refine ⟨by (first | omega | (simp (disch := omega) only [wrapI]; first | omega | (simp; omega)) | (simp; omega)), ?_⟩ | (intro ep) | (refine ifB (fun hb => ?_) (fun hb => ?_) <;> (try simp only [qs] at hb) <;> (try simp (disch := omega) only [wrapI] at hb) <;> (try (exfalso; omega))) | fail)))
    all_goals (conv => whnf)
    refine loopY ok mixed (A := A8) [2, 5, 7, 60, 61, 62] [0] (S := { i : Nat // i ≤ s.length })
     (fr := fun i => frOf 0 115 [(2, .optr (.s 0) q0 6 0 0), (5, intsA s), (7, intsA o), (60, intsA s), (61, .int .i64 (s.length : Int)), (62, .int .i64 (i.1 : Int))])
     (h := fun _ => ⟨[.vec q0 [caseR x n], .hole, .hole, .hole, .hole], []⟩) (μ := fun i => s.length - i.1) ⟨0, Nat.zero_le _⟩ ?_ ?_
     [2, 5, 7] [0] (S' := Unit) (X := fun _ => 2) (frX := fun _ => frOf 0 115 [(2, .optr (.s 0) q0 6 0 0), (5, intsA s), (7, intsA o)]) (hX := fun _ => ⟨[.vec q0 [caseR x n], .hole, .hole, .hole, .hole], []⟩)
     [] [] (S2 := Empty) (frR := fun _ => []) (hR := fun _ => Heap.nil) ?_ (fun z => z.elim) ?_
    ·exact rfl
    ·exact rfl
    ·rintro ⟨i, hi⟩
     show aexR _ _ _ (frOf 0 115 [(2, .optr (.s 0) q0 6 0 0), (5, intsA s), (7, intsA o), (60, intsA s), (61, .int .i64 (s.length : Int)), (62, .int .i64 (i : Int))]) ⟨[.vec q0 [caseR x n], .hole, .hole, .hole, .hole], []⟩ _
     by_cases g : i < s.length
     ·have r1 := intsR g
      have hvi := hsv _ (List.getElem_mem g)
      generalize s[i] = u at r1 hvi
      (repeat' (first | exact rfl | ((conv => whnf); first | refine optS r1 ?_ | exact rfl | exact ⟨rfl, rfl⟩ | refine dk (by kernel_rfl) ?_ | refine pk (by kernel_rfl) ?_ | refine ⟨rfl, ?_⟩ | refine ⟨by (first | omega | (simp (disch := omega) only [wrapI]; first | omega | (simp; omega)) | (simp; omega)), ?_⟩ | (intro ep) | (refine ifB (fun hb => ?_) (fun hb => ?_) <;> (try simp only [qs] at hb) <;> (try simp (disch := omega) only [wrapI] at hb) <;> (try (exfalso; omega))) | fail)))
      all_goals (conv => whnf)
      exact back_of ⟨i + 1, g⟩ ⟨by (first | exact rfl | (simp (disch := omega) only [wrapI]; exact rfl)), rfl, by simp only; omega⟩
     ·have g : i = s.length := by omega
      subst g
      (repeat' (first | exact rfl | ((conv => whnf); first | exact rfl | exact ⟨rfl, rfl⟩ | refine dk (by kernel_rfl) ?_ | refine pk (by kernel_rfl) ?_ | refine ⟨rfl, ?_⟩ | refine ⟨by (first | omega | (simp (disch := omega) only [wrapI]; first | omega | (simp; omega)) | (simp; omega)), ?_⟩ | (intro ep) | (refine ifB (fun hb => ?_) (fun hb => ?_) <;> (try simp only [qs] at hb) <;> (try simp (disch := omega) only [wrapI] at hb) <;> (try (exfalso; omega))) | fail)))
      all_goals (conv => whnf)
      exact back_of () ⟨rfl, rfl, rfl⟩
    ·rintro ⟨⟩
     unfold intsA
     by_cases co : 1 ≤ o.length ∧ o.length < s.length
     ·obtain ⟨co1, co2⟩ := co
      have hO2 := only29 x o X (by omega) hv
      have XO2 := only_ok X co1 (by omega) hv
      have he2 := hlow o.length co1 co2 o (by have := inc_subs (L := x.lo.length) o.length 0 [] o rfl hp (fun u hu => by have := hv u hu; omega); simpa using this)
      have hB2 := best15 (only x o) n (by have := XO2.lo5; omega) (by have := XO2.lo5; have := XO2.hi; omega) h3
      rw [best_err XO2 hN he2] at hB2
      unfold intsA at hO2
      (repeat' (first | exact rfl | ((conv => whnf); first | refine ⟨_, hO1, ?_⟩ | refine ⟨_, hO2, ?_⟩ | refine ⟨_, hB1, ?_⟩ | refine ⟨_, hB2, ?_⟩ | refine ⟨_, works2, ?_⟩ | exact rfl | exact ⟨rfl, rfl⟩ | refine dk (by kernel_rfl) ?_ | refine pk (by kernel_rfl) ?_ | refine ⟨rfl, ?_⟩ | refine ⟨by (first | omega | (simp (disch := omega) only [wrapI]; first | omega | (simp; omega)) | (simp; omega)), ?_⟩ | (intro ep) | (refine ifB (fun hb => ?_) (fun hb => ?_) <;> (try simp only [qs] at hb) <;> (try simp (disch := omega) only [wrapI] at hb) <;> (try (exfalso; omega))) | fail)))
     ·(repeat' (first | exact rfl | ((conv => whnf); first | refine ⟨_, hO1, ?_⟩ | refine ⟨_, hB1, ?_⟩ | refine ⟨_, works2, ?_⟩ | exact rfl | exact ⟨rfl, rfl⟩ | refine dk (by kernel_rfl) ?_ | refine pk (by kernel_rfl) ?_ | refine ⟨rfl, ?_⟩ | refine ⟨by (first | omega | (simp (disch := omega) only [wrapI]; first | omega | (simp; omega)) | (simp; omega)), ?_⟩ | (intro ep) | (refine ifB (fun hb => ?_) (fun hb => ?_) <;> (try simp only [qs] at hb) <;> (try simp (disch := omega) only [wrapI] at hb) <;> (try (exfalso; omega))) | fail)))
end Go.Ab.V
