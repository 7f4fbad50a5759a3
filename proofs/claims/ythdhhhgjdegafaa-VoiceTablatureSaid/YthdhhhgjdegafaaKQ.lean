/-
  What is proved here serves the law's text: each part says its own claim and its conditions. No condition is left open.
-/
import Derived.Test.YthdhhhgjdegafaaKP
import Derived.Test.YthdhhhgjdegafaaKO
set_option linter.unusedSimpArgs false
set_option linter.unusedVariables false

namespace Go.Ab.V
open Go.Proofs
def both (x : Lm) (n : List Nt) : Int := if chkL x ≠ 0 then chkL x else chkN n
def A33 : Ann := fun r => match r with
 | 0 => { slots := [(0, 0)] }
 | _ => {}
set_option maxHeartbeats 4000000 in
set_option maxRecDepth 100000 in
theorem check51_spec (x : Lm) (n : List Nt) (hl : x.lo.length ≤ 9223372036854775807) (hh : x.hi.length ≤ 9223372036854775807) (h3 : n.length ≤ 9223372036854775807) : PRet C.P 33 [lmA x, ntsA n] (.int .i64 (both x n)) := by
 have a1 := check_spec x hl hh
 have b1 := checkNotes_spec n h3
 unfold both
 generalize chkL x = a at a1
 generalize chkN n = b at b1
 by_cases h : a = 0
 ·rw [if_neg (by omega)]
  refine pret_of ok mixed (A := A33) 1 Try.func33 rfl ?_
  (repeat' (first | exact rfl | ((conv => whnf); first | refine ⟨_, a1, ?_⟩ | refine ⟨_, b1, ?_⟩ | exact rfl | refine ⟨by kernel_rfl, ?_⟩ | exact ⟨rfl, rfl⟩ | refine go0 ?_ | (intro ep) | (refine ifB (fun hb => ?_) (fun hb => ?_) <;> (try simp only [qs] at hb) <;> (try simp (disch := omega) only [wrapI] at hb) <;> (try (exfalso; omega))) | fail)))
 ·rw [if_pos h]
  refine pret_of ok mixed (A := A33) 1 Try.func33 rfl ?_
  (repeat' (first | exact rfl | ((conv => whnf); first | refine ⟨_, a1, ?_⟩ | refine ⟨_, b1, ?_⟩ | exact rfl | refine ⟨by kernel_rfl, ?_⟩ | exact ⟨rfl, rfl⟩ | refine go0 ?_ | (intro ep) | (refine ifB (fun hb => ?_) (fun hb => ?_) <;> (try simp only [qs] at hb) <;> (try simp (disch := omega) only [wrapI] at hb) <;> (try (exfalso; omega))) | fail)))
def run1 (e : Int) : List Nt → Nat
 | [] => 0
 | n :: r => if n.e = e then run1 e r + 1 else 0
theorem run1_le (e : Int) : ∀ l : List Nt, run1 e l ≤ l.length
 | [] => Nat.le_refl _
 | n :: r => by
  unfold run1
  split
  ·have := run1_le e r; simp; omega
  ·exact Nat.zero_le _
def segF (e : Int) (s i : Nat) : List Nt → List (Nat × Nat)
 | [] => [(s, i - s)]
 | n :: r => if n.e = e then segF e s (i + 1) r else (s, i - s) :: segF n.e i (i + 1) r
def segR (o : Nat) : List Nt → List (Nat × Nat)
 | [] => []
 | n :: r => segF n.e o (o + 1) r
theorem segF_run (e : Int) (s : Nat) : ∀ (i : Nat) (l : List Nt), segF e s i l = (s, i + run1 e l - s) :: segR (i + run1 e l) (l.drop (run1 e l))
 | i, [] => by simp [segF, run1, segR]
 | i, n :: r => by
  unfold segF run1
  split
  ·rename_i h
   rw [segF_run e s (i + 1) r, List.drop_succ_cons, show i + (run1 e r + 1) = i + 1 + run1 e r by omega]
  ·simp [segR]
theorem segR_cons (o : Nat) (n : Nt) (r : List Nt) : segR o (n :: r) = (o, run1 n.e r + 1) :: segR (o + (run1 n.e r + 1)) ((n :: r).drop (run1 n.e r + 1)) := by
 rw [List.drop_succ_cons]
 show segF n.e o (o + 1) r = _
 rw [segF_run, show o + 1 + run1 n.e r - o = run1 n.e r + 1 by omega, show o + 1 + run1 n.e r = o + (run1 n.e r + 1) by omega]
def Chain (L : Nat) : Nat → List (Nat × Nat) → Prop
 | o, [] => o = L
 | o, (a, n) :: r => a = o ∧ 0 < n ∧ Chain L (o + n) r
theorem chain_segR : ∀ (k o : Nat) (l : List Nt), l.length ≤ k → Chain (o + l.length) o (segR o l)
 | k, o, [], _ => by simp [segR, Chain]
 | 0, o, n :: r, h => by simp at h
 | k + 1, o, n :: r, h => by
  rw [segR_cons]
  have hr := run1_le n.e r
  refine ⟨rfl, Nat.succ_pos _, ?_⟩
  have := chain_segR k (o + (run1 n.e r + 1)) ((n :: r).drop (run1 n.e r + 1)) (by simp at h ⊢; omega)
  simp only [List.length_drop, List.length_cons] at this ⊢
  rwa [show o + (run1 n.e r + 1) + (r.length + 1 - (run1 n.e r + 1)) = o + (r.length + 1) by omega] at this
theorem run1_at {e : Int} : ∀ {l : List Nt} {k : Nat}, k < run1 e l → ∃ h : k < l.length, (l[k]'h).e = e
 | [], k, h => by simp [run1] at h
 | n :: r, 0, h => by
  unfold run1 at h
  split at h
  ·rename_i x; exact ⟨by simp, x⟩
  ·omega
 | n :: r, k + 1, h => by
  unfold run1 at h
  split at h
  ·obtain ⟨x, y⟩ := run1_at (e := e) (l := r) (k := k) (by omega)
   exact ⟨by simpa using x, by simpa using y⟩
  ·omega
theorem run1_end {e : Int} : ∀ {l : List Nt} (h : run1 e l < l.length), (l[run1 e l]'h).e ≠ e
 | [], h => by simp [run1] at h
 | n :: r, h => by
  by_cases x : n.e = e
  ·have h1 : run1 e (n :: r) = run1 e r + 1 := by rw [run1, if_pos x]
   have := run1_end (e := e) (l := r) (by rw [h1] at h; simpa using h)
   simp only [h1, List.getElem_cons_succ]
   exact this
  ·have h1 : run1 e (n :: r) = 0 := by rw [run1, if_neg x]
   simp only [h1, List.getElem_cons_zero]
   exact x
end Go.Ab.V

namespace Go.Ab.V
open Go.Proofs
theorem mapRo {α : Type} {f : α → List AV} {l : List α} {o i : Nat} (h : o + i < l.length) : (l.map f)[o + ((i : Nat) : Int).toNat]? = some (f l[o + i]) := by
 simp [h]
abbrev ntS (l : List Nt) (a n : Nat) : AV := .lslc 5 (l.map ntR) a n false
def segA (l : List Nt) (x : Nat × Nat) : List AV := [ntS l x.1 x.2]
abbrev fn78 (e : Nat) : AV := .fn (.func 69) [] [.optr (.s 0) e 1 0 0]
def idxR (R m : Nat) : Int := if R = m then -1 else (R : Int)
def A68 : Ann := fun _ => {}
def A69 : Ann := fun r => match r with
 | 0 => { slots := [(0, 3)] }
 | _ => {}
set_option maxHeartbeats 4000000 in
set_option maxRecDepth 100000 in
theorem idx77 (l : List Nt) (o m : Nat) (ho : o < l.length) (hm : m = l.length - o) (hl : l.length ≤ 9223372036854775807) (e0 : Nat) (o1 o2 : AObj) :
  ACalls C.P 68 [ntS l o m, fn78 e0] ⟨[.vec e0 [[ntS l o m]], o1, o2], []⟩
   fun r h => r = .int .i64 (idxR (run1 l[o].e (l.drop o)) m) ∧ h.trunc 3 = ⟨[.vec e0 [[ntS l o m]], o1, o2], []⟩ := by
 obtain ⟨R, hR⟩ : ∃ R, R = run1 l[o].e (l.drop o) := ⟨_, rfl⟩
 rw [← hR]
 have hRm : R ≤ m := by rw [hR, hm]; have := run1_le l[o].e (l.drop o); simpa using this
 have hm0 := mapRo (f := ntR) (l := l) (o := o) (i := 0) ho
 obtain ⟨hd, hhd⟩ : ∃ n, l[o + 0] = n := ⟨_, rfl⟩
 have hhd2 : l[o] = hd := hhd
 rw [hhd] at hm0
 rw [hhd2] at hR
 obtain ⟨he, hc, hp, hf, ht⟩ := hd
 replace hm0 : (l.map ntR)[o + ((0 : Nat) : Int).toNat]? = some [.int .i64 he, .int .i64 hc, .int .i64 hp, .int .i64 hf, .int .i64 ht] := hm0
 simp only at hR
 refine fn_of (okx [] [68]) mixed (A := A68) 0 Try.func68 rfl ?_
 (repeat' (first | exact rfl | ((conv => whnf); first | exact rfl | refine ⟨by kernel_rfl, ?_⟩ | exact ⟨rfl, rfl⟩ | refine go0 ?_ | (intro ep) | fail)))
 all_goals (conv => whnf)
 refine loopY (okx [] [68]) mixed (A := A68) [0, 1, 7, 8] [0, 1, 2] (S := { k : Nat // k ≤ m ∧ k + run1 he (l.drop (o + k)) = R })
  (fr := fun s => frOf 0 19 [(0, ntS l o m), (1, fn78 e0), (7, .int .i64 (m : Int)), (8, .int .i64 (s.1 : Int))])
  (h := fun s => ⟨[.vec e0 [[ntS l o m]], o1, o2], []⟩) (μ := fun s => m - s.1) ⟨0, by simp [hR]⟩ ?_ ?_
  [] [0, 1, 2] (S' := { k : Nat // R = m }) (X := fun _ => 0) (frX := fun s => frOf 0 19 []) (hX := fun s => ⟨[.vec e0 [[ntS l o m]], o1, o2], []⟩)
  [4] [0, 1, 2] (S2 := { k : Nat // R ≠ m }) (frR := fun s => frOf 0 19 [(4, .int .i64 (R : Int))]) (hR := fun s => ⟨[.vec e0 [[ntS l o m]], o1, o2], []⟩) ?_ ?_ ?_
 ·exact rfl
 ·exact rfl
 ·rintro ⟨k, hk, hu⟩
  show aexR _ _ _ (frOf 0 19 [(0, ntS l o m), (1, fn78 e0), (7, .int .i64 (m : Int)), (8, .int .i64 (k : Int))]) ⟨[.vec e0 [[ntS l o m]], o1, o2], []⟩ _
  (conv => whnf)
  refine ifB (fun g1 => ?_) (fun g1 => ?_)
  ·simp only [decide_eq_true_eq] at g1
   have h1 : o + k < l.length := by omega
   have hm1 := mapRo (f := ntR) h1
   rw [List.drop_eq_getElem_cons h1] at hu
   generalize l[o + k] = n at hm1 hu
   obtain ⟨ne, nc, np, nf, nt⟩ := n
   replace hm1 : (l.map ntR)[o + ((k : Nat) : Int).toNat]? = some [.int .i64 ne, .int .i64 nc, .int .i64 np, .int .i64 nf, .int .i64 nt] := hm1
   rw [run1] at hu
   simp only at hu
   (repeat' (first | exact rfl | ((conv => whnf); first | refine optS hm1 ?_ | refine optS hm0 ?_ | refine fn_of (okx [] [68]) mixed (A := A69) 1 Try.func69 rfl ?_ | exact rfl | refine ⟨by kernel_rfl, ?_⟩ | exact ⟨rfl, rfl⟩ | refine go0 ?_ | (intro ep) | fail)))
   all_goals (conv => whnf)
   refine ifB (fun g2 => ?_) (fun g2 => ?_)
   ·have g2' : ne ≠ he := by simpa using g2
    rw [if_neg g2'] at hu
    (repeat' (first | exact rfl | ((conv => whnf); first | exact rfl | refine ⟨by kernel_rfl, ?_⟩ | exact ⟨rfl, rfl⟩ | refine go0 ?_ | (intro ep) | fail)))
    all_goals (conv => whnf)
    refine back_of ⟨0, by omega⟩ ⟨?_, rfl⟩
    have : k = R := by omega
    subst this
    exact rfl
   ·have g2' : ne = he := by simpa using g2
    rw [if_pos g2'] at hu
    (repeat' (first | exact rfl | ((conv => whnf); first | exact rfl | refine ⟨by kernel_rfl, ?_⟩ | exact ⟨rfl, rfl⟩ | refine go0 ?_ | (intro ep) | fail)))
    all_goals (conv => whnf)
    refine back_of ⟨k + 1, by omega, by rw [show o + (k + 1) = o + k + 1 by omega]; omega⟩ ⟨by (first | exact rfl | (simp (disch := omega) only [wrapI]; exact rfl)), rfl, by simp only; omega⟩
  ·simp only [decide_eq_false_iff_not] at g1
   rw [List.drop_eq_nil_of_le (by omega), run1] at hu
   (repeat' (first | exact rfl | ((conv => whnf); first | exact rfl | refine ⟨by kernel_rfl, ?_⟩ | exact ⟨rfl, rfl⟩ | refine go0 ?_ | (intro ep) | fail)))
   all_goals (conv => whnf)
   exact back_of ⟨0, by omega⟩ ⟨rfl, rfl, rfl⟩
 ·rintro ⟨x, hx⟩
  (conv => whnf)
  refine ⟨?_, rfl⟩
  unfold idxR
  rw [if_neg hx]
 ·rintro ⟨x, hx⟩
  unfold idxR
  rw [if_pos hx]
  (repeat' (first | exact rfl | ((conv => whnf); first | exact rfl | refine ⟨by kernel_rfl, ?_⟩ | exact ⟨rfl, rfl⟩ | refine go0 ?_ | (intro ep) | fail)))
def A41 : Ann := fun r => match r with
 | 0 => { slots := [(0, 0)] }
 | 5 => { slots := [(4, 1), (5, 2)] }
 | _ => {}
theorem segR_end (l : List Nt) {o : Nat} (h : ¬ o < l.length) : segR o (l.drop o) = [] := by rw [List.drop_eq_nil_of_le (by omega)]; rfl
theorem segR_at (l : List Nt) {o : Nat} (h : o < l.length) : segR o (l.drop o) = (o, run1 l[o].e (l.drop o)) :: segR (o + run1 l[o].e (l.drop o)) (l.drop (o + run1 l[o].e (l.drop o))) := by
 rw [← List.drop_drop]
 have hd := List.drop_eq_getElem_cons h
 generalize l[o] = n at hd
 generalize l.drop o = q at hd
 subst hd
 have e1 : run1 n.e (n :: l.drop (o + 1)) = run1 n.e (l.drop (o + 1)) + 1 := by rw [run1, if_pos rfl]
 rw [e1, segR_cons]
theorem run1_pos (l : List Nt) {o : Nat} (h : o < l.length) : 0 < run1 l[o].e (l.drop o) := by
 rw [List.drop_eq_getElem_cons h, run1, if_pos rfl]; omega
set_option maxHeartbeats 4000000 in
set_option maxRecDepth 100000 in
theorem events_spec (l : List Nt) (hl : l.length ≤ 5600) : PRet C.P 41 [ntsA l] (.lslc 1 ((segR 0 l).map (segA l)) 0 (segR 0 l).length false) := by
 obtain ⟨R, hR⟩ : ∃ R, R = segR 0 l := ⟨_, rfl⟩
 rw [← hR]
 refine pret_of (okx [] [68]) mixed (A := A41) 3 Try.func41 rfl ?_
 (conv => whnf)
 intro e0
 (repeat' (first | exact rfl | ((conv => whnf); first | exact rfl | refine ⟨by kernel_rfl, ?_⟩ | exact ⟨rfl, rfl⟩ | refine go0 ?_ | (intro ep) | fail)))
 all_goals (conv => whnf)
 refine wk_lift 2 2 1 rfl ?_
 intro eA
 refine loopX (okx [] [68]) mixed (A := A41) [1, 2] [0, 2] (S := { x : Nat × Nat × List (Nat × Nat) // x.2.1 ≤ l.length ∧ x.2.2.length ≤ x.2.1 ∧ x.2.2 ++ segR x.2.1 (l.drop x.2.1) = R })
  (fr := fun s => frOf 0 24 [(1, .optr (.s 0) e0 1 0 0), (2, .oslc (.s 2) s.1.1 1 0 s.1.2.2.length false)])
  (h := fun s => ⟨[.vec e0 [[ntS l s.1.2.1 (l.length - s.1.2.1)]], .hole, .vec s.1.1 (s.1.2.2.map (segA l))], []⟩) (μ := fun s => l.length - s.1.2.1) ⟨(eA, 0, []), by simp [hR]⟩ ?_ ?_
  [2] [2] (S' := { x : Nat × List (Nat × Nat) // x.2 = R }) (X := fun _ => 0) (frX := fun s => frOf 0 24 [(2, .oslc (.s 2) s.1.1 1 0 s.1.2.length false)])
  (hX := fun s => ⟨[.hole, .hole, .vec s.1.1 (s.1.2.map (segA l))], []⟩) (R := fun _ _ => False) ?_ (fun _ _ h => h.elim) ?_
 ·exact rfl
 ·exact rfl
 ·rintro ⟨⟨e, o, acc⟩, ho, hacc, hu⟩
  simp only at ho hacc hu
  obtain ⟨m, hm⟩ : ∃ m, m = l.length - o := ⟨_, rfl⟩
  show aexR _ _ _ (frOf 0 24 [(1, .optr (.s 0) e0 1 0 0), (2, .oslc (.s 2) e 1 0 acc.length false)]) ⟨[.vec e0 [[ntS l o (l.length - o)]], .hole, .vec e (acc.map (segA l))], []⟩ _
  rw [← hm]
  (repeat' (first | exact rfl | ((conv => whnf); first | exact rfl | refine ⟨by kernel_rfl, ?_⟩ | exact ⟨rfl, rfl⟩ | refine go0 ?_ | (intro ep) | fail)))
  all_goals (conv => whnf)
  refine ifB (fun g1 => ?_) (fun g1 => ?_)
  ·simp only [decide_eq_true_eq] at g1
   have h1 : o < l.length := by omega
   have hi := idx77 l o m h1 hm (by omega) e0 .hole (.vec e (acc.map (segA l)))
   rw [segR_at l h1] at hu
   have hp := run1_pos l h1
   have hle := run1_le l[o].e (l.drop o)
   rw [List.length_drop, ← hm] at hle
   generalize run1 l[o].e (l.drop o) = q at hi hu hp hle
   unfold idxR at hi
   have t3 : List.take acc.length (List.drop 0 (acc.map (segA l))) = acc.map (segA l) := by rw [List.drop_zero, List.take_of_length_le (by simp)]
   (repeat' (first | exact rfl | ((conv => whnf); first | exact rfl | refine ⟨by kernel_rfl, ?_⟩ | exact ⟨rfl, rfl⟩ | refine go0 ?_ | (intro ep) | fail)))
   by_cases hq : q = m
   ·rw [if_pos hq] at hi
    (conv => whnf)
    refine callT hi fun rest => ?_
    (repeat' (first | exact rfl | ((conv => whnf); first | exact rfl | refine ⟨by kernel_rfl, ?_⟩ | exact ⟨rfl, rfl⟩ | refine go0 ?_ | (intro ep) | (refine ifB (fun hb => ?_) (fun hb => ?_) <;> (try simp only [qs] at hb) <;> (try simp (disch := omega) only [wrapI] at hb) <;> (try (exfalso; omega))) | fail)))
    all_goals (conv => whnf)
    refine back_of ⟨(ep, o + m, acc ++ [(o, m)]), by simp only; omega, by simp only [List.length_append, List.length_cons, List.length_nil]; omega, by simp only; rw [← hu, hq]; simp⟩ ⟨?_, ?_, by simp only; omega⟩
    ·have e1 : (acc ++ [(o, m)]).length = acc.length + 1 := by simp
     show maskF 0 _ _ = frOf 0 24 [(1, .optr (.s 0) e0 1 0 0), (2, .oslc (.s 2) ep 1 0 (acc ++ [(o, m)]).length false)]
     rw [e1]
     exact rfl
    ·have e1 : (acc ++ [(o, m)]).map (segA l) = List.take acc.length (List.drop 0 (acc.map (segA l))) ++ [[ntS l o m]] := by rw [t3]; simp [segA]
     show maskH 0 _ _ = ⟨[.vec e0 [[ntS l (o + m) (l.length - (o + m))]], .hole, .vec ep ((acc ++ [(o, m)]).map (segA l))], []⟩
     rw [e1, show l.length - (o + m) = m - m by omega]
     exact rfl
   ·rw [if_neg hq] at hi
    (conv => whnf)
    refine callT hi fun rest => ?_
    (repeat' (first | exact rfl | ((conv => whnf); first | exact rfl | refine ⟨by kernel_rfl, ?_⟩ | exact ⟨rfl, rfl⟩ | refine go0 ?_ | (intro ep) | (refine ifB (fun hb => ?_) (fun hb => ?_) <;> (try simp only [qs] at hb) <;> (try simp (disch := omega) only [wrapI] at hb) <;> (try (exfalso; omega))) | fail)))
    all_goals (conv => whnf)
    refine back_of ⟨(ep, o + q, acc ++ [(o, q)]), by simp only; omega, by simp only [List.length_append, List.length_cons, List.length_nil]; omega, by simp only; rw [← hu]; simp⟩ ⟨?_, ?_, by simp only; omega⟩
    ·have e1 : (acc ++ [(o, q)]).length = acc.length + 1 := by simp
     show maskF 0 _ _ = frOf 0 24 [(1, .optr (.s 0) e0 1 0 0), (2, .oslc (.s 2) ep 1 0 (acc ++ [(o, q)]).length false)]
     rw [e1]
     exact rfl
    ·have e1 : (acc ++ [(o, q)]).map (segA l) = List.take acc.length (List.drop 0 (acc.map (segA l))) ++ [[ntS l o q]] := by rw [t3]; simp [segA]
     show maskH 0 _ _ = ⟨[.vec e0 [[ntS l (o + q) (l.length - (o + q))]], .hole, .vec ep ((acc ++ [(o, q)]).map (segA l))], []⟩
     rw [e1, show l.length - (o + q) = m - q by omega]
     exact rfl
  ·simp only [decide_eq_false_iff_not] at g1
   rw [segR_end l (by omega)] at hu
   (repeat' (first | exact rfl | ((conv => whnf); first | exact rfl | refine ⟨by kernel_rfl, ?_⟩ | exact ⟨rfl, rfl⟩ | refine go0 ?_ | (intro ep) | fail)))
   all_goals (conv => whnf)
   exact back_of ⟨(e, acc), by simpa using hu⟩ ⟨rfl, rfl, rfl⟩
 ·rintro ⟨⟨e, acc⟩, hu⟩
  simp only at hu
  subst hu
  (repeat' (first | exact rfl | ((conv => whnf); first | exact rfl | refine ⟨by kernel_rfl, ?_⟩ | exact ⟨rfl, rfl⟩ | refine go0 ?_ | (intro ep) | fail)))
  all_goals (conv => whnf)
  refine ⟨?_, rfl, ?_⟩
  ·intro row hr c hc
   obtain ⟨x, _, rfl⟩ := List.mem_map.1 hr
   simp [segA] at hc
   subst hc
   exact rfl
  ·simp
end Go.Ab.V

namespace Go.Ab.V
open Go.Proofs
theorem pure_ints (l : List Int) : pureRows (ints l) := by
 intro row hr c hc
 obtain ⟨x, _, rfl⟩ := List.mem_map.1 hr
 simp at hc
 subst hc
 rfl
end Go.Ab.V

namespace Go.Ab.V
open Go.Proofs
def nt0 : Nt := ⟨0, 0, 0, 0, 0⟩
structure St where
 a : Nt
 b : Nt
 c : Nt
 d : Nt
 e : Nt
def St.get (s : St) : Nat → Nt
 | 0 => s.a
 | 1 => s.b
 | 2 => s.c
 | 3 => s.d
 | 4 => s.e
 | _ => nt0
def St.set (s : St) (k : Nat) (n : Nt) : St := match k with
 | 0 => { s with a := n }
 | 1 => { s with b := n }
 | 2 => { s with c := n }
 | 3 => { s with d := n }
 | 4 => { s with e := n }
 | _ => s
def St.row (s : St) : List AV := ntR s.a ++ ntR s.b ++ ntR s.c ++ ntR s.d ++ ntR s.e
def st0 : St := ⟨nt0, nt0, nt0, nt0, nt0⟩
def ntFit (n : Nt) : Prop := 0 ≤ n.p ∧ n.p ≤ 127 ∧ 0 ≤ n.t ∧ n.t ≤ 262144
def St.ok (s : St) : Prop := ∀ k, ntFit (s.get k)
theorem St.ok0 : st0.ok := by
 intro k
 have : st0.get k = nt0 := by unfold St.get st0; split <;> rfl
 rw [this]; unfold ntFit nt0; decide
theorem St.get_set (s : St) {k : Nat} (hk : k < 5) (n : Nt) (j : Nat) : (s.set k n).get j = if j = k then n else s.get j := by
 obtain rfl | rfl | rfl | rfl | rfl : k = 0 ∨ k = 1 ∨ k = 2 ∨ k = 3 ∨ k = 4 := by omega
 all_goals
  unfold St.get St.set
  match j with
  | 0 | 1 | 2 | 3 | 4 => simp
  | j + 5 => simp
theorem St.set_ok {s : St} (h : s.ok) {k : Nat} (hk : k < 5) {n : Nt} (hn : ntFit n) : (s.set k n).ok := by
 intro j
 rw [St.get_set s hk]
 split
 ·exact hn
 ·exact h j
def dst (p q : Int) : Int := if p - q < q - p then q - p else p - q
def join (x : Lm) (s : St) (n : Nt) (v : Int) : Option (Int × St) :=
 if v < 1 ∨ (x.lo.length : Int) < v then none else
 if n.p < x.lo.getD (v - 1).toNat 0 ∨ x.hi.getD (v - 1).toNat 0 < n.p then none else
 if 0 < (s.get (v - 1).toNat).t ∧ (s.get (v - 1).toNat).e = n.e then none else
 if 0 < (s.get (v - 1).toNat).t ∧ n.f ≤ (s.get (v - 1).toNat).t + x.gap then
  (if x.leap < dst n.p (s.get (v - 1).toNat).p then none else some (dst n.p (s.get (v - 1).toNat).p, s.set (v - 1).toNat n))
 else some (0, s.set (v - 1).toNat n)
def A42 : Ann := fun r => match r with
 | 0 => { slots := [(0, 4), (1, 5)] }
 | 3 => { slots := [(6, 6)] }
 | _ => {}
abbrev hpV (o0 o1 o3 : AObj) (e : Nat) (s : St) : List AObj := [o0, o1, .vec e [s.row], o3]
abbrev joinV (r : Option (Int × St)) : AV := match r with
 | none => .tup [.int .i64 0, .bool false]
 | some d => .tup [.int .i64 d.1, .bool true]
abbrev joinS (s : St) (r : Option (Int × St)) : St := match r with
 | none => s
 | some d => d.2
set_option maxHeartbeats 16000000 in
set_option maxRecDepth 100000 in
theorem join53 (x : Lm) (s : St) (n : Nt) (v : Int) (hx : x.hi.length = x.lo.length) (h5 : x.lo.length ≤ 5) (hg : 0 ≤ x.gap ∧ x.gap ≤ 262144) (hs : s.ok) (hn : ntFit n) (e0 : Nat) (o0 o1 o3 : AObj) :
  ACalls C.P 42 [.optr (.s 2) e0 25 0 0, lmA x, .agg (ntR n), .int .i64 v] ⟨hpV o0 o1 o3 e0 s, []⟩
   fun r h => r = joinV (join x s n v) ∧ h.trunc 4 = ⟨hpV o0 o1 o3 e0 (joinS s (join x s n v)), []⟩ := by
 obtain ⟨lo, hi, leap, gap, cross⟩ := x
 obtain ⟨ne, nc, np, nf, nt⟩ := n
 simp only at hx h5 hg
 unfold join
 simp only
 by_cases c1 : v < 1 ∨ (lo.length : Int) < v
 ·rw [if_pos c1]
  have w1 := within_f (n := v) (a := 1) (b := (lo.length : Int)) c1
  refine fn_of (okx [] [42, 43]) mixed (A := A42) 3 Try.func42 rfl ?_
  (repeat' (first | exact rfl | ((conv => whnf); first | refine ⟨_, w1, ?_⟩ | exact rfl | refine ⟨by kernel_rfl, ?_⟩ | exact ⟨rfl, rfl⟩ | refine go0 ?_ | (intro ep) | (refine ifB (fun hb => ?_) (fun hb => ?_) <;> (try simp only [if_true, decide_eq_true_eq, decide_eq_false_iff_not, beq_iff_eq, beq_eq_false_iff_ne, bne_iff_ne, bne_eq_false_iff_eq, ne_eq, not_false_eq_true, not_true_eq_false, Bool.not_eq_true, Bool.not_eq_true', Bool.not_eq_false', Int.not_lt, Int.not_le] at hb) <;> (try simp (disch := omega) only [wrapI] at hb) <;> (try simp only [if_true] at hb) <;> (try (first | rw [if_pos c5] at hb | rw [if_neg c5] at hb)) <;> (try (exfalso; omega))) | fail)))
 rw [if_neg c1]
 have w1 := within_t (n := v) (a := 1) (b := (lo.length : Int)) (by omega)
 obtain ⟨k, hk⟩ : ∃ k : Nat, v = (k : Int) + 1 := ⟨(v - 1).toNat, by omega⟩
 have hkl : k < lo.length := by omega
 have hkh : k < hi.length := by omega
 have hw : IntKind.i64.wrap (v - 1) = (k : Int) := by rw [wrapI (by omega) (by omega)]; omega
 have hm1 : (ints lo)[0 + (IntKind.i64.wrap (v - 1)).toNat]? = some [.int .i64 lo[k]] := by rw [hw]; exact intsR hkl
 have hm2 : (ints hi)[0 + (IntKind.i64.wrap (v - 1)).toNat]? = some [.int .i64 hi[k]] := by rw [hw]; exact intsR hkh
 have hv : (v - 1).toNat = k := by omega
 rw [hv]
 have g1 : lo.getD k 0 = lo[k] := by simp [List.getD, hkl]
 have g2 : hi.getD k 0 = hi[k] := by simp [List.getD, hkh]
 rw [g1, g2]
 generalize lo[k] = lk at hm1
 generalize hi[k] = hk2 at hm2
 by_cases c2 : np < lk ∨ hk2 < np
 ·rw [if_pos c2]
  have w2 := within_f (n := np) (a := lk) (b := hk2) c2
  refine fn_of (okx [] [42, 43]) mixed (A := A42) 3 Try.func42 rfl ?_
  (repeat' (first | exact rfl | ((conv => whnf); first | refine optS hm1 ?_ | refine optS hm2 ?_ | refine ⟨_, w1, ?_⟩ | refine ⟨_, w2, ?_⟩ | exact rfl | refine ⟨by kernel_rfl, ?_⟩ | exact ⟨rfl, rfl⟩ | refine go0 ?_ | (intro ep) | (refine ifB (fun hb => ?_) (fun hb => ?_) <;> (try simp only [if_true, decide_eq_true_eq, decide_eq_false_iff_not, beq_iff_eq, beq_eq_false_iff_ne, bne_iff_ne, bne_eq_false_iff_eq, ne_eq, not_false_eq_true, not_true_eq_false, Bool.not_eq_true, Bool.not_eq_true', Bool.not_eq_false', Int.not_lt, Int.not_le] at hb) <;> (try simp (disch := omega) only [wrapI] at hb) <;> (try simp only [if_true] at hb) <;> (try (first | rw [if_pos c5] at hb | rw [if_neg c5] at hb)) <;> (try (exfalso; omega))) | fail)))
 rw [if_neg c2]
 have w2 := within_t (n := np) (a := lk) (b := hk2) (by omega)
 have hb := hs k
 obtain ⟨sa, sb, sc, sd, se⟩ := s
 obtain ⟨ae, ac, ap, af, at'⟩ := sa
 obtain ⟨be, bc, bp, bf, bt⟩ := sb
 obtain ⟨ce, cc, cp, cf, ct⟩ := sc
 obtain ⟨de, dc, dp, df, dt⟩ := sd
 obtain ⟨ee, ec, pe, ef, et⟩ := se
 unfold ntFit at hn hb
 simp only at hn
 have h5' : k = 0 ∨ k = 1 ∨ k = 2 ∨ k = 3 ∨ k = 4 := by omega
 rcases h5' with rfl | rfl | rfl | rfl | rfl
 ·simp only [St.get, St.set] at hb ⊢
  obtain rfl := hk
  by_cases c3 : 0 < at' ∧ ae = ne
  ·rw [if_pos c3]
   refine fn_of (okx [] [42, 43]) mixed (A := A42) 3 Try.func42 rfl ?_
   (repeat' (first | exact rfl | ((conv => whnf); first | refine optS hm1 ?_ | refine optS hm2 ?_ | refine ⟨_, w1, ?_⟩ | refine ⟨_, w2, ?_⟩ | exact rfl | refine ⟨by kernel_rfl, ?_⟩ | exact ⟨rfl, rfl⟩ | refine go0 ?_ | (intro ep) | (refine ifB (fun hb => ?_) (fun hb => ?_) <;> (try simp only [if_true, decide_eq_true_eq, decide_eq_false_iff_not, beq_iff_eq, beq_eq_false_iff_ne, bne_iff_ne, bne_eq_false_iff_eq, ne_eq, not_false_eq_true, not_true_eq_false, Bool.not_eq_true, Bool.not_eq_true', Bool.not_eq_false', Int.not_lt, Int.not_le] at hb) <;> (try simp (disch := omega) only [wrapI] at hb) <;> (try simp only [if_true] at hb) <;> (try (first | rw [if_pos c5] at hb | rw [if_neg c5] at hb)) <;> (try (exfalso; omega))) | fail)))
  rw [if_neg c3]
  by_cases c4 : 0 < at' ∧ nf ≤ at' + gap
  ·rw [if_pos c4]
   unfold dst
   by_cases c5 : np - ap < ap - np
   ·rw [if_pos c5]
    by_cases c6 : leap < ap - np
    ·rw [if_pos c6]
     refine fn_of (okx [] [42, 43]) mixed (A := A42) 3 Try.func42 rfl ?_
     (repeat' (first | exact rfl | ((conv => whnf); first | refine optS hm1 ?_ | refine optS hm2 ?_ | refine ⟨_, w1, ?_⟩ | refine ⟨_, w2, ?_⟩ | exact rfl | refine ⟨by kernel_rfl, ?_⟩ | exact ⟨rfl, rfl⟩ | refine go0 ?_ | (intro ep) | (refine ifB (fun hb => ?_) (fun hb => ?_) <;> (try simp only [if_true, decide_eq_true_eq, decide_eq_false_iff_not, beq_iff_eq, beq_eq_false_iff_ne, bne_iff_ne, bne_eq_false_iff_eq, ne_eq, not_false_eq_true, not_true_eq_false, Bool.not_eq_true, Bool.not_eq_true', Bool.not_eq_false', Int.not_lt, Int.not_le] at hb) <;> (try simp (disch := omega) only [wrapI] at hb) <;> (try simp only [if_true] at hb) <;> (try (first | rw [if_pos c5] at hb | rw [if_neg c5] at hb)) <;> (try (exfalso; omega))) | fail)))
    ·rw [if_neg c6]
     refine fn_of (okx [] [42, 43]) mixed (A := A42) 3 Try.func42 rfl ?_
     (repeat' (first | exact rfl | ((conv => whnf); first | refine optS hm1 ?_ | refine optS hm2 ?_ | refine ⟨_, w1, ?_⟩ | refine ⟨_, w2, ?_⟩ | exact rfl | exact ⟨rfl, rfl⟩ | refine go1 ?_ | (intro ep) | (refine ifB (fun hb => ?_) (fun hb => ?_) <;> (try simp only [if_true, decide_eq_true_eq, decide_eq_false_iff_not, beq_iff_eq, beq_eq_false_iff_ne, bne_iff_ne, bne_eq_false_iff_eq, ne_eq, not_false_eq_true, not_true_eq_false, Bool.not_eq_true, Bool.not_eq_true', Bool.not_eq_false', Int.not_lt, Int.not_le] at hb) <;> (try simp (disch := omega) only [wrapI] at hb) <;> (try simp only [if_true] at hb) <;> (try (first | rw [if_pos c5] at hb | rw [if_neg c5] at hb)) <;> (try (exfalso; omega))) | fail)))
     all_goals (refine ⟨congrArg (fun z => AV.tup [.int .i64 z, .bool true]) (?_ : _ = ap - np), rfl⟩; simp (disch := omega) only [wrapI]; simp only [if_true]; exact if_pos c5)
   ·rw [if_neg c5]
    by_cases c6 : leap < np - ap
    ·rw [if_pos c6]
     refine fn_of (okx [] [42, 43]) mixed (A := A42) 3 Try.func42 rfl ?_
     (repeat' (first | exact rfl | ((conv => whnf); first | refine optS hm1 ?_ | refine optS hm2 ?_ | refine ⟨_, w1, ?_⟩ | refine ⟨_, w2, ?_⟩ | exact rfl | refine ⟨by kernel_rfl, ?_⟩ | exact ⟨rfl, rfl⟩ | refine go0 ?_ | (intro ep) | (refine ifB (fun hb => ?_) (fun hb => ?_) <;> (try simp only [if_true, decide_eq_true_eq, decide_eq_false_iff_not, beq_iff_eq, beq_eq_false_iff_ne, bne_iff_ne, bne_eq_false_iff_eq, ne_eq, not_false_eq_true, not_true_eq_false, Bool.not_eq_true, Bool.not_eq_true', Bool.not_eq_false', Int.not_lt, Int.not_le] at hb) <;> (try simp (disch := omega) only [wrapI] at hb) <;> (try simp only [if_true] at hb) <;> (try (first | rw [if_pos c5] at hb | rw [if_neg c5] at hb)) <;> (try (exfalso; omega))) | fail)))
    ·rw [if_neg c6]
     refine fn_of (okx [] [42, 43]) mixed (A := A42) 3 Try.func42 rfl ?_
     (repeat' (first | exact rfl | ((conv => whnf); first | refine optS hm1 ?_ | refine optS hm2 ?_ | refine ⟨_, w1, ?_⟩ | refine ⟨_, w2, ?_⟩ | exact rfl | exact ⟨rfl, rfl⟩ | refine go1 ?_ | (intro ep) | (refine ifB (fun hb => ?_) (fun hb => ?_) <;> (try simp only [if_true, decide_eq_true_eq, decide_eq_false_iff_not, beq_iff_eq, beq_eq_false_iff_ne, bne_iff_ne, bne_eq_false_iff_eq, ne_eq, not_false_eq_true, not_true_eq_false, Bool.not_eq_true, Bool.not_eq_true', Bool.not_eq_false', Int.not_lt, Int.not_le] at hb) <;> (try simp (disch := omega) only [wrapI] at hb) <;> (try simp only [if_true] at hb) <;> (try (first | rw [if_pos c5] at hb | rw [if_neg c5] at hb)) <;> (try (exfalso; omega))) | fail)))
     all_goals (refine ⟨congrArg (fun z => AV.tup [.int .i64 z, .bool true]) (?_ : _ = np - ap), rfl⟩; simp (disch := omega) only [wrapI]; simp only [if_true]; exact if_neg c5)
  ·rw [if_neg c4]
   refine fn_of (okx [] [42, 43]) mixed (A := A42) 3 Try.func42 rfl ?_
   (repeat' (first | exact rfl | ((conv => whnf); first | refine optS hm1 ?_ | refine optS hm2 ?_ | refine ⟨_, w1, ?_⟩ | refine ⟨_, w2, ?_⟩ | exact rfl | refine ⟨by kernel_rfl, ?_⟩ | exact ⟨rfl, rfl⟩ | refine go0 ?_ | (intro ep) | (refine ifB (fun hb => ?_) (fun hb => ?_) <;> (try simp only [if_true, decide_eq_true_eq, decide_eq_false_iff_not, beq_iff_eq, beq_eq_false_iff_ne, bne_iff_ne, bne_eq_false_iff_eq, ne_eq, not_false_eq_true, not_true_eq_false, Bool.not_eq_true, Bool.not_eq_true', Bool.not_eq_false', Int.not_lt, Int.not_le] at hb) <;> (try simp (disch := omega) only [wrapI] at hb) <;> (try simp only [if_true] at hb) <;> (try (first | rw [if_pos c5] at hb | rw [if_neg c5] at hb)) <;> (try (exfalso; omega))) | fail)))
 ·simp only [St.get, St.set] at hb ⊢
  obtain rfl := hk
  by_cases c3 : 0 < bt ∧ be = ne
  ·rw [if_pos c3]
   refine fn_of (okx [] [42, 43]) mixed (A := A42) 3 Try.func42 rfl ?_
   (repeat' (first | exact rfl | ((conv => whnf); first | refine optS hm1 ?_ | refine optS hm2 ?_ | refine ⟨_, w1, ?_⟩ | refine ⟨_, w2, ?_⟩ | exact rfl | refine ⟨by kernel_rfl, ?_⟩ | exact ⟨rfl, rfl⟩ | refine go0 ?_ | (intro ep) | (refine ifB (fun hb => ?_) (fun hb => ?_) <;> (try simp only [if_true, decide_eq_true_eq, decide_eq_false_iff_not, beq_iff_eq, beq_eq_false_iff_ne, bne_iff_ne, bne_eq_false_iff_eq, ne_eq, not_false_eq_true, not_true_eq_false, Bool.not_eq_true, Bool.not_eq_true', Bool.not_eq_false', Int.not_lt, Int.not_le] at hb) <;> (try simp (disch := omega) only [wrapI] at hb) <;> (try simp only [if_true] at hb) <;> (try (first | rw [if_pos c5] at hb | rw [if_neg c5] at hb)) <;> (try (exfalso; omega))) | fail)))
  rw [if_neg c3]
  by_cases c4 : 0 < bt ∧ nf ≤ bt + gap
  ·rw [if_pos c4]
   unfold dst
   by_cases c5 : np - bp < bp - np
   ·rw [if_pos c5]
    by_cases c6 : leap < bp - np
    ·rw [if_pos c6]
     refine fn_of (okx [] [42, 43]) mixed (A := A42) 3 Try.func42 rfl ?_
     (repeat' (first | exact rfl | ((conv => whnf); first | refine optS hm1 ?_ | refine optS hm2 ?_ | refine ⟨_, w1, ?_⟩ | refine ⟨_, w2, ?_⟩ | exact rfl | refine ⟨by kernel_rfl, ?_⟩ | exact ⟨rfl, rfl⟩ | refine go0 ?_ | (intro ep) | (refine ifB (fun hb => ?_) (fun hb => ?_) <;> (try simp only [if_true, decide_eq_true_eq, decide_eq_false_iff_not, beq_iff_eq, beq_eq_false_iff_ne, bne_iff_ne, bne_eq_false_iff_eq, ne_eq, not_false_eq_true, not_true_eq_false, Bool.not_eq_true, Bool.not_eq_true', Bool.not_eq_false', Int.not_lt, Int.not_le] at hb) <;> (try simp (disch := omega) only [wrapI] at hb) <;> (try simp only [if_true] at hb) <;> (try (first | rw [if_pos c5] at hb | rw [if_neg c5] at hb)) <;> (try (exfalso; omega))) | fail)))
    ·rw [if_neg c6]
     refine fn_of (okx [] [42, 43]) mixed (A := A42) 3 Try.func42 rfl ?_
     (repeat' (first | exact rfl | ((conv => whnf); first | refine optS hm1 ?_ | refine optS hm2 ?_ | refine ⟨_, w1, ?_⟩ | refine ⟨_, w2, ?_⟩ | exact rfl | exact ⟨rfl, rfl⟩ | refine go1 ?_ | (intro ep) | (refine ifB (fun hb => ?_) (fun hb => ?_) <;> (try simp only [if_true, decide_eq_true_eq, decide_eq_false_iff_not, beq_iff_eq, beq_eq_false_iff_ne, bne_iff_ne, bne_eq_false_iff_eq, ne_eq, not_false_eq_true, not_true_eq_false, Bool.not_eq_true, Bool.not_eq_true', Bool.not_eq_false', Int.not_lt, Int.not_le] at hb) <;> (try simp (disch := omega) only [wrapI] at hb) <;> (try simp only [if_true] at hb) <;> (try (first | rw [if_pos c5] at hb | rw [if_neg c5] at hb)) <;> (try (exfalso; omega))) | fail)))
     all_goals (refine ⟨congrArg (fun z => AV.tup [.int .i64 z, .bool true]) (?_ : _ = bp - np), rfl⟩; simp (disch := omega) only [wrapI]; simp only [if_true]; exact if_pos c5)
   ·rw [if_neg c5]
    by_cases c6 : leap < np - bp
    ·rw [if_pos c6]
     refine fn_of (okx [] [42, 43]) mixed (A := A42) 3 Try.func42 rfl ?_
     (repeat' (first | exact rfl | ((conv => whnf); first | refine optS hm1 ?_ | refine optS hm2 ?_ | refine ⟨_, w1, ?_⟩ | refine ⟨_, w2, ?_⟩ | exact rfl | refine ⟨by kernel_rfl, ?_⟩ | exact ⟨rfl, rfl⟩ | refine go0 ?_ | (intro ep) | (refine ifB (fun hb => ?_) (fun hb => ?_) <;> (try simp only [if_true, decide_eq_true_eq, decide_eq_false_iff_not, beq_iff_eq, beq_eq_false_iff_ne, bne_iff_ne, bne_eq_false_iff_eq, ne_eq, not_false_eq_true, not_true_eq_false, Bool.not_eq_true, Bool.not_eq_true', Bool.not_eq_false', Int.not_lt, Int.not_le] at hb) <;> (try simp (disch := omega) only [wrapI] at hb) <;> (try simp only [if_true] at hb) <;> (try (first | rw [if_pos c5] at hb | rw [if_neg c5] at hb)) <;> (try (exfalso; omega))) | fail)))
    ·rw [if_neg c6]
     refine fn_of (okx [] [42, 43]) mixed (A := A42) 3 Try.func42 rfl ?_
     (repeat' (first | exact rfl | ((conv => whnf); first | refine optS hm1 ?_ | refine optS hm2 ?_ | refine ⟨_, w1, ?_⟩ | refine ⟨_, w2, ?_⟩ | exact rfl | exact ⟨rfl, rfl⟩ | refine go1 ?_ | (intro ep) | (refine ifB (fun hb => ?_) (fun hb => ?_) <;> (try simp only [if_true, decide_eq_true_eq, decide_eq_false_iff_not, beq_iff_eq, beq_eq_false_iff_ne, bne_iff_ne, bne_eq_false_iff_eq, ne_eq, not_false_eq_true, not_true_eq_false, Bool.not_eq_true, Bool.not_eq_true', Bool.not_eq_false', Int.not_lt, Int.not_le] at hb) <;> (try simp (disch := omega) only [wrapI] at hb) <;> (try simp only [if_true] at hb) <;> (try (first | rw [if_pos c5] at hb | rw [if_neg c5] at hb)) <;> (try (exfalso; omega))) | fail)))
     all_goals (refine ⟨congrArg (fun z => AV.tup [.int .i64 z, .bool true]) (?_ : _ = np - bp), rfl⟩; simp (disch := omega) only [wrapI]; simp only [if_true]; exact if_neg c5)
  ·rw [if_neg c4]
   refine fn_of (okx [] [42, 43]) mixed (A := A42) 3 Try.func42 rfl ?_
   (repeat' (first | exact rfl | ((conv => whnf); first | refine optS hm1 ?_ | refine optS hm2 ?_ | refine ⟨_, w1, ?_⟩ | refine ⟨_, w2, ?_⟩ | exact rfl | refine ⟨by kernel_rfl, ?_⟩ | exact ⟨rfl, rfl⟩ | refine go0 ?_ | (intro ep) | (refine ifB (fun hb => ?_) (fun hb => ?_) <;> (try simp only [if_true, decide_eq_true_eq, decide_eq_false_iff_not, beq_iff_eq, beq_eq_false_iff_ne, bne_iff_ne, bne_eq_false_iff_eq, ne_eq, not_false_eq_true, not_true_eq_false, Bool.not_eq_true, Bool.not_eq_true', Bool.not_eq_false', Int.not_lt, Int.not_le] at hb) <;> (try simp (disch := omega) only [wrapI] at hb) <;> (try simp only [if_true] at hb) <;> (try (first | rw [if_pos c5] at hb | rw [if_neg c5] at hb)) <;> (try (exfalso; omega))) | fail)))
 ·simp only [St.get, St.set] at hb ⊢
  obtain rfl := hk
  by_cases c3 : 0 < ct ∧ ce = ne
  ·rw [if_pos c3]
   refine fn_of (okx [] [42, 43]) mixed (A := A42) 3 Try.func42 rfl ?_
   (repeat' (first | exact rfl | ((conv => whnf); first | refine optS hm1 ?_ | refine optS hm2 ?_ | refine ⟨_, w1, ?_⟩ | refine ⟨_, w2, ?_⟩ | exact rfl | refine ⟨by kernel_rfl, ?_⟩ | exact ⟨rfl, rfl⟩ | refine go0 ?_ | (intro ep) | (refine ifB (fun hb => ?_) (fun hb => ?_) <;> (try simp only [if_true, decide_eq_true_eq, decide_eq_false_iff_not, beq_iff_eq, beq_eq_false_iff_ne, bne_iff_ne, bne_eq_false_iff_eq, ne_eq, not_false_eq_true, not_true_eq_false, Bool.not_eq_true, Bool.not_eq_true', Bool.not_eq_false', Int.not_lt, Int.not_le] at hb) <;> (try simp (disch := omega) only [wrapI] at hb) <;> (try simp only [if_true] at hb) <;> (try (first | rw [if_pos c5] at hb | rw [if_neg c5] at hb)) <;> (try (exfalso; omega))) | fail)))
  rw [if_neg c3]
  by_cases c4 : 0 < ct ∧ nf ≤ ct + gap
  ·rw [if_pos c4]
   unfold dst
   by_cases c5 : np - cp < cp - np
   ·rw [if_pos c5]
    by_cases c6 : leap < cp - np
    ·rw [if_pos c6]
     refine fn_of (okx [] [42, 43]) mixed (A := A42) 3 Try.func42 rfl ?_
     (repeat' (first | exact rfl | ((conv => whnf); first | refine optS hm1 ?_ | refine optS hm2 ?_ | refine ⟨_, w1, ?_⟩ | refine ⟨_, w2, ?_⟩ | exact rfl | refine ⟨by kernel_rfl, ?_⟩ | exact ⟨rfl, rfl⟩ | refine go0 ?_ | (intro ep) | (refine ifB (fun hb => ?_) (fun hb => ?_) <;> (try simp only [if_true, decide_eq_true_eq, decide_eq_false_iff_not, beq_iff_eq, beq_eq_false_iff_ne, bne_iff_ne, bne_eq_false_iff_eq, ne_eq, not_false_eq_true, not_true_eq_false, Bool.not_eq_true, Bool.not_eq_true', Bool.not_eq_false', Int.not_lt, Int.not_le] at hb) <;> (try simp (disch := omega) only [wrapI] at hb) <;> (try simp only [if_true] at hb) <;> (try (first | rw [if_pos c5] at hb | rw [if_neg c5] at hb)) <;> (try (exfalso; omega))) | fail)))
    ·rw [if_neg c6]
     refine fn_of (okx [] [42, 43]) mixed (A := A42) 3 Try.func42 rfl ?_
     (repeat' (first | exact rfl | ((conv => whnf); first | refine optS hm1 ?_ | refine optS hm2 ?_ | refine ⟨_, w1, ?_⟩ | refine ⟨_, w2, ?_⟩ | exact rfl | exact ⟨rfl, rfl⟩ | refine go1 ?_ | (intro ep) | (refine ifB (fun hb => ?_) (fun hb => ?_) <;> (try simp only [if_true, decide_eq_true_eq, decide_eq_false_iff_not, beq_iff_eq, beq_eq_false_iff_ne, bne_iff_ne, bne_eq_false_iff_eq, ne_eq, not_false_eq_true, not_true_eq_false, Bool.not_eq_true, Bool.not_eq_true', Bool.not_eq_false', Int.not_lt, Int.not_le] at hb) <;> (try simp (disch := omega) only [wrapI] at hb) <;> (try simp only [if_true] at hb) <;> (try (first | rw [if_pos c5] at hb | rw [if_neg c5] at hb)) <;> (try (exfalso; omega))) | fail)))
     all_goals (refine ⟨congrArg (fun z => AV.tup [.int .i64 z, .bool true]) (?_ : _ = cp - np), rfl⟩; simp (disch := omega) only [wrapI]; simp only [if_true]; exact if_pos c5)
   ·rw [if_neg c5]
    by_cases c6 : leap < np - cp
    ·rw [if_pos c6]
     refine fn_of (okx [] [42, 43]) mixed (A := A42) 3 Try.func42 rfl ?_
     (repeat' (first | exact rfl | ((conv => whnf); first | refine optS hm1 ?_ | refine optS hm2 ?_ | refine ⟨_, w1, ?_⟩ | refine ⟨_, w2, ?_⟩ | exact rfl | refine ⟨by kernel_rfl, ?_⟩ | exact ⟨rfl, rfl⟩ | refine go0 ?_ | (intro ep) | (refine ifB (fun hb => ?_) (fun hb => ?_) <;> (try simp only [if_true, decide_eq_true_eq, decide_eq_false_iff_not, beq_iff_eq, beq_eq_false_iff_ne, bne_iff_ne, bne_eq_false_iff_eq, ne_eq, not_false_eq_true, not_true_eq_false, Bool.not_eq_true, Bool.not_eq_true', Bool.not_eq_false', Int.not_lt, Int.not_le] at hb) <;> (try simp (disch := omega) only [wrapI] at hb) <;> (try simp only [if_true] at hb) <;> (try (first | rw [if_pos c5] at hb | rw [if_neg c5] at hb)) <;> (try (exfalso; omega))) | fail)))
    ·rw [if_neg c6]
     refine fn_of (okx [] [42, 43]) mixed (A := A42) 3 Try.func42 rfl ?_
     (repeat' (first | exact rfl | ((conv => whnf); first | refine optS hm1 ?_ | refine optS hm2 ?_ | refine ⟨_, w1, ?_⟩ | refine ⟨_, w2, ?_⟩ | exact rfl | exact ⟨rfl, rfl⟩ | refine go1 ?_ | (intro ep) | (refine ifB (fun hb => ?_) (fun hb => ?_) <;> (try simp only [if_true, decide_eq_true_eq, decide_eq_false_iff_not, beq_iff_eq, beq_eq_false_iff_ne, bne_iff_ne, bne_eq_false_iff_eq, ne_eq, not_false_eq_true, not_true_eq_false, Bool.not_eq_true, Bool.not_eq_true', Bool.not_eq_false', Int.not_lt, Int.not_le] at hb) <;> (try simp (disch := omega) only [wrapI] at hb) <;> (try simp only [if_true] at hb) <;> (try (first | rw [if_pos c5] at hb | rw [if_neg c5] at hb)) <;> (try (exfalso; omega))) | fail)))
     all_goals (refine ⟨congrArg (fun z => AV.tup [.int .i64 z, .bool true]) (?_ : _ = np - cp), rfl⟩; simp (disch := omega) only [wrapI]; simp only [if_true]; exact if_neg c5)
  ·rw [if_neg c4]
   refine fn_of (okx [] [42, 43]) mixed (A := A42) 3 Try.func42 rfl ?_
   (repeat' (first | exact rfl | ((conv => whnf); first | refine optS hm1 ?_ | refine optS hm2 ?_ | refine ⟨_, w1, ?_⟩ | refine ⟨_, w2, ?_⟩ | exact rfl | refine ⟨by kernel_rfl, ?_⟩ | exact ⟨rfl, rfl⟩ | refine go0 ?_ | (intro ep) | (refine ifB (fun hb => ?_) (fun hb => ?_) <;> (try simp only [if_true, decide_eq_true_eq, decide_eq_false_iff_not, beq_iff_eq, beq_eq_false_iff_ne, bne_iff_ne, bne_eq_false_iff_eq, ne_eq, not_false_eq_true, not_true_eq_false, Bool.not_eq_true, Bool.not_eq_true', Bool.not_eq_false', Int.not_lt, Int.not_le] at hb) <;> (try simp (disch := omega) only [wrapI] at hb) <;> (try simp only [if_true] at hb) <;> (try (first | rw [if_pos c5] at hb | rw [if_neg c5] at hb)) <;> (try (exfalso; omega))) | fail)))
 ·simp only [St.get, St.set] at hb ⊢
  obtain rfl := hk
  by_cases c3 : 0 < dt ∧ de = ne
  ·rw [if_pos c3]
   refine fn_of (okx [] [42, 43]) mixed (A := A42) 3 Try.func42 rfl ?_
   (repeat' (first | exact rfl | ((conv => whnf); first | refine optS hm1 ?_ | refine optS hm2 ?_ | refine ⟨_, w1, ?_⟩ | refine ⟨_, w2, ?_⟩ | exact rfl | refine ⟨by kernel_rfl, ?_⟩ | exact ⟨rfl, rfl⟩ | refine go0 ?_ | (intro ep) | (refine ifB (fun hb => ?_) (fun hb => ?_) <;> (try simp only [if_true, decide_eq_true_eq, decide_eq_false_iff_not, beq_iff_eq, beq_eq_false_iff_ne, bne_iff_ne, bne_eq_false_iff_eq, ne_eq, not_false_eq_true, not_true_eq_false, Bool.not_eq_true, Bool.not_eq_true', Bool.not_eq_false', Int.not_lt, Int.not_le] at hb) <;> (try simp (disch := omega) only [wrapI] at hb) <;> (try simp only [if_true] at hb) <;> (try (first | rw [if_pos c5] at hb | rw [if_neg c5] at hb)) <;> (try (exfalso; omega))) | fail)))
  rw [if_neg c3]
  by_cases c4 : 0 < dt ∧ nf ≤ dt + gap
  ·rw [if_pos c4]
   unfold dst
   by_cases c5 : np - dp < dp - np
   ·rw [if_pos c5]
    by_cases c6 : leap < dp - np
    ·rw [if_pos c6]
     refine fn_of (okx [] [42, 43]) mixed (A := A42) 3 Try.func42 rfl ?_
     (repeat' (first | exact rfl | ((conv => whnf); first | refine optS hm1 ?_ | refine optS hm2 ?_ | refine ⟨_, w1, ?_⟩ | refine ⟨_, w2, ?_⟩ | exact rfl | refine ⟨by kernel_rfl, ?_⟩ | exact ⟨rfl, rfl⟩ | refine go0 ?_ | (intro ep) | (refine ifB (fun hb => ?_) (fun hb => ?_) <;> (try simp only [if_true, decide_eq_true_eq, decide_eq_false_iff_not, beq_iff_eq, beq_eq_false_iff_ne, bne_iff_ne, bne_eq_false_iff_eq, ne_eq, not_false_eq_true, not_true_eq_false, Bool.not_eq_true, Bool.not_eq_true', Bool.not_eq_false', Int.not_lt, Int.not_le] at hb) <;> (try simp (disch := omega) only [wrapI] at hb) <;> (try simp only [if_true] at hb) <;> (try (first | rw [if_pos c5] at hb | rw [if_neg c5] at hb)) <;> (try (exfalso; omega))) | fail)))
    ·rw [if_neg c6]
     refine fn_of (okx [] [42, 43]) mixed (A := A42) 3 Try.func42 rfl ?_
     (repeat' (first | exact rfl | ((conv => whnf); first | refine optS hm1 ?_ | refine optS hm2 ?_ | refine ⟨_, w1, ?_⟩ | refine ⟨_, w2, ?_⟩ | exact rfl | exact ⟨rfl, rfl⟩ | refine go1 ?_ | (intro ep) | (refine ifB (fun hb => ?_) (fun hb => ?_) <;> (try simp only [if_true, decide_eq_true_eq, decide_eq_false_iff_not, beq_iff_eq, beq_eq_false_iff_ne, bne_iff_ne, bne_eq_false_iff_eq, ne_eq, not_false_eq_true, not_true_eq_false, Bool.not_eq_true, Bool.not_eq_true', Bool.not_eq_false', Int.not_lt, Int.not_le] at hb) <;> (try simp (disch := omega) only [wrapI] at hb) <;> (try simp only [if_true] at hb) <;> (try (first | rw [if_pos c5] at hb | rw [if_neg c5] at hb)) <;> (try (exfalso; omega))) | fail)))
     all_goals (refine ⟨congrArg (fun z => AV.tup [.int .i64 z, .bool true]) (?_ : _ = dp - np), rfl⟩; simp (disch := omega) only [wrapI]; simp only [if_true]; exact if_pos c5)
   ·rw [if_neg c5]
    by_cases c6 : leap < np - dp
    ·rw [if_pos c6]
     refine fn_of (okx [] [42, 43]) mixed (A := A42) 3 Try.func42 rfl ?_
     (repeat' (first | exact rfl | ((conv => whnf); first | refine optS hm1 ?_ | refine optS hm2 ?_ | refine ⟨_, w1, ?_⟩ | refine ⟨_, w2, ?_⟩ | exact rfl | refine ⟨by kernel_rfl, ?_⟩ | exact ⟨rfl, rfl⟩ | refine go0 ?_ | (intro ep) | (refine ifB (fun hb => ?_) (fun hb => ?_) <;> (try simp only [if_true, decide_eq_true_eq, decide_eq_false_iff_not, beq_iff_eq, beq_eq_false_iff_ne, bne_iff_ne, bne_eq_false_iff_eq, ne_eq, not_false_eq_true, not_true_eq_false, Bool.not_eq_true, Bool.not_eq_true', Bool.not_eq_false', Int.not_lt, Int.not_le] at hb) <;> (try simp (disch := omega) only [wrapI] at hb) <;> (try simp only [if_true] at hb) <;> (try (first | rw [if_pos c5] at hb | rw [if_neg c5] at hb)) <;> (try (exfalso; omega))) | fail)))
    ·rw [if_neg c6]
     refine fn_of (okx [] [42, 43]) mixed (A := A42) 3 Try.func42 rfl ?_
     (repeat' (first | exact rfl | ((conv => whnf); first | refine optS hm1 ?_ | refine optS hm2 ?_ | refine ⟨_, w1, ?_⟩ | refine ⟨_, w2, ?_⟩ | exact rfl | exact ⟨rfl, rfl⟩ | refine go1 ?_ | (intro ep) | (refine ifB (fun hb => ?_) (fun hb => ?_) <;> (try simp only [if_true, decide_eq_true_eq, decide_eq_false_iff_not, beq_iff_eq, beq_eq_false_iff_ne, bne_iff_ne, bne_eq_false_iff_eq, ne_eq, not_false_eq_true, not_true_eq_false, Bool.not_eq_true, Bool.not_eq_true', Bool.not_eq_false', Int.not_lt, Int.not_le] at hb) <;> (try simp (disch := omega) only [wrapI] at hb) <;> (try simp only [if_true] at hb) <;> (try (first | rw [if_pos c5] at hb | rw [if_neg c5] at hb)) <;> (try (exfalso; omega))) | fail)))
     all_goals (refine ⟨congrArg (fun z => AV.tup [.int .i64 z, .bool true]) (?_ : _ = np - dp), rfl⟩; simp (disch := omega) only [wrapI]; simp only [if_true]; exact if_neg c5)
  ·rw [if_neg c4]
   refine fn_of (okx [] [42, 43]) mixed (A := A42) 3 Try.func42 rfl ?_
   (repeat' (first | exact rfl | ((conv => whnf); first | refine optS hm1 ?_ | refine optS hm2 ?_ | refine ⟨_, w1, ?_⟩ | refine ⟨_, w2, ?_⟩ | exact rfl | refine ⟨by kernel_rfl, ?_⟩ | exact ⟨rfl, rfl⟩ | refine go0 ?_ | (intro ep) | (refine ifB (fun hb => ?_) (fun hb => ?_) <;> (try simp only [if_true, decide_eq_true_eq, decide_eq_false_iff_not, beq_iff_eq, beq_eq_false_iff_ne, bne_iff_ne, bne_eq_false_iff_eq, ne_eq, not_false_eq_true, not_true_eq_false, Bool.not_eq_true, Bool.not_eq_true', Bool.not_eq_false', Int.not_lt, Int.not_le] at hb) <;> (try simp (disch := omega) only [wrapI] at hb) <;> (try simp only [if_true] at hb) <;> (try (first | rw [if_pos c5] at hb | rw [if_neg c5] at hb)) <;> (try (exfalso; omega))) | fail)))
 ·simp only [St.get, St.set] at hb ⊢
  obtain rfl := hk
  by_cases c3 : 0 < et ∧ ee = ne
  ·rw [if_pos c3]
   refine fn_of (okx [] [42, 43]) mixed (A := A42) 3 Try.func42 rfl ?_
   (repeat' (first | exact rfl | ((conv => whnf); first | refine optS hm1 ?_ | refine optS hm2 ?_ | refine ⟨_, w1, ?_⟩ | refine ⟨_, w2, ?_⟩ | exact rfl | refine ⟨by kernel_rfl, ?_⟩ | exact ⟨rfl, rfl⟩ | refine go0 ?_ | (intro ep) | (refine ifB (fun hb => ?_) (fun hb => ?_) <;> (try simp only [if_true, decide_eq_true_eq, decide_eq_false_iff_not, beq_iff_eq, beq_eq_false_iff_ne, bne_iff_ne, bne_eq_false_iff_eq, ne_eq, not_false_eq_true, not_true_eq_false, Bool.not_eq_true, Bool.not_eq_true', Bool.not_eq_false', Int.not_lt, Int.not_le] at hb) <;> (try simp (disch := omega) only [wrapI] at hb) <;> (try simp only [if_true] at hb) <;> (try (first | rw [if_pos c5] at hb | rw [if_neg c5] at hb)) <;> (try (exfalso; omega))) | fail)))
  rw [if_neg c3]
  by_cases c4 : 0 < et ∧ nf ≤ et + gap
  ·rw [if_pos c4]
   unfold dst
   by_cases c5 : np - pe < pe - np
   ·rw [if_pos c5]
    by_cases c6 : leap < pe - np
    ·rw [if_pos c6]
     refine fn_of (okx [] [42, 43]) mixed (A := A42) 3 Try.func42 rfl ?_
     (repeat' (first | exact rfl | ((conv => whnf); first | refine optS hm1 ?_ | refine optS hm2 ?_ | refine ⟨_, w1, ?_⟩ | refine ⟨_, w2, ?_⟩ | exact rfl | refine ⟨by kernel_rfl, ?_⟩ | exact ⟨rfl, rfl⟩ | refine go0 ?_ | (intro ep) | (refine ifB (fun hb => ?_) (fun hb => ?_) <;> (try simp only [if_true, decide_eq_true_eq, decide_eq_false_iff_not, beq_iff_eq, beq_eq_false_iff_ne, bne_iff_ne, bne_eq_false_iff_eq, ne_eq, not_false_eq_true, not_true_eq_false, Bool.not_eq_true, Bool.not_eq_true', Bool.not_eq_false', Int.not_lt, Int.not_le] at hb) <;> (try simp (disch := omega) only [wrapI] at hb) <;> (try simp only [if_true] at hb) <;> (try (first | rw [if_pos c5] at hb | rw [if_neg c5] at hb)) <;> (try (exfalso; omega))) | fail)))
    ·rw [if_neg c6]
     refine fn_of (okx [] [42, 43]) mixed (A := A42) 3 Try.func42 rfl ?_
     (repeat' (first | exact rfl | ((conv => whnf); first | refine optS hm1 ?_ | refine optS hm2 ?_ | refine ⟨_, w1, ?_⟩ | refine ⟨_, w2, ?_⟩ | exact rfl | exact ⟨rfl, rfl⟩ | refine go1 ?_ | (intro ep) | (refine ifB (fun hb => ?_) (fun hb => ?_) <;> (try simp only [if_true, decide_eq_true_eq, decide_eq_false_iff_not, beq_iff_eq, beq_eq_false_iff_ne, bne_iff_ne, bne_eq_false_iff_eq, ne_eq, not_false_eq_true, not_true_eq_false, Bool.not_eq_true, Bool.not_eq_true', Bool.not_eq_false', Int.not_lt, Int.not_le] at hb) <;> (try simp (disch := omega) only [wrapI] at hb) <;> (try simp only [if_true] at hb) <;> (try (first | rw [if_pos c5] at hb | rw [if_neg c5] at hb)) <;> (try (exfalso; omega))) | fail)))
     all_goals (refine ⟨congrArg (fun z => AV.tup [.int .i64 z, .bool true]) (?_ : _ = pe - np), rfl⟩; simp (disch := omega) only [wrapI]; simp only [if_true]; exact if_pos c5)
   ·rw [if_neg c5]
    by_cases c6 : leap < np - pe
    ·rw [if_pos c6]
     refine fn_of (okx [] [42, 43]) mixed (A := A42) 3 Try.func42 rfl ?_
     (repeat' (first | exact rfl | ((conv => whnf); first | refine optS hm1 ?_ | refine optS hm2 ?_ | refine ⟨_, w1, ?_⟩ | refine ⟨_, w2, ?_⟩ | exact rfl | refine ⟨by kernel_rfl, ?_⟩ | exact ⟨rfl, rfl⟩ | refine go0 ?_ | (intro ep) | (refine ifB (fun hb => ?_) (fun hb => ?_) <;> (try simp only [if_true, decide_eq_true_eq, decide_eq_false_iff_not, beq_iff_eq, beq_eq_false_iff_ne, bne_iff_ne, bne_eq_false_iff_eq, ne_eq, not_false_eq_true, not_true_eq_false, Bool.not_eq_true, Bool.not_eq_true', Bool.not_eq_false', Int.not_lt, Int.not_le] at hb) <;> (try simp (disch := omega) only [wrapI] at hb) <;> (try simp only [if_true] at hb) <;> (try (first | rw [if_pos c5] at hb | rw [if_neg c5] at hb)) <;> (try (exfalso; omega))) | fail)))
    ·rw [if_neg c6]
     refine fn_of (okx [] [42, 43]) mixed (A := A42) 3 Try.func42 rfl ?_
     (repeat' (first | exact rfl | ((conv => whnf); first | refine optS hm1 ?_ | refine optS hm2 ?_ | refine ⟨_, w1, ?_⟩ | refine ⟨_, w2, ?_⟩ | exact rfl | exact ⟨rfl, rfl⟩ | refine go1 ?_ | (intro ep) | (refine ifB (fun hb => ?_) (fun hb => ?_) <;> (try simp only [if_true, decide_eq_true_eq, decide_eq_false_iff_not, beq_iff_eq, beq_eq_false_iff_ne, bne_iff_ne, bne_eq_false_iff_eq, ne_eq, not_false_eq_true, not_true_eq_false, Bool.not_eq_true, Bool.not_eq_true', Bool.not_eq_false', Int.not_lt, Int.not_le] at hb) <;> (try simp (disch := omega) only [wrapI] at hb) <;> (try simp only [if_true] at hb) <;> (try (first | rw [if_pos c5] at hb | rw [if_neg c5] at hb)) <;> (try (exfalso; omega))) | fail)))
     all_goals (refine ⟨congrArg (fun z => AV.tup [.int .i64 z, .bool true]) (?_ : _ = np - pe), rfl⟩; simp (disch := omega) only [wrapI]; simp only [if_true]; exact if_neg c5)
  ·rw [if_neg c4]
   refine fn_of (okx [] [42, 43]) mixed (A := A42) 3 Try.func42 rfl ?_
   (repeat' (first | exact rfl | ((conv => whnf); first | refine optS hm1 ?_ | refine optS hm2 ?_ | refine ⟨_, w1, ?_⟩ | refine ⟨_, w2, ?_⟩ | exact rfl | refine ⟨by kernel_rfl, ?_⟩ | exact ⟨rfl, rfl⟩ | refine go0 ?_ | (intro ep) | (refine ifB (fun hb => ?_) (fun hb => ?_) <;> (try simp only [if_true, decide_eq_true_eq, decide_eq_false_iff_not, beq_iff_eq, beq_eq_false_iff_ne, bne_iff_ne, bne_eq_false_iff_eq, ne_eq, not_false_eq_true, not_true_eq_false, Bool.not_eq_true, Bool.not_eq_true', Bool.not_eq_false', Int.not_lt, Int.not_le] at hb) <;> (try simp (disch := omega) only [wrapI] at hb) <;> (try simp only [if_true] at hb) <;> (try (first | rw [if_pos c5] at hb | rw [if_neg c5] at hb)) <;> (try (exfalso; omega))) | fail)))
end Go.Ab.V
