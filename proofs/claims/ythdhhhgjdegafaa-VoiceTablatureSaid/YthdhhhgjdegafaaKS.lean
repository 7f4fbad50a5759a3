/-
  What is proved here serves the law's text: each part says its own claim and its conditions. No condition is left open.
-/
import Derived.Test.YthdhhhgjdegafaaKR
import Derived.Test.YthdhhhgjdegafaaKO
set_option linter.unusedSimpArgs false
set_option linter.unusedVariables false

namespace Go.Ab.V
open Go.Proofs
def fgN (g f : Int) (y : Nt) : Nt := if 0 < y.t ∧ y.t + g < f then nt0 else y
def fgt (g f : Int) (v : St) : St := ⟨fgN g f v.a, fgN g f v.b, fgN g f v.c, fgN g f v.d, fgN g f v.e⟩
def frg (x : Lm) (n : List Nt) (v : St) (i : Nat) : St := match (segR 0 n)[i]? with
 | none => st0
 | some q => fgt x.gap (frN n q.1) v
abbrev srR (x : Lm) (n : List Nt) (X Y : AV) : List AV := [intsA x.lo, intsA x.hi, .int .i64 x.leap, .int .i64 x.gap, .int .i64 x.cross, .lslc 1 ((segR 0 n).map (segA n)) 0 (segR 0 n).length false, X, Y]
def fgK (g f : Int) (v : St) : Nat → St
 | 0 => v
 | 1 => ⟨fgN g f v.a, v.b, v.c, v.d, v.e⟩
 | 2 => ⟨fgN g f v.a, fgN g f v.b, v.c, v.d, v.e⟩
 | 3 => ⟨fgN g f v.a, fgN g f v.b, fgN g f v.c, v.d, v.e⟩
 | 4 => ⟨fgN g f v.a, fgN g f v.b, fgN g f v.c, fgN g f v.d, v.e⟩
 | _ => fgt g f v
def A78 : Ann := fun r => match r with
 | 0 => { slots := [(0, 0), (1, 1)] }
 | _ => {}
set_option maxHeartbeats 16000000 in
set_option maxRecDepth 100000 in
theorem forget78 (x : Lm) (n : List Nt) (X Y : AV) (v : St) (i : Nat) (hN : NtsOk n) (hi : i ≤ (segR 0 n).length) (hg : 0 ≤ x.gap ∧ x.gap ≤ 262144) (hv : v.ok) (es : Nat) (D : List AObj) :
  ACalls C.P 78 [.optr (.d 0) es 8 0 0, .agg v.row, .int .i64 (i : Int)] ⟨[], .vec es [srR x n X Y] :: D⟩ fun r h' => r = .agg (frg x n v i).row ∧ h'.dy = .vec es [srR x n X Y] :: D := by
 have hlen := hN.len
 have hch : Chain n.length 0 (segR 0 n) := by have := chain_segR n.length 0 n (Nat.le_refl _); rwa [Nat.zero_add] at this
 unfold frg
 generalize hS : segR 0 n = S at hi hch
 by_cases c0 : i = S.length
 ·rw [List.getElem?_eq_none (by omega)]
  subst c0
  refine fn_of ok mixed (A := A78) 2 Try.func78 rfl ?_
  unfold srR
  rw [hS]
  (repeat' (first | exact rfl | ((conv => whnf); first | refine optS hm1 ?_ | refine optS hm2 ?_ | exact rfl | exact ⟨rfl, rfl⟩ | refine go1 ?_ | (intro ep) | (refine ifB (fun hb => ?_) (fun hb => ?_) <;> (try simp only [qs] at hb) <;> (try simp (disch := omega) only [wrapI] at hb) <;> (try (exfalso; omega))) | fail)))
  all_goals trace_state
 ·have h1 : i < S.length := by omega
  have hmem : S[i] ∈ S := List.getElem_mem h1
  have hm1 := mapR (f := segA n) h1
  rw [List.getElem?_eq_getElem h1]
  have hseg : ∀ q ∈ S, SegOk n q.1 q.2 := fun q hq => segR_ok n n.length 0 (by omega) (fun h => by omega) q (by rw [List.drop_zero, hS]; exact hq)
  have hsg := hseg _ hmem
  generalize S[i] = q at hm1 hsg
  obtain ⟨a, c⟩ := q
  have hcp : 0 < c := hsg.pos
  have ha : a < n.length := by have := hsg.pos; have := hsg.le; simp only at *; omega
  simp only
  rw [frN_at ha]
  have hm2 := mapRo (f := ntR) (l := n) (o := a) (i := 0) ha
  have hn0 : n[a + 0] = n[a] := rfl
  rw [hn0] at hm2
  generalize n[a] = nn at hm2
  obtain ⟨ne, nc, np, nf, nt⟩ := nn
  replace hm2 : (n.map ntR)[a + ((0 : Nat) : Int).toNat]? = some [.int .i64 ne, .int .i64 nc, .int .i64 np, .int .i64 nf, .int .i64 nt] := hm2
  replace hm1 : (S.map (segA n))[0 + (i : Int).toNat]? = some [ntS n a c] := hm1
  simp only
  have hb0 := hv 0
  have hb1 := hv 1
  have hb2 := hv 2
  have hb3 := hv 3
  have hb4 := hv 4
  simp only [St.get, ntFit] at hb0 hb1 hb2 hb3 hb4
  refine fn_of ok mixed (A := A78) 2 Try.func78 rfl ?_
  unfold srR
  rw [hS]
  (conv => whnf)
  intro e0
  (conv => whnf)
  intro e1
  (repeat' (first | exact rfl | ((conv => whnf); first | refine optS hm1 ?_ | refine optS hm2 ?_ | exact rfl | exact ⟨rfl, rfl⟩ | refine go1 ?_ | (intro ep) | (refine ifB (fun hb => ?_) (fun hb => ?_) <;> (try simp only [qs] at hb) <;> (try simp (disch := omega) only [wrapI] at hb) <;> (try (exfalso; omega))) | fail)))
  all_goals (conv => whnf)
  refine loopX ok mixed (A := A78) [0, 2, 4, 6, 16] [0, 1] (S := { k : Nat // k ≤ 5 })
   (fr := fun z => frOf 0 52 [(0, .optr (.d 0) es 8 0 0), (2, .int .i64 (i : Int)), (4, .optr (.s 0) e0 25 0 0), (6, .optr (.s 1) e1 25 0 0), (16, .int .i64 (z.1 : Int))])
   (h := fun z => ⟨[.vec e0 [(fgK x.gap nf v z.1).row], .vec e1 [st0.row]], .vec es [[intsA x.lo, intsA x.hi, .int .i64 x.leap, .int .i64 x.gap, .int .i64 x.cross, .lslc 1 (S.map (segA n)) 0 S.length false, X, Y]] :: D⟩) (μ := fun z => 5 - z.1) ⟨0, by omega⟩ ?_ ?_
   [4, 6] [0, 1] (S' := Unit) (X := fun _ => 0) (frX := fun _ => frOf 0 52 [(4, .optr (.s 0) e0 25 0 0), (6, .optr (.s 1) e1 25 0 0)])
   (hX := fun _ => ⟨[.vec e0 [(fgt x.gap nf v).row], .vec e1 [st0.row]], .vec es [[intsA x.lo, intsA x.hi, .int .i64 x.leap, .int .i64 x.gap, .int .i64 x.cross, .lslc 1 (S.map (segA n)) 0 S.length false, X, Y]] :: D⟩)
   (R := fun _ _ => False) ?_ (fun _ _ h => h.elim) ?_
  ·exact rfl
  ·exact rfl
  ·rintro ⟨k, hk⟩
   obtain rfl | rfl | rfl | rfl | rfl | rfl : k = 0 ∨ k = 1 ∨ k = 2 ∨ k = 3 ∨ k = 4 ∨ k = 5 := by omega
   ·show aexR _ _ _ (frOf 0 52 [(0, .optr (.d 0) es 8 0 0), (2, .int .i64 (i : Int)), (4, .optr (.s 0) e0 25 0 0), (6, .optr (.s 1) e1 25 0 0), (16, .int .i64 0)]) ⟨[.vec e0 [[.int .i64 v.a.e, .int .i64 v.a.c, .int .i64 v.a.p, .int .i64 v.a.f, .int .i64 v.a.t, .int .i64 v.b.e, .int .i64 v.b.c, .int .i64 v.b.p, .int .i64 v.b.f, .int .i64 v.b.t, .int .i64 v.c.e, .int .i64 v.c.c, .int .i64 v.c.p, .int .i64 v.c.f, .int .i64 v.c.t, .int .i64 v.d.e, .int .i64 v.d.c, .int .i64 v.d.p, .int .i64 v.d.f, .int .i64 v.d.t, .int .i64 v.e.e, .int .i64 v.e.c, .int .i64 v.e.p, .int .i64 v.e.f, .int .i64 v.e.t]], .vec e1 [st0.row]], .vec es [[intsA x.lo, intsA x.hi, .int .i64 x.leap, .int .i64 x.gap, .int .i64 x.cross, .lslc 1 (S.map (segA n)) 0 S.length false, X, Y]] :: D⟩ _
    by_cases c0 : 0 < v.a.t ∧ v.a.t + x.gap < nf
    ·have hh : fgN x.gap nf v.a = nt0 := if_pos c0
     (repeat' (first | exact rfl | ((conv => whnf); first | refine optS hm1 ?_ | refine optS hm2 ?_ | exact rfl | exact ⟨rfl, rfl⟩ | refine go1 ?_ | (intro ep) | (refine ifB (fun hb => ?_) (fun hb => ?_) <;> (try simp only [qs] at hb) <;> (try simp (disch := omega) only [wrapI] at hb) <;> (try (exfalso; omega))) | fail)))
     all_goals (conv => whnf)
     refine back_of ⟨1, by omega⟩ ⟨by (first | exact rfl | (simp (disch := omega) only [wrapI]; exact rfl)), ?_, by simp only; omega⟩
     simp only [fgK, fgt, hh]
     rfl
    ·have hh : fgN x.gap nf v.a = v.a := if_neg c0
     (repeat' (first | exact rfl | ((conv => whnf); first | refine optS hm1 ?_ | refine optS hm2 ?_ | exact rfl | exact ⟨rfl, rfl⟩ | refine go1 ?_ | (intro ep) | (refine ifB (fun hb => ?_) (fun hb => ?_) <;> (try simp only [qs] at hb) <;> (try simp (disch := omega) only [wrapI] at hb) <;> (try (exfalso; omega))) | fail)))
     all_goals (conv => whnf)
     all_goals refine back_of ⟨1, by omega⟩ ⟨by (first | exact rfl | (simp (disch := omega) only [wrapI]; exact rfl)), ?_, by simp only; omega⟩
     all_goals simp only [fgK, fgt, hh]
     all_goals rfl
   ·show aexR _ _ _ (frOf 0 52 [(0, .optr (.d 0) es 8 0 0), (2, .int .i64 (i : Int)), (4, .optr (.s 0) e0 25 0 0), (6, .optr (.s 1) e1 25 0 0), (16, .int .i64 1)]) ⟨[.vec e0 [[.int .i64 (fgN x.gap nf v.a).e, .int .i64 (fgN x.gap nf v.a).c, .int .i64 (fgN x.gap nf v.a).p, .int .i64 (fgN x.gap nf v.a).f, .int .i64 (fgN x.gap nf v.a).t, .int .i64 v.b.e, .int .i64 v.b.c, .int .i64 v.b.p, .int .i64 v.b.f, .int .i64 v.b.t, .int .i64 v.c.e, .int .i64 v.c.c, .int .i64 v.c.p, .int .i64 v.c.f, .int .i64 v.c.t, .int .i64 v.d.e, .int .i64 v.d.c, .int .i64 v.d.p, .int .i64 v.d.f, .int .i64 v.d.t, .int .i64 v.e.e, .int .i64 v.e.c, .int .i64 v.e.p, .int .i64 v.e.f, .int .i64 v.e.t]], .vec e1 [st0.row]], .vec es [[intsA x.lo, intsA x.hi, .int .i64 x.leap, .int .i64 x.gap, .int .i64 x.cross, .lslc 1 (S.map (segA n)) 0 S.length false, X, Y]] :: D⟩ _
    by_cases c1 : 0 < v.b.t ∧ v.b.t + x.gap < nf
    ·have hh : fgN x.gap nf v.b = nt0 := if_pos c1
     (repeat' (first | exact rfl | ((conv => whnf); first | refine optS hm1 ?_ | refine optS hm2 ?_ | exact rfl | exact ⟨rfl, rfl⟩ | refine go1 ?_ | (intro ep) | (refine ifB (fun hb => ?_) (fun hb => ?_) <;> (try simp only [qs] at hb) <;> (try simp (disch := omega) only [wrapI] at hb) <;> (try (exfalso; omega))) | fail)))
     all_goals (conv => whnf)
     refine back_of ⟨2, by omega⟩ ⟨by (first | exact rfl | (simp (disch := omega) only [wrapI]; exact rfl)), ?_, by simp only; omega⟩
     simp only [fgK, fgt, hh]
     rfl
    ·have hh : fgN x.gap nf v.b = v.b := if_neg c1
     (repeat' (first | exact rfl | ((conv => whnf); first | refine optS hm1 ?_ | refine optS hm2 ?_ | exact rfl | exact ⟨rfl, rfl⟩ | refine go1 ?_ | (intro ep) | (refine ifB (fun hb => ?_) (fun hb => ?_) <;> (try simp only [qs] at hb) <;> (try simp (disch := omega) only [wrapI] at hb) <;> (try (exfalso; omega))) | fail)))
     all_goals (conv => whnf)
     all_goals refine back_of ⟨2, by omega⟩ ⟨by (first | exact rfl | (simp (disch := omega) only [wrapI]; exact rfl)), ?_, by simp only; omega⟩
     all_goals simp only [fgK, fgt, hh]
     all_goals rfl
   ·show aexR _ _ _ (frOf 0 52 [(0, .optr (.d 0) es 8 0 0), (2, .int .i64 (i : Int)), (4, .optr (.s 0) e0 25 0 0), (6, .optr (.s 1) e1 25 0 0), (16, .int .i64 2)]) ⟨[.vec e0 [[.int .i64 (fgN x.gap nf v.a).e, .int .i64 (fgN x.gap nf v.a).c, .int .i64 (fgN x.gap nf v.a).p, .int .i64 (fgN x.gap nf v.a).f, .int .i64 (fgN x.gap nf v.a).t, .int .i64 (fgN x.gap nf v.b).e, .int .i64 (fgN x.gap nf v.b).c, .int .i64 (fgN x.gap nf v.b).p, .int .i64 (fgN x.gap nf v.b).f, .int .i64 (fgN x.gap nf v.b).t, .int .i64 v.c.e, .int .i64 v.c.c, .int .i64 v.c.p, .int .i64 v.c.f, .int .i64 v.c.t, .int .i64 v.d.e, .int .i64 v.d.c, .int .i64 v.d.p, .int .i64 v.d.f, .int .i64 v.d.t, .int .i64 v.e.e, .int .i64 v.e.c, .int .i64 v.e.p, .int .i64 v.e.f, .int .i64 v.e.t]], .vec e1 [st0.row]], .vec es [[intsA x.lo, intsA x.hi, .int .i64 x.leap, .int .i64 x.gap, .int .i64 x.cross, .lslc 1 (S.map (segA n)) 0 S.length false, X, Y]] :: D⟩ _
    by_cases c2 : 0 < v.c.t ∧ v.c.t + x.gap < nf
    ·have hh : fgN x.gap nf v.c = nt0 := if_pos c2
     (repeat' (first | exact rfl | ((conv => whnf); first | refine optS hm1 ?_ | refine optS hm2 ?_ | exact rfl | exact ⟨rfl, rfl⟩ | refine go1 ?_ | (intro ep) | (refine ifB (fun hb => ?_) (fun hb => ?_) <;> (try simp only [qs] at hb) <;> (try simp (disch := omega) only [wrapI] at hb) <;> (try (exfalso; omega))) | fail)))
     all_goals (conv => whnf)
     refine back_of ⟨3, by omega⟩ ⟨by (first | exact rfl | (simp (disch := omega) only [wrapI]; exact rfl)), ?_, by simp only; omega⟩
     simp only [fgK, fgt, hh]
     rfl
    ·have hh : fgN x.gap nf v.c = v.c := if_neg c2
     (repeat' (first | exact rfl | ((conv => whnf); first | refine optS hm1 ?_ | refine optS hm2 ?_ | exact rfl | exact ⟨rfl, rfl⟩ | refine go1 ?_ | (intro ep) | (refine ifB (fun hb => ?_) (fun hb => ?_) <;> (try simp only [qs] at hb) <;> (try simp (disch := omega) only [wrapI] at hb) <;> (try (exfalso; omega))) | fail)))
     all_goals (conv => whnf)
     all_goals refine back_of ⟨3, by omega⟩ ⟨by (first | exact rfl | (simp (disch := omega) only [wrapI]; exact rfl)), ?_, by simp only; omega⟩
     all_goals simp only [fgK, fgt, hh]
     all_goals rfl
   ·show aexR _ _ _ (frOf 0 52 [(0, .optr (.d 0) es 8 0 0), (2, .int .i64 (i : Int)), (4, .optr (.s 0) e0 25 0 0), (6, .optr (.s 1) e1 25 0 0), (16, .int .i64 3)]) ⟨[.vec e0 [[.int .i64 (fgN x.gap nf v.a).e, .int .i64 (fgN x.gap nf v.a).c, .int .i64 (fgN x.gap nf v.a).p, .int .i64 (fgN x.gap nf v.a).f, .int .i64 (fgN x.gap nf v.a).t, .int .i64 (fgN x.gap nf v.b).e, .int .i64 (fgN x.gap nf v.b).c, .int .i64 (fgN x.gap nf v.b).p, .int .i64 (fgN x.gap nf v.b).f, .int .i64 (fgN x.gap nf v.b).t, .int .i64 (fgN x.gap nf v.c).e, .int .i64 (fgN x.gap nf v.c).c, .int .i64 (fgN x.gap nf v.c).p, .int .i64 (fgN x.gap nf v.c).f, .int .i64 (fgN x.gap nf v.c).t, .int .i64 v.d.e, .int .i64 v.d.c, .int .i64 v.d.p, .int .i64 v.d.f, .int .i64 v.d.t, .int .i64 v.e.e, .int .i64 v.e.c, .int .i64 v.e.p, .int .i64 v.e.f, .int .i64 v.e.t]], .vec e1 [st0.row]], .vec es [[intsA x.lo, intsA x.hi, .int .i64 x.leap, .int .i64 x.gap, .int .i64 x.cross, .lslc 1 (S.map (segA n)) 0 S.length false, X, Y]] :: D⟩ _
    by_cases c3 : 0 < v.d.t ∧ v.d.t + x.gap < nf
    ·have hh : fgN x.gap nf v.d = nt0 := if_pos c3
     (repeat' (first | exact rfl | ((conv => whnf); first | refine optS hm1 ?_ | refine optS hm2 ?_ | exact rfl | exact ⟨rfl, rfl⟩ | refine go1 ?_ | (intro ep) | (refine ifB (fun hb => ?_) (fun hb => ?_) <;> (try simp only [qs] at hb) <;> (try simp (disch := omega) only [wrapI] at hb) <;> (try (exfalso; omega))) | fail)))
     all_goals (conv => whnf)
     refine back_of ⟨4, by omega⟩ ⟨by (first | exact rfl | (simp (disch := omega) only [wrapI]; exact rfl)), ?_, by simp only; omega⟩
     simp only [fgK, fgt, hh]
     rfl
    ·have hh : fgN x.gap nf v.d = v.d := if_neg c3
     (repeat' (first | exact rfl | ((conv => whnf); first | refine optS hm1 ?_ | refine optS hm2 ?_ | exact rfl | exact ⟨rfl, rfl⟩ | refine go1 ?_ | (intro ep) | (refine ifB (fun hb => ?_) (fun hb => ?_) <;> (try simp only [qs] at hb) <;> (try simp (disch := omega) only [wrapI] at hb) <;> (try (exfalso; omega))) | fail)))
     all_goals (conv => whnf)
     all_goals refine back_of ⟨4, by omega⟩ ⟨by (first | exact rfl | (simp (disch := omega) only [wrapI]; exact rfl)), ?_, by simp only; omega⟩
     all_goals simp only [fgK, fgt, hh]
     all_goals rfl
   ·show aexR _ _ _ (frOf 0 52 [(0, .optr (.d 0) es 8 0 0), (2, .int .i64 (i : Int)), (4, .optr (.s 0) e0 25 0 0), (6, .optr (.s 1) e1 25 0 0), (16, .int .i64 4)]) ⟨[.vec e0 [[.int .i64 (fgN x.gap nf v.a).e, .int .i64 (fgN x.gap nf v.a).c, .int .i64 (fgN x.gap nf v.a).p, .int .i64 (fgN x.gap nf v.a).f, .int .i64 (fgN x.gap nf v.a).t, .int .i64 (fgN x.gap nf v.b).e, .int .i64 (fgN x.gap nf v.b).c, .int .i64 (fgN x.gap nf v.b).p, .int .i64 (fgN x.gap nf v.b).f, .int .i64 (fgN x.gap nf v.b).t, .int .i64 (fgN x.gap nf v.c).e, .int .i64 (fgN x.gap nf v.c).c, .int .i64 (fgN x.gap nf v.c).p, .int .i64 (fgN x.gap nf v.c).f, .int .i64 (fgN x.gap nf v.c).t, .int .i64 (fgN x.gap nf v.d).e, .int .i64 (fgN x.gap nf v.d).c, .int .i64 (fgN x.gap nf v.d).p, .int .i64 (fgN x.gap nf v.d).f, .int .i64 (fgN x.gap nf v.d).t, .int .i64 v.e.e, .int .i64 v.e.c, .int .i64 v.e.p, .int .i64 v.e.f, .int .i64 v.e.t]], .vec e1 [st0.row]], .vec es [[intsA x.lo, intsA x.hi, .int .i64 x.leap, .int .i64 x.gap, .int .i64 x.cross, .lslc 1 (S.map (segA n)) 0 S.length false, X, Y]] :: D⟩ _
    by_cases c4 : 0 < v.e.t ∧ v.e.t + x.gap < nf
    ·have hh : fgN x.gap nf v.e = nt0 := if_pos c4
     (repeat' (first | exact rfl | ((conv => whnf); first | refine optS hm1 ?_ | refine optS hm2 ?_ | exact rfl | exact ⟨rfl, rfl⟩ | refine go1 ?_ | (intro ep) | (refine ifB (fun hb => ?_) (fun hb => ?_) <;> (try simp only [qs] at hb) <;> (try simp (disch := omega) only [wrapI] at hb) <;> (try (exfalso; omega))) | fail)))
     all_goals (conv => whnf)
     refine back_of ⟨5, by omega⟩ ⟨by (first | exact rfl | (simp (disch := omega) only [wrapI]; exact rfl)), ?_, by simp only; omega⟩
     simp only [fgK, fgt, hh]
     rfl
    ·have hh : fgN x.gap nf v.e = v.e := if_neg c4
     (repeat' (first | exact rfl | ((conv => whnf); first | refine optS hm1 ?_ | refine optS hm2 ?_ | exact rfl | exact ⟨rfl, rfl⟩ | refine go1 ?_ | (intro ep) | (refine ifB (fun hb => ?_) (fun hb => ?_) <;> (try simp only [qs] at hb) <;> (try simp (disch := omega) only [wrapI] at hb) <;> (try (exfalso; omega))) | fail)))
     all_goals (conv => whnf)
     all_goals refine back_of ⟨5, by omega⟩ ⟨by (first | exact rfl | (simp (disch := omega) only [wrapI]; exact rfl)), ?_, by simp only; omega⟩
     all_goals simp only [fgK, fgt, hh]
     all_goals rfl
   ·(repeat' (first | exact rfl | ((conv => whnf); first | refine optS hm1 ?_ | refine optS hm2 ?_ | exact rfl | exact ⟨rfl, rfl⟩ | refine go1 ?_ | (intro ep) | (refine ifB (fun hb => ?_) (fun hb => ?_) <;> (try simp only [qs] at hb) <;> (try simp (disch := omega) only [wrapI] at hb) <;> (try (exfalso; omega))) | fail)))
    all_goals (conv => whnf)
    exact back_of () ⟨rfl, rfl, rfl⟩
  ·rintro ⟨⟩
   (repeat' (first | exact rfl | ((conv => whnf); first | refine optS hm1 ?_ | refine optS hm2 ?_ | exact rfl | exact ⟨rfl, rfl⟩ | refine go1 ?_ | (intro ep) | (refine ifB (fun hb => ?_) (fun hb => ?_) <;> (try simp only [qs] at hb) <;> (try simp (disch := omega) only [wrapI] at hb) <;> (try (exfalso; omega))) | fail)))
end Go.Ab.V

namespace Go.Ab.V
section
variable {N V σ : Type} (step : σ → N → V → Option σ) (vs : List V)
def dfs : List N → σ → List V → List (List V × σ)
 | [], s, l => [(l, s)]
 | n :: r, s, l => vs.flatMap fun v => match step s n v with
  | none => []
  | some s' => dfs r s' (l ++ [v])
def gstep (n : N) (a : List V × σ) : List (List V × σ) := vs.filterMap fun v => (step a.2 n v).map fun s => (a.1 ++ [v], s)
def bfs : List N → List (List V × σ) → List (List V × σ)
 | [], A => A
 | n :: r, A => bfs r (A.flatMap (gstep step vs n))
theorem flatMap_opt {α β : Type} (f : V → Option α) (g : α → List β) : ∀ l : List V, (l.filterMap f).flatMap g = l.flatMap fun v => match f v with
  | none => []
  | some a => g a
 | [] => rfl
 | v :: l => by
  rw [List.filterMap_cons, List.flatMap_cons]
  cases f v with
  | none => simp only [List.nil_append]; exact flatMap_opt f g l
  | some a => simp only [List.flatMap_cons]; rw [flatMap_opt f g l]
theorem bfs_dfs : ∀ (r : List N) (A : List (List V × σ)), bfs step vs r A = A.flatMap fun a => dfs step vs r a.2 a.1
 | [], A => by simp [bfs, dfs]
 | n :: r, A => by
  rw [bfs, bfs_dfs r, List.flatMap_assoc]
  refine congrArg (fun f => List.flatMap f A) (funext fun a => ?_)
  unfold gstep
  rw [flatMap_opt, dfs]
  refine congrArg (fun f => List.flatMap f vs) (funext fun v => ?_)
  cases step a.2 n v <;> rfl
theorem dfs_bfs (r : List N) (s : σ) (l : List V) : dfs step vs r s l = bfs step vs r [(l, s)] := by
 rw [bfs_dfs]; simp
def walk : List N → σ → List V → Option σ
 | [], s, [] => some s
 | n :: r, s, v :: l => match step s n v with
  | none => none
  | some s' => walk r s' l
 | _, _, _ => none
theorem walk_snoc {n : N} {v : V} : ∀ {r : List N} {s : σ} {l : List V}, walk step (r ++ [n]) s (l ++ [v]) = (match walk step r s l with
  | none => none
  | some s' => step s' n v)
 | [], s, [] => by simp only [List.nil_append, walk]; cases step s n v <;> rfl
 | [], s, u :: l => by
  simp only [List.nil_append, List.cons_append, walk]
  cases step s n u with
  | none => rfl
  | some s' => cases l <;> rfl
 | m :: r, s, [] => by
  simp only [List.nil_append, List.cons_append, walk]
  cases step s m v with
  | none => rfl
  | some s' => cases r <;> rfl
 | m :: r, s, u :: l => by
  simp only [List.cons_append, walk]
  cases step s m u with
  | none => rfl
  | some s' => exact walk_snoc
variable (ok : List V → V → Bool)
def extL (C : List (List V)) : List (List V) := C.flatMap fun l => (vs.filter (ok l)).map fun v => l ++ [v]
def chs : Nat → List (List V) → List (List V)
 | 0, C => C
 | k + 1, C => chs k (extL vs ok C)
theorem filterMap_eqOn {α β : Type} {f g : α → Option β} : ∀ {l : List α}, (∀ x ∈ l, f x = g x) → l.filterMap f = l.filterMap g
 | [], _ => rfl
 | x :: l, h => by
  rw [List.filterMap_cons, List.filterMap_cons, h x (List.mem_cons_self ..), filterMap_eqOn fun y hy => h y (List.mem_cons_of_mem _ hy)]
theorem filterMap_flat {α β : Type} (f : α → Option β) {γ : Type} (g : γ → List α) : ∀ l : List γ, (l.flatMap g).filterMap f = l.flatMap fun x => (g x).filterMap f
 | [] => rfl
 | x :: l => by rw [List.flatMap_cons, List.filterMap_append, List.flatMap_cons, filterMap_flat f g l]
theorem bfs_chs {s0 : σ} : ∀ (r pre : List N) (C : List (List V)) (A : List (List V × σ)),
  (∀ (p : List N) (n : N) (q : List N) (l : List V) (s : σ) (v : V), pre ++ r = p ++ n :: q → walk step p s0 l = some s → v ∈ vs → ok l v = false → step s n v = none) →
  A = C.filterMap (fun l => (walk step pre s0 l).map fun s => (l, s)) →
  bfs step vs r A = (chs vs ok r.length C).filterMap fun l => (walk step (pre ++ r) s0 l).map fun s => (l, s)
 | [], pre, C, A, hok, hA => by simpa [bfs, chs] using hA
 | n :: r, pre, C, A, hok, hA => by
  have ih := bfs_chs r (pre ++ [n]) (extL vs ok C) (A.flatMap (gstep step vs n)) (fun p m q l s v e => hok p m q l s v (by simpa using e)) ?_
  ·rw [bfs, ih]
   simp [chs]
  ·rw [hA, flatMap_opt]
   unfold extL
   rw [filterMap_flat]
   refine congrArg (fun f => List.flatMap f C) (funext fun l => ?_)
   rw [List.filterMap_map]
   cases hw : walk step pre s0 l with
   | none =>
    simp only [Option.map_none]
    symm
    rw [List.filterMap_eq_nil_iff]
    intro v hv
    simp only [Function.comp]
    rw [walk_snoc, hw]
    rfl
   | some s =>
    simp only [Option.map_some, gstep]
    rw [List.filterMap_filter]
    refine filterMap_eqOn fun v hv => ?_
    simp only [Function.comp]
    rw [walk_snoc, hw]
    simp only
    split
    ·rfl
    ·rename_i h
     rw [hok pre n r l s v rfl hw hv (by simpa using h)]
     rfl
theorem dfs_chs (r : List N) (s0 : σ) (hok : ∀ (p : List N) (n : N) (q : List N) (l : List V) (s : σ) (v : V), r = p ++ n :: q → walk step p s0 l = some s → v ∈ vs → ok l v = false → step s n v = none) :
  dfs step vs r s0 [] = (chs vs ok r.length [[]]).filterMap fun l => (walk step r s0 l).map fun s => (l, s) := by
 rw [dfs_bfs]
 have := bfs_chs step vs ok (s0 := s0) r [] [[]] [([], s0)] (fun p n q l s v e => hok p n q l s v (by simpa using e)) (by simp [walk])
 simpa using this
end
section
variable {α : Type} [DecidableEq α]
def putN (A : List α) (t : α) : List α := if t ∈ A then A else A ++ [t]
def ddA (A T : List α) : List α := T.foldl putN A
theorem putN_map {β : Type} [DecidableEq β] {f : α → β} {P : α → Prop} (hf : ∀ x y, P x → P y → f x = f y → x = y) {A : List α} {t : α} (hA : ∀ a ∈ A, P a) (ht : P t) : putN (A.map f) (f t) = (putN A t).map f := by
 unfold putN
 by_cases c : t ∈ A
 ·rw [if_pos c, if_pos (List.mem_map.2 ⟨t, c, rfl⟩)]
 ·rw [if_neg c, if_neg, List.map_append]
  ·rfl
  ·intro h
   obtain ⟨a, ha, e⟩ := List.mem_map.1 h
   exact c (by rw [← hf a t (hA a ha) ht e]; exact ha)
theorem putN_all {P : α → Prop} {A : List α} {t : α} (hA : ∀ a ∈ A, P a) (ht : P t) : ∀ a ∈ putN A t, P a := by
 unfold putN
 split
 ·exact hA
 ·intro a ha
  rcases List.mem_append.1 ha with h | h
  ·exact hA a h
  ·rw [List.mem_singleton.1 h]; exact ht
theorem ddA_map {β : Type} [DecidableEq β] {f : α → β} {P : α → Prop} (hf : ∀ x y, P x → P y → f x = f y → x = y) : ∀ {T A : List α}, (∀ a ∈ A, P a) → (∀ t ∈ T, P t) → ddA (A.map f) (T.map f) = (ddA A T).map f
 | [], A, _, _ => rfl
 | t :: T, A, hA, hT => by
  show ddA (putN (A.map f) (f t)) (T.map f) = _
  rw [putN_map hf hA (hT t (List.mem_cons_self ..))]
  exact ddA_map hf (putN_all hA (hT t (List.mem_cons_self ..))) fun t h => hT t (List.mem_cons_of_mem _ h)
theorem ddA_all {P : α → Prop} : ∀ {T A : List α}, (∀ a ∈ A, P a) → (∀ t ∈ T, P t) → ∀ a ∈ ddA A T, P a
 | [], A, hA, _ => hA
 | t :: T, A, hA, hT => ddA_all (A := putN A t) (T := T) (putN_all hA (hT t (List.mem_cons_self ..))) fun t h => hT t (List.mem_cons_of_mem _ h)
theorem putN_le {A : List α} {t : α} : A.length ≤ (putN A t).length := by unfold putN; split <;> simp
theorem ddA_le : ∀ {T A : List α}, A.length ≤ (ddA A T).length
 | [], A => Nat.le_refl _
 | t :: T, A => Nat.le_trans (putN_le (t := t)) (ddA_le (A := putN A t) (T := T))
theorem putN_nodup {A : List α} {t : α} (h : A.Nodup) : (putN A t).Nodup := by
 unfold putN
 split
 ·exact h
 ·rename_i c
  rw [List.nodup_append]
  exact ⟨h, by simp, fun a ha b hb e => c (by rw [List.mem_singleton.1 hb] at e; rw [← e]; exact ha)⟩
theorem ddA_app {A S T : List α} : ddA A (S ++ T) = ddA (ddA A S) T := List.foldl_append
theorem putN_mem {A : List α} {t a : α} : a ∈ putN A t ↔ a ∈ A ∨ a = t := by
 unfold putN
 split
 ·rename_i c
  exact ⟨.inl, fun h => h.elim (fun h => h) fun h => by rw [h]; exact c⟩
 ·simp
theorem ddA_mem : ∀ {T A : List α} {a : α}, a ∈ ddA A T ↔ a ∈ A ∨ a ∈ T
 | [], A, a => by simp [ddA]
 | t :: T, A, a => by
  show a ∈ ddA (putN A t) T ↔ _
  rw [ddA_mem, putN_mem]
  simp [or_assoc]
theorem ddA_nil {T : List α} : ddA [] T = [] ↔ T = [] := by
 constructor
 ·intro h
  cases T with
  | nil => rfl
  | cons t T => have : t ∈ ddA [] (t :: T) := ddA_mem.2 (.inr (List.mem_cons_self ..)); rw [h] at this; simp at this
 ·intro h; rw [h]; rfl
def idxA (t : α) (A : List α) : Nat := A.findIdx (· == t)
theorem idxA_lt {A : List α} {t : α} (h : t ∈ A) : idxA t A < A.length := List.findIdx_lt_length_of_exists ⟨t, h, by simp⟩
theorem idxA_get {A : List α} {t : α} (h : t ∈ A) : A[idxA t A]? = some t := by
 have h1 := idxA_lt h
 rw [List.getElem?_eq_getElem h1]
 have := List.findIdx_getElem (p := (· == t)) (xs := A) (w := h1)
 simp only [beq_iff_eq] at this
 exact congrArg some this
end
end Go.Ab.V

namespace Go.Ab.V
open Go.Proofs
noncomputable def Cz (h np x : List Nat) : Ctx := { P := Try.prog, ti := tiTab tab, fnok := fun f => okL.contains f, pureFn := fun f => pureL.contains f && !h.contains f && !np.contains f && !x.contains f, hFn := fun f => h.contains f, xFn := fun f => x.contains f }
theorem okz (h np x : List Nat) : COk (Cz h np x) := cok_of okL tok fine fun f hf => by simpa [Cz] using hf
theorem pureRows_of {rows : List (List AV)} (h : (rows.all fun r => r.all AV.pure1) = true) : pureRows rows :=
 fun row hr c hc => List.all_eq_true.1 (List.all_eq_true.1 h row hr) c hc
def stp (x : Lm) (s : St × Int) (n : Nt) (v : Int) : Option (St × Int) := (join x s.1 n v).map fun d => (d.2, s.2 + d.1)
def vcs (x : Lm) : List Int := (List.range x.lo.length).map fun (k : Nat) => (k : Int) + 1
theorem vcs_len (x : Lm) : (vcs x).length = x.lo.length := by simp [vcs]
theorem vcs_drop (x : Lm) {k : Nat} (h : k < x.lo.length) : (vcs x).drop k = ((k : Int) + 1) :: (vcs x).drop (k + 1) := by
 rw [List.drop_eq_getElem_cons (by rw [vcs_len]; exact h)]
 simp [vcs]
structure Mv where
 ks : List Int
 c : Int
 m : Int
 to : St
def fin (x : Lm) (n : List Nt) (i : Nat) (f : Int) (a : List Int × (St × Int)) : List Mv := if x.cross < crs a.2.1 f then [] else [⟨a.1, crs a.2.1 f, a.2.2, frg x n a.2.1 (i + 1)⟩]
def mvR (x : Lm) (n : List Nt) (i : Nat) (f : Int) (r : List Nt) (s : St) (m : Int) (l : List Int) : List Mv := (dfs (stp x) (vcs x) r (s, m) l).flatMap (fin x n i f)
theorem mvR_nil (x : Lm) (n : List Nt) (i : Nat) (f : Int) (s : St) (m : Int) (l : List Int) : mvR x n i f [] s m l = if x.cross < crs s f then [] else [⟨l, crs s f, m, frg x n s (i + 1)⟩] := by
 simp [mvR, dfs, fin]
def mvT (x : Lm) (n : List Nt) (i : Nat) (f : Int) (t : Nt) (r : List Nt) (s : St) (m : Int) (l : List Int) (vs : List Int) : List Mv := vs.flatMap fun v => match join x s t v with
 | none => []
 | some d => mvR x n i f r d.2 (m + d.1) (l ++ [v])
theorem mvR_cons (x : Lm) (n : List Nt) (i : Nat) (f : Int) (t : Nt) (r : List Nt) (s : St) (m : Int) (l : List Int) : mvR x n i f (t :: r) s m l = mvT x n i f t r s m l (vcs x) := by
 unfold mvR mvT
 rw [dfs, List.flatMap_assoc]
 refine congrArg (fun g => List.flatMap g (vcs x)) (funext fun v => ?_)
 unfold stp
 cases join x s t v with
 | none => rfl
 | some d => rfl
theorem mvT_cons (x : Lm) (n : List Nt) (i : Nat) (f : Int) (t : Nt) (r : List Nt) (s : St) (m : Int) (l : List Int) (v : Int) (vs : List Int) : mvT x n i f t r s m l (v :: vs) = (match join x s t v with
 | none => []
 | some d => mvR x n i f r d.2 (m + d.1) (l ++ [v])) ++ mvT x n i f t r s m l vs := by unfold mvT; rw [List.flatMap_cons]
structure PS where
 o0 : AObj
 o1 : AObj
 o2 : AObj
 o3 : AObj
 o4 : AObj
 o5 : AObj
 o6 : AObj
 o7 : AObj
 o8 : AObj
 o9 : AObj
 o10 : AObj
 o11 : AObj
 o12 : AObj
 D : List AObj
def PS.l (s : PS) : List AObj := [s.o0, s.o1, s.o2, s.o3, s.o4, s.o5, s.o6, s.o7, s.o8, s.o9, s.o10, s.o11, s.o12]
structure ME where
 x : Lm
 n : List Nt
 i : Nat
 a : Nat
 cnt : Nat
 X : AV
 Y : AV
 fy : Nat
 caps : List AV
 q : AObj
 es : Nat
 e13 : Nat
 e14 : Nat
 e16 : Nat
 e17 : Nat
 e18 : Nat
 e19 : Nat
def ME.ob (M : ME) : AObj := .vec M.es [srR M.x M.n M.X M.Y]
def OWN (M : ME) (e20 : Nat) (R : List (List AV)) (k : Nat) : List AObj := [.vec M.e13 [[.optr (.d 0) M.es 8 0 0]], .vec M.e14 [[.int .i64 (M.i : Int)]], M.q, .vec M.e16 [[.fn (.func M.fy) [] M.caps]], .vec M.e17 [[ntS M.n M.a M.cnt]],
 .vec M.e18 [[.oslc (.s 20) e20 1 0 k false]],
 .vec M.e19 [[.fn (.func 77) [] [.optr (.s 18) M.e18 1 0 0, .optr (.s 17) M.e17 1 0 0, .optr (.s 13) M.e13 1 0 0, .optr (.s 16) M.e16 1 0 0, .optr (.s 14) M.e14 1 0 0, .optr (.s 19) M.e19 1 0 0]]],
 .vec e20 R]
def YC (M : ME) (v : Mv) (s : PS) (K : PS → Prop) : Prop := ∀ (e20 : Nat) (R : List (List AV)), R.take v.ks.length = ints v.ks → pureRows R →
 ACalls C.P M.fy ([.oslc (.s 20) e20 1 0 v.ks.length false, .agg [.int .i64 v.c, .int .i64 v.m], .agg v.to.row] ++ M.caps) ⟨s.l ++ OWN M e20 R v.ks.length, M.ob :: s.D⟩
  fun r h' => ∃ s', K s' ∧ padTo 21 h'.st = s'.l ++ OWN M e20 R v.ks.length ∧ h'.dy = M.ob :: s'.D
def RunP (M : ME) : List Mv → PS → (PS → Prop) → Prop
 | [], s, K => K s
 | v :: L, s, K => YC M v s fun s' => RunP M L s' K
theorem YC.mono {M : ME} {v : Mv} {s : PS} {K K' : PS → Prop} (h : YC M v s K) (hk : ∀ s, K s → K' s) : YC M v s K' := fun e R hR hp => (h e R hR hp).mono fun r h' ⟨s', a, b⟩ => ⟨s', hk s' a, b⟩
theorem RunP.mono {M : ME} : ∀ {L : List Mv} {s : PS} {K K' : PS → Prop}, RunP M L s K → (∀ s, K s → K' s) → RunP M L s K'
 | [], s, K, K', h, hk => hk s h
 | v :: L, s, K, K', h, hk => YC.mono h fun s' hs => RunP.mono hs hk
theorem runP_app {M : ME} : ∀ {L1 L2 : List Mv} {s : PS} {K : PS → Prop}, RunP M (L1 ++ L2) s K → RunP M L1 s fun s' => RunP M L2 s' K
 | [], L2, s, K, h => h
 | v :: L1, L2, s, K, h => YC.mono h fun s' hs => runP_app hs
theorem runP_of {M : ME} {K : PS → Prop} {L : List Mv} (I : Nat → PS → Prop) (hI : ∀ (j : Nat) (h : j < L.length) (s : PS), I j s → YC M L[j] s (I (j + 1))) (hK : ∀ s, I L.length s → K s) : ∀ (k j : Nat) (s : PS), j + k = L.length → I j s → RunP M (L.drop j) s K
 | 0, j, s, e, h => by rw [List.drop_eq_nil_of_le (by omega)]; exact hK s (by rw [← e]; exact h)
 | k + 1, j, s, e, h => by
  rw [List.drop_eq_getElem_cons (by omega)]
  exact YC.mono (hI j (by omega) s h) fun s' hs => runP_of I hI hK k (j + 1) s' (by omega) hs
end Go.Ab.V

namespace Go.Ab.V
open Go.Proofs
deriving instance DecidableEq for Nt
deriving instance DecidableEq for St
def i64B (z : Int) : Prop := -9223372036854775808 ≤ z ∧ z ≤ 9223372036854775807
def Nt.bd (n : Nt) : Prop := i64B n.e ∧ i64B n.c ∧ i64B n.p ∧ i64B n.f ∧ i64B n.t
def St.bd (s : St) : Prop := s.a.bd ∧ s.b.bd ∧ s.c.bd ∧ s.d.bd ∧ s.e.bd
def rowsS (f : List St) : List (List AV) := f.map St.row
def mapS : Nat → List St → List (AV × AV)
 | _, [] => []
 | k, s :: r => (.agg s.row, .int .i64 (k : Int)) :: mapS (k + 1) r
theorem mapS_get : ∀ {f : List St} {k j : Nat}, (mapS k f)[j]? = f[j]?.map fun s => (.agg s.row, .int .i64 ((k + j : Nat) : Int))
 | [], k, j => by simp [mapS]
 | s :: r, k, 0 => by simp [mapS]
 | s :: r, k, j + 1 => by
  simp only [mapS, List.getElem?_cons_succ]
  rw [mapS_get, show k + 1 + j = k + (j + 1) by omega]
theorem mapS_snoc (s : St) : ∀ (f : List St) (k : Nat), mapS k (f ++ [s]) = mapS k f ++ [(.agg s.row, .int .i64 ((k + f.length : Nat) : Int))]
 | [], k => by simp [mapS]
 | a :: r, k => by
  simp only [List.cons_append, mapS, mapS_snoc s r (k + 1), List.length_cons]
  rw [show k + 1 + r.length = k + (r.length + 1) by omega]
theorem row_inj {s t : St} (h : s.row = t.row) : s = t := by
 obtain ⟨⟨a1, a2, a3, a4, a5⟩, ⟨b1, b2, b3, b4, b5⟩, ⟨c1, c2, c3, c4, c5⟩, ⟨d1, d2, d3, d4, d5⟩, ⟨e1, e2, e3, e4, e5⟩⟩ := s
 obtain ⟨⟨a1', a2', a3', a4', a5'⟩, ⟨b1', b2', b3', b4', b5'⟩, ⟨c1', c2', c3', c4', c5'⟩, ⟨d1', d2', d3', d4', d5'⟩, ⟨e1', e2', e3', e4', e5'⟩⟩ := t
 simp [St.row, ntR] at h
 simp [h]
theorem agg_inj {s t : St} (h : AV.agg s.row = AV.agg t.row) : s = t := row_inj (by injection h)
theorem wf64 {z : Int} (h : i64B z) : (Lit.int .i64 z).wf = true := by
 unfold i64B at h
 simp only [Lit.wf, Bool.and_eq_true, decide_eq_true_eq]
 exact h
theorem keyX_int {ti : TI} {m t : Nat} {d : TD} {q : IntKind} {z : Int} (h : ti t = some d) (k : d.kind = .int q) (w : (Lit.int q z).wf = true) : keyX ti (m + 1) t [.int q z] = true := by
 unfold keyX; rw [h]; simp [k, w]
theorem keyX_struct {ti : TI} {m t : Nat} {d : TD} {fs : List (Nat × Nat)} {cs : List AV} (h : ti t = some d) (k : d.kind = .struct fs) (l : cs.length = d.size) (hf : ∀ f ∈ fs, ∃ df, ti f.2 = some df ∧ keyX ti m f.2 ((cs.drop f.1).take df.size) = true) : keyX ti (m + 1) t cs = true := by
 unfold keyX; rw [h]; simp only [k, Bool.and_eq_true, decide_eq_true_eq]
 refine ⟨l, List.all_eq_true.2 fun f h => ?_⟩
 obtain ⟨df, h1, h2⟩ := hf f h
 rw [h1]; exact h2
theorem keyX_arr {ti : TI} {m t n e : Nat} {d de : TD} {cs : List AV} (h : ti t = some d) (k : d.kind = .arr n e) (he : ti e = some de) (l : cs.length = d.size) (hf : ∀ i, i < n → keyX ti m e ((cs.drop (i * de.size)).take de.size) = true) : keyX ti (m + 1) t cs = true := by
 unfold keyX; rw [h]; simp only [k, he, Bool.and_eq_true, decide_eq_true_eq]
 exact ⟨l, List.all_eq_true.2 fun i h => hf i (List.mem_range.1 h)⟩
theorem ti3 : ∃ d, C.ti 3 = some d ∧ d.kind = .int .i64 ∧ d.size = 1 := ⟨_, rfl, rfl, rfl⟩
theorem ti48 : ∃ d, C.ti 48 = some d ∧ d.kind = .struct [(0, 3), (1, 3), (2, 3), (3, 3), (4, 3)] ∧ d.size = 5 := ⟨_, rfl, rfl, rfl⟩
theorem ti89 : ∃ d, C.ti 89 = some d ∧ d.kind = .arr 5 48 ∧ d.size = 25 := ⟨_, rfl, rfl, rfl⟩
theorem keyNt {m : Nat} {n : Nt} (h : n.bd) : keyX C.ti (m + 2) 48 (ntR n) = true := by
 obtain ⟨d, h1, h2, h3⟩ := ti48
 obtain ⟨d3, g1, g2, g3⟩ := ti3
 obtain ⟨b1, b2, b3, b4, b5⟩ := h
 refine keyX_struct h1 h2 (by rw [h3]; rfl) fun f hf => ?_
 have hi : ∀ z : Int, i64B z → keyX C.ti (m + 1) 3 [.int .i64 z] = true := fun z hz => keyX_int g1 g2 (wf64 hz)
 simp only [List.mem_cons, List.not_mem_nil, or_false] at hf
 rcases hf with rfl | rfl | rfl | rfl | rfl
 all_goals refine ⟨d3, g1, ?_⟩
 all_goals rw [g3]
 ·exact hi _ b1
 ·exact hi _ b2
 ·exact hi _ b3
 ·exact hi _ b4
 ·exact hi _ b5
theorem keySt {s : St} (h : s.bd) (x : AV) : keyRow C.ti 89 (.agg s.row, x) = true := by
 obtain ⟨d, h1, h2, h3⟩ := ti89
 obtain ⟨e, g1, _, g3⟩ := ti48
 obtain ⟨b1, b2, b3, b4, b5⟩ := h
 unfold keyRow
 simp only [Bool.and_eq_true]
 refine ⟨keyX_arr h1 h2 g1 (by rw [h3]; rfl) fun i hi => ?_, rfl⟩
 rw [g3]
 obtain rfl | rfl | rfl | rfl | rfl : i = 0 ∨ i = 1 ∨ i = 2 ∨ i = 3 ∨ i = 4 := by omega
 ·exact keyNt b1
 ·exact keyNt b2
 ·exact keyNt b3
 ·exact keyNt b4
 ·exact keyNt b5
theorem keysS {f : List St} (h : ∀ s ∈ f, s.bd) : ∀ (k : Nat), (mapS k f).all (keyRow C.ti 89) = true := by
 induction f with
 | nil => intro k; rfl
 | cons s r ih =>
  intro k
  simp only [mapS, List.all_cons, Bool.and_eq_true]
  exact ⟨keySt (h s (List.mem_cons_self ..)) _, ih (fun t ht => h t (List.mem_cons_of_mem _ ht)) _⟩
theorem findS {f : List St} {v : St} (hn : f.Nodup) {K : Option (Nat × AV) → Prop} (hK : K (if v ∈ f then some (idxA v f, .int .i64 (idxA v f : Int)) else none)) : findA v.row (mapS 0 f) K := by
 have key : ∀ (j : Nat) (p : AV × AV), (mapS 0 f)[j]? = some p → ∃ s, f[j]? = some s ∧ p = (.agg s.row, .int .i64 (j : Int)) := fun j p h => by
  rw [mapS_get, Option.map_eq_some_iff] at h
  obtain ⟨s, h1, h2⟩ := h
  exact ⟨s, h1, by rw [← h2, Nat.zero_add]⟩
 by_cases c : v ∈ f
 ·rw [if_pos c] at hK
  right
  have hg := idxA_get c
  refine ⟨idxA v f, .int .i64 (idxA v f : Int), by rw [mapS_get, hg]; simp, fun j p hj hp => ?_, hK⟩
  obtain ⟨s, h1, rfl⟩ := key j p hp
  intro e
  have e := agg_inj e
  subst e
  obtain ⟨q1, q2⟩ := List.getElem?_eq_some_iff.1 h1
  obtain ⟨q3, q4⟩ := List.getElem?_eq_some_iff.1 hg
  exact hj ((List.getElem_inj hn).1 (q2.trans q4.symm))
 ·rw [if_neg c] at hK
  left
  refine ⟨fun p hp => ?_, hK⟩
  obtain ⟨j, hj⟩ := List.mem_iff_getElem?.1 hp
  obtain ⟨s, h1, rfl⟩ := key j p hj
  intro e
  have e := agg_inj e
  subst e
  exact c (List.mem_of_getElem? h1)
end Go.Ab.V

namespace Go.Ab.V
open Go.Proofs
@[irreducible] def Wq (Q : AV → Heap → Prop) (r : AV) (h' : Heap) : Prop := Q r h'
theorem wq_of {Q : AV → Heap → Prop} {r : AV} {h' : Heap} (h : Q r h') : Wq Q r h' := by unfold Wq; exact h
theorem wq_ex {Q : AV → Heap → Prop} {r : AV} {h' : Heap} (h : Wq Q r h') : Q r h' := by unfold Wq at h; exact h
theorem findT {f : List St} {v : St} (hn : f.Nodup) (c : v ∈ f) {K : Option (Nat × AV) → Prop} (hK : K (some (idxA v f, .int .i64 (idxA v f : Int)))) : findA v.row (mapS 0 f) K := findS hn (by rw [if_pos c]; exact hK)
theorem findN {f : List St} {v : St} (hn : f.Nodup) (c : v ∉ f) {K : Option (Nat × AV) → Prop} (hK : K none) : findA v.row (mapS 0 f) K := findS hn (by rw [if_neg c]; exact hK)
def LY (s : PS) (em e7 e11 e12 : Nat) (f : List St) (cs : List Int) : List AObj := [s.o0, s.o1, s.o2, s.o3, s.o4, s.o5, .map em (mapS 0 f), .vec e7 [[.oslc (.s 11) e11 25 0 f.length false, .mp (.s 6) em, .nils, .nils, .oslc (.s 12) e12 1 0 f.length false]], s.o8, s.o9, s.o10, .vec e11 (rowsS f), .vec e12 (ints cs)]
def A55 : Ann := fun r => match r with
 | 0 => { slots := [(0, 13)] }
 | 5 => { slots := [(6, 14), (7, 15)] }
 | 6 => { slots := [(5, 16), (6, 17)] }
 | _ => {}
set_option maxHeartbeats 16000000 in
set_option maxRecDepth 100000 in
theorem add55 (s : PS) (em e7 e11 e12 : Nat) (f : List St) (cs : List Int) (v : St) (hn : f.Nodup) (hb : ∀ s ∈ f, s.bd) (hv : v.bd) (hcl : cs.length = f.length) (hfl : f.length ≤ 100000000) (D : List AObj) :
  ACalls C.P 55 [.optr (.s 7) e7 5 0 0, .agg v.row] ⟨LY s em e7 e11 e12 f cs, D⟩ (Wq fun r h' => r = .int .i64 (idxA v (putN f v) : Int) ∧ ∃ e11' e12', h'.st.take 13 = LY s em e7 e11' e12' (putN f v) (if v ∈ f then cs else cs ++ [0]) ∧ h'.dy = D) := by
 refine fn_of (okz [] [] []) mixed (A := A55) 5 Try.func55 rfl ?_
 by_cases c : v ∈ f
 ·(repeat' (first | ((conv => whnf); first | refine ⟨⟨rfl, keySt hv _, keysS hb 0⟩, findT hn c ?_⟩ | exact rfl | exact ⟨rfl, rfl⟩ | refine go1 ?_ | (intro ep) | (refine ifB (fun hb => ?_) (fun hb => ?_) <;> (try simp only [qs] at hb) <;> (try simp (disch := omega) only [wrapI] at hb) <;> (try (exfalso; omega))) | fail)))
  all_goals (conv => whnf)
  all_goals refine wq_of ⟨?_, e11, e12, ?_, rfl⟩
  all_goals (rw [show putN f v = f from if_pos c])
  ·rw [if_pos c]
   rfl
 ·have hlen : (putN f v).length = f.length + 1 := by unfold putN; rw [if_neg c]; simp
  have hix : idxA v (putN f v) = f.length := by
   have h1 : putN f v = f ++ [v] := if_neg c
   have hm : v ∈ putN f v := by rw [h1]; simp
   have h2 := idxA_get hm
   have h3 := idxA_lt hm
   rw [h1] at h2 h3 ⊢
   by_cases e : idxA v (f ++ [v]) < f.length
   ·rw [List.getElem?_append_left e] at h2
    exact absurd (List.mem_of_getElem? h2) c
   ·simp at h3; omega
  have t1 : List.take f.length (List.drop 0 (rowsS f)) = rowsS f := by rw [List.drop_zero, List.take_of_length_le (by simp [rowsS])]
  have t2 : List.take f.length (List.drop 0 (ints cs)) = ints cs := by rw [List.drop_zero, List.take_of_length_le (by simp [ints, hcl])]
  (repeat' (first | ((conv => whnf); first | refine ⟨⟨rfl, keySt hv _, keysS hb 0⟩, findN hn c ?_⟩ | exact rfl | exact ⟨rfl, rfl⟩ | refine go1 ?_ | (intro ep) | (refine ifB (fun hb => ?_) (fun hb => ?_) <;> (try simp only [qs] at hb) <;> (try simp (disch := omega) only [wrapI] at hb) <;> (try (exfalso; omega))) | fail)))
  all_goals (conv => whnf)
  rename_i q0 q1 q2 q3
  have r1 : rowsS (f ++ [v]) = List.take f.length (List.drop 0 (rowsS f)) ++ [v.row] := by rw [t1]; simp [rowsS]
  have r2 : ints (cs ++ [0]) = List.take f.length (List.drop 0 (ints cs)) ++ [[.int .i64 0]] := by rw [t2]; simp [ints]
  have r3 : mapS 0 (f ++ [v]) = mapS 0 f ++ [(.agg v.row, .int .i64 (f.length : Int))] := by rw [mapS_snoc, Nat.zero_add]
  have r4 : (f ++ [v]).length = f.length + 1 := by simp
  refine wq_of ⟨by rw [hix], q2, ep, ?_, rfl⟩
  rw [if_neg c, show putN f v = f ++ [v] from if_neg c]
  unfold LY
  rw [r1, r2, r3, r4]
  exact rfl
end Go.Ab.V

namespace Go.Ab.V
open Go.Proofs
theorem dynCall {C : Ctx} {ev : Operand → AV} {c : Call} {fo : Operand} {f : FuncId} {first cap : List AV} {h : Heap} {K : AV → Heap → Prop} (hc : c.callee = .value fo) (he : ev fo = .fn (.func f) first cap) (o : C.fnok f = true) (p1 : C.pureFn f = false) (p2 : C.hFn f = false) (p3 : C.xFn f = false)
  (k : ACalls C.P f (first ++ c.args.toList.map ev ++ cap) h fun r h' => K r (h'.trunc h.st.length)) : (match (generalizing := false) fnOf C ev c with | some (f, args) => callK C f args h K | none => yieldK C ev c h K) := by
 have e : fnOf C ev c = some (f, first ++ c.args.toList.map ev ++ cap) := by
  unfold fnOf
  simp only [hc, he, o, if_true]
 rw [e]
 unfold callK
 simp only [p1, p2, p3]
 exact k
theorem hpV_one {s : St} (e0 k : Nat) (o : AObj) (h : (hpV .hole .hole .hole e0 s)[k]? = some o) : (k = 2 ∧ o = .vec e0 [s.row]) ∨ o = .hole := by
 match k with
 | 0 | 1 | 3 => right; exact (Option.some.inj h).symm
 | 2 => left; exact ⟨rfl, (Option.some.inj h).symm⟩
 | k + 4 => simp [hpV] at h
theorem pure_row (s : St) : pureRows [s.row] := pureRows_of rfl
theorem crossAt (s : St) (t : Int) {h : Heap} {id : Id} {e : Nat} (ho : h[id]? = some (.vec e [s.row])) {K : AV → Heap → Prop} (hK : K (.int .i64 (crs s t)) h) : ACalls C.P 43 [.optr id e 25 0 0, .int .i64 t] h K :=
 ACalls.at1 (q := 2) (stq := fun e0 => hpV .hole .hole .hole e0 s) (rows := [s.row]) (rows1 := [s.row])
  (fun e0 => (cross54 s t e0 .hole .hole .hole).mono fun r h' ⟨a, b⟩ => ⟨a, by obtain ⟨rest, rfl⟩ := trunc_ex b; rfl⟩) hpV_one rfl (pure_row s) (pure_row s) rfl ho (by rw [Heap.set_self ho]; exact hK)
theorem joinAt (x : Lm) (s : St) (n : Nt) (v : Int) (hx : LmOk x) (hs : s.ok) (hn : ntFit n) {z : Int} (hz : z = v) {h : Heap} {id : Id} {e : Nat} (ho : h[id]? = some (.vec e [s.row])) {K : AV → Heap → Prop}
  (hK : K (joinV (join x s n v)) (h.set id (.vec e [(joinS s (join x s n v)).row]))) : ACalls C.P 42 [.optr id e 25 0 0, lmA x, .agg (ntR n), .int .i64 z] h K := by
 have hz' := hz.symm
 subst hz'
 exact ACalls.at1 (q := 2) (stq := fun e0 => hpV .hole .hole .hole e0 s) (rows := [s.row]) (rows1 := [(joinS s (join x s n v)).row])
  (fun e0 => (join53 x s n v hx.hi hx.lo5 hx.gap hs hn e0 .hole .hole .hole).mono fun r h' ⟨a, b⟩ => ⟨a, by obtain ⟨rest, rfl⟩ := trunc_ex b; rfl⟩) hpV_one rfl (pure_row s) (pure_row _) (by cases join x s n v <;> rfl) ho hK
theorem forgetX (x : Lm) (n : List Nt) (X Y : AV) (v : St) (i : Nat) (hN : NtsOk n) (hi : i ≤ (segR 0 n).length) (hg : 0 ≤ x.gap ∧ x.gap ≤ 262144) (hv : v.ok) (es : Nat) (D st : List AObj) {z : Int} (hz : z = (i : Int)) :
  ACalls C.P 78 [.optr (.d 0) es 8 0 0, .agg v.row, .int .i64 z] ⟨st, .vec es [srR x n X Y] :: D⟩ fun r h' => r = .agg (frg x n v i).row ∧ h' = ⟨st, .vec es [srR x n X Y] :: D⟩ := by
 subst hz
 refine ACalls.part (dy := .vec es [srR x n X Y] :: D) (st1 := []) 0 rfl rfl rfl (forget78 x n X Y v i hN hi hg hv es D) ?_
 rintro r h1 ⟨rfl, hd⟩
 exact ⟨rfl, by rw [hd]; rfl⟩
theorem segR_lenle (n : List Nt) : (segR 0 n).length ≤ n.length := by
 have key : ∀ (k : Nat) (o : Nat) (l : List Nt), l.length ≤ k → (segR o l).length ≤ l.length := by
  intro k
  induction k with
  | zero => intro o l h; have : l = [] := List.length_eq_zero_iff.1 (by omega); subst this; simp [segR]
   | succ k ih =>
   intro o l h
   cases l with
   | nil => simp [segR]
   | cons a r =>
    rw [segR_cons]
    have h2 := ih (o + (run1 a.e r + 1)) ((a :: r).drop (run1 a.e r + 1)) (by simp at h ⊢; omega)
    simp only [List.length_cons, List.length_drop] at h2 ⊢
    omega
 exact key _ 0 n (Nat.le_refl _)
def A77 : Ann := fun r => match r with
 | 0 => { slots := [(0, 21)] }
 | 9 => { slots := [(1, 22)] }
 | 12 => { slots := [(3, 23), (4, 24)] }
 | _ => {}
abbrev Z77 := okz [] [42, 43] [78]
@[irreducible] def OUT (M : ME) (j : Nat) (l : List Int) (K : PS → Prop) (_ : AV) (h' : Heap) : Prop := ∃ S' e' R', K S' ∧ (List.take j R' = ints l ∧ pureRows R') ∧ padTo 21 h'.st = S'.l ++ OWN M e' R' j ∧ h'.dy = M.ob :: S'.D
theorem out_of {M : ME} {j : Nat} {l : List Int} {K : PS → Prop} {r : AV} {h' : Heap} (S' : PS) (e' : Nat) (R' : List (List AV)) (h1 : K S') (h2 : List.take j R' = ints l ∧ pureRows R') (h3 : padTo 21 h'.st = S'.l ++ OWN M e' R' j) (h4 : h'.dy = M.ob :: S'.D) : OUT M j l K r h' := by
 unfold OUT; exact ⟨S', e', R', h1, h2, h3, h4⟩
theorem out_ex {M : ME} {j : Nat} {l : List Int} {K : PS → Prop} {r : AV} {h' : Heap} (h : OUT M j l K r h') : ∃ S' e' R', K S' ∧ (List.take j R' = ints l ∧ pureRows R') ∧ padTo 21 h'.st = S'.l ++ OWN M e' R' j ∧ h'.dy = M.ob :: S'.D := by
 unfold OUT at h; exact h
abbrev a77 (M : ME) (s : St) (m : Int) : List AV := [.agg s.row, .int .i64 m, .optr (.s 18) M.e18 1 0 0, .optr (.s 17) M.e17 1 0 0, .optr (.s 13) M.e13 1 0 0, .optr (.s 16) M.e16 1 0 0, .optr (.s 14) M.e14 1 0 0, .optr (.s 19) M.e19 1 0 0]
set_option maxHeartbeats 16000000 in
set_option maxRecDepth 100000 in
theorem moves77 (M : ME) (X : LmOk M.x) (hN : chkN M.n = 0) (hseg : SegOk M.n M.a M.cnt) (hi : M.i < (segR 0 M.n).length) (hfy : M.fy = 57 ∨ M.fy = 58 ∨ M.fy = 84) : ∀ (k j : Nat), j + k = M.cnt → ∀ (s : St) (m : Int) (l : List Int) (S : PS) (K : PS → Prop) (e20 : Nat) (R : List (List AV)),
  l.length = j → (List.take j R = ints l ∧ pureRows R) → s.ok → (0 ≤ m ∧ m ≤ 127 * j) → RunP M (mvR M.x M.n M.i (frN M.n M.a) ((M.n.drop (M.a + j)).take k) s m l) S K →
  ACalls C.P 77 (a77 M s m) ⟨S.l ++ OWN M e20 R j, M.ob :: S.D⟩ (OUT M j l K) := by
 have NN := ntsOk_of hN
 have hlen := NN.len
 have hpos := hseg.pos
 have hle := hseg.le
 have ha : M.a < M.n.length := by omega
 have L1 := X.lo1
 have L5 := X.lo5
 have o1 : (Cz [] [42, 43] [78]).fnok M.fy = true := by rcases hfy with h | h | h <;> rw [h] <;> rfl
 have o2 : (Cz [] [42, 43] [78]).pureFn M.fy = false := by rcases hfy with h | h | h <;> rw [h] <;> rfl
 have o3 : (Cz [] [42, 43] [78]).hFn M.fy = false := by rcases hfy with h | h | h <;> rw [h] <;> rfl
 have o4 : (Cz [] [42, 43] [78]).xFn M.fy = false := by rcases hfy with h | h | h <;> rw [h] <;> rfl
 intro k
 induction k with
 | zero =>
  intro j hj s m l S K e20 R hl hR hs hm hrun
  rw [List.take_zero, mvR_nil] at hrun
  have hcb := crs_bd s (frN M.n M.a)
  have hjc : j = M.cnt := by omega
  have hm0 := mapRo (f := ntR) (l := M.n) (o := M.a) (i := 0) ha
  have hn0 : M.n[M.a + 0] = M.n[M.a] := rfl
  rw [hn0] at hm0
  rw [frN_at ha] at hrun hcb
  generalize M.n[M.a] = nn at hm0 hrun hcb
  obtain ⟨ne, nc, np, nf, nt⟩ := nn
  replace hm0 : (M.n.map ntR)[M.a + ((0 : Nat) : Int).toNat]? = some [.int .i64 ne, .int .i64 nc, .int .i64 np, .int .i64 nf, .int .i64 nt] := hm0
  simp only at hrun hcb
  refine fn_of Z77 mixed (A := A77) 4 Try.func77 rfl ?_
  have hC := @crossAt s nf
  generalize crs s nf = z at hC hrun hcb
  by_cases c6 : M.x.cross < z
  ·rw [if_pos c6] at hrun
   (repeat' (first | ((conv => whnf); first | refine optS hm0 ?_ | refine hC (by exact rfl) ?_ | exact rfl | exact ⟨rfl, rfl⟩ | refine go1 ?_ | (intro ep) | (refine ifB (fun hb => ?_) (fun hb => ?_) <;> (try simp only [qs] at hb) <;> (try simp (disch := omega) only [wrapI] at hb) <;> (try (exfalso; omega))) | fail)))
   all_goals (conv => whnf)
   all_goals exact out_of S e20 R hrun hR rfl rfl
  ·rw [if_neg c6] at hrun
   have hF := fun (D st : List AObj) => @forgetX M.x M.n M.X M.Y s (M.i + 1) NN (by omega) X.gap hs M.es D st (IntKind.i64.wrap ((M.i : Int) + 1)) (by have := segR_lenle M.n; rw [wrapI (by omega) (by omega)]; omega)
   (repeat' (first | ((conv => whnf); first | refine optS hm0 ?_ | refine hC (by exact rfl) ?_ | (refine ACalls.mono (hF _ _) ?_; rintro r h' ⟨rfl, rfl⟩; refine ⟨fun i o h => h, ?_⟩) | refine (forceL_eq M.caps _).mpr ?_ | exact rfl | exact ⟨rfl, rfl⟩ | refine go1 ?_ | (intro ep) | (refine ifB (fun hb => ?_) (fun hb => ?_) <;> (try simp only [qs] at hb) <;> (try simp (disch := omega) only [wrapI] at hb) <;> (try (exfalso; omega))) | fail)))
   all_goals (conv => whnf)
   all_goals refine dynCall (f := M.fy) (first := []) (cap := M.caps) rfl rfl o1 o2 o3 o4 ?_
   all_goals (conv => whnf)
   all_goals
    have hY := hrun e20 R (by simp only [hl]; exact hR.1) hR.2
    simp only [hl] at hY
    refine ACalls.part (st1 := S.l ++ OWN M e20 R j) (dy := M.ob :: S.D) 21 (by exact rfl) (by exact rfl) (by exact rfl) hY ?_
    rintro r h1 ⟨s', hs', hp, hd⟩
    rw [hp, hd]
    refine (forceV_eq r _).mpr ?_
    (repeat' (first | ((conv => whnf); first | exact rfl | exact ⟨rfl, rfl⟩ | refine go1 ?_ | (intro ep) | fail)))
    (conv => whnf)
    exact out_of s' e20 R hs' hR rfl rfl
 | succ k ih =>
  intro j hj s m l S K e20 R hl hR hs hm hrun
  have hjn : M.a + j < M.n.length := by omega
  rw [List.drop_eq_getElem_cons hjn, List.take_succ_cons, mvR_cons] at hrun
  have hm0 := mapRo (f := ntR) (l := M.n) (o := M.a) (i := j) hjn
  have hfit := fit_of (NN.fit _ (List.getElem_mem hjn))
  generalize hnn : M.n[M.a + j] = nn at hm0 hrun hfit
  obtain ⟨rs, hrs⟩ : ∃ rs, rs = (M.n.drop (M.a + j + 1)).take k := ⟨_, rfl⟩
  rw [← hrs] at hrun
  have hih := fun s2 m2 l2 S2 K2 e2 R2 => ih (j + 1) (by omega) s2 m2 l2 S2 K2 e2 R2
  rw [show M.a + (j + 1) = M.a + j + 1 by omega, ← hrs] at hih
  generalize frN M.n M.a = f at hrun hih
  refine fn_of Z77 mixed (A := A77) 4 Try.func77 rfl ?_
  (conv => whnf)
  intro e21
  (repeat' (first | ((conv => whnf); first | exact rfl | exact ⟨rfl, rfl⟩ | refine go1 ?_ | (intro ep) | (refine ifB (fun hb => ?_) (fun hb => ?_) <;> (try simp only [qs] at hb) <;> (try simp (disch := omega) only [wrapI] at hb) <;> (try (exfalso; omega))) | fail)))
  all_goals (conv => whnf)
  refine loopX Z77 mixed (A := A77) [1, 2, 3, 4, 7, 8, 10, 50, 51] [0, 1, 2, 3, 4, 5, 6, 7, 8, 9, 10, 11, 12, 13, 14, 15, 16, 17, 18, 19, 20, 21] (S := { z : Nat × PS × Nat × List (List AV) // z.1 ≤ M.x.lo.length ∧ (List.take j z.2.2.2 = ints l ∧ pureRows z.2.2.2) ∧ RunP M (mvT M.x M.n M.i f nn rs s m l ((vcs M.x).drop z.1)) z.2.1 K })
   (fr := fun z => frOf 0 85 [(1, .int .i64 m), (2, .optr (.s 18) M.e18 1 0 0), (3, .optr (.s 17) M.e17 1 0 0), (4, .optr (.s 13) M.e13 1 0 0), (7, .optr (.s 19) M.e19 1 0 0), (8, .optr (.s 21) e21 25 0 0), (10, .int .i64 (j : Int)), (50, .int .i64 (M.x.lo.length : Int)), (51, .int .i64 (z.1.1 : Int))])
   (h := fun z => ⟨z.1.2.1.l ++ OWN M z.1.2.2.1 z.1.2.2.2 j ++ [.vec e21 [s.row], .hole, .hole, .hole], M.ob :: z.1.2.1.D⟩) (μ := fun z => M.x.lo.length - z.1.1) ⟨(0, S, e20, R), Nat.zero_le _, hR, hrun⟩ ?_ ?_
   [] [0, 1, 2, 3, 4, 5, 6, 7, 8, 9, 10, 11, 12, 13, 14, 15, 16, 17, 18, 19, 20] (S' := { z : PS × Nat × List (List AV) // (List.take j z.2.2 = ints l ∧ pureRows z.2.2) ∧ K z.1 }) (X := fun _ => 0) (frX := fun _ => frOf 0 85 [])
   (hX := fun z => ⟨z.1.1.l ++ OWN M z.1.2.1 z.1.2.2 j ++ [.hole, .hole, .hole, .hole], M.ob :: z.1.1.D⟩)
   (R := fun _ _ => False) ?_ (fun _ _ h => h.elim) ?_
  ·exact rfl
  ·exact rfl
  ·rintro ⟨⟨v, S1, e1, R1⟩, hv, hR1, hr1⟩
   simp only at hv hR1 hr1
   show aexR _ _ _ (frOf 0 85 [(1, .int .i64 m), (2, .optr (.s 18) M.e18 1 0 0), (3, .optr (.s 17) M.e17 1 0 0), (4, .optr (.s 13) M.e13 1 0 0), (7, .optr (.s 19) M.e19 1 0 0), (8, .optr (.s 21) e21 25 0 0), (10, .int .i64 (j : Int)), (50, .int .i64 (M.x.lo.length : Int)), (51, .int .i64 (v : Int))])
    ⟨S1.l ++ OWN M e1 R1 j ++ [.vec e21 [s.row], .hole, .hole, .hole], M.ob :: S1.D⟩ _
   (conv => whnf)
   refine ifB (fun g1 => ?_) (fun g1 => ?_)
   ·simp only [decide_eq_true_eq] at g1
    have g1 : v < M.x.lo.length := by omega
    rw [vcs_drop M.x g1, mvT_cons] at hr1
    have hr2 := runP_app hr1
    clear hr1
    have hw : IntKind.i64.wrap ((v : Int) + 1) = (v : Int) + 1 := wrapI (by omega) (by omega)
    have hJ := @joinAt M.x s nn ((v : Int) + 1) X hs hfit _ hw
    have hok := fun d hd => join_ok (x := M.x) (s := s) (n := nn) (v := (v : Int) + 1) (d := d) hd X.lo5 hs hfit
    cases hjo : join M.x s nn ((v : Int) + 1) with
    | none =>
     rw [hjo] at hJ hr2
     simp only [RunP] at hr2
     (repeat' (first | ((conv => whnf); first | refine optS hm0 ?_ | refine hJ (by exact rfl) ?_ | exact rfl | exact ⟨rfl, rfl⟩ | refine go1 ?_ | (intro ep) | (refine ifB (fun hb => ?_) (fun hb => ?_) <;> (try simp only [qs] at hb) <;> (try simp (disch := omega) only [wrapI] at hb) <;> (try (exfalso; omega))) | fail)))
     all_goals (conv => whnf)
     all_goals exact back_of ⟨(v + 1, S1, e1, R1), by simp only; omega, hR1, hr2⟩ ⟨by (first | exact rfl | (simp (disch := omega) only [wrapI]; exact rfl)), by exact rfl, by simp only; omega⟩
    | some d =>
     obtain ⟨d, s2⟩ := d
     obtain ⟨q1, q2, q3⟩ := hok _ hjo
     rw [hjo] at hJ hr2
     simp only at hr2 q1 q2 q3
     have hw2 : IntKind.i64.wrap (m + d) = m + d := wrapI (by omega) (by omega)
     have tl : (ints l).length = j := by simp [ints, hl]
     have happ : ∀ z : Int, z = (v : Int) + 1 → List.take (j + 1) (List.take j (List.drop 0 R1) ++ [[AV.int .i64 z]]) = ints (l ++ [(v : Int) + 1]) ∧ pureRows (List.take j (List.drop 0 R1) ++ [[AV.int .i64 z]]) := fun z hz => by
      subst hz
      rw [List.drop_zero, hR1.1, List.take_of_length_le (by simp [tl])]
      have e : ints l ++ [[AV.int .i64 ((v : Int) + 1)]] = ints (l ++ [(v : Int) + 1]) := by simp [ints]
      rw [e]
      exact ⟨rfl, pure_ints _⟩
     (repeat' (first | ((conv => whnf); first | refine optS hm0 ?_ | refine hJ (by exact rfl) ?_ | exact rfl | exact ⟨rfl, rfl⟩ | refine go1 ?_ | (intro ep) | (refine ifB (fun hb => ?_) (fun hb => ?_) <;> (try simp only [qs] at hb) <;> (try simp (disch := omega) only [wrapI] at hb) <;> (try (exfalso; omega))) | fail)))
     all_goals (conv => whnf)
     refine ACalls.part (st1 := S1.l ++ OWN M _ _ (j + 1)) (dy := M.ob :: S1.D) 21 (by exact rfl) (by exact rfl) (by exact rfl)
      (hih s2 (IntKind.i64.wrap (m + d)) (l ++ [(v : Int) + 1]) S1 (fun s' => RunP M (mvT M.x M.n M.i f nn rs s m l ((vcs M.x).drop (v + 1))) s' K) _ _ (by simp [hl]) (happ _ hw) q1 (by rw [hw2]; omega) (by rw [hw2]; exact hr2)) ?_
     rintro r h1 ho
     obtain ⟨S2, e2, R2, hk2, hR2, hp, hd⟩ := out_ex ho
     rw [hp, hd]
     refine (forceV_eq r _).mpr ?_
     have hR3 : List.take j R2 = ints l ∧ pureRows R2 := by
      refine ⟨?_, hR2.2⟩
      have h := congrArg (List.take j) hR2.1
      rw [List.take_take, Nat.min_eq_left (by omega)] at h
      rw [h, ints, List.map_append]
      exact List.take_left' tl
     (repeat' (first | ((conv => whnf); first | exact rfl | exact ⟨rfl, rfl⟩ | refine go1 ?_ | (intro ep) | (refine ifB (fun hb => ?_) (fun hb => ?_) <;> (try simp only [qs] at hb) <;> (try simp (disch := omega) only [wrapI] at hb) <;> (try (exfalso; omega))) | fail)))
     all_goals (conv => whnf)
     exact back_of ⟨(v + 1, S2, e2, R2), by simp only; omega, hR3, hk2⟩ ⟨by (first | exact rfl | (simp (disch := omega) only [wrapI]; exact rfl)), by exact rfl, by simp only; omega⟩
   ·simp only [decide_eq_false_iff_not] at g1
    rw [List.drop_eq_nil_of_le (by rw [vcs_len]; omega)] at hr1
    (repeat' (first | exact rfl | ((conv => whnf); first | exact rfl | exact ⟨rfl, rfl⟩ | refine go1 ?_ | (intro ep) | fail)))
    all_goals (conv => whnf)
    exact back_of ⟨(S1, e1, R1), hR1, hr1⟩ ⟨rfl, rfl, rfl⟩
  ·rintro ⟨⟨S1, e1, R1⟩, hR1, hk⟩
   (repeat' (first | exact rfl | ((conv => whnf); first | exact rfl | exact ⟨rfl, rfl⟩ | refine go1 ?_ | (intro ep) | fail)))
   all_goals (conv => whnf)
   all_goals exact out_of S1 e1 R1 hk hR1 rfl rfl
end Go.Ab.V

namespace Go.Ab.V
open Go.Proofs
def A56 : Ann := fun r => match r with
 | 0 => { slots := [(0, 13), (1, 14), (2, 15), (3, 16)] }
 | 1 => { slots := [(7, 17)] }
 | 2 => { slots := [(0, 18)] }
 | 3 => { slots := [(0, 19)] }
 | _ => {}
@[irreducible] def OU (ob : AObj) (K : PS → Prop) (_ : AV) (h' : Heap) : Prop := ∃ S', K S' ∧ h'.st.take 13 = S'.l ∧ h'.dy = ob :: S'.D
theorem ou_of {ob : AObj} {K : PS → Prop} {r : AV} {h' : Heap} (S' : PS) (h1 : K S') (h3 : h'.st.take 13 = S'.l) (h4 : h'.dy = ob :: S'.D) : OU ob K r h' := by
 unfold OU; exact ⟨S', h1, h3, h4⟩
theorem ou_ex {ob : AObj} {K : PS → Prop} {r : AV} {h' : Heap} (h : OU ob K r h') : ∃ S', K S' ∧ h'.st.take 13 = S'.l ∧ h'.dy = ob :: S'.D := by
 unfold OU at h; exact h
def mvE (x : Lm) (n : List Nt) (i : Nat) (v : St) : List Mv := match (segR 0 n)[i]? with
 | none => []
 | some q => mvR x n i (frN n q.1) ((n.drop q.1).take q.2) v 0 []
set_option maxHeartbeats 16000000 in
set_option maxRecDepth 100000 in
theorem moves56 (x : Lm) (n : List Nt) (i : Nat) (X' Y' : AV) (fy : Nat) (caps : List AV) (es : Nat) (v : St) (S : PS) (K : PS → Prop) (X : LmOk x) (hN : chkN n = 0) (hi : i < (segR 0 n).length) (hfy : fy = 57 ∨ fy = 58 ∨ fy = 84) (hv : v.ok)
  (hrun : ∀ (a cnt : Nat) (q : AObj) (e13 e14 e16 e17 e18 e19 : Nat), RunP ⟨x, n, i, a, cnt, X', Y', fy, caps, q, es, e13, e14, e16, e17, e18, e19⟩ (mvE x n i v) S K) :
  ACalls C.P 56 [.optr (.d 0) es 8 0 0, .int .i64 (i : Int), .agg v.row, .fn (.func fy) [] caps] ⟨S.l, .vec es [srR x n X' Y'] :: S.D⟩ (OU (.vec es [srR x n X' Y']) K) := by
 unfold mvE at hrun
 have hlen := (ntsOk_of hN).len
 generalize hS : segR 0 n = Sg at hi
 rw [hS] at hrun
 have hmem : Sg[i] ∈ Sg := List.getElem_mem hi
 have hm1 := mapR (f := segA n) hi
 have hseg : ∀ q ∈ Sg, SegOk n q.1 q.2 := fun q hq => segR_ok n n.length 0 (by omega) (fun h => by omega) q (by rw [List.drop_zero, hS]; exact hq)
 have hsg := hseg _ hmem
 rw [List.getElem?_eq_getElem hi] at hrun
 generalize hq : Sg[i] = q at hm1 hsg hrun
 obtain ⟨a, cnt⟩ := q
 simp only at hsg hrun
 replace hm1 : (Sg.map (segA n))[0 + (i : Int).toNat]? = some [ntS n a cnt] := hm1
 refine fn_of (okz [] [77] []) mixed (A := A56) 8 Try.func56 rfl ?_
 unfold srR
 rw [hS]
 (repeat' (first | ((conv => whnf); first | refine optS hm1 ?_ | refine (forceL_eq caps _).mpr ?_ | exact rfl | exact ⟨rfl, rfl⟩ | refine go1 ?_ | (intro ep) | (refine ifB (fun hb => ?_) (fun hb => ?_) <;> (try simp only [qs] at hb) <;> (try simp (disch := omega) only [wrapI] at hb) <;> (try (exfalso; omega))) | fail)))
 all_goals (conv => whnf)
 subst hS
 refine ACalls.liftV 18 20 _ 1 (by decide) (by exact rfl) fun e20 => ?_
 refine ACalls.part (st1 := S.l ++ OWN ⟨x, n, i, a, cnt, X', Y', fy, caps, _, es, _, _, _, _, _, _⟩ e20 [] 0) (dy := .vec es [srR x n X' Y'] :: S.D) 21 (by exact rfl) (by exact rfl) (by exact rfl)
  (moves77 ⟨x, n, i, a, cnt, X', Y', fy, caps, _, es, _, _, _, _, _, _⟩ X hN hsg hi hfy cnt 0 (by simp) v 0 [] S K e20 [] rfl ⟨rfl, by intro r hr; simp at hr⟩ hv (by omega) (hrun a cnt _ _ _ _ _ _ _)) ?_
 rintro r h1 ho
 obtain ⟨S2, e2, R2, hk2, hR2, hp, hd⟩ := out_ex ho
 rw [hp, hd]
 refine (forceV_eq r _).mpr ?_
 (repeat' (first | ((conv => whnf); first | exact rfl | exact ⟨rfl, rfl⟩ | refine go1 ?_ | (intro ep) | (refine ifB (fun hb => ?_) (fun hb => ?_) <;> (try simp only [qs] at hb) <;> (try simp (disch := omega) only [wrapI] at hb) <;> (try (exfalso; omega))) | fail)))
 all_goals (conv => whnf)
 exact ou_of S2 hk2 rfl rfl
end Go.Ab.V
