/-
  What is proved here serves the law's text: each part says its own claim and its conditions. No condition is left open.
-/
import Derived.Test.YtgnhnapnjmbieaaKJ
import Derived.Test.YtgnhnapnjmbieaaKI
set_option linter.unusedSimpArgs false
set_option linter.unusedVariables false

/-
  Append, on both sides. No condition but the machine's bounds on lengths.
-/
namespace Go.Ab.V
open Go.Proofs

def A85b : Ann := fun r => match r with
  | 4 => { slots := [(2, 0)] }
  | 5 => { slots := [(4, 1), (5, 2)] }
  | _ => {}

set_option maxHeartbeats 2000000 in
set_option maxRecDepth 100000 in
theorem mapped86_spec (l : List Evt) (hl : l.length ≤ 100000) (hsp : ∀ e ∈ l, e.stops.length ≤ 100000) :
    HRet C.P 85 [evsA l, .fn (.func 86) [] []] (fun B eps => .oslc (.d B) (eps 0) 6 0 l.length false) (fun B eps => [.vec (eps 0) (l.map evR)]) := by
  refine hret_of ok mixed (A := A85b) 3 Try.func85 rfl ?_ (fun B E eps => ⟨fun k => eps k + E, rfl, by rw [List.map_cons, AObj.sh, sh_rows]; rfl⟩)
  (repeat' (first | exact rfl | ((conv => whnf); first | exact rfl | refine ⟨by kernel_rfl, ?_⟩ | exact ⟨rfl, rfl⟩ | refine ⟨rfl, ?_⟩ | refine ⟨by (first | omega | (simp (disch := omega) only [wrapI]; omega) | (simp (disch := omega) only [wrapI]; simp; omega) | (simp; omega)), ?_⟩ | (intro ep) | fail)))
  (conv => whnf)
  refine wk_lift 5 2 6 rfl ?_
  intro e1
  refine loopM ok mixed (A := A85b) [1, 5, 8, 9, 10] [2] (S := { x : Nat × Nat // x.1 ≤ l.length })
    (fr := fun s => frOf 0 22 [(1, .fn (.func 86) [] []), (5, .oslc (.s 2) s.1.2 6 0 s.1.1 false), (8, evsA l), (9, .int .i64 l.length), (10, .int .i64 (s.1.1 : Int))])
    (h := fun s => ⟨[.hole, .hole, .vec s.1.2 ((l.take s.1.1).map evR)], []⟩) (μ := fun s => l.length - s.1.1) ⟨(0, e1), by simp⟩ (by exact rfl) (by exact rfl) ?_
  rintro ⟨⟨k, ep⟩, hk⟩
  simp only at hk
  show aexR _ _ _ (frOf 0 22 [(1, .fn (.func 86) [] []), (5, .oslc (.s 2) ep 6 0 k false), (8, evsA l), (9, .int .i64 l.length), (10, .int .i64 (k : Int))]) ⟨[.hole, .hole, .vec ep ((l.take k).map evR)], []⟩ _
  (conv => whnf)
  refine ifB (fun h1 => ?_) (fun h1 => ?_)
  · simp only [decide_eq_true_eq] at h1
    have hlt : k < l.length := by omega
    have hc := copied_spec l[k] (hsp _ (List.getElem_mem hlt))
    (repeat' (first | exact rfl | ((conv => whnf); first | refine ⟨_, hc, ?_⟩ | exact rfl | refine ⟨by kernel_rfl, ?_⟩ | exact ⟨rfl, rfl⟩ | refine ⟨rfl, ?_⟩ | refine ⟨by (first | omega | (simp (disch := omega) only [wrapI]; omega) | (simp (disch := omega) only [wrapI]; simp; omega) | (simp; omega)), ?_⟩ | (intro ep) | refine optS (mapR hlt) ?_ | fail)))
    (conv => whnf)
    have hT : List.take k ((l.take k).map evR) = (l.take k).map evR := List.take_of_length_le (by simp; omega)
    have t4 : (l.take (k + 1)).map evR = (l.take k).map evR ++ [evR l[k]] := by
      rw [List.take_add_one, List.getElem?_eq_getElem hlt]
      rw [List.map_append]; rfl
    refine back_of ⟨(k + 1, ep), by simp only; omega⟩ ⟨by (first | exact rfl | (simp (disch := omega) only [wrapI]; exact rfl)), ?_, by simp only; omega⟩
    simp only
    rw [t4]
    refine Eq.trans (b := ⟨[.hole, .hole, .vec ep (List.take k (List.drop 0 ((l.take k).map evR)) ++ [evR l[k]])], []⟩) rfl ?_
    rw [List.drop_zero, hT]
  · simp only [decide_eq_false_iff_not] at h1
    obtain rfl : k = l.length := by omega
    rw [List.take_length]
    (repeat' ((conv => whnf); first | refine ⟨rfl, ?_⟩ | (intro ep) | fail))
    exact ⟨fun _ => ep, rfl, rfl⟩

def appP (p q : Pc) : Except Int Pc :=
  if chk p ≠ 0 then .error (chk p) else if chk q ≠ 0 then .error (chk q) else if p.ins ≠ q.ins then .error 11 else if 400 < p.evs.length + q.evs.length then .error 2 else .ok ⟨p.ins, p.evs ++ q.evs⟩

theorem end_app {i : Ins} {ep n : Nat} {rows : List (List AV)} {ob : AObj} {l : List Evt} {h : Heap} (hr : rows = l.map evR) (hn : n = l.length) (hob : pureObj ob) :
    (∀ o ∈ [AObj.vec ep rows, ob], pureObj o) ∧ frzK h (fzV [.vec ep rows, ob] (.tup [.agg [crsA i.cs, intsA i.steps, .oslc (.d 0) ep 6 0 n false], .int .i64 0])) fun r' _ => r'.isPure2 = true ∧ r' = .tup [pcA ⟨i, l⟩, .int .i64 0] := by
  subst hr hn
  refine ⟨fun o ho => ?_, ?_⟩
  · rcases List.mem_cons.1 ho with rfl | ho
    · exact pure_map l fun x => rfl
    · obtain rfl := List.mem_singleton.1 ho
      exact hob
  · have e : fzV [.vec ep (l.map evR), ob] (.tup [.agg [crsA i.cs, intsA i.steps, .oslc (.d 0) ep 6 0 l.length false], .int .i64 0]) = .tup [pcA ⟨i, l⟩, .int .i64 0] := by
      simp [fzV, fzC, pcA, crsA, intsA, evsA]
    rw [e]
    exact frzK_pure rfl ⟨rfl, rfl⟩

def A44 : Ann := fun r => match r with
  | 0 => { slots := [(0, 0), (1, 1), (2, 2)] }
  | 11 => { slots := [(9, 3)], canon := some [0, 1, 2, 3, 4, 6, 7, 5, 8, 9, 10, 11, 12] }
  | _ => {}
def A45 : Ann := fun r => match r with
  | 0 => { slots := [(0, 0), (1, 1), (2, 2)] }
  | 11 => { slots := [(2, 3)] }
  | 12 => { slots := [(5, 4)], canon := some [0, 1, 2, 3, 4, 5, 6, 7] }
  | _ => {}
set_option maxHeartbeats 4000000 in
set_option maxRecDepth 100000 in
theorem append_spec (p q : Pc) (hp : p.Ok) (hq : q.Ok) (hs : p.Sm) (hs2 : q.Sm) : PRet C.P 44 [pcA p, pcA q] (pcE (appP p q)) := by
  have h1 := check_spec p hp
  have h2 := check_spec q hq
  have h3 := sameIn83_spec p.ins q.ins hs.two.cs hs.two.st
  have h4 := copiedIn_spec p.ins hs.two.cs hs.two.st
  have m1 := mapped86_spec p.evs hs.two.ev hs.two.sp
  have m2 := mapped86_spec q.evs hs2.two.ev hs2.two.sp
  have hle := hs.ev
  have hle2 := hs2.ev
  have t1 := takeAll p.evs evR
  have t2 := takeAll q.evs evR
  unfold appP
  have hn : ∀ {x : Pc}, chk x = 0 → ¬ (chk x ≠ 0) := fun h g => g h
  by_cases g1 : chk p = 0
  · rw [if_neg (hn g1)]
    rw [g1] at h1
    by_cases g2 : chk q = 0
    · rw [if_neg (hn g2)]
      rw [g2] at h2
      by_cases g3 : p.ins = q.ins
      · rw [if_neg (fun g => g g3)]
        rw [decide_eq_true g3] at h3
        by_cases g4 : 400 < p.evs.length + q.evs.length
        · rw [if_pos g4]
          refine pretD_of (okx [85] []) mixed (A := A44) 4 Try.func44 rfl ?_
          (repeat' (first | exact rfl | ((conv => whnf); first | refine ⟨_, h1, ?_⟩ | refine ⟨_, h2, ?_⟩ | refine ⟨_, h3, ?_⟩ | exact rfl | refine ⟨by kernel_rfl, ?_⟩ | exact ⟨rfl, rfl⟩ | refine ⟨rfl, ?_⟩ | refine ⟨by (first | omega | (simp (disch := omega) only [wrapI]; omega) | (simp (disch := omega) only [wrapI]; simp; omega) | (simp; omega)), ?_⟩ | (intro ep) | refine ⟨fun o ho => (List.not_mem_nil (a := o) ho).elim, ?_⟩ | (refine ifB (fun hb => ?_) (fun hb => ?_) <;> (try simp only [decide_eq_true_eq, decide_eq_false_iff_not, beq_iff_eq, beq_eq_false_iff_ne, bne_iff_ne, bne_eq_false_iff_eq, ne_eq, not_false_eq_true, not_true_eq_false, Bool.not_eq_true, Bool.not_eq_true', Bool.not_eq_false', Int.not_lt, Int.not_le] at hb) <;> (try simp (disch := omega) only [wrapI] at hb) <;> (try (exfalso; omega))) | fail)))
        · rw [if_neg g4]
          refine pretD_of (okx [85] []) mixed (A := A44) 4 Try.func44 rfl ?_
          (repeat' (first | exact rfl | ((conv => whnf); first | refine ⟨_, h1, ?_⟩ | refine ⟨_, h2, ?_⟩ | refine ⟨_, h3, ?_⟩ | refine ⟨_, h4, ?_⟩ | refine ⟨_, _, m1, fun eps => ?_⟩ | refine ⟨_, _, m2, fun eps => ?_⟩ | exact rfl | refine ⟨by kernel_rfl, ?_⟩ | exact ⟨rfl, rfl⟩ | refine ⟨rfl, ?_⟩ | refine ⟨by (first | omega | (simp (disch := omega) only [wrapI]; omega) | (simp (disch := omega) only [wrapI]; simp; omega) | (simp; omega)), ?_⟩ | (intro ep) | (refine ifB (fun hb => ?_) (fun hb => ?_) <;> (try simp only [decide_eq_true_eq, decide_eq_false_iff_not, beq_iff_eq, beq_eq_false_iff_ne, bne_iff_ne, bne_eq_false_iff_eq, ne_eq, not_false_eq_true, not_true_eq_false, Bool.not_eq_true, Bool.not_eq_true', Bool.not_eq_false', Int.not_lt, Int.not_le] at hb) <;> (try simp (disch := omega) only [wrapI] at hb) <;> (try (exfalso; omega))) | fail)))
          (conv => whnf)
          refine end_app (l := p.evs ++ q.evs) ?_ ?_ ?_
          · rw [t1, t2, List.map_append]
          · rw [t2]; simp
          · exact pure_map q.evs fun x => rfl
      · rw [if_pos g3]
        rw [decide_eq_false g3] at h3
        refine pretD_of (okx [85] []) mixed (A := A44) 4 Try.func44 rfl ?_
        (repeat' (first | exact rfl | ((conv => whnf); first | refine ⟨_, h1, ?_⟩ | refine ⟨_, h2, ?_⟩ | refine ⟨_, h3, ?_⟩ | exact rfl | refine ⟨by kernel_rfl, ?_⟩ | exact ⟨rfl, rfl⟩ | refine ⟨rfl, ?_⟩ | refine ⟨by (first | omega | (simp (disch := omega) only [wrapI]; omega) | (simp (disch := omega) only [wrapI]; simp; omega) | (simp; omega)), ?_⟩ | (intro ep) | refine ⟨fun o ho => (List.not_mem_nil (a := o) ho).elim, ?_⟩ | (refine ifB (fun hb => ?_) (fun hb => ?_) <;> (try simp only [decide_eq_true_eq, decide_eq_false_iff_not, beq_iff_eq, beq_eq_false_iff_ne, bne_iff_ne, bne_eq_false_iff_eq, ne_eq, not_false_eq_true, not_true_eq_false, Bool.not_eq_true, Bool.not_eq_true', Bool.not_eq_false', Int.not_lt, Int.not_le] at hb) <;> (try simp (disch := omega) only [wrapI] at hb) <;> (try (exfalso; omega))) | fail)))
    · rw [if_pos g2]
      refine pretD_of (okx [85] []) mixed (A := A44) 4 Try.func44 rfl ?_
      (repeat' (first | exact rfl | ((conv => whnf); first | refine ⟨_, h1, ?_⟩ | refine ⟨_, h2, ?_⟩ | exact rfl | refine ⟨by kernel_rfl, ?_⟩ | exact ⟨rfl, rfl⟩ | refine ⟨rfl, ?_⟩ | refine ⟨by (first | omega | (simp (disch := omega) only [wrapI]; omega) | (simp (disch := omega) only [wrapI]; simp; omega) | (simp; omega)), ?_⟩ | (intro ep) | refine ⟨fun o ho => (List.not_mem_nil (a := o) ho).elim, ?_⟩ | (refine ifB (fun hb => ?_) (fun hb => ?_) <;> (try simp only [decide_eq_true_eq, decide_eq_false_iff_not, beq_iff_eq, beq_eq_false_iff_ne, bne_iff_ne, bne_eq_false_iff_eq, ne_eq, not_false_eq_true, not_true_eq_false, Bool.not_eq_true, Bool.not_eq_true', Bool.not_eq_false', Int.not_lt, Int.not_le] at hb) <;> (try simp (disch := omega) only [wrapI] at hb) <;> (try (exfalso; omega))) | fail)))
  · rw [if_pos g1]
    refine pretD_of (okx [85] []) mixed (A := A44) 4 Try.func44 rfl ?_
    (repeat' (first | exact rfl | ((conv => whnf); first | refine ⟨_, h1, ?_⟩ | exact rfl | refine ⟨by kernel_rfl, ?_⟩ | exact ⟨rfl, rfl⟩ | refine ⟨rfl, ?_⟩ | refine ⟨by (first | omega | (simp (disch := omega) only [wrapI]; omega) | (simp (disch := omega) only [wrapI]; simp; omega) | (simp; omega)), ?_⟩ | (intro ep) | refine ⟨fun o ho => (List.not_mem_nil (a := o) ho).elim, ?_⟩ | (refine ifB (fun hb => ?_) (fun hb => ?_) <;> (try simp only [decide_eq_true_eq, decide_eq_false_iff_not, beq_iff_eq, beq_eq_false_iff_ne, bne_iff_ne, bne_eq_false_iff_eq, ne_eq, not_false_eq_true, not_true_eq_false, Bool.not_eq_true, Bool.not_eq_true', Bool.not_eq_false', Int.not_lt, Int.not_le] at hb) <;> (try simp (disch := omega) only [wrapI] at hb) <;> (try (exfalso; omega))) | fail)))

end Go.Ab.V

/-
  Append on the document's side; the law PieceAppends is true at every input.
-/
namespace Go.Ab.V
open Go.Proofs

set_option maxHeartbeats 4000000 in
set_option maxRecDepth 100000 in
theorem refAppend_spec (p q : Pc) (hp : p.Ok) (hq : q.Ok) (hs : p.Sm) (hs2 : q.Sm) : PRet C.P 45 [pcA p, pcA q] (pcE (appP p q)) := by
  have h1 := refCheck_spec p hp hs.ev
  have h2 := refCheck_spec q hq hs2.ev
  have h3 := sameIn62_spec p.ins q.ins hs.two.cs hs.two.st
  have m1 := copyM_spec p hs
  have m2 := copyM_spec q hs2
  have hle := hs.ev
  have hle2 := hs2.ev
  have t1 := takeAll p.evs evR
  have t2 := takeAll q.evs evR
  unfold appP
  have hn : ∀ {x : Pc}, chk x = 0 → ¬ (chk x ≠ 0) := fun h g => g h
  by_cases g1 : chk p = 0
  · rw [if_neg (hn g1)]
    rw [g1] at h1
    by_cases g2 : chk q = 0
    · rw [if_neg (hn g2)]
      rw [g2] at h2
      by_cases g3 : p.ins = q.ins
      · rw [if_neg (fun g => g g3)]
        rw [decide_eq_true g3] at h3
        by_cases g4 : 400 < p.evs.length + q.evs.length
        · rw [if_pos g4]
          refine pretD_of (okx [21] []) mixed (A := A45) 5 Try.func45 rfl ?_
          (repeat' (first | exact rfl | ((conv => whnf); first | refine ⟨_, h1, ?_⟩ | refine ⟨_, h2, ?_⟩ | refine ⟨_, h3, ?_⟩ | exact rfl | refine ⟨by kernel_rfl, ?_⟩ | exact ⟨rfl, rfl⟩ | refine ⟨rfl, ?_⟩ | refine ⟨by (first | omega | (simp (disch := omega) only [wrapI]; omega) | (simp (disch := omega) only [wrapI]; simp; omega) | (simp; omega)), ?_⟩ | (intro ep) | refine ⟨fun o ho => (List.not_mem_nil (a := o) ho).elim, ?_⟩ | (refine ifB (fun hb => ?_) (fun hb => ?_) <;> (try simp only [decide_eq_true_eq, decide_eq_false_iff_not, beq_iff_eq, beq_eq_false_iff_ne, bne_iff_ne, bne_eq_false_iff_eq, ne_eq, not_false_eq_true, not_true_eq_false, Bool.not_eq_true, Bool.not_eq_true', Bool.not_eq_false', Int.not_lt, Int.not_le] at hb) <;> (try simp (disch := omega) only [wrapI] at hb) <;> (try (exfalso; omega))) | fail)))
        · rw [if_neg g4]
          refine pretD_of (okx [21] []) mixed (A := A45) 5 Try.func45 rfl ?_
          (repeat' (first | exact rfl | ((conv => whnf); first | refine ⟨_, h1, ?_⟩ | refine ⟨_, h2, ?_⟩ | refine ⟨_, h3, ?_⟩ | refine ⟨_, _, m1, fun eps => ?_⟩ | refine ⟨_, _, m2, fun eps => ?_⟩ | exact rfl | refine ⟨by kernel_rfl, ?_⟩ | exact ⟨rfl, rfl⟩ | refine ⟨rfl, ?_⟩ | refine ⟨by (first | omega | (simp (disch := omega) only [wrapI]; omega) | (simp (disch := omega) only [wrapI]; simp; omega) | (simp; omega)), ?_⟩ | (intro ep) | (refine ifB (fun hb => ?_) (fun hb => ?_) <;> (try simp only [decide_eq_true_eq, decide_eq_false_iff_not, beq_iff_eq, beq_eq_false_iff_ne, bne_iff_ne, bne_eq_false_iff_eq, ne_eq, not_false_eq_true, not_true_eq_false, Bool.not_eq_true, Bool.not_eq_true', Bool.not_eq_false', Int.not_lt, Int.not_le] at hb) <;> (try simp (disch := omega) only [wrapI] at hb) <;> (try (exfalso; omega))) | fail)))
          (conv => whnf)
          refine end_app (l := p.evs ++ q.evs) ?_ ?_ ?_
          · rw [t1, t2, List.map_append]
          · rw [t2]; simp
          · exact pure_map q.evs fun x => rfl
      · rw [if_pos g3]
        rw [decide_eq_false g3] at h3
        refine pretD_of (okx [21] []) mixed (A := A45) 5 Try.func45 rfl ?_
        (repeat' (first | exact rfl | ((conv => whnf); first | refine ⟨_, h1, ?_⟩ | refine ⟨_, h2, ?_⟩ | refine ⟨_, h3, ?_⟩ | exact rfl | refine ⟨by kernel_rfl, ?_⟩ | exact ⟨rfl, rfl⟩ | refine ⟨rfl, ?_⟩ | refine ⟨by (first | omega | (simp (disch := omega) only [wrapI]; omega) | (simp (disch := omega) only [wrapI]; simp; omega) | (simp; omega)), ?_⟩ | (intro ep) | refine ⟨fun o ho => (List.not_mem_nil (a := o) ho).elim, ?_⟩ | (refine ifB (fun hb => ?_) (fun hb => ?_) <;> (try simp only [decide_eq_true_eq, decide_eq_false_iff_not, beq_iff_eq, beq_eq_false_iff_ne, bne_iff_ne, bne_eq_false_iff_eq, ne_eq, not_false_eq_true, not_true_eq_false, Bool.not_eq_true, Bool.not_eq_true', Bool.not_eq_false', Int.not_lt, Int.not_le] at hb) <;> (try simp (disch := omega) only [wrapI] at hb) <;> (try (exfalso; omega))) | fail)))
    · rw [if_pos g2]
      refine pretD_of (okx [21] []) mixed (A := A45) 5 Try.func45 rfl ?_
      (repeat' (first | exact rfl | ((conv => whnf); first | refine ⟨_, h1, ?_⟩ | refine ⟨_, h2, ?_⟩ | exact rfl | refine ⟨by kernel_rfl, ?_⟩ | exact ⟨rfl, rfl⟩ | refine ⟨rfl, ?_⟩ | refine ⟨by (first | omega | (simp (disch := omega) only [wrapI]; omega) | (simp (disch := omega) only [wrapI]; simp; omega) | (simp; omega)), ?_⟩ | (intro ep) | refine ⟨fun o ho => (List.not_mem_nil (a := o) ho).elim, ?_⟩ | (refine ifB (fun hb => ?_) (fun hb => ?_) <;> (try simp only [decide_eq_true_eq, decide_eq_false_iff_not, beq_iff_eq, beq_eq_false_iff_ne, bne_iff_ne, bne_eq_false_iff_eq, ne_eq, not_false_eq_true, not_true_eq_false, Bool.not_eq_true, Bool.not_eq_true', Bool.not_eq_false', Int.not_lt, Int.not_le] at hb) <;> (try simp (disch := omega) only [wrapI] at hb) <;> (try (exfalso; omega))) | fail)))
  · rw [if_pos g1]
    refine pretD_of (okx [21] []) mixed (A := A45) 5 Try.func45 rfl ?_
    (repeat' (first | exact rfl | ((conv => whnf); first | refine ⟨_, h1, ?_⟩ | exact rfl | refine ⟨by kernel_rfl, ?_⟩ | exact ⟨rfl, rfl⟩ | refine ⟨rfl, ?_⟩ | refine ⟨by (first | omega | (simp (disch := omega) only [wrapI]; omega) | (simp (disch := omega) only [wrapI]; simp; omega) | (simp; omega)), ?_⟩ | (intro ep) | refine ⟨fun o ho => (List.not_mem_nil (a := o) ho).elim, ?_⟩ | (refine ifB (fun hb => ?_) (fun hb => ?_) <;> (try simp only [decide_eq_true_eq, decide_eq_false_iff_not, beq_iff_eq, beq_eq_false_iff_ne, bne_iff_ne, bne_eq_false_iff_eq, ne_eq, not_false_eq_true, not_true_eq_false, Bool.not_eq_true, Bool.not_eq_true', Bool.not_eq_false', Int.not_lt, Int.not_le] at hb) <;> (try simp (disch := omega) only [wrapI] at hb) <;> (try (exfalso; omega))) | fail)))


def A10 : Ann := fun r => match r with
  | 0 => { slots := [(0, 0), (1, 1)] }
  | 3 => { slots := [(8, 2)] }
  | 4 => { slots := [(6, 3)] }
  | _ => {}
theorem app_sm {p q x : Pc} (hs : p.Sm) (hs2 : q.Sm) (h : appP p q = .ok x) : x.Sm2 := by
  unfold appP at h
  split at h
  · cases h
  · split at h
    · cases h
    · split at h
      · cases h
      · split at h
        · cases h
        · cases h
          refine ⟨hs.two.cs, hs.two.st, by simp; have := hs.ev; have := hs2.ev; omega, fun e he => ?_⟩
          rcases List.mem_append.1 he with he | he
          · exact hs.two.sp e he
          · exact hs2.two.sp e he
set_option maxHeartbeats 8000000 in
set_option maxRecDepth 100000 in
theorem law_appends (p q : Pc) (hp : p.Ok) (hq : q.Ok) : ACalls C.P 10 [pcA p, pcA q] Heap.nil fun r _ => r = .bool true := by
  have b1 := big_spec p hp
  have b2 := big_spec q hq
  cases g1 : bigB p
  · rw [g1] at b1
    have hs := Pc.Sm.of_big g1
    have c1 := copy_spec p hs
    cases g2 : bigB q
    · rw [g2] at b2
      have hs2 := Pc.Sm.of_big g2
      have c2 := copy_spec q hs2
      have a1 := append_spec p q hp hq hs hs2
      have a2 := refAppend_spec p q hp hq hs hs2
      cases hX0 : appP p q with
      | error e0 =>
        rw [hX0] at a1 a2
        have hsame := refSame_zero
        refine fn_of ok mixed (A := A10) 4 Try.func10 rfl ?_
        (repeat' (first | exact rfl | ((conv => whnf); first | refine ⟨_, b1, ?_⟩ | refine ⟨_, b2, ?_⟩ | refine ⟨_, c1, ?_⟩ | refine ⟨_, c2, ?_⟩ | refine ⟨_, a1, ?_⟩ | refine ⟨_, a2, ?_⟩ | refine ⟨_, hsame, ?_⟩ | refine ⟨_, works_spec, ?_⟩ | exact rfl | refine ⟨by kernel_rfl, ?_⟩ | exact ⟨rfl, rfl⟩ | refine ⟨rfl, ?_⟩ | refine ⟨by (first | omega | (simp (disch := omega) only [wrapI]; omega) | (simp (disch := omega) only [wrapI]; simp; omega) | (simp; omega)), ?_⟩ | (intro ep) | (refine ifB (fun hb => ?_) (fun hb => ?_) <;> (try (exfalso; simp at hb; done))) | fail)))
      | ok x =>
        rw [hX0] at a1 a2
        have hsame := refSame_self x (app_sm hs hs2 hX0)
        refine fn_of ok mixed (A := A10) 4 Try.func10 rfl ?_
        (repeat' (first | exact rfl | ((conv => whnf); first | refine ⟨_, b1, ?_⟩ | refine ⟨_, b2, ?_⟩ | refine ⟨_, c1, ?_⟩ | refine ⟨_, c2, ?_⟩ | refine ⟨_, a1, ?_⟩ | refine ⟨_, a2, ?_⟩ | refine ⟨_, hsame, ?_⟩ | refine ⟨_, works_spec, ?_⟩ | exact rfl | refine ⟨by kernel_rfl, ?_⟩ | exact ⟨rfl, rfl⟩ | refine ⟨rfl, ?_⟩ | refine ⟨by (first | omega | (simp (disch := omega) only [wrapI]; omega) | (simp (disch := omega) only [wrapI]; simp; omega) | (simp; omega)), ?_⟩ | (intro ep) | (refine ifB (fun hb => ?_) (fun hb => ?_) <;> (try (exfalso; simp at hb; done))) | fail)))
    · rw [g2] at b2
      refine fn_of ok mixed (A := A10) 4 Try.func10 rfl ?_
      (repeat' (first | exact rfl | ((conv => whnf); first | refine ⟨_, b1, ?_⟩ | refine ⟨_, b2, ?_⟩ | refine ⟨_, works_spec, ?_⟩ | exact rfl | refine ⟨by kernel_rfl, ?_⟩ | exact ⟨rfl, rfl⟩ | refine ⟨rfl, ?_⟩ | refine ⟨by (first | omega | (simp (disch := omega) only [wrapI]; omega) | (simp (disch := omega) only [wrapI]; simp; omega) | (simp; omega)), ?_⟩ | (intro ep) | (refine ifB (fun hb => ?_) (fun hb => ?_) <;> (try simp only [decide_eq_true_eq, decide_eq_false_iff_not, beq_iff_eq, beq_eq_false_iff_ne, bne_iff_ne, bne_eq_false_iff_eq, ne_eq, not_false_eq_true, not_true_eq_false, Bool.not_eq_true, Bool.not_eq_true', Bool.not_eq_false', Int.not_lt, Int.not_le] at hb) <;> (try simp (disch := omega) only [wrapI] at hb) <;> (try (exfalso; omega))) | fail)))
  · rw [g1] at b1
    refine fn_of ok mixed (A := A10) 4 Try.func10 rfl ?_
    (repeat' (first | exact rfl | ((conv => whnf); first | refine ⟨_, b1, ?_⟩ | refine ⟨_, works_spec, ?_⟩ | exact rfl | refine ⟨by kernel_rfl, ?_⟩ | exact ⟨rfl, rfl⟩ | refine ⟨rfl, ?_⟩ | refine ⟨by (first | omega | (simp (disch := omega) only [wrapI]; omega) | (simp (disch := omega) only [wrapI]; simp; omega) | (simp; omega)), ?_⟩ | (intro ep) | (refine ifB (fun hb => ?_) (fun hb => ?_) <;> (try simp only [decide_eq_true_eq, decide_eq_false_iff_not, beq_iff_eq, beq_eq_false_iff_ne, bne_iff_ne, bne_eq_false_iff_eq, ne_eq, not_false_eq_true, not_true_eq_false, Bool.not_eq_true, Bool.not_eq_true', Bool.not_eq_false', Int.not_lt, Int.not_le] at hb) <;> (try simp (disch := omega) only [wrapI] at hb) <;> (try (exfalso; omega))) | fail)))

end Go.Ab.V
