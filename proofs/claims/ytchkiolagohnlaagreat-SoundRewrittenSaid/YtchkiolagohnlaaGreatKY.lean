/-
  What is proved here serves the law's text: each part says its own claim and its conditions. No condition is left open.
-/
import Derived.Test.YtchkiolagohnlaaGreatKN
import Derived.Test.YtchkiolagohnlaaGreatKF
import Derived.Test.YtchkiolagohnlaaGreatKX
import Derived.Test.YtchkiolagohnlaaGreatKO
set_option linter.unusedSimpArgs false
set_option linter.unusedVariables false

/-
  The document's Copy, of an instrument and of a piece. No condition but the machine's bounds on lengths.
-/
namespace Go.Ab.V
open Go.Proofs

theorem pure_map {α : Type} {f : α → List AV} (l : List α) (h : ∀ x, (f x).all AV.pure1 = true) : pureRows (l.map f) := by
  intro row hr c hc
  obtain ⟨x, _, rfl⟩ := List.mem_map.mp hr
  exact List.all_eq_true.mp (h x) c hc
theorem takeAll {α β : Type} (l : List α) (f : α → β) : List.take l.length (List.drop 0 (l.map f)) = l.map f := by rw [List.drop_zero, List.take_of_length_le (by simp)]

def A24 : Ann := fun r => match r with
  | 0 => { slots := [(0, 0), (1, 1)] }
  | 1 => { slots := [(0, 2), (3, 3), (4, 4), (7, 5)], canon := some [1, 2, 5, 6, 0, 3, 4, 7, 8, 9], dg := true }
  | _ => {}

set_option maxHeartbeats 1000000 in
set_option maxRecDepth 100000 in
theorem copyIn_spec (i : Ins) (h1 : i.cs.length ≤ 4000) (h2 : i.steps.length ≤ 4000) : PRet C.P 24 [inA i] (inA i) := by
  refine pret_of ok mixed (A := A24) 6 Tryz.func24 rfl ?_
  (repeat' (first | exact rfl | ((conv => whnf); first | exact rfl | refine ⟨by kernel_rfl, ?_⟩ | exact ⟨rfl, rfl⟩ | refine ⟨rfl, ?_⟩ | refine ⟨by (first | omega | (simp (disch := omega) only [wrapI]; omega) | (simp (disch := omega) only [wrapI]; simp; omega) | (simp; omega)), ?_⟩ | (intro ep) | (refine ifB (fun hb => ?_) (fun hb => ?_) <;> (try simp only [decide_eq_true_eq, decide_eq_false_iff_not, beq_iff_eq, beq_eq_false_iff_ne, bne_iff_ne, bne_eq_false_iff_eq, ne_eq, not_false_eq_true, not_true_eq_false, Bool.not_eq_true, Bool.not_eq_true', Bool.not_eq_false', Int.not_lt, Int.not_le] at hb) <;> (try simp (disch := omega) only [wrapI] at hb) <;> (try (exfalso; omega))) | fail)))
  have t1 := takeAll i.cs crR
  have t2 : List.take i.steps.length (List.drop 0 (ints i.steps)) = ints i.steps := takeAll i.steps _
  rw [t1, t2]
  refine ⟨pure_map _ fun x => rfl, ?_⟩
  (conv => whnf)
  refine ⟨rfl, ?_⟩
  (conv => whnf)
  refine ⟨pure_map _ fun x => rfl, ?_⟩
  (conv => whnf)
  refine ⟨rfl, ?_⟩
  show AV.agg [.lslc 3 (i.cs.map crR) 0 (i.cs.map crR).length false, .lslc 1 (ints i.steps) 0 (ints i.steps).length false] = _
  rw [List.length_map, show (ints i.steps).length = i.steps.length from List.length_map ..]
  rfl

/-- the sizes that a statement looks at -/
structure Pc.Sm (p : Pc) : Prop where
  cs : p.ins.cs.length ≤ 4000
  st : p.ins.steps.length ≤ 4000
  ev : p.evs.length ≤ 4000
  sp : ∀ e ∈ p.evs, e.stops.length ≤ 4000

def noS : AV → Bool
  | .oslc (.s _) _ _ _ _ _ => false
  | _ => true
theorem eqsP_no {n ep : Nat} : ∀ {l : List AV}, (∀ a ∈ l, noS a = true) → eqsP n ep l
  | [], _ => trivial
  | a :: l, h => by
    have h1 := h a (List.mem_cons_self ..)
    have h2 := eqsP_no (n := n) (ep := ep) fun b hb => h b (List.mem_cons_of_mem _ hb)
    unfold eqsP
    split
    · simp [noS] at h1
    · exact h2
theorem eqsP_rows {α : Type} {n ep : Nat} {f : α → List AV} (l : List α) (h : ∀ x, (f x).all noS = true) : eqsP n ep ((l.map f).flatten) :=
  eqsP_no fun a ha => by
    obtain ⟨r, hr, ha⟩ := List.mem_flatten.1 ha
    obtain ⟨x, _, rfl⟩ := List.mem_map.1 hr
    exact List.all_eq_true.1 (h x) a ha
theorem fcS_no {n : Nat} {rows : List (List AV)} {a : AV} (h : noS a = true) : fcS n rows a = a := by
  unfold fcS
  split
  · simp [noS] at h
  · rfl
theorem fc_rows {α : Type} {n : Nat} {rows : List (List AV)} {f : α → List AV} (l : List α) (h : ∀ x, (f x).all noS = true) : ((l.map f).map fun r => r.map (fcS n rows)) = l.map f := by
  rw [List.map_map]
  refine List.map_congr_left fun x _ => ?_
  show (f x).map (fcS n rows) = f x
  refine (List.map_congr_left fun a ha => ?_).trans (List.map_id _)
  exact fcS_no (List.all_eq_true.1 (h x) a ha)

def A8 : Ann := fun r => match r with
  | 0 => { slots := [(0, 0), (1, 1)] }
  | 1 => { slots := [(4, 2)] }
  | 5 => { slots := [(5, 3)] }
  | 6 => { slots := [(0, 4), (3, 5)], frz := [2022, 1004] }
  | 7 => { slots := [(3, 6), (4, 7)] }
  | _ => {}

set_option maxHeartbeats 2000000 in
set_option maxRecDepth 100000 in
theorem copy_spec (p : Pc) (hp : p.Sm) : PRet C.P 8 [pcA p] (pcA p) := by
  have hle := hp.ev
  have hci := copyIn_spec p.ins hp.cs hp.st
  refine pret_of ok mixed (A := A8) 8 Tryz.func8 rfl ?_
  (conv => whnf)
  intro e0
  (conv => whnf)
  intro e1
  (repeat' (first | exact rfl | ((conv => whnf); first | exact rfl | refine ⟨by kernel_rfl, ?_⟩ | exact ⟨rfl, rfl⟩ | refine ⟨rfl, ?_⟩ | refine ⟨by (first | omega | (simp (disch := omega) only [wrapI]; omega) | (simp (disch := omega) only [wrapI]; simp; omega) | (simp; omega)), ?_⟩ | (intro ep) | refine ⟨_, hci, ?_⟩ | (refine ifB (fun hb => ?_) (fun hb => ?_) <;> (try simp only [decide_eq_true_eq, decide_eq_false_iff_not, beq_iff_eq, beq_eq_false_iff_ne, bne_iff_ne, bne_eq_false_iff_eq, ne_eq, not_false_eq_true, not_true_eq_false, Bool.not_eq_true, Bool.not_eq_true', Bool.not_eq_false', Int.not_lt, Int.not_le] at hb) <;> (try simp (disch := omega) only [wrapI] at hb) <;> (try (exfalso; omega))) | fail)))
  obtain ⟨e2, he⟩ : ∃ e, e = ep := ⟨_, rfl⟩
  subst he
  (conv => whnf)
  refine wk_liftC 2 7 e2 6 0 2 (by decide) rfl rfl rfl ?_
  intro eA
  refine loopM ok mixed (A := A8) [1, 2, 3, 4] [0, 1, 2, 7] (S := { x : Nat × Nat // x.1 ≤ p.evs.length })
    (fr := fun s => frOf 0 34 [(1, .optr (.s 0) e0 3 0 0), (2, .optr (.s 1) e1 3 0 0), (3, .optr (.s 2) e2 3 0 0), (4, .int .i64 (s.1.1 : Int))])
    (h := fun s => ⟨[.vec e0 [[crsA p.ins.cs, intsA p.ins.steps, evsA p.evs]], .vec e1 [[.nils, .nils, .nils]], .vec e2 [[crsA p.ins.cs, intsA p.ins.steps, .oslc (.s 7) s.1.2 6 0 s.1.1 false]], .hole, .hole, .hole, .hole, .vec s.1.2 ((p.evs.take s.1.1).map evR)], []⟩) (μ := fun s => p.evs.length - s.1.1) ⟨(0, eA), by simp⟩ ?_ ?_ ?_
  · exact rfl
  · exact rfl
  rintro ⟨⟨k, eB⟩, hk⟩
  simp only at hk
  show aexR _ _ _ (frOf 0 34 [(1, .optr (.s 0) e0 3 0 0), (2, .optr (.s 1) e1 3 0 0), (3, .optr (.s 2) e2 3 0 0), (4, .int .i64 (k : Int))])
    ⟨[.vec e0 [[crsA p.ins.cs, intsA p.ins.steps, evsA p.evs]], .vec e1 [[.nils, .nils, .nils]], .vec e2 [[crsA p.ins.cs, intsA p.ins.steps, .oslc (.s 7) eB 6 0 k false]], .hole, .hole, .hole, .hole, .vec eB ((p.evs.take k).map evR)], []⟩ _
  (conv => whnf)
  refine ⟨rfl, ?_⟩
  (conv => whnf)
  refine ifB (fun h1 => ?_) (fun h1 => ?_)
  · simp only [decide_eq_true_eq] at h1
    have hlt : k < p.evs.length := by omega
    obtain ⟨e, hev⟩ : ∃ e, p.evs[k] = e := ⟨_, rfl⟩
    have hm : (p.evs.map evR)[0 + ((k : Nat) : Int).toNat]? = some (evR e) := by rw [mapR hlt, hev]
    have hsl := hp.sp e (by rw [← hev]; exact List.getElem_mem hlt)
    have t1 := takeAll e.stops stR
    (repeat' (first | exact rfl | ((conv => whnf); first | exact rfl | refine ⟨by kernel_rfl, ?_⟩ | exact ⟨rfl, rfl⟩ | refine ⟨rfl, ?_⟩ | refine ⟨by (first | omega | (simp (disch := omega) only [wrapI]; omega) | (simp (disch := omega) only [wrapI]; simp; omega) | (simp; omega)), ?_⟩ | (intro ep) | refine optS hm ?_ | (refine ifB (fun hb => ?_) (fun hb => ?_) <;> (try simp only [decide_eq_true_eq, decide_eq_false_iff_not, beq_iff_eq, beq_eq_false_iff_ne, bne_iff_ne, bne_eq_false_iff_eq, ne_eq, not_false_eq_true, not_true_eq_false, Bool.not_eq_true, Bool.not_eq_true', Bool.not_eq_false', Int.not_lt, Int.not_le] at hb) <;> (try simp (disch := omega) only [wrapI] at hb) <;> (try (exfalso; omega))) | fail)))
    (conv => whnf)
    refine ⟨(by
      show pureRows (List.take e.stops.length (List.drop 0 (List.map stR e.stops)))
      rw [t1]
      exact pure_map _ fun x => rfl), by (repeat' (first | exact trivial | exact eqsP_rows _ (fun x => rfl) | ((conv => whnf); first | exact trivial | refine ⟨rfl, ?_⟩ | refine ⟨?_, ?_⟩ | fail))), by (repeat' (first | exact trivial | exact eqsP_rows _ (fun x => rfl) | ((conv => whnf); first | exact trivial | refine ⟨rfl, ?_⟩ | refine ⟨?_, ?_⟩ | fail))), by (repeat' (first | exact trivial | exact eqsP_rows _ (fun x => rfl) | ((conv => whnf); first | exact trivial | refine ⟨rfl, ?_⟩ | refine ⟨?_, ?_⟩ | fail))), ?_⟩
    (repeat' (first | exact rfl | ((conv => whnf); first | exact rfl | refine ⟨by kernel_rfl, ?_⟩ | exact ⟨rfl, rfl⟩ | refine ⟨rfl, ?_⟩ | refine ⟨by (first | omega | (simp (disch := omega) only [wrapI]; omega) | (simp (disch := omega) only [wrapI]; simp; omega) | (simp; omega)), ?_⟩ | (intro ep) | (refine ifB (fun hb => ?_) (fun hb => ?_) <;> (try simp only [decide_eq_true_eq, decide_eq_false_iff_not, beq_iff_eq, beq_eq_false_iff_ne, bne_iff_ne, bne_eq_false_iff_eq, ne_eq, not_false_eq_true, not_true_eq_false, Bool.not_eq_true, Bool.not_eq_true', Bool.not_eq_false', Int.not_lt, Int.not_le] at hb) <;> (try simp (disch := omega) only [wrapI] at hb) <;> (try (exfalso; omega))) | fail)))
    (conv => whnf)
    refine back_of ⟨(k + 1, ep), by simp only; omega⟩ ⟨by (first | exact rfl | (simp (disch := omega) only [wrapI]; exact rfl)), ?_, by simp only; omega⟩
    refine Eq.trans (b := ⟨[.vec e0 [[crsA p.ins.cs, intsA p.ins.steps, evsA p.evs]], .vec e1 [[.nils, .nils, .nils]], .vec e2 [[crsA p.ins.cs, intsA p.ins.steps, .oslc (.s 7) ep 6 0 (k + 1) false]], .hole, .hole, .hole, .hole,
      .vec ep (List.take k (List.drop 0 (((p.evs.take k).map evR).map fun r => r.map (fcS 4 (List.take e.stops.length (List.drop 0 (List.map stR e.stops)))))) ++
        [[.bool e.bar, .int .i64 e.v, .bool e.d, .bool e.t, .bool e.tie, .lslc 5 (List.take e.stops.length (List.drop 0 (List.map stR e.stops))) 0 (0 + (List.take e.stops.length (List.drop 0 (List.map stR e.stops))).length) false]])], []⟩) rfl ?_
    rw [fc_rows _ fun x => rfl, t1]
    have t3 : List.take k (List.drop 0 ((p.evs.take k).map evR)) = (p.evs.take k).map evR := by rw [List.drop_zero, List.take_of_length_le (by simp; omega)]
    have t4 : (p.evs.take (k + 1)).map evR = (p.evs.take k).map evR ++ [evR e] := by
      rw [List.take_add_one, List.getElem?_eq_getElem hlt, hev]
      simp
    rw [t3, t4, List.length_map, Nat.zero_add]
    rfl
  · simp only [decide_eq_false_iff_not] at h1
    have q1 : p.evs.take k = p.evs := List.take_of_length_le (by omega)
    have q2 : k = p.evs.length := by omega
    (repeat' (first | exact rfl | ((conv => whnf); first | exact rfl | refine ⟨by kernel_rfl, ?_⟩ | exact ⟨rfl, rfl⟩ | refine ⟨rfl, ?_⟩ | refine ⟨by (first | omega | (simp (disch := omega) only [wrapI]; omega) | (simp (disch := omega) only [wrapI]; simp; omega) | (simp; omega)), ?_⟩ | (intro ep) | (refine ifB (fun hb => ?_) (fun hb => ?_) <;> (try simp only [decide_eq_true_eq, decide_eq_false_iff_not, beq_iff_eq, beq_eq_false_iff_ne, bne_iff_ne, bne_eq_false_iff_eq, ne_eq, not_false_eq_true, not_true_eq_false, Bool.not_eq_true, Bool.not_eq_true', Bool.not_eq_false', Int.not_lt, Int.not_le] at hb) <;> (try simp (disch := omega) only [wrapI] at hb) <;> (try (exfalso; omega))) | fail)))
    rw [q1, q2]
    refine ⟨pure_map _ fun x => rfl, ?_⟩
    exact ⟨rfl, rfl⟩

end Go.Ab.V

/-
  What a statement looks at (Big); the law PieceChecks is true at every input.
-/
namespace Go.Ab.V
open Go.Proofs

def bigE : List Evt → Bool
  | [] => false
  | e :: r => decide (20 < e.stops.length) || bigE r
def bigB (p : Pc) : Bool := decide (64 < p.ins.cs.length ∨ 64 < p.ins.steps.length ∨ 420 < p.evs.length) || bigE p.evs
theorem bigE_no : ∀ {l : List Evt}, bigE l = false → ∀ e ∈ l, e.stops.length ≤ 20
  | [], _, _, h => by cases h
  | a :: r, h, e, he => by
    simp only [bigE, Bool.or_eq_false_iff, decide_eq_false_iff_not] at h
    rcases List.mem_cons.1 he with rfl | he
    · omega
    · exact bigE_no h.2 e he
theorem big_sm {p : Pc} (h : bigB p = false) : p.ins.cs.length ≤ 64 ∧ p.ins.steps.length ≤ 64 ∧ p.evs.length ≤ 420 ∧ ∀ e ∈ p.evs, e.stops.length ≤ 20 := by
  simp only [bigB, Bool.or_eq_false_iff, decide_eq_false_iff_not] at h
  exact ⟨by omega, by omega, by omega, bigE_no h.2⟩
theorem Pc.Sm.of_big {p : Pc} (h : bigB p = false) : p.Sm := by
  obtain ⟨a, b, c, d⟩ := big_sm h
  exact ⟨by omega, by omega, by omega, fun e he => by have := d e he; omega⟩

def A14 : Ann := fun r => match r with
  | 0 => { slots := [(0, 0)] }
  | _ => {}

set_option maxHeartbeats 1000000 in
set_option maxRecDepth 100000 in
theorem big_spec (p : Pc) (hp : p.Ok) : PRet C.P 14 [pcA p] (.bool (bigB p)) := by
  refine pret_of ok mixed (A := A14) 1 Tryz.func14 rfl ?_
  (repeat' (first | exact rfl | ((conv => whnf); first | exact rfl | refine ⟨by kernel_rfl, ?_⟩ | exact ⟨rfl, rfl⟩ | refine ⟨rfl, ?_⟩ | refine ⟨by (first | omega | (simp (disch := omega) only [wrapI]; omega) | (simp (disch := omega) only [wrapI]; simp; omega) | (simp; omega)), ?_⟩ | (intro ep) | (refine ifB (fun hb => ?_) (fun hb => ?_) <;> (try simp only [decide_eq_true_eq, decide_eq_false_iff_not, beq_iff_eq, beq_eq_false_iff_ne, bne_iff_ne, bne_eq_false_iff_eq, ne_eq, not_false_eq_true, not_true_eq_false, Bool.not_eq_true, Bool.not_eq_true', Bool.not_eq_false', Int.not_lt, Int.not_le] at hb) <;> (try simp (disch := omega) only [wrapI] at hb) <;> (try (exfalso; omega))) | fail)))
  all_goals (try (show AV.bool true = AV.bool (bigB p); unfold bigB; rw [decide_eq_true (by omega)]; rfl))
  have hA : bigB p = bigE p.evs := by unfold bigB; rw [decide_eq_false (by omega)]; rfl
  rw [hA]
  obtain ⟨e0, he⟩ : ∃ e1, e1 = ep := ⟨_, rfl⟩
  subst he
  (repeat' (first | exact rfl | ((conv => whnf); first | exact rfl | refine ⟨by kernel_rfl, ?_⟩ | exact ⟨rfl, rfl⟩ | refine ⟨rfl, ?_⟩ | refine ⟨by (first | omega | (simp (disch := omega) only [wrapI]; omega) | (simp (disch := omega) only [wrapI]; simp; omega) | (simp; omega)), ?_⟩ | (intro ep) | (refine ifB (fun hb => ?_) (fun hb => ?_) <;> (try simp only [decide_eq_true_eq, decide_eq_false_iff_not, beq_iff_eq, beq_eq_false_iff_ne, bne_iff_ne, bne_eq_false_iff_eq, ne_eq, not_false_eq_true, not_true_eq_false, Bool.not_eq_true, Bool.not_eq_true', Bool.not_eq_false', Int.not_lt, Int.not_le] at hb) <;> (try simp (disch := omega) only [wrapI] at hb) <;> (try (exfalso; omega))) | fail)))
  (conv => whnf)
  refine loopM ok mixed (A := A14) [1, 3] [0] (S := { k : Nat // k ≤ p.evs.length ∧ bigE (p.evs.drop k) = bigE p.evs })
    (fr := fun s => frOf 0 37 [(1, .optr (.s 0) e0 3 0 0), (3, .int .i64 (s.1 : Int))])
    (h := fun s => ⟨[.vec e0 [[crsA p.ins.cs, intsA p.ins.steps, evsA p.evs]]], []⟩) (μ := fun s => p.evs.length - s.1) ⟨0, by omega, rfl⟩ rfl rfl ?_
  rintro ⟨k, hk, hs⟩
  show aexR _ _ _ (frOf 0 37 [(1, .optr (.s 0) e0 3 0 0), (3, .int .i64 (k : Int))]) ⟨[.vec e0 [[crsA p.ins.cs, intsA p.ins.steps, evsA p.evs]]], []⟩ _
  (conv => whnf)
  refine ⟨rfl, ?_⟩
  (conv => whnf)
  refine ifB (fun h1 => ?_) (fun h1 => ?_)
  · simp only [decide_eq_true_eq] at h1
    have hlt : k < p.evs.length := by omega
    obtain ⟨e, hev⟩ : ∃ e, p.evs[k] = e := ⟨_, rfl⟩
    have hm : (p.evs.map evR)[0 + ((k : Nat) : Int).toNat]? = some (evR e) := by rw [mapR hlt, hev]
    have hsl : e.stops.length ≤ 9223372036854775807 := hp.sp e (by rw [← hev]; exact List.getElem_mem hlt)
    rw [drop_at hlt, hev] at hs
    simp only [bigE] at hs
    (repeat' (first | exact rfl | ((conv => whnf); first | exact rfl | refine ⟨by kernel_rfl, ?_⟩ | exact ⟨rfl, rfl⟩ | refine ⟨rfl, ?_⟩ | refine ⟨by (first | omega | (simp (disch := omega) only [wrapI]; omega) | (simp (disch := omega) only [wrapI]; simp; omega) | (simp; omega)), ?_⟩ | (intro ep) | refine optS hm ?_ | (refine ifB (fun hb => ?_) (fun hb => ?_) <;> (try simp only [decide_eq_true_eq, decide_eq_false_iff_not, beq_iff_eq, beq_eq_false_iff_ne, bne_iff_ne, bne_eq_false_iff_eq, ne_eq, not_false_eq_true, not_true_eq_false, Bool.not_eq_true, Bool.not_eq_true', Bool.not_eq_false', Int.not_lt, Int.not_le] at hb) <;> (try simp (disch := omega) only [wrapI] at hb) <;> (try (exfalso; omega))) | fail)))
    · rw [decide_eq_true (by omega)] at hs
      exact congrArg AV.bool hs
    · rw [decide_eq_false (by omega)] at hs
      refine back_of ⟨k + 1, by omega, by simpa using hs⟩ ⟨by (first | exact rfl | (simp (disch := omega) only [wrapI]; exact rfl)), rfl, by simp only; omega⟩
  · simp only [decide_eq_false_iff_not] at h1
    rw [List.drop_eq_nil_of_le (by omega)] at hs
    (repeat' (first | exact rfl | ((conv => whnf); first | exact rfl | refine ⟨by kernel_rfl, ?_⟩ | exact ⟨rfl, rfl⟩ | refine ⟨rfl, ?_⟩ | refine ⟨by (first | omega | (simp (disch := omega) only [wrapI]; omega) | (simp (disch := omega) only [wrapI]; simp; omega) | (simp; omega)), ?_⟩ | (intro ep) | (refine ifB (fun hb => ?_) (fun hb => ?_) <;> (try simp only [decide_eq_true_eq, decide_eq_false_iff_not, beq_iff_eq, beq_eq_false_iff_ne, bne_iff_ne, bne_eq_false_iff_eq, ne_eq, not_false_eq_true, not_true_eq_false, Bool.not_eq_true, Bool.not_eq_true', Bool.not_eq_false', Int.not_lt, Int.not_le] at hb) <;> (try simp (disch := omega) only [wrapI] at hb) <;> (try (exfalso; omega))) | fail)))
    all_goals exact congrArg AV.bool hs
end Go.Ab.V

/-
  The document's Onsets: the signs in force, the times; they are the program's. The pieces are of the sizes that a statement looks at.
-/
namespace Go.Ab.V
open Go.Proofs

structure Sgn where
  v : Int
  d : Bool
  t : Bool
def sgnR (s : Sgn) : List AV := [.int .i64 s.v, .bool s.d, .bool s.t]
def Sgn.tk (s : Sgn) : Int := ticks s.v s.d s.t
def nextS (s : Sgn) (e : Evt) : Sgn := if e.v = 0 then s else ⟨e.v, e.d, e.t⟩
def fcs (s : Sgn) : List Evt → List Sgn
  | [] => []
  | e :: r => nextS s e :: fcs (nextS s e) r
def tmsT (t : Int) : List Sgn → List Int
  | [] => []
  | s :: r => (t + s.tk) :: tmsT (t + s.tk) r
def times (p : Pc) : List Int := 0 :: tmsT 0 (fcs ⟨0, false, false⟩ p.evs)

theorem right_tk {v : Int} {d t : Bool} (h : right v d t = true) : (v = 0 ↔ ¬ 0 < ticks v d t) := by
  unfold right at h
  by_cases h0 : v = 0
  · subst h0
    unfold ticks
    simp
  · rw [if_neg h0] at h
    simp only [Bool.and_eq_true, decide_eq_true_eq, Bool.not_eq_true'] at h
    obtain ⟨⟨h1, h2⟩, h3⟩ := h
    rcases seven (v := v) (by omega) (by omega) with rfl | rfl | rfl | rfl | rfl | rfl | rfl <;> cases d <;> cases t <;> simp_all [ticks]
theorem chkEv_right {p : Pc} {k : Nat} {e : Evt} (h : chkEv p k e = 0) : right e.v e.d e.t = true := by
  unfold chkEv at h
  split at h
  · cases h
  · rename_i hn
    cases hr : right e.v e.d e.t
    · exact absurd (.inl hr) hn
    · rfl
theorem chkEvs_right {p : Pc} : ∀ {l : List Evt} {k : Nat}, chkEvs p k l = 0 → ∀ e ∈ l, right e.v e.d e.t = true
  | [], _, _, _, h => by cases h
  | a :: r, k, h, e, he => by
    unfold chkEvs at h
    split at h
    · rename_i h0
      rcases List.mem_cons.1 he with rfl | he
      · exact chkEv_right h0
      · exact chkEvs_right h e he
    · rename_i h0; exact absurd h h0
theorem chk_right {p : Pc} (h : chk p = 0) : ∀ e ∈ p.evs, right e.v e.d e.t = true := by
  unfold chk at h
  split at h
  · split at h
    · cases h
    · exact chkEvs_right h
  · rename_i h0; exact absurd h h0
theorem tms_ons : ∀ (l : List Evt) (s : Sgn) (f t : Int), (∀ e ∈ l, right e.v e.d e.t = true) → s.tk = f → tmsT t (fcs s l) = onsT f t l
  | [], _, _, _, _, _ => rfl
  | e :: r, s, f, t, h, hf => by
    have hr := right_tk (h e (List.mem_cons_self ..))
    have hn : (nextS s e).tk = frc f e := by
      unfold nextS frc
      by_cases h0 : e.v = 0
      · rw [if_pos h0, if_neg (hr.1 h0), hf]
      · rw [if_neg h0, if_pos (by
          rcases Int.lt_or_le 0 (ticks e.v e.d e.t) with h1 | h1
          · exact h1
          · exact absurd (hr.2 (by omega)) h0)]
        rfl
    simp only [fcs, tmsT, onsT, hn]
    rw [tms_ons r (nextS s e) (frc f e) (t + frc f e) (fun e he => h e (List.mem_cons_of_mem _ he)) hn]
theorem onsT_len : ∀ (l : List Evt) (f t : Int), (onsT f t l).length = l.length
  | [], _, _ => rfl
  | e :: r, f, t => by simp [onsT, onsT_len r]
theorem ons_len (p : Pc) : (onsets p).length = p.evs.length + 1 := by simp [onsets, onsT_len]

end Go.Ab.V
