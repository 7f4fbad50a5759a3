/-
  What is proved here serves the law's text: each part says its own claim and its conditions. No condition is left open.
-/
import Derived.Test.YtgnhnapnjmbieaaKH
set_option linter.unusedSimpArgs false
set_option linter.unusedVariables false

/-
  The document's Onsets: the signs in force, the times; they are the program's. The pieces are of the sizes that a statement looks at.
-/
namespace Go.Ab.V
open Go.Proofs

structure Sgn where
  v : Int
  d : Bool
  t : Bool
def sgnR (s : Sgn) : List AV := [.int .i64 s.v, .bool s.d, .bool s.t]
def Sgn.tk (s : Sgn) : Int := ticks s.v s.d s.t
def nextS (s : Sgn) (e : Evt) : Sgn := if e.v = 0 then s else ⟨e.v, e.d, e.t⟩
def fcs (s : Sgn) : List Evt → List Sgn
  | [] => []
  | e :: r => nextS s e :: fcs (nextS s e) r
def tmsT (t : Int) : List Sgn → List Int
  | [] => []
  | s :: r => (t + s.tk) :: tmsT (t + s.tk) r
def times (p : Pc) : List Int := 0 :: tmsT 0 (fcs ⟨0, false, false⟩ p.evs)

theorem right_tk {v : Int} {d t : Bool} (h : right v d t = true) : (v = 0 ↔ ¬ 0 < ticks v d t) := by
  unfold right at h
  by_cases h0 : v = 0
  · subst h0
    unfold ticks
    simp
  · rw [if_neg h0] at h
    simp only [Bool.and_eq_true, decide_eq_true_eq, Bool.not_eq_true'] at h
    obtain ⟨⟨h1, h2⟩, h3⟩ := h
    rcases seven (v := v) (by omega) (by omega) with rfl | rfl | rfl | rfl | rfl | rfl | rfl <;> cases d <;> cases t <;> simp_all [ticks]
theorem chkEv_right {p : Pc} {k : Nat} {e : Evt} (h : chkEv p k e = 0) : right e.v e.d e.t = true := by
  unfold chkEv at h
  split at h
  · cases h
  · rename_i hn
    cases hr : right e.v e.d e.t
    · exact absurd (.inl hr) hn
    · rfl
theorem chkEvs_right {p : Pc} : ∀ {l : List Evt} {k : Nat}, chkEvs p k l = 0 → ∀ e ∈ l, right e.v e.d e.t = true
  | [], _, _, _, h => by cases h
  | a :: r, k, h, e, he => by
    unfold chkEvs at h
    split at h
    · rename_i h0
      rcases List.mem_cons.1 he with rfl | he
      · exact chkEv_right h0
      · exact chkEvs_right h e he
    · rename_i h0; exact absurd h h0
theorem chk_right {p : Pc} (h : chk p = 0) : ∀ e ∈ p.evs, right e.v e.d e.t = true := by
  unfold chk at h
  split at h
  · split at h
    · cases h
    · exact chkEvs_right h
  · rename_i h0; exact absurd h h0
theorem tms_ons : ∀ (l : List Evt) (s : Sgn) (f t : Int), (∀ e ∈ l, right e.v e.d e.t = true) → s.tk = f → tmsT t (fcs s l) = onsT f t l
  | [], _, _, _, _, _ => rfl
  | e :: r, s, f, t, h, hf => by
    have hr := right_tk (h e (List.mem_cons_self ..))
    have hn : (nextS s e).tk = frc f e := by
      unfold nextS frc
      by_cases h0 : e.v = 0
      · rw [if_pos h0, if_neg (hr.1 h0), hf]
      · rw [if_neg h0, if_pos (by
          rcases Int.lt_or_le 0 (ticks e.v e.d e.t) with h1 | h1
          · exact h1
          · exact absurd (hr.2 (by omega)) h0)]
        rfl
    simp only [fcs, tmsT, onsT, hn]
    rw [tms_ons r (nextS s e) (frc f e) (t + frc f e) (fun e he => h e (List.mem_cons_of_mem _ he)) hn]
theorem onsT_len : ∀ (l : List Evt) (f t : Int), (onsT f t l).length = l.length
  | [], _, _ => rfl
  | e :: r, f, t => by simp [onsT, onsT_len r]
theorem ons_len (p : Pc) : (onsets p).length = p.evs.length + 1 := by simp [onsets, onsT_len]

end Go.Ab.V

/-
  Measures, by the program and by the document. The pieces are of the sizes that a statement looks at.
-/
namespace Go.Ab.V
open Go.Proofs

structure M3 where
  i : Int
  n : Int
  t : Int
def m3R (m : M3) : List AV := [.int .i64 m.i, .int .i64 m.n, .int .i64 m.t]
def bump (l : List M3) (tk : Int) : List M3 := match l.getLast? with
  | some m => l.dropLast ++ [⟨m.i, m.n + 1, m.t + tk⟩]
  | none => []
theorem bump_app (pre : List M3) (m : M3) (tk : Int) : bump (pre ++ [m]) tk = pre ++ [⟨m.i, m.n + 1, m.t + tk⟩] := by
  simp [bump]
def mstep (l : List M3) (k : Nat) (e : Evt) (tk : Int) : List M3 := bump (if k = 0 ∨ e.bar = true then l ++ [⟨k, 0, 0⟩] else l) tk
def msr (l : List M3) (k : Nat) (f : Int) : List Evt → List M3
  | [] => l
  | e :: r => msr (mstep l k e (frc f e)) (k + 1) (frc f e) r
def measures (p : Pc) : List M3 := msr [] 0 0 p.evs
def m3A (l : List M3) : AV := .lslc 3 (l.map m3R) 0 l.length false
/-- what Measures hands back -/
def msrV (p : Pc) : AV := if chk p = 0 then .tup [m3A (measures p), .int .i64 0] else .tup [.nils, .int .i64 (chk p)]

def A39 : Ann := fun r => match r with
  | 0 => { slots := [(0, 0)] }
  | 4 => { slots := [(0, 1)] }
  | 9 => { slots := [(3, 2), (4, 3)] }
  | _ => {}
def A109m : Ann := fun r => match r with
  | 3 => { slots := [(3, 4)] }
  | _ => {}

theorem last_get {l : List (List AV)} {x : List AV} {i : Nat} (h : i = l.length) : (l ++ [x])[i]? = some x := by
  subst h; simp
theorem last_set {l : List (List AV)} {x y : List AV} {i : Nat} (h : i = l.length) : (l ++ [x]).set i y = l ++ [y] := by
  subst h; simp [List.set_append]
theorem mstep_ok {l : List M3} {k : Nat} {e : Evt} {tk : Int} (hM1 : l.length ≤ k) (hM2 : 0 < k → 0 < l.length) (hM3 : ∀ m ∈ l, 0 ≤ m.n ∧ m.n ≤ (k : Int) ∧ 0 ≤ m.t ∧ m.t ≤ 576 * (k : Int)) (ht : 0 ≤ tk ∧ tk ≤ 576) :
    ∃ (pre : List M3) (m : M3), (if k = 0 ∨ e.bar = true then l ++ [⟨(k : Int), 0, 0⟩] else l) = pre ++ [m] ∧ mstep l k e tk = pre ++ [⟨m.i, m.n + 1, m.t + tk⟩] ∧ pre.length ≤ k ∧ (∀ m ∈ pre, 0 ≤ m.n ∧ m.n ≤ (k : Int) ∧ 0 ≤ m.t ∧ m.t ≤ 576 * (k : Int)) ∧ (0 ≤ m.n ∧ m.n ≤ (k : Int) ∧ 0 ≤ m.t ∧ m.t ≤ 576 * (k : Int)) := by
  by_cases h : k = 0 ∨ e.bar = true
  · refine ⟨l, ⟨k, 0, 0⟩, if_pos h, ?_, hM1, hM3, by simp; omega⟩
    unfold mstep
    rw [if_pos h, bump_app]
  · have h0 : 0 < l.length := hM2 (by omega)
    have hne : l ≠ [] := by intro x; subst x; simp at h0
    have hl := List.dropLast_concat_getLast hne
    refine ⟨l.dropLast, l.getLast hne, by rw [if_neg h, hl], ?_, by simp; omega, fun m hm => hM3 m (List.dropLast_subset l hm), hM3 _ (List.getLast_mem hne)⟩
    unfold mstep
    rw [if_neg h]
    have := bump_app l.dropLast (l.getLast hne) tk
    rwa [hl] at this

structure MOk (l : List M3) (k : Nat) : Prop where
  len : l.length ≤ k
  pos : 0 < k → 0 < l.length
  bd : ∀ m ∈ l, 0 ≤ m.n ∧ m.n ≤ k ∧ 0 ≤ m.t ∧ m.t ≤ 576 * k

set_option maxHeartbeats 16000000 in
set_option maxRecDepth 100000 in
theorem measures_spec (p : Pc) (hp : p.Ok) : PRet C.P 39 [pcA p] (msrV p) := by
  unfold msrV
  refine pret_of (okx [79] []) mixed (A := A39) 4 Try.func39 rfl ?_
  (conv => whnf)
  intro e0
  (repeat' (first | exact rfl | ((conv => whnf); first | exact rfl | refine ⟨by kernel_rfl, ?_⟩ | exact ⟨rfl, rfl⟩ | refine ⟨rfl, ?_⟩ | refine ⟨by (first | omega | (simp (disch := omega) only [wrapI]; omega) | (simp (disch := omega) only [wrapI]; simp; omega) | (simp; omega)), ?_⟩ | (intro ep) | refine ⟨_, check_spec p hp, ?_⟩ | (intro ep; skip) | (refine ifB (fun hb => ?_) (fun hb => ?_) <;> (try simp only [decide_eq_true_eq, decide_eq_false_iff_not, beq_iff_eq, beq_eq_false_iff_ne, bne_iff_ne, bne_eq_false_iff_eq, ne_eq, not_false_eq_true, not_true_eq_false, Bool.not_eq_true, Bool.not_eq_true', Bool.not_eq_false', Int.not_lt, Int.not_le] at hb) <;> (try simp (disch := omega) only [wrapI] at hb) <;> (try (exfalso; omega))) | fail)))
  · rw [if_neg hb]
  rw [if_pos hb]
  have hlen := chk_len hb
  obtain ⟨e1, he1⟩ : ∃ e, e = ep := ⟨_, rfl⟩
  subst he1
  (conv => whnf)
  refine ⟨_, _, timed_spec p, ?_⟩
  intro ep0
  (repeat' (first | exact rfl | ((conv => whnf); first | exact rfl | refine ⟨by kernel_rfl, ?_⟩ | exact ⟨rfl, rfl⟩ | refine ⟨rfl, ?_⟩ | refine ⟨by (first | omega | (simp (disch := omega) only [wrapI]; omega) | (simp (disch := omega) only [wrapI]; simp; omega) | (simp; omega)), ?_⟩ | (intro ep) | (refine ifB (fun hb => ?_) (fun hb => ?_) <;> (try simp only [decide_eq_true_eq, decide_eq_false_iff_not, beq_iff_eq, beq_eq_false_iff_ne, bne_iff_ne, bne_eq_false_iff_eq, ne_eq, not_false_eq_true, not_true_eq_false, Bool.not_eq_true, Bool.not_eq_true', Bool.not_eq_false', Int.not_lt, Int.not_le] at hb) <;> (try simp (disch := omega) only [wrapI] at hb) <;> (try (exfalso; omega))) | fail)))
  (conv => whnf)
  refine wk_liftC 1 3 e1 3 0 0 (by decide) rfl rfl rfl ?_
  intro eA
  refine rangeF (okx [79] []) rfl rfl ?_
  intro l fnid T D
  refine fnY_of (okx [79] []) mixed (A := A109m) 1 Try.func109 rfl ?_
  (repeat' (first | exact rfl | ((conv => whnf); first | exact rfl | refine ⟨by kernel_rfl, ?_⟩ | exact ⟨rfl, rfl⟩ | refine ⟨rfl, ?_⟩ | refine ⟨by (first | omega | (simp (disch := omega) only [wrapI]; omega) | (simp (disch := omega) only [wrapI]; simp; omega) | (simp; omega)), ?_⟩ | (intro ep) | (refine ifB (fun hb => ?_) (fun hb => ?_) <;> (try simp only [decide_eq_true_eq, decide_eq_false_iff_not, beq_iff_eq, beq_eq_false_iff_ne, bne_iff_ne, bne_eq_false_iff_eq, ne_eq, not_false_eq_true, not_true_eq_false, Bool.not_eq_true, Bool.not_eq_true', Bool.not_eq_false', Int.not_lt, Int.not_le] at hb) <;> (try simp (disch := omega) only [wrapI] at hb) <;> (try (exfalso; omega))) | fail)))
  (conv => whnf)
  refine loopM (C := (Cx [79] []).withY _) ⟨(okx [79] []).tok, (okx [79] []).fn⟩ mixed (A := A109m) [0, 3, 8, 9, 10] [0, 1, 3] (S := { x : Nat × Int × List M3 × Nat // x.1 ≤ p.evs.length ∧ (0 ≤ x.2.1 ∧ x.2.1 ≤ 576) ∧ MOk x.2.2.1 x.1 ∧ msr x.2.2.1 x.1 x.2.1 (p.evs.drop x.1) = measures p })
    (fr := fun s => frOf 0 27 [(0, .fn (.yield l) [] []), (3, .int .i64 s.1.2.1), (8, evsA p.evs), (9, .int .i64 p.evs.length), (10, .int .i64 (s.1.1 : Int))])
    (h := fun s => ⟨[.vec e0 [pcV p], .vec e1 [[.oslc (.s 3) s.1.2.2.2 3 0 s.1.2.2.1.length false]], .hole, .vec s.1.2.2.2 (s.1.2.2.1.map m3R), .hole], [.vec (ep0 0) [pcV p]]⟩) (μ := fun s => p.evs.length - s.1.1)
    ⟨(0, 0, [], eA), by simp, by simp, ⟨by simp, by simp, by simp⟩, rfl⟩ ?_ ?_ ?_
  · exact rfl
  · exact rfl
  rintro ⟨⟨k, f, ms, eB⟩, hk, hf, hM, hs⟩
  simp only at hk hf hM hs
  show aexR _ _ _ (frOf 0 27 [(0, .fn (.yield l) [] []), (3, .int .i64 f), (8, evsA p.evs), (9, .int .i64 p.evs.length), (10, .int .i64 (k : Int))])
    ⟨[.vec e0 [pcV p], .vec e1 [[.oslc (.s 3) eB 3 0 ms.length false]], .hole, .vec eB (ms.map m3R), .hole], [.vec (ep0 0) [pcV p]]⟩ _
  have hml := hM.len
  (conv => whnf)
  refine ifB (fun h1 => ?_) (fun h1 => ?_)
  · simp only [decide_eq_true_eq] at h1
    have hlt : k < p.evs.length := by omega
    obtain ⟨e, hev⟩ : ∃ e, p.evs[k] = e := ⟨_, rfl⟩
    have hm : (p.evs.map evR)[0 + ((k : Nat) : Int).toNat]? = some (evR e) := by rw [mapR hlt, hev]
    have tb := ticks_bd e.v e.d e.t
    rw [drop_at hlt, hev] at hs
    simp only [msr] at hs
    (repeat' (first | exact rfl | ((conv => whnf); first | exact rfl | refine ⟨by kernel_rfl, ?_⟩ | exact ⟨rfl, rfl⟩ | refine ⟨rfl, ?_⟩ | refine ⟨by (first | omega | (simp (disch := omega) only [wrapI]; omega) | (simp (disch := omega) only [wrapI]; simp; omega) | (simp; omega)), ?_⟩ | (intro ep) | refine optS hm ?_ | refine ⟨_, ticks_spec e.v e.d e.t, ?_⟩ | (refine ifB (fun hb => ?_) (fun hb => ?_) <;> (try simp only [decide_eq_true_eq, decide_eq_false_iff_not, beq_iff_eq, beq_eq_false_iff_ne, bne_iff_ne, bne_eq_false_iff_eq, ne_eq, not_false_eq_true, not_true_eq_false, Bool.not_eq_true, Bool.not_eq_true', Bool.not_eq_false', Int.not_lt, Int.not_le] at hb) <;> (try simp (disch := omega) only [wrapI] at hb) <;> (try (exfalso; omega))) | (refine ⟨by exact rfl, by exact rfl, wk_of (okx [79] []) mixed (A := A39) ?_⟩) | refine wk_of (okx [79] []) mixed (A := A39) ?_ | fail)))
    all_goals
      have hfr : ∃ f', f' = frc f e ∧ 0 ≤ f' ∧ f' ≤ 576 := ⟨_, rfl, by unfold frc; split <;> omega⟩
      obtain ⟨f', hf', hfb⟩ := hfr
      rw [← hf'] at hs
      obtain ⟨pre, m, g1, g2, g3, g4, g5⟩ := mstep_ok (e := e) hM.len hM.pos hM.bd hfb
      rw [g2] at hs
      have hsN := hs
      have hMn : MOk (pre ++ [⟨m.i, m.n + 1, m.t + f'⟩]) (k + 1) := by
        refine ⟨by simp; omega, by simp, fun x hx => ?_⟩
        rcases List.mem_append.1 hx with hx | hx
        · have := g4 x hx; omega
        · obtain rfl := List.mem_singleton.1 hx
          simp only
          omega
    · have hfe : f' = ticks e.v e.d e.t := by rw [hf']; unfold frc; rw [if_pos (by omega)]
      subst hfe
      have hc : k = 0 ∨ e.bar = true := .inl (by omega)
      rw [if_pos hc] at g1
      obtain ⟨hp1, hp2⟩ := List.append_inj' g1 rfl
      obtain rfl := hp1
      obtain rfl : (⟨(k : Int), 0, 0⟩ : M3) = m := by simpa using hp2
      have hw : IntKind.i64.wrap (((ms.length + 1 : Nat) : Int) - 1) = (ms.length : Int) := by rw [IntWalk.i64_in _ (by omega)]; omega
      have hB : 0 ≤ IntKind.i64.wrap (((ms.length + 1 : Nat) : Int) - 1) ∧ IntKind.i64.wrap (((ms.length + 1 : Nat) : Int) - 1) < ((ms.length + 1 : Nat) : Int) := by rw [hw]; omega
      have hi : 0 + (IntKind.i64.wrap (((ms.length + 1 : Nat) : Int) - 1)).toNat = (List.take ms.length (List.drop 0 (ms.map m3R))).length := by rw [hw]; simp
      have r1 : (List.take ms.length (List.drop 0 (ms.map m3R)) ++ [[AV.int .i64 (k : Int), AV.int .i64 0, AV.int .i64 0]])[0 + (IntKind.i64.wrap (((ms.length + 1 : Nat) : Int) - 1)).toNat]? = some [AV.int .i64 (k : Int), AV.int .i64 0, AV.int .i64 0] := last_get hi
      have r2 : ((List.take ms.length (List.drop 0 (ms.map m3R)) ++ [[AV.int .i64 (k : Int), AV.int .i64 0, AV.int .i64 0]]).set (0 + (IntKind.i64.wrap (((ms.length + 1 : Nat) : Int) - 1)).toNat) [AV.int .i64 (k : Int), AV.int .i64 1, AV.int .i64 0])[0 + (IntKind.i64.wrap (((ms.length + 1 : Nat) : Int) - 1)).toNat]? = some [AV.int .i64 (k : Int), AV.int .i64 1, AV.int .i64 0] := by
        rw [last_set hi]; exact last_get hi
      (conv => whnf)
      refine ⟨hB, ?_⟩
      (repeat' ((conv => whnf); first | refine ⟨rfl, ?_⟩ | refine optS r1 ?_ | refine optS r2 ?_ | fail))
      (conv => whnf)
      refine back_of ⟨(k + 1, ticks e.v e.d e.t, ms ++ [⟨(k : Int), 0 + 1, 0 + ticks e.v e.d e.t⟩], ep), by simp only; omega, by simp only; omega, hMn, hsN⟩ ⟨by (first | exact rfl | (simp (disch := omega) only [wrapI]; exact rfl)), ?_, by simp only; omega⟩
      refine Eq.trans (b := ⟨[.vec e0 [pcV p], .vec e1 [[.oslc (.s 3) ep 3 0 (ms.length + 1) false]], .hole, .vec ep (((List.take ms.length (List.drop 0 (ms.map m3R)) ++ [[AV.int .i64 (k : Int), AV.int .i64 0, AV.int .i64 0]]).set (0 + (IntKind.i64.wrap (((ms.length + 1 : Nat) : Int) - 1)).toNat) [AV.int .i64 (k : Int), AV.int .i64 1, AV.int .i64 0]).set (0 + (IntKind.i64.wrap (((ms.length + 1 : Nat) : Int) - 1)).toNat) [AV.int .i64 (k : Int), AV.int .i64 1, AV.int .i64 (IntKind.i64.wrap (0 + ticks e.v e.d e.t))]), .hole], [.vec (ep0 0) [pcV p]]⟩) rfl ?_
      rw [last_set hi, last_set hi, IntWalk.i64_in (0 + ticks e.v e.d e.t) (by omega)]
      simp [m3R]
      exact List.take_of_length_le (by simp)
    · have hfe : f' = ticks e.v e.d e.t := by rw [hf']; unfold frc; rw [if_pos (by omega)]
      subst hfe
      have hc : k = 0 ∨ e.bar = true := .inr (by assumption)
      rw [if_pos hc] at g1
      obtain ⟨hp1, hp2⟩ := List.append_inj' g1 rfl
      obtain rfl := hp1
      obtain rfl : (⟨(k : Int), 0, 0⟩ : M3) = m := by simpa using hp2
      have hw : IntKind.i64.wrap (((ms.length + 1 : Nat) : Int) - 1) = (ms.length : Int) := by rw [IntWalk.i64_in _ (by omega)]; omega
      have hB : 0 ≤ IntKind.i64.wrap (((ms.length + 1 : Nat) : Int) - 1) ∧ IntKind.i64.wrap (((ms.length + 1 : Nat) : Int) - 1) < ((ms.length + 1 : Nat) : Int) := by rw [hw]; omega
      have hi : 0 + (IntKind.i64.wrap (((ms.length + 1 : Nat) : Int) - 1)).toNat = (List.take ms.length (List.drop 0 (ms.map m3R))).length := by rw [hw]; simp
      have r1 : (List.take ms.length (List.drop 0 (ms.map m3R)) ++ [[AV.int .i64 (k : Int), AV.int .i64 0, AV.int .i64 0]])[0 + (IntKind.i64.wrap (((ms.length + 1 : Nat) : Int) - 1)).toNat]? = some [AV.int .i64 (k : Int), AV.int .i64 0, AV.int .i64 0] := last_get hi
      have r2 : ((List.take ms.length (List.drop 0 (ms.map m3R)) ++ [[AV.int .i64 (k : Int), AV.int .i64 0, AV.int .i64 0]]).set (0 + (IntKind.i64.wrap (((ms.length + 1 : Nat) : Int) - 1)).toNat) [AV.int .i64 (k : Int), AV.int .i64 1, AV.int .i64 0])[0 + (IntKind.i64.wrap (((ms.length + 1 : Nat) : Int) - 1)).toNat]? = some [AV.int .i64 (k : Int), AV.int .i64 1, AV.int .i64 0] := by
        rw [last_set hi]; exact last_get hi
      (conv => whnf)
      refine ⟨hB, ?_⟩
      (repeat' ((conv => whnf); first | refine ⟨rfl, ?_⟩ | refine optS r1 ?_ | refine optS r2 ?_ | fail))
      (conv => whnf)
      refine back_of ⟨(k + 1, ticks e.v e.d e.t, ms ++ [⟨(k : Int), 0 + 1, 0 + ticks e.v e.d e.t⟩], ep), by simp only; omega, by simp only; omega, hMn, hsN⟩ ⟨by (first | exact rfl | (simp (disch := omega) only [wrapI]; exact rfl)), ?_, by simp only; omega⟩
      refine Eq.trans (b := ⟨[.vec e0 [pcV p], .vec e1 [[.oslc (.s 3) ep 3 0 (ms.length + 1) false]], .hole, .vec ep (((List.take ms.length (List.drop 0 (ms.map m3R)) ++ [[AV.int .i64 (k : Int), AV.int .i64 0, AV.int .i64 0]]).set (0 + (IntKind.i64.wrap (((ms.length + 1 : Nat) : Int) - 1)).toNat) [AV.int .i64 (k : Int), AV.int .i64 1, AV.int .i64 0]).set (0 + (IntKind.i64.wrap (((ms.length + 1 : Nat) : Int) - 1)).toNat) [AV.int .i64 (k : Int), AV.int .i64 1, AV.int .i64 (IntKind.i64.wrap (0 + ticks e.v e.d e.t))]), .hole], [.vec (ep0 0) [pcV p]]⟩) rfl ?_
      rw [last_set hi, last_set hi, IntWalk.i64_in (0 + ticks e.v e.d e.t) (by omega)]
      simp [m3R]
      exact List.take_of_length_le (by simp)
    · have hfe : f' = ticks e.v e.d e.t := by rw [hf']; unfold frc; rw [if_pos (by omega)]
      subst hfe
      have hc : ¬ (k = 0 ∨ e.bar = true) := by rintro (h | h) <;> first | omega | (simp_all; done)
      rw [if_neg hc] at g1
      subst g1
      have hl : (pre ++ [m]).length = pre.length + 1 := by simp
      have hw : IntKind.i64.wrap (((pre ++ [m]).length : Int) - 1) = (pre.length : Int) := by rw [hl, IntWalk.i64_in _ (by omega)]; omega
      have hB : 0 ≤ IntKind.i64.wrap (((pre ++ [m]).length : Int) - 1) ∧ IntKind.i64.wrap (((pre ++ [m]).length : Int) - 1) < ((pre ++ [m]).length : Int) := by rw [hw, hl]; omega
      have hi : 0 + (IntKind.i64.wrap (((pre ++ [m]).length : Int) - 1)).toNat = (pre.map m3R).length := by rw [hw]; simp
      have hmap : ((pre ++ [m]).map m3R) = pre.map m3R ++ [m3R m] := by simp
      have r1 : ((pre ++ [m]).map m3R)[0 + (IntKind.i64.wrap (((pre ++ [m]).length : Int) - 1)).toNat]? = some (m3R m) := by rw [hmap]; exact last_get hi
      have r2 : (((pre ++ [m]).map m3R).set (0 + (IntKind.i64.wrap (((pre ++ [m]).length : Int) - 1)).toNat) [AV.int .i64 m.i, AV.int .i64 (IntKind.i64.wrap (m.n + 1)), AV.int .i64 m.t])[0 + (IntKind.i64.wrap (((pre ++ [m]).length : Int) - 1)).toNat]? = some [AV.int .i64 m.i, AV.int .i64 (IntKind.i64.wrap (m.n + 1)), AV.int .i64 m.t] := by
        rw [hmap, last_set hi]; exact last_get hi
      (conv => whnf)
      refine ⟨hB, ?_⟩
      (repeat' ((conv => whnf); first | refine ⟨rfl, ?_⟩ | refine optS r1 ?_ | refine optS r2 ?_ | fail))
      (conv => whnf)
      refine back_of ⟨(k + 1, ticks e.v e.d e.t, pre ++ [⟨m.i, m.n + 1, m.t + ticks e.v e.d e.t⟩], eB), by simp only; omega, by simp only; omega, hMn, hsN⟩ ⟨by (first | exact rfl | (simp (disch := omega) only [wrapI]; exact rfl)), ?_, by simp only; omega⟩
      refine Eq.trans (b := ⟨[.vec e0 [pcV p], .vec e1 [[.oslc (.s 3) eB 3 0 (pre ++ [m]).length false]], .hole, .vec eB ((((pre ++ [m]).map m3R).set (0 + (IntKind.i64.wrap (((pre ++ [m]).length : Int) - 1)).toNat) [AV.int .i64 m.i, AV.int .i64 (IntKind.i64.wrap (m.n + 1)), AV.int .i64 m.t]).set (0 + (IntKind.i64.wrap (((pre ++ [m]).length : Int) - 1)).toNat) [AV.int .i64 m.i, AV.int .i64 (IntKind.i64.wrap (m.n + 1)), AV.int .i64 (IntKind.i64.wrap (m.t + ticks e.v e.d e.t))]), .hole], [.vec (ep0 0) [pcV p]]⟩) rfl ?_
      rw [hmap, last_set hi, last_set hi, IntWalk.i64_in (m.t + ticks e.v e.d e.t) (by omega), IntWalk.i64_in (m.n + 1) (by omega)]
      simp [m3R]
    · have hfe : f' = f := by rw [hf']; unfold frc; rw [if_neg (by omega)]
      subst hfe
      have hc : k = 0 ∨ e.bar = true := .inl (by omega)
      rw [if_pos hc] at g1
      obtain ⟨hp1, hp2⟩ := List.append_inj' g1 rfl
      obtain rfl := hp1
      obtain rfl : (⟨(k : Int), 0, 0⟩ : M3) = m := by simpa using hp2
      have hw : IntKind.i64.wrap (((ms.length + 1 : Nat) : Int) - 1) = (ms.length : Int) := by rw [IntWalk.i64_in _ (by omega)]; omega
      have hB : 0 ≤ IntKind.i64.wrap (((ms.length + 1 : Nat) : Int) - 1) ∧ IntKind.i64.wrap (((ms.length + 1 : Nat) : Int) - 1) < ((ms.length + 1 : Nat) : Int) := by rw [hw]; omega
      have hi : 0 + (IntKind.i64.wrap (((ms.length + 1 : Nat) : Int) - 1)).toNat = (List.take ms.length (List.drop 0 (ms.map m3R))).length := by rw [hw]; simp
      have r1 : (List.take ms.length (List.drop 0 (ms.map m3R)) ++ [[AV.int .i64 (k : Int), AV.int .i64 0, AV.int .i64 0]])[0 + (IntKind.i64.wrap (((ms.length + 1 : Nat) : Int) - 1)).toNat]? = some [AV.int .i64 (k : Int), AV.int .i64 0, AV.int .i64 0] := last_get hi
      have r2 : ((List.take ms.length (List.drop 0 (ms.map m3R)) ++ [[AV.int .i64 (k : Int), AV.int .i64 0, AV.int .i64 0]]).set (0 + (IntKind.i64.wrap (((ms.length + 1 : Nat) : Int) - 1)).toNat) [AV.int .i64 (k : Int), AV.int .i64 1, AV.int .i64 0])[0 + (IntKind.i64.wrap (((ms.length + 1 : Nat) : Int) - 1)).toNat]? = some [AV.int .i64 (k : Int), AV.int .i64 1, AV.int .i64 0] := by
        rw [last_set hi]; exact last_get hi
      (conv => whnf)
      refine ⟨hB, ?_⟩
      (repeat' ((conv => whnf); first | refine ⟨rfl, ?_⟩ | refine optS r1 ?_ | refine optS r2 ?_ | fail))
      (conv => whnf)
      refine back_of ⟨(k + 1, f', ms ++ [⟨(k : Int), 0 + 1, 0 + f'⟩], ep), by simp only; omega, by simp only; omega, hMn, hsN⟩ ⟨by (first | exact rfl | (simp (disch := omega) only [wrapI]; exact rfl)), ?_, by simp only; omega⟩
      refine Eq.trans (b := ⟨[.vec e0 [pcV p], .vec e1 [[.oslc (.s 3) ep 3 0 (ms.length + 1) false]], .hole, .vec ep (((List.take ms.length (List.drop 0 (ms.map m3R)) ++ [[AV.int .i64 (k : Int), AV.int .i64 0, AV.int .i64 0]]).set (0 + (IntKind.i64.wrap (((ms.length + 1 : Nat) : Int) - 1)).toNat) [AV.int .i64 (k : Int), AV.int .i64 1, AV.int .i64 0]).set (0 + (IntKind.i64.wrap (((ms.length + 1 : Nat) : Int) - 1)).toNat) [AV.int .i64 (k : Int), AV.int .i64 1, AV.int .i64 (IntKind.i64.wrap (0 + f'))]), .hole], [.vec (ep0 0) [pcV p]]⟩) rfl ?_
      rw [last_set hi, last_set hi, IntWalk.i64_in (0 + f') (by omega)]
      simp [m3R]
      exact List.take_of_length_le (by simp)
    · have hfe : f' = f := by rw [hf']; unfold frc; rw [if_neg (by omega)]
      subst hfe
      have hc : k = 0 ∨ e.bar = true := .inr (by assumption)
      rw [if_pos hc] at g1
      obtain ⟨hp1, hp2⟩ := List.append_inj' g1 rfl
      obtain rfl := hp1
      obtain rfl : (⟨(k : Int), 0, 0⟩ : M3) = m := by simpa using hp2
      have hw : IntKind.i64.wrap (((ms.length + 1 : Nat) : Int) - 1) = (ms.length : Int) := by rw [IntWalk.i64_in _ (by omega)]; omega
      have hB : 0 ≤ IntKind.i64.wrap (((ms.length + 1 : Nat) : Int) - 1) ∧ IntKind.i64.wrap (((ms.length + 1 : Nat) : Int) - 1) < ((ms.length + 1 : Nat) : Int) := by rw [hw]; omega
      have hi : 0 + (IntKind.i64.wrap (((ms.length + 1 : Nat) : Int) - 1)).toNat = (List.take ms.length (List.drop 0 (ms.map m3R))).length := by rw [hw]; simp
      have r1 : (List.take ms.length (List.drop 0 (ms.map m3R)) ++ [[AV.int .i64 (k : Int), AV.int .i64 0, AV.int .i64 0]])[0 + (IntKind.i64.wrap (((ms.length + 1 : Nat) : Int) - 1)).toNat]? = some [AV.int .i64 (k : Int), AV.int .i64 0, AV.int .i64 0] := last_get hi
      have r2 : ((List.take ms.length (List.drop 0 (ms.map m3R)) ++ [[AV.int .i64 (k : Int), AV.int .i64 0, AV.int .i64 0]]).set (0 + (IntKind.i64.wrap (((ms.length + 1 : Nat) : Int) - 1)).toNat) [AV.int .i64 (k : Int), AV.int .i64 1, AV.int .i64 0])[0 + (IntKind.i64.wrap (((ms.length + 1 : Nat) : Int) - 1)).toNat]? = some [AV.int .i64 (k : Int), AV.int .i64 1, AV.int .i64 0] := by
        rw [last_set hi]; exact last_get hi
      (conv => whnf)
      refine ⟨hB, ?_⟩
      (repeat' ((conv => whnf); first | refine ⟨rfl, ?_⟩ | refine optS r1 ?_ | refine optS r2 ?_ | fail))
      (conv => whnf)
      refine back_of ⟨(k + 1, f', ms ++ [⟨(k : Int), 0 + 1, 0 + f'⟩], ep), by simp only; omega, by simp only; omega, hMn, hsN⟩ ⟨by (first | exact rfl | (simp (disch := omega) only [wrapI]; exact rfl)), ?_, by simp only; omega⟩
      refine Eq.trans (b := ⟨[.vec e0 [pcV p], .vec e1 [[.oslc (.s 3) ep 3 0 (ms.length + 1) false]], .hole, .vec ep (((List.take ms.length (List.drop 0 (ms.map m3R)) ++ [[AV.int .i64 (k : Int), AV.int .i64 0, AV.int .i64 0]]).set (0 + (IntKind.i64.wrap (((ms.length + 1 : Nat) : Int) - 1)).toNat) [AV.int .i64 (k : Int), AV.int .i64 1, AV.int .i64 0]).set (0 + (IntKind.i64.wrap (((ms.length + 1 : Nat) : Int) - 1)).toNat) [AV.int .i64 (k : Int), AV.int .i64 1, AV.int .i64 (IntKind.i64.wrap (0 + f'))]), .hole], [.vec (ep0 0) [pcV p]]⟩) rfl ?_
      rw [last_set hi, last_set hi, IntWalk.i64_in (0 + f') (by omega)]
      simp [m3R]
      exact List.take_of_length_le (by simp)
    · have hfe : f' = f := by rw [hf']; unfold frc; rw [if_neg (by omega)]
      subst hfe
      have hc : ¬ (k = 0 ∨ e.bar = true) := by rintro (h | h) <;> first | omega | (simp_all; done)
      rw [if_neg hc] at g1
      subst g1
      have hl : (pre ++ [m]).length = pre.length + 1 := by simp
      have hw : IntKind.i64.wrap (((pre ++ [m]).length : Int) - 1) = (pre.length : Int) := by rw [hl, IntWalk.i64_in _ (by omega)]; omega
      have hB : 0 ≤ IntKind.i64.wrap (((pre ++ [m]).length : Int) - 1) ∧ IntKind.i64.wrap (((pre ++ [m]).length : Int) - 1) < ((pre ++ [m]).length : Int) := by rw [hw, hl]; omega
      have hi : 0 + (IntKind.i64.wrap (((pre ++ [m]).length : Int) - 1)).toNat = (pre.map m3R).length := by rw [hw]; simp
      have hmap : ((pre ++ [m]).map m3R) = pre.map m3R ++ [m3R m] := by simp
      have r1 : ((pre ++ [m]).map m3R)[0 + (IntKind.i64.wrap (((pre ++ [m]).length : Int) - 1)).toNat]? = some (m3R m) := by rw [hmap]; exact last_get hi
      have r2 : (((pre ++ [m]).map m3R).set (0 + (IntKind.i64.wrap (((pre ++ [m]).length : Int) - 1)).toNat) [AV.int .i64 m.i, AV.int .i64 (IntKind.i64.wrap (m.n + 1)), AV.int .i64 m.t])[0 + (IntKind.i64.wrap (((pre ++ [m]).length : Int) - 1)).toNat]? = some [AV.int .i64 m.i, AV.int .i64 (IntKind.i64.wrap (m.n + 1)), AV.int .i64 m.t] := by
        rw [hmap, last_set hi]; exact last_get hi
      (conv => whnf)
      refine ⟨hB, ?_⟩
      (repeat' ((conv => whnf); first | refine ⟨rfl, ?_⟩ | refine optS r1 ?_ | refine optS r2 ?_ | fail))
      (conv => whnf)
      refine back_of ⟨(k + 1, f', pre ++ [⟨m.i, m.n + 1, m.t + f'⟩], eB), by simp only; omega, by simp only; omega, hMn, hsN⟩ ⟨by (first | exact rfl | (simp (disch := omega) only [wrapI]; exact rfl)), ?_, by simp only; omega⟩
      refine Eq.trans (b := ⟨[.vec e0 [pcV p], .vec e1 [[.oslc (.s 3) eB 3 0 (pre ++ [m]).length false]], .hole, .vec eB ((((pre ++ [m]).map m3R).set (0 + (IntKind.i64.wrap (((pre ++ [m]).length : Int) - 1)).toNat) [AV.int .i64 m.i, AV.int .i64 (IntKind.i64.wrap (m.n + 1)), AV.int .i64 m.t]).set (0 + (IntKind.i64.wrap (((pre ++ [m]).length : Int) - 1)).toNat) [AV.int .i64 m.i, AV.int .i64 (IntKind.i64.wrap (m.n + 1)), AV.int .i64 (IntKind.i64.wrap (m.t + f'))]), .hole], [.vec (ep0 0) [pcV p]]⟩) rfl ?_
      rw [hmap, last_set hi, last_set hi, IntWalk.i64_in (m.t + f') (by omega), IntWalk.i64_in (m.n + 1) (by omega)]
      simp [m3R]
  · simp only [decide_eq_false_iff_not] at h1
    rw [List.drop_eq_nil_of_le (by omega)] at hs
    simp only [msr] at hs
    (repeat' (first | exact rfl | ((conv => whnf); first | exact rfl | refine ⟨by kernel_rfl, ?_⟩ | exact ⟨rfl, rfl⟩ | refine ⟨rfl, ?_⟩ | refine ⟨by (first | omega | (simp (disch := omega) only [wrapI]; omega) | (simp (disch := omega) only [wrapI]; simp; omega) | (simp; omega)), ?_⟩ | (intro ep) | (refine ifB (fun hb => ?_) (fun hb => ?_) <;> (try simp only [decide_eq_true_eq, decide_eq_false_iff_not, beq_iff_eq, beq_eq_false_iff_ne, bne_iff_ne, bne_eq_false_iff_eq, ne_eq, not_false_eq_true, not_true_eq_false, Bool.not_eq_true, Bool.not_eq_true', Bool.not_eq_false', Int.not_lt, Int.not_le] at hb) <;> (try simp (disch := omega) only [wrapI] at hb) <;> (try (exfalso; omega))) | fail)))
    rw [hs]
    exact ⟨pure_map _ fun x => rfl, rfl, rfl⟩

end Go.Ab.V

/-
  SameInts of a list with itself; the document's Measures; the law PieceTimes. The pieces are of the sizes that a statement looks at.
-/
namespace Go.Ab.V
open Go.Proofs

end Go.Ab.V

/-
  The law PieceTimes is true at every input.
-/
namespace Go.Ab.V
open Go.Proofs

theorem msr_len : ∀ (l : List Evt) (ms : List M3) (k : Nat) (f : Int), ms.length ≤ k → (msr ms k f l).length ≤ k + l.length
  | [], ms, k, f, h => by simpa [msr] using h
  | e :: r, ms, k, f, h => by
    have : (mstep ms k e (frc f e)).length ≤ k + 1 := by
      unfold mstep bump
      split
      · rename_i m hm
        simp
        split
        · simp; omega
        · omega
      · simp
    have := msr_len r (mstep ms k e (frc f e)) (k + 1) (frc f e) this
    simp only [msr, List.length_cons]
    omega
theorem measures_len (p : Pc) : (measures p).length ≤ p.evs.length := by
  have := msr_len p.evs [] 0 0 (by simp)
  unfold measures
  omega

end Go.Ab.V
