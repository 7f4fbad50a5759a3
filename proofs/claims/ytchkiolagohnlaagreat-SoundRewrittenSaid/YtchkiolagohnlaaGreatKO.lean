/-
  What is proved here serves the law's text: each part says its own claim and its conditions. No condition is left open.
-/
import Derived.Test.YtchkiolagohnlaaGreatKN
set_option linter.unusedSimpArgs false
set_option linter.unusedVariables false

/-
  The check of a piece, by the program. No condition on the piece but that its lists are no longer than a machine's.
-/
namespace Go.Ab.V
open Go.Proofs

def fretsOf (i : Ins) (c : Int) : Int := (i.cs.getD (c - 1).toNat ⟨0, 0, false⟩).frets
def chkStop (i : Ins) (lg : Int) (s : Stp) (last : Int) : Int :=
  if s.c < 1 ∨ (i.cs.length : Int) < s.c then 12 else if s.f < 0 ∨ fretsOf i s.c < s.f then 13 else if s.c ≤ last then 22 else
    if s.r < 0 ∨ 3 < s.r ∨ s.g < 0 ∨ 4 < s.g then 23 else if s.h < 0 ∨ lg < s.h ∨ (0 < s.h ∧ s.f = 0) then 24 else 0
def chkStops (p : Pc) (k : Nat) (last : Int) : List Stp → Int
  | [] => 0
  | s :: r => if chkStop p.ins (longest p.evs k s.c) s last = 0 then chkStops p k s.c r else chkStop p.ins (longest p.evs k s.c) s last
def chkEv (p : Pc) (k : Nat) (e : Evt) : Int :=
  if right e.v e.d e.t = false ∨ (k = 0 ∧ e.v = 0) then 20 else if e.tie = true ∧ (k = 0 ∨ 0 < e.stops.length) then 21 else chkStops p k 0 e.stops
def chkEvs (p : Pc) (k : Nat) : List Evt → Int
  | [] => 0
  | e :: r => if chkEv p k e = 0 then chkEvs p (k + 1) r else chkEv p k e
def chk (p : Pc) : Int := if chkIn p.ins = 0 then (if 400 < p.evs.length then 2 else chkEvs p 0 p.evs) else chkIn p.ins

def A72 : Ann := fun r => match r with
  | 0 => { slots := [(0, 0), (1, 1)] }
  | _ => {}

theorem fretsR {i : Ins} {c : Int} (h : 1 ≤ c ∧ c ≤ i.cs.length) : ∃ x, (i.cs.map crR)[0 + (c - 1).toNat]? = some (crR x) ∧ x.frets = fretsOf i c := by
  have hl : (c - 1).toNat < i.cs.length := by omega
  refine ⟨i.cs[(c - 1).toNat], ?_, ?_⟩
  · rw [Nat.zero_add, List.getElem?_map, List.getElem?_eq_getElem hl]; rfl
  · unfold fretsOf; rw [List.getD, List.getElem?_eq_getElem hl]; rfl

set_option maxHeartbeats 1000000 in
set_option maxRecDepth 100000 in
theorem checkStop_spec (p : Pc) (hp : p.Ok) (k : Nat) (s : Stp) (last : Int) : PRet C.P 72 [pcA p, .int .i64 k, .agg (stR s), .int .i64 last] (.int .i64 (chkStop p.ins (longest p.evs k s.c) s last)) := by
  have hpc := hp.cs
  refine pret_of ok mixed (A := A72) 2 Tryz.func72 rfl ?_
  unfold chkStop
  (repeat' (first | exact rfl | ((conv => whnf); first | exact rfl | refine ⟨by kernel_rfl, ?_⟩ | exact ⟨rfl, rfl⟩ | refine ⟨rfl, ?_⟩ | refine ⟨by (first | omega | (simp (disch := omega) only [wrapI]; omega) | (simp (disch := omega) only [wrapI]; simp; omega) | (simp; omega)), ?_⟩ | (intro ep) | (refine ifB (fun hb => ?_) (fun hb => ?_) <;> (try simp only [decide_eq_true_eq, decide_eq_false_iff_not, beq_iff_eq, beq_eq_false_iff_ne, bne_iff_ne, bne_eq_false_iff_eq, ne_eq, not_false_eq_true, not_true_eq_false, Bool.not_eq_true, Bool.not_eq_true', Bool.not_eq_false', Int.not_lt, Int.not_le] at hb) <;> (try simp (disch := omega) only [wrapI] at hb) <;> (try (exfalso; omega))) | fail)))
  · rw [if_pos (by omega)]
  · rw [if_pos (by omega)]
  (repeat' (first | exact rfl | ((conv => whnf); first | exact rfl | refine ⟨by kernel_rfl, ?_⟩ | exact ⟨rfl, rfl⟩ | refine ⟨rfl, ?_⟩ | refine ⟨by (first | omega | (simp (disch := omega) only [wrapI]; omega) | (simp (disch := omega) only [wrapI]; simp; omega) | (simp; omega)), ?_⟩ | (intro ep) | (refine ifB (fun hb => ?_) (fun hb => ?_) <;> (try simp only [decide_eq_true_eq, decide_eq_false_iff_not, beq_iff_eq, beq_eq_false_iff_ne, bne_iff_ne, bne_eq_false_iff_eq, ne_eq, not_false_eq_true, not_true_eq_false, Bool.not_eq_true, Bool.not_eq_true', Bool.not_eq_false', Int.not_lt, Int.not_le] at hb) <;> (try simp (disch := omega) only [wrapI] at hb) <;> (try (exfalso; omega))) | fail)))
  · rw [if_neg (by omega), if_pos (by omega)]
  obtain ⟨x, x1, x2⟩ := fretsR (i := p.ins) (c := s.c) (by omega)
  (repeat' (first | exact rfl | ((conv => whnf); first | exact rfl | refine ⟨by kernel_rfl, ?_⟩ | exact ⟨rfl, rfl⟩ | refine ⟨rfl, ?_⟩ | refine ⟨by (first | omega | (simp (disch := omega) only [wrapI]; omega) | (simp (disch := omega) only [wrapI]; simp; omega) | (simp; omega)), ?_⟩ | (intro ep) | refine optS (by (try simp (disch := omega) only [wrapI]); exact x1) ?_ | refine ⟨_, longest_spec p hp k s.c, ?_⟩ | (refine ifB (fun hb => ?_) (fun hb => ?_) <;> (try simp only [decide_eq_true_eq, decide_eq_false_iff_not, beq_iff_eq, beq_eq_false_iff_ne, bne_iff_ne, bne_eq_false_iff_eq, ne_eq, not_false_eq_true, not_true_eq_false, Bool.not_eq_true, Bool.not_eq_true', Bool.not_eq_false', Int.not_lt, Int.not_le] at hb) <;> (try simp (disch := omega) only [wrapI] at hb) <;> (try (exfalso; omega))) | fail)))
  all_goals (refine congrArg (AV.int .i64) ?_; rw [← x2]; (repeat' split) <;> omega)

def A46 : Ann := fun r => match r with
  | 0 => { slots := [(0, 0)] }
  | 8 => { slots := [(3, 1)] }
  | 16 => { slots := [(2, 2)] }
  | _ => {}

theorem right_zero {v : Int} {d t : Bool} (h : right v d t = true) : (decide (v = 0) && (d == false && (t == false && true))) = decide (v = 0) := by
  by_cases h0 : v = 0
  · subst h0
    cases d <;> cases t <;> first | rfl | (exfalso; revert h; decide)
  · simp [h0]

set_option maxHeartbeats 2000000 in
set_option maxRecDepth 100000 in
theorem check_spec (p : Pc) (hp : p.Ok) : PRet C.P 46 [pcA p] (.int .i64 (chk p)) := by
  refine pret_of ok mixed (A := A46) 3 Tryz.func46 rfl ?_
  (repeat' (first | exact rfl | ((conv => whnf); first | exact rfl | refine ⟨by kernel_rfl, ?_⟩ | exact ⟨rfl, rfl⟩ | refine ⟨rfl, ?_⟩ | refine ⟨by (first | omega | (simp (disch := omega) only [wrapI]; omega) | (simp (disch := omega) only [wrapI]; simp; omega) | (simp; omega)), ?_⟩ | (intro ep) | refine ⟨_, inCheck_spec p.ins, ?_⟩ | (refine ifB (fun hb => ?_) (fun hb => ?_) <;> (try simp only [decide_eq_true_eq, decide_eq_false_iff_not, beq_iff_eq, beq_eq_false_iff_ne, bne_iff_ne, bne_eq_false_iff_eq, ne_eq, not_false_eq_true, not_true_eq_false, Bool.not_eq_true, Bool.not_eq_true', Bool.not_eq_false', Int.not_lt, Int.not_le] at hb) <;> (try simp (disch := omega) only [wrapI] at hb) <;> (try (exfalso; omega))) | fail)))
  · unfold chk; rw [if_neg hb]
  · rename_i hb1
    unfold chk; rw [if_pos hb1, if_pos (by omega)]
  rename_i hI
  have hA : chk p = chkEvs p 0 p.evs := by unfold chk; rw [if_pos hI, if_neg (by omega)]
  rw [hA]
  obtain ⟨e0, he⟩ : ∃ e1, e1 = ep := ⟨_, rfl⟩
  subst he
  (repeat' (first | exact rfl | ((conv => whnf); first | exact rfl | refine ⟨by kernel_rfl, ?_⟩ | exact ⟨rfl, rfl⟩ | refine ⟨rfl, ?_⟩ | refine ⟨by (first | omega | (simp (disch := omega) only [wrapI]; omega) | (simp (disch := omega) only [wrapI]; simp; omega) | (simp; omega)), ?_⟩ | (intro ep) | (refine ifB (fun hb => ?_) (fun hb => ?_) <;> (try simp only [decide_eq_true_eq, decide_eq_false_iff_not, beq_iff_eq, beq_eq_false_iff_ne, bne_iff_ne, bne_eq_false_iff_eq, ne_eq, not_false_eq_true, not_true_eq_false, Bool.not_eq_true, Bool.not_eq_true', Bool.not_eq_false', Int.not_lt, Int.not_le] at hb) <;> (try simp (disch := omega) only [wrapI] at hb) <;> (try (exfalso; omega))) | fail)))
  (conv => whnf)
  refine loopM ok mixed (A := A46) [1, 21, 22, 23] [0] (S := { k : Nat // k ≤ p.evs.length ∧ chkEvs p k (p.evs.drop k) = chkEvs p 0 p.evs })
    (fr := fun s => frOf 0 73 [(1, .optr (.s 0) e0 3 0 0), (21, evsA p.evs), (22, .int .i64 p.evs.length), (23, .int .i64 (s.1 : Int))])
    (h := fun s => ⟨[.vec e0 [[crsA p.ins.cs, intsA p.ins.steps, evsA p.evs]], .hole, .hole], []⟩) (μ := fun s => p.evs.length - s.1) ⟨0, by omega, rfl⟩ rfl rfl ?_
  rintro ⟨k, hk, hs⟩
  show aexR _ _ _ (frOf 0 73 [(1, .optr (.s 0) e0 3 0 0), (21, evsA p.evs), (22, .int .i64 p.evs.length), (23, .int .i64 (k : Int))]) ⟨[.vec e0 [[crsA p.ins.cs, intsA p.ins.steps, evsA p.evs]], .hole, .hole], []⟩ _
  (conv => whnf)
  refine ifB (fun h1 => ?_) (fun h1 => ?_)
  · simp only [decide_eq_true_eq] at h1
    have hlt : k < p.evs.length := by omega
    obtain ⟨e, hev⟩ : ∃ e, p.evs[k] = e := ⟨_, rfl⟩
    have hm : (p.evs.map evR)[0 + ((k : Nat) : Int).toNat]? = some (evR e) := by rw [mapR hlt, hev]
    have hsl : e.stops.length ≤ 9223372036854775807 := hp.sp e (by rw [← hev]; exact List.getElem_mem hlt)
    rw [drop_at hlt, hev] at hs
    have key : chkEv p k e ≠ 0 → chkEvs p 0 p.evs = chkEv p k e := fun h => by rw [← hs, chkEvs, if_neg h]
    have key0 : chkEv p k e = 0 → chkEvs p (k + 1) (p.evs.drop (k + 1)) = chkEvs p 0 p.evs := fun h => by rw [← hs, chkEvs, if_pos h]
    clear hs
    have e20 : (right e.v e.d e.t = false ∨ (k = 0 ∧ e.v = 0)) → chkEv p k e = 20 := fun h => by unfold chkEv; rw [if_pos h]
    have e21 : ¬ (right e.v e.d e.t = false ∨ (k = 0 ∧ e.v = 0)) → e.tie = true ∧ (k = 0 ∨ 0 < e.stops.length) → chkEv p k e = 21 := fun h h' => by unfold chkEv; rw [if_neg h, if_pos h']
    have e0' : ¬ (right e.v e.d e.t = false ∨ (k = 0 ∧ e.v = 0)) → ¬ (e.tie = true ∧ (k = 0 ∨ 0 < e.stops.length)) → chkEv p k e = chkStops p k 0 e.stops := fun h h' => by unfold chkEv; rw [if_neg h, if_neg h']
    (repeat' (first | exact rfl | ((conv => whnf); first | exact rfl | refine ⟨by kernel_rfl, ?_⟩ | exact ⟨rfl, rfl⟩ | refine ⟨rfl, ?_⟩ | refine ⟨by (first | omega | (simp (disch := omega) only [wrapI]; omega) | (simp (disch := omega) only [wrapI]; simp; omega) | (simp; omega)), ?_⟩ | (intro ep) | refine optS hm ?_ | refine ⟨_, valid_spec e.v e.d e.t, ?_⟩ | (refine ifB (fun hb => ?_) (fun hb => ?_) <;> (try simp only [decide_eq_true_eq, decide_eq_false_iff_not, beq_iff_eq, beq_eq_false_iff_ne, bne_iff_ne, bne_eq_false_iff_eq, ne_eq, not_false_eq_true, not_true_eq_false, Bool.not_eq_true, Bool.not_eq_true', Bool.not_eq_false', Int.not_lt, Int.not_le] at hb) <;> (try simp (disch := omega) only [wrapI] at hb) <;> (try (exfalso; omega))) | fail)))
    · rename_i hb1
      first | (rw [key (by rw [e20 (.inl hb1)]; decide), e20 (.inl hb1)]) | (rw [key (by rw [e20 (.inl hb)]; decide), e20 (.inl hb)])
    · rename_i hb2 hb1
      have hv : e.v = 0 := by simp only [Bool.and_eq_true, decide_eq_true_eq] at hb; exact hb.1
      rw [key (by rw [e20 (.inr ⟨by omega, hv⟩)]; decide), e20 (.inr ⟨by omega, hv⟩)]
    all_goals
      have hR : right e.v e.d e.t = true := by assumption
      have hn : ¬ (right e.v e.d e.t = false ∨ (k = 0 ∧ e.v = 0)) := by
        rintro (h | ⟨h, h'⟩)
        · rw [hR] at h; cases h
        · first
            | omega
            | (have hz : (decide (e.v = 0) && (e.d == false && (e.t == false && true))) = false := by assumption
               rw [right_zero hR, h'] at hz
               cases hz)
      replace e21 := e21 hn
      replace e0' := e0' hn
    · rename_i ht
      have := e21 ⟨by assumption, .inl (by omega)⟩
      rw [key (by rw [this]; decide), this]
    all_goals first
      | (have h2 := e21 ⟨by assumption, .inr (by omega)⟩
         rw [key (by rw [h2]; decide), h2]
         done)
      | skip
    all_goals
      have hT : ¬ (e.tie = true ∧ (k = 0 ∨ 0 < e.stops.length)) := by
        rintro ⟨h, h'⟩
        rcases h' with h' | h' <;> first | omega | (simp_all; done)
      replace e0' := e0' hT
      (repeat' (first | exact rfl | ((conv => whnf); first | exact rfl | refine ⟨by kernel_rfl, ?_⟩ | exact ⟨rfl, rfl⟩ | refine ⟨rfl, ?_⟩ | refine ⟨by (first | omega | (simp (disch := omega) only [wrapI]; omega) | (simp (disch := omega) only [wrapI]; simp; omega) | (simp; omega)), ?_⟩ | (intro ep) | (refine ifB (fun hb => ?_) (fun hb => ?_) <;> (try simp only [decide_eq_true_eq, decide_eq_false_iff_not, beq_iff_eq, beq_eq_false_iff_ne, bne_iff_ne, bne_eq_false_iff_eq, ne_eq, not_false_eq_true, not_true_eq_false, Bool.not_eq_true, Bool.not_eq_true', Bool.not_eq_false', Int.not_lt, Int.not_le] at hb) <;> (try simp (disch := omega) only [wrapI] at hb) <;> (try (exfalso; omega))) | fail)))
      (conv => whnf)
      refine loopM ok mixed (A := A46) [1, 4, 6, 21, 22, 23, 55, 56, 57] [0] (S := { x : Nat × Int // x.1 ≤ e.stops.length ∧ chkStops p k x.2 (e.stops.drop x.1) = chkStops p k 0 e.stops })
        (fr := fun s => frOf 0 73 [(1, .optr (.s 0) e0 3 0 0), (4, .int .i64 k), (6, .int .i64 s.1.2), (21, evsA p.evs), (22, .int .i64 p.evs.length), (23, .int .i64 (k : Int)), (55, stsA e.stops), (56, .int .i64 e.stops.length), (57, .int .i64 (s.1.1 : Int))])
        (h := fun s => ⟨[.vec e0 [[crsA p.ins.cs, intsA p.ins.steps, evsA p.evs]], .hole, .hole], []⟩) (μ := fun s => e.stops.length - s.1.1) ⟨(0, 0), by omega, rfl⟩ rfl rfl ?_
      rintro ⟨⟨j, last⟩, hj, hs⟩
      show aexR _ _ _ (frOf 0 73 [(1, .optr (.s 0) e0 3 0 0), (4, .int .i64 k), (6, .int .i64 last), (21, evsA p.evs), (22, .int .i64 p.evs.length), (23, .int .i64 (k : Int)), (55, stsA e.stops), (56, .int .i64 e.stops.length), (57, .int .i64 (j : Int))]) ⟨[.vec e0 [[crsA p.ins.cs, intsA p.ins.steps, evsA p.evs]], .hole, .hole], []⟩ _
      simp only at hj hs
      (conv => whnf)
      refine ifB (fun h2 => ?_) (fun h2 => ?_)
      · simp only [decide_eq_true_eq] at h2
        have hlj : j < e.stops.length := by omega
        first
          | (exfalso; omega)
          | skip
        all_goals
          rw [drop_at hlj] at hs
          simp only [chkStops] at hs
          (repeat' (first | exact rfl | ((conv => whnf); first | exact rfl | refine ⟨by kernel_rfl, ?_⟩ | exact ⟨rfl, rfl⟩ | refine ⟨rfl, ?_⟩ | refine ⟨by (first | omega | (simp (disch := omega) only [wrapI]; omega) | (simp (disch := omega) only [wrapI]; simp; omega) | (simp; omega)), ?_⟩ | (intro ep) | refine optS (mapR hlj) ?_ | refine ⟨_, checkStop_spec p hp k e.stops[j] last, ?_⟩ | (refine ifB (fun hb => ?_) (fun hb => ?_) <;> (try simp only [decide_eq_true_eq, decide_eq_false_iff_not, beq_iff_eq, beq_eq_false_iff_ne, bne_iff_ne, bne_eq_false_iff_eq, ne_eq, not_false_eq_true, not_true_eq_false, Bool.not_eq_true, Bool.not_eq_true', Bool.not_eq_false', Int.not_lt, Int.not_le] at hb) <;> (try simp (disch := omega) only [wrapI] at hb) <;> (try (exfalso; omega))) | fail)))
          · rw [if_neg hb] at hs
            have hc : chkEv p k e = chkStop p.ins (longest p.evs k (e.stops[j]).c) e.stops[j] last := by rw [e0', hs]
            rw [key (by rw [hc]; exact hb), hc]
          · rw [if_pos hb] at hs
            refine back_of ⟨(j + 1, (e.stops[j]).c), by omega, hs⟩ ⟨by (first | exact rfl | (simp (disch := omega) only [wrapI]; exact rfl)), rfl, by simp only; omega⟩
      · simp only [decide_eq_false_iff_not] at h2
        rw [List.drop_eq_nil_of_le (by omega)] at hs
        (conv => whnf)
        refine back_of ⟨k + 1, by omega, key0 (by rw [e0', ← hs]; rfl)⟩ ⟨by (first | exact rfl | (simp (disch := omega) only [wrapI]; exact rfl)), rfl, by simp only; omega⟩
  · simp only [decide_eq_false_iff_not] at h1
    have h0 : chkEvs p 0 p.evs = 0 := by rw [← hs, List.drop_eq_nil_of_le (by omega)]; rfl
    (repeat' (first | exact rfl | ((conv => whnf); first | exact rfl | refine ⟨by kernel_rfl, ?_⟩ | exact ⟨rfl, rfl⟩ | refine ⟨rfl, ?_⟩ | refine ⟨by (first | omega | (simp (disch := omega) only [wrapI]; omega) | (simp (disch := omega) only [wrapI]; simp; omega) | (simp; omega)), ?_⟩ | (intro ep) | (refine ifB (fun hb => ?_) (fun hb => ?_) <;> (try simp only [decide_eq_true_eq, decide_eq_false_iff_not, beq_iff_eq, beq_eq_false_iff_ne, bne_iff_ne, bne_eq_false_iff_eq, ne_eq, not_false_eq_true, not_true_eq_false, Bool.not_eq_true, Bool.not_eq_true', Bool.not_eq_false', Int.not_lt, Int.not_le] at hb) <;> (try simp (disch := omega) only [wrapI] at hb) <;> (try (exfalso; omega))) | fail)))
    rw [h0]

end Go.Ab.V

/-
  The program's Onsets. No condition on the piece but that its lists are no longer than a machine's.
-/
namespace Go.Ab.V
open Go.Proofs

theorem ints_app (l m : List Int) : ints (l ++ m) = ints l ++ ints m := List.map_append
theorem pure_ints (l : List Int) : pureRows (ints l) := by
  intro row hr c hc
  obtain ⟨x, _, rfl⟩ := List.mem_map.mp hr
  cases List.mem_singleton.mp hc
  rfl
/-- the duration in force -/
def frc (f : Int) (e : Evt) : Int := if 0 < ticks e.v e.d e.t then ticks e.v e.d e.t else f
def onsT (f t : Int) : List Evt → List Int
  | [] => []
  | e :: r => (t + frc f e) :: onsT (frc f e) (t + frc f e) r
def onsets (p : Pc) : List Int := 0 :: onsT 0 0 p.evs

def A78 : Ann := fun r => match r with
  | 0 => { slots := [(0, 0)] }
  | _ => {}
def pcV (p : Pc) : List AV := [crsA p.ins.cs, intsA p.ins.steps, evsA p.evs]

theorem timed_spec (p : Pc) : HRet C.P 78 [pcA p] (fun B eps => .fn (.func 97) [] [.optr (.d B) (eps 0) 3 0 0]) (fun B eps => [.vec (eps 0) [pcV p]]) := by
  refine hret_of ok mixed (A := A78) 1 Tryz.func78 rfl ?_ (fun B E eps => ⟨fun k => eps k + E, rfl, rfl⟩)
  (repeat' (first | exact rfl | ((conv => whnf); first | exact rfl | refine ⟨by kernel_rfl, ?_⟩ | exact ⟨rfl, rfl⟩ | refine ⟨rfl, ?_⟩ | refine ⟨by (first | omega | (simp (disch := omega) only [wrapI]; omega) | (simp (disch := omega) only [wrapI]; simp; omega) | (simp; omega)), ?_⟩ | (intro ep) | (refine ifB (fun hb => ?_) (fun hb => ?_) <;> (try simp only [decide_eq_true_eq, decide_eq_false_iff_not, beq_iff_eq, beq_eq_false_iff_ne, bne_iff_ne, bne_eq_false_iff_eq, ne_eq, not_false_eq_true, not_true_eq_false, Bool.not_eq_true, Bool.not_eq_true', Bool.not_eq_false', Int.not_lt, Int.not_le] at hb) <;> (try simp (disch := omega) only [wrapI] at hb) <;> (try (exfalso; omega))) | fail)))
  exact ⟨fun _ => ep, rfl, rfl⟩

theorem ticks_bd (v : Int) (d t : Bool) : 0 ≤ ticks v d t ∧ ticks v d t ≤ 576 := by
  unfold ticks
  split
  · omega
  · simp only
    repeat' split
    all_goals omega

def A55 : Ann := fun r => match r with
  | 0 => { slots := [(0, 0)] }
  | 4 => { slots := [(0, 1), (1, 2)] }
  | 8 => { slots := [(7, 3), (8, 4)] }
  | _ => {}
def A97 : Ann := fun r => match r with
  | 3 => { slots := [(3, 5)] }
  | _ => {}
theorem chk_len {p : Pc} (h : chk p = 0) : p.evs.length ≤ 400 := by
  unfold chk at h
  split at h
  · split at h
    · omega
    · omega
  · omega
/-- what Onsets hands back -/
def onsV (p : Pc) : AV := if chk p = 0 then .tup [intsA (onsets p), .int .i64 0] else .tup [.nils, .int .i64 (chk p)]

set_option maxHeartbeats 2000000 in
set_option maxRecDepth 100000 in
theorem onsets_spec (p : Pc) (hp : p.Ok) : PRet C.P 55 [pcA p] (onsV p) := by
  unfold onsV
  refine pret_of (okx [78] []) mixed (A := A55) 5 Tryz.func55 rfl ?_
  (repeat' (first | exact rfl | ((conv => whnf); first | exact rfl | refine ⟨by kernel_rfl, ?_⟩ | exact ⟨rfl, rfl⟩ | refine ⟨rfl, ?_⟩ | refine ⟨by (first | omega | (simp (disch := omega) only [wrapI]; omega) | (simp (disch := omega) only [wrapI]; simp; omega) | (simp; omega)), ?_⟩ | (intro ep) | refine ⟨_, check_spec p hp, ?_⟩ | refine ⟨_, _, timed_spec p, ?_⟩ | (refine ifB (fun hb => ?_) (fun hb => ?_) <;> (try simp only [decide_eq_true_eq, decide_eq_false_iff_not, beq_iff_eq, beq_eq_false_iff_ne, bne_iff_ne, bne_eq_false_iff_eq, ne_eq, not_false_eq_true, not_true_eq_false, Bool.not_eq_true, Bool.not_eq_true', Bool.not_eq_false', Int.not_lt, Int.not_le] at hb) <;> (try simp (disch := omega) only [wrapI] at hb) <;> (try (exfalso; omega))) | fail)))
  · rw [if_neg hb]
  rw [if_pos hb]
  have hlen := chk_len hb
  rename_i e0 eA e2
  revert ep
  intro ep0
  (conv => whnf)
  refine rangeF (okx [78] []) rfl rfl ?_
  intro l fnid T D
  refine fnY_of (okx [78] []) mixed (A := A97) 1 Tryz.func97 rfl ?_
  (repeat' (first | exact rfl | ((conv => whnf); first | exact rfl | refine ⟨by kernel_rfl, ?_⟩ | exact ⟨rfl, rfl⟩ | refine ⟨rfl, ?_⟩ | refine ⟨by (first | omega | (simp (disch := omega) only [wrapI]; omega) | (simp (disch := omega) only [wrapI]; simp; omega) | (simp; omega)), ?_⟩ | (intro ep) | (refine ifB (fun hb => ?_) (fun hb => ?_) <;> (try simp only [decide_eq_true_eq, decide_eq_false_iff_not, beq_iff_eq, beq_eq_false_iff_ne, bne_iff_ne, bne_eq_false_iff_eq, ne_eq, not_false_eq_true, not_true_eq_false, Bool.not_eq_true, Bool.not_eq_true', Bool.not_eq_false', Int.not_lt, Int.not_le] at hb) <;> (try simp (disch := omega) only [wrapI] at hb) <;> (try (exfalso; omega))) | fail)))
  (conv => whnf)
  refine loopM (C := (Cx [78] []).withY _) ⟨(okx [78] []).tok, (okx [78] []).fn⟩ mixed (A := A97) [0, 3, 8, 9, 10] [0, 1, 2] (S := { x : Nat × Int × Int × List Int × Nat // x.1 ≤ p.evs.length ∧ x.2.2.2.1.length = x.1 ∧ (0 ≤ x.2.1 ∧ x.2.1 ≤ 576) ∧ (0 ≤ x.2.2.1 ∧ x.2.2.1 ≤ 576 * x.1) ∧ x.2.2.2.1 ++ [x.2.2.1] ++ onsT x.2.1 x.2.2.1 (p.evs.drop x.1) = onsets p })
    (fr := fun s => frOf 0 27 [(0, .fn (.yield l) [] []), (3, .int .i64 s.1.2.1), (8, evsA p.evs), (9, .int .i64 p.evs.length), (10, .int .i64 (s.1.1 : Int))])
    (h := fun s => ⟨[.vec e0 [pcV p], .vec s.1.2.2.2.2 (ints (s.1.2.2.2.1 ++ [s.1.2.2.1])), .vec e2 [[.oslc (.s 1) s.1.2.2.2.2 1 0 (s.1.1 + 1) false]], .hole, .hole, .hole], [.vec (ep0 0) [pcV p]]⟩) (μ := fun s => p.evs.length - s.1.1)
    ⟨(0, 0, 0, [], eA), by simp, rfl, by simp, by simp, by simp [onsets]⟩ ?_ ?_ ?_
  · exact rfl
  · exact rfl
  rintro ⟨⟨k, f, t, pre, eB⟩, hk, hpre, hf, ht, hs⟩
  simp only at hk hpre hf ht hs
  show aexR _ _ _ (frOf 0 27 [(0, .fn (.yield l) [] []), (3, .int .i64 f), (8, evsA p.evs), (9, .int .i64 p.evs.length), (10, .int .i64 (k : Int))])
    ⟨[.vec e0 [pcV p], .vec eB (ints (pre ++ [t])), .vec e2 [[.oslc (.s 1) eB 1 0 (k + 1) false]], .hole, .hole, .hole], [.vec (ep0 0) [pcV p]]⟩ _
  (conv => whnf)
  refine ifB (fun h1 => ?_) (fun h1 => ?_)
  · simp only [decide_eq_true_eq] at h1
    have hlt : k < p.evs.length := by omega
    obtain ⟨e, hev⟩ : ∃ e, p.evs[k] = e := ⟨_, rfl⟩
    have hm : (p.evs.map evR)[0 + ((k : Nat) : Int).toNat]? = some (evR e) := by rw [mapR hlt, hev]
    have tb := ticks_bd e.v e.d e.t
    rw [drop_at hlt, hev] at hs
    simp only [onsT] at hs
    have hrd : (ints (pre ++ [t]))[0 + ((k : Nat) : Int).toNat]? = some [.int .i64 t] := by
      rw [intsR (by simp [hpre])]
      simp [← hpre]
    (repeat' (first | exact rfl | ((conv => whnf); first | exact rfl | refine ⟨by kernel_rfl, ?_⟩ | exact ⟨rfl, rfl⟩ | refine ⟨rfl, ?_⟩ | refine ⟨by (first | omega | (simp (disch := omega) only [wrapI]; omega) | (simp (disch := omega) only [wrapI]; simp; omega) | (simp; omega)), ?_⟩ | (intro ep) | refine optS hm ?_ | refine ⟨_, ticks_spec e.v e.d e.t, ?_⟩ | (refine ifB (fun hb => ?_) (fun hb => ?_) <;> (try simp only [decide_eq_true_eq, decide_eq_false_iff_not, beq_iff_eq, beq_eq_false_iff_ne, bne_iff_ne, bne_eq_false_iff_eq, ne_eq, not_false_eq_true, not_true_eq_false, Bool.not_eq_true, Bool.not_eq_true', Bool.not_eq_false', Int.not_lt, Int.not_le] at hb) <;> (try simp (disch := omega) only [wrapI] at hb) <;> (try (exfalso; omega))) | (refine ⟨by exact rfl, by exact rfl, wk_of (okx [78] []) mixed (A := A55) ?_⟩) | refine wk_of (okx [78] []) mixed (A := A55) ?_ | refine optS hrd ?_ | fail)))
    all_goals (conv => whnf)
    · have e1 : frc f e = ticks e.v e.d e.t := by unfold frc; rw [if_pos (by omega)]
      rw [e1] at hs
      refine back_of ⟨(k + 1, ticks e.v e.d e.t, t + ticks e.v e.d e.t, pre ++ [t], ep), by simp only; omega, by simp [hpre], by simp only; omega, by simp only; omega, by simpa using hs⟩ ⟨by (first | exact rfl | (simp (disch := omega) only [wrapI]; exact rfl)), ?_, by simp only; omega⟩
      simp (disch := omega) only [wrapI]
      refine Eq.trans (b := ⟨[.vec e0 [pcV p], .vec ep ((ints (pre ++ [t])).take (k + 1) ++ [[.int .i64 (t + ticks e.v e.d e.t)]]), .vec e2 [[.oslc (.s 1) ep 1 0 (k + 1 + 1) false]], .hole, .hole, .hole], [.vec (ep0 0) [pcV p]]⟩) rfl ?_
      rw [ints_app (pre ++ [t]), List.take_of_length_le (by simp [ints, hpre])]
      rfl
    · have e1 : frc f e = f := by unfold frc; rw [if_neg (by omega)]
      rw [e1] at hs
      refine back_of ⟨(k + 1, f, t + f, pre ++ [t], ep), by simp only; omega, by simp [hpre], by simp only; omega, by simp only; omega, by simpa using hs⟩ ⟨by (first | exact rfl | (simp (disch := omega) only [wrapI]; exact rfl)), ?_, by simp only; omega⟩
      simp (disch := omega) only [wrapI]
      refine Eq.trans (b := ⟨[.vec e0 [pcV p], .vec ep ((ints (pre ++ [t])).take (k + 1) ++ [[.int .i64 (t + f)]]), .vec e2 [[.oslc (.s 1) ep 1 0 (k + 1 + 1) false]], .hole, .hole, .hole], [.vec (ep0 0) [pcV p]]⟩) rfl ?_
      rw [ints_app (pre ++ [t]), List.take_of_length_le (by simp [ints, hpre])]
      rfl
  · simp only [decide_eq_false_iff_not] at h1
    rw [List.drop_eq_nil_of_le (by omega)] at hs
    simp only [onsT, List.append_nil] at hs
    (repeat' (first | exact rfl | ((conv => whnf); first | exact rfl | refine ⟨by kernel_rfl, ?_⟩ | exact ⟨rfl, rfl⟩ | refine ⟨rfl, ?_⟩ | refine ⟨by (first | omega | (simp (disch := omega) only [wrapI]; omega) | (simp (disch := omega) only [wrapI]; simp; omega) | (simp; omega)), ?_⟩ | (intro ep) | (refine ifB (fun hb => ?_) (fun hb => ?_) <;> (try simp only [decide_eq_true_eq, decide_eq_false_iff_not, beq_iff_eq, beq_eq_false_iff_ne, bne_iff_ne, bne_eq_false_iff_eq, ne_eq, not_false_eq_true, not_true_eq_false, Bool.not_eq_true, Bool.not_eq_true', Bool.not_eq_false', Int.not_lt, Int.not_le] at hb) <;> (try simp (disch := omega) only [wrapI] at hb) <;> (try (exfalso; omega))) | fail)))
    refine ⟨pure_ints _, ?_⟩
    rw [← hs]
    refine ⟨by first | rfl | kernel_rfl, ?_⟩
    show AV.tup [.lslc 1 (ints (pre ++ [t])) 0 (k + 1) false, _] = .tup [.lslc 1 (ints (pre ++ [t])) 0 (pre ++ [t]).length false, _]
    rw [show (pre ++ [t]).length = k + 1 by simp [hpre]]

end Go.Ab.V
