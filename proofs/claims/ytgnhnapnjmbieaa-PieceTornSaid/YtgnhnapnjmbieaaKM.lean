/-
  What is proved here serves the law's text: each part says its own claim and its conditions. No condition is left open.
-/
import Derived.Test.YtgnhnapnjmbieaaKL
import Derived.Test.YtgnhnapnjmbieaaKI
set_option linter.unusedSimpArgs false
set_option linter.unusedVariables false

/-
  When a piece is valid, event by event; cut and joined pieces are valid. Plain Lean. No condition.
-/
namespace Go.Ab.V
open Go.Proofs

theorem chkEvs_iff {p : Pc} : ∀ {l : List Evt} {k : Nat}, chkEvs p k l = 0 ↔ ∀ j (h : j < l.length), chkEv p (k + j) l[j] = 0
  | [], k => by simp [chkEvs]
  | e :: r, k => by
    unfold chkEvs
    constructor
    · intro h j hj
      split at h
      · rename_i h0
        cases j with
        | zero => exact h0
        | succ j =>
          have := (chkEvs_iff.1 h) j (by simpa using hj)
          rw [show k + (j + 1) = k + 1 + j by omega]
          exact this
      · rename_i h0; exact absurd h h0
    · intro h
      have h0 : chkEv p k e = 0 := h 0 (by simp)
      rw [if_pos h0]
      refine chkEvs_iff.2 fun j hj => ?_
      have := h (j + 1) (by simpa using hj)
      rw [show k + 1 + j = k + (j + 1) by omega]
      exact this
theorem chk_iff {p : Pc} : chk p = 0 ↔ chkIn p.ins = 0 ∧ p.evs.length ≤ 400 ∧ ∀ j (h : j < p.evs.length), chkEv p j p.evs[j] = 0 := by
  unfold chk
  constructor
  · intro h
    split at h
    · rename_i h1
      split at h
      · cases h
      · refine ⟨h1, by omega, fun j hj => ?_⟩
        have := chkEvs_iff.1 h j hj
        rwa [Nat.zero_add] at this
    · rename_i h1; exact absurd h h1
  · rintro ⟨h1, h2, h3⟩
    rw [if_pos h1, if_neg (by omega)]
    refine chkEvs_iff.2 fun j hj => ?_
    rw [Nat.zero_add]
    exact h3 j hj
/-- the stops of an event are valid, the greatest holds being lg -/
def StpsOk (i : Ins) (lg : Int → Int) : Int → List Stp → Prop
  | _, [] => True
  | last, s :: r => chkStop i (lg s.c) s last = 0 ∧ StpsOk i lg s.c r
theorem chkStops_iff {p : Pc} {k : Nat} : ∀ {l : List Stp} {last : Int}, chkStops p k last l = 0 ↔ StpsOk p.ins (fun c => longest p.evs k c) last l
  | [], last => by simp [chkStops, StpsOk]
  | s :: r, last => by
    unfold chkStops StpsOk
    constructor
    · intro h
      split at h
      · rename_i h0; exact ⟨h0, chkStops_iff.1 h⟩
      · rename_i h0; exact absurd h h0
    · rintro ⟨h0, h⟩
      rw [if_pos h0]
      exact chkStops_iff.2 h
theorem chkEv_iff {p : Pc} {k : Nat} {e : Evt} : chkEv p k e = 0 ↔ right e.v e.d e.t = true ∧ ¬ (k = 0 ∧ e.v = 0) ∧ ¬ (e.tie = true ∧ (k = 0 ∨ 0 < e.stops.length)) ∧ StpsOk p.ins (fun c => longest p.evs k c) 0 e.stops := by
  unfold chkEv
  constructor
  · intro h
    split at h
    · cases h
    · rename_i h1
      split at h
      · cases h
      · rename_i h2
        refine ⟨?_, fun x => h1 (.inr x), h2, chkStops_iff.1 h⟩
        cases hr : right e.v e.d e.t
        · exact absurd (.inl hr) h1
        · rfl
  · rintro ⟨h1, h2, h3, h4⟩
    rw [if_neg (by rintro (h | h); · rw [h1] at h; cases h
                   · exact h2 h), if_neg h3]
    exact chkStops_iff.2 h4
theorem chkStop_iff {i : Ins} {lg last : Int} {s : Stp} : chkStop i lg s last = 0 ↔ (1 ≤ s.c ∧ s.c ≤ i.cs.length) ∧ (0 ≤ s.f ∧ s.f ≤ fretsOf i s.c) ∧ last < s.c ∧ (0 ≤ s.r ∧ s.r ≤ 3 ∧ 0 ≤ s.g ∧ s.g ≤ 4) ∧ (0 ≤ s.h ∧ s.h ≤ lg ∧ (0 < s.h → s.f ≠ 0)) := by
  unfold chkStop
  constructor
  · intro h
    repeat' (split at h; · cases h)
    omega
  · intro h
    rw [if_neg (by omega), if_neg (by omega), if_neg (by omega), if_neg (by omega), if_neg (by omega)]
theorem stps_mono {i : Ins} {lg lg' : Int → Int} (h : ∀ c, lg c ≤ lg' c) : ∀ {l : List Stp} {last : Int}, StpsOk i lg last l → StpsOk i lg' last l
  | [], _, _ => trivial
  | s :: r, last, ⟨h1, h2⟩ => by
    refine ⟨?_, stps_mono h h2⟩
    rw [chkStop_iff] at h1 ⊢
    have := h s.c
    omega
theorem hmin_le (h c : Int) : hmin h c ≤ h ∧ hmin h c ≤ c := by unfold hmin; split <;> omega
theorem stps_cut {i : Ins} {lg lg' : Int → Int} {c0 : Int} (hc : 0 ≤ c0) (h : ∀ c, hmin (lg c) c0 ≤ lg' c) : ∀ {l : List Stp} {last : Int}, StpsOk i lg last l → StpsOk i lg' last (l.map (hmS c0))
  | [], _, _ => trivial
  | s :: r, last, ⟨h1, h2⟩ => by
    refine ⟨?_, stps_cut hc h h2⟩
    rw [chkStop_iff] at h1 ⊢
    have h3 := h s.c
    show (1 ≤ s.c ∧ s.c ≤ i.cs.length) ∧ (0 ≤ s.f ∧ s.f ≤ fretsOf i s.c) ∧ last < s.c ∧ (0 ≤ s.r ∧ s.r ≤ 3 ∧ 0 ≤ s.g ∧ s.g ≤ 4) ∧ (0 ≤ hmin s.h c0 ∧ hmin s.h c0 ≤ lg' s.c ∧ (0 < hmin s.h c0 → s.f ≠ 0))
    unfold hmin at h3 ⊢
    split at h3 <;> split <;> omega

/-- what a hold looks at -/
def look (e : Evt) : Bool × List Int := (restE e, e.stops.map Stp.c)
theorem hasC_look {l m : List Stp} (h : l.map Stp.c = m.map Stp.c) (c : Int) : hasC l c = hasC m c := by
  induction l generalizing m with
  | nil => cases m with
    | nil => rfl
    | cons b m => simp at h
  | cons a l ih => cases m with
    | nil => simp at h
    | cons b m =>
      simp only [List.map_cons, List.cons.injEq] at h
      simp only [hasC, List.any_cons, h.1] at ih ⊢
      rw [ih h.2]
theorem longL_look (c : Int) : ∀ (n : Nat) (l m : List Evt), l.map look = m.map look → longL c n l = longL c n m
  | 0, _, _, _ => by simp [longL]
  | n + 1, [], [], _ => rfl
  | n + 1, [], _ :: _, h => by simp at h
  | n + 1, _ :: _, [], h => by simp at h
  | n + 1, a :: l, b :: m, h => by
    simp only [List.map_cons, List.cons.injEq, look, Prod.mk.injEq] at h
    obtain ⟨⟨h1, h2⟩, h3⟩ := h
    have ih := longL_look c n l m h3
    simp only [longL, h1, hasC_look h2 c, ih]
theorem longL_take (c : Int) : ∀ (n j : Nat) (l : List Evt), longL c n (l.take j) = min (longL c n l) j
  | 0, _, _ => by simp [longL]
  | n + 1, 0, l => by simp [longL]
  | n + 1, j + 1, [] => by simp [longL]
  | n + 1, j + 1, e :: r => by
    simp only [List.take_succ_cons, longL]
    split
    · simp
    · rw [longL_take c n j r]; omega
theorem longL_app (c : Int) : ∀ (n : Nat) (l m : List Evt), longL c n l ≤ longL c n (l ++ m)
  | 0, _, _ => by simp [longL]
  | n + 1, [], _ => by simp [longL]
  | n + 1, e :: r, m => by
    simp only [List.cons_append, longL]
    split
    · simp
    · have := longL_app c n r m; omega
theorem longest_at {l : List Evt} {k : Nat} (h : k < l.length) (c : Int) : longest l k c = (longL c 15 (l.drop (k + 1)) : Nat) := by
  unfold longest
  rw [if_neg (by omega)]
  congr 3
theorem headL_drop {s : Sgn} {l : List Evt} {i : Nat} : (headL s l).drop (i + 1) = l.drop (i + 1) := by cases l <;> rfl
theorem headL_len {s : Sgn} {l : List Evt} : (headL s l).length = l.length := by cases l <;> rfl
theorem holds_look (l : List Evt) : (holds l).map look = l.map look := by
  refine List.ext_getElem (by simp [holds]) fun i h1 h2 => ?_
  simp only [holds, List.getElem_map, List.getElem_mapIdx, look, holdE, evS, restE, List.map_map, List.length_map]
  congr 1
theorem cut_longest {s : Sgn} {l : List Evt} {i : Nat} (h : i < l.length) (c : Int) : longest (headL s (holds l)) i c = (longL c 15 (l.drop (i + 1)) : Nat) := by
  rw [longest_at (by rw [headL_len, holds_len]; exact h), headL_drop, longL_look c 15 ((holds l).drop (i + 1)) (l.drop (i + 1)) (by rw [List.map_drop, List.map_drop, holds_look])]

theorem hmin_nat (a b : Nat) : hmin (a : Int) (b : Int) = ((min a b : Nat) : Int) := by unfold hmin; split <;> omega
/-- a stretch of a valid piece, cut out, is valid -/
theorem cut_chk {p : Pc} (hc : chk p = 0) {x y : Nat} (hx : x ≤ y) (hy : y ≤ p.evs.length) : chk ⟨p.ins, headL (sgAt (outE plnS sz p.evs) x) (holds (partL p x y))⟩ = 0 := by
  obtain ⟨h1, h2, h3⟩ := chk_iff.1 hc
  obtain ⟨M, hM⟩ : ∃ M, M = partL p x y := ⟨_, rfl⟩
  rw [← hM]
  have hMl : M.length = y - x := by rw [hM, partL, List.length_take, List.length_drop]; omega
  have hMat : ∀ j (h : j < M.length), M[j] = p.evs[x + j]'(by omega) := fun j h => by simp [hM, partL]
  refine chk_iff.2 ⟨h1, by show (headL _ _).length ≤ 400; rw [headL_len, holds_len]; omega, fun j hj => ?_⟩
  have hj' : j < M.length := by
    have : j < (headL (sgAt (outE plnS sz p.evs) x) (holds M)).length := hj
    rwa [headL_len, holds_len] at this
  obtain ⟨k1, k2, k3, k4⟩ := chkEv_iff.1 (h3 (x + j) (by omega))
  have e0 : chkEv ⟨p.ins, headL (sgAt (outE plnS sz p.evs) x) (holds M)⟩ j (headL (sgAt (outE plnS sz p.evs) x) (holds M))[j] = 0 := by
    have hst : StpsOk p.ins (fun c => longest (headL (sgAt (outE plnS sz p.evs) x) (holds M)) j c) 0 (holdE ((M.length : Int) - 1 - (j : Nat)) p.evs[x + j]).stops := by
      refine stps_cut (by omega) (fun c => ?_) k4
      rw [cut_longest hj', longest_at (by omega)]
      have hd : M.drop (j + 1) = (p.evs.drop (x + j + 1)).take (M.length - 1 - j) := by
        rw [hM, partL, List.drop_take, List.drop_drop]
        rw [show x + (j + 1) = x + j + 1 by omega, show y - x - (j + 1) = (List.take (y - x) (List.drop x p.evs)).length - 1 - j by rw [List.length_take, List.length_drop]; omega]
      rw [hd, longL_take, show ((M.length : Int) - 1 - (j : Nat)) = ((M.length - 1 - j : Nat) : Int) by omega, hmin_nat]
      exact Int.le_refl _
    by_cases hj0 : j = 0
    · subst hj0
      rw [headL_zero (by rw [holds_len]; exact hj'), holds_at hj', hMat 0 hj']
      have hP : x < (outE plnS sz p.evs).length := by rw [outE_len]; omega
      have hsg : sgAt (outE plnS sz p.evs) x = (outE plnS sz p.evs)[x].sg := by unfold sgAt; rw [List.getElem?_eq_getElem hP]
      refine chkEv_iff.2 ⟨?_, fun h => ?_, fun h => ?_, ?_⟩
      · rw [hsg]; exact pln_right hc (outE plnS sz p.evs)[x] (List.getElem_mem hP)
      · have hv : (outE plnS sz p.evs)[x].v = 0 := by have := h.2; rw [hsg] at this; exact this
        have htk : 0 < ticks (outE plnS sz p.evs)[x].v (outE plnS sz p.evs)[x].d (outE plnS sz p.evs)[x].t := by
          have e1 : (outE plnS sz p.evs)[x] = withS (p.evs[x]'(by omega)) ((nfs sz p.evs)[x]'(by rw [nfs_len]; omega)) := by simp [outE_pln]
          rw [e1]
          exact nfs_tk p.evs sz right_z (chk_right hc) (fun _ => chk_first hc) _ (List.getElem_mem _)
        have := (right_tk (pln_right hc _ (List.getElem_mem hP))).1 hv
        exact this htk
      · exact absurd h.1 (by simp [headE])
      · exact hst
    · rw [headL_at hj0 (by rw [holds_len]; exact hj'), holds_at hj', hMat j hj']
      refine chkEv_iff.2 ⟨k1, fun h => hj0 h.1, fun h => k3 ⟨h.1, .inr ?_⟩, hst⟩
      rcases h.2 with h | h
      · exact absurd h hj0
      · simpa [holdE, evS] using h
  exact e0
/-- two valid pieces, joined, are valid -/
theorem app_chk {a b : Pc} (ha : chk a = 0) (hb : chk b = 0) (hi : a.ins = b.ins) (hl : a.evs.length + b.evs.length ≤ 400) : chk ⟨a.ins, a.evs ++ b.evs⟩ = 0 := by
  obtain ⟨a1, a2, a3⟩ := chk_iff.1 ha
  obtain ⟨b1, b2, b3⟩ := chk_iff.1 hb
  refine chk_iff.2 ⟨a1, by simpa using hl, fun j hj => ?_⟩
  have hj' : j < (a.evs ++ b.evs).length := hj
  show chkEv ⟨a.ins, a.evs ++ b.evs⟩ j (a.evs ++ b.evs)[j] = 0
  by_cases h : j < a.evs.length
  · rw [List.getElem_append_left h]
    obtain ⟨k1, k2, k3, k4⟩ := chkEv_iff.1 (a3 j h)
    refine chkEv_iff.2 ⟨k1, k2, k3, stps_mono (fun c => ?_) k4⟩
    show longest a.evs j c ≤ longest (a.evs ++ b.evs) j c
    rw [longest_at h, longest_at hj', List.drop_append_of_le_length (by omega)]
    have := longL_app c 15 (a.evs.drop (j + 1)) b.evs
    omega
  · rw [List.getElem_append_right (by omega)]
    have hb' : j - a.evs.length < b.evs.length := by simp at hj'; omega
    obtain ⟨k1, k2, k3, k4⟩ := chkEv_iff.1 (b3 (j - a.evs.length) hb')
    refine chkEv_iff.2 ⟨k1, fun x => k2 ⟨by omega, x.2⟩, fun x => k3 ⟨x.1, by rcases x.2 with y | y; · exact .inl (by omega)
                                                                              · exact .inr y⟩, ?_⟩
    rw [← hi] at k4
    refine stps_mono (fun c => ?_) k4
    show longest b.evs (j - a.evs.length : Nat) c ≤ longest (a.evs ++ b.evs) j c
    have hd : (a.evs ++ b.evs).drop (j + 1) = b.evs.drop (j - a.evs.length + 1) := by
      rw [List.drop_append, show a.evs.drop (j + 1) = [] from List.drop_eq_nil_of_le (by omega), List.nil_append]
      congr 1
      omega
    rw [longest_at hb', longest_at hj', hd]
    exact Int.le_refl _

end Go.Ab.V

/-
  Measures, by the program and by the document. The pieces are of the sizes that a statement looks at.
-/
namespace Go.Ab.V
open Go.Proofs

structure M3 where
  i : Int
  n : Int
  t : Int
def m3R (m : M3) : List AV := [.int .i64 m.i, .int .i64 m.n, .int .i64 m.t]
def bump (l : List M3) (tk : Int) : List M3 := match l.getLast? with
  | some m => l.dropLast ++ [⟨m.i, m.n + 1, m.t + tk⟩]
  | none => []
theorem bump_app (pre : List M3) (m : M3) (tk : Int) : bump (pre ++ [m]) tk = pre ++ [⟨m.i, m.n + 1, m.t + tk⟩] := by
  simp [bump]
def mstep (l : List M3) (k : Nat) (e : Evt) (tk : Int) : List M3 := bump (if k = 0 ∨ e.bar = true then l ++ [⟨k, 0, 0⟩] else l) tk
def msr (l : List M3) (k : Nat) (f : Int) : List Evt → List M3
  | [] => l
  | e :: r => msr (mstep l k e (frc f e)) (k + 1) (frc f e) r
def measures (p : Pc) : List M3 := msr [] 0 0 p.evs
def m3A (l : List M3) : AV := .lslc 3 (l.map m3R) 0 l.length false
/-- what Measures hands back -/
def msrV (p : Pc) : AV := if chk p = 0 then .tup [m3A (measures p), .int .i64 0] else .tup [.nils, .int .i64 (chk p)]

def A39 : Ann := fun r => match r with
  | 0 => { slots := [(0, 0)] }
  | 4 => { slots := [(0, 1)] }
  | 9 => { slots := [(3, 2), (4, 3)] }
  | _ => {}
def A109m : Ann := fun r => match r with
  | 3 => { slots := [(3, 4)] }
  | _ => {}

theorem last_get {l : List (List AV)} {x : List AV} {i : Nat} (h : i = l.length) : (l ++ [x])[i]? = some x := by
  subst h; simp
theorem last_set {l : List (List AV)} {x y : List AV} {i : Nat} (h : i = l.length) : (l ++ [x]).set i y = l ++ [y] := by
  subst h; simp [List.set_append]
theorem mstep_ok {l : List M3} {k : Nat} {e : Evt} {tk : Int} (hM1 : l.length ≤ k) (hM2 : 0 < k → 0 < l.length) (hM3 : ∀ m ∈ l, 0 ≤ m.n ∧ m.n ≤ (k : Int) ∧ 0 ≤ m.t ∧ m.t ≤ 576 * (k : Int)) (ht : 0 ≤ tk ∧ tk ≤ 576) :
    ∃ (pre : List M3) (m : M3), (if k = 0 ∨ e.bar = true then l ++ [⟨(k : Int), 0, 0⟩] else l) = pre ++ [m] ∧ mstep l k e tk = pre ++ [⟨m.i, m.n + 1, m.t + tk⟩] ∧ pre.length ≤ k ∧ (∀ m ∈ pre, 0 ≤ m.n ∧ m.n ≤ (k : Int) ∧ 0 ≤ m.t ∧ m.t ≤ 576 * (k : Int)) ∧ (0 ≤ m.n ∧ m.n ≤ (k : Int) ∧ 0 ≤ m.t ∧ m.t ≤ 576 * (k : Int)) := by
  by_cases h : k = 0 ∨ e.bar = true
  · refine ⟨l, ⟨k, 0, 0⟩, if_pos h, ?_, hM1, hM3, by simp; omega⟩
    unfold mstep
    rw [if_pos h, bump_app]
  · have h0 : 0 < l.length := hM2 (by omega)
    have hne : l ≠ [] := by intro x; subst x; simp at h0
    have hl := List.dropLast_concat_getLast hne
    refine ⟨l.dropLast, l.getLast hne, by rw [if_neg h, hl], ?_, by simp; omega, fun m hm => hM3 m (List.dropLast_subset l hm), hM3 _ (List.getLast_mem hne)⟩
    unfold mstep
    rw [if_neg h]
    have := bump_app l.dropLast (l.getLast hne) tk
    rwa [hl] at this

structure MOk (l : List M3) (k : Nat) : Prop where
  len : l.length ≤ k
  pos : 0 < k → 0 < l.length
  bd : ∀ m ∈ l, 0 ≤ m.n ∧ m.n ≤ k ∧ 0 ≤ m.t ∧ m.t ≤ 576 * k

set_option maxHeartbeats 16000000 in
set_option maxRecDepth 100000 in
theorem measures_spec (p : Pc) (hp : p.Ok) : PRet C.P 39 [pcA p] (msrV p) := by
  unfold msrV
  refine pret_of (okx [79] []) mixed (A := A39) 4 Try.func39 rfl ?_
  (conv => whnf)
  intro e0
  (repeat' (first | exact rfl | ((conv => whnf); first | exact rfl | refine ⟨by kernel_rfl, ?_⟩ | exact ⟨rfl, rfl⟩ | refine ⟨rfl, ?_⟩ | refine ⟨by (first | omega | (simp (disch := omega) only [wrapI]; omega) | (simp (disch := omega) only [wrapI]; simp; omega) | (simp; omega)), ?_⟩ | (intro ep) | refine ⟨_, check_spec p hp, ?_⟩ | (intro ep; skip) | (refine ifB (fun hb => ?_) (fun hb => ?_) <;> (try simp only [decide_eq_true_eq, decide_eq_false_iff_not, beq_iff_eq, beq_eq_false_iff_ne, bne_iff_ne, bne_eq_false_iff_eq, ne_eq, not_false_eq_true, not_true_eq_false, Bool.not_eq_true, Bool.not_eq_true', Bool.not_eq_false', Int.not_lt, Int.not_le] at hb) <;> (try simp (disch := omega) only [wrapI] at hb) <;> (try (exfalso; omega))) | fail)))
  · rw [if_neg hb]
  rw [if_pos hb]
  have hlen := chk_len hb
  obtain ⟨e1, he1⟩ : ∃ e, e = ep := ⟨_, rfl⟩
  subst he1
  (conv => whnf)
  refine ⟨_, _, timed_spec p, ?_⟩
  intro ep0
  (repeat' (first | exact rfl | ((conv => whnf); first | exact rfl | refine ⟨by kernel_rfl, ?_⟩ | exact ⟨rfl, rfl⟩ | refine ⟨rfl, ?_⟩ | refine ⟨by (first | omega | (simp (disch := omega) only [wrapI]; omega) | (simp (disch := omega) only [wrapI]; simp; omega) | (simp; omega)), ?_⟩ | (intro ep) | (refine ifB (fun hb => ?_) (fun hb => ?_) <;> (try simp only [decide_eq_true_eq, decide_eq_false_iff_not, beq_iff_eq, beq_eq_false_iff_ne, bne_iff_ne, bne_eq_false_iff_eq, ne_eq, not_false_eq_true, not_true_eq_false, Bool.not_eq_true, Bool.not_eq_true', Bool.not_eq_false', Int.not_lt, Int.not_le] at hb) <;> (try simp (disch := omega) only [wrapI] at hb) <;> (try (exfalso; omega))) | fail)))
  (conv => whnf)
  refine wk_liftC 1 3 e1 3 0 0 (by decide) rfl rfl rfl ?_
  intro eA
  refine rangeF (okx [79] []) rfl rfl ?_
  intro l fnid T D
  refine fnY_of (okx [79] []) mixed (A := A109m) 1 Try.func109 rfl ?_
  (repeat' (first | exact rfl | ((conv => whnf); first | exact rfl | refine ⟨by kernel_rfl, ?_⟩ | exact ⟨rfl, rfl⟩ | refine ⟨rfl, ?_⟩ | refine ⟨by (first | omega | (simp (disch := omega) only [wrapI]; omega) | (simp (disch := omega) only [wrapI]; simp; omega) | (simp; omega)), ?_⟩ | (intro ep) | (refine ifB (fun hb => ?_) (fun hb => ?_) <;> (try simp only [decide_eq_true_eq, decide_eq_false_iff_not, beq_iff_eq, beq_eq_false_iff_ne, bne_iff_ne, bne_eq_false_iff_eq, ne_eq, not_false_eq_true, not_true_eq_false, Bool.not_eq_true, Bool.not_eq_true', Bool.not_eq_false', Int.not_lt, Int.not_le] at hb) <;> (try simp (disch := omega) only [wrapI] at hb) <;> (try (exfalso; omega))) | fail)))
  (conv => whnf)
  refine loopM (C := (Cx [79] []).withY _) ⟨(okx [79] []).tok, (okx [79] []).fn⟩ mixed (A := A109m) [0, 3, 8, 9, 10] [0, 1, 3] (S := { x : Nat × Int × List M3 × Nat // x.1 ≤ p.evs.length ∧ (0 ≤ x.2.1 ∧ x.2.1 ≤ 576) ∧ MOk x.2.2.1 x.1 ∧ msr x.2.2.1 x.1 x.2.1 (p.evs.drop x.1) = measures p })
    (fr := fun s => frOf 0 27 [(0, .fn (.yield l) [] []), (3, .int .i64 s.1.2.1), (8, evsA p.evs), (9, .int .i64 p.evs.length), (10, .int .i64 (s.1.1 : Int))])
    (h := fun s => ⟨[.vec e0 [pcV p], .vec e1 [[.oslc (.s 3) s.1.2.2.2 3 0 s.1.2.2.1.length false]], .hole, .vec s.1.2.2.2 (s.1.2.2.1.map m3R), .hole], [.vec (ep0 0) [pcV p]]⟩) (μ := fun s => p.evs.length - s.1.1)
    ⟨(0, 0, [], eA), by simp, by simp, ⟨by simp, by simp, by simp⟩, rfl⟩ ?_ ?_ ?_
  · exact rfl
  · exact rfl
  rintro ⟨⟨k, f, ms, eB⟩, hk, hf, hM, hs⟩
  simp only at hk hf hM hs
  show aexR _ _ _ (frOf 0 27 [(0, .fn (.yield l) [] []), (3, .int .i64 f), (8, evsA p.evs), (9, .int .i64 p.evs.length), (10, .int .i64 (k : Int))])
    ⟨[.vec e0 [pcV p], .vec e1 [[.oslc (.s 3) eB 3 0 ms.length false]], .hole, .vec eB (ms.map m3R), .hole], [.vec (ep0 0) [pcV p]]⟩ _
  have hml := hM.len
  (conv => whnf)
  refine ifB (fun h1 => ?_) (fun h1 => ?_)
  · simp only [decide_eq_true_eq] at h1
    have hlt : k < p.evs.length := by omega
    obtain ⟨e, hev⟩ : ∃ e, p.evs[k] = e := ⟨_, rfl⟩
    have hm : (p.evs.map evR)[0 + ((k : Nat) : Int).toNat]? = some (evR e) := by rw [mapR hlt, hev]
    have tb := ticks_bd e.v e.d e.t
    rw [drop_at hlt, hev] at hs
    simp only [msr] at hs
    (repeat' (first | exact rfl | ((conv => whnf); first | exact rfl | refine ⟨by kernel_rfl, ?_⟩ | exact ⟨rfl, rfl⟩ | refine ⟨rfl, ?_⟩ | refine ⟨by (first | omega | (simp (disch := omega) only [wrapI]; omega) | (simp (disch := omega) only [wrapI]; simp; omega) | (simp; omega)), ?_⟩ | (intro ep) | refine optS hm ?_ | refine ⟨_, ticks_spec e.v e.d e.t, ?_⟩ | (refine ifB (fun hb => ?_) (fun hb => ?_) <;> (try simp only [decide_eq_true_eq, decide_eq_false_iff_not, beq_iff_eq, beq_eq_false_iff_ne, bne_iff_ne, bne_eq_false_iff_eq, ne_eq, not_false_eq_true, not_true_eq_false, Bool.not_eq_true, Bool.not_eq_true', Bool.not_eq_false', Int.not_lt, Int.not_le] at hb) <;> (try simp (disch := omega) only [wrapI] at hb) <;> (try (exfalso; omega))) | (refine ⟨by exact rfl, by exact rfl, wk_of (okx [79] []) mixed (A := A39) ?_⟩) | refine wk_of (okx [79] []) mixed (A := A39) ?_ | fail)))
    all_goals
      have hfr : ∃ f', f' = frc f e ∧ 0 ≤ f' ∧ f' ≤ 576 := ⟨_, rfl, by unfold frc; split <;> omega⟩
      obtain ⟨f', hf', hfb⟩ := hfr
      rw [← hf'] at hs
      obtain ⟨pre, m, g1, g2, g3, g4, g5⟩ := mstep_ok (e := e) hM.len hM.pos hM.bd hfb
      rw [g2] at hs
      have hsN := hs
      have hMn : MOk (pre ++ [⟨m.i, m.n + 1, m.t + f'⟩]) (k + 1) := by
        refine ⟨by simp; omega, by simp, fun x hx => ?_⟩
        rcases List.mem_append.1 hx with hx | hx
        · have := g4 x hx; omega
        · obtain rfl := List.mem_singleton.1 hx
          simp only
          omega
    · have hfe : f' = ticks e.v e.d e.t := by rw [hf']; unfold frc; rw [if_pos (by omega)]
      subst hfe
      have hc : k = 0 ∨ e.bar = true := .inl (by omega)
      rw [if_pos hc] at g1
      obtain ⟨hp1, hp2⟩ := List.append_inj' g1 rfl
      obtain rfl := hp1
      obtain rfl : (⟨(k : Int), 0, 0⟩ : M3) = m := by simpa using hp2
      have hw : IntKind.i64.wrap (((ms.length + 1 : Nat) : Int) - 1) = (ms.length : Int) := by rw [IntWalk.i64_in _ (by omega)]; omega
      have hB : 0 ≤ IntKind.i64.wrap (((ms.length + 1 : Nat) : Int) - 1) ∧ IntKind.i64.wrap (((ms.length + 1 : Nat) : Int) - 1) < ((ms.length + 1 : Nat) : Int) := by rw [hw]; omega
      have hi : 0 + (IntKind.i64.wrap (((ms.length + 1 : Nat) : Int) - 1)).toNat = (List.take ms.length (List.drop 0 (ms.map m3R))).length := by rw [hw]; simp
      have r1 : (List.take ms.length (List.drop 0 (ms.map m3R)) ++ [[AV.int .i64 (k : Int), AV.int .i64 0, AV.int .i64 0]])[0 + (IntKind.i64.wrap (((ms.length + 1 : Nat) : Int) - 1)).toNat]? = some [AV.int .i64 (k : Int), AV.int .i64 0, AV.int .i64 0] := last_get hi
      have r2 : ((List.take ms.length (List.drop 0 (ms.map m3R)) ++ [[AV.int .i64 (k : Int), AV.int .i64 0, AV.int .i64 0]]).set (0 + (IntKind.i64.wrap (((ms.length + 1 : Nat) : Int) - 1)).toNat) [AV.int .i64 (k : Int), AV.int .i64 1, AV.int .i64 0])[0 + (IntKind.i64.wrap (((ms.length + 1 : Nat) : Int) - 1)).toNat]? = some [AV.int .i64 (k : Int), AV.int .i64 1, AV.int .i64 0] := by
        rw [last_set hi]; exact last_get hi
      (conv => whnf)
      refine ⟨hB, ?_⟩
      (repeat' ((conv => whnf); first | refine ⟨rfl, ?_⟩ | refine optS r1 ?_ | refine optS r2 ?_ | fail))
      (conv => whnf)
      refine back_of ⟨(k + 1, ticks e.v e.d e.t, ms ++ [⟨(k : Int), 0 + 1, 0 + ticks e.v e.d e.t⟩], ep), by simp only; omega, by simp only; omega, hMn, hsN⟩ ⟨by (first | exact rfl | (simp (disch := omega) only [wrapI]; exact rfl)), ?_, by simp only; omega⟩
      refine Eq.trans (b := ⟨[.vec e0 [pcV p], .vec e1 [[.oslc (.s 3) ep 3 0 (ms.length + 1) false]], .hole, .vec ep (((List.take ms.length (List.drop 0 (ms.map m3R)) ++ [[AV.int .i64 (k : Int), AV.int .i64 0, AV.int .i64 0]]).set (0 + (IntKind.i64.wrap (((ms.length + 1 : Nat) : Int) - 1)).toNat) [AV.int .i64 (k : Int), AV.int .i64 1, AV.int .i64 0]).set (0 + (IntKind.i64.wrap (((ms.length + 1 : Nat) : Int) - 1)).toNat) [AV.int .i64 (k : Int), AV.int .i64 1, AV.int .i64 (IntKind.i64.wrap (0 + ticks e.v e.d e.t))]), .hole], [.vec (ep0 0) [pcV p]]⟩) rfl ?_
      rw [last_set hi, last_set hi, IntWalk.i64_in (0 + ticks e.v e.d e.t) (by omega)]
      simp [m3R]
      exact List.take_of_length_le (by simp)
    · have hfe : f' = ticks e.v e.d e.t := by rw [hf']; unfold frc; rw [if_pos (by omega)]
      subst hfe
      have hc : k = 0 ∨ e.bar = true := .inr (by assumption)
      rw [if_pos hc] at g1
      obtain ⟨hp1, hp2⟩ := List.append_inj' g1 rfl
      obtain rfl := hp1
      obtain rfl : (⟨(k : Int), 0, 0⟩ : M3) = m := by simpa using hp2
      have hw : IntKind.i64.wrap (((ms.length + 1 : Nat) : Int) - 1) = (ms.length : Int) := by rw [IntWalk.i64_in _ (by omega)]; omega
      have hB : 0 ≤ IntKind.i64.wrap (((ms.length + 1 : Nat) : Int) - 1) ∧ IntKind.i64.wrap (((ms.length + 1 : Nat) : Int) - 1) < ((ms.length + 1 : Nat) : Int) := by rw [hw]; omega
      have hi : 0 + (IntKind.i64.wrap (((ms.length + 1 : Nat) : Int) - 1)).toNat = (List.take ms.length (List.drop 0 (ms.map m3R))).length := by rw [hw]; simp
      have r1 : (List.take ms.length (List.drop 0 (ms.map m3R)) ++ [[AV.int .i64 (k : Int), AV.int .i64 0, AV.int .i64 0]])[0 + (IntKind.i64.wrap (((ms.length + 1 : Nat) : Int) - 1)).toNat]? = some [AV.int .i64 (k : Int), AV.int .i64 0, AV.int .i64 0] := last_get hi
      have r2 : ((List.take ms.length (List.drop 0 (ms.map m3R)) ++ [[AV.int .i64 (k : Int), AV.int .i64 0, AV.int .i64 0]]).set (0 + (IntKind.i64.wrap (((ms.length + 1 : Nat) : Int) - 1)).toNat) [AV.int .i64 (k : Int), AV.int .i64 1, AV.int .i64 0])[0 + (IntKind.i64.wrap (((ms.length + 1 : Nat) : Int) - 1)).toNat]? = some [AV.int .i64 (k : Int), AV.int .i64 1, AV.int .i64 0] := by
        rw [last_set hi]; exact last_get hi
      (conv => whnf)
      refine ⟨hB, ?_⟩
      (repeat' ((conv => whnf); first | refine ⟨rfl, ?_⟩ | refine optS r1 ?_ | refine optS r2 ?_ | fail))
      (conv => whnf)
      refine back_of ⟨(k + 1, ticks e.v e.d e.t, ms ++ [⟨(k : Int), 0 + 1, 0 + ticks e.v e.d e.t⟩], ep), by simp only; omega, by simp only; omega, hMn, hsN⟩ ⟨by (first | exact rfl | (simp (disch := omega) only [wrapI]; exact rfl)), ?_, by simp only; omega⟩
      refine Eq.trans (b := ⟨[.vec e0 [pcV p], .vec e1 [[.oslc (.s 3) ep 3 0 (ms.length + 1) false]], .hole, .vec ep (((List.take ms.length (List.drop 0 (ms.map m3R)) ++ [[AV.int .i64 (k : Int), AV.int .i64 0, AV.int .i64 0]]).set (0 + (IntKind.i64.wrap (((ms.length + 1 : Nat) : Int) - 1)).toNat) [AV.int .i64 (k : Int), AV.int .i64 1, AV.int .i64 0]).set (0 + (IntKind.i64.wrap (((ms.length + 1 : Nat) : Int) - 1)).toNat) [AV.int .i64 (k : Int), AV.int .i64 1, AV.int .i64 (IntKind.i64.wrap (0 + ticks e.v e.d e.t))]), .hole], [.vec (ep0 0) [pcV p]]⟩) rfl ?_
      rw [last_set hi, last_set hi, IntWalk.i64_in (0 + ticks e.v e.d e.t) (by omega)]
      simp [m3R]
      exact List.take_of_length_le (by simp)
    · have hfe : f' = ticks e.v e.d e.t := by rw [hf']; unfold frc; rw [if_pos (by omega)]
      subst hfe
      have hc : ¬ (k = 0 ∨ e.bar = true) := by rintro (h | h) <;> first | omega | (simp_all; done)
      rw [if_neg hc] at g1
      subst g1
      have hl : (pre ++ [m]).length = pre.length + 1 := by simp
      have hw : IntKind.i64.wrap (((pre ++ [m]).length : Int) - 1) = (pre.length : Int) := by rw [hl, IntWalk.i64_in _ (by omega)]; omega
      have hB : 0 ≤ IntKind.i64.wrap (((pre ++ [m]).length : Int) - 1) ∧ IntKind.i64.wrap (((pre ++ [m]).length : Int) - 1) < ((pre ++ [m]).length : Int) := by rw [hw, hl]; omega
      have hi : 0 + (IntKind.i64.wrap (((pre ++ [m]).length : Int) - 1)).toNat = (pre.map m3R).length := by rw [hw]; simp
      have hmap : ((pre ++ [m]).map m3R) = pre.map m3R ++ [m3R m] := by simp
      have r1 : ((pre ++ [m]).map m3R)[0 + (IntKind.i64.wrap (((pre ++ [m]).length : Int) - 1)).toNat]? = some (m3R m) := by rw [hmap]; exact last_get hi
      have r2 : (((pre ++ [m]).map m3R).set (0 + (IntKind.i64.wrap (((pre ++ [m]).length : Int) - 1)).toNat) [AV.int .i64 m.i, AV.int .i64 (IntKind.i64.wrap (m.n + 1)), AV.int .i64 m.t])[0 + (IntKind.i64.wrap (((pre ++ [m]).length : Int) - 1)).toNat]? = some [AV.int .i64 m.i, AV.int .i64 (IntKind.i64.wrap (m.n + 1)), AV.int .i64 m.t] := by
        rw [hmap, last_set hi]; exact last_get hi
      (conv => whnf)
      refine ⟨hB, ?_⟩
      (repeat' ((conv => whnf); first | refine ⟨rfl, ?_⟩ | refine optS r1 ?_ | refine optS r2 ?_ | fail))
      (conv => whnf)
      refine back_of ⟨(k + 1, ticks e.v e.d e.t, pre ++ [⟨m.i, m.n + 1, m.t + ticks e.v e.d e.t⟩], eB), by simp only; omega, by simp only; omega, hMn, hsN⟩ ⟨by (first | exact rfl | (simp (disch := omega) only [wrapI]; exact rfl)), ?_, by simp only; omega⟩
      refine Eq.trans (b := ⟨[.vec e0 [pcV p], .vec e1 [[.oslc (.s 3) eB 3 0 (pre ++ [m]).length false]], .hole, .vec eB ((((pre ++ [m]).map m3R).set (0 + (IntKind.i64.wrap (((pre ++ [m]).length : Int) - 1)).toNat) [AV.int .i64 m.i, AV.int .i64 (IntKind.i64.wrap (m.n + 1)), AV.int .i64 m.t]).set (0 + (IntKind.i64.wrap (((pre ++ [m]).length : Int) - 1)).toNat) [AV.int .i64 m.i, AV.int .i64 (IntKind.i64.wrap (m.n + 1)), AV.int .i64 (IntKind.i64.wrap (m.t + ticks e.v e.d e.t))]), .hole], [.vec (ep0 0) [pcV p]]⟩) rfl ?_
      rw [hmap, last_set hi, last_set hi, IntWalk.i64_in (m.t + ticks e.v e.d e.t) (by omega), IntWalk.i64_in (m.n + 1) (by omega)]
      simp [m3R]
    · have hfe : f' = f := by rw [hf']; unfold frc; rw [if_neg (by omega)]
      subst hfe
      have hc : k = 0 ∨ e.bar = true := .inl (by omega)
      rw [if_pos hc] at g1
      obtain ⟨hp1, hp2⟩ := List.append_inj' g1 rfl
      obtain rfl := hp1
      obtain rfl : (⟨(k : Int), 0, 0⟩ : M3) = m := by simpa using hp2
      have hw : IntKind.i64.wrap (((ms.length + 1 : Nat) : Int) - 1) = (ms.length : Int) := by rw [IntWalk.i64_in _ (by omega)]; omega
      have hB : 0 ≤ IntKind.i64.wrap (((ms.length + 1 : Nat) : Int) - 1) ∧ IntKind.i64.wrap (((ms.length + 1 : Nat) : Int) - 1) < ((ms.length + 1 : Nat) : Int) := by rw [hw]; omega
      have hi : 0 + (IntKind.i64.wrap (((ms.length + 1 : Nat) : Int) - 1)).toNat = (List.take ms.length (List.drop 0 (ms.map m3R))).length := by rw [hw]; simp
      have r1 : (List.take ms.length (List.drop 0 (ms.map m3R)) ++ [[AV.int .i64 (k : Int), AV.int .i64 0, AV.int .i64 0]])[0 + (IntKind.i64.wrap (((ms.length + 1 : Nat) : Int) - 1)).toNat]? = some [AV.int .i64 (k : Int), AV.int .i64 0, AV.int .i64 0] := last_get hi
      have r2 : ((List.take ms.length (List.drop 0 (ms.map m3R)) ++ [[AV.int .i64 (k : Int), AV.int .i64 0, AV.int .i64 0]]).set (0 + (IntKind.i64.wrap (((ms.length + 1 : Nat) : Int) - 1)).toNat) [AV.int .i64 (k : Int), AV.int .i64 1, AV.int .i64 0])[0 + (IntKind.i64.wrap (((ms.length + 1 : Nat) : Int) - 1)).toNat]? = some [AV.int .i64 (k : Int), AV.int .i64 1, AV.int .i64 0] := by
        rw [last_set hi]; exact last_get hi
      (conv => whnf)
      refine ⟨hB, ?_⟩
      (repeat' ((conv => whnf); first | refine ⟨rfl, ?_⟩ | refine optS r1 ?_ | refine optS r2 ?_ | fail))
      (conv => whnf)
      refine back_of ⟨(k + 1, f', ms ++ [⟨(k : Int), 0 + 1, 0 + f'⟩], ep), by simp only; omega, by simp only; omega, hMn, hsN⟩ ⟨by (first | exact rfl | (simp (disch := omega) only [wrapI]; exact rfl)), ?_, by simp only; omega⟩
      refine Eq.trans (b := ⟨[.vec e0 [pcV p], .vec e1 [[.oslc (.s 3) ep 3 0 (ms.length + 1) false]], .hole, .vec ep (((List.take ms.length (List.drop 0 (ms.map m3R)) ++ [[AV.int .i64 (k : Int), AV.int .i64 0, AV.int .i64 0]]).set (0 + (IntKind.i64.wrap (((ms.length + 1 : Nat) : Int) - 1)).toNat) [AV.int .i64 (k : Int), AV.int .i64 1, AV.int .i64 0]).set (0 + (IntKind.i64.wrap (((ms.length + 1 : Nat) : Int) - 1)).toNat) [AV.int .i64 (k : Int), AV.int .i64 1, AV.int .i64 (IntKind.i64.wrap (0 + f'))]), .hole], [.vec (ep0 0) [pcV p]]⟩) rfl ?_
      rw [last_set hi, last_set hi, IntWalk.i64_in (0 + f') (by omega)]
      simp [m3R]
      exact List.take_of_length_le (by simp)
    · have hfe : f' = f := by rw [hf']; unfold frc; rw [if_neg (by omega)]
      subst hfe
      have hc : k = 0 ∨ e.bar = true := .inr (by assumption)
      rw [if_pos hc] at g1
      obtain ⟨hp1, hp2⟩ := List.append_inj' g1 rfl
      obtain rfl := hp1
      obtain rfl : (⟨(k : Int), 0, 0⟩ : M3) = m := by simpa using hp2
      have hw : IntKind.i64.wrap (((ms.length + 1 : Nat) : Int) - 1) = (ms.length : Int) := by rw [IntWalk.i64_in _ (by omega)]; omega
      have hB : 0 ≤ IntKind.i64.wrap (((ms.length + 1 : Nat) : Int) - 1) ∧ IntKind.i64.wrap (((ms.length + 1 : Nat) : Int) - 1) < ((ms.length + 1 : Nat) : Int) := by rw [hw]; omega
      have hi : 0 + (IntKind.i64.wrap (((ms.length + 1 : Nat) : Int) - 1)).toNat = (List.take ms.length (List.drop 0 (ms.map m3R))).length := by rw [hw]; simp
      have r1 : (List.take ms.length (List.drop 0 (ms.map m3R)) ++ [[AV.int .i64 (k : Int), AV.int .i64 0, AV.int .i64 0]])[0 + (IntKind.i64.wrap (((ms.length + 1 : Nat) : Int) - 1)).toNat]? = some [AV.int .i64 (k : Int), AV.int .i64 0, AV.int .i64 0] := last_get hi
      have r2 : ((List.take ms.length (List.drop 0 (ms.map m3R)) ++ [[AV.int .i64 (k : Int), AV.int .i64 0, AV.int .i64 0]]).set (0 + (IntKind.i64.wrap (((ms.length + 1 : Nat) : Int) - 1)).toNat) [AV.int .i64 (k : Int), AV.int .i64 1, AV.int .i64 0])[0 + (IntKind.i64.wrap (((ms.length + 1 : Nat) : Int) - 1)).toNat]? = some [AV.int .i64 (k : Int), AV.int .i64 1, AV.int .i64 0] := by
        rw [last_set hi]; exact last_get hi
      (conv => whnf)
      refine ⟨hB, ?_⟩
      (repeat' ((conv => whnf); first | refine ⟨rfl, ?_⟩ | refine optS r1 ?_ | refine optS r2 ?_ | fail))
      (conv => whnf)
      refine back_of ⟨(k + 1, f', ms ++ [⟨(k : Int), 0 + 1, 0 + f'⟩], ep), by simp only; omega, by simp only; omega, hMn, hsN⟩ ⟨by (first | exact rfl | (simp (disch := omega) only [wrapI]; exact rfl)), ?_, by simp only; omega⟩
      refine Eq.trans (b := ⟨[.vec e0 [pcV p], .vec e1 [[.oslc (.s 3) ep 3 0 (ms.length + 1) false]], .hole, .vec ep (((List.take ms.length (List.drop 0 (ms.map m3R)) ++ [[AV.int .i64 (k : Int), AV.int .i64 0, AV.int .i64 0]]).set (0 + (IntKind.i64.wrap (((ms.length + 1 : Nat) : Int) - 1)).toNat) [AV.int .i64 (k : Int), AV.int .i64 1, AV.int .i64 0]).set (0 + (IntKind.i64.wrap (((ms.length + 1 : Nat) : Int) - 1)).toNat) [AV.int .i64 (k : Int), AV.int .i64 1, AV.int .i64 (IntKind.i64.wrap (0 + f'))]), .hole], [.vec (ep0 0) [pcV p]]⟩) rfl ?_
      rw [last_set hi, last_set hi, IntWalk.i64_in (0 + f') (by omega)]
      simp [m3R]
      exact List.take_of_length_le (by simp)
    · have hfe : f' = f := by rw [hf']; unfold frc; rw [if_neg (by omega)]
      subst hfe
      have hc : ¬ (k = 0 ∨ e.bar = true) := by rintro (h | h) <;> first | omega | (simp_all; done)
      rw [if_neg hc] at g1
      subst g1
      have hl : (pre ++ [m]).length = pre.length + 1 := by simp
      have hw : IntKind.i64.wrap (((pre ++ [m]).length : Int) - 1) = (pre.length : Int) := by rw [hl, IntWalk.i64_in _ (by omega)]; omega
      have hB : 0 ≤ IntKind.i64.wrap (((pre ++ [m]).length : Int) - 1) ∧ IntKind.i64.wrap (((pre ++ [m]).length : Int) - 1) < ((pre ++ [m]).length : Int) := by rw [hw, hl]; omega
      have hi : 0 + (IntKind.i64.wrap (((pre ++ [m]).length : Int) - 1)).toNat = (pre.map m3R).length := by rw [hw]; simp
      have hmap : ((pre ++ [m]).map m3R) = pre.map m3R ++ [m3R m] := by simp
      have r1 : ((pre ++ [m]).map m3R)[0 + (IntKind.i64.wrap (((pre ++ [m]).length : Int) - 1)).toNat]? = some (m3R m) := by rw [hmap]; exact last_get hi
      have r2 : (((pre ++ [m]).map m3R).set (0 + (IntKind.i64.wrap (((pre ++ [m]).length : Int) - 1)).toNat) [AV.int .i64 m.i, AV.int .i64 (IntKind.i64.wrap (m.n + 1)), AV.int .i64 m.t])[0 + (IntKind.i64.wrap (((pre ++ [m]).length : Int) - 1)).toNat]? = some [AV.int .i64 m.i, AV.int .i64 (IntKind.i64.wrap (m.n + 1)), AV.int .i64 m.t] := by
        rw [hmap, last_set hi]; exact last_get hi
      (conv => whnf)
      refine ⟨hB, ?_⟩
      (repeat' ((conv => whnf); first | refine ⟨rfl, ?_⟩ | refine optS r1 ?_ | refine optS r2 ?_ | fail))
      (conv => whnf)
      refine back_of ⟨(k + 1, f', pre ++ [⟨m.i, m.n + 1, m.t + f'⟩], eB), by simp only; omega, by simp only; omega, hMn, hsN⟩ ⟨by (first | exact rfl | (simp (disch := omega) only [wrapI]; exact rfl)), ?_, by simp only; omega⟩
      refine Eq.trans (b := ⟨[.vec e0 [pcV p], .vec e1 [[.oslc (.s 3) eB 3 0 (pre ++ [m]).length false]], .hole, .vec eB ((((pre ++ [m]).map m3R).set (0 + (IntKind.i64.wrap (((pre ++ [m]).length : Int) - 1)).toNat) [AV.int .i64 m.i, AV.int .i64 (IntKind.i64.wrap (m.n + 1)), AV.int .i64 m.t]).set (0 + (IntKind.i64.wrap (((pre ++ [m]).length : Int) - 1)).toNat) [AV.int .i64 m.i, AV.int .i64 (IntKind.i64.wrap (m.n + 1)), AV.int .i64 (IntKind.i64.wrap (m.t + f'))]), .hole], [.vec (ep0 0) [pcV p]]⟩) rfl ?_
      rw [hmap, last_set hi, last_set hi, IntWalk.i64_in (m.t + f') (by omega), IntWalk.i64_in (m.n + 1) (by omega)]
      simp [m3R]
  · simp only [decide_eq_false_iff_not] at h1
    rw [List.drop_eq_nil_of_le (by omega)] at hs
    simp only [msr] at hs
    (repeat' (first | exact rfl | ((conv => whnf); first | exact rfl | refine ⟨by kernel_rfl, ?_⟩ | exact ⟨rfl, rfl⟩ | refine ⟨rfl, ?_⟩ | refine ⟨by (first | omega | (simp (disch := omega) only [wrapI]; omega) | (simp (disch := omega) only [wrapI]; simp; omega) | (simp; omega)), ?_⟩ | (intro ep) | (refine ifB (fun hb => ?_) (fun hb => ?_) <;> (try simp only [decide_eq_true_eq, decide_eq_false_iff_not, beq_iff_eq, beq_eq_false_iff_ne, bne_iff_ne, bne_eq_false_iff_eq, ne_eq, not_false_eq_true, not_true_eq_false, Bool.not_eq_true, Bool.not_eq_true', Bool.not_eq_false', Int.not_lt, Int.not_le] at hb) <;> (try simp (disch := omega) only [wrapI] at hb) <;> (try (exfalso; omega))) | fail)))
    rw [hs]
    exact ⟨pure_map _ fun x => rfl, rfl, rfl⟩

end Go.Ab.V

/-
  SameInts of a list with itself; the document's Measures; the law PieceTimes. The pieces are of the sizes that a statement looks at.
-/
namespace Go.Ab.V
open Go.Proofs

def A38 : Ann := fun _ => {}
theorem sameInts_nil : PRet C.P 38 [.nils, .nils] (.bool true) := by
  refine pret_of ok mixed (A := A38) 0 Try.func38 rfl ?_
  (repeat' (first | exact rfl | ((conv => whnf); first | exact rfl | refine ⟨by kernel_rfl, ?_⟩ | exact ⟨rfl, rfl⟩ | refine ⟨rfl, ?_⟩ | refine ⟨by (first | omega | (simp (disch := omega) only [wrapI]; omega) | (simp (disch := omega) only [wrapI]; simp; omega) | (simp; omega)), ?_⟩ | (intro ep) | refine loopU ok mixed (A := A38) 2 ?_ | (refine ifB (fun hb => ?_) (fun hb => ?_) <;> (try simp only [decide_eq_true_eq, decide_eq_false_iff_not, beq_iff_eq, beq_eq_false_iff_ne, bne_iff_ne, bne_eq_false_iff_eq, ne_eq, not_false_eq_true, not_true_eq_false, Bool.not_eq_true, Bool.not_eq_true', Bool.not_eq_false', Int.not_lt, Int.not_le] at hb) <;> (try simp (disch := omega) only [wrapI] at hb) <;> (try (exfalso; omega))) | fail)))

set_option maxHeartbeats 1000000 in
set_option maxRecDepth 100000 in
theorem sameInts_self (l : List Int) (hn : l.length ≤ 100000) : PRet C.P 38 [intsA l, intsA l] (.bool true) := by
  refine pret_of ok mixed (A := A38) 0 Try.func38 rfl ?_
  (repeat' (first | exact rfl | ((conv => whnf); first | exact rfl | refine ⟨by kernel_rfl, ?_⟩ | exact ⟨rfl, rfl⟩ | refine ⟨rfl, ?_⟩ | refine ⟨by (first | omega | (simp (disch := omega) only [wrapI]; omega) | (simp (disch := omega) only [wrapI]; simp; omega) | (simp; omega)), ?_⟩ | (intro ep) | (refine ifB (fun hb => ?_) (fun hb => ?_) <;> (try simp only [decide_eq_true_eq, decide_eq_false_iff_not, beq_iff_eq, beq_eq_false_iff_ne, bne_iff_ne, bne_eq_false_iff_eq, ne_eq, not_false_eq_true, not_true_eq_false, Bool.not_eq_true, Bool.not_eq_true', Bool.not_eq_false', Int.not_lt, Int.not_le] at hb) <;> (try simp (disch := omega) only [wrapI] at hb) <;> (try (exfalso; omega))) | fail)))
  (conv => whnf)
  refine loopM ok mixed (A := A38) [0, 1, 5] [] (S := { k : Nat // k ≤ l.length })
    (fr := fun s => frOf 0 26 [(0, intsA l), (1, intsA l), (5, .int .i64 (s.1 : Int))])
    (h := fun s => ⟨[], []⟩) (μ := fun s => l.length - s.1) ⟨0, by omega⟩ rfl rfl ?_
  rintro ⟨k, hk⟩
  show aexR _ _ _ (frOf 0 26 [(0, intsA l), (1, intsA l), (5, .int .i64 (k : Int))]) ⟨[], []⟩ _
  (conv => whnf)
  refine ifB (fun h1 => ?_) (fun h1 => ?_)
  · simp only [decide_eq_true_eq] at h1
    have hlt : k < l.length := by omega
    (repeat' (first | exact rfl | ((conv => whnf); first | exact rfl | refine ⟨by kernel_rfl, ?_⟩ | exact ⟨rfl, rfl⟩ | refine ⟨rfl, ?_⟩ | refine ⟨by (first | omega | (simp (disch := omega) only [wrapI]; omega) | (simp (disch := omega) only [wrapI]; simp; omega) | (simp; omega)), ?_⟩ | (intro ep) | refine optS (intsR hlt) ?_ | (refine ifB (fun hb => ?_) (fun hb => ?_) <;> (try simp only [decide_eq_true_eq, decide_eq_false_iff_not, beq_iff_eq, beq_eq_false_iff_ne, bne_iff_ne, bne_eq_false_iff_eq, ne_eq, not_false_eq_true, not_true_eq_false, Bool.not_eq_true, Bool.not_eq_true', Bool.not_eq_false', Int.not_lt, Int.not_le] at hb) <;> (try simp (disch := omega) only [wrapI] at hb) <;> (try (exfalso; omega))) | fail)))
    (conv => whnf)
    refine back_of ⟨k + 1, by omega⟩ ⟨by (first | exact rfl | (simp (disch := omega) only [wrapI]; exact rfl)), rfl, by simp only; omega⟩
  · simp only [decide_eq_false_iff_not] at h1
    (repeat' (first | exact rfl | ((conv => whnf); first | exact rfl | refine ⟨by kernel_rfl, ?_⟩ | exact ⟨rfl, rfl⟩ | refine ⟨rfl, ?_⟩ | refine ⟨by (first | omega | (simp (disch := omega) only [wrapI]; omega) | (simp (disch := omega) only [wrapI]; simp; omega) | (simp; omega)), ?_⟩ | (intro ep) | (refine ifB (fun hb => ?_) (fun hb => ?_) <;> (try simp only [decide_eq_true_eq, decide_eq_false_iff_not, beq_iff_eq, beq_eq_false_iff_ne, bne_iff_ne, bne_eq_false_iff_eq, ne_eq, not_false_eq_true, not_true_eq_false, Bool.not_eq_true, Bool.not_eq_true', Bool.not_eq_false', Int.not_lt, Int.not_le] at hb) <;> (try simp (disch := omega) only [wrapI] at hb) <;> (try (exfalso; omega))) | fail)))

def A40 : Ann := fun r => match r with
  | 0 => { slots := [(0, 0)] }
  | 10 => { slots := [(3, 1), (4, 2)] }
  | _ => {}

set_option maxHeartbeats 16000000 in
set_option maxRecDepth 100000 in
theorem refMeasures_spec (p : Pc) (hp : p.Ok) (hS : p.Sm) : PRet C.P 40 [pcA p] (msrV p) := by
  have hck := refCheck_spec p hp hS.ev
  have htm := times_spec p hS
  unfold msrV
  refine pret_of ok mixed (A := A40) 3 Try.func40 rfl ?_
  (conv => whnf)
  intro e0
  (repeat' (first | exact rfl | ((conv => whnf); first | exact rfl | refine ⟨by kernel_rfl, ?_⟩ | exact ⟨rfl, rfl⟩ | refine ⟨rfl, ?_⟩ | refine ⟨by (first | omega | (simp (disch := omega) only [wrapI]; omega) | (simp (disch := omega) only [wrapI]; simp; omega) | (simp; omega)), ?_⟩ | (intro ep) | refine ⟨_, hck, ?_⟩ | (refine ifB (fun hb => ?_) (fun hb => ?_) <;> (try simp only [decide_eq_true_eq, decide_eq_false_iff_not, beq_iff_eq, beq_eq_false_iff_ne, bne_iff_ne, bne_eq_false_iff_eq, ne_eq, not_false_eq_true, not_true_eq_false, Bool.not_eq_true, Bool.not_eq_true', Bool.not_eq_false', Int.not_lt, Int.not_le] at hb) <;> (try simp (disch := omega) only [wrapI] at hb) <;> (try (exfalso; omega))) | fail)))
  · rw [if_neg hb]
  rw [if_pos hb]
  have hlen := chk_len hb
  rw [times_onsets hb] at htm
  obtain ⟨os, hos⟩ : ∃ os, os = onsets p := ⟨_, rfl⟩
  have hol : os.length = p.evs.length + 1 := by rw [hos]; exact ons_len p
  rw [← hos] at htm
  (repeat' (first | exact rfl | ((conv => whnf); first | exact rfl | refine ⟨by kernel_rfl, ?_⟩ | exact ⟨rfl, rfl⟩ | refine ⟨rfl, ?_⟩ | refine ⟨by (first | omega | (simp (disch := omega) only [wrapI]; omega) | (simp (disch := omega) only [wrapI]; simp; omega) | (simp; omega)), ?_⟩ | (intro ep) | refine ⟨_, htm, ?_⟩ | (refine ifB (fun hb => ?_) (fun hb => ?_) <;> (try simp only [decide_eq_true_eq, decide_eq_false_iff_not, beq_iff_eq, beq_eq_false_iff_ne, bne_iff_ne, bne_eq_false_iff_eq, ne_eq, not_false_eq_true, not_true_eq_false, Bool.not_eq_true, Bool.not_eq_true', Bool.not_eq_false', Int.not_lt, Int.not_le] at hb) <;> (try simp (disch := omega) only [wrapI] at hb) <;> (try (exfalso; omega))) | fail)))
  (conv => whnf)
  refine wk_lift 6 2 3 rfl ?_
  intro eA
  refine loopM ok mixed (A := A40) [1, 5, 6, 7] [0, 2] (S := { x : Nat × Int × Int × List Int × List M3 × Nat // x.1 ≤ p.evs.length ∧ (0 ≤ x.2.1 ∧ x.2.1 ≤ 576) ∧ (0 ≤ x.2.2.1 ∧ x.2.2.1 ≤ 576 * x.1) ∧ x.2.2.2.1.length = x.1 ∧ x.2.2.2.1 ++ [x.2.2.1] ++ onsT x.2.1 x.2.2.1 (p.evs.drop x.1) = os ∧ MOk x.2.2.2.2.1 x.1 ∧ msr x.2.2.2.2.1 x.1 x.2.1 (p.evs.drop x.1) = measures p })
    (fr := fun s => frOf 0 72 [(1, .optr (.s 0) e0 3 0 0), (5, .lslc 1 (ints os) 0 (p.evs.length + 1) false), (6, .oslc (.s 2) s.1.2.2.2.2.2 3 0 s.1.2.2.2.2.1.length false), (7, .int .i64 (s.1.1 : Int))])
    (h := fun s => ⟨[.vec e0 [pcV p], .hole, .vec s.1.2.2.2.2.2 (s.1.2.2.2.2.1.map m3R)], []⟩) (μ := fun s => p.evs.length - s.1.1)
    ⟨(0, 0, 0, [], [], eA), by simp, by simp, by simp, rfl, by rw [hos]; rfl, ⟨by simp, by simp, by simp⟩, rfl⟩ ?_ ?_ ?_
  · exact rfl
  · exact rfl
  rintro ⟨⟨k, f, t0, pr, ms, eB⟩, hk, hf, ht, hpr, ho, hM, hs⟩
  simp only at hk hf ht hpr ho hM hs
  show aexR _ _ _ (frOf 0 72 [(1, .optr (.s 0) e0 3 0 0), (5, .lslc 1 (ints os) 0 (p.evs.length + 1) false), (6, .oslc (.s 2) eB 3 0 ms.length false), (7, .int .i64 (k : Int))])
    ⟨[.vec e0 [pcV p], .hole, .vec eB (ms.map m3R)], []⟩ _
  have hml := hM.len
  (conv => whnf)
  refine ⟨rfl, ?_⟩
  (conv => whnf)
  refine ifB (fun h1 => ?_) (fun h1 => ?_)
  · simp only [decide_eq_true_eq] at h1
    have hlt : k < p.evs.length := by omega
    obtain ⟨e, hev⟩ : ∃ e, p.evs[k] = e := ⟨_, rfl⟩
    have hm : (p.evs.map evR)[0 + ((k : Nat) : Int).toNat]? = some (evR e) := by rw [mapR hlt, hev]
    have tb := ticks_bd e.v e.d e.t
    rw [drop_at hlt, hev] at hs ho
    simp only [msr, onsT] at hs ho
    obtain ⟨f', hf', hfb⟩ : ∃ f', f' = frc f e ∧ 0 ≤ f' ∧ f' ≤ 576 := ⟨_, rfl, by unfold frc; split <;> omega⟩
    rw [← hf'] at hs ho
    obtain ⟨pre, m, g1, g2, g3, g4, g5⟩ := mstep_ok (e := e) hM.len hM.pos hM.bd hfb
    rw [g2] at hs
    have hsN := hs
    have hoN := ho
    have hMn : MOk (pre ++ [⟨m.i, m.n + 1, m.t + f'⟩]) (k + 1) := by
      refine ⟨by simp; omega, by simp, fun x hx => ?_⟩
      rcases List.mem_append.1 hx with hx | hx
      · have := g4 x hx; omega
      · obtain rfl := List.mem_singleton.1 hx
        simp only
        omega
    have a0 : (ints os)[0 + ((k : Nat) : Int).toNat]? = some [.int .i64 t0] := by
      rw [intsR (by omega)]
      simp [← ho, ← hpr]
    have a1 : (ints os)[0 + ((k : Int) + 1).toNat]? = some [.int .i64 (t0 + f')] := by
      rw [show ((k : Int) + 1) = ((k + 1 : Nat) : Int) by omega, intsR (by omega)]
      simp [← ho, ← hpr]
    (repeat' (first | exact rfl | ((conv => whnf); first | exact rfl | refine ⟨by kernel_rfl, ?_⟩ | exact ⟨rfl, rfl⟩ | refine ⟨rfl, ?_⟩ | refine ⟨by (first | omega | (simp (disch := omega) only [wrapI]; omega) | (simp (disch := omega) only [wrapI]; simp; omega) | (simp; omega)), ?_⟩ | (intro ep) | refine optS hm ?_ | (refine ifB (fun hb => ?_) (fun hb => ?_) <;> (try simp only [decide_eq_true_eq, decide_eq_false_iff_not, beq_iff_eq, beq_eq_false_iff_ne, bne_iff_ne, bne_eq_false_iff_eq, ne_eq, not_false_eq_true, not_true_eq_false, Bool.not_eq_true, Bool.not_eq_true', Bool.not_eq_false', Int.not_lt, Int.not_le] at hb) <;> (try simp (disch := omega) only [wrapI] at hb) <;> (try (exfalso; omega))) | fail)))
    · have hc : k = 0 ∨ e.bar = true := .inl (by omega)
      rw [if_pos hc] at g1
      obtain ⟨hp1, hp2⟩ := List.append_inj' g1 rfl
      obtain rfl := hp1
      obtain rfl : (⟨(k : Int), 0, 0⟩ : M3) = m := by simpa using hp2
      have hw : IntKind.i64.wrap (((ms.length + 1 : Nat) : Int) - 1) = (ms.length : Int) := by rw [IntWalk.i64_in _ (by omega)]; omega
      have hB : 0 ≤ IntKind.i64.wrap (((ms.length + 1 : Nat) : Int) - 1) ∧ IntKind.i64.wrap (((ms.length + 1 : Nat) : Int) - 1) < ((ms.length + 1 : Nat) : Int) := by rw [hw]; omega
      have hi : 0 + (IntKind.i64.wrap (((ms.length + 1 : Nat) : Int) - 1)).toNat = (List.take ms.length (List.drop 0 (ms.map m3R))).length := by rw [hw]; simp
      have r1 : (List.take ms.length (List.drop 0 (ms.map m3R)) ++ [[AV.int .i64 (k : Int), AV.int .i64 0, AV.int .i64 0]])[0 + (IntKind.i64.wrap (((ms.length + 1 : Nat) : Int) - 1)).toNat]? = some [AV.int .i64 (k : Int), AV.int .i64 0, AV.int .i64 0] := last_get hi
      have r2 : ((List.take ms.length (List.drop 0 (ms.map m3R)) ++ [[AV.int .i64 (k : Int), AV.int .i64 0, AV.int .i64 0]]).set (0 + (IntKind.i64.wrap (((ms.length + 1 : Nat) : Int) - 1)).toNat) [AV.int .i64 (k : Int), AV.int .i64 1, AV.int .i64 0])[0 + (IntKind.i64.wrap (((ms.length + 1 : Nat) : Int) - 1)).toNat]? = some [AV.int .i64 (k : Int), AV.int .i64 1, AV.int .i64 0] := by
        rw [last_set hi]; exact last_get hi
      (repeat' ((conv => whnf); first | refine ⟨rfl, ?_⟩ | refine ⟨by kernel_rfl, ?_⟩ | refine ⟨hB, ?_⟩ | refine optS r1 ?_ | refine optS r2 ?_ | refine optS a0 ?_ | refine optS (by (try simp (disch := omega) only [wrapI]); exact a1) ?_ | refine ⟨by (first | omega | (simp (disch := omega) only [wrapI]; omega) | (simp (disch := omega) only [wrapI]; simp; omega) | (simp; omega)), ?_⟩ | fail))
      (conv => whnf)
      refine back_of ⟨(k + 1, f', t0 + f', pr ++ [t0], ms ++ [⟨(k : Int), 0 + 1, 0 + f'⟩], ep), by simp only; omega, by simp only; omega, by simp only; omega, by simp [hpr], by simpa using hoN, hMn, hsN⟩ ⟨by rw [show (ms ++ [(⟨(k : Int), 0 + 1, 0 + f'⟩ : M3)]).length = ms.length + 1 by simp]; (first | exact rfl | (simp (disch := omega) only [wrapI]; exact rfl)), ?_, by simp only; omega⟩
      refine Eq.trans (b := ⟨[.vec e0 [pcV p], .hole, .vec ep (((List.take ms.length (List.drop 0 (ms.map m3R)) ++ [[AV.int .i64 (k : Int), AV.int .i64 0, AV.int .i64 0]]).set (0 + (IntKind.i64.wrap (((ms.length + 1 : Nat) : Int) - 1)).toNat) [AV.int .i64 (k : Int), AV.int .i64 1, AV.int .i64 0]).set (0 + (IntKind.i64.wrap (((ms.length + 1 : Nat) : Int) - 1)).toNat) [AV.int .i64 (k : Int), AV.int .i64 1, AV.int .i64 (IntKind.i64.wrap (IntKind.i64.wrap (0 + (t0 + f')) - t0))])], []⟩) rfl ?_
      rw [last_set hi, last_set hi, IntWalk.i64_in (0 + (t0 + f')) (by omega), IntWalk.i64_in (0 + (t0 + f') - t0) (by omega), show 0 + (t0 + f') - t0 = 0 + f' by omega]
      simp [m3R]
      exact List.take_of_length_le (by simp)
    · have hc : k = 0 ∨ e.bar = true := .inr (by assumption)
      rw [if_pos hc] at g1
      obtain ⟨hp1, hp2⟩ := List.append_inj' g1 rfl
      obtain rfl := hp1
      obtain rfl : (⟨(k : Int), 0, 0⟩ : M3) = m := by simpa using hp2
      have hw : IntKind.i64.wrap (((ms.length + 1 : Nat) : Int) - 1) = (ms.length : Int) := by rw [IntWalk.i64_in _ (by omega)]; omega
      have hB : 0 ≤ IntKind.i64.wrap (((ms.length + 1 : Nat) : Int) - 1) ∧ IntKind.i64.wrap (((ms.length + 1 : Nat) : Int) - 1) < ((ms.length + 1 : Nat) : Int) := by rw [hw]; omega
      have hi : 0 + (IntKind.i64.wrap (((ms.length + 1 : Nat) : Int) - 1)).toNat = (List.take ms.length (List.drop 0 (ms.map m3R))).length := by rw [hw]; simp
      have r1 : (List.take ms.length (List.drop 0 (ms.map m3R)) ++ [[AV.int .i64 (k : Int), AV.int .i64 0, AV.int .i64 0]])[0 + (IntKind.i64.wrap (((ms.length + 1 : Nat) : Int) - 1)).toNat]? = some [AV.int .i64 (k : Int), AV.int .i64 0, AV.int .i64 0] := last_get hi
      have r2 : ((List.take ms.length (List.drop 0 (ms.map m3R)) ++ [[AV.int .i64 (k : Int), AV.int .i64 0, AV.int .i64 0]]).set (0 + (IntKind.i64.wrap (((ms.length + 1 : Nat) : Int) - 1)).toNat) [AV.int .i64 (k : Int), AV.int .i64 1, AV.int .i64 0])[0 + (IntKind.i64.wrap (((ms.length + 1 : Nat) : Int) - 1)).toNat]? = some [AV.int .i64 (k : Int), AV.int .i64 1, AV.int .i64 0] := by
        rw [last_set hi]; exact last_get hi
      (repeat' ((conv => whnf); first | refine ⟨rfl, ?_⟩ | refine ⟨by kernel_rfl, ?_⟩ | refine ⟨hB, ?_⟩ | refine optS r1 ?_ | refine optS r2 ?_ | refine optS a0 ?_ | refine optS (by (try simp (disch := omega) only [wrapI]); exact a1) ?_ | refine ⟨by (first | omega | (simp (disch := omega) only [wrapI]; omega) | (simp (disch := omega) only [wrapI]; simp; omega) | (simp; omega)), ?_⟩ | fail))
      (conv => whnf)
      refine back_of ⟨(k + 1, f', t0 + f', pr ++ [t0], ms ++ [⟨(k : Int), 0 + 1, 0 + f'⟩], ep), by simp only; omega, by simp only; omega, by simp only; omega, by simp [hpr], by simpa using hoN, hMn, hsN⟩ ⟨by rw [show (ms ++ [(⟨(k : Int), 0 + 1, 0 + f'⟩ : M3)]).length = ms.length + 1 by simp]; (first | exact rfl | (simp (disch := omega) only [wrapI]; exact rfl)), ?_, by simp only; omega⟩
      refine Eq.trans (b := ⟨[.vec e0 [pcV p], .hole, .vec ep (((List.take ms.length (List.drop 0 (ms.map m3R)) ++ [[AV.int .i64 (k : Int), AV.int .i64 0, AV.int .i64 0]]).set (0 + (IntKind.i64.wrap (((ms.length + 1 : Nat) : Int) - 1)).toNat) [AV.int .i64 (k : Int), AV.int .i64 1, AV.int .i64 0]).set (0 + (IntKind.i64.wrap (((ms.length + 1 : Nat) : Int) - 1)).toNat) [AV.int .i64 (k : Int), AV.int .i64 1, AV.int .i64 (IntKind.i64.wrap (IntKind.i64.wrap (0 + (t0 + f')) - t0))])], []⟩) rfl ?_
      rw [last_set hi, last_set hi, IntWalk.i64_in (0 + (t0 + f')) (by omega), IntWalk.i64_in (0 + (t0 + f') - t0) (by omega), show 0 + (t0 + f') - t0 = 0 + f' by omega]
      simp [m3R]
      exact List.take_of_length_le (by simp)
    · have hc : ¬ (k = 0 ∨ e.bar = true) := by rintro (h | h) <;> first | omega | (simp_all; done)
      rw [if_neg hc] at g1
      subst g1
      have hl : (pre ++ [m]).length = pre.length + 1 := by simp
      have hw : IntKind.i64.wrap (((pre ++ [m]).length : Int) - 1) = (pre.length : Int) := by rw [hl, IntWalk.i64_in _ (by omega)]; omega
      have hB : 0 ≤ IntKind.i64.wrap (((pre ++ [m]).length : Int) - 1) ∧ IntKind.i64.wrap (((pre ++ [m]).length : Int) - 1) < ((pre ++ [m]).length : Int) := by rw [hw, hl]; omega
      have hi : 0 + (IntKind.i64.wrap (((pre ++ [m]).length : Int) - 1)).toNat = (pre.map m3R).length := by rw [hw]; simp
      have hmap : ((pre ++ [m]).map m3R) = pre.map m3R ++ [m3R m] := by simp
      have r1 : ((pre ++ [m]).map m3R)[0 + (IntKind.i64.wrap (((pre ++ [m]).length : Int) - 1)).toNat]? = some (m3R m) := by rw [hmap]; exact last_get hi
      have r2 : (((pre ++ [m]).map m3R).set (0 + (IntKind.i64.wrap (((pre ++ [m]).length : Int) - 1)).toNat) [AV.int .i64 m.i, AV.int .i64 (IntKind.i64.wrap (m.n + 1)), AV.int .i64 m.t])[0 + (IntKind.i64.wrap (((pre ++ [m]).length : Int) - 1)).toNat]? = some [AV.int .i64 m.i, AV.int .i64 (IntKind.i64.wrap (m.n + 1)), AV.int .i64 m.t] := by
        rw [hmap, last_set hi]; exact last_get hi
      (repeat' ((conv => whnf); first | refine ⟨rfl, ?_⟩ | refine ⟨by kernel_rfl, ?_⟩ | refine ⟨hB, ?_⟩ | refine optS r1 ?_ | refine optS r2 ?_ | refine optS a0 ?_ | refine optS (by (try simp (disch := omega) only [wrapI]); exact a1) ?_ | refine ⟨by (first | omega | (simp (disch := omega) only [wrapI]; omega) | (simp (disch := omega) only [wrapI]; simp; omega) | (simp; omega)), ?_⟩ | fail))
      (conv => whnf)
      refine back_of ⟨(k + 1, f', t0 + f', pr ++ [t0], pre ++ [⟨m.i, m.n + 1, m.t + f'⟩], eB), by simp only; omega, by simp only; omega, by simp only; omega, by simp [hpr], by simpa using hoN, hMn, hsN⟩ ⟨by rw [show (pre ++ [(⟨m.i, m.n + 1, m.t + f'⟩ : M3)]).length = (pre ++ [m]).length by simp]; (first | exact rfl | (simp (disch := omega) only [wrapI]; exact rfl)), ?_, by simp only; omega⟩
      refine Eq.trans (b := ⟨[.vec e0 [pcV p], .hole, .vec eB ((((pre ++ [m]).map m3R).set (0 + (IntKind.i64.wrap (((pre ++ [m]).length : Int) - 1)).toNat) [AV.int .i64 m.i, AV.int .i64 (IntKind.i64.wrap (m.n + 1)), AV.int .i64 m.t]).set (0 + (IntKind.i64.wrap (((pre ++ [m]).length : Int) - 1)).toNat) [AV.int .i64 m.i, AV.int .i64 (IntKind.i64.wrap (m.n + 1)), AV.int .i64 (IntKind.i64.wrap (IntKind.i64.wrap (m.t + (t0 + f')) - t0))])], []⟩) rfl ?_
      rw [hmap, last_set hi, last_set hi, IntWalk.i64_in (m.t + (t0 + f')) (by omega), IntWalk.i64_in (m.t + (t0 + f') - t0) (by omega), IntWalk.i64_in (m.n + 1) (by omega), show m.t + (t0 + f') - t0 = m.t + f' by omega]
      simp [m3R]
  · simp only [decide_eq_false_iff_not] at h1
    rw [List.drop_eq_nil_of_le (by omega)] at hs
    simp only [msr] at hs
    (repeat' (first | exact rfl | ((conv => whnf); first | exact rfl | refine ⟨by kernel_rfl, ?_⟩ | exact ⟨rfl, rfl⟩ | refine ⟨rfl, ?_⟩ | refine ⟨by (first | omega | (simp (disch := omega) only [wrapI]; omega) | (simp (disch := omega) only [wrapI]; simp; omega) | (simp; omega)), ?_⟩ | (intro ep) | (refine ifB (fun hb => ?_) (fun hb => ?_) <;> (try simp only [decide_eq_true_eq, decide_eq_false_iff_not, beq_iff_eq, beq_eq_false_iff_ne, bne_iff_ne, bne_eq_false_iff_eq, ne_eq, not_false_eq_true, not_true_eq_false, Bool.not_eq_true, Bool.not_eq_true', Bool.not_eq_false', Int.not_lt, Int.not_le] at hb) <;> (try simp (disch := omega) only [wrapI] at hb) <;> (try (exfalso; omega))) | fail)))
    rw [hs]
    exact ⟨pure_map _ fun x => rfl, rfl, rfl⟩

end Go.Ab.V

/-
  The law PieceTorn is true at every input.
-/
namespace Go.Ab.V
open Go.Proofs

def endN (s : Sgn) : List Evt → Sgn
  | [] => s
  | e :: r => endN (nx s e) r
theorem nfs_app : ∀ (l m : List Evt) (s : Sgn), nfs s (l ++ m) = nfs s l ++ nfs (endN s l) m
  | [], _, _ => rfl
  | e :: r, m, s => by simp only [List.cons_append, nfs, endN, nfs_app r m]
theorem nx_sg {s : Sgn} {a b : Evt} (h : a.sg = b.sg) : nx s a = nx s b := by unfold nx; rw [h]
theorem nfs_sg : ∀ {l m : List Evt} {s : Sgn}, l.map Evt.sg = m.map Evt.sg → nfs s l = nfs s m ∧ endN s l = endN s m
  | [], [], _, _ => ⟨rfl, rfl⟩
  | [], _ :: _, _, h => by simp at h
  | _ :: _, [], _, h => by simp at h
  | a :: l, b :: m, s, h => by
    simp only [List.map_cons, List.cons.injEq] at h
    obtain ⟨h1, h2⟩ := nfs_sg (l := l) (m := m) (s := nx s a) h.2
    simp only [nfs, endN]
    rw [h1, h2, nx_sg h.1]
    exact ⟨rfl, rfl⟩
theorem nx_given {s n : Sgn} {e : Evt} (h : e.sg = n) (hn : n ≠ sz) : nx s e = n := by
  unfold nx
  rw [h, if_neg (fun x => hn (sgE_iff.1 x))]
theorem nfs_head {s n : Sgn} {l m : List Evt} (h : l.map Evt.sg = m.map Evt.sg) (hn : ∀ e ∈ m.head?, n = nx s e ∧ n ≠ sz) : nfs s (headL n l) = nfs s m ∧ endN s (headL n l) = endN s m := by
  cases m with
  | nil =>
    have : l = [] := List.eq_nil_of_map_eq_nil h
    subst this
    exact ⟨rfl, rfl⟩
  | cons b m =>
    cases l with
    | nil => simp at h
    | cons a l =>
      simp only [List.map_cons, List.cons.injEq] at h
      obtain ⟨h1, h2⟩ := hn b rfl
      have h3 : nx s (headE n a) = nx s b := by rw [nx_given (n := n) rfl h2, h1]
      obtain ⟨k1, k2⟩ := nfs_sg (l := l) (m := m) (s := nx s b) h.2
      simp only [headL, nfs, endN, h3]
      rw [k1, k2]
      exact ⟨rfl, rfl⟩
theorem holds_sg (l : List Evt) : (holds l).map Evt.sg = l.map Evt.sg := by
  refine List.ext_getElem (by simp [holds]) fun i h1 h2 => ?_
  simp only [holds, List.getElem_map, List.getElem_mapIdx]
  rfl
def plc (e : Evt) : List (Int × Int) := e.stops.map fun s => (s.c, s.f)
theorem holds_plc (l : List Evt) : (holds l).map plc = l.map plc := by
  refine List.ext_getElem (by simp [holds]) fun i h1 h2 => ?_
  simp only [holds, List.getElem_map, List.getElem_mapIdx, plc, holdE, evS, List.map_map]
  rfl
theorem headL_plc (s : Sgn) (l : List Evt) : (headL s l).map plc = l.map plc := by cases l <;> rfl
theorem eqBy_plc : ∀ {l m : List Stp}, l.map (fun s => (s.c, s.f)) = m.map (fun s => (s.c, s.f)) → eqBy plB l m = true
  | [], [], _ => rfl
  | [], _ :: _, h => by simp at h
  | _ :: _, [], h => by simp at h
  | a :: l, b :: m, h => by
    simp only [List.map_cons, List.cons.injEq, Prod.mk.injEq] at h
    rw [eqBy, eqBy_plc h.2, plB, h.1.1, h.1.2]
    simp
theorem P_sg {p : Pc} {k : Nat} (h : k < p.evs.length) : sgAt (outE plnS sz p.evs) k = (nfs sz p.evs)[k]'(by rw [nfs_len]; exact h) := by
  unfold sgAt
  rw [List.getElem?_eq_getElem (by rw [outE_len]; exact h)]
  simp only [outE_pln, List.getElem_zipWith]
  rfl

/-- a valid piece, cut in two and joined -/
def torn (p : Pc) (k : Nat) : Pc := ⟨p.ins, headL (sgAt (outE plnS sz p.evs) 0) (holds (partL p 0 k)) ++ headL (sgAt (outE plnS sz p.evs) k) (holds (partL p k p.evs.length))⟩
theorem part_lo (p : Pc) (k : Nat) : partL p 0 k = p.evs.take k := by simp [partL]
theorem part_hi (p : Pc) (k : Nat) : partL p k p.evs.length = p.evs.drop k := by
  unfold partL; exact List.take_of_length_le (by rw [List.length_drop]; exact Nat.le_refl _)
theorem torn_plc (p : Pc) (k : Nat) : (torn p k).evs.map plc = p.evs.map plc := by
  show (_ ++ _ : List Evt).map plc = _
  rw [List.map_append, headL_plc, headL_plc, holds_plc, holds_plc, part_lo, part_hi, ← List.map_append, List.take_append_drop]
theorem torn_len (p : Pc) (k : Nat) : (torn p k).evs.length = p.evs.length := by
  have := congrArg List.length (torn_plc p k); simpa using this
theorem tk_ne {n : Sgn} (h : 0 < ticks n.v n.d n.t) : n ≠ sz := by rintro rfl; exact absurd h (by decide)
theorem torn_nfs {p : Pc} (hc : chk p = 0) {k : Nat} (hk : k ≤ p.evs.length) : nfs sz (torn p k).evs = nfs sz p.evs := by
  have htk := nfs_tk p.evs sz right_z (chk_right hc) (fun _ => chk_first hc)
  have h0 := nfs_head (s := sz) (n := sgAt (outE plnS sz p.evs) 0) (l := holds (partL p 0 k)) (m := partL p 0 k) (holds_sg _) (by
    intro e he
    rw [part_lo] at he
    cases hp : p.evs with
    | nil => rw [hp] at he; simp at he
    | cons a r =>
      have hl : 0 < p.evs.length := by rw [hp]; simp
      have hn : (nfs sz p.evs)[0]'(by rw [nfs_len]; exact hl) = nx sz a := by simp [hp, nfs]
      have he' : e = a := by
        rw [hp] at he
        cases k with
        | zero => simp at he
        | succ k => simp at he; exact he.symm
      subst he'
      rw [← hp, P_sg hl]
      exact ⟨hn, tk_ne (htk _ (List.getElem_mem _))⟩)
  have h1 := nfs_head (s := endN sz (p.evs.take k)) (n := sgAt (outE plnS sz p.evs) k) (l := holds (partL p k p.evs.length)) (m := partL p k p.evs.length) (holds_sg _) (by
    intro e he
    rw [part_hi] at he
    have hl : k < p.evs.length := by
      refine Decidable.byContradiction fun h => ?_
      rw [List.drop_eq_nil_of_le (by omega)] at he
      cases he
    rw [List.drop_eq_getElem_cons hl] at he
    simp only [List.head?_cons, Option.mem_def, Option.some.injEq] at he
    subst he
    have hn : (nfs sz p.evs)[k]'(by rw [nfs_len]; exact hl) = nx (endN sz (p.evs.take k)) p.evs[k] := by
      have e1 : nfs sz p.evs = nfs sz (p.evs.take k) ++ nfs (endN sz (p.evs.take k)) (p.evs.drop k) := by rw [← nfs_app, List.take_append_drop]
      have e2 : (nfs sz p.evs)[k]? = some (nx (endN sz (p.evs.take k)) p.evs[k]) := by
        rw [e1, List.getElem?_append_right (by rw [nfs_len, List.length_take]; omega), nfs_len, List.length_take, Nat.min_eq_left hk, Nat.sub_self, List.drop_eq_getElem_cons hl]
        rfl
      rw [List.getElem?_eq_getElem (by rw [nfs_len]; exact hl)] at e2
      exact Option.some.inj e2
    rw [P_sg hl]
    exact ⟨hn, tk_ne (htk _ (List.getElem_mem _))⟩)
  show nfs sz (_ ++ _) = _
  rw [nfs_app, h0.1, h0.2, part_lo, h1.1, part_hi, ← nfs_app, List.take_append_drop]
theorem torn_chk {p : Pc} (hc : chk p = 0) {k : Nat} (hk : k ≤ p.evs.length) : chk (torn p k) = 0 := by
  have := (chk_iff.1 hc).2.1
  refine app_chk (cut_chk hc (Nat.zero_le k) hk) (cut_chk hc hk (Nat.le_refl _)) rfl ?_
  show (headL _ _).length + (headL _ _).length ≤ 400
  rw [headL_len, headL_len, holds_len, holds_len, part_lo, part_hi, List.length_take, List.length_drop]
  omega
theorem torn_ons {p : Pc} (hc : chk p = 0) {k : Nat} (hk : k ≤ p.evs.length) : onsets (torn p k) = onsets p := by
  rw [ons_nfs (chk_right (torn_chk hc hk)), ons_nfs (chk_right hc), torn_nfs hc hk]

end Go.Ab.V

/-
  The law PieceTorn is true at every input.
-/
namespace Go.Ab.V
open Go.Proofs

def A14 : Ann := fun r => match r with
  | 0 => { slots := [(0, 0)] }
  | 3 => { slots := [(7, 1)] }
  | 4 => { slots := [(10, 2)] }
  | 5 => { slots := [(6, 3)] }
  | _ => {}
theorem law_torn_out (p : Pc) (a : Int) (hp : p.Ok) (h : bigB p = true ∨ (bigB p = false ∧ (chk p ≠ 0 ∨ a < 0 ∨ (p.evs.length : Int) < a))) : ACalls C.P 14 [pcA p, .int .i64 a] Heap.nil fun r _ => r = .bool true := by
  have b1 := big_spec p hp
  rcases h with h | ⟨h, h2⟩
  · rw [h] at b1
    refine fn_of ok mixed (A := A14) 4 Try.func14 rfl ?_
    (repeat' (first | exact rfl | ((conv => whnf); first | refine ⟨_, b1, ?_⟩ | refine ⟨_, works_spec, ?_⟩ | exact rfl | refine ⟨by kernel_rfl, ?_⟩ | exact ⟨rfl, rfl⟩ | refine ⟨rfl, ?_⟩ | refine ⟨by (first | omega | (simp (disch := omega) only [wrapI]; omega) | (simp (disch := omega) only [wrapI]; simp; omega) | (simp; omega)), ?_⟩ | (intro ep) | (refine ifB (fun hb => ?_) (fun hb => ?_) <;> (try simp only [decide_eq_true_eq, decide_eq_false_iff_not, beq_iff_eq, beq_eq_false_iff_ne, bne_iff_ne, bne_eq_false_iff_eq, ne_eq, not_false_eq_true, not_true_eq_false, Bool.not_eq_true, Bool.not_eq_true', Bool.not_eq_false', Int.not_lt, Int.not_le] at hb) <;> (try simp (disch := omega) only [wrapI] at hb) <;> (try (exfalso; omega))) | fail)))
  · rw [h] at b1
    have hs := Pc.Sm.of_big h
    have h0 := refCheck_spec p hp hs.ev
    refine fn_of ok mixed (A := A14) 4 Try.func14 rfl ?_
    (repeat' (first | exact rfl | ((conv => whnf); first | refine ⟨_, b1, ?_⟩ | refine ⟨_, h0, ?_⟩ | refine ⟨_, works_spec, ?_⟩ | exact rfl | refine ⟨by kernel_rfl, ?_⟩ | exact ⟨rfl, rfl⟩ | refine ⟨rfl, ?_⟩ | refine ⟨by (first | omega | (simp (disch := omega) only [wrapI]; omega) | (simp (disch := omega) only [wrapI]; simp; omega) | (simp; omega)), ?_⟩ | (intro ep) | (refine ifB (fun hb => ?_) (fun hb => ?_) <;> (try simp only [decide_eq_true_eq, decide_eq_false_iff_not, beq_iff_eq, beq_eq_false_iff_ne, bne_iff_ne, bne_eq_false_iff_eq, ne_eq, not_false_eq_true, not_true_eq_false, Bool.not_eq_true, Bool.not_eq_true', Bool.not_eq_false', Int.not_lt, Int.not_le] at hb) <;> (try simp (disch := omega) only [wrapI] at hb) <;> (try (exfalso; omega))) | fail)))

set_option maxHeartbeats 8000000 in
set_option maxRecDepth 100000 in
theorem law_torn (p : Pc) (a : Int) (hp : p.Ok) : ACalls C.P 14 [pcA p, .int .i64 a] Heap.nil fun r _ => r = .bool true := by
  by_cases h : bigB p = true ∨ (bigB p = false ∧ (chk p ≠ 0 ∨ a < 0 ∨ (p.evs.length : Int) < a))
  · exact law_torn_out p a hp h
  have g1 : bigB p = false := by cases hb : bigB p <;> simp_all
  have hc : chk p = 0 := by
    refine Decidable.byContradiction fun hx => h (.inr ⟨g1, .inl hx⟩)
  have ha : 0 ≤ a ∧ a ≤ p.evs.length := by
    refine Decidable.byContradiction fun hx => h (.inr ⟨g1, .inr ?_⟩)
    omega
  obtain ⟨k, rfl⟩ : ∃ k : Nat, a = k := ⟨a.toNat, by omega⟩
  have hk : k ≤ p.evs.length := by omega
  clear h
  have b1 := big_spec p hp
  rw [g1] at b1
  have hs := Pc.Sm.of_big g1
  have hle := hs.ev
  have h0 := refCheck_spec p hp hs.ev
  rw [hc] at h0
  have c1 := copy_spec p hs
  obtain ⟨A, hA⟩ : ∃ A : Pc, A = ⟨p.ins, headL (sgAt (outE plnS sz p.evs) 0) (holds (partL p 0 k))⟩ := ⟨_, rfl⟩
  obtain ⟨B, hB⟩ : ∃ B : Pc, B = ⟨p.ins, headL (sgAt (outE plnS sz p.evs) k) (holds (partL p k p.evs.length))⟩ := ⟨_, rfl⟩
  obtain ⟨q, hq⟩ : ∃ q, q = torn p k := ⟨_, rfl⟩
  have e1 : cutP p 0 k = .ok A := by
    unfold cutP
    rw [if_neg (fun h => h hc), if_neg (by omega), hA, Int.toNat_natCast]
    rfl
  have e2 : cutP p k p.evs.length = .ok B := by
    unfold cutP
    rw [if_neg (fun h => h hc), if_neg (by omega), hB, Int.toNat_natCast, Int.toNat_natCast]
  have hAc : chk A = 0 := by rw [hA]; exact cut_chk hc (Nat.zero_le k) hk
  have hBc : chk B = 0 := by rw [hB]; exact cut_chk hc hk (Nat.le_refl _)
  have e3 : appP A B = .ok q := by
    unfold appP
    rw [if_neg (fun h => h hAc), if_neg (fun h => h hBc), if_neg (fun h => h (by rw [hA, hB])), if_neg, hq, hA, hB]
    · rfl
    · have h1 := (chk_iff.1 hc).2.1
      have h2 := torn_len p k
      have h3 : (torn p k).evs.length = A.evs.length + B.evs.length := by rw [hA, hB]; show (_ ++ _ : List Evt).length = _; rw [List.length_append]
      omega
  have hAs := cut_sm hs e1
  have hBs := cut_sm hs e2
  have f1 := cut_spec p hp hs 0 k
  have f2 := cut_spec p hp hs k p.evs.length
  have f3 := append_spec A B hAs.ok hBs.ok hAs hBs
  rw [e1] at f1
  rw [e2] at f2
  rw [e3] at f3
  have hqc : chk q = 0 := by rw [hq]; exact torn_chk hc hk
  have hql : q.evs.length = p.evs.length := by rw [hq, torn_len]
  have hqs2 := app_sm hAs hBs e3
  have hqo : q.Ok := ⟨by have := hqs2.cs; omega, by have := hqs2.st; omega, by have := hqs2.ev; omega, fun e he => by have := hqs2.sp e he; omega⟩
  have h2 := check_spec q hqo
  rw [hqc] at h2
  have o1 := onsets_spec p hp
  have o2 := onsets_spec q hqo
  unfold onsV at o1 o2
  rw [if_pos hc] at o1
  rw [if_pos hqc, show onsets q = onsets p by rw [hq]; exact torn_ons hc hk] at o2
  have hsi := sameInts_self (onsets p) (by rw [ons_len]; omega)
  have hpl : ∀ i (h : i < p.evs.length), eqBy plB p.evs[i].stops (q.evs[i]'(by omega)).stops = true := by
    intro i hi
    refine eqBy_plc ?_
    have := congrArg (fun l => l[i]?) (torn_plc p k)
    rw [← hq] at this
    simp only [List.getElem?_map, List.getElem?_eq_getElem hi, List.getElem?_eq_getElem (show i < q.evs.length by omega), Option.map_some, Option.some.injEq] at this
    exact this.symm
  refine fn_of ok mixed (A := A14) 4 Try.func14 rfl ?_
  (conv => whnf)
  intro ep0
  (repeat' (first | exact rfl | ((conv => whnf); first | refine ⟨_, b1, ?_⟩ | refine ⟨_, h0, ?_⟩ | refine ⟨_, c1, ?_⟩ | refine ⟨_, f1, ?_⟩ | refine ⟨_, f2, ?_⟩ | refine ⟨_, f3, ?_⟩ | refine ⟨_, h2, ?_⟩ | refine ⟨_, o1, ?_⟩ | refine ⟨_, o2, ?_⟩ | refine ⟨_, hsi, ?_⟩ | exact rfl | refine ⟨by kernel_rfl, ?_⟩ | exact ⟨rfl, rfl⟩ | refine ⟨rfl, ?_⟩ | refine ⟨by (first | omega | (simp (disch := omega) only [wrapI]; omega) | (simp (disch := omega) only [wrapI]; simp; omega) | (simp; omega)), ?_⟩ | (intro ep) | (refine ifB (fun hb => ?_) (fun hb => ?_) <;> (try (exfalso; simp only [decide_eq_true_eq] at hb; omega)) <;> (try (exfalso; simp [hql] at hb; done))) | fail)))
  rename_i ep1 ep2
  (conv => whnf)
  refine loopM ok mixed (A := A14) [2, 9, 15] [0, 3] (S := { k : Nat // k ≤ p.evs.length })
    (fr := fun s => frOf 0 125 [(2, .optr (.s 0) ep0 3 0 0), (9, .optr (.s 3) ep 3 0 0), (15, .int .i64 (s.1 : Int))])
    (h := fun s => ⟨[.vec ep0 [[crsA p.ins.cs, intsA p.ins.steps, evsA p.evs]], .hole, .hole, .vec ep [[crsA q.ins.cs, intsA q.ins.steps, evsA q.evs]]], []⟩) (μ := fun s => p.evs.length - s.1) ⟨0, by omega⟩ (by exact rfl) (by exact rfl) ?_
  rintro ⟨i, hi⟩
  show aexR _ _ _ (frOf 0 125 [(2, .optr (.s 0) ep0 3 0 0), (9, .optr (.s 3) ep 3 0 0), (15, .int .i64 (i : Int))]) ⟨[.vec ep0 [[crsA p.ins.cs, intsA p.ins.steps, evsA p.evs]], .hole, .hole, .vec ep [[crsA q.ins.cs, intsA q.ins.steps, evsA q.evs]]], []⟩ _
  (repeat' (first | exact rfl | ((conv => whnf); first | exact rfl | refine ⟨by kernel_rfl, ?_⟩ | exact ⟨rfl, rfl⟩ | refine ⟨rfl, ?_⟩ | refine ⟨by (first | omega | (simp (disch := omega) only [wrapI]; omega) | (simp (disch := omega) only [wrapI]; simp; omega) | (simp; omega)), ?_⟩ | (intro ep) | fail)))
  (conv => whnf)
  refine ifB (fun g2 => ?_) (fun g2 => ?_)
  · simp only [decide_eq_true_eq] at g2
    have hlt : i < p.evs.length := by omega
    have hlq : i < q.evs.length := by omega
    have hF := samePlaces_spec p.evs[i] q.evs[i] (hs.two.sp _ (List.getElem_mem hlt))
    rw [hpl i hlt] at hF
    (repeat' (first | exact rfl | ((conv => whnf); first | refine ⟨_, hF, ?_⟩ | refine optS (mapR hlt) ?_ | refine optS (mapR hlq) ?_ | exact rfl | refine ⟨by kernel_rfl, ?_⟩ | exact ⟨rfl, rfl⟩ | refine ⟨rfl, ?_⟩ | refine ⟨by (first | omega | (simp (disch := omega) only [wrapI]; omega) | (simp (disch := omega) only [wrapI]; simp; omega) | (simp; omega)), ?_⟩ | (intro ep) | fail)))
    (conv => whnf)
    refine back_of ⟨i + 1, by omega⟩ ⟨by (first | exact rfl | (simp (disch := omega) only [wrapI]; exact rfl)), rfl, by simp only; omega⟩
  · simp only [decide_eq_false_iff_not] at g2
    (repeat' (first | exact rfl | ((conv => whnf); first | refine ⟨_, works_spec, ?_⟩ | exact rfl | refine ⟨by kernel_rfl, ?_⟩ | exact ⟨rfl, rfl⟩ | refine ⟨rfl, ?_⟩ | refine ⟨by (first | omega | (simp (disch := omega) only [wrapI]; omega) | (simp (disch := omega) only [wrapI]; simp; omega) | (simp; omega)), ?_⟩ | (intro ep) | fail)))

end Go.Ab.V
