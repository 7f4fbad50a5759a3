/-
  What is proved here serves the law's text: each part says its own claim and its conditions. No condition is left open.
-/
import Derived.Test.YtgnhnapnjmbieaaKM
import Derived.Test.YtgnhnapnjmbieaaKF
import Derived.Test.YtgnhnapnjmbieaaKL
set_option linter.unusedSimpArgs false
set_option linter.unusedVariables false

/-
  When a piece is valid, event by event; cut and joined pieces are valid. Plain Lean. No condition.
-/
namespace Go.Ab.V
open Go.Proofs

theorem chkEvs_iff {p : Pc} : ∀ {l : List Evt} {k : Nat}, chkEvs p k l = 0 ↔ ∀ j (h : j < l.length), chkEv p (k + j) l[j] = 0
  | [], k => by simp [chkEvs]
  | e :: r, k => by
    unfold chkEvs
    constructor
    · intro h j hj
      split at h
      · rename_i h0
        cases j with
        | zero => exact h0
        | succ j =>
          have := (chkEvs_iff.1 h) j (by simpa using hj)
          rw [show k + (j + 1) = k + 1 + j by omega]
          exact this
      · rename_i h0; exact absurd h h0
    · intro h
      have h0 : chkEv p k e = 0 := h 0 (by simp)
      rw [if_pos h0]
      refine chkEvs_iff.2 fun j hj => ?_
      have := h (j + 1) (by simpa using hj)
      rw [show k + 1 + j = k + (j + 1) by omega]
      exact this
theorem chk_iff {p : Pc} : chk p = 0 ↔ chkIn p.ins = 0 ∧ p.evs.length ≤ 400 ∧ ∀ j (h : j < p.evs.length), chkEv p j p.evs[j] = 0 := by
  unfold chk
  constructor
  · intro h
    split at h
    · rename_i h1
      split at h
      · cases h
      · refine ⟨h1, by omega, fun j hj => ?_⟩
        have := chkEvs_iff.1 h j hj
        rwa [Nat.zero_add] at this
    · rename_i h1; exact absurd h h1
  · rintro ⟨h1, h2, h3⟩
    rw [if_pos h1, if_neg (by omega)]
    refine chkEvs_iff.2 fun j hj => ?_
    rw [Nat.zero_add]
    exact h3 j hj
/-- the stops of an event are valid, the greatest holds being lg -/
def StpsOk (i : Ins) (lg : Int → Int) : Int → List Stp → Prop
  | _, [] => True
  | last, s :: r => chkStop i (lg s.c) s last = 0 ∧ StpsOk i lg s.c r
theorem chkStops_iff {p : Pc} {k : Nat} : ∀ {l : List Stp} {last : Int}, chkStops p k last l = 0 ↔ StpsOk p.ins (fun c => longest p.evs k c) last l
  | [], last => by simp [chkStops, StpsOk]
  | s :: r, last => by
    unfold chkStops StpsOk
    constructor
    · intro h
      split at h
      · rename_i h0; exact ⟨h0, chkStops_iff.1 h⟩
      · rename_i h0; exact absurd h h0
    · rintro ⟨h0, h⟩
      rw [if_pos h0]
      exact chkStops_iff.2 h
theorem chkEv_iff {p : Pc} {k : Nat} {e : Evt} : chkEv p k e = 0 ↔ right e.v e.d e.t = true ∧ ¬ (k = 0 ∧ e.v = 0) ∧ ¬ (e.tie = true ∧ (k = 0 ∨ 0 < e.stops.length)) ∧ StpsOk p.ins (fun c => longest p.evs k c) 0 e.stops := by
  unfold chkEv
  constructor
  · intro h
    split at h
    · cases h
    · rename_i h1
      split at h
      · cases h
      · rename_i h2
        refine ⟨?_, fun x => h1 (.inr x), h2, chkStops_iff.1 h⟩
        cases hr : right e.v e.d e.t
        · exact absurd (.inl hr) h1
        · rfl
  · rintro ⟨h1, h2, h3, h4⟩
    rw [if_neg (by rintro (h | h); · rw [h1] at h; cases h
                   · exact h2 h), if_neg h3]
    exact chkStops_iff.2 h4
theorem chkStop_iff {i : Ins} {lg last : Int} {s : Stp} : chkStop i lg s last = 0 ↔ (1 ≤ s.c ∧ s.c ≤ i.cs.length) ∧ (0 ≤ s.f ∧ s.f ≤ fretsOf i s.c) ∧ last < s.c ∧ (0 ≤ s.r ∧ s.r ≤ 3 ∧ 0 ≤ s.g ∧ s.g ≤ 4) ∧ (0 ≤ s.h ∧ s.h ≤ lg ∧ (0 < s.h → s.f ≠ 0)) := by
  unfold chkStop
  constructor
  · intro h
    repeat' (split at h; · cases h)
    omega
  · intro h
    rw [if_neg (by omega), if_neg (by omega), if_neg (by omega), if_neg (by omega), if_neg (by omega)]
theorem stps_mono {i : Ins} {lg lg' : Int → Int} (h : ∀ c, lg c ≤ lg' c) : ∀ {l : List Stp} {last : Int}, StpsOk i lg last l → StpsOk i lg' last l
  | [], _, _ => trivial
  | s :: r, last, ⟨h1, h2⟩ => by
    refine ⟨?_, stps_mono h h2⟩
    rw [chkStop_iff] at h1 ⊢
    have := h s.c
    omega
theorem stps_cut {i : Ins} {lg lg' : Int → Int} {c0 : Int} (hc : 0 ≤ c0) (h : ∀ c, hmin (lg c) c0 ≤ lg' c) : ∀ {l : List Stp} {last : Int}, StpsOk i lg last l → StpsOk i lg' last (l.map (hmS c0))
  | [], _, _ => trivial
  | s :: r, last, ⟨h1, h2⟩ => by
    refine ⟨?_, stps_cut hc h h2⟩
    rw [chkStop_iff] at h1 ⊢
    have h3 := h s.c
    show (1 ≤ s.c ∧ s.c ≤ i.cs.length) ∧ (0 ≤ s.f ∧ s.f ≤ fretsOf i s.c) ∧ last < s.c ∧ (0 ≤ s.r ∧ s.r ≤ 3 ∧ 0 ≤ s.g ∧ s.g ≤ 4) ∧ (0 ≤ hmin s.h c0 ∧ hmin s.h c0 ≤ lg' s.c ∧ (0 < hmin s.h c0 → s.f ≠ 0))
    unfold hmin at h3 ⊢
    split at h3 <;> split <;> omega

/-- what a hold looks at -/
def look (e : Evt) : Bool × List Int := (restE e, e.stops.map Stp.c)
theorem hasC_look {l m : List Stp} (h : l.map Stp.c = m.map Stp.c) (c : Int) : hasC l c = hasC m c := by
  induction l generalizing m with
  | nil => cases m with
    | nil => rfl
    | cons b m => simp at h
  | cons a l ih => cases m with
    | nil => simp at h
    | cons b m =>
      simp only [List.map_cons, List.cons.injEq] at h
      simp only [hasC, List.any_cons, h.1] at ih ⊢
      rw [ih h.2]
theorem longL_look (c : Int) : ∀ (n : Nat) (l m : List Evt), l.map look = m.map look → longL c n l = longL c n m
  | 0, _, _, _ => by simp [longL]
  | n + 1, [], [], _ => rfl
  | n + 1, [], _ :: _, h => by simp at h
  | n + 1, _ :: _, [], h => by simp at h
  | n + 1, a :: l, b :: m, h => by
    simp only [List.map_cons, List.cons.injEq, look, Prod.mk.injEq] at h
    obtain ⟨⟨h1, h2⟩, h3⟩ := h
    have ih := longL_look c n l m h3
    simp only [longL, h1, hasC_look h2 c, ih]
theorem longL_take (c : Int) : ∀ (n j : Nat) (l : List Evt), longL c n (l.take j) = min (longL c n l) j
  | 0, _, _ => by simp [longL]
  | n + 1, 0, l => by simp [longL]
  | n + 1, j + 1, [] => by simp [longL]
  | n + 1, j + 1, e :: r => by
    simp only [List.take_succ_cons, longL]
    split
    · simp
    · rw [longL_take c n j r]; omega
theorem longest_at {l : List Evt} {k : Nat} (h : k < l.length) (c : Int) : longest l k c = (longL c 15 (l.drop (k + 1)) : Nat) := by
  unfold longest
  rw [if_neg (by omega)]
  congr 3
theorem headL_drop {s : Sgn} {l : List Evt} {i : Nat} : (headL s l).drop (i + 1) = l.drop (i + 1) := by cases l <;> rfl
theorem headL_len {s : Sgn} {l : List Evt} : (headL s l).length = l.length := by cases l <;> rfl
theorem holds_look (l : List Evt) : (holds l).map look = l.map look := by
  refine List.ext_getElem (by simp [holds]) fun i h1 h2 => ?_
  simp only [holds, List.getElem_map, List.getElem_mapIdx, look, holdE, evS, restE, List.map_map, List.length_map]
  congr 1
theorem cut_longest {s : Sgn} {l : List Evt} {i : Nat} (h : i < l.length) (c : Int) : longest (headL s (holds l)) i c = (longL c 15 (l.drop (i + 1)) : Nat) := by
  rw [longest_at (by rw [headL_len, holds_len]; exact h), headL_drop, longL_look c 15 ((holds l).drop (i + 1)) (l.drop (i + 1)) (by rw [List.map_drop, List.map_drop, holds_look])]

theorem hmin_nat (a b : Nat) : hmin (a : Int) (b : Int) = ((min a b : Nat) : Int) := by unfold hmin; split <;> omega
/-- a stretch of a valid piece, cut out, is valid -/
theorem cut_chk {p : Pc} (hc : chk p = 0) {x y : Nat} (hx : x ≤ y) (hy : y ≤ p.evs.length) : chk ⟨p.ins, headL (sgAt (outE plnS sz p.evs) x) (holds (partL p x y))⟩ = 0 := by
  obtain ⟨h1, h2, h3⟩ := chk_iff.1 hc
  obtain ⟨M, hM⟩ : ∃ M, M = partL p x y := ⟨_, rfl⟩
  rw [← hM]
  have hMl : M.length = y - x := by rw [hM, partL, List.length_take, List.length_drop]; omega
  have hMat : ∀ j (h : j < M.length), M[j] = p.evs[x + j]'(by omega) := fun j h => by simp [hM, partL]
  refine chk_iff.2 ⟨h1, by show (headL _ _).length ≤ 400; rw [headL_len, holds_len]; omega, fun j hj => ?_⟩
  have hj' : j < M.length := by
    have : j < (headL (sgAt (outE plnS sz p.evs) x) (holds M)).length := hj
    rwa [headL_len, holds_len] at this
  obtain ⟨k1, k2, k3, k4⟩ := chkEv_iff.1 (h3 (x + j) (by omega))
  have e0 : chkEv ⟨p.ins, headL (sgAt (outE plnS sz p.evs) x) (holds M)⟩ j (headL (sgAt (outE plnS sz p.evs) x) (holds M))[j] = 0 := by
    have hst : StpsOk p.ins (fun c => longest (headL (sgAt (outE plnS sz p.evs) x) (holds M)) j c) 0 (holdE ((M.length : Int) - 1 - (j : Nat)) p.evs[x + j]).stops := by
      refine stps_cut (by omega) (fun c => ?_) k4
      rw [cut_longest hj', longest_at (by omega)]
      have hd : M.drop (j + 1) = (p.evs.drop (x + j + 1)).take (M.length - 1 - j) := by
        rw [hM, partL, List.drop_take, List.drop_drop]
        rw [show x + (j + 1) = x + j + 1 by omega, show y - x - (j + 1) = (List.take (y - x) (List.drop x p.evs)).length - 1 - j by rw [List.length_take, List.length_drop]; omega]
      rw [hd, longL_take, show ((M.length : Int) - 1 - (j : Nat)) = ((M.length - 1 - j : Nat) : Int) by omega, hmin_nat]
      exact Int.le_refl _
    by_cases hj0 : j = 0
    · subst hj0
      rw [headL_zero (by rw [holds_len]; exact hj'), holds_at hj', hMat 0 hj']
      have hP : x < (outE plnS sz p.evs).length := by rw [outE_len]; omega
      have hsg : sgAt (outE plnS sz p.evs) x = (outE plnS sz p.evs)[x].sg := by unfold sgAt; rw [List.getElem?_eq_getElem hP]
      refine chkEv_iff.2 ⟨?_, fun h => ?_, fun h => ?_, ?_⟩
      · rw [hsg]; exact pln_right hc (outE plnS sz p.evs)[x] (List.getElem_mem hP)
      · have hv : (outE plnS sz p.evs)[x].v = 0 := by have := h.2; rw [hsg] at this; exact this
        have htk : 0 < ticks (outE plnS sz p.evs)[x].v (outE plnS sz p.evs)[x].d (outE plnS sz p.evs)[x].t := by
          have e1 : (outE plnS sz p.evs)[x] = withS (p.evs[x]'(by omega)) ((nfs sz p.evs)[x]'(by rw [nfs_len]; omega)) := by simp [outE_pln]
          rw [e1]
          exact nfs_tk p.evs sz right_z (chk_right hc) (fun _ => chk_first hc) _ (List.getElem_mem _)
        have := (right_tk (pln_right hc _ (List.getElem_mem hP))).1 hv
        exact this htk
      · exact absurd h.1 (by simp [headE])
      · exact hst
    · rw [headL_at hj0 (by rw [holds_len]; exact hj'), holds_at hj', hMat j hj']
      refine chkEv_iff.2 ⟨k1, fun h => hj0 h.1, fun h => k3 ⟨h.1, .inr ?_⟩, hst⟩
      rcases h.2 with h | h
      · exact absurd h hj0
      · simpa [holdE, evS] using h
  exact e0
end Go.Ab.V

/-
  The sign of so many ticks, on both sides. No condition.
-/
namespace Go.Ab.V
open Go.Proofs

def sgs : List Sgn := allS.map fun s => ⟨s.1, s.2.1, s.2.2⟩
theorem allRows_sgs : allRows = sgs.map sgnR := rfl
theorem sgs_len : sgs.length = 21 := by decide
def sgFind (t : Int) : List Sgn → Option Sgn
  | [] => none
  | s :: r => if s.tk = t then some s else sgFind t r
def sgOf (t : Int) : Option Sgn := sgFind t sgs
def sgOfV : Option Sgn → AV
  | some s => .tup [.agg (sgnR s), .bool true]
  | none => .tup [.agg [.int .i64 0, .bool false, .bool false], .bool false]

def A101 : Ann := fun r => match r with
  | 0 => { slots := [(0, 0)] }
  | 3 => { slots := [(2, 1)] }
  | _ => {}
set_option maxHeartbeats 2000000 in
set_option maxRecDepth 100000 in
theorem signOf_spec (t : Int) : PRet C.P 101 [.int .i64 t] (sgOfV (sgOf t)) := by
  have h1 := all_spec
  unfold sgOf
  rw [allRows_sgs] at h1
  have hl := sgs_len
  obtain ⟨gs, hgs⟩ : ∃ gs, gs = sgs := ⟨_, rfl⟩
  rw [← hgs] at h1 hl ⊢
  obtain ⟨R, hR⟩ : ∃ R, R = sgFind t gs := ⟨_, rfl⟩
  rw [← hR]
  refine pret_of ok mixed (A := A101) 2 Try.func101 rfl ?_
  (conv => whnf)
  intro e0
  (repeat' (first | exact rfl | ((conv => whnf); first | refine ⟨_, h1, ?_⟩ | exact rfl | refine ⟨by kernel_rfl, ?_⟩ | exact ⟨rfl, rfl⟩ | refine ⟨rfl, ?_⟩ | refine ⟨by (first | omega | (simp (disch := omega) only [wrapI]; omega) | (simp (disch := omega) only [wrapI]; simp; omega) | (simp; omega)), ?_⟩ | (intro ep) | fail)))
  (conv => whnf)
  refine loopM ok mixed (A := A101) [0, 2, 6, 7, 8] [0] (S := { k : Nat // k ≤ 21 ∧ R = sgFind t (gs.drop k) })
    (fr := fun s => frOf 0 19 [(0, .int .i64 t), (2, .optr (.s 0) e0 3 0 0), (6, .lslc 3 (gs.map sgnR) 0 21 false), (7, .int .i64 21), (8, .int .i64 (s.1 : Int))])
    (h := fun s => ⟨[.vec e0 [[.int .i64 0, .bool false, .bool false]], .hole], []⟩) (μ := fun s => 21 - s.1) ⟨0, by omega, hR⟩ (by exact rfl) (by exact rfl) ?_
  rintro ⟨k, hk, hRk⟩
  show aexR _ _ _ (frOf 0 19 [(0, .int .i64 t), (2, .optr (.s 0) e0 3 0 0), (6, .lslc 3 (gs.map sgnR) 0 21 false), (7, .int .i64 21), (8, .int .i64 (k : Int))]) ⟨[.vec e0 [[.int .i64 0, .bool false, .bool false]], .hole], []⟩ _
  (conv => whnf)
  refine ifB (fun g1 => ?_) (fun g1 => ?_)
  · simp only [decide_eq_true_eq] at g1
    have hlt : k < gs.length := by omega
    rw [List.drop_eq_getElem_cons hlt, sgFind] at hRk
    have ht := ticks_spec gs[k].v gs[k].d gs[k].t
    by_cases hz : (gs[k]).tk = t
    · rw [if_pos hz] at hRk
      subst hRk
      (repeat' (first | exact rfl | ((conv => whnf); first | refine ⟨_, ht, ?_⟩ | refine optS (mapR hlt) ?_ | exact rfl | refine ⟨by kernel_rfl, ?_⟩ | exact ⟨rfl, rfl⟩ | refine ⟨rfl, ?_⟩ | refine ⟨by (first | omega | (simp (disch := omega) only [wrapI]; omega) | (simp (disch := omega) only [wrapI]; simp; omega) | (simp; omega)), ?_⟩ | (intro ep) | (refine ifB (fun hb => ?_) (fun hb => ?_) <;> (try (exfalso; simp only [beq_eq_false_iff_ne] at hb; exact hb hz))) | fail)))
    · rw [if_neg hz] at hRk
      (repeat' (first | exact rfl | ((conv => whnf); first | refine ⟨_, ht, ?_⟩ | refine optS (mapR hlt) ?_ | exact rfl | refine ⟨by kernel_rfl, ?_⟩ | exact ⟨rfl, rfl⟩ | refine ⟨rfl, ?_⟩ | refine ⟨by (first | omega | (simp (disch := omega) only [wrapI]; omega) | (simp (disch := omega) only [wrapI]; simp; omega) | (simp; omega)), ?_⟩ | (intro ep) | (refine ifB (fun hb => ?_) (fun hb => ?_) <;> (try (exfalso; simp only [beq_iff_eq] at hb; exact hz hb))) | fail)))
      (conv => whnf)
      refine back_of ⟨k + 1, by omega, hRk⟩ ⟨by (first | exact rfl | (simp (disch := omega) only [wrapI]; exact rfl)), rfl, by simp only; omega⟩
  · simp only [decide_eq_false_iff_not] at g1
    rw [List.drop_eq_nil_of_le (by omega)] at hRk
    obtain rfl : R = none := hRk
    (repeat' (first | exact rfl | ((conv => whnf); first | exact rfl | refine ⟨by kernel_rfl, ?_⟩ | exact ⟨rfl, rfl⟩ | refine ⟨rfl, ?_⟩ | refine ⟨by (first | omega | (simp (disch := omega) only [wrapI]; omega) | (simp (disch := omega) only [wrapI]; simp; omega) | (simp; omega)), ?_⟩ | (intro ep) | fail)))

end Go.Ab.V

/-
  What Join makes of the events of a piece. Plain Lean. No condition.
-/
namespace Go.Ab.V
open Go.Proofs

def evt0 : Evt := ⟨false, 0, false, false, false, []⟩
def lastE (o : List Evt) : Evt := o.getD (o.length - 1) evt0
def tkE (e : Evt) : Int := ticks e.v e.d e.t
def mayJ (o : List Evt) (e : Evt) : Bool := decide (0 < o.length) && e.tie && !e.bar
def mrg (o : List Evt) (e : Evt) : Option Sgn := if mayJ o e = true then sgOf (IntKind.i64.wrap (tkE (lastE o) + tkE e)) else none
/-- the events so far, which were merged, and where each of the events comes from -/
structure Jn where
  o : List Evt
  m : List Bool
  g : List Nat
def jst1 (st : Jn) (e : Evt) : Jn := match mrg st.o e with
  | some s => ⟨st.o.set (st.o.length - 1) (withS (lastE st.o) s), st.m ++ [true], st.g⟩
  | none => ⟨st.o ++ [e], st.m ++ [false], st.g ++ [st.m.length]⟩
def jst (l : List Evt) : Jn := l.foldl jst1 ⟨[], [], []⟩
theorem jst_snoc (l : List Evt) (e : Evt) : jst (l ++ [e]) = jst1 (jst l) e := by simp [jst, List.foldl_append]
theorem jst_take {l : List Evt} {k : Nat} (h : k < l.length) : jst (l.take (k + 1)) = jst1 (jst (l.take k)) l[k] := by
  rw [List.take_add_one, List.getElem?_eq_getElem h]
  exact jst_snoc _ _
/-- how many are not merged -/
def cF : List Bool → Nat
  | [] => 0
  | b :: r => (if b = true then 0 else 1) + cF r
theorem cF_app : ∀ (l m : List Bool), cF (l ++ m) = cF l + cF m
  | [], _ => by simp [cF]
  | b :: r, m => by simp only [List.cons_append, cF, cF_app r m]; omega
theorem cF_succ {m : List Bool} {i : Nat} (h : i < m.length) : cF (m.take (i + 1)) = cF (m.take i) + (if m[i] = true then 0 else 1) := by
  rw [List.take_add_one, List.getElem?_eq_getElem h, Option.toList_some, cF_app]
  simp [cF]
theorem cF_lt {m : List Bool} {i : Nat} (h : i < m.length) (hf : m[i] = false) : cF (m.take i) < cF m := by
  have : cF m = cF (m.take (i + 1)) + cF (m.drop (i + 1)) := by rw [← cF_app, List.take_append_drop]
  rw [cF_succ h, hf] at this
  simp at this
  omega
theorem cF_le : ∀ (m : List Bool), cF m ≤ m.length
  | [] => Nat.le_refl _
  | b :: r => by have := cF_le r; simp only [cF, List.length_cons]; split <;> omega
structure JInv (l : List Evt) (st : Jn) : Prop where
  ml : st.m.length = l.length
  gl : st.g.length = st.o.length
  ol : st.o.length = cF st.m
  gi : ∀ i (h : i < st.m.length), st.m[i] = false → st.g[cF (st.m.take i)]? = some i
  gs : ∀ j, j < st.o.length → ∃ i e s, st.g[j]? = some i ∧ l[i]? = some e ∧ st.o[j]? = some (withS e s)
theorem withS_self (e : Evt) : withS e e.sg = e := rfl
theorem lastE_at {o : List Evt} (h : 0 < o.length) : lastE o = o[o.length - 1]'(by omega) := by
  unfold lastE
  rw [List.getD_eq_getElem?_getD, List.getElem?_eq_getElem (by omega)]
  rfl
theorem mrg_pos {o : List Evt} {e : Evt} {s : Sgn} (h : mrg o e = some s) : mayJ o e = true ∧ 0 < o.length ∧ sgOf (IntKind.i64.wrap (tkE (lastE o) + tkE e)) = some s := by
  unfold mrg at h
  split at h
  · rename_i h1
    refine ⟨h1, ?_, h⟩
    unfold mayJ at h1
    simp only [Bool.and_eq_true, decide_eq_true_eq] at h1
    exact h1.1.1
  · cases h
theorem jinv_snoc {l : List Evt} {st : Jn} (h : JInv l st) (e : Evt) : JInv (l ++ [e]) (jst1 st e) := by
  obtain ⟨h1, h2, h3, h4, h5⟩ := h
  unfold jst1
  split
  · rename_i s hs
    have hp := (mrg_pos hs).2.1
    refine ⟨by simp [h1], by simp [h2], by rw [cF_app]; simp [cF, h3], fun i hi hf => ?_, fun j hj => ?_⟩
    · simp only [List.length_append, List.length_singleton] at hi
      by_cases hi2 : i < st.m.length
      · simp only [List.getElem_append_left hi2] at hf
        have := h4 i hi2 hf
        show st.g[cF (List.take i (st.m ++ [true]))]? = _
        rw [List.take_append_of_le_length (by omega)]
        exact this
      · obtain rfl : i = st.m.length := by omega
        simp at hf
    · simp only [List.length_set] at hj
      obtain ⟨i, e', s', k1, k2, k3⟩ := h5 j hj
      have hil : i < l.length := (List.getElem?_eq_some_iff.1 k2).1
      have k4 : (l ++ [e])[i]? = some e' := by rw [List.getElem?_append_left hil]; exact k2
      by_cases hjl : st.o.length - 1 = j
      · refine ⟨i, e', s, k1, k4, ?_⟩
        show (st.o.set (st.o.length - 1) _)[j]? = _
        subst hjl
        rw [List.getElem?_set_self (by omega), lastE_at hp]
        rw [List.getElem?_eq_getElem (by omega)] at k3
        rw [Option.some.inj k3]
        rfl
      · refine ⟨i, e', s', k1, k4, ?_⟩
        show (st.o.set (st.o.length - 1) _)[j]? = _
        rw [List.getElem?_set_ne hjl]
        exact k3
  · refine ⟨by simp [h1], by simp [h2], by rw [cF_app]; simp [cF, h3], fun i hi hf => ?_, fun j hj => ?_⟩
    · simp only [List.length_append, List.length_singleton] at hi
      show (st.g ++ [st.m.length])[cF (List.take i (st.m ++ [false]))]? = _
      rw [List.take_append_of_le_length (by omega)]
      by_cases hi2 : i < st.m.length
      · simp only [List.getElem_append_left hi2] at hf
        have := h4 i hi2 hf
        have := cF_lt hi2 hf
        rw [List.getElem?_append_left (by omega)]
        exact h4 i hi2 hf
      · obtain rfl : i = st.m.length := by omega
        rw [List.take_length, ← h3, ← h2]
        simp
    · simp only [List.length_append, List.length_singleton] at hj
      by_cases hj2 : j < st.o.length
      · obtain ⟨i, e', s', k1, k2, k3⟩ := h5 j hj2
        refine ⟨i, e', s', ?_, ?_, ?_⟩
        · show (st.g ++ [st.m.length])[j]? = _
          rw [List.getElem?_append_left (by omega)]; exact k1
        · rw [List.getElem?_append_left (List.getElem?_eq_some_iff.1 k2).1]; exact k2
        · show (st.o ++ [e])[j]? = _
          rw [List.getElem?_append_left hj2]; exact k3
      · obtain rfl : j = st.o.length := by omega
        refine ⟨st.m.length, e, e.sg, ?_, ?_, ?_⟩
        · show (st.g ++ [st.m.length])[st.o.length]? = _
          rw [← h2]; simp
        · rw [h1]; simp
        · show (st.o ++ [e])[st.o.length]? = _
          simp [withS_self]
theorem jinv_take (l : List Evt) : ∀ k, k ≤ l.length → JInv (l.take k) (jst (l.take k))
  | 0, _ => by
    rw [List.take_zero]
    exact ⟨rfl, rfl, rfl, fun i h => absurd h (Nat.not_lt_zero _), fun j h => absurd h (Nat.not_lt_zero _)⟩
  | k + 1, h => by
    rw [jst_take (by omega)]
    have ih := jinv_snoc (jinv_take l k (by omega)) (l[k]'(by omega))
    rw [List.take_add_one, List.getElem?_eq_getElem (by omega)]
    exact ih
theorem jinv (l : List Evt) : JInv l (jst l) := by
  have := jinv_take l l.length (Nat.le_refl _)
  rwa [List.take_length] at this
/-- how many of these are gone -/
def cntT : List Bool → Nat
  | [] => 0
  | b :: r => (if b = true then 1 else 0) + cntT r
theorem cntT_le : ∀ l : List Bool, cntT l ≤ l.length
  | [] => Nat.le_refl _
  | b :: r => by have := cntT_le r; simp only [cntT, List.length_cons]; split <;> omega
theorem cntT_app : ∀ (l m : List Bool), cntT (l ++ m) = cntT l + cntT m
  | [], _ => by simp [cntT]
  | b :: r, m => by simp only [List.cons_append, cntT, cntT_app r m]; omega
theorem cntT_succ {m : List Bool} {i : Nat} (h : i < m.length) : cntT (m.take (i + 1)) = cntT (m.take i) + (if m[i] = true then 1 else 0) := by
  rw [List.take_add_one, List.getElem?_eq_getElem h, Option.toList_some, cntT_app]
  simp [cntT]
def goneS (ms : List Bool) (i : Nat) (s : Stp) : Stp := { s with h := s.h - (cntT ((ms.drop (i + 1)).take s.h.toNat) : Nat) }
def goneE (ms : List Bool) (i : Nat) (e : Evt) : Evt := evS e (e.stops.map (goneS ms i))
/-- the events of the result, their holds without what is gone -/
def jL (st : Jn) : List Evt := List.zipWith (goneE st.m) st.g st.o
def joinE (P : List Evt) : List Evt := jL (jst P)
def joinP (p : Pc) : Except Int Pc := if chk p ≠ 0 then .error (chk p) else .ok ⟨p.ins, joinE (outE plnS sz p.evs)⟩
theorem jL_len {l : List Evt} {st : Jn} (h : JInv l st) : (jL st).length = st.o.length := by simp [jL, h.gl]
/-- what the event at i becomes -/
theorem jL_at {l : List Evt} {st : Jn} (h : JInv l st) {i : Nat} (hi : i < l.length) (hf : st.m[i]'(by rw [h.ml]; exact hi) = false) :
    ∃ (h1 : cF (st.m.take i) < st.o.length) (h2 : cF (st.m.take i) < (jL st).length), (jL st)[cF (st.m.take i)] = goneE st.m i st.o[cF (st.m.take i)] ∧ st.o[cF (st.m.take i)].stops = l[i].stops := by
  have hi' : i < st.m.length := by rw [h.ml]; exact hi
  have hlt := cF_lt hi' hf
  have h1 : cF (st.m.take i) < st.o.length := by rw [h.ol]; exact hlt
  have hg := h.gi i hi' hf
  obtain ⟨i', e, s, k1, k2, k3⟩ := h.gs _ h1
  rw [hg] at k1
  obtain rfl := Option.some.inj k1
  have hgl : cF (st.m.take i) < st.g.length := by rw [h.gl]; exact h1
  rw [List.getElem?_eq_getElem hgl] at hg
  rw [List.getElem?_eq_getElem h1] at k3
  rw [List.getElem?_eq_getElem hi] at k2
  refine ⟨h1, by rw [jL_len h]; exact h1, ?_, ?_⟩
  · simp only [jL, List.getElem_zipWith]
    rw [Option.some.inj hg]
  · rw [Option.some.inj k3, Option.some.inj k2]; rfl

/-- the holds of a valid piece stop within it -/
theorem longL_len (c : Int) : ∀ (n : Nat) (l : List Evt), longL c n l ≤ l.length
  | 0, _ => by simp [longL]
  | n + 1, [] => by simp [longL]
  | n + 1, e :: r => by
    simp only [longL, List.length_cons]
    split
    · omega
    · have := longL_len c n r; omega
theorem stps_h {i : Ins} {lg : Int → Int} {b : Int} (h : ∀ c, lg c ≤ b) : ∀ {l : List Stp} {last : Int}, StpsOk i lg last l → ∀ s ∈ l, 0 ≤ s.h ∧ s.h ≤ b
  | [], _, _, s, hs => by cases hs
  | a :: r, last, ⟨h1, h2⟩, s, hs => by
    rcases List.mem_cons.1 hs with rfl | hs
    · rw [chkStop_iff] at h1
      have := h s.c
      omega
    · exact stps_h h h2 s hs
theorem chk_holds {p : Pc} (hc : chk p = 0) {k : Nat} (h : k < p.evs.length) : ∀ s ∈ (p.evs[k]).stops, 0 ≤ s.h ∧ k + 1 + s.h.toNat ≤ p.evs.length := by
  intro s hs
  have h1 := (chkEv_iff.1 ((chk_iff.1 hc).2.2 k h)).2.2.2
  have := stps_h (b := ((p.evs.length - (k + 1) : Nat) : Int)) (fun c => by
    rw [longest_at h]
    have := longL_len c 15 (p.evs.drop (k + 1))
    rw [List.length_drop] at this
    omega) h1 s hs
  omega

end Go.Ab.V

/-
  The program's Join. No condition but the machine's bounds on lengths.
-/
namespace Go.Ab.V
open Go.Proofs

def A60 : Ann := fun r => match r with
  | 0 => { slots := [(0, 0), (1, 1)] }
  | 4 => { slots := [(3, 2)] }
  | 5 => { slots := [(3, 3)] }
  | 8 => { slots := [(3, 4)] }
  | 12 => { slots := [(13, 5)] }
  | 17 => { slots := [(3, 6), (4, 7)] }
  | 37 => { mv := [1007] }
  | _ => {}
def mgd (P : List Evt) (k : Nat) : List Bool := (jst (P.take k)).m ++ List.replicate (P.length - k) false
/-- kept away from omega -/
def Hid (p : Prop) : Prop := p
theorem Hid.get {p : Prop} (h : Hid p) : p := h
def boolR (b : Bool) : List AV := [.bool b]
theorem mgd_false {m : List Bool} {n k : Nat} (h : m.length = k) (hk : k < n) : m ++ List.replicate (n - k) false = m ++ [false] ++ List.replicate (n - (k + 1)) false := by
  rw [show n - k = (n - (k + 1)) + 1 by omega, List.replicate_succ, List.append_assoc]
  rfl
theorem mgd_get {m : List Bool} {n k : Nat} (h : m.length = k) (hk : k < n) : ((m ++ List.replicate (n - k) false).map boolR)[0 + ((k : Nat) : Int).toNat]? = some (boolR false) := by
  rw [mgd_false h hk, Nat.zero_add, Int.toNat_natCast, List.getElem?_map, List.append_assoc, List.getElem?_append_right (by omega), h, Nat.sub_self]
  rfl
theorem mgd_set {m : List Bool} {n k : Nat} (h : m.length = k) (hk : k < n) : ((m ++ List.replicate (n - k) false).map boolR).set (0 + ((k : Nat) : Int).toNat) [.bool true] = (m ++ [true] ++ List.replicate (n - (k + 1)) false).map boolR := by
  subst h
  rw [mgd_false rfl hk, Nat.zero_add, Int.toNat_natCast]
  simp only [List.map_append, List.append_assoc]
  rw [List.set_append_right _ _ (by simp)]
  simp [boolR]

/-- the same where there is nothing else -/
theorem end_memX {X : List AObj} {ep n : Nat} {rows : List (List AV)} {l : List Evt} {i : Ins} {D st : List AObj} {m : Nat} (hm : X.length = m) (hX : ∀ o ∈ X, pureObj o) (hr : (rows.map fun r => r.map (fzC2 X)) = l.map evR) (hn : n = l.length) (hD : D = X ++ [.vec ep rows]) :
    m ≤ D.length ∧ (∀ o ∈ D.take m, pureObj o) ∧ (fun v h' => frzD h' v fun v h' => frzK h' v fun r' _ => r'.isPure2 = true ∧ r' = .tup [pcA ⟨i, l⟩, .int .i64 0])
      (fzV2 (D.take m) (.tup [.agg [crsA i.cs, intsA i.steps, .oslc (.d X.length) ep 6 0 n false], .int .i64 0])) ⟨st.map (AObj.fz2 (D.take m)), List.replicate m .hole ++ (D.drop m).map (AObj.fz2 (D.take m))⟩ := by
  have := end_mem2 (i := i) (st := st) (D := D) (ep := ep) (Y := []) hm hX (fun o ho => (List.not_mem_nil (a := o) ho).elim) hr hn (by rw [List.append_nil]; exact hD)
  rwa [List.append_nil] at this
theorem jL_key {l : List Evt} {st : Jn} (h : JInv l st) : (jL st).map rowKey = st.o.map rowKey := by
  refine List.ext_getElem (by simp [jL, h.gl]) fun i h1 h2 => ?_
  simp [jL, rowKey, goneE, evS]

set_option maxHeartbeats 8000000 in
set_option maxRecDepth 100000 in
theorem join_spec (p : Pc) (hp : p.Ok) (hs : p.Sm) : PRet C.P 60 [pcA p] (pcE (joinP p)) := by
  have f1 := plain_spec p hp hs
  have hle := hs.ev
  unfold plnP at f1
  unfold joinP
  by_cases hc : chk p = 0
  · rw [if_neg (fun h => h hc)] at f1 ⊢
    obtain ⟨P, hP⟩ : ∃ P, P = outE plnS sz p.evs := ⟨_, rfl⟩
    have hPl : P.length = p.evs.length := by rw [hP, outE_len]
    rw [← hP] at f1 ⊢
    have hPs : ∀ e ∈ P, e.stops.length ≤ 4000 := by
      intro e he
      have : body e ∈ p.evs.map body := by rw [← pln_body, ← hP]; exact List.mem_map_of_mem he
      obtain ⟨e', h1, h2⟩ := List.mem_map.1 this
      have := hs.sp e' h1
      simp only [body, Prod.mk.injEq] at h2
      rw [← h2.2]; exact this
    refine pretM_of (okx [99] []) mixed (A := A60) 8 (jst P).o.length Try.func60 rfl ?_
    (conv => whnf)
    intro e0
    (conv => whnf)
    intro e1
    (repeat' ((conv => whnf); first | refine ⟨rfl, ?_⟩ | refine ⟨by decide, ?_⟩ | refine ⟨_, f1, ?_⟩ | refine ⟨by kernel_rfl, ?_⟩ | (refine ifB (fun hb => ?_) (fun hb => ?_) <;> (try simp only [decide_eq_true_eq, decide_eq_false_iff_not, beq_iff_eq, beq_eq_false_iff_ne, bne_iff_ne, bne_eq_false_iff_eq, ne_eq, not_false_eq_true, not_true_eq_false, Bool.not_eq_true, Bool.not_eq_true', Bool.not_eq_false', Int.not_lt, Int.not_le] at hb) <;> (try simp (disch := omega) only [wrapI] at hb) <;> (try (exfalso; omega))) | fail))
    intro e2
    (repeat' (first | exact rfl | ((conv => whnf); first | exact rfl | refine ⟨by kernel_rfl, ?_⟩ | exact ⟨rfl, rfl⟩ | refine ⟨rfl, ?_⟩ | refine ⟨by (first | omega | (simp (disch := omega) only [wrapI]; omega) | (simp (disch := omega) only [wrapI]; simp; omega) | (simp; omega)), ?_⟩ | (intro ep) | fail)))
    obtain ⟨e3, he3⟩ : ∃ e3, e3 = ep := ⟨_, rfl⟩
    subst he3
    (conv => whnf)
    refine wk_liftC 2 7 e2 6 0 2 (by decide) rfl rfl rfl ?_
    intro eA
    refine loopM (okx [99] []) mixed (A := A60) [1, 2, 5, 6, 36, 37, 38] [0, 1, 2, 3, 7] (S := { s : Nat × Nat × (Nat → Nat) // s.1 ≤ P.length })
      (fr := fun s => frOf 0 152 [(1, .optr (.s 0) e0 3 0 0), (2, .optr (.s 1) e1 3 0 0), (5, .optr (.s 2) e2 3 0 0), (6, .oslc (.s 3) e3 1 0 P.length false), (36, evsA P), (37, .int .i64 P.length), (38, .int .i64 (s.1.1 : Int))])
      (h := fun s => ⟨[.vec e0 [[crsA p.ins.cs, intsA p.ins.steps, evsA P]], .vec e1 [[.nils, .nils, .nils]], .vec e2 [[crsA p.ins.cs, intsA p.ins.steps, .oslc (.s 7) s.1.2.1 6 0 (jst (P.take s.1.1)).o.length false]], .vec e3 ((mgd P s.1.1).map boolR), .hole, .hole, .hole, .vec s.1.2.1 (rowsD memL 0 s.1.2.2 0 (jst (P.take s.1.1)).o)], objsD memL s.1.2.2 0 (jst (P.take s.1.1)).o⟩) (μ := fun s => P.length - s.1.1) ⟨(0, eA, fun _ => 0), Nat.zero_le _⟩ (by exact rfl) ?_ ?_
    · show (⟨_, _⟩ : Heap) = ⟨[_, _, _, .vec e3 (([] ++ List.replicate (P.length - 0) false).map boolR), _, _, _, _], _⟩
      rw [List.nil_append, List.map_replicate]
      exact rfl
    rintro ⟨⟨k, epo, eps⟩, hk⟩
    simp only at hk
    obtain ⟨st, hst⟩ : ∃ st, st = jst (P.take k) := ⟨_, rfl⟩
    have hI : JInv (P.take k) st := hst ▸ jinv_take P k hk
    have hol : st.o.length ≤ k := by
      have h0 := hI.ol
      have h1 := cF_le st.m
      have h2 := hI.ml
      rw [List.length_take] at h2
      omega
    show aexR _ _ _ (frOf 0 152 [(1, .optr (.s 0) e0 3 0 0), (2, .optr (.s 1) e1 3 0 0), (5, .optr (.s 2) e2 3 0 0), (6, .oslc (.s 3) e3 1 0 P.length false), (36, evsA P), (37, .int .i64 P.length), (38, .int .i64 (k : Int))]) ⟨[.vec e0 [[crsA p.ins.cs, intsA p.ins.steps, evsA P]], .vec e1 [[.nils, .nils, .nils]], .vec e2 [[crsA p.ins.cs, intsA p.ins.steps, .oslc (.s 7) epo 6 0 (jst (P.take k)).o.length false]], .vec e3 ((mgd P k).map boolR), .hole, .hole, .hole, .vec epo (rowsD memL 0 eps 0 (jst (P.take k)).o)], objsD memL eps 0 (jst (P.take k)).o⟩ _
    rw [← hst]
    (conv => whnf)
    refine ifB (fun g1 => ?_) (fun g1 => ?_)
    · simp only [decide_eq_true_eq] at g1
      have hlt : k < P.length := by omega
      have hJ : jst (P.take (k + 1)) = jst1 st P[k] := by rw [jst_take hlt, ← hst]
      obtain ⟨e, he⟩ : ∃ e, e = P[k] := ⟨_, rfl⟩
      have hpr : (P.map evR)[0 + ((k : Nat) : Int).toNat]? = some (evR e) := by rw [he]; exact mapR hlt
      rw [← he] at hJ
      have hml : st.m.length = k := by rw [hI.ml, List.length_take]; omega
      have hmg : mgd P k = st.m ++ List.replicate (P.length - k) false := by rw [mgd, ← hst]
      rw [hmg]
      have hmr := mgd_get hml hlt
      cases hm : mrg st.o e with
      | some s =>
        obtain ⟨hmay, hpos, hsg⟩ := mrg_pos hm
        have hte : e.tie = true := by unfold mayJ at hmay; simp only [Bool.and_eq_true] at hmay; exact hmay.1.2
        have hbe : e.bar = false := by unfold mayJ at hmay; simp only [Bool.and_eq_true, Bool.not_eq_true'] at hmay; exact hmay.2
        have hrow : (rowsD memL 0 eps 0 st.o)[0 + (IntKind.i64.wrap ((st.o.length : Int) - 1)).toNat]? = some (evX (lastE st.o) (.oslc (.d (0 + memL.c * (0 + (st.o.length - 1)))) (eps (0 + (st.o.length - 1))) 5 0 (lastE st.o).stops.length false)) := by
          rw [lastE_at hpos, wrapI (by omega) (by omega), show ((st.o.length : Int) - 1) = ((st.o.length - 1 : Nat) : Int) by omega]
          exact rowG (by omega)
        have ht1 := ticks_spec (lastE st.o).v (lastE st.o).d (lastE st.o).t
        have ht2 := ticks_spec e.v e.d e.t
        have hsn := signOf_spec (IntKind.i64.wrap (tkE (lastE st.o) + tkE e))
        rw [hsg] at hsn
        (repeat' (first | exact rfl | ((conv => whnf); first | refine ⟨_, hsn, ?_⟩ | refine ⟨_, ht1, ?_⟩ | refine ⟨_, ht2, ?_⟩ | refine optS hpr ?_ | refine optS hrow ?_ | refine optS hmr ?_ | exact rfl | refine ⟨by kernel_rfl, ?_⟩ | exact ⟨rfl, rfl⟩ | refine ⟨rfl, ?_⟩ | refine ⟨by (first | omega | (simp (disch := omega) only [wrapI]; omega) | (simp (disch := omega) only [wrapI]; simp; omega) | (simp; omega)), ?_⟩ | (intro ep) | (refine ifB (fun hb => ?_) (fun hb => ?_) <;> (try (exfalso; revert hb; simp only [hte, hbe, Bool.not_false, Bool.not_true, decide_eq_false_iff_not, decide_eq_true_eq]; first | (decide; done) | omega))) | fail)))
        have hJ2 : jst (P.take (k + 1)) = ⟨st.o.set (st.o.length - 1) (withS (lastE st.o) s), st.m ++ [true], st.g⟩ := by rw [hJ, jst1, hm]
        have hmk : mgd P (k + 1) = st.m ++ [true] ++ List.replicate (P.length - (k + 1)) false := by rw [mgd, hJ2]
        (conv => whnf)
        refine back_of ⟨(k + 1, epo, eps), by simp only; omega⟩ ⟨by (first | exact rfl | (simp (disch := omega) only [wrapI]; exact rfl)), ?_, by simp only; omega⟩
        simp only
        rw [hmk, hJ2]
        have hlst : st.o[st.o.length - 1]'(by omega) = lastE st.o := (lastE_at hpos).symm
        have hset := rowsM_set (B := 0) (eps := eps) (e' := withS (lastE st.o) s) (l := st.o) (i := 0) (k := st.o.length - 1) (by omega) (by rw [hlst]; rfl)
        have hsame := objsM_same (eps := eps) (i := 0) (e' := withS (lastE st.o) s) (l := st.o) (k := st.o.length - 1) (by omega) (by rw [hlst]; rfl)
        have hW : 0 + (IntKind.i64.wrap ((st.o.length : Int) - 1)).toNat = st.o.length - 1 := by rw [wrapI (by omega) (by omega)]; omega
        rw [hsame, ← hset, List.length_set, ← mgd_set hml hlt, hlst]
        refine Eq.trans (b := ⟨[.vec e0 [[crsA p.ins.cs, intsA p.ins.steps, evsA P]], .vec e1 [[.nils, .nils, .nils]], .vec e2 [[crsA p.ins.cs, intsA p.ins.steps, .oslc (.s 7) epo 6 0 st.o.length false]], .vec e3 (((st.m ++ List.replicate (P.length - k) false).map boolR).set (0 + ((k : Nat) : Int).toNat) [.bool true]), .hole, .hole, .hole, .vec epo ((rowsD memL 0 eps 0 st.o).set (0 + (IntKind.i64.wrap ((st.o.length : Int) - 1)).toNat) (evX (withS (lastE st.o) s) (.oslc (.d (0 + memL.c * (0 + (st.o.length - 1)))) (eps (0 + (st.o.length - 1))) 5 0 (lastE st.o).stops.length false)))], objsD memL eps 0 st.o⟩) rfl ?_
        rw [hW]
      | none =>
        have hJ2 : jst (P.take (k + 1)) = ⟨st.o ++ [e], st.m ++ [false], st.g ++ [st.m.length]⟩ := by rw [hJ, jst1, hm]
        have hmk : mgd P (k + 1) = st.m ++ List.replicate (P.length - k) false := by rw [mgd, hJ2, mgd_false hml hlt]
        have hc9 := mapped99_102 e.stops (by have := hPs e (he ▸ List.getElem_mem hlt); omega)
        simp only [List.map_id] at hc9
        have ht1 := ticks_spec (lastE st.o).v (lastE st.o).d (lastE st.o).t
        have ht2 := ticks_spec e.v e.d e.t
        have hcase : st.o.length = 0 ∨ (0 < st.o.length ∧ e.tie = false) ∨ (0 < st.o.length ∧ e.tie = true ∧ e.bar = true) ∨ (0 < st.o.length ∧ e.tie = true ∧ e.bar = false ∧ sgOf (IntKind.i64.wrap (tkE (lastE st.o) + tkE e)) = none) := by
          unfold mrg mayJ at hm
          by_cases q1 : 0 < st.o.length
          · cases q2 : e.tie
            · exact .inr (.inl ⟨q1, rfl⟩)
            · cases q3 : e.bar
              · refine .inr (.inr (.inr ⟨q1, rfl, rfl, ?_⟩))
                simpa [q1, q2, q3] using hm
              · exact .inr (.inr (.inl ⟨q1, rfl, rfl⟩))
          · exact .inl (by omega)
        have hrow : 0 < st.o.length → (rowsD memL 0 eps 0 st.o)[0 + (IntKind.i64.wrap ((st.o.length : Int) - 1)).toNat]? = some (evX (lastE st.o) (.oslc (.d (0 + memL.c * (0 + (st.o.length - 1)))) (eps (0 + (st.o.length - 1))) 5 0 (lastE st.o).stops.length false)) := by
          intro hpos
          rw [lastE_at hpos, wrapI (by omega) (by omega), show ((st.o.length : Int) - 1) = ((st.o.length - 1 : Nat) : Int) by omega]
          exact rowG (by omega)
        have hsn := signOf_spec (IntKind.i64.wrap (tkE (lastE st.o) + tkE e))
        rcases hcase with hz | ⟨hpos, hte⟩ | ⟨hpos, hte, hbe⟩ | ⟨hpos, hte, hbe, hsg⟩
        rotate_left 3
        rw [hsg] at hsn
        rotate_left 1
        all_goals (repeat' (first | exact rfl | ((conv => whnf); first | refine ⟨_, hsn, ?_⟩ | refine ⟨_, ht1, ?_⟩ | refine ⟨_, ht2, ?_⟩ | refine ⟨_, _, hc9, fun epn => ?_⟩ | refine optS hpr ?_ | refine optS (hrow hpos) ?_ | refine optS hmr ?_ | exact rfl | refine ⟨by kernel_rfl, ?_⟩ | exact ⟨rfl, rfl⟩ | refine ⟨rfl, ?_⟩ | refine ⟨by (first | omega | (simp (disch := omega) only [wrapI]; omega) | (simp (disch := omega) only [wrapI]; simp; omega) | (simp; omega)), ?_⟩ | (intro ep) | (refine ifB (fun hb => ?_) (fun hb => ?_) <;> (try (exfalso; first | (revert hb; simp only [decide_eq_false_iff_not, decide_eq_true_eq]; omega) | (rw [hte] at hb; revert hb; decide) | (rw [hbe] at hb; revert hb; decide)))) | fail)))
        all_goals (conv => whnf)
        all_goals (obtain ⟨eps', y1, y2⟩ := layS memL 0 eps (epn 0) st.o e)
        all_goals (have hT : List.take st.o.length (rowsD memL 0 eps 0 st.o) = rowsD memL 0 eps 0 st.o := List.take_of_length_le (by rw [rowsD_len]; exact Nat.le_refl _))
        all_goals (refine back_of ⟨(k + 1, ep, eps'), by simp only; omega⟩ ⟨by (first | exact rfl | (simp (disch := omega) only [wrapI]; exact rfl)), ?_, by simp only; omega⟩)
        all_goals simp only
        all_goals rw [hmk, hJ2, List.length_append, List.length_singleton]
        all_goals simp only
        all_goals rw [y1, y2]
        all_goals (refine Eq.trans (b := ⟨[.vec e0 [[crsA p.ins.cs, intsA p.ins.steps, evsA P]], .vec e1 [[.nils, .nils, .nils]], .vec e2 [[crsA p.ins.cs, intsA p.ins.steps, .oslc (.s 7) ep 6 0 (st.o.length + 1) false]], .vec e3 ((st.m ++ List.replicate (P.length - k) false).map boolR), .hole, .hole, .hole, .vec ep (List.take st.o.length (List.drop 0 (rowsD memL 0 eps 0 st.o)) ++ [evX e (.oslc (.d (objsD memL eps 0 st.o).length) (epn 0) 5 0 e.stops.length false)])], objsD memL eps 0 st.o ++ [AObj.vec (epn 0) (e.stops.map stR)]⟩) rfl ?_)
        all_goals rw [List.drop_zero, hT, objsD_len, Nat.zero_add]
        all_goals rfl
    · simp only [decide_eq_false_iff_not] at g1
      obtain rfl : k = P.length := by omega
      rw [List.take_length] at hst
      have hmg : mgd P P.length = st.m := by rw [mgd, List.take_length, ← hst, Nat.sub_self]; exact List.append_nil _
      rw [hmg]
      have hJI : JInv P st := by
        have := hI
        rwa [List.take_length] at this
      have hmn : st.m.length = P.length := hJI.ml
      obtain ⟨J, hJ⟩ : ∃ J, J = jL st := ⟨_, rfl⟩
      have hJl : J.length = st.o.length := by rw [hJ, jL_len hJI]
      (repeat' ((conv => whnf); first | refine ⟨rfl, ?_⟩ | fail))
      refine loopX (okx [99] []) mixed (A := A60) [2, 5, 6, 13, 96, 97] [1, 2, 3, 7] (S := { i : Nat // i ≤ P.length })
        (fr := fun s => frOf 0 152 [(2, .optr (.s 1) e1 3 0 0), (5, .optr (.s 2) e2 3 0 0), (6, .oslc (.s 3) e3 1 0 P.length false), (13, .int .i64 (cF (st.m.take s.1))), (96, .int .i64 P.length), (97, .int .i64 (s.1 : Int))])
        (h := fun s => ⟨[.hole, .vec e1 [[.nils, .nils, .nils]], .vec e2 [[crsA p.ins.cs, intsA p.ins.steps, .oslc (.s 7) epo 6 0 st.o.length false]], .vec e3 (st.m.map boolR), .hole, .hole, .hole, .vec epo (rowsD memL 0 eps 0 st.o)], objsD memL eps 0 (mix J st.o (cF (st.m.take s.1)))⟩) (μ := fun s => P.length - s.1) ⟨0, Nat.zero_le _⟩ (by exact rfl) ?_ [2, 5] [1, 2, 7] (S' := Unit) (fun _ => 2) (fun _ => frOf 0 152 [(2, .optr (.s 1) e1 3 0 0), (5, .optr (.s 2) e2 3 0 0)])
        (fun _ => ⟨[.hole, .vec e1 [[.nils, .nils, .nils]], .vec e2 [[crsA p.ins.cs, intsA p.ins.steps, .oslc (.s 7) epo 6 0 st.o.length false]], .hole, .hole, .hole, .hole, .vec epo (rowsD memL 0 eps 0 st.o)], objsD memL eps 0 (J)⟩) (fun _ _ => False) ?_ (fun _ _ h => h.elim) ?_
      · simp only [List.take_zero, cF, mix_zero]
        exact rfl
      · rintro ⟨i, hi⟩
        obtain ⟨q, hq⟩ : ∃ q, q = cF (st.m.take i) := ⟨_, rfl⟩
        show aexR _ _ _ (frOf 0 152 [(2, .optr (.s 1) e1 3 0 0), (5, .optr (.s 2) e2 3 0 0), (6, .oslc (.s 3) e3 1 0 P.length false), (13, .int .i64 (cF (st.m.take i))), (96, .int .i64 P.length), (97, .int .i64 (i : Int))]) ⟨[.hole, .vec e1 [[.nils, .nils, .nils]], .vec e2 [[crsA p.ins.cs, intsA p.ins.steps, .oslc (.s 7) epo 6 0 st.o.length false]], .vec e3 (st.m.map boolR), .hole, .hole, .hole, .vec epo (rowsD memL 0 eps 0 st.o)], objsD memL eps 0 (mix J st.o (cF (st.m.take i)))⟩ _
        rw [← hq]
        (conv => whnf)
        refine ifB (fun g2 => ?_) (fun g2 => ?_)
        · simp only [decide_eq_true_eq] at g2
          have hlt : i < P.length := by omega
          have hmi : (st.m.map boolR)[0 + ((i : Nat) : Int).toNat]? = some (boolR (st.m[i]'(by omega))) := mapR (by omega)
          have hsucc := cF_succ (m := st.m) (i := i) (by omega)
          cases hb0 : st.m[i]'(by omega) with
          | true =>
            rw [hb0] at hmi
            simp only [hb0, if_pos, Nat.add_zero] at hsucc
            (repeat' (first | exact rfl | ((conv => whnf); first | refine optS hmi ?_ | exact rfl | refine ⟨by kernel_rfl, ?_⟩ | exact ⟨rfl, rfl⟩ | refine ⟨rfl, ?_⟩ | refine ⟨by (first | omega | (simp (disch := omega) only [wrapI]; omega) | (simp (disch := omega) only [wrapI]; simp; omega) | (simp; omega)), ?_⟩ | (intro ep) | fail)))
            (conv => whnf)
            refine back_of ⟨i + 1, by omega⟩ ⟨?_, ?_, by simp only; omega⟩
            · simp only [hsucc, ← hq]
              (first | exact rfl | (simp (disch := omega) only [wrapI]; exact rfl))
            · simp only [hsucc, ← hq]
              exact rfl
          | false =>
            rw [hb0] at hmi
            simp only [hb0, Bool.false_eq_true, if_neg, not_false_eq_true] at hsucc
            obtain ⟨h1, h2, h3, h4⟩ := jL_at hJI hlt hb0
            simp only [← hq] at h1 h2 h3 h4
            have hrow := rowG (B := 0) (eps := eps) h1
            obtain ⟨ss, hss⟩ : ∃ ss, ss = st.o[q].stops := ⟨_, rfl⟩
            rw [← hss] at hrow
            have hsl : ss.length ≤ 4000 := by rw [hss, h4]; exact hPs _ (List.getElem_mem hlt)
            have hsh : ∀ s ∈ ss, 0 ≤ s.h ∧ i + 1 + s.h.toNat ≤ P.length := by
              rw [hss, h4]
              have hip : i < p.evs.length := by omega
              have hb : body P[i] = body p.evs[i] := by
                have hQb : P.map body = p.evs.map body := by rw [hP, pln_body]
                have := congrArg (fun l => l[i]?) hQb
                simpa [List.getElem?_map, List.getElem?_eq_getElem hlt, List.getElem?_eq_getElem hip] using this
              have h9 := chk_holds hc hip
              simp only [body, Prod.mk.injEq] at hb
              rw [hb.2, hPl]
              exact h9
            obtain ⟨bs, hbs⟩ : ∃ bs, bs = ss.map (goneS st.m i) := ⟨_, rfl⟩
            have hbl : bs.length = ss.length := by rw [hbs]; simp
            (repeat' (first | exact rfl | ((conv => whnf); first | refine optS hmi ?_ | refine optS hrow ?_ | exact rfl | refine ⟨by kernel_rfl, ?_⟩ | exact ⟨rfl, rfl⟩ | refine ⟨rfl, ?_⟩ | refine ⟨by (first | omega | (simp (disch := omega) only [wrapI]; omega) | (simp (disch := omega) only [wrapI]; simp; omega) | (simp; omega)), ?_⟩ | (intro ep) | fail)))
            (conv => whnf)
            refine loopX (okx [99] []) mixed (A := A60) [2, 5, 6, 13, 14, 96, 97, 110, 111] [1, 2, 3, 7] (S := { k : Nat // k ≤ ss.length })
              (fr := fun s => frOf 0 152 [(2, .optr (.s 1) e1 3 0 0), (5, .optr (.s 2) e2 3 0 0), (6, .oslc (.s 3) e3 1 0 P.length false), (13, .int .i64 (q : Int)), (14, .int .i64 (i : Int)), (96, .int .i64 P.length), (97, .int .i64 (i : Int)), (110, .int .i64 ss.length), (111, .int .i64 (s.1 : Int))])
              (h := fun s => ⟨[.hole, .vec e1 [[.nils, .nils, .nils]], .vec e2 [[crsA p.ins.cs, intsA p.ins.steps, .oslc (.s 7) epo 6 0 st.o.length false]], .vec e3 (st.m.map boolR), .hole, .hole, .hole, .vec epo (rowsD memL 0 eps 0 st.o)], objsD memL eps 0 ((mix J st.o q).set q (evS st.o[q] (mix bs ss s.1)))⟩) (μ := fun s => ss.length - s.1) ⟨0, Nat.zero_le _⟩ (by exact rfl) ?_ [2, 5, 6, 13, 96, 97] [1, 2, 3, 7] (S' := Unit) (fun _ => 4) (fun _ => frOf 0 152 [(2, .optr (.s 1) e1 3 0 0), (5, .optr (.s 2) e2 3 0 0), (6, .oslc (.s 3) e3 1 0 P.length false), (13, .int .i64 (q : Int)), (96, .int .i64 P.length), (97, .int .i64 (i : Int))])
              (fun _ => ⟨[.hole, .vec e1 [[.nils, .nils, .nils]], .vec e2 [[crsA p.ins.cs, intsA p.ins.steps, .oslc (.s 7) epo 6 0 st.o.length false]], .vec e3 (st.m.map boolR), .hole, .hole, .hole, .vec epo (rowsD memL 0 eps 0 st.o)], objsD memL eps 0 ((mix J st.o q).set q (evS st.o[q] bs))⟩) (fun _ _ => False) ?_ (fun _ _ h => h.elim) ?_
            · have e : (mix J st.o q).set q (evS st.o[q] (mix bs ss 0)) = mix J st.o q := by
                rw [mix_zero, hss]
                have := mix_at hJl h1
                have e2 : evS st.o[q] st.o[q].stops = (mix J st.o q)[q]'(by rw [mix_len hJl]; exact h1) := by rw [this]; rfl
                rw [e2, List.set_getElem_self]
              rw [e]; exact rfl
            · rintro ⟨k, hk⟩
              obtain ⟨M, hM⟩ : ∃ M, M = (mix J st.o q).set q (evS st.o[q] (mix bs ss k)) := ⟨_, rfl⟩
              have hMl : M.length = st.o.length := by rw [hM, List.length_set, mix_len hJl]
              have hMi : (M[q]'(by omega)).stops = mix bs ss k := by simp [hM, evS]
              show aexR _ _ _ (frOf 0 152 [(2, .optr (.s 1) e1 3 0 0), (5, .optr (.s 2) e2 3 0 0), (6, .oslc (.s 3) e3 1 0 P.length false), (13, .int .i64 (q : Int)), (14, .int .i64 (i : Int)), (96, .int .i64 P.length), (97, .int .i64 (i : Int)), (110, .int .i64 ss.length), (111, .int .i64 (k : Int))]) ⟨[.hole, .vec e1 [[.nils, .nils, .nils]], .vec e2 [[crsA p.ins.cs, intsA p.ins.steps, .oslc (.s 7) epo 6 0 st.o.length false]], .vec e3 (st.m.map boolR), .hole, .hole, .hole, .vec epo (rowsD memL 0 eps 0 st.o)], objsD memL eps 0 ((mix J st.o q).set q (evS st.o[q] (mix bs ss k)))⟩ _
              rw [← hM]
              have hobj := objG (eps := eps) (X := []) (l := M) (k := q) (by omega) hMi
              rw [List.append_nil] at hobj
              (repeat' (first | exact rfl | ((conv => whnf); first | refine optO hobj ?_ | exact rfl | refine ⟨by kernel_rfl, ?_⟩ | exact ⟨rfl, rfl⟩ | refine ⟨rfl, ?_⟩ | refine ⟨by (first | omega | (simp (disch := omega) only [wrapI]; omega) | (simp (disch := omega) only [wrapI]; simp; omega) | (simp; omega)), ?_⟩ | (intro ep) | fail)))
              (conv => whnf)
              refine ifB (fun g3 => ?_) (fun g3 => ?_)
              · simp only [decide_eq_true_eq] at g3
                have hk2 : k < ss.length := by omega
                have hst2 := mixR (f := stR) hbl hk2
                obtain ⟨y1, y2⟩ := hsh _ (List.getElem_mem hk2)
                (repeat' (first | exact rfl | ((conv => whnf); first | refine optO hobj ?_ | refine optS hst2 ?_ | refine optS hrow ?_ | exact rfl | refine ⟨by kernel_rfl, ?_⟩ | exact ⟨rfl, rfl⟩ | refine ⟨rfl, ?_⟩ | refine ⟨by (first | omega | (simp (disch := omega) only [wrapI]; omega) | (simp (disch := omega) only [wrapI]; simp; omega) | (simp; omega)), ?_⟩ | (intro ep) | fail)))
                (conv => whnf)
                have hRO : Hid (0 + (IntKind.i64.wrap ((i : Int) + 1)).toNat = i + 1) := by show _ = _; rw [wrapI (by omega) (by omega)]; omega
                have hRL : Hid ((IntKind.i64.wrap (IntKind.i64.wrap ((i : Int) + 1) + ss[k].h)).toNat - (IntKind.i64.wrap ((i : Int) + 1)).toNat = ss[k].h.toNat) := by show _ = _; rw [wrapI (x := (i : Int) + 1) (by omega) (by omega), wrapI (by omega) (by omega)]; omega
                obtain ⟨S, hS⟩ : ∃ S : Nat → Stp, S = fun x => { ss[k] with h := ss[k].h - (cntT ((st.m.drop (i + 1)).take x) : Nat) } := ⟨_, rfl⟩
                obtain ⟨NN, hNN⟩ : ∃ NN : Nat → List Evt, NN = fun x => M.set q (evS st.o[q] ((mix bs ss k).set k (S x))) := ⟨_, rfl⟩
                have hNl : ∀ x, (NN x).length = st.o.length := by intro x; rw [hNN]; simp only [List.length_set]; exact hMl
                have hNi : ∀ x (h : q < (NN x).length), ((NN x)[q]).stops = (mix bs ss k).set k (S x) := by intro x h; simp [hNN, evS]
                have hmk : k < (mix bs ss k).length := by rw [mix_len hbl]; exact hk2
                refine loopX (okx [99] []) mixed (A := A60) [2, 5, 6, 13, 14, 16, 96, 97, 110, 111, 132, 133, 134] [1, 2, 3, 7] (S := { x : Nat // x ≤ ss[k].h.toNat })
                  (fr := fun s => frOf 0 152 [(2, .optr (.s 1) e1 3 0 0), (5, .optr (.s 2) e2 3 0 0), (6, .oslc (.s 3) e3 1 0 P.length false), (13, .int .i64 (q : Int)), (14, .int .i64 (i : Int)), (16, .optr (.d (0 + memL.c * (0 + q))) (eps (0 + q)) 5 (0 + ((k : Nat) : Int).toNat) 0), (96, .int .i64 P.length), (97, .int .i64 (i : Int)), (110, .int .i64 ss.length), (111, .int .i64 (k : Int)), (132, .oslc (.s 3) e3 1 (0 + (IntKind.i64.wrap ((i : Int) + 1)).toNat) ((IntKind.i64.wrap (IntKind.i64.wrap ((i : Int) + 1) + ss[k].h)).toNat - (IntKind.i64.wrap ((i : Int) + 1)).toNat) false), (133, .int .i64 (((IntKind.i64.wrap (IntKind.i64.wrap ((i : Int) + 1) + ss[k].h)).toNat - (IntKind.i64.wrap ((i : Int) + 1)).toNat) : Nat)), (134, .int .i64 (s.1 : Int))])
                  (h := fun s => ⟨[.hole, .vec e1 [[.nils, .nils, .nils]], .vec e2 [[crsA p.ins.cs, intsA p.ins.steps, .oslc (.s 7) epo 6 0 st.o.length false]], .vec e3 (st.m.map boolR), .hole, .hole, .hole, .vec epo (rowsD memL 0 eps 0 st.o)], objsD memL eps 0 (NN s.1)⟩) (μ := fun s => ss[k].h.toNat - s.1) ⟨0, Nat.zero_le _⟩ (by exact rfl) ?_ [2, 5, 6, 13, 14, 96, 97, 110, 111] [1, 2, 3, 7] (S' := Unit) (fun _ => 6) (fun _ => frOf 0 152 [(2, .optr (.s 1) e1 3 0 0), (5, .optr (.s 2) e2 3 0 0), (6, .oslc (.s 3) e3 1 0 P.length false), (13, .int .i64 (q : Int)), (14, .int .i64 (i : Int)), (96, .int .i64 P.length), (97, .int .i64 (i : Int)), (110, .int .i64 ss.length), (111, .int .i64 (k : Int))])
                  (fun _ => ⟨[.hole, .vec e1 [[.nils, .nils, .nils]], .vec e2 [[crsA p.ins.cs, intsA p.ins.steps, .oslc (.s 7) epo 6 0 st.o.length false]], .vec e3 (st.m.map boolR), .hole, .hole, .hole, .vec epo (rowsD memL 0 eps 0 st.o)], objsD memL eps 0 (NN ss[k].h.toNat)⟩) (fun _ _ => False) ?_ (fun _ _ h => h.elim) ?_
                · have e : NN 0 = M := by
                    rw [hNN]
                    show M.set q (evS st.o[q] ((mix bs ss k).set k (S 0))) = M
                    have e1 : S 0 = (mix bs ss k)[k]'(by rw [mix_len hbl]; exact hk2) := by
                      rw [mix_at hbl hk2, hS]
                      simp [cntT]
                    rw [e1, List.set_getElem_self, hM, List.set_set]
                  rw [e]; exact rfl
                · rintro ⟨x, hx⟩
                  have hobj2 := objG (eps := eps) (X := []) (l := NN x) (k := q) (by rw [hNl]; exact h1) (hNi x _)
                  rw [List.append_nil] at hobj2
                  have hst3 : (((mix bs ss k).set k (S x)).map stR)[0 + ((k : Nat) : Int).toNat]? = some (stR (S x)) := by
                    rw [Nat.zero_add, Int.toNat_natCast, List.getElem?_map, List.getElem?_set_self hmk]
                    rfl
                  (repeat' (first | exact rfl | ((conv => whnf); first | exact rfl | refine ⟨by kernel_rfl, ?_⟩ | exact ⟨rfl, rfl⟩ | refine ⟨rfl, ?_⟩ | refine ⟨by (first | omega | (simp (disch := omega) only [wrapI]; omega) | (simp (disch := omega) only [wrapI]; simp; omega) | (simp; omega)), ?_⟩ | (intro ep) | fail)))
                  (conv => whnf)
                  refine ifB (fun g4 => ?_) (fun g4 => ?_)
                  · simp only [decide_eq_true_eq] at g4
                    have hx2 : x < ss[k].h.toNat := by rw [← hRL.get]; omega
                    have hmx : (st.m.map boolR)[0 + (IntKind.i64.wrap ((i : Int) + 1)).toNat + ((x : Nat) : Int).toNat]? = some (boolR (st.m[i + 1 + x]'(by omega))) := by rw [hRO.get]; exact mapRo (by omega)
                    have hcx : cntT ((st.m.drop (i + 1)).take (x + 1)) = cntT ((st.m.drop (i + 1)).take x) + (if st.m[i + 1 + x]'(by omega) = true then 1 else 0) := by
                      rw [cntT_succ (by rw [List.length_drop]; omega), List.getElem_drop]
                    have hcl : cntT ((st.m.drop (i + 1)).take x) ≤ x := by
                      have := cntT_le ((st.m.drop (i + 1)).take x)
                      rw [List.length_take] at this
                      omega
                    cases hb4 : st.m[i + 1 + x]'(by omega) with
                    | true =>
                      rw [hb4] at hmx hcx
                      (repeat' (first | exact rfl | ((conv => whnf); first | refine optO hobj2 ?_ | refine optS hmx ?_ | refine optS hst3 ?_ | exact rfl | refine ⟨by kernel_rfl, ?_⟩ | exact ⟨rfl, rfl⟩ | refine ⟨rfl, ?_⟩ | refine ⟨by (first | omega | (simp (disch := omega) only [wrapI]; omega) | (simp (disch := omega) only [wrapI]; simp; omega) | (simp; omega)), ?_⟩ | (intro ep) | fail)))
                      (conv => whnf)
                      refine back_of ⟨x + 1, by omega⟩ ⟨?_, ?_, by simp only; omega⟩
                      · (first | exact rfl | (simp (disch := omega) only [wrapI]; exact rfl))
                      · simp only
                        have hw : IntKind.i64.wrap ((S x).h - 1) = (S (x + 1)).h := by
                          simp only [hS, hcx]
                          rw [wrapI (by omega) (by omega)]
                          simp only [if_true]
                          omega
                        have hSS : [AV.int .i64 (S x).c, .int .i64 (S x).f, .int .i64 (S x).r, .int .i64 (S x).g, .int .i64 (IntKind.i64.wrap ((S x).h - 1))] = stR (S (x + 1)) := by
                          rw [hw]; simp only [hS]; rfl
                        have hrs : (((mix bs ss k).set k (S x)).map stR).set (0 + ((k : Nat) : Int).toNat) (stR (S (x + 1))) = ((mix bs ss k).set k (S (x + 1))).map stR := by
                          rw [Nat.zero_add, Int.toNat_natCast, List.map_set, List.set_set, List.map_set]
                        have key := objS (eps := eps) (X := []) (l := NN x) (k := q) (by rw [hNl]; exact h1) (e' := evS st.o[q] ((mix bs ss k).set k (S (x + 1)))) (ss := (mix bs ss k).set k (S (x + 1))) rfl
                        rw [List.append_nil, List.append_nil] at key
                        have hN1 : (NN x).set q (evS st.o[q] ((mix bs ss k).set k (S (x + 1)))) = NN (x + 1) := by simp only [hNN, List.set_set]
                        rw [hSS, hrs, key, hN1]
                        exact rfl
                    | false =>
                      rw [hb4] at hmx hcx
                      (repeat' (first | exact rfl | ((conv => whnf); first | refine optO hobj2 ?_ | refine optS hmx ?_ | refine optS hst3 ?_ | exact rfl | refine ⟨by kernel_rfl, ?_⟩ | exact ⟨rfl, rfl⟩ | refine ⟨rfl, ?_⟩ | refine ⟨by (first | omega | (simp (disch := omega) only [wrapI]; omega) | (simp (disch := omega) only [wrapI]; simp; omega) | (simp; omega)), ?_⟩ | (intro ep) | fail)))
                      (conv => whnf)
                      refine back_of ⟨x + 1, by omega⟩ ⟨?_, ?_, by simp only; omega⟩
                      · (first | exact rfl | (simp (disch := omega) only [wrapI]; exact rfl))
                      · simp only
                        have hSx : S (x + 1) = S x := by simp only [hS, hcx]; rfl
                        have hN2 : NN (x + 1) = NN x := by simp only [hNN, hSx]
                        rw [hN2]
                        exact rfl
                  · simp only [decide_eq_false_iff_not] at g4
                    have hx2 : x = ss[k].h.toNat := by have := hRL.get; omega
                    subst hx2
                    refine back_of () ⟨rfl, ?_, ?_⟩
                    · (first | exact rfl | (simp (disch := omega) only [wrapI]; exact rfl))
                    · exact rfl
                · rintro ⟨⟩
                  (repeat' (first | exact rfl | ((conv => whnf); first | exact rfl | refine ⟨by kernel_rfl, ?_⟩ | exact ⟨rfl, rfl⟩ | refine ⟨rfl, ?_⟩ | refine ⟨by (first | omega | (simp (disch := omega) only [wrapI]; omega) | (simp (disch := omega) only [wrapI]; simp; omega) | (simp; omega)), ?_⟩ | (intro ep) | fail)))
                  (conv => whnf)
                  refine back_of ⟨k + 1, by omega⟩ ⟨?_, ?_, by simp only; omega⟩
                  · (first | exact rfl | (simp (disch := omega) only [wrapI]; exact rfl))
                  · simp only
                    have hSk : S ss[k].h.toNat = bs[k]'(by omega) := by simp only [hS, hbs, List.getElem_map]; rfl
                    have hN1 : NN ss[k].h.toNat = (mix J st.o q).set q (evS st.o[q] (mix bs ss (k + 1))) := by
                      simp only [hNN, hSk]
                      rw [hM, List.set_set, mix_succ hbl hk2]
                    rw [hN1]
                    exact rfl
              · simp only [decide_eq_false_iff_not] at g3
                obtain rfl : k = ss.length := by omega
                refine back_of () ⟨rfl, ?_, ?_⟩
                · (first | exact rfl | (simp (disch := omega) only [wrapI]; exact rfl))
                · rw [hM, mix_end hbl]
                  exact rfl
            · rintro ⟨⟩
              (repeat' (first | exact rfl | ((conv => whnf); first | exact rfl | refine ⟨by kernel_rfl, ?_⟩ | exact ⟨rfl, rfl⟩ | refine ⟨rfl, ?_⟩ | refine ⟨by (first | omega | (simp (disch := omega) only [wrapI]; omega) | (simp (disch := omega) only [wrapI]; simp; omega) | (simp; omega)), ?_⟩ | (intro ep) | fail)))
              (conv => whnf)
              refine back_of ⟨i + 1, by omega⟩ ⟨?_, ?_, by simp only; omega⟩
              · simp only [hsucc, ← hq]
                (first | exact rfl | (simp (disch := omega) only [wrapI]; exact rfl))
              · simp only [hsucc, ← hq]
                have hJq : J[q]'(by omega) = evS st.o[q] bs := by
                  simp only [hJ, h3, hbs, hss]
                  rfl
                rw [mix_succ hJl h1, hJq]
                exact rfl
        · simp only [decide_eq_false_iff_not] at g2
          obtain rfl : i = P.length := by omega
          have hqe : q = st.o.length := by rw [hq, hJI.ol, List.take_of_length_le (by omega)]
          refine back_of () ⟨rfl, ?_, ?_⟩
          · (first | exact rfl | (simp (disch := omega) only [wrapI]; exact rfl))
          · rw [hqe, mix_end hJl]
            exact rfl
      · rintro ⟨⟩
        (conv => whnf)
        have hje : joinE P = J := by rw [hJ, hst]; rfl
        have hrl : rowsD memL 0 eps 0 st.o = rowsD memL 0 eps 0 J := rowsM_like (by rw [hJ, jL_key hJI])
        rw [hje, hrl, ← hJl]
        (repeat' ((conv => whnf); first | refine ⟨rfl, ?_⟩ | fail))
        (conv => whnf)
        refine ⟨by (repeat' (first | exact trivial | exact eqsP_rows _ (fun x => rfl) | ((conv => whnf); first | exact trivial | refine ⟨rfl, ?_⟩ | refine ⟨?_, ?_⟩ | fail))), by (repeat' (first | exact trivial | exact eqsP_rows _ (fun x => rfl) | ((conv => whnf); first | exact trivial | refine ⟨rfl, ?_⟩ | refine ⟨?_, ?_⟩ | fail))), allO_objsM eps _ 0, eqsP_rowsM _ _ 0, ?_⟩
        intro ep2
        (repeat' ((conv => whnf); first | refine ⟨rfl, ?_⟩ | fail))
        (conv => whnf)
        have hXa : ∀ k (hk : k < J.length), (objsD memL eps 0 J)[0 + memL.c * (0 + k)]? = some (.vec (eps (0 + k)) (J[k].stops.map stR)) := by
          intro k hk
          have := objG (eps := eps) (X := []) (l := J) (k := k) hk rfl
          rwa [List.append_nil] at this
        refine end_memX (X := objsD memL eps 0 J) (l := J) (ep := ep2) (rows := rowsD memL 0 eps 0 J) (by rw [objsD_len, hJl, hst]; exact Nat.one_mul _) (objsM_pure J 0) (rowsM_fzB J 0 hXa) rfl ?_
        show (objsD memL eps 0 J ++ [AObj.vec ep2 (rowsD memL 0 eps 0 J)]).map (AObj.mapc (mcS 7 (objsD memL eps 0 J).length ep2)) = _
        rw [List.map_append, objsM_mc]
        show _ ++ [AObj.vec ep2 ((rowsD memL 0 eps 0 J).map fun r => r.map (mcS 7 (objsD memL eps 0 J).length ep2))] = _
        rw [rowsM_mc]
  · rw [if_pos hc] at f1 ⊢
    refine pretD_of (okx [99] []) mixed (A := A60) 8 Try.func60 rfl ?_
    (repeat' (first | exact rfl | ((conv => whnf); first | refine ⟨_, f1, ?_⟩ | exact rfl | refine ⟨by kernel_rfl, ?_⟩ | exact ⟨rfl, rfl⟩ | refine ⟨rfl, ?_⟩ | refine ⟨by (first | omega | (simp (disch := omega) only [wrapI]; omega) | (simp (disch := omega) only [wrapI]; simp; omega) | (simp; omega)), ?_⟩ | (intro ep) | refine ⟨fun o ho => (List.not_mem_nil (a := o) ho).elim, ?_⟩ | (refine ifB (fun hb => ?_) (fun hb => ?_) <;> (try simp only [decide_eq_true_eq, decide_eq_false_iff_not, beq_iff_eq, beq_eq_false_iff_ne, bne_iff_ne, bne_eq_false_iff_eq, ne_eq, not_false_eq_true, not_true_eq_false, Bool.not_eq_true, Bool.not_eq_true', Bool.not_eq_false', Int.not_lt, Int.not_le] at hb) <;> (try simp (disch := omega) only [wrapI] at hb) <;> (try (exfalso; omega))) | fail)))
end Go.Ab.V

/-
  The document's Join. No condition but the machine's bounds on lengths.
-/
namespace Go.Ab.V
open Go.Proofs

/-- rows whose stops lie where the events come from -/
def rowJ (eps : Nat → Nat) (i : Nat) (e : Evt) : List AV := evX e (.oslc (.d (0 + memL.c * (0 + i))) (eps (0 + i)) 5 0 e.stops.length false)
theorem evX_fz {eps : Nat → Nat} {X : List AObj} {i : Nat} {e : Evt} {ss : List Stp} (hl : ss.length = e.stops.length) (h : X[0 + memL.c * (0 + i)]? = some (.vec (eps (0 + i)) (ss.map stR))) : (rowJ eps i e).map (fzC2 X) = evR (evS e ss) := by
  show [AV.bool e.bar, .int .i64 e.v, .bool e.d, .bool e.t, .bool e.tie, fzC2 X (.oslc (.d (0 + memL.c * (0 + i))) (eps (0 + i)) 5 0 e.stops.length false)] = _
  have : fzC2 X (.oslc (.d (0 + memL.c * (0 + i))) (eps (0 + i)) 5 0 e.stops.length false) = stsA ss := by
    simp only [fzC2, h, if_pos, ← hl]
    rfl
  rw [this]
  rfl
end Go.Ab.V

/-
  The law PieceRewrites. No condition.
-/
namespace Go.Ab.V
open Go.Proofs

theorem join_sm {p : Pc} (hs : p.Sm) : Pc.Sm ⟨p.ins, joinE (outE plnS sz p.evs)⟩ := by
  obtain ⟨P, hP⟩ : ∃ P, P = outE plnS sz p.evs := ⟨_, rfl⟩
  have hPs : Pc.Sm ⟨p.ins, P⟩ := by rw [hP]; exact Sm_body (p := p) (q := ⟨p.ins, outE plnS sz p.evs⟩) hs rfl (pln_body _).symm
  rw [← hP]
  have hI := jinv P
  refine ⟨hs.cs, hs.st, ?_, fun e he => ?_⟩
  · show (jL (jst P)).length ≤ 4000
    have h1 := hPs.ev
    have h2 := hI.ol
    have h3 := cF_le (jst P).m
    have h4 := hI.ml
    rw [jL_len hI]
    simp only at h1
    omega
  · obtain ⟨j, hj, rfl⟩ := List.getElem_of_mem (show e ∈ jL (jst P) from he)
    have hjo : j < (jst P).o.length := by rw [jL_len hI] at hj; exact hj
    obtain ⟨i, e, s, k1, k2, k3⟩ := hI.gs j hjo
    have hil : i < P.length := (List.getElem?_eq_some_iff.1 k2).1
    have hm : e ∈ P := by rw [List.getElem?_eq_getElem hil] at k2; rw [← Option.some.inj k2]; exact List.getElem_mem hil
    have hoj : (jst P).o[j] = withS e s := by rw [List.getElem?_eq_getElem hjo] at k3; exact Option.some.inj k3
    have h9 := hPs.sp e hm
    show ((jL (jst P))[j]).stops.length ≤ 4000
    simp only [jL, List.getElem_zipWith, hoj, goneE, evS, withS, List.length_map]
    exact h9
theorem bare_sm {p : Pc} (hs : p.Sm) : Pc.Sm ⟨p.ins, p.evs.map bareE⟩ := by
  refine ⟨hs.cs, hs.st, by simp only [List.length_map]; exact hs.ev, fun e he => ?_⟩
  obtain ⟨e', h1, rfl⟩ := List.mem_map.1 (show e ∈ p.evs.map bareE from he)
  have := hs.sp e' h1
  simp only [bareE, List.length_map]
  exact this

end Go.Ab.V
