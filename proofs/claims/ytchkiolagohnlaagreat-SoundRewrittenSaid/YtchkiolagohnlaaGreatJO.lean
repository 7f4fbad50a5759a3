/-
  What is proved here serves the law's text: each part says its own claim and its conditions. No condition is left open.
-/
import Derived.Test.YtchkiolagohnlaaGreatJN
import Derived.Test.YtchkiolagohnlaaGreatKF
set_option linter.unusedSimpArgs false
set_option linter.unusedVariables false

/-
  The program's Join. No condition but the machine's bounds on lengths.
-/
namespace Go.Ab.V
open Go.Proofs

def A11 : Ann := fun r => match r with
  | 0 => { slots := [(0, 0), (1, 1)] }
  | 4 => { slots := [(3, 2)] }
  | 5 => { slots := [(3, 3)] }
  | 8 => { slots := [(3, 4)] }
  | 12 => { slots := [(13, 5)] }
  | 17 => { slots := [(3, 6), (4, 7)] }
  | 37 => { mv := [1007] }
  | _ => {}
def mgd (P : List Evt) (k : Nat) : List Bool := (jst (P.take k)).m ++ List.replicate (P.length - k) false
/-- kept away from omega -/
def Hid (p : Prop) : Prop := p
theorem Hid.get {p : Prop} (h : Hid p) : p := h
def boolR (b : Bool) : List AV := [.bool b]
theorem mgd_false {m : List Bool} {n k : Nat} (h : m.length = k) (hk : k < n) : m ++ List.replicate (n - k) false = m ++ [false] ++ List.replicate (n - (k + 1)) false := by
  rw [show n - k = (n - (k + 1)) + 1 by omega, List.replicate_succ, List.append_assoc]
  rfl
theorem mgd_get {m : List Bool} {n k : Nat} (h : m.length = k) (hk : k < n) : ((m ++ List.replicate (n - k) false).map boolR)[0 + ((k : Nat) : Int).toNat]? = some (boolR false) := by
  rw [mgd_false h hk, Nat.zero_add, Int.toNat_natCast, List.getElem?_map, List.append_assoc, List.getElem?_append_right (by omega), h, Nat.sub_self]
  rfl
theorem mgd_set {m : List Bool} {n k : Nat} (h : m.length = k) (hk : k < n) : ((m ++ List.replicate (n - k) false).map boolR).set (0 + ((k : Nat) : Int).toNat) [.bool true] = (m ++ [true] ++ List.replicate (n - (k + 1)) false).map boolR := by
  subst h
  rw [mgd_false rfl hk, Nat.zero_add, Int.toNat_natCast]
  simp only [List.map_append, List.append_assoc]
  rw [List.set_append_right _ _ (by simp)]
  simp [boolR]

/-- the same where there is nothing else -/
theorem end_memX {X : List AObj} {ep n : Nat} {rows : List (List AV)} {l : List Evt} {i : Ins} {D st : List AObj} {m : Nat} (hm : X.length = m) (hX : ∀ o ∈ X, pureObj o) (hr : (rows.map fun r => r.map (fzC2 X)) = l.map evR) (hn : n = l.length) (hD : D = X ++ [.vec ep rows]) :
    m ≤ D.length ∧ (∀ o ∈ D.take m, pureObj o) ∧ (fun v h' => frzD h' v fun v h' => frzK h' v fun r' _ => r'.isPure2 = true ∧ r' = .tup [pcA ⟨i, l⟩, .int .i64 0])
      (fzV2 (D.take m) (.tup [.agg [crsA i.cs, intsA i.steps, .oslc (.d X.length) ep 6 0 n false], .int .i64 0])) ⟨st.map (AObj.fz2 (D.take m)), List.replicate m .hole ++ (D.drop m).map (AObj.fz2 (D.take m))⟩ := by
  have := end_mem2 (i := i) (st := st) (D := D) (ep := ep) (Y := []) hm hX (fun o ho => (List.not_mem_nil (a := o) ho).elim) hr hn (by rw [List.append_nil]; exact hD)
  rwa [List.append_nil] at this
theorem jL_key {l : List Evt} {st : Jn} (h : JInv l st) : (jL st).map rowKey = st.o.map rowKey := by
  refine List.ext_getElem (by simp [jL, h.gl]) fun i h1 h2 => ?_
  simp [jL, rowKey, goneE, evS]

set_option maxHeartbeats 8000000 in
set_option maxRecDepth 100000 in
theorem join_spec (p : Pc) (hp : p.Ok) (hs : p.Sm) : PRet C.P 11 [pcA p] (pcE (joinP p)) := by
  have f1 := plain_spec p hp hs
  have hle := hs.ev
  unfold plnP at f1
  unfold joinP
  by_cases hc : chk p = 0
  · rw [if_neg (fun h => h hc)] at f1 ⊢
    obtain ⟨P, hP⟩ : ∃ P, P = outE plnS sz p.evs := ⟨_, rfl⟩
    have hPl : P.length = p.evs.length := by rw [hP, outE_len]
    rw [← hP] at f1 ⊢
    have hPs : ∀ e ∈ P, e.stops.length ≤ 4000 := by
      intro e he
      have : body e ∈ p.evs.map body := by rw [← pln_body, ← hP]; exact List.mem_map_of_mem he
      obtain ⟨e', h1, h2⟩ := List.mem_map.1 this
      have := hs.sp e' h1
      simp only [body, Prod.mk.injEq] at h2
      rw [← h2.2]; exact this
    refine pretM_of (okx [30] []) mixed (A := A11) 8 (jst P).o.length Tryz.func11 rfl ?_
    (conv => whnf)
    intro e0
    (conv => whnf)
    intro e1
    (repeat' ((conv => whnf); first | refine ⟨rfl, ?_⟩ | refine ⟨by decide, ?_⟩ | refine ⟨_, f1, ?_⟩ | refine ⟨by kernel_rfl, ?_⟩ | (refine ifB (fun hb => ?_) (fun hb => ?_) <;> (try simp only [decide_eq_true_eq, decide_eq_false_iff_not, beq_iff_eq, beq_eq_false_iff_ne, bne_iff_ne, bne_eq_false_iff_eq, ne_eq, not_false_eq_true, not_true_eq_false, Bool.not_eq_true, Bool.not_eq_true', Bool.not_eq_false', Int.not_lt, Int.not_le] at hb) <;> (try simp (disch := omega) only [wrapI] at hb) <;> (try (exfalso; omega))) | fail))
    intro e2
    (repeat' (first | exact rfl | ((conv => whnf); first | exact rfl | refine ⟨by kernel_rfl, ?_⟩ | exact ⟨rfl, rfl⟩ | refine ⟨rfl, ?_⟩ | refine ⟨by (first | omega | (simp (disch := omega) only [wrapI]; omega) | (simp (disch := omega) only [wrapI]; simp; omega) | (simp; omega)), ?_⟩ | (intro ep) | fail)))
    obtain ⟨e3, he3⟩ : ∃ e3, e3 = ep := ⟨_, rfl⟩
    subst he3
    (conv => whnf)
    refine wk_liftC 2 7 e2 6 0 2 (by decide) rfl rfl rfl ?_
    intro eA
    refine loopM (okx [30] []) mixed (A := A11) [1, 2, 5, 6, 36, 37, 38] [0, 1, 2, 3, 7] (S := { s : Nat × Nat × (Nat → Nat) // s.1 ≤ P.length })
      (fr := fun s => frOf 0 152 [(1, .optr (.s 0) e0 3 0 0), (2, .optr (.s 1) e1 3 0 0), (5, .optr (.s 2) e2 3 0 0), (6, .oslc (.s 3) e3 1 0 P.length false), (36, evsA P), (37, .int .i64 P.length), (38, .int .i64 (s.1.1 : Int))])
      (h := fun s => ⟨[.vec e0 [[crsA p.ins.cs, intsA p.ins.steps, evsA P]], .vec e1 [[.nils, .nils, .nils]], .vec e2 [[crsA p.ins.cs, intsA p.ins.steps, .oslc (.s 7) s.1.2.1 6 0 (jst (P.take s.1.1)).o.length false]], .vec e3 ((mgd P s.1.1).map boolR), .hole, .hole, .hole, .vec s.1.2.1 (rowsD memL 0 s.1.2.2 0 (jst (P.take s.1.1)).o)], objsD memL s.1.2.2 0 (jst (P.take s.1.1)).o⟩) (μ := fun s => P.length - s.1.1) ⟨(0, eA, fun _ => 0), Nat.zero_le _⟩ (by exact rfl) ?_ ?_
    · show (⟨_, _⟩ : Heap) = ⟨[_, _, _, .vec e3 (([] ++ List.replicate (P.length - 0) false).map boolR), _, _, _, _], _⟩
      rw [List.nil_append, List.map_replicate]
      exact rfl
    rintro ⟨⟨k, epo, eps⟩, hk⟩
    simp only at hk
    obtain ⟨st, hst⟩ : ∃ st, st = jst (P.take k) := ⟨_, rfl⟩
    have hI : JInv (P.take k) st := hst ▸ jinv_take P k hk
    have hol : st.o.length ≤ k := by
      have h0 := hI.ol
      have h1 := cF_le st.m
      have h2 := hI.ml
      rw [List.length_take] at h2
      omega
    show aexR _ _ _ (frOf 0 152 [(1, .optr (.s 0) e0 3 0 0), (2, .optr (.s 1) e1 3 0 0), (5, .optr (.s 2) e2 3 0 0), (6, .oslc (.s 3) e3 1 0 P.length false), (36, evsA P), (37, .int .i64 P.length), (38, .int .i64 (k : Int))]) ⟨[.vec e0 [[crsA p.ins.cs, intsA p.ins.steps, evsA P]], .vec e1 [[.nils, .nils, .nils]], .vec e2 [[crsA p.ins.cs, intsA p.ins.steps, .oslc (.s 7) epo 6 0 (jst (P.take k)).o.length false]], .vec e3 ((mgd P k).map boolR), .hole, .hole, .hole, .vec epo (rowsD memL 0 eps 0 (jst (P.take k)).o)], objsD memL eps 0 (jst (P.take k)).o⟩ _
    rw [← hst]
    (conv => whnf)
    refine ifB (fun g1 => ?_) (fun g1 => ?_)
    · simp only [decide_eq_true_eq] at g1
      have hlt : k < P.length := by omega
      have hJ : jst (P.take (k + 1)) = jst1 st P[k] := by rw [jst_take hlt, ← hst]
      obtain ⟨e, he⟩ : ∃ e, e = P[k] := ⟨_, rfl⟩
      have hpr : (P.map evR)[0 + ((k : Nat) : Int).toNat]? = some (evR e) := by rw [he]; exact mapR hlt
      rw [← he] at hJ
      have hml : st.m.length = k := by rw [hI.ml, List.length_take]; omega
      have hmg : mgd P k = st.m ++ List.replicate (P.length - k) false := by rw [mgd, ← hst]
      rw [hmg]
      have hmr := mgd_get hml hlt
      cases hm : mrg st.o e with
      | some s =>
        obtain ⟨hmay, hpos, hsg⟩ := mrg_pos hm
        have hte : e.tie = true := by unfold mayJ at hmay; simp only [Bool.and_eq_true] at hmay; exact hmay.1.2
        have hbe : e.bar = false := by unfold mayJ at hmay; simp only [Bool.and_eq_true, Bool.not_eq_true'] at hmay; exact hmay.2
        have hrow : (rowsD memL 0 eps 0 st.o)[0 + (IntKind.i64.wrap ((st.o.length : Int) - 1)).toNat]? = some (evX (lastE st.o) (.oslc (.d (0 + memL.c * (0 + (st.o.length - 1)))) (eps (0 + (st.o.length - 1))) 5 0 (lastE st.o).stops.length false)) := by
          rw [lastE_at hpos, wrapI (by omega) (by omega), show ((st.o.length : Int) - 1) = ((st.o.length - 1 : Nat) : Int) by omega]
          exact rowG (by omega)
        have ht1 := ticks_spec (lastE st.o).v (lastE st.o).d (lastE st.o).t
        have ht2 := ticks_spec e.v e.d e.t
        have hsn := signOf_spec (IntKind.i64.wrap (tkE (lastE st.o) + tkE e))
        rw [hsg] at hsn
        (repeat' (first | exact rfl | ((conv => whnf); first | refine ⟨_, hsn, ?_⟩ | refine ⟨_, ht1, ?_⟩ | refine ⟨_, ht2, ?_⟩ | refine optS hpr ?_ | refine optS hrow ?_ | refine optS hmr ?_ | exact rfl | refine ⟨by kernel_rfl, ?_⟩ | exact ⟨rfl, rfl⟩ | refine ⟨rfl, ?_⟩ | refine ⟨by (first | omega | (simp (disch := omega) only [wrapI]; omega) | (simp (disch := omega) only [wrapI]; simp; omega) | (simp; omega)), ?_⟩ | (intro ep) | (refine ifB (fun hb => ?_) (fun hb => ?_) <;> (try (exfalso; revert hb; simp only [hte, hbe, Bool.not_false, Bool.not_true, decide_eq_false_iff_not, decide_eq_true_eq]; first | (decide; done) | omega))) | fail)))
        have hJ2 : jst (P.take (k + 1)) = ⟨st.o.set (st.o.length - 1) (withS (lastE st.o) s), st.m ++ [true], st.g⟩ := by rw [hJ, jst1, hm]
        have hmk : mgd P (k + 1) = st.m ++ [true] ++ List.replicate (P.length - (k + 1)) false := by rw [mgd, hJ2]
        (conv => whnf)
        refine back_of ⟨(k + 1, epo, eps), by simp only; omega⟩ ⟨by (first | exact rfl | (simp (disch := omega) only [wrapI]; exact rfl)), ?_, by simp only; omega⟩
        simp only
        rw [hmk, hJ2]
        have hlst : st.o[st.o.length - 1]'(by omega) = lastE st.o := (lastE_at hpos).symm
        have hset := rowsM_set (B := 0) (eps := eps) (e' := withS (lastE st.o) s) (l := st.o) (i := 0) (k := st.o.length - 1) (by omega) (by rw [hlst]; rfl)
        have hsame := objsM_same (eps := eps) (i := 0) (e' := withS (lastE st.o) s) (l := st.o) (k := st.o.length - 1) (by omega) (by rw [hlst]; rfl)
        have hW : 0 + (IntKind.i64.wrap ((st.o.length : Int) - 1)).toNat = st.o.length - 1 := by rw [wrapI (by omega) (by omega)]; omega
        rw [hsame, ← hset, List.length_set, ← mgd_set hml hlt, hlst]
        refine Eq.trans (b := ⟨[.vec e0 [[crsA p.ins.cs, intsA p.ins.steps, evsA P]], .vec e1 [[.nils, .nils, .nils]], .vec e2 [[crsA p.ins.cs, intsA p.ins.steps, .oslc (.s 7) epo 6 0 st.o.length false]], .vec e3 (((st.m ++ List.replicate (P.length - k) false).map boolR).set (0 + ((k : Nat) : Int).toNat) [.bool true]), .hole, .hole, .hole, .vec epo ((rowsD memL 0 eps 0 st.o).set (0 + (IntKind.i64.wrap ((st.o.length : Int) - 1)).toNat) (evX (withS (lastE st.o) s) (.oslc (.d (0 + memL.c * (0 + (st.o.length - 1)))) (eps (0 + (st.o.length - 1))) 5 0 (lastE st.o).stops.length false)))], objsD memL eps 0 st.o⟩) rfl ?_
        rw [hW]
      | none =>
        have hJ2 : jst (P.take (k + 1)) = ⟨st.o ++ [e], st.m ++ [false], st.g ++ [st.m.length]⟩ := by rw [hJ, jst1, hm]
        have hmk : mgd P (k + 1) = st.m ++ List.replicate (P.length - k) false := by rw [mgd, hJ2, mgd_false hml hlt]
        have hc9 := mapped99_102 e.stops (by have := hPs e (he ▸ List.getElem_mem hlt); omega)
        simp only [List.map_id] at hc9
        have ht1 := ticks_spec (lastE st.o).v (lastE st.o).d (lastE st.o).t
        have ht2 := ticks_spec e.v e.d e.t
        have hcase : st.o.length = 0 ∨ (0 < st.o.length ∧ e.tie = false) ∨ (0 < st.o.length ∧ e.tie = true ∧ e.bar = true) ∨ (0 < st.o.length ∧ e.tie = true ∧ e.bar = false ∧ sgOf (IntKind.i64.wrap (tkE (lastE st.o) + tkE e)) = none) := by
          unfold mrg mayJ at hm
          by_cases q1 : 0 < st.o.length
          · cases q2 : e.tie
            · exact .inr (.inl ⟨q1, rfl⟩)
            · cases q3 : e.bar
              · refine .inr (.inr (.inr ⟨q1, rfl, rfl, ?_⟩))
                simpa [q1, q2, q3] using hm
              · exact .inr (.inr (.inl ⟨q1, rfl, rfl⟩))
          · exact .inl (by omega)
        have hrow : 0 < st.o.length → (rowsD memL 0 eps 0 st.o)[0 + (IntKind.i64.wrap ((st.o.length : Int) - 1)).toNat]? = some (evX (lastE st.o) (.oslc (.d (0 + memL.c * (0 + (st.o.length - 1)))) (eps (0 + (st.o.length - 1))) 5 0 (lastE st.o).stops.length false)) := by
          intro hpos
          rw [lastE_at hpos, wrapI (by omega) (by omega), show ((st.o.length : Int) - 1) = ((st.o.length - 1 : Nat) : Int) by omega]
          exact rowG (by omega)
        have hsn := signOf_spec (IntKind.i64.wrap (tkE (lastE st.o) + tkE e))
        rcases hcase with hz | ⟨hpos, hte⟩ | ⟨hpos, hte, hbe⟩ | ⟨hpos, hte, hbe, hsg⟩
        rotate_left 3
        rw [hsg] at hsn
        rotate_left 1
        all_goals (repeat' (first | exact rfl | ((conv => whnf); first | refine ⟨_, hsn, ?_⟩ | refine ⟨_, ht1, ?_⟩ | refine ⟨_, ht2, ?_⟩ | refine ⟨_, _, hc9, fun epn => ?_⟩ | refine optS hpr ?_ | refine optS (hrow hpos) ?_ | refine optS hmr ?_ | exact rfl | refine ⟨by kernel_rfl, ?_⟩ | exact ⟨rfl, rfl⟩ | refine ⟨rfl, ?_⟩ | refine ⟨by (first | omega | (simp (disch := omega) only [wrapI]; omega) | (simp (disch := omega) only [wrapI]; simp; omega) | (simp; omega)), ?_⟩ | (intro ep) | (refine ifB (fun hb => ?_) (fun hb => ?_) <;> (try (exfalso; first | (revert hb; simp only [decide_eq_false_iff_not, decide_eq_true_eq]; omega) | (rw [hte] at hb; revert hb; decide) | (rw [hbe] at hb; revert hb; decide)))) | fail)))
        all_goals (conv => whnf)
        all_goals (obtain ⟨eps', y1, y2⟩ := layS memL 0 eps (epn 0) st.o e)
        all_goals (have hT : List.take st.o.length (rowsD memL 0 eps 0 st.o) = rowsD memL 0 eps 0 st.o := List.take_of_length_le (by rw [rowsD_len]; exact Nat.le_refl _))
        all_goals (refine back_of ⟨(k + 1, ep, eps'), by simp only; omega⟩ ⟨by (first | exact rfl | (simp (disch := omega) only [wrapI]; exact rfl)), ?_, by simp only; omega⟩)
        all_goals simp only
        all_goals rw [hmk, hJ2, List.length_append, List.length_singleton]
        all_goals simp only
        all_goals rw [y1, y2]
        all_goals (refine Eq.trans (b := ⟨[.vec e0 [[crsA p.ins.cs, intsA p.ins.steps, evsA P]], .vec e1 [[.nils, .nils, .nils]], .vec e2 [[crsA p.ins.cs, intsA p.ins.steps, .oslc (.s 7) ep 6 0 (st.o.length + 1) false]], .vec e3 ((st.m ++ List.replicate (P.length - k) false).map boolR), .hole, .hole, .hole, .vec ep (List.take st.o.length (List.drop 0 (rowsD memL 0 eps 0 st.o)) ++ [evX e (.oslc (.d (objsD memL eps 0 st.o).length) (epn 0) 5 0 e.stops.length false)])], objsD memL eps 0 st.o ++ [AObj.vec (epn 0) (e.stops.map stR)]⟩) rfl ?_)
        all_goals rw [List.drop_zero, hT, objsD_len, Nat.zero_add]
        all_goals rfl
    · simp only [decide_eq_false_iff_not] at g1
      obtain rfl : k = P.length := by omega
      rw [List.take_length] at hst
      have hmg : mgd P P.length = st.m := by rw [mgd, List.take_length, ← hst, Nat.sub_self]; exact List.append_nil _
      rw [hmg]
      have hJI : JInv P st := by
        have := hI
        rwa [List.take_length] at this
      have hmn : st.m.length = P.length := hJI.ml
      obtain ⟨J, hJ⟩ : ∃ J, J = jL st := ⟨_, rfl⟩
      have hJl : J.length = st.o.length := by rw [hJ, jL_len hJI]
      (repeat' ((conv => whnf); first | refine ⟨rfl, ?_⟩ | fail))
      refine loopX (okx [30] []) mixed (A := A11) [2, 5, 6, 13, 96, 97] [1, 2, 3, 7] (S := { i : Nat // i ≤ P.length })
        (fr := fun s => frOf 0 152 [(2, .optr (.s 1) e1 3 0 0), (5, .optr (.s 2) e2 3 0 0), (6, .oslc (.s 3) e3 1 0 P.length false), (13, .int .i64 (cF (st.m.take s.1))), (96, .int .i64 P.length), (97, .int .i64 (s.1 : Int))])
        (h := fun s => ⟨[.hole, .vec e1 [[.nils, .nils, .nils]], .vec e2 [[crsA p.ins.cs, intsA p.ins.steps, .oslc (.s 7) epo 6 0 st.o.length false]], .vec e3 (st.m.map boolR), .hole, .hole, .hole, .vec epo (rowsD memL 0 eps 0 st.o)], objsD memL eps 0 (mix J st.o (cF (st.m.take s.1)))⟩) (μ := fun s => P.length - s.1) ⟨0, Nat.zero_le _⟩ (by exact rfl) ?_ [2, 5] [1, 2, 7] (S' := Unit) (fun _ => 2) (fun _ => frOf 0 152 [(2, .optr (.s 1) e1 3 0 0), (5, .optr (.s 2) e2 3 0 0)])
        (fun _ => ⟨[.hole, .vec e1 [[.nils, .nils, .nils]], .vec e2 [[crsA p.ins.cs, intsA p.ins.steps, .oslc (.s 7) epo 6 0 st.o.length false]], .hole, .hole, .hole, .hole, .vec epo (rowsD memL 0 eps 0 st.o)], objsD memL eps 0 (J)⟩) (fun _ _ => False) ?_ (fun _ _ h => h.elim) ?_
      · simp only [List.take_zero, cF, mix_zero]
        exact rfl
      · rintro ⟨i, hi⟩
        obtain ⟨q, hq⟩ : ∃ q, q = cF (st.m.take i) := ⟨_, rfl⟩
        show aexR _ _ _ (frOf 0 152 [(2, .optr (.s 1) e1 3 0 0), (5, .optr (.s 2) e2 3 0 0), (6, .oslc (.s 3) e3 1 0 P.length false), (13, .int .i64 (cF (st.m.take i))), (96, .int .i64 P.length), (97, .int .i64 (i : Int))]) ⟨[.hole, .vec e1 [[.nils, .nils, .nils]], .vec e2 [[crsA p.ins.cs, intsA p.ins.steps, .oslc (.s 7) epo 6 0 st.o.length false]], .vec e3 (st.m.map boolR), .hole, .hole, .hole, .vec epo (rowsD memL 0 eps 0 st.o)], objsD memL eps 0 (mix J st.o (cF (st.m.take i)))⟩ _
        rw [← hq]
        (conv => whnf)
        refine ifB (fun g2 => ?_) (fun g2 => ?_)
        · simp only [decide_eq_true_eq] at g2
          have hlt : i < P.length := by omega
          have hmi : (st.m.map boolR)[0 + ((i : Nat) : Int).toNat]? = some (boolR (st.m[i]'(by omega))) := mapR (by omega)
          have hsucc := cF_succ (m := st.m) (i := i) (by omega)
          cases hb0 : st.m[i]'(by omega) with
          | true =>
            rw [hb0] at hmi
            simp only [hb0, if_pos, Nat.add_zero] at hsucc
            (repeat' (first | exact rfl | ((conv => whnf); first | refine optS hmi ?_ | exact rfl | refine ⟨by kernel_rfl, ?_⟩ | exact ⟨rfl, rfl⟩ | refine ⟨rfl, ?_⟩ | refine ⟨by (first | omega | (simp (disch := omega) only [wrapI]; omega) | (simp (disch := omega) only [wrapI]; simp; omega) | (simp; omega)), ?_⟩ | (intro ep) | fail)))
            (conv => whnf)
            refine back_of ⟨i + 1, by omega⟩ ⟨?_, ?_, by simp only; omega⟩
            · simp only [hsucc, ← hq]
              (first | exact rfl | (simp (disch := omega) only [wrapI]; exact rfl))
            · simp only [hsucc, ← hq]
              exact rfl
          | false =>
            rw [hb0] at hmi
            simp only [hb0, Bool.false_eq_true, if_neg, not_false_eq_true] at hsucc
            obtain ⟨h1, h2, h3, h4⟩ := jL_at hJI hlt hb0
            simp only [← hq] at h1 h2 h3 h4
            have hrow := rowG (B := 0) (eps := eps) h1
            obtain ⟨ss, hss⟩ : ∃ ss, ss = st.o[q].stops := ⟨_, rfl⟩
            rw [← hss] at hrow
            have hsl : ss.length ≤ 4000 := by rw [hss, h4]; exact hPs _ (List.getElem_mem hlt)
            have hsh : ∀ s ∈ ss, 0 ≤ s.h ∧ i + 1 + s.h.toNat ≤ P.length := by
              rw [hss, h4]
              have hip : i < p.evs.length := by omega
              have hb : body P[i] = body p.evs[i] := by
                have hQb : P.map body = p.evs.map body := by rw [hP, pln_body]
                have := congrArg (fun l => l[i]?) hQb
                simpa [List.getElem?_map, List.getElem?_eq_getElem hlt, List.getElem?_eq_getElem hip] using this
              have h9 := chk_holds hc hip
              simp only [body, Prod.mk.injEq] at hb
              rw [hb.2, hPl]
              exact h9
            obtain ⟨bs, hbs⟩ : ∃ bs, bs = ss.map (goneS st.m i) := ⟨_, rfl⟩
            have hbl : bs.length = ss.length := by rw [hbs]; simp
            (repeat' (first | exact rfl | ((conv => whnf); first | refine optS hmi ?_ | refine optS hrow ?_ | exact rfl | refine ⟨by kernel_rfl, ?_⟩ | exact ⟨rfl, rfl⟩ | refine ⟨rfl, ?_⟩ | refine ⟨by (first | omega | (simp (disch := omega) only [wrapI]; omega) | (simp (disch := omega) only [wrapI]; simp; omega) | (simp; omega)), ?_⟩ | (intro ep) | fail)))
            (conv => whnf)
            refine loopX (okx [30] []) mixed (A := A11) [2, 5, 6, 13, 14, 96, 97, 110, 111] [1, 2, 3, 7] (S := { k : Nat // k ≤ ss.length })
              (fr := fun s => frOf 0 152 [(2, .optr (.s 1) e1 3 0 0), (5, .optr (.s 2) e2 3 0 0), (6, .oslc (.s 3) e3 1 0 P.length false), (13, .int .i64 (q : Int)), (14, .int .i64 (i : Int)), (96, .int .i64 P.length), (97, .int .i64 (i : Int)), (110, .int .i64 ss.length), (111, .int .i64 (s.1 : Int))])
              (h := fun s => ⟨[.hole, .vec e1 [[.nils, .nils, .nils]], .vec e2 [[crsA p.ins.cs, intsA p.ins.steps, .oslc (.s 7) epo 6 0 st.o.length false]], .vec e3 (st.m.map boolR), .hole, .hole, .hole, .vec epo (rowsD memL 0 eps 0 st.o)], objsD memL eps 0 ((mix J st.o q).set q (evS st.o[q] (mix bs ss s.1)))⟩) (μ := fun s => ss.length - s.1) ⟨0, Nat.zero_le _⟩ (by exact rfl) ?_ [2, 5, 6, 13, 96, 97] [1, 2, 3, 7] (S' := Unit) (fun _ => 4) (fun _ => frOf 0 152 [(2, .optr (.s 1) e1 3 0 0), (5, .optr (.s 2) e2 3 0 0), (6, .oslc (.s 3) e3 1 0 P.length false), (13, .int .i64 (q : Int)), (96, .int .i64 P.length), (97, .int .i64 (i : Int))])
              (fun _ => ⟨[.hole, .vec e1 [[.nils, .nils, .nils]], .vec e2 [[crsA p.ins.cs, intsA p.ins.steps, .oslc (.s 7) epo 6 0 st.o.length false]], .vec e3 (st.m.map boolR), .hole, .hole, .hole, .vec epo (rowsD memL 0 eps 0 st.o)], objsD memL eps 0 ((mix J st.o q).set q (evS st.o[q] bs))⟩) (fun _ _ => False) ?_ (fun _ _ h => h.elim) ?_
            · have e : (mix J st.o q).set q (evS st.o[q] (mix bs ss 0)) = mix J st.o q := by
                rw [mix_zero, hss]
                have := mix_at hJl h1
                have e2 : evS st.o[q] st.o[q].stops = (mix J st.o q)[q]'(by rw [mix_len hJl]; exact h1) := by rw [this]; rfl
                rw [e2, List.set_getElem_self]
              rw [e]; exact rfl
            · rintro ⟨k, hk⟩
              obtain ⟨M, hM⟩ : ∃ M, M = (mix J st.o q).set q (evS st.o[q] (mix bs ss k)) := ⟨_, rfl⟩
              have hMl : M.length = st.o.length := by rw [hM, List.length_set, mix_len hJl]
              have hMi : (M[q]'(by omega)).stops = mix bs ss k := by simp [hM, evS]
              show aexR _ _ _ (frOf 0 152 [(2, .optr (.s 1) e1 3 0 0), (5, .optr (.s 2) e2 3 0 0), (6, .oslc (.s 3) e3 1 0 P.length false), (13, .int .i64 (q : Int)), (14, .int .i64 (i : Int)), (96, .int .i64 P.length), (97, .int .i64 (i : Int)), (110, .int .i64 ss.length), (111, .int .i64 (k : Int))]) ⟨[.hole, .vec e1 [[.nils, .nils, .nils]], .vec e2 [[crsA p.ins.cs, intsA p.ins.steps, .oslc (.s 7) epo 6 0 st.o.length false]], .vec e3 (st.m.map boolR), .hole, .hole, .hole, .vec epo (rowsD memL 0 eps 0 st.o)], objsD memL eps 0 ((mix J st.o q).set q (evS st.o[q] (mix bs ss k)))⟩ _
              rw [← hM]
              have hobj := objG (eps := eps) (X := []) (l := M) (k := q) (by omega) hMi
              rw [List.append_nil] at hobj
              (repeat' (first | exact rfl | ((conv => whnf); first | refine optO hobj ?_ | exact rfl | refine ⟨by kernel_rfl, ?_⟩ | exact ⟨rfl, rfl⟩ | refine ⟨rfl, ?_⟩ | refine ⟨by (first | omega | (simp (disch := omega) only [wrapI]; omega) | (simp (disch := omega) only [wrapI]; simp; omega) | (simp; omega)), ?_⟩ | (intro ep) | fail)))
              (conv => whnf)
              refine ifB (fun g3 => ?_) (fun g3 => ?_)
              · simp only [decide_eq_true_eq] at g3
                have hk2 : k < ss.length := by omega
                have hst2 := mixR (f := stR) hbl hk2
                obtain ⟨y1, y2⟩ := hsh _ (List.getElem_mem hk2)
                (repeat' (first | exact rfl | ((conv => whnf); first | refine optO hobj ?_ | refine optS hst2 ?_ | refine optS hrow ?_ | exact rfl | refine ⟨by kernel_rfl, ?_⟩ | exact ⟨rfl, rfl⟩ | refine ⟨rfl, ?_⟩ | refine ⟨by (first | omega | (simp (disch := omega) only [wrapI]; omega) | (simp (disch := omega) only [wrapI]; simp; omega) | (simp; omega)), ?_⟩ | (intro ep) | fail)))
                (conv => whnf)
                have hRO : Hid (0 + (IntKind.i64.wrap ((i : Int) + 1)).toNat = i + 1) := by show _ = _; rw [wrapI (by omega) (by omega)]; omega
                have hRL : Hid ((IntKind.i64.wrap (IntKind.i64.wrap ((i : Int) + 1) + ss[k].h)).toNat - (IntKind.i64.wrap ((i : Int) + 1)).toNat = ss[k].h.toNat) := by show _ = _; rw [wrapI (x := (i : Int) + 1) (by omega) (by omega), wrapI (by omega) (by omega)]; omega
                obtain ⟨S, hS⟩ : ∃ S : Nat → Stp, S = fun x => { ss[k] with h := ss[k].h - (cntT ((st.m.drop (i + 1)).take x) : Nat) } := ⟨_, rfl⟩
                obtain ⟨NN, hNN⟩ : ∃ NN : Nat → List Evt, NN = fun x => M.set q (evS st.o[q] ((mix bs ss k).set k (S x))) := ⟨_, rfl⟩
                have hNl : ∀ x, (NN x).length = st.o.length := by intro x; rw [hNN]; simp only [List.length_set]; exact hMl
                have hNi : ∀ x (h : q < (NN x).length), ((NN x)[q]).stops = (mix bs ss k).set k (S x) := by intro x h; simp [hNN, evS]
                have hmk : k < (mix bs ss k).length := by rw [mix_len hbl]; exact hk2
                refine loopX (okx [30] []) mixed (A := A11) [2, 5, 6, 13, 14, 16, 96, 97, 110, 111, 132, 133, 134] [1, 2, 3, 7] (S := { x : Nat // x ≤ ss[k].h.toNat })
                  (fr := fun s => frOf 0 152 [(2, .optr (.s 1) e1 3 0 0), (5, .optr (.s 2) e2 3 0 0), (6, .oslc (.s 3) e3 1 0 P.length false), (13, .int .i64 (q : Int)), (14, .int .i64 (i : Int)), (16, .optr (.d (0 + memL.c * (0 + q))) (eps (0 + q)) 5 (0 + ((k : Nat) : Int).toNat) 0), (96, .int .i64 P.length), (97, .int .i64 (i : Int)), (110, .int .i64 ss.length), (111, .int .i64 (k : Int)), (132, .oslc (.s 3) e3 1 (0 + (IntKind.i64.wrap ((i : Int) + 1)).toNat) ((IntKind.i64.wrap (IntKind.i64.wrap ((i : Int) + 1) + ss[k].h)).toNat - (IntKind.i64.wrap ((i : Int) + 1)).toNat) false), (133, .int .i64 (((IntKind.i64.wrap (IntKind.i64.wrap ((i : Int) + 1) + ss[k].h)).toNat - (IntKind.i64.wrap ((i : Int) + 1)).toNat) : Nat)), (134, .int .i64 (s.1 : Int))])
                  (h := fun s => ⟨[.hole, .vec e1 [[.nils, .nils, .nils]], .vec e2 [[crsA p.ins.cs, intsA p.ins.steps, .oslc (.s 7) epo 6 0 st.o.length false]], .vec e3 (st.m.map boolR), .hole, .hole, .hole, .vec epo (rowsD memL 0 eps 0 st.o)], objsD memL eps 0 (NN s.1)⟩) (μ := fun s => ss[k].h.toNat - s.1) ⟨0, Nat.zero_le _⟩ (by exact rfl) ?_ [2, 5, 6, 13, 14, 96, 97, 110, 111] [1, 2, 3, 7] (S' := Unit) (fun _ => 6) (fun _ => frOf 0 152 [(2, .optr (.s 1) e1 3 0 0), (5, .optr (.s 2) e2 3 0 0), (6, .oslc (.s 3) e3 1 0 P.length false), (13, .int .i64 (q : Int)), (14, .int .i64 (i : Int)), (96, .int .i64 P.length), (97, .int .i64 (i : Int)), (110, .int .i64 ss.length), (111, .int .i64 (k : Int))])
                  (fun _ => ⟨[.hole, .vec e1 [[.nils, .nils, .nils]], .vec e2 [[crsA p.ins.cs, intsA p.ins.steps, .oslc (.s 7) epo 6 0 st.o.length false]], .vec e3 (st.m.map boolR), .hole, .hole, .hole, .vec epo (rowsD memL 0 eps 0 st.o)], objsD memL eps 0 (NN ss[k].h.toNat)⟩) (fun _ _ => False) ?_ (fun _ _ h => h.elim) ?_
                · have e : NN 0 = M := by
                    rw [hNN]
                    show M.set q (evS st.o[q] ((mix bs ss k).set k (S 0))) = M
                    have e1 : S 0 = (mix bs ss k)[k]'(by rw [mix_len hbl]; exact hk2) := by
                      rw [mix_at hbl hk2, hS]
                      simp [cntT]
                    rw [e1, List.set_getElem_self, hM, List.set_set]
                  rw [e]; exact rfl
                · rintro ⟨x, hx⟩
                  have hobj2 := objG (eps := eps) (X := []) (l := NN x) (k := q) (by rw [hNl]; exact h1) (hNi x _)
                  rw [List.append_nil] at hobj2
                  have hst3 : (((mix bs ss k).set k (S x)).map stR)[0 + ((k : Nat) : Int).toNat]? = some (stR (S x)) := by
                    rw [Nat.zero_add, Int.toNat_natCast, List.getElem?_map, List.getElem?_set_self hmk]
                    rfl
                  (repeat' (first | exact rfl | ((conv => whnf); first | exact rfl | refine ⟨by kernel_rfl, ?_⟩ | exact ⟨rfl, rfl⟩ | refine ⟨rfl, ?_⟩ | refine ⟨by (first | omega | (simp (disch := omega) only [wrapI]; omega) | (simp (disch := omega) only [wrapI]; simp; omega) | (simp; omega)), ?_⟩ | (intro ep) | fail)))
                  (conv => whnf)
                  refine ifB (fun g4 => ?_) (fun g4 => ?_)
                  · simp only [decide_eq_true_eq] at g4
                    have hx2 : x < ss[k].h.toNat := by rw [← hRL.get]; omega
                    have hmx : (st.m.map boolR)[0 + (IntKind.i64.wrap ((i : Int) + 1)).toNat + ((x : Nat) : Int).toNat]? = some (boolR (st.m[i + 1 + x]'(by omega))) := by rw [hRO.get]; exact mapRo (by omega)
                    have hcx : cntT ((st.m.drop (i + 1)).take (x + 1)) = cntT ((st.m.drop (i + 1)).take x) + (if st.m[i + 1 + x]'(by omega) = true then 1 else 0) := by
                      rw [cntT_succ (by rw [List.length_drop]; omega), List.getElem_drop]
                    have hcl : cntT ((st.m.drop (i + 1)).take x) ≤ x := by
                      have := cntT_le ((st.m.drop (i + 1)).take x)
                      rw [List.length_take] at this
                      omega
                    cases hb4 : st.m[i + 1 + x]'(by omega) with
                    | true =>
                      rw [hb4] at hmx hcx
                      (repeat' (first | exact rfl | ((conv => whnf); first | refine optO hobj2 ?_ | refine optS hmx ?_ | refine optS hst3 ?_ | exact rfl | refine ⟨by kernel_rfl, ?_⟩ | exact ⟨rfl, rfl⟩ | refine ⟨rfl, ?_⟩ | refine ⟨by (first | omega | (simp (disch := omega) only [wrapI]; omega) | (simp (disch := omega) only [wrapI]; simp; omega) | (simp; omega)), ?_⟩ | (intro ep) | fail)))
                      (conv => whnf)
                      refine back_of ⟨x + 1, by omega⟩ ⟨?_, ?_, by simp only; omega⟩
                      · (first | exact rfl | (simp (disch := omega) only [wrapI]; exact rfl))
                      · simp only
                        have hw : IntKind.i64.wrap ((S x).h - 1) = (S (x + 1)).h := by
                          simp only [hS, hcx]
                          rw [wrapI (by omega) (by omega)]
                          simp only [if_true]
                          omega
                        have hSS : [AV.int .i64 (S x).c, .int .i64 (S x).f, .int .i64 (S x).r, .int .i64 (S x).g, .int .i64 (IntKind.i64.wrap ((S x).h - 1))] = stR (S (x + 1)) := by
                          rw [hw]; simp only [hS]; rfl
                        have hrs : (((mix bs ss k).set k (S x)).map stR).set (0 + ((k : Nat) : Int).toNat) (stR (S (x + 1))) = ((mix bs ss k).set k (S (x + 1))).map stR := by
                          rw [Nat.zero_add, Int.toNat_natCast, List.map_set, List.set_set, List.map_set]
                        have key := objS (eps := eps) (X := []) (l := NN x) (k := q) (by rw [hNl]; exact h1) (e' := evS st.o[q] ((mix bs ss k).set k (S (x + 1)))) (ss := (mix bs ss k).set k (S (x + 1))) rfl
                        rw [List.append_nil, List.append_nil] at key
                        have hN1 : (NN x).set q (evS st.o[q] ((mix bs ss k).set k (S (x + 1)))) = NN (x + 1) := by simp only [hNN, List.set_set]
                        rw [hSS, hrs, key, hN1]
                        exact rfl
                    | false =>
                      rw [hb4] at hmx hcx
                      (repeat' (first | exact rfl | ((conv => whnf); first | refine optO hobj2 ?_ | refine optS hmx ?_ | refine optS hst3 ?_ | exact rfl | refine ⟨by kernel_rfl, ?_⟩ | exact ⟨rfl, rfl⟩ | refine ⟨rfl, ?_⟩ | refine ⟨by (first | omega | (simp (disch := omega) only [wrapI]; omega) | (simp (disch := omega) only [wrapI]; simp; omega) | (simp; omega)), ?_⟩ | (intro ep) | fail)))
                      (conv => whnf)
                      refine back_of ⟨x + 1, by omega⟩ ⟨?_, ?_, by simp only; omega⟩
                      · (first | exact rfl | (simp (disch := omega) only [wrapI]; exact rfl))
                      · simp only
                        have hSx : S (x + 1) = S x := by simp only [hS, hcx]; rfl
                        have hN2 : NN (x + 1) = NN x := by simp only [hNN, hSx]
                        rw [hN2]
                        exact rfl
                  · simp only [decide_eq_false_iff_not] at g4
                    have hx2 : x = ss[k].h.toNat := by have := hRL.get; omega
                    subst hx2
                    refine back_of () ⟨rfl, ?_, ?_⟩
                    · (first | exact rfl | (simp (disch := omega) only [wrapI]; exact rfl))
                    · exact rfl
                · rintro ⟨⟩
                  (repeat' (first | exact rfl | ((conv => whnf); first | exact rfl | refine ⟨by kernel_rfl, ?_⟩ | exact ⟨rfl, rfl⟩ | refine ⟨rfl, ?_⟩ | refine ⟨by (first | omega | (simp (disch := omega) only [wrapI]; omega) | (simp (disch := omega) only [wrapI]; simp; omega) | (simp; omega)), ?_⟩ | (intro ep) | fail)))
                  (conv => whnf)
                  refine back_of ⟨k + 1, by omega⟩ ⟨?_, ?_, by simp only; omega⟩
                  · (first | exact rfl | (simp (disch := omega) only [wrapI]; exact rfl))
                  · simp only
                    have hSk : S ss[k].h.toNat = bs[k]'(by omega) := by simp only [hS, hbs, List.getElem_map]; rfl
                    have hN1 : NN ss[k].h.toNat = (mix J st.o q).set q (evS st.o[q] (mix bs ss (k + 1))) := by
                      simp only [hNN, hSk]
                      rw [hM, List.set_set, mix_succ hbl hk2]
                    rw [hN1]
                    exact rfl
              · simp only [decide_eq_false_iff_not] at g3
                obtain rfl : k = ss.length := by omega
                refine back_of () ⟨rfl, ?_, ?_⟩
                · (first | exact rfl | (simp (disch := omega) only [wrapI]; exact rfl))
                · rw [hM, mix_end hbl]
                  exact rfl
            · rintro ⟨⟩
              (repeat' (first | exact rfl | ((conv => whnf); first | exact rfl | refine ⟨by kernel_rfl, ?_⟩ | exact ⟨rfl, rfl⟩ | refine ⟨rfl, ?_⟩ | refine ⟨by (first | omega | (simp (disch := omega) only [wrapI]; omega) | (simp (disch := omega) only [wrapI]; simp; omega) | (simp; omega)), ?_⟩ | (intro ep) | fail)))
              (conv => whnf)
              refine back_of ⟨i + 1, by omega⟩ ⟨?_, ?_, by simp only; omega⟩
              · simp only [hsucc, ← hq]
                (first | exact rfl | (simp (disch := omega) only [wrapI]; exact rfl))
              · simp only [hsucc, ← hq]
                have hJq : J[q]'(by omega) = evS st.o[q] bs := by
                  simp only [hJ, h3, hbs, hss]
                  rfl
                rw [mix_succ hJl h1, hJq]
                exact rfl
        · simp only [decide_eq_false_iff_not] at g2
          obtain rfl : i = P.length := by omega
          have hqe : q = st.o.length := by rw [hq, hJI.ol, List.take_of_length_le (by omega)]
          refine back_of () ⟨rfl, ?_, ?_⟩
          · (first | exact rfl | (simp (disch := omega) only [wrapI]; exact rfl))
          · rw [hqe, mix_end hJl]
            exact rfl
      · rintro ⟨⟩
        (conv => whnf)
        have hje : joinE P = J := by rw [hJ, hst]; rfl
        have hrl : rowsD memL 0 eps 0 st.o = rowsD memL 0 eps 0 J := rowsM_like (by rw [hJ, jL_key hJI])
        rw [hje, hrl, ← hJl]
        (repeat' ((conv => whnf); first | refine ⟨rfl, ?_⟩ | fail))
        (conv => whnf)
        refine ⟨by (repeat' (first | exact trivial | exact eqsP_rows _ (fun x => rfl) | ((conv => whnf); first | exact trivial | refine ⟨rfl, ?_⟩ | refine ⟨?_, ?_⟩ | fail))), by (repeat' (first | exact trivial | exact eqsP_rows _ (fun x => rfl) | ((conv => whnf); first | exact trivial | refine ⟨rfl, ?_⟩ | refine ⟨?_, ?_⟩ | fail))), allO_objsM eps _ 0, eqsP_rowsM _ _ 0, ?_⟩
        intro ep2
        (repeat' ((conv => whnf); first | refine ⟨rfl, ?_⟩ | fail))
        (conv => whnf)
        have hXa : ∀ k (hk : k < J.length), (objsD memL eps 0 J)[0 + memL.c * (0 + k)]? = some (.vec (eps (0 + k)) (J[k].stops.map stR)) := by
          intro k hk
          have := objG (eps := eps) (X := []) (l := J) (k := k) hk rfl
          rwa [List.append_nil] at this
        refine end_memX (X := objsD memL eps 0 J) (l := J) (ep := ep2) (rows := rowsD memL 0 eps 0 J) (by rw [objsD_len, hJl, hst]; exact Nat.one_mul _) (objsM_pure J 0) (rowsM_fzB J 0 hXa) rfl ?_
        show (objsD memL eps 0 J ++ [AObj.vec ep2 (rowsD memL 0 eps 0 J)]).map (AObj.mapc (mcS 7 (objsD memL eps 0 J).length ep2)) = _
        rw [List.map_append, objsM_mc]
        show _ ++ [AObj.vec ep2 ((rowsD memL 0 eps 0 J).map fun r => r.map (mcS 7 (objsD memL eps 0 J).length ep2))] = _
        rw [rowsM_mc]
  · rw [if_pos hc] at f1 ⊢
    refine pretD_of (okx [30] []) mixed (A := A11) 8 Tryz.func11 rfl ?_
    (repeat' (first | exact rfl | ((conv => whnf); first | refine ⟨_, f1, ?_⟩ | exact rfl | refine ⟨by kernel_rfl, ?_⟩ | exact ⟨rfl, rfl⟩ | refine ⟨rfl, ?_⟩ | refine ⟨by (first | omega | (simp (disch := omega) only [wrapI]; omega) | (simp (disch := omega) only [wrapI]; simp; omega) | (simp; omega)), ?_⟩ | (intro ep) | refine ⟨fun o ho => (List.not_mem_nil (a := o) ho).elim, ?_⟩ | (refine ifB (fun hb => ?_) (fun hb => ?_) <;> (try simp only [decide_eq_true_eq, decide_eq_false_iff_not, beq_iff_eq, beq_eq_false_iff_ne, bne_iff_ne, bne_eq_false_iff_eq, ne_eq, not_false_eq_true, not_true_eq_false, Bool.not_eq_true, Bool.not_eq_true', Bool.not_eq_false', Int.not_lt, Int.not_le] at hb) <;> (try simp (disch := omega) only [wrapI] at hb) <;> (try (exfalso; omega))) | fail)))
end Go.Ab.V
