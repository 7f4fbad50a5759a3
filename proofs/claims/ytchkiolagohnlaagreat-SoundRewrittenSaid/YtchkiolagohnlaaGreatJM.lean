/-
  What is proved here serves the law's text: each part says its own claim and its conditions. No condition is left open.
-/
import Derived.Test.YtchkiolagohnlaaGreatJL
import Derived.Test.YtchkiolagohnlaaGreatKQ
set_option linter.unusedSimpArgs false
set_option linter.unusedVariables false

/-
  The document's Copy as new memory, the stops of each event as an object of their own. No condition but the machine's bounds on lengths.
-/
namespace Go.Ab.V
open Go.Proofs

theorem allO_app {n ep : Nat} : ∀ {l m : List AObj}, allO n ep l → allO n ep m → allO n ep (l ++ m)
  | [], _, _, h => h
  | _ :: _, _, h, h2 => ⟨h.1, allO_app h.2 h2⟩
theorem allO_objsM {n ep : Nat} (eps : Nat → Nat) : ∀ (l : List Evt) (i : Nat), allO n ep (objsD memL eps i l)
  | [], _ => trivial
  | e :: r, i => ⟨eqsP_rows e.stops fun x => rfl, allO_objsM eps r (i + 1)⟩
theorem eqsP_rowsM {n ep B : Nat} (eps : Nat → Nat) : ∀ (l : List Evt) (i : Nat), eqsP n ep (rowsD memL B eps i l).flatten
  | [], _ => trivial
  | e :: r, i => eqsP_rowsM eps r (i + 1)
theorem rowsM_mc {n len ep2 B : Nat} (eps : Nat → Nat) : ∀ (l : List Evt) (i : Nat), ((rowsD memL B eps i l).map fun r => r.map (mcS n len ep2)) = rowsD memL B eps i l
  | [], _ => rfl
  | e :: r, i => by simp only [rowsD, List.map_cons, rowsM_mc eps r (i + 1)]; rfl
theorem stps_mc {n len ep2 : Nat} : ∀ (l : List Stp), ((l.map stR).map fun r => r.map (mcS n len ep2)) = l.map stR
  | [] => rfl
  | e :: r => by rw [List.map_cons, List.map_cons, stps_mc r]; rfl
theorem objsM_mc {n len ep2 : Nat} (eps : Nat → Nat) : ∀ (l : List Evt) (i : Nat), (objsD memL eps i l).map (AObj.mapc (mcS n len ep2)) = objsD memL eps i l
  | [], _ => rfl
  | e :: r, i => by
    simp only [objsD, List.map_append, objsM_mc eps r (i + 1)]
    congr 1
    show [AObj.vec (eps i) ((e.stops.map stR).map fun r => r.map (mcS n len ep2))] = _
    rw [stps_mc]
    rfl

end Go.Ab.V

/-
  The document's Plain as new memory, the stops of each event as an object of their own. No condition but the machine's bounds on lengths.
-/
namespace Go.Ab

end Go.Ab
namespace Go.Ab.V
open Go.Proofs

theorem rowsM_get {B : Nat} {eps : Nat → Nat} : ∀ {l : List Evt} {i k : Nat} (h : k < l.length), (rowsD memL B eps i l)[k]? = some (evX l[k] (.oslc (.d (B + memL.c * (i + k))) (eps (i + k)) 5 0 l[k].stops.length false))
  | e :: r, i, 0, _ => rfl
  | e :: r, i, k + 1, h => by
    simp only [rowsD, List.getElem?_cons_succ, List.getElem_cons_succ]
    rw [rowsM_get (l := r) (i := i + 1) (k := k) (by simpa using h), show i + 1 + k = i + (k + 1) by omega]
theorem rowsM_set {B : Nat} {eps : Nat → Nat} {e' : Evt} : ∀ {l : List Evt} {i k : Nat} (h : k < l.length) (hs : e'.stops.length = l[k].stops.length),
    (rowsD memL B eps i l).set k (evX e' (.oslc (.d (B + memL.c * (i + k))) (eps (i + k)) 5 0 l[k].stops.length false)) = rowsD memL B eps i (l.set k e')
  | e :: r, i, 0, _, hs => by
    simp only [rowsD, List.set_cons_zero, List.getElem_cons_zero] at hs ⊢
    rw [← hs]
    rfl
  | e :: r, i, k + 1, h, hs => by
    simp only [rowsD, List.set_cons_succ, List.getElem_cons_succ] at hs ⊢
    rw [show i + (k + 1) = i + 1 + k by omega, rowsM_set (l := r) (i := i + 1) (k := k) (by simpa using h) hs]
theorem objsM_get {eps : Nat → Nat} {X : List AObj} : ∀ {l : List Evt} {i k : Nat} (h : k < l.length), (objsD memL eps i l ++ X)[k]? = some (.vec (eps (i + k)) (l[k].stops.map stR))
  | e :: r, i, 0, _ => rfl
  | e :: r, i, k + 1, h => by
    have := objsM_get (eps := eps) (X := X) (l := r) (i := i + 1) (k := k) (by simpa using h)
    rw [show i + 1 + k = i + (k + 1) by omega] at this
    exact this
theorem objsM_set {eps : Nat → Nat} {X : List AObj} {e' : Evt} : ∀ {l : List Evt} {i k : Nat} (h : k < l.length), (objsD memL eps i l ++ X).set k (.vec (eps (i + k)) (e'.stops.map stR)) = objsD memL eps i (l.set k e') ++ X
  | e :: r, i, 0, _ => rfl
  | e :: r, i, k + 1, h => by
    have := objsM_set (eps := eps) (X := X) (e' := e') (l := r) (i := i + 1) (k := k) (by simpa using h)
    rw [show i + 1 + k = i + (k + 1) by omega] at this
    show AObj.vec (eps i) (e.stops.map stR) :: (objsD memL eps (i + 1) r ++ X).set k _ = _
    rw [this]
    rfl
theorem objsM_same {eps : Nat → Nat} {e' : Evt} : ∀ {l : List Evt} {i k : Nat} (h : k < l.length) (hs : e'.stops = l[k].stops), objsD memL eps i (l.set k e') = objsD memL eps i l
  | e :: r, i, 0, _, hs => by
    simp only [List.getElem_cons_zero] at hs
    show [AObj.vec (eps i) (e'.stops.map stR)] ++ _ = [AObj.vec (eps i) (e.stops.map stR)] ++ _
    rw [hs]
  | e :: r, i, k + 1, h, hs => by
    simp only [List.set_cons_succ, objsD]
    rw [objsM_same (l := r) (i := i + 1) (k := k) (by simpa using h) (by simpa using hs)]
theorem objsM_last {eps : Nat → Nat} {o : AObj} (l : List Evt) : (objsD memL eps 0 l ++ [o])[memL.c * l.length]? = some o := by
  rw [List.getElem?_append_right (by rw [objsD_len]; exact Nat.le_refl _), objsD_len, Nat.sub_self]
  rfl
theorem mix_succ {α : Type} {L M : List α} {k : Nat} (h : L.length = M.length) (hk : k < M.length) : mix L M (k + 1) = (mix L M k).set k (L[k]'(by omega)) := by
  have h1 : k < L.length := by omega
  unfold mix
  rw [List.set_append_right _ _ (by rw [List.length_take]; omega), List.length_take, Nat.min_eq_left (by omega), Nat.sub_self, List.drop_eq_getElem_cons hk, List.set_cons_zero, List.take_add_one, List.getElem?_eq_getElem h1, List.append_assoc]
  rfl
theorem mix_at {α : Type} {L M : List α} {k : Nat} (h : L.length = M.length) (hk : k < M.length) : (mix L M k)[k]'(by rw [mix_len h]; exact hk) = M[k] := by
  simp only [mix]
  rw [List.getElem_append_right (by rw [List.length_take]; omega)]
  simp only [List.length_take, List.getElem_drop]
  congr 1
  omega


end Go.Ab.V

/-
  Lists of changed stops; the program's Bare; the freeze of a piece in memory. No condition but the machine's bounds on lengths.
-/
namespace Go.Ab

/-- what was made anew is frozen to the bottom, the first m0 objects first -/
theorem pretM_of {C : Ctx} (ok : COk C) (hm : C.P.follows .mixedOrders = true) {A : Ann} {f : FuncId} {fn : Func} {c : Code} (n m0 : Nat) (hf : C.P.funcs[f]? = some fn) (hb : fn.body = some c) {args : List AV} {r : AV}
    (hk : forceR (frame0 args fn.ntmps) fun fr => forceHR (heap0 Heap.nil n) fun h => aexR C A c fr h fun e fr h' => match e with
      | .normal => resR C.ti fn.results.toList fr h' fun vs => retV vs fun v => frzE m0 h' v fun v h' => frzD h' v fun v h' => frzK h' v fun r' _ => r'.isPure2 = true ∧ r' = r
      | .ret => resR C.ti fn.results.toList fr h' fun vs => retV vs fun v => frzE m0 h' v fun v h' => frzD h' v fun v h' => frzK h' v fun r' _ => r'.isPure2 = true ∧ r' = r
      | .exit _ => False) (hy : C.yl = none := by rfl) : PRet C.P f args r := by
  refine ⟨⟨⟨fun σ w vs s hv => ?_⟩⟩⟩
  refine ((fn_of ok hm n hf hb hk hy).use σ w vs s hv).mono ?_
  rintro e w' ⟨v, rfl, σ1, h1, r1, k, m, x⟩
  obtain ⟨σ2, h2, r2, m2, x2, k2⟩ := frzE_sound m.sim x k
  obtain ⟨σ3, h3, r3, m3, x3, k3⟩ := frzD_sound m2.sim x2 k2
  exact ⟨v, rfl, σ3, h3, r3, k3, (m.trans m2).trans m3, x3⟩

end Go.Ab
namespace Go.Ab.V
open Go.Proofs

theorem objsM_pure {eps : Nat → Nat} : ∀ (l : List Evt) (i : Nat), ∀ o ∈ objsD memL eps i l, pureObj o
  | [], _, o, h => by cases h
  | e :: r, i, o, h => by
    rcases List.mem_append.1 h with h | h
    · obtain rfl := List.mem_singleton.1 h
      exact pure_map e.stops fun x => rfl
    · exact objsM_pure r (i + 1) o h
def A31 : Ann := fun r => match r with
  | 0 => { slots := [(0, 0), (1, 1)] }
  | _ => {}
theorem f102_spec (s : Stp) : PRet C.P 31 [.agg (stR s)] (.agg (stR (id s))) := by
  refine pret_of ok mixed (A := A31) 2 Tryz.func31 rfl ?_
  (repeat' (first | exact rfl | ((conv => whnf); first | exact rfl | refine ⟨by kernel_rfl, ?_⟩ | exact ⟨rfl, rfl⟩ | refine ⟨rfl, ?_⟩ | refine ⟨by (first | omega | (simp (disch := omega) only [wrapI]; omega) | (simp (disch := omega) only [wrapI]; simp; omega) | (simp; omega)), ?_⟩ | (intro ep) | fail)))

def A30 : Ann := fun r => match r with
  | 4 => { slots := [(2, 0)] }
  | 5 => { slots := [(4, 1), (5, 2)] }
  | _ => {}

set_option maxHeartbeats 2000000 in
set_option maxRecDepth 100000 in
theorem mapped99_102 (l : List Stp) (hl : l.length ≤ 100000) : HRet C.P 30 [stsA l, .fn (.func 31) [] []] (fun B eps => .oslc (.d B) (eps 0) 5 0 l.length false) (fun B eps => [.vec (eps 0) ((l.map id).map stR)]) := by
  refine hret_of ok mixed (A := A30) 3 Tryz.func30 rfl ?_ (fun B E eps => ⟨fun k => eps k + E, rfl, by rw [List.map_cons, AObj.sh, sh_rowsS]; rfl⟩)
  (repeat' (first | exact rfl | ((conv => whnf); first | exact rfl | refine ⟨by kernel_rfl, ?_⟩ | exact ⟨rfl, rfl⟩ | refine ⟨rfl, ?_⟩ | refine ⟨by (first | omega | (simp (disch := omega) only [wrapI]; omega) | (simp (disch := omega) only [wrapI]; simp; omega) | (simp; omega)), ?_⟩ | (intro ep) | fail)))
  (conv => whnf)
  refine wk_lift 5 2 5 rfl ?_
  intro e1
  refine loopM ok mixed (A := A30) [1, 5, 8, 9, 10] [2] (S := { x : Nat × Nat // x.1 ≤ l.length })
    (fr := fun s => frOf 0 22 [(1, .fn (.func 31) [] []), (5, .oslc (.s 2) s.1.2 5 0 s.1.1 false), (8, stsA l), (9, .int .i64 l.length), (10, .int .i64 (s.1.1 : Int))])
    (h := fun s => ⟨[.hole, .hole, .vec s.1.2 (((l.take s.1.1).map id).map stR)], []⟩) (μ := fun s => l.length - s.1.1) ⟨(0, e1), by simp⟩ (by exact rfl) (by exact rfl) ?_
  rintro ⟨⟨k, ep⟩, hk⟩
  simp only at hk
  show aexR _ _ _ (frOf 0 22 [(1, .fn (.func 31) [] []), (5, .oslc (.s 2) ep 5 0 k false), (8, stsA l), (9, .int .i64 l.length), (10, .int .i64 (k : Int))]) ⟨[.hole, .hole, .vec ep (((l.take k).map id).map stR)], []⟩ _
  (conv => whnf)
  refine ifB (fun h1 => ?_) (fun h1 => ?_)
  · simp only [decide_eq_true_eq] at h1
    have hlt : k < l.length := by omega
    have hc := f102_spec l[k]
    (repeat' (first | exact rfl | ((conv => whnf); first | refine ⟨_, hc, ?_⟩ | exact rfl | refine ⟨by kernel_rfl, ?_⟩ | exact ⟨rfl, rfl⟩ | refine ⟨rfl, ?_⟩ | refine ⟨by (first | omega | (simp (disch := omega) only [wrapI]; omega) | (simp (disch := omega) only [wrapI]; simp; omega) | (simp; omega)), ?_⟩ | (intro ep) | refine optS (mapR hlt) ?_ | fail)))
    (conv => whnf)
    have hT : List.take k (((l.take k).map id).map stR) = ((l.take k).map id).map stR := List.take_of_length_le (by simp; omega)
    have t4 : ((l.take (k + 1)).map id).map stR = ((l.take k).map id).map stR ++ [stR (id l[k])] := by
      rw [List.take_add_one, List.getElem?_eq_getElem hlt, List.map_append, List.map_append]
      rfl
    refine back_of ⟨(k + 1, ep), by simp only; omega⟩ ⟨by (first | exact rfl | (simp (disch := omega) only [wrapI]; exact rfl)), ?_, by simp only; omega⟩
    simp only
    rw [t4]
    refine Eq.trans (b := ⟨[.hole, .hole, .vec ep (List.take k (List.drop 0 (((l.take k).map id).map stR)) ++ [stR (id l[k])])], []⟩) rfl ?_
    rw [List.drop_zero, hT]
  · simp only [decide_eq_false_iff_not] at h1
    obtain rfl : k = l.length := by omega
    rw [List.take_length]
    (repeat' ((conv => whnf); first | refine ⟨rfl, ?_⟩ | (intro ep) | fail))
    exact ⟨fun _ => ep, rfl, rfl⟩

end Go.Ab.V
