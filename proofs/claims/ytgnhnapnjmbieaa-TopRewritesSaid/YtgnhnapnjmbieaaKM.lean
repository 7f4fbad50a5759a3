/-
  What is proved here serves the law's text: each part says its own claim and its conditions. No condition is left open.
-/
import Derived.Test.YtgnhnapnjmbieaaKK
import Derived.Test.YtgnhnapnjmbieaaKL
set_option linter.unusedSimpArgs false
set_option linter.unusedVariables false

/-
  Copies as new memory, the stops of each event as an object of their own: by the program. No condition but the machine's bounds on lengths.
-/
namespace Go.Ab

/-- such a contract of a function that may hand back nil for a slice without elements -/
theorem hretN_of {C : Ctx} (ok : COk C) (hm : C.P.follows .mixedOrders = true) {A : Ann} {f : FuncId} {fn : Func} {c : Code} (n : Nat) (hf : C.P.funcs[f]? = some fn) (hb : fn.body = some c) {args : List AV} {R : Nat → (Nat → Nat) → AV} {H : Nat → (Nat → Nat) → List AObj} {N : Prop} {sz : Nat}
    (hN : N → ∀ eps, R 0 eps = .oslc (.d 0) (eps 0) sz 0 0 false ∧ H 0 eps = [.vec (eps 0) []])
    (hk : forceR (frame0 args fn.ntmps) fun fr => forceHR (heap0 Heap.nil n) fun h => aexR C A c fr h fun e fr h' => match e with
      | .normal => resR C.ti fn.results.toList fr h' fun vs => retV vs fun v => (v = .nils ∧ h'.dy = [] ∧ N) ∨ movK h' v fun r' h'' => ∃ eps, r' = R 0 eps ∧ h''.dy = H 0 eps
      | .ret => resR C.ti fn.results.toList fr h' fun vs => retV vs fun v => (v = .nils ∧ h'.dy = [] ∧ N) ∨ movK h' v fun r' h'' => ∃ eps, r' = R 0 eps ∧ h''.dy = H 0 eps
      | .exit _ => False)
    (hsh : ∀ B E eps, ∃ eps', (R 0 eps).sh B E = R B eps' ∧ (H 0 eps).map (AObj.sh B E) = H B eps') (hy : C.yl = none := by rfl) : HRet C.P f args R H := by
  refine ⟨⟨fun σ w vs s hv => ?_⟩, hsh⟩
  refine ((fn_of ok hm n hf hb hk hy).use σ w vs s hv).mono ?_
  rintro e w' ⟨v, rfl, σ1, h1, r, k, m, x⟩
  rcases k with ⟨rfl, hd, hn⟩ | k
  · have m1 : Mv σ1 h1 w' σ1 ⟨h1.st, [.hole]⟩ w' := m.sim.forget fun i o ho => by
      cases i with
      | s k => exact .inr ho
      | d k =>
        have ho : ([AObj.hole] : List AObj)[k]? = some o := ho
        cases k with
        | zero => simp at ho; exact .inl ho.symm
        | succ k => simp at ho
    obtain ⟨ep, σ2, m2, hp⟩ := m1.sim.allocNil (.d 0)
    obtain ⟨e1, e2⟩ := hN hn fun _ => ep
    refine ⟨v, rfl, σ2, _, .oslc (.d 0) ep sz 0 0 false, ⟨fun _ => ep, e1.symm, e2.symm⟩, (m.trans m1).trans m2, ?_⟩
    cases x
    exact .onil hp
  · obtain ⟨σ2, h2, r2, m2, x2, k2⟩ := movK_sound m.sim x k
    exact ⟨v, rfl, σ2, h2, r2, k2, m.trans m2, x2⟩

end Go.Ab
namespace Go.Ab.V
open Go.Proofs

theorem sh_rowsS {B E : Nat} : ∀ (l : List Stp), ((l.map stR).map fun r => r.map (AV.sh1 B E)) = l.map stR
  | [] => rfl
  | e :: r => by rw [List.map_cons, List.map_cons, sh_rowsS r]; rfl

set_option maxHeartbeats 1000000 in
set_option maxRecDepth 100000 in
theorem clone113_mem (l : List Stp) (hl : l.length ≤ 100000) : HRet C.P 113 [stsA l] (fun B eps => .oslc (.d B) (eps 0) 5 0 l.length false) (fun B eps => [.vec (eps 0) (l.map stR)]) := by
  have t1 : List.take l.length (List.drop 0 (l.map stR)) = l.map stR := takeAll l _
  refine hretN_of ok mixed (A := A113) 2 Try.func113 rfl (N := l.length = 0) (sz := 5) (fun h eps => ?_) ?_ (fun B E eps => ⟨fun k => eps k + E, rfl, by rw [List.map_cons, AObj.sh, sh_rowsS]; rfl⟩)
  · have : l = [] := List.eq_nil_of_length_eq_zero h
    subst this
    exact ⟨rfl, rfl⟩
  (repeat' (first | exact rfl | ((conv => whnf); first | exact rfl | refine ⟨by kernel_rfl, ?_⟩ | exact ⟨rfl, rfl⟩ | refine ⟨rfl, ?_⟩ | refine ⟨by (first | omega | (simp (disch := omega) only [wrapI]; omega) | (simp (disch := omega) only [wrapI]; simp; omega) | (simp; omega)), ?_⟩ | (intro ep) | refine ⟨fun hn0 => ?_, ?_⟩ | fail)))
  · exact .inl ⟨rfl, rfl, hn0⟩
  · refine .inr ?_
    (conv => whnf)
    refine ⟨rfl, fun ep2 => ?_⟩
    refine ⟨fun _ => ep2, ?_, ?_⟩
    · show AV.oslc (.d 0) ep2 5 0 (0 + (List.take l.length (List.drop 0 (l.map stR))).length) false = _
      rw [t1, List.length_map, Nat.zero_add]
    · show [AObj.vec ep2 (List.take l.length (List.drop 0 (l.map stR)))] = _
      rw [t1]

/-- the copy of an event, its stops lying where they come to lie -/
def evM (e : Evt) (B ep : Nat) : AV := .agg (evX e (.oslc (.d B) ep 5 0 e.stops.length false))
set_option maxHeartbeats 1000000 in
set_option maxRecDepth 100000 in
theorem copied_mem (e : Evt) (h1 : e.stops.length ≤ 100000) : HRet C.P 86 [.agg (evR e)] (fun B eps => evM e B (eps 0)) (fun B eps => [.vec (eps 0) (e.stops.map stR)]) := by
  have c1 := clone113_mem e.stops h1
  refine hret_of (okx [113] []) mixed (A := A86) 2 Try.func86 rfl ?_ (fun B E eps => ⟨fun k => eps k + E, rfl, by rw [List.map_cons, AObj.sh, sh_rowsS]; rfl⟩)
  (repeat' ((conv => whnf); first | refine ⟨rfl, ?_⟩ | refine ⟨by decide, ?_⟩ | refine ⟨_, _, c1, fun eps => ?_⟩ | refine ⟨by kernel_rfl, ?_⟩ | (intro ep) | fail))
  exact ⟨eps, rfl, rfl⟩

end Go.Ab.V

/-
  The program's Plain as new memory, the stops of each event as an object of their own. No condition but the machine's bounds on lengths.
-/
namespace Go.Ab.V
open Go.Proofs

/-! ### a piece in memory -/
theorem objsM_sh (B E : Nat) (eps : Nat → Nat) : ∀ (l : List Evt) (i : Nat), (objsD memL eps i l).map (AObj.sh B E) = objsD memL (fun k => eps k + E) i l
  | [], _ => rfl
  | e :: r, i => by
    simp only [objsD, List.map_append, objsM_sh B E eps r (i + 1)]
    congr 1
    show [AObj.vec (eps i + E) ((e.stops.map stR).map fun r => r.map (AV.sh1 B E))] = _
    rw [sh_rowsS]
    rfl
theorem rowsM_sh (B E : Nat) (eps : Nat → Nat) : ∀ (l : List Evt) (i : Nat), ((rowsD memL 0 eps i l).map fun r => r.map (AV.sh1 B E)) = rowsD memL B (fun k => eps k + E) i l
  | [], _ => rfl
  | e :: r, i => by
    simp only [rowsD, List.map_cons, rowsM_sh B E eps r (i + 1)]
    congr 1
    show [AV.bool e.bar, .int .i64 e.v, .bool e.d, .bool e.t, .bool e.tie, .oslc (.d (B + (0 + memL.c * i))) (eps i + E) 5 0 e.stops.length false] = _
    rw [Nat.zero_add]
    rfl
/-- a piece in memory, by one naming of epochs -/
def pcM (i : Ins) (l : List Evt) (B : Nat) (eps : Nat → Nat) : AV := pcD memL i B (eps l.length) eps l
def pcMO (l : List Evt) (B : Nat) (eps : Nat → Nat) : List AObj := pcO memL B (eps l.length) eps l
theorem pcM_shA (i : Ins) (l : List Evt) (B E : Nat) (eps : Nat → Nat) : (pcM i l 0 eps).shA B E = pcM i l B (fun k => eps k + E) := by
  show AV.agg [crsA i.cs, intsA i.steps, .oslc (.d (B + (0 + memL.c * l.length))) (eps l.length + E) 6 0 l.length false] = _
  rw [Nat.zero_add]
  rfl
theorem pcMO_sh (l : List Evt) (B E : Nat) (eps : Nat → Nat) : (pcMO l 0 eps).map (AObj.sh B E) = pcMO l B (fun k => eps k + E) := by
  unfold pcMO pcO
  rw [List.map_append, objsM_sh]
  congr 1
  show [AObj.vec (eps l.length + E) ((rowsD memL 0 eps 0 l).map fun r => r.map (AV.sh1 B E))] = _
  rw [rowsM_sh]
theorem pcM_of (i : Ins) (l : List Evt) (B : Nat) (epo : Nat) (eps : Nat → Nat) : ∃ eps', pcD memL i B epo eps l = pcM i l B eps' ∧ pcO memL B epo eps l = pcMO l B eps' := by
  refine ⟨fun j => if j = l.length then epo else eps j, ?_, ?_⟩
  · simp only [pcM, pcD, if_pos]
  · simp only [pcMO, pcO, if_pos]
    rw [objsD_congr (g := eps) memL l 0 fun j _ h => if_neg (by omega), rowsD_congr (g := eps) memL B l 0 fun j _ h => if_neg (by omega)]

set_option maxHeartbeats 2000000 in
set_option maxRecDepth 100000 in
theorem c95_mem {T : Type} {o : T → AObj} {st : T → Evt → T × Evt} {e0 sz : Nat} {Good : Evt → Prop} (h : Chs o st 95 [.optr (.s 0) e0 sz 0 0] Good) (hst : ∀ s e, (st s e).2.stops = e.stops) : Chg memL o st 95 [.optr (.s 0) e0 sz 0 0] (fun e => Good e ∧ e.stops.length ≤ 100000) := by
  intro ec s e dy hg
  have c1 := copied_mem e hg.2
  refine fn_of (okx [86] []) mixed (A := A110) 2 Try.func110 rfl ?_
  (repeat' ((conv => whnf); first | refine ⟨_, _, c1, fun eps => ?_⟩ | exact rfl | refine ⟨by kernel_rfl, ?_⟩ | exact ⟨rfl, rfl⟩ | refine ⟨rfl, ?_⟩ | refine ⟨by (first | omega | (simp (disch := omega) only [wrapI]; omega) | (simp (disch := omega) only [wrapI]; simp; omega) | (simp; omega)), ?_⟩ | (intro ep) | fail))
  (conv => whnf)
  have key := h s e (.oslc (.d dy.length) (eps 0) 5 0 e.stops.length false) (dy ++ [AObj.vec (eps 0) (e.stops.map stR)]) hg.1
  rename_i ep1
  have hh := fun K => ACalls.part (K := K) (h := ⟨[o s, .vec ec [[.fn (.func 95) [] [.optr (.s 0) e0 sz 0 0]]], .vec ep1 [evR e], .vec ep [[.bool false, .int .i64 0, .bool false, .bool false, .bool false, .nils]]], dy ++ [AObj.vec (eps 0) (e.stops.map stR)]⟩) (dy := dy ++ [AObj.vec (eps 0) (e.stops.map stR)]) 1 (by exact rfl) (by exact rfl) (by exact rfl) key
  refine hh _ ?_
  rintro r h3 ⟨rfl, hq, hd⟩
  rw [hq, hd]
  (repeat' ((conv => whnf); first | refine ⟨rfl, ?_⟩ | fail))
  refine ⟨eps 0, ?_, rfl, ?_⟩
  · show AV.agg (evX (st s e).2 (.oslc (.d dy.length) (eps 0) 5 0 e.stops.length false)) = _
    rw [← hst s e]
    rfl
  · show dy ++ [.vec (eps 0) (e.stops.map stR)] = dy ++ [.vec (eps 0) ((st s e).2.stops.map stR)]
    rw [hst]

/-- the program's Plain: new memory -/
def plnE (p : Pc) : List Evt := outE plnS ⟨0, false, false⟩ p.evs
set_option maxHeartbeats 2000000 in
set_option maxRecDepth 100000 in
theorem plain_mem (p : Pc) (hp : p.Ok) (hs : p.Sm) (hc : chk p = 0) : HRet C.P 54 [pcA p] (fun B eps => .tup [pcM p.ins (plnE p) B eps, .int .i64 0]) (fun B eps => pcMO (plnE p) B eps) := by
  refine hret_of ok mixed (A := A54) 3 Try.func54 rfl ?_ (fun B E eps => ⟨fun k => eps k + E, ?_, pcMO_sh _ _ _ _⟩)
  · (repeat' (first | exact rfl | ((conv => whnf); first | exact rfl | refine ⟨by kernel_rfl, ?_⟩ | exact ⟨rfl, rfl⟩ | refine ⟨rfl, ?_⟩ | refine ⟨by (first | omega | (simp (disch := omega) only [wrapI]; omega) | (simp (disch := omega) only [wrapI]; simp; omega) | (simp; omega)), ?_⟩ | (intro ep) | fail)))
    obtain ⟨e0, he0⟩ : ∃ e0, e0 = ep := ⟨_, rfl⟩
    subst he0
    (conv => whnf)
    have key := rewritten_spec (c95_mem (pln_chs e0) (fun s e => by unfold plnS; split <;> rfl)) p hp hs hc (fun e he => ⟨trivial, by have := hs.sp e he; omega⟩) ⟨0, false, false⟩ []
    obtain ⟨l, hl⟩ : ∃ l, l = outE plnS ⟨0, false, false⟩ p.evs := ⟨_, rfl⟩
    rw [← hl] at key
    unfold plnE
    rw [← hl]
    refine ACalls.part (dy := []) 1 (by exact rfl) (by exact rfl) (by exact rfl) key ?_
    rintro r h3 ⟨eps, epo, rfl, hq, hd⟩
    obtain ⟨eps', m1, m2⟩ := pcM_of p.ins l ([] : List AObj).length epo eps
    rw [hq, hd]
    (repeat' ((conv => whnf); first | refine ⟨rfl, ?_⟩ | fail))
    refine ⟨eps', ?_, ?_⟩
    · show AV.tup [pcD memL p.ins ([] : List AObj).length epo eps l, .int .i64 0] = _
      rw [m1]
      rfl
    · show [] ++ pcO memL ([] : List AObj).length epo eps l = _
      rw [m2]
      rfl
  · show AV.tup [(pcM p.ins (plnE p) 0 eps).shA B E, .int .i64 0] = _
    rw [pcM_shA]

end Go.Ab.V

/-
  The document's Copy as new memory, the stops of each event as an object of their own. No condition but the machine's bounds on lengths.
-/
namespace Go.Ab.V
open Go.Proofs

theorem allO_app {n ep : Nat} : ∀ {l m : List AObj}, allO n ep l → allO n ep m → allO n ep (l ++ m)
  | [], _, _, h => h
  | _ :: _, _, h, h2 => ⟨h.1, allO_app h.2 h2⟩
theorem allO_objsM {n ep : Nat} (eps : Nat → Nat) : ∀ (l : List Evt) (i : Nat), allO n ep (objsD memL eps i l)
  | [], _ => trivial
  | e :: r, i => ⟨eqsP_rows e.stops fun x => rfl, allO_objsM eps r (i + 1)⟩
theorem eqsP_rowsM {n ep B : Nat} (eps : Nat → Nat) : ∀ (l : List Evt) (i : Nat), eqsP n ep (rowsD memL B eps i l).flatten
  | [], _ => trivial
  | e :: r, i => eqsP_rowsM eps r (i + 1)
theorem rowsM_mc {n len ep2 B : Nat} (eps : Nat → Nat) : ∀ (l : List Evt) (i : Nat), ((rowsD memL B eps i l).map fun r => r.map (mcS n len ep2)) = rowsD memL B eps i l
  | [], _ => rfl
  | e :: r, i => by simp only [rowsD, List.map_cons, rowsM_mc eps r (i + 1)]; rfl
theorem stps_mc {n len ep2 : Nat} : ∀ (l : List Stp), ((l.map stR).map fun r => r.map (mcS n len ep2)) = l.map stR
  | [] => rfl
  | e :: r => by rw [List.map_cons, List.map_cons, stps_mc r]; rfl
theorem objsM_mc {n len ep2 : Nat} (eps : Nat → Nat) : ∀ (l : List Evt) (i : Nat), (objsD memL eps i l).map (AObj.mapc (mcS n len ep2)) = objsD memL eps i l
  | [], _ => rfl
  | e :: r, i => by
    simp only [objsD, List.map_append, objsM_mc eps r (i + 1)]
    congr 1
    show [AObj.vec (eps i) ((e.stops.map stR).map fun r => r.map (mcS n len ep2))] = _
    rw [stps_mc]
    rfl

end Go.Ab.V

/-
  The document's Plain as new memory, the stops of each event as an object of their own. No condition but the machine's bounds on lengths.
-/
namespace Go.Ab

/-- an object that is known -/
theorem optO {o : Option AObj} {ep : Nat} {rows : List (List AV)} {P : Nat → List (List AV) → Prop} (h : o = some (.vec ep rows)) (hk : P ep rows) : (match (generalizing := false) o with | some (.vec ep' rows) => P ep' rows | _ => False) := by
  subst h; exact hk

end Go.Ab
namespace Go.Ab.V
open Go.Proofs

theorem rowsM_get {B : Nat} {eps : Nat → Nat} : ∀ {l : List Evt} {i k : Nat} (h : k < l.length), (rowsD memL B eps i l)[k]? = some (evX l[k] (.oslc (.d (B + memL.c * (i + k))) (eps (i + k)) 5 0 l[k].stops.length false))
  | e :: r, i, 0, _ => rfl
  | e :: r, i, k + 1, h => by
    simp only [rowsD, List.getElem?_cons_succ, List.getElem_cons_succ]
    rw [rowsM_get (l := r) (i := i + 1) (k := k) (by simpa using h), show i + 1 + k = i + (k + 1) by omega]
theorem rowsM_set {B : Nat} {eps : Nat → Nat} {e' : Evt} : ∀ {l : List Evt} {i k : Nat} (h : k < l.length) (hs : e'.stops.length = l[k].stops.length),
    (rowsD memL B eps i l).set k (evX e' (.oslc (.d (B + memL.c * (i + k))) (eps (i + k)) 5 0 l[k].stops.length false)) = rowsD memL B eps i (l.set k e')
  | e :: r, i, 0, _, hs => by
    simp only [rowsD, List.set_cons_zero, List.getElem_cons_zero] at hs ⊢
    rw [← hs]
    rfl
  | e :: r, i, k + 1, h, hs => by
    simp only [rowsD, List.set_cons_succ, List.getElem_cons_succ] at hs ⊢
    rw [show i + (k + 1) = i + 1 + k by omega, rowsM_set (l := r) (i := i + 1) (k := k) (by simpa using h) hs]
theorem objsM_get {eps : Nat → Nat} {X : List AObj} : ∀ {l : List Evt} {i k : Nat} (h : k < l.length), (objsD memL eps i l ++ X)[k]? = some (.vec (eps (i + k)) (l[k].stops.map stR))
  | e :: r, i, 0, _ => rfl
  | e :: r, i, k + 1, h => by
    have := objsM_get (eps := eps) (X := X) (l := r) (i := i + 1) (k := k) (by simpa using h)
    rw [show i + 1 + k = i + (k + 1) by omega] at this
    exact this
theorem objsM_set {eps : Nat → Nat} {X : List AObj} {e' : Evt} : ∀ {l : List Evt} {i k : Nat} (h : k < l.length), (objsD memL eps i l ++ X).set k (.vec (eps (i + k)) (e'.stops.map stR)) = objsD memL eps i (l.set k e') ++ X
  | e :: r, i, 0, _ => rfl
  | e :: r, i, k + 1, h => by
    have := objsM_set (eps := eps) (X := X) (e' := e') (l := r) (i := i + 1) (k := k) (by simpa using h)
    rw [show i + 1 + k = i + (k + 1) by omega] at this
    show AObj.vec (eps i) (e.stops.map stR) :: (objsD memL eps (i + 1) r ++ X).set k _ = _
    rw [this]
    rfl
theorem objsM_same {eps : Nat → Nat} {e' : Evt} : ∀ {l : List Evt} {i k : Nat} (h : k < l.length) (hs : e'.stops = l[k].stops), objsD memL eps i (l.set k e') = objsD memL eps i l
  | e :: r, i, 0, _, hs => by
    simp only [List.getElem_cons_zero] at hs
    show [AObj.vec (eps i) (e'.stops.map stR)] ++ _ = [AObj.vec (eps i) (e.stops.map stR)] ++ _
    rw [hs]
  | e :: r, i, k + 1, h, hs => by
    simp only [List.set_cons_succ, objsD]
    rw [objsM_same (l := r) (i := i + 1) (k := k) (by simpa using h) (by simpa using hs)]
theorem objsM_last {eps : Nat → Nat} {o : AObj} (l : List Evt) : (objsD memL eps 0 l ++ [o])[memL.c * l.length]? = some o := by
  rw [List.getElem?_append_right (by rw [objsD_len]; exact Nat.le_refl _), objsD_len, Nat.sub_self]
  rfl
theorem objsM_setLast {eps : Nat → Nat} {o o' : AObj} (l : List Evt) : (objsD memL eps 0 l ++ [o]).set (memL.c * l.length) o' = objsD memL eps 0 l ++ [o'] := by
  rw [List.set_append_right _ _ (by rw [objsD_len]; exact Nat.le_refl _), objsD_len, Nat.sub_self]
  rfl
theorem mix_succ {α : Type} {L M : List α} {k : Nat} (h : L.length = M.length) (hk : k < M.length) : mix L M (k + 1) = (mix L M k).set k (L[k]'(by omega)) := by
  have h1 : k < L.length := by omega
  unfold mix
  rw [List.set_append_right _ _ (by rw [List.length_take]; omega), List.length_take, Nat.min_eq_left (by omega), Nat.sub_self, List.drop_eq_getElem_cons hk, List.set_cons_zero, List.take_add_one, List.getElem?_eq_getElem h1, List.append_assoc]
  rfl
theorem mix_at {α : Type} {L M : List α} {k : Nat} (h : L.length = M.length) (hk : k < M.length) : (mix L M k)[k]'(by rw [mix_len h]; exact hk) = M[k] := by
  simp only [mix]
  rw [List.getElem_append_right (by rw [List.length_take]; omega)]
  simp only [List.length_take, List.getElem_drop]
  congr 1
  omega


end Go.Ab.V

/-
  Lists of changed stops; the program's Bare; the freeze of a piece in memory. No condition but the machine's bounds on lengths.
-/
namespace Go.Ab

/-- what was made anew is frozen to the bottom, the first m0 objects first -/
theorem pretM_of {C : Ctx} (ok : COk C) (hm : C.P.follows .mixedOrders = true) {A : Ann} {f : FuncId} {fn : Func} {c : Code} (n m0 : Nat) (hf : C.P.funcs[f]? = some fn) (hb : fn.body = some c) {args : List AV} {r : AV}
    (hk : forceR (frame0 args fn.ntmps) fun fr => forceHR (heap0 Heap.nil n) fun h => aexR C A c fr h fun e fr h' => match e with
      | .normal => resR C.ti fn.results.toList fr h' fun vs => retV vs fun v => frzE m0 h' v fun v h' => frzD h' v fun v h' => frzK h' v fun r' _ => r'.isPure2 = true ∧ r' = r
      | .ret => resR C.ti fn.results.toList fr h' fun vs => retV vs fun v => frzE m0 h' v fun v h' => frzD h' v fun v h' => frzK h' v fun r' _ => r'.isPure2 = true ∧ r' = r
      | .exit _ => False) (hy : C.yl = none := by rfl) : PRet C.P f args r := by
  refine ⟨⟨⟨fun σ w vs s hv => ?_⟩⟩⟩
  refine ((fn_of ok hm n hf hb hk hy).use σ w vs s hv).mono ?_
  rintro e w' ⟨v, rfl, σ1, h1, r1, k, m, x⟩
  obtain ⟨σ2, h2, r2, m2, x2, k2⟩ := frzE_sound m.sim x k
  obtain ⟨σ3, h3, r3, m3, x3, k3⟩ := frzD_sound m2.sim x2 k2
  exact ⟨v, rfl, σ3, h3, r3, k3, (m.trans m2).trans m3, x3⟩

end Go.Ab
namespace Go.Ab.V
open Go.Proofs

theorem end_mem {X : List AObj} {ep n : Nat} {rows : List (List AV)} {l : List Evt} {i : Ins} {h : Heap} (hX : ∀ o ∈ X, pureObj o) (hr : (rows.map fun r => r.map (fzC2 X)) = l.map evR) (hn : n = l.length) (hd : h.dy = X ++ [.vec ep rows]) :
    frzE X.length h (.tup [.agg [crsA i.cs, intsA i.steps, .oslc (.d X.length) ep 6 0 n false], .int .i64 0]) fun v h' => frzD h' v fun v h' => frzK h' v fun r' _ => r'.isPure2 = true ∧ r' = .tup [pcA ⟨i, l⟩, .int .i64 0] := by
  subst hn
  unfold frzE
  rw [hd, List.take_left, List.drop_left]
  refine ⟨by simp, hX, ?_⟩
  unfold frzD
  refine ⟨fun o ho => ?_, ?_⟩
  · rcases List.mem_append.1 ho with ho | ho
    · obtain ⟨_, rfl⟩ := List.mem_replicate.1 ho
      trivial
    · obtain rfl := List.mem_singleton.1 ho
      show pureRows (rows.map fun r => r.map (fzC2 X))
      rw [hr]
      exact pure_map l fun x => rfl
  · have e1 : fzV2 X (.tup [.agg [crsA i.cs, intsA i.steps, .oslc (.d X.length) ep 6 0 l.length false], .int .i64 0]) = .tup [.agg [crsA i.cs, intsA i.steps, .oslc (.d X.length) ep 6 0 l.length false], .int .i64 0] := by
      simp [fzV2, fzC2, crsA, intsA]
    rw [e1]
    have e2 : (List.replicate X.length AObj.hole ++ [AObj.vec ep rows].map (AObj.fz2 X))[X.length]? = some (.vec ep (l.map evR)) := by
      rw [List.getElem?_append_right (by simp)]
      simp only [List.length_replicate, Nat.sub_self, List.map_cons, List.map_nil, List.getElem?_cons_zero]
      show some (AObj.vec ep (rows.map fun r => r.map (fzC2 X))) = _
      rw [hr]
    have e3 : ∀ dy : List AObj, dy[X.length]? = some (.vec ep (l.map evR)) → fzV dy (.tup [.agg [crsA i.cs, intsA i.steps, .oslc (.d X.length) ep 6 0 l.length false], .int .i64 0]) = .tup [pcA ⟨i, l⟩, .int .i64 0] := by
      intro dy h
      simp [fzV, fzC, h, crsA, intsA, pcA, evsA]
    rw [e3 _ e2]
    exact frzK_pure rfl ⟨rfl, rfl⟩
theorem objsM_pure {eps : Nat → Nat} : ∀ (l : List Evt) (i : Nat), ∀ o ∈ objsD memL eps i l, pureObj o
  | [], _, o, h => by cases h
  | e :: r, i, o, h => by
    rcases List.mem_append.1 h with h | h
    · obtain rfl := List.mem_singleton.1 h
      exact pure_map e.stops fun x => rfl
    · exact objsM_pure r (i + 1) o h
/-- the rows of a piece in memory, frozen -/
theorem rowsM_fz {eps : Nat → Nat} {X : List AObj} : ∀ (l : List Evt) (i : Nat), (∀ k (h : k < l.length), X[i + k]? = some (.vec (eps (i + k)) (l[k].stops.map stR))) → ((rowsD memL 0 eps i l).map fun r => r.map (fzC2 X)) = l.map evR
  | [], _, _ => rfl
  | e :: r, i, h => by
    have h0 := h 0 (by simp)
    have ih := rowsM_fz (eps := eps) (X := X) r (i + 1) fun k hk => by
      have := h (k + 1) (by simpa using hk)
      rw [show i + (k + 1) = i + 1 + k by omega] at this
      simpa using this
    simp only [rowsD, List.map_cons, ih, List.cons.injEq, and_true]
    show [AV.bool e.bar, .int .i64 e.v, .bool e.d, .bool e.t, .bool e.tie, fzC2 X (.oslc (.d (0 + 1 * i)) (eps i) 5 0 e.stops.length false)] = evR e
    simp only [Nat.add_zero, List.getElem_cons_zero] at h0
    have : fzC2 X (.oslc (.d (0 + 1 * i)) (eps i) 5 0 e.stops.length false) = stsA e.stops := by
      rw [Nat.zero_add, Nat.one_mul]
      simp [fzC2, h0, stsA]
    rw [this]
    rfl
theorem objsM_at {eps : Nat → Nat} (l : List Evt) : ∀ k (h : k < l.length), (objsD memL eps 0 l)[0 + k]? = some (.vec (eps (0 + k)) (l[k].stops.map stR)) := by
  intro k h
  have := objsM_get (eps := eps) (X := []) (l := l) (i := 0) (k := k) h
  rw [List.append_nil] at this
  rw [Nat.zero_add] at this ⊢
  exact this
/-- a piece in memory, frozen -/
theorem end_pcM {i : Ins} {l : List Evt} {eps : Nat → Nat} {h : Heap} (hd : h.dy = objsD memL eps 0 l ++ [.vec (eps l.length) (rowsD memL 0 eps 0 l)]) :
    frzE l.length h (.tup [.agg [crsA i.cs, intsA i.steps, .oslc (.d (0 + memL.c * l.length)) (eps l.length) 6 0 l.length false], .int .i64 0]) fun v h' => frzD h' v fun v h' => frzK h' v fun r' _ => r'.isPure2 = true ∧ r' = .tup [pcA ⟨i, l⟩, .int .i64 0] := by
  have e : (objsD memL eps 0 l).length = l.length := by rw [objsD_len]; exact Nat.one_mul _
  have := end_mem (X := objsD memL eps 0 l) (ep := eps l.length) (n := l.length) (rows := rowsD memL 0 eps 0 l) (l := l) (i := i) (h := h) (objsM_pure l 0) (rowsM_fz l 0 (objsM_at l)) rfl hd
  rw [e] at this
  rw [show 0 + memL.c * l.length = l.length by rw [Nat.zero_add]; exact Nat.one_mul _]
  exact this

def A100 : Ann := fun r => match r with
  | 0 => { slots := [(0, 0), (1, 1)] }
  | _ => {}
def A102 : Ann := A100
def bareS (s : Stp) : Stp := ⟨s.c, s.f, 0, 0, 0⟩
def bareE (e : Evt) : Evt := { e with stops := e.stops.map bareS }
theorem f100_spec (s : Stp) : PRet C.P 100 [.agg (stR s)] (.agg (stR (bareS s))) := by
  refine pret_of ok mixed (A := A100) 2 Try.func100 rfl ?_
  (repeat' (first | exact rfl | ((conv => whnf); first | exact rfl | refine ⟨by kernel_rfl, ?_⟩ | exact ⟨rfl, rfl⟩ | refine ⟨rfl, ?_⟩ | refine ⟨by (first | omega | (simp (disch := omega) only [wrapI]; omega) | (simp (disch := omega) only [wrapI]; simp; omega) | (simp; omega)), ?_⟩ | (intro ep) | fail)))
theorem f102_spec (s : Stp) : PRet C.P 102 [.agg (stR s)] (.agg (stR (id s))) := by
  refine pret_of ok mixed (A := A102) 2 Try.func102 rfl ?_
  (repeat' (first | exact rfl | ((conv => whnf); first | exact rfl | refine ⟨by kernel_rfl, ?_⟩ | exact ⟨rfl, rfl⟩ | refine ⟨rfl, ?_⟩ | refine ⟨by (first | omega | (simp (disch := omega) only [wrapI]; omega) | (simp (disch := omega) only [wrapI]; simp; omega) | (simp; omega)), ?_⟩ | (intro ep) | fail)))

def A99 : Ann := fun r => match r with
  | 4 => { slots := [(2, 0)] }
  | 5 => { slots := [(4, 1), (5, 2)] }
  | _ => {}

set_option maxHeartbeats 2000000 in
set_option maxRecDepth 100000 in
theorem mapped99_100 (l : List Stp) (hl : l.length ≤ 100000) : HRet C.P 99 [stsA l, .fn (.func 100) [] []] (fun B eps => .oslc (.d B) (eps 0) 5 0 l.length false) (fun B eps => [.vec (eps 0) ((l.map bareS).map stR)]) := by
  refine hret_of ok mixed (A := A99) 3 Try.func99 rfl ?_ (fun B E eps => ⟨fun k => eps k + E, rfl, by rw [List.map_cons, AObj.sh, sh_rowsS]; rfl⟩)
  (repeat' (first | exact rfl | ((conv => whnf); first | exact rfl | refine ⟨by kernel_rfl, ?_⟩ | exact ⟨rfl, rfl⟩ | refine ⟨rfl, ?_⟩ | refine ⟨by (first | omega | (simp (disch := omega) only [wrapI]; omega) | (simp (disch := omega) only [wrapI]; simp; omega) | (simp; omega)), ?_⟩ | (intro ep) | fail)))
  (conv => whnf)
  refine wk_lift 5 2 5 rfl ?_
  intro e1
  refine loopM ok mixed (A := A99) [1, 5, 8, 9, 10] [2] (S := { x : Nat × Nat // x.1 ≤ l.length })
    (fr := fun s => frOf 0 22 [(1, .fn (.func 100) [] []), (5, .oslc (.s 2) s.1.2 5 0 s.1.1 false), (8, stsA l), (9, .int .i64 l.length), (10, .int .i64 (s.1.1 : Int))])
    (h := fun s => ⟨[.hole, .hole, .vec s.1.2 (((l.take s.1.1).map bareS).map stR)], []⟩) (μ := fun s => l.length - s.1.1) ⟨(0, e1), by simp⟩ (by exact rfl) (by exact rfl) ?_
  rintro ⟨⟨k, ep⟩, hk⟩
  simp only at hk
  show aexR _ _ _ (frOf 0 22 [(1, .fn (.func 100) [] []), (5, .oslc (.s 2) ep 5 0 k false), (8, stsA l), (9, .int .i64 l.length), (10, .int .i64 (k : Int))]) ⟨[.hole, .hole, .vec ep (((l.take k).map bareS).map stR)], []⟩ _
  (conv => whnf)
  refine ifB (fun h1 => ?_) (fun h1 => ?_)
  · simp only [decide_eq_true_eq] at h1
    have hlt : k < l.length := by omega
    have hc := f100_spec l[k]
    (repeat' (first | exact rfl | ((conv => whnf); first | refine ⟨_, hc, ?_⟩ | exact rfl | refine ⟨by kernel_rfl, ?_⟩ | exact ⟨rfl, rfl⟩ | refine ⟨rfl, ?_⟩ | refine ⟨by (first | omega | (simp (disch := omega) only [wrapI]; omega) | (simp (disch := omega) only [wrapI]; simp; omega) | (simp; omega)), ?_⟩ | (intro ep) | refine optS (mapR hlt) ?_ | fail)))
    (conv => whnf)
    have hT : List.take k (((l.take k).map bareS).map stR) = ((l.take k).map bareS).map stR := List.take_of_length_le (by simp; omega)
    have t4 : ((l.take (k + 1)).map bareS).map stR = ((l.take k).map bareS).map stR ++ [stR (bareS l[k])] := by
      rw [List.take_add_one, List.getElem?_eq_getElem hlt, List.map_append, List.map_append]
      rfl
    refine back_of ⟨(k + 1, ep), by simp only; omega⟩ ⟨by (first | exact rfl | (simp (disch := omega) only [wrapI]; exact rfl)), ?_, by simp only; omega⟩
    simp only
    rw [t4]
    refine Eq.trans (b := ⟨[.hole, .hole, .vec ep (List.take k (List.drop 0 (((l.take k).map bareS).map stR)) ++ [stR (bareS l[k])])], []⟩) rfl ?_
    rw [List.drop_zero, hT]
  · simp only [decide_eq_false_iff_not] at h1
    obtain rfl : k = l.length := by omega
    rw [List.take_length]
    (repeat' ((conv => whnf); first | refine ⟨rfl, ?_⟩ | (intro ep) | fail))
    exact ⟨fun _ => ep, rfl, rfl⟩

set_option maxHeartbeats 2000000 in
set_option maxRecDepth 100000 in
theorem mapped99_102 (l : List Stp) (hl : l.length ≤ 100000) : HRet C.P 99 [stsA l, .fn (.func 102) [] []] (fun B eps => .oslc (.d B) (eps 0) 5 0 l.length false) (fun B eps => [.vec (eps 0) ((l.map id).map stR)]) := by
  refine hret_of ok mixed (A := A99) 3 Try.func99 rfl ?_ (fun B E eps => ⟨fun k => eps k + E, rfl, by rw [List.map_cons, AObj.sh, sh_rowsS]; rfl⟩)
  (repeat' (first | exact rfl | ((conv => whnf); first | exact rfl | refine ⟨by kernel_rfl, ?_⟩ | exact ⟨rfl, rfl⟩ | refine ⟨rfl, ?_⟩ | refine ⟨by (first | omega | (simp (disch := omega) only [wrapI]; omega) | (simp (disch := omega) only [wrapI]; simp; omega) | (simp; omega)), ?_⟩ | (intro ep) | fail)))
  (conv => whnf)
  refine wk_lift 5 2 5 rfl ?_
  intro e1
  refine loopM ok mixed (A := A99) [1, 5, 8, 9, 10] [2] (S := { x : Nat × Nat // x.1 ≤ l.length })
    (fr := fun s => frOf 0 22 [(1, .fn (.func 102) [] []), (5, .oslc (.s 2) s.1.2 5 0 s.1.1 false), (8, stsA l), (9, .int .i64 l.length), (10, .int .i64 (s.1.1 : Int))])
    (h := fun s => ⟨[.hole, .hole, .vec s.1.2 (((l.take s.1.1).map id).map stR)], []⟩) (μ := fun s => l.length - s.1.1) ⟨(0, e1), by simp⟩ (by exact rfl) (by exact rfl) ?_
  rintro ⟨⟨k, ep⟩, hk⟩
  simp only at hk
  show aexR _ _ _ (frOf 0 22 [(1, .fn (.func 102) [] []), (5, .oslc (.s 2) ep 5 0 k false), (8, stsA l), (9, .int .i64 l.length), (10, .int .i64 (k : Int))]) ⟨[.hole, .hole, .vec ep (((l.take k).map id).map stR)], []⟩ _
  (conv => whnf)
  refine ifB (fun h1 => ?_) (fun h1 => ?_)
  · simp only [decide_eq_true_eq] at h1
    have hlt : k < l.length := by omega
    have hc := f102_spec l[k]
    (repeat' (first | exact rfl | ((conv => whnf); first | refine ⟨_, hc, ?_⟩ | exact rfl | refine ⟨by kernel_rfl, ?_⟩ | exact ⟨rfl, rfl⟩ | refine ⟨rfl, ?_⟩ | refine ⟨by (first | omega | (simp (disch := omega) only [wrapI]; omega) | (simp (disch := omega) only [wrapI]; simp; omega) | (simp; omega)), ?_⟩ | (intro ep) | refine optS (mapR hlt) ?_ | fail)))
    (conv => whnf)
    have hT : List.take k (((l.take k).map id).map stR) = ((l.take k).map id).map stR := List.take_of_length_le (by simp; omega)
    have t4 : ((l.take (k + 1)).map id).map stR = ((l.take k).map id).map stR ++ [stR (id l[k])] := by
      rw [List.take_add_one, List.getElem?_eq_getElem hlt, List.map_append, List.map_append]
      rfl
    refine back_of ⟨(k + 1, ep), by simp only; omega⟩ ⟨by (first | exact rfl | (simp (disch := omega) only [wrapI]; exact rfl)), ?_, by simp only; omega⟩
    simp only
    rw [t4]
    refine Eq.trans (b := ⟨[.hole, .hole, .vec ep (List.take k (List.drop 0 (((l.take k).map id).map stR)) ++ [stR (id l[k])])], []⟩) rfl ?_
    rw [List.drop_zero, hT]
  · simp only [decide_eq_false_iff_not] at h1
    obtain rfl : k = l.length := by omega
    rw [List.take_length]
    (repeat' ((conv => whnf); first | refine ⟨rfl, ?_⟩ | (intro ep) | fail))
    exact ⟨fun _ => ep, rfl, rfl⟩

theorem mapped99_lit (l : List Stp) (hl : l.length ≤ 100000) : PRet C.P 99 [stsA l, .fn (.func 100) [] []] (stsA (l.map bareS)) := by
  refine (mapped99_100 l hl).pret (fun eps o ho => ?_) (fun eps => ?_) rfl (fun h => frzK_pure rfl rfl)
  · obtain rfl := List.mem_singleton.1 ho
    exact pure_map _ fun x => rfl
  · simp [fzV, fzC, stsA]
def A98 : Ann := fun r => match r with
  | 0 => { slots := [(0, 0), (1, 1)] }
  | _ => {}
set_option maxHeartbeats 2000000 in
set_option maxRecDepth 100000 in
theorem f98_spec (e : Evt) (h : e.stops.length ≤ 100000) : PRet C.P 98 [.agg (evR e)] (.agg (evR (bareE e))) := by
  have c1 := mapped99_lit e.stops h
  refine pret_of ok mixed (A := A98) 2 Try.func98 rfl ?_
  (repeat' (first | exact rfl | ((conv => whnf); first | refine ⟨_, c1, ?_⟩ | exact rfl | refine ⟨by kernel_rfl, ?_⟩ | exact ⟨rfl, rfl⟩ | refine ⟨rfl, ?_⟩ | refine ⟨by (first | omega | (simp (disch := omega) only [wrapI]; omega) | (simp (disch := omega) only [wrapI]; simp; omega) | (simp; omega)), ?_⟩ | (intro ep) | fail)))
set_option maxHeartbeats 2000000 in
set_option maxRecDepth 100000 in
theorem c98_lit : Chg litL (fun _ : Unit => .hole) (fun s e => (s, bareE e)) 98 [] (fun e => e.stops.length ≤ 100000) := by
  intro ec s e dy hg
  have c1 := copied_spec e hg
  have c2 := f98_spec e hg
  refine fn_of ok mixed (A := A110) 2 Try.func110 rfl ?_
  (repeat' ((conv => whnf); first | refine ⟨_, c1, ?_⟩ | refine ⟨_, c2, ?_⟩ | refine ⟨rfl, ?_⟩ | refine ⟨by kernel_rfl, ?_⟩ | (intro ep) | fail))
  exact ⟨0, rfl, rfl, (List.append_nil _).symm⟩
theorem outE_bare : ∀ (l : List Evt), outE (fun (s : Unit) e => (s, bareE e)) () l = l.map bareE
  | [] => rfl
  | e :: r => by rw [outE, outE_bare r]; rfl
def bareP (p : Pc) : Except Int Pc := if chk p ≠ 0 then .error (chk p) else .ok ⟨p.ins, p.evs.map bareE⟩
def A58 : Ann := fun r => match r with
  | 0 => { slots := [(0, 1), (1, 2)] }
  | _ => {}
set_option maxHeartbeats 2000000 in
set_option maxRecDepth 100000 in
theorem bare_spec (p : Pc) (hp : p.Ok) (hs : p.Sm) : PRet C.P 58 [pcA p] (pcE (bareP p)) := by
  unfold bareP
  by_cases hc : chk p = 0
  · rw [if_neg (fun h => h hc)]
    refine pretD_of ok mixed (A := A58) 3 Try.func58 rfl ?_
    (repeat' (first | exact rfl | ((conv => whnf); first | exact rfl | refine ⟨by kernel_rfl, ?_⟩ | exact ⟨rfl, rfl⟩ | refine ⟨rfl, ?_⟩ | refine ⟨by (first | omega | (simp (disch := omega) only [wrapI]; omega) | (simp (disch := omega) only [wrapI]; simp; omega) | (simp; omega)), ?_⟩ | (intro ep) | fail)))
    (conv => whnf)
    have key := rewritten_lit c98_lit p hp hs hc (fun e he => by have := hs.sp e he; omega) () []
    rw [outE_bare] at key
    refine ACalls.part (dy := []) 1 (by exact rfl) (by exact rfl) (by exact rfl) key ?_
    rintro r h3 ⟨ep, rfl, hq, hd⟩
    rw [hq, hd]
    (repeat' ((conv => whnf); first | refine ⟨rfl, ?_⟩ | fail))
    exact end_lit
  · rw [if_pos hc]
    refine pretD_of ok mixed (A := A58) 3 Try.func58 rfl ?_
    (repeat' (first | exact rfl | ((conv => whnf); first | exact rfl | refine ⟨by kernel_rfl, ?_⟩ | exact ⟨rfl, rfl⟩ | refine ⟨rfl, ?_⟩ | refine ⟨by (first | omega | (simp (disch := omega) only [wrapI]; omega) | (simp (disch := omega) only [wrapI]; simp; omega) | (simp; omega)), ?_⟩ | (intro ep) | fail)))
    (conv => whnf)
    have key := rewritten_bad (F := 98) (cap := []) p hp hc .hole []
    refine ACalls.part (dy := []) 1 (by exact rfl) (by exact rfl) (by exact rfl) key ?_
    rintro r h3 ⟨rfl, hq, hd⟩
    rw [hq, hd]
    (repeat' (first | exact rfl | ((conv => whnf); first | exact rfl | refine ⟨by kernel_rfl, ?_⟩ | exact ⟨rfl, rfl⟩ | refine ⟨rfl, ?_⟩ | refine ⟨by (first | omega | (simp (disch := omega) only [wrapI]; omega) | (simp (disch := omega) only [wrapI]; simp; omega) | (simp; omega)), ?_⟩ | (intro ep) | refine ⟨fun o ho => (List.not_mem_nil (a := o) ho).elim, ?_⟩ | fail)))

end Go.Ab.V

/-
  The document's Bare. No condition but the machine's bounds on lengths.
-/
namespace Go.Ab.V
open Go.Proofs

theorem objL {eps : Nat → Nat} {o : AObj} {l : List Evt} {n : Nat} (h : l.length = n) : (objsD memL eps 0 l ++ [o])[0 + memL.c * n]? = some o := by
  subst h; rw [Nat.zero_add]; exact objsM_last l
theorem objG {eps : Nat → Nat} {X : List AObj} {l : List Evt} {k : Nat} (h : k < l.length) {ss : List Stp} (hs : l[k].stops = ss) : (objsD memL eps 0 l ++ X)[0 + memL.c * (0 + k)]? = some (.vec (eps (0 + k)) (ss.map stR)) := by
  subst hs
  have := objsM_get (eps := eps) (X := X) (l := l) (i := 0) (k := k) h
  rw [show 0 + memL.c * (0 + k) = k by rw [Nat.zero_add, Nat.zero_add]; exact Nat.one_mul k]
  exact this
theorem objS {eps : Nat → Nat} {X : List AObj} {l : List Evt} {k : Nat} (h : k < l.length) {e' : Evt} {ss : List Stp} (hs : e'.stops = ss) : (objsD memL eps 0 l ++ X).set (0 + memL.c * (0 + k)) (.vec (eps (0 + k)) (ss.map stR)) = objsD memL eps 0 (l.set k e') ++ X := by
  subst hs
  have := objsM_set (eps := eps) (X := X) (e' := e') (l := l) (i := 0) (k := k) h
  rw [show 0 + memL.c * (0 + k) = k by rw [Nat.zero_add, Nat.zero_add]; exact Nat.one_mul k]
  exact this
theorem rowG {B : Nat} {eps : Nat → Nat} {l : List Evt} {k : Nat} (h : k < l.length) : (rowsD memL B eps 0 l)[0 + ((k : Nat) : Int).toNat]? = some (evX l[k] (.oslc (.d (B + memL.c * (0 + k))) (eps (0 + k)) 5 0 l[k].stops.length false)) := by
  rw [Nat.zero_add, Int.toNat_natCast]; exact rowsM_get h
def rowKey (e : Evt) : Bool × Int × Bool × Bool × Bool × Nat := (e.bar, e.v, e.d, e.t, e.tie, e.stops.length)
theorem rowsM_like {B : Nat} {eps : Nat → Nat} : ∀ {l m : List Evt} {i : Nat}, l.map rowKey = m.map rowKey → rowsD memL B eps i l = rowsD memL B eps i m
  | [], [], _, _ => rfl
  | [], _ :: _, _, h => by simp at h
  | _ :: _, [], _, h => by simp at h
  | a :: l, b :: m, i, h => by
    simp only [List.map_cons, List.cons.injEq, rowKey, Prod.mk.injEq] at h
    obtain ⟨⟨h1, h2, h3, h4, h5, h6⟩, h7⟩ := h
    show evX a (.oslc (.d (B + memL.c * i)) (eps i) 5 0 a.stops.length false) :: _ = evX b (.oslc (.d (B + memL.c * i)) (eps i) 5 0 b.stops.length false) :: _
    rw [rowsM_like h7, h6]
    unfold evX
    rw [h1, h2, h3, h4, h5]
/-- an event with other stops -/
def evS (e : Evt) (ss : List Stp) : Evt := { e with stops := ss }

end Go.Ab.V

/-
  A part of a list as an argument; the program's list of copied events, the stops of each as an object of their own. No condition but the machine's bounds on lengths.
-/
namespace Go.Ab

theorem cellAt_part {rows : List (List AV)} {a m i j : Nat} {c : AV} (h : cellAt ((rows.drop a).take m) i j = some c) : cellAt rows (a + i) j = some c := by
  unfold cellAt at h ⊢
  rw [List.getElem?_take] at h
  split at h
  · rw [List.getElem?_drop] at h; exact h
  · simp at h
/-- a part of a literal -/
theorem Sub.part {sz : Nat} {rows : List (List AV)} {a m : Nat} (hm : a + m ≤ rows.length) : Sub (.lslc sz rows a m false) (.lslc sz ((rows.drop a).take m) 0 m false) := by
  refine ⟨fun σ v h => ?_⟩
  cases h with
  | @lslc _ _ _ _ _ _ blk st cap g hw hc ho hv h1 h3 h5 =>
    have key : VRel σ (.lslc sz ((rows.drop a).take m) 0 m false) (.slice (some ⟨blk, (st + a * sz) + 0 * sz, none⟩) m cap) := by
      refine .lslc (fun i j => g (a + i) j) (fun i row x => ?_) (fun i j c x => ?_) (fun i j c x => ho _ _ _ (cellAt_part x)) (fun i j c x => hv _ _ _ (cellAt_part x)) (by rw [List.length_take, List.length_drop]; omega) (fun e => by cases e) h5
      · exact hw (a + i) row (by rw [List.getElem?_take] at x; split at x <;> first | (rw [List.getElem?_drop] at x; exact x) | cases x)
      · obtain ⟨cs, a1, a2⟩ := hc _ _ _ (cellAt_part x)
        refine ⟨cs, a1, ?_⟩
        rw [← a2, Nat.add_mul]
        congr 1
        omega
    rw [Nat.zero_mul, Nat.add_zero] at key
    exact key
  | lnil => exact .lnil
  | lz => exact .lz
theorem HRet.sub {P : Program} {f : FuncId} {l m : List AV} {R : Nat → (Nat → Nat) → AV} {H : Nat → (Nat → Nat) → List AObj} (c : HRet P f m R H) (s : SubL l m) : HRet P f l R H := ⟨c.out.sub s, c.sh⟩

end Go.Ab
namespace Go.Ab.V
open Go.Proofs

/-- the events of a piece in memory -/
def evsM (l : List Evt) (B : Nat) (eps : Nat → Nat) : AV := .oslc (.d (B + memL.c * l.length)) (eps l.length) 6 0 l.length false
theorem evsM_sh (l : List Evt) (B E : Nat) (eps : Nat → Nat) : (evsM l 0 eps).sh B E = evsM l B (fun k => eps k + E) := by
  show AV.oslc (.d (B + (0 + memL.c * l.length))) (eps l.length + E) 6 0 l.length false = _
  rw [Nat.zero_add]
  rfl

set_option maxHeartbeats 2000000 in
set_option maxRecDepth 100000 in
theorem mapped86_mem (l : List Evt) (hl : l.length ≤ 100000) (hsp : ∀ e ∈ l, e.stops.length ≤ 100000) :
    HRet C.P 85 [evsA l, .fn (.func 86) [] []] (fun B eps => evsM l B eps) (fun B eps => pcMO l B eps) := by
  refine hret_of (okx [86] []) mixed (A := A85b) 3 Try.func85 rfl ?_ (fun B E eps => ⟨fun k => eps k + E, evsM_sh _ _ _ _, pcMO_sh _ _ _ _⟩)
  (repeat' (first | exact rfl | ((conv => whnf); first | exact rfl | refine ⟨by kernel_rfl, ?_⟩ | exact ⟨rfl, rfl⟩ | refine ⟨rfl, ?_⟩ | refine ⟨by (first | omega | (simp (disch := omega) only [wrapI]; omega) | (simp (disch := omega) only [wrapI]; simp; omega) | (simp; omega)), ?_⟩ | (intro ep) | fail)))
  (conv => whnf)
  refine wk_lift 5 2 6 rfl ?_
  intro e1
  refine loopM (okx [86] []) mixed (A := A85b) [1, 5, 8, 9, 10] [2] (S := { x : Nat × Nat × (Nat → Nat) // x.1 ≤ l.length })
    (fr := fun s => frOf 0 22 [(1, .fn (.func 86) [] []), (5, .oslc (.s 2) s.1.2.1 6 0 s.1.1 false), (8, evsA l), (9, .int .i64 l.length), (10, .int .i64 (s.1.1 : Int))])
    (h := fun s => ⟨[.hole, .hole, .vec s.1.2.1 (rowsD memL 0 s.1.2.2 0 (l.take s.1.1))], objsD memL s.1.2.2 0 (l.take s.1.1)⟩) (μ := fun s => l.length - s.1.1) ⟨(0, e1, fun _ => 0), by simp⟩ (by exact rfl) (by exact rfl) ?_
  rintro ⟨⟨k, ep, eps⟩, hk⟩
  simp only at hk
  show aexR _ _ _ (frOf 0 22 [(1, .fn (.func 86) [] []), (5, .oslc (.s 2) ep 6 0 k false), (8, evsA l), (9, .int .i64 l.length), (10, .int .i64 (k : Int))]) ⟨[.hole, .hole, .vec ep (rowsD memL 0 eps 0 (l.take k))], objsD memL eps 0 (l.take k)⟩ _
  (conv => whnf)
  refine ifB (fun h1 => ?_) (fun h1 => ?_)
  · simp only [decide_eq_true_eq] at h1
    have hlt : k < l.length := by omega
    have hc := copied_mem l[k] (hsp _ (List.getElem_mem hlt))
    (repeat' (first | exact rfl | ((conv => whnf); first | refine ⟨_, _, hc, fun epn => ?_⟩ | exact rfl | refine ⟨by kernel_rfl, ?_⟩ | exact ⟨rfl, rfl⟩ | refine ⟨rfl, ?_⟩ | refine ⟨by (first | omega | (simp (disch := omega) only [wrapI]; omega) | (simp (disch := omega) only [wrapI]; simp; omega) | (simp; omega)), ?_⟩ | (intro ep) | refine optS (mapR hlt) ?_ | fail)))
    (conv => whnf)
    obtain ⟨x, hx⟩ : ∃ x, x = epn 0 := ⟨_, rfl⟩
    have hlk : (l.take k).length = k := by rw [List.length_take]; omega
    obtain ⟨eps', y1, y2⟩ := layS memL 0 eps (epn 0) (l.take k) l[k]
    have et : l.take (k + 1) = l.take k ++ [l[k]] := by rw [List.take_add_one, List.getElem?_eq_getElem hlt]; rfl
    rw [← et] at y1 y2
    have hT : List.take k (rowsD memL 0 eps 0 (l.take k)) = rowsD memL 0 eps 0 (l.take k) := List.take_of_length_le (by rw [rowsD_len, hlk]; exact Nat.le_refl _)
    refine back_of ⟨(k + 1, ep, eps'), by simp only; omega⟩ ⟨by (first | exact rfl | (simp (disch := omega) only [wrapI]; exact rfl)), ?_, by simp only; omega⟩
    simp only
    rw [y1, y2]
    refine Eq.trans (b := ⟨[.hole, .hole, .vec ep (List.take k (List.drop 0 (rowsD memL 0 eps 0 (l.take k))) ++ [evX l[k] (.oslc (.d (objsD memL eps 0 (l.take k)).length) (epn 0) 5 0 l[k].stops.length false)])], objsD memL eps 0 (l.take k) ++ [AObj.vec (epn 0) (l[k].stops.map stR)]⟩) rfl ?_
    rw [List.drop_zero, hT, objsD_len, hlk, Nat.zero_add]
    rfl
  · simp only [decide_eq_false_iff_not] at h1
    obtain rfl : k = l.length := by omega
    rw [List.take_length]
    (repeat' ((conv => whnf); first | refine ⟨rfl, ?_⟩ | (intro ep) | fail))
    (conv => whnf)
    obtain ⟨eps', m1, m2⟩ := pcM_of ⟨[], []⟩ l 0 ep eps
    refine ⟨eps', ?_, ?_⟩
    · have := congrArg (fun a => match a with | AV.agg [_, _, x] => x | _ => .u) m1
      show AV.oslc (.d (objsD memL eps 0 l).length) ep 6 0 l.length false = _
      rw [objsD_len, ← Nat.zero_add (memL.c * l.length)]
      exact this
    · show objsD memL eps 0 l ++ [AObj.vec ep (rowsD memL 0 eps 0 l)] = _
      rw [← m2, pcO]

end Go.Ab.V

/-
  The program's Cut. No condition but the machine's bounds on lengths.
-/
namespace Go.Ab.V
open Go.Proofs

def hmin (h c : Int) : Int := if c < h then c else h
def hmS (c : Int) (s : Stp) : Stp := { s with h := hmin s.h c }
def holdE (c : Int) (e : Evt) : Evt := evS e (e.stops.map (hmS c))
def holds (l : List Evt) : List Evt := l.mapIdx fun i e => holdE ((l.length : Int) - 1 - i) e
def headE (s : Sgn) (e : Evt) : Evt := { e with v := s.v, d := s.d, t := s.t, tie := false }
def headL (s : Sgn) : List Evt → List Evt
  | [] => []
  | e :: r => headE s e :: r
theorem holds_len (l : List Evt) : (holds l).length = l.length := by simp [holds]
theorem holds_at {l : List Evt} {i : Nat} (h : i < l.length) : (holds l)[i]'(by rw [holds_len]; exact h) = holdE ((l.length : Int) - 1 - i) l[i] := by simp [holds]
theorem holds_key (l : List Evt) : (holds l).map rowKey = l.map rowKey := by
  refine List.ext_getElem (by simp [holds]) fun i h1 h2 => ?_
  simp [holds, rowKey, holdE, evS]
theorem headL_set {s : Sgn} {l : List Evt} (h : 0 < l.length) : headL s l = l.set 0 (headE s l[0]) := by
  cases l with
  | nil => simp at h
  | cons e r => rfl

def partL (p : Pc) (a b : Nat) : List Evt := (p.evs.drop a).take (b - a)
def sgAt (l : List Evt) (a : Nat) : Sgn := match l[a]? with
  | some e => e.sg
  | none => sz
def cutP (p : Pc) (a b : Int) : Except Int Pc :=
  if chk p ≠ 0 then .error (chk p) else if a < 0 ∨ b < a ∨ (p.evs.length : Int) < b then .error 1 else
    .ok ⟨p.ins, headL (sgAt (outE plnS sz p.evs) a.toNat) (holds (partL p a.toNat b.toNat))⟩

theorem objLs {eps : Nat → Nat} {o o' : AObj} {l : List Evt} {n : Nat} (h : l.length = n) : (objsD memL eps 0 l ++ [o]).set (0 + memL.c * n) o' = objsD memL eps 0 l ++ [o'] := by
  subst h; rw [Nat.zero_add]; exact objsM_setLast l
theorem end_pcU {i : Ins} {l : List Evt} {eps : Nat → Nat} {n : Nat} {D st : List AObj} (hn : l.length = n) (hD : D = objsD memL eps 0 l ++ [.vec (eps n) (rowsD memL 0 eps 0 l)]) :
    n ≤ D.length ∧ (∀ o ∈ D.take n, pureObj o) ∧ (fun v h' => frzD h' v fun v h' => frzK h' v fun r' _ => r'.isPure2 = true ∧ r' = .tup [pcA ⟨i, l⟩, .int .i64 0])
      (fzV2 (D.take n) (.tup [.agg [crsA i.cs, intsA i.steps, .oslc (.d (0 + memL.c * n)) (eps n) 6 0 n false], .int .i64 0])) ⟨st.map (AObj.fz2 (D.take n)), List.replicate n .hole ++ (D.drop n).map (AObj.fz2 (D.take n))⟩ := by
  subst hn
  exact end_pcM (l := l) (i := i) (eps := eps) (h := ⟨st, D⟩) hD

def A49 : Ann := fun r => match r with
  | 0 => { slots := [(0, 0), (1, 1)] }
  | 1 => { slots := [(5, 2)] }
  | 6 => { slots := [(3, 3)] }
  | _ => {}

set_option maxHeartbeats 8000000 in
set_option maxRecDepth 100000 in
theorem cut_spec (p : Pc) (hp : p.Ok) (hs : p.Sm) (a b : Int) : PRet C.P 49 [pcA p, .int .i64 a, .int .i64 b] (pcE (cutP p a b)) := by
  have f1 := plain_spec p hp hs
  have hle := hs.ev
  unfold plnP at f1
  unfold cutP
  by_cases hc : chk p = 0
  · rw [if_neg (fun h => h hc)] at f1 ⊢
    obtain ⟨P, hP⟩ : ∃ P, P = outE plnS sz p.evs := ⟨_, rfl⟩
    have hPl : P.length = p.evs.length := by rw [hP, outE_len]
    rw [← hP] at f1 ⊢
    by_cases hb : a < 0 ∨ b < a ∨ (p.evs.length : Int) < b
    · rw [if_pos hb]
      refine pretD_of (okx [85] []) mixed (A := A49) 4 Try.func49 rfl ?_
      (repeat' (first | exact rfl | ((conv => whnf); first | refine ⟨_, f1, ?_⟩ | exact rfl | refine ⟨by kernel_rfl, ?_⟩ | exact ⟨rfl, rfl⟩ | refine ⟨rfl, ?_⟩ | refine ⟨by (first | omega | (simp (disch := omega) only [wrapI]; omega) | (simp (disch := omega) only [wrapI]; simp; omega) | (simp; omega)), ?_⟩ | (intro ep) | refine ⟨fun o ho => (List.not_mem_nil (a := o) ho).elim, ?_⟩ | (refine ifB (fun hb => ?_) (fun hb => ?_) <;> (try simp only [decide_eq_true_eq, decide_eq_false_iff_not, beq_iff_eq, beq_eq_false_iff_ne, bne_iff_ne, bne_eq_false_iff_eq, ne_eq, not_false_eq_true, not_true_eq_false, Bool.not_eq_true, Bool.not_eq_true', Bool.not_eq_false', Int.not_lt, Int.not_le] at hb) <;> (try simp (disch := omega) only [wrapI] at hb) <;> (try (exfalso; omega))) | fail)))
    · rw [if_neg hb]
      obtain ⟨x, rfl⟩ : ∃ x : Nat, a = x := ⟨a.toNat, by omega⟩
      obtain ⟨y, rfl⟩ : ∃ y : Nat, b = y := ⟨b.toNat, by omega⟩
      rw [Int.toNat_natCast, Int.toNat_natCast]
      obtain ⟨M0, hM0⟩ : ∃ M0, M0 = partL p x y := ⟨_, rfl⟩
      rw [← hM0]
      have hMl : M0.length = y - x := by rw [hM0, partL, List.length_take, List.length_drop]; omega
      have hMs : ∀ e ∈ M0, e.stops.length ≤ 4000 := fun e he => hs.sp e (by rw [hM0] at he; exact List.mem_of_mem_drop (List.mem_of_mem_take he))
      have f2 : HRet C.P 85 [.lslc 6 (p.evs.map evR) (0 + ((x : Nat) : Int).toNat) (((y : Nat) : Int).toNat - ((x : Nat) : Int).toNat) false, .fn (.func 86) [] []] (fun B eps => evsM M0 B eps) (fun B eps => pcMO M0 B eps) := by
        refine HRet.sub (mapped86_mem M0 (by omega) (fun e he => by have := hMs e he; omega)) (.cons ?_ (.cons (Sub.refl _) .nil))
        have e1 : evsA M0 = .lslc 6 (((p.evs.map evR).drop x).take (y - x)) 0 (y - x) false := by
          rw [evsA, hMl, hM0, partL, List.map_take, List.map_drop]
        rw [e1, Int.toNat_natCast, Int.toNat_natCast, Nat.zero_add]
        exact Sub.part (by rw [List.length_map]; omega)
      obtain ⟨L1, hL1⟩ : ∃ L1, L1 = holds M0 := ⟨_, rfl⟩
      rw [← hL1]
      have hLl : L1.length = M0.length := by rw [hL1, holds_len]
      have hrl : ∀ eps, rowsD memL 0 eps 0 M0 = rowsD memL 0 eps 0 L1 := fun eps => rowsM_like (by rw [hL1, holds_key])
      refine pretM_of (okx [85] []) mixed (A := A49) 4 M0.length Try.func49 rfl ?_
      (conv => whnf)
      intro e0
      (conv => whnf)
      intro e1
      (repeat' ((conv => whnf); first | refine ⟨rfl, ?_⟩ | refine ⟨by decide, ?_⟩ | refine ⟨_, f1, ?_⟩ | refine ⟨by kernel_rfl, ?_⟩ | (refine ifB (fun hb => ?_) (fun hb => ?_) <;> (try simp only [decide_eq_true_eq, decide_eq_false_iff_not, beq_iff_eq, beq_eq_false_iff_ne, bne_iff_ne, bne_eq_false_iff_eq, ne_eq, not_false_eq_true, not_true_eq_false, Bool.not_eq_true, Bool.not_eq_true', Bool.not_eq_false', Int.not_lt, Int.not_le] at hb) <;> (try simp (disch := omega) only [wrapI] at hb) <;> (try (exfalso; omega))) | fail))
      intro e2
      (repeat' (first | exact rfl | ((conv => whnf); first | exact rfl | refine ⟨by kernel_rfl, ?_⟩ | exact ⟨rfl, rfl⟩ | refine ⟨rfl, ?_⟩ | refine ⟨by (first | omega | (simp (disch := omega) only [wrapI]; omega) | (simp (disch := omega) only [wrapI]; simp; omega) | (simp; omega)), ?_⟩ | (intro ep) | (refine ifB (fun hb => ?_) (fun hb => ?_) <;> (try (exfalso; simp only [decide_eq_true_eq] at hb; omega))) | fail)))
      (conv => whnf)
      obtain ⟨e3, he3⟩ : ∃ e3, e3 = ep := ⟨_, rfl⟩
      subst he3
      refine ⟨_, _, f2, fun eps => ?_⟩
      (repeat' (first | exact rfl | ((conv => whnf); first | exact rfl | refine ⟨by kernel_rfl, ?_⟩ | exact ⟨rfl, rfl⟩ | refine ⟨rfl, ?_⟩ | refine ⟨by (first | omega | (simp (disch := omega) only [wrapI]; omega) | (simp (disch := omega) only [wrapI]; simp; omega) | (simp; omega)), ?_⟩ | (intro ep) | fail)))
      (conv => whnf)
      refine loopM (okx [85] []) mixed (A := A49) [1, 6, 8, 10, 50, 51] [1, 2, 3] (S := { k : Nat // k ≤ M0.length })
        (fr := fun s => frOf 0 102 [(1, .int .i64 (x : Int)), (6, .optr (.s 1) e1 3 0 0), (8, .optr (.s 2) e2 3 0 0), (10, .optr (.s 3) e3 3 0 0), (50, .int .i64 M0.length), (51, .int .i64 (s.1 : Int))])
        (h := fun s => ⟨[.hole, .vec e1 [[.nils, .nils, .nils]], .vec e2 [[crsA p.ins.cs, intsA p.ins.steps, evsA P]], .vec e3 [[crsA p.ins.cs, intsA p.ins.steps, evsM M0 0 eps]]], objsD memL eps 0 (mix L1 M0 s.1) ++ [AObj.vec (eps M0.length) (rowsD memL 0 eps 0 M0)]⟩) (μ := fun s => M0.length - s.1) ⟨0, by omega⟩ (by exact rfl) ?_ ?_
      · rw [mix_zero]; exact rfl
      rintro ⟨i, hi⟩
      have hml : (mix L1 M0 i).length = M0.length := mix_len hLl i
      have hlast := objL (eps := eps) (o := AObj.vec (eps M0.length) (rowsD memL 0 eps 0 M0)) hml
      show aexR _ _ _ (frOf 0 102 [(1, .int .i64 (x : Int)), (6, .optr (.s 1) e1 3 0 0), (8, .optr (.s 2) e2 3 0 0), (10, .optr (.s 3) e3 3 0 0), (50, .int .i64 M0.length), (51, .int .i64 (i : Int))]) ⟨[.hole, .vec e1 [[.nils, .nils, .nils]], .vec e2 [[crsA p.ins.cs, intsA p.ins.steps, evsA P]], .vec e3 [[crsA p.ins.cs, intsA p.ins.steps, evsM M0 0 eps]]], objsD memL eps 0 (mix L1 M0 i) ++ [AObj.vec (eps M0.length) (rowsD memL 0 eps 0 M0)]⟩ _
      (repeat' (first | exact rfl | ((conv => whnf); first | exact rfl | refine ⟨by kernel_rfl, ?_⟩ | exact ⟨rfl, rfl⟩ | refine ⟨rfl, ?_⟩ | refine ⟨by (first | omega | (simp (disch := omega) only [wrapI]; omega) | (simp (disch := omega) only [wrapI]; simp; omega) | (simp; omega)), ?_⟩ | (intro ep) | fail)))
      (conv => whnf)
      refine ifB (fun g1 => ?_) (fun g1 => ?_)
      · simp only [decide_eq_true_eq] at g1
        have hlt : i < M0.length := by omega
        have hg : L1[i]'(by omega) = holdE ((M0.length : Int) - 1 - i) M0[i] := by rw [← holds_at hlt]; simp only [hL1]
        have hrow := rowG (B := 0) (eps := eps) hlt
        obtain ⟨ss, hss⟩ : ∃ ss, ss = M0[i].stops := ⟨_, rfl⟩
        have hsl := hMs M0[i] (List.getElem_mem hlt)
        rw [← hss] at hrow hsl
        obtain ⟨bs, hbs⟩ : ∃ bs, bs = ss.map (hmS ((M0.length : Int) - 1 - i)) := ⟨_, rfl⟩
        have hbl : bs.length = ss.length := by rw [hbs]; simp
        (repeat' (first | exact rfl | ((conv => whnf); first | refine optO hlast ?_ | refine optS hrow ?_ | exact rfl | refine ⟨by kernel_rfl, ?_⟩ | exact ⟨rfl, rfl⟩ | refine ⟨rfl, ?_⟩ | refine ⟨by (first | omega | (simp (disch := omega) only [wrapI]; omega) | (simp (disch := omega) only [wrapI]; simp; omega) | (simp; omega)), ?_⟩ | (intro ep) | fail)))
        (conv => whnf)
        refine loopM (okx [85] []) mixed (A := A49) [1, 6, 8, 10, 11, 12, 50, 51, 61, 62] [1, 2, 3] (S := { k : Nat // k ≤ ss.length })
          (fr := fun s => frOf 0 102 [(1, .int .i64 (x : Int)), (6, .optr (.s 1) e1 3 0 0), (8, .optr (.s 2) e2 3 0 0), (10, .optr (.s 3) e3 3 0 0), (11, .int .i64 (i : Int)), (12, .oslc (.d (0 + memL.c * (0 + i))) (eps (0 + i)) 5 0 ss.length false), (50, .int .i64 M0.length), (51, .int .i64 (i : Int)), (61, .int .i64 ss.length), (62, .int .i64 (s.1 : Int))])
          (h := fun s => ⟨[.hole, .vec e1 [[.nils, .nils, .nils]], .vec e2 [[crsA p.ins.cs, intsA p.ins.steps, evsA P]], .vec e3 [[crsA p.ins.cs, intsA p.ins.steps, evsM M0 0 eps]]], objsD memL eps 0 ((mix L1 M0 i).set i (evS M0[i] (mix bs ss s.1))) ++ [AObj.vec (eps M0.length) (rowsD memL 0 eps 0 M0)]⟩) (μ := fun s => ss.length - s.1) ⟨0, by omega⟩ (by exact rfl) ?_ ?_
        · have e : (mix L1 M0 i).set i (evS M0[i] (mix bs ss 0)) = mix L1 M0 i := by
            rw [mix_zero, hss]
            have := mix_at hLl hlt
            have e2 : evS M0[i] M0[i].stops = (mix L1 M0 i)[i]'(by rw [hml]; exact hlt) := by rw [this]; rfl
            rw [e2, List.set_getElem_self]
          rw [e]; exact rfl
        rintro ⟨k, hk⟩
        obtain ⟨M, hM⟩ : ∃ M, M = (mix L1 M0 i).set i (evS M0[i] (mix bs ss k)) := ⟨_, rfl⟩
        have hMl2 : M.length = M0.length := by rw [hM, List.length_set, hml]
        have hMi : (M[i]'(by omega)).stops = mix bs ss k := by simp [hM, evS]
        show aexR _ _ _ (frOf 0 102 [(1, .int .i64 (x : Int)), (6, .optr (.s 1) e1 3 0 0), (8, .optr (.s 2) e2 3 0 0), (10, .optr (.s 3) e3 3 0 0), (11, .int .i64 (i : Int)), (12, .oslc (.d (0 + memL.c * (0 + i))) (eps (0 + i)) 5 0 ss.length false), (50, .int .i64 M0.length), (51, .int .i64 (i : Int)), (61, .int .i64 ss.length), (62, .int .i64 (k : Int))]) ⟨[.hole, .vec e1 [[.nils, .nils, .nils]], .vec e2 [[crsA p.ins.cs, intsA p.ins.steps, evsA P]], .vec e3 [[crsA p.ins.cs, intsA p.ins.steps, evsM M0 0 eps]]], objsD memL eps 0 ((mix L1 M0 i).set i (evS M0[i] (mix bs ss k))) ++ [AObj.vec (eps M0.length) (rowsD memL 0 eps 0 M0)]⟩ _
        rw [← hM]
        have hobj := objG (eps := eps) (X := [AObj.vec (eps M0.length) (rowsD memL 0 eps 0 M0)]) (l := M) (k := i) (by omega) hMi
        (repeat' (first | exact rfl | ((conv => whnf); first | refine optO hobj ?_ | exact rfl | refine ⟨by kernel_rfl, ?_⟩ | exact ⟨rfl, rfl⟩ | refine ⟨rfl, ?_⟩ | refine ⟨by (first | omega | (simp (disch := omega) only [wrapI]; omega) | (simp (disch := omega) only [wrapI]; simp; omega) | (simp; omega)), ?_⟩ | (intro ep) | fail)))
        (conv => whnf)
        refine ifB (fun g2 => ?_) (fun g2 => ?_)
        · simp only [decide_eq_true_eq] at g2
          have hk2 : k < ss.length := by omega
          have hst := mixR (f := stR) hbl hk2
          (repeat' (first | exact rfl | ((conv => whnf); first | refine optO hobj ?_ | refine optS hst ?_ | exact rfl | refine ⟨by kernel_rfl, ?_⟩ | exact ⟨rfl, rfl⟩ | refine ⟨rfl, ?_⟩ | refine ⟨by (first | omega | (simp (disch := omega) only [wrapI]; omega) | (simp (disch := omega) only [wrapI]; simp; omega) | (simp; omega)), ?_⟩ | (intro ep) | fail)))
          (conv => whnf)
          refine back_of ⟨k + 1, by omega⟩ ⟨by (first | exact rfl | (simp (disch := omega) only [wrapI]; exact rfl)), ?_, by simp only; omega⟩
          simp only
          have hW : IntKind.i64.wrap (IntKind.i64.wrap ((M0.length : Int) - 1) - (i : Int)) = (M0.length : Int) - 1 - i := by rw [IntWalk.i64_in ((M0.length : Int) - 1) (by omega), IntWalk.i64_in _ (by omega)]
          have hbk : stR (bs[k]'(by omega)) = [.int .i64 ss[k].c, .int .i64 ss[k].f, .int .i64 ss[k].r, .int .i64 ss[k].g, .int .i64 (if (if (false : Bool) = true then ss[k].h < IntKind.i64.wrap (IntKind.i64.wrap ((M0.length : Int) - 1) - (i : Int)) else IntKind.i64.wrap (IntKind.i64.wrap ((M0.length : Int) - 1) - (i : Int)) < ss[k].h) then IntKind.i64.wrap (IntKind.i64.wrap ((M0.length : Int) - 1) - (i : Int)) else ss[k].h)] := by
            rw [hW]
            simp [hbs, hmS, stR, hmin]
          refine Eq.trans (b := ⟨[.hole, .vec e1 [[.nils, .nils, .nils]], .vec e2 [[crsA p.ins.cs, intsA p.ins.steps, evsA P]], .vec e3 [[crsA p.ins.cs, intsA p.ins.steps, evsM M0 0 eps]]],
            (objsD memL eps 0 M ++ [AObj.vec (eps M0.length) (rowsD memL 0 eps 0 M0)]).set (0 + memL.c * (0 + i)) (.vec (eps (0 + i)) (((mix bs ss k).map stR).set (0 + ((k : Nat) : Int).toNat) [.int .i64 ss[k].c, .int .i64 ss[k].f, .int .i64 ss[k].r, .int .i64 ss[k].g, .int .i64 (if (if (false : Bool) = true then ss[k].h < IntKind.i64.wrap (IntKind.i64.wrap ((M0.length : Int) - 1) - (i : Int)) else IntKind.i64.wrap (IntKind.i64.wrap ((M0.length : Int) - 1) - (i : Int)) < ss[k].h) then IntKind.i64.wrap (IntKind.i64.wrap ((M0.length : Int) - 1) - (i : Int)) else ss[k].h)]))⟩) rfl ?_
          rw [← hbk, mix_set (f := stR) hbl hk2 rfl, objS (ss := mix bs ss (k + 1)) (l := M) (k := i) (by omega) (e' := evS M0[i] (mix bs ss (k + 1))) rfl, hM, List.set_set]
        · simp only [decide_eq_false_iff_not] at g2
          obtain rfl : k = ss.length := by omega
          (conv => whnf)
          refine back_of ⟨i + 1, by omega⟩ ⟨by (first | exact rfl | (simp (disch := omega) only [wrapI]; exact rfl)), ?_, by simp only; omega⟩
          simp only
          rw [mix_succ hLl hlt, hg, hM, mix_end hbl, hbs, hss]
          exact rfl
      · simp only [decide_eq_false_iff_not] at g1
        obtain rfl : i = M0.length := by omega
        rw [mix_end hLl]
        have hlast2 := objL (eps := eps) (o := AObj.vec (eps M0.length) (rowsD memL 0 eps 0 M0)) hLl
        by_cases hm : M0.length = 0
        · have hn1 : L1 = [] := List.eq_nil_of_length_eq_zero (by omega)
          have hL0 : headL (sgAt P x) L1 = L1 := by rw [hn1]; rfl
          rw [hL0]
          (repeat' ((conv => whnf); first | refine ⟨rfl, ?_⟩ | (refine ifB (fun hb => ?_) (fun hb => ?_) <;> (try (exfalso; simp only [decide_eq_true_eq] at hb; omega))) | fail))
          (conv => whnf)
          refine end_pcU (l := L1) (i := p.ins) (eps := eps) hLl ?_
          show objsD memL eps 0 L1 ++ [AObj.vec (eps M0.length) (rowsD memL 0 eps 0 M0)] = _
          rw [hrl]
        · have hx : x < P.length := by omega
          have hPx := mapR (f := evR) (l := P) (i := x) hx
          have hlt0 := (List.getElem?_eq_some_iff.1 hlast2).1
          have hr0 := rowG (B := 0) (eps := eps) (l := M0) (k := 0) (by omega)
          have hr0' : (rowsD memL 0 eps 0 M0)[0 + (0 : Int).toNat]? = some (evX M0[0] (.oslc (.d (0 + memL.c * (0 + 0))) (eps (0 + 0)) 5 0 M0[0].stops.length false)) := hr0
          have h3 : ∀ r, ((objsD memL eps 0 L1 ++ [AObj.vec (eps M0.length) (rowsD memL 0 eps 0 M0)]).set (0 + memL.c * M0.length) (.vec (eps M0.length) r))[0 + memL.c * M0.length]? = some (.vec (eps M0.length) r) := fun r => by rw [List.getElem?_set_self hlt0]
          have h4 : ∀ r, ((rowsD memL 0 eps 0 M0).set (0 + (0 : Int).toNat) r)[0 + (0 : Int).toNat]? = some r := fun r => set_get (List.getElem?_eq_some_iff.1 hr0').1
          (repeat' (first | exact rfl | ((conv => whnf); first | refine optS hPx ?_ | refine optS hr0' ?_ | refine optS (h4 _) ?_ | refine optO hlast2 ?_ | refine optO (h3 _) ?_ | exact rfl | refine ⟨by kernel_rfl, ?_⟩ | exact ⟨rfl, rfl⟩ | refine ⟨rfl, ?_⟩ | refine ⟨by (first | omega | (simp (disch := omega) only [wrapI]; omega) | (simp (disch := omega) only [wrapI]; simp; omega) | (simp; omega)), ?_⟩ | (intro ep) | (refine ifB (fun hb => ?_) (fun hb => ?_) <;> (try (exfalso; simp only [decide_eq_false_iff_not] at hb; omega))) | fail)))
          (conv => whnf)
          have hsg : sgAt P x = P[x].sg := by unfold sgAt; rw [List.getElem?_eq_getElem hx]
          have hl0 : 0 < L1.length := by omega
          obtain ⟨L2, hL2⟩ : ∃ L2, L2 = headL (sgAt P x) L1 := ⟨_, rfl⟩
          have hL2s : L2 = L1.set 0 (headE P[x].sg L1[0]) := by rw [hL2, headL_set hl0, hsg]
          have hL2l : L2.length = M0.length := by rw [hL2s, List.length_set, hLl]
          rw [← hL2]
          have hst0 : (L1[0]).stops.length = M0[0].stops.length := by simp [hL1, holds, holdE, evS]
          have hk0 : rowKey L1[0] = rowKey M0[0] := by simp [hL1, holds, holdE, evS, rowKey]
          refine end_pcU (l := L2) (i := p.ins) (eps := eps) hL2l ?_
          refine Eq.trans (b := ((objsD memL eps 0 L1 ++ [AObj.vec (eps M0.length) (rowsD memL 0 eps 0 M0)]).set (0 + memL.c * M0.length) (.vec (eps M0.length) ((rowsD memL 0 eps 0 M0).set (0 + (0 : Int).toNat) (evX { M0[0] with v := P[x].v, d := P[x].d, t := P[x].t } (.oslc (.d (0 + memL.c * (0 + 0))) (eps (0 + 0)) 5 0 M0[0].stops.length false))))).set (0 + memL.c * M0.length)
            (.vec (eps M0.length) (((rowsD memL 0 eps 0 M0).set (0 + (0 : Int).toNat) (evX { M0[0] with v := P[x].v, d := P[x].d, t := P[x].t } (.oslc (.d (0 + memL.c * (0 + 0))) (eps (0 + 0)) 5 0 M0[0].stops.length false))).set (0 + (0 : Int).toNat) (evX (headE P[x].sg M0[0]) (.oslc (.d (0 + memL.c * (0 + 0))) (eps (0 + 0)) 5 0 M0[0].stops.length false))))) rfl ?_
          rw [List.set_set, List.set_set, objLs hLl, hrl]
          have hks : evX (headE P[x].sg M0[0]) (.oslc (.d (0 + memL.c * (0 + 0))) (eps (0 + 0)) 5 0 M0[0].stops.length false) = evX (headE P[x].sg L1[0]) (.oslc (.d (0 + memL.c * (0 + 0))) (eps (0 + 0)) 5 0 L1[0].stops.length false) := by
            simp only [rowKey, Prod.mk.injEq] at hk0
            simp only [evX, headE, hk0]
          have hset := rowsM_set (B := 0) (eps := eps) (e' := headE P[x].sg L1[0]) (l := L1) (i := 0) (k := 0) hl0 rfl
          rw [hks, show (0 : Nat) + (0 : Int).toNat = 0 from rfl, hset, ← hL2s]
          have ho := objsM_same (eps := eps) (i := 0) (e' := headE P[x].sg L1[0]) (l := L1) (k := 0) hl0 rfl
          rw [← hL2s] at ho
          rw [ho]
  · rw [if_pos hc] at f1 ⊢
    refine pretD_of (okx [85] []) mixed (A := A49) 4 Try.func49 rfl ?_
    (repeat' (first | exact rfl | ((conv => whnf); first | refine ⟨_, f1, ?_⟩ | exact rfl | refine ⟨by kernel_rfl, ?_⟩ | exact ⟨rfl, rfl⟩ | refine ⟨rfl, ?_⟩ | refine ⟨by (first | omega | (simp (disch := omega) only [wrapI]; omega) | (simp (disch := omega) only [wrapI]; simp; omega) | (simp; omega)), ?_⟩ | (intro ep) | refine ⟨fun o ho => (List.not_mem_nil (a := o) ho).elim, ?_⟩ | (refine ifB (fun hb => ?_) (fun hb => ?_) <;> (try simp only [decide_eq_true_eq, decide_eq_false_iff_not, beq_iff_eq, beq_eq_false_iff_ne, bne_iff_ne, bne_eq_false_iff_eq, ne_eq, not_false_eq_true, not_true_eq_false, Bool.not_eq_true, Bool.not_eq_true', Bool.not_eq_false', Int.not_lt, Int.not_le] at hb) <;> (try simp (disch := omega) only [wrapI] at hb) <;> (try (exfalso; omega))) | fail)))

end Go.Ab.V

/-
  The document's Cut. No condition but the machine's bounds on lengths.
-/
namespace Go.Ab.V
open Go.Proofs

/-- the end of a function that hands back a piece whose stops lie in X; Y is what else there is -/
theorem end_mem2 {X Y : List AObj} {ep n : Nat} {rows : List (List AV)} {l : List Evt} {i : Ins} {D st : List AObj} {m : Nat} (hm : X.length = m) (hX : ∀ o ∈ X, pureObj o) (hY : ∀ o ∈ Y, pureObj (o.fz2 X)) (hr : (rows.map fun r => r.map (fzC2 X)) = l.map evR) (hn : n = l.length) (hD : D = X ++ Y ++ [.vec ep rows]) :
    m ≤ D.length ∧ (∀ o ∈ D.take m, pureObj o) ∧ (fun v h' => frzD h' v fun v h' => frzK h' v fun r' _ => r'.isPure2 = true ∧ r' = .tup [pcA ⟨i, l⟩, .int .i64 0])
      (fzV2 (D.take m) (.tup [.agg [crsA i.cs, intsA i.steps, .oslc (.d (X ++ Y).length) ep 6 0 n false], .int .i64 0])) ⟨st.map (AObj.fz2 (D.take m)), List.replicate m .hole ++ (D.drop m).map (AObj.fz2 (D.take m))⟩ := by
  subst hn hm
  have e0 : D.take X.length = X := by rw [hD, List.append_assoc, List.take_left]
  have e9 : D.drop X.length = Y ++ [.vec ep rows] := by rw [hD, List.append_assoc, List.drop_left]
  rw [e0, e9]
  refine ⟨by rw [hD]; simp, hX, ?_⟩
  show frzD _ _ _
  unfold frzD
  refine ⟨fun o ho => ?_, ?_⟩
  · rcases List.mem_append.1 ho with ho | ho
    · obtain ⟨_, rfl⟩ := List.mem_replicate.1 ho
      trivial
    · obtain ⟨o', ho', rfl⟩ := List.mem_map.1 ho
      rcases List.mem_append.1 ho' with h | h
      · exact hY o' h
      · obtain rfl := List.mem_singleton.1 h
        show pureRows (rows.map fun r => r.map (fzC2 X))
        rw [hr]
        exact pure_map l fun x => rfl
  · have e1 : fzV2 X (.tup [.agg [crsA i.cs, intsA i.steps, .oslc (.d (X ++ Y).length) ep 6 0 l.length false], .int .i64 0]) = .tup [.agg [crsA i.cs, intsA i.steps, .oslc (.d (X ++ Y).length) ep 6 0 l.length false], .int .i64 0] := by
      have : X[(X ++ Y).length]? = none := List.getElem?_eq_none (by simp)
      simp [fzV2, fzC2, this, crsA, intsA]
    rw [e1]
    have e2 : (List.replicate X.length AObj.hole ++ (Y ++ [AObj.vec ep rows]).map (AObj.fz2 X))[(X ++ Y).length]? = some (.vec ep (l.map evR)) := by
      rw [List.getElem?_append_right (by simp)]
      simp only [List.length_replicate, List.length_append, List.map_append, List.map_cons, List.map_nil]
      rw [List.getElem?_append_right (by simp)]
      simp only [List.length_map, Nat.add_sub_cancel_left, Nat.sub_self, List.getElem?_cons_zero]
      show some (AObj.vec ep (rows.map fun r => r.map (fzC2 X))) = _
      rw [hr]
    have e3 : ∀ dy : List AObj, dy[(X ++ Y).length]? = some (.vec ep (l.map evR)) → fzV dy (.tup [.agg [crsA i.cs, intsA i.steps, .oslc (.d (X ++ Y).length) ep 6 0 l.length false], .int .i64 0]) = .tup [pcA ⟨i, l⟩, .int .i64 0] := by
      intro dy h
      simp only [fzV, List.map_cons, List.map_nil, fzC, h, if_pos, crsA, intsA, pcA, evsA]
    rw [e3 _ e2]
    exact frzK_pure rfl ⟨rfl, rfl⟩
/-- rows whose stops lie in X -/
theorem rowsM_fzB {eps : Nat → Nat} {X : List AObj} {B : Nat} : ∀ (l : List Evt) (i : Nat), (∀ k (h : k < l.length), X[B + memL.c * (i + k)]? = some (.vec (eps (i + k)) (l[k].stops.map stR))) → ((rowsD memL B eps i l).map fun r => r.map (fzC2 X)) = l.map evR
  | [], _, _ => rfl
  | e :: r, i, h => by
    have h0 := h 0 (by simp)
    have ih := rowsM_fzB (eps := eps) (X := X) (B := B) r (i + 1) fun k hk => by
      have := h (k + 1) (by simpa using hk)
      rw [show i + (k + 1) = i + 1 + k by omega] at this
      simpa using this
    simp only [rowsD, List.map_cons, ih, List.cons.injEq, and_true]
    show [AV.bool e.bar, .int .i64 e.v, .bool e.d, .bool e.t, .bool e.tie, fzC2 X (.oslc (.d (B + memL.c * i)) (eps i) 5 0 e.stops.length false)] = evR e
    simp only [Nat.add_zero, List.getElem_cons_zero] at h0
    have : fzC2 X (.oslc (.d (B + memL.c * i)) (eps i) 5 0 e.stops.length false) = stsA e.stops := by
      simp only [fzC2, h0, if_pos]
      rfl
    rw [this]
    rfl
theorem rowsM_fzP {eps : Nat → Nat} {X : List AObj} : ∀ (l : List Evt) (i : Nat), (∀ k, k < l.length → ∃ r, X[0 + memL.c * (i + k)]? = some (.vec (eps (i + k)) r)) → pureRows ((rowsD memL 0 eps i l).map fun r => r.map (fzC2 X))
  | [], _, _ => fun r h => by cases h
  | e :: r, i, h => by
    have ih := rowsM_fzP (eps := eps) (X := X) r (i + 1) fun k hk => by
      obtain ⟨y, this⟩ := h (k + 1) (by simpa using hk)
      rw [show i + (k + 1) = i + 1 + k by omega] at this
      exact ⟨y, this⟩
    obtain ⟨y, h0⟩ := h 0 (by simp)
    simp only [Nat.add_zero] at h0
    intro row hrow c hc
    rcases List.mem_cons.1 hrow with rfl | hrow
    · have e9 : fzC2 X (.oslc (.d (0 + memL.c * i)) (eps i) 5 0 e.stops.length false) = .lslc 5 y 0 e.stops.length false := by
        simp only [fzC2, h0, if_pos]
      have : [AV.bool e.bar, .int .i64 e.v, .bool e.d, .bool e.t, .bool e.tie, fzC2 X (.oslc (.d (0 + memL.c * i)) (eps i) 5 0 e.stops.length false)].all AV.pure1 = true := by rw [e9]; rfl
      exact List.all_eq_true.1 this c hc
    · exact ih row hrow c hc


theorem headL_zero {s : Sgn} {l : List Evt} (h : 0 < l.length) (h2 : 0 < (headL s l).length) : (headL s l)[0] = headE s l[0] := by
  cases l with
  | nil => simp at h
  | cons e r => rfl
theorem headL_at {s : Sgn} {l : List Evt} {j : Nat} (h0 : j ≠ 0) (h : j < l.length) (h2 : j < (headL s l).length) : (headL s l)[j] = l[j] := by
  cases l with
  | nil => simp at h
  | cons e r =>
    cases j with
    | zero => exact absurd rfl h0
    | succ j => rfl
end Go.Ab.V

/-
  The law PieceCuts is true at every input.
-/
namespace Go.Ab.V
open Go.Proofs

theorem headL_mem {s : Sgn} {l : List Evt} {e : Evt} (h : e ∈ headL s l) : ∃ x ∈ l, x.stops = e.stops := by
  cases l with
  | nil => cases h
  | cons a r =>
    rcases List.mem_cons.1 h with rfl | h
    · exact ⟨a, List.mem_cons_self .., rfl⟩
    · exact ⟨e, List.mem_cons_of_mem _ h, rfl⟩
theorem holds_mem {l : List Evt} {e : Evt} (h : e ∈ holds l) : ∃ x ∈ l, x.stops.length = e.stops.length := by
  obtain ⟨i, hi, rfl⟩ := List.getElem_of_mem h
  have hi' : i < l.length := by rw [holds_len] at hi; exact hi
  refine ⟨l[i], List.getElem_mem hi', ?_⟩
  rw [holds_at hi']
  simp [holdE, evS]
theorem cut_sm {p x : Pc} {a b : Int} (hs : p.Sm) (h : cutP p a b = .ok x) : x.Sm := by
  unfold cutP at h
  split at h
  · cases h
  · split at h
    · cases h
    · rename_i hb
      cases h
      refine ⟨hs.cs, hs.st, ?_, fun e he => ?_⟩
      · have : (headL (sgAt (outE plnS sz p.evs) a.toNat) (holds (partL p a.toNat b.toNat))).length = (partL p a.toNat b.toNat).length := by
          rw [← holds_len (partL p a.toNat b.toNat)]
          cases holds (partL p a.toNat b.toNat) <;> simp [headL]
        show (headL _ _).length ≤ 4000
        rw [this, partL, List.length_take, List.length_drop]
        have := hs.ev
        omega
      · obtain ⟨y, hy, hys⟩ := headL_mem he
        obtain ⟨z, hz, hzs⟩ := holds_mem hy
        rw [← hys, ← hzs]
        exact hs.sp z (List.mem_of_mem_drop (List.mem_of_mem_take hz))

end Go.Ab.V
