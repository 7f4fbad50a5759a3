/-
  What is proved here serves the law's text: each part says its own claim and its conditions. No condition is left open.
-/
import Derived.Test.YtgnhnapnjmbieaaKL
import Derived.Test.YtgnhnapnjmbieaaKM
set_option linter.unusedSimpArgs false
set_option linter.unusedVariables false

/-
  Copies as new memory, the stops of each event as an object of their own: by the program. No condition but the machine's bounds on lengths.
-/
namespace Go.Ab

/-- such a contract of a function that may hand back nil for a slice without elements -/
theorem hretN_of {C : Ctx} (ok : COk C) (hm : C.P.follows .mixedOrders = true) {A : Ann} {f : FuncId} {fn : Func} {c : Code} (n : Nat) (hf : C.P.funcs[f]? = some fn) (hb : fn.body = some c) {args : List AV} {R : Nat → (Nat → Nat) → AV} {H : Nat → (Nat → Nat) → List AObj} {N : Prop} {sz : Nat}
    (hN : N → ∀ eps, R 0 eps = .oslc (.d 0) (eps 0) sz 0 0 false ∧ H 0 eps = [.vec (eps 0) []])
    (hk : forceR (frame0 args fn.ntmps) fun fr => forceHR (heap0 Heap.nil n) fun h => aexR C A c fr h fun e fr h' => match e with
      | .normal => resR C.ti fn.results.toList fr h' fun vs => retV vs fun v => (v = .nils ∧ h'.dy = [] ∧ N) ∨ movK h' v fun r' h'' => ∃ eps, r' = R 0 eps ∧ h''.dy = H 0 eps
      | .ret => resR C.ti fn.results.toList fr h' fun vs => retV vs fun v => (v = .nils ∧ h'.dy = [] ∧ N) ∨ movK h' v fun r' h'' => ∃ eps, r' = R 0 eps ∧ h''.dy = H 0 eps
      | .exit _ => False)
    (hsh : ∀ B E eps, ∃ eps', (R 0 eps).sh B E = R B eps' ∧ (H 0 eps).map (AObj.sh B E) = H B eps') (hy : C.yl = none := by rfl) : HRet C.P f args R H := by
  refine ⟨⟨fun σ w vs s hv => ?_⟩, hsh⟩
  refine ((fn_of ok hm n hf hb hk hy).use σ w vs s hv).mono ?_
  rintro e w' ⟨v, rfl, σ1, h1, r, k, m, x⟩
  rcases k with ⟨rfl, hd, hn⟩ | k
  · have m1 : Mv σ1 h1 w' σ1 ⟨h1.st, [.hole]⟩ w' := m.sim.forget fun i o ho => by
      cases i with
      | s k => exact .inr ho
      | d k =>
        have ho : ([AObj.hole] : List AObj)[k]? = some o := ho
        cases k with
        | zero => simp at ho; exact .inl ho.symm
        | succ k => simp at ho
    obtain ⟨ep, σ2, m2, hp⟩ := m1.sim.allocNil (.d 0)
    obtain ⟨e1, e2⟩ := hN hn fun _ => ep
    refine ⟨v, rfl, σ2, _, .oslc (.d 0) ep sz 0 0 false, ⟨fun _ => ep, e1.symm, e2.symm⟩, (m.trans m1).trans m2, ?_⟩
    cases x
    exact .onil hp
  · obtain ⟨σ2, h2, r2, m2, x2, k2⟩ := movK_sound m.sim x k
    exact ⟨v, rfl, σ2, h2, r2, k2, m.trans m2, x2⟩

end Go.Ab
namespace Go.Ab.V
open Go.Proofs

theorem sh_rowsS {B E : Nat} : ∀ (l : List Stp), ((l.map stR).map fun r => r.map (AV.sh1 B E)) = l.map stR
  | [] => rfl
  | e :: r => by rw [List.map_cons, List.map_cons, sh_rowsS r]; rfl

set_option maxHeartbeats 1000000 in
set_option maxRecDepth 100000 in
theorem clone113_mem (l : List Stp) (hl : l.length ≤ 100000) : HRet C.P 113 [stsA l] (fun B eps => .oslc (.d B) (eps 0) 5 0 l.length false) (fun B eps => [.vec (eps 0) (l.map stR)]) := by
  have t1 : List.take l.length (List.drop 0 (l.map stR)) = l.map stR := takeAll l _
  refine hretN_of ok mixed (A := A113) 2 Try.func113 rfl (N := l.length = 0) (sz := 5) (fun h eps => ?_) ?_ (fun B E eps => ⟨fun k => eps k + E, rfl, by rw [List.map_cons, AObj.sh, sh_rowsS]; rfl⟩)
  · have : l = [] := List.eq_nil_of_length_eq_zero h
    subst this
    exact ⟨rfl, rfl⟩
  (repeat' (first | exact rfl | ((conv => whnf); first | exact rfl | refine ⟨by kernel_rfl, ?_⟩ | exact ⟨rfl, rfl⟩ | refine ⟨rfl, ?_⟩ | refine ⟨by (first | omega | (simp (disch := omega) only [wrapI]; omega) | (simp (disch := omega) only [wrapI]; simp; omega) | (simp; omega)), ?_⟩ | (intro ep) | refine ⟨fun hn0 => ?_, ?_⟩ | fail)))
  · exact .inl ⟨rfl, rfl, hn0⟩
  · refine .inr ?_
    (conv => whnf)
    refine ⟨rfl, fun ep2 => ?_⟩
    refine ⟨fun _ => ep2, ?_, ?_⟩
    · show AV.oslc (.d 0) ep2 5 0 (0 + (List.take l.length (List.drop 0 (l.map stR))).length) false = _
      rw [t1, List.length_map, Nat.zero_add]
    · show [AObj.vec ep2 (List.take l.length (List.drop 0 (l.map stR)))] = _
      rw [t1]

/-- the copy of an event, its stops lying where they come to lie -/
def evM (e : Evt) (B ep : Nat) : AV := .agg (evX e (.oslc (.d B) ep 5 0 e.stops.length false))
set_option maxHeartbeats 1000000 in
set_option maxRecDepth 100000 in
theorem copied_mem (e : Evt) (h1 : e.stops.length ≤ 100000) : HRet C.P 86 [.agg (evR e)] (fun B eps => evM e B (eps 0)) (fun B eps => [.vec (eps 0) (e.stops.map stR)]) := by
  have c1 := clone113_mem e.stops h1
  refine hret_of (okx [113] []) mixed (A := A86) 2 Try.func86 rfl ?_ (fun B E eps => ⟨fun k => eps k + E, rfl, by rw [List.map_cons, AObj.sh, sh_rowsS]; rfl⟩)
  (repeat' ((conv => whnf); first | refine ⟨rfl, ?_⟩ | refine ⟨by decide, ?_⟩ | refine ⟨_, _, c1, fun eps => ?_⟩ | refine ⟨by kernel_rfl, ?_⟩ | (intro ep) | fail))
  exact ⟨eps, rfl, rfl⟩

end Go.Ab.V

/-
  The program's Plain as new memory, the stops of each event as an object of their own. No condition but the machine's bounds on lengths.
-/
namespace Go.Ab.V
open Go.Proofs

/-! ### a piece in memory -/
theorem objsM_sh (B E : Nat) (eps : Nat → Nat) : ∀ (l : List Evt) (i : Nat), (objsD memL eps i l).map (AObj.sh B E) = objsD memL (fun k => eps k + E) i l
  | [], _ => rfl
  | e :: r, i => by
    simp only [objsD, List.map_append, objsM_sh B E eps r (i + 1)]
    congr 1
    show [AObj.vec (eps i + E) ((e.stops.map stR).map fun r => r.map (AV.sh1 B E))] = _
    rw [sh_rowsS]
    rfl
theorem rowsM_sh (B E : Nat) (eps : Nat → Nat) : ∀ (l : List Evt) (i : Nat), ((rowsD memL 0 eps i l).map fun r => r.map (AV.sh1 B E)) = rowsD memL B (fun k => eps k + E) i l
  | [], _ => rfl
  | e :: r, i => by
    simp only [rowsD, List.map_cons, rowsM_sh B E eps r (i + 1)]
    congr 1
    show [AV.bool e.bar, .int .i64 e.v, .bool e.d, .bool e.t, .bool e.tie, .oslc (.d (B + (0 + memL.c * i))) (eps i + E) 5 0 e.stops.length false] = _
    rw [Nat.zero_add]
    rfl
/-- a piece in memory, by one naming of epochs -/
def pcM (i : Ins) (l : List Evt) (B : Nat) (eps : Nat → Nat) : AV := pcD memL i B (eps l.length) eps l
def pcMO (l : List Evt) (B : Nat) (eps : Nat → Nat) : List AObj := pcO memL B (eps l.length) eps l
theorem pcM_shA (i : Ins) (l : List Evt) (B E : Nat) (eps : Nat → Nat) : (pcM i l 0 eps).shA B E = pcM i l B (fun k => eps k + E) := by
  show AV.agg [crsA i.cs, intsA i.steps, .oslc (.d (B + (0 + memL.c * l.length))) (eps l.length + E) 6 0 l.length false] = _
  rw [Nat.zero_add]
  rfl
theorem pcMO_sh (l : List Evt) (B E : Nat) (eps : Nat → Nat) : (pcMO l 0 eps).map (AObj.sh B E) = pcMO l B (fun k => eps k + E) := by
  unfold pcMO pcO
  rw [List.map_append, objsM_sh]
  congr 1
  show [AObj.vec (eps l.length + E) ((rowsD memL 0 eps 0 l).map fun r => r.map (AV.sh1 B E))] = _
  rw [rowsM_sh]
theorem pcM_of (i : Ins) (l : List Evt) (B : Nat) (epo : Nat) (eps : Nat → Nat) : ∃ eps', pcD memL i B epo eps l = pcM i l B eps' ∧ pcO memL B epo eps l = pcMO l B eps' := by
  refine ⟨fun j => if j = l.length then epo else eps j, ?_, ?_⟩
  · simp only [pcM, pcD, if_pos]
  · simp only [pcMO, pcO, if_pos]
    rw [objsD_congr (g := eps) memL l 0 fun j _ h => if_neg (by omega), rowsD_congr (g := eps) memL B l 0 fun j _ h => if_neg (by omega)]

set_option maxHeartbeats 2000000 in
set_option maxRecDepth 100000 in
theorem c95_mem {T : Type} {o : T → AObj} {st : T → Evt → T × Evt} {e0 sz : Nat} {Good : Evt → Prop} (h : Chs o st 95 [.optr (.s 0) e0 sz 0 0] Good) (hst : ∀ s e, (st s e).2.stops = e.stops) : Chg memL o st 95 [.optr (.s 0) e0 sz 0 0] (fun e => Good e ∧ e.stops.length ≤ 100000) := by
  intro ec s e dy hg
  have c1 := copied_mem e hg.2
  refine fn_of (okx [86] []) mixed (A := A110) 2 Try.func110 rfl ?_
  (repeat' ((conv => whnf); first | refine ⟨_, _, c1, fun eps => ?_⟩ | exact rfl | refine ⟨by kernel_rfl, ?_⟩ | exact ⟨rfl, rfl⟩ | refine ⟨rfl, ?_⟩ | refine ⟨by (first | omega | (simp (disch := omega) only [wrapI]; omega) | (simp (disch := omega) only [wrapI]; simp; omega) | (simp; omega)), ?_⟩ | (intro ep) | fail))
  (conv => whnf)
  have key := h s e (.oslc (.d dy.length) (eps 0) 5 0 e.stops.length false) (dy ++ [AObj.vec (eps 0) (e.stops.map stR)]) hg.1
  rename_i ep1
  have hh := fun K => ACalls.part (K := K) (h := ⟨[o s, .vec ec [[.fn (.func 95) [] [.optr (.s 0) e0 sz 0 0]]], .vec ep1 [evR e], .vec ep [[.bool false, .int .i64 0, .bool false, .bool false, .bool false, .nils]]], dy ++ [AObj.vec (eps 0) (e.stops.map stR)]⟩) (dy := dy ++ [AObj.vec (eps 0) (e.stops.map stR)]) 1 (by exact rfl) (by exact rfl) (by exact rfl) key
  refine hh _ ?_
  rintro r h3 ⟨rfl, hq, hd⟩
  rw [hq, hd]
  (repeat' ((conv => whnf); first | refine ⟨rfl, ?_⟩ | fail))
  refine ⟨eps 0, ?_, rfl, ?_⟩
  · show AV.agg (evX (st s e).2 (.oslc (.d dy.length) (eps 0) 5 0 e.stops.length false)) = _
    rw [← hst s e]
    rfl
  · show dy ++ [.vec (eps 0) (e.stops.map stR)] = dy ++ [.vec (eps 0) ((st s e).2.stops.map stR)]
    rw [hst]

/-- the program's Plain: new memory -/
def plnE (p : Pc) : List Evt := outE plnS ⟨0, false, false⟩ p.evs
set_option maxHeartbeats 2000000 in
set_option maxRecDepth 100000 in
theorem plain_mem (p : Pc) (hp : p.Ok) (hs : p.Sm) (hc : chk p = 0) : HRet C.P 54 [pcA p] (fun B eps => .tup [pcM p.ins (plnE p) B eps, .int .i64 0]) (fun B eps => pcMO (plnE p) B eps) := by
  refine hret_of ok mixed (A := A54) 3 Try.func54 rfl ?_ (fun B E eps => ⟨fun k => eps k + E, ?_, pcMO_sh _ _ _ _⟩)
  · (repeat' (first | exact rfl | ((conv => whnf); first | exact rfl | refine ⟨by kernel_rfl, ?_⟩ | exact ⟨rfl, rfl⟩ | refine ⟨rfl, ?_⟩ | refine ⟨by (first | omega | (simp (disch := omega) only [wrapI]; omega) | (simp (disch := omega) only [wrapI]; simp; omega) | (simp; omega)), ?_⟩ | (intro ep) | fail)))
    obtain ⟨e0, he0⟩ : ∃ e0, e0 = ep := ⟨_, rfl⟩
    subst he0
    (conv => whnf)
    have key := rewritten_spec (c95_mem (pln_chs e0) (fun s e => by unfold plnS; split <;> rfl)) p hp hs hc (fun e he => ⟨trivial, by have := hs.sp e he; omega⟩) ⟨0, false, false⟩ []
    obtain ⟨l, hl⟩ : ∃ l, l = outE plnS ⟨0, false, false⟩ p.evs := ⟨_, rfl⟩
    rw [← hl] at key
    unfold plnE
    rw [← hl]
    refine ACalls.part (dy := []) 1 (by exact rfl) (by exact rfl) (by exact rfl) key ?_
    rintro r h3 ⟨eps, epo, rfl, hq, hd⟩
    obtain ⟨eps', m1, m2⟩ := pcM_of p.ins l ([] : List AObj).length epo eps
    rw [hq, hd]
    (repeat' ((conv => whnf); first | refine ⟨rfl, ?_⟩ | fail))
    refine ⟨eps', ?_, ?_⟩
    · show AV.tup [pcD memL p.ins ([] : List AObj).length epo eps l, .int .i64 0] = _
      rw [m1]
      rfl
    · show [] ++ pcO memL ([] : List AObj).length epo eps l = _
      rw [m2]
      rfl
  · show AV.tup [(pcM p.ins (plnE p) 0 eps).shA B E, .int .i64 0] = _
    rw [pcM_shA]

end Go.Ab.V

/-
  The document's Copy as new memory, the stops of each event as an object of their own. No condition but the machine's bounds on lengths.
-/
namespace Go.Ab.V
open Go.Proofs

theorem allO_app {n ep : Nat} : ∀ {l m : List AObj}, allO n ep l → allO n ep m → allO n ep (l ++ m)
  | [], _, _, h => h
  | _ :: _, _, h, h2 => ⟨h.1, allO_app h.2 h2⟩
theorem allO_objsM {n ep : Nat} (eps : Nat → Nat) : ∀ (l : List Evt) (i : Nat), allO n ep (objsD memL eps i l)
  | [], _ => trivial
  | e :: r, i => ⟨eqsP_rows e.stops fun x => rfl, allO_objsM eps r (i + 1)⟩
theorem eqsP_rowsM {n ep B : Nat} (eps : Nat → Nat) : ∀ (l : List Evt) (i : Nat), eqsP n ep (rowsD memL B eps i l).flatten
  | [], _ => trivial
  | e :: r, i => eqsP_rowsM eps r (i + 1)
theorem rowsM_mc {n len ep2 B : Nat} (eps : Nat → Nat) : ∀ (l : List Evt) (i : Nat), ((rowsD memL B eps i l).map fun r => r.map (mcS n len ep2)) = rowsD memL B eps i l
  | [], _ => rfl
  | e :: r, i => by simp only [rowsD, List.map_cons, rowsM_mc eps r (i + 1)]; rfl
theorem stps_mc {n len ep2 : Nat} : ∀ (l : List Stp), ((l.map stR).map fun r => r.map (mcS n len ep2)) = l.map stR
  | [] => rfl
  | e :: r => by rw [List.map_cons, List.map_cons, stps_mc r]; rfl
theorem objsM_mc {n len ep2 : Nat} (eps : Nat → Nat) : ∀ (l : List Evt) (i : Nat), (objsD memL eps i l).map (AObj.mapc (mcS n len ep2)) = objsD memL eps i l
  | [], _ => rfl
  | e :: r, i => by
    simp only [objsD, List.map_append, objsM_mc eps r (i + 1)]
    congr 1
    show [AObj.vec (eps i) ((e.stops.map stR).map fun r => r.map (mcS n len ep2))] = _
    rw [stps_mc]
    rfl

end Go.Ab.V

/-
  The document's Plain as new memory, the stops of each event as an object of their own. No condition but the machine's bounds on lengths.
-/
namespace Go.Ab

/-- an object that is known -/
theorem optO {o : Option AObj} {ep : Nat} {rows : List (List AV)} {P : Nat → List (List AV) → Prop} (h : o = some (.vec ep rows)) (hk : P ep rows) : (match (generalizing := false) o with | some (.vec ep' rows) => P ep' rows | _ => False) := by
  subst h; exact hk

end Go.Ab
namespace Go.Ab.V
open Go.Proofs

theorem rowsM_get {B : Nat} {eps : Nat → Nat} : ∀ {l : List Evt} {i k : Nat} (h : k < l.length), (rowsD memL B eps i l)[k]? = some (evX l[k] (.oslc (.d (B + memL.c * (i + k))) (eps (i + k)) 5 0 l[k].stops.length false))
  | e :: r, i, 0, _ => rfl
  | e :: r, i, k + 1, h => by
    simp only [rowsD, List.getElem?_cons_succ, List.getElem_cons_succ]
    rw [rowsM_get (l := r) (i := i + 1) (k := k) (by simpa using h), show i + 1 + k = i + (k + 1) by omega]
theorem objsM_get {eps : Nat → Nat} {X : List AObj} : ∀ {l : List Evt} {i k : Nat} (h : k < l.length), (objsD memL eps i l ++ X)[k]? = some (.vec (eps (i + k)) (l[k].stops.map stR))
  | e :: r, i, 0, _ => rfl
  | e :: r, i, k + 1, h => by
    have := objsM_get (eps := eps) (X := X) (l := r) (i := i + 1) (k := k) (by simpa using h)
    rw [show i + 1 + k = i + (k + 1) by omega] at this
    exact this
theorem objsM_set {eps : Nat → Nat} {X : List AObj} {e' : Evt} : ∀ {l : List Evt} {i k : Nat} (h : k < l.length), (objsD memL eps i l ++ X).set k (.vec (eps (i + k)) (e'.stops.map stR)) = objsD memL eps i (l.set k e') ++ X
  | e :: r, i, 0, _ => rfl
  | e :: r, i, k + 1, h => by
    have := objsM_set (eps := eps) (X := X) (e' := e') (l := r) (i := i + 1) (k := k) (by simpa using h)
    rw [show i + 1 + k = i + (k + 1) by omega] at this
    show AObj.vec (eps i) (e.stops.map stR) :: (objsD memL eps (i + 1) r ++ X).set k _ = _
    rw [this]
    rfl
theorem objsM_last {eps : Nat → Nat} {o : AObj} (l : List Evt) : (objsD memL eps 0 l ++ [o])[memL.c * l.length]? = some o := by
  rw [List.getElem?_append_right (by rw [objsD_len]; exact Nat.le_refl _), objsD_len, Nat.sub_self]
  rfl
theorem mix_succ {α : Type} {L M : List α} {k : Nat} (h : L.length = M.length) (hk : k < M.length) : mix L M (k + 1) = (mix L M k).set k (L[k]'(by omega)) := by
  have h1 : k < L.length := by omega
  unfold mix
  rw [List.set_append_right _ _ (by rw [List.length_take]; omega), List.length_take, Nat.min_eq_left (by omega), Nat.sub_self, List.drop_eq_getElem_cons hk, List.set_cons_zero, List.take_add_one, List.getElem?_eq_getElem h1, List.append_assoc]
  rfl
theorem mix_at {α : Type} {L M : List α} {k : Nat} (h : L.length = M.length) (hk : k < M.length) : (mix L M k)[k]'(by rw [mix_len h]; exact hk) = M[k] := by
  simp only [mix]
  rw [List.getElem_append_right (by rw [List.length_take]; omega)]
  simp only [List.length_take, List.getElem_drop]
  congr 1
  omega


end Go.Ab.V

/-
  Lists of changed stops; the program's Bare; the freeze of a piece in memory. No condition but the machine's bounds on lengths.
-/
namespace Go.Ab

/-- what was made anew is frozen to the bottom, the first m0 objects first -/
theorem pretM_of {C : Ctx} (ok : COk C) (hm : C.P.follows .mixedOrders = true) {A : Ann} {f : FuncId} {fn : Func} {c : Code} (n m0 : Nat) (hf : C.P.funcs[f]? = some fn) (hb : fn.body = some c) {args : List AV} {r : AV}
    (hk : forceR (frame0 args fn.ntmps) fun fr => forceHR (heap0 Heap.nil n) fun h => aexR C A c fr h fun e fr h' => match e with
      | .normal => resR C.ti fn.results.toList fr h' fun vs => retV vs fun v => frzE m0 h' v fun v h' => frzD h' v fun v h' => frzK h' v fun r' _ => r'.isPure2 = true ∧ r' = r
      | .ret => resR C.ti fn.results.toList fr h' fun vs => retV vs fun v => frzE m0 h' v fun v h' => frzD h' v fun v h' => frzK h' v fun r' _ => r'.isPure2 = true ∧ r' = r
      | .exit _ => False) (hy : C.yl = none := by rfl) : PRet C.P f args r := by
  refine ⟨⟨⟨fun σ w vs s hv => ?_⟩⟩⟩
  refine ((fn_of ok hm n hf hb hk hy).use σ w vs s hv).mono ?_
  rintro e w' ⟨v, rfl, σ1, h1, r1, k, m, x⟩
  obtain ⟨σ2, h2, r2, m2, x2, k2⟩ := frzE_sound m.sim x k
  obtain ⟨σ3, h3, r3, m3, x3, k3⟩ := frzD_sound m2.sim x2 k2
  exact ⟨v, rfl, σ3, h3, r3, k3, (m.trans m2).trans m3, x3⟩

end Go.Ab
namespace Go.Ab.V
open Go.Proofs

theorem objsM_pure {eps : Nat → Nat} : ∀ (l : List Evt) (i : Nat), ∀ o ∈ objsD memL eps i l, pureObj o
  | [], _, o, h => by cases h
  | e :: r, i, o, h => by
    rcases List.mem_append.1 h with h | h
    · obtain rfl := List.mem_singleton.1 h
      exact pure_map e.stops fun x => rfl
    · exact objsM_pure r (i + 1) o h
end Go.Ab.V

/-
  The document's Bare. No condition but the machine's bounds on lengths.
-/
namespace Go.Ab.V
open Go.Proofs

theorem objL {eps : Nat → Nat} {o : AObj} {l : List Evt} {n : Nat} (h : l.length = n) : (objsD memL eps 0 l ++ [o])[0 + memL.c * n]? = some o := by
  subst h; rw [Nat.zero_add]; exact objsM_last l
theorem objG {eps : Nat → Nat} {X : List AObj} {l : List Evt} {k : Nat} (h : k < l.length) {ss : List Stp} (hs : l[k].stops = ss) : (objsD memL eps 0 l ++ X)[0 + memL.c * (0 + k)]? = some (.vec (eps (0 + k)) (ss.map stR)) := by
  subst hs
  have := objsM_get (eps := eps) (X := X) (l := l) (i := 0) (k := k) h
  rw [show 0 + memL.c * (0 + k) = k by rw [Nat.zero_add, Nat.zero_add]; exact Nat.one_mul k]
  exact this
theorem objS {eps : Nat → Nat} {X : List AObj} {l : List Evt} {k : Nat} (h : k < l.length) {e' : Evt} {ss : List Stp} (hs : e'.stops = ss) : (objsD memL eps 0 l ++ X).set (0 + memL.c * (0 + k)) (.vec (eps (0 + k)) (ss.map stR)) = objsD memL eps 0 (l.set k e') ++ X := by
  subst hs
  have := objsM_set (eps := eps) (X := X) (e' := e') (l := l) (i := 0) (k := k) h
  rw [show 0 + memL.c * (0 + k) = k by rw [Nat.zero_add, Nat.zero_add]; exact Nat.one_mul k]
  exact this
theorem rowG {B : Nat} {eps : Nat → Nat} {l : List Evt} {k : Nat} (h : k < l.length) : (rowsD memL B eps 0 l)[0 + ((k : Nat) : Int).toNat]? = some (evX l[k] (.oslc (.d (B + memL.c * (0 + k))) (eps (0 + k)) 5 0 l[k].stops.length false)) := by
  rw [Nat.zero_add, Int.toNat_natCast]; exact rowsM_get h
/-- an event with other stops -/
def evS (e : Evt) (ss : List Stp) : Evt := { e with stops := ss }

end Go.Ab.V

/-
  A part of a list as an argument; the program's list of copied events, the stops of each as an object of their own. No condition but the machine's bounds on lengths.
-/
namespace Go.Ab

end Go.Ab
namespace Go.Ab.V
open Go.Proofs

end Go.Ab.V

/-
  The program's Cut. No condition but the machine's bounds on lengths.
-/
namespace Go.Ab.V
open Go.Proofs

end Go.Ab.V

/-
  The document's Cut. No condition but the machine's bounds on lengths.
-/
namespace Go.Ab.V
open Go.Proofs

/-- the end of a function that hands back a piece whose stops lie in X; Y is what else there is -/
theorem end_mem2 {X Y : List AObj} {ep n : Nat} {rows : List (List AV)} {l : List Evt} {i : Ins} {D st : List AObj} {m : Nat} (hm : X.length = m) (hX : ∀ o ∈ X, pureObj o) (hY : ∀ o ∈ Y, pureObj (o.fz2 X)) (hr : (rows.map fun r => r.map (fzC2 X)) = l.map evR) (hn : n = l.length) (hD : D = X ++ Y ++ [.vec ep rows]) :
    m ≤ D.length ∧ (∀ o ∈ D.take m, pureObj o) ∧ (fun v h' => frzD h' v fun v h' => frzK h' v fun r' _ => r'.isPure2 = true ∧ r' = .tup [pcA ⟨i, l⟩, .int .i64 0])
      (fzV2 (D.take m) (.tup [.agg [crsA i.cs, intsA i.steps, .oslc (.d (X ++ Y).length) ep 6 0 n false], .int .i64 0])) ⟨st.map (AObj.fz2 (D.take m)), List.replicate m .hole ++ (D.drop m).map (AObj.fz2 (D.take m))⟩ := by
  subst hn hm
  have e0 : D.take X.length = X := by rw [hD, List.append_assoc, List.take_left]
  have e9 : D.drop X.length = Y ++ [.vec ep rows] := by rw [hD, List.append_assoc, List.drop_left]
  rw [e0, e9]
  refine ⟨by rw [hD]; simp, hX, ?_⟩
  show frzD _ _ _
  unfold frzD
  refine ⟨fun o ho => ?_, ?_⟩
  · rcases List.mem_append.1 ho with ho | ho
    · obtain ⟨_, rfl⟩ := List.mem_replicate.1 ho
      trivial
    · obtain ⟨o', ho', rfl⟩ := List.mem_map.1 ho
      rcases List.mem_append.1 ho' with h | h
      · exact hY o' h
      · obtain rfl := List.mem_singleton.1 h
        show pureRows (rows.map fun r => r.map (fzC2 X))
        rw [hr]
        exact pure_map l fun x => rfl
  · have e1 : fzV2 X (.tup [.agg [crsA i.cs, intsA i.steps, .oslc (.d (X ++ Y).length) ep 6 0 l.length false], .int .i64 0]) = .tup [.agg [crsA i.cs, intsA i.steps, .oslc (.d (X ++ Y).length) ep 6 0 l.length false], .int .i64 0] := by
      have : X[(X ++ Y).length]? = none := List.getElem?_eq_none (by simp)
      simp [fzV2, fzC2, this, crsA, intsA]
    rw [e1]
    have e2 : (List.replicate X.length AObj.hole ++ (Y ++ [AObj.vec ep rows]).map (AObj.fz2 X))[(X ++ Y).length]? = some (.vec ep (l.map evR)) := by
      rw [List.getElem?_append_right (by simp)]
      simp only [List.length_replicate, List.length_append, List.map_append, List.map_cons, List.map_nil]
      rw [List.getElem?_append_right (by simp)]
      simp only [List.length_map, Nat.add_sub_cancel_left, Nat.sub_self, List.getElem?_cons_zero]
      show some (AObj.vec ep (rows.map fun r => r.map (fzC2 X))) = _
      rw [hr]
    have e3 : ∀ dy : List AObj, dy[(X ++ Y).length]? = some (.vec ep (l.map evR)) → fzV dy (.tup [.agg [crsA i.cs, intsA i.steps, .oslc (.d (X ++ Y).length) ep 6 0 l.length false], .int .i64 0]) = .tup [pcA ⟨i, l⟩, .int .i64 0] := by
      intro dy h
      simp only [fzV, List.map_cons, List.map_nil, fzC, h, if_pos, crsA, intsA, pcA, evsA]
    rw [e3 _ e2]
    exact frzK_pure rfl ⟨rfl, rfl⟩
theorem rowsM_fzP {eps : Nat → Nat} {X : List AObj} : ∀ (l : List Evt) (i : Nat), (∀ k, k < l.length → ∃ r, X[0 + memL.c * (i + k)]? = some (.vec (eps (i + k)) r)) → pureRows ((rowsD memL 0 eps i l).map fun r => r.map (fzC2 X))
  | [], _, _ => fun r h => by cases h
  | e :: r, i, h => by
    have ih := rowsM_fzP (eps := eps) (X := X) r (i + 1) fun k hk => by
      obtain ⟨y, this⟩ := h (k + 1) (by simpa using hk)
      rw [show i + (k + 1) = i + 1 + k by omega] at this
      exact ⟨y, this⟩
    obtain ⟨y, h0⟩ := h 0 (by simp)
    simp only [Nat.add_zero] at h0
    intro row hrow c hc
    rcases List.mem_cons.1 hrow with rfl | hrow
    · have e9 : fzC2 X (.oslc (.d (0 + memL.c * i)) (eps i) 5 0 e.stops.length false) = .lslc 5 y 0 e.stops.length false := by
        simp only [fzC2, h0, if_pos]
      have : [AV.bool e.bar, .int .i64 e.v, .bool e.d, .bool e.t, .bool e.tie, fzC2 X (.oslc (.d (0 + memL.c * i)) (eps i) 5 0 e.stops.length false)].all AV.pure1 = true := by rw [e9]; rfl
      exact List.all_eq_true.1 this c hc
    · exact ih row hrow c hc


end Go.Ab.V

/-
  The law PieceCuts is true at every input.
-/
namespace Go.Ab.V
open Go.Proofs

end Go.Ab.V
