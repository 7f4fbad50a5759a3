/-
  What is proved here serves the law's text: each part says its own claim and its conditions. No condition is left open.
-/
import Derived.Test.YtchkiolagohnlaaGreatJK
set_option linter.unusedSimpArgs false
set_option linter.unusedVariables false

/-
  SameSigns of a list with itself; the laws PieceTicks and PieceSigns are true at every input.
-/
namespace Go.Ab.V
open Go.Proofs

end Go.Ab.V

/-
  What a statement looks at (Big); the law PieceChecks is true at every input.
-/
namespace Go.Ab.V
open Go.Proofs

end Go.Ab.V

/-
  The document's Copy as new memory: its events may be written. No condition but the machine's bounds on lengths.
-/
namespace Go.Ab.V
open Go.Proofs

end Go.Ab.V

/-
  The document's Plain, Terse and Augment. No condition but the machine's bounds on lengths.
-/
namespace Go.Ab.V
open Go.Proofs

/-- a list, written over up to k -/
def mix {α : Type} (L M : List α) (k : Nat) : List α := L.take k ++ M.drop k
theorem mix_zero {α : Type} (L M : List α) : mix L M 0 = M := by simp [mix]
theorem mix_end {α : Type} {L M : List α} (h : L.length = M.length) : mix L M M.length = L := by simp [mix, ← h]
theorem mix_len {α : Type} {L M : List α} (h : L.length = M.length) (k : Nat) : (mix L M k).length = M.length := by
  simp only [mix, List.length_append, List.length_take, List.length_drop]; omega
theorem mixR {α : Type} {f : α → List AV} {L M : List α} {k : Nat} (h : L.length = M.length) (hk : k < M.length) : ((mix L M k).map f)[0 + ((k : Nat) : Int).toNat]? = some (f M[k]) := by
  rw [Nat.zero_add, Int.toNat_natCast, List.getElem?_map, mix, List.getElem?_append_right (by rw [List.length_take]; omega), List.length_take, Nat.min_eq_left (by omega), Nat.sub_self, List.getElem?_drop, Nat.add_zero, List.getElem?_eq_getElem hk]
  rfl
theorem mix_set {α : Type} {f : α → List AV} {L M : List α} {k : Nat} (h : L.length = M.length) (hk : k < M.length) {r : List AV} (hr : r = f (L[k]'(by omega))) : ((mix L M k).map f).set (0 + ((k : Nat) : Int).toNat) r = (mix L M (k + 1)).map f := by
  subst hr
  have h1 : k < L.length := by omega
  rw [Nat.zero_add, Int.toNat_natCast]
  have e : (mix L M (k + 1)) = (mix L M k).set k L[k] := by
    unfold mix
    rw [List.set_append_right _ _ (by rw [List.length_take]; omega), List.length_take, Nat.min_eq_left (by omega), Nat.sub_self, List.drop_eq_getElem_cons hk, List.set_cons_zero, List.take_add_one, List.getElem?_eq_getElem h1, List.append_assoc]
    rfl
  rw [e, List.map_set]

def sgE (a b : Sgn) : Bool := sgB a.v a.d a.t b.v b.d b.t
theorem sgE_iff {a b : Sgn} : sgE a b = true ↔ a = b := by
  cases a; cases b; unfold sgE; rw [sgB_iff]; simp
theorem set_get {l : List (List AV)} {i : Nat} {r : List AV} (h : i < l.length) : (l.set i r)[i]? = some r := by rw [List.getElem?_set_self h]

end Go.Ab.V

/-
  The document's Augment; both sides hand back the same. No condition but the machine's bounds on lengths.
-/
namespace Go.Ab.V
open Go.Proofs

end Go.Ab.V

/-
  What Augment, Plain and Terse hand back: the same on both sides, and valid. Plain Lean. No condition.
-/
namespace Go.Ab.V
open Go.Proofs

def body (e : Evt) : Bool × List Stp := (e.tie, e.stops)
theorem longL_body (c : Int) : ∀ (n : Nat) (l m : List Evt), l.map body = m.map body → longL c n l = longL c n m
  | 0, _, _, _ => by simp [longL]
  | n + 1, [], [], _ => rfl
  | n + 1, [], _ :: _, h => by simp at h
  | n + 1, _ :: _, [], h => by simp at h
  | n + 1, a :: l, b :: m, h => by
    simp only [List.map_cons, List.cons.injEq, body, Prod.mk.injEq] at h
    obtain ⟨⟨h1, h2⟩, h3⟩ := h
    have ih := longL_body c n l m h3
    have hr : restE a = restE b := by unfold restE; rw [h1, h2]
    simp only [longL, hr, h2, ih]
theorem longest_body {l m : List Evt} (h : l.map body = m.map body) (k c : Int) : longest l k c = longest m k c := by
  have hl : l.length = m.length := by have := congrArg List.length h; simpa using this
  unfold longest
  rw [hl, longL_body c 15 (l.drop (k + 1).toNat) (m.drop (k + 1).toNat) (by rw [List.map_drop, List.map_drop, h])]
theorem chkStops_body {p q : Pc} (hi : p.ins = q.ins) (h : p.evs.map body = q.evs.map body) (k : Nat) : ∀ (l : List Stp) (last : Int), chkStops p k last l = chkStops q k last l
  | [], _ => rfl
  | s :: r, last => by
    simp only [chkStops, hi, longest_body h, chkStops_body hi h k r]
theorem chkEvs_body {p q : Pc} (hi : p.ins = q.ins) (h : p.evs.map body = q.evs.map body) : ∀ (l m : List Evt) (k : Nat), l.map body = m.map body → (∀ e ∈ m, right e.v e.d e.t = true) → (k = 0 → ∀ e ∈ m.head?, e.v ≠ 0) → chkEvs p k l = 0 → chkEvs q k m = 0
  | [], [], _, _, _, _, _ => rfl
  | [], _ :: _, _, h, _, _, _ => by simp at h
  | _ :: _, [], _, h, _, _, _ => by simp at h
  | a :: l, b :: m, k, hm, hr, h0, hc => by
    simp only [List.map_cons, List.cons.injEq, body, Prod.mk.injEq] at hm
    obtain ⟨⟨h1, h2⟩, h3⟩ := hm
    unfold chkEvs at hc ⊢
    split at hc
    · rename_i ha
      have hb : chkEv q k b = 0 := by
        unfold chkEv at ha ⊢
        split at ha
        · cases ha
        · rw [if_neg]
          · split at ha
            · cases ha
            · rename_i ht
              rw [h1, h2] at ht
              rw [if_neg ht, ← chkStops_body hi h, ← h2]
              exact ha
          · rintro (h5 | ⟨h5, h6⟩)
            · rw [hr b (List.mem_cons_self ..)] at h5; cases h5
            · exact h0 h5 b (by simp) h6
      rw [if_pos hb]
      exact chkEvs_body hi h l m (k + 1) h3 (fun e he => hr e (List.mem_cons_of_mem _ he)) (fun h => by omega) hc
    · rename_i ha
      exact absurd hc ha
theorem chk_body {p q : Pc} (hi : p.ins = q.ins) (h : p.evs.map body = q.evs.map body) (hr : ∀ e ∈ q.evs, right e.v e.d e.t = true) (h0 : ∀ e ∈ q.evs.head?, e.v ≠ 0) (hc : chk p = 0) : chk q = 0 := by
  have hl : p.evs.length = q.evs.length := by have := congrArg List.length h; simpa using this
  unfold chk at hc ⊢
  rw [← hi, ← hl]
  split at hc
  · rename_i e
    rw [if_pos e]
    split at hc
    · cases hc
    · rename_i e2
      rw [if_neg e2]
      exact chkEvs_body hi h p.evs q.evs 0 h hr (fun _ => h0) hc
  · rename_i e; exact absurd hc e
theorem right_rng {v : Int} {d t : Bool} (h : right v d t = true) : 0 ≤ v ∧ v ≤ 7 ∧ (v = 0 → d = false ∧ t = false) := by
  unfold right at h
  by_cases h0 : v = 0
  · subst h0; rw [if_pos rfl] at h; simp at h; exact ⟨by omega, by omega, fun _ => h⟩
  · rw [if_neg h0] at h
    simp only [Bool.and_eq_true, decide_eq_true_eq] at h
    exact ⟨by omega, by omega, fun e => absurd e h0⟩

/-! ### Augment -/
end Go.Ab.V

/-
  Equality of pieces, on both sides: the functions that compare. No condition but the machine's bounds on lengths.
-/
namespace Go.Ab.V
open Go.Proofs

end Go.Ab.V

/-
  Equality of pieces, on both sides: the functions that compare. No condition but the machine's bounds on lengths.
-/
namespace Go.Ab.V
open Go.Proofs

structure Pc.Sm2 (p : Pc) : Prop where
  cs : p.ins.cs.length ≤ 100000
  st : p.ins.steps.length ≤ 100000
  ev : p.evs.length ≤ 100000
  sp : ∀ e ∈ p.evs, e.stops.length ≤ 100000
theorem Pc.Sm.two {p : Pc} (h : p.Sm) : p.Sm2 := ⟨by have := h.cs; omega, by have := h.st; omega, by have := h.ev; omega, fun e he => by have := h.sp e he; omega⟩
def plB (s t : Stp) : Bool := decide (s.c = t.c) && decide (s.f = t.f)
end Go.Ab.V

/-
  Append, on both sides. No condition but the machine's bounds on lengths.
-/
namespace Go.Ab.V
open Go.Proofs

end Go.Ab.V

/-
  The law PieceAugments is true at every input.
-/
namespace Go.Ab.V
open Go.Proofs

theorem Pc.Sm.ok {p : Pc} (h : p.Sm) : p.Ok := ⟨by have := h.cs; omega, by have := h.st; omega, by have := h.ev; omega, fun e he => by have := h.sp e he; omega⟩
theorem Sm_body {p q : Pc} (hs : p.Sm) (hi : p.ins = q.ins) (h : p.evs.map body = q.evs.map body) : q.Sm := by
  have hl : p.evs.length = q.evs.length := by have := congrArg List.length h; simpa using this
  refine ⟨hi ▸ hs.cs, hi ▸ hs.st, hl ▸ hs.ev, fun e he => ?_⟩
  have : body e ∈ p.evs.map body := by rw [h]; exact List.mem_map_of_mem he
  obtain ⟨x, hx, hb⟩ := List.mem_map.1 this
  have := hs.sp x hx
  have : x.stops = e.stops := (Prod.mk.inj hb).2
  rw [← this]
  exact hs.sp x hx
end Go.Ab.V

/-
  Append on the document's side; the law PieceAppends is true at every input.
-/
namespace Go.Ab.V
open Go.Proofs

end Go.Ab.V

/-
  Copies as new memory, the stops of each event as an object of their own: by the program. No condition but the machine's bounds on lengths.
-/
namespace Go.Ab

/-- such a contract of a function that may hand back nil for a slice without elements -/
theorem hretN_of {C : Ctx} (ok : COk C) (hm : C.P.follows .mixedOrders = true) {A : Ann} {f : FuncId} {fn : Func} {c : Code} (n : Nat) (hf : C.P.funcs[f]? = some fn) (hb : fn.body = some c) {args : List AV} {R : Nat → (Nat → Nat) → AV} {H : Nat → (Nat → Nat) → List AObj} {N : Prop} {sz : Nat}
    (hN : N → ∀ eps, R 0 eps = .oslc (.d 0) (eps 0) sz 0 0 false ∧ H 0 eps = [.vec (eps 0) []])
    (hk : forceR (frame0 args fn.ntmps) fun fr => forceHR (heap0 Heap.nil n) fun h => aexR C A c fr h fun e fr h' => match e with
      | .normal => resR C.ti fn.results.toList fr h' fun vs => retV vs fun v => (v = .nils ∧ h'.dy = [] ∧ N) ∨ movK h' v fun r' h'' => ∃ eps, r' = R 0 eps ∧ h''.dy = H 0 eps
      | .ret => resR C.ti fn.results.toList fr h' fun vs => retV vs fun v => (v = .nils ∧ h'.dy = [] ∧ N) ∨ movK h' v fun r' h'' => ∃ eps, r' = R 0 eps ∧ h''.dy = H 0 eps
      | .exit _ => False)
    (hsh : ∀ B E eps, ∃ eps', (R 0 eps).sh B E = R B eps' ∧ (H 0 eps).map (AObj.sh B E) = H B eps') (hy : C.yl = none := by rfl) : HRet C.P f args R H := by
  refine ⟨⟨fun σ w vs s hv => ?_⟩, hsh⟩
  refine ((fn_of ok hm n hf hb hk hy).use σ w vs s hv).mono ?_
  rintro e w' ⟨v, rfl, σ1, h1, r, k, m, x⟩
  rcases k with ⟨rfl, hd, hn⟩ | k
  · have m1 : Mv σ1 h1 w' σ1 ⟨h1.st, [.hole]⟩ w' := m.sim.forget fun i o ho => by
      cases i with
      | s k => exact .inr ho
      | d k =>
        have ho : ([AObj.hole] : List AObj)[k]? = some o := ho
        cases k with
        | zero => simp at ho; exact .inl ho.symm
        | succ k => simp at ho
    obtain ⟨ep, σ2, m2, hp⟩ := m1.sim.allocNil (.d 0)
    obtain ⟨e1, e2⟩ := hN hn fun _ => ep
    refine ⟨v, rfl, σ2, _, .oslc (.d 0) ep sz 0 0 false, ⟨fun _ => ep, e1.symm, e2.symm⟩, (m.trans m1).trans m2, ?_⟩
    cases x
    exact .onil hp
  · obtain ⟨σ2, h2, r2, m2, x2, k2⟩ := movK_sound m.sim x k
    exact ⟨v, rfl, σ2, h2, r2, k2, m.trans m2, x2⟩

end Go.Ab
namespace Go.Ab.V
open Go.Proofs

theorem sh_rowsS {B E : Nat} : ∀ (l : List Stp), ((l.map stR).map fun r => r.map (AV.sh1 B E)) = l.map stR
  | [] => rfl
  | e :: r => by rw [List.map_cons, List.map_cons, sh_rowsS r]; rfl

set_option maxHeartbeats 1000000 in
set_option maxRecDepth 100000 in
theorem clone113_mem (l : List Stp) (hl : l.length ≤ 100000) : HRet C.P 75 [stsA l] (fun B eps => .oslc (.d B) (eps 0) 5 0 l.length false) (fun B eps => [.vec (eps 0) (l.map stR)]) := by
  have t1 : List.take l.length (List.drop 0 (l.map stR)) = l.map stR := takeAll l _
  refine hretN_of ok mixed (A := A75) 2 Tryz.func75 rfl (N := l.length = 0) (sz := 5) (fun h eps => ?_) ?_ (fun B E eps => ⟨fun k => eps k + E, rfl, by rw [List.map_cons, AObj.sh, sh_rowsS]; rfl⟩)
  · have : l = [] := List.eq_nil_of_length_eq_zero h
    subst this
    exact ⟨rfl, rfl⟩
  (repeat' (first | exact rfl | ((conv => whnf); first | exact rfl | refine ⟨by kernel_rfl, ?_⟩ | exact ⟨rfl, rfl⟩ | refine ⟨rfl, ?_⟩ | refine ⟨by (first | omega | (simp (disch := omega) only [wrapI]; omega) | (simp (disch := omega) only [wrapI]; simp; omega) | (simp; omega)), ?_⟩ | (intro ep) | refine ⟨fun hn0 => ?_, ?_⟩ | fail)))
  · exact .inl ⟨rfl, rfl, hn0⟩
  · refine .inr ?_
    (conv => whnf)
    refine ⟨rfl, fun ep2 => ?_⟩
    refine ⟨fun _ => ep2, ?_, ?_⟩
    · show AV.oslc (.d 0) ep2 5 0 (0 + (List.take l.length (List.drop 0 (l.map stR))).length) false = _
      rw [t1, List.length_map, Nat.zero_add]
    · show [AObj.vec ep2 (List.take l.length (List.drop 0 (l.map stR)))] = _
      rw [t1]

/-- the copy of an event, its stops lying where they come to lie -/
def evM (e : Evt) (B ep : Nat) : AV := .agg (evX e (.oslc (.d B) ep 5 0 e.stops.length false))
set_option maxHeartbeats 1000000 in
set_option maxRecDepth 100000 in
theorem copied_mem (e : Evt) (h1 : e.stops.length ≤ 100000) : HRet C.P 50 [.agg (evR e)] (fun B eps => evM e B (eps 0)) (fun B eps => [.vec (eps 0) (e.stops.map stR)]) := by
  have c1 := clone113_mem e.stops h1
  refine hret_of (okx [75] []) mixed (A := A50) 2 Tryz.func50 rfl ?_ (fun B E eps => ⟨fun k => eps k + E, rfl, by rw [List.map_cons, AObj.sh, sh_rowsS]; rfl⟩)
  (repeat' ((conv => whnf); first | refine ⟨rfl, ?_⟩ | refine ⟨by decide, ?_⟩ | refine ⟨_, _, c1, fun eps => ?_⟩ | refine ⟨by kernel_rfl, ?_⟩ | (intro ep) | fail))
  exact ⟨eps, rfl, rfl⟩

end Go.Ab.V

/-
  The program's Plain as new memory, the stops of each event as an object of their own. No condition but the machine's bounds on lengths.
-/
namespace Go.Ab.V
open Go.Proofs

/-! ### a piece in memory -/
theorem objsM_sh (B E : Nat) (eps : Nat → Nat) : ∀ (l : List Evt) (i : Nat), (objsD memL eps i l).map (AObj.sh B E) = objsD memL (fun k => eps k + E) i l
  | [], _ => rfl
  | e :: r, i => by
    simp only [objsD, List.map_append, objsM_sh B E eps r (i + 1)]
    congr 1
    show [AObj.vec (eps i + E) ((e.stops.map stR).map fun r => r.map (AV.sh1 B E))] = _
    rw [sh_rowsS]
    rfl
theorem rowsM_sh (B E : Nat) (eps : Nat → Nat) : ∀ (l : List Evt) (i : Nat), ((rowsD memL 0 eps i l).map fun r => r.map (AV.sh1 B E)) = rowsD memL B (fun k => eps k + E) i l
  | [], _ => rfl
  | e :: r, i => by
    simp only [rowsD, List.map_cons, rowsM_sh B E eps r (i + 1)]
    congr 1
    show [AV.bool e.bar, .int .i64 e.v, .bool e.d, .bool e.t, .bool e.tie, .oslc (.d (B + (0 + memL.c * i))) (eps i + E) 5 0 e.stops.length false] = _
    rw [Nat.zero_add]
    rfl
/-- a piece in memory, by one naming of epochs -/
def pcM (i : Ins) (l : List Evt) (B : Nat) (eps : Nat → Nat) : AV := pcD memL i B (eps l.length) eps l
def pcMO (l : List Evt) (B : Nat) (eps : Nat → Nat) : List AObj := pcO memL B (eps l.length) eps l
theorem pcM_shA (i : Ins) (l : List Evt) (B E : Nat) (eps : Nat → Nat) : (pcM i l 0 eps).shA B E = pcM i l B (fun k => eps k + E) := by
  show AV.agg [crsA i.cs, intsA i.steps, .oslc (.d (B + (0 + memL.c * l.length))) (eps l.length + E) 6 0 l.length false] = _
  rw [Nat.zero_add]
  rfl
theorem pcMO_sh (l : List Evt) (B E : Nat) (eps : Nat → Nat) : (pcMO l 0 eps).map (AObj.sh B E) = pcMO l B (fun k => eps k + E) := by
  unfold pcMO pcO
  rw [List.map_append, objsM_sh]
  congr 1
  show [AObj.vec (eps l.length + E) ((rowsD memL 0 eps 0 l).map fun r => r.map (AV.sh1 B E))] = _
  rw [rowsM_sh]
theorem pcM_of (i : Ins) (l : List Evt) (B : Nat) (epo : Nat) (eps : Nat → Nat) : ∃ eps', pcD memL i B epo eps l = pcM i l B eps' ∧ pcO memL B epo eps l = pcMO l B eps' := by
  refine ⟨fun j => if j = l.length then epo else eps j, ?_, ?_⟩
  · simp only [pcM, pcD, if_pos]
  · simp only [pcMO, pcO, if_pos]
    rw [objsD_congr (g := eps) memL l 0 fun j _ h => if_neg (by omega), rowsD_congr (g := eps) memL B l 0 fun j _ h => if_neg (by omega)]

set_option maxHeartbeats 2000000 in
set_option maxRecDepth 100000 in
theorem c95_mem {T : Type} {o : T → AObj} {st : T → Evt → T × Evt} {e0 sz : Nat} {Good : Evt → Prop} (h : Chs o st 26 [.optr (.s 0) e0 sz 0 0] Good) (hst : ∀ s e, (st s e).2.stops = e.stops) : Chg memL o st 26 [.optr (.s 0) e0 sz 0 0] (fun e => Good e ∧ e.stops.length ≤ 100000) := by
  intro ec s e dy hg
  have c1 := copied_mem e hg.2
  refine fn_of (okx [50] []) mixed (A := A49) 2 Tryz.func49 rfl ?_
  (repeat' ((conv => whnf); first | refine ⟨_, _, c1, fun eps => ?_⟩ | exact rfl | refine ⟨by kernel_rfl, ?_⟩ | exact ⟨rfl, rfl⟩ | refine ⟨rfl, ?_⟩ | refine ⟨by (first | omega | (simp (disch := omega) only [wrapI]; omega) | (simp (disch := omega) only [wrapI]; simp; omega) | (simp; omega)), ?_⟩ | (intro ep) | fail))
  (conv => whnf)
  have key := h s e (.oslc (.d dy.length) (eps 0) 5 0 e.stops.length false) (dy ++ [AObj.vec (eps 0) (e.stops.map stR)]) hg.1
  rename_i ep1
  have hh := fun K => ACalls.part (K := K) (h := ⟨[o s, .vec ec [[.fn (.func 26) [] [.optr (.s 0) e0 sz 0 0]]], .vec ep1 [evR e], .vec ep [[.bool false, .int .i64 0, .bool false, .bool false, .bool false, .nils]]], dy ++ [AObj.vec (eps 0) (e.stops.map stR)]⟩) (dy := dy ++ [AObj.vec (eps 0) (e.stops.map stR)]) 1 (by exact rfl) (by exact rfl) (by exact rfl) key
  refine hh _ ?_
  rintro r h3 ⟨rfl, hq, hd⟩
  rw [hq, hd]
  (repeat' ((conv => whnf); first | refine ⟨rfl, ?_⟩ | fail))
  refine ⟨eps 0, ?_, rfl, ?_⟩
  · show AV.agg (evX (st s e).2 (.oslc (.d dy.length) (eps 0) 5 0 e.stops.length false)) = _
    rw [← hst s e]
    rfl
  · show dy ++ [.vec (eps 0) (e.stops.map stR)] = dy ++ [.vec (eps 0) ((st s e).2.stops.map stR)]
    rw [hst]

/-- the program's Plain: new memory -/
def plnE (p : Pc) : List Evt := outE plnS ⟨0, false, false⟩ p.evs
set_option maxHeartbeats 2000000 in
set_option maxRecDepth 100000 in
theorem plain_mem (p : Pc) (hp : p.Ok) (hs : p.Sm) (hc : chk p = 0) : HRet C.P 9 [pcA p] (fun B eps => .tup [pcM p.ins (plnE p) B eps, .int .i64 0]) (fun B eps => pcMO (plnE p) B eps) := by
  refine hret_of ok mixed (A := A9) 3 Tryz.func9 rfl ?_ (fun B E eps => ⟨fun k => eps k + E, ?_, pcMO_sh _ _ _ _⟩)
  · (repeat' (first | exact rfl | ((conv => whnf); first | exact rfl | refine ⟨by kernel_rfl, ?_⟩ | exact ⟨rfl, rfl⟩ | refine ⟨rfl, ?_⟩ | refine ⟨by (first | omega | (simp (disch := omega) only [wrapI]; omega) | (simp (disch := omega) only [wrapI]; simp; omega) | (simp; omega)), ?_⟩ | (intro ep) | fail)))
    obtain ⟨e0, he0⟩ : ∃ e0, e0 = ep := ⟨_, rfl⟩
    subst he0
    (conv => whnf)
    have key := rewritten_spec (c95_mem (pln_chs e0) (fun s e => by unfold plnS; split <;> rfl)) p hp hs hc (fun e he => ⟨trivial, by have := hs.sp e he; omega⟩) ⟨0, false, false⟩ []
    obtain ⟨l, hl⟩ : ∃ l, l = outE plnS ⟨0, false, false⟩ p.evs := ⟨_, rfl⟩
    rw [← hl] at key
    unfold plnE
    rw [← hl]
    refine ACalls.part (dy := []) 1 (by exact rfl) (by exact rfl) (by exact rfl) key ?_
    rintro r h3 ⟨eps, epo, rfl, hq, hd⟩
    obtain ⟨eps', m1, m2⟩ := pcM_of p.ins l ([] : List AObj).length epo eps
    rw [hq, hd]
    (repeat' ((conv => whnf); first | refine ⟨rfl, ?_⟩ | fail))
    refine ⟨eps', ?_, ?_⟩
    · show AV.tup [pcD memL p.ins ([] : List AObj).length epo eps l, .int .i64 0] = _
      rw [m1]
      rfl
    · show [] ++ pcO memL ([] : List AObj).length epo eps l = _
      rw [m2]
      rfl
  · show AV.tup [(pcM p.ins (plnE p) 0 eps).shA B E, .int .i64 0] = _
    rw [pcM_shA]

end Go.Ab.V
