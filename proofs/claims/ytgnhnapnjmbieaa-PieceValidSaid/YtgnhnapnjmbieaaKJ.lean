/-
  What is proved here serves the law's text: each part says its own claim and its conditions. No condition is left open.
-/
import Derived.Test.YtgnhnapnjmbieaaKH
import Derived.Test.YtgnhnapnjmbieaaKG
import Derived.Test.YtgnhnapnjmbieaaKI
set_option linter.unusedSimpArgs false
set_option linter.unusedVariables false

/-
  Copies of lists, of an instrument and of an event, by the program. No condition but the machine's bounds on lengths.
-/
namespace Go.Ab

theorem frz1_pure {a : AV} {h : Heap} {K : AV → Heap → Prop} (hp : a.pure1 = true) (k : K a h) : frz1 h a K := by
  unfold frz1
  split
  · cases hp
  · exact k
theorem frzCells_pure : ∀ {cs : List AV} {h : Heap} {K : List AV → Heap → Prop}, cs.all AV.pure1 = true → K cs h → frzCells h cs K
  | [], _, _, _, k => k
  | a :: r, h, K, hp, k => by
    simp only [List.all_cons, Bool.and_eq_true] at hp
    exact frz1_pure hp.1 (frzCells_pure hp.2 k)
theorem frzA_pure {a : AV} {h : Heap} {K : AV → Heap → Prop} (hp : a.isPure = true) (k : K a h) : frzA h a K := by
  unfold frzA
  split
  · exact frzCells_pure hp k
  · cases a with
    | tup cs => unfold frz1; exact k
    | agg cs => rename_i hh; exact absurd rfl (hh cs)
    | _ => exact frz1_pure hp k
theorem frzAs_pure : ∀ {cs : List AV} {h : Heap} {K : List AV → Heap → Prop}, cs.all AV.isPure = true → K cs h → frzAs h cs K
  | [], _, _, _, k => k
  | a :: r, h, K, hp, k => by
    simp only [List.all_cons, Bool.and_eq_true] at hp
    exact frzA_pure hp.1 (frzAs_pure hp.2 k)
theorem frzK_pure {a : AV} {h : Heap} {K : AV → Heap → Prop} (hp : a.isPure2 = true) (k : K a h) : frzK h a K := by
  unfold frzK
  split
  · exact frzAs_pure hp k
  · cases a with
    | tup cs => rename_i hh; exact absurd rfl (hh cs)
    | _ => exact frzA_pure hp k

/-- a result that stands for less -/
theorem PCalls.sub {P : Program} {f : FuncId} {args : List AV} {r : AV} (h : PCalls P f args fun x => Sub x r) (hp : r.isPure2 = true) : PRet P f args r := by
  refine ⟨⟨⟨fun σ w vs s hv => ?_⟩⟩⟩
  refine (h.out.use σ w vs s hv).mono ?_
  rintro e w' ⟨v, rfl, σ1, h1, r1, k, m, x⟩
  obtain ⟨σ2, h2, r2, m2, x2, _, k2⟩ := frzK_sound m.sim x k
  exact ⟨v, rfl, σ2, h2, r, frzK_pure hp ⟨hp, rfl⟩, m.trans m2, k2.use σ2 v x2⟩

theorem psub_of {C : Ctx} (ok : COk C) (hm : C.P.follows .mixedOrders = true) {A : Ann} {f : FuncId} {fn : Func} {c : Code} (n : Nat) (hf : C.P.funcs[f]? = some fn) (hb : fn.body = some c) {args : List AV} {r : AV} (hp : r.isPure2 = true)
    (hk : forceR (frame0 args fn.ntmps) fun fr => forceHR (heap0 Heap.nil n) fun h => aexR C A c fr h fun e fr h' => match e with
      | .normal => resR C.ti fn.results.toList fr h' fun vs => retV vs fun v => frzK h' v fun r' _ => r'.isPure2 = true ∧ Sub r' r
      | .ret => resR C.ti fn.results.toList fr h' fun vs => retV vs fun v => frzK h' v fun r' _ => r'.isPure2 = true ∧ Sub r' r
      | .exit _ => False) (hy : C.yl = none := by rfl) : PRet C.P f args r := PCalls.sub ⟨fn_of ok hm n hf hb hk hy⟩ hp

end Go.Ab
namespace Go.Ab.V
open Go.Proofs

def A111 : Ann := fun r => match r with
  | 3 => { slots := [(0, 0), (2, 1)] }
  | _ => {}
set_option maxHeartbeats 1000000 in
set_option maxRecDepth 100000 in
theorem clone111_spec (l : List Crs) (hl : l.length ≤ 100000) : PRet C.P 111 [crsA l] (crsA l) := by
  have t1 : List.take l.length (List.drop 0 (l.map crR)) = l.map crR := takeAll l _
  have hp : pureRows (l.map crR) := pure_map l fun x => rfl
  refine psub_of ok mixed (A := A111) 2 Try.func111 rfl rfl ?_
  (repeat' (first | exact rfl | ((conv => whnf); first | exact rfl | refine ⟨by kernel_rfl, ?_⟩ | exact ⟨rfl, rfl⟩ | refine ⟨rfl, ?_⟩ | refine ⟨by (first | omega | (simp (disch := omega) only [wrapI]; omega) | (simp (disch := omega) only [wrapI]; simp; omega) | (simp; omega)), ?_⟩ | (intro ep) | refine ⟨fun hn0 => ?_, ?_⟩ | fail)))
  · unfold crsA; rw [hn0]; exact Sub.nils
  · rename_i ea eb h1 c
    rw [t1] at h1
    exact hp hn0 (by simpa using h1) c ep
  · rw [t1]
    have e : (0 + (l.map crR).length) = l.length := by simp [ints]
    rw [e]
    exact Sub.refl _
def A112 : Ann := fun r => match r with
  | 3 => { slots := [(0, 0), (2, 1)] }
  | _ => {}
set_option maxHeartbeats 1000000 in
set_option maxRecDepth 100000 in
theorem clone112_spec (l : List Int) (hl : l.length ≤ 100000) : PRet C.P 112 [intsA l] (intsA l) := by
  have t1 : List.take l.length (List.drop 0 (ints l)) = ints l := takeAll l _
  have hp : pureRows (ints l) := pure_map l fun x => rfl
  refine psub_of ok mixed (A := A112) 2 Try.func112 rfl rfl ?_
  (repeat' (first | exact rfl | ((conv => whnf); first | exact rfl | refine ⟨by kernel_rfl, ?_⟩ | exact ⟨rfl, rfl⟩ | refine ⟨rfl, ?_⟩ | refine ⟨by (first | omega | (simp (disch := omega) only [wrapI]; omega) | (simp (disch := omega) only [wrapI]; simp; omega) | (simp; omega)), ?_⟩ | (intro ep) | refine ⟨fun hn0 => ?_, ?_⟩ | fail)))
  · unfold intsA; rw [hn0]; exact Sub.nils
  · rename_i ea eb h1 c
    rw [t1] at h1
    exact hp hn0 (by simpa using h1) c ep
  · rw [t1]
    have e : (0 + (ints l).length) = l.length := by simp [ints]
    rw [e]
    exact Sub.refl _
def A113 : Ann := fun r => match r with
  | 3 => { slots := [(0, 0), (2, 1)] }
  | _ => {}
set_option maxHeartbeats 1000000 in
set_option maxRecDepth 100000 in
theorem clone113_spec (l : List Stp) (hl : l.length ≤ 100000) : PRet C.P 113 [stsA l] (stsA l) := by
  have t1 : List.take l.length (List.drop 0 (l.map stR)) = l.map stR := takeAll l _
  have hp : pureRows (l.map stR) := pure_map l fun x => rfl
  refine psub_of ok mixed (A := A113) 2 Try.func113 rfl rfl ?_
  (repeat' (first | exact rfl | ((conv => whnf); first | exact rfl | refine ⟨by kernel_rfl, ?_⟩ | exact ⟨rfl, rfl⟩ | refine ⟨rfl, ?_⟩ | refine ⟨by (first | omega | (simp (disch := omega) only [wrapI]; omega) | (simp (disch := omega) only [wrapI]; simp; omega) | (simp; omega)), ?_⟩ | (intro ep) | refine ⟨fun hn0 => ?_, ?_⟩ | fail)))
  · unfold stsA; rw [hn0]; exact Sub.nils
  · rename_i ea eb h1 c
    rw [t1] at h1
    exact hp hn0 (by simpa using h1) c ep
  · rw [t1]
    have e : (0 + (l.map stR).length) = l.length := by simp [ints]
    rw [e]
    exact Sub.refl _

def A84 : Ann := fun r => match r with
  | 0 => { slots := [(0, 0), (1, 1)] }
  | _ => {}
set_option maxHeartbeats 1000000 in
set_option maxRecDepth 100000 in
theorem copiedIn_spec (i : Ins) (h1 : i.cs.length ≤ 100000) (h2 : i.steps.length ≤ 100000) : PRet C.P 84 [inA i] (inA i) := by
  have c1 := clone111_spec i.cs h1
  have c2 := clone112_spec i.steps h2
  refine pret_of ok mixed (A := A84) 2 Try.func84 rfl ?_
  (repeat' (first | exact rfl | ((conv => whnf); first | exact rfl | refine ⟨by kernel_rfl, ?_⟩ | exact ⟨rfl, rfl⟩ | refine ⟨rfl, ?_⟩ | refine ⟨by (first | omega | (simp (disch := omega) only [wrapI]; omega) | (simp (disch := omega) only [wrapI]; simp; omega) | (simp; omega)), ?_⟩ | (intro ep) | refine ⟨_, c1, ?_⟩ | refine ⟨_, c2, ?_⟩ | fail)))

def A86 : Ann := fun r => match r with
  | 0 => { slots := [(0, 0), (1, 1)] }
  | _ => {}
set_option maxHeartbeats 1000000 in
set_option maxRecDepth 100000 in
theorem copied_spec (e : Evt) (h1 : e.stops.length ≤ 100000) : PRet C.P 86 [.agg (evR e)] (.agg (evR e)) := by
  have c1 := clone113_spec e.stops h1
  refine pret_of ok mixed (A := A86) 2 Try.func86 rfl ?_
  (repeat' (first | exact rfl | ((conv => whnf); first | exact rfl | refine ⟨by kernel_rfl, ?_⟩ | exact ⟨rfl, rfl⟩ | refine ⟨rfl, ?_⟩ | refine ⟨by (first | omega | (simp (disch := omega) only [wrapI]; omega) | (simp (disch := omega) only [wrapI]; simp; omega) | (simp; omega)), ?_⟩ | (intro ep) | refine ⟨_, c1, ?_⟩ | fail)))

end Go.Ab.V

/-
  The program's list of changed events, and what rewrites a piece, by the contract of the change. No condition.
-/
namespace Go.Ab.V
open Go.Proofs

section
variable {T : Type}
def outE (st : T → Evt → T × Evt) : T → List Evt → List Evt
  | _, [] => []
  | s, e :: r => (st s e).2 :: outE st (st s e).1 r
def endS (st : T → Evt → T × Evt) : T → List Evt → T
  | s, [] => s
  | s, e :: r => endS st (st s e).1 r
theorem outE_len (st : T → Evt → T × Evt) : ∀ (l : List Evt) (s : T), (outE st s l).length = l.length
  | [], _ => rfl
  | e :: r, s => by simp [outE, outE_len st r]
theorem endS_snoc (st : T → Evt → T × Evt) (e : Evt) : ∀ (l : List Evt) (s : T), endS st s (l ++ [e]) = (st (endS st s l) e).1
  | [], _ => rfl
  | x :: r, s => endS_snoc st e r (st s x).1
theorem outE_snoc (st : T → Evt → T × Evt) (e : Evt) : ∀ (l : List Evt) (s : T), outE st s (l ++ [e]) = outE st s l ++ [(st (endS st s l) e).2]
  | [], _ => rfl
  | x :: r, s => by simp only [List.cons_append, outE, endS, outE_snoc st e r]
end

/-- the cells of an event whose stops lie elsewhere -/
def evX (e : Evt) (x : AV) : List AV := [.bool e.bar, .int .i64 e.v, .bool e.d, .bool e.t, .bool e.tie, x]

/-- how the stops of an event lie: as a literal, or as an object of their own -/
structure Lay where
  stp : Nat → Nat → Evt → AV
  obj : Nat → Evt → List AObj
  c : Nat
  len : ∀ ep e, (obj ep e).length = c
def litL : Lay := ⟨fun _ _ e => stsA e.stops, fun _ _ => [], 0, fun _ _ => rfl⟩
def memL : Lay := ⟨fun B ep e => .oslc (.d B) ep 5 0 e.stops.length false, fun ep e => [.vec ep (e.stops.map stR)], 1, fun _ _ => rfl⟩

def rowsD (L : Lay) (B : Nat) (eps : Nat → Nat) : Nat → List Evt → List (List AV)
  | _, [] => []
  | i, e :: r => evX e (L.stp (B + L.c * i) (eps i) e) :: rowsD L B eps (i + 1) r
def objsD (L : Lay) (eps : Nat → Nat) : Nat → List Evt → List AObj
  | _, [] => []
  | i, e :: r => L.obj (eps i) e ++ objsD L eps (i + 1) r
theorem rowsD_len (L : Lay) (B : Nat) (eps : Nat → Nat) : ∀ (l : List Evt) (i : Nat), (rowsD L B eps i l).length = l.length
  | [], _ => rfl
  | e :: r, i => by simp [rowsD, rowsD_len L B eps r]
theorem objsD_len (L : Lay) (eps : Nat → Nat) : ∀ (l : List Evt) (i : Nat), (objsD L eps i l).length = L.c * l.length
  | [], _ => rfl
  | e :: r, i => by simp only [objsD, List.length_append, L.len, objsD_len L eps r, List.length_cons]; rw [Nat.mul_add]; omega
theorem rowsD_snoc (L : Lay) (B : Nat) (eps : Nat → Nat) (e : Evt) : ∀ (l : List Evt) (i : Nat), rowsD L B eps i (l ++ [e]) = rowsD L B eps i l ++ [evX e (L.stp (B + L.c * (i + l.length)) (eps (i + l.length)) e)]
  | [], _ => rfl
  | x :: r, i => by
    simp only [List.cons_append, rowsD, rowsD_snoc L B eps e r, List.length_cons]
    rw [show i + 1 + r.length = i + (r.length + 1) by omega]
theorem objsD_snoc (L : Lay) (eps : Nat → Nat) (e : Evt) : ∀ (l : List Evt) (i : Nat), objsD L eps i (l ++ [e]) = objsD L eps i l ++ L.obj (eps (i + l.length)) e
  | [], _ => by simp [objsD]
  | x :: r, i => by
    simp only [List.cons_append, objsD, objsD_snoc L eps e r, List.length_cons, List.append_assoc]
    rw [show i + 1 + r.length = i + (r.length + 1) by omega]
theorem rowsD_congr (L : Lay) (B : Nat) {f g : Nat → Nat} : ∀ (l : List Evt) (i : Nat), (∀ j, i ≤ j → j < i + l.length → f j = g j) → rowsD L B f i l = rowsD L B g i l
  | [], _, _ => rfl
  | e :: r, i, h => by
    simp only [rowsD, h i (Nat.le_refl _) (by simp), rowsD_congr L B r (i + 1) fun j a b => h j (by omega) (by simp only [List.length_cons]; omega)]
theorem objsD_congr (L : Lay) {f g : Nat → Nat} : ∀ (l : List Evt) (i : Nat), (∀ j, i ≤ j → j < i + l.length → f j = g j) → objsD L f i l = objsD L g i l
  | [], _, _ => rfl
  | e :: r, i, h => by
    simp only [objsD, h i (Nat.le_refl _) (by simp), objsD_congr L r (i + 1) fun j a b => h j (by omega) (by simp only [List.length_cons]; omega)]
/-- one event more -/
theorem layS (L : Lay) (B : Nat) (eps : Nat → Nat) (ep : Nat) (l : List Evt) (e : Evt) : ∃ eps', rowsD L B eps' 0 (l ++ [e]) = rowsD L B eps 0 l ++ [evX e (L.stp (B + L.c * l.length) ep e)] ∧ objsD L eps' 0 (l ++ [e]) = objsD L eps 0 l ++ L.obj ep e := by
  refine ⟨fun j => if j = l.length then ep else eps j, ?_, ?_⟩
  · rw [rowsD_snoc, rowsD_congr (g := eps) L B l 0 fun j _ h => if_neg (by omega), Nat.zero_add, if_pos rfl]
  · rw [objsD_snoc, objsD_congr (g := eps) L l 0 fun j _ h => if_neg (by omega), Nat.zero_add, if_pos rfl]

def A85 : Ann := fun r => match r with
  | 4 => { slots := [(2, 2)] }
  | 5 => { slots := [(4, 3), (5, 4)] }
  | 7 => { mv := [4] }
  | _ => {}

set_option maxHeartbeats 2000000 in
set_option maxRecDepth 100000 in
theorem mapped_spec {T : Type} (L : Lay) (o : T → AObj) (st : T → Evt → T × Evt) (ob : AObj) (ec : Nat) (l : List Evt) (hl : l.length ≤ 100000)
    (hF : ∀ s, ∀ e ∈ l, ∀ dy, ACalls C.P 110 [.agg (evR e), .optr (.s 1) ec 1 0 0] ⟨[o s, ob], dy⟩ fun r h' => ∃ ep, r = .agg (evX (st s e).2 (L.stp dy.length ep (st s e).2)) ∧ padTo 2 h'.st = [o (st s e).1, ob] ∧ h'.dy = dy ++ L.obj ep (st s e).2)
    (s0 : T) (dy : List AObj) :
    ACalls C.P 85 [evsA l, .fn (.func 110) [] [.optr (.s 1) ec 1 0 0]] ⟨[o s0, ob], dy⟩ fun r h' => ∃ eps epo, r = .oslc (.d (dy ++ objsD L eps 0 (outE st s0 l)).length) epo 6 0 l.length false ∧ padTo 2 h'.st = [o (endS st s0 l), ob] ∧
      h'.dy = dy ++ objsD L eps 0 (outE st s0 l) ++ [.vec epo (rowsD L dy.length eps 0 (outE st s0 l))] := by
  refine fn_of ok mixed (A := A85) 3 Try.func85 rfl ?_
  (repeat' (first | exact rfl | ((conv => whnf); first | exact rfl | refine ⟨by kernel_rfl, ?_⟩ | exact ⟨rfl, rfl⟩ | refine ⟨rfl, ?_⟩ | refine ⟨by (first | omega | (simp (disch := omega) only [wrapI]; omega) | (simp (disch := omega) only [wrapI]; simp; omega) | (simp; omega)), ?_⟩ | (intro ep) | fail)))
  (conv => whnf)
  refine wk_lift 5 4 6 rfl ?_
  intro e1
  refine loopM ok mixed (A := A85) [1, 5, 8, 9, 10] [0, 1, 4] (S := { x : Nat × (Nat → Nat) × Nat // x.1 ≤ l.length })
    (fr := fun s => frOf 0 22 [(1, .fn (.func 110) [] [.optr (.s 1) ec 1 0 0]), (5, .oslc (.s 4) s.1.2.2 6 0 s.1.1 false), (8, evsA l), (9, .int .i64 l.length), (10, .int .i64 (s.1.1 : Int))])
    (h := fun s => ⟨[o (endS st s0 (l.take s.1.1)), ob, .hole, .hole, .vec s.1.2.2 (rowsD L dy.length s.1.2.1 0 (outE st s0 (l.take s.1.1)))], dy ++ objsD L s.1.2.1 0 (outE st s0 (l.take s.1.1))⟩) (μ := fun s => l.length - s.1.1) ⟨(0, (fun _ => 0), e1), by simp⟩ ?_ ?_ ?_
  · exact rfl
  · refine Eq.trans (b := ⟨[o s0, ob, .hole, .hole, .vec e1 []], dy⟩) rfl ?_
    simp [outE, endS, rowsD, objsD]
  rintro ⟨⟨k, eps, ep⟩, hk⟩
  simp only at hk
  show aexR _ _ _ (frOf 0 22 [(1, .fn (.func 110) [] [.optr (.s 1) ec 1 0 0]), (5, .oslc (.s 4) ep 6 0 k false), (8, evsA l), (9, .int .i64 l.length), (10, .int .i64 (k : Int))]) ⟨[o (endS st s0 (l.take k)), ob, .hole, .hole, .vec ep (rowsD L dy.length eps 0 (outE st s0 (l.take k)))], dy ++ objsD L eps 0 (outE st s0 (l.take k))⟩ _
  (conv => whnf)
  refine ifB (fun h1 => ?_) (fun h1 => ?_)
  · simp only [decide_eq_true_eq] at h1
    have hlt : k < l.length := by omega
    have key := hF (endS st s0 (l.take k)) l[k] (List.getElem_mem hlt) (dy ++ objsD L eps 0 (outE st s0 (l.take k)))
    (repeat' (first | exact rfl | ((conv => whnf); first | exact rfl | refine ⟨by kernel_rfl, ?_⟩ | exact ⟨rfl, rfl⟩ | refine ⟨rfl, ?_⟩ | refine ⟨by (first | omega | (simp (disch := omega) only [wrapI]; omega) | (simp (disch := omega) only [wrapI]; simp; omega) | (simp; omega)), ?_⟩ | (intro ep) | refine optS (mapR hlt) ?_ | fail)))
    (conv => whnf)
    refine ACalls.part (dy := dy ++ objsD L eps 0 (outE st s0 (l.take k))) 2 (by exact rfl) (by exact rfl) (by exact rfl) key ?_
    rintro r h2 ⟨epn, rfl, hp, hd⟩
    rw [hp, hd]
    have e1 : l.take (k + 1) = l.take k ++ [l[k]] := by rw [List.take_add_one, List.getElem?_eq_getElem hlt]; rfl
    have hol : (outE st s0 (l.take k)).length = k := by rw [outE_len, List.length_take]; omega
    have hB : (dy ++ objsD L eps 0 (outE st s0 (l.take k))).length = dy.length + L.c * (outE st s0 (l.take k)).length := by rw [List.length_append, objsD_len]
    obtain ⟨eps', y1, y2⟩ := layS L dy.length eps epn (outE st s0 (l.take k)) (st (endS st s0 (l.take k)) l[k]).2
    rw [← outE_snoc, ← e1] at y1 y2
    rw [hB]
    have hrl := rowsD_len L dy.length eps (outE st s0 (l.take k)) 0
    (repeat' (first | exact rfl | ((conv => whnf); first | exact rfl | refine ⟨by kernel_rfl, ?_⟩ | exact ⟨rfl, rfl⟩ | refine ⟨rfl, ?_⟩ | refine ⟨by (first | omega | (simp (disch := omega) only [wrapI]; omega) | (simp (disch := omega) only [wrapI]; simp; omega) | (simp; omega)), ?_⟩ | (intro ep) | fail)))
    (conv => whnf)
    have hT : List.take k (rowsD L dy.length eps 0 (outE st s0 (l.take k))) = rowsD L dy.length eps 0 (outE st s0 (l.take k)) := List.take_of_length_le (by rw [hrl, hol]; exact Nat.le_refl _)
    refine back_of ⟨(k + 1, eps', ep), by simp only; omega⟩ ⟨by (first | exact rfl | (simp (disch := omega) only [wrapI]; exact rfl)), ?_, by simp only; omega⟩
    simp only
    rw [y1, y2, e1, endS_snoc, ← List.append_assoc dy]
    refine Eq.trans (b := ⟨[o (st (endS st s0 (l.take k)) l[k]).1, ob, .hole, .hole, .vec ep (List.take k (List.drop 0 (rowsD L dy.length eps 0 (outE st s0 (l.take k)))) ++
      [evX (st (endS st s0 (l.take k)) l[k]).2 (L.stp (dy.length + L.c * (outE st s0 (l.take k)).length) epn (st (endS st s0 (l.take k)) l[k]).2)])],
      dy ++ objsD L eps 0 (outE st s0 (l.take k)) ++ L.obj epn (st (endS st s0 (l.take k)) l[k]).2⟩) rfl ?_
    rw [List.drop_zero, hT]
  · simp only [decide_eq_false_iff_not] at h1
    obtain rfl : k = l.length := by omega
    rw [List.take_length]
    (repeat' (first | exact rfl | ((conv => whnf); first | exact rfl | refine ⟨by kernel_rfl, ?_⟩ | exact ⟨rfl, rfl⟩ | refine ⟨rfl, ?_⟩ | refine ⟨by (first | omega | (simp (disch := omega) only [wrapI]; omega) | (simp (disch := omega) only [wrapI]; simp; omega) | (simp; omega)), ?_⟩ | (intro ep) | fail)))

end Go.Ab.V

/-
  What rewrites a piece, by the contract of the change. No condition but the machine's bounds on lengths.
-/
namespace Go.Ab.V
open Go.Proofs

def A80 : Ann := fun r => match r with
  | 0 => { slots := [(0, 2), (1, 1), (2, 3)] }
  | 4 => { slots := [(4, 4)] }
  | _ => {}

/-- the contract of the change, by way of the closure that copies -/
def Chg {T : Type} (L : Lay) (o : T → AObj) (st : T → Evt → T × Evt) (F : Nat) (cap : List AV) (Good : Evt → Prop) : Prop :=
  ∀ ec s e dy, Good e → ACalls C.P 110 [.agg (evR e), .optr (.s 1) ec 1 0 0] ⟨[o s, .vec ec [[.fn (.func F) [] cap]]], dy⟩ fun r h' => ∃ ep, r = .agg (evX (st s e).2 (L.stp dy.length ep (st s e).2)) ∧
    padTo 2 h'.st = [o (st s e).1, .vec ec [[.fn (.func F) [] cap]]] ∧ h'.dy = dy ++ L.obj ep (st s e).2

/-- a piece in memory: its events, changed -/
def pcD (L : Lay) (i : Ins) (B : Nat) (epo : Nat) (eps : Nat → Nat) (l : List Evt) : AV := .agg [crsA i.cs, intsA i.steps, .oslc (.d (B + L.c * l.length)) epo 6 0 l.length false]
def pcO (L : Lay) (B : Nat) (epo : Nat) (eps : Nat → Nat) (l : List Evt) : List AObj := objsD L eps 0 l ++ [.vec epo (rowsD L B eps 0 l)]

set_option maxHeartbeats 2000000 in
set_option maxRecDepth 100000 in
theorem rewritten_spec {T : Type} {L : Lay} {o : T → AObj} {st : T → Evt → T × Evt} {F : Nat} {cap : List AV} {Good : Evt → Prop} (hF : Chg L o st F cap Good) (p : Pc) (hp : p.Ok) (hs : p.Sm) (hc : chk p = 0) (hg : ∀ e ∈ p.evs, Good e) (s0 : T) (dy : List AObj) :
    ACalls C.P 80 [pcA p, .fn (.func F) [] cap] ⟨[o s0], dy⟩ fun r h' => ∃ eps epo, r = .tup [pcD L p.ins dy.length epo eps (outE st s0 p.evs), .int .i64 0] ∧ padTo 1 h'.st = [o (endS st s0 p.evs)] ∧ h'.dy = dy ++ pcO L dy.length epo eps (outE st s0 p.evs) := by
  have h1 := check_spec p hp
  rw [hc] at h1
  have h2 := copiedIn_spec p.ins (by have := hs.cs; omega) (by have := hs.st; omega)
  refine fn_of ok mixed (A := A80) 4 Try.func80 rfl ?_
  (repeat' (first | exact rfl | ((conv => whnf); first | exact rfl | refine ⟨by kernel_rfl, ?_⟩ | exact ⟨rfl, rfl⟩ | refine ⟨rfl, ?_⟩ | refine ⟨by (first | omega | (simp (disch := omega) only [wrapI]; omega) | (simp (disch := omega) only [wrapI]; simp; omega) | (simp; omega)), ?_⟩ | (intro ep) | refine ⟨_, h1, ?_⟩ | refine ⟨_, h2, ?_⟩ | fail)))
  rename_i e1 e2 e3
  (conv => whnf)
  have key := mapped_spec L o st (.vec e2 [[.fn (.func F) [] cap]]) e2 p.evs (by have := hs.ev; omega) (fun s e he dy => hF e2 s e dy (hg e he)) s0 dy
  refine ACalls.part (dy := dy) 2 (by exact rfl) (by exact rfl) (by exact rfl) key ?_
  rintro r h3 ⟨eps, epo, rfl, hq, hd⟩
  rw [hq, hd]
  have hB : (dy ++ objsD L eps 0 (outE st s0 p.evs)).length = dy.length + L.c * (outE st s0 p.evs).length := by rw [List.length_append, objsD_len]
  rw [hB, ← outE_len st p.evs s0]
  (repeat' ((conv => whnf); first | refine ⟨rfl, ?_⟩ | fail))
  refine ⟨eps, epo, ?_, rfl, by rw [pcO, ← List.append_assoc]⟩
  rfl

/-- of a piece that is not valid: its error -/
theorem rewritten_bad {F : Nat} {cap : List AV} (p : Pc) (hp : p.Ok) (hc : chk p ≠ 0) (ob : AObj) (dy : List AObj) :
    ACalls C.P 80 [pcA p, .fn (.func F) [] cap] ⟨[ob], dy⟩ fun r h' => r = .tup [.agg [.nils, .nils, .nils], .int .i64 (chk p)] ∧ padTo 1 h'.st = [ob] ∧ h'.dy = dy := by
  have h1 := check_spec p hp
  refine fn_of ok mixed (A := A80) 4 Try.func80 rfl ?_
  (repeat' (first | exact rfl | ((conv => whnf); first | exact rfl | refine ⟨by kernel_rfl, ?_⟩ | exact ⟨rfl, rfl⟩ | refine ⟨rfl, ?_⟩ | refine ⟨by (first | omega | (simp (disch := omega) only [wrapI]; omega) | (simp (disch := omega) only [wrapI]; simp; omega) | (simp; omega)), ?_⟩ | (intro ep) | refine ⟨_, h1, ?_⟩ | (refine ifB (fun hb => ?_) (fun hb => ?_) <;> (try simp only [decide_eq_true_eq, decide_eq_false_iff_not, beq_iff_eq, beq_eq_false_iff_ne, bne_iff_ne, bne_eq_false_iff_eq, ne_eq, not_false_eq_true, not_true_eq_false, Bool.not_eq_true, Bool.not_eq_true', Bool.not_eq_false', Int.not_lt, Int.not_le] at hb) <;> (try simp (disch := omega) only [wrapI] at hb) <;> (try (exfalso; omega))) | fail)))

end Go.Ab.V

/-
  The changes of Augment, Plain and Terse. No condition but bounds on numbers.
-/
namespace Go.Ab.V
open Go.Proofs

/-- the contract of a change itself: the stops are not looked at -/
def Chs {T : Type} (o : T → AObj) (st : T → Evt → T × Evt) (F : Nat) (cap : List AV) (Good : Evt → Prop) : Prop :=
  ∀ s e x dy, Good e → ACalls C.P F (.agg (evX e x) :: cap) ⟨[o s], dy⟩ fun r h' => r = .agg (evX (st s e).2 x) ∧ padTo 1 h'.st = [o (st s e).1] ∧ h'.dy = dy

def sgB (v : Int) (d t : Bool) (v' : Int) (d' t' : Bool) : Bool := decide (v = v') && ((d == d') && ((t == t') && true))
theorem sgB_iff {v v' : Int} {d t d' t' : Bool} : sgB v d t v' d' t' = true ↔ v = v' ∧ d = d' ∧ t = t' := by
  unfold sgB; simp

def A81 : Ann := fun r => match r with
  | 0 => { slots := [(0, 1), (1, 2)] }
  | _ => {}
def augE (b : Int) (e : Evt) : Evt := if 0 < e.v then { e with v := IntKind.i64.wrap (e.v - b) } else e
def augS (b : Int) (s : Unit) (e : Evt) : Unit × Evt := (s, augE b e)
set_option maxHeartbeats 2000000 in
set_option maxRecDepth 100000 in
theorem aug_chs (b : Int) (e0 : Nat) : Chs (T := Unit) (fun _ => .vec e0 [[.int .i64 b]]) (augS b) 81 [.optr (.s 0) e0 1 0 0] (fun _ => True) := by
  intro s e x dy hg
  unfold augS augE
  by_cases hz : 0 < e.v
  · rw [if_pos hz]
    refine fn_of ok mixed (A := A81) 2 Try.func81 rfl ?_
    (repeat' (first | exact rfl | ((conv => whnf); first | exact rfl | refine ⟨by kernel_rfl, ?_⟩ | exact ⟨rfl, rfl⟩ | refine ⟨rfl, ?_⟩ | refine ⟨by (first | omega | (simp (disch := omega) only [wrapI]; omega) | (simp (disch := omega) only [wrapI]; simp; omega) | (simp; omega)), ?_⟩ | (intro ep) | (refine ifB (fun hb => ?_) (fun hb => ?_) <;> (try (exfalso; simp at hb; omega))) | fail)))
  · rw [if_neg hz]
    refine fn_of ok mixed (A := A81) 2 Try.func81 rfl ?_
    (repeat' (first | exact rfl | ((conv => whnf); first | exact rfl | refine ⟨by kernel_rfl, ?_⟩ | exact ⟨rfl, rfl⟩ | refine ⟨rfl, ?_⟩ | refine ⟨by (first | omega | (simp (disch := omega) only [wrapI]; omega) | (simp (disch := omega) only [wrapI]; simp; omega) | (simp; omega)), ?_⟩ | (intro ep) | (refine ifB (fun hb => ?_) (fun hb => ?_) <;> (try (exfalso; simp at hb; omega))) | fail)))

def sgO (e0 : Nat) (s : Sgn) : AObj := .vec e0 [[.int .i64 s.v, .bool s.d, .bool s.t]]
def withS (e : Evt) (s : Sgn) : Evt := { e with v := s.v, d := s.d, t := s.t }
def plnS (s : Sgn) (e : Evt) : Sgn × Evt := if sgB e.v e.d e.t 0 false false = true then (s, withS e s) else (⟨e.v, e.d, e.t⟩, e)

def A95 : Ann := fun r => match r with
  | 0 => { slots := [(0, 1), (1, 2)] }
  | _ => {}
set_option maxHeartbeats 2000000 in
set_option maxRecDepth 100000 in
theorem pln_chs (e0 : Nat) : Chs (sgO e0) plnS 95 [.optr (.s 0) e0 3 0 0] (fun _ => True) := by
  intro s e x dy hg
  unfold plnS
  have hz2 : True := trivial
  by_cases hz : sgB e.v e.d e.t 0 false false = true
  · rw [if_pos hz]
    refine fn_of ok mixed (A := A95) 2 Try.func95 rfl ?_
    (repeat' (first | exact rfl | ((conv => whnf); first | exact rfl | refine ⟨by kernel_rfl, ?_⟩ | exact ⟨rfl, rfl⟩ | refine ⟨rfl, ?_⟩ | refine ⟨by (first | omega | (simp (disch := omega) only [wrapI]; omega) | (simp (disch := omega) only [wrapI]; simp; omega) | (simp; omega)), ?_⟩ | (intro ep) | (refine ifB (fun hb => ?_) (fun hb => ?_) <;> (try (exfalso; first | exact absurd hb hz | exact absurd (bF hb) hz | exact Bool.noConfusion (hb.symm.trans hz) | exact Bool.noConfusion ((bT hb).symm.trans hz) | exact absurd hb hz2 | exact absurd (bF hb) hz2 | exact Bool.noConfusion (hb.symm.trans hz2) | exact Bool.noConfusion ((bT hb).symm.trans hz2)))) | fail)))
  · rw [if_neg hz]
    refine fn_of ok mixed (A := A95) 2 Try.func95 rfl ?_
    (repeat' (first | exact rfl | ((conv => whnf); first | exact rfl | refine ⟨by kernel_rfl, ?_⟩ | exact ⟨rfl, rfl⟩ | refine ⟨rfl, ?_⟩ | refine ⟨by (first | omega | (simp (disch := omega) only [wrapI]; omega) | (simp (disch := omega) only [wrapI]; simp; omega) | (simp; omega)), ?_⟩ | (intro ep) | (refine ifB (fun hb => ?_) (fun hb => ?_) <;> (try (exfalso; first | exact absurd hb hz | exact absurd (bF hb) hz | exact Bool.noConfusion (hb.symm.trans hz) | exact Bool.noConfusion ((bT hb).symm.trans hz) | exact absurd hb hz2 | exact absurd (bF hb) hz2 | exact Bool.noConfusion (hb.symm.trans hz2) | exact Bool.noConfusion ((bT hb).symm.trans hz2)))) | fail)))

def trsS (s : Sgn) (e : Evt) : Sgn × Evt := if sgB e.v e.d e.t s.v s.d s.t = true then (s, withS e ⟨0, false, false⟩) else if sgB e.v e.d e.t 0 false false = true then (s, e) else (⟨e.v, e.d, e.t⟩, e)
def A97 : Ann := fun r => match r with
  | 0 => { slots := [(0, 1), (1, 2)] }
  | _ => {}
set_option maxHeartbeats 2000000 in
set_option maxRecDepth 100000 in
theorem trs_chs (e0 : Nat) : Chs (sgO e0) trsS 97 [.optr (.s 0) e0 3 0 0] (fun _ => True) := by
  intro s e x dy hg
  unfold trsS
  by_cases hz : sgB e.v e.d e.t s.v s.d s.t = true
  · rw [if_pos hz]
    have hz2 : sgB 0 false false 0 false false = true := rfl
    refine fn_of ok mixed (A := A97) 2 Try.func97 rfl ?_
    (repeat' (first | exact rfl | ((conv => whnf); first | exact rfl | refine ⟨by kernel_rfl, ?_⟩ | exact ⟨rfl, rfl⟩ | refine ⟨rfl, ?_⟩ | refine ⟨by (first | omega | (simp (disch := omega) only [wrapI]; omega) | (simp (disch := omega) only [wrapI]; simp; omega) | (simp; omega)), ?_⟩ | (intro ep) | (refine ifB (fun hb => ?_) (fun hb => ?_) <;> (try (exfalso; first | exact absurd hb hz | exact absurd (bF hb) hz | exact Bool.noConfusion (hb.symm.trans hz) | exact Bool.noConfusion ((bT hb).symm.trans hz) | exact absurd hb hz2 | exact absurd (bF hb) hz2 | exact Bool.noConfusion (hb.symm.trans hz2) | exact Bool.noConfusion ((bT hb).symm.trans hz2)))) | fail)))
  · rw [if_neg hz]
    by_cases hz2 : sgB e.v e.d e.t 0 false false = true
    · rw [if_pos hz2]
      refine fn_of ok mixed (A := A97) 2 Try.func97 rfl ?_
      (repeat' (first | exact rfl | ((conv => whnf); first | exact rfl | refine ⟨by kernel_rfl, ?_⟩ | exact ⟨rfl, rfl⟩ | refine ⟨rfl, ?_⟩ | refine ⟨by (first | omega | (simp (disch := omega) only [wrapI]; omega) | (simp (disch := omega) only [wrapI]; simp; omega) | (simp; omega)), ?_⟩ | (intro ep) | (refine ifB (fun hb => ?_) (fun hb => ?_) <;> (try (exfalso; first | exact absurd hb hz | exact absurd (bF hb) hz | exact Bool.noConfusion (hb.symm.trans hz) | exact Bool.noConfusion ((bT hb).symm.trans hz) | exact absurd hb hz2 | exact absurd (bF hb) hz2 | exact Bool.noConfusion (hb.symm.trans hz2) | exact Bool.noConfusion ((bT hb).symm.trans hz2)))) | fail)))
    · rw [if_neg hz2]
      refine fn_of ok mixed (A := A97) 2 Try.func97 rfl ?_
      (repeat' (first | exact rfl | ((conv => whnf); first | exact rfl | refine ⟨by kernel_rfl, ?_⟩ | exact ⟨rfl, rfl⟩ | refine ⟨rfl, ?_⟩ | refine ⟨by (first | omega | (simp (disch := omega) only [wrapI]; omega) | (simp (disch := omega) only [wrapI]; simp; omega) | (simp; omega)), ?_⟩ | (intro ep) | (refine ifB (fun hb => ?_) (fun hb => ?_) <;> (try (exfalso; first | exact absurd hb hz | exact absurd (bF hb) hz | exact Bool.noConfusion (hb.symm.trans hz) | exact Bool.noConfusion ((bT hb).symm.trans hz) | exact absurd hb hz2 | exact absurd (bF hb) hz2 | exact Bool.noConfusion (hb.symm.trans hz2) | exact Bool.noConfusion ((bT hb).symm.trans hz2)))) | fail)))


def A110 : Ann := fun r => match r with
  | 0 => { slots := [(0, 2), (1, 3)] }
  | _ => {}

set_option maxHeartbeats 2000000 in
set_option maxRecDepth 100000 in
theorem c81_lit {T : Type} {o : T → AObj} {st : T → Evt → T × Evt} {e0 sz : Nat} {Good : Evt → Prop} (h : Chs o st 81 [.optr (.s 0) e0 sz 0 0] Good) (hst : ∀ s e, (st s e).2.stops = e.stops) : Chg litL o st 81 [.optr (.s 0) e0 sz 0 0] (fun e => Good e ∧ e.stops.length ≤ 100000) := by
  intro ec s e dy hg
  have c1 : PRet C.P 86 [.agg (evR e)] (.agg (evX e (stsA (st s e).2.stops))) := by rw [hst]; exact copied_spec e hg.2
  have key := h s e (stsA (st s e).2.stops) dy hg.1
  refine fn_of ok mixed (A := A110) 2 Try.func110 rfl ?_
  (repeat' (first | exact rfl | ((conv => whnf); first | exact rfl | refine ⟨by kernel_rfl, ?_⟩ | exact ⟨rfl, rfl⟩ | refine ⟨rfl, ?_⟩ | refine ⟨by (first | omega | (simp (disch := omega) only [wrapI]; omega) | (simp (disch := omega) only [wrapI]; simp; omega) | (simp; omega)), ?_⟩ | (intro ep) | refine ⟨_, c1, ?_⟩ | fail)))
  (conv => whnf)
  refine ACalls.part (dy := dy) 1 (by exact rfl) (by exact rfl) (by exact rfl) key ?_
  rintro r h3 ⟨rfl, hq, hd⟩
  rw [hq, hd]
  (repeat' ((conv => whnf); first | refine ⟨rfl, ?_⟩ | fail))
  exact ⟨0, rfl, rfl, (List.append_nil _).symm⟩

set_option maxHeartbeats 2000000 in
set_option maxRecDepth 100000 in
theorem c95_lit {T : Type} {o : T → AObj} {st : T → Evt → T × Evt} {e0 sz : Nat} {Good : Evt → Prop} (h : Chs o st 95 [.optr (.s 0) e0 sz 0 0] Good) (hst : ∀ s e, (st s e).2.stops = e.stops) : Chg litL o st 95 [.optr (.s 0) e0 sz 0 0] (fun e => Good e ∧ e.stops.length ≤ 100000) := by
  intro ec s e dy hg
  have c1 : PRet C.P 86 [.agg (evR e)] (.agg (evX e (stsA (st s e).2.stops))) := by rw [hst]; exact copied_spec e hg.2
  have key := h s e (stsA (st s e).2.stops) dy hg.1
  refine fn_of ok mixed (A := A110) 2 Try.func110 rfl ?_
  (repeat' (first | exact rfl | ((conv => whnf); first | exact rfl | refine ⟨by kernel_rfl, ?_⟩ | exact ⟨rfl, rfl⟩ | refine ⟨rfl, ?_⟩ | refine ⟨by (first | omega | (simp (disch := omega) only [wrapI]; omega) | (simp (disch := omega) only [wrapI]; simp; omega) | (simp; omega)), ?_⟩ | (intro ep) | refine ⟨_, c1, ?_⟩ | fail)))
  (conv => whnf)
  refine ACalls.part (dy := dy) 1 (by exact rfl) (by exact rfl) (by exact rfl) key ?_
  rintro r h3 ⟨rfl, hq, hd⟩
  rw [hq, hd]
  (repeat' ((conv => whnf); first | refine ⟨rfl, ?_⟩ | fail))
  exact ⟨0, rfl, rfl, (List.append_nil _).symm⟩

set_option maxHeartbeats 2000000 in
set_option maxRecDepth 100000 in
theorem c97_lit {T : Type} {o : T → AObj} {st : T → Evt → T × Evt} {e0 sz : Nat} {Good : Evt → Prop} (h : Chs o st 97 [.optr (.s 0) e0 sz 0 0] Good) (hst : ∀ s e, (st s e).2.stops = e.stops) : Chg litL o st 97 [.optr (.s 0) e0 sz 0 0] (fun e => Good e ∧ e.stops.length ≤ 100000) := by
  intro ec s e dy hg
  have c1 : PRet C.P 86 [.agg (evR e)] (.agg (evX e (stsA (st s e).2.stops))) := by rw [hst]; exact copied_spec e hg.2
  have key := h s e (stsA (st s e).2.stops) dy hg.1
  refine fn_of ok mixed (A := A110) 2 Try.func110 rfl ?_
  (repeat' (first | exact rfl | ((conv => whnf); first | exact rfl | refine ⟨by kernel_rfl, ?_⟩ | exact ⟨rfl, rfl⟩ | refine ⟨rfl, ?_⟩ | refine ⟨by (first | omega | (simp (disch := omega) only [wrapI]; omega) | (simp (disch := omega) only [wrapI]; simp; omega) | (simp; omega)), ?_⟩ | (intro ep) | refine ⟨_, c1, ?_⟩ | fail)))
  (conv => whnf)
  refine ACalls.part (dy := dy) 1 (by exact rfl) (by exact rfl) (by exact rfl) key ?_
  rintro r h3 ⟨rfl, hq, hd⟩
  rw [hq, hd]
  (repeat' ((conv => whnf); first | refine ⟨rfl, ?_⟩ | fail))
  exact ⟨0, rfl, rfl, (List.append_nil _).symm⟩

end Go.Ab.V

/-
  The program's Augment, Plain and Terse. No condition but the machine's bounds on lengths.
-/
namespace Go.Ab.V
open Go.Proofs

theorem rowsD_lit (B : Nat) (eps : Nat → Nat) : ∀ (l : List Evt) (i : Nat), rowsD litL B eps i l = l.map evR
  | [], _ => rfl
  | e :: r, i => by simp only [rowsD, rowsD_lit B eps r]; rfl
theorem objsD_lit (eps : Nat → Nat) : ∀ (l : List Evt) (i : Nat), objsD litL eps i l = []
  | [], _ => rfl
  | e :: r, i => by simp only [objsD, objsD_lit eps r]; rfl

/-- the piece as what is handed back before it is frozen -/
def litP (i : Ins) (B ep : Nat) (l : List Evt) : AV := .agg [crsA i.cs, intsA i.steps, .oslc (.d B) ep 6 0 l.length false]

theorem rewritten_lit {T : Type} {o : T → AObj} {st : T → Evt → T × Evt} {F : Nat} {cap : List AV} {Good : Evt → Prop} (hF : Chg litL o st F cap Good) (p : Pc) (hp : p.Ok) (hs : p.Sm) (hc : chk p = 0) (hg : ∀ e ∈ p.evs, Good e) (s0 : T) (dy : List AObj) :
    ACalls C.P 80 [pcA p, .fn (.func F) [] cap] ⟨[o s0], dy⟩ fun r h' => ∃ ep, r = .tup [litP p.ins dy.length ep (outE st s0 p.evs), .int .i64 0] ∧ padTo 1 h'.st = [o (endS st s0 p.evs)] ∧ h'.dy = dy ++ [.vec ep ((outE st s0 p.evs).map evR)] := by
  refine (rewritten_spec hF p hp hs hc hg s0 dy).mono fun r h' ⟨eps, epo, h1, h2, h3⟩ => ⟨epo, ?_, h2, ?_⟩
  · rw [h1, pcD, show litL.c = 0 from rfl, Nat.zero_mul]; rfl
  · rw [h3, pcO, objsD_lit, rowsD_lit]; rfl

def zeroA : AV := .agg [.nils, .nils, .nils]
/-- what hands back a piece or an error -/
def pcE (x : Except Int Pc) : AV := match x with
  | .ok p => .tup [pcA p, .int .i64 0]
  | .error e => .tup [zeroA, .int .i64 e]

theorem fz_litP (i : Ins) (ep : Nat) (l : List Evt) : fzV [.vec ep (l.map evR)] (.tup [litP i 0 ep l, .int .i64 0]) = .tup [pcA ⟨i, l⟩, .int .i64 0] := by
  simp [fzV, litP, fzC, pcA, crsA, intsA, evsA]

theorem end_lit {i : Ins} {ep : Nat} {l : List Evt} {h : Heap} : (∀ o ∈ [AObj.vec ep (l.map evR)], pureObj o) ∧ frzK h (fzV [.vec ep (l.map evR)] (.tup [litP i 0 ep l, .int .i64 0])) fun r' _ => r'.isPure2 = true ∧ r' = .tup [pcA ⟨i, l⟩, .int .i64 0] := by
  refine ⟨fun o ho => ?_, ?_⟩
  · obtain rfl := List.mem_singleton.1 ho
    exact pure_map l fun x => rfl
  · rw [fz_litP]
    exact frzK_pure rfl ⟨rfl, rfl⟩

def wsub (v b : Int) : Int := IntKind.i64.wrap (v - b)
def augBad (b : Int) (e : Evt) : Bool := decide (0 < e.v) && (decide (wsub e.v b < 1) || decide (7 < wsub e.v b))
def augP (p : Pc) (b : Int) : Except Int Pc :=
  if chk p ≠ 0 then .error (chk p) else if b < -6 ∨ 6 < b then .error 1 else if p.evs.any (augBad b) = true then .error 20 else .ok ⟨p.ins, p.evs.map (augE b)⟩
theorem outE_aug (b : Int) : ∀ (l : List Evt), outE (augS b) () l = l.map (augE b)
  | [] => rfl
  | e :: r => by rw [outE, show (augS b () e).1 = () from rfl, outE_aug b r]; rfl

def A41 : Ann := fun r => match r with
  | 0 => { slots := [(0, 1), (1, 0), (2, 2)] }
  | 8 => { slots := [(2, 3)] }
  | _ => {}

set_option maxHeartbeats 2000000 in
set_option maxRecDepth 100000 in
theorem augment_spec (p : Pc) (hp : p.Ok) (hs : p.Sm) (b : Int) : PRet C.P 41 [pcA p, .int .i64 b] (pcE (augP p b)) := by
  have h1 := check_spec p hp
  have hle := hs.ev
  unfold augP
  by_cases hc : chk p = 0
  · rw [if_neg (fun h => h hc)]
    rw [hc] at h1
    by_cases hb : b < -6 ∨ 6 < b
    · rw [if_pos hb]
      refine pretD_of ok mixed (A := A41) 4 Try.func41 rfl ?_
      (repeat' (first | exact rfl | ((conv => whnf); first | exact rfl | refine ⟨by kernel_rfl, ?_⟩ | exact ⟨rfl, rfl⟩ | refine ⟨rfl, ?_⟩ | refine ⟨by (first | omega | (simp (disch := omega) only [wrapI]; omega) | (simp (disch := omega) only [wrapI]; simp; omega) | (simp; omega)), ?_⟩ | (intro ep) | refine ⟨_, h1, ?_⟩ | refine ⟨fun o ho => (List.not_mem_nil (a := o) ho).elim, ?_⟩ | (refine ifB (fun hb => ?_) (fun hb => ?_) <;> (try simp only [decide_eq_true_eq, decide_eq_false_iff_not, beq_iff_eq, beq_eq_false_iff_ne, bne_iff_ne, bne_eq_false_iff_eq, ne_eq, not_false_eq_true, not_true_eq_false, Bool.not_eq_true, Bool.not_eq_true', Bool.not_eq_false', Int.not_lt, Int.not_le] at hb) <;> (try simp (disch := omega) only [wrapI] at hb) <;> (try (exfalso; omega))) | fail)))
    · rw [if_neg hb]
      obtain ⟨R, hR⟩ : ∃ R, R = p.evs.any (augBad b) := ⟨_, rfl⟩
      rw [← hR]
      refine pretD_of ok mixed (A := A41) 4 Try.func41 rfl ?_
      (conv => whnf)
      intro e2
      (conv => whnf)
      intro e0
      (conv => whnf)
      intro e3
      (repeat' (first | exact rfl | ((conv => whnf); first | exact rfl | refine ⟨by kernel_rfl, ?_⟩ | exact ⟨rfl, rfl⟩ | refine ⟨rfl, ?_⟩ | refine ⟨by (first | omega | (simp (disch := omega) only [wrapI]; omega) | (simp (disch := omega) only [wrapI]; simp; omega) | (simp; omega)), ?_⟩ | (intro ep) | refine ⟨_, h1, ?_⟩ | (refine ifB (fun hb => ?_) (fun hb => ?_) <;> (try simp only [decide_eq_true_eq, decide_eq_false_iff_not, beq_iff_eq, beq_eq_false_iff_ne, bne_iff_ne, bne_eq_false_iff_eq, ne_eq, not_false_eq_true, not_true_eq_false, Bool.not_eq_true, Bool.not_eq_true', Bool.not_eq_false', Int.not_lt, Int.not_le] at hb) <;> (try simp (disch := omega) only [wrapI] at hb) <;> (try (exfalso; omega))) | fail)))
      (conv => whnf)
      refine loopM ok mixed (A := A41) [2, 3, 4, 24, 25, 26] [0, 1, 2] (S := { k : Nat // k ≤ p.evs.length ∧ R = (p.evs.drop k).any (augBad b) })
        (fr := fun s => frOf 0 54 [(2, .optr (.s 1) e2 3 0 0), (3, .optr (.s 0) e0 1 0 0), (4, .optr (.s 2) e3 3 0 0), (24, evsA p.evs), (25, .int .i64 p.evs.length), (26, .int .i64 (s.1 : Int))])
        (h := fun s => ⟨[.vec e0 [[.int .i64 b]], .vec e2 [[crsA p.ins.cs, intsA p.ins.steps, evsA p.evs]], .vec e3 [[.nils, .nils, .nils]], .hole], []⟩) (μ := fun s => p.evs.length - s.1) ⟨0, by omega, hR⟩ rfl rfl ?_
      rintro ⟨k, hk, hRk⟩
      show aexR _ _ _ (frOf 0 54 [(2, .optr (.s 1) e2 3 0 0), (3, .optr (.s 0) e0 1 0 0), (4, .optr (.s 2) e3 3 0 0), (24, evsA p.evs), (25, .int .i64 p.evs.length), (26, .int .i64 (k : Int))]) ⟨[.vec e0 [[.int .i64 b]], .vec e2 [[crsA p.ins.cs, intsA p.ins.steps, evsA p.evs]], .vec e3 [[.nils, .nils, .nils]], .hole], []⟩ _
      (conv => whnf)
      refine ifB (fun g1 => ?_) (fun g1 => ?_)
      · simp only [decide_eq_true_eq] at g1
        have hlt : k < p.evs.length := by omega
        rw [List.drop_eq_getElem_cons hlt, List.any_cons] at hRk
        cases hbd : augBad b p.evs[k]
        · rw [hbd, Bool.false_or] at hRk
          simp only [augBad, Bool.and_eq_false_iff, Bool.or_eq_false_iff, decide_eq_false_iff_not] at hbd
          simp only [wsub] at hbd
          (repeat' (first | exact rfl | ((conv => whnf); first | exact rfl | refine ⟨by kernel_rfl, ?_⟩ | exact ⟨rfl, rfl⟩ | refine ⟨rfl, ?_⟩ | refine ⟨by (first | omega | (simp (disch := omega) only [wrapI]; omega) | (simp (disch := omega) only [wrapI]; simp; omega) | (simp; omega)), ?_⟩ | (intro ep) | refine optS (mapR hlt) ?_ | (refine ifB (fun hb => ?_) (fun hb => ?_) <;> simp only [decide_eq_true_eq, decide_eq_false_iff_not, gt_iff_lt] at hb <;> (try (exfalso; omega))) | fail)))
          all_goals (conv => whnf)
          all_goals refine back_of ⟨k + 1, by omega, hRk⟩ ⟨by (first | exact rfl | (simp (disch := omega) only [wrapI]; exact rfl)), rfl, by simp only; omega⟩
        · rw [hbd, Bool.true_or] at hRk
          subst hRk
          simp only [augBad, Bool.and_eq_true, Bool.or_eq_true, decide_eq_true_eq] at hbd
          simp only [wsub] at hbd
          (repeat' (first | exact rfl | ((conv => whnf); first | exact rfl | refine ⟨by kernel_rfl, ?_⟩ | exact ⟨rfl, rfl⟩ | refine ⟨rfl, ?_⟩ | refine ⟨by (first | omega | (simp (disch := omega) only [wrapI]; omega) | (simp (disch := omega) only [wrapI]; simp; omega) | (simp; omega)), ?_⟩ | (intro ep) | refine optS (mapR hlt) ?_ | refine ⟨fun o ho => (List.not_mem_nil (a := o) ho).elim, ?_⟩ | (refine ifB (fun hb => ?_) (fun hb => ?_) <;> simp only [decide_eq_true_eq, decide_eq_false_iff_not, gt_iff_lt] at hb <;> (try (exfalso; omega))) | fail)))
      · simp only [decide_eq_false_iff_not] at g1
        rw [List.drop_eq_nil_of_le (by omega)] at hRk
        subst hRk
        obtain ⟨l, hl⟩ : ∃ l, l = p.evs.map (augE b) := ⟨_, rfl⟩
        have key := rewritten_lit (c81_lit (aug_chs b e0) (fun s e => by unfold augS augE; dsimp only; split <;> rfl)) p hp hs hc (fun e he => ⟨trivial, by have := hs.sp e he; omega⟩) () []
        rw [outE_aug, ← hl] at key
        rw [← hl]
        (repeat' (first | exact rfl | ((conv => whnf); first | exact rfl | refine ⟨by kernel_rfl, ?_⟩ | exact ⟨rfl, rfl⟩ | refine ⟨rfl, ?_⟩ | refine ⟨by (first | omega | (simp (disch := omega) only [wrapI]; omega) | (simp (disch := omega) only [wrapI]; simp; omega) | (simp; omega)), ?_⟩ | (intro ep) | fail)))
        (conv => whnf)
        refine ACalls.part (dy := []) 1 (by exact rfl) (by exact rfl) (by exact rfl) key ?_
        rintro r h3 ⟨ep, rfl, hq, hd⟩
        rw [hq, hd]
        (repeat' ((conv => whnf); first | refine ⟨rfl, ?_⟩ | fail))
        exact end_lit
  · rw [if_pos hc]
    refine pretD_of ok mixed (A := A41) 4 Try.func41 rfl ?_
    (repeat' (first | exact rfl | ((conv => whnf); first | exact rfl | refine ⟨by kernel_rfl, ?_⟩ | exact ⟨rfl, rfl⟩ | refine ⟨rfl, ?_⟩ | refine ⟨by (first | omega | (simp (disch := omega) only [wrapI]; omega) | (simp (disch := omega) only [wrapI]; simp; omega) | (simp; omega)), ?_⟩ | (intro ep) | refine ⟨_, h1, ?_⟩ | refine ⟨fun o ho => (List.not_mem_nil (a := o) ho).elim, ?_⟩ | (refine ifB (fun hb => ?_) (fun hb => ?_) <;> (try simp only [decide_eq_true_eq, decide_eq_false_iff_not, beq_iff_eq, beq_eq_false_iff_ne, bne_iff_ne, bne_eq_false_iff_eq, ne_eq, not_false_eq_true, not_true_eq_false, Bool.not_eq_true, Bool.not_eq_true', Bool.not_eq_false', Int.not_lt, Int.not_le] at hb) <;> (try simp (disch := omega) only [wrapI] at hb) <;> (try (exfalso; omega))) | fail)))

def plnP (p : Pc) : Except Int Pc := if chk p ≠ 0 then .error (chk p) else .ok ⟨p.ins, outE plnS ⟨0, false, false⟩ p.evs⟩
def trsP (p : Pc) : Except Int Pc := if chk p ≠ 0 then .error (chk p) else .ok ⟨p.ins, outE trsS ⟨0, false, false⟩ p.evs⟩
def A54 : Ann := fun r => match r with
  | 0 => { slots := [(0, 1), (1, 2)] }
  | 1 => { slots := [(1, 0)] }
  | _ => {}
def A56 : Ann := A54

set_option maxHeartbeats 2000000 in
set_option maxRecDepth 100000 in
theorem plain_spec (p : Pc) (hp : p.Ok) (hs : p.Sm) : PRet C.P 54 [pcA p] (pcE (plnP p)) := by
  unfold plnP
  by_cases hc : chk p = 0
  · rw [if_neg (fun h => h hc)]
    refine pretD_of ok mixed (A := A54) 3 Try.func54 rfl ?_
    (repeat' (first | exact rfl | ((conv => whnf); first | exact rfl | refine ⟨by kernel_rfl, ?_⟩ | exact ⟨rfl, rfl⟩ | refine ⟨rfl, ?_⟩ | refine ⟨by (first | omega | (simp (disch := omega) only [wrapI]; omega) | (simp (disch := omega) only [wrapI]; simp; omega) | (simp; omega)), ?_⟩ | (intro ep) | fail)))
    obtain ⟨e0, he0⟩ : ∃ e0, e0 = ep := ⟨_, rfl⟩
    subst he0
    (conv => whnf)
    obtain ⟨l, hl⟩ : ∃ l, l = outE plnS ⟨0, false, false⟩ p.evs := ⟨_, rfl⟩
    have key := rewritten_lit (c95_lit (pln_chs e0) (fun s e => by unfold plnS; split <;> (try split) <;> rfl)) p hp hs hc (fun e he => ⟨trivial, by have := hs.sp e he; omega⟩) ⟨0, false, false⟩ []
    rw [← hl] at key
    rw [← hl]
    refine ACalls.part (dy := []) 1 (by exact rfl) (by exact rfl) (by exact rfl) key ?_
    rintro r h3 ⟨ep, rfl, hq, hd⟩
    rw [hq, hd]
    (repeat' ((conv => whnf); first | refine ⟨rfl, ?_⟩ | fail))
    exact end_lit
  · rw [if_pos hc]
    refine pretD_of ok mixed (A := A54) 3 Try.func54 rfl ?_
    (repeat' (first | exact rfl | ((conv => whnf); first | exact rfl | refine ⟨by kernel_rfl, ?_⟩ | exact ⟨rfl, rfl⟩ | refine ⟨rfl, ?_⟩ | refine ⟨by (first | omega | (simp (disch := omega) only [wrapI]; omega) | (simp (disch := omega) only [wrapI]; simp; omega) | (simp; omega)), ?_⟩ | (intro ep) | fail)))
    obtain ⟨e0, he0⟩ : ∃ e0, e0 = ep := ⟨_, rfl⟩
    subst he0
    (conv => whnf)
    have key := rewritten_bad (F := 95) (cap := [.optr (.s 0) e0 3 0 0]) p hp hc (sgO e0 ⟨0, false, false⟩) []
    refine ACalls.part (dy := []) 1 (by exact rfl) (by exact rfl) (by exact rfl) key ?_
    rintro r h3 ⟨rfl, hq, hd⟩
    rw [hq, hd]
    (repeat' (first | exact rfl | ((conv => whnf); first | exact rfl | refine ⟨by kernel_rfl, ?_⟩ | exact ⟨rfl, rfl⟩ | refine ⟨rfl, ?_⟩ | refine ⟨by (first | omega | (simp (disch := omega) only [wrapI]; omega) | (simp (disch := omega) only [wrapI]; simp; omega) | (simp; omega)), ?_⟩ | (intro ep) | refine ⟨fun o ho => (List.not_mem_nil (a := o) ho).elim, ?_⟩ | fail)))

set_option maxHeartbeats 2000000 in
set_option maxRecDepth 100000 in
theorem terse_spec (p : Pc) (hp : p.Ok) (hs : p.Sm) : PRet C.P 56 [pcA p] (pcE (trsP p)) := by
  unfold trsP
  by_cases hc : chk p = 0
  · rw [if_neg (fun h => h hc)]
    refine pretD_of ok mixed (A := A56) 3 Try.func56 rfl ?_
    (repeat' (first | exact rfl | ((conv => whnf); first | exact rfl | refine ⟨by kernel_rfl, ?_⟩ | exact ⟨rfl, rfl⟩ | refine ⟨rfl, ?_⟩ | refine ⟨by (first | omega | (simp (disch := omega) only [wrapI]; omega) | (simp (disch := omega) only [wrapI]; simp; omega) | (simp; omega)), ?_⟩ | (intro ep) | fail)))
    obtain ⟨e0, he0⟩ : ∃ e0, e0 = ep := ⟨_, rfl⟩
    subst he0
    (conv => whnf)
    obtain ⟨l, hl⟩ : ∃ l, l = outE trsS ⟨0, false, false⟩ p.evs := ⟨_, rfl⟩
    have key := rewritten_lit (c97_lit (trs_chs e0) (fun s e => by unfold trsS; split <;> (try split) <;> rfl)) p hp hs hc (fun e he => ⟨trivial, by have := hs.sp e he; omega⟩) ⟨0, false, false⟩ []
    rw [← hl] at key
    rw [← hl]
    refine ACalls.part (dy := []) 1 (by exact rfl) (by exact rfl) (by exact rfl) key ?_
    rintro r h3 ⟨ep, rfl, hq, hd⟩
    rw [hq, hd]
    (repeat' ((conv => whnf); first | refine ⟨rfl, ?_⟩ | fail))
    exact end_lit
  · rw [if_pos hc]
    refine pretD_of ok mixed (A := A56) 3 Try.func56 rfl ?_
    (repeat' (first | exact rfl | ((conv => whnf); first | exact rfl | refine ⟨by kernel_rfl, ?_⟩ | exact ⟨rfl, rfl⟩ | refine ⟨rfl, ?_⟩ | refine ⟨by (first | omega | (simp (disch := omega) only [wrapI]; omega) | (simp (disch := omega) only [wrapI]; simp; omega) | (simp; omega)), ?_⟩ | (intro ep) | fail)))
    obtain ⟨e0, he0⟩ : ∃ e0, e0 = ep := ⟨_, rfl⟩
    subst he0
    (conv => whnf)
    have key := rewritten_bad (F := 97) (cap := [.optr (.s 0) e0 3 0 0]) p hp hc (sgO e0 ⟨0, false, false⟩) []
    refine ACalls.part (dy := []) 1 (by exact rfl) (by exact rfl) (by exact rfl) key ?_
    rintro r h3 ⟨rfl, hq, hd⟩
    rw [hq, hd]
    (repeat' (first | exact rfl | ((conv => whnf); first | exact rfl | refine ⟨by kernel_rfl, ?_⟩ | exact ⟨rfl, rfl⟩ | refine ⟨rfl, ?_⟩ | refine ⟨by (first | omega | (simp (disch := omega) only [wrapI]; omega) | (simp (disch := omega) only [wrapI]; simp; omega) | (simp; omega)), ?_⟩ | (intro ep) | refine ⟨fun o ho => (List.not_mem_nil (a := o) ho).elim, ?_⟩ | fail)))

end Go.Ab.V

/-
  The document's Copy as new memory: its events may be written. No condition but the machine's bounds on lengths.
-/
namespace Go.Ab.V
open Go.Proofs

end Go.Ab.V

/-
  The document's Plain, Terse and Augment. No condition but the machine's bounds on lengths.
-/
namespace Go.Ab.V
open Go.Proofs

/-- a list, written over up to k -/
def mix {α : Type} (L M : List α) (k : Nat) : List α := L.take k ++ M.drop k
theorem mix_zero {α : Type} (L M : List α) : mix L M 0 = M := by simp [mix]
theorem mix_end {α : Type} {L M : List α} (h : L.length = M.length) : mix L M M.length = L := by simp [mix, ← h]
theorem mix_len {α : Type} {L M : List α} (h : L.length = M.length) (k : Nat) : (mix L M k).length = M.length := by
  simp only [mix, List.length_append, List.length_take, List.length_drop]; omega
theorem mixR {α : Type} {f : α → List AV} {L M : List α} {k : Nat} (h : L.length = M.length) (hk : k < M.length) : ((mix L M k).map f)[0 + ((k : Nat) : Int).toNat]? = some (f M[k]) := by
  rw [Nat.zero_add, Int.toNat_natCast, List.getElem?_map, mix, List.getElem?_append_right (by rw [List.length_take]; omega), List.length_take, Nat.min_eq_left (by omega), Nat.sub_self, List.getElem?_drop, Nat.add_zero, List.getElem?_eq_getElem hk]
  rfl
theorem mix_set {α : Type} {f : α → List AV} {L M : List α} {k : Nat} (h : L.length = M.length) (hk : k < M.length) {r : List AV} (hr : r = f (L[k]'(by omega))) : ((mix L M k).map f).set (0 + ((k : Nat) : Int).toNat) r = (mix L M (k + 1)).map f := by
  subst hr
  have h1 : k < L.length := by omega
  rw [Nat.zero_add, Int.toNat_natCast]
  have e : (mix L M (k + 1)) = (mix L M k).set k L[k] := by
    unfold mix
    rw [List.set_append_right _ _ (by rw [List.length_take]; omega), List.length_take, Nat.min_eq_left (by omega), Nat.sub_self, List.drop_eq_getElem_cons hk, List.set_cons_zero, List.take_add_one, List.getElem?_eq_getElem h1, List.append_assoc]
    rfl
  rw [e, List.map_set]

def sgE (a b : Sgn) : Bool := sgB a.v a.d a.t b.v b.d b.t
theorem sgE_iff {a b : Sgn} : sgE a b = true ↔ a = b := by
  cases a; cases b; unfold sgE; rw [sgB_iff]; simp
theorem set_get {l : List (List AV)} {i : Nat} {r : List AV} (h : i < l.length) : (l.set i r)[i]? = some r := by rw [List.getElem?_set_self h]

end Go.Ab.V

/-
  The document's Augment; both sides hand back the same. No condition but the machine's bounds on lengths.
-/
namespace Go.Ab.V
open Go.Proofs

end Go.Ab.V

/-
  What Augment, Plain and Terse hand back: the same on both sides, and valid. Plain Lean. No condition.
-/
namespace Go.Ab.V
open Go.Proofs

def body (e : Evt) : Bool × List Stp := (e.tie, e.stops)
theorem longL_body (c : Int) : ∀ (n : Nat) (l m : List Evt), l.map body = m.map body → longL c n l = longL c n m
  | 0, _, _, _ => by simp [longL]
  | n + 1, [], [], _ => rfl
  | n + 1, [], _ :: _, h => by simp at h
  | n + 1, _ :: _, [], h => by simp at h
  | n + 1, a :: l, b :: m, h => by
    simp only [List.map_cons, List.cons.injEq, body, Prod.mk.injEq] at h
    obtain ⟨⟨h1, h2⟩, h3⟩ := h
    have ih := longL_body c n l m h3
    have hr : restE a = restE b := by unfold restE; rw [h1, h2]
    simp only [longL, hr, h2, ih]
theorem longest_body {l m : List Evt} (h : l.map body = m.map body) (k c : Int) : longest l k c = longest m k c := by
  have hl : l.length = m.length := by have := congrArg List.length h; simpa using this
  unfold longest
  rw [hl, longL_body c 15 (l.drop (k + 1).toNat) (m.drop (k + 1).toNat) (by rw [List.map_drop, List.map_drop, h])]
theorem chkStops_body {p q : Pc} (hi : p.ins = q.ins) (h : p.evs.map body = q.evs.map body) (k : Nat) : ∀ (l : List Stp) (last : Int), chkStops p k last l = chkStops q k last l
  | [], _ => rfl
  | s :: r, last => by
    simp only [chkStops, hi, longest_body h, chkStops_body hi h k r]
theorem chkEvs_body {p q : Pc} (hi : p.ins = q.ins) (h : p.evs.map body = q.evs.map body) : ∀ (l m : List Evt) (k : Nat), l.map body = m.map body → (∀ e ∈ m, right e.v e.d e.t = true) → (k = 0 → ∀ e ∈ m.head?, e.v ≠ 0) → chkEvs p k l = 0 → chkEvs q k m = 0
  | [], [], _, _, _, _, _ => rfl
  | [], _ :: _, _, h, _, _, _ => by simp at h
  | _ :: _, [], _, h, _, _, _ => by simp at h
  | a :: l, b :: m, k, hm, hr, h0, hc => by
    simp only [List.map_cons, List.cons.injEq, body, Prod.mk.injEq] at hm
    obtain ⟨⟨h1, h2⟩, h3⟩ := hm
    unfold chkEvs at hc ⊢
    split at hc
    · rename_i ha
      have hb : chkEv q k b = 0 := by
        unfold chkEv at ha ⊢
        split at ha
        · cases ha
        · rw [if_neg]
          · split at ha
            · cases ha
            · rename_i ht
              rw [h1, h2] at ht
              rw [if_neg ht, ← chkStops_body hi h, ← h2]
              exact ha
          · rintro (h5 | ⟨h5, h6⟩)
            · rw [hr b (List.mem_cons_self ..)] at h5; cases h5
            · exact h0 h5 b (by simp) h6
      rw [if_pos hb]
      exact chkEvs_body hi h l m (k + 1) h3 (fun e he => hr e (List.mem_cons_of_mem _ he)) (fun h => by omega) hc
    · rename_i ha
      exact absurd hc ha
theorem chk_body {p q : Pc} (hi : p.ins = q.ins) (h : p.evs.map body = q.evs.map body) (hr : ∀ e ∈ q.evs, right e.v e.d e.t = true) (h0 : ∀ e ∈ q.evs.head?, e.v ≠ 0) (hc : chk p = 0) : chk q = 0 := by
  have hl : p.evs.length = q.evs.length := by have := congrArg List.length h; simpa using this
  unfold chk at hc ⊢
  rw [← hi, ← hl]
  split at hc
  · rename_i e
    rw [if_pos e]
    split at hc
    · cases hc
    · rename_i e2
      rw [if_neg e2]
      exact chkEvs_body hi h p.evs q.evs 0 h hr (fun _ => h0) hc
  · rename_i e; exact absurd hc e
theorem chk_first {p : Pc} (hc : chk p = 0) : ∀ e ∈ p.evs.head?, e.v ≠ 0 := by
  unfold chk at hc
  split at hc
  · split at hc
    · cases hc
    · intro e he hv
      cases hp : p.evs with
      | nil => rw [hp] at he; cases he
      | cons a r =>
        rw [hp] at he hc
        simp at he
        subst he
        unfold chkEvs at hc
        split at hc
        · rename_i h0
          unfold chkEv at h0
          rw [if_pos (.inr ⟨rfl, hv⟩)] at h0
          cases h0
        · rename_i h0; exact h0 hc
  · rename_i e; exact absurd hc e
theorem right_rng {v : Int} {d t : Bool} (h : right v d t = true) : 0 ≤ v ∧ v ≤ 7 ∧ (v = 0 → d = false ∧ t = false) := by
  unfold right at h
  by_cases h0 : v = 0
  · subst h0; rw [if_pos rfl] at h; simp at h; exact ⟨by omega, by omega, fun _ => h⟩
  · rw [if_neg h0] at h
    simp only [Bool.and_eq_true, decide_eq_true_eq] at h
    exact ⟨by omega, by omega, fun e => absurd e h0⟩

/-! ### Augment -/
theorem wsub_eq {v b : Int} (h : 0 ≤ v ∧ v ≤ 7) (hb : -6 ≤ b ∧ b ≤ 6) : wsub v b = v - b := by unfold wsub; rw [IntWalk.i64_in _ (by omega)]
theorem augE_body (b : Int) (l : List Evt) : (l.map (augE b)).map body = l.map body := by
  rw [List.map_map]
  refine List.map_congr_left fun e _ => ?_
  show body (augE b e) = body e
  unfold augE body
  split <;> rfl
theorem aug_ok {p q : Pc} {b : Int} (h : augP p b = .ok q) : chk p = 0 ∧ (-6 ≤ b ∧ b ≤ 6) ∧ (∀ e ∈ p.evs, e.v ≠ 0 → 1 ≤ e.v - b ∧ e.v - b ≤ 7) ∧ q = ⟨p.ins, p.evs.map (augE b)⟩ := by
  unfold augP at h
  split at h
  · cases h
  · rename_i hc
    split at h
    · cases h
    · rename_i hb
      split at h
      · cases h
      · rename_i ha
        cases h
        have hc : chk p = 0 := Decidable.not_not.1 hc
        refine ⟨hc, by omega, fun e he hv => ?_, rfl⟩
        have hr := right_rng (chk_right hc e he)
        simp only [List.any_eq_true, not_exists, not_and, Bool.not_eq_true] at ha
        have := ha e he
        unfold augBad at this
        rw [wsub_eq ⟨hr.1, hr.2.1⟩ (by omega)] at this
        simp only [Bool.and_eq_false_iff, Bool.or_eq_false_iff, decide_eq_false_iff_not] at this
        omega
theorem augE_v {b : Int} {e : Evt} (h : right e.v e.d e.t = true) (hb : -6 ≤ b ∧ b ≤ 6) (hv : e.v ≠ 0) : augE b e = { e with v := e.v - b } := by
  have hr := right_rng h
  unfold augE
  rw [if_pos (by omega)]
  have := wsub_eq ⟨hr.1, hr.2.1⟩ hb
  unfold wsub at this
  rw [this]
theorem augE_z {b : Int} {e : Evt} (hv : e.v = 0) : augE b e = e := by
  unfold augE
  rw [if_neg (by omega)]
theorem right_move {v w : Int} {d t : Bool} (h : right v d t = true) (hv : v ≠ 0) (hw : 1 ≤ w ∧ w ≤ 7) : right w d t = true := by
  unfold right at h ⊢
  rw [if_neg hv] at h
  rw [if_neg (by omega)]
  simp only [Bool.and_eq_true, decide_eq_true_eq] at h ⊢
  exact ⟨⟨hw.1, hw.2⟩, h.2⟩
theorem aug_chk {p q : Pc} {b : Int} (h : augP p b = .ok q) : chk q = 0 := by
  obtain ⟨hc, hb, hv, rfl⟩ := aug_ok h
  have hr := chk_right hc
  refine chk_body (p := p) rfl (augE_body b p.evs).symm (fun e he => ?_) (fun e he => ?_) hc
  · obtain ⟨x, hx, rfl⟩ := List.mem_map.1 he
    by_cases hz : x.v = 0
    · rw [augE_z hz]; exact hr x hx
    · rw [augE_v (hr x hx) hb hz]; exact right_move (hr x hx) hz (hv x hx hz)
  · have h0 := chk_first hc
    cases hp : p.evs with
    | nil => simp only [hp, List.map_nil] at he; cases he
    | cons a r =>
      simp only [hp, List.map_cons, List.head?_cons, Option.mem_def, Option.some.injEq] at he h0
      have ha := h0 a rfl
      have hm : a ∈ p.evs := by rw [hp]; exact List.mem_cons_self ..
      rw [augE_v (hr a hm) hb ha] at he
      subst he
      have := hv a hm ha
      show a.v - b ≠ 0
      omega
theorem ticks_two {v : Int} {d t : Bool} (hv : 2 ≤ v ∧ v ≤ 7) : ticks (v - 1) d t = 2 * ticks v d t := by
  have : v = 2 ∨ v = 3 ∨ v = 4 ∨ v = 5 ∨ v = 6 ∨ v = 7 := by omega
  rcases this with rfl | rfl | rfl | rfl | rfl | rfl <;> cases d <;> cases t <;> rfl
end Go.Ab.V

/-
  The law PieceAugments is true at every input.
-/
namespace Go.Ab.V
open Go.Proofs

theorem frcb {f : Int} {e : Evt} (h : 0 ≤ f ∧ f ≤ 576) : 0 ≤ frc f e ∧ frc f e ≤ 576 := by
  have := ticks_bd e.v e.d e.t
  unfold frc
  split <;> omega
theorem onsT_rng : ∀ (l : List Evt) (f t : Int) (k : Nat), 0 ≤ f ∧ f ≤ 576 → 0 ≤ t ∧ t ≤ 576 * k → ∀ x ∈ onsT f t l, 0 ≤ x ∧ x ≤ 576 * (k + l.length : Nat)
  | [], _, _, _, _, _, x, h => by cases h
  | e :: r, f, t, k, hf, ht, x, h => by
    have h1 := frcb (e := e) hf
    rcases List.mem_cons.1 h with rfl | h
    · simp only [List.length_cons]; omega
    · have := onsT_rng r (frc f e) (t + frc f e) (k + 1) h1 (by omega) x h
      simp only [List.length_cons]; omega
theorem ons_rng (p : Pc) : ∀ x ∈ onsets p, 0 ≤ x ∧ x ≤ 576 * p.evs.length := by
  intro x h
  rcases List.mem_cons.1 h with rfl | h
  · omega
  · have := onsT_rng p.evs 0 0 0 (by omega) (by omega) x h
    omega
theorem Pc.Sm.ok {p : Pc} (h : p.Sm) : p.Ok := ⟨by have := h.cs; omega, by have := h.st; omega, by have := h.ev; omega, fun e he => by have := h.sp e he; omega⟩
theorem Sm_body {p q : Pc} (hs : p.Sm) (hi : p.ins = q.ins) (h : p.evs.map body = q.evs.map body) : q.Sm := by
  have hl : p.evs.length = q.evs.length := by have := congrArg List.length h; simpa using this
  refine ⟨hi ▸ hs.cs, hi ▸ hs.st, hl ▸ hs.ev, fun e he => ?_⟩
  have : body e ∈ p.evs.map body := by rw [h]; exact List.mem_map_of_mem he
  obtain ⟨x, hx, hb⟩ := List.mem_map.1 this
  have := hs.sp x hx
  have : x.stops = e.stops := (Prod.mk.inj hb).2
  rw [← this]
  exact hs.sp x hx
theorem aug_err {p : Pc} {b e : Int} (h : augP p b = .error e) : e ≠ 0 := by
  unfold augP at h
  split at h
  · rename_i hc; cases h; exact hc
  · split at h
    · cases h; decide
    · split at h <;> cases h; decide

end Go.Ab.V
