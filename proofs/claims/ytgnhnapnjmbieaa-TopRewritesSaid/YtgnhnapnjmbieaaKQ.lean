/-
  What is proved here serves the law's text: each part says its own claim and its conditions. No condition is left open.
-/
import Derived.Test.YtgnhnapnjmbieaaKI
import Derived.Test.YtgnhnapnjmbieaaKN
import Derived.Test.YtgnhnapnjmbieaaKP
import Derived.Test.YtgnhnapnjmbieaaKJ
import Derived.Test.YtgnhnapnjmbieaaKG
set_option linter.unusedSimpArgs false
set_option linter.unusedVariables false

/-
  Measures, by the program and by the document. The pieces are of the sizes that a statement looks at.
-/
namespace Go.Ab.V
open Go.Proofs

structure M3 where
  i : Int
  n : Int
  t : Int
def bump (l : List M3) (tk : Int) : List M3 := match l.getLast? with
  | some m => l.dropLast ++ [⟨m.i, m.n + 1, m.t + tk⟩]
  | none => []
def mstep (l : List M3) (k : Nat) (e : Evt) (tk : Int) : List M3 := bump (if k = 0 ∨ e.bar = true then l ++ [⟨k, 0, 0⟩] else l) tk
def msr (l : List M3) (k : Nat) (f : Int) : List Evt → List M3
  | [] => l
  | e :: r => msr (mstep l k e (frc f e)) (k + 1) (frc f e) r
def measures (p : Pc) : List M3 := msr [] 0 0 p.evs
end Go.Ab.V

/-
  SameInts of a list with itself; the document's Measures; the law PieceTimes. The pieces are of the sizes that a statement looks at.
-/
namespace Go.Ab.V
open Go.Proofs

end Go.Ab.V

/-
  The law PieceTorn is true at every input.
-/
namespace Go.Ab.V
open Go.Proofs

end Go.Ab.V

/-
  The measures and the onsets of a broken piece. Plain Lean. No condition.
-/
namespace Go.Ab.V
open Go.Proofs

/-- the events of a list stand between the bars -/
def Bsd (bar : Nat) : Nat → List Evt → Prop
  | _, [] => True
  | x, f :: r => (0 < tkE f ∧ x + tkn f ≤ (x / bar + 1) * bar ∧ f.bar = decide (0 < x ∧ x % bar = 0)) ∧ Bsd bar (x + tkn f) r
theorem bsd_parts {bar : Nat} {e : Evt} {a b : Nat} {m : List Evt} (hm : Bsd bar b m) : ∀ {x : Nat} {g : List Evt}, Parts bar e a b x g → Bsd bar x (g ++ m)
  | _, _, .done => hm
  | x, _, .step hx ht hb hm' hbar htie hst h => ⟨⟨ht, hm', hbar⟩, bsd_parts hm h⟩
theorem bsd_brkG {bar x i : Nat} {F : List Nat} {g m : List Evt} (h : Bsd bar x (g ++ m)) : Bsd bar x (brkG F i g ++ m) := by
  cases g with
  | nil => exact h
  | cons f tl => exact h
theorem bsd_brkO {bar : Nat} {F : List Nat} : ∀ {a i : Nat} {l : List Evt} {G : List (List Evt)}, Grps bar a l G → Bsd bar a (brkO F i G)
  | _, _, _, _, .nil => trivial
  | a, i, e :: r, _, .cons hp hG => bsd_brkG (bsd_parts (bsd_brkO hG) hp)
theorem bsd_tk {bar : Nat} : ∀ {l : List Evt} {x : Nat}, Bsd bar x l → ∀ e ∈ l, 0 < tkE e
  | _ :: _, _, h, e, he => by
    rcases List.mem_cons.1 he with rfl | he
    · exact h.1.1
    · exact bsd_tk h.2 e he

/-! ### the measures -/
/-! ### the onsets -/
theorem holdB_plc (F : List Nat) (i : Nat) (s : Stp) : (holdB F i s).c = s.c ∧ (holdB F i s).f = s.f := by unfold holdB; split <;> exact ⟨rfl, rfl⟩
theorem tmN_lt {P : List Evt} (hP : ∀ e ∈ P, 0 < tkn e) : ∀ {j k : Nat}, j < k → k ≤ P.length → tmN P j < tmN P k
  | j, k + 1, h1, h2 => by
    have h3 := tmN_succ (P := P) (i := k) (by omega)
    have h4 := hP _ (List.getElem_mem (show k < P.length by omega))
    rcases Nat.lt_or_ge j k with h | h
    · have := tmN_lt hP h (by omega)
      omega
    · obtain rfl : j = k := by omega
      omega
/-- how the onsets of a broken piece stand to the old ones -/
structure Barred (P Q : List Evt) (fx : Nat → Nat) : Prop where
  tkP : ∀ e ∈ P, 0 < tkE e
  tkQ : ∀ e ∈ Q, 0 < tkE e
  fin : fx P.length = Q.length
  le : ∀ i, i ≤ P.length → fx i ≤ Q.length
  tm : ∀ i, i ≤ P.length → tmN Q (fx i) = tmN P i
  pl : ∀ i (h : i < P.length), ∃ h2 : fx i < Q.length, eqBy plB P[i].stops Q[fx i].stops = true
theorem Barred.mono {P Q : List Evt} {fx : Nat → Nat} (h : Barred P Q fx) {i : Nat} (hi : i + 1 ≤ P.length) : fx i ≤ fx (i + 1) := by
  rcases Nat.lt_or_ge (fx (i + 1)) (fx i) with h1 | h1
  · have h2 := tmN_lt (fun e he => by have := h.tkQ e he; unfold tkn; omega) h1 (h.le i (by omega))
    have h3 := tmN_lt (P := P) (fun e he => by have := h.tkP e he; unfold tkn; omega) (show i < i + 1 by omega) hi
    rw [h.tm _ (by omega), h.tm _ (by omega)] at h2
    omega
  · exact h1
end Go.Ab.V

/-
  The strokes of a piece, and that no rewriting changes them. Plain Lean. No condition.
-/
namespace Go.Ab.V
open Go.Proofs

/-- course and fret -/
def plcs (l : List Stp) : List Int := l.flatMap fun s => [s.c, s.f]
/-- the chord of an event -/
def chd (f t : Int) (e : Evt) : List Int := if e.stops.length = 0 then [] else t * f :: (e.stops.length : Int) :: plcs e.stops
/-- the strokes of events whose signs are written -/
def stk (f t : Int) : List Evt → List Int
  | [] => [t * f]
  | e :: r => chd f t e ++ stk f (t + tkE e) r
def stk0 (f t : Int) : List Evt → List Int
  | [] => []
  | e :: r => chd f t e ++ stk0 f (t + tkE e) r
def smT : List Evt → Int
  | [] => 0
  | e :: r => tkE e + smT r
theorem stk_end (f : Int) : ∀ (l : List Evt) (t : Int), stk f t l = stk0 f t l ++ [(t + smT l) * f]
  | [], t => by simp [stk, stk0, smT]
  | e :: r, t => by
    rw [stk, stk0, smT, stk_end f r, List.append_assoc, Int.add_assoc]
theorem stk_app (f : Int) : ∀ (l m : List Evt) (t : Int), stk f t (l ++ m) = stk0 f t l ++ stk f (t + smT l) m
  | [], m, t => by simp [stk0, smT]
  | e :: r, m, t => by
    rw [List.cons_append, stk, stk0, smT, stk_app f r, List.append_assoc, Int.add_assoc]
theorem stk0_app (f : Int) : ∀ (l m : List Evt) (t : Int), stk0 f t (l ++ m) = stk0 f t l ++ stk0 f (t + smT l) m
  | [], m, t => by simp [stk0, smT]
  | e :: r, m, t => by
    rw [List.cons_append, stk0, stk0, smT, stk0_app f r, List.append_assoc, Int.add_assoc]
theorem smT_app : ∀ (l m : List Evt), smT (l ++ m) = smT l + smT m
  | [], m => by simp [smT]
  | e :: r, m => by rw [List.cons_append, smT, smT, smT_app r, Int.add_assoc]

/-- what is struck, and when, of a valid piece -/
def strk (f : Int) (p : Pc) : List Int := stk f 0 (outE plnS sz p.evs)

/-! ### written signs stay -/
theorem pln_id {l : List Evt} : ∀ {s : Sgn}, (∀ e ∈ l, e.v ≠ 0) → outE plnS s l = l := by
  induction l with
  | nil => intro s _; rfl
  | cons e r ih =>
    intro s h
    have h0 := h e (List.mem_cons_self ..)
    have e1 : plnS s e = (⟨e.v, e.d, e.t⟩, e) := by
      unfold plnS
      rw [if_neg]
      unfold sgB
      simp [h0]
    rw [outE, e1]
    simp only
    rw [ih fun x hx => h x (List.mem_cons_of_mem _ hx)]
theorem tk_v {e : Evt} (h : 0 < tkE e) : e.v ≠ 0 := by
  intro hv
  unfold tkE at h
  rw [hv] at h
  simp [ticks] at h
theorem pln_good_id {l : List Evt} (h : ∀ e ∈ l, 0 < tkE e) : outE plnS sz l = l := pln_id fun e he => tk_v (h e he)

/-! ### the rewritings -/
theorem strk_pln {p : Pc} (f : Int) (hc : chk p = 0) : strk f ⟨p.ins, outE plnS sz p.evs⟩ = strk f p := by
  unfold strk
  simp only
  rw [pln_good_id (pln_tk hc)]
theorem strk_trs {p : Pc} (f : Int) : strk f ⟨p.ins, outE trsS sz p.evs⟩ = strk f p := by
  unfold strk
  simp only
  rw [pln_trs]
theorem pln_bare : ∀ (l : List Evt) (s : Sgn), outE plnS s (l.map bareE) = (outE plnS s l).map bareE
  | [], _ => rfl
  | e :: r, s => by
    have h1 : (plnS s (bareE e)).1 = (plnS s e).1 := by unfold plnS bareE; simp only; split <;> rfl
    have h2 : (plnS s (bareE e)).2 = bareE (plnS s e).2 := by unfold plnS bareE; simp only; split <;> rfl
    rw [List.map_cons, outE, outE, List.map_cons, h1, h2, pln_bare r]
theorem plcs_map {g : Stp → Stp} (hg : ∀ s, (g s).c = s.c ∧ (g s).f = s.f) : ∀ l : List Stp, plcs (l.map g) = plcs l
  | [] => rfl
  | s :: r => by
    have := plcs_map hg r
    unfold plcs at this ⊢
    rw [List.map_cons, List.flatMap_cons, List.flatMap_cons, this, (hg s).1, (hg s).2]
theorem chd_map {g : Stp → Stp} (hg : ∀ s, (g s).c = s.c ∧ (g s).f = s.f) (f t : Int) (e e' : Evt) (h : e'.stops = e.stops.map g) : chd f t e' = chd f t e := by
  unfold chd
  rw [h, List.length_map, plcs_map hg]
theorem stk_like {f : Int} : ∀ {l m : List Evt} {t : Int}, l.length = m.length → (∀ i (h : i < l.length) (h' : i < m.length), tkE m[i] = tkE l[i] ∧ ∃ g : Stp → Stp, (∀ s, (g s).c = s.c ∧ (g s).f = s.f) ∧ (m[i]).stops = (l[i]).stops.map g) → stk f t m = stk f t l
  | [], [], _, _, _ => rfl
  | [], _ :: _, _, h, _ => by simp at h
  | _ :: _, [], _, h, _ => by simp at h
  | e :: l, e' :: m, t, hl, h => by
    obtain ⟨h1, g, h2, h3⟩ := h 0 (by simp) (by simp)
    simp only [List.getElem_cons_zero] at h1 h3
    rw [stk, stk, chd_map h2 f t e e' h3, h1]
    rw [stk_like (by simpa using hl) fun i a b => by
      have := h (i + 1) (by simpa using a) (by simpa using b)
      simpa using this]
theorem strk_bare {p : Pc} (f : Int) : strk f ⟨p.ins, p.evs.map bareE⟩ = strk f p := by
  unfold strk
  simp only
  rw [pln_bare]
  refine stk_like (by simp) fun i h h' => ?_
  rw [List.getElem_map]
  exact ⟨rfl, bareS, fun s => ⟨rfl, rfl⟩, rfl⟩

/-- two lists of strokes: the second has all times twice as great -/
theorem stk_scale {f : Int} : ∀ {l m : List Evt} {t : Int}, l.length = m.length → (∀ i (h : i < l.length) (h' : i < m.length), tkE m[i] = 2 * tkE l[i] ∧ (m[i]).stops = (l[i]).stops) → stk f (2 * t) m = stk (2 * f) t l
  | [], [], t, _, _ => by
    rw [stk, stk, Int.mul_comm 2 t, Int.mul_assoc]
  | [], _ :: _, _, h, _ => by simp at h
  | _ :: _, [], _, h, _ => by simp at h
  | e :: l, e' :: m, t, hl, h => by
    obtain ⟨h1, h3⟩ := h 0 (by simp) (by simp)
    simp only [List.getElem_cons_zero] at h1 h3
    rw [stk, stk, h1, ← Int.mul_add]
    rw [stk_scale (by simpa using hl) fun i a b => by
      have := h (i + 1) (by simpa using a) (by simpa using b)
      simpa using this]
    congr 1
    unfold chd
    rw [h3, Int.mul_comm 2 t, Int.mul_assoc]

theorem pln_aug {b : Int} (hb : -6 ≤ b ∧ b ≤ 6) : ∀ (l : List Evt) (s : Sgn), (∀ e ∈ l, right e.v e.d e.t = true ∧ (e.v ≠ 0 → 1 ≤ e.v - b ∧ e.v - b ≤ 7)) →
    (∀ e ∈ outE plnS s l, e.v ≠ 0) → outE plnS ⟨s.v - b, s.d, s.t⟩ (l.map (augE b)) = (outE plnS s l).map fun e => { e with v := e.v - b }
  | [], _, _, _ => rfl
  | e :: r, s, h, hn => by
    obtain ⟨h1, h2⟩ := h e (List.mem_cons_self ..)
    have ih := fun s hs => pln_aug hb r s (fun x hx => h x (List.mem_cons_of_mem _ hx)) hs
    rw [List.map_cons, outE, outE, List.map_cons]
    rw [outE] at hn
    by_cases hv : e.v = 0
    · obtain ⟨z1, z2⟩ := (right_rng h1).2.2 hv
      have e1 : plnS s e = (s, withS e s) := by unfold plnS; rw [if_pos (by unfold sgB; simp [hv, z1, z2])]
      have e2 : plnS ⟨s.v - b, s.d, s.t⟩ (augE b e) = (⟨s.v - b, s.d, s.t⟩, withS e ⟨s.v - b, s.d, s.t⟩) := by
        rw [augE_z hv]
        unfold plnS; rw [if_pos (by unfold sgB; simp [hv, z1, z2])]
      rw [e1] at hn
      rw [e1, e2]
      simp only at hn ⊢
      rw [ih s fun x hx => hn x (List.mem_cons_of_mem _ hx)]
      rfl
    · have h3 := h2 hv
      have e1 : plnS s e = (⟨e.v, e.d, e.t⟩, e) := by unfold plnS; rw [if_neg (by unfold sgB; simp [hv])]
      have e2 : plnS ⟨s.v - b, s.d, s.t⟩ (augE b e) = (⟨e.v - b, e.d, e.t⟩, { e with v := e.v - b }) := by
        rw [augE_v h1 hb hv]
        unfold plnS; rw [if_neg (by unfold sgB; simp; intro; omega)]
      rw [e1] at hn
      rw [e1, e2]
      simp only at hn ⊢
      rw [ih ⟨e.v, e.d, e.t⟩ fun x hx => hn x (List.mem_cons_of_mem _ hx)]
/-- the first sign is written: what was in force ahead of it is of no account -/
theorem pln_first {l : List Evt} (s s' : Sgn) (h : ∀ e ∈ l.head?, e.v ≠ 0) : outE plnS s l = outE plnS s' l := by
  cases l with
  | nil => rfl
  | cons e r =>
    have hv := h e (by simp)
    have e1 : ∀ s, plnS s e = (⟨e.v, e.d, e.t⟩, e) := fun s => by unfold plnS; rw [if_neg (by unfold sgB; simp [hv])]
    rw [outE, outE, e1, e1]
theorem pln_augP {p q : Pc} {b : Int} (h : augP p b = .ok q) : outE plnS sz q.evs = (outE plnS sz p.evs).map fun e => { e with v := e.v - b } := by
  obtain ⟨hc, hb, hv, rfl⟩ := aug_ok h
  have h1 := pln_aug hb p.evs sz (fun e he => ⟨chk_right hc e he, hv e he⟩) fun e he => tk_v (pln_tk hc e he)
  simp only
  rw [← h1]
  refine pln_first _ _ fun e he => ?_
  have h2 := chk_first (aug_chk h)
  exact h2 e he
theorem pln_rng {p : Pc} (hc : chk p = 0) : ∀ e ∈ outE plnS sz p.evs, 1 ≤ e.v ∧ e.v ≤ 7 := fun e he => by
  have h1 := right_rng (chk_right (pln_chk hc) e he)
  have h2 := tk_v (pln_tk hc e he)
  omega
theorem strk_aug {p q : Pc} {b : Int} (f : Int) (h : augP p b = .ok q) (h2 : ∀ e ∈ outE plnS sz p.evs, ticks (e.v - b) e.d e.t = 2 * ticks e.v e.d e.t) : strk f q = strk (2 * f) p := by
  unfold strk
  rw [pln_augP h]
  have := stk_scale (f := f) (l := outE plnS sz p.evs) (m := (outE plnS sz p.evs).map fun e => { e with v := e.v - b }) (t := 0) (by simp) fun i a c => by
    rw [List.getElem_map]
    exact ⟨h2 _ (List.getElem_mem a), rfl⟩
  simpa using this
theorem strk_half {p q : Pc} {b : Int} (f : Int) (h : augP p b = .ok q) (h2 : ∀ e ∈ outE plnS sz p.evs, 2 * ticks (e.v - b) e.d e.t = ticks e.v e.d e.t) : strk (2 * f) q = strk f p := by
  unfold strk
  rw [pln_augP h]
  have := stk_scale (f := f) (m := outE plnS sz p.evs) (l := (outE plnS sz p.evs).map fun e => { e with v := e.v - b }) (t := 0) (by simp) fun i a c => by
    rw [List.getElem_map]
    exact ⟨(h2 _ (List.getElem_mem c)).symm, rfl⟩
  simpa using this.symm

/-! ### Join -/
theorem stk0_snoc (f t : Int) (o : List Evt) (x : Evt) : stk0 f t (o ++ [x]) = stk0 f t o ++ chd f (t + smT o) x := by
  rw [stk0_app, stk0, stk0, List.append_nil]
theorem smT_snoc (o : List Evt) (x : Evt) : smT (o ++ [x]) = smT o + tkE x := by rw [smT_app, smT, smT, Int.add_zero]
theorem lastE_snoc (o : List Evt) (x : Evt) : lastE (o ++ [x]) = x := by
  unfold lastE
  simp
theorem set_snoc (o : List Evt) (x y : Evt) : (o ++ [x]).set ((o ++ [x]).length - 1) y = o ++ [y] := by
  simp
theorem tkE_bd (e : Evt) : 0 ≤ tkE e ∧ tkE e ≤ 576 := ticks_bd e.v e.d e.t
theorem jst1_stk (f : Int) {l : List Evt} {st : Jn} {e : Evt} (ht : e.tie = true → e.stops = []) (h1 : smT st.o = smT l) (h2 : stk0 f 0 st.o = stk0 f 0 l) :
    smT (jst1 st e).o = smT (l ++ [e]) ∧ stk0 f 0 (jst1 st e).o = stk0 f 0 (l ++ [e]) := by
  unfold jst1
  split
  · rename_i s hs
    have hp := mrg_pos hs
    have hr := sgOf_right hp.2.2
    rcases List.eq_nil_or_concat st.o with h0 | ⟨o, x, h0⟩
    · rw [h0] at hp; simp at hp
    · have hm := hp.1
      unfold mayJ at hm
      simp only [Bool.and_eq_true] at hm
      have hst := ht hm.1.2
      simp only
      rw [h0] at hr h1 h2 ⊢
      simp only [List.concat_eq_append] at hr h1 h2 ⊢
      rw [lastE_snoc] at hr
      rw [set_snoc, lastE_snoc]
      have bx := tkE_bd x
      have be := tkE_bd e
      rw [wrapI (by omega) (by omega)] at hr
      rw [smT_snoc] at h1
      rw [smT_snoc, smT_snoc, stk0_snoc, stk0_snoc, ← h1, ← h2, stk0_snoc]
      have e1 : tkE (withS x s) = s.tk := rfl
      have e2 : ∀ t, chd f t (withS x s) = chd f t x := fun t => rfl
      have e3 : ∀ t, chd f t e = [] := fun t => by unfold chd; rw [hst]; simp
      rw [e1, e2, e3, List.append_nil, hr.2.2]
      exact ⟨by omega, rfl⟩
  · simp only
    rw [smT_snoc, smT_snoc, stk0_snoc, stk0_snoc, h1, h2]
    exact ⟨rfl, rfl⟩
theorem jst_stk (f : Int) (l : List Evt) (h : ∀ e ∈ l, e.tie = true → e.stops = []) : ∀ k, k ≤ l.length → smT (jst (l.take k)).o = smT (l.take k) ∧ stk0 f 0 (jst (l.take k)).o = stk0 f 0 (l.take k)
  | 0, _ => by simp [jst, smT, stk0]
  | k + 1, hk => by
    have ih := jst_stk f l h k (by omega)
    rw [jst_take (by omega)]
    have := jst1_stk f (e := l[k]) (h _ (List.getElem_mem _)) ih.1 ih.2
    rw [List.take_add_one, List.getElem?_eq_getElem (by omega)]
    exact this
theorem stk_join (f : Int) (l : List Evt) (h : ∀ e ∈ l, e.tie = true → e.stops = []) : stk f 0 (joinE l) = stk f 0 l := by
  have h1 := jst_stk f l h l.length (Nat.le_refl _)
  rw [List.take_length] at h1
  have h2 : stk f 0 (jst l).o = stk f 0 l := by rw [stk_end, stk_end, h1.1, h1.2]
  rw [← h2]
  have hI := jinv l
  refine stk_like (by rw [show (joinE l) = jL (jst l) from rfl, jL_len hI]) fun i a b => ?_
  have b : i < (jL (jst l)).length := b
  show tkE (jL (jst l))[i] = _ ∧ ∃ g : Stp → Stp, _ ∧ ((jL (jst l))[i]).stops = _
  simp only [jL, List.getElem_zipWith]
  exact ⟨rfl, goneS (jst l).m _, fun s => ⟨rfl, rfl⟩, rfl⟩
theorem tie_nil {p : Pc} (hc : chk p = 0) : ∀ e ∈ p.evs, e.tie = true → e.stops = [] := by
  intro e he ht
  obtain ⟨k, hk, rfl⟩ := List.getElem_of_mem he
  have := ((chk_suf.1 hc).2.2.1.at hk).ti
  cases hs : (p.evs[k]).stops with
  | nil => rfl
  | cons a r => exact absurd ⟨ht, by rw [hs]; simp⟩ this
theorem strk_join {p : Pc} (f : Int) (hc : chk p = 0) : strk f ⟨p.ins, joinE (outE plnS sz p.evs)⟩ = strk f p := by
  unfold strk
  simp only
  rw [pln_good_id fun e he => ?_]
  · exact stk_join f _ (tie_nil (p := ⟨p.ins, outE plnS sz p.evs⟩) (pln_chk hc))
  · obtain ⟨j, hj, rfl⟩ := List.getElem_of_mem he
    obtain ⟨i, hi, hm, k1, k2, s, k3, k4⟩ := jL_ev hj
    show 0 < tkE (jL (jst (outE plnS sz p.evs)))[j]
    rw [k4]
    exact (good_jst (pln_good hc) _ (List.mem_of_getElem? k3)).2

/-! ### Break -/
theorem stk_tail {f : Int} {m : List Evt} {bar : Nat} {e : Evt} {a b : Nat} : ∀ {x : Nat} {g : List Evt}, Parts bar e a b x g → a < x → stk f x (g ++ m) = stk f b m
  | _, _, .done, _ => rfl
  | x, _, .step (f := y) (g := g) hx ht hb hm hbar htie hst h, hax => by
    have e0 : y.stops = [] := by rw [hst, if_neg (by omega)]
    have e1 : chd f x y = [] := by unfold chd; rw [e0]; simp
    have e2 : (x : Int) + tkE y = ((x + tkn y : Nat) : Int) := by unfold tkn; omega
    rw [List.cons_append, stk, e1, e2, List.nil_append]
    exact stk_tail h (by omega)
theorem stk_group {f : Int} {m : List Evt} {F : List Nat} {i bar : Nat} {e : Evt} {a b : Nat} (hab : a < b) {g : List Evt} (h : Parts bar e a b a g) : stk f a (brkG F i g ++ m) = chd f a e ++ stk f b m := by
  generalize hx : a = x at h
  cases h with
  | done => omega
  | @step _ y g hx' ht hb hm hbar htie hst h =>
    subst hx
    have e2 : (a : Int) + tkE (evB F i y) = ((a + tkn y : Nat) : Int) := by
      show (a : Int) + tkE y = _
      unfold tkn; omega
    show stk f a (evB F i y :: g ++ m) = _
    rw [List.cons_append, stk, e2]
    have e3 : chd f a (evB F i y) = chd f a e := chd_map (holdB_plc F i) f a e (evB F i y) (by
      show (y.stops).map (holdB F i) = _
      rw [hst, if_pos rfl])
    rw [e3, stk_tail h (by unfold tkn; omega)]
theorem stk_brkO {f : Int} {bar : Nat} {F : List Nat} : ∀ {a i : Nat} {l : List Evt} {G : List (List Evt)}, Grps bar a l G → (∀ e ∈ l, 0 < tkE e) → stk f a (brkO F i G) = stk f a l
  | _, _, _, _, .nil, _ => rfl
  | a, i, e :: r, g :: G, .cons hp hG, ht => by
    have h0 := ht e (List.mem_cons_self ..)
    have e2 : (a : Int) + tkE e = ((a + tkn e : Nat) : Int) := by unfold tkn; omega
    rw [brkO, stk_group (by unfold tkn; omega) hp, stk_brkO hG fun x hx => ht x (List.mem_cons_of_mem _ hx), stk, e2]
theorem strk_brk {p q : Pc} {bar : Int} (f : Int) (h : brkP p bar = .ok q) : strk f q = strk f p := by
  obtain ⟨hc, hb1, hb2, G, hG, hl, hbad, rfl⟩ := brk_ok h
  have hg := brkL_grps (by omega) (pln_tk hc) hG
  unfold strk
  simp only
  rw [pln_good_id (bsd_tk (bsd_brkO hg))]
  exact stk_brkO hg (pln_tk hc)

/-! ### what the program writes down -/
def stkT (f : Int) : List Int → List Evt → List Int
  | t :: ts, e :: r => chd f t e ++ stkT f ts r
  | _, _ => []
/-- the strokes, from the times -/
def strkT (f : Int) (p : Pc) : List Int := stkT f (times p) p.evs ++ [(times p).getD p.evs.length 0 * f]
theorem stkT_eq (f : Int) : ∀ (l m : List Evt) (t : Int), l.map Evt.stops = m.map Evt.stops → stkT f (t :: tmsT t (m.map Evt.sg)) l ++ [(t :: tmsT t (m.map Evt.sg)).getD l.length 0 * f] = stk f t m
  | [], [], t, _ => by simp [stkT, stk, tmsT]
  | [], _ :: _, _, h => by simp at h
  | _ :: _, [], _, h => by simp at h
  | e :: l, e' :: m, t, h => by
    rw [List.map_cons, List.map_cons, List.cons.injEq] at h
    have ih := stkT_eq f l m (t + tkE e') h.2
    rw [stk, ← ih, List.map_cons, tmsT, stkT, List.append_assoc]
    have e1 : chd f t e = chd f t e' := by unfold chd; rw [h.1]
    rw [e1]
    rfl
theorem zip_sg : ∀ (l : List Evt) (ss : List Sgn), ss.length = l.length → (List.zipWith withS l ss).map Evt.sg = ss
  | [], [], _ => rfl
  | [], _ :: _, h => by simp at h
  | _ :: _, [], h => by simp at h
  | e :: l, s :: ss, h => by rw [List.zipWith_cons_cons, List.map_cons, zip_sg l ss (by simpa using h)]; rfl
theorem strkT_eq {p : Pc} (f : Int) (hc : chk p = 0) : strkT f p = strk f p := by
  unfold strkT strk
  have h1 : times p = 0 :: tmsT 0 ((outE plnS sz p.evs).map Evt.sg) := by
    rw [times_onsets hc, ← pln_ons hc, ons_nfs (q := ⟨p.ins, outE plnS sz p.evs⟩) (pln_right hc)]
    congr 2
    rw [outE_pln, nfs_pln]
    exact (zip_sg p.evs _ (nfs_len _ _)).symm
  rw [h1]
  refine stkT_eq f p.evs _ 0 ?_
  have := pln_body p.evs
  have h2 := congrArg (List.map Prod.snd) this
  rw [List.map_map, List.map_map] at h2
  exact h2.symm

end Go.Ab.V

/-
  The functions that TopRewrites calls: small, sameInts, strokes. No condition but the sizes of pieces.
-/
namespace Go.Ab.V
open Go.Proofs

/-! ### small -/
def A20 : Ann := fun r => match r with
  | 0 => { slots := [(0, 0)] }
  | _ => {}
def smallB (p : Pc) : Bool := decide (p.evs.length ≤ 40) && decide (p.ins.cs.length ≤ 64) && decide (p.ins.steps.length ≤ 64) && decide (chk p = 0)
set_option maxHeartbeats 2000000 in
set_option maxRecDepth 100000 in
theorem small_spec (p : Pc) (hp : p.Ok) : PRet C.P 20 [pcA p] (.bool (smallB p)) := by
  have o1 := hp.cs
  have o2 := hp.st
  have o3 := hp.ev
  by_cases h1 : p.evs.length ≤ 40
  · have k0 := refCheck_spec p hp (by omega)
    by_cases h2 : p.ins.cs.length ≤ 64
    · by_cases h3 : p.ins.steps.length ≤ 64
      · have e : smallB p = decide (chk p = 0) := by simp [smallB, h1, h2, h3]
        rw [e]
        refine pret_of ok mixed (A := A20) 1 Try.func20 rfl ?_
        (repeat' (first | exact rfl | ((conv => whnf); first | refine ⟨_, k0, ?_⟩ | exact rfl | refine ⟨by kernel_rfl, ?_⟩ | exact ⟨rfl, rfl⟩ | refine ⟨rfl, ?_⟩ | refine ⟨by (first | omega | (simp (disch := omega) only [wrapI]; omega) | (simp (disch := omega) only [wrapI]; simp; omega) | (simp; omega)), ?_⟩ | (intro ep) | (refine ifB (fun hb => ?_) (fun hb => ?_) <;> (try simp only [decide_eq_true_eq, decide_eq_false_iff_not, beq_iff_eq, beq_eq_false_iff_ne, bne_iff_ne, bne_eq_false_iff_eq, ne_eq, not_false_eq_true, not_true_eq_false, Bool.not_eq_true, Bool.not_eq_true', Bool.not_eq_false', Int.not_lt, Int.not_le] at hb) <;> (try simp (disch := omega) only [wrapI] at hb) <;> (try (exfalso; omega))) | fail)))
        all_goals (try (exfalso; omega))
      · have e : smallB p = false := by simp [smallB, h3]
        rw [e]
        refine pret_of ok mixed (A := A20) 1 Try.func20 rfl ?_
        (repeat' (first | exact rfl | ((conv => whnf); first | exact rfl | refine ⟨by kernel_rfl, ?_⟩ | exact ⟨rfl, rfl⟩ | refine ⟨rfl, ?_⟩ | refine ⟨by (first | omega | (simp (disch := omega) only [wrapI]; omega) | (simp (disch := omega) only [wrapI]; simp; omega) | (simp; omega)), ?_⟩ | (intro ep) | (refine ifB (fun hb => ?_) (fun hb => ?_) <;> (try simp only [decide_eq_true_eq, decide_eq_false_iff_not, beq_iff_eq, beq_eq_false_iff_ne, bne_iff_ne, bne_eq_false_iff_eq, ne_eq, not_false_eq_true, not_true_eq_false, Bool.not_eq_true, Bool.not_eq_true', Bool.not_eq_false', Int.not_lt, Int.not_le] at hb) <;> (try simp (disch := omega) only [wrapI] at hb) <;> (try (exfalso; omega))) | fail)))
        all_goals (try (exfalso; omega))
    · have e : smallB p = false := by simp [smallB, h2]
      rw [e]
      refine pret_of ok mixed (A := A20) 1 Try.func20 rfl ?_
      (repeat' (first | exact rfl | ((conv => whnf); first | exact rfl | refine ⟨by kernel_rfl, ?_⟩ | exact ⟨rfl, rfl⟩ | refine ⟨rfl, ?_⟩ | refine ⟨by (first | omega | (simp (disch := omega) only [wrapI]; omega) | (simp (disch := omega) only [wrapI]; simp; omega) | (simp; omega)), ?_⟩ | (intro ep) | (refine ifB (fun hb => ?_) (fun hb => ?_) <;> (try simp only [decide_eq_true_eq, decide_eq_false_iff_not, beq_iff_eq, beq_eq_false_iff_ne, bne_iff_ne, bne_eq_false_iff_eq, ne_eq, not_false_eq_true, not_true_eq_false, Bool.not_eq_true, Bool.not_eq_true', Bool.not_eq_false', Int.not_lt, Int.not_le] at hb) <;> (try simp (disch := omega) only [wrapI] at hb) <;> (try (exfalso; omega))) | fail)))
      all_goals (try (exfalso; omega))
  · have e : smallB p = false := by simp [smallB, h1]
    rw [e]
    refine pret_of ok mixed (A := A20) 1 Try.func20 rfl ?_
    (repeat' (first | exact rfl | ((conv => whnf); first | exact rfl | refine ⟨by kernel_rfl, ?_⟩ | exact ⟨rfl, rfl⟩ | refine ⟨rfl, ?_⟩ | refine ⟨by (first | omega | (simp (disch := omega) only [wrapI]; omega) | (simp (disch := omega) only [wrapI]; simp; omega) | (simp; omega)), ?_⟩ | (intro ep) | (refine ifB (fun hb => ?_) (fun hb => ?_) <;> (try simp only [decide_eq_true_eq, decide_eq_false_iff_not, beq_iff_eq, beq_eq_false_iff_ne, bne_iff_ne, bne_eq_false_iff_eq, ne_eq, not_false_eq_true, not_true_eq_false, Bool.not_eq_true, Bool.not_eq_true', Bool.not_eq_false', Int.not_lt, Int.not_le] at hb) <;> (try simp (disch := omega) only [wrapI] at hb) <;> (try (exfalso; omega))) | fail)))
    all_goals (try (exfalso; omega))

/-! ### sameInts -/
def A24 : Ann := fun _ => {}
set_option maxHeartbeats 2000000 in
set_option maxRecDepth 100000 in
theorem same24_self (l : List Int) (hl : l.length ≤ 9223372036854775806) : PRet C.P 24 [intsA l, intsA l] (.bool true) := by
  refine pret_of ok mixed (A := A24) 0 Try.func24 rfl ?_
  (repeat' (first | exact rfl | ((conv => whnf); first | exact rfl | refine ⟨by kernel_rfl, ?_⟩ | exact ⟨rfl, rfl⟩ | refine ⟨rfl, ?_⟩ | refine ⟨by (first | omega | (simp (disch := omega) only [wrapI]; omega) | (simp (disch := omega) only [wrapI]; simp; omega) | (simp; omega)), ?_⟩ | (intro ep) | fail)))
  (conv => whnf)
  refine ifB (fun hb => ?_) (fun hb => ?_)
  · exfalso; simp at hb
  (repeat' (first | exact rfl | ((conv => whnf); first | exact rfl | refine ⟨by kernel_rfl, ?_⟩ | exact ⟨rfl, rfl⟩ | refine ⟨rfl, ?_⟩ | refine ⟨by (first | omega | (simp (disch := omega) only [wrapI]; omega) | (simp (disch := omega) only [wrapI]; simp; omega) | (simp; omega)), ?_⟩ | (intro ep) | fail)))
  (conv => whnf)
  refine loopM ok mixed (A := A24) [0, 1, 5] [] (S := { k : Nat // k ≤ l.length })
    (fr := fun s => frOf 0 26 [(0, intsA l), (1, intsA l), (5, .int .i64 (s.1 : Int))])
    (h := fun s => ⟨[], []⟩) (μ := fun s => l.length - s.1) ⟨0, by omega⟩ (by exact rfl) (by exact rfl) ?_
  rintro ⟨k, hk⟩
  show aexR _ _ _ (frOf 0 26 [(0, intsA l), (1, intsA l), (5, .int .i64 (k : Int))]) ⟨[], []⟩ _
  (conv => whnf)
  refine ifB (fun g1 => ?_) (fun g1 => ?_)
  · simp only [decide_eq_true_eq] at g1
    have hlt : k < l.length := by omega
    have hm := intsR hlt
    (repeat' (first | exact rfl | ((conv => whnf); first | refine optS hm ?_ | exact rfl | refine ⟨by kernel_rfl, ?_⟩ | exact ⟨rfl, rfl⟩ | refine ⟨rfl, ?_⟩ | refine ⟨by (first | omega | (simp (disch := omega) only [wrapI]; omega) | (simp (disch := omega) only [wrapI]; simp; omega) | (simp; omega)), ?_⟩ | (intro ep) | fail)))
    all_goals (conv => whnf)
    refine ifB (fun hb => ?_) (fun hb => ?_)
    · exfalso; simp at hb
    (repeat' (first | exact rfl | ((conv => whnf); first | exact rfl | refine ⟨by kernel_rfl, ?_⟩ | exact ⟨rfl, rfl⟩ | refine ⟨rfl, ?_⟩ | refine ⟨by (first | omega | (simp (disch := omega) only [wrapI]; omega) | (simp (disch := omega) only [wrapI]; simp; omega) | (simp; omega)), ?_⟩ | (intro ep) | fail)))
    all_goals (conv => whnf)
    refine back_of ⟨k + 1, by omega⟩ ⟨by (first | exact rfl | (simp (disch := omega) only [wrapI]; exact rfl)), rfl, by simp only; omega⟩
  · (repeat' (first | exact rfl | ((conv => whnf); first | exact rfl | refine ⟨by kernel_rfl, ?_⟩ | exact ⟨rfl, rfl⟩ | refine ⟨rfl, ?_⟩ | refine ⟨by (first | omega | (simp (disch := omega) only [wrapI]; omega) | (simp (disch := omega) only [wrapI]; simp; omega) | (simp; omega)), ?_⟩ | (intro ep) | fail)))

end Go.Ab.V

/-
  The functions that TopRewrites calls: strokes. No condition but the sizes of pieces.
-/
namespace Go.Ab.V
open Go.Proofs

theorem plcs_cons (s : Stp) (l : List Stp) : plcs (s :: l) = s.c :: s.f :: plcs l := rfl
theorem plcs_len (l : List Stp) : (plcs l).length = 2 * l.length := by
  induction l with
  | nil => rfl
  | cons s r ih => rw [plcs_cons]; simp only [List.length_cons, ih]; omega
theorem stkT_cons {f : Int} {ts : List Int} {l : List Evt} {k : Nat} (h : k < l.length) (h' : k < ts.length) : stkT f (ts.drop k) (l.drop k) = chd f ts[k] l[k] ++ stkT f (ts.drop (k + 1)) (l.drop (k + 1)) := by
  rw [List.drop_eq_getElem_cons h, List.drop_eq_getElem_cons h', stkT]
theorem mul_rng {t f : Int} (h1 : 0 ≤ t ∧ t ≤ 2304000) (h2 : 0 ≤ f ∧ f ≤ 256) : 0 ≤ t * f ∧ t * f ≤ 589824000 := by
  refine ⟨Int.mul_nonneg h1.1 h2.1, ?_⟩
  have := Int.mul_le_mul h1.2 h2.2 h2.1 (by omega)
  omega
def A25 : Ann := fun r => match r with
  | 0 => { slots := [(0, 0)] }
  | 7 => { slots := [(14, 1), (15, 2)] }
  | 11 => { slots := [(21, 3), (22, 4)] }
  | 12 => { slots := [(9, 5), (10, 6)] }
  | _ => {}
set_option maxHeartbeats 8000000 in
set_option maxRecDepth 100000 in
theorem strokes_spec (p : Pc) (hs : p.Sm) (hc : chk p = 0) (f : Int) (hf : 0 ≤ f ∧ f ≤ 256) : PRet C.P 25 [pcA p, .int .i64 f] (intsA (strkT f p)) := by
  have hle := hs.ev
  have hsp := hs.sp
  have ht := times_spec p hs
  have htl : (times p).length = p.evs.length + 1 := by rw [times_onsets hc, ons_len]
  have htr : ∀ x ∈ times p, 0 ≤ x ∧ x ≤ 2304000 := fun x hx => by
    rw [times_onsets hc] at hx
    have := ons_rng p x hx
    omega
  unfold strkT
  obtain ⟨ts, hts⟩ : ∃ ts, ts = times p := ⟨_, rfl⟩
  rw [← hts] at ht htl htr ⊢
  obtain ⟨R, hR⟩ : ∃ R, R = stkT f ts p.evs := ⟨_, rfl⟩
  rw [← hR]
  refine pret_of ok mixed (A := A25) 7 Try.func25 rfl ?_
  (conv => whnf)
  intro e0
  (repeat' (first | exact rfl | ((conv => whnf); first | refine ⟨_, ht, ?_⟩ | exact rfl | refine ⟨by kernel_rfl, ?_⟩ | exact ⟨rfl, rfl⟩ | refine ⟨rfl, ?_⟩ | refine ⟨by (first | omega | (simp (disch := omega) only [wrapI]; omega) | (simp (disch := omega) only [wrapI]; simp; omega) | (simp; omega)), ?_⟩ | (intro ep) | fail)))
  (conv => whnf)
  refine wk_lift 6 2 1 rfl ?_
  intro eA
  refine loopX ok mixed (A := A25) [1, 2, 5, 6, 7] [0, 2] (S := { x : Nat × Nat × List Int // x.1 ≤ p.evs.length ∧ x.2.2.length ≤ x.1 * 8002 ∧ x.2.2 ++ stkT f (ts.drop x.1) (p.evs.drop x.1) = R })
    (fr := fun s => frOf 0 87 [(1, .int .i64 f), (2, .optr (.s 0) e0 3 0 0), (5, .lslc 1 (ints ts) 0 (p.evs.length + 1) false), (6, .oslc (.s 2) s.1.2.1 1 0 s.1.2.2.length false), (7, .int .i64 (s.1.1 : Int))])
    (h := fun s => ⟨[.vec e0 [[crsA p.ins.cs, intsA p.ins.steps, evsA p.evs]], .hole, .vec s.1.2.1 (ints s.1.2.2), .hole, .hole, .hole, .hole], []⟩) (μ := fun s => p.evs.length - s.1.1) ⟨(0, eA, []), by simp [hR]⟩ ?_ ?_
    [1, 5, 6] [2] (S' := { x : Nat × List Int // x.2.length ≤ p.evs.length * 8002 ∧ x.2 = R }) (X := fun _ => 0)
    (frX := fun s => frOf 0 87 [(1, .int .i64 f), (5, .lslc 1 (ints ts) 0 (p.evs.length + 1) false), (6, .oslc (.s 2) s.1.1 1 0 s.1.2.length false)])
    (hX := fun s => ⟨[.hole, .hole, .vec s.1.1 (ints s.1.2), .hole, .hole, .hole, .hole], []⟩) (R := fun _ _ => False) ?_ (fun _ _ h => h.elim) ?_
  · exact rfl
  · exact rfl
  · rintro ⟨⟨k, eB, pre⟩, hk, hpl, hpre⟩
    simp only at hk hpl hpre
    show aexR _ _ _ (frOf 0 87 [(1, .int .i64 f), (2, .optr (.s 0) e0 3 0 0), (5, .lslc 1 (ints ts) 0 (p.evs.length + 1) false), (6, .oslc (.s 2) eB 1 0 pre.length false), (7, .int .i64 (k : Int))])
      ⟨[.vec e0 [[crsA p.ins.cs, intsA p.ins.steps, evsA p.evs]], .hole, .vec eB (ints pre), .hole, .hole, .hole, .hole], []⟩ _
    (conv => whnf)
    refine ⟨rfl, ?_⟩
    (conv => whnf)
    refine ifB (fun g1 => ?_) (fun g1 => ?_)
    · simp only [decide_eq_true_eq] at g1
      have hlt : k < p.evs.length := by omega
      have hlt' : k < ts.length := by omega
      rw [stkT_cons hlt hlt'] at hpre
      have hm := mapR (f := evR) hlt
      have hm2 := intsR hlt'
      have hT := mul_rng (htr ts[k] (List.getElem_mem hlt')) hf
      have hspk := hsp p.evs[k] (List.getElem_mem hlt)
      obtain ⟨e, hev⟩ : ∃ e, p.evs[k] = e := ⟨_, rfl⟩
      obtain ⟨t, htk⟩ : ∃ t, ts[k] = t := ⟨_, rfl⟩
      rw [hev] at hm hpre hspk
      rw [htk] at hm2 hpre hT
      have t3 : List.take pre.length (List.drop 0 (ints pre)) = ints pre := by rw [List.drop_zero, List.take_of_length_le (by simp [ints])]
      (repeat' (first | exact rfl | ((conv => whnf); first | refine optS hm ?_ | exact rfl | refine ⟨by kernel_rfl, ?_⟩ | exact ⟨rfl, rfl⟩ | refine ⟨rfl, ?_⟩ | refine ⟨by (first | omega | (simp (disch := omega) only [wrapI]; omega) | (simp (disch := omega) only [wrapI]; simp; omega) | (simp; omega)), ?_⟩ | (intro ep) | fail)))
      (conv => whnf)
      refine ifB (fun g2 => ?_) (fun g2 => ?_)
      · simp only [beq_iff_eq] at g2
        have g2 : e.stops.length = 0 := by omega
        have c1 : chd f t e = [] := by unfold chd; rw [if_pos g2]
        rw [c1, List.nil_append] at hpre
        (repeat' (first | exact rfl | ((conv => whnf); first | exact rfl | refine ⟨by kernel_rfl, ?_⟩ | exact ⟨rfl, rfl⟩ | refine ⟨rfl, ?_⟩ | refine ⟨by (first | omega | (simp (disch := omega) only [wrapI]; omega) | (simp (disch := omega) only [wrapI]; simp; omega) | (simp; omega)), ?_⟩ | (intro ep) | fail)))
        (conv => whnf)
        refine back_of ⟨(k + 1, eB, pre), by simp only; omega, by simp only; omega, hpre⟩ ⟨by (first | exact rfl | (simp (disch := omega) only [wrapI]; exact rfl)), rfl, by simp only; omega⟩
      · simp only [beq_eq_false_iff_ne] at g2
        have g2 : ¬ e.stops.length = 0 := by omega
        have c1 : chd f t e = t * f :: (e.stops.length : Int) :: plcs e.stops := by unfold chd; rw [if_neg g2]
        rw [c1] at hpre
        (repeat' (first | exact rfl | ((conv => whnf); first | refine optS hm ?_ | refine optS hm2 ?_ | exact rfl | refine ⟨by kernel_rfl, ?_⟩ | exact ⟨rfl, rfl⟩ | refine ⟨rfl, ?_⟩ | refine ⟨by (first | omega | (simp (disch := omega) only [wrapI]; omega) | (simp (disch := omega) only [wrapI]; simp; omega) | (simp; omega)), ?_⟩ | (intro ep) | fail)))
        (conv => whnf)
        obtain ⟨Q, hQ⟩ : ∃ Q, Q = pre ++ (t * f :: (e.stops.length : Int) :: plcs e.stops) := ⟨_, rfl⟩
        have hQl : Q.length = pre.length + 2 + 2 * e.stops.length := by rw [hQ]; simp only [List.length_append, List.length_cons, plcs_len]; omega
        refine loopX ok mixed (A := A25) [1, 2, 5, 6, 7, 8] [0, 2] (S := { x : Nat × Nat × List Int // x.1 ≤ e.stops.length ∧ x.2.2.length = pre.length + 2 + 2 * x.1 ∧ x.2.2 ++ plcs (e.stops.drop x.1) = Q })
          (fr := fun s => frOf 0 87 [(1, .int .i64 f), (2, .optr (.s 0) e0 3 0 0), (5, .lslc 1 (ints ts) 0 (p.evs.length + 1) false), (6, .oslc (.s 2) s.1.2.1 1 0 s.1.2.2.length false), (7, .int .i64 (k : Int)), (8, .int .i64 (s.1.1 : Int))])
          (h := fun s => ⟨[.vec e0 [[crsA p.ins.cs, intsA p.ins.steps, evsA p.evs]], .hole, .vec s.1.2.1 (ints s.1.2.2), .hole, .hole, .hole, .hole], []⟩) (μ := fun s => e.stops.length - s.1.1) ⟨(0, ep, pre ++ [t * f, (e.stops.length : Int)]), by simp [hQ]⟩ ?_ ?_
          [1, 2, 5, 6, 7] [0, 2] (S' := Nat) (X := fun _ => 2)
          (frX := fun s => frOf 0 87 [(1, .int .i64 f), (2, .optr (.s 0) e0 3 0 0), (5, .lslc 1 (ints ts) 0 (p.evs.length + 1) false), (6, .oslc (.s 2) s 1 0 Q.length false), (7, .int .i64 (k : Int))])
          (hX := fun s => ⟨[.vec e0 [[crsA p.ins.cs, intsA p.ins.steps, evsA p.evs]], .hole, .vec s (ints Q), .hole, .hole, .hole, .hole], []⟩) (R := fun _ _ => False) ?_ (fun _ _ h => h.elim) ?_
        · have e1 : (pre ++ [t * f, (e.stops.length : Int)]).length = pre.length + 2 := by simp
          show maskF 0 _ _ = frOf 0 87 [(1, .int .i64 f), (2, .optr (.s 0) e0 3 0 0), (5, .lslc 1 (ints ts) 0 (p.evs.length + 1) false), (6, .oslc (.s 2) ep 1 0 (pre ++ [t * f, (e.stops.length : Int)]).length false), (7, .int .i64 (k : Int)), (8, .int .i64 0)]
          rw [e1]
          exact rfl
        · have e1 : ints (pre ++ [t * f, (e.stops.length : Int)]) = List.take pre.length (List.drop 0 (ints pre)) ++ [[.int .i64 (t * f)], [.int .i64 (e.stops.length : Int)]] := by rw [t3]; simp [ints]
          show maskH 0 _ _ = ⟨[.vec e0 [[crsA p.ins.cs, intsA p.ins.steps, evsA p.evs]], .hole, .vec ep (ints (pre ++ [t * f, (e.stops.length : Int)])), .hole, .hole, .hole, .hole], []⟩
          rw [e1]
          simp (disch := omega) only [wrapI]
          exact rfl
        · rintro ⟨⟨j, eC, q⟩, hj, hq, hqs⟩
          simp only at hj hq hqs
          show aexR _ _ _ (frOf 0 87 [(1, .int .i64 f), (2, .optr (.s 0) e0 3 0 0), (5, .lslc 1 (ints ts) 0 (p.evs.length + 1) false), (6, .oslc (.s 2) eC 1 0 q.length false), (7, .int .i64 (k : Int)), (8, .int .i64 (j : Int))])
            ⟨[.vec e0 [[crsA p.ins.cs, intsA p.ins.steps, evsA p.evs]], .hole, .vec eC (ints q), .hole, .hole, .hole, .hole], []⟩ _
          (repeat' (first | exact rfl | ((conv => whnf); first | refine optS hm ?_ | exact rfl | refine ⟨by kernel_rfl, ?_⟩ | exact ⟨rfl, rfl⟩ | refine ⟨rfl, ?_⟩ | refine ⟨by (first | omega | (simp (disch := omega) only [wrapI]; omega) | (simp (disch := omega) only [wrapI]; simp; omega) | (simp; omega)), ?_⟩ | (intro ep) | fail)))
          (conv => whnf)
          refine ifB (fun g3 => ?_) (fun g3 => ?_)
          · simp only [decide_eq_true_eq] at g3
            have hj2 : j < e.stops.length := by omega
            have hs2 := mapR (f := stR) hj2
            rw [List.drop_eq_getElem_cons hj2, plcs_cons] at hqs
            obtain ⟨st, hst⟩ : ∃ st, e.stops[j] = st := ⟨_, rfl⟩
            rw [hst] at hs2 hqs
            have t4 : List.take q.length (List.drop 0 (ints q)) = ints q := by rw [List.drop_zero, List.take_of_length_le (by simp [ints])]
            (repeat' (first | exact rfl | ((conv => whnf); first | refine optS hm ?_ | refine optS hs2 ?_ | exact rfl | refine ⟨by kernel_rfl, ?_⟩ | exact ⟨rfl, rfl⟩ | refine ⟨rfl, ?_⟩ | refine ⟨by (first | omega | (simp (disch := omega) only [wrapI]; omega) | (simp (disch := omega) only [wrapI]; simp; omega) | (simp; omega)), ?_⟩ | (intro ep) | fail)))
            (conv => whnf)
            refine back_of ⟨(j + 1, ep, q ++ [st.c, st.f]), by simp only; omega, by simp only [List.length_append, List.length_cons, List.length_nil]; omega, by simpa using hqs⟩ ⟨?_, ?_, by simp only; omega⟩
            · have e1 : (q ++ [st.c, st.f]).length = q.length + 2 := by simp
              show maskF 0 _ _ = frOf 0 87 [(1, .int .i64 f), (2, .optr (.s 0) e0 3 0 0), (5, .lslc 1 (ints ts) 0 (p.evs.length + 1) false), (6, .oslc (.s 2) ep 1 0 (q ++ [st.c, st.f]).length false), (7, .int .i64 (k : Int)), (8, .int .i64 ((j + 1 : Nat) : Int))]
              rw [e1]
              (first | exact rfl | (simp (disch := omega) only [wrapI]; exact rfl))
            · have e1 : ints (q ++ [st.c, st.f]) = List.take q.length (List.drop 0 (ints q)) ++ [[.int .i64 st.c], [.int .i64 st.f]] := by rw [t4]; simp [ints]
              show maskH 0 _ _ = ⟨[.vec e0 [[crsA p.ins.cs, intsA p.ins.steps, evsA p.evs]], .hole, .vec ep (ints (q ++ [st.c, st.f])), .hole, .hole, .hole, .hole], []⟩
              rw [e1]
              exact rfl
          · simp only [decide_eq_false_iff_not] at g3
            have hj2 : j = e.stops.length := by omega
            rw [List.drop_eq_nil_of_le (by omega)] at hqs
            have hqQ : q = Q := by simpa [plcs] using hqs
            (repeat' (first | exact rfl | ((conv => whnf); first | exact rfl | refine ⟨by kernel_rfl, ?_⟩ | exact ⟨rfl, rfl⟩ | refine ⟨rfl, ?_⟩ | refine ⟨by (first | omega | (simp (disch := omega) only [wrapI]; omega) | (simp (disch := omega) only [wrapI]; simp; omega) | (simp; omega)), ?_⟩ | (intro ep) | fail)))
            (conv => whnf)
            refine back_of eC ⟨rfl, ?_, ?_⟩
            · rw [← hqQ]; rfl
            · rw [← hqQ]; rfl
        · intro eC
          (repeat' (first | exact rfl | ((conv => whnf); first | exact rfl | refine ⟨by kernel_rfl, ?_⟩ | exact ⟨rfl, rfl⟩ | refine ⟨rfl, ?_⟩ | refine ⟨by (first | omega | (simp (disch := omega) only [wrapI]; omega) | (simp (disch := omega) only [wrapI]; simp; omega) | (simp; omega)), ?_⟩ | (intro ep) | fail)))
          all_goals (conv => whnf)
          refine back_of ⟨(k + 1, eC, Q), by simp only; omega, by simp only; omega, by rw [hQ]; simpa using hpre⟩ ⟨by (first | exact rfl | (simp (disch := omega) only [wrapI]; exact rfl)), rfl, by simp only; omega⟩
    · simp only [decide_eq_false_iff_not] at g1
      have q : k = p.evs.length := by omega
      have e1 : stkT f (ts.drop k) (p.evs.drop k) = [] := by
        rw [List.drop_eq_nil_of_le (show p.evs.length ≤ k by omega)]
        cases ts.drop k <;> rfl
      rw [e1, List.append_nil] at hpre
      (repeat' (first | exact rfl | ((conv => whnf); first | exact rfl | refine ⟨by kernel_rfl, ?_⟩ | exact ⟨rfl, rfl⟩ | refine ⟨rfl, ?_⟩ | refine ⟨by (first | omega | (simp (disch := omega) only [wrapI]; omega) | (simp (disch := omega) only [wrapI]; simp; omega) | (simp; omega)), ?_⟩ | (intro ep) | fail)))
      (conv => whnf)
      exact back_of ⟨(eB, pre), by simp only; omega, hpre⟩ ⟨rfl, rfl, rfl⟩
  · rintro ⟨⟨eB, pre⟩, hpl, hpre⟩
    simp only at hpl hpre
    have hlt' : p.evs.length < ts.length := by omega
    have hm2 := intsR hlt'
    have hT := mul_rng (htr ts[p.evs.length] (List.getElem_mem hlt')) hf
    have hgt : ts.getD p.evs.length 0 = ts[p.evs.length] := by rw [List.getD_eq_getElem?_getD, List.getElem?_eq_getElem hlt']; rfl
    rw [hgt]
    obtain ⟨t, htk⟩ : ∃ t, ts[p.evs.length] = t := ⟨_, rfl⟩
    rw [htk] at hm2 hT ⊢
    have e0 : (((p.evs.length + 1 : Nat) : Int) - 1) = (p.evs.length : Nat) := by omega
    have t3 : List.take pre.length (List.drop 0 (ints pre)) = ints pre := by rw [List.drop_zero, List.take_of_length_le (by simp [ints])]
    (repeat' (first | exact rfl | ((conv => whnf); first | refine optS (by simp (disch := omega) only [wrapI]; rw [e0]; exact hm2) ?_ | exact rfl | refine ⟨by kernel_rfl, ?_⟩ | exact ⟨rfl, rfl⟩ | refine ⟨rfl, ?_⟩ | refine ⟨by (first | omega | (simp (disch := omega) only [wrapI]; omega) | (simp (disch := omega) only [wrapI]; simp; omega) | (simp; omega)), ?_⟩ | (intro ep) | fail)))
    rw [t3]
    have hw : IntKind.i64.wrap (t * f) = t * f := wrapI (by omega) (by omega)
    have e9 : ints pre ++ [[.int .i64 (IntKind.i64.wrap (t * f))]] = ints (R ++ [t * f]) := by rw [hw, ← hpre]; simp [ints]
    have e10 : AV.lslc 1 (ints pre ++ [[.int .i64 (IntKind.i64.wrap (t * f))]]) 0 (pre.length + 1) false = intsA (R ++ [t * f]) := by
      rw [e9]
      unfold intsA
      rw [show (R ++ [t * f]).length = pre.length + 1 by rw [← hpre]; simp]
    refine ⟨?_, ?_, ?_⟩
    · have := pure_ints (R ++ [t * f])
      rw [← e9] at this
      exact this
    · exact rfl
    · exact e10
end Go.Ab.V

/-
  One rewriting; the example of TopRewrites. No condition but the sizes of pieces.
-/
namespace Go.Ab.V
open Go.Proofs

def oneP : Pc := ⟨⟨[⟨60, 0, false⟩], []⟩, [⟨false, 4, false, false, false, [⟨1, 0, 0, 0, 0⟩]⟩]⟩
theorem one_brk : ∃ b, brkP oneP 24 = .ok b ∧ b.evs.length = 2 := by
  refine ⟨⟨⟨[⟨60, 0, false⟩], []⟩, [⟨false, 5, false, false, false, [⟨1, 0, 0, 0, 0⟩]⟩, ⟨true, 5, false, false, true, []⟩]⟩, ?_, rfl⟩
  kernel_rfl
/-- one rewriting -/
def rwP (p : Pc) (c N : Int) : Except Int Pc :=
  if c = 0 then plnP p else if c = 1 then trsP p else if c = 2 then bareP p else if c = 3 then joinP p else if c = 4 then brkP p N else if c = 5 then augP p 1 else augP p (-1)
def A22 : Ann := fun r => match r with
  | 0 => { slots := [(0, 0), (1, 1), (2, 2)] }
  | _ => {}
theorem mod7 {k : Int} (h : 0 ≤ k) : 0 ≤ k.tmod 7 ∧ k.tmod 7 < 7 := ⟨Int.tmod_nonneg _ h, Int.tmod_lt_of_pos _ (by decide)⟩
theorem pcE_cases (x : Except Int Pc) : (∃ q, x = .ok q ∧ pcE x = .tup [.agg (pcR q), .int .i64 0]) ∨ ∃ e, x = .error e ∧ pcE x = .tup [zeroA, .int .i64 e] := by
  cases x with
  | ok q => exact .inl ⟨q, rfl, rfl⟩
  | error e => exact .inr ⟨e, rfl, rfl⟩
set_option maxHeartbeats 8000000 in
set_option maxRecDepth 100000 in
theorem rewritten_one (p : Pc) (k N : Int) (hk : 0 ≤ k) (hp : p.Ok) (hs : p.Sm) : PRet C.P 22 [pcA p, .agg [.int .u8 k, .int .i64 N]] (pcE (rwP p (k.tmod 7) N)) := by
  have m := mod7 hk
  have a0 := plain_spec p hp hs
  have a1 := terse_spec p hp hs
  have a2 := bare_spec p hp hs
  have a3 := join_spec p hp hs
  have a4 := break_spec p hp hs N
  have a5 := augment_spec p hp hs 1
  have a6 := augment_spec p hp hs (-1)
  obtain ⟨c, hc⟩ : ∃ c, c = k.tmod 7 := ⟨_, rfl⟩
  obtain ⟨X, hX⟩ : ∃ X, X = rwP p c N := ⟨_, rfl⟩
  rw [← hc] at m ⊢
  rw [← hX]
  have key : PRet C.P 22 [pcA p, .agg [.int .u8 k, .int .i64 N]] (pcE X) := by
    have b0 : c = 0 → PRet C.P 54 [pcA p] (pcE X) := fun h => by rw [hX, rwP, if_pos h]; exact a0
    have b1 : c = 1 → PRet C.P 56 [pcA p] (pcE X) := fun h => by rw [hX, rwP, if_neg (by omega), if_pos h]; exact a1
    have b2 : c = 2 → PRet C.P 58 [pcA p] (pcE X) := fun h => by rw [hX, rwP, if_neg (by omega), if_neg (by omega), if_pos h]; exact a2
    have b3 : c = 3 → PRet C.P 60 [pcA p] (pcE X) := fun h => by rw [hX, rwP, if_neg (by omega), if_neg (by omega), if_neg (by omega), if_pos h]; exact a3
    have b4 : c = 4 → PRet C.P 19 [pcA p, .int .i64 N] (pcE X) := fun h => by rw [hX, rwP, if_neg (by omega), if_neg (by omega), if_neg (by omega), if_neg (by omega), if_pos h]; exact a4
    have b5 : c = 5 → PRet C.P 41 [pcA p, .int .i64 1] (pcE X) := fun h => by rw [hX, rwP, if_neg (by omega), if_neg (by omega), if_neg (by omega), if_neg (by omega), if_neg (by omega), if_pos h]; exact a5
    have b6 : c = 6 → PRet C.P 41 [pcA p, .int .i64 (-1)] (pcE X) := fun h => by rw [hX, rwP, if_neg (by omega), if_neg (by omega), if_neg (by omega), if_neg (by omega), if_neg (by omega), if_neg (by omega)]; exact a6
    clear a0 a1 a2 a3 a4 a5 a6
    rcases pcE_cases X with ⟨q, _, hq⟩ | ⟨e, _, hq⟩ <;> rw [hq] at b0 b1 b2 b3 b4 b5 b6 ⊢ <;> clear hq
    all_goals
      rcases (show c = 0 ∨ c = 1 ∨ c = 2 ∨ c = 3 ∨ c = 4 ∨ c = 5 ∨ c = 6 by omega) with h | h | h | h | h | h | h
    all_goals
      first
      | have b := b0 h
      | have b := b1 h
      | have b := b2 h
      | have b := b3 h
      | have b := b4 h
      | have b := b5 h
      | have b := b6 h
      clear b0 b1 b2 b3 b4 b5 b6
      refine pret_of ok mixed (A := A22) 3 Try.func22 rfl ?_
      (repeat' (first | exact rfl | ((conv => whnf); first | refine ⟨_, b, ?_⟩ | exact rfl | refine ⟨by kernel_rfl, ?_⟩ | exact ⟨rfl, rfl⟩ | refine ⟨rfl, ?_⟩ | refine ⟨by (first | omega | (simp (disch := omega) only [wrapI]; omega) | (simp (disch := omega) only [wrapI]; simp; omega) | (simp; omega)), ?_⟩ | (intro ep) | (refine ifB (fun hb => ?_) (fun hb => ?_) <;> (try (exfalso; simp only [beq_iff_eq, beq_eq_false_iff_ne] at hb; omega))) | fail)))
  exact key

end Go.Ab.V

/-
  The law TopRewrites. No condition.
-/
namespace Go.Ab.V
open Go.Proofs

theorem ticks_twice {v : Int} {d t : Bool} (h : 1 ≤ v - 1 ∧ v ≤ 7) : ticks (v - 1) d t = 2 * ticks v d t := ticks_two (v := v) (d := d) (t := t) (by omega)
theorem aug_sm {p q : Pc} {b : Int} (hs : p.Sm) (h : augP p b = .ok q) : q.Sm := by
  obtain ⟨hc, hb, hv, rfl⟩ := aug_ok h
  exact Sm_body (p := p) hs rfl (augE_body b p.evs).symm
theorem aug_ev {p q : Pc} {b : Int} (h : augP p b = .ok q) : ∀ e ∈ outE plnS sz p.evs, 1 ≤ e.v - b ∧ e.v - b ≤ 7 := by
  intro e he
  have h1 := pln_rng (aug_chk h) { e with v := e.v - b } (by rw [pln_augP h]; exact List.mem_map_of_mem (f := fun e : Evt => { e with v := e.v - b }) he)
  exact h1
theorem rw_ok {q r : Pc} {c N : Int} (hc : chk q = 0) (hs : q.Sm) (h : rwP q c N = .ok r) (hcr : 0 ≤ c ∧ c < 7) :
    chk r = 0 ∧ r.Sm ∧ (c ≠ 5 → c ≠ 6 → ∀ f, strk f r = strk f q) ∧ (c = 5 → ∀ f, strk f r = strk (2 * f) q) ∧ (c = 6 → ∀ f, strk (2 * f) r = strk f q) := by
  unfold rwP at h
  have hn : ¬ (chk q ≠ 0) := fun h => h hc
  split at h
  · unfold plnP at h
    rw [if_neg hn] at h
    cases h
    exact ⟨pln_chk hc, Sm_body (p := q) hs rfl (pln_body _).symm, fun _ _ f => strk_pln f hc, fun h => by omega, fun h => by omega⟩
  split at h
  · unfold trsP at h
    rw [if_neg hn] at h
    cases h
    exact ⟨trs_chk hc, Sm_body (p := q) hs rfl (trs_body _).symm, fun _ _ f => strk_trs f, fun h => by omega, fun h => by omega⟩
  split at h
  · unfold bareP at h
    rw [if_neg hn] at h
    cases h
    exact ⟨bare_chk hc, bare_sm hs, fun _ _ f => strk_bare f, fun h => by omega, fun h => by omega⟩
  split at h
  · unfold joinP at h
    rw [if_neg hn] at h
    cases h
    exact ⟨joined_chk hc, join_sm hs, fun _ _ f => strk_join f hc, fun h => by omega, fun h => by omega⟩
  split at h
  · exact ⟨brk_chk h, brk_sm hs h, fun _ _ f => strk_brk f h, fun h => by omega, fun h => by omega⟩
  split at h
  · refine ⟨aug_chk h, aug_sm hs h, fun h5 => by omega, fun _ f => strk_aug f h fun e he => ?_, fun h => by omega⟩
    have h1 := aug_ev h e he
    have h2 := pln_rng hc e he
    exact ticks_twice (by omega)
  · refine ⟨aug_chk h, aug_sm hs h, fun _ h6 => by omega, fun h => by omega, fun _ f => strk_half f h fun e he => ?_⟩
    have h1 := aug_ev h e he
    have h2 := pln_rng hc e he
    have := ticks_twice (v := e.v + 1) (d := e.d) (t := e.t) (by omega)
    rw [show e.v + 1 - 1 = e.v by omega] at this
    rw [show e.v - -1 = e.v + 1 by omega]
    omega
theorem rw_err {q : Pc} {c N e : Int} (hc : chk q = 0) (hcr : 0 ≤ c ∧ c < 7) (h : rwP q c N = .error e) : e ≠ 0 ∧ 4 ≤ c := by
  unfold rwP at h
  have hn : ¬ (chk q ≠ 0) := fun h => h hc
  split at h
  · unfold plnP at h; rw [if_neg hn] at h; cases h
  split at h
  · unfold trsP at h; rw [if_neg hn] at h; cases h
  split at h
  · unfold bareP at h; rw [if_neg hn] at h; cases h
  split at h
  · unfold joinP at h; rw [if_neg hn] at h; cases h
  split at h
  · exact ⟨brkP_ne' h, by omega⟩
  split at h
  · exact ⟨aug_err h, by omega⟩
  · exact ⟨aug_err h, by omega⟩

def rwR (x : Int × Int) : List AV := [.int .u8 x.1, .int .i64 x.2]
def scrA (l : List (Int × Int)) : AV := .lslc 2 (l.map rwR) 0 l.length false
theorem shv_script {m : Nat} {a : AV} (h : ShpV C.ti (m + 4) 29 a) : ∃ l : List (Int × Int), a = scrA l ∧ (∀ x ∈ l, 0 ≤ x.1) ∧ l.length ≤ 9223372036854775807 := by
  have h : Shp C.ti (m + 4) 29 [a] := h
  obtain ⟨l, h1, h2⟩ := s_slice (f := fun x : { x : Int × Int // 0 ≤ x.1 } => rwR x.1) rfl rfl rfl rfl (fun r h => by
    obtain ⟨l, hf⟩ := shp_struct (ti := C.ti) rfl rfl h
    obtain ⟨a, b, rfl⟩ := len2 l
    have q1 := fld (P := fun _ => True) (hf (0, 5) (by decide)) rfl rfl
    obtain ⟨x1, h1, h1b⟩ := shp_int rfl rfl q1
    obtain ⟨x2, h2⟩ := s_int (fld (P := fun _ => True) (hf (1, 3) (by decide)) rfl rfl)
    simp at h1 h2
    refine ⟨⟨(x1, x2), h1b.1⟩, by rw [h1, h2]; rfl⟩) h
  refine ⟨l.map Subtype.val, ?_, fun x hx => ?_, by simpa using h2⟩
  · rw [List.cons.injEq] at h1
    rw [h1.1]
    unfold scrA
    simp
  · obtain ⟨y, _, rfl⟩ := List.mem_map.1 hx
    exact y.2
/-- what holds at the head of the loop -/
structure TInv (p : Pc) (k : Nat) (q : Pc) (was now : Int) : Prop where
  ck : chk q = 0
  sm : q.Sm
  w : 1 ≤ was ∧ was ≤ 2 ^ k
  n : 1 ≤ now ∧ now ≤ 2 ^ k
  eq : ∀ m, strk (m * was) p = strk (m * now) q
theorem pow_le {k : Nat} (h : k ≤ 8) : (2 : Int) ^ k ≤ 256 := by
  have : ∀ k ≤ 8, (2 : Int) ^ k ≤ 256 := by decide
  exact this k h
theorem TInv.skip {p q : Pc} {k : Nat} {was now : Int} (h : TInv p k q was now) : TInv p (k + 1) q was now := by
  obtain ⟨h1, h2, h3, h4, h5⟩ := h
  have e : (2 : Int) ^ (k + 1) = 2 ^ k * 2 := Int.pow_succ 2 k
  exact ⟨h1, h2, by omega, by omega, h5⟩
theorem TInv.step {p q r : Pc} {k : Nat} {was now c N : Int} (h : TInv p k q was now) (hcr : 0 ≤ c ∧ c < 7) (hr : rwP q c N = .ok r) :
    TInv p (k + 1) r (if c = 5 then was * 2 else was) (if c = 6 then now * 2 else now) := by
  obtain ⟨h1, h2, h3, h4, h5⟩ := h
  obtain ⟨g1, g2, g3, g4, g5⟩ := rw_ok h1 h2 hr hcr
  have e : (2 : Int) ^ (k + 1) = 2 ^ k * 2 := Int.pow_succ 2 k
  refine ⟨g1, g2, by split <;> omega, by split <;> omega, fun m => ?_⟩
  by_cases h5c : c = 5
  · rw [if_pos h5c, if_neg (by omega), g4 h5c]
    rw [show m * (was * 2) = (2 * m) * was by rw [Int.mul_comm was 2, ← Int.mul_assoc, Int.mul_comm m 2], h5]
    congr 1
    rw [Int.mul_assoc]
  · by_cases h6c : c = 6
    · rw [if_neg h5c, if_pos h6c, show m * (now * 2) = 2 * (m * now) by rw [Int.mul_comm now 2, ← Int.mul_assoc, Int.mul_comm m 2, Int.mul_assoc], g5 h6c, h5]
    · rw [if_neg h5c, if_neg h6c, g3 h5c h6c, h5]
end Go.Ab.V

/-
  The law TopRewrites. No condition.
-/
namespace Go.Ab.V
open Go.Proofs

def A3 : Ann := fun r => match r with
  | 0 => { slots := [(0, 0)] }
  | 1 => { slots := [(1, 1), (5, 2), (7, 3), (9, 4)], frz := [1002, 1001, 1003] }
  | 2 => { slots := [(5, 5)] }
  | 7 => { slots := [(2, 6)] }
  | 12 => { slots := [(10, 7)] }
  | 21 => { canon := some [0, 1, 3, 4, 2, 5, 6, 7] }
  | _ => {}
theorem one_spec : PRet C.P 19 [.agg [.lslc 3 [[.int .i64 60, .int .i64 0, .bool false]] 0 1 false, .nils, .lslc 6 [[.bool false, .int .i64 4, .bool false, .bool false, .bool false, .lslc 5 [[.int .i64 1, .int .i64 0, .int .i64 0, .int .i64 0, .int .i64 0]] 0 1 false]] 0 1 false], .int .i64 24] (pcE (brkP oneP 24)) := by
  have h := break_spec oneP ⟨by decide, by decide, by decide, by decide⟩ ⟨by decide, by decide, by decide, by decide⟩ 24
  exact h.sub (.cons (Sub.agg (.cons (Sub.refl _) (.cons .nils (.cons (Sub.refl _) .nil)))) (.cons (Sub.refl _) .nil))
theorem stps_len {i : Ins} {lg : Int → Int} : ∀ {l : List Stp} {last : Int}, StpsOk i lg last l → l = [] ∨ (l.length : Int) ≤ i.cs.length - last
  | [], _, _ => .inl rfl
  | s :: r, last, ⟨h1, h2⟩ => by
    rw [chkStop_iff] at h1
    refine .inr ?_
    rcases stps_len h2 with h | h
    · subst h; simp only [List.length_cons, List.length_nil]; omega
    · simp only [List.length_cons]; omega
theorem small_sm {p : Pc} (h1 : p.evs.length ≤ 40) (h2 : p.ins.cs.length ≤ 64) (h3 : p.ins.steps.length ≤ 64) (hc : chk p = 0) : p.Sm := by
  refine ⟨by omega, by omega, by omega, fun e he => ?_⟩
  obtain ⟨k, hk, rfl⟩ := List.getElem_of_mem he
  have := stps_len ((chk_suf.1 hc).2.2.1.at hk).st
  rcases this with h | h
  · rw [h]; simp
  · omega
theorem stkT_len (f : Int) {n : Nat} : ∀ (ts : List Int) (l : List Evt), (∀ e ∈ l, e.stops.length ≤ n) → (stkT f ts l).length ≤ l.length * (2 * n + 2)
  | [], l, _ => by cases l <;> simp [stkT]
  | _ :: _, [], _ => by simp [stkT]
  | t :: ts, e :: r, h => by
    have ih := stkT_len f ts r fun x hx => h x (List.mem_cons_of_mem _ hx)
    have h1 := h e (List.mem_cons_self ..)
    have h2 : (chd f t e).length ≤ 2 * n + 2 := by
      unfold chd
      split
      · simp
      · simp only [List.length_cons, plcs_len]; omega
    rw [stkT, List.length_append, List.length_cons, Nat.add_mul, Nat.one_mul]
    omega
theorem strkT_len {f : Int} {p : Pc} (hs : p.Sm) (hc : chk p = 0) : (strkT f p).length ≤ 9223372036854775806 := by
  have := stkT_len f (n := 4000) (times p) p.evs hs.sp
  have := hs.ev
  unfold strkT
  rw [List.length_append, List.length_singleton]
  omega
set_option maxHeartbeats 16000000 in
set_option maxRecDepth 100000 in
theorem law_tops (p : Pc) (hp : p.Ok) (l : List (Int × Int)) (hl0 : ∀ x ∈ l, 0 ≤ x.1) (hll : l.length ≤ 9223372036854775807) : ACalls C.P 3 [pcA p, scrA l] Heap.nil fun r _ => r = .bool true := by
  have b1 := one_spec
  obtain ⟨b, hb1, hb2⟩ := one_brk
  rw [hb1] at b1
  have b2 := small_spec p hp
  cases hS : smallB p
  · rw [hS] at b2
    refine fn_of ok mixed (A := A3) 8 Try.func3 rfl ?_
    (repeat' (first | exact rfl | ((conv => whnf); first | refine ⟨_, b1, ?_⟩ | refine ⟨_, b2, ?_⟩ | exact rfl | refine ⟨by kernel_rfl, ?_⟩ | exact ⟨rfl, rfl⟩ | refine ⟨rfl, ?_⟩ | refine ⟨by (first | omega | (simp (disch := omega) only [wrapI]; omega) | (simp (disch := omega) only [wrapI]; simp; omega) | (simp; omega)), ?_⟩ | (intro ep) | refine ⟨pureRows_of (by kernel_rfl), by (repeat' (first | exact trivial | exact eqsP_rows _ (fun x => rfl) | ((conv => whnf); first | exact trivial | refine ⟨rfl, ?_⟩ | refine ⟨?_, ?_⟩ | fail))), by (repeat' (first | exact trivial | exact eqsP_rows _ (fun x => rfl) | ((conv => whnf); first | exact trivial | refine ⟨rfl, ?_⟩ | refine ⟨?_, ?_⟩ | fail))), by (repeat' (first | exact trivial | exact eqsP_rows _ (fun x => rfl) | ((conv => whnf); first | exact trivial | refine ⟨rfl, ?_⟩ | refine ⟨?_, ?_⟩ | fail))), ?_⟩ | (refine ifB (fun hb => ?_) (fun hb => ?_) <;> (try simp only [decide_eq_true_eq, decide_eq_false_iff_not, beq_iff_eq, beq_eq_false_iff_ne, bne_iff_ne, bne_eq_false_iff_eq, ne_eq, Bool.not_eq_true, Bool.not_eq_true', Bool.not_eq_false'] at hb) <;> (try (exfalso; omega)) <;> (try (exfalso; exact hb rfl))) | fail)))
  · rw [hS] at b2
    have hsm : p.evs.length ≤ 40 ∧ p.ins.cs.length ≤ 64 ∧ p.ins.steps.length ≤ 64 ∧ chk p = 0 := by
      unfold smallB at hS
      simp only [Bool.and_eq_true, decide_eq_true_eq] at hS
      exact ⟨hS.1.1.1, hS.1.1.2, hS.1.2, hS.2⟩
    obtain ⟨s1, s2, s3, hc⟩ := hsm
    have hs := small_sm s1 s2 s3 hc
    have c1 := copy_spec p hs
    by_cases hl8 : l.length ≤ 8
    · refine fn_of ok mixed (A := A3) 8 Try.func3 rfl ?_
      (conv => whnf)
      intro e0
      obtain ⟨eP, heP⟩ : ∃ e, e = e0 := ⟨_, rfl⟩
      subst heP
      (repeat' (first | exact rfl | ((conv => whnf); first | refine ⟨_, b1, ?_⟩ | refine ⟨_, b2, ?_⟩ | refine ⟨_, c1, ?_⟩ | exact rfl | refine ⟨by kernel_rfl, ?_⟩ | exact ⟨rfl, rfl⟩ | refine ⟨rfl, ?_⟩ | refine ⟨by (first | omega | (simp (disch := omega) only [wrapI]; omega) | (simp (disch := omega) only [wrapI]; simp; omega) | (simp; omega)), ?_⟩ | (intro ep) | refine ⟨pureRows_of (by kernel_rfl), by (repeat' (first | exact trivial | exact eqsP_rows _ (fun x => rfl) | ((conv => whnf); first | exact trivial | refine ⟨rfl, ?_⟩ | refine ⟨?_, ?_⟩ | fail))), by (repeat' (first | exact trivial | exact eqsP_rows _ (fun x => rfl) | ((conv => whnf); first | exact trivial | refine ⟨rfl, ?_⟩ | refine ⟨?_, ?_⟩ | fail))), by (repeat' (first | exact trivial | exact eqsP_rows _ (fun x => rfl) | ((conv => whnf); first | exact trivial | refine ⟨rfl, ?_⟩ | refine ⟨?_, ?_⟩ | fail))), ?_⟩ | (refine ifB (fun hb => ?_) (fun hb => ?_) <;> (try simp only [decide_eq_true_eq, decide_eq_false_iff_not, beq_iff_eq, beq_eq_false_iff_ne, bne_iff_ne, bne_eq_false_iff_eq, ne_eq, Bool.not_eq_true, Bool.not_eq_true', Bool.not_eq_false'] at hb) <;> (try (exfalso; omega)) <;> (try (exfalso; exact hb rfl))) | fail)))
      (conv => whnf)
      refine loopX ok mixed (A := A3) [1, 2, 8, 9, 10, 11] [0, 6] (S := { x : Nat × Pc × Int × Int // x.1 ≤ l.length ∧ TInv p x.1 x.2.1 x.2.2.1 x.2.2.2 })
        (fr := fun s => frOf 0 110 [(1, scrA l), (2, .optr (.s 0) eP 3 0 0), (8, .optr (.s 6) ep 3 0 0), (9, .int .i64 s.1.2.2.1), (10, .int .i64 s.1.2.2.2), (11, .int .i64 (s.1.1 : Int))])
        (h := fun s => ⟨[.vec eP [pcR p], .hole, .hole, .hole, .hole, .hole, .vec ep [pcR s.1.2.1], .hole], []⟩) (μ := fun s => l.length - s.1.1) ⟨(0, p, 1, 1), by simp only; omega, hc, hs, ⟨by simp, by simp⟩, ⟨by simp, by simp⟩, fun m => rfl⟩ ?_ ?_
        [2, 8, 9, 10] [0, 6] (S' := { x : Pc × Int × Int // TInv p l.length x.1 x.2.1 x.2.2 }) (X := fun _ => 0)
        (frX := fun s => frOf 0 110 [(2, .optr (.s 0) eP 3 0 0), (8, .optr (.s 6) ep 3 0 0), (9, .int .i64 s.1.2.1), (10, .int .i64 s.1.2.2)])
        (hX := fun s => ⟨[.vec eP [pcR p], .hole, .hole, .hole, .hole, .hole, .vec ep [pcR s.1.1], .hole], []⟩) (R := fun _ _ => False) ?_ (fun _ _ h => h.elim) ?_
      · exact rfl
      · exact rfl
      · rintro ⟨⟨k, q, was, now⟩, hk, hI⟩
        simp only at hk hI
        show aexR _ _ _ (frOf 0 110 [(1, scrA l), (2, .optr (.s 0) eP 3 0 0), (8, .optr (.s 6) ep 3 0 0), (9, .int .i64 was), (10, .int .i64 now), (11, .int .i64 (k : Int))])
          ⟨[.vec eP [pcR p], .hole, .hole, .hole, .hole, .hole, .vec ep [pcR q], .hole], []⟩ _
        (conv => whnf)
        refine ifB (fun g1 => ?_) (fun g1 => ?_)
        · simp only [decide_eq_true_eq] at g1
          have hlt : k < l.length := by omega
          have hm := mapR (f := rwR) hlt
          have h0 := hl0 l[k] (List.getElem_mem hlt)
          obtain ⟨⟨kd, N⟩, hkd⟩ : ∃ x, l[k] = x := ⟨_, rfl⟩
          rw [hkd] at hm h0
          have m7 := mod7 h0
          have c2 := copy_spec q hI.sm
          have r1 := rewritten_one q kd N h0 hI.sm.ok hI.sm
          have hw := hI.w
          have hn := hI.n
          have hp8 := pow_le (k := k) (by omega)
          obtain ⟨c, hc7⟩ : ∃ c, kd.tmod 7 = c := ⟨_, rfl⟩
          rw [hc7] at m7 r1
          cases hX : rwP q c N with
          | error e =>
            rw [hX] at r1
            have he := rw_err hI.ck m7 hX
            (repeat' (first | exact rfl | ((conv => whnf); first | refine ⟨_, c2, ?_⟩ | refine ⟨_, r1, ?_⟩ | refine optS hm ?_ | exact rfl | refine ⟨by kernel_rfl, ?_⟩ | exact ⟨rfl, rfl⟩ | refine ⟨rfl, ?_⟩ | refine ⟨by (first | omega | (simp (disch := omega) only [wrapI]; omega) | (simp (disch := omega) only [wrapI]; simp; omega) | (simp; omega)), ?_⟩ | (intro ep) | (refine ifB (fun hb => ?_) (fun hb => ?_) <;> (try simp only [decide_eq_true_eq, decide_eq_false_iff_not, beq_iff_eq, beq_eq_false_iff_ne, bne_iff_ne, bne_eq_false_iff_eq, ne_eq, Bool.not_eq_true, Bool.not_eq_true', Bool.not_eq_false'] at hb) <;> (try rw [hc7] at hb) <;> (try (exfalso; omega)) <;> (try (exfalso; exact hb rfl))) | fail)))
            all_goals (conv => whnf)
            all_goals refine back_of ⟨(k + 1, q, was, now), by simp only; omega, hI.skip⟩ ⟨by (first | exact rfl | (simp (disch := omega) only [wrapI]; exact rfl)), rfl, by simp only; omega⟩
          | ok r =>
            rw [hX] at r1
            have hJ := hI.step m7 hX
            have k1 := refCheck_spec r hJ.sm.ok hJ.sm.ev
            rw [hJ.ck] at k1
            (repeat' (first | exact rfl | ((conv => whnf); first | refine ⟨_, c2, ?_⟩ | refine ⟨_, r1, ?_⟩ | refine ⟨_, k1, ?_⟩ | refine optS hm ?_ | exact rfl | refine ⟨by kernel_rfl, ?_⟩ | exact ⟨rfl, rfl⟩ | refine ⟨rfl, ?_⟩ | refine ⟨by (first | omega | (simp (disch := omega) only [wrapI]; omega) | (simp (disch := omega) only [wrapI]; simp; omega) | (simp; omega)), ?_⟩ | (intro ep) | (refine ifB (fun hb => ?_) (fun hb => ?_) <;> (try simp only [decide_eq_true_eq, decide_eq_false_iff_not, beq_iff_eq, beq_eq_false_iff_ne, bne_iff_ne, bne_eq_false_iff_eq, ne_eq, Bool.not_eq_true, Bool.not_eq_true', Bool.not_eq_false'] at hb) <;> (try rw [hc7] at hb) <;> (try (exfalso; omega)) <;> (try (exfalso; exact hb rfl))) | fail)))
            all_goals (conv => whnf)
            all_goals
              first
              | exact back_of ⟨(k + 1, r, was * 2, now), by simp only; omega, by have := hJ; rw [if_pos (by omega), if_neg (by omega)] at this; exact this⟩ ⟨by (first | exact rfl | (simp (disch := omega) only [wrapI]; exact rfl)), rfl, by simp only; omega⟩
              | exact back_of ⟨(k + 1, r, was, now * 2), by simp only; omega, by have := hJ; rw [if_neg (by omega), if_pos (by omega)] at this; exact this⟩ ⟨by (first | exact rfl | (simp (disch := omega) only [wrapI]; exact rfl)), rfl, by simp only; omega⟩
              | exact back_of ⟨(k + 1, r, was, now), by simp only; omega, by have := hJ; rw [if_neg (by omega), if_neg (by omega)] at this; exact this⟩ ⟨by (first | exact rfl | (simp (disch := omega) only [wrapI]; exact rfl)), rfl, by simp only; omega⟩
        · simp only [decide_eq_false_iff_not] at g1
          obtain rfl : k = l.length := by omega
          (repeat' (first | exact rfl | ((conv => whnf); first | exact rfl | refine ⟨by kernel_rfl, ?_⟩ | exact ⟨rfl, rfl⟩ | refine ⟨rfl, ?_⟩ | refine ⟨by (first | omega | (simp (disch := omega) only [wrapI]; omega) | (simp (disch := omega) only [wrapI]; simp; omega) | (simp; omega)), ?_⟩ | (intro ep) | fail)))
          (conv => whnf)
          exact back_of ⟨(q, was, now), hI⟩ ⟨rfl, rfl, rfl⟩
      · rintro ⟨⟨q, was, now⟩, hI⟩
        simp only at hI
        have hw := hI.w
        have hn := hI.n
        have hp8 := pow_le (k := l.length) (by omega)
        have t1 := strokes_spec p hs hc was (by omega)
        have t2 := strokes_spec q hI.sm hI.ck now (by omega)
        have e := hI.eq 1
        rw [Int.one_mul, Int.one_mul, ← strkT_eq was hc, ← strkT_eq now hI.ck] at e
        rw [← e] at t2
        have t3 := same24_self (strkT was p) (strkT_len hs hc)
        (repeat' (first | exact rfl | ((conv => whnf); first | refine ⟨_, t1, ?_⟩ | refine ⟨_, t2, ?_⟩ | refine ⟨_, t3, ?_⟩ | exact rfl | refine ⟨by kernel_rfl, ?_⟩ | exact ⟨rfl, rfl⟩ | refine ⟨rfl, ?_⟩ | refine ⟨by (first | omega | (simp (disch := omega) only [wrapI]; omega) | (simp (disch := omega) only [wrapI]; simp; omega) | (simp; omega)), ?_⟩ | (intro ep) | fail)))
    · refine fn_of ok mixed (A := A3) 8 Try.func3 rfl ?_
      (repeat' (first | exact rfl | ((conv => whnf); first | refine ⟨_, b1, ?_⟩ | refine ⟨_, b2, ?_⟩ | exact rfl | refine ⟨by kernel_rfl, ?_⟩ | exact ⟨rfl, rfl⟩ | refine ⟨rfl, ?_⟩ | refine ⟨by (first | omega | (simp (disch := omega) only [wrapI]; omega) | (simp (disch := omega) only [wrapI]; simp; omega) | (simp; omega)), ?_⟩ | (intro ep) | refine ⟨pureRows_of (by kernel_rfl), by (repeat' (first | exact trivial | exact eqsP_rows _ (fun x => rfl) | ((conv => whnf); first | exact trivial | refine ⟨rfl, ?_⟩ | refine ⟨?_, ?_⟩ | fail))), by (repeat' (first | exact trivial | exact eqsP_rows _ (fun x => rfl) | ((conv => whnf); first | exact trivial | refine ⟨rfl, ?_⟩ | refine ⟨?_, ?_⟩ | fail))), by (repeat' (first | exact trivial | exact eqsP_rows _ (fun x => rfl) | ((conv => whnf); first | exact trivial | refine ⟨rfl, ?_⟩ | refine ⟨?_, ?_⟩ | fail))), ?_⟩ | (refine ifB (fun hb => ?_) (fun hb => ?_) <;> (try simp only [decide_eq_true_eq, decide_eq_false_iff_not, beq_iff_eq, beq_eq_false_iff_ne, bne_iff_ne, bne_eq_false_iff_eq, ne_eq, Bool.not_eq_true, Bool.not_eq_true', Bool.not_eq_false'] at hb) <;> (try (exfalso; omega)) <;> (try (exfalso; exact hb rfl))) | fail)))
end Go.Ab.V
