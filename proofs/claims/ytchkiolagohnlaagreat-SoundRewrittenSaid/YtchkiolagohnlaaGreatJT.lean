/-
  What is proved here serves the law's text: each part says its own claim and its conditions. No condition is left open.
-/
import Derived.Test.YtchkiolagohnlaaGreatJS
set_option linter.unusedSimpArgs false
set_option linter.unusedVariables false

/-
  Measures, by the program and by the document. The pieces are of the sizes that a statement looks at.
-/
namespace Go.Ab.V
open Go.Proofs

structure M3 where
  i : Int
  n : Int
  t : Int
def bump (l : List M3) (tk : Int) : List M3 := match l.getLast? with
  | some m => l.dropLast ++ [⟨m.i, m.n + 1, m.t + tk⟩]
  | none => []
theorem bump_app (pre : List M3) (m : M3) (tk : Int) : bump (pre ++ [m]) tk = pre ++ [⟨m.i, m.n + 1, m.t + tk⟩] := by
  simp [bump]
def mstep (l : List M3) (k : Nat) (e : Evt) (tk : Int) : List M3 := bump (if k = 0 ∨ e.bar = true then l ++ [⟨k, 0, 0⟩] else l) tk
def msr (l : List M3) (k : Nat) (f : Int) : List Evt → List M3
  | [] => l
  | e :: r => msr (mstep l k e (frc f e)) (k + 1) (frc f e) r
def measures (p : Pc) : List M3 := msr [] 0 0 p.evs
end Go.Ab.V

/-
  SameInts of a list with itself; the document's Measures; the law PieceTimes. The pieces are of the sizes that a statement looks at.
-/
namespace Go.Ab.V
open Go.Proofs

end Go.Ab.V

/-
  The law PieceTorn is true at every input.
-/
namespace Go.Ab.V
open Go.Proofs

theorem eqBy_plc : ∀ {l m : List Stp}, l.map (fun s => (s.c, s.f)) = m.map (fun s => (s.c, s.f)) → eqBy plB l m = true
  | [], [], _ => rfl
  | [], _ :: _, h => by simp at h
  | _ :: _, [], h => by simp at h
  | a :: l, b :: m, h => by
    simp only [List.map_cons, List.cons.injEq, Prod.mk.injEq] at h
    rw [eqBy, eqBy_plc h.2, plB, h.1.1, h.1.2]
    simp
end Go.Ab.V

/-
  The measures and the onsets of a broken piece. Plain Lean. No condition.
-/
namespace Go.Ab.V
open Go.Proofs

/-- the events of a list stand between the bars -/
def Bsd (bar : Nat) : Nat → List Evt → Prop
  | _, [] => True
  | x, f :: r => (0 < tkE f ∧ x + tkn f ≤ (x / bar + 1) * bar ∧ f.bar = decide (0 < x ∧ x % bar = 0)) ∧ Bsd bar (x + tkn f) r
theorem bsd_parts {bar : Nat} {e : Evt} {a b : Nat} {m : List Evt} (hm : Bsd bar b m) : ∀ {x : Nat} {g : List Evt}, Parts bar e a b x g → Bsd bar x (g ++ m)
  | _, _, .done => hm
  | x, _, .step hx ht hb hm' hbar htie hst h => ⟨⟨ht, hm', hbar⟩, bsd_parts hm h⟩
theorem bsd_brkG {bar x i : Nat} {F : List Nat} {g m : List Evt} (h : Bsd bar x (g ++ m)) : Bsd bar x (brkG F i g ++ m) := by
  cases g with
  | nil => exact h
  | cons f tl => exact h
theorem bsd_brkO {bar : Nat} {F : List Nat} : ∀ {a i : Nat} {l : List Evt} {G : List (List Evt)}, Grps bar a l G → Bsd bar a (brkO F i G)
  | _, _, _, _, .nil => trivial
  | a, i, e :: r, _, .cons hp hG => bsd_brkG (bsd_parts (bsd_brkO hG) hp)
theorem bsd_tk {bar : Nat} : ∀ {l : List Evt} {x : Nat}, Bsd bar x l → ∀ e ∈ l, 0 < tkE e
  | _ :: _, _, h, e, he => by
    rcases List.mem_cons.1 he with rfl | he
    · exact h.1.1
    · exact bsd_tk h.2 e he

/-! ### the measures -/
def MInv (bar : Nat) (ms : List M3) (x : Nat) : Prop := (ms = [] ∧ x = 0) ∨ ∃ (pre : List M3) (m : M3) (q t : Nat), ms = pre ++ [m] ∧ (∀ y ∈ pre, y.t = (bar : Int)) ∧ m.t = (t : Int) ∧ 0 < t ∧ t ≤ bar ∧ x = q * bar + t
theorem frc_tk {f : Int} {e : Evt} (h : 0 < tkE e) : frc f e = tkE e := by
  unfold tkE at h
  have h1 := h
  rw [ticks_pos] at h1
  unfold frc
  rw [if_pos (by omega)]
  rfl
theorem minv_step {bar : Nat} (h0 : 0 < bar) {ms : List M3} {k x : Nat} {e : Evt} (hk : k = 0 ↔ x = 0) (ht : 0 < tkE e) (hm : x + tkn e ≤ (x / bar + 1) * bar) (hb : e.bar = decide (0 < x ∧ x % bar = 0)) (h : MInv bar ms x) :
    MInv bar (mstep ms k e (tkE e)) (x + tkn e) := by
  have htn : ((tkn e : Nat) : Int) = tkE e := by unfold tkn; omega
  have htn0 : 0 < tkn e := by omega
  unfold mstep
  rcases h with ⟨rfl, rfl⟩ | ⟨pre, m, q, t, rfl, hp, hmt, ht0, htb, hx⟩
  · rw [if_pos (.inl (by omega)), bump_app]
    refine .inr ⟨[], _, 0, tkn e, rfl, by simp, by simp only; omega, htn0, ?_, by omega⟩
    simpa using hm
  · have hx0 : 0 < x := by omega
    rcases Nat.lt_or_ge t bar with htl | htg
    · have hmod : x % bar = t := by rw [hx, Nat.mul_comm, Nat.mul_add_mod, Nat.mod_eq_of_lt htl]
      have hdiv : x / bar = q := by rw [hx, Nat.mul_comm, Nat.mul_add_div h0, Nat.div_eq_of_lt htl, Nat.add_zero]
      rw [hdiv, Nat.add_mul, Nat.one_mul] at hm
      rw [if_neg (by rw [hb, decide_eq_true_eq]; omega), bump_app]
      exact .inr ⟨pre, _, q, t + tkn e, rfl, hp, by simp only; omega, by omega, by omega, by omega⟩
    · obtain rfl : t = bar := by omega
      have hmod : x % t = 0 := by rw [hx, Nat.mul_comm, Nat.mul_add_mod, Nat.mod_self]
      have hdiv : x / t = q + 1 := by
        have : x = t * (q + 1) := by rw [hx, Nat.mul_add, Nat.mul_one, Nat.mul_comm]
        rw [this, Nat.mul_div_cancel_left _ h0]
      have e1 : (q + 1 + 1) * t = q * t + t + t := by rw [Nat.add_mul, Nat.add_mul, Nat.one_mul]
      have e2 : (q + 1) * t = q * t + t := by rw [Nat.add_mul, Nat.one_mul]
      rw [hdiv, e1] at hm
      rw [if_pos (.inr (by rw [hb, decide_eq_true_eq]; omega)), bump_app]
      refine .inr ⟨pre ++ [m], _, q + 1, tkn e, rfl, ?_, by simp only; omega, by omega, by omega, by omega⟩
      intro y hy
      rcases List.mem_append.1 hy with hy | hy
      · exact hp y hy
      · obtain rfl := List.mem_singleton.1 hy
        exact hmt
theorem msr_bars {bar : Nat} (h0 : 0 < bar) : ∀ (l : List Evt) (ms : List M3) (k : Nat) (f : Int) (x : Nat), Bsd bar x l → (k = 0 ↔ x = 0) → MInv bar ms x → MInv bar (msr ms k f l) (x + sumE l)
  | [], _, _, _, _, _, _, h => h
  | e :: r, ms, k, f, x, ⟨⟨h1, h2, h3⟩, h4⟩, hk, h => by
    have htn0 : 0 < tkn e := by unfold tkn; omega
    have := msr_bars h0 r _ (k + 1) (frc f e) (x + tkn e) h4 (by omega) (minv_step h0 hk h1 h2 h3 h)
    rw [show x + tkn e + sumE r = x + sumE (e :: r) by simp only [sumE]; omega] at this
    rw [msr, frc_tk h1]
    rw [frc_tk h1] at this
    exact this
theorem minv_at {bar x : Nat} {ms : List M3} (h : MInv bar ms x) {i : Nat} (hi : i < ms.length) : ms[i].t ≤ (bar : Int) ∧ (i + 1 < ms.length → ms[i].t = (bar : Int)) := by
  rcases h with ⟨rfl, -⟩ | ⟨pre, m, q, t, rfl, hp, hmt, ht0, htb, hx⟩
  · simp at hi
  · simp only [List.length_append, List.length_singleton] at hi ⊢
    by_cases h : i < pre.length
    · rw [List.getElem_append_left h]
      have := hp _ (List.getElem_mem h)
      omega
    · obtain rfl : i = pre.length := by omega
      simp
      omega

/-! ### the onsets -/
def fxN (G : List (List Evt)) (j : Nat) : Nat := ((G.take j).flatten).length
theorem brkG_sum (F : List Nat) (i : Nat) (g : List Evt) : sumE (brkG F i g) = sumE g := by cases g <;> rfl
theorem parts_sum {bar : Nat} {e : Evt} {a b : Nat} : ∀ {x : Nat} {g : List Evt}, Parts bar e a b x g → x + sumE g = b
  | _, _, .done => rfl
  | x, _, .step hx ht hb hm hbar htie hst h => by
    have := parts_sum h
    simp only [sumE]
    omega
theorem holdB_plc (F : List Nat) (i : Nat) (s : Stp) : (holdB F i s).c = s.c ∧ (holdB F i s).f = s.f := by unfold holdB; split <;> exact ⟨rfl, rfl⟩
theorem grps_at {bar : Nat} {F : List Nat} : ∀ {a i : Nat} {l : List Evt} {G : List (List Evt)}, Grps bar a l G → (∀ e ∈ l, 0 < tkn e) → ∀ j, j ≤ l.length →
    sumE ((brkO F i G).take (fxN G j)) = sumE (l.take j) ∧ ∀ h : j < l.length, ∃ h2 : fxN G j < (brkO F i G).length, (brkO F i G)[fxN G j].stops.map (fun s => (s.c, s.f)) = l[j].stops.map (fun s => (s.c, s.f))
  | _, _, _, _, .nil, _, j, hj => by
    obtain rfl : j = 0 := by simpa using hj
    exact ⟨rfl, fun h => by simp at h⟩
  | a, i, e :: r, _, .cons (g := g) (G := G) hp hG, ht, 0, hj => by
    have hte := ht e (List.mem_cons_self ..)
    obtain ⟨f, tl, rfl, q1, q2, q3⟩ := parts_first (by omega) hp
    refine ⟨by simp [fxN, sumE], fun _ => ⟨by simp [fxN, brkO, brkG], ?_⟩⟩
    show ((f.stops.map (holdB F i)).map _) = e.stops.map _
    rw [q1, List.map_map]
    exact List.map_congr_left fun s _ => by simp only [Function.comp]; rw [(holdB_plc F i s).1, (holdB_plc F i s).2]
  | a, i, e :: r, _, .cons (g := g) (G := G) hp hG, ht, j + 1, hj => by
    obtain ⟨h1, h2⟩ := grps_at (F := F) (i := i + 1) hG (fun x hx => ht x (List.mem_cons_of_mem _ hx)) j (by simpa using hj)
    have hs := parts_sum hp
    have hfx : fxN (g :: G) (j + 1) = g.length + fxN G j := by simp [fxN]
    have hl : (brkG F i g).length = g.length := brkG_len _ _ _
    rw [hfx]
    refine ⟨?_, fun h => ?_⟩
    · show sumE ((brkG F i g ++ brkO F (i + 1) G).take _) = _
      rw [← hl, List.take_length_add_append, sumE_app, brkG_sum, h1, List.take_succ_cons]
      simp only [sumE]
      omega
    · obtain ⟨h3, h4⟩ := h2 (by simpa using h)
      refine ⟨by show _ < (brkG F i g ++ brkO F (i + 1) G).length; rw [List.length_append]; omega, ?_⟩
      have : (brkO F i (g :: G))[g.length + fxN G j]'(by show _ < (brkG F i g ++ brkO F (i + 1) G).length; rw [List.length_append]; omega) = (brkO F (i + 1) G)[fxN G j] := by
        show (brkG F i g ++ brkO F (i + 1) G)[_]'_ = _
        rw [List.getElem_append_right (by omega)]
        simp only [hl, Nat.add_sub_cancel_left]
      rw [this, h4]
      rfl
theorem tmN_lt {P : List Evt} (hP : ∀ e ∈ P, 0 < tkn e) : ∀ {j k : Nat}, j < k → k ≤ P.length → tmN P j < tmN P k
  | j, k + 1, h1, h2 => by
    have h3 := tmN_succ (P := P) (i := k) (by omega)
    have h4 := hP _ (List.getElem_mem (show k < P.length by omega))
    rcases Nat.lt_or_ge j k with h | h
    · have := tmN_lt hP h (by omega)
      omega
    · obtain rfl : j = k := by omega
      omega
/-- how the onsets of a broken piece stand to the old ones -/
structure Barred (P Q : List Evt) (fx : Nat → Nat) : Prop where
  tkP : ∀ e ∈ P, 0 < tkE e
  tkQ : ∀ e ∈ Q, 0 < tkE e
  fin : fx P.length = Q.length
  le : ∀ i, i ≤ P.length → fx i ≤ Q.length
  tm : ∀ i, i ≤ P.length → tmN Q (fx i) = tmN P i
  pl : ∀ i (h : i < P.length), ∃ h2 : fx i < Q.length, eqBy plB P[i].stops Q[fx i].stops = true
theorem Barred.mono {P Q : List Evt} {fx : Nat → Nat} (h : Barred P Q fx) {i : Nat} (hi : i + 1 ≤ P.length) : fx i ≤ fx (i + 1) := by
  rcases Nat.lt_or_ge (fx (i + 1)) (fx i) with h1 | h1
  · have h2 := tmN_lt (fun e he => by have := h.tkQ e he; unfold tkn; omega) h1 (h.le i (by omega))
    have h3 := tmN_lt (P := P) (fun e he => by have := h.tkP e he; unfold tkn; omega) (show i < i + 1 by omega) hi
    rw [h.tm _ (by omega), h.tm _ (by omega)] at h2
    omega
  · exact h1
theorem brk_barred {p q : Pc} {bar : Int} (h : brkP p bar = .ok q) : (∃ fx, Barred (outE plnS sz p.evs) q.evs fx) ∧ 0 < bar ∧ bar ≤ 4608 ∧ ∀ i (h : i < (measures q).length), (measures q)[i].t ≤ bar ∧ (i + 1 < (measures q).length → (measures q)[i].t = bar) := by
  obtain ⟨hc, hb1, hb2, G, hG, hl, hbad, rfl⟩ := brk_ok h
  have htk := pln_tk hc
  have htn : ∀ e ∈ outE plnS sz p.evs, 0 < tkn e := fun e he => by have := htk e he; unfold tkn; omega
  have hg := brkL_grps (by omega) htk hG
  have hbs : Bsd bar.toNat 0 (brkO (fstL 0 G) 0 G) := bsd_brkO hg
  have hgl := grps_len hg
  have hlen : fxN G (outE plnS sz p.evs).length = (brkO (fstL 0 G) 0 G).length := by
    rw [brkO_len, ← hgl]
    unfold fxN
    rw [List.take_length]
  refine ⟨⟨fxN G, htk, bsd_tk hbs, hlen, fun i hi => ?_, fun i hi => (grps_at (F := fstL 0 G) (i := 0) hg htn i hi).1, fun i hi => ?_⟩, by omega, hb2, fun i hi => ?_⟩
  · show _ ≤ (brkO (fstL 0 G) 0 G).length
    rw [brkO_len]
    unfold fxN
    have h1 := congrArg (fun l : List (List Evt) => l.flatten.length) (List.take_append_drop i G)
    simp only [List.flatten_append, List.length_append] at h1
    omega
  · obtain ⟨h2, h3⟩ := (grps_at (F := fstL 0 G) (i := 0) hg htn i (by omega)).2 hi
    exact ⟨h2, eqBy_plc h3.symm⟩
  · have := minv_at (msr_bars (bar := bar.toNat) (by omega) _ [] 0 0 0 hbs (by simp) (.inl ⟨rfl, rfl⟩)) hi
    have hbb : ((bar.toNat : Nat) : Int) = bar := by omega
    rw [hbb] at this
    exact this
end Go.Ab.V

/-
  The strokes of a piece, and that no rewriting changes them. Plain Lean. No condition.
-/
namespace Go.Ab.V
open Go.Proofs

/-- course and fret -/
def plcs (l : List Stp) : List Int := l.flatMap fun s => [s.c, s.f]
/-- the chord of an event -/
def chd (f t : Int) (e : Evt) : List Int := if e.stops.length = 0 then [] else t * f :: (e.stops.length : Int) :: plcs e.stops
/-- the strokes of events whose signs are written -/
def stk (f t : Int) : List Evt → List Int
  | [] => [t * f]
  | e :: r => chd f t e ++ stk f (t + tkE e) r
def stk0 (f t : Int) : List Evt → List Int
  | [] => []
  | e :: r => chd f t e ++ stk0 f (t + tkE e) r
def smT : List Evt → Int
  | [] => 0
  | e :: r => tkE e + smT r
theorem stk_app (f : Int) : ∀ (l m : List Evt) (t : Int), stk f t (l ++ m) = stk0 f t l ++ stk f (t + smT l) m
  | [], m, t => by simp [stk0, smT]
  | e :: r, m, t => by
    rw [List.cons_append, stk, stk0, smT, stk_app f r, List.append_assoc, Int.add_assoc]
theorem stk0_app (f : Int) : ∀ (l m : List Evt) (t : Int), stk0 f t (l ++ m) = stk0 f t l ++ stk0 f (t + smT l) m
  | [], m, t => by simp [stk0, smT]
  | e :: r, m, t => by
    rw [List.cons_append, stk0, stk0, smT, stk0_app f r, List.append_assoc, Int.add_assoc]
theorem smT_app : ∀ (l m : List Evt), smT (l ++ m) = smT l + smT m
  | [], m => by simp [smT]
  | e :: r, m => by rw [List.cons_append, smT, smT, smT_app r, Int.add_assoc]

/-! ### written signs stay -/
/-! ### the rewritings -/
/-! ### Join -/
theorem stk0_snoc (f t : Int) (o : List Evt) (x : Evt) : stk0 f t (o ++ [x]) = stk0 f t o ++ chd f (t + smT o) x := by
  rw [stk0_app, stk0, stk0, List.append_nil]
theorem smT_snoc (o : List Evt) (x : Evt) : smT (o ++ [x]) = smT o + tkE x := by rw [smT_app, smT, smT, Int.add_zero]
theorem lastE_snoc (o : List Evt) (x : Evt) : lastE (o ++ [x]) = x := by
  unfold lastE
  simp
theorem set_snoc (o : List Evt) (x y : Evt) : (o ++ [x]).set ((o ++ [x]).length - 1) y = o ++ [y] := by
  simp
theorem tkE_bd (e : Evt) : 0 ≤ tkE e ∧ tkE e ≤ 576 := ticks_bd e.v e.d e.t
theorem jst1_stk (f : Int) {l : List Evt} {st : Jn} {e : Evt} (ht : e.tie = true → e.stops = []) (h1 : smT st.o = smT l) (h2 : stk0 f 0 st.o = stk0 f 0 l) :
    smT (jst1 st e).o = smT (l ++ [e]) ∧ stk0 f 0 (jst1 st e).o = stk0 f 0 (l ++ [e]) := by
  unfold jst1
  split
  · rename_i s hs
    have hp := mrg_pos hs
    have hr := sgOf_right hp.2.2
    rcases List.eq_nil_or_concat st.o with h0 | ⟨o, x, h0⟩
    · rw [h0] at hp; simp at hp
    · have hm := hp.1
      unfold mayJ at hm
      simp only [Bool.and_eq_true] at hm
      have hst := ht hm.1.2
      simp only
      rw [h0] at hr h1 h2 ⊢
      simp only [List.concat_eq_append] at hr h1 h2 ⊢
      rw [lastE_snoc] at hr
      rw [set_snoc, lastE_snoc]
      have bx := tkE_bd x
      have be := tkE_bd e
      rw [wrapI (by omega) (by omega)] at hr
      rw [smT_snoc] at h1
      rw [smT_snoc, smT_snoc, stk0_snoc, stk0_snoc, ← h1, ← h2, stk0_snoc]
      have e1 : tkE (withS x s) = s.tk := rfl
      have e2 : ∀ t, chd f t (withS x s) = chd f t x := fun t => rfl
      have e3 : ∀ t, chd f t e = [] := fun t => by unfold chd; rw [hst]; simp
      rw [e1, e2, e3, List.append_nil, hr.2.2]
      exact ⟨by omega, rfl⟩
  · simp only
    rw [smT_snoc, smT_snoc, stk0_snoc, stk0_snoc, h1, h2]
    exact ⟨rfl, rfl⟩
theorem jst_stk (f : Int) (l : List Evt) (h : ∀ e ∈ l, e.tie = true → e.stops = []) : ∀ k, k ≤ l.length → smT (jst (l.take k)).o = smT (l.take k) ∧ stk0 f 0 (jst (l.take k)).o = stk0 f 0 (l.take k)
  | 0, _ => by simp [jst, smT, stk0]
  | k + 1, hk => by
    have ih := jst_stk f l h k (by omega)
    rw [jst_take (by omega)]
    have := jst1_stk f (e := l[k]) (h _ (List.getElem_mem _)) ih.1 ih.2
    rw [List.take_add_one, List.getElem?_eq_getElem (by omega)]
    exact this
theorem tie_nil {p : Pc} (hc : chk p = 0) : ∀ e ∈ p.evs, e.tie = true → e.stops = [] := by
  intro e he ht
  obtain ⟨k, hk, rfl⟩ := List.getElem_of_mem he
  have := ((chk_suf.1 hc).2.2.1.at hk).ti
  cases hs : (p.evs[k]).stops with
  | nil => rfl
  | cons a r => exact absurd ⟨ht, by rw [hs]; simp⟩ this
/-! ### Break -/
/-! ### what the program writes down -/
end Go.Ab.V
