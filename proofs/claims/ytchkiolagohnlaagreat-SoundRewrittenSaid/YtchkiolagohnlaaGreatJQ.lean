/-
  What is proved here serves the law's text: each part says its own claim and its conditions. No condition is left open.
-/
import Derived.Test.YtchkiolagohnlaaGreatJP
set_option linter.unusedSimpArgs false
set_option linter.unusedVariables false

/-
  The program's Break. No condition but the machine's bounds on lengths.
-/
namespace Go.Ab.V
open Go.Proofs

theorem toB_eq {B x b : Nat} (h0 : 0 < B) (h1 : B ≤ 4608) (hx : x < b) (hb : b ≤ 2400000) : (if (if (false : Bool) = true then (b : Int) < IntKind.i64.wrap (IntKind.i64.wrap (IntKind.i64.wrap ((x : Int).tdiv B) + 1) * B) else IntKind.i64.wrap (IntKind.i64.wrap (IntKind.i64.wrap ((x : Int).tdiv B) + 1) * B) < (b : Int)) then IntKind.i64.wrap (IntKind.i64.wrap (IntKind.i64.wrap ((x : Int).tdiv B) + 1) * B) else (b : Int)) = (nxtB B x b : Nat) := by
  have hq : x / B ≤ x := Nat.div_le_self x B
  have e1 : (x : Int).tdiv B = ((x / B : Nat) : Int) := (Int.ofNat_tdiv x B).symm
  unfold nxtB
  obtain ⟨q, hqq⟩ : ∃ q, q = x / B := ⟨_, rfl⟩
  rw [← hqq] at hq e1 ⊢
  have e2 : IntKind.i64.wrap ((x : Int).tdiv B) = (q : Int) := by rw [e1]; exact wrapI (by omega) (by omega)
  have e3 : IntKind.i64.wrap (IntKind.i64.wrap ((x : Int).tdiv B) + 1) = ((q + 1 : Nat) : Int) := by rw [e2]; exact (wrapI (by omega) (by omega)).trans (by omega)
  have h9 : (q + 1) * B ≤ 2400001 * 4608 := Nat.mul_le_mul (by omega) h1
  obtain ⟨w, hw⟩ : ∃ w, w = (q + 1) * B := ⟨_, rfl⟩
  have e4 : IntKind.i64.wrap (IntKind.i64.wrap (IntKind.i64.wrap ((x : Int).tdiv B) + 1) * B) = (w : Int) := by
    rw [e3, ← Int.natCast_mul, ← hw]
    exact wrapI (by omega) (by omega)
  rw [← hw] at h9 ⊢
  rw [e4]
  simp only [Bool.false_eq_true, if_false]
  split <;> omega
def rowB (eps : Nat → Nat) : Option Nat → Evt → List AV
  | some i, e => rowJ eps i e
  | none, e => evX e .nils
def rowsB (eps : Nat → Nat) (g : List (Option Nat)) (o : List Evt) : List (List AV) := List.zipWith (rowB eps) g o
theorem rowsB_len {eps : Nat → Nat} {g : List (Option Nat)} {o : List Evt} (h : g.length = o.length) : (rowsB eps g o).length = o.length := by simp [rowsB, h]
theorem rowsB_snoc {eps : Nat → Nat} {g : List (Option Nat)} {o : List Evt} (h : g.length = o.length) (i : Option Nat) (e : Evt) : rowsB eps (g ++ [i]) (o ++ [e]) = rowsB eps g o ++ [rowB eps i e] := by
  unfold rowsB
  rw [List.zipWith_append h]
  rfl
def natR (c : Nat) : List AV := [.int .i64 c]
/-- the firsts so far -/
def fstR (n : Nat) (F : List Nat) : List (List AV) := (F ++ List.replicate (n - F.length) 0).map natR
theorem fstR_get {n : Nat} {F : List Nat} (h : F.length < n) : (fstR n F)[0 + ((F.length : Nat) : Int).toNat]? = some (natR 0) := by
  unfold fstR
  rw [Nat.zero_add, Int.toNat_natCast, List.getElem?_map, List.getElem?_append_right (Nat.le_refl _), Nat.sub_self, List.getElem?_replicate, if_pos (by omega)]
  rfl
theorem fstR_set {n : Nat} {F : List Nat} (h : F.length < n) (c : Nat) : (fstR n F).set (0 + ((F.length : Nat) : Int).toNat) [.int .i64 c] = fstR n (F ++ [c]) := by
  unfold fstR
  rw [Nat.zero_add, Int.toNat_natCast, List.length_append, List.length_singleton, show n - F.length = (n - (F.length + 1)) + 1 by omega, List.replicate_succ]
  simp only [List.map_append, List.append_assoc]
  rw [List.set_append_right _ _ (by simp)]
  simp [natR]

/-- the same, nil being a slice without elements -/
def rowC (eps : Nat → Nat) : Option Nat → Evt → List AV
  | some i, e => rowJ eps i e
  | none, e => evX e (.lslc 5 [] 0 0 false)
def rowsC (eps : Nat → Nat) (g : List (Option Nat)) (o : List Evt) : List (List AV) := List.zipWith (rowC eps) g o
theorem rowsC_get {eps : Nat → Nat} {g : List (Option Nat)} {o : List Evt} {k : Nat} {i : Option Nat} {e : Evt} (hk : o[k]? = some e) (hi : g[k]? = some i) : (rowsC eps g o)[0 + ((k : Nat) : Int).toNat]? = some (rowC eps i e) := by
  rw [Nat.zero_add, Int.toNat_natCast, rowsC, List.getElem?_zipWith, hi, hk]
theorem rowsB_nil (eps : Nat → Nat) : ∀ (g : List (Option Nat)) (o : List Evt), ((rowsB eps g o).map fun r => r.map (nilS 5)) = rowsC eps g o
  | [], _ => rfl
  | _ :: _, [] => rfl
  | i :: g, e :: o => by
    have := rowsB_nil eps g o
    show _ :: ((rowsB eps g o).map fun r => r.map (nilS 5)) = _ :: rowsC eps g o
    rw [this]
    cases i <;> rfl
theorem objsM_nil (eps : Nat → Nat) : ∀ (l : List Evt) (i : Nat), (objsD memL eps i l).map (AObj.mapc (nilS 5)) = objsD memL eps i l
  | [], _ => rfl
  | e :: r, i => by
    have h2 : ∀ l : List Stp, ((l.map stR).map fun r => r.map (nilS 5)) = l.map stR := by
      intro l
      rw [List.map_map]
      exact List.map_congr_left fun x _ => rfl
    show AObj.vec (eps i) ((e.stops.map stR).map fun r => r.map (nilS 5)) :: (objsD memL eps (i + 1) r).map (AObj.mapc (nilS 5)) = _
    rw [h2, objsM_nil eps r (i + 1)]
    rfl
theorem rowsM_nil (eps : Nat → Nat) (B : Nat) : ∀ (l : List Evt) (i : Nat), ((rowsD memL B eps i l).map fun r => r.map (nilS 5)) = rowsD memL B eps i l
  | [], _ => rfl
  | e :: r, i => by
    show _ :: ((rowsD memL B eps (i + 1) r).map fun r => r.map (nilS 5)) = _ :: rowsD memL B eps (i + 1) r
    rw [rowsM_nil eps B r (i + 1)]
    rfl
theorem fstR_nil (n : Nat) (F : List Nat) : ((fstR n F).map fun r => r.map (nilS 5)) = fstR n F := by
  unfold fstR
  rw [List.map_map]
  exact List.map_congr_left fun x _ => rfl
theorem fstR_at {n : Nat} {F : List Nat} {i : Nat} (hF : F.length = n) (h : i < n) : (fstR n F)[0 + ((i : Nat) : Int).toNat]? = some [.int .i64 (F.getD i 0 : Nat)] := by
  unfold fstR
  rw [Nat.zero_add, Int.toNat_natCast, hF, Nat.sub_self, List.replicate_zero, List.append_nil, List.getElem?_map, List.getD_eq_getElem?_getD, List.getElem?_eq_getElem (by omega)]
  rfl
/-- where a group begins -/
theorem grp_at {B : Nat} (hB : 0 < B) : ∀ {l : List Evt} {a : Nat} {G : List (List Evt)} {s c : Nat}, brkL B a l = some G → (∀ e ∈ l, 0 < tkn e) → ∀ i (h : i < l.length), ∃ k f, (fstL c G)[i]? = some (c + k) ∧ (srcL s G)[k]? = some (some (s + i)) ∧ G.flatten[k]? = some f ∧ f.stops = l[i].stops
  | [], _, _, _, _, _, _, i, h => by simp at h
  | e :: r, a, G, s, c, hG, ht, i, h => by
    simp only [brkL] at hG
    split at hG
    · cases hG
    · rename_i m hm
      rw [Option.map_eq_some_iff] at hG
      obtain ⟨G', hG', rfl⟩ := hG
      obtain ⟨g1, g2, g3⟩ := brkE_ok hB (ht e (List.mem_cons_self ..)) hm s
      cases i with
      | zero =>
        match m, g1, g2 with
        | f :: m, _, g2 => exact ⟨0, f, rfl, rfl, rfl, g2 (by simp)⟩
      | succ i =>
        obtain ⟨k, f, h1, h2, h3, h4⟩ := grp_at hB (s := s + 1) (c := c + m.length) hG' (fun x hx => ht x (List.mem_cons_of_mem _ hx)) i (by simpa using h)
        refine ⟨m.length + k, f, ?_, ?_, ?_, ?_⟩
        · simp only [fstL, List.getElem?_cons_succ]
          rw [h1, Nat.add_assoc]
        · simp only [srcL]
          rw [List.getElem?_append_right (by rw [srcG_len]; omega), srcG_len, Nat.add_sub_cancel_left, h2, show s + 1 + i = s + (i + 1) by omega]
        · simp only [List.flatten_cons]
          rw [List.getElem?_append_right (by omega), Nat.add_sub_cancel_left, h3]
        · simpa using h4
theorem rowsC_tail {eps : Nat → Nat} {X : List AObj} : ∀ t : List Evt, (∀ x ∈ t, x.stops = []) → ((rowsC eps (t.map fun _ => none) t).map fun r => r.map (fzC2 X)) = t.map evR
  | [], _ => rfl
  | x :: t, ht => by
    have hx := ht x (List.mem_cons_self ..)
    have := rowsC_tail (eps := eps) (X := X) t fun y hy => ht y (List.mem_cons_of_mem _ hy)
    show (evX x (.lslc 5 [] 0 0 false)).map (fzC2 X) :: ((rowsC eps (t.map fun _ => none) t).map fun r => r.map (fzC2 X)) = evR x :: t.map evR
    rw [this]
    congr 1
    unfold evR
    rw [hx]
    rfl
theorem rowsC_fz {B : Nat} (hB : 0 < B) {eps : Nat → Nat} {X : List AObj} {F : List Nat} : ∀ {l : List Evt} {a : Nat} {G : List (List Evt)} {s : Nat}, brkL B a l = some G → (∀ e ∈ l, 0 < tkn e) →
    (∀ i (h : i < l.length), X[0 + memL.c * (0 + (s + i))]? = some (.vec (eps (0 + (s + i))) ((l[i].stops.map (holdB F (s + i))).map stR))) → ((rowsC eps (srcL s G) G.flatten).map fun r => r.map (fzC2 X)) = (brkO F s G).map evR
  | [], _, G, _, hG, _, _ => by simp only [brkL, Option.some.injEq] at hG; subst hG; rfl
  | e :: r, a, G, s, hG, ht, hX => by
    simp only [brkL] at hG
    split at hG
    · cases hG
    · rename_i m hm
      rw [Option.map_eq_some_iff] at hG
      obtain ⟨G', hG', rfl⟩ := hG
      obtain ⟨g1, g2, g3⟩ := brkE_ok hB (ht e (List.mem_cons_self ..)) hm s
      have ih := rowsC_fz hB (eps := eps) (X := X) (F := F) (s := s + 1) hG' (fun x hx => ht x (List.mem_cons_of_mem _ hx)) fun i h => by
        have := hX (i + 1) (by simpa using h)
        rw [show s + (i + 1) = s + 1 + i by omega] at this
        simpa using this
      simp only [srcL, List.flatten_cons, brkO]
      have e1 : rowsC eps (srcG s m ++ srcL (s + 1) G') (m ++ G'.flatten) = rowsC eps (srcG s m) m ++ rowsC eps (srcL (s + 1) G') G'.flatten := List.zipWith_append (srcG_len s m)
      rw [e1, List.map_append, ih, List.map_append]
      congr 1
      match m, g1, g2, g3 with
      | f :: t, _, g2, g3 =>
        have hf : f.stops = e.stops := g2 (by simp)
        have ht : ∀ x ∈ t, x.stops = [] := by
          intro x hx
          obtain ⟨j, hj, rfl⟩ := List.getElem_of_mem hx
          have := g3 (j + 1) (by simp; omega) (by omega)
          simpa using this
        have h0 := hX 0 (by simp)
        rw [Nat.add_zero] at h0
        simp only [List.getElem_cons_zero] at h0
        have k1 : (rowJ eps s f).map (fzC2 X) = evR (evB F s f) := by
          have := evX_fz (eps := eps) (X := X) (i := s) (e := f) (ss := e.stops.map (holdB F s)) (by rw [List.length_map, hf]) h0
          rw [this, evB, hf]
        have k2 := rowsC_tail (eps := eps) (X := X) t ht
        show (rowJ eps s f).map (fzC2 X) :: ((rowsC eps (t.map fun _ => none) t).map fun r => r.map (fzC2 X)) = evR (evB F s f) :: t.map evR
        rw [k1, k2]
theorem eqsP_rowsC {n ep : Nat} (eps : Nat → Nat) : ∀ (g : List (Option Nat)) (o : List Evt), eqsP n ep (rowsC eps g o).flatten
  | [], _ => trivial
  | _ :: _, [] => trivial
  | none :: g, e :: o => eqsP_rowsC eps g o
  | some i :: g, e :: o => eqsP_rowsC eps g o
theorem rowsC_mc {n len ep : Nat} (eps : Nat → Nat) : ∀ (g : List (Option Nat)) (o : List Evt), ((rowsC eps g o).map fun r => r.map (mcS n len ep)) = rowsC eps g o
  | [], _ => rfl
  | _ :: _, [] => rfl
  | i :: g, e :: o => by
    have := rowsC_mc (n := n) (len := len) (ep := ep) eps g o
    show _ :: ((rowsC eps g o).map fun r => r.map (mcS n len ep)) = _ :: rowsC eps g o
    rw [this]
    cases i <;> rfl
/-- the end of a function that hands back an error -/
theorem end_errM {P M : List Evt} {eps : Nat → Nat} {epQ m : Nat} {c : Int} {D st : List AObj} (hm : M.length = m) (hP : P.length = m) (hD : D = objsD memL eps 0 M ++ [.vec epQ (rowsD memL 0 eps 0 P)]) :
    m ≤ D.length ∧ (∀ o ∈ D.take m, pureObj o) ∧ (fun v h' => frzD h' v fun v h' => frzK h' v fun r' _ => r'.isPure2 = true ∧ r' = .tup [zeroA, .int .i64 c])
      (fzV2 (D.take m) (.tup [zeroA, .int .i64 c])) ⟨st.map (AObj.fz2 (D.take m)), List.replicate m .hole ++ (D.drop m).map (AObj.fz2 (D.take m))⟩ := by
  have hX : (objsD memL eps 0 M).length = m := by rw [objsD_len, hm]; exact Nat.one_mul _
  obtain ⟨X, hXX⟩ : ∃ X, X = objsD memL eps 0 M := ⟨_, rfl⟩
  have hp := objsM_pure (eps := eps) M 0
  have hY : pureObj ((AObj.vec epQ (rowsD memL 0 eps 0 P)).fz2 X) := by
    refine rowsM_fzP P 0 fun k hk => ?_
    have := objG (eps := eps) (X := []) (l := M) (k := k) (by omega) rfl
    rw [List.append_nil, ← hXX] at this
    exact ⟨_, this⟩
  rw [← hXX] at hX hD hp
  subst hX
  have e0 : D.take X.length = X := by rw [hD, List.take_left]
  have e9 : D.drop X.length = [.vec epQ (rowsD memL 0 eps 0 P)] := by rw [hD, List.drop_left]
  rw [e0, e9]
  refine ⟨by rw [hD]; simp, hp, ?_⟩
  show frzD _ _ _
  refine ⟨fun o ho => ?_, ?_⟩
  · rcases List.mem_append.1 ho with ho | ho
    · obtain ⟨_, rfl⟩ := List.mem_replicate.1 ho
      trivial
    · obtain rfl := List.mem_singleton.1 ho
      exact hY
  · exact frzK_pure rfl ⟨rfl, rfl⟩
theorem any_at {f : Stp → Bool} {l : List Stp} {k : Nat} (h : k < l.length) (hf : f l[k] = true) : l.any f = true := List.any_eq_true.2 ⟨_, List.getElem_mem h, hf⟩
theorem any_step {f : Stp → Bool} {l : List Stp} {k : Nat} (h : k < l.length) (h1 : (l.take k).any f = false) (h2 : f l[k] = false) : (l.take (k + 1)).any f = false := by
  rw [List.take_add_one, List.getElem?_eq_getElem h, List.any_append, h1]
  simp [h2]
theorem fstL_le : ∀ (c : Nat) (G : List (List Evt)) (i : Nat), (fstL c G).getD i 0 ≤ c + G.flatten.length
  | _, [], i => by simp [fstL]
  | c, g :: G, 0 => by simp [fstL]
  | c, g :: G, i + 1 => by
    have := fstL_le (c + g.length) G i
    simp only [fstL, List.getD_cons_succ, List.flatten_cons, List.length_append]
    omega
def brkM (F : List Nat) (P : List Evt) : List Evt := P.mapIdx (evB F)
theorem brkM_len (F : List Nat) (P : List Evt) : (brkM F P).length = P.length := by simp [brkM]

def A63m : Ann := fun r => match r with
  | 0 => { slots := [(0, 0)] }
  | _ => {}
set_option maxHeartbeats 2000000 in
set_option maxRecDepth 100000 in
theorem rest_mem (e : Evt) (id : Id) (ep : Nat) (dy : List AObj) : ACalls C.P 34 [.agg (evX e (.oslc id ep 5 0 e.stops.length false))] ⟨[], dy⟩ fun r h' => r = .bool (restE e) ∧ padTo 0 h'.st = [] ∧ h'.dy = dy := by
  unfold restE
  by_cases hl : e.stops.length = 0
  · have h1 : (!e.tie) = (decide (e.stops.length = 0) && !e.tie) := by simp [hl]
    refine fn_of ok mixed (A := A63m) 1 Tryz.func34 rfl ?_
    (repeat' (first | exact rfl | ((conv => whnf); first | exact ⟨congrArg AV.bool h1, rfl, rfl⟩ | exact rfl | refine ⟨by kernel_rfl, ?_⟩ | exact ⟨rfl, rfl⟩ | refine ⟨rfl, ?_⟩ | refine ⟨by (first | omega | (simp (disch := omega) only [wrapI]; omega) | (simp (disch := omega) only [wrapI]; simp; omega) | (simp; omega)), ?_⟩ | (intro ep) | (refine ifB (fun hb => ?_) (fun hb => ?_) <;> (try (exfalso; first | (revert hb; simp only [beq_iff_eq, bne_iff_ne, beq_eq_false_iff_ne, bne_eq_false_iff_eq, decide_eq_true_eq, decide_eq_false_iff_not, ne_eq]; omega)))) | fail)))
  · have h1 : false = (decide (e.stops.length = 0) && !e.tie) := by simp [hl]
    refine fn_of ok mixed (A := A63m) 1 Tryz.func34 rfl ?_
    (repeat' (first | exact rfl | ((conv => whnf); first | exact ⟨congrArg AV.bool h1, rfl, rfl⟩ | exact rfl | refine ⟨by kernel_rfl, ?_⟩ | exact ⟨rfl, rfl⟩ | refine ⟨rfl, ?_⟩ | refine ⟨by (first | omega | (simp (disch := omega) only [wrapI]; omega) | (simp (disch := omega) only [wrapI]; simp; omega) | (simp; omega)), ?_⟩ | (intro ep) | (refine ifB (fun hb => ?_) (fun hb => ?_) <;> (try (exfalso; first | (revert hb; simp only [beq_iff_eq, bne_iff_ne, beq_eq_false_iff_ne, bne_eq_false_iff_eq, decide_eq_true_eq, decide_eq_false_iff_not, ne_eq]; omega)))) | fail)))

def A13 : Ann := fun r => match r with
  | 0 => { slots := [(0, 0), (1, 1)] }
  | 6 => { slots := [(3, 2)] }
  | 7 => { slots := [(3, 3)] }
  | 11 => { slots := [(3, 4)] }
  | 17 => { slots := [(2, 5)], frz := [15] }
  | 24 => { slots := [(3, 6)] }
  | 25 => { slots := [(14, 7)] }
  | 27 => { plan := some (.one 0 (.one 2 (.one 1 (.one 4 (.br 3 5 (.one 5 (.one 6 (.one 7 .done))) (.one 3 (.one 6 (.one 7 .done)))))))) }
  | 29 => { slots := [(3, 8), (4, 9)] }
  | 49 => { mv := [1009] }
  | _ => {}
set_option maxHeartbeats 8000000 in
set_option maxRecDepth 100000 in
theorem break_spec (p : Pc) (hp : p.Ok) (hs : p.Sm) (bar : Int) : PRet C.P 13 [pcA p, .int .i64 bar] (pcE (brkP p bar)) := by
  have hle := hs.ev
  unfold brkP
  by_cases hc : chk p = 0
  · rw [if_neg (fun h => h hc)]
    have f1 := plain_mem p hp hs hc
    obtain ⟨P, hP⟩ : ∃ P, P = plnE p := ⟨_, rfl⟩
    have hQP : outE plnS sz p.evs = P := by rw [hP]; rfl
    have hPl : P.length = p.evs.length := by rw [← hQP, outE_len]
    have hPb : P.map body = p.evs.map body := by rw [← hQP, pln_body]
    rw [hQP]
    rw [← hP] at f1
    by_cases hbr : bar < 1 ∨ 4608 < bar
    · rw [if_pos hbr]
      have f0 := plain_spec p hp hs
      unfold plnP at f0
      rw [if_neg (fun h => h hc), hQP] at f0
      refine pretD_of ok mixed (A := A13) 10 Tryz.func13 rfl ?_
      (repeat' (first | exact rfl | ((conv => whnf); first | refine ⟨_, f0, ?_⟩ | exact rfl | refine ⟨by kernel_rfl, ?_⟩ | exact ⟨rfl, rfl⟩ | refine ⟨rfl, ?_⟩ | refine ⟨by (first | omega | (simp (disch := omega) only [wrapI]; omega) | (simp (disch := omega) only [wrapI]; simp; omega) | (simp; omega)), ?_⟩ | (intro ep) | refine ⟨fun o ho => (List.not_mem_nil (a := o) ho).elim, ?_⟩ | (refine ifB (fun hb => ?_) (fun hb => ?_) <;> (try simp only [decide_eq_true_eq, decide_eq_false_iff_not, beq_iff_eq, beq_eq_false_iff_ne, bne_iff_ne, bne_eq_false_iff_eq, ne_eq, not_false_eq_true, not_true_eq_false, Bool.not_eq_true, Bool.not_eq_true', Bool.not_eq_false', Int.not_lt, Int.not_le] at hb) <;> (try simp (disch := omega) only [wrapI] at hb) <;> (try (exfalso; omega))) | fail)))
    rw [if_neg hbr]
    obtain ⟨B, rfl⟩ : ∃ B : Nat, bar = B := ⟨bar.toNat, by omega⟩
    rw [Int.toNat_natCast]
    have hB0 : 0 < B := by omega
    have hB1 : B ≤ 4608 := by omega
    have hPs : ∀ e ∈ P, e.stops.length ≤ 4000 := by
      intro e he
      have : body e ∈ p.evs.map body := by rw [← hPb]; exact List.mem_map_of_mem he
      obtain ⟨e', h1, h2⟩ := List.mem_map.1 this
      have := hs.sp e' h1
      simp only [body, Prod.mk.injEq] at h2
      rw [← h2.2]; exact this
    have hPt : ∀ e ∈ P, 0 < tkE e ∧ tkE e ≤ 576 := by
      intro e he
      refine ⟨?_, (ticks_bd e.v e.d e.t).2⟩
      rw [← hQP, outE_pln] at he
      obtain ⟨i, hi, rfl⟩ := List.getElem_of_mem he
      have hil : i < p.evs.length := by simpa [nfs_len] using hi
      have hin : i < (nfs sz p.evs).length := by rw [nfs_len]; exact hil
      have := nfs_tk p.evs sz right_z (chk_right hc) (fun _ => chk_first hc) _ (List.getElem_mem hin)
      simp only [List.getElem_zipWith]
      exact this
    refine pretM_of (okx [9] [34]) mixed (A := A13) 10 P.length Tryz.func13 rfl ?_
    (conv => whnf)
    intro e0
    (conv => whnf)
    intro e1
    (repeat' ((conv => whnf); first | refine ⟨rfl, ?_⟩ | refine ⟨by decide, ?_⟩ | refine ⟨_, _, f1, fun eps => ?_⟩ | exact rfl | refine ⟨by kernel_rfl, ?_⟩ | exact ⟨rfl, rfl⟩ | refine ⟨rfl, ?_⟩ | refine ⟨by (first | omega | (simp (disch := omega) only [wrapI]; omega) | (simp (disch := omega) only [wrapI]; simp; omega) | (simp; omega)), ?_⟩ | (intro ep) | (refine ifB (fun hb => ?_) (fun hb => ?_) <;> (try (exfalso; first | (revert hb; simp only [beq_iff_eq, bne_iff_ne, beq_eq_false_iff_ne, bne_eq_false_iff_eq, decide_eq_true_eq, decide_eq_false_iff_not, ne_eq]; omega)))) | fail))
    rename_i e2
    obtain ⟨e3, he3⟩ : ∃ e3, e3 = ep := ⟨_, rfl⟩
    subst he3
    (conv => whnf)
    refine wk_liftC 2 9 e2 6 0 2 (by decide) rfl rfl rfl ?_
    intro eA
    obtain ⟨R, hR⟩ : ∃ R, R = brkQ p.ins P B := ⟨_, rfl⟩
    rw [← hR]
    unfold brkQ at hR
    obtain ⟨T, hT⟩ : ∃ T, T = brkL B 0 P := ⟨_, rfl⟩
    rw [← hT] at hR
    refine loopY (okx [9] [34]) mixed (A := A13) [1, 2, 4, 7, 8, 9, 46, 47, 48] [0, 1, 2, 3, 9] (S := { s : Nat × List (List Evt) × Nat // s.2.1.length ≤ P.length ∧ s.1 ≤ 576 * s.2.1.length ∧ s.2.1.flatten.length ≤ 576 * s.2.1.length ∧ T = (brkL B s.1 (P.drop s.2.1.length)).map (s.2.1 ++ ·) })
      (fr := fun s => frOf 0 205 [(1, .int .i64 (B : Int)), (2, .optr (.s 0) e0 3 0 0), (4, .optr (.s 1) e1 3 0 0), (7, .optr (.s 2) e2 3 0 0), (8, .oslc (.s 3) e3 1 0 P.length false), (9, .int .i64 (s.1.1 : Int)), (46, .oslc (.d (0 + memL.c * P.length)) (eps P.length) 6 0 P.length false), (47, .int .i64 P.length), (48, .int .i64 (s.1.2.1.length : Int))])
      (h := fun s => ⟨[.vec e0 [[crsA p.ins.cs, intsA p.ins.steps, (.oslc (.d (0 + memL.c * P.length)) (eps P.length) 6 0 P.length false)]], .vec e1 [[.nils, .nils, .nils]], .vec e2 [[crsA p.ins.cs, intsA p.ins.steps, .oslc (.s 9) s.1.2.2 6 0 (s.1.2.1.flatten).length false]], .vec e3 (fstR P.length (fstL 0 s.1.2.1)), .hole, .hole, .hole, .hole, .hole, .vec s.1.2.2 (rowsB eps (srcL 0 s.1.2.1) (s.1.2.1.flatten))], objsD memL eps 0 P ++ [.vec (eps P.length) (rowsD memL 0 eps 0 P)]⟩) (μ := fun s => P.length - s.1.2.1.length) ⟨(0, [], eA), Nat.zero_le _, Nat.zero_le _, Nat.zero_le _, by simp [hT]⟩ (by exact rfl) ?_ [2, 4, 7, 8] [0, 1, 2, 3, 9] (S' := { s : List (List Evt) × Nat // T = some s.1 }) (fun _ => 0) (fun s => frOf 0 205 [(2, .optr (.s 0) e0 3 0 0), (4, .optr (.s 1) e1 3 0 0), (7, .optr (.s 2) e2 3 0 0), (8, .oslc (.s 3) e3 1 0 P.length false)])
      (fun s => ⟨[.vec e0 [[crsA p.ins.cs, intsA p.ins.steps, (.oslc (.d (0 + memL.c * P.length)) (eps P.length) 6 0 P.length false)]], .vec e1 [[.nils, .nils, .nils]], .vec e2 [[crsA p.ins.cs, intsA p.ins.steps, .oslc (.s 9) s.1.2 6 0 (s.1.1.flatten).length false]], .vec e3 (fstR P.length (fstL 0 s.1.1)), .hole, .hole, .hole, .hole, .hole, .vec s.1.2 (rowsB eps (srcL 0 s.1.1) (s.1.1.flatten))], objsD memL eps 0 P ++ [.vec (eps P.length) (rowsD memL 0 eps 0 P)]⟩) [4, 5] [1] (S2 := { u : Unit // T = none }) (fun _ => frOf 0 205 [(4, .optr (.s 1) e1 3 0 0), (5, .int .i64 25)]) (fun _ => ⟨[.hole, .vec e1 [[.nils, .nils, .nils]], .hole, .hole, .hole, .hole, .hole, .hole, .hole, .hole], objsD memL eps 0 P ++ [.vec (eps P.length) (rowsD memL 0 eps 0 P)]⟩) ?_ ?_ ?_
    · show (⟨_, _⟩ : Heap) = ⟨[_, _, _, .vec e3 (([] ++ List.replicate (P.length - 0) 0).map natR), _, _, _, _, _, _], _⟩
      rw [List.nil_append, List.map_replicate]
      exact rfl
    · rintro ⟨⟨a, G, epo⟩, hi1, hi2, hi3, hi4⟩
      simp only at hi1 hi2 hi3 hi4
      obtain ⟨i, hi⟩ : ∃ i, i = G.length := ⟨_, rfl⟩
      show aexR _ _ _ (frOf 0 205 [(1, .int .i64 (B : Int)), (2, .optr (.s 0) e0 3 0 0), (4, .optr (.s 1) e1 3 0 0), (7, .optr (.s 2) e2 3 0 0), (8, .oslc (.s 3) e3 1 0 P.length false), (9, .int .i64 (a : Int)), (46, .oslc (.d (0 + memL.c * P.length)) (eps P.length) 6 0 P.length false), (47, .int .i64 P.length), (48, .int .i64 (G.length : Int))]) ⟨[.vec e0 [[crsA p.ins.cs, intsA p.ins.steps, (.oslc (.d (0 + memL.c * P.length)) (eps P.length) 6 0 P.length false)]], .vec e1 [[.nils, .nils, .nils]], .vec e2 [[crsA p.ins.cs, intsA p.ins.steps, .oslc (.s 9) epo 6 0 (G.flatten).length false]], .vec e3 (fstR P.length (fstL 0 G)), .hole, .hole, .hole, .hole, .hole, .vec epo (rowsB eps (srcL 0 G) (G.flatten))], objsD memL eps 0 P ++ [.vec (eps P.length) (rowsD memL 0 eps 0 P)]⟩ _
      rw [← hi] at hi1 hi2 hi3 hi4 ⊢
      (conv => whnf)
      refine ifB (fun g1 => ?_) (fun g1 => ?_)
      · simp only [decide_eq_true_eq] at g1
        have hlt : i < P.length := by omega
        have hpr := rowG (B := 0) (eps := eps) hlt
        obtain ⟨e, he⟩ : ∃ e, e = P[i] := ⟨_, rfl⟩
        have heP : e ∈ P := he ▸ List.getElem_mem hlt
        rw [← he] at hpr
        obtain ⟨ht1, ht2⟩ := hPt e heP
        have hsl := hPs e heP
        have htn : ((tkn e : Nat) : Int) = tkE e := by unfold tkn; omega
        have htk := ticks_spec e.v e.d e.t
        obtain ⟨b, hb⟩ : ∃ b, b = a + tkn e := ⟨_, rfl⟩
        have hab : a < b := by omega
        have hbb : b ≤ a + 576 := by omega
        have hW : Hid (IntKind.i64.wrap ((a : Int) + tkE e) = (b : Int)) := by show _ = _; rw [wrapI (by omega) (by omega)]; omega
        have hlast := objL (eps := eps) (o := AObj.vec (eps P.length) (rowsD memL 0 eps 0 P)) (l := P) rfl
        have hdr : P.drop i = e :: P.drop (i + 1) := by rw [he]; exact List.drop_eq_getElem_cons hlt
        rw [hdr] at hi4
        simp only [brkL] at hi4
        have hF := fstR_set (n := P.length) (F := fstL 0 G) (by rw [fstL_len]; omega) G.flatten.length
        have hFg := fstR_get (n := P.length) (F := fstL 0 G) (by rw [fstL_len]; omega)
        rw [fstL_len, ← hi] at hF hFg
        obtain ⟨E, hE⟩ : ∃ E, E = brkE B e a := ⟨_, rfl⟩
        rw [← hE] at hi4
        unfold brkE at hE
        rw [← hb] at hE
        (repeat' (first | exact rfl | ((conv => whnf); first | refine optO hlast ?_ | refine optS hpr ?_ | refine ⟨_, htk, ?_⟩ | refine optS hFg ?_ | exact rfl | refine ⟨by kernel_rfl, ?_⟩ | exact ⟨rfl, rfl⟩ | refine ⟨rfl, ?_⟩ | refine ⟨by (first | omega | (simp (disch := omega) only [wrapI]; omega) | (simp (disch := omega) only [wrapI]; simp; omega) | (simp; omega)), ?_⟩ | (intro ep) | fail)))
        obtain ⟨e4, he4⟩ : ∃ e4, e4 = ep := ⟨_, rfl⟩
        subst he4
        (conv => whnf)
        refine loopY (okx [9] [34]) mixed (A := A13) [1, 2, 4, 7, 8, 9, 11, 12, 13, 46, 47, 48] [0, 1, 2, 3, 4, 9] (S := { s : Nat × List Evt × Nat // a ≤ s.1 ∧ s.1 ≤ b ∧ s.2.1.length ≤ s.1 - a ∧ (s.2.1 = [] ↔ s.1 = a) ∧ E = (brkF B e a b s.1).map (s.2.1 ++ ·) })
          (fr := fun s => frOf 0 205 [(1, .int .i64 (B : Int)), (2, .optr (.s 0) e0 3 0 0), (4, .optr (.s 1) e1 3 0 0), (7, .optr (.s 2) e2 3 0 0), (8, .oslc (.s 3) e3 1 0 P.length false), (9, .int .i64 (a : Int)), (11, .optr (.s 4) e4 6 0 0), (12, .int .i64 (b : Int)), (13, .int .i64 (s.1.1 : Int)), (46, .oslc (.d (0 + memL.c * P.length)) (eps P.length) 6 0 P.length false), (47, .int .i64 P.length), (48, .int .i64 (i : Int))])
          (h := fun s => ⟨[.vec e0 [[crsA p.ins.cs, intsA p.ins.steps, (.oslc (.d (0 + memL.c * P.length)) (eps P.length) 6 0 P.length false)]], .vec e1 [[.nils, .nils, .nils]], .vec e2 [[crsA p.ins.cs, intsA p.ins.steps, .oslc (.s 9) s.1.2.2 6 0 (G.flatten ++ s.1.2.1).length false]], .vec e3 (fstR P.length (fstL 0 G ++ [G.flatten.length])), .vec e4 [rowJ eps i e], .hole, .hole, .hole, .hole, .vec s.1.2.2 (rowsB eps (srcL 0 G ++ srcG i s.1.2.1) (G.flatten ++ s.1.2.1))], objsD memL eps 0 P ++ [.vec (eps P.length) (rowsD memL 0 eps 0 P)]⟩) (μ := fun s => b - s.1.1) ⟨(a, [], epo), Nat.le_refl _, by omega, Nat.zero_le _, by simp, by rw [hE]; simp⟩ (by rw [← hW.get]; exact rfl) ?_ [1, 2, 4, 7, 8, 9, 12, 46, 47, 48] [0, 1, 2, 3, 9] (S' := { s : List Evt × Nat // E = some s.1 ∧ s.1.length ≤ b - a }) (fun _ => 2) (fun s => frOf 0 205 [(1, .int .i64 (B : Int)), (2, .optr (.s 0) e0 3 0 0), (4, .optr (.s 1) e1 3 0 0), (7, .optr (.s 2) e2 3 0 0), (8, .oslc (.s 3) e3 1 0 P.length false), (9, .int .i64 (a : Int)), (12, .int .i64 (b : Int)), (46, .oslc (.d (0 + memL.c * P.length)) (eps P.length) 6 0 P.length false), (47, .int .i64 P.length), (48, .int .i64 (i : Int))])
          (fun s => ⟨[.vec e0 [[crsA p.ins.cs, intsA p.ins.steps, (.oslc (.d (0 + memL.c * P.length)) (eps P.length) 6 0 P.length false)]], .vec e1 [[.nils, .nils, .nils]], .vec e2 [[crsA p.ins.cs, intsA p.ins.steps, .oslc (.s 9) s.1.2 6 0 (G.flatten ++ s.1.1).length false]], .vec e3 (fstR P.length (fstL 0 G ++ [G.flatten.length])), .hole, .hole, .hole, .hole, .hole, .vec s.1.2 (rowsB eps (srcL 0 G ++ srcG i s.1.1) (G.flatten ++ s.1.1))], objsD memL eps 0 P ++ [.vec (eps P.length) (rowsD memL 0 eps 0 P)]⟩) [4, 5] [1] (S2 := { u : Unit // E = none }) (fun _ => frOf 0 205 [(4, .optr (.s 1) e1 3 0 0), (5, .int .i64 25)]) (fun _ => ⟨[.hole, .vec e1 [[.nils, .nils, .nils]], .hole, .hole, .hole, .hole, .hole, .hole, .hole, .hole], objsD memL eps 0 P ++ [.vec (eps P.length) (rowsD memL 0 eps 0 P)]⟩) ?_ ?_ ?_
        · show (⟨_, _⟩ : Heap) = _
          rw [← hF, List.append_nil]
          show _ = (⟨[_, _, _, _, _, _, _, _, _, .vec epo (rowsB eps (srcL 0 G ++ []) G.flatten)], _⟩ : Heap)
          rw [List.append_nil]
          exact rfl
        · rintro ⟨⟨x, m, epx⟩, h1, h2, h3, h4, h5⟩
          simp only at h1 h2 h3 h4 h5
          show aexR _ _ _ (frOf 0 205 [(1, .int .i64 (B : Int)), (2, .optr (.s 0) e0 3 0 0), (4, .optr (.s 1) e1 3 0 0), (7, .optr (.s 2) e2 3 0 0), (8, .oslc (.s 3) e3 1 0 P.length false), (9, .int .i64 (a : Int)), (11, .optr (.s 4) e4 6 0 0), (12, .int .i64 (b : Int)), (13, .int .i64 (x : Int)), (46, .oslc (.d (0 + memL.c * P.length)) (eps P.length) 6 0 P.length false), (47, .int .i64 P.length), (48, .int .i64 (i : Int))]) ⟨[.vec e0 [[crsA p.ins.cs, intsA p.ins.steps, (.oslc (.d (0 + memL.c * P.length)) (eps P.length) 6 0 P.length false)]], .vec e1 [[.nils, .nils, .nils]], .vec e2 [[crsA p.ins.cs, intsA p.ins.steps, .oslc (.s 9) epx 6 0 (G.flatten ++ m).length false]], .vec e3 (fstR P.length (fstL 0 G ++ [G.flatten.length])), .vec e4 [rowJ eps i e], .hole, .hole, .hole, .hole, .vec epx (rowsB eps (srcL 0 G ++ srcG i m) (G.flatten ++ m))], objsD memL eps 0 P ++ [.vec (eps P.length) (rowsD memL 0 eps 0 P)]⟩ _
          (repeat' (first | exact rfl | ((conv => whnf); first | exact rfl | refine ⟨by kernel_rfl, ?_⟩ | exact ⟨rfl, rfl⟩ | refine ⟨rfl, ?_⟩ | refine ⟨by (first | omega | (simp (disch := omega) only [wrapI]; omega) | (simp (disch := omega) only [wrapI]; simp; omega) | (simp; omega)), ?_⟩ | (intro ep) | fail)))
          (conv => whnf)
          refine ifB (fun g2 => ?_) (fun g2 => ?_)
          · simp only [decide_eq_true_eq] at g2
            have hxb : x < b := by omega
            obtain ⟨y, hy⟩ : ∃ y, y = nxtB B x b := ⟨_, rfl⟩
            have hy1 := nxtB_gt hB0 hxb
            have hy2 := nxtB_bar (a := x) (b := b) hB0
            rw [← hy] at hy1 hy2
            have hto : Hid ((if (if (false : Bool) = true then (b : Int) < IntKind.i64.wrap (IntKind.i64.wrap (IntKind.i64.wrap ((x : Int).tdiv B) + 1) * B) else IntKind.i64.wrap (IntKind.i64.wrap (IntKind.i64.wrap ((x : Int).tdiv B) + 1) * B) < (b : Int)) then IntKind.i64.wrap (IntKind.i64.wrap (IntKind.i64.wrap ((x : Int).tdiv B) + 1) * B) else (b : Int)) = (y : Int)) := by
              show _ = _
              rw [hy]
              exact toB_eq hB0 hB1 hxb (by omega)
            have hwn : Hid (IntKind.i64.wrap ((y : Int) - (x : Int)) = ((y - x : Nat) : Int)) := by show _ = _; rw [wrapI (by omega) (by omega)]; omega
            by_cases hsing : x = a ∧ y = b
            · obtain ⟨l, hl⟩ : ∃ l, l = [e.sg] := ⟨_, rfl⟩
              have hsg : segS e.sg a b x y = some l := by rw [hl]; exact if_pos hsing
              (repeat' (first | exact rfl | ((conv => whnf); first | refine ⟨pureRows_of (by kernel_rfl), ?_⟩ | exact rfl | refine ⟨by kernel_rfl, ?_⟩ | exact ⟨rfl, rfl⟩ | refine ⟨rfl, ?_⟩ | refine ⟨by (first | omega | (simp (disch := omega) only [wrapI]; omega) | (simp (disch := omega) only [wrapI]; simp; omega) | (simp; omega)), ?_⟩ | (intro ep) | (refine ifB (fun hb => ?_) (fun hb => ?_) <;> ((try rw [hto.get] at hb) <;> (try simp only [beq_iff_eq, bne_iff_ne, beq_eq_false_iff_ne, bne_eq_false_iff_eq, decide_eq_true_eq, decide_eq_false_iff_not, ne_eq] at hb) <;> (try (exfalso; omega)))) | fail)))
              (conv => whnf)
              refine loopY (okx [9] [34]) mixed (A := A13) [1, 2, 4, 7, 8, 9, 11, 12, 13, 14, 46, 47, 48, 97, 98, 99] [0, 1, 2, 3, 4, 9] (S := { s : Nat × Nat // s.1 ≤ l.length })
                (fr := fun s => frOf 0 205 [(1, .int .i64 (B : Int)), (2, .optr (.s 0) e0 3 0 0), (4, .optr (.s 1) e1 3 0 0), (7, .optr (.s 2) e2 3 0 0), (8, .oslc (.s 3) e3 1 0 P.length false), (9, .int .i64 (a : Int)), (11, .optr (.s 4) e4 6 0 0), (12, .int .i64 (b : Int)), (13, .int .i64 (x : Int)), (14, .int .i64 (y : Int)), (46, .oslc (.d (0 + memL.c * P.length)) (eps P.length) 6 0 P.length false), (47, .int .i64 P.length), (48, .int .i64 (i : Int)), (97, .lslc 3 (l.map sgnR) 0 l.length false), (98, .int .i64 l.length), (99, .int .i64 (s.1.1 : Int))])
                (h := fun s => ⟨[.vec e0 [[crsA p.ins.cs, intsA p.ins.steps, (.oslc (.d (0 + memL.c * P.length)) (eps P.length) 6 0 P.length false)]], .vec e1 [[.nils, .nils, .nils]], .vec e2 [[crsA p.ins.cs, intsA p.ins.steps, .oslc (.s 9) s.1.2 6 0 (G.flatten ++ (m ++ (evsP B e a x l).take s.1.1)).length false]], .vec e3 (fstR P.length (fstL 0 G ++ [G.flatten.length])), .vec e4 [rowJ eps i e], .hole, .hole, .hole, .hole, .vec s.1.2 (rowsB eps (srcL 0 G ++ srcG i (m ++ (evsP B e a x l).take s.1.1)) (G.flatten ++ (m ++ (evsP B e a x l).take s.1.1)))], objsD memL eps 0 P ++ [.vec (eps P.length) (rowsD memL 0 eps 0 P)]⟩) (μ := fun s => l.length - s.1.1) ⟨(0, epx), Nat.zero_le _⟩ (by rw [hl, ← hto.get]; exact rfl) ?_ [1, 2, 4, 7, 8, 9, 11, 12, 14, 46, 47, 48] [0, 1, 2, 3, 4, 9] (S' := Nat) (fun _ => 4) (fun epk => frOf 0 205 [(1, .int .i64 (B : Int)), (2, .optr (.s 0) e0 3 0 0), (4, .optr (.s 1) e1 3 0 0), (7, .optr (.s 2) e2 3 0 0), (8, .oslc (.s 3) e3 1 0 P.length false), (9, .int .i64 (a : Int)), (11, .optr (.s 4) e4 6 0 0), (12, .int .i64 (b : Int)), (14, .int .i64 (y : Int)), (46, .oslc (.d (0 + memL.c * P.length)) (eps P.length) 6 0 P.length false), (47, .int .i64 P.length), (48, .int .i64 (i : Int))])
                (fun epk => ⟨[.vec e0 [[crsA p.ins.cs, intsA p.ins.steps, (.oslc (.d (0 + memL.c * P.length)) (eps P.length) 6 0 P.length false)]], .vec e1 [[.nils, .nils, .nils]], .vec e2 [[crsA p.ins.cs, intsA p.ins.steps, .oslc (.s 9) epk 6 0 (G.flatten ++ (m ++ evsP B e a x l)).length false]], .vec e3 (fstR P.length (fstL 0 G ++ [G.flatten.length])), .vec e4 [rowJ eps i e], .hole, .hole, .hole, .hole, .vec epk (rowsB eps (srcL 0 G ++ srcG i (m ++ evsP B e a x l)) (G.flatten ++ (m ++ evsP B e a x l)))], objsD memL eps 0 P ++ [.vec (eps P.length) (rowsD memL 0 eps 0 P)]⟩) [] [] (S2 := Empty) (fun x => nomatch x) (fun x => nomatch x) ?_ ?_ ?_
              · rw [List.take_zero, List.append_nil]
                exact rfl
              · rintro ⟨⟨k, epk⟩, hk⟩
                simp only at hk
                obtain ⟨L, hL⟩ : ∃ L, L = evsP B e a x l := ⟨_, rfl⟩
                have hLl : L.length = l.length := by rw [hL, evsP_len]
                rw [← hL]
                obtain ⟨mk, hmk⟩ : ∃ mk, mk = m ++ L.take k := ⟨_, rfl⟩
                show aexR _ _ _ (frOf 0 205 [(1, .int .i64 (B : Int)), (2, .optr (.s 0) e0 3 0 0), (4, .optr (.s 1) e1 3 0 0), (7, .optr (.s 2) e2 3 0 0), (8, .oslc (.s 3) e3 1 0 P.length false), (9, .int .i64 (a : Int)), (11, .optr (.s 4) e4 6 0 0), (12, .int .i64 (b : Int)), (13, .int .i64 (x : Int)), (14, .int .i64 (y : Int)), (46, .oslc (.d (0 + memL.c * P.length)) (eps P.length) 6 0 P.length false), (47, .int .i64 P.length), (48, .int .i64 (i : Int)), (97, .lslc 3 (l.map sgnR) 0 l.length false), (98, .int .i64 l.length), (99, .int .i64 (k : Int))]) ⟨[.vec e0 [[crsA p.ins.cs, intsA p.ins.steps, (.oslc (.d (0 + memL.c * P.length)) (eps P.length) 6 0 P.length false)]], .vec e1 [[.nils, .nils, .nils]], .vec e2 [[crsA p.ins.cs, intsA p.ins.steps, .oslc (.s 9) epk 6 0 (G.flatten ++ (m ++ L.take k)).length false]], .vec e3 (fstR P.length (fstL 0 G ++ [G.flatten.length])), .vec e4 [rowJ eps i e], .hole, .hole, .hole, .hole, .vec epk (rowsB eps (srcL 0 G ++ srcG i (m ++ L.take k)) (G.flatten ++ (m ++ L.take k)))], objsD memL eps 0 P ++ [.vec (eps P.length) (rowsD memL 0 eps 0 P)]⟩ _
                rw [← hmk]
                obtain ⟨ob, hob⟩ : ∃ ob, ob = G.flatten ++ mk := ⟨_, rfl⟩
                rw [← hob]
                (conv => whnf)
                refine ifB (fun g3 => ?_) (fun g3 => ?_)
                · simp only [decide_eq_true_eq] at g3
                  have hkl : k < l.length := by omega
                  have hlr := mapR (f := sgnR) hkl
                  obtain ⟨f, hf⟩ : ∃ f, f = evP B e a x k l[k] := ⟨_, rfl⟩
                  have hLk : L[k]'(by omega) = f := by simp only [hL, evsP, List.getElem_mapIdx, hf]
                  have hmk1 : m ++ L.take (k + 1) = mk ++ [f] := by
                    rw [List.take_add_one, List.getElem?_eq_getElem (by omega), hLk, ← List.append_assoc, ← hmk]
                    rfl
                  have hmk0 : mk = [] ↔ (x = a ∧ k = 0) := by
                    rw [hmk, List.append_eq_nil_iff, List.take_eq_nil_iff, h4]
                    constructor
                    · rintro ⟨q1, q2⟩
                      refine ⟨q1, ?_⟩
                      rcases q2 with q2 | q2
                      · exact q2
                      · rw [q2] at hLl
                        simp at hLl
                        omega
                    · rintro ⟨q1, q2⟩
                      exact ⟨q1, .inl q2⟩
                  have hsl2 : (srcL 0 G ++ srcG i mk).length = ob.length := by rw [hob, List.length_append, List.length_append, srcL_len, srcG_len]
                  have hlen : (ob ++ [f]).length = ob.length + 1 := by rw [List.length_append, List.length_singleton]
                  have hT9 : List.take ob.length (List.drop 0 (rowsB eps (srcL 0 G ++ srcG i mk) ob)) = rowsB eps (srcL 0 G ++ srcG i mk) ob := by
                    rw [List.drop_zero]; exact List.take_of_length_le (by rw [rowsB_len hsl2]; exact Nat.le_refl _)
                  have hbig : ob.length ≤ 2400000 := by
                    have := segS_len hsg hy1.1
                    rw [hob, List.length_append, hmk, List.length_append, List.length_take]
                    omega
                  have hmod : (((x : Int).tmod B) == 0) = decide (x % B = 0) := by
                    rw [← Int.ofNat_tmod]
                    by_cases h : x % B = 0
                    · simp [h]
                    · rw [decide_eq_false h, beq_eq_false_iff_ne]
                      omega
                  have hll : l.length ≤ 600 := by have := segS_len hsg hy1.1; omega
                  have hcase : (k ≠ 0) ∨ (k = 0 ∧ x ≠ a) ∨ (k = 0 ∧ x = a ∧ 0 < x) ∨ (k = 0 ∧ x = a ∧ x = 0) := by omega
                  rcases hcase with q | ⟨q1, q2⟩ | ⟨q1, q2, q3⟩ | ⟨q1, q2, q3⟩
                  · have hrw : rowB eps (if mk = [] then some i else none) f = [.bool false, .int .i64 l[k].v, .bool l[k].d, .bool l[k].t, .bool (!restE e), .nils] := by
                      rw [if_neg (fun h => q (hmk0.1 h).2)]
                      simp [rowB, evX, hf, evP, q]
                    (repeat' (first | exact rfl | ((conv => whnf); first | refine optS hlr ?_ | exact rfl | refine ⟨by kernel_rfl, ?_⟩ | exact ⟨rfl, rfl⟩ | refine ⟨rfl, ?_⟩ | refine ⟨by (first | omega | (simp (disch := omega) only [wrapI]; omega) | (simp (disch := omega) only [wrapI]; simp; omega) | (simp; omega)), ?_⟩ | (intro ep) | (refine ifB (fun hb => ?_) (fun hb => ?_) <;> ((try rw [hto.get] at hb) <;> (try simp only [beq_iff_eq, bne_iff_ne, beq_eq_false_iff_ne, bne_eq_false_iff_eq, decide_eq_true_eq, decide_eq_false_iff_not, ne_eq] at hb) <;> (try (exfalso; omega)))) | fail)))
                    all_goals (conv => whnf)
                    all_goals (refine ACalls.part 0 rfl rfl rfl (rest_mem e _ _ _) ?_)
                    all_goals (rintro r h3' ⟨rfl, hq, hd⟩)
                    all_goals (rw [hq, hd])
                    (repeat' (first | exact rfl | ((conv => whnf); first | refine optS hlr ?_ | exact rfl | refine ⟨by kernel_rfl, ?_⟩ | exact ⟨rfl, rfl⟩ | refine ⟨rfl, ?_⟩ | refine ⟨by (first | omega | (simp (disch := omega) only [wrapI]; omega) | (simp (disch := omega) only [wrapI]; simp; omega) | (simp; omega)), ?_⟩ | (intro ep) | (refine ifB (fun hb => ?_) (fun hb => ?_) <;> ((try rw [hto.get] at hb) <;> (try simp only [beq_iff_eq, bne_iff_ne, beq_eq_false_iff_ne, bne_eq_false_iff_eq, decide_eq_true_eq, decide_eq_false_iff_not, ne_eq] at hb) <;> (try (exfalso; omega)))) | fail)))
                    all_goals (conv => whnf)
                    all_goals (refine back_of ⟨(k + 1, ep), by simp only; omega⟩ ⟨by (first | exact rfl | (simp (disch := omega) only [wrapI]; exact rfl)), ?_, by simp only; omega⟩)
                    all_goals (simp only)
                    all_goals (rw [hmk1, srcG_snoc, ← List.append_assoc, ← List.append_assoc, ← hob, rowsB_snoc hsl2, hrw, hlen])
                    all_goals (refine Eq.trans (b := ⟨[.vec e0 [[crsA p.ins.cs, intsA p.ins.steps, (.oslc (.d (0 + memL.c * P.length)) (eps P.length) 6 0 P.length false)]], .vec e1 [[.nils, .nils, .nils]], .vec e2 [[crsA p.ins.cs, intsA p.ins.steps, .oslc (.s 9) ep 6 0 (ob.length + 1) false]], .vec e3 (fstR P.length (fstL 0 G ++ [G.flatten.length])), .vec e4 [rowJ eps i e], .hole, .hole, .hole, .hole, .vec ep (List.take ob.length (List.drop 0 (rowsB eps (srcL 0 G ++ srcG i mk) ob)) ++ [[.bool false, .int .i64 l[k].v, .bool l[k].d, .bool l[k].t, .bool (!restE e), .nils]])], objsD memL eps 0 P ++ [.vec (eps P.length) (rowsD memL 0 eps 0 P)]⟩) rfl ?_)
                    all_goals (rw [hT9])
                  · have hrw : rowB eps (if mk = [] then some i else none) f = [.bool (((x : Int).tmod B) == 0), .int .i64 l[k].v, .bool l[k].d, .bool l[k].t, .bool (!restE e), .nils] := by
                      rw [if_neg (fun h => q2 (hmk0.1 h).1), hmod]
                      have : 0 < x := by omega
                      simp [rowB, evX, hf, evP, q1, q2, this]
                    (repeat' (first | exact rfl | ((conv => whnf); first | refine optS hlr ?_ | exact rfl | refine ⟨by kernel_rfl, ?_⟩ | exact ⟨rfl, rfl⟩ | refine ⟨rfl, ?_⟩ | refine ⟨by (first | omega | (simp (disch := omega) only [wrapI]; omega) | (simp (disch := omega) only [wrapI]; simp; omega) | (simp; omega)), ?_⟩ | (intro ep) | (refine ifB (fun hb => ?_) (fun hb => ?_) <;> ((try rw [hto.get] at hb) <;> (try simp only [beq_iff_eq, bne_iff_ne, beq_eq_false_iff_ne, bne_eq_false_iff_eq, decide_eq_true_eq, decide_eq_false_iff_not, ne_eq] at hb) <;> (try (exfalso; omega)))) | fail)))
                    all_goals (conv => whnf)
                    all_goals (refine ACalls.part 0 rfl rfl rfl (rest_mem e _ _ _) ?_)
                    all_goals (rintro r h3' ⟨rfl, hq, hd⟩)
                    all_goals (rw [hq, hd])
                    (repeat' (first | exact rfl | ((conv => whnf); first | refine optS hlr ?_ | exact rfl | refine ⟨by kernel_rfl, ?_⟩ | exact ⟨rfl, rfl⟩ | refine ⟨rfl, ?_⟩ | refine ⟨by (first | omega | (simp (disch := omega) only [wrapI]; omega) | (simp (disch := omega) only [wrapI]; simp; omega) | (simp; omega)), ?_⟩ | (intro ep) | (refine ifB (fun hb => ?_) (fun hb => ?_) <;> ((try rw [hto.get] at hb) <;> (try simp only [beq_iff_eq, bne_iff_ne, beq_eq_false_iff_ne, bne_eq_false_iff_eq, decide_eq_true_eq, decide_eq_false_iff_not, ne_eq] at hb) <;> (try (exfalso; omega)))) | fail)))
                    all_goals (conv => whnf)
                    all_goals (refine back_of ⟨(k + 1, ep), by simp only; omega⟩ ⟨by (first | exact rfl | (simp (disch := omega) only [wrapI]; exact rfl)), ?_, by simp only; omega⟩)
                    all_goals (simp only)
                    all_goals (rw [hmk1, srcG_snoc, ← List.append_assoc, ← List.append_assoc, ← hob, rowsB_snoc hsl2, hrw, hlen])
                    all_goals (refine Eq.trans (b := ⟨[.vec e0 [[crsA p.ins.cs, intsA p.ins.steps, (.oslc (.d (0 + memL.c * P.length)) (eps P.length) 6 0 P.length false)]], .vec e1 [[.nils, .nils, .nils]], .vec e2 [[crsA p.ins.cs, intsA p.ins.steps, .oslc (.s 9) ep 6 0 (ob.length + 1) false]], .vec e3 (fstR P.length (fstL 0 G ++ [G.flatten.length])), .vec e4 [rowJ eps i e], .hole, .hole, .hole, .hole, .vec ep (List.take ob.length (List.drop 0 (rowsB eps (srcL 0 G ++ srcG i mk) ob)) ++ [[.bool (((x : Int).tmod B) == 0), .int .i64 l[k].v, .bool l[k].d, .bool l[k].t, .bool (!restE e), .nils]])], objsD memL eps 0 P ++ [.vec (eps P.length) (rowsD memL 0 eps 0 P)]⟩) rfl ?_)
                    all_goals (rw [hT9])
                  · have hrw : rowB eps (if mk = [] then some i else none) f = [.bool (((x : Int).tmod B) == 0), .int .i64 l[k].v, .bool l[k].d, .bool l[k].t, .bool e.tie, .oslc (.d (0 + memL.c * (0 + i))) (eps (0 + i)) 5 0 e.stops.length false] := by
                      rw [if_pos (hmk0.2 ⟨q2, q1⟩), hmod]
                      simp [rowB, rowJ, evX, hf, evP, q1, q2, q2 ▸ q3]
                    (repeat' (first | exact rfl | ((conv => whnf); first | refine optS hlr ?_ | exact rfl | refine ⟨by kernel_rfl, ?_⟩ | exact ⟨rfl, rfl⟩ | refine ⟨rfl, ?_⟩ | refine ⟨by (first | omega | (simp (disch := omega) only [wrapI]; omega) | (simp (disch := omega) only [wrapI]; simp; omega) | (simp; omega)), ?_⟩ | (intro ep) | (refine ifB (fun hb => ?_) (fun hb => ?_) <;> ((try rw [hto.get] at hb) <;> (try simp only [beq_iff_eq, bne_iff_ne, beq_eq_false_iff_ne, bne_eq_false_iff_eq, decide_eq_true_eq, decide_eq_false_iff_not, ne_eq] at hb) <;> (try (exfalso; omega)))) | refine ⟨?_, ?_⟩ | fail)))
                    all_goals (conv => whnf)
                    all_goals (refine back_of ⟨(k + 1, ep), by simp only; omega⟩ ⟨by (first | exact rfl | (simp (disch := omega) only [wrapI]; exact rfl)), ?_, by simp only; omega⟩)
                    all_goals (simp only)
                    all_goals (rw [hmk1, srcG_snoc, ← List.append_assoc, ← List.append_assoc, ← hob, rowsB_snoc hsl2, hrw, hlen])
                    all_goals (refine Eq.trans (b := ⟨[.vec e0 [[crsA p.ins.cs, intsA p.ins.steps, (.oslc (.d (0 + memL.c * P.length)) (eps P.length) 6 0 P.length false)]], .vec e1 [[.nils, .nils, .nils]], .vec e2 [[crsA p.ins.cs, intsA p.ins.steps, .oslc (.s 9) ep 6 0 (ob.length + 1) false]], .vec e3 (fstR P.length (fstL 0 G ++ [G.flatten.length])), .vec e4 [rowJ eps i e], .hole, .hole, .hole, .hole, .vec ep (List.take ob.length (List.drop 0 (rowsB eps (srcL 0 G ++ srcG i mk) ob)) ++ [[.bool (((x : Int).tmod B) == 0), .int .i64 l[k].v, .bool l[k].d, .bool l[k].t, .bool e.tie, .oslc (.d (0 + memL.c * (0 + i))) (eps (0 + i)) 5 0 e.stops.length false]])], objsD memL eps 0 P ++ [.vec (eps P.length) (rowsD memL 0 eps 0 P)]⟩) rfl ?_)
                    all_goals (rw [hT9])
                  · have hrw : rowB eps (if mk = [] then some i else none) f = [.bool false, .int .i64 l[k].v, .bool l[k].d, .bool l[k].t, .bool e.tie, .oslc (.d (0 + memL.c * (0 + i))) (eps (0 + i)) 5 0 e.stops.length false] := by
                      rw [if_pos (hmk0.2 ⟨q2, q1⟩)]
                      simp [rowB, rowJ, evX, hf, evP, q1, q2, q2 ▸ q3]
                    (repeat' (first | exact rfl | ((conv => whnf); first | refine optS hlr ?_ | exact rfl | refine ⟨by kernel_rfl, ?_⟩ | exact ⟨rfl, rfl⟩ | refine ⟨rfl, ?_⟩ | refine ⟨by (first | omega | (simp (disch := omega) only [wrapI]; omega) | (simp (disch := omega) only [wrapI]; simp; omega) | (simp; omega)), ?_⟩ | (intro ep) | (refine ifB (fun hb => ?_) (fun hb => ?_) <;> ((try rw [hto.get] at hb) <;> (try simp only [beq_iff_eq, bne_iff_ne, beq_eq_false_iff_ne, bne_eq_false_iff_eq, decide_eq_true_eq, decide_eq_false_iff_not, ne_eq] at hb) <;> (try (exfalso; omega)))) | refine ⟨?_, ?_⟩ | fail)))
                    all_goals (conv => whnf)
                    all_goals (refine back_of ⟨(k + 1, ep), by simp only; omega⟩ ⟨by (first | exact rfl | (simp (disch := omega) only [wrapI]; exact rfl)), ?_, by simp only; omega⟩)
                    all_goals (simp only)
                    all_goals (rw [hmk1, srcG_snoc, ← List.append_assoc, ← List.append_assoc, ← hob, rowsB_snoc hsl2, hrw, hlen])
                    all_goals (refine Eq.trans (b := ⟨[.vec e0 [[crsA p.ins.cs, intsA p.ins.steps, (.oslc (.d (0 + memL.c * P.length)) (eps P.length) 6 0 P.length false)]], .vec e1 [[.nils, .nils, .nils]], .vec e2 [[crsA p.ins.cs, intsA p.ins.steps, .oslc (.s 9) ep 6 0 (ob.length + 1) false]], .vec e3 (fstR P.length (fstL 0 G ++ [G.flatten.length])), .vec e4 [rowJ eps i e], .hole, .hole, .hole, .hole, .vec ep (List.take ob.length (List.drop 0 (rowsB eps (srcL 0 G ++ srcG i mk) ob)) ++ [[.bool false, .int .i64 l[k].v, .bool l[k].d, .bool l[k].t, .bool e.tie, .oslc (.d (0 + memL.c * (0 + i))) (eps (0 + i)) 5 0 e.stops.length false]])], objsD memL eps 0 P ++ [.vec (eps P.length) (rowsD memL 0 eps 0 P)]⟩) rfl ?_)
                    all_goals (rw [hT9])
                · simp only [decide_eq_false_iff_not] at g3
                  obtain rfl : k = l.length := by omega
                  rw [← hLl, List.take_length] at hmk
                  subst hob
                  refine back_of epk ⟨rfl, ?_, ?_⟩
                  · (first | exact rfl | (simp (disch := omega) only [wrapI]; exact rfl))
                  · rw [hmk]
                    exact rfl
              · intro s'
                cases s'
              · intro epk
                (repeat' (first | exact rfl | ((conv => whnf); first | exact rfl | refine ⟨by kernel_rfl, ?_⟩ | exact ⟨rfl, rfl⟩ | refine ⟨rfl, ?_⟩ | refine ⟨by (first | omega | (simp (disch := omega) only [wrapI]; omega) | (simp (disch := omega) only [wrapI]; simp; omega) | (simp; omega)), ?_⟩ | (intro ep) | fail)))
                (conv => whnf)
                have hl1 := segS_ne hsg hy1.1
                have hl2 := segS_len hsg hy1.1
                have h5' : E = (brkF B e a b y).map ((m ++ evsP B e a x l) ++ ·) := by
                  rw [h5, brkF_some hB0 hxb (by rw [← hy]; exact hsg), Option.map_map, ← hy]
                  congr 1
                  funext g
                  simp [List.append_assoc]
                refine back_of ⟨(y, m ++ evsP B e a x l, epk), by simp only; omega, hy1.2.1, ?_, ?_, h5'⟩ ⟨?_, ?_, ?_⟩
                · simp only [List.length_append, evsP_len]; omega
                · simp only
                  constructor
                  · intro h
                    have := congrArg List.length (List.append_eq_nil_iff.1 h).2
                    rw [evsP_len] at this
                    exact absurd (List.eq_nil_of_length_eq_zero this) hl1
                  · intro h; omega
                · (first | exact rfl | (simp (disch := omega) only [wrapI]; exact rfl))
                · exact rfl
                · simp only; omega
            · by_cases hfw : fw (y - x) < 0
              · have hsn := signs_spec (y - x) (by omega)
                unfold sigV at hsn
                rw [if_pos hfw, ← hwn.get, ← hto.get] at hsn
                have hsg : segS e.sg a b x y = none := by unfold segS; rw [if_neg hsing, if_pos hfw]
                rw [hy] at hsg
                rw [brkF_none hxb hsg] at h5
                (repeat' (first | exact rfl | ((conv => whnf); first | refine ⟨pureRows_of (by kernel_rfl), ?_⟩ | refine ⟨_, hsn, ?_⟩ | exact rfl | refine ⟨by kernel_rfl, ?_⟩ | exact ⟨rfl, rfl⟩ | refine ⟨rfl, ?_⟩ | refine ⟨by (first | omega | (simp (disch := omega) only [wrapI]; omega) | (simp (disch := omega) only [wrapI]; simp; omega) | (simp; omega)), ?_⟩ | (intro ep) | (refine ifB (fun hb => ?_) (fun hb => ?_) <;> ((try rw [hto.get] at hb) <;> (try simp only [beq_iff_eq, bne_iff_ne, beq_eq_false_iff_ne, bne_eq_false_iff_eq, decide_eq_true_eq, decide_eq_false_iff_not, ne_eq] at hb) <;> (try (exfalso; omega)))) | fail)))
                all_goals (conv => whnf)
                all_goals refine back_of ⟨(), h5⟩ ⟨?_, ?_⟩
                all_goals first | (first | exact rfl | (simp (disch := omega) only [wrapI]; exact rfl)) | exact rfl
              · obtain ⟨l, hl⟩ : ∃ l, l = sgsN (y - x) := ⟨_, rfl⟩
                have hsg : segS e.sg a b x y = some l := by rw [hl]; unfold segS; rw [if_neg hsing, if_neg hfw]
                have hsn := signs_spec (y - x) (by omega)
                unfold sigV at hsn
                rw [if_neg hfw, sgsN_rows (by omega), ← sgsN_len, ← hl, ← hwn.get, ← hto.get] at hsn
                (repeat' (first | exact rfl | ((conv => whnf); first | refine ⟨pureRows_of (by kernel_rfl), ?_⟩ | refine ⟨_, hsn, ?_⟩ | exact rfl | refine ⟨by kernel_rfl, ?_⟩ | exact ⟨rfl, rfl⟩ | refine ⟨rfl, ?_⟩ | refine ⟨by (first | omega | (simp (disch := omega) only [wrapI]; omega) | (simp (disch := omega) only [wrapI]; simp; omega) | (simp; omega)), ?_⟩ | (intro ep) | (refine ifB (fun hb => ?_) (fun hb => ?_) <;> ((try rw [hto.get] at hb) <;> (try simp only [beq_iff_eq, bne_iff_ne, beq_eq_false_iff_ne, bne_eq_false_iff_eq, decide_eq_true_eq, decide_eq_false_iff_not, ne_eq] at hb) <;> (try (exfalso; omega)))) | fail)))
                all_goals (conv => whnf)
                all_goals
                  refine loopY (okx [9] [34]) mixed (A := A13) [1, 2, 4, 7, 8, 9, 11, 12, 13, 14, 46, 47, 48, 97, 98, 99] [0, 1, 2, 3, 4, 9] (S := { s : Nat × Nat // s.1 ≤ l.length })
                    (fr := fun s => frOf 0 205 [(1, .int .i64 (B : Int)), (2, .optr (.s 0) e0 3 0 0), (4, .optr (.s 1) e1 3 0 0), (7, .optr (.s 2) e2 3 0 0), (8, .oslc (.s 3) e3 1 0 P.length false), (9, .int .i64 (a : Int)), (11, .optr (.s 4) e4 6 0 0), (12, .int .i64 (b : Int)), (13, .int .i64 (x : Int)), (14, .int .i64 (y : Int)), (46, .oslc (.d (0 + memL.c * P.length)) (eps P.length) 6 0 P.length false), (47, .int .i64 P.length), (48, .int .i64 (i : Int)), (97, .lslc 3 (l.map sgnR) 0 l.length false), (98, .int .i64 l.length), (99, .int .i64 (s.1.1 : Int))])
                    (h := fun s => ⟨[.vec e0 [[crsA p.ins.cs, intsA p.ins.steps, (.oslc (.d (0 + memL.c * P.length)) (eps P.length) 6 0 P.length false)]], .vec e1 [[.nils, .nils, .nils]], .vec e2 [[crsA p.ins.cs, intsA p.ins.steps, .oslc (.s 9) s.1.2 6 0 (G.flatten ++ (m ++ (evsP B e a x l).take s.1.1)).length false]], .vec e3 (fstR P.length (fstL 0 G ++ [G.flatten.length])), .vec e4 [rowJ eps i e], .hole, .hole, .hole, .hole, .vec s.1.2 (rowsB eps (srcL 0 G ++ srcG i (m ++ (evsP B e a x l).take s.1.1)) (G.flatten ++ (m ++ (evsP B e a x l).take s.1.1)))], objsD memL eps 0 P ++ [.vec (eps P.length) (rowsD memL 0 eps 0 P)]⟩) (μ := fun s => l.length - s.1.1) ⟨(0, epx), Nat.zero_le _⟩ (by rw [← hto.get]; exact rfl) ?_ [1, 2, 4, 7, 8, 9, 11, 12, 14, 46, 47, 48] [0, 1, 2, 3, 4, 9] (S' := Nat) (fun _ => 4) (fun epk => frOf 0 205 [(1, .int .i64 (B : Int)), (2, .optr (.s 0) e0 3 0 0), (4, .optr (.s 1) e1 3 0 0), (7, .optr (.s 2) e2 3 0 0), (8, .oslc (.s 3) e3 1 0 P.length false), (9, .int .i64 (a : Int)), (11, .optr (.s 4) e4 6 0 0), (12, .int .i64 (b : Int)), (14, .int .i64 (y : Int)), (46, .oslc (.d (0 + memL.c * P.length)) (eps P.length) 6 0 P.length false), (47, .int .i64 P.length), (48, .int .i64 (i : Int))])
                    (fun epk => ⟨[.vec e0 [[crsA p.ins.cs, intsA p.ins.steps, (.oslc (.d (0 + memL.c * P.length)) (eps P.length) 6 0 P.length false)]], .vec e1 [[.nils, .nils, .nils]], .vec e2 [[crsA p.ins.cs, intsA p.ins.steps, .oslc (.s 9) epk 6 0 (G.flatten ++ (m ++ evsP B e a x l)).length false]], .vec e3 (fstR P.length (fstL 0 G ++ [G.flatten.length])), .vec e4 [rowJ eps i e], .hole, .hole, .hole, .hole, .vec epk (rowsB eps (srcL 0 G ++ srcG i (m ++ evsP B e a x l)) (G.flatten ++ (m ++ evsP B e a x l)))], objsD memL eps 0 P ++ [.vec (eps P.length) (rowsD memL 0 eps 0 P)]⟩) [] [] (S2 := Empty) (fun x => nomatch x) (fun x => nomatch x) ?_ ?_ ?_
                  · rw [List.take_zero, List.append_nil]
                    exact rfl
                  · rintro ⟨⟨k, epk⟩, hk⟩
                    simp only at hk
                    obtain ⟨L, hL⟩ : ∃ L, L = evsP B e a x l := ⟨_, rfl⟩
                    have hLl : L.length = l.length := by rw [hL, evsP_len]
                    rw [← hL]
                    obtain ⟨mk, hmk⟩ : ∃ mk, mk = m ++ L.take k := ⟨_, rfl⟩
                    show aexR _ _ _ (frOf 0 205 [(1, .int .i64 (B : Int)), (2, .optr (.s 0) e0 3 0 0), (4, .optr (.s 1) e1 3 0 0), (7, .optr (.s 2) e2 3 0 0), (8, .oslc (.s 3) e3 1 0 P.length false), (9, .int .i64 (a : Int)), (11, .optr (.s 4) e4 6 0 0), (12, .int .i64 (b : Int)), (13, .int .i64 (x : Int)), (14, .int .i64 (y : Int)), (46, .oslc (.d (0 + memL.c * P.length)) (eps P.length) 6 0 P.length false), (47, .int .i64 P.length), (48, .int .i64 (i : Int)), (97, .lslc 3 (l.map sgnR) 0 l.length false), (98, .int .i64 l.length), (99, .int .i64 (k : Int))]) ⟨[.vec e0 [[crsA p.ins.cs, intsA p.ins.steps, (.oslc (.d (0 + memL.c * P.length)) (eps P.length) 6 0 P.length false)]], .vec e1 [[.nils, .nils, .nils]], .vec e2 [[crsA p.ins.cs, intsA p.ins.steps, .oslc (.s 9) epk 6 0 (G.flatten ++ (m ++ L.take k)).length false]], .vec e3 (fstR P.length (fstL 0 G ++ [G.flatten.length])), .vec e4 [rowJ eps i e], .hole, .hole, .hole, .hole, .vec epk (rowsB eps (srcL 0 G ++ srcG i (m ++ L.take k)) (G.flatten ++ (m ++ L.take k)))], objsD memL eps 0 P ++ [.vec (eps P.length) (rowsD memL 0 eps 0 P)]⟩ _
                    rw [← hmk]
                    obtain ⟨ob, hob⟩ : ∃ ob, ob = G.flatten ++ mk := ⟨_, rfl⟩
                    rw [← hob]
                    (conv => whnf)
                    refine ifB (fun g3 => ?_) (fun g3 => ?_)
                    · simp only [decide_eq_true_eq] at g3
                      have hkl : k < l.length := by omega
                      have hlr := mapR (f := sgnR) hkl
                      obtain ⟨f, hf⟩ : ∃ f, f = evP B e a x k l[k] := ⟨_, rfl⟩
                      have hLk : L[k]'(by omega) = f := by simp only [hL, evsP, List.getElem_mapIdx, hf]
                      have hmk1 : m ++ L.take (k + 1) = mk ++ [f] := by
                        rw [List.take_add_one, List.getElem?_eq_getElem (by omega), hLk, ← List.append_assoc, ← hmk]
                        rfl
                      have hmk0 : mk = [] ↔ (x = a ∧ k = 0) := by
                        rw [hmk, List.append_eq_nil_iff, List.take_eq_nil_iff, h4]
                        constructor
                        · rintro ⟨q1, q2⟩
                          refine ⟨q1, ?_⟩
                          rcases q2 with q2 | q2
                          · exact q2
                          · rw [q2] at hLl
                            simp at hLl
                            omega
                        · rintro ⟨q1, q2⟩
                          exact ⟨q1, .inl q2⟩
                      have hsl2 : (srcL 0 G ++ srcG i mk).length = ob.length := by rw [hob, List.length_append, List.length_append, srcL_len, srcG_len]
                      have hlen : (ob ++ [f]).length = ob.length + 1 := by rw [List.length_append, List.length_singleton]
                      have hT9 : List.take ob.length (List.drop 0 (rowsB eps (srcL 0 G ++ srcG i mk) ob)) = rowsB eps (srcL 0 G ++ srcG i mk) ob := by
                        rw [List.drop_zero]; exact List.take_of_length_le (by rw [rowsB_len hsl2]; exact Nat.le_refl _)
                      have hbig : ob.length ≤ 2400000 := by
                        have := segS_len hsg hy1.1
                        rw [hob, List.length_append, hmk, List.length_append, List.length_take]
                        omega
                      have hmod : (((x : Int).tmod B) == 0) = decide (x % B = 0) := by
                        rw [← Int.ofNat_tmod]
                        by_cases h : x % B = 0
                        · simp [h]
                        · rw [decide_eq_false h, beq_eq_false_iff_ne]
                          omega
                      have hll : l.length ≤ 600 := by have := segS_len hsg hy1.1; omega
                      have hcase : (k ≠ 0) ∨ (k = 0 ∧ x ≠ a) ∨ (k = 0 ∧ x = a ∧ 0 < x) ∨ (k = 0 ∧ x = a ∧ x = 0) := by omega
                      rcases hcase with q | ⟨q1, q2⟩ | ⟨q1, q2, q3⟩ | ⟨q1, q2, q3⟩
                      · have hrw : rowB eps (if mk = [] then some i else none) f = [.bool false, .int .i64 l[k].v, .bool l[k].d, .bool l[k].t, .bool (!restE e), .nils] := by
                          rw [if_neg (fun h => q (hmk0.1 h).2)]
                          simp [rowB, evX, hf, evP, q]
                        (repeat' (first | exact rfl | ((conv => whnf); first | refine optS hlr ?_ | exact rfl | refine ⟨by kernel_rfl, ?_⟩ | exact ⟨rfl, rfl⟩ | refine ⟨rfl, ?_⟩ | refine ⟨by (first | omega | (simp (disch := omega) only [wrapI]; omega) | (simp (disch := omega) only [wrapI]; simp; omega) | (simp; omega)), ?_⟩ | (intro ep) | (refine ifB (fun hb => ?_) (fun hb => ?_) <;> ((try rw [hto.get] at hb) <;> (try simp only [beq_iff_eq, bne_iff_ne, beq_eq_false_iff_ne, bne_eq_false_iff_eq, decide_eq_true_eq, decide_eq_false_iff_not, ne_eq] at hb) <;> (try (exfalso; omega)))) | fail)))
                        all_goals (conv => whnf)
                        all_goals (refine ACalls.part 0 rfl rfl rfl (rest_mem e _ _ _) ?_)
                        all_goals (rintro r h3' ⟨rfl, hq, hd⟩)
                        all_goals (rw [hq, hd])
                        (repeat' (first | exact rfl | ((conv => whnf); first | refine optS hlr ?_ | exact rfl | refine ⟨by kernel_rfl, ?_⟩ | exact ⟨rfl, rfl⟩ | refine ⟨rfl, ?_⟩ | refine ⟨by (first | omega | (simp (disch := omega) only [wrapI]; omega) | (simp (disch := omega) only [wrapI]; simp; omega) | (simp; omega)), ?_⟩ | (intro ep) | (refine ifB (fun hb => ?_) (fun hb => ?_) <;> ((try rw [hto.get] at hb) <;> (try simp only [beq_iff_eq, bne_iff_ne, beq_eq_false_iff_ne, bne_eq_false_iff_eq, decide_eq_true_eq, decide_eq_false_iff_not, ne_eq] at hb) <;> (try (exfalso; omega)))) | fail)))
                        all_goals (conv => whnf)
                        all_goals (refine back_of ⟨(k + 1, ep), by simp only; omega⟩ ⟨by (first | exact rfl | (simp (disch := omega) only [wrapI]; exact rfl)), ?_, by simp only; omega⟩)
                        all_goals (simp only)
                        all_goals (rw [hmk1, srcG_snoc, ← List.append_assoc, ← List.append_assoc, ← hob, rowsB_snoc hsl2, hrw, hlen])
                        all_goals (refine Eq.trans (b := ⟨[.vec e0 [[crsA p.ins.cs, intsA p.ins.steps, (.oslc (.d (0 + memL.c * P.length)) (eps P.length) 6 0 P.length false)]], .vec e1 [[.nils, .nils, .nils]], .vec e2 [[crsA p.ins.cs, intsA p.ins.steps, .oslc (.s 9) ep 6 0 (ob.length + 1) false]], .vec e3 (fstR P.length (fstL 0 G ++ [G.flatten.length])), .vec e4 [rowJ eps i e], .hole, .hole, .hole, .hole, .vec ep (List.take ob.length (List.drop 0 (rowsB eps (srcL 0 G ++ srcG i mk) ob)) ++ [[.bool false, .int .i64 l[k].v, .bool l[k].d, .bool l[k].t, .bool (!restE e), .nils]])], objsD memL eps 0 P ++ [.vec (eps P.length) (rowsD memL 0 eps 0 P)]⟩) rfl ?_)
                        all_goals (rw [hT9])
                      · have hrw : rowB eps (if mk = [] then some i else none) f = [.bool (((x : Int).tmod B) == 0), .int .i64 l[k].v, .bool l[k].d, .bool l[k].t, .bool (!restE e), .nils] := by
                          rw [if_neg (fun h => q2 (hmk0.1 h).1), hmod]
                          have : 0 < x := by omega
                          simp [rowB, evX, hf, evP, q1, q2, this]
                        (repeat' (first | exact rfl | ((conv => whnf); first | refine optS hlr ?_ | exact rfl | refine ⟨by kernel_rfl, ?_⟩ | exact ⟨rfl, rfl⟩ | refine ⟨rfl, ?_⟩ | refine ⟨by (first | omega | (simp (disch := omega) only [wrapI]; omega) | (simp (disch := omega) only [wrapI]; simp; omega) | (simp; omega)), ?_⟩ | (intro ep) | (refine ifB (fun hb => ?_) (fun hb => ?_) <;> ((try rw [hto.get] at hb) <;> (try simp only [beq_iff_eq, bne_iff_ne, beq_eq_false_iff_ne, bne_eq_false_iff_eq, decide_eq_true_eq, decide_eq_false_iff_not, ne_eq] at hb) <;> (try (exfalso; omega)))) | fail)))
                        all_goals (conv => whnf)
                        all_goals (refine ACalls.part 0 rfl rfl rfl (rest_mem e _ _ _) ?_)
                        all_goals (rintro r h3' ⟨rfl, hq, hd⟩)
                        all_goals (rw [hq, hd])
                        (repeat' (first | exact rfl | ((conv => whnf); first | refine optS hlr ?_ | exact rfl | refine ⟨by kernel_rfl, ?_⟩ | exact ⟨rfl, rfl⟩ | refine ⟨rfl, ?_⟩ | refine ⟨by (first | omega | (simp (disch := omega) only [wrapI]; omega) | (simp (disch := omega) only [wrapI]; simp; omega) | (simp; omega)), ?_⟩ | (intro ep) | (refine ifB (fun hb => ?_) (fun hb => ?_) <;> ((try rw [hto.get] at hb) <;> (try simp only [beq_iff_eq, bne_iff_ne, beq_eq_false_iff_ne, bne_eq_false_iff_eq, decide_eq_true_eq, decide_eq_false_iff_not, ne_eq] at hb) <;> (try (exfalso; omega)))) | fail)))
                        all_goals (conv => whnf)
                        all_goals (refine back_of ⟨(k + 1, ep), by simp only; omega⟩ ⟨by (first | exact rfl | (simp (disch := omega) only [wrapI]; exact rfl)), ?_, by simp only; omega⟩)
                        all_goals (simp only)
                        all_goals (rw [hmk1, srcG_snoc, ← List.append_assoc, ← List.append_assoc, ← hob, rowsB_snoc hsl2, hrw, hlen])
                        all_goals (refine Eq.trans (b := ⟨[.vec e0 [[crsA p.ins.cs, intsA p.ins.steps, (.oslc (.d (0 + memL.c * P.length)) (eps P.length) 6 0 P.length false)]], .vec e1 [[.nils, .nils, .nils]], .vec e2 [[crsA p.ins.cs, intsA p.ins.steps, .oslc (.s 9) ep 6 0 (ob.length + 1) false]], .vec e3 (fstR P.length (fstL 0 G ++ [G.flatten.length])), .vec e4 [rowJ eps i e], .hole, .hole, .hole, .hole, .vec ep (List.take ob.length (List.drop 0 (rowsB eps (srcL 0 G ++ srcG i mk) ob)) ++ [[.bool (((x : Int).tmod B) == 0), .int .i64 l[k].v, .bool l[k].d, .bool l[k].t, .bool (!restE e), .nils]])], objsD memL eps 0 P ++ [.vec (eps P.length) (rowsD memL 0 eps 0 P)]⟩) rfl ?_)
                        all_goals (rw [hT9])
                      · have hrw : rowB eps (if mk = [] then some i else none) f = [.bool (((x : Int).tmod B) == 0), .int .i64 l[k].v, .bool l[k].d, .bool l[k].t, .bool e.tie, .oslc (.d (0 + memL.c * (0 + i))) (eps (0 + i)) 5 0 e.stops.length false] := by
                          rw [if_pos (hmk0.2 ⟨q2, q1⟩), hmod]
                          simp [rowB, rowJ, evX, hf, evP, q1, q2, q2 ▸ q3]
                        (repeat' (first | exact rfl | ((conv => whnf); first | refine optS hlr ?_ | exact rfl | refine ⟨by kernel_rfl, ?_⟩ | exact ⟨rfl, rfl⟩ | refine ⟨rfl, ?_⟩ | refine ⟨by (first | omega | (simp (disch := omega) only [wrapI]; omega) | (simp (disch := omega) only [wrapI]; simp; omega) | (simp; omega)), ?_⟩ | (intro ep) | (refine ifB (fun hb => ?_) (fun hb => ?_) <;> ((try rw [hto.get] at hb) <;> (try simp only [beq_iff_eq, bne_iff_ne, beq_eq_false_iff_ne, bne_eq_false_iff_eq, decide_eq_true_eq, decide_eq_false_iff_not, ne_eq] at hb) <;> (try (exfalso; omega)))) | refine ⟨?_, ?_⟩ | fail)))
                        all_goals (conv => whnf)
                        all_goals (refine back_of ⟨(k + 1, ep), by simp only; omega⟩ ⟨by (first | exact rfl | (simp (disch := omega) only [wrapI]; exact rfl)), ?_, by simp only; omega⟩)
                        all_goals (simp only)
                        all_goals (rw [hmk1, srcG_snoc, ← List.append_assoc, ← List.append_assoc, ← hob, rowsB_snoc hsl2, hrw, hlen])
                        all_goals (refine Eq.trans (b := ⟨[.vec e0 [[crsA p.ins.cs, intsA p.ins.steps, (.oslc (.d (0 + memL.c * P.length)) (eps P.length) 6 0 P.length false)]], .vec e1 [[.nils, .nils, .nils]], .vec e2 [[crsA p.ins.cs, intsA p.ins.steps, .oslc (.s 9) ep 6 0 (ob.length + 1) false]], .vec e3 (fstR P.length (fstL 0 G ++ [G.flatten.length])), .vec e4 [rowJ eps i e], .hole, .hole, .hole, .hole, .vec ep (List.take ob.length (List.drop 0 (rowsB eps (srcL 0 G ++ srcG i mk) ob)) ++ [[.bool (((x : Int).tmod B) == 0), .int .i64 l[k].v, .bool l[k].d, .bool l[k].t, .bool e.tie, .oslc (.d (0 + memL.c * (0 + i))) (eps (0 + i)) 5 0 e.stops.length false]])], objsD memL eps 0 P ++ [.vec (eps P.length) (rowsD memL 0 eps 0 P)]⟩) rfl ?_)
                        all_goals (rw [hT9])
                      · have hrw : rowB eps (if mk = [] then some i else none) f = [.bool false, .int .i64 l[k].v, .bool l[k].d, .bool l[k].t, .bool e.tie, .oslc (.d (0 + memL.c * (0 + i))) (eps (0 + i)) 5 0 e.stops.length false] := by
                          rw [if_pos (hmk0.2 ⟨q2, q1⟩)]
                          simp [rowB, rowJ, evX, hf, evP, q1, q2, q2 ▸ q3]
                        (repeat' (first | exact rfl | ((conv => whnf); first | refine optS hlr ?_ | exact rfl | refine ⟨by kernel_rfl, ?_⟩ | exact ⟨rfl, rfl⟩ | refine ⟨rfl, ?_⟩ | refine ⟨by (first | omega | (simp (disch := omega) only [wrapI]; omega) | (simp (disch := omega) only [wrapI]; simp; omega) | (simp; omega)), ?_⟩ | (intro ep) | (refine ifB (fun hb => ?_) (fun hb => ?_) <;> ((try rw [hto.get] at hb) <;> (try simp only [beq_iff_eq, bne_iff_ne, beq_eq_false_iff_ne, bne_eq_false_iff_eq, decide_eq_true_eq, decide_eq_false_iff_not, ne_eq] at hb) <;> (try (exfalso; omega)))) | refine ⟨?_, ?_⟩ | fail)))
                        all_goals (conv => whnf)
                        all_goals (refine back_of ⟨(k + 1, ep), by simp only; omega⟩ ⟨by (first | exact rfl | (simp (disch := omega) only [wrapI]; exact rfl)), ?_, by simp only; omega⟩)
                        all_goals (simp only)
                        all_goals (rw [hmk1, srcG_snoc, ← List.append_assoc, ← List.append_assoc, ← hob, rowsB_snoc hsl2, hrw, hlen])
                        all_goals (refine Eq.trans (b := ⟨[.vec e0 [[crsA p.ins.cs, intsA p.ins.steps, (.oslc (.d (0 + memL.c * P.length)) (eps P.length) 6 0 P.length false)]], .vec e1 [[.nils, .nils, .nils]], .vec e2 [[crsA p.ins.cs, intsA p.ins.steps, .oslc (.s 9) ep 6 0 (ob.length + 1) false]], .vec e3 (fstR P.length (fstL 0 G ++ [G.flatten.length])), .vec e4 [rowJ eps i e], .hole, .hole, .hole, .hole, .vec ep (List.take ob.length (List.drop 0 (rowsB eps (srcL 0 G ++ srcG i mk) ob)) ++ [[.bool false, .int .i64 l[k].v, .bool l[k].d, .bool l[k].t, .bool e.tie, .oslc (.d (0 + memL.c * (0 + i))) (eps (0 + i)) 5 0 e.stops.length false]])], objsD memL eps 0 P ++ [.vec (eps P.length) (rowsD memL 0 eps 0 P)]⟩) rfl ?_)
                        all_goals (rw [hT9])
                    · simp only [decide_eq_false_iff_not] at g3
                      obtain rfl : k = l.length := by omega
                      rw [← hLl, List.take_length] at hmk
                      subst hob
                      refine back_of epk ⟨rfl, ?_, ?_⟩
                      · (first | exact rfl | (simp (disch := omega) only [wrapI]; exact rfl))
                      · rw [hmk]
                        exact rfl
                  · intro s'
                    cases s'
                  · intro epk
                    (repeat' (first | exact rfl | ((conv => whnf); first | exact rfl | refine ⟨by kernel_rfl, ?_⟩ | exact ⟨rfl, rfl⟩ | refine ⟨rfl, ?_⟩ | refine ⟨by (first | omega | (simp (disch := omega) only [wrapI]; omega) | (simp (disch := omega) only [wrapI]; simp; omega) | (simp; omega)), ?_⟩ | (intro ep) | fail)))
                    (conv => whnf)
                    have hl1 := segS_ne hsg hy1.1
                    have hl2 := segS_len hsg hy1.1
                    have h5' : E = (brkF B e a b y).map ((m ++ evsP B e a x l) ++ ·) := by
                      rw [h5, brkF_some hB0 hxb (by rw [← hy]; exact hsg), Option.map_map, ← hy]
                      congr 1
                      funext g
                      simp [List.append_assoc]
                    refine back_of ⟨(y, m ++ evsP B e a x l, epk), by simp only; omega, hy1.2.1, ?_, ?_, h5'⟩ ⟨?_, ?_, ?_⟩
                    · simp only [List.length_append, evsP_len]; omega
                    · simp only
                      constructor
                      · intro h
                        have := congrArg List.length (List.append_eq_nil_iff.1 h).2
                        rw [evsP_len] at this
                        exact absurd (List.eq_nil_of_length_eq_zero this) hl1
                      · intro h; omega
                    · (first | exact rfl | (simp (disch := omega) only [wrapI]; exact rfl))
                    · exact rfl
                    · simp only; omega
          · simp only [decide_eq_false_iff_not] at g2
            obtain rfl : x = b := by omega
            rw [brkF_end (Nat.le_refl _), Option.map_some, List.append_nil] at h5
            refine back_of ⟨(m, epx), h5, h3⟩ ⟨rfl, ?_, ?_⟩
            · (first | exact rfl | (simp (disch := omega) only [wrapI]; exact rfl))
            · exact rfl
        · rintro ⟨u, hu⟩
          rw [hu] at hi4
          (conv => whnf)
          refine back_of ⟨(), hi4⟩ ⟨?_, ?_⟩
          · (first | exact rfl | (simp (disch := omega) only [wrapI]; exact rfl))
          · exact rfl
        · rintro ⟨⟨m, epx⟩, h1, h2⟩
          simp only at h1 h2
          rw [h1] at hi4
          (repeat' (first | exact rfl | ((conv => whnf); first | exact rfl | refine ⟨by kernel_rfl, ?_⟩ | exact ⟨rfl, rfl⟩ | refine ⟨rfl, ?_⟩ | refine ⟨by (first | omega | (simp (disch := omega) only [wrapI]; omega) | (simp (disch := omega) only [wrapI]; simp; omega) | (simp; omega)), ?_⟩ | (intro ep) | fail)))
          (conv => whnf)
          have hGl : (G ++ [m]).length = i + 1 := by rw [List.length_append, List.length_singleton, ← hi]
          refine back_of ⟨(b, G ++ [m], epx), ?_, ?_, ?_, ?_⟩ ⟨?_, ?_, ?_⟩
          · simp only; omega
          · simp only; omega
          · simp only [List.flatten_append, List.length_append, List.flatten_cons, List.flatten_nil, List.append_nil]
            simp only [List.length_append, List.length_singleton]
            omega
          · simp only [hGl]
            rw [hi4, ← hb, Option.map_map]
            congr 1
            funext g
            simp
          · simp only [hGl]
            (first | exact rfl | (simp (disch := omega) only [wrapI]; exact rfl))
          · simp only
            have z1 := fstL_snoc 0 G m
            have z2 := srcL_snoc 0 G m
            rw [Nat.zero_add] at z1 z2
            rw [z1, z2, List.flatten_append, ← hi, List.flatten_cons, List.flatten_nil, List.append_nil]
            exact rfl
          · simp only; omega
      · simp only [decide_eq_false_iff_not] at g1
        have hiP : i = P.length := by omega
        rw [hiP, List.drop_length] at hi4
        simp only [brkL, Option.map_some, List.append_nil] at hi4
        refine back_of ⟨(G, epo), hi4⟩ ⟨rfl, ?_, ?_⟩
        · (first | exact rfl | (simp (disch := omega) only [wrapI]; exact rfl))
        · exact rfl
    · rintro ⟨u, hu⟩
      rw [hu] at hR
      simp only at hR
      rw [hR]
      (repeat' ((conv => whnf); first | refine ⟨rfl, ?_⟩ | fail))
      (conv => whnf)
      exact end_errM (P := P) (M := P) (eps := eps) (epQ := eps P.length) rfl rfl rfl
    · rintro ⟨⟨G, epo⟩, hG⟩
      simp only at hG
      subst hG
      simp only at hR
      have hTG : brkL B 0 P = some G := hT.symm
      have hGl := brkL_len hTG
      have htp : ∀ e ∈ P, 0 < tkn e := fun e he => by have := (hPt e he).1; unfold tkn; omega
      obtain ⟨F, hF⟩ : ∃ F, F = fstL 0 G := ⟨_, rfl⟩
      have hFl : F.length = P.length := by rw [hF, fstL_len, hGl]
      obtain ⟨N, hN⟩ : ∃ N, N = G.flatten.length := ⟨_, rfl⟩
      rw [← hF, ← hN] at hR
      rw [← hN]
      by_cases hbig : 400 < N
      · rw [if_pos hbig] at hR
        rw [hR]
        (repeat' (first | exact rfl | ((conv => whnf); first | refine ⟨rfl, ?_⟩ | (refine ifB (fun hb => ?_) (fun hb => ?_) <;> (try (exfalso; first | (revert hb; simp only [beq_iff_eq, bne_iff_ne, beq_eq_false_iff_ne, bne_eq_false_iff_eq, decide_eq_true_eq, decide_eq_false_iff_not, ne_eq]; omega)))) | fail)))
        (conv => whnf)
        exact end_errM (P := P) (M := P) (eps := eps) (epQ := eps P.length) rfl rfl rfl
      · rw [if_neg hbig] at hR
        unfold brkT at hR
        have hFle : ∀ i, F.getD i 0 ≤ 400 := fun i => by have := fstL_le 0 G i; rw [← hF, ← hN] at this; omega
        obtain ⟨Q, hQ⟩ : ∃ Q, Q = brkM F P := ⟨_, rfl⟩
        have hQl : Q.length = P.length := by rw [hQ, brkM_len]
        (repeat' (first | exact rfl | ((conv => whnf); first | exact rfl | refine ⟨by kernel_rfl, ?_⟩ | exact ⟨rfl, rfl⟩ | refine ⟨rfl, ?_⟩ | refine ⟨by (first | omega | (simp (disch := omega) only [wrapI]; omega) | (simp (disch := omega) only [wrapI]; simp; omega) | (simp; omega)), ?_⟩ | (intro ep) | (refine ifB (fun hb => ?_) (fun hb => ?_) <;> (try (exfalso; first | (revert hb; simp only [beq_iff_eq, bne_iff_ne, beq_eq_false_iff_ne, bne_eq_false_iff_eq, decide_eq_true_eq, decide_eq_false_iff_not, ne_eq]; omega)))) | fail)))
        (conv => whnf)
        refine wk_mapc (nilS 5) (nilS_rel 5) ?_
        refine loopY (okx [9] [34]) mixed (A := A13) [4, 7, 8, 152, 153] [1, 2, 3, 9] (S := { i : Nat // i ≤ P.length ∧ badL F 0 P = badL F i (P.drop i) })
          (fr := fun s => frOf 0 205 [(4, .optr (.s 1) e1 3 0 0), (7, .optr (.s 2) e2 3 0 0), (8, .oslc (.s 3) e3 1 0 P.length false), (152, .int .i64 P.length), (153, .int .i64 (s.1 : Int))])
          (h := fun s => ⟨[.hole, .vec e1 [[.lslc 5 [] 0 0 false, .lslc 5 [] 0 0 false, .lslc 5 [] 0 0 false]], .vec e2 [[crsA p.ins.cs, intsA p.ins.steps, .oslc (.s 9) epo 6 0 N false]], .vec e3 (fstR P.length F), .hole, .hole, .hole, .hole, .hole, .vec epo (rowsC eps (srcL 0 G) G.flatten)], objsD memL eps 0 (mix Q P s.1) ++ [.vec (eps P.length) (rowsD memL 0 eps 0 P)]⟩) (μ := fun s => P.length - s.1) ⟨0, Nat.zero_le _, by rw [List.drop_zero]⟩ (by exact rfl) ?_ [4, 7] [1, 2, 9] (S' := { u : Unit // badL F 0 P = false }) (fun _ => 6) (fun _ => frOf 0 205 [(4, .optr (.s 1) e1 3 0 0), (7, .optr (.s 2) e2 3 0 0)])
          (fun _ => ⟨[.hole, .vec e1 [[.lslc 5 [] 0 0 false, .lslc 5 [] 0 0 false, .lslc 5 [] 0 0 false]], .vec e2 [[crsA p.ins.cs, intsA p.ins.steps, .oslc (.s 9) epo 6 0 N false]], .hole, .hole, .hole, .hole, .hole, .hole, .vec epo (rowsC eps (srcL 0 G) G.flatten)], objsD memL eps 0 (Q) ++ [.vec (eps P.length) (rowsD memL 0 eps 0 P)]⟩) [4, 5] [1] (S2 := { M : List Evt // M.length = P.length ∧ badL F 0 P = true }) (fun _ => frOf 0 205 [(4, .optr (.s 1) e1 3 0 0), (5, .int .i64 24)]) (fun s => ⟨[.hole, .vec e1 [[.nils, .nils, .nils]], .hole, .hole, .hole, .hole, .hole, .hole, .hole, .hole], objsD memL eps 0 (s.1) ++ [.vec (eps P.length) (rowsD memL 0 eps 0 P)]⟩) ?_ ?_ ?_
        · subst hF
          show (⟨_, _⟩ : Heap) = ⟨_, objsD memL eps 0 (mix Q P 0) ++ [.vec (eps P.length) (rowsD memL 0 eps 0 P)]⟩
          have z1 := fstR_nil P.length (fstL 0 G)
          have z2 := rowsB_nil eps (srcL 0 G) G.flatten
          have z3 := objsM_nil eps P 0
          have z4 := rowsM_nil eps 0 P 0
          rw [mix_zero]
          refine Eq.trans (b := ⟨[.hole, .vec e1 [[.lslc 5 [] 0 0 false, .lslc 5 [] 0 0 false, .lslc 5 [] 0 0 false]], .vec e2 [[crsA p.ins.cs, intsA p.ins.steps, .oslc (.s 9) epo 6 0 N false]], .vec e3 ((fstR P.length (fstL 0 G)).map fun r => r.map (nilS 5)), .hole, .hole, .hole, .hole, .hole, .vec epo ((rowsB eps (srcL 0 G) G.flatten).map fun r => r.map (nilS 5))], (objsD memL eps 0 P ++ [AObj.vec (eps P.length) (rowsD memL 0 eps 0 P)]).map (AObj.mapc (nilS 5))⟩) rfl ?_
          rw [z1, z2, List.map_append, z3]
          show (⟨_, objsD memL eps 0 P ++ [AObj.vec (eps P.length) ((rowsD memL 0 eps 0 P).map fun r => r.map (nilS 5))]⟩ : Heap) = _
          (first | (rw [z4]; done) | (rw [z4]; exact rfl))
        · rintro ⟨i, hi, hbad⟩
          show aexR _ _ _ (frOf 0 205 [(4, .optr (.s 1) e1 3 0 0), (7, .optr (.s 2) e2 3 0 0), (8, .oslc (.s 3) e3 1 0 P.length false), (152, .int .i64 P.length), (153, .int .i64 (i : Int))]) ⟨[.hole, .vec e1 [[.lslc 5 [] 0 0 false, .lslc 5 [] 0 0 false, .lslc 5 [] 0 0 false]], .vec e2 [[crsA p.ins.cs, intsA p.ins.steps, .oslc (.s 9) epo 6 0 N false]], .vec e3 (fstR P.length F), .hole, .hole, .hole, .hole, .hole, .vec epo (rowsC eps (srcL 0 G) G.flatten)], objsD memL eps 0 (mix Q P i) ++ [.vec (eps P.length) (rowsD memL 0 eps 0 P)]⟩ _
          (conv => whnf)
          refine ifB (fun g1 => ?_) (fun g1 => ?_)
          · simp only [decide_eq_true_eq] at g1
            have hlt : i < P.length := by omega
            obtain ⟨k0, f, q1, q2, q3, q4⟩ := grp_at hB0 (s := 0) (c := 0) hTG htp i hlt
            rw [Nat.zero_add] at q1 q2
            have hFi : F.getD i 0 = k0 := by rw [hF, List.getD_eq_getElem?_getD, q1]; rfl
            have hfst := fstR_at hFl hlt
            obtain ⟨ss, hss⟩ : ∃ ss, ss = P[i].stops := ⟨_, rfl⟩
            have hrow : (rowsC eps (srcL 0 G) G.flatten)[0 + ((F.getD i 0 : Nat) : Int).toNat]? = some (evX f (.oslc (.d (0 + memL.c * (0 + i))) (eps (0 + i)) 5 0 ss.length false)) := by
              rw [hFi, rowsC_get q3 q2, hss, ← q4]
              rfl
            have hk0 : k0 < N := by rw [hN]; exact (List.getElem?_eq_some_iff.1 q3).1
            have hk1 : F.getD i 0 < N := by rw [hFi]; exact hk0
            have hsl : ss.length ≤ 4000 := by rw [hss]; exact hPs _ (List.getElem_mem hlt)
            have hsh : ∀ s ∈ ss, 0 ≤ s.h ∧ i + s.h.toNat < P.length := by
              rw [hss]
              have hip : i < p.evs.length := by omega
              have hb : body P[i] = body p.evs[i] := by
                have := congrArg (fun l => l[i]?) hPb
                simpa [List.getElem?_map, List.getElem?_eq_getElem hlt, List.getElem?_eq_getElem hip] using this
              have h9 := chk_holds hc hip
              simp only [body, Prod.mk.injEq] at hb
              rw [hb.2]
              intro s hs
              have := h9 s hs
              omega
            obtain ⟨bs, hbs⟩ : ∃ bs, bs = ss.map (holdB F i) := ⟨_, rfl⟩
            have hbl : bs.length = ss.length := by rw [hbs]; simp
            have hQi : Q[i]'(by omega) = evS P[i] bs := by
              simp only [hQ, brkM, List.getElem_mapIdx, evB, hbs, hss]
            have hdr : P.drop i = P[i] :: P.drop (i + 1) := List.drop_eq_getElem_cons hlt
            rw [hdr] at hbad
            simp only [badL, ← hss] at hbad
            have hFl9 := hFle
            (repeat' (first | exact rfl | ((conv => whnf); first | refine optS hfst ?_ | refine optS hrow ?_ | exact rfl | refine ⟨by kernel_rfl, ?_⟩ | exact ⟨rfl, rfl⟩ | refine ⟨rfl, ?_⟩ | refine ⟨by (first | omega | (simp (disch := omega) only [wrapI]; omega) | (simp (disch := omega) only [wrapI]; simp; omega) | (simp; omega)), ?_⟩ | (intro ep) | fail)))
            (conv => whnf)
            refine loopY (okx [9] [34]) mixed (A := A13) [4, 7, 8, 19, 20, 152, 153, 166, 167] [1, 2, 3, 9] (S := { k : Nat // k ≤ ss.length ∧ (ss.take k).any (longH F i) = false })
              (fr := fun s => frOf 0 205 [(4, .optr (.s 1) e1 3 0 0), (7, .optr (.s 2) e2 3 0 0), (8, .oslc (.s 3) e3 1 0 P.length false), (19, .int .i64 (i : Int)), (20, .oslc (.d (0 + memL.c * (0 + i))) (eps (0 + i)) 5 0 ss.length false), (152, .int .i64 P.length), (153, .int .i64 (i : Int)), (166, .int .i64 ss.length), (167, .int .i64 (s.1 : Int))])
              (h := fun s => ⟨[.hole, .vec e1 [[.lslc 5 [] 0 0 false, .lslc 5 [] 0 0 false, .lslc 5 [] 0 0 false]], .vec e2 [[crsA p.ins.cs, intsA p.ins.steps, .oslc (.s 9) epo 6 0 N false]], .vec e3 (fstR P.length F), .hole, .hole, .hole, .hole, .hole, .vec epo (rowsC eps (srcL 0 G) G.flatten)], objsD memL eps 0 ((mix Q P i).set i (evS P[i] (mix bs ss s.1))) ++ [.vec (eps P.length) (rowsD memL 0 eps 0 P)]⟩) (μ := fun s => ss.length - s.1) ⟨0, Nat.zero_le _, by simp⟩ (by exact rfl) ?_ [4, 7, 8, 152, 153] [1, 2, 3, 9] (S' := { u : Unit // ss.any (longH F i) = false }) (fun _ => 8) (fun _ => frOf 0 205 [(4, .optr (.s 1) e1 3 0 0), (7, .optr (.s 2) e2 3 0 0), (8, .oslc (.s 3) e3 1 0 P.length false), (152, .int .i64 P.length), (153, .int .i64 (i : Int))])
              (fun _ => ⟨[.hole, .vec e1 [[.lslc 5 [] 0 0 false, .lslc 5 [] 0 0 false, .lslc 5 [] 0 0 false]], .vec e2 [[crsA p.ins.cs, intsA p.ins.steps, .oslc (.s 9) epo 6 0 N false]], .vec e3 (fstR P.length F), .hole, .hole, .hole, .hole, .hole, .vec epo (rowsC eps (srcL 0 G) G.flatten)], objsD memL eps 0 (mix Q P (i + 1)) ++ [.vec (eps P.length) (rowsD memL 0 eps 0 P)]⟩) [4, 5] [1] (S2 := { M : List Evt // M.length = P.length ∧ ss.any (longH F i) = true }) (fun _ => frOf 0 205 [(4, .optr (.s 1) e1 3 0 0), (5, .int .i64 24)]) (fun s => ⟨[.hole, .vec e1 [[.nils, .nils, .nils]], .hole, .hole, .hole, .hole, .hole, .hole, .hole, .hole], objsD memL eps 0 (s.1) ++ [.vec (eps P.length) (rowsD memL 0 eps 0 P)]⟩) ?_ ?_ ?_
            · have e : (mix Q P i).set i (evS P[i] (mix bs ss 0)) = mix Q P i := by
                rw [mix_zero, hss]
                have := mix_at hQl hlt
                have e2 : evS P[i] P[i].stops = (mix Q P i)[i]'(by rw [mix_len hQl]; exact hlt) := by rw [this]; rfl
                rw [e2, List.set_getElem_self]
              rw [e]; exact rfl
            · rintro ⟨k, hk, hany⟩
              obtain ⟨M, hM⟩ : ∃ M : Nat → List Evt, M = fun k => (mix Q P i).set i (evS P[i] (mix bs ss k)) := ⟨_, rfl⟩
              have hMl : ∀ k, (M k).length = P.length := by intro k; rw [hM]; simp only [List.length_set]; exact mix_len hQl i
              have hMi : ∀ k (h : i < (M k).length), ((M k)[i]).stops = mix bs ss k := by intro k h; simp [hM, evS]
              show aexR _ _ _ (frOf 0 205 [(4, .optr (.s 1) e1 3 0 0), (7, .optr (.s 2) e2 3 0 0), (8, .oslc (.s 3) e3 1 0 P.length false), (19, .int .i64 (i : Int)), (20, .oslc (.d (0 + memL.c * (0 + i))) (eps (0 + i)) 5 0 ss.length false), (152, .int .i64 P.length), (153, .int .i64 (i : Int)), (166, .int .i64 ss.length), (167, .int .i64 (k : Int))]) ⟨[.hole, .vec e1 [[.lslc 5 [] 0 0 false, .lslc 5 [] 0 0 false, .lslc 5 [] 0 0 false]], .vec e2 [[crsA p.ins.cs, intsA p.ins.steps, .oslc (.s 9) epo 6 0 N false]], .vec e3 (fstR P.length F), .hole, .hole, .hole, .hole, .hole, .vec epo (rowsC eps (srcL 0 G) G.flatten)], objsD memL eps 0 ((mix Q P i).set i (evS P[i] (mix bs ss k))) ++ [.vec (eps P.length) (rowsD memL 0 eps 0 P)]⟩ _
              rw [show (mix Q P i).set i (evS P[i] (mix bs ss k)) = M k by rw [hM]]
              have hobj := fun k => objG (eps := eps) (X := [.vec (eps P.length) (rowsD memL 0 eps 0 P)]) (l := M k) (k := i) (by rw [hMl]; exact hlt) (hMi k _)
              (conv => whnf)
              refine ifB (fun g3 => ?_) (fun g3 => ?_)
              · simp only [decide_eq_true_eq] at g3
                have hk2 : k < ss.length := by omega
                have hst2 := mixR (f := stR) hbl hk2
                obtain ⟨y1, y2⟩ := hsh _ (List.getElem_mem hk2)
                have hbk : bs[k]'(by omega) = holdB F i ss[k] := by simp [hbs]
                have hsk : ss.any (longH F i) = true ∨ longH F i ss[k] = false := by
                  cases h : longH F i ss[k] with
                  | true => exact .inl (any_at hk2 h)
                  | false => exact .inr rfl
                have hst4 : ((mix bs ss (k + 1)).map stR)[0 + ((k : Nat) : Int).toNat]? = some (stR (bs[k]'(by omega))) := by
                  rw [Nat.zero_add, Int.toNat_natCast, List.getElem?_map, mix_succ hbl hk2, List.getElem?_set_self (by rw [mix_len hbl]; exact hk2)]
                  rfl
                have hlg : longH F i ss[k] = decide (15 < (bs[k]'(by omega)).h) := by rw [hbk]; rfl
                have hms := mix_succ hbl hk2
                have hmx : ∀ r, r = stR (bs[k]'(by omega)) → ((mix bs ss k).map stR).set (0 + ((k : Nat) : Int).toNat) r = (mix bs ss (k + 1)).map stR := fun r hr => mix_set (f := stR) hbl hk2 hr
                obtain ⟨b9, hb9⟩ : ∃ b9, b9 = bs[k]'(by omega) := ⟨_, rfl⟩
                rw [← hb9] at hst4 hlg hbk hms
                simp only [← hb9] at hmx
                by_cases h0 : 0 < ss[k].h
                · obtain ⟨u1, hu1⟩ : ∃ u1, u1 = F.getD i 0 := ⟨_, rfl⟩
                  obtain ⟨u2, hu2⟩ : ∃ u2, u2 = F.getD (i + ss[k].h.toNat) 0 := ⟨_, rfl⟩
                  have hu3 := hFl9 i
                  have hu4 := hFl9 (i + ss[k].h.toNat)
                  have hfst2 : (fstR P.length F)[0 + (IntKind.i64.wrap ((i : Int) + ss[k].h)).toNat]? = some [.int .i64 (u2 : Nat)] := by
                    rw [wrapI (by omega) (by omega), show (i : Int) + ss[k].h = ((i + ss[k].h.toNat : Nat) : Int) by omega, hu2]
                    exact fstR_at hFl y2
                  rw [← hu1] at hfst hu3
                  rw [← hu2] at hu4
                  have hb9h : b9 = { ss[k] with h := (u2 : Int) - (u1 : Int) } := by rw [hbk, holdB, if_pos h0, hu1, hu2]
                  have hset : (objsD memL eps 0 (M k) ++ [AObj.vec (eps P.length) (rowsD memL 0 eps 0 P)]).set (0 + memL.c * (0 + i)) (.vec (eps (0 + i)) (((mix bs ss k).map stR).set (0 + ((k : Nat) : Int).toNat) [.int .i64 ss[k].c, .int .i64 ss[k].f, .int .i64 ss[k].r, .int .i64 ss[k].g, .int .i64 (IntKind.i64.wrap ((u2 : Int) - (u1 : Int)))])) = objsD memL eps 0 (M (k + 1)) ++ [AObj.vec (eps P.length) (rowsD memL 0 eps 0 P)] := by
                    rw [hmx _ (by rw [hb9h, wrapI (by omega) (by omega)]; rfl), objS (ss := mix bs ss (k + 1)) (l := M k) (k := i) (by rw [hMl]; exact hlt) (e' := evS P[i] (mix bs ss (k + 1))) rfl]
                    simp only [hM, List.set_set]
                  (repeat' (first | exact rfl | ((conv => whnf); first | refine optO (hobj k) ?_ | refine optS hst2 ?_ | refine optS hfst ?_ | refine optS hfst2 ?_ | exact rfl | refine ⟨by kernel_rfl, ?_⟩ | exact ⟨rfl, rfl⟩ | refine ⟨rfl, ?_⟩ | refine ⟨by (first | omega | (simp (disch := omega) only [wrapI]; omega) | (simp (disch := omega) only [wrapI]; simp; omega) | (simp; omega)), ?_⟩ | (intro ep) | (refine ifB (fun hb => ?_) (fun hb => ?_) <;> (try (exfalso; first | (revert hb; simp only [beq_iff_eq, bne_iff_ne, beq_eq_false_iff_ne, bne_eq_false_iff_eq, decide_eq_true_eq, decide_eq_false_iff_not, ne_eq]; omega)))) | fail)))
                  (conv => whnf)
                  rw [hset]
                  (repeat' (first | exact rfl | ((conv => whnf); first | refine optO (hobj (k + 1)) ?_ | refine optS hst4 ?_ | exact rfl | refine ⟨by kernel_rfl, ?_⟩ | exact ⟨rfl, rfl⟩ | refine ⟨rfl, ?_⟩ | refine ⟨by (first | omega | (simp (disch := omega) only [wrapI]; omega) | (simp (disch := omega) only [wrapI]; simp; omega) | (simp; omega)), ?_⟩ | (intro ep) | (refine ifB (fun hb => ?_) (fun hb => ?_)) | fail)))
                  · (conv => whnf)
                    refine back_of ⟨M (k + 1), hMl _, any_at hk2 (by rw [hlg]; exact hb)⟩ ⟨by (first | exact rfl | (simp (disch := omega) only [wrapI]; exact rfl)), by exact rfl⟩
                  · (conv => whnf)
                    refine back_of ⟨k + 1, by omega, any_step hk2 hany (by rw [hlg]; exact hb)⟩ ⟨by (first | exact rfl | (simp (disch := omega) only [wrapI]; exact rfl)), ?_, by simp only; omega⟩
                    rw [show (mix Q P i).set i (evS P[i] (mix bs ss (k + 1))) = M (k + 1) by rw [hM]]
                    exact rfl
                · have hb9h : b9 = ss[k] := by rw [hbk, holdB, if_neg h0]
                  have hMk : M k = M (k + 1) := by
                    have h9 : (mix bs ss k)[k]'(by rw [mix_len hbl]; exact hk2) = b9 := by rw [mix_at hbl hk2, hb9h]
                    have : mix bs ss (k + 1) = mix bs ss k := by rw [hms, ← h9, List.set_getElem_self]
                    simp only [hM, this]
                  rw [hMk]
                  (repeat' (first | exact rfl | ((conv => whnf); first | refine optO (hobj (k + 1)) ?_ | refine optS hst4 ?_ | exact rfl | refine ⟨by kernel_rfl, ?_⟩ | exact ⟨rfl, rfl⟩ | refine ⟨rfl, ?_⟩ | refine ⟨by (first | omega | (simp (disch := omega) only [wrapI]; omega) | (simp (disch := omega) only [wrapI]; simp; omega) | (simp; omega)), ?_⟩ | (intro ep) | (refine ifB (fun hb => ?_) (fun hb => ?_) <;> (try (exfalso; rw [hb9h] at hb; revert hb; simp only [decide_eq_true_eq, decide_eq_false_iff_not]; omega))) | fail)))
                  (conv => whnf)
                  refine back_of ⟨k + 1, by omega, any_step hk2 hany (by rw [hlg, hb9h]; simp only [decide_eq_false_iff_not]; omega)⟩ ⟨by (first | exact rfl | (simp (disch := omega) only [wrapI]; exact rfl)), ?_, by simp only; omega⟩
                  rw [show (mix Q P i).set i (evS P[i] (mix bs ss (k + 1))) = M (k + 1) by rw [hM]]
                  exact rfl
              · simp only [decide_eq_false_iff_not] at g3
                obtain rfl : k = ss.length := by omega
                rw [List.take_length] at hany
                refine back_of ⟨(), hany⟩ ⟨rfl, ?_, ?_⟩
                · (first | exact rfl | (simp (disch := omega) only [wrapI]; exact rfl))
                · have : M ss.length = mix Q P (i + 1) := by rw [mix_succ hQl hlt, hQi]; simp only [hM, mix_end hbl]
                  rw [this]
                  exact rfl
            · rintro ⟨M, hM1, hM2⟩
              (conv => whnf)
              refine back_of ⟨M, hM1, by rw [hbad, hM2]; rfl⟩ ⟨?_, ?_⟩
              · (first | exact rfl | (simp (disch := omega) only [wrapI]; exact rfl))
              · exact rfl
            · rintro ⟨u, hu⟩
              (repeat' (first | exact rfl | ((conv => whnf); first | exact rfl | refine ⟨by kernel_rfl, ?_⟩ | exact ⟨rfl, rfl⟩ | refine ⟨rfl, ?_⟩ | refine ⟨by (first | omega | (simp (disch := omega) only [wrapI]; omega) | (simp (disch := omega) only [wrapI]; simp; omega) | (simp; omega)), ?_⟩ | (intro ep) | fail)))
              (conv => whnf)
              refine back_of ⟨i + 1, by omega, by rw [hbad, hu]; rfl⟩ ⟨?_, ?_, by simp only; omega⟩
              · (first | exact rfl | (simp (disch := omega) only [wrapI]; exact rfl))
              · exact rfl
          · simp only [decide_eq_false_iff_not] at g1
            obtain rfl : i = P.length := by omega
            rw [List.drop_length] at hbad
            refine back_of ⟨(), hbad⟩ ⟨rfl, ?_, ?_⟩
            · (first | exact rfl | (simp (disch := omega) only [wrapI]; exact rfl))
            · rw [mix_end hQl]
              exact rfl
        · rintro ⟨M, hM1, hM2⟩
          rw [if_pos hM2] at hR
          rw [hR]
          (repeat' ((conv => whnf); first | refine ⟨rfl, ?_⟩ | fail))
          (conv => whnf)
          exact end_errM (P := P) (M := M) (eps := eps) (epQ := eps P.length) hM1 rfl rfl
        · rintro ⟨u, hu⟩
          rw [if_neg (by rw [hu]; decide)] at hR
          rw [hR]
          (repeat' ((conv => whnf); first | refine ⟨rfl, ?_⟩ | fail))
          (conv => whnf)
          refine ⟨by (repeat' (first | exact trivial | exact eqsP_rows _ (fun x => rfl) | ((conv => whnf); first | exact trivial | refine ⟨rfl, ?_⟩ | refine ⟨?_, ?_⟩ | fail))), by (repeat' (first | exact trivial | exact eqsP_rows _ (fun x => rfl) | ((conv => whnf); first | exact trivial | refine ⟨rfl, ?_⟩ | refine ⟨?_, ?_⟩ | fail))), allO_app (allO_objsM eps _ 0) ⟨eqsP_rowsM eps P 0, trivial⟩, eqsP_rowsC eps _ _, ?_⟩
          intro ep2
          (repeat' ((conv => whnf); first | refine ⟨rfl, ?_⟩ | fail))
          (conv => whnf)
          have hXa : ∀ k (hk : k < P.length), (objsD memL eps 0 Q)[0 + memL.c * (0 + k)]? = some (.vec (eps (0 + k)) ((Q[k]'(by omega)).stops.map stR)) := by
            intro k hk
            have := objG (eps := eps) (X := []) (l := Q) (k := k) (by omega) rfl
            rwa [List.append_nil] at this
          refine end_mem2 (X := objsD memL eps 0 Q) (Y := [AObj.vec (eps P.length) (rowsD memL 0 eps 0 P)]) (l := brkO F 0 G) (ep := ep2) (rows := rowsC eps (srcL 0 G) G.flatten) ?_ (objsM_pure Q 0) ?_ ?_ ?_ ?_
          · rw [objsD_len, hQl]; exact Nat.one_mul _
          · intro o ho
            obtain rfl := List.mem_singleton.1 ho
            exact rowsM_fzP P 0 fun k hk => ⟨_, hXa k hk⟩
          · refine rowsC_fz hB0 hTG htp fun k hk => ?_
            have h := hXa k hk
            rw [Nat.zero_add k] 
            rw [h]
            simp only [hQ, brkM, List.getElem_mapIdx]
            rfl
          · rw [brkO_len]; exact hN
          · show (objsD memL eps 0 Q ++ [AObj.vec (eps P.length) (rowsD memL 0 eps 0 P)] ++ [AObj.vec ep2 (rowsC eps (srcL 0 G) G.flatten)]).map (AObj.mapc (mcS 9 (objsD memL eps 0 Q ++ [AObj.vec (eps P.length) (rowsD memL 0 eps 0 P)]).length ep2)) = _
            rw [List.map_append, List.map_append, objsM_mc]
            show _ ++ [AObj.vec (eps P.length) ((rowsD memL 0 eps 0 P).map fun r => r.map (mcS 9 (objsD memL eps 0 Q ++ [AObj.vec (eps P.length) (rowsD memL 0 eps 0 P)]).length ep2))] ++ [AObj.vec ep2 ((rowsC eps (srcL 0 G) G.flatten).map fun r => r.map (mcS 9 (objsD memL eps 0 Q ++ [AObj.vec (eps P.length) (rowsD memL 0 eps 0 P)]).length ep2))] = _
            rw [rowsM_mc, rowsC_mc]
  · rw [if_pos hc]
    have f0 := plain_spec p hp hs
    unfold plnP at f0
    rw [if_pos hc] at f0
    refine pretD_of ok mixed (A := A13) 10 Tryz.func13 rfl ?_
    (repeat' (first | exact rfl | ((conv => whnf); first | refine ⟨_, f0, ?_⟩ | exact rfl | refine ⟨by kernel_rfl, ?_⟩ | exact ⟨rfl, rfl⟩ | refine ⟨rfl, ?_⟩ | refine ⟨by (first | omega | (simp (disch := omega) only [wrapI]; omega) | (simp (disch := omega) only [wrapI]; simp; omega) | (simp; omega)), ?_⟩ | (intro ep) | refine ⟨fun o ho => (List.not_mem_nil (a := o) ho).elim, ?_⟩ | (refine ifB (fun hb => ?_) (fun hb => ?_) <;> (try simp only [decide_eq_true_eq, decide_eq_false_iff_not, beq_iff_eq, beq_eq_false_iff_ne, bne_iff_ne, bne_eq_false_iff_eq, ne_eq, not_false_eq_true, not_true_eq_false, Bool.not_eq_true, Bool.not_eq_true', Bool.not_eq_false', Int.not_lt, Int.not_le] at hb) <;> (try simp (disch := omega) only [wrapI] at hb) <;> (try (exfalso; omega))) | fail)))

end Go.Ab.V
