/-
  What is proved here serves the law's text: each part says its own claim and its conditions. No condition is left open.
-/
import Derived.Test.YthdhhhgjdegafaaKO
import Derived.Test.YthdhhhgjdegafaaKS
set_option linter.unusedSimpArgs false
set_option linter.unusedVariables false

namespace Go.Ab
theorem optO {o : Option AObj} {ep : Nat} {rows : List (List AV)} {P : Nat → List (List AV) → Prop} (h : o = some (.vec ep rows)) (hk : P ep rows) : (match (generalizing := false) o with | some (.vec ep' rows) => P ep' rows | _ => False) := by
 subst h; exact hk
theorem Sim.liftCI {σ : Sg} {h : Heap} {w : World} (s : Sim σ h w) {b : Nat} {id : Id} {e sz i k : Nat} {rows : List (List AV)} {row : List AV} (hne : Id.s b ≠ id) (hb : h[Id.s b]? = some (.vec e rows)) (hr : rows[i]? = some row) (hk : row[k]? = some .nils) :
  ∃ ep σ1, Mv σ h w σ1 ((h.set id (.vec ep [])).set (.s b) (.vec e (rows.set i (row.set k (.oslc id ep sz 0 0 false))))) w := by
 obtain ⟨ep, σ1, m1, hp⟩ := s.allocNil id
 have hb1 : (h.set id (.vec ep []))[Id.s b]? = some (.vec e rows) := by
  rw [Heap.getElem?_set_ne (Ne.symm hne)]; exact hb
 refine ⟨ep, σ1, m1.trans ?_⟩
 rcases m1.sim.obj _ _ hb1 with ⟨x, _⟩ | ⟨blk, st, sz1, n, size, cs, T, h1, h2, h3, h4, h5, h6, h7, h8⟩
 ·subst x; simp at hr
 ·refine m1.sim.write (blk := blk) hb1 (by simp [AObj.blk, h1]) (by simp [AObj.blk, h1]) (fun _ _ => rfl) rfl (.refl w) (.inr ⟨blk, st, sz1, n, size, cs, T, h1, h2, h3, by simpa using h4, h5, h6, fun i' row' hr' => ?_, fun i' k' c hc => ?_⟩)
  ·by_cases hi : i = i'
   ·subst hi
    rw [List.getElem?_set_self'] at hr'
    rw [hr] at hr'
    simp at hr'
    subst hr'
    have := h7 i row hr
    simpa using this
   ·rw [List.getElem?_set_ne hi] at hr'
    exact h7 i' row' hr'
  ·obtain ⟨row', hr', hk'⟩ := cellAt_get hc
   by_cases hi : i = i'
   ·subst hi
    rw [List.getElem?_set_self', hr] at hr'
    simp at hr'
    subst hr'
    by_cases hkk : k = k'
    ·subst hkk
     rw [List.getElem?_set_self', hk] at hk'
     simp at hk'
     subst hk'
     obtain ⟨v, a1, a2, a3⟩ := h8 i k .nils (by simp [cellAt, hr, hk])
     cases a3
     exact ⟨_, a1, a2, .onil hp⟩
    ·rw [List.getElem?_set_ne hkk] at hk'
     exact h8 i k' c (by simp [cellAt, hr, hk'])
   ·rw [List.getElem?_set_ne hi] at hr'
    exact h8 i' k' c (by simp [cellAt, hr', hk'])
def rowsF (sz B : Nat) (eps : Nat → Nat) : Nat → List (List (List AV)) → List (List AV)
 | _, [] => []
 | i, r :: R => [.oslc (.d (B + i)) (eps i) sz 0 r.length false] :: rowsF sz B eps (i + 1) R
def objsF (eps : Nat → Nat) : Nat → List (List (List AV)) → List AObj
 | _, [] => []
 | i, r :: R => .vec (eps i) r :: objsF eps (i + 1) R
def updE (eps : Nat → Nat) (j e : Nat) : Nat → Nat := fun i => if i = j then e else eps i
theorem rowsF_len {sz B : Nat} {eps : Nat → Nat} : ∀ {R : List (List (List AV))} {i : Nat}, (rowsF sz B eps i R).length = R.length
 | [], _ => rfl
 | r :: R, i => by simp [rowsF, rowsF_len (R := R)]
theorem objsF_len {eps : Nat → Nat} : ∀ {R : List (List (List AV))} {i : Nat}, (objsF eps i R).length = R.length
 | [], _ => rfl
 | r :: R, i => by simp [objsF, objsF_len (R := R)]
theorem rowsF_get {sz B : Nat} {eps : Nat → Nat} : ∀ {R : List (List (List AV))} {i k : Nat} (h : k < R.length), (rowsF sz B eps i R)[k]? = some [.oslc (.d (B + (i + k))) (eps (i + k)) sz 0 R[k].length false]
 | r :: R, i, 0, _ => rfl
 | r :: R, i, k + 1, h => by
  simp only [rowsF, List.getElem?_cons_succ, List.getElem_cons_succ]
  rw [rowsF_get (R := R) (i := i + 1) (k := k) (by simpa using h), show i + 1 + k = i + (k + 1) by omega]
theorem objsF_get {eps : Nat → Nat} : ∀ {R : List (List (List AV))} {i k : Nat} (h : k < R.length), (objsF eps i R)[k]? = some (.vec (eps (i + k)) R[k])
 | r :: R, i, 0, _ => rfl
 | r :: R, i, k + 1, h => by
  simp only [objsF, List.getElem?_cons_succ, List.getElem_cons_succ]
  rw [objsF_get (R := R) (i := i + 1) (k := k) (by simpa using h), show i + 1 + k = i + (k + 1) by omega]
theorem rowsF_eps {sz B : Nat} {eps eps' : Nat → Nat} : ∀ {R : List (List (List AV))} {i : Nat}, (∀ k, i ≤ k → eps k = eps' k) → rowsF sz B eps i R = rowsF sz B eps' i R
 | [], _, _ => rfl
 | r :: R, i, h => by simp only [rowsF]; rw [h i (Nat.le_refl _), rowsF_eps (R := R) fun k hk => h k (by omega)]
theorem objsF_eps {eps eps' : Nat → Nat} : ∀ {R : List (List (List AV))} {i : Nat}, (∀ k, i ≤ k → eps k = eps' k) → objsF eps i R = objsF eps' i R
 | [], _, _ => rfl
 | r :: R, i, h => by simp only [objsF]; rw [h i (Nat.le_refl _), objsF_eps (R := R) fun k hk => h k (by omega)]
theorem rowsF_set {sz B : Nat} {eps : Nat → Nat} {e : Nat} {r' : List (List AV)} : ∀ {R : List (List (List AV))} {i k : Nat} (h : k < R.length),
  (rowsF sz B eps i R).set k [.oslc (.d (B + (i + k))) e sz 0 r'.length false] = rowsF sz B (updE eps (i + k) e) i (R.set k r')
 | r :: R, i, 0, _ => by
  simp only [rowsF, List.set_cons_zero, Nat.add_zero]
  rw [show updE eps i e i = e by simp [updE], rowsF_eps (R := R) (eps := eps) (eps' := updE eps i e) fun k hk => by unfold updE; rw [if_neg (by omega)]]
 | r :: R, i, k + 1, h => by
  simp only [rowsF, List.set_cons_succ]
  rw [show i + (k + 1) = i + 1 + k by omega, rowsF_set (R := R) (i := i + 1) (k := k) (by simpa using h), show updE eps (i + 1 + k) e i = eps i by unfold updE; rw [if_neg (by omega)]]
theorem objsF_set {eps : Nat → Nat} {e : Nat} {r' : List (List AV)} : ∀ {R : List (List (List AV))} {i k : Nat} (h : k < R.length),
  (objsF eps i R).set k (.vec e r') = objsF (updE eps (i + k) e) i (R.set k r')
 | r :: R, i, 0, _ => by
  simp only [objsF, List.set_cons_zero, Nat.add_zero]
  rw [show updE eps i e i = e by simp [updE], objsF_eps (R := R) (eps := eps) (eps' := updE eps i e) fun k hk => by unfold updE; rw [if_neg (by omega)]]
 | r :: R, i, k + 1, h => by
  simp only [objsF, List.set_cons_succ]
  rw [show i + (k + 1) = i + 1 + k by omega, objsF_set (R := R) (i := i + 1) (k := k) (by simpa using h), show updE eps (i + 1 + k) e i = eps i by unfold updE; rw [if_neg (by omega)]]
theorem Sim.fan {σ : Sg} {h : Heap} {w : World} {b e sz : Nat} : ∀ (n : Nat) {σ0 : Sg} {pre : List (List AV)}, Sim σ h w → h[Id.s b]? = some (.vec e (pre ++ List.replicate n [AV.nils])) →
  ∃ eps σ1, Mv σ h w σ1 ⟨h.st.set b (.vec e (pre ++ rowsF sz h.dy.length eps 0 (List.replicate n []))), h.dy ++ objsF eps 0 (List.replicate n [])⟩ w := by
 intro n
 induction n generalizing σ h with
 | zero =>
  intro σ0 pre s hb
  have e1 : (⟨h.st.set b (.vec e (pre ++ rowsF sz h.dy.length (fun _ => 0) 0 (List.replicate 0 []))), h.dy ++ objsF (fun _ => 0) 0 (List.replicate 0 [])⟩ : Heap) = h := by
   have := Heap.set_self hb
   simpa [Heap.set, rowsF, objsF] using this
  exact ⟨fun _ => 0, σ, by rw [e1]; exact .refl s⟩
 | succ n ih =>
  intro σ0 pre s hb
  have m0 : Mv σ h w σ ⟨h.st, h.dy ++ [.hole]⟩ w := s.forget fun i o ho => by
   cases i with
   | s k => exact .inr ho
   | d k =>
    have ho : (h.dy ++ [AObj.hole])[k]? = some o := ho
    rw [List.getElem?_append] at ho
    split at ho
    ·exact .inr ho
    ·left
     cases hk : k - h.dy.length with
     | zero => rw [hk] at ho; exact (Option.some.inj ho).symm
     | succ q => rw [hk] at ho; simp at ho
  have hb0 : (⟨h.st, h.dy ++ [.hole]⟩ : Heap)[Id.s b]? = some (.vec e (pre ++ [.nils] :: List.replicate n [AV.nils])) := hb
  obtain ⟨ep, σ1, m1⟩ := m0.sim.liftCI (sz := sz) (id := .d h.dy.length) (i := pre.length) (k := 0) (row := [.nils]) (by intro x; cases x) hb0 (by simp) rfl
  have e1 : ((⟨h.st, h.dy ++ [.hole]⟩ : Heap).set (.d h.dy.length) (.vec ep [])).set (.s b) (.vec e ((pre ++ [.nils] :: List.replicate n [AV.nils]).set pre.length ([AV.nils].set 0 (.oslc (.d h.dy.length) ep sz 0 0 false)))) =
    ⟨h.st.set b (.vec e ((pre ++ [[.oslc (.d h.dy.length) ep sz 0 0 false]]) ++ List.replicate n [AV.nils])), h.dy ++ [.vec ep []]⟩ := by
   show Heap.mk (h.st.set b _) ((h.dy ++ [AObj.hole]).set h.dy.length (.vec ep [])) = _
   rw [List.set_append_right _ _ (Nat.le_refl _), List.set_append_right _ _ (Nat.le_refl _)]
   simp
  rw [e1] at m1
  have hb1 : (⟨h.st.set b (.vec e ((pre ++ [[.oslc (.d h.dy.length) ep sz 0 0 false]]) ++ List.replicate n [AV.nils])), h.dy ++ [.vec ep []]⟩ : Heap)[Id.s b]? = some (.vec e ((pre ++ [[.oslc (.d h.dy.length) ep sz 0 0 false]]) ++ List.replicate n [AV.nils])) := by
   have hb : h.st[b]? = some _ := hb
   show (h.st.set b _)[b]? = _
   rw [List.getElem?_set_self']
   rw [hb]; rfl
  obtain ⟨eps, σ2, m2⟩ := ih (σ0 := σ) m1.sim hb1
  refine ⟨fun i => if i = 0 then ep else eps (i - 1), σ2, ?_⟩
  have e2 : (⟨(h.st.set b (.vec e ((pre ++ [[.oslc (.d h.dy.length) ep sz 0 0 false]]) ++ List.replicate n [AV.nils]))).set b (.vec e ((pre ++ [[.oslc (.d h.dy.length) ep sz 0 0 false]]) ++ rowsF sz (h.dy ++ [AObj.vec ep []]).length eps 0 (List.replicate n []))), (h.dy ++ [AObj.vec ep []]) ++ objsF eps 0 (List.replicate n [])⟩ : Heap) =
    ⟨h.st.set b (.vec e (pre ++ rowsF sz h.dy.length (fun i => if i = 0 then ep else eps (i - 1)) 0 (List.replicate (n + 1) []))), h.dy ++ objsF (fun i => if i = 0 then ep else eps (i - 1)) 0 (List.replicate (n + 1) [])⟩ := by
   have sh : ∀ (m i : Nat), rowsF sz (h.dy ++ [AObj.vec ep []]).length eps i (List.replicate m []) = rowsF sz h.dy.length (fun i => if i = 0 then ep else eps (i - 1)) (i + 1) (List.replicate m []) := by
    intro m
    induction m with
    | zero => intro i; rfl
    | succ m im =>
     intro i
     simp only [List.replicate_succ, rowsF]
     rw [im (i + 1)]
     simp [show h.dy.length + 1 + i = h.dy.length + (i + 1) by omega]
   have so : ∀ (m i : Nat), objsF eps i (List.replicate m []) = objsF (fun i => if i = 0 then ep else eps (i - 1)) (i + 1) (List.replicate m []) := by
    intro m
    induction m with
    | zero => intro i; rfl
    | succ m im =>
     intro i
     simp only [List.replicate_succ, objsF]
     rw [im (i + 1)]
     simp
   rw [List.set_set, sh n 0, so n 0]
   simp [List.replicate_succ, rowsF, objsF]
  have m3 := (m0.trans m1).trans m2
  rw [e2] at m3
  exact m3
theorem wk_fan {C : Ctx} {c : Code} {fr : List AV} {h : Heap} {K : AE → List AV → Heap → Prop} (b e sz n : Nat) (hb : h[Id.s b]? = some (.vec e (List.replicate n [AV.nils])))
  (hc : ∀ eps, WK C c fr ⟨h.st.set b (.vec e (rowsF sz h.dy.length eps 0 (List.replicate n []))), h.dy ++ objsF eps 0 (List.replicate n [])⟩ K) : WK C c fr h K := by
 refine ⟨fun rd B σ w a Q hrd hy hB s hf hd hQ => ?_⟩
 obtain ⟨eps, σ1, m⟩ := Sim.fan (sz := sz) n (σ0 := σ) (pre := []) s (by simpa using hb)
 rw [List.nil_append] at m
 exact (hc eps).use rd B σ1 w a Q hrd (hy.mono m.le) hB m.sim (hf.mono m.le) (hd.mono m.le) fun e fr2 h2 σ2 a2 w2 k2 m2 => hQ e fr2 h2 σ2 a2 w2 k2 (m.trans m2)
theorem rowsF_fz {sz : Nat} {eps : Nat → Nat} {X : List AObj} : ∀ (R : List (List (List AV))) (i : Nat), (∀ k (h : k < R.length), X[i + k]? = some (.vec (eps (i + k)) R[k])) → ((rowsF sz 0 eps i R).map fun r => r.map (fzC X)) = R.map fun r => [.lslc sz r 0 r.length false]
 | [], _, _ => rfl
 | r :: R, i, h => by
  have h0 := h 0 (by simp)
  have ih := rowsF_fz (sz := sz) (eps := eps) (X := X) R (i + 1) fun k hk => by
   have := h (k + 1) (by simpa using hk)
   rw [show i + (k + 1) = i + 1 + k by omega] at this
   simpa using this
  simp only [rowsF, List.map_cons, ih, List.cons.injEq, and_true]
  simp only [Nat.add_zero, List.getElem_cons_zero] at h0
  simp [fzC, h0]
end Go.Ab
