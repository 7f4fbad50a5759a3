/-
  What is proved here serves the law's text: each part says its own claim and its conditions. No condition is left open.
-/
import Derived.Test.YthdhhhgjdegafaaKO
import Derived.Test.YthdhhhgjdegafaaKU
set_option linter.unusedSimpArgs false
set_option linter.unusedVariables false

namespace Go.Ab
def mcG (n len ep2 : Nat) : AV → AV
 | .oslc (.s k) ep sz off l lim => match Nat.beq k n with
  | true => .oslc (.d len) ep2 sz off l lim
  | false => .oslc (.s k) ep sz off l lim
 | .optr (.s k) ep sz i off => match Nat.beq k n with
  | true => .optr (.d len) ep2 sz i off
  | false => .optr (.s k) ep sz i off
 | .mp (.s k) ep => match Nat.beq k n with
  | true => .mp (.d len) ep2
  | false => .mp (.s k) ep
 | a => a
def okG (n ep : Nat) : AV → Prop
 | .oslc (.s k) e _ _ _ _ => (match Nat.beq k n with | true => e = ep | false => True)
 | .optr (.s k) e _ _ _ => (match Nat.beq k n with | true => e = ep | false => True)
 | .mp (.s k) e => (match Nat.beq k n with | true => e = ep | false => True)
 | _ => True
def eqsG (n ep : Nat) : List AV → Prop
 | [] => True
 | a :: r => okG n ep a ∧ eqsG n ep r
def allG (n ep : Nat) : List AObj → Prop
 | [] => True
 | o :: r => eqsG n ep (celO o) ∧ allG n ep r
theorem eqsG_all {n ep : Nat} : ∀ {l : List AV}, eqsG n ep l → ∀ a ∈ l, okG n ep a
 | b :: r, h, a, ha => by
  rcases List.mem_cons.1 ha with rfl | h2
  ·exact h.1
  ·exact eqsG_all h.2 a h2
theorem eqsG_of {n ep : Nat} : ∀ {l : List AV}, (∀ a ∈ l, okG n ep a) → eqsG n ep l
 | [], _ => trivial
 | b :: r, h => ⟨h b (List.mem_cons_self ..), eqsG_of fun a ha => h a (List.mem_cons_of_mem _ ha)⟩
theorem allG_get {n ep : Nat} : ∀ {l : List AObj}, allG n ep l → ∀ o ∈ l, eqsG n ep (celO o)
 | o :: r, h, x, hx => by
  rcases List.mem_cons.1 hx with rfl | hx
  ·exact h.1
  ·exact allG_get h.2 x hx
theorem allG_of {n ep : Nat} : ∀ {l : List AObj}, (∀ o ∈ l, eqsG n ep (celO o)) → allG n ep l
 | [], _ => trivial
 | b :: r, h => ⟨h b (List.mem_cons_self ..), allG_of fun a ha => h a (List.mem_cons_of_mem _ ha)⟩
def noSt : AV → Bool
 | .oslc (.s _) _ _ _ _ _ | .optr (.s _) _ _ _ _ | .mp (.s _) _ => false
 | _ => true
theorem okG_no {n ep : Nat} {a : AV} (h : noSt a = true) : okG n ep a := by
 unfold okG
 split <;> first | trivial | simp [noSt] at h
theorem mcG_no {n len ep2 : Nat} {a : AV} (h : noSt a = true) : mcG n len ep2 a = a := by
 unfold mcG
 split <;> first | rfl | simp [noSt] at h
def noO (o : AObj) : Prop := ∀ a ∈ celO o, noSt a = true
theorem noO_eqs {n ep : Nat} {o : AObj} (h : noO o) : eqsG n ep (celO o) := eqsG_of fun a ha => okG_no (h a ha)
theorem noO_map {n len ep2 : Nat} {o : AObj} (h : noO o) : o.mapc (mcG n len ep2) = o := by
 cases o with
 | hole => rfl
 | vec ep rows =>
  simp only [AObj.mapc, AObj.vec.injEq, true_and]
  conv => rhs; rw [← List.map_id rows]
  refine List.map_congr_left fun r hr => ?_
  conv => rhs; rw [id, ← List.map_id r]
  exact List.map_congr_left fun a ha => mcG_no (h a (List.mem_flatten.2 ⟨r, hr, ha⟩))
 | map ep es =>
  simp only [AObj.mapc, AObj.map.injEq, true_and]
  conv => rhs; rw [← List.map_id es]
  refine List.map_congr_left fun p hp => ?_
  have h1 := mcG_no (n := n) (len := len) (ep2 := ep2) (h p.1 (List.mem_flatMap.2 ⟨p, hp, by simp⟩))
  have h2 := mcG_no (n := n) (len := len) (ep2 := ep2) (h p.2 (List.mem_flatMap.2 ⟨p, hp, by simp⟩))
  simp only [h1, h2, id]
theorem noO_all {n ep : Nat} {D : List AObj} (h : ∀ o ∈ D, noO o) : allG n ep D := allG_of fun o ho => noO_eqs (h o ho)
theorem noO_maps {n len ep2 : Nat} {D : List AObj} (h : ∀ o ∈ D, noO o) : D.map (AObj.mapc (mcG n len ep2)) = D := by
 conv => rhs; rw [← List.map_id D]
 exact List.map_congr_left fun o ho => noO_map (h o ho)
theorem Sim.mvG {n ep : Nat} {σ : Sg} {fr : List AV} {h : Heap} {w : World} {vs : List Value} {o : AObj} (hf : VRels σ fr vs) (s : Sim σ h w) (hn : h[Id.s n]? = some o) (he : o.ep? = some ep)
  (q0 : eqsG n ep (fr.flatMap celV)) (q1 : allG n ep (h.st.set n .hole)) (q2 : allG n ep h.dy) (q3 : eqsG n ep (celO o)) :
  ∃ ep2 σ', Mv σ h w σ' ⟨(h.st.set n .hole).map (AObj.mapc (mcG n h.dy.length ep2)), (h.dy ++ [o.reEp ep2]).map (AObj.mapc (mcG n h.dy.length ep2))⟩ w ∧ VRels σ' (fr.map (mapV (mcG n h.dy.length ep2))) vs := by
 obtain ⟨ep2, σ', m, hρ⟩ := s.move (n := n) (ep := ep) hn he
 have back : ∀ pl, σ'.ρ (.s n) ep = some pl → σ.ρ (.s n) ep = some pl := by
  intro pl hp
  have hob := s.obj _ _ hn
  cases o with
  | hole => simp [AObj.ep?] at he
  | vec e rows =>
   simp only [AObj.ep?, Option.some.injEq] at he
   subst he
   rcases hob with ⟨_, x⟩ | ⟨blk, st, sz1, n1, size, cs, T, x, _⟩
   ·have := m.le.ρ _ _ _ x; rw [this] at hp; rw [x, hp]
   ·have := m.le.ρ _ _ _ x; rw [this] at hp; rw [x, hp]
  | map e es =>
   simp only [AObj.ep?, Option.some.injEq] at he
   subst he
   obtain ⟨blk, st, sz1, n1, size, ents, clock, x, _⟩ := hob
   have := m.le.ρ _ _ _ x; rw [this] at hp; rw [x, hp]
 have re := fun (v : Value) => VRel.reid (σ := σ') (σ' := σ') (id := .s n) (id2 := .d h.dy.length) (ep := ep) (ep2 := ep2) ⟨fun _ _ _ x => x, fun _ _ x => x⟩ (fun pl x => hρ pl (back pl x)) (v := v)
 have cell : ∀ {c : AV}, okG n ep c → ∀ u, VRel σ' c u → VRel σ' (mcG n h.dy.length ep2 c) u := by
  intro c hc u hu
  unfold mcG
  split
  ·split
   ·rename_i e
    simp only [okG, e] at hc
    have e := Nat.eq_of_beq_eq_true e
    subst e hc
    exact (re u).1 hu
   ·exact hu
  ·split
   ·rename_i e
    simp only [okG, e] at hc
    have e := Nat.eq_of_beq_eq_true e
    subst e hc
    exact (re u).2.1 hu
   ·exact hu
  ·split
   ·rename_i e
    simp only [okG, e] at hc
    have e := Nat.eq_of_beq_eq_true e
    subst e hc
    exact (re u).2.2 hu
   ·exact hu
  ·exact hu
 have q3' : eqsG n ep (celO (o.reEp ep2)) := by cases o <;> exact q3
 have ob : ∀ (i : Id) (x : AObj), (⟨h.st.set n .hole, h.dy ++ [o.reEp ep2]⟩ : Heap)[i]? = some x → ∀ a ∈ celO x, okG n ep a := by
  intro i x ho a ha
  cases i with
  | s k => exact eqsG_all (allG_get q1 x (List.mem_of_getElem? (show (h.st.set n .hole)[k]? = some x from ho))) a ha
  | d k =>
   have hm := List.mem_of_getElem? (show (h.dy ++ [o.reEp ep2])[k]? = some x from ho)
   rcases List.mem_append.1 hm with hm | hm
   ·exact eqsG_all (allG_get q2 x hm) a ha
   ·obtain rfl := List.mem_singleton.1 hm
    exact eqsG_all q3' a ha
 have m2 := Sim.recell (f := mcG n h.dy.length ep2) m.sim fun i o ho a ha u hu => cell (ob i o ho a ha) u hu
 refine ⟨ep2, σ', m.trans m2, ⟨by simpa using hf.1, fun i a v x y => ?_⟩⟩
 rw [List.getElem?_map, Option.map_eq_some_iff] at x
 obtain ⟨a', x, rfl⟩ := x
 exact VRel.mapV (fun c hc u hu => cell (eqsG_all q0 c (List.mem_flatMap.2 ⟨a', List.mem_of_getElem? x, hc⟩)) u hu) ((hf.2 i a' v x y).mono m.le)
theorem wk_mvG {C : Ctx} {c : Code} {fr : List AV} {h : Heap} {K : AE → List AV → Heap → Prop} (n ep : Nat) {o : AObj} (hn : h[Id.s n]? = some o) (he : o.ep? = some ep)
  (q0 : eqsG n ep (fr.flatMap celV)) (q1 : allG n ep (h.st.set n .hole)) (q2 : allG n ep h.dy) (q3 : eqsG n ep (celO o))
  (hc : ∀ ep2, WK C c (fr.map (mapV (mcG n h.dy.length ep2))) ⟨(h.st.set n .hole).map (AObj.mapc (mcG n h.dy.length ep2)), (h.dy ++ [o.reEp ep2]).map (AObj.mapc (mcG n h.dy.length ep2))⟩ K) : WK C c fr h K := by
 refine ⟨fun rd B σ w a Q hrd hy hB s hf hd hQ => ?_⟩
 obtain ⟨ep2, σ1, m, hv⟩ := s.mvG hf hn he q0 q1 q2 q3
 exact (hc ep2).use rd B σ1 w a Q hrd (hy.mono m.le) hB m.sim hv (hd.mono m.le) fun e fr2 h2 σ2 a2 w2 k2 m2 => hQ e fr2 h2 σ2 a2 w2 k2 (m.trans m2)
theorem wk_mask {C : Ctx} {c : Code} {fr : List AV} {h : Heap} {K : AE → List AV → Heap → Prop} (l k : List Nat) {fr' : List AV} {h' : Heap} (e1 : maskF 0 l fr = fr') (e2 : maskH 0 k h = h') (hc : WK C c fr' h' K) : WK C c fr h K := by
 subst e1 e2
 refine ⟨fun rd B σ w a Q hrd hy hB s hf hd hQ => ?_⟩
 have m : Mv σ h w σ (maskH 0 k h) w := s.forget fun i o x => maskH_get _ _ _ _ _ x
 exact hc.use rd B σ w a Q hrd hy hB m.sim (maskF_rel _ _ _ _ hf) hd fun e fr2 h2 σ2 a2 w2 k2 m2 => hQ e fr2 h2 σ2 a2 w2 k2 (m.trans m2)
theorem ACalls.liftC {P : Program} {f : FuncId} {args : List AV} {h : Heap} {K : AV → Heap → Prop} (b j e sz i k : Nat) {rows : List (List AV)} {row : List AV} (hne : b ≠ j) (hb : h[Id.s b]? = some (.vec e rows)) (hr : rows[i]? = some row) (hk : row[k]? = some .nils)
  (hc : ∀ ep, ACalls P f args ((h.set (.s j) (.vec ep [])).set (.s b) (.vec e (rows.set i (row.set k (.oslc (.s j) ep sz 0 0 false))))) K) : ACalls P f args h K := by
 refine ⟨fun σ w vs s hv => ?_⟩
 obtain ⟨ep, σ1, m⟩ := s.liftC (sz := sz) hne hb hr hk
 refine ((hc ep).use σ1 w vs m.sim (hv.mono m.le)).mono ?_
 rintro e w' ⟨v, rfl, σ2, h2, r, hk, m2, x⟩
 exact ⟨v, rfl, σ2, h2, r, hk, m.trans m2, x⟩
end Go.Ab

namespace Go.Ab
theorem congrArg₂' {α β γ : Type} (f : α → β → γ) {a a' : α} {b b' : β} (h1 : a = a') (h2 : b = b') : f a b = f a' b' := by subst h1 h2; rfl
def TR (fr : List AV) (h : Heap) (K : List AV → Heap → Prop) : Prop :=
 ∀ (σ : Sg) (w : World) (vs : List Value), VRels σ fr vs → Sim σ h w → ∃ σ' fr' h', K fr' h' ∧ Mv σ h w σ' h' w ∧ VRels σ' fr' vs
section
variable {fr : List AV} {h : Heap} {K : List AV → Heap → Prop}
theorem tr_done (k : K fr h) : TR fr h K := fun σ w vs hf s => ⟨_, fr, h, k, .refl s, hf⟩
theorem tr_mask (l k : List Nat) {fr' : List AV} {h' : Heap} (e1 : maskF 0 l fr = fr') (e2 : maskH 0 k h = h') (hc : TR fr' h' K) : TR fr h K := by
 subst e1 e2
 intro σ w vs hf s
 have m : Mv σ h w σ (maskH 0 k h) w := s.forget fun i o x => maskH_get _ _ _ _ _ x
 obtain ⟨σ2, fr2, h2, k2, m2, r2⟩ := hc σ w vs (maskF_rel _ _ _ _ hf) m.sim
 exact ⟨σ2, fr2, h2, k2, m.trans m2, r2⟩
theorem fcS_noSt {n : Nat} {rows : List (List AV)} {a : AV} (h : noSt a = true) : fcS n rows a = a := by
 unfold fcS
 split <;> first | rfl | simp [noSt] at h
theorem fcO_noO {n : Nat} {rows : List (List AV)} {o : AObj} (h : noO o) : o.fcO n rows = o := by
 cases o with
 | hole => rfl
 | vec ep rs =>
  simp only [AObj.fcO, AObj.vec.injEq, true_and]
  conv => rhs; rw [← List.map_id rs]
  refine List.map_congr_left fun r hr => ?_
  conv => rhs; rw [id, ← List.map_id r]
  exact List.map_congr_left fun a ha => fcS_noSt (h a (List.mem_flatten.2 ⟨r, hr, ha⟩))
 | map ep es =>
  simp only [AObj.fcO, AObj.map.injEq, true_and]
  conv => rhs; rw [← List.map_id es]
  refine List.map_congr_left fun p hp => ?_
  have h1 := fcS_noSt (n := n) (rows := rows) (h p.1 (List.mem_flatMap.2 ⟨p, hp, by simp⟩))
  have h2 := fcS_noSt (n := n) (rows := rows) (h p.2 (List.mem_flatMap.2 ⟨p, hp, by simp⟩))
  simp only [h1, h2, id]
theorem fcO_nos {n : Nat} {rows : List (List AV)} {D : List AObj} (h : ∀ o ∈ D, noO o) : D.map (AObj.fcO n rows) = D := by
 conv => rhs; rw [← List.map_id D]
 exact List.map_congr_left fun o ho => fcO_noO (h o ho)
theorem eqsP_cons {n ep : Nat} {a : AV} {r : List AV} (ha : noSt a = true) (h : eqsP n ep r) : eqsP n ep (a :: r) := by
 unfold eqsP
 split
 ·simp [noSt] at ha
 ·exact h
theorem eqsP_noSt {n ep : Nat} : ∀ {l : List AV}, (∀ a ∈ l, noSt a = true) → eqsP n ep l
 | [], _ => trivial
 | a :: r, h => eqsP_cons (h a (List.mem_cons_self ..)) (eqsP_noSt fun b hb => h b (List.mem_cons_of_mem _ hb))
theorem allO_noSt {n ep : Nat} : ∀ {D : List AObj}, (∀ o ∈ D, noO o) → allO n ep D
 | [], _ => trivial
 | o :: r, h => ⟨eqsP_noSt (h o (List.mem_cons_self ..)), allO_noSt fun b hb => h b (List.mem_cons_of_mem _ hb)⟩
theorem tr_fz {st dy : List AObj} (n ep : Nat) {rows : List (List AV)} {fr' : List AV} {st' : List AObj} (hn : st[n]? = some (.vec ep rows)) (hp : pureRows rows) (q1 : eqsP n ep (fr.flatMap celV)) (q2 : allO n ep (st.set n .hole)) (hD : ∀ o ∈ dy, noO o)
  (e1 : fr.map (fcV n rows) = fr') (e2 : (st.set n .hole).map (AObj.fcO n rows) = st') (k : TR fr' ⟨st', dy⟩ K) : TR fr ⟨st, dy⟩ K := by
 subst e1 e2
 intro σ w vs hf s
 have hk : fzSK n fr ⟨st, dy⟩ fun fr2 h2 => fr2 = fr.map (fcV n rows) ∧ h2 = ⟨(st.set n .hole).map (AObj.fcO n rows), dy⟩ := by
  unfold fzSK
  rw [show (Heap.mk st dy).st[n]? = some (.vec ep rows) from hn]
  exact ⟨hp, q1, q2, allO_noSt hD, rfl, by rw [fcO_nos hD]⟩
 obtain ⟨σ1, fr1, h1, ⟨rfl, rfl⟩, m, r⟩ := fzSK_sound hf s hk
 obtain ⟨σ2, fr2, h2, k2, m2, r2⟩ := k σ1 w vs r m.sim
 exact ⟨σ2, fr2, h2, k2, m.trans m2, r2⟩
theorem tr_mvG {st dy : List AObj} (n ep : Nat) {o : AObj} (hn : st[n]? = some o) (he : o.ep? = some ep) (q0 : eqsG n ep (fr.flatMap celV)) (q1 : allG n ep (st.set n .hole)) (q3 : eqsG n ep (celO o)) (hD : ∀ o ∈ dy, noO o)
  (hc : ∀ ep2, TR (fr.map (mapV (mcG n dy.length ep2))) ⟨(st.set n .hole).map (AObj.mapc (mcG n dy.length ep2)), dy ++ [(o.reEp ep2).mapc (mcG n dy.length ep2)]⟩ K) : TR fr ⟨st, dy⟩ K := by
 intro σ w vs hf s
 obtain ⟨ep2, σ1, m, hv⟩ := s.mvG (n := n) (ep := ep) hf (o := o) hn he q0 q1 (noO_all hD) q3
 have e : (⟨(st.set n .hole).map (AObj.mapc (mcG n dy.length ep2)), (dy ++ [o.reEp ep2]).map (AObj.mapc (mcG n dy.length ep2))⟩ : Heap) = ⟨(st.set n .hole).map (AObj.mapc (mcG n dy.length ep2)), dy ++ [(o.reEp ep2).mapc (mcG n dy.length ep2)]⟩ := by
  rw [List.map_append, noO_maps hD]; rfl
 rw [e] at m
 obtain ⟨σ2, fr2, h2, k2, m2, r2⟩ := hc ep2 σ1 w vs hv m.sim
 exact ⟨σ2, fr2, h2, k2, m.trans m2, r2⟩
theorem tr_eq {fr' : List AV} {h' : Heap} (e1 : fr = fr') (e2 : h = h') (k : TR fr' h' K) : TR fr h K := by subst e1 e2; exact k
theorem wk_tr {C : Ctx} {c : Code} {K : AE → List AV → Heap → Prop} (k : TR fr h fun fr h => WK C c fr h K) : WK C c fr h K := by
 refine ⟨fun rd B σ w a Q hrd hy hB s hf hd hQ => ?_⟩
 obtain ⟨σ2, fr2, h2, k2, m2, r2⟩ := k σ w _ hf s
 exact k2.use rd B σ2 w a Q hrd (hy.mono m2.le) hB m2.sim r2 (hd.mono m2.le) fun e fr3 h3 σ3 a3 w3 k3 m3 => hQ e fr3 h3 σ3 a3 w3 k3 (m2.trans m3)
end
theorem loopZ {C : Ctx} {c : Code} (ok : COk C) (hm : C.P.follows .mixedOrders = true) {A : Ann} (l : List Nat) (kp : List Nat) {S : Type} (fr : S → List AV) (h : S → Heap) (μ : S → Nat) {K : AE → List AV → Heap → Prop} {fr0 : List AV} {h0 : Heap} (s0 : S)
  (e1 : maskF 0 l fr0 = fr s0) (e2 : maskH 0 kp h0 = h s0) (lo ko : List Nat) {S' : Type} (X : S' → Nat) (frX : S' → List AV) (hX : S' → Heap) (lr kr : List Nat) {S2 : Type} (frR : S2 → List AV) (hR : S2 → Heap)
  (hround : ∀ s, aexR C A c (fr s) (h s) fun e fr' h' => match e with
   | .normal => Back fun s' => maskF 0 l fr' = fr s' ∧ maskH 0 kp h' = h s' ∧ μ s' < μ s
   | .exit id => Back fun s' => id = X s' ∧ maskF 0 lo fr' = frX s' ∧ maskH 0 ko h' = hX s'
   | .ret => Back fun s' => maskF 0 lr fr' = frR s' ∧ maskH 0 kr h' = hR s')
  (hr : ∀ s', TR (frR s') (hR s') (K .ret)) (hk : ∀ s', TR (frX s') (hX s') (K (.exit (X s')))) : WK C (.loop c) fr0 h0 K := by
 have key := loopY (K := fun e fr' h' => match e with
   | .normal => False
   | .exit id => TR fr' h' (K (.exit id))
   | .ret => TR fr' h' (K .ret)) ok hm (A := A) l kp fr h μ s0 e1 e2 lo ko X frX hX lr kr frR hR hround hr hk
 refine ⟨fun rd B σ w a Q hrd hy hB sm hf hd hQ => ?_⟩
 refine key.use rd B σ w a Q hrd hy hB sm hf hd fun e fr' h' σ' a' w' k m v d => ?_
 cases e with
 | normal => exact k.elim
 | ret =>
  obtain ⟨σ2, fr2, h2, k2, m2, r2⟩ := k σ' w' _ v m.sim
  exact hQ .ret fr2 h2 σ2 a' w' k2 (m.trans m2) r2 (d.mono m2.le)
 | exit id =>
  obtain ⟨σ2, fr2, h2, k2, m2, r2⟩ := k σ' w' _ v m.sim
  exact hQ (.exit id) fr2 h2 σ2 a' w' k2 (m.trans m2) r2 (d.mono m2.le)
end Go.Ab
