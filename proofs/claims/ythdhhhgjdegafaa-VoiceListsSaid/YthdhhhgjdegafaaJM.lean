/-
  What is proved here serves the law's text: each part says its own claim and its conditions. No condition is left open.
-/
import Derived.Test.YthdhhhgjdegafaaJI
import Derived.Test.YthdhhhgjdegafaaJL
set_option linter.unusedSimpArgs false
set_option linter.unusedVariables false

namespace Go.Ab
def fcP (n : Nat) (rows : List (List AV)) : AV → AV
 | .optr (.s k) ep sz i off => match Nat.beq k n with
  | true => .lptr sz rows i off
  | false => .optr (.s k) ep sz i off
 | a => a
theorem okS_G {n ep : Nat} {a : AV} (h : okG n ep a) : okS n ep a := by
 unfold okS
 split
 ·rename_i k e _ _ _ _
  intro hk
  subst hk
  simp only [okG] at h
  rw [show Nat.beq k k = true from Nat.beq_refl k] at h
  exact h
 ·trivial
theorem okG_fcS {n ep : Nat} {rows : List (List AV)} {c : AV} (h : okG n ep c) : okG n ep (fcS n rows c) := by
 unfold fcS
 split
 ·split
  ·trivial
  ·exact h
 ·exact h
theorem celO_fcO {n : Nat} {rows : List (List AV)} {o : AObj} {a : AV} (h : a ∈ celO (o.fcO n rows)) : ∃ c ∈ celO o, a = fcS n rows c := by
 cases o with
 | hole => cases h
 | vec ep rs =>
  obtain ⟨r, hr, ha⟩ := List.mem_flatten.1 h
  obtain ⟨r', hr', rfl⟩ := List.mem_map.1 hr
  obtain ⟨c, hc, rfl⟩ := List.mem_map.1 ha
  exact ⟨c, List.mem_flatten.2 ⟨r', hr', hc⟩, rfl⟩
 | map ep es =>
  obtain ⟨p, hp, ha⟩ := List.mem_flatMap.1 h
  obtain ⟨p', hp', rfl⟩ := List.mem_map.1 hp
  simp only [List.mem_cons, List.not_mem_nil, or_false] at ha
  rcases ha with rfl | rfl
  ·exact ⟨p'.1, List.mem_flatMap.2 ⟨p', hp', by simp⟩, rfl⟩
  ·exact ⟨p'.2, List.mem_flatMap.2 ⟨p', hp', by simp⟩, rfl⟩
theorem celV_fcV {n : Nat} {rows : List (List AV)} {v a : AV} (h : a ∈ celV (fcV n rows v)) : ∃ c ∈ celV v, a = fcS n rows c := by
 have one : ∀ {x : AV}, (∀ cs, x ≠ .agg cs) → (∀ cs, x ≠ .tup cs) → celV (fcS n rows x) = [fcS n rows x] := by
  intro x h1 h2
  unfold fcS
  split
  ·split <;> rfl
  ·unfold celV
   split
   ·exact absurd rfl (h1 _)
   ·exact absurd rfl (h2 _)
   ·rfl
 unfold fcV at h
 split at h
 ·rename_i cs
  obtain ⟨c, hc, rfl⟩ := List.mem_map.1 h
  exact ⟨c, hc, rfl⟩
 ·rename_i cs
  obtain ⟨x, hx, ha⟩ := List.mem_flatMap.1 h
  obtain ⟨y, hy, rfl⟩ := List.mem_map.1 hx
  split at ha
  ·rename_i e
   split at e
   ·rename_i cs2
    cases e
    obtain ⟨c, hc, rfl⟩ := List.mem_map.1 ha
    exact ⟨c, List.mem_flatMap.2 ⟨_, hy, hc⟩, rfl⟩
   ·rename_i hn
    exfalso
    unfold fcS at e
    split at e
    ·split at e <;> cases e
    ·exact hn _ e
  ·rename_i hn
   rw [List.mem_singleton] at ha
   subst ha
   split
   ·rename_i cs2
    exact absurd rfl (hn _)
   ·rename_i hn2
    refine ⟨y, List.mem_flatMap.2 ⟨y, hy, ?_⟩, rfl⟩
    split
    ·rename_i cs2; exact absurd rfl (hn2 cs2)
    ·exact List.mem_singleton.2 rfl
 ·rename_i h1 h2
  rw [one (fun cs e => h1 cs e) (fun cs e => h2 cs e)] at h
  rw [List.mem_singleton] at h
  refine ⟨v, ?_, h⟩
  unfold celV
  split
  ·rename_i cs; exact absurd rfl (h1 cs)
  ·rename_i cs; exact absurd rfl (h2 cs)
  ·exact List.mem_singleton.2 rfl
section
variable {fr : List AV} {K : List AV → Heap → Prop}
theorem tr_fp {st dy : List AObj} (n ep : Nat) {row : List AV} {fr' : List AV} {st' dy' : List AObj} (hn : st[n]? = some (.vec ep [row])) (hp : pureRows [row])
  (q0 : eqsG n ep (fr.flatMap celV)) (q1 : allG n ep (st.set n .hole)) (q2 : allG n ep dy)
  (e0 : (fr.map (fcV n [row])).map (mapV (fcP n [row])) = fr') (e1 : ((st.set n .hole).map (AObj.fcO n [row])).map (AObj.mapc (fcP n [row])) = st') (e2 : (dy.map (AObj.fcO n [row])).map (AObj.mapc (fcP n [row])) = dy')
  (k : TR fr' ⟨st', dy'⟩ K) : TR fr ⟨st, dy⟩ K := by
 subst e0 e1 e2
 intro σ w vs hf s
 have hob := s.obj (.s n) _ (show (⟨st, dy⟩ : Heap)[Id.s n]? = some (.vec ep [row]) from hn)
 rcases hob with ⟨h1, _⟩ | ⟨blk, b0, sz, m, size, cs, T, h1, h2, h3, h4, h5, h6, h7, h8⟩
 ·simp at h1
 have h4 : m = 1 := by simpa using h4
 subst h4
 have hsz : row.length = sz := h7 0 row rfl
 have hv : VRel σ (.oslc (.s n) ep sz 0 1 false) (.slice (some ⟨blk, b0 + 0 * sz, none⟩) 1 1) := .oslc h1 (by omega) (fun _ => by omega) (fun h => by cases h) (by omega) (by omega)
 have hf2 : VRels σ (fr ++ [.oslc (.s n) ep sz 0 1 false]) (vs ++ [.slice (some ⟨blk, b0 + 0 * sz, none⟩) 1 1]) := by
  refine ⟨by simpa using hf.1, fun i a v x y => ?_⟩
  by_cases c : i < fr.length
  ·rw [List.getElem?_append_left c] at x
   rw [List.getElem?_append_left (by rw [← hf.1]; exact c)] at y
   exact hf.2 i a v x y
  ·have hl := (List.getElem?_eq_some_iff.1 x).1
   rw [List.length_append, List.length_singleton] at hl
   have e : i = fr.length := by omega
   subst e
   rw [List.getElem?_append_right (Nat.le_refl _), Nat.sub_self] at x
   rw [hf.1, List.getElem?_append_right (Nat.le_refl _), Nat.sub_self] at y
   cases x
   cases y
   exact hv
 have P0 : ∀ {l : List AV}, eqsG n ep l → eqsP n ep l := fun h => eqsP_of fun a ha => okS_G (eqsG_all h a ha)
 have P1 : ∀ {l : List AObj}, allG n ep l → allO n ep l := fun h => allO_of fun o ho => P0 (allG_get h o ho)
 have hk : fzSK n (fr ++ [AV.oslc (.s n) ep sz 0 1 false]) ⟨st, dy⟩ fun fr2 h2 => fr2 = (fr ++ [AV.oslc (.s n) ep sz 0 1 false]).map (fcV n [row]) ∧ h2 = ⟨(st.set n .hole).map (AObj.fcO n [row]), dy.map (AObj.fcO n [row])⟩ := by
  unfold fzSK
  rw [show (Heap.mk st dy).st[n]? = some (.vec ep [row]) from hn]
  refine ⟨hp, ?_, P1 q1, P1 q2, rfl, rfl⟩
  rw [List.flatMap_append]
  refine eqsP_of fun a ha => ?_
  rcases List.mem_append.1 ha with h | h
  ·exact okS_G (eqsG_all q0 a h)
  ·simp only [List.flatMap_cons, List.flatMap_nil, List.append_nil, celV, List.mem_singleton] at h
   subst h
   exact fun _ => rfl
 obtain ⟨σ1, fr1, hh1, ⟨rfl, rfl⟩, m1, r1⟩ := fzSK_sound hf2 s hk
 have hlast := r1.2 fr.length (.lslc sz [row] 0 1 false) (.slice (some ⟨blk, b0 + 0 * sz, none⟩) 1 1) (by
  rw [List.map_append, List.getElem?_append_right (by simp)]
  simp [fcV, fcS]) (by rw [hf.1, List.getElem?_append_right (Nat.le_refl _), Nat.sub_self]; rfl)
 have hρ := m1.le.ρ _ _ _ h1
 have lit : ∀ (s2 i off : Nat) (u : Value), VRel σ1 (.optr (.s n) ep s2 i off) u → VRel σ1 (.lptr s2 [row] i off) u := by
  intro s2 i off u hu
  generalize hval : Value.slice (some ⟨blk, b0 + 0 * sz, none⟩) 1 1 = V at hlast
  cases hlast with
  | @lslc _ _ _ _ _ _ blk2 b2 _ g hw hc ho hv a1 a3 a5 =>
   injection hval with hval _ _
   injection hval with hval
   injection hval with e1 e2 _
   have e2 : b0 = b2 := by omega
   subst e1 e2
   cases hu with
   | optr hx =>
    rw [hρ] at hx
    cases hx
    exact .lptr g hw hc ho hv
 have r0 : VRels σ1 (fr.map (fcV n [row])) vs := by
  refine ⟨by simpa using hf.1, fun i a v x y => r1.2 i a v ?_ ?_⟩
  ·rw [List.map_append, List.getElem?_append_left (List.getElem?_eq_some_iff.1 x).1]
   exact x
  ·rw [List.getElem?_append_left (List.getElem?_eq_some_iff.1 y).1]
   exact y
 have cell : ∀ {c : AV}, okG n ep c → ∀ u, VRel σ1 c u → VRel σ1 (fcP n [row] c) u := by
  intro c hc u hu
  unfold fcP
  split
  ·split
   ·rename_i e
    simp only [okG, e] at hc
    have e := Nat.eq_of_beq_eq_true e
    subst e hc
    exact lit _ _ _ u hu
   ·exact hu
  ·exact hu
 have ob : ∀ (i : Id) (x : AObj), (⟨(st.set n .hole).map (AObj.fcO n [row]), dy.map (AObj.fcO n [row])⟩ : Heap)[i]? = some x → ∀ a ∈ celO x, okG n ep a := by
  intro i x hx a ha
  have hx2 : ∃ o, (o ∈ st.set n .hole ∨ o ∈ dy) ∧ x = o.fcO n [row] := by
   cases i with
   | s k =>
    have hx : ((st.set n .hole).map (AObj.fcO n [row]))[k]? = some x := hx
    obtain ⟨o, ho, rfl⟩ := List.mem_map.1 (List.mem_of_getElem? hx)
    exact ⟨o, .inl ho, rfl⟩
   | d k =>
    have hx : (dy.map (AObj.fcO n [row]))[k]? = some x := hx
    obtain ⟨o, ho, rfl⟩ := List.mem_map.1 (List.mem_of_getElem? hx)
    exact ⟨o, .inr ho, rfl⟩
  obtain ⟨o, ho, rfl⟩ := hx2
  obtain ⟨c, hc, rfl⟩ := celO_fcO ha
  refine okG_fcS ?_
  rcases ho with h | h
  ·exact eqsG_all (allG_get q1 o h) c hc
  ·exact eqsG_all (allG_get q2 o h) c hc
 have m2 := Sim.recell (f := fcP n [row]) m1.sim fun i o ho a ha u hu => cell (ob i o ho a ha) u hu
 have r2 : VRels σ1 ((fr.map (fcV n [row])).map (mapV (fcP n [row]))) vs := by
  refine ⟨by simpa using hf.1, fun i a v x y => ?_⟩
  rw [List.getElem?_map, Option.map_eq_some_iff] at x
  obtain ⟨a', x, rfl⟩ := x
  refine VRel.mapV (fun c hc u hu => ?_) (r0.2 i a' v x y)
  rw [List.getElem?_map, Option.map_eq_some_iff] at x
  obtain ⟨a2, x, rfl⟩ := x
  obtain ⟨c', hc', rfl⟩ := celV_fcV hc
  exact cell (okG_fcS (eqsG_all q0 c' (List.mem_flatMap.2 ⟨a2, List.mem_of_getElem? x, hc'⟩))) u hu
 obtain ⟨σ3, fr3, h3', k3, m3, r3⟩ := k σ1 w vs r2 m2.sim
 exact ⟨σ3, fr3, h3', k3, (m1.trans m2).trans m3, r3⟩
end
@[irreducible] def TRB (fr : List AV) (h : Heap) (K : List AV → Heap → Prop) : Prop := TR fr h K
theorem trb_of {fr : List AV} {h : Heap} {K : List AV → Heap → Prop} (k : TR fr h K) : TRB fr h K := by unfold TRB; exact k
theorem trb_ex {fr : List AV} {h : Heap} {K : List AV → Heap → Prop} (k : TRB fr h K) : TR fr h K := by unfold TRB at k; exact k
theorem TR.mono {fr : List AV} {h : Heap} {K K' : List AV → Heap → Prop} (k : TR fr h K) (hk : ∀ f h, K f h → K' f h) : TR fr h K' := by
 intro σ w vs hf s
 obtain ⟨σ2, fr2, h2, k2, m2, r2⟩ := k σ w vs hf s
 exact ⟨σ2, fr2, h2, hk _ _ k2, m2, r2⟩
theorem loopW {C : Ctx} {c : Code} (ok : COk C) (hm : C.P.follows .mixedOrders = true) {A : Ann} {S : Type} (fr : S → List AV) (h : S → Heap) (μ : S → Nat) {K : AE → List AV → Heap → Prop} {fr0 : List AV} {h0 : Heap} (s0 : S)
  (e0 : TR fr0 h0 fun f g => f = fr s0 ∧ g = h s0) {S' : Type} (X : S' → Nat) (frX : S' → List AV) (hX : S' → Heap)
  (hround : ∀ s, aexR C A c (fr s) (h s) fun e fr' h' => match e with
   | .normal => TRB fr' h' fun f g => ∃ s', f = fr s' ∧ g = h s' ∧ μ s' < μ s
   | .exit id => TRB fr' h' fun f g => ∃ s', id = X s' ∧ f = frX s' ∧ g = hX s'
   | .ret => False)
  (hk : ∀ s', K (.exit (X s')) (frX s') (hX s')) : WK C (.loop c) fr0 h0 K := by
 refine ⟨fun rd B σ w a Q hrd hy hB sm hf hd hQ => ?_⟩
 intro b k cs hro hbf hroom
 have key : ∀ n s1 σ' w' a', μ s1 = n → Mv σ h0 w σ' (h s1) w' → VRels σ' (fr s1) a'.tmps.toList → DfOk B σ' a'.defers →
   ∃ e a'' w'', Q e a'' w'' ∧ ArrivesIn (Machine.fenced C.P (FR rd)) C.P (lone (b.atR a' (.code c :: .inLoop c :: k)) cs w') b k cs e a'' w'' := by
  intro n
  induction n using Nat.strongRecOn with
  | _ n ih =>
   intro s1 σ' w' a' hn m hv hd'
   let Q0 : Exit → Act → World → Prop := fun e a2 w2 => match e with
    | .normal => ∃ s2 σ2, μ s2 < μ s1 ∧ Mv σ h0 w σ2 (h s2) w2 ∧ VRels σ2 (fr s2) a2.tmps.toList ∧ DfOk B σ2 a2.defers
    | e => Q e a2 w2
   have hx := hround s1
   rw [aexR_eq] at hx
   have hr : c.wpIn (FR rd) 0 C.P Q0 a' w' := (aexec_sound ok hm hx).use rd B σ' w' a' Q0 hrd (hy.mono m.le) (Nat.le_trans hB m.size) m.sim hv hd' fun e fr2 h2 σ2 a2 w2 k2 m2 v2 d2 => by
    cases e with
    | normal =>
     obtain ⟨σ3, f3, h3, ⟨s2, rfl, rfl, hlt⟩, m3, v3⟩ := trb_ex k2 σ2 w2 _ v2 m2.sim
     exact ⟨s2, σ3, hlt, (m.trans m2).trans m3, v3, d2.mono m3.le⟩
    | exit id =>
     obtain ⟨σ3, f3, h3, ⟨s2, rfl, rfl, rfl⟩, m3, v3⟩ := trb_ex k2 σ2 w2 _ v2 m2.sim
     exact hQ (.exit (X s2)) _ _ σ3 a2 w2 (hk s2) ((m.trans m2).trans m3) v3 (d2.mono m3.le)
    | ret => exact k2.elim
   obtain ⟨e, a2, w2, hq, harr⟩ := hr b (.inLoop c :: k) cs hro hbf hroom
   cases e with
   | normal =>
    obtain ⟨s2, σ2, hlt, m2, v2, d2⟩ := hq
    obtain ⟨e3, a3, w3, hq3, harr3⟩ := ih (μ s2) (hn ▸ hlt) s2 σ2 w2 a2 rfl m2 v2 d2
    exact ⟨e3, a3, w3, hq3, .of_steps (StepsIn.trans harr (.one (fenced_calm hbf hroom rfl) stepR_inLoop)) harr3⟩
   | exit id => exact ⟨_, a2, w2, hq, .pass (x := .inLoop c) rfl (fun _ _ => .inl (by simp)) harr⟩
   | goto l => exact ⟨_, a2, w2, hq, .pass (x := .inLoop c) rfl (fun _ _ => .inl (by simp)) harr⟩
   | ret => exact ⟨_, a2, w2, hq, .pass (x := .inLoop c) rfl (fun _ _ => .inl (by simp)) harr⟩
   | panic ch => exact ⟨_, a2, w2, hq, .pass (x := .inLoop c) rfl (fun _ _ => .inl (by simp)) harr⟩
   | outgrown => exact ⟨_, a2, w2, hq, .pass (x := .inLoop c) rfl (fun _ _ => .inl (by simp)) harr⟩
 obtain ⟨σ0, f0, g0, ⟨rfl, rfl⟩, m0, v0⟩ := e0 σ w _ hf sm
 obtain ⟨e, a', w', hq, harr⟩ := key _ s0 σ0 w a rfl m0 v0 (hd.mono m0.le)
 exact ⟨e, a', w', hq, .of_steps (.one (fenced_calm hbf hroom rfl) stepR_loop) harr⟩
end Go.Ab
