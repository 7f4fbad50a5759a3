/-
  What is proved here serves the law's text: each part says its own claim and its conditions. No condition is left open.
-/
import Derived.Test.YthdhhhgjdegafaaJB
import Derived.Test.YthdhhhgjdegafaaJC
set_option linter.unusedSimpArgs false
set_option linter.unusedVariables false

namespace Go.Ab
theorem Sim.liftA {σ : Sg} {h : Heap} {w : World} (s : Sim σ h w) {b id : Id} {e sz i k : Nat} {rows : List (List AV)} {row : List AV} (hne : b ≠ id) (hb : h[b]? = some (.vec e rows)) (hr : rows[i]? = some row) (hk : row[k]? = some .nils) :
  ∃ ep σ1, Mv σ h w σ1 ((h.set id (.vec ep [])).set b (.vec e (rows.set i (row.set k (.oslc id ep sz 0 0 false))))) w := by
 obtain ⟨ep, σ1, m1, hp⟩ := s.allocNil id
 have hb1 : (h.set id (.vec ep []))[b]? = some (.vec e rows) := by
  rw [Heap.getElem?_set_ne (Ne.symm hne)]; exact hb
 refine ⟨ep, σ1, m1.trans ?_⟩
 rcases m1.sim.obj _ _ hb1 with ⟨x, _⟩ | ⟨blk, st, sz1, n, size, cs, T, h1, h2, h3, h4, h5, h6, h7, h8⟩
 ·subst x; simp at hr
 ·refine m1.sim.write (blk := blk) hb1 (by simp [AObj.blk, h1]) (by simp [AObj.blk, h1]) (fun _ _ => rfl) rfl (.refl w) (.inr ⟨blk, st, sz1, n, size, cs, T, h1, h2, h3, by simpa using h4, h5, h6, fun i' row' hr' => ?_, fun i' k' c hc => ?_⟩)
  ·by_cases hi : i = i'
   ·subst hi
    rw [List.getElem?_set_self'] at hr'
    rw [hr] at hr'
    simp at hr'
    subst hr'
    have := h7 i row hr
    simpa using this
   ·rw [List.getElem?_set_ne hi] at hr'
    exact h7 i' row' hr'
  ·obtain ⟨row', hr', hk'⟩ := cellAt_get hc
   by_cases hi : i = i'
   ·subst hi
    rw [List.getElem?_set_self', hr] at hr'
    simp at hr'
    subst hr'
    by_cases hkk : k = k'
    ·subst hkk
     rw [List.getElem?_set_self', hk] at hk'
     simp at hk'
     subst hk'
     obtain ⟨v, a1, a2, a3⟩ := h8 i k .nils (by simp [cellAt, hr, hk])
     cases a3
     exact ⟨_, a1, a2, .onil hp⟩
    ·rw [List.getElem?_set_ne hkk] at hk'
     exact h8 i k' c (by simp [cellAt, hr, hk'])
   ·rw [List.getElem?_set_ne hi] at hr'
    exact h8 i' k' c (by simp [cellAt, hr', hk'])
section
variable {fr : List AV} {h : Heap} {K : List AV → Heap → Prop}
theorem tr_lift (b id : Id) (e sz i k : Nat) {rows : List (List AV)} {row : List AV} (hne : b ≠ id) (hb : h[b]? = some (.vec e rows)) (hr : rows[i]? = some row) (hk : row[k]? = some .nils)
  (hc : ∀ ep, TR fr ((h.set id (.vec ep [])).set b (.vec e (rows.set i (row.set k (.oslc id ep sz 0 0 false))))) K) : TR fr h K := by
 intro σ w vs hf s
 obtain ⟨ep, σ1, m⟩ := s.liftA (sz := sz) hne hb hr hk
 obtain ⟨σ2, fr2, h2, k2, m2, r2⟩ := hc ep σ1 w vs (hf.mono m.le) m.sim
 exact ⟨σ2, fr2, h2, k2, m.trans m2, r2⟩
theorem tr_hole {st dy : List AObj} (hc : TR fr ⟨st, dy ++ [.hole]⟩ K) : TR fr ⟨st, dy⟩ K := by
 intro σ w vs hf s
 have get : ∀ (i : Id) (o : AObj), (⟨st, dy ++ [.hole]⟩ : Heap)[i]? = some o → o = .hole ∨ (⟨st, dy⟩ : Heap)[i]? = some o := fun i o ho => by
  cases i with
  | s k => exact .inr ho
  | d k =>
   have ho : (dy ++ [AObj.hole])[k]? = some o := ho
   by_cases c : k < dy.length
   ·rw [List.getElem?_append_left c] at ho; exact .inr ho
   ·rw [List.getElem?_append_right (by omega)] at ho
    obtain ⟨_, h2⟩ := List.getElem?_eq_some_iff.1 ho
    left
    rw [← h2]
    simp
 have m : Mv σ ⟨st, dy⟩ w σ ⟨st, dy ++ [.hole]⟩ w := s.forget get
 obtain ⟨σ2, fr2, h2, k2, m2, r2⟩ := hc σ w vs hf m.sim
 exact ⟨σ2, fr2, h2, k2, m.trans m2, r2⟩
theorem tr_fzA {st dy : List AObj} (n ep : Nat) {rows : List (List AV)} {fr' : List AV} {st' dy' : List AObj} (hn : st[n]? = some (.vec ep rows)) (hp : pureRows rows) (q1 : eqsP n ep (fr.flatMap celV)) (q2 : allO n ep (st.set n .hole)) (q3 : allO n ep dy)
  (e1 : fr.map (fcV n rows) = fr') (e2 : (st.set n .hole).map (AObj.fcO n rows) = st') (e3 : dy.map (AObj.fcO n rows) = dy') (k : TR fr' ⟨st', dy'⟩ K) : TR fr ⟨st, dy⟩ K := by
 subst e1 e2 e3
 intro σ w vs hf s
 have hk : fzSK n fr ⟨st, dy⟩ fun fr2 h2 => fr2 = fr.map (fcV n rows) ∧ h2 = ⟨(st.set n .hole).map (AObj.fcO n rows), dy.map (AObj.fcO n rows)⟩ := by
  unfold fzSK
  rw [show (Heap.mk st dy).st[n]? = some (.vec ep rows) from hn]
  exact ⟨hp, q1, q2, q3, rfl, rfl⟩
 obtain ⟨σ1, fr1, h1, ⟨rfl, rfl⟩, m, r⟩ := fzSK_sound hf s hk
 obtain ⟨σ2, fr2, h2, k2, m2, r2⟩ := k σ1 w vs r m.sim
 exact ⟨σ2, fr2, h2, k2, m.trans m2, r2⟩
end
theorem ACalls.tr {P : Program} {f : FuncId} {args : List AV} {h : Heap} {K : AV → Heap → Prop} (k : TR args h fun args h => ACalls P f args h K) : ACalls P f args h K := by
 refine ⟨fun σ w vs s hv => ?_⟩
 obtain ⟨σ1, args1, h1, k1, m1, r1⟩ := k σ w vs.toList hv s
 refine (k1.use σ1 w vs m1.sim r1).mono ?_
 rintro e w' ⟨v, rfl, σ2, h2, r, hk, m2, x⟩
 exact ⟨v, rfl, σ2, h2, r, hk, m1.trans m2, x⟩
theorem allO_of {n ep : Nat} : ∀ {D : List AObj}, (∀ o ∈ D, eqsP n ep (celO o)) → allO n ep D
 | [], _ => trivial
 | o :: r, h => ⟨h o (List.mem_cons_self ..), allO_of fun b hb => h b (List.mem_cons_of_mem _ hb)⟩
theorem allO_set {n ep k : Nat} {D : List AObj} {o : AObj} (h : ∀ o ∈ D, noO o) (ho : eqsP n ep (celO o)) : allO n ep (D.set k o) := allO_of fun b hb => by
 rcases List.mem_or_eq_of_mem_set hb with h1 | h1
 ·exact eqsP_noSt (h b h1)
 ·rw [h1]; exact ho
theorem fcO_set {n k : Nat} {rows : List (List AV)} {D : List AObj} {o : AObj} (h : ∀ o ∈ D, noO o) : (D.set k o).map (AObj.fcO n rows) = D.set k (o.fcO n rows) := by
 rw [List.map_set, fcO_nos h]
end Go.Ab
