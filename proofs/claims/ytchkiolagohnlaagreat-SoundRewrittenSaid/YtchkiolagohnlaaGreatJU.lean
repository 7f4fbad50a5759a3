/-
  What is proved here serves the law's text: each part says its own claim and its conditions. No condition is left open.
-/
import Derived.Test.YtchkiolagohnlaaGreatJG
import Derived.Test.YtchkiolagohnlaaGreatJT
set_option linter.unusedSimpArgs false
set_option linter.unusedVariables false

/-
  A finer list of events: every event of a piece becomes one or more events. What its notes are. Plain Lean.
-/
namespace Go.Ab.V
open Go.Proofs

theorem ties_eq {l : List Evt} : ∀ (d x y : Nat), y = x + d → y ≤ l.length → (∀ i (h : i < l.length), x ≤ i → i < y → l[i].tie = true) → (∀ h : y < l.length, l[y].tie = false) → tiesL (l.drop x) = y - x
  | 0, x, y, hd, hy, h1, h2 => by
    obtain rfl : y = x := by omega
    rcases Nat.lt_or_ge y l.length with h | h
    · rw [tiesL_drop h, if_neg (by rw [h2 h]; simp), Nat.sub_self]
    · rw [List.drop_eq_nil_of_le h, tiesL, Nat.sub_self]
  | d + 1, x, y, hd, hy, h1, h2 => by
    have hx : x < l.length := by omega
    rw [tiesL_drop hx, if_pos (h1 x hx (Nat.le_refl _) (by omega)), ties_eq d (x + 1) y (by omega) hy (fun i h a b => h1 i h (by omega) b) h2]
    omega
theorem ties_all {l : List Evt} : ∀ (d x : Nat), d = l.length - x → ∀ i (h : i < l.length), x ≤ i → i < x + tiesL (l.drop x) → l[i].tie = true
  | 0, x, hd, i, h, h1, h2 => by omega
  | d + 1, x, hd, i, h, h1, h2 => by
    have hx : x < l.length := by omega
    rw [tiesL_drop hx] at h2
    split at h2
    · rename_i ht
      rcases Nat.eq_or_lt_of_le h1 with c | c
      · subst c; exact ht
      · exact ties_all d (x + 1) (by omega) i h c (by omega)
    · omega
theorem ties_end {l : List Evt} : ∀ (d x : Nat), d = l.length - x → ∀ h : x + tiesL (l.drop x) < l.length, l[x + tiesL (l.drop x)].tie = false
  | 0, x, hd, h => by omega
  | d + 1, x, hd, h => by
    have hx : x < l.length := by omega
    have e := tiesL_drop hx
    by_cases ht : l[x].tie = true
    · rw [if_pos ht] at e
      have ih := ties_end (l := l) d (x + 1) (by omega)
      have e2 : x + tiesL (l.drop x) = x + 1 + tiesL (l.drop (x + 1)) := by omega
      simp only [e2] at h ⊢
      exact ih h
    · rw [if_neg ht] at e
      have e2 : x + tiesL (l.drop x) = x := by omega
      simp only [e2]
      simpa using ht
theorem find_eq {l : List Evt} {c : Int} : ∀ (d x y : Nat), y = x + d → y ≤ l.length → (∀ i (h : i < l.length), x ≤ i → i < y → endE c l[i] = false) → (∀ h : y < l.length, endE c l[y] = true) → (l.drop x).findIdx (endE c) = y - x
  | 0, x, y, hd, hy, h1, h2 => by
    obtain rfl : y = x := by omega
    rcases Nat.lt_or_ge y l.length with h | h
    · rw [find_drop c h, if_pos (h2 h), Nat.sub_self]
    · rw [List.drop_eq_nil_of_le h, List.findIdx_nil, Nat.sub_self]
  | d + 1, x, y, hd, hy, h1, h2 => by
    have hx : x < l.length := by omega
    rw [find_drop c hx, if_neg (by rw [h1 x hx (Nat.le_refl _) (by omega)]; simp), find_eq d (x + 1) y (by omega) hy (fun i h a b => h1 i h (by omega) b) h2]
    omega
theorem find_all {l : List Evt} {c : Int} : ∀ (d x : Nat), d = l.length - x → ∀ i (h : i < l.length), x ≤ i → i < x + (l.drop x).findIdx (endE c) → endE c l[i] = false
  | 0, x, hd, i, h, h1, h2 => by omega
  | d + 1, x, hd, i, h, h1, h2 => by
    have hx : x < l.length := by omega
    rw [find_drop c hx] at h2
    split at h2
    · omega
    · rename_i ht
      rcases Nat.eq_or_lt_of_le h1 with e | e
      · subst e; simpa using ht
      · exact find_all d (x + 1) (by omega) i h e (by omega)
theorem find_end {l : List Evt} {c : Int} : ∀ (d x : Nat), d = l.length - x → ∀ h : x + (l.drop x).findIdx (endE c) < l.length, endE c l[x + (l.drop x).findIdx (endE c)] = true
  | 0, x, hd, h => by omega
  | d + 1, x, hd, h => by
    have hx : x < l.length := by omega
    have e := find_drop c hx
    by_cases ht : endE c l[x] = true
    · rw [if_pos ht] at e
      have e2 : x + (l.drop x).findIdx (endE c) = x := by omega
      simp only [e2]
      exact ht
    · rw [if_neg ht] at e
      have ih := find_end (l := l) (c := c) d (x + 1) (by omega)
      have e2 : x + (l.drop x).findIdx (endE c) = x + 1 + (l.drop (x + 1)).findIdx (endE c) := by omega
      simp only [e2] at h ⊢
      exact ih h

/-- Q is finer than P: the event j of P begins as the event F j of Q -/
structure Finer (P Q : List Evt) (F : Nat → Nat) (Z : Nat → List (Stp × Stp)) : Prop where
  mono : ∀ j, j < P.length → F j < F (j + 1)
  last : F P.length = Q.length
  sp : ∀ j (h : j < P.length), P[j].stops = (Z j).map Prod.fst
  sq : ∀ j (h : j < P.length) (h2 : F j < Q.length), Q[F j].stops = (Z j).map Prod.snd ∧ Q[F j].tie = P[j].tie
  same : ∀ j, j < P.length → ∀ z ∈ Z j, z.1.c = z.2.c ∧ z.1.f = z.2.f
  hold : ∀ j, j < P.length → ∀ z ∈ Z j, 0 < z.1.f → j + z.1.h.toNat < P.length ∧ F (j + z.1.h.toNat) < F j + z.2.h.toNat + 1 ∧ F j + z.2.h.toNat + 1 ≤ F (j + z.1.h.toNat + 1) ∧ ∀ h : j + z.1.h.toNat < P.length, restE P[j + z.1.h.toNat] = false
  mid : ∀ j (h : j < P.length) x (h2 : x < Q.length), F j < x → x < F (j + 1) → Q[x].stops = [] ∧ (restE P[j] = false → Q[x].tie = true)
namespace Finer
variable {P Q : List Evt} {F : Nat → Nat} {Z : Nat → List (Stp × Stp)}
theorem le (r : Finer P Q F Z) {i j : Nat} (h : i ≤ j) (hj : j ≤ P.length) : F i ≤ F j := by
  induction j with
  | zero => obtain rfl : i = 0 := by omega
            exact Nat.le_refl _
  | succ j ih =>
    rcases Nat.eq_or_lt_of_le h with c | c
    · subst c; exact Nat.le_refl _
    · have := ih (by omega) (by omega)
      have := r.mono j (by omega)
      omega
theorem lt (r : Finer P Q F Z) {i j : Nat} (h : i < j) (hj : j ≤ P.length) : F i < F j := by
  have := r.mono i (by omega)
  have := r.le (show i + 1 ≤ j from h) hj
  omega
theorem inQ (r : Finer P Q F Z) {j : Nat} (h : j < P.length) : F j < Q.length := by
  rw [← r.last]; exact r.lt h (Nat.le_refl _)
/-- where an event of Q comes from -/
theorem grp (r : Finer P Q F Z) {x : Nat} : ∀ (d a : Nat), d = P.length - a → a ≤ P.length → F a ≤ x → x < Q.length → ∃ i, a ≤ i ∧ i < P.length ∧ F i ≤ x ∧ x < F (i + 1)
  | 0, a, hd, ha, h1, h2 => by
    obtain rfl : a = P.length := by omega
    rw [r.last] at h1
    omega
  | d + 1, a, hd, ha, h1, h2 => by
    rcases Nat.lt_or_ge x (F (a + 1)) with c | c
    · exact ⟨a, Nat.le_refl _, by omega, h1, c⟩
    · obtain ⟨i, i1, i2, i3, i4⟩ := grp r d (a + 1) (by omega) (by omega) c h2
      exact ⟨i, by omega, i2, i3, i4⟩
theorem has (r : Finer P Q F Z) {j : Nat} (h : j < P.length) (c : Int) : hasC (Q[F j]'(r.inQ h)).stops c = hasC P[j].stops c := by
  rw [(r.sq j h (r.inQ h)).1, r.sp j h]
  unfold hasC
  rw [List.any_map, List.any_map]
  rw [Bool.eq_iff_iff, List.any_eq_true, List.any_eq_true]
  constructor
  · rintro ⟨z, hz, e⟩
    refine ⟨z, hz, ?_⟩
    have := (r.same j h z hz).1
    simp only [Function.comp_apply, beq_iff_eq] at e ⊢
    omega
  · rintro ⟨z, hz, e⟩
    refine ⟨z, hz, ?_⟩
    have := (r.same j h z hz).1
    simp only [Function.comp_apply, beq_iff_eq] at e ⊢
    omega
theorem rest (r : Finer P Q F Z) {j : Nat} (h : j < P.length) : restE (Q[F j]'(r.inQ h)) = restE P[j] := by
  unfold restE
  rw [(r.sq j h (r.inQ h)).2, (r.sq j h (r.inQ h)).1, r.sp j h, List.length_map, List.length_map]
theorem ends (r : Finer P Q F Z) {j : Nat} (h : j < P.length) (c : Int) : endE c (Q[F j]'(r.inQ h)) = endE c P[j] := by
  unfold endE
  rw [r.rest h, r.has h]
theorem stay (r : Finer P Q F Z) {j : Nat} (h : j < P.length) {z : Stp × Stp} (hz : z ∈ Z j) (hf : 0 < z.1.f) : stayN Q (F j) z.2.h.toNat = F (stayN P j z.1.h.toNat) := by
  obtain ⟨q0, q1, q2, q3⟩ := r.hold j h z hz hf
  have q3 := q3 q0
  obtain ⟨m, hm⟩ : ∃ m, m = stayN P j z.1.h.toNat := ⟨_, rfl⟩
  have hme : m = j + z.1.h.toNat + 1 + tiesL (P.drop (j + z.1.h.toNat + 1)) := hm
  have hml : m ≤ P.length := by rw [hm]; exact stayN_le (by omega)
  have hta := ties_all (l := P) _ (j + z.1.h.toNat + 1) rfl
  have hte := ties_end (l := P) _ (j + z.1.h.toNat + 1) rfl
  rw [← hme] at hta
  simp only [← hme] at hte
  rw [← hm]
  have hFm : F m ≤ Q.length := by rw [← r.last]; exact r.le hml (Nat.le_refl _)
  have hxm : F j + z.2.h.toNat + 1 ≤ F m := Nat.le_trans q2 (r.le (by omega) hml)
  unfold stayN
  rw [ties_eq (F m - (F j + z.2.h.toNat + 1)) (F j + z.2.h.toNat + 1) (F m) (by omega) hFm (fun x hx a b => ?_) (fun hx => ?_)]
  · omega
  · obtain ⟨i, i1, i2, i3, i4⟩ := r.grp _ (j + z.1.h.toNat) rfl (by omega) (by omega) hx
    have him : i < m := by
      rcases Nat.lt_or_ge i m with c | c
      · exact c
      · have := r.le c (by omega); omega
    rcases Nat.eq_or_lt_of_le i3 with c | c
    · subst c
      rw [(r.sq i i2 hx).2]
      have : i ≠ j + z.1.h.toNat := by rintro rfl; omega
      exact hta i i2 (by omega) him
    · refine (r.mid i i2 x hx c i4).2 ?_
      by_cases e : i = j + z.1.h.toNat
      · subst e; exact q3
      · have := hta i i2 (by omega) him
        unfold restE
        rw [this]; simp
  · have hm2 : m < P.length := by
      rcases Nat.eq_or_lt_of_le hml with c | c
      · rw [c, r.last] at hx; omega
      · exact c
    rw [(r.sq m hm2 hx).2]
    exact hte hm2
theorem opens (r : Finer P Q F Z) {j : Nat} (h : j < P.length) (hr : restE P[j] = false) (c : Int) : openN Q (F j) c = F (openN P j c) := by
  obtain ⟨m, hm⟩ : ∃ m, m = openN P j c := ⟨_, rfl⟩
  have hme : m = j + 1 + (P.drop (j + 1)).findIdx (endE c) := hm
  have hml : m ≤ P.length := by rw [hm]; exact openN_le c h
  have hta := find_all (l := P) (c := c) _ (j + 1) rfl
  have hte := find_end (l := P) (c := c) _ (j + 1) rfl
  rw [← hme] at hta
  simp only [← hme] at hte
  rw [← hm]
  have hFm : F m ≤ Q.length := by rw [← r.last]; exact r.le hml (Nat.le_refl _)
  have hxm : F j + 1 ≤ F m := r.lt (by omega) hml
  unfold openN
  rw [find_eq (F m - (F j + 1)) (F j + 1) (F m) (by omega) hFm (fun x hx a b => ?_) (fun hx => ?_)]
  · omega
  · obtain ⟨i, i1, i2, i3, i4⟩ := r.grp _ j rfl (by omega) (by omega) hx
    have him : i < m := by
      rcases Nat.lt_or_ge i m with c | c
      · exact c
      · have := r.le c (by omega); omega
    rcases Nat.eq_or_lt_of_le i3 with e | e
    · subst e
      rw [r.ends i2]
      have : i ≠ j := by rintro rfl; omega
      exact hta i i2 (by omega) him
    · have hri : restE P[i] = false := by
        by_cases e2 : i = j
        · subst e2; exact hr
        · have := hta i i2 (by omega) him
          unfold endE at this
          rw [Bool.or_eq_false_iff] at this
          exact this.1
      obtain ⟨m1, m2⟩ := r.mid i i2 x hx e i4
      unfold endE restE hasC
      rw [m1, m2 hri]
      simp
  · have hm2 : m < P.length := by
      rcases Nat.eq_or_lt_of_le hml with e | e
      · rw [e, r.last] at hx; omega
      · exact e
    rw [r.ends hm2]
    exact hte hm2
theorem endsN (r : Finer P Q F Z) {j : Nat} (h : j < P.length) {z : Stp × Stp} (hz : z ∈ Z j) : endN Q (F j) z.2 = F (endN P j z.1) := by
  have hs := r.same j h z hz
  unfold endN
  by_cases hf : 0 < z.1.f
  · rw [if_pos hf, if_pos (by omega)]
    exact r.stay h hz hf
  · rw [if_neg hf, if_neg (by omega), ← hs.1]
    refine r.opens h ?_ _
    unfold restE
    rw [r.sp j h, List.length_map]
    have h0 : 0 < (Z j).length := List.length_pos_of_mem hz
    rw [decide_eq_false (by omega)]
    rfl
/-- what is said of the stops, event by event -/
theorem newLs {α : Type} (r : Finer P Q F Z) {g f : Nat → Stp → α} (hg : ∀ j, j < P.length → ∀ z ∈ Z j, g (F j) z.2 = f j z.1) : ∀ (d j : Nat), d = P.length - j → j ≤ P.length → newL g (F j) (Q.drop (F j)) = newL f j (P.drop j)
  | 0, j, hd, hj => by
    obtain rfl : j = P.length := by omega
    rw [r.last, List.drop_length, List.drop_length]; rfl
  | d + 1, j, hd, hj => by
    have h : j < P.length := by omega
    have hm := r.mono j h
    have hF := r.inQ h
    have hF1 : F (j + 1) ≤ Q.length := by rw [← r.last]; exact r.le h (Nat.le_refl _)
    have ih := newLs r hg d (j + 1) (by omega) h
    have hskip : ∀ (e x : Nat), e = F (j + 1) - x → F j < x → x ≤ F (j + 1) → newL g x (Q.drop x) = newL g (F (j + 1)) (Q.drop (F (j + 1))) := by
      intro e
      induction e with
      | zero => intro x h1 h2 h3; rw [show x = F (j + 1) by omega]
      | succ e ihe =>
        intro x h1 h2 h3
        have hx : x < Q.length := by omega
        rw [newL_drop g hx, (r.mid j h x hx h2 (by omega)).1, List.map_nil, List.nil_append]
        exact ihe (x + 1) (by omega) (by omega) (by omega)
    rw [newL_drop g hF, newL_drop f h, hskip _ (F j + 1) rfl (by omega) (by omega), ih, (r.sq j h hF).1, r.sp j h, List.map_map, List.map_map]
    congr 1
    exact List.map_congr_left fun z hz => hg j h z hz
end Finer
theorem newL_map' {α β : Type} (f : α → β) (g : Nat → Stp → α) : ∀ (l : List Evt) (k : Nat), (newL g k l).map f = newL (fun k s => f (g k s)) k l
  | [], k => rfl
  | e :: r, k => by
    rw [newL, List.map_append, newL_map' f g r (k + 1), List.map_map, newL]
    rfl
/-- the tones of a finer piece are the same -/
theorem tones_finer {p q : Pc} {F : Nat → Nat} {Z : Nat → List (Stp × Stp)} (r : Finer p.evs q.evs F Z) (h0 : F 0 = 0) (hi : q.ins = p.ins) (ht : ∀ j, j ≤ p.evs.length → on q (F j) = on p j)
    (hb : ∀ j (h : j < p.evs.length), ∀ s ∈ p.evs[j].stops, endN p.evs j s ≤ p.evs.length) : tonesL q = tonesL p := by
  unfold tonesL notesL
  rw [newL_map', newL_map']
  have := r.newLs (g := fun k s => toTn (noteOf q k s)) (f := fun k s => toTn (noteOf p k s)) (fun j h z hz => ?_) _ 0 rfl (Nat.zero_le _)
  · rw [h0] at this
    exact this
  · have hs := r.same j h z hz
    have he := r.endsN h hz
    have hz1 : z.1 ∈ p.evs[j].stops := by rw [r.sp j h]; exact List.mem_map.2 ⟨z, hz, rfl⟩
    show (⟨pitchOf q.ins z.2.c z.2.f, on q (F j), on q (endN q.evs (F j) z.2)⟩ : Tn) = ⟨pitchOf p.ins z.1.c z.1.f, on p j, on p (endN p.evs j z.1)⟩
    rw [hi, ← hs.1, ← hs.2, he, ht j (by omega), ht _ (hb j h z.1 hz1)]
end Go.Ab.V

/-
  Plain and terse signs, joined ties and bar lines: the tones stay. Plain Lean. The pieces are valid.
-/
namespace Go.Ab.V
open Go.Proofs

theorem end_ok {p : Pc} (v : Vp p) {k : Nat} (hk : k < p.evs.length) {s : Stp} (hs : s ∈ p.evs[k].stops) : endN p.evs k s ≤ p.evs.length := by
  have h1 := v.sp k hk s hs
  unfold endN
  split
  · exact stayN_le (by omega)
  · exact openN_le _ hk
/-- within a hold there is no rest -/
theorem hold_in {p : Pc} (hc : chk p = 0) {j : Nat} (h : j < p.evs.length) {s : Stp} (hs : s ∈ p.evs[j].stops) : j + s.h.toNat < p.evs.length ∧ ∀ y (hy : y < p.evs.length), j ≤ y → y ≤ j + s.h.toNat → restE p.evs[y] = false := by
  have v := vp hc
  have h1 := v.sp j h s hs
  refine ⟨by omega, fun y hy a b => ?_⟩
  rcases Nat.eq_or_lt_of_le a with e | e
  · subst e
    unfold restE
    have : 0 < p.evs[j].stops.length := List.length_pos_of_mem hs
    rw [decide_eq_false (by omega)]
    rfl
  · have h2 := longest_at (l := p.evs) (k := j) h s.c
    have h3 := longL_ok (c := s.c) (n := 15) (l := p.evs.drop (j + 1)) (j := y - (j + 1)) (by rw [List.length_drop]; omega) (by omega)
    rw [List.getElem_drop] at h3
    have e2 : j + 1 + (y - (j + 1)) = y := by omega
    simp only [e2] at h3
    exact h3.1
/-- pieces that differ in signs alone -/
theorem tones_body {p q : Pc} (hc : chk p = 0) (hi : q.ins = p.ins) (hb : q.evs.map body = p.evs.map body) (ho : onsets q = onsets p) : tonesL q = tonesL p := by
  have hl : q.evs.length = p.evs.length := by have := congrArg List.length hb; simpa using this
  have hg : ∀ j (h : j < p.evs.length) (h2 : j < q.evs.length), q.evs[j].stops = p.evs[j].stops ∧ q.evs[j].tie = p.evs[j].tie := fun j h h2 => by
    have e1 : (q.evs.map body)[j]? = (p.evs.map body)[j]? := by rw [hb]
    rw [List.getElem?_map, List.getElem?_map, List.getElem?_eq_getElem h, List.getElem?_eq_getElem h2] at e1
    simp only [Option.map_some, Option.some.injEq, body, Prod.mk.injEq] at e1
    exact ⟨e1.2, e1.1⟩
  refine tones_finer (F := fun j => j) (Z := fun j => (if h : j < p.evs.length then p.evs[j].stops else []).map fun s => (s, s)) ?_ rfl hi (fun j _ => by unfold on; rw [ho]) (fun j h s hs => end_ok (vp hc) h hs)
  refine ⟨fun j _ => Nat.lt_succ_self j, hl.symm, fun j h => ?_, fun j h h2 => ?_, fun j h z hz => ?_, fun j h z hz hf => ?_, fun j h x h2 h3 h4 => by omega⟩
  · rw [dif_pos h, List.map_map]
    exact (List.map_id _).symm
  · rw [dif_pos h, List.map_map]
    have := hg j h h2
    exact ⟨this.1.trans (List.map_id _).symm, this.2⟩
  · rw [dif_pos h] at hz
    obtain ⟨s, hs, rfl⟩ := List.mem_map.1 hz
    exact ⟨rfl, rfl⟩
  · rw [dif_pos h] at hz
    obtain ⟨s, hs, rfl⟩ := List.mem_map.1 hz
    obtain ⟨a, b⟩ := hold_in hc h hs
    dsimp only
    exact ⟨a, by omega, by omega, fun y => b _ y (by omega) (Nat.le_refl _)⟩
theorem tones_pln {p : Pc} (hc : chk p = 0) : tonesL ⟨p.ins, outE plnS sz p.evs⟩ = tonesL p := tones_body hc rfl (pln_body p.evs) (pln_ons hc)
theorem tones_trs {p : Pc} (hc : chk p = 0) : tonesL ⟨p.ins, outE trsS sz p.evs⟩ = tonesL p := tones_body hc rfl (trs_body p.evs) (trs_ons hc)

/-! ### times of plain pieces -/
theorem ons_sm : ∀ (l : List Evt) (f t : Int) (j : Nat), (∀ e ∈ l, 0 < tkE e) → j ≤ l.length → (t :: onsT f t l).getD j 0 = t + smT (l.take j)
  | l, f, t, 0, _, _ => by simp [smT]
  | [], f, t, j + 1, _, h => by simp at h
  | e :: r, f, t, j + 1, ht, h => by
    have h1 := frc_tk (f := f) (ht e (List.mem_cons_self ..))
    have ih := ons_sm r (frc f e) (t + frc f e) j (fun x hx => ht x (List.mem_cons_of_mem _ hx)) (by simpa using h)
    rw [List.getD_cons_succ, onsT, ih, List.take_succ_cons, smT, h1]
    omega
theorem on_sm {i : Ins} {l : List Evt} (ht : ∀ e ∈ l, 0 < tkE e) {j : Nat} (h : j ≤ l.length) : on ⟨i, l⟩ j = smT (l.take j) := by
  have := ons_sm l 0 0 j ht h
  unfold on onsets
  rw [this]; omega
end Go.Ab.V

/-
  Joined ties: the tones stay. Plain Lean. The pieces are valid.
-/
namespace Go.Ab.V
open Go.Proofs

theorem tie_gone {l : List Evt} : ∀ k, k ≤ l.length → ∀ i (h : i < l.length), (jst (l.take k)).m[i]? = some true → l[i].tie = true
  | 0, _, i, h, hm => by simp [jst] at hm
  | k + 1, hk, i, h, hm => by
    have hk' : k < l.length := by omega
    have hI := jinv_take l k (by omega)
    rw [jst_take hk'] at hm
    have hml : (jst (l.take k)).m.length = k := by rw [hI.ml, List.length_take]; omega
    unfold jst1 at hm
    split at hm
    · rename_i s hs
      by_cases c : i < k
      · rw [show ({ o := _, g := _, m := _ } : Jn).m = (jst (l.take k)).m ++ [true] from rfl, List.getElem?_append_left (by omega)] at hm
        exact tie_gone k (by omega) i h hm
      · have : i = k := by
          have h2 := (List.getElem?_eq_some_iff.1 hm).1
          rw [show ({ o := _, g := _, m := _ } : Jn).m = (jst (l.take k)).m ++ [true] from rfl, List.length_append, List.length_singleton] at h2
          omega
        subst this
        have h3 := (mrg_pos hs).1
        unfold mayJ at h3
        simp only [Bool.and_eq_true] at h3
        exact h3.1.2
    · rw [show ({ o := _, g := _, m := _ } : Jn).m = (jst (l.take k)).m ++ [false] from rfl] at hm
      by_cases c : i < k
      · rw [List.getElem?_append_left (by omega)] at hm
        exact tie_gone k (by omega) i h hm
      · rw [List.getElem?_append_right (by omega)] at hm
        have : i - (jst (l.take k)).m.length = 0 := by
          have h2 := (List.getElem?_eq_some_iff.1 hm).1
          simp at h2; omega
        rw [this] at hm
        simp at hm
/-- the flags of a beginning are the first flags -/
theorem jst_m {l : List Evt} : ∀ (d k : Nat), d = l.length - k → k ≤ l.length → (jst l).m.take k = (jst (l.take k)).m
  | 0, k, hd, hk => by
    have hI := jinv l
    rw [show k = l.length by omega, List.take_length, ← hI.ml, List.take_length]
  | d + 1, k, hd, hk => by
    have ih := jst_m (l := l) d (k + 1) (by omega) (by omega)
    have hI := jinv_take l k hk
    have hml : (jst (l.take k)).m.length = k := by rw [hI.ml, List.length_take]; omega
    have h2 : (jst l).m.take k = ((jst l).m.take (k + 1)).take k := by rw [List.take_take, Nat.min_eq_left (by omega)]
    rw [h2, ih, jst_take (by omega)]
    unfold jst1
    split
    · rw [show ({ o := _, g := _, m := _ } : Jn).m = (jst (l.take k)).m ++ [true] from rfl, List.take_append_of_le_length (by omega), List.take_of_length_le (by omega)]
    · rw [show ({ o := _, g := _, m := _ } : Jn).m = (jst (l.take k)).m ++ [false] from rfl, List.take_append_of_le_length (by omega), List.take_of_length_le (by omega)]
/-- what has been pushed stays, but for the last -/
theorem jst1_take {st : Jn} {e : Evt} {j : Nat} (h : j < st.o.length) : (jst1 st e).o.take j = st.o.take j := by
  unfold jst1
  split
  · show (st.o.set (st.o.length - 1) _).take j = _
    rw [List.take_set_of_le (by omega)]
  · show (st.o ++ [e]).take j = _
    rw [List.take_append_of_le_length (by omega)]
theorem jst1_len {st : Jn} {e : Evt} : st.o.length ≤ (jst1 st e).o.length := by
  unfold jst1
  split
  · show _ ≤ (st.o.set (st.o.length - 1) _).length
    rw [List.length_set]; exact Nat.le_refl _
  · show _ ≤ (st.o ++ [e]).length
    rw [List.length_append]; omega
theorem jst_keep {l : List Evt} {j : Nat} : ∀ (d k : Nat), k + d ≤ l.length → j < (jst (l.take k)).o.length → (jst (l.take (k + d))).o.take j = (jst (l.take k)).o.take j ∧ j < (jst (l.take (k + d))).o.length
  | 0, k, hk, h => ⟨rfl, h⟩
  | d + 1, k, hk, h => by
    obtain ⟨a, b⟩ := jst_keep (l := l) d k (by omega) h
    rw [show k + (d + 1) = k + d + 1 by omega, jst_take (by omega), jst1_take b, a]
    exact ⟨rfl, by have := jst1_len (st := jst (l.take (k + d))) (e := l[k + d]'(by omega)); omega⟩
/-- the sum of what comes before an event that stays -/
theorem jst_sum {l : List Evt} (hl : ∀ e ∈ l, e.tie = true → e.stops = []) {i : Nat} (h : i < l.length) (hm : (jst l).m[i]? = some false) : smT ((jst l).o.take (cF ((jst l).m.take i))) = smT (l.take i) := by
  have hI := jinv_take l i (by omega)
  have h1 := (jst_stk 1 l hl i (by omega)).1
  have hmi := jst_m (l := l) _ i rfl (by omega)
  have hol : (jst (l.take i)).o.length = cF ((jst l).m.take i) := by rw [hmi]; exact hI.ol
  have hpush : (jst (l.take (i + 1))).o = (jst (l.take i)).o ++ [l[i]] := by
    have hm1 := jst_m (l := l) _ (i + 1) rfl (by omega)
    have hx : (jst (l.take (i + 1))).m[i]? = some false := by rw [← hm1, List.getElem?_take, if_pos (by omega)]; exact hm
    have hml : (jst (l.take i)).m.length = i := by rw [hI.ml, List.length_take]; omega
    rw [jst_take h] at hx ⊢
    unfold jst1 at hx ⊢
    split at hx
    · rw [show ({ o := _, g := _, m := _ } : Jn).m = (jst (l.take i)).m ++ [true] from rfl, List.getElem?_append_right (by omega), hml, Nat.sub_self] at hx
      simp at hx
    · rfl
  have hk := (jst_keep (l := l) (j := cF ((jst l).m.take i)) (l.length - (i + 1)) (i + 1) (by omega) (by rw [hpush, List.length_append, List.length_singleton]; omega)).1
  rw [show i + 1 + (l.length - (i + 1)) = l.length by omega, List.take_length] at hk
  rw [hk, hpush, List.take_append_of_le_length (by omega), List.take_of_length_le (by omega), h1]
theorem jL_sm (st : Jn) (hg : st.g.length = st.o.length) (j : Nat) : smT ((jL st).take j) = smT (st.o.take j) := by
  unfold jL
  rw [List.take_zipWith]
  have : ∀ (g : List Nat) (o : List Evt), g.length = o.length → smT (List.zipWith (goneE st.m) g o) = smT o := by
    intro g
    induction g with
    | nil => intro o h; cases o <;> simp_all [smT]
    | cons a g ih =>
      intro o h
      cases o with
      | nil => simp at h
      | cons x o =>
        rw [List.zipWith_cons_cons, smT, smT, ih o (by simpa using h)]
        rfl
  exact this _ _ (by rw [List.length_take, List.length_take, hg])
/-- where the events of the result come from -/
def orgJ (l : List Evt) (j : Nat) : Nat := (jst l).g.getD j l.length
theorem org_at {l : List Evt} {j : Nat} (h : j < (jst l).o.length) : ∃ hi : orgJ l j < l.length, (jst l).m[orgJ l j]? = some false ∧ cF ((jst l).m.take (orgJ l j)) = j := by
  have hI := jinv l
  obtain ⟨i, hi, hm, hc⟩ := cF_inv (m := (jst l).m) (j := j) (by rw [← hI.ol]; exact h)
  have hg := hI.gi i hi hm
  rw [hc] at hg
  have e : orgJ l j = i := by unfold orgJ; rw [List.getD_eq_getElem?_getD, hg]; rfl
  rw [e]
  exact ⟨by rw [← hI.ml]; exact hi, by rw [List.getElem?_eq_getElem hi, hm], hc⟩
theorem org_end {l : List Evt} {j : Nat} (h : (jst l).o.length ≤ j) : orgJ l j = l.length := by
  unfold orgJ
  rw [List.getD_eq_getElem?_getD, List.getElem?_eq_none (by rw [(jinv l).gl]; exact h)]
  rfl
theorem cF_step {m : List Bool} {i : Nat} (h : m[i]? = some false) : cF (m.take (i + 1)) = cF (m.take i) + 1 := by
  have hi := (List.getElem?_eq_some_iff.1 h).1
  have := cF_succ hi
  rw [List.getElem?_eq_getElem hi] at h
  rw [this, Option.some.inj h]
  rfl
theorem cF_all (m : List Bool) (x : Nat) : cF (m.take x) ≤ cF m := by
  have := cF_app (m.take x) (m.drop x)
  rw [List.take_append_drop] at this
  omega
/-- where a count of what stays lies -/
theorem org_between {l : List Evt} {x y : Nat} (hx : x ≤ l.length) (hc : cF ((jst l).m.take x) = y + 1) : y < (jst l).o.length ∧ orgJ l y < x ∧ x ≤ orgJ l (y + 1) := by
  have hI := jinv l
  have h0 := cF_all (jst l).m x
  have hy : y < (jst l).o.length := by rw [hI.ol]; omega
  obtain ⟨a1, a2, a3⟩ := org_at hy
  refine ⟨hy, ?_, ?_⟩
  · rcases Nat.lt_or_ge (orgJ l y) x with c | c
    · exact c
    · have := cF_mono (m := (jst l).m) c
      omega
  · rcases Nat.lt_or_ge (y + 1) (jst l).o.length with c | c
    · obtain ⟨b1, b2, b3⟩ := org_at c
      rcases Nat.lt_or_ge (orgJ l (y + 1)) x with d | d
      · have h1 := cF_step b2
        have h2 := cF_mono (m := (jst l).m) (show orgJ l (y + 1) + 1 ≤ x from d)
        omega
      · exact d
    · rw [org_end c]; exact hx
theorem org_lt {l : List Evt} {j : Nat} (h : j < (jst l).o.length) : orgJ l j < orgJ l (j + 1) := by
  obtain ⟨a1, a2, a3⟩ := org_at h
  rcases Nat.lt_or_ge (j + 1) (jst l).o.length with c | c
  · obtain ⟨b1, b2, b3⟩ := org_at c
    rcases Nat.lt_or_ge (orgJ l j) (orgJ l (j + 1)) with d | d
    · exact d
    · have := cF_mono (m := (jst l).m) d
      omega
  · rw [org_end c]; exact a1
theorem jL_tie {l : List Evt} {j : Nat} (h : j < (jst l).o.length) (h2 : j < (jL (jst l)).length) (hi : orgJ l j < l.length) :
    (jL (jst l))[j].stops = l[orgJ l j].stops.map (goneS (jst l).m (orgJ l j)) ∧ (jL (jst l))[j].tie = l[orgJ l j].tie := by
  have hI := jinv l
  obtain ⟨i, e, s, k1, k2, k3⟩ := hI.gs j h
  have e1 : orgJ l j = i := by unfold orgJ; rw [List.getD_eq_getElem?_getD, k1]; rfl
  have hgl : j < (jst l).g.length := by rw [hI.gl]; exact h
  rw [List.getElem?_eq_getElem hgl] at k1
  rw [List.getElem?_eq_getElem h] at k3
  have hil : i < l.length := (List.getElem?_eq_some_iff.1 k2).1
  rw [List.getElem?_eq_getElem hil] at k2
  have hj : (jL (jst l))[j] = goneE (jst l).m i (withS l[i] s) := by
    simp only [jL, List.getElem_zipWith]
    rw [Option.some.inj k1, Option.some.inj k3, Option.some.inj k2]
  rw [hj]
  simp only [e1]
  exact ⟨rfl, rfl⟩
/-- the tones of a joined piece -/
theorem tones_joined {i : Ins} {P : List Evt} (hc : chk ⟨i, P⟩ = 0) (hg : ∀ e ∈ P, GoodE e) : tonesL ⟨i, joinE P⟩ = tonesL ⟨i, P⟩ := by
  have hJ := join_chk (p := ⟨i, P⟩) hc hg
  have v := vp hc
  have hI := jinv P
  have hJl : (joinE P).length = (jst P).o.length := jL_len hI
  have htn : ∀ e ∈ P, e.tie = true → e.stops = [] := tie_nil (p := ⟨i, P⟩) hc
  have hPt : ∀ e ∈ P, 0 < tkE e := fun e he => (hg e he).2
  have hJt : ∀ e ∈ joinE P, 0 < tkE e := fun e he => by
    obtain ⟨j, hj, rfl⟩ := List.getElem_of_mem he
    obtain ⟨a, b, c, k1, k2, s, k3, k4⟩ := jL_ev hj
    show 0 < tkE (jL (jst P))[j]
    rw [k4]
    exact (good_jst hg _ (List.mem_of_getElem? k3)).2
  symm
  refine tones_finer (p := ⟨i, joinE P⟩) (q := ⟨i, P⟩) (F := orgJ P) (Z := fun j => (if h : orgJ P j < P.length then P[orgJ P j].stops else []).map fun s => (goneS (jst P).m (orgJ P j) s, s)) ?_ ?_ rfl (fun j hj => ?_) (fun j h s hs => end_ok (vp hJ) h hs)
  · refine ⟨fun j hj => org_lt (by rw [← hJl]; exact hj), org_end (by rw [← hJl]; exact Nat.le_refl _), fun j hj => ?_, fun j hj hq => ?_, fun j hj z hz => ?_, fun j hj z hz hf => ?_, fun j hj x hx h1 h2 => ?_⟩
    · have hjo : j < (jst P).o.length := by rw [← hJl]; exact hj
      obtain ⟨a1, a2, a3⟩ := org_at hjo
      rw [dif_pos a1, List.map_map]
      exact (jL_tie hjo hj a1).1
    · have hjo : j < (jst P).o.length := by rw [← hJl]; exact hj
      rw [dif_pos hq, List.map_map]
      exact ⟨by show P[orgJ P j].stops = _; exact (List.map_id _).symm, (jL_tie hjo hj hq).2.symm⟩
    · have hjo : j < (jst P).o.length := by rw [← hJl]; exact hj
      obtain ⟨a1, a2, a3⟩ := org_at hjo
      rw [dif_pos a1] at hz
      obtain ⟨s, hs, rfl⟩ := List.mem_map.1 hz
      exact ⟨rfl, rfl⟩
    · have hjo : j < (jst P).o.length := by rw [← hJl]; exact hj
      obtain ⟨a1, a2, a3⟩ := org_at hjo
      rw [dif_pos a1] at hz
      obtain ⟨s, hs, rfl⟩ := List.mem_map.1 hz
      have hs0 := v.sp (orgJ P j) a1 s hs
      obtain ⟨q1, q2⟩ := hold_in hc a1 hs
      have q1 : orgJ P j + s.h.toNat < P.length := q1
      have q2 : ∀ y (hy : y < P.length), orgJ P j ≤ y → y ≤ orgJ P j + s.h.toNat → restE P[y] = false := q2
      -- how many stay
      have hcnt : cF ((jst P).m.take (orgJ P j + s.h.toNat + 1)) = j + (goneS (jst P).m (orgJ P j) s).h.toNat + 1 := by
        have e1 : (jst P).m.take (orgJ P j + s.h.toNat + 1) = (jst P).m.take (orgJ P j + 1) ++ ((jst P).m.drop (orgJ P j + 1)).take s.h.toNat := by
          rw [show orgJ P j + s.h.toNat + 1 = (orgJ P j + 1) + s.h.toNat by omega, List.take_add]
        have e2 := cF_cnt (((jst P).m.drop (orgJ P j + 1)).take s.h.toNat)
        have e3 : (((jst P).m.drop (orgJ P j + 1)).take s.h.toNat).length = s.h.toNat := by
          rw [List.length_take, List.length_drop, hI.ml]; omega
        have e4 := cF_step a2
        have e5 : (goneS (jst P).m (orgJ P j) s).h = s.h - (cntT (((jst P).m.drop (orgJ P j + 1)).take s.h.toNat) : Nat) := rfl
        rw [e1, cF_app, e4, a3, e5]
        omega
      obtain ⟨b1, b2, b3⟩ := org_between (l := P) (x := orgJ P j + s.h.toNat + 1) (by omega) hcnt
      dsimp only
      refine ⟨by show _ < (joinE P).length; rw [hJl]; exact b1, b2, b3, fun hh => ?_⟩
      obtain ⟨d1, d2, d3⟩ := org_at b1
      have hh2 : j + (goneS (jst P).m (orgJ P j) s).h.toNat < (jL (jst P)).length := hh
      obtain ⟨t1, t2⟩ := jL_tie b1 hh2 d1
      have hle : orgJ P j ≤ orgJ P (j + (goneS (jst P).m (orgJ P j) s).h.toNat) := by
        rcases Nat.lt_or_ge (orgJ P (j + (goneS (jst P).m (orgJ P j) s).h.toNat)) (orgJ P j) with c | c
        · have h5 := cF_step d2
          have h6 := cF_mono (m := (jst P).m) (show orgJ P (j + (goneS (jst P).m (orgJ P j) s).h.toNat) + 1 ≤ orgJ P j from c)
          omega
        · exact c
      have hr := q2 _ d1 hle (by omega)
      have key : restE ((jL (jst P))[j + (goneS (jst P).m (orgJ P j) s).h.toNat]'hh2) = false := by
        unfold restE at hr ⊢
        rw [t1, t2, List.length_map]
        exact hr
      exact key
    · have hjo : j < (jst P).o.length := by rw [← hJl]; exact hj
      obtain ⟨a1, a2, a3⟩ := org_at hjo
      have hxm : x < (jst P).m.length := by rw [hI.ml]; exact hx
      have hm : (jst P).m[x]? = some true := by
        rw [List.getElem?_eq_getElem hxm]
        cases hb : (jst P).m[x]
        · exfalso
          have hgx : (jst P).m[x]? = some false := by rw [List.getElem?_eq_getElem hxm, hb]
          have h3 := cF_step a2
          have h4 := cF_mono (m := (jst P).m) (show orgJ P j + 1 ≤ x from h1)
          have h5 := cF_step hgx
          rcases Nat.lt_or_ge (j + 1) (jst P).o.length with c | c
          · obtain ⟨b1, b2, b3⟩ := org_at c
            have h6 := cF_mono (m := (jst P).m) (show x + 1 ≤ orgJ P (j + 1) from h2)
            omega
          · have h6 := cF_all (jst P).m (x + 1)
            have h7 := hI.ol
            omega
        · rfl
      have ht := tie_gone (l := P) P.length (Nat.le_refl _) x hx (by rw [List.take_length]; exact hm)
      exact ⟨htn _ (List.getElem_mem hx) ht, fun _ => ht⟩
  · rcases Nat.eq_zero_or_pos P.length with c | c
    · rw [org_end (by have h1 := hI.ol; have h2 := cF_le (jst P).m; rw [hI.ml] at h2; omega), c]
    · have h0 := jst_m0 c
      have h1 : 0 < (jst P).o.length := by
        have h1 := cF_step h0
        have h2 := cF_all (jst P).m (0 + 1)
        have h3 := hI.ol
        omega
      obtain ⟨a1, a2, a3⟩ := org_at h1
      have h2 := cF_step h0
      rcases Nat.eq_zero_or_pos (orgJ P 0) with d | d
      · exact d
      · have h3 := cF_mono (m := (jst P).m) (show 0 + 1 ≤ orgJ P 0 from d)
        omega
  · have hj : j ≤ (joinE P).length := hj
    have hFj : orgJ P j ≤ P.length := by
      rcases Nat.lt_or_ge j (jst P).o.length with c | c
      · exact Nat.le_of_lt (org_at c).1
      · rw [org_end c]; exact Nat.le_refl _
    rw [on_sm hPt hFj, on_sm hJt hj]
    unfold joinE
    rw [jL_sm _ hI.gl]
    rcases Nat.lt_or_ge j (jst P).o.length with c | c
    · obtain ⟨a1, a2, a3⟩ := org_at c
      have := jst_sum htn a1 a2
      rw [a3] at this
      exact this.symm
    · rw [org_end c, List.take_length, List.take_of_length_le c]
      have := (jst_stk 1 P htn P.length (Nat.le_refl _)).1
      rw [List.take_length] at this
      exact this.symm
theorem tones_join {p : Pc} (hc : chk p = 0) : tonesL ⟨p.ins, joinE (outE plnS sz p.evs)⟩ = tonesL p :=
  (tones_joined (pln_chk hc) (pln_good hc)).trans (tones_pln hc)
end Go.Ab.V

/-
  Bar lines: the tones stay. Plain Lean. The pieces are valid.
-/
namespace Go.Ab.V
open Go.Proofs

theorem fstL_fxN : ∀ (G : List (List Evt)) (c j : Nat), j < G.length → (fstL c G).getD j 0 = c + fxN G j
  | g :: G, c, 0, _ => by simp [fstL, fxN]
  | g :: G, c, j + 1, h => by
    have ih := fstL_fxN G (c + g.length) j (by simpa using h)
    rw [fstL, List.getD_cons_succ, ih]
    unfold fxN
    rw [List.take_succ_cons, List.flatten_cons, List.length_append]
    omega
/-- event by event: the first of a group has the stops, the others are ties -/
theorem grps_fine {bar : Nat} {F : List Nat} : ∀ {a i : Nat} {l : List Evt} {G : List (List Evt)}, Grps bar a l G → (∀ e ∈ l, 0 < tkn e) → ∀ j (h : j < l.length), fxN G j < fxN G (j + 1) ∧
    (∀ h2 : fxN G j < (brkO F i G).length, (brkO F i G)[fxN G j].stops = l[j].stops.map (holdB F (i + j)) ∧ (brkO F i G)[fxN G j].tie = l[j].tie) ∧
    ∀ x (hx : x < (brkO F i G).length), fxN G j < x → x < fxN G (j + 1) → (brkO F i G)[x].stops = [] ∧ (brkO F i G)[x].tie = !restE l[j]
  | _, _, _, _, .nil, _, j, hj => by simp at hj
  | a, i, e :: r, _, .cons (g := g) (G := G) hp hG, ht, 0, hj => by
    have hte := ht e (List.mem_cons_self ..)
    obtain ⟨f, tl, rfl, q1, q2, q3⟩ := parts_first (by omega) hp
    have h1 : fxN ((f :: tl) :: G) (0 + 1) = tl.length + 1 := by simp [fxN]
    have h0 : fxN ((f :: tl) :: G) 0 = 0 := rfl
    refine ⟨by omega, fun h2 => ?_, fun x hx a1 a2 => ?_⟩
    · simp only [h0]
      show (f.stops.map (holdB F i)) = e.stops.map (holdB F i) ∧ f.tie = e.tie
      exact ⟨by rw [q1], q2⟩
    · have e1 : (brkO F i ((f :: tl) :: G))[x] = tl[x - 1]'(by omega) := by
        refine (List.getElem_of_eq (show brkO F i ((f :: tl) :: G) = evB F i f :: (tl ++ brkO F (i + 1) G) from rfl) hx).trans ?_
        rw [List.getElem_cons, dif_neg (by omega), List.getElem_append_left (by omega)]
      rw [e1]
      exact q3 _ (List.getElem_mem _)
  | a, i, e :: r, _, .cons (g := g) (G := G) hp hG, ht, j + 1, hj => by
    obtain ⟨k1, k2, k3⟩ := grps_fine (F := F) (i := i + 1) hG (fun x hx => ht x (List.mem_cons_of_mem _ hx)) j (by simpa using hj)
    have hfx : ∀ j, fxN (g :: G) (j + 1) = g.length + fxN G j := fun j => by simp [fxN]
    have hl : (brkG F i g).length = g.length := brkG_len _ _ _
    have hget : ∀ y (hy : g.length + y < (brkO F i (g :: G)).length), ∃ h4 : y < (brkO F (i + 1) G).length, (brkO F i (g :: G))[g.length + y] = (brkO F (i + 1) G)[y] := fun y hy => by
      have h4 : y < (brkO F (i + 1) G).length := by
        have : (brkO F i (g :: G)).length = (brkG F i g).length + (brkO F (i + 1) G).length := by show (brkG F i g ++ brkO F (i + 1) G).length = _; rw [List.length_append]
        omega
      refine ⟨h4, ?_⟩
      refine (List.getElem_of_eq (show brkO F i (g :: G) = brkG F i g ++ brkO F (i + 1) G from rfl) hy).trans ?_
      rw [List.getElem_append_right (by omega)]
      simp only [hl, Nat.add_sub_cancel_left]
    simp only [hfx]
    refine ⟨by omega, fun h2 => ?_, fun x hx a1 a2 => ?_⟩
    · obtain ⟨h4, e4⟩ := hget _ h2
      rw [e4]
      have := k2 h4
      rw [show i + 1 + j = i + (j + 1) by omega] at this
      exact this
    · obtain ⟨y, rfl⟩ : ∃ y, x = g.length + y := ⟨x - g.length, by omega⟩
      obtain ⟨h4, e4⟩ := hget y hx
      rw [e4]
      exact k3 y h4 (by omega) (by omega)
theorem sumE_smT : ∀ {l : List Evt}, (∀ e ∈ l, 0 < tkE e) → smT l = (sumE l : Nat)
  | [], _ => rfl
  | e :: r, h => by
    have h1 := h e (List.mem_cons_self ..)
    have ih := sumE_smT (l := r) fun x hx => h x (List.mem_cons_of_mem _ hx)
    rw [smT, sumE, ih]
    unfold tkn
    omega
theorem tones_brk {p q : Pc} {bar : Int} (h : brkP p bar = .ok q) : tonesL q = tonesL p := by
  obtain ⟨hc, hb1, hb2, G, hG, hl, hbad, rfl⟩ := brk_ok h
  have htk := pln_tk hc
  have htn : ∀ e ∈ outE plnS sz p.evs, 0 < tkn e := fun e he => by have := htk e he; unfold tkn; omega
  have hg := brkL_grps (by omega) htk hG
  have hgl := grps_len hg
  have hcp := pln_chk hc
  have hbr := (brk_barred h).1
  rw [← tones_pln hc]
  obtain ⟨P, hP⟩ : ∃ P, P = outE plnS sz p.evs := ⟨_, rfl⟩
  rw [← hP] at htk htn hg hgl hcp hG hbad ⊢
  have v := vp hcp
  have hlen : fxN G P.length = (brkO (fstL 0 G) 0 G).length := by
    rw [brkO_len, ← hgl]
    unfold fxN
    rw [List.take_length]
  have hfin := grps_fine (F := fstL 0 G) (i := 0) hg htn
  have hfx : ∀ j, j < P.length → (fstL 0 G).getD j 0 = fxN G j := fun j hj => by rw [fstL_fxN G 0 j (by omega), Nat.zero_add]
  have hmono : ∀ {a b : Nat}, a < b → b ≤ P.length → fxN G a < fxN G b := fun {a b} hab hb => by
    induction b with
    | zero => omega
    | succ b ih =>
      have := (hfin b (by omega)).1
      rcases Nat.eq_or_lt_of_le (Nat.le_of_lt_succ hab) with c | c
      · subst c; exact this
      · have := ih c (by omega); omega
  have hQt : ∀ e ∈ brkO (fstL 0 G) 0 G, 0 < tkE e := bsd_tk (bsd_brkO hg)
  refine tones_finer (p := ⟨p.ins, P⟩) (q := ⟨p.ins, brkO (fstL 0 G) 0 G⟩) (F := fxN G) (Z := fun j => (if h : j < P.length then P[j].stops else []).map fun s => (s, holdB (fstL 0 G) j s)) ?_ rfl rfl (fun j hj => ?_) (fun j h s hs => end_ok v h hs)
  · refine ⟨fun j hj => (hfin j hj).1, hlen, fun j hj => ?_, fun j hj h2 => ?_, fun j hj z hz => ?_, fun j hj z hz hf => ?_, fun j hj x hx a b => ?_⟩
    · have hj : j < P.length := hj
      rw [dif_pos hj, List.map_map]
      show P[j].stops = _
      exact (List.map_id _).symm
    · have hj : j < P.length := hj
      have := (hfin j hj).2.1 h2
      rw [Nat.zero_add] at this
      rw [dif_pos hj, List.map_map]
      exact this
    · have hj : j < P.length := hj
      rw [dif_pos hj] at hz
      obtain ⟨s, hs, rfl⟩ := List.mem_map.1 hz
      have := holdB_plc (fstL 0 G) j s
      exact ⟨this.1.symm, this.2.symm⟩
    · have hj : j < P.length := hj
      rw [dif_pos hj] at hz
      obtain ⟨s, hs, rfl⟩ := List.mem_map.1 hz
      obtain ⟨q1, q2⟩ := hold_in hcp hj hs
      have q1 : j + s.h.toNat < P.length := q1
      have q2 : ∀ y (hy : y < P.length), j ≤ y → y ≤ j + s.h.toNat → restE P[y] = false := q2
      dsimp only
      have hm := hmono (a := j + s.h.toNat) (b := j + s.h.toNat + 1) (by omega) (by omega)
      refine ⟨q1, ?_, ?_, fun hh => q2 _ hh (by omega) (Nat.le_refl _)⟩
      · unfold holdB
        by_cases h0 : 0 < s.h
        · rw [if_pos h0, hfx _ q1, hfx _ hj]
          have := hmono (a := j) (b := j + s.h.toNat) (by omega) (by omega)
          dsimp only
          omega
        · rw [if_neg h0, show s.h.toNat = 0 by omega]
          simp
      · unfold holdB
        by_cases h0 : 0 < s.h
        · rw [if_pos h0, hfx _ q1, hfx _ hj]
          have := hmono (a := j) (b := j + s.h.toNat) (by omega) (by omega)
          dsimp only
          omega
        · rw [if_neg h0]
          rw [show s.h.toNat = 0 by omega] at hm ⊢
          simp only [Nat.add_zero] at hm ⊢
          omega
    · have := (hfin j hj).2.2 x hx a b
      refine ⟨this.1, fun hr => ?_⟩
      rw [this.2, hr]
      rfl
  · have hj : j ≤ P.length := hj
    have hF : fxN G j ≤ (brkO (fstL 0 G) 0 G).length := by
      rw [← hlen]
      rcases Nat.eq_or_lt_of_le hj with c | c
      · subst c; exact Nat.le_refl _
      · exact Nat.le_of_lt (hmono c (Nat.le_refl _))
    rw [on_sm hQt hF, on_sm htk hj, sumE_smT fun e he => hQt e (List.mem_of_mem_take he), sumE_smT fun e he => htk e (List.mem_of_mem_take he), (grps_at (F := fstL 0 G) (i := 0) hg htn j hj).1]
end Go.Ab.V
