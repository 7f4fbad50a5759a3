/-
  What is proved here serves the law's text: each part says its own claim and its conditions. No condition is left open.
-/
import Derived.Test.YtchkiolagohnlaaJH
import Derived.Test.YtchkiolagohnlaaJB
set_option linter.unusedSimpArgs false
set_option linter.unusedVariables false

/-
  Notes of one course do not overlap; every press has its note. Plain Lean. The pieces are valid.
-/
namespace Go.Ab.V
open Go.Proofs

theorem longL_stop (c : Int) : ∀ (n : Nat) (l : List Evt) (j : Nat) (h : j < l.length), hasC l[j].stops c = true → longL c n l ≤ j
  | 0, l, j, h, _ => by simp [longL]
  | n + 1, [], j, h, _ => by simp at h
  | n + 1, e :: r, j, h, hc => by
    unfold longL
    cases j with
    | zero =>
      rw [List.getElem_cons_zero] at hc
      rw [if_pos (by rw [hc, Bool.or_true])]
      omega
    | succ j =>
      rw [List.getElem_cons_succ] at hc
      split
      · omega
      · have := longL_stop c n r j (by simpa using h) hc
        omega
theorem tiesL_stop : ∀ (l : List Evt) (j : Nat) (h : j < l.length), l[j].tie = false → tiesL l ≤ j
  | [], j, h, _ => by simp at h
  | e :: r, j, h, hc => by
    unfold tiesL
    cases j with
    | zero =>
      rw [List.getElem_cons_zero] at hc
      rw [if_neg (by rw [hc]; simp)]
      omega
    | succ j =>
      rw [List.getElem_cons_succ] at hc
      split
      · have := tiesL_stop r j (by simpa using h) hc
        omega
      · omega
theorem find_stop {l : List Evt} {q : Evt → Bool} {j : Nat} (h : j < l.length) (hq : q l[j] = true) : l.findIdx q ≤ j := by
  rcases Nat.lt_or_ge j (l.findIdx q) with c | c
  · have := List.not_of_lt_findIdx c
    rw [hq] at this
    cases this
  · exact c
/-- a note ends when its course is struck again, or before -/
theorem end_next {p : Pc} (v : Vp p) {a b : Nat} (hab : a < b) (hb : b < p.evs.length) {s : Stp} (hs : s ∈ (p.evs[a]'(by omega)).stops) (hc : hasC p.evs[b].stops s.c = true) : endN p.evs a s ≤ b := by
  have h1 := v.sp a (by omega) s hs
  unfold endN
  split
  · have h2 := longest_at (l := p.evs) (k := a) (by omega) s.c
    have h3 := longL_stop s.c 15 (p.evs.drop (a + 1)) (b - (a + 1)) (by rw [List.length_drop]; omega) (by rw [List.getElem_drop]; simpa [show a + 1 + (b - (a + 1)) = b by omega] using hc)
    have ht : p.evs[b].tie = false := by
      cases hx : p.evs[b].tie
      · rfl
      · have := (v.tie b hb hx).2
        rw [this] at hc
        simp [hasC] at hc
    have h4 := tiesL_stop (p.evs.drop (a + s.h.toNat + 1)) (b - (a + s.h.toNat + 1)) (by rw [List.length_drop]; omega) (by rw [List.getElem_drop]; simpa [show a + s.h.toNat + 1 + (b - (a + s.h.toNat + 1)) = b by omega] using ht)
    unfold stayN
    omega
  · have h4 := find_stop (l := p.evs.drop (a + 1)) (q := endE s.c) (j := b - (a + 1)) (by rw [List.length_drop]; omega) (by
      rw [List.getElem_drop]
      have e : a + 1 + (b - (a + 1)) = b := by omega
      simp only [e]
      unfold endE
      rw [hc, Bool.or_true])
    unfold openN
    omega
theorem end_gt (l : List Evt) (a : Nat) (s : Stp) : a < endN l a s := by
  unfold endN stayN openN
  split <;> omega
/-- a later note and an earlier one -/
def apart (x y : Nt) : Prop := y.f < y.t ∧ ¬ (y.c = x.c ∧ y.f < x.t ∧ x.f < y.t)
theorem pw_newL {α : Type} {R : α → α → Prop} (g : Nat → Stp → α) : ∀ (l : List Evt) (k : Nat), (∀ i (h : i < l.length), (l[i].stops.map (g (k + i))).Pairwise R) →
    (∀ i j (hi : i < l.length) (hj : j < l.length), i < j → ∀ s ∈ l[i].stops, ∀ s' ∈ l[j].stops, R (g (k + i) s) (g (k + j) s')) → (newL g k l).Pairwise R
  | [], k, _, _ => .nil
  | e :: r, k, h1, h2 => by
    rw [newL, List.pairwise_append]
    refine ⟨by have := h1 0 (by simp); rw [Nat.add_zero] at this; exact this, pw_newL g r (k + 1) (fun i h => ?_) (fun i j hi hj hij s hs s' hs' => ?_), fun x hx y hy => ?_⟩
    · have := h1 (i + 1) (by simpa using h)
      rw [show k + (i + 1) = k + 1 + i by omega] at this
      simpa using this
    · have := h2 (i + 1) (j + 1) (by simpa using hi) (by simpa using hj) (by omega) s (by simpa using hs) s' (by simpa using hs')
      rwa [show k + (i + 1) = k + 1 + i by omega, show k + (j + 1) = k + 1 + j by omega] at this
    · obtain ⟨s, hs, rfl⟩ := List.mem_map.1 hx
      obtain ⟨j, hj, s', hs', rfl⟩ := newL_mem hy
      have := h2 0 (j + 1) (by simp) (by simpa using hj) (by omega) s (by simpa using hs) s' (by simpa using hs')
      rwa [Nat.add_zero, show k + (j + 1) = k + 1 + j by omega] at this
theorem notes_apart {p : Pc} (hc : chk p = 0) : (notesL p).Pairwise apart := by
  have v := vp hc
  refine pw_newL (noteOf p) p.evs 0 (fun i h => ?_) (fun i j hi hj hij s hs s' hs' => ?_)
  · rw [Nat.zero_add, List.pairwise_map]
    refine (List.Pairwise.and_mem.1 (v.asc i h)).imp ?_
    rintro x y ⟨hx, hy, hxy⟩
    have h1 := on_lt hc (end_gt p.evs i y) (by
      have h2 := v.sp i h y hy
      unfold endN
      split
      · exact stayN_le (by omega)
      · exact openN_le _ h)
    refine ⟨h1, fun e => ?_⟩
    have e1 : (noteOf p i y).c = y.c := rfl
    have e2 : (noteOf p i x).c = x.c := rfl
    rw [e1, e2] at e
    omega
  · rw [Nat.zero_add, Nat.zero_add]
    have h0 : endN p.evs j s' ≤ p.evs.length := by
      have h2 := v.sp j hj s' hs'
      unfold endN
      split
      · exact stayN_le (by omega)
      · exact openN_le _ hj
    refine ⟨on_lt hc (end_gt p.evs j s') h0, ?_⟩
    rintro ⟨e, e2, _⟩
    have e : s'.c = s.c := e
    have hh : hasC p.evs[j].stops s.c = true := by
      unfold hasC
      rw [List.any_eq_true]
      exact ⟨s', hs', by simp [e]⟩
    have h1 := end_next v hij hj hs hh
    have e2 : on p j < on p (endN p.evs i s) := e2
    rcases Nat.eq_or_lt_of_le h1 with c | c
    · rw [c] at e2; omega
    · have := on_lt hc c (by omega); omega
/-- is a note that of a press? -/
def mate (m : Pr) (x : Nt) : Bool := decide (x.e = m.e) && (decide (x.c = m.c) && (decide (x.f = m.fr) && decide (x.t = m.to)))
theorem pressF_mem {p : Pc} {x : Pr} : ∀ {l : List Evt} {k : Nat}, x ∈ pressF p k l → ∃ j, ∃ h : j < l.length, ∃ s ∈ l[j].stops, 0 < s.f ∧ x = pressOf p (k + j) s
  | [], k, h => by cases h
  | e :: r, k, h => by
    rw [pressF] at h
    rcases List.mem_append.1 h with h | h
    · obtain ⟨s, hs, rfl⟩ := List.mem_map.1 h
      unfold prF at hs
      obtain ⟨h1, h2⟩ := List.mem_filter.1 hs
      exact ⟨0, by simp, s, by simpa using h1, by simpa using h2, rfl⟩
    · obtain ⟨j, hj, s, hs, hf, e⟩ := pressF_mem h
      exact ⟨j + 1, by simpa using hj, s, by simpa using hs, hf, by rw [e, show k + 1 + j = k + (j + 1) by omega]⟩
theorem newL_in {α : Type} (g : Nat → Stp → α) : ∀ {l : List Evt} {k j : Nat} (h : j < l.length) {s : Stp}, s ∈ l[j].stops → g (k + j) s ∈ newL g k l
  | [], k, j, h, s, hs => by simp at h
  | e :: r, k, j, h, s, hs => by
    rw [newL, List.mem_append]
    cases j with
    | zero => exact .inl (List.mem_map.2 ⟨s, by simpa using hs, rfl⟩)
    | succ j =>
      refine .inr ?_
      rw [show k + (j + 1) = k + 1 + j by omega]
      exact newL_in g (by simpa using h) (by simpa using hs)
theorem press_mate {p : Pc} {m : Pr} (h : m ∈ pressF p 0 p.evs) : 1 ≤ m.f ∧ (notesL p).any (mate m) = true := by
  obtain ⟨j, hj, s, hs, hf, rfl⟩ := pressF_mem h
  rw [Nat.zero_add]
  refine ⟨by show 1 ≤ s.f; omega, List.any_eq_true.2 ⟨noteOf p j s, ?_, ?_⟩⟩
  · have := newL_in (noteOf p) (k := 0) hj hs
    rw [Nat.zero_add] at this
    exact this
  · have e1 : (pressOf p j s).to = on p (stayN p.evs j s.h.toNat) := by show toOf p j s = _; unfold toOf; rw [if_pos hf]
    have e2 : (noteOf p j s).t = on p (stayN p.evs j s.h.toNat) := by show on p (endN p.evs j s) = _; unfold endN; rw [if_pos hf]
    unfold mate
    rw [e1, e2]
    simp [noteOf, pressOf]
end Go.Ab.V
