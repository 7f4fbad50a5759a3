/-
  What is proved here serves the law's text: each part says its own claim and its conditions. No condition is left open.
-/
import Derived.Test.YtchkiolagohnlaaJL
import Derived.Test.YtchkiolagohnlaaJP
set_option linter.unusedSimpArgs false
set_option linter.unusedVariables false

/-
  What sounds between two times of sonorities. Plain Lean. The pieces are valid.
-/
namespace Go.Ab.V
open Go.Proofs

def eAt (p : Pc) (i : Nat) : Int := (timL p).getD i 0
theorem sonP_get (S : List Nt) : ∀ (C : List Int), (sonP S C).length = C.length - 1 ∧ ∀ i (h : i < (sonP S C).length), (sonP S C)[i] = ⟨C.getD i 0, C.getD (i + 1) 0, sndF S (C.getD i 0) 128 0⟩
  | [] => ⟨rfl, fun i h => by simp [sonP] at h⟩
  | [a] => ⟨rfl, fun i h => by simp [sonP] at h⟩
  | a :: b :: r => by
    obtain ⟨h1, h2⟩ := sonP_get S (b :: r)
    refine ⟨by rw [sonP, List.length_cons, h1]; simp, fun i h => ?_⟩
    cases i with
    | zero => simp [sonP]
    | succ i =>
      have hi : i < (sonP S (b :: r)).length := by
        simp only [sonP, List.length_cons] at h
        omega
      have := h2 i hi
      simp only [sonP, List.getElem_cons_succ, this, List.getD_cons_succ]
theorem timL_ne (p : Pc) : 0 < (timL p).length := by rw [timL_end, List.length_append, List.length_singleton]; omega
theorem eAt_last (p : Pc) : eAt p (sonL p).length = endT p := by
  unfold eAt sonL
  rw [(sonP_get _ _).1, timL_end, List.length_append, List.length_singleton, Nat.add_sub_cancel, List.getD_eq_getElem?_getD, List.getElem?_append_right (Nat.le_refl _), Nat.sub_self]
  rfl
theorem timL_asc {p : Pc} (hc : chk p = 0) : (timL p).Pairwise (· < ·) := (ons_asc hc).1.filter _
theorem eAt_get {p : Pc} {i : Nat} (h : i < (timL p).length) : eAt p i = (timL p)[i] := by
  unfold eAt
  rw [List.getD_eq_getElem?_getD, List.getElem?_eq_getElem h]; rfl
theorem eAt_lt {p : Pc} (hc : chk p = 0) {i j : Nat} (hij : i < j) (h : j < (timL p).length) : eAt p i < eAt p j := by
  rw [eAt_get h, eAt_get (by omega)]
  exact List.pairwise_iff_getElem.1 (timL_asc hc) i j (by omega) h hij
theorem eAt_zero {p : Pc} (hc : chk p = 0) : eAt p 0 = 0 := by
  have h0 : (0 : Int) ∈ timL p := by
    unfold timL
    rw [List.mem_filter]
    exact ⟨by rw [← on_zero p]; exact on_mem (Nat.zero_le _), by simp [markB]⟩
  obtain ⟨j, hj, e⟩ := List.getElem_of_mem h0
  have hn : ∀ x ∈ timL p, 0 ≤ x := fun x hx => ((ons_asc hc).2 x (List.mem_filter.1 hx).1).1
  rcases Nat.eq_zero_or_pos j with c | c
  · subst c; rw [eAt_get hj, e]
  · have h1 := eAt_lt hc c hj
    rw [eAt_get hj, e] at h1
    have h2 := hn _ (List.getElem_mem (timL_ne p))
    rw [eAt_get (timL_ne p)] at h1
    omega
/-- nothing begins and nothing ends between two times that follow one another -/
theorem snd_between {p : Pc} (hc : chk p = 0) {i : Nat} (h : i + 1 < (timL p).length) {t : Int} (h1 : eAt p i ≤ t) (h2 : t < eAt p (i + 1)) : sndF (stringsL p) t 128 0 = sndF (stringsL p) (eAt p i) 128 0 := by
  have hgap : ∀ x ∈ timL p, ¬ (eAt p i < x ∧ x ≤ t) := by
    intro x hx ⟨a, b⟩
    obtain ⟨j, hj, e⟩ := List.getElem_of_mem hx
    rw [← eAt_get hj] at e
    rcases Nat.lt_or_ge i j with c | c
    · rcases Nat.eq_or_lt_of_le (show i + 1 ≤ j from c) with d | d
      · subst d; omega
      · have := eAt_lt hc d hj; omega
    · rcases Nat.eq_or_lt_of_le c with d | d
      · subst d; omega
      · have := eAt_lt hc d (by omega); omega
  have hin : ∀ n ∈ stringsL p, n.f ∈ timL p ∧ n.t ∈ timL p := by
    intro n hn
    have ho := strings_on (vp hc) hn
    have hm : ∀ x, (n.f = x ∨ n.t = x) → markB (stringsL p) (endT p) x = true := fun x hx => by
      unfold markB
      rw [Bool.or_eq_true]
      exact .inr (chg_iff.2 ⟨n, hn, hx⟩)
    unfold timL
    rw [List.mem_filter, List.mem_filter]
    exact ⟨⟨ho.1, hm _ (.inl rfl)⟩, ⟨ho.2, hm _ (.inr rfl)⟩⟩
  refine asc_ext (sndF_asc _ _ _ _) (sndF_asc _ _ _ _) fun x => ?_
  rw [sndF_mem, sndF_mem, snd_iff, snd_iff]
  refine and_congr_left fun _ => ?_
  constructor
  · rintro ⟨n, hn, ⟨a, b⟩, c⟩
    refine ⟨n, hn, ⟨?_, by omega⟩, c⟩
    have := hgap n.f (hin n hn).1
    omega
  · rintro ⟨n, hn, ⟨a, b⟩, c⟩
    refine ⟨n, hn, ⟨by omega, ?_⟩, c⟩
    have := hgap n.t (hin n hn).2
    omega
/-- the sonorities, one by one -/
theorem son_at {p : Pc} (hc : chk p = 0) (t : Int) : ∀ i (h : i < (sonL p).length), (sonL p)[i].f = eAt p i ∧ (sonL p)[i].t = eAt p (i + 1) ∧ eAt p i < eAt p (i + 1) ∧ (eAt p i ≤ t → t < eAt p (i + 1) → (sonL p)[i].l = sndF (stringsL p) t 128 0) := by
  intro i h
  have hl : i + 1 < (timL p).length := by
    have := (sonP_get (stringsL p) (timL p)).1
    have e : (sonL p).length = (sonP (stringsL p) (timL p)).length := rfl
    have := timL_ne p
    omega
  have e : (sonL p)[i] = ⟨eAt p i, eAt p (i + 1), sndF (stringsL p) (eAt p i) 128 0⟩ := (sonP_get (stringsL p) (timL p)).2 i h
  rw [e]
  exact ⟨rfl, rfl, eAt_lt hc (by omega) hl, fun h1 h2 => (snd_between hc hl h1 h2).symm⟩
theorem eAt_bd {p : Pc} (hc : chk p = 0) {i : Nat} (h : i ≤ (sonL p).length) : 0 ≤ eAt p i ∧ eAt p i ≤ endT p := by
  have e : (sonL p).length = (timL p).length - 1 := (sonP_get (stringsL p) (timL p)).1
  have h0 := timL_ne p
  rw [← eAt_last, ← eAt_zero hc]
  constructor
  · rcases Nat.eq_zero_or_pos i with c | c
    · subst c; exact Int.le_refl _
    · exact Int.le_of_lt (eAt_lt hc c (by omega))
  · rcases Nat.eq_or_lt_of_le h with c | c
    · subst c; exact Int.le_refl _
    · exact Int.le_of_lt (eAt_lt hc c (by omega))
end Go.Ab.V
