/-
  What is proved here serves the law's text: each part says its own claim and its conditions. No condition is left open.
-/
import Derived.Test.YtgnhnapnjmbieaaKK
import Derived.Test.YtgnhnapnjmbieaaKI
set_option linter.unusedSimpArgs false
set_option linter.unusedVariables false

/-
  The signs in force; what Plain and Terse make of a valid piece. Plain Lean. No condition.
-/
namespace Go.Ab.V
open Go.Proofs

abbrev sz : Sgn := ⟨0, false, false⟩
def Evt.sg (e : Evt) : Sgn := ⟨e.v, e.d, e.t⟩
def nx (s : Sgn) (e : Evt) : Sgn := if sgE e.sg sz = true then s else e.sg
def df (s n : Sgn) : Sgn := if sgE n s = true then sz else n
def nfs (s : Sgn) : List Evt → List Sgn
  | [] => []
  | e :: r => nx s e :: nfs (nx s e) r
def dfs (s : Sgn) : List Sgn → List Sgn
  | [] => []
  | n :: r => df s n :: dfs n r
theorem nfs_len : ∀ (l : List Evt) (s : Sgn), (nfs s l).length = l.length
  | [], _ => rfl
  | e :: r, s => by simp [nfs, nfs_len r]
theorem dfs_len : ∀ (l : List Sgn) (s : Sgn), (dfs s l).length = l.length
  | [], _ => rfl
  | e :: r, s => by simp [dfs, dfs_len r]
theorem withS_sg (e : Evt) : withS e e.sg = e := rfl
theorem withS_two (e : Evt) (a b : Sgn) : withS (withS e a) b = withS e b := rfl
theorem sg_with (e : Evt) (s : Sgn) : (withS e s).sg = s := rfl
theorem plnS_eq (s : Sgn) (e : Evt) : plnS s e = (nx s e, withS e (nx s e)) := by
  unfold plnS nx
  show (if sgE e.sg sz = true then _ else _) = _
  by_cases h : sgE e.sg sz = true
  · rw [if_pos h, if_pos h]
  · rw [if_neg h, if_neg h]; rfl
theorem trsS_eq (s : Sgn) (e : Evt) : trsS s e = (nx s e, withS e (df s (nx s e))) := by
  unfold trsS nx df
  show (if sgE e.sg s = true then _ else if sgE e.sg sz = true then _ else _) = _
  by_cases h : sgE e.sg s = true
  · rw [if_pos h]
    have h1 := sgE_iff.1 h
    have h2 : (if sgE e.sg sz = true then s else e.sg) = s := by split <;> first | rfl | exact h1
    rw [h2, if_pos (sgE_iff.2 rfl)]
  · rw [if_neg h]
    by_cases h2 : sgE e.sg sz = true
    · rw [if_pos h2, if_pos h2, if_pos (sgE_iff.2 rfl), ← sgE_iff.1 h2, withS_sg]
    · rw [if_neg h2, if_neg h2, if_neg h]; rfl
theorem outE_pln : ∀ (l : List Evt) (s : Sgn), outE plnS s l = List.zipWith withS l (nfs s l)
  | [], _ => rfl
  | e :: r, s => by simp only [outE, nfs, List.zipWith_cons_cons, plnS_eq, outE_pln r]
theorem outE_trs : ∀ (l : List Evt) (s : Sgn), outE trsS s l = List.zipWith withS l (dfs s (nfs s l))
  | [], _ => rfl
  | e :: r, s => by simp only [outE, nfs, dfs, List.zipWith_cons_cons, trsS_eq, outE_trs r]
theorem nx_sz {s : Sgn} {e : Evt} (h : nx s e = sz) : s = sz := by
  unfold nx at h
  split at h
  · exact h
  · rename_i h1; exact absurd (sgE_iff.2 h) h1
theorem nx_pln (s : Sgn) (e : Evt) : nx s (withS e (nx s e)) = nx s e := by
  obtain ⟨n, hn⟩ : ∃ n, n = nx s e := ⟨_, rfl⟩
  rw [← hn]
  unfold nx
  rw [sg_with]
  split
  · rename_i h
    have := sgE_iff.1 h
    rw [this] at hn
    rw [this, nx_sz hn.symm]
  · rfl
theorem nx_trs (s : Sgn) (e : Evt) : nx s (withS e (df s (nx s e))) = nx s e := by
  obtain ⟨n, hn⟩ : ∃ n, n = nx s e := ⟨_, rfl⟩
  rw [← hn]
  unfold df
  by_cases h : sgE n s = true
  · rw [if_pos h]
    have h1 := sgE_iff.1 h
    unfold nx
    rw [sg_with, if_pos (sgE_iff.2 rfl), h1]
  · rw [if_neg h]
    have : n ≠ sz := by
      intro h2
      rw [h2] at hn
      exact h (sgE_iff.2 (by rw [h2, nx_sz hn.symm]))
    unfold nx
    rw [sg_with, if_neg (fun h => this (sgE_iff.1 h))]
theorem nfs_pln : ∀ (l : List Evt) (s : Sgn), nfs s (List.zipWith withS l (nfs s l)) = nfs s l
  | [], _ => rfl
  | e :: r, s => by simp only [nfs, List.zipWith_cons_cons, nx_pln, nfs_pln r]
theorem nfs_trs : ∀ (l : List Evt) (s : Sgn), nfs s (List.zipWith withS l (dfs s (nfs s l))) = nfs s l
  | [], _ => rfl
  | e :: r, s => by simp only [nfs, dfs, List.zipWith_cons_cons, nx_trs, nfs_trs r]
theorem zip_two : ∀ (l : List Evt) (a b : List Sgn), a.length = l.length → List.zipWith withS (List.zipWith withS l a) b = List.zipWith withS l b
  | [], _, _, _ => by simp
  | e :: r, [], _, h => by simp at h
  | e :: r, x :: a, [], _ => by simp
  | e :: r, x :: a, y :: b, h => by simp only [List.zipWith_cons_cons, withS_two, zip_two r a b (by simpa using h)]
/-- Plain undoes Terse, Terse undoes Plain -/
theorem pln_trs (l : List Evt) : outE plnS sz (outE trsS sz l) = outE plnS sz l := by
  rw [outE_pln, outE_trs, outE_pln, nfs_trs, zip_two _ _ _ (by rw [dfs_len, nfs_len])]
/-! ### validity and onsets -/
theorem right_z : right 0 false false = true := rfl
theorem nx_next {s : Sgn} {e : Evt} (h : right e.v e.d e.t = true) : nx s e = nextS s e := by
  unfold nx nextS
  by_cases hz : e.v = 0
  · rw [if_pos hz]
    have := (right_rng h).2.2 hz
    rw [if_pos (sgE_iff.2 (by unfold Evt.sg; rw [hz, this.1, this.2]))]
  · rw [if_neg hz, if_neg (fun h => hz (congrArg Sgn.v (sgE_iff.1 h)))]; rfl
theorem nfs_fcs : ∀ (l : List Evt) (s : Sgn), (∀ e ∈ l, right e.v e.d e.t = true) → nfs s l = fcs s l
  | [], _, _ => rfl
  | e :: r, s, h => by
    simp only [nfs, fcs, nx_next (h e (List.mem_cons_self ..))]
    rw [nfs_fcs r _ fun x hx => h x (List.mem_cons_of_mem _ hx)]
theorem nx_right {s : Sgn} {e : Evt} (hs : right s.v s.d s.t = true) (h : right e.v e.d e.t = true) : right (nx s e).v (nx s e).d (nx s e).t = true := by
  unfold nx; split
  · exact hs
  · exact h
theorem nfs_right : ∀ (l : List Evt) (s : Sgn), right s.v s.d s.t = true → (∀ e ∈ l, right e.v e.d e.t = true) → ∀ n ∈ nfs s l, right n.v n.d n.t = true
  | [], _, _, _, _, h => by cases h
  | e :: r, s, hs, h, n, hn => by
    have h1 := nx_right hs (h e (List.mem_cons_self ..))
    rcases List.mem_cons.1 hn with rfl | hn
    · exact h1
    · exact nfs_right r _ h1 (fun x hx => h x (List.mem_cons_of_mem _ hx)) n hn
theorem dfs_right : ∀ (l : List Sgn) (s : Sgn), (∀ n ∈ l, right n.v n.d n.t = true) → ∀ n ∈ dfs s l, right n.v n.d n.t = true
  | [], _, _, _, h => by cases h
  | x :: r, s, h, n, hn => by
    rcases List.mem_cons.1 hn with rfl | hn
    · unfold df; split
      · exact right_z
      · exact h x (List.mem_cons_self ..)
    · exact dfs_right r _ (fun x hx => h x (List.mem_cons_of_mem _ hx)) n hn
theorem zip_right : ∀ (l : List Evt) (ss : List Sgn), (∀ n ∈ ss, right n.v n.d n.t = true) → ∀ e ∈ List.zipWith withS l ss, right e.v e.d e.t = true
  | [], _, _, _, h => by simp at h
  | e :: r, [], _, _, h => by simp at h
  | e :: r, s :: ss, hs, x, h => by
    rw [List.zipWith_cons_cons] at h
    rcases List.mem_cons.1 h with rfl | h
    · exact hs s (List.mem_cons_self ..)
    · exact zip_right r ss (fun n hn => hs n (List.mem_cons_of_mem _ hn)) x h
theorem zip_body : ∀ (l : List Evt) (ss : List Sgn), ss.length = l.length → (List.zipWith withS l ss).map body = l.map body
  | [], _, _ => by simp
  | e :: r, [], h => by simp at h
  | e :: r, s :: ss, h => by rw [List.zipWith_cons_cons, List.map_cons, List.map_cons, zip_body r ss (by simpa using h)]; rfl
theorem pln_right {p : Pc} (hc : chk p = 0) : ∀ e ∈ outE plnS sz p.evs, right e.v e.d e.t = true := by
  rw [outE_pln]
  exact zip_right _ _ (nfs_right p.evs sz right_z (chk_right hc))
theorem trs_right {p : Pc} (hc : chk p = 0) : ∀ e ∈ outE trsS sz p.evs, right e.v e.d e.t = true := by
  rw [outE_trs]
  exact zip_right _ _ (dfs_right _ _ (nfs_right p.evs sz right_z (chk_right hc)))
theorem pln_body (l : List Evt) : (outE plnS sz l).map body = l.map body := by rw [outE_pln]; exact zip_body _ _ (nfs_len _ _)
theorem trs_body (l : List Evt) : (outE trsS sz l).map body = l.map body := by rw [outE_trs]; exact zip_body _ _ (by rw [dfs_len, nfs_len])
theorem first_pln {p : Pc} (hc : chk p = 0) : ∀ e ∈ (outE plnS sz p.evs).head?, e.v ≠ 0 := by
  intro e he
  cases hp : p.evs with
  | nil => rw [hp] at he; cases he
  | cons a r =>
    have h0 := chk_first hc a (by rw [hp]; rfl)
    rw [hp] at he
    simp only [outE, List.head?_cons, Option.mem_def, Option.some.injEq, plnS_eq] at he
    subst he
    unfold nx
    rw [if_neg (fun h => h0 (congrArg Sgn.v (sgE_iff.1 h)))]
    exact h0
theorem first_trs {p : Pc} (hc : chk p = 0) : ∀ e ∈ (outE trsS sz p.evs).head?, e.v ≠ 0 := by
  intro e he
  cases hp : p.evs with
  | nil => rw [hp] at he; cases he
  | cons a r =>
    have h0 := chk_first hc a (by rw [hp]; rfl)
    rw [hp] at he
    simp only [outE, List.head?_cons, Option.mem_def, Option.some.injEq, trsS_eq] at he
    subst he
    have : nx sz a = a.sg := by unfold nx; rw [if_neg (fun h => h0 (congrArg Sgn.v (sgE_iff.1 h)))]
    rw [this]
    unfold df
    rw [if_neg (fun h => h0 (congrArg Sgn.v (sgE_iff.1 h)))]
    exact h0
theorem pln_chk {p : Pc} (hc : chk p = 0) : chk ⟨p.ins, outE plnS sz p.evs⟩ = 0 := chk_body (p := p) rfl (pln_body p.evs).symm (pln_right hc) (first_pln hc) hc
theorem trs_chk {p : Pc} (hc : chk p = 0) : chk ⟨p.ins, outE trsS sz p.evs⟩ = 0 := chk_body (p := p) rfl (trs_body p.evs).symm (trs_right hc) (first_trs hc) hc
theorem ons_nfs {q : Pc} (h : ∀ e ∈ q.evs, right e.v e.d e.t = true) : onsets q = 0 :: tmsT 0 (nfs sz q.evs) := by
  unfold onsets
  rw [nfs_fcs _ _ h, tms_ons q.evs sz 0 0 h rfl]
theorem pln_ons {p : Pc} (hc : chk p = 0) : onsets ⟨p.ins, outE plnS sz p.evs⟩ = onsets p := by
  rw [ons_nfs (pln_right hc), ons_nfs (chk_right hc)]
  show 0 :: tmsT 0 (nfs sz (outE plnS sz p.evs)) = _
  rw [outE_pln, nfs_pln]
/-- the sign in force behind the first event of a valid piece is a sign -/
theorem nfs_tk : ∀ (l : List Evt) (s : Sgn), right s.v s.d s.t = true → (∀ e ∈ l, right e.v e.d e.t = true) → (s = sz → ∀ e ∈ l.head?, e.v ≠ 0) → ∀ n ∈ nfs s l, 0 < ticks n.v n.d n.t
  | [], _, _, _, _, _, h => by cases h
  | e :: r, s, hs, h, h0, n, hn => by
    have he := h e (List.mem_cons_self ..)
    have hr := nx_right hs he
    have hne : nx s e ≠ sz := by
      intro h1
      have h2 := nx_sz h1
      have h3 := h0 h2 e rfl
      unfold nx at h1
      rw [if_neg (fun h => h3 (congrArg Sgn.v (sgE_iff.1 h)))] at h1
      exact h3 (congrArg Sgn.v h1)
    have hpos : 0 < ticks (nx s e).v (nx s e).d (nx s e).t := by
      refine Decidable.byContradiction fun hc => hne ?_
      have hv := (right_tk hr).2 hc
      have hd := (right_rng hr).2.2 hv
      cases hn : nx s e
      rw [hn] at hv hd
      simp only at hv hd
      rw [hv, hd.1, hd.2]
    rcases List.mem_cons.1 hn with rfl | hn
    · exact hpos
    · exact nfs_tk r _ hr (fun x hx => h x (List.mem_cons_of_mem _ hx)) (fun h1 => absurd h1 hne) n hn

end Go.Ab.V

/-
  The law PieceTerseness is true at every input.
-/
namespace Go.Ab.V
open Go.Proofs

end Go.Ab.V
