/-
  What is proved here serves the law's text: each part says its own claim and its conditions. No condition is left open.
-/
import Derived.Test.YtchkiolagohnlaaGreatJM
set_option linter.unusedSimpArgs false
set_option linter.unusedVariables false

/-
  The document's Bare. No condition but the machine's bounds on lengths.
-/
namespace Go.Ab.V
open Go.Proofs

theorem objL {eps : Nat → Nat} {o : AObj} {l : List Evt} {n : Nat} (h : l.length = n) : (objsD memL eps 0 l ++ [o])[0 + memL.c * n]? = some o := by
  subst h; rw [Nat.zero_add]; exact objsM_last l
theorem objG {eps : Nat → Nat} {X : List AObj} {l : List Evt} {k : Nat} (h : k < l.length) {ss : List Stp} (hs : l[k].stops = ss) : (objsD memL eps 0 l ++ X)[0 + memL.c * (0 + k)]? = some (.vec (eps (0 + k)) (ss.map stR)) := by
  subst hs
  have := objsM_get (eps := eps) (X := X) (l := l) (i := 0) (k := k) h
  rw [show 0 + memL.c * (0 + k) = k by rw [Nat.zero_add, Nat.zero_add]; exact Nat.one_mul k]
  exact this
theorem objS {eps : Nat → Nat} {X : List AObj} {l : List Evt} {k : Nat} (h : k < l.length) {e' : Evt} {ss : List Stp} (hs : e'.stops = ss) : (objsD memL eps 0 l ++ X).set (0 + memL.c * (0 + k)) (.vec (eps (0 + k)) (ss.map stR)) = objsD memL eps 0 (l.set k e') ++ X := by
  subst hs
  have := objsM_set (eps := eps) (X := X) (e' := e') (l := l) (i := 0) (k := k) h
  rw [show 0 + memL.c * (0 + k) = k by rw [Nat.zero_add, Nat.zero_add]; exact Nat.one_mul k]
  exact this
theorem rowG {B : Nat} {eps : Nat → Nat} {l : List Evt} {k : Nat} (h : k < l.length) : (rowsD memL B eps 0 l)[0 + ((k : Nat) : Int).toNat]? = some (evX l[k] (.oslc (.d (B + memL.c * (0 + k))) (eps (0 + k)) 5 0 l[k].stops.length false)) := by
  rw [Nat.zero_add, Int.toNat_natCast]; exact rowsM_get h
def rowKey (e : Evt) : Bool × Int × Bool × Bool × Bool × Nat := (e.bar, e.v, e.d, e.t, e.tie, e.stops.length)
theorem rowsM_like {B : Nat} {eps : Nat → Nat} : ∀ {l m : List Evt} {i : Nat}, l.map rowKey = m.map rowKey → rowsD memL B eps i l = rowsD memL B eps i m
  | [], [], _, _ => rfl
  | [], _ :: _, _, h => by simp at h
  | _ :: _, [], _, h => by simp at h
  | a :: l, b :: m, i, h => by
    simp only [List.map_cons, List.cons.injEq, rowKey, Prod.mk.injEq] at h
    obtain ⟨⟨h1, h2, h3, h4, h5, h6⟩, h7⟩ := h
    show evX a (.oslc (.d (B + memL.c * i)) (eps i) 5 0 a.stops.length false) :: _ = evX b (.oslc (.d (B + memL.c * i)) (eps i) 5 0 b.stops.length false) :: _
    rw [rowsM_like h7, h6]
    unfold evX
    rw [h1, h2, h3, h4, h5]
/-- an event with other stops -/
def evS (e : Evt) (ss : List Stp) : Evt := { e with stops := ss }

end Go.Ab.V

/-
  A part of a list as an argument; the program's list of copied events, the stops of each as an object of their own. No condition but the machine's bounds on lengths.
-/
namespace Go.Ab

theorem HRet.sub {P : Program} {f : FuncId} {l m : List AV} {R : Nat → (Nat → Nat) → AV} {H : Nat → (Nat → Nat) → List AObj} (c : HRet P f m R H) (s : SubL l m) : HRet P f l R H := ⟨c.out.sub s, c.sh⟩

end Go.Ab
namespace Go.Ab.V
open Go.Proofs

end Go.Ab.V

/-
  The signs in force; what Plain and Terse make of a valid piece. Plain Lean. No condition.
-/
namespace Go.Ab.V
open Go.Proofs

abbrev sz : Sgn := ⟨0, false, false⟩
def Evt.sg (e : Evt) : Sgn := ⟨e.v, e.d, e.t⟩
def nx (s : Sgn) (e : Evt) : Sgn := if sgE e.sg sz = true then s else e.sg
def df (s n : Sgn) : Sgn := if sgE n s = true then sz else n
def nfs (s : Sgn) : List Evt → List Sgn
  | [] => []
  | e :: r => nx s e :: nfs (nx s e) r
def dfs (s : Sgn) : List Sgn → List Sgn
  | [] => []
  | n :: r => df s n :: dfs n r
theorem nfs_len : ∀ (l : List Evt) (s : Sgn), (nfs s l).length = l.length
  | [], _ => rfl
  | e :: r, s => by simp [nfs, nfs_len r]
theorem dfs_len : ∀ (l : List Sgn) (s : Sgn), (dfs s l).length = l.length
  | [], _ => rfl
  | e :: r, s => by simp [dfs, dfs_len r]
theorem withS_sg (e : Evt) : withS e e.sg = e := rfl
theorem sg_with (e : Evt) (s : Sgn) : (withS e s).sg = s := rfl
theorem plnS_eq (s : Sgn) (e : Evt) : plnS s e = (nx s e, withS e (nx s e)) := by
  unfold plnS nx
  show (if sgE e.sg sz = true then _ else _) = _
  by_cases h : sgE e.sg sz = true
  · rw [if_pos h, if_pos h]
  · rw [if_neg h, if_neg h]; rfl
theorem trsS_eq (s : Sgn) (e : Evt) : trsS s e = (nx s e, withS e (df s (nx s e))) := by
  unfold trsS nx df
  show (if sgE e.sg s = true then _ else if sgE e.sg sz = true then _ else _) = _
  by_cases h : sgE e.sg s = true
  · rw [if_pos h]
    have h1 := sgE_iff.1 h
    have h2 : (if sgE e.sg sz = true then s else e.sg) = s := by split <;> first | rfl | exact h1
    rw [h2, if_pos (sgE_iff.2 rfl)]
  · rw [if_neg h]
    by_cases h2 : sgE e.sg sz = true
    · rw [if_pos h2, if_pos h2, if_pos (sgE_iff.2 rfl), ← sgE_iff.1 h2, withS_sg]
    · rw [if_neg h2, if_neg h2, if_neg h]; rfl
theorem outE_pln : ∀ (l : List Evt) (s : Sgn), outE plnS s l = List.zipWith withS l (nfs s l)
  | [], _ => rfl
  | e :: r, s => by simp only [outE, nfs, List.zipWith_cons_cons, plnS_eq, outE_pln r]
theorem outE_trs : ∀ (l : List Evt) (s : Sgn), outE trsS s l = List.zipWith withS l (dfs s (nfs s l))
  | [], _ => rfl
  | e :: r, s => by simp only [outE, nfs, dfs, List.zipWith_cons_cons, trsS_eq, outE_trs r]
theorem nx_sz {s : Sgn} {e : Evt} (h : nx s e = sz) : s = sz := by
  unfold nx at h
  split at h
  · exact h
  · rename_i h1; exact absurd (sgE_iff.2 h) h1
theorem nx_pln (s : Sgn) (e : Evt) : nx s (withS e (nx s e)) = nx s e := by
  obtain ⟨n, hn⟩ : ∃ n, n = nx s e := ⟨_, rfl⟩
  rw [← hn]
  unfold nx
  rw [sg_with]
  split
  · rename_i h
    have := sgE_iff.1 h
    rw [this] at hn
    rw [this, nx_sz hn.symm]
  · rfl
theorem nx_trs (s : Sgn) (e : Evt) : nx s (withS e (df s (nx s e))) = nx s e := by
  obtain ⟨n, hn⟩ : ∃ n, n = nx s e := ⟨_, rfl⟩
  rw [← hn]
  unfold df
  by_cases h : sgE n s = true
  · rw [if_pos h]
    have h1 := sgE_iff.1 h
    unfold nx
    rw [sg_with, if_pos (sgE_iff.2 rfl), h1]
  · rw [if_neg h]
    have : n ≠ sz := by
      intro h2
      rw [h2] at hn
      exact h (sgE_iff.2 (by rw [h2, nx_sz hn.symm]))
    unfold nx
    rw [sg_with, if_neg (fun h => this (sgE_iff.1 h))]
theorem nfs_pln : ∀ (l : List Evt) (s : Sgn), nfs s (List.zipWith withS l (nfs s l)) = nfs s l
  | [], _ => rfl
  | e :: r, s => by simp only [nfs, List.zipWith_cons_cons, nx_pln, nfs_pln r]
theorem nfs_trs : ∀ (l : List Evt) (s : Sgn), nfs s (List.zipWith withS l (dfs s (nfs s l))) = nfs s l
  | [], _ => rfl
  | e :: r, s => by simp only [nfs, dfs, List.zipWith_cons_cons, nx_trs, nfs_trs r]
/-! ### validity and onsets -/
theorem right_z : right 0 false false = true := rfl
theorem nx_next {s : Sgn} {e : Evt} (h : right e.v e.d e.t = true) : nx s e = nextS s e := by
  unfold nx nextS
  by_cases hz : e.v = 0
  · rw [if_pos hz]
    have := (right_rng h).2.2 hz
    rw [if_pos (sgE_iff.2 (by unfold Evt.sg; rw [hz, this.1, this.2]))]
  · rw [if_neg hz, if_neg (fun h => hz (congrArg Sgn.v (sgE_iff.1 h)))]; rfl
theorem nfs_fcs : ∀ (l : List Evt) (s : Sgn), (∀ e ∈ l, right e.v e.d e.t = true) → nfs s l = fcs s l
  | [], _, _ => rfl
  | e :: r, s, h => by
    simp only [nfs, fcs, nx_next (h e (List.mem_cons_self ..))]
    rw [nfs_fcs r _ fun x hx => h x (List.mem_cons_of_mem _ hx)]
theorem nx_right {s : Sgn} {e : Evt} (hs : right s.v s.d s.t = true) (h : right e.v e.d e.t = true) : right (nx s e).v (nx s e).d (nx s e).t = true := by
  unfold nx; split
  · exact hs
  · exact h
theorem nfs_right : ∀ (l : List Evt) (s : Sgn), right s.v s.d s.t = true → (∀ e ∈ l, right e.v e.d e.t = true) → ∀ n ∈ nfs s l, right n.v n.d n.t = true
  | [], _, _, _, _, h => by cases h
  | e :: r, s, hs, h, n, hn => by
    have h1 := nx_right hs (h e (List.mem_cons_self ..))
    rcases List.mem_cons.1 hn with rfl | hn
    · exact h1
    · exact nfs_right r _ h1 (fun x hx => h x (List.mem_cons_of_mem _ hx)) n hn
theorem dfs_right : ∀ (l : List Sgn) (s : Sgn), (∀ n ∈ l, right n.v n.d n.t = true) → ∀ n ∈ dfs s l, right n.v n.d n.t = true
  | [], _, _, _, h => by cases h
  | x :: r, s, h, n, hn => by
    rcases List.mem_cons.1 hn with rfl | hn
    · unfold df; split
      · exact right_z
      · exact h x (List.mem_cons_self ..)
    · exact dfs_right r _ (fun x hx => h x (List.mem_cons_of_mem _ hx)) n hn
theorem zip_right : ∀ (l : List Evt) (ss : List Sgn), (∀ n ∈ ss, right n.v n.d n.t = true) → ∀ e ∈ List.zipWith withS l ss, right e.v e.d e.t = true
  | [], _, _, _, h => by simp at h
  | e :: r, [], _, _, h => by simp at h
  | e :: r, s :: ss, hs, x, h => by
    rw [List.zipWith_cons_cons] at h
    rcases List.mem_cons.1 h with rfl | h
    · exact hs s (List.mem_cons_self ..)
    · exact zip_right r ss (fun n hn => hs n (List.mem_cons_of_mem _ hn)) x h
theorem zip_body : ∀ (l : List Evt) (ss : List Sgn), ss.length = l.length → (List.zipWith withS l ss).map body = l.map body
  | [], _, _ => by simp
  | e :: r, [], h => by simp at h
  | e :: r, s :: ss, h => by rw [List.zipWith_cons_cons, List.map_cons, List.map_cons, zip_body r ss (by simpa using h)]; rfl
theorem pln_right {p : Pc} (hc : chk p = 0) : ∀ e ∈ outE plnS sz p.evs, right e.v e.d e.t = true := by
  rw [outE_pln]
  exact zip_right _ _ (nfs_right p.evs sz right_z (chk_right hc))
theorem trs_right {p : Pc} (hc : chk p = 0) : ∀ e ∈ outE trsS sz p.evs, right e.v e.d e.t = true := by
  rw [outE_trs]
  exact zip_right _ _ (dfs_right _ _ (nfs_right p.evs sz right_z (chk_right hc)))
theorem pln_body (l : List Evt) : (outE plnS sz l).map body = l.map body := by rw [outE_pln]; exact zip_body _ _ (nfs_len _ _)
theorem trs_body (l : List Evt) : (outE trsS sz l).map body = l.map body := by rw [outE_trs]; exact zip_body _ _ (by rw [dfs_len, nfs_len])
theorem first_pln {p : Pc} (hc : chk p = 0) : ∀ e ∈ (outE plnS sz p.evs).head?, e.v ≠ 0 := by
  intro e he
  cases hp : p.evs with
  | nil => rw [hp] at he; cases he
  | cons a r =>
    have h0 := chk_first hc a (by rw [hp]; rfl)
    rw [hp] at he
    simp only [outE, List.head?_cons, Option.mem_def, Option.some.injEq, plnS_eq] at he
    subst he
    unfold nx
    rw [if_neg (fun h => h0 (congrArg Sgn.v (sgE_iff.1 h)))]
    exact h0
theorem first_trs {p : Pc} (hc : chk p = 0) : ∀ e ∈ (outE trsS sz p.evs).head?, e.v ≠ 0 := by
  intro e he
  cases hp : p.evs with
  | nil => rw [hp] at he; cases he
  | cons a r =>
    have h0 := chk_first hc a (by rw [hp]; rfl)
    rw [hp] at he
    simp only [outE, List.head?_cons, Option.mem_def, Option.some.injEq, trsS_eq] at he
    subst he
    have : nx sz a = a.sg := by unfold nx; rw [if_neg (fun h => h0 (congrArg Sgn.v (sgE_iff.1 h)))]
    rw [this]
    unfold df
    rw [if_neg (fun h => h0 (congrArg Sgn.v (sgE_iff.1 h)))]
    exact h0
theorem pln_chk {p : Pc} (hc : chk p = 0) : chk ⟨p.ins, outE plnS sz p.evs⟩ = 0 := chk_body (p := p) rfl (pln_body p.evs).symm (pln_right hc) (first_pln hc) hc
theorem trs_chk {p : Pc} (hc : chk p = 0) : chk ⟨p.ins, outE trsS sz p.evs⟩ = 0 := chk_body (p := p) rfl (trs_body p.evs).symm (trs_right hc) (first_trs hc) hc
theorem ons_nfs {q : Pc} (h : ∀ e ∈ q.evs, right e.v e.d e.t = true) : onsets q = 0 :: tmsT 0 (nfs sz q.evs) := by
  unfold onsets
  rw [nfs_fcs _ _ h, tms_ons q.evs sz 0 0 h rfl]
theorem pln_ons {p : Pc} (hc : chk p = 0) : onsets ⟨p.ins, outE plnS sz p.evs⟩ = onsets p := by
  rw [ons_nfs (pln_right hc), ons_nfs (chk_right hc)]
  show 0 :: tmsT 0 (nfs sz (outE plnS sz p.evs)) = _
  rw [outE_pln, nfs_pln]
theorem trs_ons {p : Pc} (hc : chk p = 0) : onsets ⟨p.ins, outE trsS sz p.evs⟩ = onsets p := by
  rw [ons_nfs (trs_right hc), ons_nfs (chk_right hc)]
  show 0 :: tmsT 0 (nfs sz (outE trsS sz p.evs)) = _
  rw [outE_trs, nfs_trs]
/-- the sign in force behind the first event of a valid piece is a sign -/
theorem nfs_tk : ∀ (l : List Evt) (s : Sgn), right s.v s.d s.t = true → (∀ e ∈ l, right e.v e.d e.t = true) → (s = sz → ∀ e ∈ l.head?, e.v ≠ 0) → ∀ n ∈ nfs s l, 0 < ticks n.v n.d n.t
  | [], _, _, _, _, _, h => by cases h
  | e :: r, s, hs, h, h0, n, hn => by
    have he := h e (List.mem_cons_self ..)
    have hr := nx_right hs he
    have hne : nx s e ≠ sz := by
      intro h1
      have h2 := nx_sz h1
      have h3 := h0 h2 e rfl
      unfold nx at h1
      rw [if_neg (fun h => h3 (congrArg Sgn.v (sgE_iff.1 h)))] at h1
      exact h3 (congrArg Sgn.v h1)
    have hpos : 0 < ticks (nx s e).v (nx s e).d (nx s e).t := by
      refine Decidable.byContradiction fun hc => hne ?_
      have hv := (right_tk hr).2 hc
      have hd := (right_rng hr).2.2 hv
      cases hn : nx s e
      rw [hn] at hv hd
      simp only at hv hd
      rw [hv, hd.1, hd.2]
    rcases List.mem_cons.1 hn with rfl | hn
    · exact hpos
    · exact nfs_tk r _ hr (fun x hx => h x (List.mem_cons_of_mem _ hx)) (fun h1 => absurd h1 hne) n hn

end Go.Ab.V

/-
  The program's Cut. No condition but the machine's bounds on lengths.
-/
namespace Go.Ab.V
open Go.Proofs

def hmin (h c : Int) : Int := if c < h then c else h
def hmS (c : Int) (s : Stp) : Stp := { s with h := hmin s.h c }
def holdE (c : Int) (e : Evt) : Evt := evS e (e.stops.map (hmS c))
def holds (l : List Evt) : List Evt := l.mapIdx fun i e => holdE ((l.length : Int) - 1 - i) e
end Go.Ab.V

/-
  The document's Cut. No condition but the machine's bounds on lengths.
-/
namespace Go.Ab.V
open Go.Proofs

/-- the end of a function that hands back a piece whose stops lie in X; Y is what else there is -/
theorem end_mem2 {X Y : List AObj} {ep n : Nat} {rows : List (List AV)} {l : List Evt} {i : Ins} {D st : List AObj} {m : Nat} (hm : X.length = m) (hX : ∀ o ∈ X, pureObj o) (hY : ∀ o ∈ Y, pureObj (o.fz2 X)) (hr : (rows.map fun r => r.map (fzC2 X)) = l.map evR) (hn : n = l.length) (hD : D = X ++ Y ++ [.vec ep rows]) :
    m ≤ D.length ∧ (∀ o ∈ D.take m, pureObj o) ∧ (fun v h' => frzD h' v fun v h' => frzK h' v fun r' _ => r'.isPure2 = true ∧ r' = .tup [pcA ⟨i, l⟩, .int .i64 0])
      (fzV2 (D.take m) (.tup [.agg [crsA i.cs, intsA i.steps, .oslc (.d (X ++ Y).length) ep 6 0 n false], .int .i64 0])) ⟨st.map (AObj.fz2 (D.take m)), List.replicate m .hole ++ (D.drop m).map (AObj.fz2 (D.take m))⟩ := by
  subst hn hm
  have e0 : D.take X.length = X := by rw [hD, List.append_assoc, List.take_left]
  have e9 : D.drop X.length = Y ++ [.vec ep rows] := by rw [hD, List.append_assoc, List.drop_left]
  rw [e0, e9]
  refine ⟨by rw [hD]; simp, hX, ?_⟩
  show frzD _ _ _
  unfold frzD
  refine ⟨fun o ho => ?_, ?_⟩
  · rcases List.mem_append.1 ho with ho | ho
    · obtain ⟨_, rfl⟩ := List.mem_replicate.1 ho
      trivial
    · obtain ⟨o', ho', rfl⟩ := List.mem_map.1 ho
      rcases List.mem_append.1 ho' with h | h
      · exact hY o' h
      · obtain rfl := List.mem_singleton.1 h
        show pureRows (rows.map fun r => r.map (fzC2 X))
        rw [hr]
        exact pure_map l fun x => rfl
  · have e1 : fzV2 X (.tup [.agg [crsA i.cs, intsA i.steps, .oslc (.d (X ++ Y).length) ep 6 0 l.length false], .int .i64 0]) = .tup [.agg [crsA i.cs, intsA i.steps, .oslc (.d (X ++ Y).length) ep 6 0 l.length false], .int .i64 0] := by
      have : X[(X ++ Y).length]? = none := List.getElem?_eq_none (by simp)
      simp [fzV2, fzC2, this, crsA, intsA]
    rw [e1]
    have e2 : (List.replicate X.length AObj.hole ++ (Y ++ [AObj.vec ep rows]).map (AObj.fz2 X))[(X ++ Y).length]? = some (.vec ep (l.map evR)) := by
      rw [List.getElem?_append_right (by simp)]
      simp only [List.length_replicate, List.length_append, List.map_append, List.map_cons, List.map_nil]
      rw [List.getElem?_append_right (by simp)]
      simp only [List.length_map, Nat.add_sub_cancel_left, Nat.sub_self, List.getElem?_cons_zero]
      show some (AObj.vec ep (rows.map fun r => r.map (fzC2 X))) = _
      rw [hr]
    have e3 : ∀ dy : List AObj, dy[(X ++ Y).length]? = some (.vec ep (l.map evR)) → fzV dy (.tup [.agg [crsA i.cs, intsA i.steps, .oslc (.d (X ++ Y).length) ep 6 0 l.length false], .int .i64 0]) = .tup [pcA ⟨i, l⟩, .int .i64 0] := by
      intro dy h
      simp only [fzV, List.map_cons, List.map_nil, fzC, h, if_pos, crsA, intsA, pcA, evsA]
    rw [e3 _ e2]
    exact frzK_pure rfl ⟨rfl, rfl⟩
/-- rows whose stops lie in X -/
theorem rowsM_fzB {eps : Nat → Nat} {X : List AObj} {B : Nat} : ∀ (l : List Evt) (i : Nat), (∀ k (h : k < l.length), X[B + memL.c * (i + k)]? = some (.vec (eps (i + k)) (l[k].stops.map stR))) → ((rowsD memL B eps i l).map fun r => r.map (fzC2 X)) = l.map evR
  | [], _, _ => rfl
  | e :: r, i, h => by
    have h0 := h 0 (by simp)
    have ih := rowsM_fzB (eps := eps) (X := X) (B := B) r (i + 1) fun k hk => by
      have := h (k + 1) (by simpa using hk)
      rw [show i + (k + 1) = i + 1 + k by omega] at this
      simpa using this
    simp only [rowsD, List.map_cons, ih, List.cons.injEq, and_true]
    show [AV.bool e.bar, .int .i64 e.v, .bool e.d, .bool e.t, .bool e.tie, fzC2 X (.oslc (.d (B + memL.c * i)) (eps i) 5 0 e.stops.length false)] = evR e
    simp only [Nat.add_zero, List.getElem_cons_zero] at h0
    have : fzC2 X (.oslc (.d (B + memL.c * i)) (eps i) 5 0 e.stops.length false) = stsA e.stops := by
      simp only [fzC2, h0, if_pos]
      rfl
    rw [this]
    rfl
theorem rowsM_fzP {eps : Nat → Nat} {X : List AObj} : ∀ (l : List Evt) (i : Nat), (∀ k, k < l.length → ∃ r, X[0 + memL.c * (i + k)]? = some (.vec (eps (i + k)) r)) → pureRows ((rowsD memL 0 eps i l).map fun r => r.map (fzC2 X))
  | [], _, _ => fun r h => by cases h
  | e :: r, i, h => by
    have ih := rowsM_fzP (eps := eps) (X := X) r (i + 1) fun k hk => by
      obtain ⟨y, this⟩ := h (k + 1) (by simpa using hk)
      rw [show i + (k + 1) = i + 1 + k by omega] at this
      exact ⟨y, this⟩
    obtain ⟨y, h0⟩ := h 0 (by simp)
    simp only [Nat.add_zero] at h0
    intro row hrow c hc
    rcases List.mem_cons.1 hrow with rfl | hrow
    · have e9 : fzC2 X (.oslc (.d (0 + memL.c * i)) (eps i) 5 0 e.stops.length false) = .lslc 5 y 0 e.stops.length false := by
        simp only [fzC2, h0, if_pos]
      have : [AV.bool e.bar, .int .i64 e.v, .bool e.d, .bool e.t, .bool e.tie, fzC2 X (.oslc (.d (0 + memL.c * i)) (eps i) 5 0 e.stops.length false)].all AV.pure1 = true := by rw [e9]; rfl
      exact List.all_eq_true.1 this c hc
    · exact ih row hrow c hc


end Go.Ab.V

/-
  The law PieceCuts is true at every input.
-/
namespace Go.Ab.V
open Go.Proofs

end Go.Ab.V

/-
  When a piece is valid, event by event; cut and joined pieces are valid. Plain Lean. No condition.
-/
namespace Go.Ab.V
open Go.Proofs

end Go.Ab.V

/-
  The sign of so many ticks, on both sides. No condition.
-/
namespace Go.Ab.V
open Go.Proofs

def sgs : List Sgn := allS.map fun s => ⟨s.1, s.2.1, s.2.2⟩
theorem allRows_sgs : allRows = sgs.map sgnR := rfl
theorem sgs_len : sgs.length = 21 := by decide
def sgFind (t : Int) : List Sgn → Option Sgn
  | [] => none
  | s :: r => if s.tk = t then some s else sgFind t r
def sgOf (t : Int) : Option Sgn := sgFind t sgs
def sgOfV : Option Sgn → AV
  | some s => .tup [.agg (sgnR s), .bool true]
  | none => .tup [.agg [.int .i64 0, .bool false, .bool false], .bool false]

def A28 : Ann := fun r => match r with
  | 0 => { slots := [(0, 0)] }
  | 3 => { slots := [(2, 1)] }
  | _ => {}
set_option maxHeartbeats 2000000 in
set_option maxRecDepth 100000 in
theorem signOf_spec (t : Int) : PRet C.P 28 [.int .i64 t] (sgOfV (sgOf t)) := by
  have h1 := all_spec
  unfold sgOf
  rw [allRows_sgs] at h1
  have hl := sgs_len
  obtain ⟨gs, hgs⟩ : ∃ gs, gs = sgs := ⟨_, rfl⟩
  rw [← hgs] at h1 hl ⊢
  obtain ⟨R, hR⟩ : ∃ R, R = sgFind t gs := ⟨_, rfl⟩
  rw [← hR]
  refine pret_of ok mixed (A := A28) 2 Tryz.func28 rfl ?_
  (conv => whnf)
  intro e0
  (repeat' (first | exact rfl | ((conv => whnf); first | refine ⟨_, h1, ?_⟩ | exact rfl | refine ⟨by kernel_rfl, ?_⟩ | exact ⟨rfl, rfl⟩ | refine ⟨rfl, ?_⟩ | refine ⟨by (first | omega | (simp (disch := omega) only [wrapI]; omega) | (simp (disch := omega) only [wrapI]; simp; omega) | (simp; omega)), ?_⟩ | (intro ep) | fail)))
  (conv => whnf)
  refine loopM ok mixed (A := A28) [0, 2, 6, 7, 8] [0] (S := { k : Nat // k ≤ 21 ∧ R = sgFind t (gs.drop k) })
    (fr := fun s => frOf 0 19 [(0, .int .i64 t), (2, .optr (.s 0) e0 3 0 0), (6, .lslc 3 (gs.map sgnR) 0 21 false), (7, .int .i64 21), (8, .int .i64 (s.1 : Int))])
    (h := fun s => ⟨[.vec e0 [[.int .i64 0, .bool false, .bool false]], .hole], []⟩) (μ := fun s => 21 - s.1) ⟨0, by omega, hR⟩ (by exact rfl) (by exact rfl) ?_
  rintro ⟨k, hk, hRk⟩
  show aexR _ _ _ (frOf 0 19 [(0, .int .i64 t), (2, .optr (.s 0) e0 3 0 0), (6, .lslc 3 (gs.map sgnR) 0 21 false), (7, .int .i64 21), (8, .int .i64 (k : Int))]) ⟨[.vec e0 [[.int .i64 0, .bool false, .bool false]], .hole], []⟩ _
  (conv => whnf)
  refine ifB (fun g1 => ?_) (fun g1 => ?_)
  · simp only [decide_eq_true_eq] at g1
    have hlt : k < gs.length := by omega
    rw [List.drop_eq_getElem_cons hlt, sgFind] at hRk
    have ht := ticks_spec gs[k].v gs[k].d gs[k].t
    by_cases hz : (gs[k]).tk = t
    · rw [if_pos hz] at hRk
      subst hRk
      (repeat' (first | exact rfl | ((conv => whnf); first | refine ⟨_, ht, ?_⟩ | refine optS (mapR hlt) ?_ | exact rfl | refine ⟨by kernel_rfl, ?_⟩ | exact ⟨rfl, rfl⟩ | refine ⟨rfl, ?_⟩ | refine ⟨by (first | omega | (simp (disch := omega) only [wrapI]; omega) | (simp (disch := omega) only [wrapI]; simp; omega) | (simp; omega)), ?_⟩ | (intro ep) | (refine ifB (fun hb => ?_) (fun hb => ?_) <;> (try (exfalso; simp only [beq_eq_false_iff_ne] at hb; exact hb hz))) | fail)))
    · rw [if_neg hz] at hRk
      (repeat' (first | exact rfl | ((conv => whnf); first | refine ⟨_, ht, ?_⟩ | refine optS (mapR hlt) ?_ | exact rfl | refine ⟨by kernel_rfl, ?_⟩ | exact ⟨rfl, rfl⟩ | refine ⟨rfl, ?_⟩ | refine ⟨by (first | omega | (simp (disch := omega) only [wrapI]; omega) | (simp (disch := omega) only [wrapI]; simp; omega) | (simp; omega)), ?_⟩ | (intro ep) | (refine ifB (fun hb => ?_) (fun hb => ?_) <;> (try (exfalso; simp only [beq_iff_eq] at hb; exact hz hb))) | fail)))
      (conv => whnf)
      refine back_of ⟨k + 1, by omega, hRk⟩ ⟨by (first | exact rfl | (simp (disch := omega) only [wrapI]; exact rfl)), rfl, by simp only; omega⟩
  · simp only [decide_eq_false_iff_not] at g1
    rw [List.drop_eq_nil_of_le (by omega)] at hRk
    obtain rfl : R = none := hRk
    (repeat' (first | exact rfl | ((conv => whnf); first | exact rfl | refine ⟨by kernel_rfl, ?_⟩ | exact ⟨rfl, rfl⟩ | refine ⟨rfl, ?_⟩ | refine ⟨by (first | omega | (simp (disch := omega) only [wrapI]; omega) | (simp (disch := omega) only [wrapI]; simp; omega) | (simp; omega)), ?_⟩ | (intro ep) | fail)))

end Go.Ab.V

/-
  What Join makes of the events of a piece. Plain Lean. No condition.
-/
namespace Go.Ab.V
open Go.Proofs

def evt0 : Evt := ⟨false, 0, false, false, false, []⟩
def lastE (o : List Evt) : Evt := o.getD (o.length - 1) evt0
def tkE (e : Evt) : Int := ticks e.v e.d e.t
def mayJ (o : List Evt) (e : Evt) : Bool := decide (0 < o.length) && e.tie && !e.bar
def mrg (o : List Evt) (e : Evt) : Option Sgn := if mayJ o e = true then sgOf (IntKind.i64.wrap (tkE (lastE o) + tkE e)) else none
/-- the events so far, which were merged, and where each of the events comes from -/
structure Jn where
  o : List Evt
  m : List Bool
  g : List Nat
def jst1 (st : Jn) (e : Evt) : Jn := match mrg st.o e with
  | some s => ⟨st.o.set (st.o.length - 1) (withS (lastE st.o) s), st.m ++ [true], st.g⟩
  | none => ⟨st.o ++ [e], st.m ++ [false], st.g ++ [st.m.length]⟩
def jst (l : List Evt) : Jn := l.foldl jst1 ⟨[], [], []⟩
theorem jst_snoc (l : List Evt) (e : Evt) : jst (l ++ [e]) = jst1 (jst l) e := by simp [jst, List.foldl_append]
theorem jst_take {l : List Evt} {k : Nat} (h : k < l.length) : jst (l.take (k + 1)) = jst1 (jst (l.take k)) l[k] := by
  rw [List.take_add_one, List.getElem?_eq_getElem h]
  exact jst_snoc _ _
/-- how many are not merged -/
def cF : List Bool → Nat
  | [] => 0
  | b :: r => (if b = true then 0 else 1) + cF r
theorem cF_app : ∀ (l m : List Bool), cF (l ++ m) = cF l + cF m
  | [], _ => by simp [cF]
  | b :: r, m => by simp only [List.cons_append, cF, cF_app r m]; omega
theorem cF_succ {m : List Bool} {i : Nat} (h : i < m.length) : cF (m.take (i + 1)) = cF (m.take i) + (if m[i] = true then 0 else 1) := by
  rw [List.take_add_one, List.getElem?_eq_getElem h, Option.toList_some, cF_app]
  simp [cF]
theorem cF_lt {m : List Bool} {i : Nat} (h : i < m.length) (hf : m[i] = false) : cF (m.take i) < cF m := by
  have : cF m = cF (m.take (i + 1)) + cF (m.drop (i + 1)) := by rw [← cF_app, List.take_append_drop]
  rw [cF_succ h, hf] at this
  simp at this
  omega
theorem cF_le : ∀ (m : List Bool), cF m ≤ m.length
  | [] => Nat.le_refl _
  | b :: r => by have := cF_le r; simp only [cF, List.length_cons]; split <;> omega
structure JInv (l : List Evt) (st : Jn) : Prop where
  ml : st.m.length = l.length
  gl : st.g.length = st.o.length
  ol : st.o.length = cF st.m
  gi : ∀ i (h : i < st.m.length), st.m[i] = false → st.g[cF (st.m.take i)]? = some i
  gs : ∀ j, j < st.o.length → ∃ i e s, st.g[j]? = some i ∧ l[i]? = some e ∧ st.o[j]? = some (withS e s)
theorem withS_self (e : Evt) : withS e e.sg = e := rfl
theorem lastE_at {o : List Evt} (h : 0 < o.length) : lastE o = o[o.length - 1]'(by omega) := by
  unfold lastE
  rw [List.getD_eq_getElem?_getD, List.getElem?_eq_getElem (by omega)]
  rfl
theorem mrg_pos {o : List Evt} {e : Evt} {s : Sgn} (h : mrg o e = some s) : mayJ o e = true ∧ 0 < o.length ∧ sgOf (IntKind.i64.wrap (tkE (lastE o) + tkE e)) = some s := by
  unfold mrg at h
  split at h
  · rename_i h1
    refine ⟨h1, ?_, h⟩
    unfold mayJ at h1
    simp only [Bool.and_eq_true, decide_eq_true_eq] at h1
    exact h1.1.1
  · cases h
theorem jinv_snoc {l : List Evt} {st : Jn} (h : JInv l st) (e : Evt) : JInv (l ++ [e]) (jst1 st e) := by
  obtain ⟨h1, h2, h3, h4, h5⟩ := h
  unfold jst1
  split
  · rename_i s hs
    have hp := (mrg_pos hs).2.1
    refine ⟨by simp [h1], by simp [h2], by rw [cF_app]; simp [cF, h3], fun i hi hf => ?_, fun j hj => ?_⟩
    · simp only [List.length_append, List.length_singleton] at hi
      by_cases hi2 : i < st.m.length
      · simp only [List.getElem_append_left hi2] at hf
        have := h4 i hi2 hf
        show st.g[cF (List.take i (st.m ++ [true]))]? = _
        rw [List.take_append_of_le_length (by omega)]
        exact this
      · obtain rfl : i = st.m.length := by omega
        simp at hf
    · simp only [List.length_set] at hj
      obtain ⟨i, e', s', k1, k2, k3⟩ := h5 j hj
      have hil : i < l.length := (List.getElem?_eq_some_iff.1 k2).1
      have k4 : (l ++ [e])[i]? = some e' := by rw [List.getElem?_append_left hil]; exact k2
      by_cases hjl : st.o.length - 1 = j
      · refine ⟨i, e', s, k1, k4, ?_⟩
        show (st.o.set (st.o.length - 1) _)[j]? = _
        subst hjl
        rw [List.getElem?_set_self (by omega), lastE_at hp]
        rw [List.getElem?_eq_getElem (by omega)] at k3
        rw [Option.some.inj k3]
        rfl
      · refine ⟨i, e', s', k1, k4, ?_⟩
        show (st.o.set (st.o.length - 1) _)[j]? = _
        rw [List.getElem?_set_ne hjl]
        exact k3
  · refine ⟨by simp [h1], by simp [h2], by rw [cF_app]; simp [cF, h3], fun i hi hf => ?_, fun j hj => ?_⟩
    · simp only [List.length_append, List.length_singleton] at hi
      show (st.g ++ [st.m.length])[cF (List.take i (st.m ++ [false]))]? = _
      rw [List.take_append_of_le_length (by omega)]
      by_cases hi2 : i < st.m.length
      · simp only [List.getElem_append_left hi2] at hf
        have := h4 i hi2 hf
        have := cF_lt hi2 hf
        rw [List.getElem?_append_left (by omega)]
        exact h4 i hi2 hf
      · obtain rfl : i = st.m.length := by omega
        rw [List.take_length, ← h3, ← h2]
        simp
    · simp only [List.length_append, List.length_singleton] at hj
      by_cases hj2 : j < st.o.length
      · obtain ⟨i, e', s', k1, k2, k3⟩ := h5 j hj2
        refine ⟨i, e', s', ?_, ?_, ?_⟩
        · show (st.g ++ [st.m.length])[j]? = _
          rw [List.getElem?_append_left (by omega)]; exact k1
        · rw [List.getElem?_append_left (List.getElem?_eq_some_iff.1 k2).1]; exact k2
        · show (st.o ++ [e])[j]? = _
          rw [List.getElem?_append_left hj2]; exact k3
      · obtain rfl : j = st.o.length := by omega
        refine ⟨st.m.length, e, e.sg, ?_, ?_, ?_⟩
        · show (st.g ++ [st.m.length])[st.o.length]? = _
          rw [← h2]; simp
        · rw [h1]; simp
        · show (st.o ++ [e])[st.o.length]? = _
          simp [withS_self]
theorem jinv_take (l : List Evt) : ∀ k, k ≤ l.length → JInv (l.take k) (jst (l.take k))
  | 0, _ => by
    rw [List.take_zero]
    exact ⟨rfl, rfl, rfl, fun i h => absurd h (Nat.not_lt_zero _), fun j h => absurd h (Nat.not_lt_zero _)⟩
  | k + 1, h => by
    rw [jst_take (by omega)]
    have ih := jinv_snoc (jinv_take l k (by omega)) (l[k]'(by omega))
    rw [List.take_add_one, List.getElem?_eq_getElem (by omega)]
    exact ih
theorem jinv (l : List Evt) : JInv l (jst l) := by
  have := jinv_take l l.length (Nat.le_refl _)
  rwa [List.take_length] at this
/-- how many of these are gone -/
def cntT : List Bool → Nat
  | [] => 0
  | b :: r => (if b = true then 1 else 0) + cntT r
theorem cntT_le : ∀ l : List Bool, cntT l ≤ l.length
  | [] => Nat.le_refl _
  | b :: r => by have := cntT_le r; simp only [cntT, List.length_cons]; split <;> omega
theorem cntT_app : ∀ (l m : List Bool), cntT (l ++ m) = cntT l + cntT m
  | [], _ => by simp [cntT]
  | b :: r, m => by simp only [List.cons_append, cntT, cntT_app r m]; omega
theorem cntT_succ {m : List Bool} {i : Nat} (h : i < m.length) : cntT (m.take (i + 1)) = cntT (m.take i) + (if m[i] = true then 1 else 0) := by
  rw [List.take_add_one, List.getElem?_eq_getElem h, Option.toList_some, cntT_app]
  simp [cntT]
def goneS (ms : List Bool) (i : Nat) (s : Stp) : Stp := { s with h := s.h - (cntT ((ms.drop (i + 1)).take s.h.toNat) : Nat) }
def goneE (ms : List Bool) (i : Nat) (e : Evt) : Evt := evS e (e.stops.map (goneS ms i))
/-- the events of the result, their holds without what is gone -/
def jL (st : Jn) : List Evt := List.zipWith (goneE st.m) st.g st.o
def joinE (P : List Evt) : List Evt := jL (jst P)
def joinP (p : Pc) : Except Int Pc := if chk p ≠ 0 then .error (chk p) else .ok ⟨p.ins, joinE (outE plnS sz p.evs)⟩
theorem jL_len {l : List Evt} {st : Jn} (h : JInv l st) : (jL st).length = st.o.length := by simp [jL, h.gl]
/-- what the event at i becomes -/
theorem jL_at {l : List Evt} {st : Jn} (h : JInv l st) {i : Nat} (hi : i < l.length) (hf : st.m[i]'(by rw [h.ml]; exact hi) = false) :
    ∃ (h1 : cF (st.m.take i) < st.o.length) (h2 : cF (st.m.take i) < (jL st).length), (jL st)[cF (st.m.take i)] = goneE st.m i st.o[cF (st.m.take i)] ∧ st.o[cF (st.m.take i)].stops = l[i].stops := by
  have hi' : i < st.m.length := by rw [h.ml]; exact hi
  have hlt := cF_lt hi' hf
  have h1 : cF (st.m.take i) < st.o.length := by rw [h.ol]; exact hlt
  have hg := h.gi i hi' hf
  obtain ⟨i', e, s, k1, k2, k3⟩ := h.gs _ h1
  rw [hg] at k1
  obtain rfl := Option.some.inj k1
  have hgl : cF (st.m.take i) < st.g.length := by rw [h.gl]; exact h1
  rw [List.getElem?_eq_getElem hgl] at hg
  rw [List.getElem?_eq_getElem h1] at k3
  rw [List.getElem?_eq_getElem hi] at k2
  refine ⟨h1, by rw [jL_len h]; exact h1, ?_, ?_⟩
  · simp only [jL, List.getElem_zipWith]
    rw [Option.some.inj hg]
  · rw [Option.some.inj k3, Option.some.inj k2]; rfl

end Go.Ab.V
