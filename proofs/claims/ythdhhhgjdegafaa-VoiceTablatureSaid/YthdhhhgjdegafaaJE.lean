/-
  What is proved here serves the law's text: each part says its own claim and its conditions. No condition is left open.
-/
import Derived.Test.YthdhhhgjdegafaaJC
import Derived.Test.YthdhhhgjdegafaaJD
import Derived.Test.YthdhhhgjdegafaaKW
import Derived.Test.YthdhhhgjdegafaaJA
set_option linter.unusedSimpArgs false
set_option linter.unusedVariables false

namespace Go.Ab.V
open Go.Proofs
theorem optM {o : Option AObj} {ep : Nat} {es : List (AV × AV)} {P : Nat → List (AV × AV) → Prop} (h : o = some (.map ep es)) (hk : P ep es) : (match (generalizing := false) o with | some (.map ep' es) => P ep' es | _ => False) := by
 subst h; exact hk
def costsA (l : List Co) : AV := .lslc 2 (l.map costR) 0 l.length false
def boolsR (l : List Bool) : List (List AV) := l.map fun b => [.bool b]
def boolsA (l : List Bool) : AV := .lslc 1 (boolsR l) 0 l.length false
abbrev rowsCo (l : List Co) : List (List AV) := l.map costR
def BSl (b : PS) (e4 e5 : Nat) (s : Co × Bool) : PS := { b with o4 := .vec e4 [costR s.1], o5 := .vec e5 [[.bool s.2]] }
def A58 : Ann := fun r => match r with
 | 0 => { slots := [(0, 21), (1, 22)] }
 | 3 => { slots := [(9, 23)] }
 | _ => {}
set_option maxHeartbeats 16000000 in
set_option maxRecDepth 100000 in
theorem settle58 (M : ME) (b : PS) (e2 e4 e5 w ew w1 ew1 : Nat) (F C' : AV) (f : List St) (rs : List Co) (ds : List Bool) (s : Co × Bool) (h2 : b.o2 = .vec e2 [[.optr (.d w) ew 5 0 0]])
  (hcaps : M.caps = [.optr (.s 2) e2 1 0 0, .optr (.s 5) e5 1 0 0, .optr (.s 4) e4 2 0 0]) (hfy : M.fy = 58) (hD : (M.ob :: b.D)[w]? = some (.vec ew [[F, .mp (.d w1) ew1, costsA rs, boolsA ds, C']])) (hD1 : (M.ob :: b.D)[w1]? = some (.map ew1 (mapS 0 f)))
  (hn : f.Nodup) (hb : ∀ s ∈ f, s.bd) (hrl : rs.length = f.length) (hdl : ds.length = f.length) (h : RMv) (hto : h.to < f.length) (hc : 0 ≤ h.c ∧ h.c ≤ 1000000) (hm : 0 ≤ h.m ∧ h.m ≤ 1000000) (hrs : ∀ a ∈ rs, (0 ≤ a.1 ∧ a.1 ≤ 10000000000) ∧ (0 ≤ a.2 ∧ a.2 ≤ 10000000000)) :
  YC M (toMv f h) (BSl b e4 e5 s) fun S' => S' = BSl b e4 e5 (tellB rs ds s h) := by
 intro e20 R hR hRp
 rw [hfy, hcaps]
 obtain ⟨ks, to, c, m⟩ := h
 simp only [toMv] at hR hto hc hm ⊢
 have hv : f.getD to st0 ∈ f := by rw [List.getD_eq_getElem?_getD, List.getElem?_eq_getElem hto]; exact List.getElem_mem hto
 have hix : idxA (f.getD to st0) f = to := by
  have h1 := idxA_get hv
  obtain ⟨q1, q2⟩ := List.getElem?_eq_some_iff.1 h1
  have h3 : f.getD to st0 = f[to] := by rw [List.getD_eq_getElem?_getD, List.getElem?_eq_getElem hto]; rfl
  exact (List.getElem_inj hn).1 (q2.trans h3)
 have hvb := hb _ hv
 have hf := fun {K : Option (Nat × AV) → Prop} (hK : K (some (to, .int .i64 (to : Int)))) => findT (K := K) hn hv (by rw [hix]; exact hK)
 generalize f.getD to st0 = v at hv hvb hf
 have hk1 : (boolsR ds)[0 + ((to : Nat) : Int).toNat]? = some [.bool (ds.getD to true)] := by
  rw [List.getD_eq_getElem?_getD, List.getElem?_eq_getElem (l := ds) (by omega)]
  exact mapR (f := fun b => [AV.bool b]) (by omega)
 have hrb := fun (h : to < rs.length) => hrs _ (List.getElem_mem h)
 have hk2 : (rowsCo rs)[0 + ((to : Nat) : Int).toNat]? = some (costR (rs.getD to (0, 0))) := by
  rw [List.getD_eq_getElem?_getD, List.getElem?_eq_getElem (l := rs) (by omega)]
  exact mapR (f := costR) (by omega)
 have hrb : (0 ≤ (rs.getD to (0, 0)).1 ∧ (rs.getD to (0, 0)).1 ≤ 10000000000) ∧ (0 ≤ (rs.getD to (0, 0)).2 ∧ (rs.getD to (0, 0)).2 ≤ 10000000000) := by
  rw [List.getD_eq_getElem?_getD, List.getElem?_eq_getElem (l := rs) (by omega)]
  exact hrb (by omega)
 unfold tellB
 simp only
 have hdn : 0 + ((to : Nat) : Int).toNat < ds.length := by omega
 have hrn : 0 + ((to : Nat) : Int).toNat < rs.length := by omega
 generalize hdv : ds.getD to true = dv at hk1
 generalize hrv : rs.getD to (0, 0) = rv at hk2 hrb
 obtain ⟨r1, r2⟩ := rv
 obtain ⟨⟨s1, s2⟩, sd⟩ := s
 have hP := plus59 (c, m) (r1, r2) (by simp only; omega) (by simp only; omega) (by simp only at hrb ⊢; omega) (by simp only at hrb ⊢; omega)
 have hC := compare60 (c + r1, m + r2) (s1, s2)
 simp only at hP ⊢
 generalize hcv : cmpC (c + r1, m + r2) (s1, s2) = cv at hC
 refine ACalls.mono (K := Wq _) ?_ (fun r h' h => wq_ex h)
 unfold BSl
 simp only [PS.l]
 rw [h2]
 cases dv with
 | true =>
  refine fn_of (okz [] [] []) mixed (A := A58) 3 Try.func58 rfl ?_
  (repeat' (first | ((conv => whnf); first | refine optO hD ?_ | refine optM hD1 ?_ | refine ⟨⟨rfl, keySt hvb _, keysS hb 0⟩, hf ?_⟩ | refine optS hk1 ?_ | refine optS hk2 ?_ | refine ⟨_, hP, ?_⟩ | refine ⟨_, hC, ?_⟩ | exact rfl | exact ⟨rfl, rfl⟩ | refine go1 ?_ | (intro ep) | (refine ifB (fun hb => ?_) (fun hb => ?_) <;> (try simp only [qs] at hb) <;> (try simp (disch := omega) only [wrapI] at hb) <;> (try (exfalso; omega))) | fail)))
  all_goals (conv => whnf)
  all_goals exact wq_of ⟨_, rfl, rfl, rfl⟩
 | false =>
  cases sd with
  | true =>
   refine fn_of (okz [] [] []) mixed (A := A58) 3 Try.func58 rfl ?_
   (repeat' (first | ((conv => whnf); first | refine optO hD ?_ | refine optM hD1 ?_ | refine ⟨⟨rfl, keySt hvb _, keysS hb 0⟩, hf ?_⟩ | refine optS hk1 ?_ | refine optS hk2 ?_ | refine ⟨_, hP, ?_⟩ | refine ⟨_, hC, ?_⟩ | exact rfl | exact ⟨rfl, rfl⟩ | refine go1 ?_ | (intro ep) | (refine ifB (fun hb => ?_) (fun hb => ?_) <;> (try simp only [qs] at hb) <;> (try simp (disch := omega) only [wrapI] at hb) <;> (try (exfalso; omega))) | fail)))
   all_goals (conv => whnf)
   all_goals exact wq_of ⟨_, rfl, rfl, rfl⟩
  | false =>
   by_cases cc : cv < 0
   ·rw [if_neg (by simp), if_pos (.inr cc)]
    refine fn_of (okz [] [] []) mixed (A := A58) 3 Try.func58 rfl ?_
    (repeat' (first | ((conv => whnf); first | refine optO hD ?_ | refine optM hD1 ?_ | refine ⟨⟨rfl, keySt hvb _, keysS hb 0⟩, hf ?_⟩ | refine optS hk1 ?_ | refine optS hk2 ?_ | refine ⟨_, hP, ?_⟩ | refine ⟨_, hC, ?_⟩ | exact rfl | exact ⟨rfl, rfl⟩ | refine go1 ?_ | (intro ep) | (refine ifB (fun hb => ?_) (fun hb => ?_) <;> (try simp only [qs] at hb) <;> (try simp (disch := omega) only [wrapI] at hb) <;> (try (exfalso; omega))) | fail)))
    all_goals (conv => whnf)
    all_goals exact wq_of ⟨_, rfl, rfl, rfl⟩
   ·rw [if_neg (by simp), if_neg (by simpa using cc)]
    refine fn_of (okz [] [] []) mixed (A := A58) 3 Try.func58 rfl ?_
    (repeat' (first | ((conv => whnf); first | refine optO hD ?_ | refine optM hD1 ?_ | refine ⟨⟨rfl, keySt hvb _, keysS hb 0⟩, hf ?_⟩ | refine optS hk1 ?_ | refine optS hk2 ?_ | refine ⟨_, hP, ?_⟩ | refine ⟨_, hC, ?_⟩ | exact rfl | exact ⟨rfl, rfl⟩ | refine go1 ?_ | (intro ep) | (refine ifB (fun hb => ?_) (fun hb => ?_) <;> (try simp only [qs] at hb) <;> (try simp (disch := omega) only [wrapI] at hb) <;> (try (exfalso; omega))) | fail)))
    all_goals (conv => whnf)
    all_goals exact wq_of ⟨_, rfl, rfl, rfl⟩
end Go.Ab.V

namespace Go.Ab.V
def layV (ε : Nat → Nat) (j : Nat) (y : Lay) (R D : AV) : AObj := .vec (ε (2 * j + 3)) [[.lslc 25 (rowsS y.1) 0 y.1.length false, .mp (.d (2 * j + 2)) (ε (2 * j + 2)), R, D, .lslc 1 (ints y.2) 0 y.1.length false]]
def layM (ε : Nat → Nat) (j : Nat) (y : Lay) : AObj := .map (ε (2 * j + 2)) (mapS 0 y.1)
def laysS (ε : Nat → Nat) (RD : Nat → AV × AV) : Nat → List Lay → List AObj
 | _, [] => []
 | j, y :: r => layM ε j y :: layV ε j y (RD j).1 (RD j).2 :: laysS ε RD (j + 1) r
def setD (x : Lm) (n : List Nt) (es e1 : Nat) (ε : Nat → Nat) (Ls : List Lay) (t : Nat) (RD : Nat → AV × AV) : List AObj := .vec es [srR x n (.oslc (.d 1) e1 1 0 Ls.length false) (.int .i64 (t : Int))] :: .vec e1 (ptrsO ε 0 Ls) :: laysS ε RD 0 Ls
theorem laysS_O {ε : Nat → Nat} : ∀ {L : List Lay} {j : Nat}, laysS ε (fun _ => (.nils, .nils)) j L = laysO ε j L
 | [], _ => rfl
 | y :: r, j => by simp only [laysS, laysO, layO, layM, layV, laysS_O (L := r), List.cons_append, List.nil_append]
theorem setD_run {x : Lm} {n : List Nt} {es e1 : Nat} {ε : Nat → Nat} {Ls : List Lay} {t : Nat} : runD x n es e1 ε Ls t = setD x n es e1 ε Ls t fun _ => (.nils, .nils) := by
 unfold runD setD; rw [laysS_O]
theorem laysS_v {ε : Nat → Nat} {RD : Nat → AV × AV} : ∀ {L : List Lay} {j k : Nat} (h : k < L.length), (laysS ε RD j L)[2 * k + 1]? = some (layV ε (j + k) L[k] (RD (j + k)).1 (RD (j + k)).2)
 | y :: r, j, 0, _ => rfl
 | y :: r, j, k + 1, h => by
  have := laysS_v (ε := ε) (RD := RD) (L := r) (j := j + 1) (k := k) (by simpa using h)
  rw [show j + 1 + k = j + (k + 1) by omega] at this
  rw [show 2 * (k + 1) + 1 = 2 * k + 1 + 1 + 1 by omega]
  exact this
theorem laysS_m {ε : Nat → Nat} {RD : Nat → AV × AV} : ∀ {L : List Lay} {j k : Nat} (h : k < L.length), (laysS ε RD j L)[2 * k]? = some (layM ε (j + k) L[k])
 | y :: r, j, 0, _ => rfl
 | y :: r, j, k + 1, h => by
  have := laysS_m (ε := ε) (RD := RD) (L := r) (j := j + 1) (k := k) (by simpa using h)
  rw [show j + 1 + k = j + (k + 1) by omega] at this
  rw [show 2 * (k + 1) = 2 * k + 1 + 1 by omega]
  exact this
theorem laysS_congr {ε : Nat → Nat} {RD RD' : Nat → AV × AV} : ∀ {L : List Lay} {j : Nat}, (∀ k, j ≤ k → RD k = RD' k) → laysS ε RD j L = laysS ε RD' j L
 | [], j, h => rfl
 | y :: r, j, h => by simp only [laysS]; rw [h j (Nat.le_refl _), laysS_congr fun k hk => h k (by omega)]
def upR (RD : Nat → AV × AV) (k : Nat) (v : AV × AV) : Nat → AV × AV := fun i => if i = k then v else RD i
theorem laysS_set {ε : Nat → Nat} {RD : Nat → AV × AV} {R D : AV} : ∀ {L : List Lay} {j k : Nat} (h : k < L.length), (laysS ε RD j L).set (2 * k + 1) (layV ε (j + k) L[k] R D) = laysS ε (upR RD (j + k) (R, D)) j L
 | y :: r, j, 0, _ => by
  simp only [laysS, Nat.mul_zero, Nat.zero_add, List.set_cons_succ, List.set_cons_zero, Nat.add_zero, List.getElem_cons_zero, upR, if_pos]
  rw [laysS_congr (RD := RD) (RD' := upR RD j (R, D)) fun k hk => by unfold upR; rw [if_neg (by omega)]]
 | y :: r, j, k + 1, h => by
  have := laysS_set (ε := ε) (RD := RD) (R := R) (D := D) (L := r) (j := j + 1) (k := k) (by simpa using h)
  rw [show j + 1 + k = j + (k + 1) by omega] at this
  rw [show 2 * (k + 1) + 1 = 2 * k + 1 + 1 + 1 by omega]
  simp only [laysS, List.set_cons_succ, List.getElem_cons_succ]
  rw [this]
  simp only [upR, if_neg (show ¬ j = j + (k + 1) by omega)]
theorem laysS_len {ε : Nat → Nat} {RD : Nat → AV × AV} : ∀ {L : List Lay} {j : Nat}, (laysS ε RD j L).length = 2 * L.length
 | [], _ => rfl
 | y :: r, j => by simp only [laysS, List.length_cons, laysS_len (L := r)]; omega
theorem setD_v {x : Lm} {n : List Nt} {es e1 : Nat} {ε : Nat → Nat} {Ls : List Lay} {t : Nat} {RD : Nat → AV × AV} {k : Nat} (h : k < Ls.length) : (setD x n es e1 ε Ls t RD)[2 * k + 3]? = some (layV ε k Ls[k] (RD k).1 (RD k).2) := by
 have := laysS_v (ε := ε) (RD := RD) (j := 0) h
 rw [Nat.zero_add] at this
 rw [show 2 * k + 3 = 2 * k + 1 + 1 + 1 by omega]
 exact this
theorem setD_m {x : Lm} {n : List Nt} {es e1 : Nat} {ε : Nat → Nat} {Ls : List Lay} {t : Nat} {RD : Nat → AV × AV} {k : Nat} (h : k < Ls.length) : (setD x n es e1 ε Ls t RD)[2 * k + 2]? = some (layM ε k Ls[k]) := by
 have := laysS_m (ε := ε) (RD := RD) (j := 0) h
 rw [Nat.zero_add] at this
 rw [show 2 * k + 2 = 2 * k + 1 + 1 by omega]
 exact this
theorem setD_set {x : Lm} {n : List Nt} {es e1 : Nat} {ε : Nat → Nat} {Ls : List Lay} {t : Nat} {RD : Nat → AV × AV} {k : Nat} (h : k < Ls.length) {R D : AV} : (setD x n es e1 ε Ls t RD).set (2 * k + 3) (layV ε k Ls[k] R D) = setD x n es e1 ε Ls t (upR RD k (R, D)) := by
 have := laysS_set (ε := ε) (RD := RD) (R := R) (D := D) (j := 0) h
 rw [Nat.zero_add] at this
 unfold setD
 rw [show 2 * k + 3 = 2 * k + 1 + 1 + 1 by omega]
 simp only [List.set_cons_succ]
 rw [this]
theorem upR_upR {RD : Nat → AV × AV} {k : Nat} {u v : AV × AV} : upR (upR RD k u) k v = upR RD k v := by
 funext i; unfold upR; split <;> rfl
theorem upR_at {RD : Nat → AV × AV} {k : Nat} {u : AV × AV} : upR RD k u k = u := by unfold upR; simp
theorem laysS_no {ε : Nat → Nat} {RD : Nat → AV × AV} : ∀ {L : List Lay} {j : Nat}, (∀ k, j ≤ k → k < j + L.length → noSt (RD k).1 = true ∧ noSt (RD k).2 = true) → ∀ o ∈ laysS ε RD j L, noO o
 | [], j, _, o, h => by simp [laysS] at h
 | y :: r, j, hR, o, h => by
  simp only [laysS, List.mem_cons] at h
  rcases h with rfl | rfl | h
  ·exact noO_mapS
  ·obtain ⟨h1, h2⟩ := hR j (Nat.le_refl _) (by simp)
   refine noO_vec fun r hr => ?_
   rw [List.mem_singleton] at hr
   subst hr
   refine row_noS _ ?_
   simp only [List.all_cons, List.all_nil, Bool.and_true, Bool.and_eq_true]
   exact ⟨rfl, rfl, h1, h2, rfl⟩
  ·exact laysS_no (fun k hk hl => hR k (by omega) (by simp only [List.length_cons]; omega)) o h
theorem setD_no {x : Lm} {n : List Nt} {es e1 : Nat} {ε : Nat → Nat} {Ls : List Lay} {t : Nat} {RD : Nat → AV × AV} (hR : ∀ k, k < Ls.length → noSt (RD k).1 = true ∧ noSt (RD k).2 = true) : ∀ o ∈ setD x n es e1 ε Ls t RD, noO o := by
 intro o h
 simp only [setD, List.mem_cons] at h
 rcases h with rfl | rfl | h
 ·refine noO_vec fun r hr => ?_
  rw [List.mem_singleton] at hr
  subst hr
  exact row_noS _ rfl
 ·exact ptrsO_no
 ·exact laysS_no (fun k _ hk => hR k (by omega)) o h
structure StepOk (x : Lm) (n : List Nt) (i : Nat) (y y' : Lay) (mv : List (List RMv)) : Prop where
 len : mv.length = y.1.length
 mv : ∀ (k : Nat) (v : St) (m : List RMv), y.1[k]? = some v → mv[k]? = some m → MvOk y'.1 (mvE x n i v) m
 ok : LayOk y'
 ne : y'.1 ≠ []
theorem gr_len {x : Lm} {n : List Nt} : ∀ {i : Nat} {Ls : List Lay} {En : Steps}, GR x n i Ls En → Ls.length = En.length + 1
 | i, [_], [], h => rfl
 | i, y :: y' :: Ls, mv :: M, h => by
  unfold GR at h
  have := gr_len h.2
  simp only [List.length_cons] at this ⊢
  omega
 | i, [], _, h => by unfold GR at h; exact h.elim
 | i, [_], _ :: _, h => by unfold GR at h; exact h.elim
 | i, _ :: _ :: _, [], h => by unfold GR at h; exact h.elim
theorem gr_at {x : Lm} {n : List Nt} : ∀ {i j : Nat} {Ls : List Lay} {En : Steps}, GR x n i Ls En → ∀ (h : j < En.length) (h1 : j < Ls.length) (h2 : j + 1 < Ls.length), StepOk x n (i + j) Ls[j] Ls[j + 1] En[j]
 | i, j, [_], [], h, hj, _, _ => by simp at hj
 | i, 0, y :: y' :: Ls, mv :: M, h, hj, _, _ => by
  unfold GR at h
  exact ⟨h.1.1, h.1.2.1, h.1.2.2.2.1, h.1.2.2.2.2⟩
 | i, j + 1, y :: y' :: Ls, mv :: M, h, hj, h1, h2 => by
  unfold GR at h
  have := gr_at (j := j) h.2 (by simpa using hj) (by simpa using h1) (by simpa using h2)
  rw [show i + 1 + j = i + (j + 1) by omega] at this
  exact this
 | i, j, [], _, h, _, _, _ => by unfold GR at h; exact h.elim
 | i, j, [_], _ :: _, h, _, _, _ => by unfold GR at h; exact h.elim
 | i, j, _ :: _ :: _, [], h, _, _, _ => by unfold GR at h; exact h.elim
theorem mvE_bd {x : Lm} (X : LmOk x) {n : List Nt} (hN : chkN n = 0) (i : Nat) {v : St} (hv : v.ok) : ∀ m ∈ mvE x n i v, (0 ≤ m.c ∧ m.c ≤ 1000000) ∧ (0 ≤ m.m ∧ m.m ≤ 1000000) := by
 intro m hm
 unfold mvE at hm
 cases hq : (segR 0 n)[i]? with
 | none => rw [hq] at hm; simp at hm
 | some q =>
  rw [hq] at hm
  obtain ⟨sg, ha⟩ := seg_at hq (ntsOk_of hN).len
  simp only [mvR] at hm
  obtain ⟨a, h1, h2⟩ := List.mem_flatMap.1 hm
  have hl := (ntsOk_of hN).len
  have hle := sg.le
  have key := dfs_inv (stp x) (vcs x) (fun r s _ => s.1.ok ∧ (0 ≤ s.2 ∧ s.2 ≤ 127 * ((q.2 : Int) - r.length)) ∧ ∀ y ∈ r, y ∈ n) (fun y r s l u s' h _ hs => by
   unfold stp at hs
   rw [Option.map_eq_some_iff] at hs
   obtain ⟨d, hd, rfl⟩ := hs
   have hy := (ntsOk_of hN).fit y (h.2.2 y (List.mem_cons_self ..))
   obtain ⟨j1, j2, j3⟩ := join_ok hd X.lo5 h.1 (fit_of hy)
   have h3 := h.2.1
   simp only [List.length_cons] at h3
   exact ⟨j1, by simp only; omega, fun z hz => h.2.2 z (List.mem_cons_of_mem _ hz)⟩) _ (v, 0) [] ⟨hv, by simp only [List.length_take, List.length_drop]; omega, fun y hy => (seg_notes hN sg ha y hy).1⟩ a h1
  unfold fin at h2
  split at h2
  ·simp at h2
  ·rw [List.mem_singleton] at h2
   subst h2
   have hb := crs_bd a.2.1 (frN n q.1)
   have h3 := key.2.1
   simp only [List.length_nil] at h3
   simp only
   omega
theorem gr_bd {x : Lm} (X : LmOk x) {n : List Nt} (hN : chkN n = 0) {Ls : List Lay} {En : Steps} {i : Nat} (h : GR x n i Ls En) (h0 : ∀ (h : 0 < Ls.length), LayOk Ls[0]) : GBd En := by
 intro g hg ms hms r hr
 obtain ⟨j, hj⟩ := List.mem_iff_getElem?.1 hg
 obtain ⟨hjl, rfl⟩ := List.getElem?_eq_some_iff.1 hj
 have hl := gr_len h
 have S := gr_at h hjl (show j < Ls.length by omega) (show j + 1 < Ls.length by omega)
 obtain ⟨k, hk⟩ := List.mem_iff_getElem?.1 hms
 obtain ⟨hkl, rfl⟩ := List.getElem?_eq_some_iff.1 hk
 have hky : k < Ls[j].1.length := by rw [← S.len]; exact hkl
 have hm := S.mv k _ _ (List.getElem?_eq_getElem hky) (List.getElem?_eq_getElem hkl)
 have hL : LayOk Ls[j] := by
  cases j with
  | zero => exact h0 (by omega)
  | succ j =>
   have T := gr_at (j := j) h (show j < En.length by omega) (show j < Ls.length by omega) (show j + 1 < Ls.length by omega)
   exact T.ok
 have hvk := hL.bd _ (List.getElem_mem hky)
 have hin : toMv Ls[j + 1].1 r ∈ mvE x n (i + j) Ls[j].1[k] := by rw [hm.2]; exact List.mem_map.2 ⟨r, hr, rfl⟩
 exact mvE_bd X hN _ hvk.2 _ hin
end Go.Ab.V

namespace Go.Ab.V
open Go.Proofs
theorem laysS_congr2 {ε : Nat → Nat} {RD RD' : Nat → AV × AV} : ∀ {L : List Lay} {j : Nat}, (∀ k, j ≤ k → k < j + L.length → RD k = RD' k) → laysS ε RD j L = laysS ε RD' j L
 | [], j, h => rfl
 | y :: r, j, h => by
  simp only [laysS]
  rw [h j (Nat.le_refl _) (by simp), laysS_congr2 fun k hk hl => h k (by omega) (by simp only [List.length_cons]; omega)]
theorem setD_congr {x : Lm} {n : List Nt} {es e1 : Nat} {ε : Nat → Nat} {Ls : List Lay} {t : Nat} {RD RD' : Nat → AV × AV} (h : ∀ k, k < Ls.length → RD k = RD' k) : setD x n es e1 ε Ls t RD = setD x n es e1 ε Ls t RD' := by
 unfold setD
 rw [laysS_congr2 fun k _ hk => h k (by omega)]
theorem pure_boolsR (l : List Bool) : pureRows (boolsR l) := pure_map l fun x => rfl
theorem pure_rowsCo (l : List Co) : pureRows (rowsCo l) := pure_map l fun x => rfl
theorem fcS_pure {n : Nat} {Q rows : List (List AV)} (h : pureRows rows) : rows.map (fun r : List AV => r.map (fcS n Q)) = rows := fcS_flat (noS_pure h)
theorem set2 {α : Type} (l : List α) (n : Nat) (a b : α) : (l.set n a).set n b = l.set n b := by simp
theorem settle_ev (M : ME) (b : PS) (e2 e4 e5 w ew w1 ew1 : Nat) (F C' : AV) (f : List St) (rs : List Co) (ds : List Bool) (h2 : b.o2 = .vec e2 [[.optr (.d w) ew 5 0 0]])
  (hcaps : M.caps = [.optr (.s 2) e2 1 0 0, .optr (.s 5) e5 1 0 0, .optr (.s 4) e4 2 0 0]) (hfy : M.fy = 58) (hD : (M.ob :: b.D)[w]? = some (.vec ew [[F, .mp (.d w1) ew1, costsA rs, boolsA ds, C']])) (hD1 : (M.ob :: b.D)[w1]? = some (.map ew1 (mapS 0 f)))
  (hn : f.Nodup) (hb : ∀ s ∈ f, s.bd) (hrl : rs.length = f.length) (hdl : ds.length = f.length) (hrs : ∀ a ∈ rs, (0 ≤ a.1 ∧ a.1 ≤ 10000000000) ∧ (0 ≤ a.2 ∧ a.2 ≤ 10000000000)) :
  ∀ (ms : List RMv) (s : Co × Bool), (∀ h ∈ ms, h.to < f.length ∧ (0 ≤ h.c ∧ h.c ≤ 1000000) ∧ (0 ≤ h.m ∧ h.m ≤ 1000000)) →
  RunP M (ms.map (toMv f)) (BSl b e4 e5 s) fun S' => S' = BSl b e4 e5 (ms.foldl (tellB rs ds) s)
 | [], s, _ => rfl
 | h :: ms, s, hm => by
  obtain ⟨m1, m2, m3⟩ := hm h (List.mem_cons_self ..)
  refine YC.mono (settle58 M b e2 e4 e5 w ew w1 ew1 F C' f rs ds s h2 hcaps hfy hD hD1 hn hb hrl hdl h m1 m2 m3 hrs) ?_
  rintro s' rfl
  exact settle_ev M b e2 e4 e5 w ew w1 ew1 F C' f rs ds h2 hcaps hfy hD hD1 hn hb hrl hdl hrs ms _ fun h hh => hm h (List.mem_cons_of_mem _ hh)
def RDs (En : Steps) (Ls : List Lay) (z : Nat) : Nat → AV × AV := fun j => if z ≤ j then (costsA (restL (WG (En.drop j)) (Ls.getD j ([], [])).1.length), boolsA (deadL (WG (En.drop j)) (Ls.getD j ([], [])).1.length)) else (.nils, .nils)
theorem rds_no {En : Steps} {Ls : List Lay} {z k : Nat} : noSt (RDs En Ls z k).1 = true ∧ noSt (RDs En Ls z k).2 = true := by
 unfold RDs
 split <;> exact ⟨rfl, rfl⟩
theorem rds_step {En : Steps} {Ls : List Lay} {i : Nat} (h : i < Ls.length) : upR (RDs En Ls (i + 1)) i (costsA (restL (WG (En.drop i)) Ls[i].1.length), boolsA (deadL (WG (En.drop i)) Ls[i].1.length)) = RDs En Ls i := by
 funext j
 unfold upR RDs
 by_cases e : j = i
 ·subst e
  rw [if_pos rfl, if_pos (Nat.le_refl _), List.getD_eq_getElem?_getD, List.getElem?_eq_getElem h]
  rfl
 ·rw [if_neg e]
  by_cases c : i + 1 ≤ j
  ·rw [if_pos c, if_pos (by omega)]
  ·rw [if_neg c, if_neg (by omega)]
theorem restL_len {T : Nat → List Wy} {l : Nat} : (restL T l).length = l := by simp [restL]
theorem deadL_len {T : Nat → List Wy} {l : Nat} : (deadL T l).length = l := by simp [deadL]
theorem restL_take {T : Nat → List Wy} {l k : Nat} (h : k < l) : (restL T l).take (k + 1) = (restL T l).take k ++ [costF (T k)] := by
 rw [List.take_succ_eq_append_getElem (by rw [restL_len]; exact h)]
 simp [restL]
theorem deadL_take {T : Nat → List Wy} {l k : Nat} (h : k < l) : (deadL T l).take (k + 1) = (deadL T l).take k ++ [(T k).isEmpty] := by
 rw [List.take_succ_eq_append_getElem (by rw [deadL_len]; exact h)]
 simp [deadL]
theorem costsA_eq {T : Nat → List Wy} {l : Nat} : costsA (restL T l) = .lslc 2 (rowsCo (restL T l)) 0 l false := by unfold costsA; rw [restL_len]
theorem boolsA_eq {T : Nat → List Wy} {l : Nat} : boolsA (deadL T l) = .lslc 1 (boolsR (deadL T l)) 0 l false := by unfold boolsA; rw [deadL_len]
def A36 : Ann := fun r => match r with
 | 1 => { slots := [(6, 0)] }
 | 2 => { slots := [(6, 1)] }
 | 6 => { slots := [(15, 2)] }
 | 9 => { slots := [(2, 3)] }
 | 10 => { slots := [(0, 4)] }
 | 11 => { slots := [(0, 5)] }
 | 13 => { slots := [(6, 6), (7, 7)] }
 | 14 => { slots := [(6, 8), (7, 9)] }
 | _ => {}
set_option maxHeartbeats 16000000 in
set_option maxRecDepth 100000 in
theorem settle36 (x : Lm) (n : List Nt) (X : LmOk x) (hN : chkN n = 0) (es e1 : Nat) (ε : Nat → Nat) (Ls : List Lay) (En : Steps) (t : Nat) (hg : GR x n 0 Ls En) (hl : En.length = (segR 0 n).length) (h0 : ∀ (h : 0 < Ls.length), LayOk Ls[0]) (hsz : ∀ y ∈ Ls, y.1.length ≤ 100000000) :
  ACalls C.P 36 [.optr (.d 0) es 8 0 0] ⟨[], runD x n es e1 ε Ls t⟩ (Wq fun r h' => r = .tup [] ∧ h'.dy = setD x n es e1 ε Ls t (RDs En Ls 0)) := by
 have hll := gr_len hg
 have hlen := (ntsOk_of hN).len
 have hsl := segR_lenle n
 have hbd := gr_bd X hN hg h0
 obtain ⟨N, hN'⟩ : ∃ N, Ls.length = N + 1 := ⟨_, hll⟩
 have hw1 : IntKind.i64.wrap ((Ls.length : Int) - 1) = (N : Int) := by rw [wrapI (by omega) (by omega)]; omega
 have hpN : (ptrsO ε 0 Ls)[0 + (IntKind.i64.wrap ((Ls.length : Int) - 1)).toNat]? = some [.optr (.d (2 * N + 3)) (ε (2 * N + 3)) 5 0 0] := by
  have := ptrs_at (ε := ε) (L := Ls) (j := 0) (k := N) (by omega)
  rw [hw1, show 0 + ((N : Nat) : Int).toNat = N by omega]
  rw [Nat.zero_add] at this
  exact this
 rw [setD_run]
 have hNl : N < Ls.length := by omega
 have hlv := fun (R D : AV) (RD : Nat → AV × AV) (h : RD N = (R, D)) => (show (setD x n es e1 ε Ls t RD)[2 * N + 3]? = some (layV ε N Ls[N] R D) by rw [setD_v hNl, h])
 have hv0 := hlv .nils .nils (fun _ => (.nils, .nils)) rfl
 have hs1 : ∀ o, ((setD x n es e1 ε Ls t fun _ => (.nils, .nils)).set (2 * N + 3) o)[2 * N + 3]? = some o := fun o => List.getElem?_set_self (List.getElem?_eq_some_iff.1 hv0).1
 have hyl := hsz _ (List.getElem_mem hNl)
 refine fn_of (okz [] [56] []) mixed (A := A36) 13 Try.func36 rfl ?_
 (repeat' (first | ((conv => whnf); first | refine optO hv0 ?_ | refine optO (hs1 _) ?_ | refine optS hpN ?_ | exact rfl | exact ⟨rfl, rfl⟩ | refine go1 ?_ | (intro ep) | (refine ifB (fun hb => ?_) (fun hb => ?_) <;> (try simp only [qs] at hb) <;> (try simp (disch := omega) only [wrapI] at hb) <;> (try (exfalso; omega))) | fail)))
 all_goals (conv => whnf)
 rename_i p0
 have hz1 : (List.replicate Ls[N].1.length ([.int .i64 0, .int .i64 0] : List AV)) = rowsCo (restL (WG []) Ls[N].1.length) := by
  unfold restL rowsCo
  rw [List.map_map]
  exact (List.eq_replicate_iff.2 ⟨by simp, fun b hb => by obtain ⟨k, _, rfl⟩ := List.mem_map.1 hb; rfl⟩).symm
 have hz2 : (List.replicate Ls[N].1.length ([.bool false] : List AV)) = boolsR (deadL (WG []) Ls[N].1.length) := by
  unfold deadL boolsR
  rw [List.map_map]
  exact (List.eq_replicate_iff.2 ⟨by simp, fun b hb => by obtain ⟨k, _, rfl⟩ := List.mem_map.1 hb; rfl⟩).symm
 refine wk_tr ?_
 refine tr_mask [0, 3] [0, 1] (fr' := frOf 0 100 [(0, .optr (.d 0) es 8 0 0), (3, .int .i64 (IntKind.i64.wrap (((segR 0 n).length : Int) - 1)))])
  (h' := ⟨[.vec p0 (List.replicate Ls[N].1.length [.int .i64 0, .int .i64 0]), .vec ep (List.replicate Ls[N].1.length [.bool false]), .hole, .hole, .hole, .hole, .hole, .hole, .hole, .hole, .hole, .hole, .hole],
   setD x n es e1 ε Ls t (upR (fun _ => (.nils, .nils)) N (.oslc (.s 0) p0 2 0 Ls[N].1.length false, .oslc (.s 1) ep 1 0 Ls[N].1.length false))⟩) (by exact rfl) ?_ ?_
 ·exact congrArg₂' Heap.mk rfl ((set2 _ _ _ _).trans (setD_set (R := .oslc (.s 0) p0 2 0 Ls[N].1.length false) (D := .oslc (.s 1) ep 1 0 Ls[N].1.length false) hNl))
 have hnil : ∀ o ∈ setD x n es e1 ε Ls t (fun _ => (.nils, .nils)), noO o := setD_no fun _ _ => ⟨rfl, rfl⟩
 rw [hz1, hz2, ← setD_set hNl]
 refine tr_fzA 0 p0 (rows := rowsCo (restL (WG []) Ls[N].1.length)) (fr' := frOf 0 100 [(0, .optr (.d 0) es 8 0 0), (3, .int .i64 (IntKind.i64.wrap (((segR 0 n).length : Int) - 1)))])
  (st' := [.hole, .vec ep (boolsR (deadL (WG []) Ls[N].1.length)), .hole, .hole, .hole, .hole, .hole, .hole, .hole, .hole, .hole, .hole, .hole]) (by exact rfl) (pure_rowsCo _) (by (repeat' (first | exact trivial | exact rfl | ((conv => whnf); first | exact trivial | exact rfl | refine ⟨?_, ?_⟩ | fail)))) ⟨trivial, eqsP_pure (pure_boolsR _), trivial, trivial, trivial, trivial, trivial, trivial, trivial, trivial, trivial, trivial, trivial, trivial⟩ (allO_set hnil (by (repeat' (first | exact trivial | exact rfl | ((conv => whnf); first | exact trivial | exact rfl | refine ⟨?_, ?_⟩ | fail))))) rfl ?_ (fcO_set hnil) ?_
 ·show [_, AObj.vec ep ((boolsR (deadL (WG []) Ls[N].1.length)).map fun r : List AV => r.map (fcS 0 _)), _, _, _, _, _, _, _, _, _, _, _] = _
  rw [fcS_pure (pure_boolsR _)]
  rfl
 refine tr_fzA 1 ep (rows := boolsR (deadL (WG []) Ls[N].1.length)) (fr' := frOf 0 100 [(0, .optr (.d 0) es 8 0 0), (3, .int .i64 (IntKind.i64.wrap (((segR 0 n).length : Int) - 1)))])
  (st' := List.replicate 13 .hole) (by exact rfl) (pure_boolsR _) (by (repeat' (first | exact trivial | exact rfl | ((conv => whnf); first | exact trivial | exact rfl | refine ⟨?_, ?_⟩ | fail)))) (by (repeat' (first | exact trivial | exact rfl | ((conv => whnf); first | exact trivial | exact rfl | refine ⟨?_, ?_⟩ | fail)))) (allO_set hnil (by (repeat' (first | exact trivial | exact rfl | ((conv => whnf); first | exact trivial | exact rfl | refine ⟨?_, ?_⟩ | fail))))) rfl rfl (fcO_set hnil) ?_
 have hdn : En.drop N = [] := List.drop_eq_nil_of_le (by omega)
 refine tr_eq (fr' := frOf 0 100 [(0, .optr (.d 0) es 8 0 0), (3, .int .i64 (((segR 0 n).length : Int) - 1))]) (h' := ⟨List.replicate 13 .hole, setD x n es e1 ε Ls t (RDs En Ls N)⟩) (by rw [wrapI (by omega) (by omega)]) ?_ (tr_done ?_)
 ·refine congrArg₂' Heap.mk rfl ?_
  show (setD x n es e1 ε Ls t fun _ => (.nils, .nils)).set (2 * N + 3) (layV ε N Ls[N] (.lslc 2 (rowsCo (restL (WG []) Ls[N].1.length)) 0 Ls[N].1.length false) (.lslc 1 (boolsR (deadL (WG []) Ls[N].1.length)) 0 Ls[N].1.length false)) = _
  rw [← costsA_eq, ← boolsA_eq, setD_set hNl, ← hdn, ← rds_step hNl]
  refine setD_congr fun j hj => ?_
  unfold upR RDs
  split
  ·rfl
  ·rw [if_neg (by omega)]
 refine loopY (okz [] [56] []) mixed (A := A36) [0, 3] []
  (S := { z : Nat // z ≤ N }) (fr := fun z => frOf 0 100 [(0, .optr (.d 0) es 8 0 0), (3, .int .i64 ((z.1 : Int) - 1))]) (h := fun z => ⟨List.replicate 13 .hole, setD x n es e1 ε Ls t (RDs En Ls z.1)⟩) (μ := fun z => z.1) ⟨N, Nat.le_refl _⟩ ?_ ?_
  [0] [] (S' := Unit) (X := fun _ => 0) (frX := fun _ => frOf 0 100 [(0, .optr (.d 0) es 8 0 0)]) (hX := fun _ => ⟨List.replicate 13 .hole, setD x n es e1 ε Ls t (RDs En Ls 0)⟩)
  [] [] (S2 := Empty) (frR := fun _ => []) (hR := fun _ => Heap.nil) ?_ (fun z => z.elim) ?_
 ·rw [← hl, show En.length = N by omega]; exact rfl
 ·exact rfl
 ·rintro ⟨z, hz⟩
  show aexR _ _ _ (frOf 0 100 [(0, .optr (.d 0) es 8 0 0), (3, .int .i64 ((z : Int) - 1))]) ⟨List.replicate 13 .hole, setD x n es e1 ε Ls t (RDs En Ls z)⟩ _
  (conv => whnf)
  refine ifB (fun g => ?_) (fun g => ?_)
  ·simp only [decide_eq_true_eq] at g
   obtain ⟨i, rfl⟩ : ∃ i, z = i + 1 := ⟨z - 1, by omega⟩
   have hiL : i < Ls.length := by omega
   have hi1 : i + 1 < Ls.length := by omega
   have hiE : i < En.length := by omega
   have S := gr_at hg hiE hiL hi1
   rw [Nat.zero_add] at S
   have hp0 : (ptrsO ε 0 Ls)[0 + ((i : Nat) : Int).toNat]? = some [.optr (.d (2 * i + 3)) (ε (2 * i + 3)) 5 0 0] := by
    have := ptrs_at (ε := ε) (L := Ls) (j := 0) (k := i) hiL
    rw [show 0 + ((i : Nat) : Int).toNat = i by omega]
    rw [Nat.zero_add] at this
    exact this
   have hp1 : (ptrsO ε 0 Ls)[0 + (IntKind.i64.wrap ((i : Int) + 1)).toNat]? = some [.optr (.d (2 * (i + 1) + 3)) (ε (2 * (i + 1) + 3)) 5 0 0] := by
    have := ptrs_at (ε := ε) (L := Ls) (j := 0) (k := i + 1) hi1
    rw [wrapI (by omega) (by omega), show 0 + ((i : Int) + 1).toNat = i + 1 by omega]
    rw [Nat.zero_add] at this
    exact this
   have hvi : (setD x n es e1 ε Ls t (RDs En Ls (i + 1)))[2 * i + 3]? = some (layV ε i Ls[i] .nils .nils) := by
    rw [setD_v hiL]
    unfold RDs
    rw [if_neg (by omega)]
   rw [show (((i + 1 : Nat) : Int) - 1) = (i : Int) by omega] at g ⊢
   (repeat' (first | ((conv => whnf); first | refine optO hvi ?_ | refine optS hp0 ?_ | refine optS hp1 ?_ | exact rfl | exact ⟨rfl, rfl⟩ | refine go1 ?_ | (intro ep) | (refine ifB (fun hb => ?_) (fun hb => ?_) <;> (try simp only [qs] at hb) <;> (try simp (disch := omega) only [wrapI] at hb) <;> (try (exfalso; omega))) | fail)))
   all_goals (conv => whnf)
   obtain ⟨T, hT⟩ : ∃ T, T = WG (En.drop i) := ⟨_, rfl⟩
   have hRn : ∀ o ∈ setD x n es e1 ε Ls t (RDs En Ls (i + 1)), noO o := setD_no fun _ _ => rds_no
   have hyk := hsz _ (List.getElem_mem hiL)
   refine wk_tr ?_
   refine tr_mask [0, 3, 4, 5, 68, 69, 70] [2] (fr' := frOf 0 100 [(0, .optr (.d 0) es 8 0 0), (3, .int .i64 (i : Int)), (4, .optr (.d (2 * i + 3)) (ε (2 * i + 3)) 5 0 0), (5, .optr (.s 2) ep 1 0 0), (68, .lslc 25 (rowsS Ls[i].1) 0 Ls[i].1.length false), (69, .int .i64 (Ls[i].1.length : Int)), (70, .int .i64 0)])
    (h' := ⟨[.hole, .hole, .vec ep [[.optr (.d (2 * (i + 1) + 3)) (ε (2 * (i + 1) + 3)) 5 0 0]], .hole, .hole, .hole, .hole, .hole, .hole, .hole, .hole, .hole, .hole], setD x n es e1 ε Ls t (RDs En Ls (i + 1))⟩) (by exact rfl) (by exact rfl) ?_
   refine tr_lift (.d (2 * i + 3)) (.s 10) (ε (2 * i + 3)) 2 0 2 (by intro e; cases e) hvi rfl rfl fun q10 => ?_
   refine tr_eq (h' := ⟨[.hole, .hole, .vec ep [[.optr (.d (2 * (i + 1) + 3)) (ε (2 * (i + 1) + 3)) 5 0 0]], .hole, .hole, .hole, .hole, .hole, .hole, .hole, .vec q10 [], .hole, .hole], setD x n es e1 ε Ls t (upR (RDs En Ls (i + 1)) i (.oslc (.s 10) q10 2 0 0 false, .nils))⟩) rfl (congrArg₂' Heap.mk rfl (setD_set (R := .oslc (.s 10) q10 2 0 0 false) (D := .nils) hiL)) ?_
   refine tr_lift (.d (2 * i + 3)) (.s 11) (ε (2 * i + 3)) 1 0 3 (by intro e; cases e) (show (setD x n es e1 ε Ls t (upR (RDs En Ls (i + 1)) i (.oslc (.s 10) q10 2 0 0 false, .nils)))[2 * i + 3]? = some (layV ε i Ls[i] (.oslc (.s 10) q10 2 0 0 false) .nils) by rw [setD_v hiL, upR_at]) rfl rfl fun q11 => ?_
   refine tr_eq (h' := ⟨[.hole, .hole, .vec ep [[.optr (.d (2 * (i + 1) + 3)) (ε (2 * (i + 1) + 3)) 5 0 0]], .hole, .hole, .hole, .hole, .hole, .hole, .hole, .vec q10 [], .vec q11 [], .hole], setD x n es e1 ε Ls t (upR (RDs En Ls (i + 1)) i (.oslc (.s 10) q10 2 0 0 false, .oslc (.s 11) q11 1 0 0 false))⟩) rfl
    (congrArg₂' Heap.mk rfl ((setD_set (R := .oslc (.s 10) q10 2 0 0 false) (D := .oslc (.s 11) q11 1 0 0 false) hiL).trans (by rw [upR_upR]))) (tr_done ?_)
   refine loopZ (okz [] [56] []) mixed (A := A36) [0, 3, 4, 5, 68, 69, 70] [2, 10, 11]
    (S := { z : Nat × Nat × Nat // z.1 ≤ Ls[i].1.length })
    (fr := fun z => frOf 0 100 [(0, .optr (.d 0) es 8 0 0), (3, .int .i64 (i : Int)), (4, .optr (.d (2 * i + 3)) (ε (2 * i + 3)) 5 0 0), (5, .optr (.s 2) ep 1 0 0), (68, .lslc 25 (rowsS Ls[i].1) 0 Ls[i].1.length false), (69, .int .i64 (Ls[i].1.length : Int)), (70, .int .i64 (z.1.1 : Int))])
    (h := fun z => ⟨[.hole, .hole, .vec ep [[.optr (.d (2 * (i + 1) + 3)) (ε (2 * (i + 1) + 3)) 5 0 0]], .hole, .hole, .hole, .hole, .hole, .hole, .hole, .vec z.1.2.1 (rowsCo ((restL T Ls[i].1.length).take z.1.1)), .vec z.1.2.2 (boolsR ((deadL T Ls[i].1.length).take z.1.1)), .hole], setD x n es e1 ε Ls t (upR (RDs En Ls (i + 1)) i (.oslc (.s 10) z.1.2.1 2 0 z.1.1 false, .oslc (.s 11) z.1.2.2 1 0 z.1.1 false))⟩)
    (μ := fun z => Ls[i].1.length - z.1.1) ⟨(0, q10, q11), Nat.zero_le _⟩ ?_ ?_
    [0, 3] [10, 11] (S' := Nat × Nat) (X := fun _ => 2) (frX := fun _ => frOf 0 100 [(0, .optr (.d 0) es 8 0 0), (3, .int .i64 (i : Int))])
    (hX := fun z => ⟨[.hole, .hole, .hole, .hole, .hole, .hole, .hole, .hole, .hole, .hole, .vec z.1 (rowsCo (restL T Ls[i].1.length)), .vec z.2 (boolsR (deadL T Ls[i].1.length)), .hole], setD x n es e1 ε Ls t (upR (RDs En Ls (i + 1)) i (.oslc (.s 10) z.1 2 0 Ls[i].1.length false, .oslc (.s 11) z.2 1 0 Ls[i].1.length false))⟩)
    [] [] (S2 := Empty) (frR := fun _ => []) (hR := fun _ => Heap.nil) ?_ (fun z => z.elim) ?_
   ·exact rfl
   ·exact rfl
   ·rintro ⟨⟨k, e10, e11⟩, hk⟩
    simp only at hk
    show aexR _ _ _ (frOf 0 100 [(0, .optr (.d 0) es 8 0 0), (3, .int .i64 (i : Int)), (4, .optr (.d (2 * i + 3)) (ε (2 * i + 3)) 5 0 0), (5, .optr (.s 2) ep 1 0 0), (68, .lslc 25 (rowsS Ls[i].1) 0 Ls[i].1.length false), (69, .int .i64 (Ls[i].1.length : Int)), (70, .int .i64 (k : Int))])
     ⟨[.hole, .hole, .vec ep [[.optr (.d (2 * (i + 1) + 3)) (ε (2 * (i + 1) + 3)) 5 0 0]], .hole, .hole, .hole, .hole, .hole, .hole, .hole, .vec e10 (rowsCo ((restL T Ls[i].1.length).take k)), .vec e11 (boolsR ((deadL T Ls[i].1.length).take k)), .hole], setD x n es e1 ε Ls t (upR (RDs En Ls (i + 1)) i (.oslc (.s 10) e10 2 0 k false, .oslc (.s 11) e11 1 0 k false))⟩ _
    (conv => whnf)
    refine ifB (fun g2 => ?_) (fun g2 => ?_)
    ·simp only [decide_eq_true_eq] at g2
     have g2 : k < Ls[i].1.length := by omega
     have hLi : LayOk Ls[i] := by
      cases i with
      | zero => exact h0 (by omega)
      | succ i =>
       have T := gr_at (j := i) hg (show i < En.length by omega) (show i < Ls.length by omega) (show i + 1 < Ls.length by omega)
       exact T.ok
     have hvk := hLi.bd _ (List.getElem_mem g2)
     have hrow : (rowsS Ls[i].1)[0 + ((k : Nat) : Int).toNat]? = some Ls[i].1[k].row := mapR (f := St.row) g2
     have hkE : k < En[i].length := by rw [S.len]; exact g2
     have hmv := S.mv k _ _ (List.getElem?_eq_getElem g2) (List.getElem?_eq_getElem hkE)
     have hTk : T k = mrg (lsOf (WG (En.drop (i + 1))) En[i][k]) := by
      rw [hT, List.drop_eq_getElem_cons hiE, WG, List.getD_eq_getElem?_getD, List.getElem?_eq_getElem hkE]
      rfl
     have hfold := settle_law (T := WG (En.drop (i + 1))) (len := Ls[i + 1].1.length) En[i][k] hmv.1
     rw [← hTk] at hfold
     have hyk1 := hsz _ (List.getElem_mem hi1)
     have hbdr : ∀ a ∈ restL (WG (En.drop (i + 1))) Ls[i + 1].1.length, (0 ≤ a.1 ∧ a.1 ≤ 10000000000) ∧ (0 ≤ a.2 ∧ a.2 ≤ 10000000000) := by
      intro a ha
      obtain ⟨j, _, rfl⟩ := List.mem_map.1 ha
      have := costF_bd (G := En.drop (i + 1)) (fun g hg' => hbd g (List.mem_of_mem_drop hg')) j
      have hdl : (En.drop (i + 1)).length ≤ 5600 := by rw [List.length_drop]; omega
      omega
     have hms : ∀ h ∈ En[i][k], h.to < Ls[i + 1].1.length ∧ (0 ≤ h.c ∧ h.c ≤ 1000000) ∧ (0 ≤ h.m ∧ h.m ≤ 1000000) := fun h hh => ⟨hmv.1 h hh, hbd _ (List.getElem_mem hiE) _ (List.getElem_mem hkE) h hh⟩
     obtain ⟨RD', hRD'⟩ : ∃ RD', RD' = upR (RDs En Ls (i + 1)) i (.oslc (.s 10) e10 2 0 k false, .oslc (.s 11) e11 1 0 k false) := ⟨_, rfl⟩
     have hRD1 : RD' (i + 1) = (costsA (restL (WG (En.drop (i + 1))) Ls[i + 1].1.length), boolsA (deadL (WG (En.drop (i + 1))) Ls[i + 1].1.length)) := by
      rw [hRD']
      unfold upR RDs
      rw [if_neg (by omega), if_pos (Nat.le_refl _), List.getD_eq_getElem?_getD, List.getElem?_eq_getElem hi1]
      rfl
     have hRP := fun (p3 p4 p5 : Nat) (a cnt : Nat) (q : AObj) (e13 e14 e16 e17 e18 e19 : Nat) =>
      settle_ev ⟨x, n, i, a, cnt, .oslc (.d 1) e1 1 0 Ls.length false, .int .i64 (t : Int), 58, [.optr (.s 2) ep 1 0 0, .optr (.s 5) p5 1 0 0, .optr (.s 4) p4 2 0 0], q, es, e13, e14, e16, e17, e18, e19⟩
       ⟨.hole, .hole, .vec ep [[.optr (.d (2 * (i + 1) + 3)) (ε (2 * (i + 1) + 3)) 5 0 0]], .vec p3 [Ls[i].1[k].row], .hole, .hole, .hole, .hole, .hole, .hole, .vec e10 (rowsCo ((restL T Ls[i].1.length).take k)), .vec e11 (boolsR ((deadL T Ls[i].1.length).take k)), .hole, .vec e1 (ptrsO ε 0 Ls) :: laysS ε RD' 0 Ls⟩
       ep p4 p5 (2 * (i + 1) + 3) (ε (2 * (i + 1) + 3)) (2 * (i + 1) + 2) (ε (2 * (i + 1) + 2)) (.lslc 25 (rowsS Ls[i + 1].1) 0 Ls[i + 1].1.length false) (.lslc 1 (ints Ls[i + 1].2) 0 Ls[i + 1].1.length false) Ls[i + 1].1
       (restL (WG (En.drop (i + 1))) Ls[i + 1].1.length) (deadL (WG (En.drop (i + 1))) Ls[i + 1].1.length) rfl rfl rfl
       (show (setD x n es e1 ε Ls t RD')[2 * (i + 1) + 3]? = some (layV ε (i + 1) Ls[i + 1] (costsA (restL (WG (En.drop (i + 1))) Ls[i + 1].1.length)) (boolsA (deadL (WG (En.drop (i + 1))) Ls[i + 1].1.length))) by rw [setD_v hi1, hRD1])
       (show (setD x n es e1 ε Ls t RD')[2 * (i + 1) + 2]? = some (layM ε (i + 1) Ls[i + 1]) from setD_m hi1)
       S.ok.nd (fun s hs => (S.ok.bd s hs).1) restL_len deadL_len hbdr En[i][k] ((0, 0), true) hms
     simp only [hfold] at hRP
     rw [← hmv.2] at hRP
     have hvkk : (setD x n es e1 ε Ls t RD')[2 * i + 3]? = some (layV ε i Ls[i] (.oslc (.s 10) e10 2 0 k false) (.oslc (.s 11) e11 1 0 k false)) := by rw [setD_v hiL, hRD', upR_at]
     have hsk : ∀ o, ((setD x n es e1 ε Ls t RD').set (2 * i + 3) o)[2 * i + 3]? = some o := fun o => List.getElem?_set_self (List.getElem?_eq_some_iff.1 hvkk).1
     have hsetk : ∀ o R D, ((setD x n es e1 ε Ls t RD').set (2 * i + 3) o).set (2 * i + 3) (layV ε i Ls[i] R D) = setD x n es e1 ε Ls t (upR (RDs En Ls (i + 1)) i (R, D)) := fun o R D => by rw [set2, setD_set hiL, hRD', upR_upR]
     rw [← hRD']
     have tk1 := restL_take (T := T) g2
     have tk2 := deadL_take (T := T) g2
     generalize hv : Ls[i].1[k] = v at hrow hvk hRP
     (repeat' (first | ((conv => whnf); first | refine optS hrow ?_ | exact rfl | exact ⟨rfl, rfl⟩ | refine go1 ?_ | (intro ep) | (refine ifB (fun hb => ?_) (fun hb => ?_) <;> (try simp only [qs] at hb) <;> (try simp (disch := omega) only [wrapI] at hb) <;> (try (exfalso; omega))) | fail)))
     all_goals (conv => whnf)
     rename_i q2 gg q3 q4
     refine ACalls.part (st1 := (BSl ⟨.hole, .hole, .vec q2 [[.optr (.d (2 * (i + 1) + 3)) (ε (2 * (i + 1) + 3)) 5 0 0]], .vec q3 [v.row], .hole, .hole, .hole, .hole, .hole, .hole, .vec e10 (rowsCo ((restL T Ls[i].1.length).take k)), .vec e11 (boolsR ((deadL T Ls[i].1.length).take k)), .hole, .vec e1 (ptrsO ε 0 Ls) :: laysS ε RD' 0 Ls⟩ q4 ep ((0, 0), true)).l) (dy := setD x n es e1 ε Ls t RD') 13 (by exact rfl) (by exact rfl) (by exact rfl)
      (moves56 x n i (.oslc (.d 1) e1 1 0 Ls.length false) (.int .i64 (t : Int)) 58 _ es v (BSl ⟨.hole, .hole, .vec q2 [[.optr (.d (2 * (i + 1) + 3)) (ε (2 * (i + 1) + 3)) 5 0 0]], .vec q3 [v.row], .hole, .hole, .hole, .hole, .hole, .hole, .vec e10 (rowsCo ((restL T Ls[i].1.length).take k)), .vec e11 (boolsR ((deadL T Ls[i].1.length).take k)), .hole, .vec e1 (ptrsO ε 0 Ls) :: laysS ε RD' 0 Ls⟩ q4 ep ((0, 0), true))
       (fun S' => S' = (BSl ⟨.hole, .hole, .vec q2 [[.optr (.d (2 * (i + 1) + 3)) (ε (2 * (i + 1) + 3)) 5 0 0]], .vec q3 [v.row], .hole, .hole, .hole, .hole, .hole, .hole, .vec e10 (rowsCo ((restL T Ls[i].1.length).take k)), .vec e11 (boolsR ((deadL T Ls[i].1.length).take k)), .hole, .vec e1 (ptrsO ε 0 Ls) :: laysS ε RD' 0 Ls⟩ q4 ep (costF (T k), (T k).isEmpty))) X hN (by omega) (.inr (.inl rfl)) hvk.2 (hRP q3 q4 ep)) ?_
     rintro r h1 ho
     obtain ⟨S', rfl, hst, hd⟩ := ou_ex ho
     rw [padTo_of hst rfl, hd]
     refine (forceV_eq r _).mpr ?_
     have hvk2 : (AObj.vec es [srR x n (.oslc (.d 1) e1 1 0 Ls.length false) (.int .i64 (t : Int))] :: (.vec e1 (ptrsO ε 0 Ls) :: laysS ε RD' 0 Ls))[2 * i + 3]? = some (layV ε i Ls[i] (.oslc (.s 10) e10 2 0 k false) (.oslc (.s 11) e11 1 0 k false)) := hvkk
     have hlr : (rowsCo ((restL T Ls[i].1.length).take k)).length = k := by simp [rowsCo, restL_len]; omega
     have hlb : (boolsR ((deadL T Ls[i].1.length).take k)).length = k := by simp [boolsR, deadL_len]; omega
     have u1 : List.take k (List.drop 0 (rowsCo ((restL T Ls[i].1.length).take k))) = rowsCo ((restL T Ls[i].1.length).take k) := by rw [List.drop_zero, List.take_of_length_le (by omega)]
     have u2 : List.take k (List.drop 0 (boolsR ((deadL T Ls[i].1.length).take k))) = boolsR ((deadL T Ls[i].1.length).take k) := by rw [List.drop_zero, List.take_of_length_le (by omega)]
     generalize hcT : costF (T k) = cT at tk1
     obtain ⟨cT1, cT2⟩ := cT
     generalize (T k).isEmpty = dT at tk2
     unfold BSl
     (repeat' (first | ((conv => whnf); first | refine optO hvk2 ?_ | refine optO (hsk _) ?_ | exact rfl | exact ⟨rfl, rfl⟩ | refine go1 ?_ | (intro ep) | (refine ifB (fun hb => ?_) (fun hb => ?_) <;> (try simp only [qs] at hb) <;> (try simp (disch := omega) only [wrapI] at hb) <;> (try (exfalso; omega))) | fail)))
     all_goals (conv => whnf)
     rename_i p5 p6 p10 p8
     have r1 : rowsCo ((restL T Ls[i].1.length).take (k + 1)) = List.take k (List.drop 0 (rowsCo ((restL T Ls[i].1.length).take k))) ++ [[.int .i64 cT1, .int .i64 cT2]] := by rw [tk1, u1]; simp [rowsCo, costR]
     have r2 : boolsR ((deadL T Ls[i].1.length).take (k + 1)) = List.take k (List.drop 0 (boolsR ((deadL T Ls[i].1.length).take k))) ++ [[.bool dT]] := by rw [tk2, u2]; simp [boolsR]
     refine back_of ⟨(k + 1, p10, ep), g2⟩ ⟨by (first | exact rfl | (simp (disch := omega) only [wrapI]; exact rfl)), ?_, by simp only; omega⟩
     simp only [r1, r2]
     refine congrArg₂' Heap.mk (by exact rfl) ?_
     exact hsetk _ (.oslc (.s 10) p10 2 0 (k + 1) false) (.oslc (.s 11) ep 1 0 (k + 1) false)
    ·simp only [decide_eq_false_iff_not] at g2
     have hke : k = Ls[i].1.length := by omega
     subst hke
     rw [List.take_of_length_le (by rw [restL_len]; exact Nat.le_refl _), List.take_of_length_le (by rw [deadL_len]; exact Nat.le_refl _)]
     (repeat' (first | ((conv => whnf); first | exact rfl | exact ⟨rfl, rfl⟩ | refine go1 ?_ | (intro ep) | fail)))
     all_goals (conv => whnf)
     exact back_of (e10, e11) ⟨rfl, rfl, rfl⟩
   ·rintro ⟨e10, e11⟩
    show TR (frOf 0 100 [(0, .optr (.d 0) es 8 0 0), (3, .int .i64 (i : Int))]) ⟨[.hole, .hole, .hole, .hole, .hole, .hole, .hole, .hole, .hole, .hole, .vec e10 (rowsCo (restL T Ls[i].1.length)), .vec e11 (boolsR (deadL T Ls[i].1.length)), .hole], setD x n es e1 ε Ls t (upR (RDs En Ls (i + 1)) i (.oslc (.s 10) e10 2 0 Ls[i].1.length false, .oslc (.s 11) e11 1 0 Ls[i].1.length false))⟩ _
    rw [← setD_set hiL]
    refine tr_fzA 10 e10 (rows := rowsCo (restL T Ls[i].1.length)) (fr' := frOf 0 100 [(0, .optr (.d 0) es 8 0 0), (3, .int .i64 (i : Int))])
     (st' := [.hole, .hole, .hole, .hole, .hole, .hole, .hole, .hole, .hole, .hole, .hole, .vec e11 (boolsR (deadL T Ls[i].1.length)), .hole]) (by exact rfl) (pure_rowsCo _) (by (repeat' (first | exact trivial | exact rfl | ((conv => whnf); first | exact trivial | exact rfl | refine ⟨?_, ?_⟩ | fail)))) ⟨trivial, trivial, trivial, trivial, trivial, trivial, trivial, trivial, trivial, trivial, trivial, eqsP_pure (pure_boolsR _), trivial, trivial⟩ (allO_set hRn (by (repeat' (first | exact trivial | exact rfl | ((conv => whnf); first | exact trivial | exact rfl | refine ⟨?_, ?_⟩ | fail))))) rfl ?_ (fcO_set hRn) ?_
    ·show [_, _, _, _, _, _, _, _, _, _, _, AObj.vec e11 ((boolsR (deadL T Ls[i].1.length)).map fun r : List AV => r.map (fcS 10 _)), _] = _
     rw [fcS_pure (pure_boolsR _)]
     rfl
    refine tr_fzA 11 e11 (rows := boolsR (deadL T Ls[i].1.length)) (fr' := frOf 0 100 [(0, .optr (.d 0) es 8 0 0), (3, .int .i64 (i : Int))])
     (st' := List.replicate 13 .hole) (by exact rfl) (pure_boolsR _) (by (repeat' (first | exact trivial | exact rfl | ((conv => whnf); first | exact trivial | exact rfl | refine ⟨?_, ?_⟩ | fail)))) (by (repeat' (first | exact trivial | exact rfl | ((conv => whnf); first | exact trivial | exact rfl | refine ⟨?_, ?_⟩ | fail)))) (allO_set hRn (by (repeat' (first | exact trivial | exact rfl | ((conv => whnf); first | exact trivial | exact rfl | refine ⟨?_, ?_⟩ | fail))))) rfl rfl (fcO_set hRn) ?_
    refine tr_eq (fr' := frOf 0 100 [(0, .optr (.d 0) es 8 0 0), (3, .int .i64 (i : Int))]) (h' := ⟨List.replicate 13 .hole, setD x n es e1 ε Ls t (RDs En Ls i)⟩) rfl ?_ (tr_done ?_)
    ·refine congrArg₂' Heap.mk rfl ?_
     show (setD x n es e1 ε Ls t (RDs En Ls (i + 1))).set (2 * i + 3) (layV ε i Ls[i] (.lslc 2 (rowsCo (restL T Ls[i].1.length)) 0 Ls[i].1.length false) (.lslc 1 (boolsR (deadL T Ls[i].1.length)) 0 Ls[i].1.length false)) = _
     rw [← costsA_eq, ← boolsA_eq, setD_set hiL, hT, rds_step hiL]
    (repeat' (first | ((conv => whnf); first | exact rfl | exact ⟨rfl, rfl⟩ | refine go1 ?_ | (intro ep) | (refine ifB (fun hb => ?_) (fun hb => ?_) <;> (try simp only [qs] at hb) <;> (try simp (disch := omega) only [wrapI] at hb) <;> (try (exfalso; omega))) | fail)))
    all_goals (conv => whnf)
    exact back_of ⟨i, by omega⟩ ⟨by (first | exact rfl | (simp (disch := omega) only [wrapI]; exact rfl)), rfl, by simp only; omega⟩
  ·simp only [decide_eq_false_iff_not] at g
   obtain rfl : z = 0 := by omega
   (repeat' (first | ((conv => whnf); first | exact rfl | exact ⟨rfl, rfl⟩ | refine go1 ?_ | (intro ep) | fail)))
   all_goals (conv => whnf)
   exact back_of () ⟨rfl, rfl, rfl⟩
 ·rintro ⟨⟩
  (repeat' (first | ((conv => whnf); first | exact rfl | exact ⟨rfl, rfl⟩ | refine go1 ?_ | (intro ep) | fail)))
  all_goals (conv => whnf)
  exact wq_of ⟨rfl, rfl⟩
end Go.Ab.V
