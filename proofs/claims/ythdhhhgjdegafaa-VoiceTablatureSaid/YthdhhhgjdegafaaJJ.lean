/-
  What is proved here serves the law's text: each part says its own claim and its conditions. No condition is left open.
-/
import Derived.Test.YthdhhhgjdegafaaJH
import Derived.Test.YthdhhhgjdegafaaJI
set_option linter.unusedSimpArgs false
set_option linter.unusedVariables false

namespace Go.Ab.V
open Go.Proofs
theorem mvE_ks {x : Lm} {n : List Nt} (hN : chkN n = 0) {i : Nat} {v : St} : ∀ m ∈ mvE x n i v, 0 < m.ks.length ∧ m.ks.length ≤ 100000 := by
 intro m hm
 unfold mvE at hm
 cases hq : (segR 0 n)[i]? with
 | none => rw [hq] at hm; simp at hm
 | some q =>
  rw [hq] at hm
  obtain ⟨sg, ha⟩ := seg_at hq (ntsOk_of hN).len
  simp only [mvR] at hm
  obtain ⟨a, h1, h2⟩ := List.mem_flatMap.1 hm
  have hl := (ntsOk_of hN).len
  have hle := sg.le
  have hps := sg.pos
  have key := dfs_inv (stp x) (vcs x) (fun r s l => l.length + r.length = q.2) (fun y r s l u s' h _ hs => by
   simp only [List.length_append, List.length_cons, List.length_nil] at h ⊢
   omega) _ (v, 0) [] (by simp only [List.length_nil, List.length_take, List.length_drop]; omega) a h1
  unfold fin at h2
  split at h2
  ·simp at h2
  ·rw [List.mem_singleton] at h2
   subst h2
   simp only [List.length_nil] at key ⊢
   omega
theorem pure_noSt {a : AV} (h : a.pure1 = true) : noSt a = true := by
 cases a <;> first | rfl | simp [AV.pure1] at h
theorem noO_pure {e : Nat} {rows : List (List AV)} (h : pureRows rows) : noO (.vec e rows) := noO_vec fun r hr a ha => pure_noSt (h r hr a ha)
theorem nodO_no {L : Nat} {d : Nd} (h : d.Ok) : ∀ o ∈ nodO L d, noO o := by
 intro o ho
 simp only [nodO, List.mem_cons, List.not_mem_nil, or_false] at ho
 rcases ho with rfl | rfl | rfl | rfl
 ·exact noO_vec fun r hr => by rw [List.mem_singleton] at hr; subst hr; exact row_noS _ rfl
 ·exact noO_pure (pure_rowsMv _)
 ·exact noO_pure (pure_rowsW _)
 ·exact noO_pure h.pure
theorem nodesO_no {B : Nat} : ∀ {N : List NK} {j : Nat}, (∀ x ∈ N, x.d.Ok) → ∀ o ∈ nodesO B j N, noO o
 | [], j, _, o, h => by simp [nodesO] at h
 | x :: r, j, hk, o, h => by
  simp only [nodesO, List.mem_append] at h
  rcases h with h | h
  ·exact nodO_no (hk x (List.mem_cons_self ..)) o h
  ·exact nodesO_no (fun y hy => hk y (List.mem_cons_of_mem _ hy)) o h
theorem noO_mapN {e B : Nat} {N : List NK} {j : Nat} : noO (.map e (mapN B j N)) := by
 induction N generalizing j with
 | nil => intro a ha; simp [mapN, celO] at ha
 | cons x r ih =>
  intro a ha
  simp only [mapN, celO, List.flatMap_cons, List.mem_append] at ha
  rcases ha with ha | ha
  ·simp only [List.mem_cons, List.not_mem_nil, or_false] at ha
   rcases ha with rfl | rfl <;> rfl
  ·exact ih a ha
theorem lis_no {D0 : List AObj} {es em el : Nat} {N : List NK} (h0 : ∀ o ∈ D0, noO o) (hN : ∀ x ∈ N, x.d.Ok) : ∀ o ∈ lisD D0 es em el N, noO o := by
 intro o ho
 unfold lisD at ho
 rw [List.mem_append, List.mem_cons, List.mem_cons] at ho
 rcases ho with ho | rfl | rfl | ho
 ·exact h0 o ho
 ·exact noO_mapN
 ·exact noO_vec fun r hr => by rw [List.mem_singleton] at hr; subst hr; exact row_noS _ rfl
 ·exact nodesO_no hN o ho
structure LInv (En : Steps) (lo : Nat) (N : List NK) : Prop where
 u : KeyU N
 nd : ∀ x ∈ N, x.i < En.length ∧ x.k < (En.getD x.i []).length ∧ x.d.Ok ∧ (lo ≤ x.i → NdR (WG (En.drop (x.i + 1))) ((En.getD x.i []).getD x.k []) x.d)
theorem ndi_r {T : Nat → List Wy} {ms : List RMv} {d : Nd} (h : NdI T ms d) (h1 : d.fd = []) (h2 : d.due = false) : NdR T ms d := by
 refine ⟨h.ok, h.mv, by rw [h1]; rfl, by rw [h2, h.len]; simp, .inl ⟨h2, ?_⟩⟩
 rw [h1]
 exact h.op
theorem linv_more {En : Steps} {lo : Nat} {N : List NK} (h : LInv En lo N) (x : NK) (hno : ∀ (y : NK), y ∈ N → ¬ (y.i = x.i ∧ y.k = x.k)) (hx : x.i < En.length ∧ x.k < (En.getD x.i []).length ∧ x.d.Ok ∧ (lo ≤ x.i → NdR (WG (En.drop (x.i + 1))) ((En.getD x.i []).getD x.k []) x.d)) : LInv En lo (N ++ [x]) := by
 have last : ∀ (b : Nat) (z : NK), (N ++ [x])[b]? = some z → (b < N.length ∧ N[b]? = some z) ∨ (b = N.length ∧ z = x) := fun b z hb => by
  by_cases c : b < N.length
  ·rw [List.getElem?_append_left c] at hb; exact .inl ⟨c, hb⟩
  ·right
   have hl := (List.getElem?_eq_some_iff.1 hb).1
   simp only [List.length_append, List.length_singleton] at hl
   have e : b = N.length := by omega
   subst e
   simp at hb
   exact ⟨rfl, hb.symm⟩
 refine ⟨fun a b y z ha hb e1 e2 => ?_, fun y hy => ?_⟩
 ·rcases last a y ha with ⟨_, h1⟩ | ⟨ea, rfl⟩
  ·rcases last b z hb with ⟨_, h2⟩ | ⟨eb, rfl⟩
   ·exact h.u a b y z h1 h2 e1 e2
   ·exact (hno y (List.mem_of_getElem? h1) ⟨e1, e2⟩).elim
  ·rcases last b z hb with ⟨_, h2⟩ | ⟨eb, rfl⟩
   ·exact (hno z (List.mem_of_getElem? h2) ⟨e1.symm, e2.symm⟩).elim
   ·omega
 ·rcases List.mem_append.1 hy with hy | hy
  ·exact h.nd y hy
  ·rw [List.mem_singleton.1 hy]; exact hx
def A62 : Ann := fun r => match r with
 | 0 => { slots := [(0, 0)] }
 | 1 => { slots := [(6, 1)] }
 | 4 => { slots := [(2, 2)] }
 | 6 => { slots := [(12, 3)] }
 | _ => {}
set_option maxHeartbeats 16000000 in
set_option maxRecDepth 100000 in
theorem node62 (x : Lm) (n : List Nt) (X : LmOk x) (hN : chkN n = 0) (es e1 : Nat) (ε : Nat → Nat) (Ls : List Lay) (En : Steps) (t : Nat) (hg : GR x n 0 Ls En) (hl : En.length = (segR 0 n).length) (h0 : ∀ (h : 0 < Ls.length), LayOk Ls[0]) (hsz : ∀ y ∈ Ls, y.1.length ≤ 100000000)
  (D0 : List AObj) (hD0 : D0 = setD x n es e1 ε Ls t (RDs En Ls 0)) (em el : Nat) (N : List NK) (lo : Nat) (hI : LInv En lo N) (i k : Nat) (hi : i < En.length) (hk : k < (En.getD i []).length) :
  ACalls C.P 62 [.optr (.d (D0.length + 1)) el 2 0 0, .agg (keyR i k)] ⟨[], lisD D0 es em el N⟩ (Wq fun r h' => ∃ N' a d, (N' = N ∨ N' = N ++ [⟨i, k, d⟩]) ∧ LInv En lo N' ∧ N'[a]? = some ⟨i, k, d⟩ ∧ r = .optr (.d (D0.length + 2 + 4 * a)) d.e 5 0 0 ∧ h'.dy = lisD D0 es em el N') := by
 have hll := gr_len hg
 have hlen := (ntsOk_of hN).len
 have hsl := segR_lenle n
 have hbd := gr_bd X hN hg h0
 have hiL : i < Ls.length := by omega
 have hi1 : i + 1 < Ls.length := by omega
 have S := gr_at hg hi hiL hi1
 rw [Nat.zero_add] at S
 have hgi : En.getD i [] = En[i] := by rw [List.getD_eq_getElem?_getD, List.getElem?_eq_getElem hi]; rfl
 rw [hgi] at hk
 have hk1 : k < Ls[i].1.length := by rw [← S.len]; exact hk
 have hbK : KeyBd N := fun (y : NK) hy => by
  obtain ⟨a1, a2, _⟩ := hI.nd y hy
  have S2 := gr_at hg a1 (by omega) (by omega)
  rw [List.getD_eq_getElem?_getD, List.getElem?_eq_getElem a1] at a2
  have a3 := hsz _ (List.getElem_mem (show y.i < Ls.length by omega))
  have a4 := S2.len
  simp only [Option.getD_some] at a2
  omega
 have hik : i ≤ 1000000000 ∧ k ≤ 1000000000 := by
  have := hsz _ (List.getElem_mem hiL)
  omega
 have hel := lis_el (D0 := D0) (es := es) (em := em) (el := el) (N := N)
 have hmp := lis_map (D0 := D0) (es := es) (em := em) (el := el) (N := N)
 by_cases cN : ∃ (a : Nat) (y : NK), N[a]? = some y ∧ y.i = i ∧ y.k = k
 ·obtain ⟨a, y, ha, rfl, rfl⟩ := cN
  have hf := fun {K : Option (Nat × AV) → Prop} (hK : K (some (a, .optr (.d (D0.length + 2 + 4 * a)) y.d.e 5 0 0))) => findK1 (B := D0.length) (K := K) hI.u ha hK
  refine fn_of (okz [] [56] []) mixed (A := A62) 13 Try.func62 rfl ?_
  (repeat' (first | ((conv => whnf); first | refine optO hel ?_ | refine optM hmp ?_ | refine ⟨⟨rfl, keyK hik _, keysN hbK⟩, hf ?_⟩ | exact rfl | exact ⟨rfl, rfl⟩ | refine go1 ?_ | (intro ep) | (refine ifB (fun hb => ?_) (fun hb => ?_) <;> (try simp only [qs] at hb) <;> (try simp (disch := omega) only [wrapI] at hb) <;> (try (exfalso; omega))) | fail)))
  all_goals (conv => whnf)
  all_goals exact wq_of ⟨N, a, y.d, .inl rfl, hI, ha, rfl, rfl⟩
 ·have hno : ∀ (y : NK), y ∈ N → ¬ (y.i = i ∧ y.k = k) := fun y hy h => by
   obtain ⟨a, ha⟩ := List.mem_iff_getElem?.1 hy
   exact cN ⟨a, y, ha, h⟩
  have hf := fun {K : Option (Nat × AV) → Prop} (hK : K none) => findK0 (B := D0.length) (K := K) hno hK
  have hDl : D0.length = 2 * Ls.length + 2 := by rw [hD0]; unfold setD; simp only [List.length_cons, laysS_len]
  have hX : ∀ (o : AObj) (j : Nat), j < D0.length → ((lisD D0 es em el N).set D0.length o)[j]? = D0[j]? := fun o j hj => by rw [List.getElem?_set_ne (by omega), lis_base hj]
  have hS0 : ∀ o, ((lisD D0 es em el N).set D0.length o)[0]? = some (.vec es [srR x n (.oslc (.d 1) e1 1 0 Ls.length false) (.int .i64 (t : Int))]) := fun o => by rw [hX o 0 (by omega), hD0]; rfl
  have hS1 : ∀ o, ((lisD D0 es em el N).set D0.length o)[1]? = some (.vec e1 (ptrsO ε 0 Ls)) := fun o => by rw [hX o 1 (by omega), hD0]; rfl
  have hSi : ∀ o, ((lisD D0 es em el N).set D0.length o)[2 * i + 3]? = some (layV ε i Ls[i] (RDs En Ls 0 i).1 (RDs En Ls 0 i).2) := fun o => by rw [hX o _ (by omega), hD0, setD_v hiL]
  have hel2 : ∀ o, ((lisD D0 es em el N).set D0.length o)[D0.length + 1]? = some (.vec el [[.optr (.d 0) es 8 0 0, .mp (.d D0.length) em]]) := fun o => by rw [List.getElem?_set_ne (by omega)]; exact hel
  have hp0 : (ptrsO ε 0 Ls)[0 + ((i : Nat) : Int).toNat]? = some [.optr (.d (2 * i + 3)) (ε (2 * i + 3)) 5 0 0] := by
   have := ptrs_at (ε := ε) (L := Ls) (j := 0) (k := i) hiL
   rw [show 0 + ((i : Nat) : Int).toNat = i by omega]
   rw [Nat.zero_add] at this
   exact this
  have hp1 : (ptrsO ε 0 Ls)[0 + (IntKind.i64.wrap ((i : Int) + 1)).toNat]? = some [.optr (.d (2 * (i + 1) + 3)) (ε (2 * (i + 1) + 3)) 5 0 0] := by
   have := ptrs_at (ε := ε) (L := Ls) (j := 0) (k := i + 1) hi1
   rw [wrapI (by omega) (by omega), show 0 + ((i : Int) + 1).toNat = i + 1 by omega]
   rw [Nat.zero_add] at this
   exact this
  have hrow : (rowsS Ls[i].1)[0 + ((k : Nat) : Int).toNat]? = some Ls[i].1[k].row := mapR (f := St.row) hk1
  refine fn_of (okz [] [56] []) mixed (A := A62) 13 Try.func62 rfl ?_
  (repeat' (first | ((conv => whnf); first | refine optO hel ?_ | refine optM hmp ?_ | refine optO (hel2 _) ?_ | refine optO (hS0 _) ?_ | refine optO (hS1 _) ?_ | refine optO (hSi _) ?_ | refine optS hp0 ?_ | refine optS hp1 ?_ | refine optS hrow ?_ | refine ⟨⟨rfl, keyK hik _, keysN hbK⟩, hf ?_⟩ | exact rfl | exact ⟨rfl, rfl⟩ | refine go1 ?_ | (intro ep) | (refine ifB (fun hb => ?_) (fun hb => ?_) <;> (try simp only [qs] at hb) <;> (try simp (disch := omega) only [wrapI] at hb) <;> (try (exfalso; omega))) | fail)))
  all_goals (conv => whnf)
  rename_i q0 q1 q2
  obtain ⟨L, hL⟩ : ∃ L, L = D0.length + 2 + 4 * N.length := ⟨_, rfl⟩
  obtain ⟨D1, hD1⟩ : ∃ D1, D1 = AObj.vec e1 (ptrsO ε 0 Ls) :: laysS ε (RDs En Ls 0) 0 Ls := ⟨_, rfl⟩
  have hcat : D0 = .vec es [srR x n (.oslc (.d 1) e1 1 0 Ls.length false) (.int .i64 (t : Int))] :: D1 := by rw [hD0, hD1]; rfl
  have hLno : ∀ o ∈ lisD D0 es em el N, noO o := lis_no (by rw [hD0]; exact setD_no fun _ _ => rds_no) fun y hy => (hI.nd y hy).2.2.1
  obtain ⟨YY, hYY⟩ : ∃ YY : Nat → List AObj, YY = fun g => .map em (mapN D0.length 0 N ++ [(.agg (keyR i k), .optr (.d L) g 5 0 0)]) :: .vec el [[.optr (.d 0) es 8 0 0, .mp (.d D0.length) em]] :: nodesO D0.length 0 N := ⟨_, rfl⟩
  have hYl : ∀ g, (D0 ++ YY g).length = L := fun g => by
   rw [hYY, hL, List.length_append, List.length_cons, List.length_cons, nodesO_len]
   omega
  refine ACalls.tr ?_
  refine tr_eq (fr' := [.optr (.d 0) es 8 0 0, .int .i64 (i : Int), .agg Ls[i].1[k].row, .fn (.func 84) [] [.optr (.s 3) ep 1 0 0, .optr (.s 1) q1 1 0 0]])
   (h' := ⟨[.vec q0 [keyR i k], .vec q1 [[.optr (.s 2) q2 5 0 0]], .vec q2 [[.nils, .nils, .nils, .fn (.func 83) [] [], .bool false]], .vec ep [[.optr (.d (2 * (i + 1) + 3)) (ε (2 * (i + 1) + 3)) 5 0 0]], .hole, .hole, .hole, .hole, .hole, .hole, .hole, .hole, .hole], (lisD D0 es em el N).set D0.length (.map em (mapN D0.length 0 N ++ [(.agg (keyR i k), .optr (.s 2) q2 5 0 0)]))⟩) rfl rfl ?_
  refine tr_mvGA 2 q2 (by exact rfl) (by exact rfl) (by (repeat' (first | exact trivial | exact rfl | ((conv => whnf); first | exact trivial | exact rfl | refine ⟨?_, ?_⟩ | fail)))) (by (repeat' (first | exact trivial | exact rfl | ((conv => whnf); first | exact trivial | exact rfl | refine ⟨?_, ?_⟩ | fail)))) (allG_set hLno (eqsG_mapsnoc noO_mapN rfl (by exact rfl))) (by (repeat' (first | exact trivial | exact rfl | ((conv => whnf); first | exact trivial | exact rfl | refine ⟨?_, ?_⟩ | fail)))) fun g => ?_
  rw [List.map_append, mapc_set hLno, mapc_mapsnoc noO_mapN rfl, List.length_set, lis_len, ← hL]
  refine tr_hole (tr_hole (tr_hole ?_))
  refine tr_eq (fr' := [.optr (.d 0) es 8 0 0, .int .i64 (i : Int), .agg Ls[i].1[k].row, .fn (.func 84) [] [.optr (.s 3) ep 1 0 0, .optr (.s 1) q1 1 0 0]])
   (h' := ⟨[.vec q0 [keyR i k], .vec q1 [[.optr (.d L) g 5 0 0]], .hole, .vec ep [[.optr (.d (2 * (i + 1) + 3)) (ε (2 * (i + 1) + 3)) 5 0 0]], .hole, .hole, .hole, .hole, .hole, .hole, .hole, .hole, .hole], (D0 ++ YY g) ++ [.vec g [[.nils, .nils, .nils, .fn (.func 83) [] [], .bool false]], .hole, .hole, .hole]⟩) rfl (congrArg₂' Heap.mk rfl ?_) ?_
  ·unfold lisD
   rw [List.set_append_right _ _ (Nat.le_refl _), Nat.sub_self, hYY]
   simp only [List.set_cons_zero, List.append_assoc, List.cons_append, List.nil_append]
   rfl
  refine tr_lift (.d L) (.d (L + 1)) g 4 0 0 (by intro e; injection e; omega) (show ((D0 ++ YY g) ++ _)[L]? = _ from app_get (k := 0) (hYl g)) rfl rfl fun gM => ?_
  refine tr_eq (h' := ⟨_, (D0 ++ YY g) ++ [.vec g [[.oslc (.d (L + 1)) gM 4 0 0 false, .nils, .nils, .fn (.func 83) [] [], .bool false]], .vec gM [], .hole, .hole]⟩) rfl (congrArg₂' Heap.mk rfl (by
   show (((D0 ++ YY g) ++ _).set (L + 1) _).set (L + 0) _ = _
   rw [app_set (hYl g), app_set (hYl g)]
   rfl)) ?_
  refine tr_lift (.d L) (.d (L + 2)) g 4 0 1 (by intro e; injection e; omega) (show ((D0 ++ YY g) ++ _)[L]? = _ from app_get (k := 0) (hYl g)) rfl rfl fun gF => ?_
  refine tr_eq (h' := ⟨_, (D0 ++ YY g) ++ [.vec g [[.oslc (.d (L + 1)) gM 4 0 0 false, .oslc (.d (L + 2)) gF 4 0 0 false, .nils, .fn (.func 83) [] [], .bool false]], .vec gM [], .vec gF [], .hole]⟩) rfl (congrArg₂' Heap.mk rfl (by
   show (((D0 ++ YY g) ++ _).set (L + 2) _).set (L + 0) _ = _
   rw [app_set (hYl g), app_set (hYl g)]
   rfl)) ?_
  refine tr_lift (.d L) (.d (L + 3)) g 4 0 2 (by intro e; injection e; omega) (show ((D0 ++ YY g) ++ _)[L]? = _ from app_get (k := 0) (hYl g)) rfl rfl fun gO => ?_
  refine tr_eq (h' := ⟨[.vec q0 [keyR i k], .vec q1 [[.optr (.d L) g 5 0 0]], .hole, .vec ep [[.optr (.d (2 * (i + 1) + 3)) (ε (2 * (i + 1) + 3)) 5 0 0]], .hole, .hole, .hole, .hole, .hole, .hole, .hole, .hole, .hole], (D0 ++ YY g) ++ nodO L ⟨[], [], [], false, g, gM, gF, gO, 0, []⟩⟩) rfl (congrArg₂' Heap.mk rfl (by
   show (((D0 ++ YY g) ++ _).set (L + 3) _).set (L + 0) _ = _
   rw [app_set (hYl g), app_set (hYl g)]
   rfl)) (tr_done ?_)
  obtain ⟨T, hT⟩ : ∃ T, T = WG (En.drop (i + 1)) := ⟨_, rfl⟩
  have hLi : LayOk Ls[i] := by
   cases i with
   | zero => exact h0 (by omega)
   | succ i =>
    have T := gr_at (j := i) hg (show i < En.length by omega) (show i < Ls.length by omega) (show i + 1 < Ls.length by omega)
    exact T.ok
  have hvk := hLi.bd _ (List.getElem_mem hk1)
  have hmv := S.mv k _ _ (List.getElem?_eq_getElem hk1) (List.getElem?_eq_getElem hk)
  have hbdr : ∀ a ∈ restL T Ls[i + 1].1.length, (0 ≤ a.1 ∧ a.1 ≤ 10000000000) ∧ (0 ≤ a.2 ∧ a.2 ≤ 10000000000) := by
   intro a ha
   obtain ⟨j, _, rfl⟩ := List.mem_map.1 ha
   have := costF_bd (G := En.drop (i + 1)) (fun g hg' => hbd g (List.mem_of_mem_drop hg')) j
   have hdl : (En.drop (i + 1)).length ≤ 5600 := by rw [List.length_drop]; omega
   rw [hT]
   omega
  have hms : ∀ h ∈ En[i][k], h.to < Ls[i + 1].1.length ∧ (0 ≤ h.c ∧ h.c ≤ 1000000) ∧ (0 ≤ h.m ∧ h.m ≤ 1000000) ∧ 0 < h.ks.length ∧ h.ks.length ≤ 100000 := fun h hh => by
   have b1 := hbd _ (List.getElem_mem hi) _ (List.getElem_mem hk) h hh
   have b2 := mvE_ks (x := x) (n := n) hN (i := i) (v := Ls[i].1[k]) (toMv Ls[i + 1].1 h) (by rw [hmv.2]; exact List.mem_map.2 ⟨h, hh, rfl⟩)
   exact ⟨hmv.1 h hh, b1.1, b1.2, b2.1, b2.2⟩
  have hlenM : En[i][k].length ≤ 1000000 := by
   have := mvE_len X hN i Ls[i].1[k]
   rw [hmv.2, List.length_map] at this
   omega
  have hDw : ∀ j, j < D0.length → (AObj.vec es [srR x n (.oslc (.d 1) e1 1 0 Ls.length false) (.int .i64 (t : Int))] :: (D1 ++ YY g))[j]? = D0[j]? := fun j hj => by
   rw [← List.cons_append, ← hcat, List.getElem?_append_left hj]
  have hRP := fun (a cnt : Nat) (q : AObj) (e13 e14 e16 e17 e18 e19 : Nat) =>
   node_ev ⟨x, n, i, a, cnt, .oslc (.d 1) e1 1 0 Ls.length false, .int .i64 (t : Int), 84, [.optr (.s 3) ep 1 0 0, .optr (.s 1) q1 1 0 0], q, es, e13, e14, e16, e17, e18, e19⟩
    ⟨.vec q0 [keyR i k], .vec q1 [[.optr (.d L) g 5 0 0]], .hole, .vec ep [[.optr (.d (2 * (i + 1) + 3)) (ε (2 * (i + 1) + 3)) 5 0 0]], .hole, .hole, .hole, .hole, .hole, .hole, .hole, .hole, .hole, []⟩ (D1 ++ YY g) L (by have := hYl g; rw [hcat] at this; simpa using this) g q1 ep (2 * (i + 1) + 3) (ε (2 * (i + 1) + 3)) (2 * (i + 1) + 2) (ε (2 * (i + 1) + 2))
    (.lslc 25 (rowsS Ls[i + 1].1) 0 Ls[i + 1].1.length false) (.lslc 1 (ints Ls[i + 1].2) 0 Ls[i + 1].1.length false) Ls[i + 1].1 T rfl rfl rfl rfl (by omega) (by omega)
    ((hDw _ (by omega)).trans (by
     rw [hD0, setD_v hi1]
     unfold RDs
     rw [if_pos (Nat.zero_le _), List.getD_eq_getElem?_getD, List.getElem?_eq_getElem hi1, hT]
     rfl))
    ((hDw _ (by omega)).trans (by rw [hD0, setD_m hi1]; rfl))
    S.ok.nd (fun s hs => (S.ok.bd s hs).1) hbdr En[i][k] [] ⟨[], [], [], false, g, gM, gF, gO, 0, []⟩ hms
    ⟨⟨rfl, by intro r hr; simp at hr, Nat.zero_le _⟩, rfl, ⟨List.Pairwise.nil, fun w => ⟨fun h => by simp at h, fun ⟨j, y, _, h, _⟩ => by have := hdA_lt h; simp [lsOf, lvOf] at this⟩⟩, rfl⟩ rfl (by simpa using hlenM)
  rw [← hmv.2] at hRP
  refine ACalls.part (st1 := (PS.l ⟨.vec q0 [keyR i k], .vec q1 [[.optr (.d L) g 5 0 0]], .hole, .vec ep [[.optr (.d (2 * (i + 1) + 3)) (ε (2 * (i + 1) + 3)) 5 0 0]], .hole, .hole, .hole, .hole, .hole, .hole, .hole, .hole, .hole, []⟩)) (dy := .vec es [srR x n (.oslc (.d 1) e1 1 0 Ls.length false) (.int .i64 (t : Int))] :: ((D1 ++ YY g) ++ nodO L ⟨[], [], [], false, g, gM, gF, gO, 0, []⟩)) 13 (by exact rfl) (by exact rfl)
   (show (D0 ++ YY g) ++ _ = _ by rw [← List.cons_append, ← List.cons_append, ← hcat])
   (moves56 x n i (.oslc (.d 1) e1 1 0 Ls.length false) (.int .i64 (t : Int)) 84 _ es Ls[i].1[k] ⟨.vec q0 [keyR i k], .vec q1 [[.optr (.d L) g 5 0 0]], .hole, .vec ep [[.optr (.d (2 * (i + 1) + 3)) (ε (2 * (i + 1) + 3)) 5 0 0]], .hole, .hole, .hole, .hole, .hole, .hole, .hole, .hole, .hole, (D1 ++ YY g) ++ nodO L ⟨[], [], [], false, g, gM, gF, gO, 0, []⟩⟩ _ X hN (by omega) (.inr (.inr rfl)) hvk.2 hRP) ?_
  rintro r h1 ho
  obtain ⟨S', ⟨d', rfl, g1, g2, g3, g4, g5⟩, hst, hd⟩ := ou_ex ho
  rw [padTo_of hst rfl, hd]
  refine (forceV_eq r _).mpr ?_
  (repeat' (first | ((conv => whnf); first | exact rfl | exact ⟨rfl, rfl⟩ | refine go1 ?_ | (intro ep) | (refine ifB (fun hb => ?_) (fun hb => ?_) <;> (try simp only [qs] at hb) <;> (try simp (disch := omega) only [wrapI] at hb) <;> (try (exfalso; omega))) | fail)))
  all_goals (conv => whnf)
  refine wq_of ⟨N ++ [⟨i, k, d'⟩], N.length, d', .inr rfl, linv_more hI _ hno ⟨hi, ?_, g1.ok, fun _ => ?_⟩, by simp, by rw [g4, hL], ?_⟩
  ·simp only [hgi]; exact hk
  ·simp only [hgi]
   rw [List.getD_eq_getElem?_getD, List.getElem?_eq_getElem hk, ← hT]
   exact ndi_r g1 g2 g3
  ·show AObj.vec es [srR x n (.oslc (.d 1) e1 1 0 Ls.length false) (.int .i64 (t : Int))] :: ((D1 ++ YY g) ++ nodO L d') = _
   rw [← List.cons_append, ← List.cons_append, ← hcat, lis_more, hYY]
   simp only [g4, hL]
end Go.Ab.V

namespace Go.Ab.V
def Ext (i : Nat) (N N' : List NK) : Prop := ∀ (a : Nat) (y : NK), y.i < i → (N[a]? = some y ↔ N'[a]? = some y)
theorem Ext.refl (i : Nat) (N : List NK) : Ext i N N := fun _ _ _ => Iff.rfl
theorem Ext.trans {i : Nat} {N N' N2 : List NK} (h1 : Ext i N N') (h2 : Ext i N' N2) : Ext i N N2 := fun a y hy => (h1 a y hy).trans (h2 a y hy)
theorem Ext.less {i j : Nat} {N N' : List NK} (h : Ext j N N') (hi : i ≤ j) : Ext i N N' := fun a y hy => h a y (by omega)
theorem Ext.snoc {i : Nat} (N : List NK) (x : NK) (hx : i ≤ x.i) : Ext i N (N ++ [x]) := fun a y hy => by
 by_cases c : a < N.length
 ·rw [List.getElem?_append_left c]
 ·rw [List.getElem?_append_right (by omega), List.getElem?_eq_none (l := N) (by omega)]
  constructor
  ·intro h; cases h
  ·intro h
   have := (List.mem_singleton.1 (List.mem_of_getElem? h))
   subst this
   omega
theorem set_at {N : List NK} {a : Nat} {y y' : NK} (ha : N[a]? = some y) : (N.set a y')[a]? = some y' := List.getElem?_set_self (List.getElem?_eq_some_iff.1 ha).1
theorem Ext.set {i : Nat} {N N1 : List NK} {a : Nat} {y y' : NK} (h : Ext i N N1) (ha : N1[a]? = some y) (hy : i ≤ y.i) (hy' : i ≤ y'.i) : Ext i N (N1.set a y') := fun b z hz => by
 rw [h b z hz]
 by_cases c : a = b
 ·subst c
  rw [set_at ha, ha]
  constructor
  ·intro e; cases e; omega
  ·intro e; cases e; omega
 ·rw [List.getElem?_set_ne c]
theorem set_key {N : List NK} {a b i k : Nat} {d d' : Nd} {y : NK} (ha : N[a]? = some ⟨i, k, d⟩) (hb : (N.set a ⟨i, k, d'⟩)[b]? = some y) : ∃ y0, N[b]? = some y0 ∧ y0.i = y.i ∧ y0.k = y.k := by
 by_cases c : a = b
 ·subst c
  rw [set_at ha] at hb
  cases hb
  exact ⟨_, ha, rfl, rfl⟩
 ·rw [List.getElem?_set_ne c] at hb
  exact ⟨y, hb, rfl, rfl⟩
theorem keyU_set {N : List NK} {a i k : Nat} {d d' : Nd} (h : KeyU N) (ha : N[a]? = some ⟨i, k, d⟩) : KeyU (N.set a ⟨i, k, d'⟩) := fun b c y z hb hc e1 e2 => by
 obtain ⟨y0, g1, g2, g3⟩ := set_key ha hb
 obtain ⟨z0, f1, f2, f3⟩ := set_key ha hc
 exact h b c y0 z0 g1 f1 (by omega) (by omega)
theorem mem_set {N : List NK} {a : Nat} {y' z : NK} (h : z ∈ N.set a y') : z = y' ∨ ∃ b, b ≠ a ∧ N[b]? = some z := by
 obtain ⟨b, hb⟩ := List.mem_iff_getElem?.1 h
 by_cases c : a = b
 ·subst c
  have hl := (List.getElem?_eq_some_iff.1 hb).1
  rw [List.length_set] at hl
  rw [List.getElem?_set_self hl] at hb
  exact .inl (Option.some.inj hb).symm
 ·rw [List.getElem?_set_ne c] at hb
  exact .inr ⟨b, fun e => c e.symm, hb⟩
theorem linv_back {En : Steps} {i k a : Nat} {N : List NK} {d d' : Nd} (h : LInv En (i + 1) N) (ha : N[a]? = some ⟨i, k, d⟩) (hs : ∀ (b : Nat) (y : NK), N[b]? = some y → y.i = i → b ≠ a → NdR (WG (En.drop (y.i + 1))) ((En.getD y.i []).getD y.k []) y.d)
  (hd : NdR (WG (En.drop (i + 1))) ((En.getD i []).getD k []) d') : LInv En i (N.set a ⟨i, k, d'⟩) := by
 refine ⟨keyU_set h.u ha, fun y hy => ?_⟩
 have h0 := h.nd _ (List.mem_of_getElem? ha)
 rcases mem_set hy with rfl | ⟨b, hb, hb2⟩
 ·exact ⟨h0.1, h0.2.1, hd.ok, fun _ => hd⟩
 ·obtain ⟨g1, g2, g3, g4⟩ := h.nd y (List.mem_of_getElem? hb2)
  refine ⟨g1, g2, g3, fun hi => ?_⟩
  by_cases c : y.i = i
  ·exact hs b y hb2 c hb
  ·exact g4 (by omega)
theorem linv_set {En : Steps} {i k a lo : Nat} {N : List NK} {d d' : Nd} (h : LInv En lo N) (ha : N[a]? = some ⟨i, k, d⟩) (hk : d'.Ok) (hd : lo ≤ i → NdR (WG (En.drop (i + 1))) ((En.getD i []).getD k []) d') : LInv En lo (N.set a ⟨i, k, d'⟩) := by
 refine ⟨keyU_set h.u ha, fun y hy => ?_⟩
 have h0 := h.nd _ (List.mem_of_getElem? ha)
 rcases mem_set hy with rfl | ⟨b, hb, hb2⟩
 ·exact ⟨h0.1, h0.2.1, hk, hd⟩
 ·exact h.nd y (List.mem_of_getElem? hb2)
theorem linv_less {En : Steps} {lo hi : Nat} {N : List NK} (h : LInv En lo N) (hl : lo ≤ hi) : LInv En hi N := ⟨h.u, fun y hy => let ⟨a, b, c, d⟩ := h.nd y hy; ⟨a, b, c, fun g => d (by omega)⟩⟩
theorem linv_join {En : Steps} {i : Nat} {N : List NK} (h : LInv En (i + 1) N) (hs : ∀ (b : Nat) (y : NK), N[b]? = some y → y.i = i → NdR (WG (En.drop (y.i + 1))) ((En.getD y.i []).getD y.k []) y.d) : LInv En i N := by
 refine ⟨h.u, fun y hy => ?_⟩
 obtain ⟨b, hb⟩ := List.mem_iff_getElem?.1 hy
 obtain ⟨g1, g2, g3, g4⟩ := h.nd y hy
 refine ⟨g1, g2, g3, fun hi => ?_⟩
 by_cases c : y.i = i
 ·exact hs b y hb c
 ·exact g4 (by omega)
def Nd.undue (d : Nd) : Nd := { d with due := false }
def Nd.take1 (d : Nd) (r : List Wy) : Nd := { d with op := r, off := d.off + 1 }
def Nd.found1 (d : Nd) (w : Wy) (e' : Nat) : Nd := { d with fd := d.fd ++ [w], eF := e' }
def Nd.due1 (d : Nd) : Nd := { d with due := true }
theorem take_ok {d : Nd} {w : Wy} {r : List Wy} (h : d.Ok) (hw : d.op = w :: r) : (d.take1 r).Ok := by
 have h1 := h.rows
 have h2 := h.le
 rw [hw] at h1 h2
 simp only [List.length_cons] at h1 h2
 refine ⟨?_, h.pure, by simp only [Nd.take1]; omega⟩
 simp only [Nd.take1]
 have := congrArg (List.drop 1) h1
 rw [List.drop_take, List.drop_drop] at this
 simpa using this
theorem ndr_put {T : Nat → List Wy} {ms : List RMv} {d : Nd} (h : NdR T ms d) (hd : d.due = true) : ∃ (k j : Nat) (x : Co) (m : RMv), d.fd.length = k + 1 ∧ d.fd[k]? = some ⟨x.1, x.2, (j : Int), (pkP (lsOf T ms) k (fun _ => 0) j : Int)⟩ ∧ d.ms[j]? = some m ∧ m ∈ ms ∧
  pkP (lsOf T ms) k (fun _ => 0) j ≤ k ∧
  (match (T m.to)[pkP (lsOf T ms) k (fun _ => 0) j + 1]? with
   | none => NdR T ms d.undue
   | some w => ∀ e', NdR T ms (d.undue.put ⟨m.c + w.c, m.m + w.m, (j : Int), ((pkP (lsOf T ms) k (fun _ => 0) j + 1 : Nat) : Int)⟩ e')) := by
 have hlen := h.len
 rw [if_pos hd] at hlen
 rcases h.op with ⟨h1, _⟩ | ⟨_, k, j, x, hk, hb, ho⟩
 ·rw [hd] at h1; cases h1
 ·obtain ⟨hj, hx⟩ := bst_hd hb
  have hjl : j < (lvOf T ms).length := by simpa [lsOf] using hj
  obtain ⟨m, hm⟩ : ∃ m, (lvOf T ms)[j]? = some m := ⟨_, List.getElem?_eq_getElem hjl⟩
  have hmm : m ∈ ms := (List.mem_filter.1 (List.mem_of_getElem? hm)).1
  have hle := pkP_le (lsOf T ms) k (fun _ => 0) j
  rw [(pk_snoc hb).2] at ho
  have hb2 : bump (pkP (lsOf T ms) k fun _ => 0) j j = pkP (lsOf T ms) k (fun _ => 0) j + 1 := by unfold bump; rw [if_pos rfl]
  have hnx : hdA (lsOf T ms) (bump (pkP (lsOf T ms) k fun _ => 0) j) j = (T m.to)[pkP (lsOf T ms) k (fun _ => 0) j + 1]?.map fun w => (m.c + w.c, m.m + w.m) := by
   unfold hdA
   rw [hb2]
   exact lsOf_at hm
  refine ⟨k, j, x, m, hk, ndr_last h.fd hk hb, by rw [h.mv]; exact hm, hmm, by omega, ?_⟩
  cases hw : (T m.to)[pkP (lsOf T ms) k (fun _ => 0) j + 1]? with
  | none =>
   rw [hw] at hnx
   refine ⟨⟨h.ok.rows, h.ok.pure, h.ok.le⟩, h.mv, h.fd, by simp only [Nd.undue]; simp; omega, .inl ⟨rfl, ?_⟩⟩
   simp only [Nd.undue]
   rw [hk, (pk_snoc hb).2]
   exact opn_end ho hnx
  | some w =>
   rw [hw] at hnx
   intro e'
   have hp := opn_put ho hnx
   rw [hb2] at hp
   refine ⟨⟨?_, pure_rowsW _, by simp [Nd.put, Nd.undue]⟩, h.mv, h.fd, ?_, .inl ⟨rfl, ?_⟩⟩
   ·simp only [Nd.put, Nd.undue, List.drop_zero]
    rw [List.take_of_length_le (by simp)]
   ·simp only [Nd.put, Nd.undue, insA_len (befW_le _ _)]
    simp
    exact hlen
   ·simp only [Nd.put, Nd.undue]
    rw [hk, (pk_snoc hb).2]
    exact hp
theorem ndr_take {T : Nat → List Wy} {ms : List RMv} {d : Nd} (h : NdR T ms d) (hd : d.due = false) {w : Wy} {r : List Wy} (hw : d.op = w :: r) (e' : Nat) : NdR T ms ((d.take1 r).found1 w e').due1 := by
 have hlen := h.len
 rw [hw] at hlen
 simp only [List.length_cons] at hlen
 rcases h.op with ⟨_, ho⟩ | ⟨h1, _⟩
 ·rw [hw] at ho
  obtain ⟨j, x, hb, rfl, ho2⟩ := opn_cons ho
  have hto := take_ok h.ok hw
  refine ⟨⟨hto.rows, hto.pure, hto.le⟩, h.mv, ?_, ?_, .inr ⟨rfl, d.fd.length, j, x, ?_, hb, ?_⟩⟩
  ·simp only [Nd.take1, Nd.found1, Nd.due1, List.length_append, List.length_singleton]
   rw [(pk_snoc hb).1, ← h.fd]
  ·simp only [Nd.take1, Nd.found1, Nd.due1, if_true]
   omega
  ·simp [Nd.take1, Nd.found1, Nd.due1]
  ·simp only [Nd.take1, Nd.found1, Nd.due1]
   rw [(pk_snoc hb).2]
   exact ho2
 ·rw [hd] at h1; cases h1
theorem nodesO_set2 {B : Nat} : ∀ {N : List NK} {j a q : Nat} {x : NK} {o o' : AObj} {d' : Nd}, N[a]? = some x → q < 4 → ((nodO (B + 2 + 4 * (j + a)) x.d).set q o).set 0 o' = nodO (B + 2 + 4 * (j + a)) d' → ((nodesO B j N).set (4 * a + q) o).set (4 * a) o' = nodesO B j (N.set a ⟨x.i, x.k, d'⟩)
 | y :: r, j, 0, q, x, o, o', d', h, hq, hs => by
  obtain rfl := Option.some.inj h
  simp only [nodesO, Nat.mul_zero, Nat.zero_add, List.set_cons_zero] at hs ⊢
  rw [List.set_append_left _ _ (by simpa [nodO] using hq), List.set_append_left _ _ (by simp [nodO])]
  rw [show j + 0 = j from rfl] at hs
  rw [hs]
 | y :: r, j, a + 1, q, x, o, o', d', h, hq, hs => by
  simp only [nodesO, List.set_cons_succ]
  rw [List.set_append_right _ _ (by simp [nodO]; omega), List.set_append_right _ _ (by simp [nodO]; omega)]
  have := nodesO_set2 (B := B) (N := r) (j := j + 1) (a := a) (q := q) (x := x) (o := o) (o' := o') (d' := d') (by simpa using h) hq (by rw [show j + 1 + a = j + (a + 1) by omega]; exact hs)
  rw [← this]
  have e1 : 4 * (a + 1) + q - (nodO (B + 2 + 4 * j) y.d).length = 4 * a + q := by simp only [nodO, List.length_cons, List.length_nil]; omega
  have e2 : 4 * (a + 1) - (nodO (B + 2 + 4 * j) y.d).length = 4 * a := by simp only [nodO, List.length_cons, List.length_nil]; omega
  rw [e1, e2]
theorem lis_set2 {D0 : List AObj} {es em el L : Nat} {N : List NK} {a q : Nat} {x : NK} {o o' : AObj} {d' : Nd} (hL : L = D0.length + 2 + 4 * a) (h : N[a]? = some x) (hq : q < 4) (he : d'.e = x.d.e) (hs : ((nodO L x.d).set q o).set 0 o' = nodO L d') :
  ((lisD D0 es em el N).set (L + q) o).set L o' = lisD D0 es em el (N.set a ⟨x.i, x.k, d'⟩) := by
 subst hL
 unfold lisD
 rw [List.set_append_right _ _ (by omega), List.set_append_right _ _ (by omega), show D0.length + 2 + 4 * a + q - D0.length = 4 * a + q + 1 + 1 by omega, show D0.length + 2 + 4 * a - D0.length = 4 * a + 1 + 1 by omega]
 simp only [List.set_cons_succ]
 rw [nodesO_set2 (B := D0.length) (j := 0) h hq (by rw [Nat.zero_add]; exact hs), mapN_set h he]
theorem lis_set0 {D0 : List AObj} {es em el L : Nat} {N : List NK} {a : Nat} {x : NK} {o' : AObj} {d' : Nd} (hL : L = D0.length + 2 + 4 * a) (h : N[a]? = some x) (he : d'.e = x.d.e) (hs : (nodO L x.d).set 0 o' = nodO L d') :
  (lisD D0 es em el N).set L o' = lisD D0 es em el (N.set a ⟨x.i, x.k, d'⟩) := by
 subst hL
 exact lis_set (q := 0) h (by omega) he hs
theorem lis_found {D0 : List AObj} {es em el L : Nat} {N : List NK} {a i k : Nat} {d : Nd} (hL : L = D0.length + 2 + 4 * a) (h : N[a]? = some ⟨i, k, d⟩) (w : Wy) (e' : Nat) :
  ((lisD D0 es em el N).set (L + 2) (.vec e' (List.take d.fd.length (List.drop 0 (rowsW d.fd)) ++ [wyR w]))).set L (.vec d.e [nodR (.oslc (.d (L + 1)) d.eM 4 0 d.ms.length false) (.oslc (.d (L + 2)) e' 4 0 (d.fd.length + 1) false) (L + 3) d.eO d.off d.op.length true]) = lisD D0 es em el (N.set a ⟨i, k, (d.found1 w e').due1⟩) := by
 refine lis_set2 hL h (by omega) rfl ?_
 rw [List.drop_zero, List.take_of_length_le (by simp)]
 unfold nodO Nd.row Nd.found1 Nd.due1
 simp only [List.length_append, List.length_cons, List.length_nil, List.map_append, List.map_cons, List.map_nil]
 rfl
theorem lis_put {D0 : List AObj} {es em el L : Nat} {N : List NK} {a i k : Nat} {d : Nd} (hL : L = D0.length + 2 + 4 * a) (h : N[a]? = some ⟨i, k, d⟩) (w : Wy) (e' : Nat) :
  ((lisD D0 es em el N).set (L + 3) (.vec e' (rowsW (insA (befW w d.op) w d.op)))).set L (.vec d.e [nodR (.oslc (.d (L + 1)) d.eM 4 0 d.ms.length false) (.oslc (.d (L + 2)) d.eF 4 0 d.fd.length false) (L + 3) e' 0 (d.op.length + 1) d.due]) = lisD D0 es em el (N.set a ⟨i, k, d.put w e'⟩) := by
 refine lis_set2 hL h (by omega) rfl ?_
 unfold nodO Nd.row Nd.put
 simp only [insA_len (befW_le w d.op)]
 rfl
theorem lis_take {D0 : List AObj} {es em el L : Nat} {N : List NK} {a i k : Nat} {d : Nd} (hL : L = D0.length + 2 + 4 * a) (h : N[a]? = some ⟨i, k, d⟩) {w : Wy} {r : List Wy} (hw : d.op = w :: r) :
  (lisD D0 es em el N).set L (.vec d.e [nodR (.oslc (.d (L + 1)) d.eM 4 0 d.ms.length false) (.oslc (.d (L + 2)) d.eF 4 0 d.fd.length false) (L + 3) d.eO (d.off + 1) (d.op.length - 1) d.due]) = lisD D0 es em el (N.set a ⟨i, k, d.take1 r⟩) := by
 refine lis_set0 hL h rfl ?_
 rw [hw]
 rfl
theorem lis_undue {D0 : List AObj} {es em el L : Nat} {N : List NK} {a i k : Nat} {d : Nd} (hL : L = D0.length + 2 + 4 * a) (h : N[a]? = some ⟨i, k, d⟩) :
  (lisD D0 es em el N).set L (.vec d.e [nodR (.oslc (.d (L + 1)) d.eM 4 0 d.ms.length false) (.oslc (.d (L + 2)) d.eF 4 0 d.fd.length false) (L + 3) d.eO d.off d.op.length false]) = lisD D0 es em el (N.set a ⟨i, k, d.undue⟩) :=
 lis_set0 hL h rfl rfl
end Go.Ab.V

namespace Go.Ab.V
open Go.Proofs
def getV (l : List Wy) (r : Nat) : AV := match l[r]? with
 | none => .tup [.agg (wyR ⟨0, 0, 0, 0⟩), .bool false]
 | some w => .tup [.agg (wyR w), .bool true]
def A61 : Ann := fun r => match r with
 | 0 => { slots := [(0, 0), (1, 1)] }
 | 7 => { slots := [(12, 2)] }
 | 8 => { slots := [(8, 3)] }
 | 9 => { slots := [(14, 4)] }
 | 12 => { slots := [(7, 5)] }
 | 15 => { slots := [(6, 6), (7, 7)] }
 | _ => {}
structure GS where
 x : Lm
 n : List Nt
 es : Nat
 e1 : Nat
 ε : Nat → Nat
 Ls : List Lay
 En : Steps
 t : Nat
 D0 : List AObj
 em : Nat
 el : Nat
structure GS.Ok (G : GS) : Prop where
 X : LmOk G.x
 N : chkN G.n = 0
 g : GR G.x G.n 0 G.Ls G.En
 l : G.En.length = (segR 0 G.n).length
 h0 : ∀ (h : 0 < G.Ls.length), LayOk G.Ls[0]
 sz : ∀ y ∈ G.Ls, y.1.length ≤ 100000000
 D : G.D0 = setD G.x G.n G.es G.e1 G.ε G.Ls G.t (RDs G.En G.Ls 0)
abbrev GS.h (G : GS) (N : List NK) : List AObj := lisD G.D0 G.es G.em G.el N
abbrev GS.p (G : GS) : AV := .optr (.d (G.D0.length + 1)) G.el 2 0 0
def GetQ (G : GS) (i k rank : Nat) (N : List NK) : AV → Heap → Prop := fun r h' => r = getV (WG (G.En.drop i) k) rank ∧ ∃ N', LInv G.En i N' ∧ Ext i N N' ∧ h'.dy = G.h N'
theorem gs_ev {G : GS} (ok : G.Ok) (N : List NK) : (G.h N)[0]? = some (.vec G.es [srR G.x G.n (.oslc (.d 1) G.e1 1 0 G.Ls.length false) (.int .i64 (G.t : Int))]) := by
 have : 0 < G.D0.length := by rw [ok.D]; unfold setD; simp
 unfold GS.h
 rw [lis_base this, ok.D]
 rfl
theorem gs_ms {G : GS} (ok : G.Ok) {i k : Nat} (hi : i < G.En.length) (hk : k < (G.En.getD i []).length) : ((G.En.getD i []).getD k []).length ≤ 3125 ∧ ∀ m ∈ (G.En.getD i []).getD k [], ((0 ≤ m.c ∧ m.c ≤ 1000000) ∧ (0 ≤ m.m ∧ m.m ≤ 1000000)) ∧ (i + 1 < G.En.length → m.to < (G.En.getD (i + 1) []).length) := by
 have hll := gr_len ok.g
 have hiL : i < G.Ls.length := by omega
 have hi1 : i + 1 < G.Ls.length := by omega
 have S := gr_at ok.g hi hiL hi1
 have hgi : G.En.getD i [] = G.En[i] := by rw [List.getD_eq_getElem?_getD, List.getElem?_eq_getElem hi]; rfl
 rw [hgi] at hk ⊢
 have hgk : G.En[i].getD k [] = G.En[i][k] := by rw [List.getD_eq_getElem?_getD, List.getElem?_eq_getElem hk]; rfl
 rw [hgk]
 have hk1 : k < G.Ls[i].1.length := by rw [← S.len]; exact hk
 have hmv := S.mv k _ _ (List.getElem?_eq_getElem hk1) (List.getElem?_eq_getElem hk)
 refine ⟨?_, fun m hm => ⟨gr_bd ok.X ok.N ok.g ok.h0 _ (List.getElem_mem hi) _ (List.getElem_mem hk) m hm, fun h2 => ?_⟩⟩
 ·have := mvE_len ok.X ok.N (0 + i) G.Ls[i].1[k]
  rw [hmv.2, List.length_map] at this
  exact this
 ·have S2 := gr_at ok.g h2 hi1 (by omega)
  rw [List.getD_eq_getElem?_getD, List.getElem?_eq_getElem h2]
  have := hmv.1 m hm
  rw [← S2.len] at this
  exact this
theorem gs_W {G : GS} {i k : Nat} (hi : i < G.En.length) : WG (G.En.drop i) k = mrg (lsOf (WG (G.En.drop (i + 1))) ((G.En.getD i []).getD k [])) := by
 rw [List.drop_eq_getElem_cons hi, WG, List.getD_eq_getElem?_getD (l := G.En), List.getElem?_eq_getElem hi]
 rfl
set_option maxHeartbeats 16000000 in
set_option maxRecDepth 100000 in
theorem get61 (G : GS) (ok : G.Ok) : ∀ (m i : Nat), i + m = G.En.length → ∀ (N : List NK) (k rank : Nat), LInv G.En i N → (i < G.En.length → k < (G.En.getD i []).length) → rank ≤ 1000 →
  ACalls C.P 61 [G.p, .agg (keyR i k), .int .i64 (rank : Int)] ⟨[], G.h N⟩ (Wq (GetQ G i k rank N)) := by
 intro m
 induction m with
 | zero =>
  intro i hi N k rank hI hk hr
  have hev := gs_ev ok N
  have hel := lis_el (D0 := G.D0) (es := G.es) (em := G.em) (el := G.el) (N := N)
  have hil : i = (segR 0 G.n).length := by rw [← ok.l]; omega
  subst hil
  refine fn_of (okz [] [61, 62, 81, 82] []) mixed (A := A61) 8 Try.func61 rfl ?_
  (repeat' (first | ((conv => whnf); first | refine optO hev ?_ | refine optO hel ?_ | exact rfl | exact ⟨rfl, rfl⟩ | refine go1 ?_ | (intro ep) | (refine ifB (fun hb => ?_) (fun hb => ?_) <;> (try simp only [qs] at hb) <;> (try simp (disch := omega) only [wrapI] at hb) <;> (try (exfalso; omega))) | fail)))
  all_goals (conv => whnf)
  ·refine wq_of ⟨?_, N, hI, Ext.refl _ _, rfl⟩
   have e : List.drop (segR 0 G.n).length G.En = [] := List.drop_of_length_le (by rw [ok.l]; exact Nat.le_refl _)
   rw [e]
   cases rank with
   | zero => rfl
   | succ r => rfl
 | succ m ih =>
  intro i hi N k rank hI hk hr
  have hev := gs_ev ok N
  have hel := lis_el (D0 := G.D0) (es := G.es) (em := G.em) (el := G.el) (N := N)
  have hne : i ≠ (segR 0 G.n).length := by rw [← ok.l]; omega
  have hiE : i < G.En.length := by omega
  have hkE := hk hiE
  have hnd := node62 G.x G.n ok.X ok.N G.es G.e1 G.ε G.Ls G.En G.t ok.g ok.l ok.h0 ok.sz G.D0 ok.D G.em G.el N i hI i k hiE hkE
  refine fn_of (okz [] [61, 62, 81, 82] []) mixed (A := A61) 8 Try.func61 rfl ?_
  (repeat' (first | ((conv => whnf); first | refine optO hev ?_ | refine optO hel ?_ | exact rfl | exact ⟨rfl, rfl⟩ | refine go1 ?_ | (intro ep) | (refine ifB (fun hb => ?_) (fun hb => ?_) <;> (try simp only [qs] at hb) <;> (try simp (disch := omega) only [wrapI] at hb) <;> (try (exfalso; omega))) | fail)))
  all_goals (conv => whnf)
  refine ACalls.part (st1 := []) (dy := G.h N) 0 rfl rfl rfl hnd ?_
  intro r0 h1 hq
  obtain ⟨N1, a, d, hcase, hI1, ha, rfl, hdy⟩ := wq_ex hq
  have hE1 : Ext i N N1 := by
   rcases hcase with rfl | rfl
   ·exact Ext.refl _ _
   ·exact Ext.snoc _ _ (Nat.le_refl i)
  rw [hdy]
  clear hq hdy hcase
  (repeat' (first | ((conv => whnf); first | exact rfl | exact ⟨rfl, rfl⟩ | refine go1 ?_ | (intro ep) | (refine ifB (fun hb => ?_) (fun hb => ?_) <;> (try simp only [qs] at hb) <;> (try simp (disch := omega) only [wrapI] at hb) <;> (try (exfalso; omega))) | fail)))
  all_goals (conv => whnf)
  rename_i q0
  obtain ⟨e, he⟩ : ∃ e, e = d.e := ⟨_, rfl⟩
  obtain ⟨L, hL⟩ : ∃ L, L = G.D0.length + 2 + 4 * a := ⟨_, rfl⟩
  rw [← he, ← hL]
  obtain ⟨T, hT⟩ : ∃ T, T = WG (G.En.drop (i + 1)) := ⟨_, rfl⟩
  obtain ⟨ms, hms⟩ : ∃ ms, ms = (G.En.getD i []).getD k [] := ⟨_, rfl⟩
  have hW := gs_W (G := G) (k := k) hiE
  obtain ⟨hml, hmb⟩ := gs_ms ok hiE hkE
  rw [← hT, ← hms] at hW
  rw [← hms] at hml hmb
  refine loopY (okz [] [61, 62, 81, 82] []) mixed (A := A61) [0, 2, 4, 6, 8] [0, 1]
   (S := { z : List NK × Nd // LInv G.En i z.1 ∧ Ext i N z.1 ∧ z.1[a]? = some ⟨i, k, z.2⟩ ∧ z.2.e = e })
   (fr := fun z => frOf 0 126 [(0, G.p), (2, .int .i64 (rank : Int)), (4, .optr (.s 0) q0 2 0 0), (6, .optr (.s 1) ep 4 0 0), (8, .optr (.d L) e 5 0 0)])
   (h := fun z => ⟨[.vec q0 [keyR i k], .vec ep [[.int .i64 0, .int .i64 0, .int .i64 0, .int .i64 0]], .hole, .hole, .hole, .hole, .hole, .hole], G.h z.1.1⟩) (μ := fun z => rank + 1 - z.1.2.fd.length) ⟨(N1, d), hI1, hE1, ha, he.symm⟩ ?_ ?_
   [2, 6, 8] [1] (S' := { z : List NK × Nd // LInv G.En i z.1 ∧ Ext i N z.1 ∧ z.1[a]? = some ⟨i, k, z.2⟩ ∧ z.2.e = e ∧ rank < z.2.fd.length }) (X := fun _ => 0)
   (frX := fun z => frOf 0 126 [(2, .int .i64 (rank : Int)), (6, .optr (.s 1) ep 4 0 0), (8, .optr (.d L) e 5 0 0)])
   (hX := fun z => ⟨[.hole, .vec ep [[.int .i64 0, .int .i64 0, .int .i64 0, .int .i64 0]], .hole, .hole, .hole, .hole, .hole, .hole], G.h z.1.1⟩)
   [6, 7] [1] (S2 := { z : List NK // LInv G.En i z ∧ Ext i N z ∧ (mrg (lsOf T ms))[rank]? = none }) (frR := fun z => frOf 0 126 [(6, .optr (.s 1) ep 4 0 0), (7, .bool false)])
   (hR := fun z => ⟨[.hole, .vec ep [[.int .i64 0, .int .i64 0, .int .i64 0, .int .i64 0]], .hole, .hole, .hole, .hole, .hole, .hole], G.h z.1⟩) ?_ ?_ ?_
  ·exact rfl
  ·exact rfl
  ·rintro ⟨⟨N2, d2⟩, hI2, hE2, ha2, he2⟩
   simp only at hI2 hE2 ha2 he2
   show aexR _ _ _ (frOf 0 126 [(0, G.p), (2, .int .i64 (rank : Int)), (4, .optr (.s 0) q0 2 0 0), (6, .optr (.s 1) ep 4 0 0), (8, .optr (.d L) e 5 0 0)])
    ⟨[.vec q0 [keyR i k], .vec ep [[.int .i64 0, .int .i64 0, .int .i64 0, .int .i64 0]], .hole, .hole, .hole, .hole, .hole, .hole], G.h N2⟩ _
   have hn0 : (G.h N2)[L]? = some (.vec e [d2.row L]) := by rw [hL, ← he2]; exact lis_node (q := 0) ha2 (by omega)
   have hn1 : (G.h N2)[L + 1]? = some (.vec d2.eM (rowsMv d2.ms)) := by rw [hL]; exact lis_node (q := 1) ha2 (by omega)
   have hn2 : (G.h N2)[L + 2]? = some (.vec d2.eF (rowsW d2.fd)) := by rw [hL]; exact lis_node (q := 2) ha2 (by omega)
   have hn3 : (G.h N2)[L + 3]? = some (.vec d2.eO d2.rO) := by rw [hL]; exact lis_node (q := 3) ha2 (by omega)
   have hR2 := (hI2.nd _ (List.mem_of_getElem? ha2)).2.2.2 (Nat.le_refl _)
   simp only at hR2
   rw [← hT, ← hms] at hR2
   (repeat' (first | ((conv => whnf); first | refine optO hn0 ?_ | exact rfl | exact ⟨rfl, rfl⟩ | refine go1 ?_ | (intro ep) | fail)))
   all_goals (conv => whnf)
   refine ifB (fun g => ?_) (fun g => ?_)
   ·simp only [decide_eq_true_eq] at g
    have g : d2.fd.length ≤ rank := by omega
    unfold Nd.row at hn0
    cases hdue : d2.due with
    | false =>
     rw [hdue] at hn0
     (repeat' (first | ((conv => whnf); first | refine optO hn0 ?_ | exact rfl | exact ⟨rfl, rfl⟩ | refine go1 ?_ | (intro ep) | (refine ifB (fun hb => ?_) (fun hb => ?_) <;> (try simp only [qs] at hb) <;> (try simp (disch := omega) only [wrapI] at hb) <;> (try (exfalso; omega))) | fail)))
     all_goals (conv => whnf)
     obtain ⟨N3, hN3⟩ : ∃ N3, N3 = N2 := ⟨_, rfl⟩
     obtain ⟨d3, hd3'⟩ : ∃ d3, d3 = d2 := ⟨_, rfl⟩
     have hI3 : LInv G.En i N3 := by rw [hN3]; exact hI2
     have hE3 : Ext i N N3 := by rw [hN3]; exact hE2
     have ha3 : N3[a]? = some ⟨i, k, d3⟩ := by rw [hN3, hd3']; exact ha2
     have he3 : d3.e = e := by rw [hd3']; exact he2
     have hR3 : NdR T ms d3 := by rw [hd3']; exact hR2
     have hd3 : d3.due = false := by rw [hd3']; exact hdue
     have hl3 : d3.fd.length = d2.fd.length := by rw [hd3']
     have m0 : (G.h N3)[L]? = some (.vec d3.e [d3.row L]) := by rw [hL]; exact lis_node (q := 0) ha3 (by omega)
     unfold Nd.row at m0
     rw [hd3, he3] at m0
     have m3 : (G.h N3)[L + 3]? = some (.vec d3.eO d3.rO) := by rw [hL]; exact lis_node (q := 3) ha3 (by omega)
     have hop3 : d3.op.length ≤ 1000000 := by
      have h1 := hR3.len
      have h2 : d3.ms.length ≤ ms.length := by rw [hR3.mv]; exact List.length_filter_le _ _
      omega
     refine ACalls.part (st1 := []) (dy := G.h N3) 0 rfl rfl (show G.h N2 = G.h N3 by rw [hN3]) (take82 (G.h N3) L (L + 3) e d3.eO d3.off d3.op.length (.oslc (.d (L + 1)) d3.eM 4 0 d3.ms.length false) (.oslc (.d (L + 2)) d3.eF 4 0 d3.fd.length false) false d3.rO d3.op (by omega) m0 m3 hR3.ok.pure hR3.ok.le hR3.ok.rows rfl hop3
      (K := fun r h' => (d3.op = [] ∧ r = .tup [.agg (wyR ⟨0, 0, 0, 0⟩), .bool false] ∧ h'.dy = G.h N3) ∨ (∃ w r', d3.op = w :: r' ∧ r = .tup [.agg (wyR w), .bool true] ∧ h'.dy = G.h (N3.set a ⟨i, k, d3.take1 r'⟩)))
      (fun h st => .inl ⟨h, rfl, rfl⟩) (fun w r' h st => .inr ⟨w, r', h, rfl, by have := lis_take (D0 := G.D0) (es := G.es) (em := G.em) (el := G.el) hL ha3 h; rw [he3, hd3] at this; exact this⟩)) ?_
     rintro r h1 (⟨hop, rfl, hdd⟩ | ⟨w, r', hop, rfl, hdd⟩)
     ·rw [hdd]
      (repeat' (first | ((conv => whnf); first | exact rfl | exact ⟨rfl, rfl⟩ | refine go1 ?_ | (intro ep) | (refine ifB (fun hb => ?_) (fun hb => ?_) <;> (try simp only [qs] at hb) <;> (try simp (disch := omega) only [wrapI] at hb) <;> (try (exfalso; omega))) | fail)))
      all_goals (conv => whnf)
      exact back_of ⟨N3, hI3, hE3, ndr_end hR3 hd3 hop (by omega)⟩ ⟨rfl, rfl⟩
     ·rw [hdd]
      obtain ⟨N4, hN4⟩ : ∃ N4, N4 = N3.set a ⟨i, k, d3.take1 r'⟩ := ⟨_, rfl⟩
      rw [← hN4]
      have ha4 : N4[a]? = some ⟨i, k, d3.take1 r'⟩ := by rw [hN4]; exact set_at ha3
      have n0 : (G.h N4)[L]? = some (.vec d3.e [nodR (.oslc (.d (L + 1)) d3.eM 4 0 d3.ms.length false) (.oslc (.d (L + 2)) d3.eF 4 0 d3.fd.length false) (L + 3) d3.eO (d3.off + 1) r'.length d3.due]) := by rw [hL]; exact lis_node (q := 0) ha4 (by omega)
      rw [hd3, he3] at n0
      have n2 : (G.h N4)[L + 2]? = some (.vec d3.eF (rowsW d3.fd)) := by rw [hL]; exact lis_node (q := 2) ha4 (by omega)
      have n0a : ∀ o, ((G.h N4).set (L + 2) o)[L]? = some (.vec e [nodR (.oslc (.d (L + 1)) d3.eM 4 0 d3.ms.length false) (.oslc (.d (L + 2)) d3.eF 4 0 d3.fd.length false) (L + 3) d3.eO (d3.off + 1) r'.length false]) := fun o => by rw [List.getElem?_set_ne (by omega)]; exact n0
      have n0b : ∀ o o', (((G.h N4).set (L + 2) o).set L o')[L]? = some o' := fun o o' => List.getElem?_set_self (List.getElem?_eq_some_iff.1 (n0a o)).1
      (repeat' (first | ((conv => whnf); first | refine optO n0 ?_ | refine optO n2 ?_ | refine optO (n0a _) ?_ | refine optO (n0b _ _) ?_ | exact rfl | exact ⟨rfl, rfl⟩ | refine go1 ?_ | (intro ep) | (refine ifB (fun hb => ?_) (fun hb => ?_) <;> (try simp only [qs] at hb) <;> (try simp (disch := omega) only [wrapI] at hb) <;> (try (exfalso; omega))) | fail)))
      all_goals (conv => whnf)
      have hnew := ndr_take hR3 hd3 hop ep
      have hnew2 := hnew
      rw [hT, hms] at hnew2
      refine back_of ⟨(N3.set a ⟨i, k, ((d3.take1 r').found1 w ep).due1⟩, ((d3.take1 r').found1 w ep).due1), linv_set hI3 ha3 hnew.ok (fun _ => hnew2), hE3.set ha3 (Nat.le_refl i) (Nat.le_refl i), set_at ha3, (show (((d3.take1 r').found1 w ep).due1).e = e from he3)⟩ ⟨by (first | exact rfl | (simp (disch := omega) only [wrapI]; exact rfl)), ?_, by simp only [Nd.due1, Nd.found1, Nd.take1, List.length_append, List.length_singleton]; omega⟩
      refine congrArg₂' Heap.mk (by exact rfl) ?_
      have hfin := lis_found (D0 := G.D0) (es := G.es) (em := G.em) (el := G.el) hL ha4 w ep
      rw [show (d3.take1 r').e = e from he3] at hfin
      refine Eq.trans ?_ (hfin.trans (by rw [hN4, set2]))
      exact set2 _ _ _ _
    | true =>
     rw [hdue] at hn0
     obtain ⟨kk, j, xx, mm, hk1, hk2, hj, hmm, hpl, hres⟩ := ndr_put hR2 hdue
     generalize hrr : pkP (lsOf T ms) kk (fun _ => 0) j = rr at hk2 hpl hres
     obtain ⟨x1, x2⟩ := xx
     obtain ⟨hmc, hmto⟩ := hmb mm hmm
     have hok2 := hR2.ok
     obtain ⟨mks, mto, mc, mm2⟩ := mm
     simp only at hk2 hres hmc hmto
     have hrowF : (rowsW d2.fd)[0 + (IntKind.i64.wrap ((d2.fd.length : Int) - 1)).toNat]? = some [.int .i64 x1, .int .i64 x2, .int .i64 (j : Int), .int .i64 (rr : Int)] := by
      rw [wrapI (by omega) (by omega), show 0 + ((d2.fd.length : Int) - 1).toNat = kk by omega, List.getElem?_map, hk2]
      rfl
     have hrowM : (rowsMv d2.ms)[0 + ((j : Nat) : Int).toNat]? = some [intsA mks, .int .i64 mc, .int .i64 mm2, .int .i64 (mto : Int)] := by
      rw [show 0 + ((j : Nat) : Int).toNat = j by omega, List.getElem?_map, hj]
      rfl
     have hjl : j < d2.ms.length := (List.getElem?_eq_some_iff.1 hj).1
     have p0 : ∀ o, ((G.h N2).set L o)[L]? = some o := fun o => List.getElem?_set_self (List.getElem?_eq_some_iff.1 hn0).1
     have p1 : ∀ o, ((G.h N2).set L o)[L + 1]? = some (.vec d2.eM (rowsMv d2.ms)) := fun o => by rw [List.getElem?_set_ne (by omega)]; exact hn1
     have p2 : ∀ o, ((G.h N2).set L o)[L + 2]? = some (.vec d2.eF (rowsW d2.fd)) := fun o => by rw [List.getElem?_set_ne (by omega)]; exact hn2
     (repeat' (first | ((conv => whnf); first | refine optO hn0 ?_ | refine optO (p0 _) ?_ | refine optO (p1 _) ?_ | refine optO (p2 _) ?_ | refine optS hrowF ?_ | refine optS hrowM ?_ | exact rfl | exact ⟨rfl, rfl⟩ | refine go1 ?_ | (intro ep) | (refine ifB (fun hb => ?_) (fun hb => ?_) <;> (try simp only [qs] at hb) <;> (try simp (disch := omega) only [wrapI] at hb) <;> (try (exfalso; omega))) | fail)))
     all_goals (conv => whnf)
     obtain ⟨N5, hN5⟩ : ∃ N5, N5 = N2.set a ⟨i, k, d2.undue⟩ := ⟨_, rfl⟩
     have hI5 : LInv G.En (i + 1) N5 := by rw [hN5]; exact linv_set (linv_less hI2 (by omega)) ha2 ⟨hok2.rows, hok2.pure, hok2.le⟩ (fun h => absurd h (by omega))
     have ha5 : N5[a]? = some ⟨i, k, d2.undue⟩ := by rw [hN5]; exact set_at ha2
     have hE5 : Ext i N N5 := by rw [hN5]; exact hE2.set ha2 (Nat.le_refl i) (Nat.le_refl i)
     have hc := ih (i + 1) (by omega) N5 mto (rr + 1) hI5 hmto (by omega)
     have hw1 : IntKind.i64.wrap ((i : Int) + 1) = ((i + 1 : Nat) : Int) := by
      have := gr_len ok.g
      have h2 := (ntsOk_of ok.N).len
      have h3 := segR_lenle G.n
      have h4 := ok.l
      rw [wrapI (by omega) (by omega)]; omega
     have hw2 : IntKind.i64.wrap ((rr : Int) + 1) = ((rr + 1 : Nat) : Int) := by rw [wrapI (by omega) (by omega)]; omega
     unfold keyR at hc
     rw [← hw1, ← hw2] at hc
     have hund := lis_undue (D0 := G.D0) (es := G.es) (em := G.em) (el := G.el) hL ha2
     rw [he2, ← hN5] at hund
     refine ACalls.part (st1 := []) (dy := G.h N5) 0 rfl ?_ ?_ hc ?_
     ·exact rfl
     ·exact hund
     intro r h1 hq
     obtain ⟨hr1, N6, hI6, hE6, hdy6⟩ := wq_ex hq
     rw [hdy6]
     clear hq
     have ha6 : N6[a]? = some ⟨i, k, d2.undue⟩ := (hE6 a ⟨i, k, d2.undue⟩ (Nat.lt_succ_self i)).1 ha5
     have hE7 : Ext i N N6 := hE5.trans (hE6.less (by omega))
     have hold : ∀ (b : Nat) (y : NK), N6[b]? = some y → y.i = i → b ≠ a → NdR (WG (G.En.drop (y.i + 1))) ((G.En.getD y.i []).getD y.k []) y.d := fun b y hb hy hne => by
      have h5 := (hE6 b y (by omega)).2 hb
      rw [hN5, List.getElem?_set_ne (fun e => hne e.symm)] at h5
      exact (hI2.nd y (List.mem_of_getElem? h5)).2.2.2 (by omega)
     cases hw : (T mto)[rr + 1]? with
     | none =>
      rw [hw] at hres
      simp only at hres
      have hv : getV (WG (G.En.drop (i + 1)) mto) (rr + 1) = .tup [.agg (wyR ⟨0, 0, 0, 0⟩), .bool false] := by unfold getV; rw [← hT, hw]
      rw [hv] at hr1
      subst hr1
      (repeat' (first | ((conv => whnf); first | exact rfl | exact ⟨rfl, rfl⟩ | refine go1 ?_ | (intro ep) | (refine ifB (fun hb => ?_) (fun hb => ?_) <;> (try simp only [qs] at hb) <;> (try simp (disch := omega) only [wrapI] at hb) <;> (try (exfalso; omega))) | fail)))
      all_goals (conv => whnf)
      obtain ⟨N3, hN3⟩ : ∃ N3, N3 = N6 := ⟨_, rfl⟩
      obtain ⟨d3, hd3'⟩ : ∃ d3, d3 = d2.undue := ⟨_, rfl⟩
      have hI3 : LInv G.En i N3 := by
       rw [hN3]
       refine linv_join hI6 fun b y hb hy => ?_
       by_cases c : b = a
       ·subst c
        rw [ha6] at hb
        cases hb
        simp only
        rw [← hT, ← hms]
        exact hres
       ·exact hold b y hb hy c
      have hE3 : Ext i N N3 := by rw [hN3]; exact hE7
      have ha3 : N3[a]? = some ⟨i, k, d3⟩ := by rw [hN3, hd3']; exact ha6
      have he3 : d3.e = e := by rw [hd3']; exact he2
      have hR3 : NdR T ms d3 := by rw [hd3']; exact hres
      have hd3 : d3.due = false := by rw [hd3']; rfl
      have hl3 : d3.fd.length = d2.fd.length := by rw [hd3']; rfl
      have m0 : (G.h N3)[L]? = some (.vec d3.e [d3.row L]) := by rw [hL]; exact lis_node (q := 0) ha3 (by omega)
      unfold Nd.row at m0
      rw [hd3, he3] at m0
      have m3 : (G.h N3)[L + 3]? = some (.vec d3.eO d3.rO) := by rw [hL]; exact lis_node (q := 3) ha3 (by omega)
      have hop3 : d3.op.length ≤ 1000000 := by
       have h1 := hR3.len
       have h2 : d3.ms.length ≤ ms.length := by rw [hR3.mv]; exact List.length_filter_le _ _
       omega
      refine ACalls.part (st1 := []) (dy := G.h N3) 0 rfl rfl (show G.h N6 = G.h N3 by rw [hN3]) (take82 (G.h N3) L (L + 3) e d3.eO d3.off d3.op.length (.oslc (.d (L + 1)) d3.eM 4 0 d3.ms.length false) (.oslc (.d (L + 2)) d3.eF 4 0 d3.fd.length false) false d3.rO d3.op (by omega) m0 m3 hR3.ok.pure hR3.ok.le hR3.ok.rows rfl hop3
       (K := fun r h' => (d3.op = [] ∧ r = .tup [.agg (wyR ⟨0, 0, 0, 0⟩), .bool false] ∧ h'.dy = G.h N3) ∨ (∃ w r', d3.op = w :: r' ∧ r = .tup [.agg (wyR w), .bool true] ∧ h'.dy = G.h (N3.set a ⟨i, k, d3.take1 r'⟩)))
       (fun h st => .inl ⟨h, rfl, rfl⟩) (fun w r' h st => .inr ⟨w, r', h, rfl, by have := lis_take (D0 := G.D0) (es := G.es) (em := G.em) (el := G.el) hL ha3 h; rw [he3, hd3] at this; exact this⟩)) ?_
      rintro r h1 (⟨hop, rfl, hdd⟩ | ⟨w, r', hop, rfl, hdd⟩)
      ·rw [hdd]
       (repeat' (first | ((conv => whnf); first | exact rfl | exact ⟨rfl, rfl⟩ | refine go1 ?_ | (intro ep) | (refine ifB (fun hb => ?_) (fun hb => ?_) <;> (try simp only [qs] at hb) <;> (try simp (disch := omega) only [wrapI] at hb) <;> (try (exfalso; omega))) | fail)))
       all_goals (conv => whnf)
       exact back_of ⟨N3, hI3, hE3, ndr_end hR3 hd3 hop (by omega)⟩ ⟨rfl, rfl⟩
      ·rw [hdd]
       obtain ⟨N4, hN4⟩ : ∃ N4, N4 = N3.set a ⟨i, k, d3.take1 r'⟩ := ⟨_, rfl⟩
       rw [← hN4]
       have ha4 : N4[a]? = some ⟨i, k, d3.take1 r'⟩ := by rw [hN4]; exact set_at ha3
       have n0 : (G.h N4)[L]? = some (.vec d3.e [nodR (.oslc (.d (L + 1)) d3.eM 4 0 d3.ms.length false) (.oslc (.d (L + 2)) d3.eF 4 0 d3.fd.length false) (L + 3) d3.eO (d3.off + 1) r'.length d3.due]) := by rw [hL]; exact lis_node (q := 0) ha4 (by omega)
       rw [hd3, he3] at n0
       have n2 : (G.h N4)[L + 2]? = some (.vec d3.eF (rowsW d3.fd)) := by rw [hL]; exact lis_node (q := 2) ha4 (by omega)
       have n0a : ∀ o, ((G.h N4).set (L + 2) o)[L]? = some (.vec e [nodR (.oslc (.d (L + 1)) d3.eM 4 0 d3.ms.length false) (.oslc (.d (L + 2)) d3.eF 4 0 d3.fd.length false) (L + 3) d3.eO (d3.off + 1) r'.length false]) := fun o => by rw [List.getElem?_set_ne (by omega)]; exact n0
       have n0b : ∀ o o', (((G.h N4).set (L + 2) o).set L o')[L]? = some o' := fun o o' => List.getElem?_set_self (List.getElem?_eq_some_iff.1 (n0a o)).1
       (repeat' (first | ((conv => whnf); first | refine optO n0 ?_ | refine optO n2 ?_ | refine optO (n0a _) ?_ | refine optO (n0b _ _) ?_ | exact rfl | exact ⟨rfl, rfl⟩ | refine go1 ?_ | (intro ep) | (refine ifB (fun hb => ?_) (fun hb => ?_) <;> (try simp only [qs] at hb) <;> (try simp (disch := omega) only [wrapI] at hb) <;> (try (exfalso; omega))) | fail)))
       all_goals (conv => whnf)
       have hnew := ndr_take hR3 hd3 hop ep
       have hnew2 := hnew
       rw [hT, hms] at hnew2
       refine back_of ⟨(N3.set a ⟨i, k, ((d3.take1 r').found1 w ep).due1⟩, ((d3.take1 r').found1 w ep).due1), linv_set hI3 ha3 hnew.ok (fun _ => hnew2), hE3.set ha3 (Nat.le_refl i) (Nat.le_refl i), set_at ha3, (show (((d3.take1 r').found1 w ep).due1).e = e from he3)⟩ ⟨by (first | exact rfl | (simp (disch := omega) only [wrapI]; exact rfl)), ?_, by simp only [Nd.due1, Nd.found1, Nd.take1, List.length_append, List.length_singleton]; omega⟩
       refine congrArg₂' Heap.mk (by exact rfl) ?_
       have hfin := lis_found (D0 := G.D0) (es := G.es) (em := G.em) (el := G.el) hL ha4 w ep
       rw [show (d3.take1 r').e = e from he3] at hfin
       refine Eq.trans ?_ (hfin.trans (by rw [hN4, set2]))
       exact set2 _ _ _ _
     | some w0 =>
      rw [hw] at hres
      simp only at hres
      have hv : getV (WG (G.En.drop (i + 1)) mto) (rr + 1) = .tup [.agg (wyR w0), .bool true] := by unfold getV; rw [← hT, hw]
      rw [hv] at hr1
      subst hr1
      have hwb := WG_bd (G := G.En.drop (i + 1)) (fun g hg' => gr_bd ok.X ok.N ok.g ok.h0 g (List.mem_of_mem_drop hg')) mto w0 (by rw [← hT]; exact List.mem_of_getElem? hw)
      have hdl : (G.En.drop (i + 1)).length ≤ 5600 := by
       have h2 := (ntsOk_of ok.N).len
       have h3 := segR_lenle G.n
       have h4 := ok.l
       rw [List.length_drop]; omega
      obtain ⟨w1, w2, w3, w4⟩ := w0
      simp only at hwb hres
      have hP := plus59 (mc, mm2) (w1, w2) (by simp only; omega) (by simp only; omega) (by simp only; omega) (by simp only; omega)
      simp only at hP
      have k0 : (G.h N6)[L]? = some (.vec d2.undue.e [d2.undue.row L]) := by rw [hL]; exact lis_node (q := 0) ha6 (by omega)
      have k3 : (G.h N6)[L + 3]? = some (.vec d2.eO d2.rO) := by rw [hL]; exact lis_node (q := 3) ha6 (by omega)
      rw [show d2.undue.e = e from he2] at k0
      (repeat' (first | ((conv => whnf); first | refine ⟨_, hP, ?_⟩ | exact rfl | exact ⟨rfl, rfl⟩ | refine go1 ?_ | (intro ep) | (refine ifB (fun hb => ?_) (fun hb => ?_) <;> (try simp only [qs] at hb) <;> (try simp (disch := omega) only [wrapI] at hb) <;> (try (exfalso; omega))) | fail)))
      all_goals (conv => whnf)
      have hsr : Srt d2.op := by
       rcases hR2.op with ⟨_, ho⟩ | ⟨_, _, _, _, _, _, ho⟩
       ·exact ho.srt
       ·exact ho.srt
      have hol : d2.op.length ≤ 1000000 := by
       have h1 := hR2.len
       have h2 : d2.ms.length ≤ ms.length := by rw [hR2.mv]; exact List.length_filter_le _ _
       omega
      obtain ⟨W, hWd⟩ : ∃ W : Wy, W = ⟨mc + w1, mm2 + w2, (j : Int), ((rr + 1 : Nat) : Int)⟩ := ⟨_, rfl⟩
      have hWr : wyR W = [.int .i64 (mc + w1), .int .i64 (mm2 + w2), .int .i64 (j : Int), .int .i64 (IntKind.i64.wrap ((rr : Int) + 1))] := by rw [hWd, hw2]; rfl
      rw [← hWd] at hres
      have hput := fun (K : AV → Heap → Prop) => put81 (G.h N6) L (L + 3) e d2.eO d2.off d2.op.length (.oslc (.d (L + 1)) d2.eM 4 0 d2.ms.length false) (.oslc (.d (L + 2)) d2.eF 4 0 d2.fd.length false) false d2.rO d2.op W (K := K) (by omega) k0 k3 hok2.pure hok2.le hok2.rows rfl (srt_mono hsr) hol
      rw [hWr] at hput
      refine ACalls.part (st1 := []) (dy := G.h N6) 0 rfl ?_ ?_ (hput (fun r h' => r = .tup [] ∧ ∃ e', h'.dy = G.h (N6.set a ⟨i, k, d2.undue.put W e'⟩)) (fun e' st => ⟨rfl, e', ?_⟩)) ?_
      ·exact rfl
      ·exact rfl
      ·have := lis_put (D0 := G.D0) (es := G.es) (em := G.em) (el := G.el) hL ha6 W e'
       rw [show d2.undue.e = e from he2] at this
       exact this
      rintro r h1 ⟨rfl, e', hdd⟩
      rw [hdd]
      (repeat' (first | ((conv => whnf); first | exact rfl | exact ⟨rfl, rfl⟩ | refine go1 ?_ | (intro ep) | (refine ifB (fun hb => ?_) (fun hb => ?_) <;> (try simp only [qs] at hb) <;> (try simp (disch := omega) only [wrapI] at hb) <;> (try (exfalso; omega))) | fail)))
      all_goals (conv => whnf)
      obtain ⟨d3, hd3'⟩ : ∃ d3, d3 = d2.undue.put W e' := ⟨_, rfl⟩
      obtain ⟨N3, hN3⟩ : ∃ N3, N3 = N6.set a ⟨i, k, d3⟩ := ⟨_, rfl⟩
      have hres2 := hres e'
      rw [hT, hms] at hres2
      have hI3 : LInv G.En i N3 := by rw [hN3, hd3']; exact linv_back hI6 ha6 hold hres2
      have hE3 : Ext i N N3 := by rw [hN3]; exact hE7.set ha6 (Nat.le_refl i) (Nat.le_refl i)
      have ha3 : N3[a]? = some ⟨i, k, d3⟩ := by rw [hN3]; exact set_at ha6
      have he3 : d3.e = e := by rw [hd3']; exact he2
      have hR3 : NdR T ms d3 := by rw [hd3']; exact hres e'
      have hd3 : d3.due = false := by rw [hd3']; rfl
      have hl3 : d3.fd.length = d2.fd.length := by rw [hd3']; rfl
      have m0 : (G.h N3)[L]? = some (.vec d3.e [d3.row L]) := by rw [hL]; exact lis_node (q := 0) ha3 (by omega)
      unfold Nd.row at m0
      rw [hd3, he3] at m0
      have m3 : (G.h N3)[L + 3]? = some (.vec d3.eO d3.rO) := by rw [hL]; exact lis_node (q := 3) ha3 (by omega)
      have hop3 : d3.op.length ≤ 1000000 := by
       have h1 := hR3.len
       have h2 : d3.ms.length ≤ ms.length := by rw [hR3.mv]; exact List.length_filter_le _ _
       omega
      refine ACalls.part (st1 := []) (dy := G.h N3) 0 rfl rfl (show G.h (N6.set a ⟨i, k, d2.undue.put W e'⟩) = G.h N3 by rw [hN3, hd3']) (take82 (G.h N3) L (L + 3) e d3.eO d3.off d3.op.length (.oslc (.d (L + 1)) d3.eM 4 0 d3.ms.length false) (.oslc (.d (L + 2)) d3.eF 4 0 d3.fd.length false) false d3.rO d3.op (by omega) m0 m3 hR3.ok.pure hR3.ok.le hR3.ok.rows rfl hop3
       (K := fun r h' => (d3.op = [] ∧ r = .tup [.agg (wyR ⟨0, 0, 0, 0⟩), .bool false] ∧ h'.dy = G.h N3) ∨ (∃ w r', d3.op = w :: r' ∧ r = .tup [.agg (wyR w), .bool true] ∧ h'.dy = G.h (N3.set a ⟨i, k, d3.take1 r'⟩)))
       (fun h st => .inl ⟨h, rfl, rfl⟩) (fun w r' h st => .inr ⟨w, r', h, rfl, by have := lis_take (D0 := G.D0) (es := G.es) (em := G.em) (el := G.el) hL ha3 h; rw [he3, hd3] at this; exact this⟩)) ?_
      rintro r h1 (⟨hop, rfl, hdd⟩ | ⟨w, r', hop, rfl, hdd⟩)
      ·rw [hdd]
       (repeat' (first | ((conv => whnf); first | exact rfl | exact ⟨rfl, rfl⟩ | refine go1 ?_ | (intro ep) | (refine ifB (fun hb => ?_) (fun hb => ?_) <;> (try simp only [qs] at hb) <;> (try simp (disch := omega) only [wrapI] at hb) <;> (try (exfalso; omega))) | fail)))
       all_goals (conv => whnf)
       exact back_of ⟨N3, hI3, hE3, ndr_end hR3 hd3 hop (by omega)⟩ ⟨rfl, rfl⟩
      ·rw [hdd]
       obtain ⟨N4, hN4⟩ : ∃ N4, N4 = N3.set a ⟨i, k, d3.take1 r'⟩ := ⟨_, rfl⟩
       rw [← hN4]
       have ha4 : N4[a]? = some ⟨i, k, d3.take1 r'⟩ := by rw [hN4]; exact set_at ha3
       have n0 : (G.h N4)[L]? = some (.vec d3.e [nodR (.oslc (.d (L + 1)) d3.eM 4 0 d3.ms.length false) (.oslc (.d (L + 2)) d3.eF 4 0 d3.fd.length false) (L + 3) d3.eO (d3.off + 1) r'.length d3.due]) := by rw [hL]; exact lis_node (q := 0) ha4 (by omega)
       rw [hd3, he3] at n0
       have n2 : (G.h N4)[L + 2]? = some (.vec d3.eF (rowsW d3.fd)) := by rw [hL]; exact lis_node (q := 2) ha4 (by omega)
       have n0a : ∀ o, ((G.h N4).set (L + 2) o)[L]? = some (.vec e [nodR (.oslc (.d (L + 1)) d3.eM 4 0 d3.ms.length false) (.oslc (.d (L + 2)) d3.eF 4 0 d3.fd.length false) (L + 3) d3.eO (d3.off + 1) r'.length false]) := fun o => by rw [List.getElem?_set_ne (by omega)]; exact n0
       have n0b : ∀ o o', (((G.h N4).set (L + 2) o).set L o')[L]? = some o' := fun o o' => List.getElem?_set_self (List.getElem?_eq_some_iff.1 (n0a o)).1
       (repeat' (first | ((conv => whnf); first | refine optO n0 ?_ | refine optO n2 ?_ | refine optO (n0a _) ?_ | refine optO (n0b _ _) ?_ | exact rfl | exact ⟨rfl, rfl⟩ | refine go1 ?_ | (intro ep) | (refine ifB (fun hb => ?_) (fun hb => ?_) <;> (try simp only [qs] at hb) <;> (try simp (disch := omega) only [wrapI] at hb) <;> (try (exfalso; omega))) | fail)))
       all_goals (conv => whnf)
       have hnew := ndr_take hR3 hd3 hop ep
       have hnew2 := hnew
       rw [hT, hms] at hnew2
       refine back_of ⟨(N3.set a ⟨i, k, ((d3.take1 r').found1 w ep).due1⟩, ((d3.take1 r').found1 w ep).due1), linv_set hI3 ha3 hnew.ok (fun _ => hnew2), hE3.set ha3 (Nat.le_refl i) (Nat.le_refl i), set_at ha3, (show (((d3.take1 r').found1 w ep).due1).e = e from he3)⟩ ⟨by (first | exact rfl | (simp (disch := omega) only [wrapI]; exact rfl)), ?_, by simp only [Nd.due1, Nd.found1, Nd.take1, List.length_append, List.length_singleton]; omega⟩
       refine congrArg₂' Heap.mk (by exact rfl) ?_
       have hfin := lis_found (D0 := G.D0) (es := G.es) (em := G.em) (el := G.el) hL ha4 w ep
       rw [show (d3.take1 r').e = e from he3] at hfin
       refine Eq.trans ?_ (hfin.trans (by rw [hN4, set2]))
       exact set2 _ _ _ _
   ·simp only [decide_eq_false_iff_not] at g
    (repeat' (first | ((conv => whnf); first | exact rfl | exact ⟨rfl, rfl⟩ | refine go1 ?_ | (intro ep) | fail)))
    all_goals (conv => whnf)
    exact back_of ⟨(N2, d2), hI2, hE2, ha2, he2, by simp only; omega⟩ ⟨rfl, rfl, rfl⟩
  ·rintro ⟨z, hz1, hz2, hz3⟩
   (repeat' (first | ((conv => whnf); first | exact rfl | exact ⟨rfl, rfl⟩ | refine go1 ?_ | (intro ep) | fail)))
   all_goals (conv => whnf)
   refine wq_of ⟨?_, z, hz1, hz2, rfl⟩
   rw [hW]
   unfold getV
   rw [hz3]
   rfl
  ·rintro ⟨⟨N2, d2⟩, hI2, hE2, ha2, he2, hl2⟩
   simp only at hI2 hE2 ha2 he2 hl2
   have hn0 : (G.h N2)[L]? = some (.vec e [d2.row L]) := by rw [hL, ← he2]; exact lis_node (q := 0) ha2 (by omega)
   have hn2 : (G.h N2)[L + 2]? = some (.vec d2.eF (rowsW d2.fd)) := by rw [hL]; exact lis_node (q := 2) ha2 (by omega)
   have hR2 := (hI2.nd _ (List.mem_of_getElem? ha2)).2.2.2 (Nat.le_refl _)
   simp only at hR2
   rw [← hT, ← hms] at hR2
   have hgt := ndr_get hR2 hl2
   have hrow : (rowsW d2.fd)[0 + ((rank : Nat) : Int).toNat]? = some (wyR d2.fd[rank]) := mapR (f := wyR) hl2
   rw [List.getElem?_eq_getElem hl2] at hgt
   generalize d2.fd[rank] = w at hgt hrow
   (repeat' (first | ((conv => whnf); first | refine optO hn0 ?_ | refine optO hn2 ?_ | refine optS hrow ?_ | exact rfl | exact ⟨rfl, rfl⟩ | refine go1 ?_ | (intro ep) | (refine ifB (fun hb => ?_) (fun hb => ?_) <;> (try simp only [qs] at hb) <;> (try simp (disch := omega) only [wrapI] at hb) <;> (try (exfalso; omega))) | fail)))
   all_goals (conv => whnf)
   refine wq_of ⟨?_, N2, hI2, hE2, rfl⟩
   rw [hW]
   unfold getV
   rw [hgt]
   rfl
end Go.Ab.V
