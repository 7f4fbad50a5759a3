/-
  What is proved here serves the law's text: each part says its own claim and its conditions. No condition is left open.
-/
import Derived.Test.YthdhhhgjdegafaaJJ
import Derived.Test.YthdhhhgjdegafaaJA
import Derived.Test.YthdhhhgjdegafaaKM
set_option linter.unusedSimpArgs false
set_option linter.unusedVariables false

namespace Go.Ab.V
def vwG : Steps → Nat → Wy → List Int
 | [], _, _ => []
 | g :: G, k, w => match (lvOf (WG G) (g.getD k []))[w.j.toNat]? with
  | none => []
  | some m => m.ks ++ (match (WG G m.to)[w.r.toNat]? with
   | none => []
   | some w' => vwG G m.to w')
def voiR (l : List Int) (c m : Int) : List AV := [intsA l, .int .i64 c, .int .i64 m]
theorem way_ok {G : Steps} {g : List (List RMv)} {k : Nat} {w : Wy} (h : w ∈ WG (g :: G) k) : ∃ (j q : Nat) (m : RMv) (w' : Wy), w.j = (j : Int) ∧ w.r = (q : Int) ∧ (lvOf (WG G) (g.getD k []))[j]? = some m ∧ m ∈ g.getD k [] ∧ (WG G m.to)[q]? = some w' ∧ w.c = m.c + w'.c ∧ w.m = m.m + w'.m := by
 obtain ⟨j, q, x, rfl, hx⟩ := pkW_mem h
 have hj : j < (lvOf (WG G) (g.getD k [])).length := by
  have : j < (lsOf (WG G) (g.getD k [])).length := rem_lt (x := x) (p := fun _ => q) ⟨q, Nat.le_refl _, hx⟩
  simpa [lsOf] using this
 have hm := List.getElem?_eq_getElem hj
 rw [lsOf_at hm, Option.map_eq_some_iff] at hx
 obtain ⟨w', hw, rfl⟩ := hx
 exact ⟨j, q, _, w', rfl, rfl, hm, (List.mem_filter.1 (List.getElem_mem hj)).1, hw, rfl, rfl⟩
theorem pkW_rank {ls : List (List Co)} : ∀ {K r : Nat} {p : Nat → Nat} {w : Wy}, (pkW ls K p)[r]? = some w → ∃ j q : Nat, w.j = (j : Int) ∧ w.r = (q : Int) ∧ q ≤ p j + r
 | 0, r, p, w, h => by simp [pkW] at h
 | K + 1, r, p, w, h => by
  unfold pkW at h
  split at h
  ·simp at h
  ·rename_i jx _
   cases r with
   | zero =>
    simp only [List.getElem?_cons_zero, Option.some.injEq] at h
    subst h
    exact ⟨jx.1, p jx.1, rfl, rfl, by omega⟩
   | succ r =>
    rw [List.getElem?_cons_succ] at h
    obtain ⟨j, q, h1, h2, h3⟩ := pkW_rank h
    have : bump p jx.1 j ≤ p j + 1 := by unfold bump; split <;> omega
    exact ⟨j, q, h1, h2, by omega⟩
theorem WG_rank {G : Steps} {k r : Nat} {w : Wy} (h : (WG G k)[r]? = some w) : w.r ≤ r := by
 cases G with
 | nil =>
  rw [WG] at h
  cases r with
  | zero => simp at h; subst h; simp
  | succ r => simp at h
 | cons g G =>
  obtain ⟨j, q, h1, h2, h3⟩ := pkW_rank h
  rw [h2]
  omega
theorem linv_down {En : Steps} {lo hi : Nat} {N N' : List NK} (h : LInv En hi N') (hx : Ext hi N N') (h0 : LInv En lo N) : LInv En lo N' := by
 refine ⟨h.u, fun y hy => ?_⟩
 obtain ⟨b, hb⟩ := List.mem_iff_getElem?.1 hy
 obtain ⟨g1, g2, g3, g4⟩ := h.nd y hy
 refine ⟨g1, g2, g3, fun hl => ?_⟩
 by_cases c : y.i < hi
 ·exact (h0.nd y (List.mem_of_getElem? ((hx b y c).2 hb))).2.2.2 hl
 ·exact g4 (by omega)
theorem gs_ks {G : GS} (ok : G.Ok) {i k : Nat} (hi : i < G.En.length) (hk : k < (G.En.getD i []).length) : ∀ m ∈ (G.En.getD i []).getD k [], 0 < m.ks.length ∧ m.ks.length ≤ 100000 := by
 have hll := gr_len ok.g
 have hiL : i < G.Ls.length := by omega
 have hi1 : i + 1 < G.Ls.length := by omega
 have S := gr_at ok.g hi hiL hi1
 have hgi : G.En.getD i [] = G.En[i] := by rw [List.getD_eq_getElem?_getD, List.getElem?_eq_getElem hi]; rfl
 rw [hgi] at hk ⊢
 have hgk : G.En[i].getD k [] = G.En[i][k] := by rw [List.getD_eq_getElem?_getD, List.getElem?_eq_getElem hk]; rfl
 rw [hgk]
 have hk1 : k < G.Ls[i].1.length := by rw [← S.len]; exact hk
 have hmv := S.mv k _ _ (List.getElem?_eq_getElem hk1) (List.getElem?_eq_getElem hk)
 intro m hm
 exact mvE_ks (x := G.x) (n := G.n) ok.N (i := 0 + i) (v := G.Ls[i].1[k]) (toMv G.Ls[i + 1].1 m) (by rw [hmv.2]; exact List.mem_map.2 ⟨m, hm, rfl⟩)
end Go.Ab.V

namespace Go.Ab.V
open Go.Proofs
def A37 : Ann := fun r => match r with
 | 0 => { slots := [(0, 0)] }
 | 1 => { slots := [(1, 1)] }
 | 2 => { slots := [(7, 2)] }
 | 5 => { plan := some (.one 0 (.one 1 (.one 2 (.one 3 (.one 4 (.one 6 (.br 5 7 (.one 7 (.one 8 (.one 9 (.done)))) (.one 5 (.one 8 (.one 9 (.done)))))))))))  }
 | 7 => { slots := [(10, 3)], plan := some (.one 0 (.one 1 (.one 6 (.br3 2 7 10 (.one 3 (.one 4 (.one 5 (.one 7 (.one 8 (.one 9 (.one 10 (.one 11 (.done))))))))) (.br 2 10 (.one 3 (.one 4 (.one 5 (.one 8 (.one 9 (.one 10 (.one 11 (.done)))))))) (.one 2 (.one 3 (.one 4 (.one 5 (.one 8 (.one 9 (.one 11 (.done))))))))) (.br 2 7 (.one 3 (.one 4 (.one 5 (.one 7 (.one 8 (.one 9 (.one 11 (.done)))))))) (.one 2 (.one 3 (.one 4 (.one 5 (.one 8 (.one 9 (.one 11 (.done))))))))))))) }
 | 8 => { slots := [(4, 4)] }
 | _ => {}
def voiV (G : Steps) (rank : Nat) : AV := match (WG G 0)[rank]? with
 | none => .tup [.agg [.nils, .int .i64 0, .int .i64 0], .bool false]
 | some w => .tup [.agg (voiR (vwG G 0 w) w.c w.m), .bool true]
structure VS where
 i : Nat
 k : Nat
 w : Wy
 l : List Int
 e : Nat
 N : List NK
structure VS.Ok (En : Steps) (VW : List Int) (z : VS) : Prop where
 i : z.i ≤ En.length
 k : z.i < En.length → z.k < (En.getD z.i []).length
 w : ∃ rk : Nat, rk ≤ 1000 ∧ (WG (En.drop z.i) z.k)[rk]? = some z.w
 N : LInv En 0 z.N
 l : z.l ++ vwG (En.drop z.i) z.k z.w = VW
 len : z.l.length ≤ 100000 * z.i
set_option maxHeartbeats 16000000 in
set_option maxRecDepth 100000 in
theorem voicing37 (G : GS) (ok : G.Ok) (h1 : 0 < G.En.length → 0 < (G.En.getD 0 []).length) (N : List NK) (hI : LInv G.En 0 N) (rank : Nat) (hr : rank ≤ 1000) :
  ACalls C.P 37 [G.p, .int .i64 (rank : Int)] ⟨[], G.h N⟩ (Wq fun r h' => r = voiV G.En rank ∧ ∃ N', LInv G.En 0 N' ∧ h'.dy = G.h N') := by
 have hg := get61 G ok G.En.length 0 (by omega) N 0 rank hI h1 hr
 refine fn_of (okz [] [61, 62] []) mixed (A := A37) 5 Try.func37 rfl ?_
 (repeat' (first | ((conv => whnf); first | exact rfl | exact ⟨rfl, rfl⟩ | refine go1 ?_ | (intro ep) | (refine ifB (fun hb => ?_) (fun hb => ?_) <;> (try simp only [qs] at hb) <;> (try simp (disch := omega) only [wrapI] at hb) <;> (try (exfalso; omega))) | fail)))
 all_goals (conv => whnf)
 refine ACalls.part (st1 := []) (dy := G.h N) 0 rfl ?_ ?_ hg ?_
 ·exact rfl
 ·exact rfl
 intro r h1 hq
 obtain ⟨hr1, N1, hI1, hE1, hdy⟩ := wq_ex hq
 rw [hdy]
 unfold getV at hr1
 rw [List.drop_zero] at hr1
 unfold voiV
 cases hw : (WG G.En 0)[rank]? with
 | none =>
  rw [hw] at hr1
  simp only at hr1
  subst hr1
  (repeat' (first | ((conv => whnf); first | exact rfl | exact ⟨rfl, rfl⟩ | refine go1 ?_ | (intro ep) | (refine ifB (fun hb => ?_) (fun hb => ?_) <;> (try simp only [qs] at hb) <;> (try simp (disch := omega) only [wrapI] at hb) <;> (try (exfalso; omega))) | fail)))
  all_goals (conv => whnf)
  exact wq_of ⟨rfl, N1, hI1, rfl⟩
 | some w =>
  rw [hw] at hr1
  simp only at hr1
  subst hr1
  (repeat' (first | ((conv => whnf); first | exact rfl | exact ⟨rfl, rfl⟩ | refine go1 ?_ | (intro ep) | (refine ifB (fun hb => ?_) (fun hb => ?_) <;> (try simp only [qs] at hb) <;> (try simp (disch := omega) only [wrapI] at hb) <;> (try (exfalso; omega))) | fail | refine And.intro ?_ ?_)))
  all_goals (conv => whnf)
  all_goals
   rename_i q0 q1
   refine wk_tr ?_
   refine tr_mask [0, 4, 6, 7] [0, 1, 2] (fr' := frOf 0 70 [(0, G.p), (4, .optr (.s 0) q0 3 0 0), (6, .optr (.s 1) q1 2 0 0), (7, .optr (.s 2) ep 4 0 0)])
    (h' := ⟨[.vec q0 [[.nils, .int .i64 w.c, .int .i64 w.m]], .vec q1 [keyR 0 0], .vec ep [wyR w], .hole, .hole], G.h N1⟩) (by exact rfl) (by exact rfl) ?_
   refine tr_lift (.s 0) (.s 4) q0 1 0 0 (by intro e; injection e; omega) (by exact rfl) rfl rfl fun q4 => tr_done ?_
   obtain ⟨VW, hVW⟩ : ∃ VW, VW = vwG G.En 0 w := ⟨_, rfl⟩
   have hev := fun N => gs_ev ok N
   have hel := fun N => lis_el (D0 := G.D0) (es := G.es) (em := G.em) (el := G.el) (N := N)
   refine loopZ (okz [] [61, 62] []) mixed (A := A37) [0, 4, 6, 7] [0, 1, 2, 4]
    (S := { z : VS // z.Ok G.En VW }) (fr := fun _ => frOf 0 70 [(0, G.p), (4, .optr (.s 0) q0 3 0 0), (6, .optr (.s 1) q1 2 0 0), (7, .optr (.s 2) ep 4 0 0)])
    (h := fun z => ⟨[.vec q0 [[.oslc (.s 4) z.1.e 1 0 z.1.l.length false, .int .i64 w.c, .int .i64 w.m]], .vec q1 [keyR z.1.i z.1.k], .vec ep [wyR z.1.w], .hole, .vec z.1.e (ints z.1.l)], G.h z.1.N⟩) (μ := fun z => G.En.length - z.1.i)
    ⟨⟨0, 0, w, [], q4, N1⟩, ⟨Nat.zero_le _, ‹_›, ⟨rank, hr, by rw [List.drop_zero]; exact hw⟩, hI1, by rw [List.drop_zero, hVW]; rfl, Nat.zero_le _⟩⟩ ?_ ?_
    [4] [0, 4] (S' := { z : Nat × List NK // LInv G.En 0 z.2 }) (X := fun _ => 0) (frX := fun _ => frOf 0 70 [(4, .optr (.s 0) q0 3 0 0)])
    (hX := fun z => ⟨[.vec q0 [[.oslc (.s 4) z.1.1 1 0 VW.length false, .int .i64 w.c, .int .i64 w.m]], .hole, .hole, .hole, .vec z.1.1 (ints VW)], G.h z.1.2⟩)
    [] [] (S2 := Empty) (frR := fun _ => []) (hR := fun _ => Heap.nil) ?_ (fun z => z.elim) ?_
   ·exact rfl
   ·exact rfl
   ·rintro ⟨⟨i, k, w1, l, e4, N2⟩, hz⟩
    obtain ⟨z1, z2, ⟨rk, z3, z4⟩, z5, z6, z9⟩ := hz
    simp only at z1 z2 z4 z5 z6 z9
    have hevN := hev N2
    have helN := hel N2
    show aexR _ _ _ (frOf 0 70 [(0, G.p), (4, .optr (.s 0) q0 3 0 0), (6, .optr (.s 1) q1 2 0 0), (7, .optr (.s 2) ep 4 0 0)])
     ⟨[.vec q0 [[.oslc (.s 4) e4 1 0 l.length false, .int .i64 w.c, .int .i64 w.m]], .vec q1 [keyR i k], .vec ep [wyR w1], .hole, .vec e4 (ints l)], G.h N2⟩ _
    (repeat' (first | ((conv => whnf); first | refine optO hevN ?_ | refine optO helN ?_ | exact rfl | exact ⟨rfl, rfl⟩ | refine go1 ?_ | (intro ep) | fail)))
    all_goals (conv => whnf)
    refine ifB (fun g => ?_) (fun g => ?_)
    ·simp only [decide_eq_true_eq] at g
     have g : i < G.En.length := by rw [ok.l]; omega
     have hkE := z2 g
     have hgi : G.En.getD i [] = G.En[i] := by rw [List.getD_eq_getElem?_getD, List.getElem?_eq_getElem g]; rfl
     have z7 := WG_rank z4
     have z8 := List.mem_of_getElem? z4
     rw [List.drop_eq_getElem_cons g, ← hgi] at z8
     obtain ⟨j, q, m, w', hj, hq, hm, hmm, hw', _, _⟩ := way_ok z8
     obtain ⟨c1, m1, j1, r1⟩ := w1
     simp only at hj hq z7
     subst hj hq
     obtain ⟨_, hmb⟩ := gs_ms ok g hkE
     have hnd := node62 G.x G.n ok.X ok.N G.es G.e1 G.ε G.Ls G.En G.t ok.g ok.l ok.h0 ok.sz G.D0 ok.D G.em G.el N2 0 z5 i k g hkE
     (repeat' (first | ((conv => whnf); first | exact rfl | exact ⟨rfl, rfl⟩ | refine go1 ?_ | (intro ep) | (refine ifB (fun hb => ?_) (fun hb => ?_) <;> (try simp only [qs] at hb) <;> (try simp (disch := omega) only [wrapI] at hb) <;> (try (exfalso; omega))) | fail | refine And.intro ?_ ?_)))
     all_goals (conv => whnf)
     all_goals
      refine ACalls.part (st1 := []) (dy := G.h N2) 0 rfl ?_ ?_ hnd ?_
      ·exact rfl
      ·exact rfl
      intro r h1 hq1
      obtain ⟨N3, a, d, hcase, hI3, ha3, rfl, hdy3⟩ := wq_ex hq1
      rw [hdy3]
      clear hq1 hcase
      have hR3 := (hI3.nd _ (List.mem_of_getElem? ha3)).2.2.2 (Nat.zero_le _)
      simp only at hR3
      obtain ⟨L, hL⟩ : ∃ L, L = G.D0.length + 2 + 4 * a := ⟨_, rfl⟩
      rw [← hL]
      have hn0 : (G.h N3)[L]? = some (.vec d.e [d.row L]) := by rw [hL]; exact lis_node (q := 0) ha3 (by omega)
      have hn1 : (G.h N3)[L + 1]? = some (.vec d.eM (rowsMv d.ms)) := by rw [hL]; exact lis_node (q := 1) ha3 (by omega)
      have hjm : d.ms[j]? = some m := by rw [hR3.mv]; exact hm
      have hjl : j < d.ms.length := (List.getElem?_eq_some_iff.1 hjm).1
      have hrow : (rowsMv d.ms)[0 + ((j : Nat) : Int).toNat]? = some (mvRow m) := by
       rw [show 0 + ((j : Nat) : Int).toNat = j by omega, List.getElem?_map, hjm]
       rfl
      have hks := gs_ks ok g hkE m hmm
      have hmto := (hmb m hmm).2
      have hi5 : i ≤ 5600 := by
       have h2 := (ntsOk_of ok.N).len
       have h3 := segR_lenle G.n
       have h4 := ok.l
       omega
      obtain ⟨ks, to, mc, mm⟩ := m
      simp only at hks hmto
      (repeat' (first | ((conv => whnf); first | refine optO hn0 ?_ | refine optO hn1 ?_ | refine optS hrow ?_ | exact rfl | exact ⟨rfl, rfl⟩ | refine go1 ?_ | (intro ep) | (refine ifB (fun hb => ?_) (fun hb => ?_) <;> (try simp only [qs] at hb) <;> (try simp (disch := omega) only [wrapI] at hb) <;> (try (exfalso; omega))) | fail)))
      all_goals (conv => whnf)
      have hgt := get61 G ok (G.En.length - (i + 1)) (i + 1) (by omega) N3 to q (linv_less hI3 (Nat.zero_le _)) hmto (by omega)
      have hwi : IntKind.i64.wrap ((i : Int) + 1) = ((i + 1 : Nat) : Int) := by rw [wrapI (by omega) (by omega)]; omega
      unfold keyR at hgt
      rw [← hwi] at hgt
      refine ACalls.part (st1 := []) (dy := G.h N3) 0 rfl ?_ ?_ hgt ?_
      ·exact rfl
      ·exact rfl
      intro r h1 hq2
      obtain ⟨hr2, N5, hI5, hE5, hdy5⟩ := wq_ex hq2
      rw [hdy5]
      clear hq2
      unfold getV at hr2
      rw [hw'] at hr2
      simp only at hr2
      subst hr2
      (repeat' (first | ((conv => whnf); first | exact rfl | exact ⟨rfl, rfl⟩ | refine go1 ?_ | (intro ep) | (refine ifB (fun hb => ?_) (fun hb => ?_) <;> (try simp only [qs] at hb) <;> (try simp (disch := omega) only [wrapI] at hb) <;> (try (exfalso; omega))) | fail)))
      all_goals (conv => whnf)
      have tl1 : List.take l.length (List.drop 0 (ints l)) = ints l := by rw [List.drop_zero, List.take_of_length_le (by simp [ints])]
      have tl2 : List.take ks.length (List.drop 0 (ints ks)) = ints ks := by rw [List.drop_zero, List.take_of_length_le (by simp [ints])]
      have ea : ints (l ++ ks) = List.take l.length (List.drop 0 (ints l)) ++ List.take ks.length (List.drop 0 (ints ks)) := by rw [tl1, tl2]; simp [ints]
      have el : (l ++ ks).length = l.length + (List.take ks.length (List.drop 0 (ints ks))).length := by rw [tl2]; simp [ints]
      refine back_of ⟨⟨i + 1, to, w', l ++ ks, ep, N5⟩, ⟨by simp only; omega, hmto, ⟨q, by omega, hw'⟩, linv_down hI5 hE5 hI3, ?_, ?_⟩⟩ ⟨by (first | exact rfl | (simp (disch := omega) only [wrapI]; exact rfl)), ?_, by simp only; omega⟩
      ·simp only
       rw [← z6, List.drop_eq_getElem_cons g, vwG, ← hgi]
       simp only [Int.toNat_natCast, hm, hw', List.append_assoc]
      ·simp only [List.length_append]
       omega
      ·simp only [ea, el, hwi]
       exact rfl
    ·simp only [decide_eq_false_iff_not] at g
     have g : i = G.En.length := by have := ok.l; omega
     rw [List.drop_of_length_le (by omega), vwG, List.append_nil] at z6
     (repeat' (first | ((conv => whnf); first | exact rfl | exact ⟨rfl, rfl⟩ | refine go1 ?_ | (intro ep) | fail)))
     all_goals (conv => whnf)
     refine back_of ⟨(e4, N2), z5⟩ ⟨rfl, rfl, ?_⟩
     rw [← z6]
     rfl
   ·rintro ⟨⟨e4, N2⟩, hN2⟩
    simp only at hN2
    have hno : ∀ o ∈ G.h N2, noO o := lis_no (by rw [ok.D]; exact setD_no fun _ _ => rds_no) fun y hy => (hN2.nd y hy).2.2.1
    refine tr_fz 4 e4 (rows := ints VW) (fr' := frOf 0 70 [(4, .optr (.s 0) q0 3 0 0)]) (st' := [.vec q0 [[.lslc 1 (ints VW) 0 VW.length false, .int .i64 w.c, .int .i64 w.m]], .hole, .hole, .hole, .hole])
     (by exact rfl) (pure_ints _) (by (repeat' (first | exact trivial | exact rfl | ((conv => whnf); first | exact trivial | exact rfl | refine ⟨?_, ?_⟩ | fail)))) (by (repeat' (first | exact trivial | exact rfl | ((conv => whnf); first | exact trivial | exact rfl | refine ⟨?_, ?_⟩ | fail)))) hno rfl rfl (tr_done ?_)
    (repeat' (first | ((conv => whnf); first | exact rfl | exact ⟨rfl, rfl⟩ | refine go1 ?_ | (intro ep) | (refine ifB (fun hb => ?_) (fun hb => ?_) <;> (try simp only [qs] at hb) <;> (try simp (disch := omega) only [wrapI] at hb) <;> (try (exfalso; omega))) | fail)))
    all_goals (conv => whnf)
    rw [hVW]
    exact wq_of ⟨rfl, N2, hN2, rfl⟩
end Go.Ab.V

namespace Go.Ab.V
open Go.Proofs
@[irreducible] def S4Q (S : FSr) (res : Option (List Int)) (r : AV) (h' : Heap) : Prop := match res with
 | none => r = .bool true ∧ h'.st.take 4 = S.h4 .nils 72 ∧ h'.dy = []
 | some s => r = .bool false ∧ h'.st.take 4 = S.h4 (intsA s) (S.F s) ∧ h'.dy = []
end Go.Ab.V

namespace Go.Ab.V
open Go.Proofs
end Go.Ab.V

namespace Go.Ab.V
open Go.Proofs
end Go.Ab.V

namespace Go.Ab.V
open Go.Proofs
end Go.Ab.V

namespace Go.Ab.V
theorem ddA_len {α : Type} [DecidableEq α] : ∀ (T A : List α), (ddA A T).length ≤ A.length + T.length
 | [], A => Nat.le_refl _
 | t :: T, A => by
  have h1 := ddA_len T (putN A t)
  have h2 : (putN A t).length ≤ A.length + 1 := by unfold putN; split <;> simp
  show (ddA (putN A t) T).length ≤ _
  simp only [List.length_cons]
  omega
theorem layG_len {x : Lm} (X : LmOk x) {n : List Nt} (hN : chkN n = 0) (i : Nat) (f : List St) (cs : List Int) : (layG x n i f cs ([], [])).1.length ≤ f.length * 3125 := by
 rw [layG_fst]
 have h1 := ddA_len (f.flatMap fun v => (mvE x n i v).map (·.to)) []
 have h2 : (f.flatMap fun v => (mvE x n i v).map (·.to)).length ≤ f.length * 3125 := flatMap_len fun v _ => by
  rw [List.length_map]
  exact mvE_len X hN i v
 have h3 : (ddA ([], ([] : List Int)).1 (f.flatMap fun v => (mvE x n i v).map (·.to))).length ≤ f.length * 3125 := by
  simp only [List.length_nil] at h1
  show (ddA [] _).length ≤ _
  omega
 exact h3
theorem runL_sz {x : Lm} (X : LmOk x) {n : List Nt} (hN : chkN n = 0) : ∀ (k i : Nat) (y : Lay) (Ls : List Lay), y.1.length ≤ 1000 → (runL x n k i y Ls).1 = 0 → ∀ z ∈ (runL x n k i y Ls).2.1, z ∈ Ls ∨ z.1.length ≤ 3125000
 | 0, i, y, Ls, hy, _, z, hz => by
  rw [runL] at hz
  rcases List.mem_append.1 hz with h | h
  ·exact .inl h
  ·rw [List.mem_singleton.1 h]; right; omega
 | k + 1, i, y, Ls, hy, h0, z, hz => by
  have hlF := layF_G x n i (k == 0) y.1 y.2 ([], []) (.inr (by simp))
  have hlen := layG_len X hN i y.1 y.2
  rw [runL, hlF] at h0 hz
  generalize layG x n i y.1 y.2 ([], []) = Y at h0 hz hlen
  by_cases cM : (k == 0) = false ∧ 1000 < Y.1.length
  ·rw [if_pos cM] at h0; exact absurd h0 (by show ¬ (2 : Int) = 0; decide)
  ·rw [if_neg cM] at h0 hz
   simp only at h0 hz
   by_cases cY : Y.1 = []
   ·rw [if_pos cY] at h0; exact absurd h0 (by show ¬ (72 : Int) = 0; decide)
   ·rw [if_neg cY] at h0 hz
    cases k with
    | zero =>
     rw [runL] at hz
     rcases List.mem_append.1 hz with h | h
     ·rcases List.mem_append.1 h with h | h
      ·exact .inl h
      ·rw [List.mem_singleton.1 h]; right; omega
     ·rw [List.mem_singleton.1 h]; right; omega
    | succ k =>
     have c : Y.1.length ≤ 1000 := by
      by_cases c : 1000 < Y.1.length
      ·exact absurd ⟨by simp, c⟩ cM
      ·omega
     rcases runL_sz X hN (k + 1) (i + 1) Y (Ls ++ [y]) c h0 z hz with h | h
     ·rcases List.mem_append.1 h with h | h
      ·exact .inl h
      ·rw [List.mem_singleton.1 h]; right; omega
     ·exact .inr h
def enR (x : Lm) (n : List Nt) : Steps := (expR x n (segR 0 n) 0 [[0, 0, 0, 0, 0]] []).1
structure Graph (x : Lm) (n : List Nt) (Ls : List Lay) : Prop where
 run : runL x n (segR 0 n).length 0 ([st0], [1]) [] = (0, Ls, (segR 0 n).length - 1)
 g : GR x n 0 Ls (enR x n)
 l : (enR x n).length = (segR 0 n).length
 h0 : Ls[0]? = some ([st0], [1])
 sz : ∀ y ∈ Ls, y.1.length ≤ 100000000
theorem graph_of {x : Lm} {n : List Nt} (X : LmOk x) (hN : chkN n = 0) (h0 : errR x n = 0) : ∃ Ls, Graph x n Ls := by
 have hch : Chain n.length 0 (segR 0 n) := by have := chain_segR n.length 0 n (Nat.le_refl _); rwa [Nat.zero_add] at this
 have hr := run_exp X hN (segR 0 n).length 0 0 [[0, 0, 0, 0, 0]] ([st0], [1]) [] [] (by simp) (by simpa using hch) lay0_ok (fun _ => ⟨rfl, fun z hz => by rw [List.mem_singleton.1 hz]; exact ZOk.zero _⟩)
 rw [List.drop_zero] at hr
 have he := hr.err
 have hz := runL_sz X hN (segR 0 n).length 0 ([st0], [1]) [] (by simp) h0
 have h0' : (runL x n (segR 0 n).length 0 ([st0], [1]) []).1 = 0 := h0
 obtain ⟨g0, Ln, En, g1, g2, g3, g4, g5⟩ := hr.good (by rw [← he]; exact h0')
 have e : enR x n = En := by unfold enR; rw [g2]; rfl
 refine ⟨([st0], [1]) :: Ln, ?_, by rw [e]; exact g5, by rw [e, g4], rfl, fun y hy => ?_⟩
 ·generalize runL x n (segR 0 n).length 0 ([st0], [1]) [] = R at g0 g1 h0'
  obtain ⟨a, b, c⟩ := R
  simp only at g0 g1 h0'
  rw [g0, g1, h0']; rfl
 ·rcases hz y (by rw [g1]; exact hy) with h | h
  ·simp at h
  ·omega
theorem Graph.len {x : Lm} {n : List Nt} {Ls : List Lay} (h : Graph x n Ls) : 0 < Ls.length := (List.getElem?_eq_some_iff.1 h.h0).1
theorem Graph.lay0 {x : Lm} {n : List Nt} {Ls : List Lay} (h : Graph x n Ls) : ∀ (h : 0 < Ls.length), LayOk Ls[0] := fun hl => by
 have := (List.getElem?_eq_some_iff.1 h.h0).2
 rw [this]
 exact lay0_ok
theorem Graph.one {x : Lm} {n : List Nt} {Ls : List Lay} (h : Graph x n Ls) (h1 : 0 < (enR x n).length) : ((enR x n).getD 0 []).length = 1 := by
 have hll := gr_len h.g
 have S := gr_at h.g h1 h.len (by omega)
 rw [List.getD_eq_getElem?_getD, List.getElem?_eq_getElem h1]
 have e := (List.getElem?_eq_some_iff.1 h.h0).2
 have := S.len
 rw [e] at this
 exact this
def voisA (l : List (List AV)) : AV := .lslc 3 l 0 l.length false
def voiL (G : Steps) (most : Nat) : List (List AV) := ((WG G 0).take most).map fun w => voiR (vwG G 0 w) w.c w.m
theorem voiL_len {G : Steps} {most : Nat} : (voiL G most).length ≤ most := by unfold voiL; rw [List.length_map, List.length_take]; omega
def listV (x : Lm) (n : List Nt) (most : Int) : AV := if both x n ≠ 0 then .tup [.nils, .int .i64 (both x n)] else if ¬ (1 ≤ most ∧ most ≤ 64) then .tup [.nils, .int .i64 1] else
 if errR x n ≠ 0 then .tup [.nils, .int .i64 (errR x n)] else .tup [voisA (voiL (enR x n) most.toNat), .int .i64 0]
theorem pure_voiL (G : Steps) (most : Nat) : pureRows (voiL G most) := by unfold voiL; exact pure_map _ fun w => rfl
theorem voiL_step {G : Steps} {r : Nat} {w : Wy} (h : (WG G 0)[r]? = some w) : voiL G (r + 1) = voiL G r ++ [voiR (vwG G 0 w) w.c w.m] := by
 unfold voiL
 rw [List.take_add_one, h, List.map_append]
 rfl
theorem voiL_all {G : Steps} {r m : Nat} (h : (WG G 0)[r]? = none) (hm : r ≤ m) : voiL G m = voiL G r := by
 unfold voiL
 have := List.getElem?_eq_none_iff.1 h
 rw [List.take_of_length_le (by omega), List.take_of_length_le (by omega)]
end Go.Ab.V

namespace Go.Ab.V
open Go.Proofs
def A12 : Ann := fun r => match r with
 | 0 => { slots := [(0, 0)] }
 | 10 => { slots := [(1, 1), (3, 2)] }
 | 14 => { slots := [(6, 3)] }
 | 16 => { slots := [(2, 4), (3, 5)] }
 | _ => {}
set_option maxHeartbeats 16000000 in
set_option maxRecDepth 100000 in
theorem list12 (x : Lm) (n : List Nt) (most : Int) (hl : x.lo.length ≤ 9223372036854775807) (hh : x.hi.length ≤ 9223372036854775807) (h3 : n.length ≤ 9223372036854775807) : PRet C.P 12 [lmA x, ntsA n, .int .i64 most] (listV x n most) := by
 have hB := check51_spec x n hl hh h3
 have hW := within_spec most 1 64
 unfold listV
 by_cases c1 : both x n ≠ 0
 ·rw [if_pos c1]
  generalize both x n = b at hB c1
  refine pret_of (okx [] [35, 36, 37]) mixed (A := A12) 7 Try.func12 rfl ?_
  (repeat' (first | exact rfl | ((conv => whnf); first | refine ⟨_, hB, ?_⟩ | exact rfl | exact ⟨rfl, rfl⟩ | refine go1 ?_ | (intro ep) | (refine ifB (fun hb => ?_) (fun hb => ?_) <;> (try simp only [qs] at hb) <;> (try simp (disch := omega) only [wrapI] at hb) <;> (try (exfalso; omega))) | fail)))
 rw [if_neg c1]
 have c1 : both x n = 0 := by omega
 rw [c1] at hB
 by_cases c2 : ¬ (1 ≤ most ∧ most ≤ 64)
 ·rw [if_pos c2]
  have e : (decide (1 ≤ most) && decide (most ≤ 64)) = false := by
   rw [Bool.and_eq_false_iff, decide_eq_false_iff_not, decide_eq_false_iff_not]
   omega
  rw [e] at hW
  refine pret_of (okx [] [35, 36, 37]) mixed (A := A12) 7 Try.func12 rfl ?_
  (repeat' (first | exact rfl | ((conv => whnf); first | refine ⟨_, hB, ?_⟩ | refine ⟨_, hW, ?_⟩ | exact rfl | exact ⟨rfl, rfl⟩ | refine go1 ?_ | (intro ep) | (refine ifB (fun hb => ?_) (fun hb => ?_) <;> (try simp only [qs] at hb) <;> (try simp (disch := omega) only [wrapI] at hb) <;> (try (exfalso; omega))) | fail)))
 rw [if_neg c2]
 have c2 : 1 ≤ most ∧ most ≤ 64 := Classical.not_not.1 c2
 have e : (decide (1 ≤ most) && decide (most ≤ 64)) = true := by
  rw [Bool.and_eq_true, decide_eq_true_eq, decide_eq_true_eq]
  exact c2
 rw [e] at hW
 obtain ⟨mo, rfl⟩ : ∃ mo : Nat, most = (mo : Int) := ⟨most.toNat, by omega⟩
 have hX : chkL x = 0 := by
  unfold both at c1; split at c1
  ·rename_i h; exact absurd c1 h
  ·rename_i h; simpa using h
 have hN : chkN n = 0 := by unfold both at c1; rw [hX] at c1; simpa using c1
 have X := lmOk_of hX
 have hr := run35 x n X hN
 have herr : errR x n = (runL x n (segR 0 n).length 0 ([st0], [1]) []).1 := rfl
 by_cases c3 : errR x n ≠ 0
 ·rw [if_pos c3]
  obtain ⟨b, hb⟩ : ∃ b, b = errR x n := ⟨_, rfl⟩
  rw [← hb] at c3 ⊢
  rw [herr] at hb
  refine pret_of (okx [] [35, 36, 37]) mixed (A := A12) 7 Try.func12 rfl ?_
  (repeat' (first | exact rfl | ((conv => whnf); first | refine ⟨_, hB, ?_⟩ | refine ⟨_, hW, ?_⟩ | exact rfl | exact ⟨rfl, rfl⟩ | refine go1 ?_ | (intro ep) | (refine ifB (fun hb => ?_) (fun hb => ?_) <;> (try simp only [qs] at hb) <;> (try simp (disch := omega) only [wrapI] at hb) <;> (try (exfalso; omega))) | fail)))
  all_goals (conv => whnf)
  refine ACalls.part (st1 := []) (dy := []) 0 rfl (by exact rfl) (by exact rfl) hr ?_
  intro r h1 hq
  obtain ⟨es, e1, ε, rfl, hd⟩ := wq_ex hq
  rw [hd, ← hb]
  (repeat' (first | exact rfl | ((conv => whnf); first | exact rfl | exact ⟨rfl, rfl⟩ | refine go1 ?_ | (intro ep) | (refine ifB (fun hb => ?_) (fun hb => ?_) <;> (try simp only [qs] at hb) <;> (try simp (disch := omega) only [wrapI] at hb) <;> (try (exfalso; omega))) | fail)))
 rw [if_neg c3]
 have c3 : errR x n = 0 := by omega
 obtain ⟨Ls, hG⟩ := graph_of X hN c3
 obtain ⟨En, hEn⟩ : ∃ En, En = enR x n := ⟨_, rfl⟩
 have gg := hG.g
 have gl := hG.l
 have g1 := hG.one
 rw [← hEn] at gg gl g1 ⊢
 rw [hG.run] at hr
 obtain ⟨t, ht⟩ : ∃ t, t = (segR 0 n).length - 1 := ⟨_, rfl⟩
 rw [← ht] at hr
 rw [Int.toNat_natCast]
 refine pret_of (okx [] [35, 36, 37]) mixed (A := A12) 7 Try.func12 rfl ?_
 (repeat' (first | exact rfl | ((conv => whnf); first | refine ⟨_, hB, ?_⟩ | refine ⟨_, hW, ?_⟩ | exact rfl | exact ⟨rfl, rfl⟩ | refine go1 ?_ | (intro ep) | (refine ifB (fun hb => ?_) (fun hb => ?_) <;> (try simp only [qs] at hb) <;> (try simp (disch := omega) only [wrapI] at hb) <;> (try (exfalso; omega))) | fail)))
 all_goals (conv => whnf)
 refine ACalls.part (st1 := []) (dy := []) 0 rfl (by exact rfl) (by exact rfl) hr ?_
 intro r h1 hq
 obtain ⟨es, e1, ε, rfl, hd⟩ := wq_ex hq
 rw [hd]
 (repeat' (first | exact rfl | ((conv => whnf); first | exact rfl | exact ⟨rfl, rfl⟩ | refine go1 ?_ | (intro ep) | (refine ifB (fun hb => ?_) (fun hb => ?_) <;> (try simp only [qs] at hb) <;> (try simp (disch := omega) only [wrapI] at hb) <;> (try (exfalso; omega))) | fail)))
 all_goals (conv => whnf)
 refine ACalls.part (st1 := []) (dy := runD x n es e1 ε Ls t) 0 rfl (by exact rfl) (by exact rfl) (settle36 x n X hN es e1 ε Ls En t gg gl hG.lay0 hG.sz) ?_
 intro r h2 hq2
 obtain ⟨rfl, hd2⟩ := wq_ex hq2
 obtain ⟨D0, hD0⟩ : ∃ D0, D0 = setD x n es e1 ε Ls t (RDs En Ls 0) := ⟨_, rfl⟩
 rw [hd2, ← hD0]
 (repeat' (first | exact rfl | ((conv => whnf); first | exact rfl | exact ⟨rfl, rfl⟩ | refine go1 ?_ | (intro ep) | (refine ifB (fun hb => ?_) (fun hb => ?_) <;> (try simp only [qs] at hb) <;> (try simp (disch := omega) only [wrapI] at hb) <;> (try (exfalso; omega))) | fail)))
 all_goals (conv => whnf)
 rename_i q0 q1
 have hno0 : ∀ o ∈ D0, noO o := by rw [hD0]; exact setD_no fun _ _ => rds_no
 refine wk_tr ?_
 refine tr_mask [6, 10, 38, 39] [1, 2] (fr' := frOf 0 56 [(6, .nils), (10, .optr (.s 2) ep 2 0 0), (38, .int .i64 (mo : Int)), (39, .int .i64 0)])
  (h' := ⟨[.hole, .map q1 [], .vec ep [[.optr (.d 0) es 8 0 0, .mp (.s 1) q1]], .hole, .hole, .hole, .hole], D0⟩) (by exact rfl) (by exact rfl) ?_
 refine tr_mvG 1 q1 (by exact rfl) (by exact rfl) (by (repeat' (first | exact trivial | exact rfl | ((conv => whnf); first | exact trivial | exact rfl | refine ⟨?_, ?_⟩ | fail)))) (by (repeat' (first | exact trivial | exact rfl | ((conv => whnf); first | exact trivial | exact rfl | refine ⟨?_, ?_⟩ | fail)))) (by (repeat' (first | exact trivial | exact rfl | ((conv => whnf); first | exact trivial | exact rfl | refine ⟨?_, ?_⟩ | fail)))) hno0 fun em => ?_
 refine tr_eq (fr' := frOf 0 56 [(6, .nils), (10, .optr (.s 2) ep 2 0 0), (38, .int .i64 (mo : Int)), (39, .int .i64 0)])
  (h' := ⟨[.hole, .hole, .vec ep [[.optr (.d 0) es 8 0 0, .mp (.d D0.length) em]], .hole, .hole, .hole, .hole], D0 ++ [.map em []]⟩) (by exact rfl) (by exact rfl) ?_
 refine tr_mvG 2 ep (by exact rfl) (by exact rfl) (by (repeat' (first | exact trivial | exact rfl | ((conv => whnf); first | exact trivial | exact rfl | refine ⟨?_, ?_⟩ | fail)))) (by (repeat' (first | exact trivial | exact rfl | ((conv => whnf); first | exact trivial | exact rfl | refine ⟨?_, ?_⟩ | fail)))) (by (repeat' (first | exact trivial | exact rfl | ((conv => whnf); first | exact trivial | exact rfl | refine ⟨?_, ?_⟩ | fail)))) (fun o ho => by
  rcases List.mem_append.1 ho with h | h
  ·exact hno0 o h
  ·rw [List.mem_singleton.1 h]; intro a ha; simp [celO] at ha) fun el => ?_
 refine tr_eq (fr' := frOf 0 56 [(6, .nils), (10, .optr (.d (D0.length + 1)) el 2 0 0), (38, .int .i64 (mo : Int)), (39, .int .i64 0)])
  (h' := ⟨[.hole, .hole, .hole, .hole, .hole, .hole, .hole], lisD D0 es em el []⟩) (by rw [List.length_append]; exact rfl) (congrArg₂' Heap.mk rfl (by rw [List.append_assoc]; exact rfl)) (tr_done ?_)
 obtain ⟨G, hGG⟩ : ∃ G : GS, G = ⟨x, n, es, e1, ε, Ls, En, t, D0, em, el⟩ := ⟨_, rfl⟩
 have ok : G.Ok := by rw [hGG]; exact ⟨X, hN, gg, gl, hG.lay0, hG.sz, hD0⟩
 have hGp : .optr (.d (D0.length + 1)) el 2 0 0 = G.p := by rw [hGG]
 have hGh : lisD D0 es em el [] = G.h [] := by rw [hGG]
 have hGE : En = G.En := by rw [hGG]
 have hI0 : LInv G.En 0 [] := ⟨by intro a b y z h; simp at h, by simp⟩
 rw [hGp, hGh]
 rw [hGE] at g1 ⊢
 have hv := fun N hI r hr => voicing37 G ok (fun h => by rw [g1 h]; omega) N hI r hr
 clear hGp hGh hGE hGG
 refine wk_lift 6 6 3 rfl ?_
 intro eo
 refine loopY (okx [] [35, 36, 37]) mixed (A := A12) [6, 10, 38, 39] [6] (S := { z : Nat × Nat × List NK // z.2.1 ≤ mo ∧ LInv G.En 0 z.2.2 ∧ (voiL G.En z.2.1).length = z.2.1 })
  (fr := fun z => frOf 0 56 [(6, .oslc (.s 6) z.1.1 3 0 z.1.2.1 false), (10, G.p), (38, .int .i64 (mo : Int)), (39, .int .i64 (z.1.2.1 : Int))])
  (h := fun z => ⟨[.hole, .hole, .hole, .hole, .hole, .hole, .vec z.1.1 (voiL G.En z.1.2.1)], G.h z.1.2.2⟩) (μ := fun z => mo - z.1.2.1)
  ⟨(eo, 0, []), Nat.zero_le _, hI0, rfl⟩ ?_ ?_
  [6] [6] (S' := Nat × List NK) (X := fun _ => 0) (frX := fun z => frOf 0 56 [(6, .oslc (.s 6) z.1 3 0 (voiL G.En mo).length false)]) (hX := fun z => ⟨[.hole, .hole, .hole, .hole, .hole, .hole, .vec z.1 (voiL G.En mo)], G.h z.2⟩)
  [] [] (S2 := Empty) (frR := fun _ => []) (hR := fun _ => Heap.nil) ?_ (fun z => z.elim) ?_
 ·exact rfl
 ·exact rfl
 ·rintro ⟨⟨eo, r, N⟩, hr2, hI, hlen⟩
  simp only at hr2 hI hlen
  show aexR _ _ _ (frOf 0 56 [(6, .oslc (.s 6) eo 3 0 r false), (10, G.p), (38, .int .i64 (mo : Int)), (39, .int .i64 (r : Int))])
   ⟨[.hole, .hole, .hole, .hole, .hole, .hole, .vec eo (voiL G.En r)], G.h N⟩ _
  (conv => whnf)
  refine ifB (fun g => ?_) (fun g => ?_)
  ·simp only [decide_eq_true_eq] at g
   have g : r < mo := by omega
   have hv1 := hv N hI r (by omega)
   (repeat' (first | ((conv => whnf); first | exact rfl | exact ⟨rfl, rfl⟩ | refine go1 ?_ | (intro ep) | fail)))
   all_goals (conv => whnf)
   refine ACalls.part (st1 := []) (dy := G.h N) 0 rfl (by exact rfl) (by exact rfl) hv1 ?_
   intro rv h3 hq3
   obtain ⟨rfl, N', hI', hd3⟩ := wq_ex hq3
   rw [hd3]
   unfold voiV
   cases hw : (WG G.En 0)[r]? with
   | none =>
    simp only
    (repeat' (first | ((conv => whnf); first | exact rfl | exact ⟨rfl, rfl⟩ | refine go1 ?_ | (intro ep) | (refine ifB (fun hb => ?_) (fun hb => ?_) <;> (try simp only [qs] at hb) <;> (try simp (disch := omega) only [wrapI] at hb) <;> (try (exfalso; omega))) | fail)))
    all_goals (conv => whnf)
    have e := voiL_all hw (m := mo) (by omega)
    refine back_of (eo, N') ⟨trivial, ?_, ?_⟩
    ·simp only [e, hlen]
     exact rfl
    ·simp only [e]
     exact rfl
   | some w =>
    simp only
    (repeat' (first | ((conv => whnf); first | exact rfl | exact ⟨rfl, rfl⟩ | refine go1 ?_ | (intro ep) | (refine ifB (fun hb => ?_) (fun hb => ?_) <;> (try simp only [qs] at hb) <;> (try simp (disch := omega) only [wrapI] at hb) <;> (try (exfalso; omega))) | fail)))
    all_goals (conv => whnf)
    have tl : List.take r (List.drop 0 (voiL G.En r)) = voiL G.En r := by rw [List.drop_zero, List.take_of_length_le (by omega)]
    have e := voiL_step hw
    refine back_of (S := { z : Nat × Nat × List NK // z.2.1 ≤ mo ∧ LInv G.En 0 z.2.2 ∧ (voiL G.En z.2.1).length = z.2.1 }) ⟨(ep, r + 1, N'), g, hI', by simp only [e, List.length_append, hlen]; rfl⟩ ⟨by (first | exact rfl | (simp (disch := omega) only [wrapI]; exact rfl)), ?_, by simp only; omega⟩
    have e' : voiL G.En (r + 1) = List.take r (List.drop 0 (voiL G.En r)) ++ [voiR (vwG G.En 0 w) w.c w.m] := by rw [tl, e]
    simp only [e']
    exact rfl
  ·simp only [decide_eq_false_iff_not] at g
   have g : r = mo := by omega
   subst g
   (repeat' (first | ((conv => whnf); first | exact rfl | exact ⟨rfl, rfl⟩ | refine go1 ?_ | (intro ep) | fail)))
   all_goals (conv => whnf)
   exact back_of (eo, N) ⟨rfl, by simp only [hlen]; exact rfl, rfl⟩
 ·rintro ⟨eo, N⟩
  (repeat' (first | ((conv => whnf); first | refine ⟨pure_voiL _ _, ?_⟩ | exact rfl | exact ⟨rfl, rfl⟩ | refine go1 ?_ | (intro ep) | (refine ifB (fun hb => ?_) (fun hb => ?_) <;> (try simp only [qs] at hb) <;> (try simp (disch := omega) only [wrapI] at hb) <;> (try (exfalso; omega))) | fail)))
end Go.Ab.V
