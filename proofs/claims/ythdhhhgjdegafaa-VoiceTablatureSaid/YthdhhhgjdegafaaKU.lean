/-
  What is proved here serves the law's text: each part says its own claim and its conditions. No condition is left open.
-/
import Derived.Test.YthdhhhgjdegafaaKS
import Derived.Test.YthdhhhgjdegafaaKT
set_option linter.unusedSimpArgs false
set_option linter.unusedVariables false

namespace Go.Ab.V
open Go.Proofs
theorem padTo_of {n : Nat} {l m : List AObj} (h : l.take n = m) (hm : m.length = n) : padTo n l = m := by
 have hl : n ≤ l.length := by rw [← h] at hm; simp at hm; omega
 unfold padTo
 rw [List.take_append_of_le_length hl, h]
def PSl (b : PS) (em e7 e11 e12 : Nat) (f : List St) (cs : List Int) : PS := { b with o6 := .map em (mapS 0 f), o7 := .vec e7 [[.oslc (.s 11) e11 25 0 f.length false, .mp (.s 6) em, .nils, .nils, .oslc (.s 12) e12 1 0 f.length false]], o11 := .vec e11 (rowsS f), o12 := .vec e12 (ints cs) }
def cs1 (f : List St) (cs : List Int) (v : St) : List Int := if v ∈ f then cs else cs ++ [0]
def mnC (a : Int) : Int := if 1099511627776 < a then 1099511627776 else a
def cnt1 (f : List St) (cs : List Int) (v : St) (w : Int) : List Int := (cs1 f cs v).set (idxA v (putN f v)) (mnC ((cs1 f cs v).getD (idxA v (putN f v)) 0 + w))
theorem cs1_len {f : List St} {cs : List Int} (v : St) (h : cs.length = f.length) : (cs1 f cs v).length = (putN f v).length := by
 unfold cs1 putN; split <;> simp [h]
def A57 : Ann := fun r => match r with
 | 0 => { slots := [(0, 21), (1, 22)] }
 | _ => {}
set_option maxHeartbeats 16000000 in
set_option maxRecDepth 100000 in
theorem run57 (M : ME) (b : PS) (em e7 e11 e12 e8 e5 e9 w ew kk : Nat) (F I R1 R2 : AV) (wcs : List Int) (f : List St) (cs : List Int) (h8 : b.o8 = .vec e8 [[.optr (.s 7) e7 5 0 0]]) (h5 : b.o5 = .vec e5 [[.optr (.d w) ew 5 0 0]]) (h9 : b.o9 = .vec e9 [[.int .i64 (kk : Int)]])
  (hcaps : M.caps = [.optr (.s 8) e8 1 0 0, .optr (.s 5) e5 1 0 0, .optr (.s 9) e9 1 0 0]) (hfy : M.fy = 57) (hD : (M.ob :: b.D)[w]? = some (.vec ew [[F, I, R1, R2, .lslc 1 (ints wcs) 0 wcs.length false]])) (hkk : kk < wcs.length) (hw : ∀ z ∈ wcs, 0 ≤ z ∧ z ≤ 1099511627776)
  (hn : f.Nodup) (hb : ∀ s ∈ f, s.bd) (hcl : cs.length = f.length) (hcs : ∀ z ∈ cs, 0 ≤ z ∧ z ≤ 1099511627776) (hfl : f.length ≤ 100000000) (v : Mv) (hv : v.to.bd) :
  YC M v (PSl b em e7 e11 e12 f cs) fun S' => ∃ a c, S' = PSl b em e7 a c (putN f v.to) (cnt1 f cs v.to wcs[kk]) := by
 intro e20 R hR hRp
 rw [hfy, hcaps]
 obtain ⟨ks, c, m, to⟩ := v
 simp only at hv hR ⊢
 have hk1 := intsR hkk
 have hwk := hw _ (List.getElem_mem hkk)
 generalize wcs[kk] = wk at hk1 hwk
 have hl1 := cs1_len to hcl
 have hmem : to ∈ putN f to := putN_mem.2 (.inr rfl)
 have hix := idxA_lt hmem
 have hk2 := intsR (l := cs1 f cs to) (i := idxA to (putN f to)) (by omega)
 have hgd : (cs1 f cs to).getD (idxA to (putN f to)) 0 = (cs1 f cs to)[idxA to (putN f to)]'(by omega) := by simp [List.getD, hl1, hix]
 have hbd : 0 ≤ (cs1 f cs to).getD (idxA to (putN f to)) 0 ∧ (cs1 f cs to).getD (idxA to (putN f to)) 0 ≤ 1099511627776 := by
  rw [hgd]
  have hmm := List.getElem_mem (l := cs1 f cs to) (n := idxA to (putN f to)) (by omega)
  generalize (cs1 f cs to)[idxA to (putN f to)] = z at hmm
  unfold cs1 at hmm
  split at hmm
  ·exact hcs z hmm
  ·rcases List.mem_append.1 hmm with h | h
   ·exact hcs z h
   ·simp at h; omega
 rw [← hgd] at hk2
 clear hgd
 have hset : ∀ z, ints ((cs1 f cs to).set (idxA to (putN f to)) z) = (ints (cs1 f cs to)).set (0 + ((idxA to (putN f to) : Nat) : Int).toNat) [.int .i64 z] := fun z => by
  unfold ints; rw [List.map_set]; simp
 unfold cnt1
 have hA := fun D => add55 b em e7 e11 e12 f cs to hn hb hv hcl hfl D
 rw [show (if to ∈ f then cs else cs ++ [0]) = cs1 f cs to from rfl] at hA
 generalize (cs1 f cs to).getD (idxA to (putN f to)) 0 = cz at hk2 hbd
 generalize hcc : cs1 f cs to = cc at hk2 hA hl1 hset
 generalize hff : putN f to = ff at hk2 hA hl1 hix hset
 generalize idxA to ff = ii at hk2 hA hix hset
 have hwr : IntKind.i64.wrap (cz + wk) = cz + wk := wrapI (by omega) (by omega)
 refine ACalls.mono (K := Wq _) ?_ (fun r h' h => wq_ex h)
 refine fn_of (okz [] [55] []) mixed (A := A57) 2 Try.func57 rfl ?_
 unfold PSl
 simp only [PS.l]
 rw [h8, h5, h9]
 (repeat' (first | ((conv => whnf); first | refine optO hD ?_ | refine optS hk1 ?_ | refine optS hk2 ?_ | exact rfl | exact ⟨rfl, rfl⟩ | refine go1 ?_ | (intro ep) | (refine ifB (fun hb => ?_) (fun hb => ?_) <;> (try simp only [qs] at hb) <;> (try simp (disch := omega) only [wrapI] at hb) <;> (try (exfalso; omega))) | fail)))
 all_goals (conv => whnf)
 refine ACalls.part (st1 := LY b em e7 e11 e12 f cs) (dy := M.ob :: b.D) 13 (by exact rfl) (by unfold LY; rw [h8, h5, h9]; exact rfl) (by exact rfl) (hA _) ?_
 rintro r h1 hq
 obtain ⟨rfl, p, q, hst, hd⟩ := wq_ex hq
 rw [padTo_of hst rfl, hd]
 unfold LY
 rw [h8, h5, h9]
 (repeat' (first | ((conv => whnf); first | refine optO hD ?_ | refine optS hk1 ?_ | refine optS hk2 ?_ | exact rfl | exact ⟨rfl, rfl⟩ | refine go1 ?_ | (intro ep) | (refine ifB (fun hb => ?_) (fun hb => ?_) <;> (try simp only [qs] at hb) <;> (try simp (disch := omega) only [wrapI] at hb) <;> (try (exfalso; omega))) | fail)))
 all_goals (conv => whnf)
 all_goals refine wq_of ⟨_, ⟨p, q, rfl⟩, ?_, rfl⟩
 all_goals simp only [hset, hwr, mnC, Bool.false_eq_true, if_false]
 all_goals exact rfl
end Go.Ab.V

namespace Go.Ab.V
theorem flatMap_len {α β : Type} {f : α → List β} {k : Nat} : ∀ {l : List α}, (∀ a ∈ l, (f a).length ≤ k) → (l.flatMap f).length ≤ l.length * k
 | [], _ => by simp
 | a :: l, h => by
  have h1 := h a (List.mem_cons_self ..)
  have h2 := flatMap_len (l := l) fun b hb => h b (List.mem_cons_of_mem _ hb)
  simp only [List.flatMap_cons, List.length_append, List.length_cons]
  rw [Nat.succ_mul]; omega
theorem dfs_len {N V σ : Type} (step : σ → N → V → Option σ) (vs : List V) : ∀ (r : List N) (s : σ) (l : List V), (dfs step vs r s l).length ≤ vs.length ^ r.length
 | [], s, l => by simp [dfs]
 | n :: r, s, l => by
  rw [dfs, List.length_cons, Nat.pow_succ, Nat.mul_comm]
  refine flatMap_len fun v hv => ?_
  cases step s n v with
  | none => simp
  | some s' => exact dfs_len step vs r s' _
theorem dfs_inv {N V σ : Type} (step : σ → N → V → Option σ) (vs : List V) (I : List N → σ → List V → Prop) (hI : ∀ n r s l v s', I (n :: r) s l → v ∈ vs → step s n v = some s' → I r s' (l ++ [v])) :
  ∀ (r : List N) (s : σ) (l : List V), I r s l → ∀ a ∈ dfs step vs r s l, I [] a.2 a.1
 | [], s, l, h, a, ha => by rw [dfs, List.mem_singleton] at ha; subst ha; exact h
 | n :: r, s, l, h, a, ha => by
  rw [dfs] at ha
  obtain ⟨v, hv, h2⟩ := List.mem_flatMap.1 ha
  cases hs : step s n v with
  | none => rw [hs] at h2; simp at h2
  | some s' => rw [hs] at h2; exact dfs_inv step vs I hI r s' _ (hI n r s l v s' h hv hs) a h2
theorem nodup_len : ∀ (L : Nat) (l : List Int), l.Nodup → (∀ v ∈ l, 1 ≤ v ∧ v ≤ L) → l.length ≤ L := by
 intro L
 induction L with
 | zero =>
  intro l _ h
  cases l with
  | nil => simp
  | cons v r => have := h v (List.mem_cons_self ..); omega
 | succ L ih =>
  intro l hn h
  have h1 := ih (l.erase ((L : Int) + 1)) (hn.erase _) fun v hv => by
   have h2 := h v (List.mem_of_mem_erase hv)
   have h3 : v ≠ (L : Int) + 1 := fun e => by subst e; exact hn.not_mem_erase hv
   omega
  have h2 := List.length_erase (a := (L : Int) + 1) (l := l)
  split at h2 <;> omega
theorem join_some {x : Lm} {s : St} {n : Nt} {v : Int} {d : Int × St} (h : join x s n v = some d) : (1 ≤ v ∧ v ≤ x.lo.length) ∧ ¬ (0 < (s.get (v - 1).toNat).t ∧ (s.get (v - 1).toNat).e = n.e) ∧ d.2 = s.set (v - 1).toNat n := by
 unfold join at h
 split at h
 ·cases h
 rename_i c1
 split at h
 ·cases h
 split at h
 ·cases h
 rename_i c3
 refine ⟨by omega, c3, ?_⟩
 split at h
 ·split at h
  ·cases h
  ·cases h; rfl
 ·cases h; rfl
structure WkI (x : Lm) (e : Int) (r : List Nt) (s : St × Int) (l : List Int) : Prop where
 nd : l.Nodup
 rng : ∀ v ∈ l, 1 ≤ v ∧ v ≤ x.lo.length
 has : ∀ v ∈ l, 0 < (s.1.get (v - 1).toNat).t ∧ (s.1.get (v - 1).toNat).e = e
 rest : ∀ n ∈ r, 0 < n.t ∧ n.e = e
theorem wkI_step {x : Lm} (h5 : x.lo.length ≤ 5) {e : Int} {n : Nt} {r : List Nt} {s s' : St × Int} {l : List Int} {v : Int} (h : WkI x e (n :: r) s l) (hs : stp x s n v = some s') : WkI x e r s' (l ++ [v]) := by
 unfold stp at hs
 rw [Option.map_eq_some_iff] at hs
 obtain ⟨d, hd, rfl⟩ := hs
 obtain ⟨j1, j2, j3⟩ := join_some hd
 have hn := h.rest n (List.mem_cons_self ..)
 have hnew : v ∉ l := fun hv => j2 ⟨(h.has v hv).1, by rw [(h.has v hv).2, hn.2]⟩
 refine ⟨?_, fun u hu => ?_, fun u hu => ?_, fun m hm => h.rest m (List.mem_cons_of_mem _ hm)⟩
 ·rw [List.nodup_append]
  exact ⟨h.nd, by simp, fun a ha b hb e => hnew (by rw [List.mem_singleton.1 hb] at e; rw [← e]; exact ha)⟩
 ·rcases List.mem_append.1 hu with hu | hu
  ·exact h.rng u hu
  ·rw [List.mem_singleton.1 hu]; exact j1
 ·rw [show ((d.2, s.2 + d.1) : St × Int).1 = d.2 from rfl, j3, St.get_set _ (by omega)]
  rcases List.mem_append.1 hu with hu | hu
  ·split
   ·exact hn
   ·exact h.has u hu
  ·rw [List.mem_singleton.1 hu, if_pos rfl]; exact hn
theorem dfs_wk {x : Lm} (h5 : x.lo.length ≤ 5) {e : Int} (r : List Nt) (s : St × Int) (hr : ∀ n ∈ r, 0 < n.t ∧ n.e = e) : ∀ a ∈ dfs (stp x) (vcs x) r s [], WkI x e [] a.2 a.1 :=
 dfs_inv (stp x) (vcs x) (fun r s l => WkI x e r s l) (fun n r s l v s' h _ hs => wkI_step h5 h hs) r s [] ⟨by simp, by simp, by simp, hr⟩
theorem dfs_lens {N V σ : Type} (step : σ → N → V → Option σ) (vs : List V) : ∀ (r : List N) (s : σ) (l : List V), ∀ a ∈ dfs step vs r s l, a.1.length = l.length + r.length
 | [], s, l, a, ha => by rw [dfs, List.mem_singleton] at ha; subst ha; rfl
 | n :: r, s, l, a, ha => by
  rw [dfs] at ha
  obtain ⟨v, hv, h2⟩ := List.mem_flatMap.1 ha
  cases hs : step s n v with
  | none => rw [hs] at h2; simp at h2
  | some s' =>
   rw [hs] at h2
   have := dfs_lens step vs r s' _ a h2
   simp at this ⊢; omega
theorem mvs_len {x : Lm} (h5 : x.lo.length ≤ 5) {e : Int} (r : List Nt) (s : St × Int) (hr : ∀ n ∈ r, 0 < n.t ∧ n.e = e) : (dfs (stp x) (vcs x) r s []).length ≤ 3125 := by
 by_cases c : r.length ≤ 5
 ·refine Nat.le_trans (dfs_len _ _ r s []) ?_
  rw [vcs_len]
  refine Nat.le_trans (Nat.pow_le_pow_left h5 _) ?_
  exact Nat.le_trans (Nat.pow_le_pow_right (by decide) c) (by decide)
 ·cases hd : dfs (stp x) (vcs x) r s [] with
  | nil => simp
  | cons a l =>
   have ha : a ∈ dfs (stp x) (vcs x) r s [] := by rw [hd]; exact List.mem_cons_self ..
   have h1 := dfs_wk h5 r s hr a ha
   have h2 := dfs_lens (stp x) (vcs x) r s [] a ha
   have h3 := nodup_len x.lo.length a.1 h1.nd h1.rng
   simp at h2; omega
end Go.Ab.V

namespace Go.Ab.V
theorem bd_nt0 : nt0.bd := by unfold Nt.bd i64B nt0; decide
theorem bd_st0 : st0.bd := ⟨bd_nt0, bd_nt0, bd_nt0, bd_nt0, bd_nt0⟩
theorem bd_of {n : Nt} (h : ¬ ntBad n) : n.bd := by unfold ntBad at h; unfold Nt.bd i64B; omega
theorem St.bd_get {s : St} : s.bd ↔ ∀ k, (s.get k).bd := by
 constructor
 ·rintro ⟨a, b, c, d, e⟩ k
  unfold St.get
  split <;> first | assumption | exact bd_nt0
 ·intro h
  exact ⟨h 0, h 1, h 2, h 3, h 4⟩
theorem St.bd_set {s : St} (h : s.bd) {k : Nat} (hk : k < 5) {n : Nt} (hn : n.bd) : (s.set k n).bd := by
 rw [St.bd_get] at h ⊢
 intro j
 rw [St.get_set s hk]
 split
 ·exact hn
 ·exact h j
theorem fgN_bd {g f : Int} {y : Nt} (h : y.bd) : (fgN g f y).bd := by unfold fgN; split; exact bd_nt0; exact h
theorem frg_bd {x : Lm} {n : List Nt} {v : St} {i : Nat} (h : v.bd) : (frg x n v i).bd := by
 unfold frg
 split
 ·exact bd_st0
 ·obtain ⟨a, b, c, d, e⟩ := h
  exact ⟨fgN_bd a, fgN_bd b, fgN_bd c, fgN_bd d, fgN_bd e⟩
theorem fgN_ok {g f : Int} {y : Nt} (h : ntFit y) : ntFit (fgN g f y) := by
 unfold fgN; split
 ·unfold ntFit nt0; decide
 ·exact h
theorem frg_ok {x : Lm} {n : List Nt} {v : St} {i : Nat} (h : v.ok) : (frg x n v i).ok := by
 unfold frg
 split
 ·exact St.ok0
 ·intro k
  unfold fgt St.get
  split
  ·exact fgN_ok (h 0)
  ·exact fgN_ok (h 1)
  ·exact fgN_ok (h 2)
  ·exact fgN_ok (h 3)
  ·exact fgN_ok (h 4)
  ·unfold ntFit nt0; decide
theorem seg_notes {n : List Nt} (hN : chkN n = 0) {a c : Nat} (sg : SegOk n a c) (ha : a < n.length) : ∀ y ∈ (n.drop a).take c, y ∈ n ∧ 0 < y.t ∧ y.e = n[a].e := by
 intro y hy
 obtain ⟨k, hk⟩ := List.mem_iff_getElem?.1 hy
 have hkc : k < c := by have := (List.getElem?_eq_some_iff.1 hk).1; simp at this; omega
 have hle := sg.le
 rw [List.getElem?_take, if_pos hkc, List.getElem?_drop, List.getElem?_eq_getElem (by omega)] at hk
 obtain rfl := Option.some.inj hk
 have hm : n[a + k] ∈ n := List.getElem_mem _
 refine ⟨hm, ?_, sg.same k hkc⟩
 have := (ntsOk_of hN).fit _ hm
 unfold ntBad at this
 omega
theorem seg_at {n : List Nt} {i : Nat} {q : Nat × Nat} (h : (segR 0 n)[i]? = some q) (hl : n.length ≤ 5600) : SegOk n q.1 q.2 ∧ q.1 < n.length := by
 have hm := List.mem_of_getElem? h
 have sg := segR_ok n n.length 0 (by omega) (fun h => by omega) q (by rw [List.drop_zero]; exact hm)
 have := sg.pos
 have := sg.le
 exact ⟨sg, by omega⟩
theorem mvE_len {x : Lm} (X : LmOk x) {n : List Nt} (hN : chkN n = 0) (i : Nat) (v : St) : (mvE x n i v).length ≤ 3125 := by
 unfold mvE
 cases hq : (segR 0 n)[i]? with
 | none => simp
 | some q =>
  obtain ⟨sg, ha⟩ := seg_at hq (ntsOk_of hN).len
  have h1 := mvs_len X.lo5 ((n.drop q.1).take q.2) (v, 0) (e := n[q.1].e) fun y hy => (seg_notes hN sg ha y hy).2
  simp only [mvR]
  have h2 : ((dfs (stp x) (vcs x) ((n.drop q.1).take q.2) (v, 0) []).flatMap (fin x n i (frN n q.1))).length ≤ (dfs (stp x) (vcs x) ((n.drop q.1).take q.2) (v, 0) []).length * 1 := flatMap_len fun a _ => by unfold fin; split <;> simp
  omega
theorem mvE_to {x : Lm} (X : LmOk x) {n : List Nt} (hN : chkN n = 0) (i : Nat) {v : St} (hv : v.bd ∧ v.ok) : ∀ m ∈ mvE x n i v, m.to.bd ∧ m.to.ok := by
 intro m hm
 unfold mvE at hm
 cases hq : (segR 0 n)[i]? with
 | none => rw [hq] at hm; simp at hm
 | some q =>
  rw [hq] at hm
  obtain ⟨sg, ha⟩ := seg_at hq (ntsOk_of hN).len
  simp only [mvR] at hm
  obtain ⟨a, h1, h2⟩ := List.mem_flatMap.1 hm
  have key := dfs_inv (stp x) (vcs x) (fun r s _ => (s.1.bd ∧ s.1.ok) ∧ ∀ y ∈ r, y ∈ n) (fun y r s l u s' h _ hs => by
   unfold stp at hs
   rw [Option.map_eq_some_iff] at hs
   obtain ⟨d, hd, rfl⟩ := hs
   have hy := (ntsOk_of hN).fit y (h.2 y (List.mem_cons_self ..))
   obtain ⟨j1, j2, j3⟩ := join_some hd
   have := X.lo5
   refine ⟨⟨?_, (join_ok hd X.lo5 h.1.2 (fit_of hy)).1⟩, fun z hz => h.2 z (List.mem_cons_of_mem _ hz)⟩
   show d.2.bd
   rw [j3]
   exact St.bd_set h.1.1 (by omega) (bd_of hy)) _ (v, 0) [] ⟨hv, fun y hy => (seg_notes hN sg ha y hy).1⟩ a h1
  unfold fin at h2
  split at h2
  ·simp at h2
  ·rw [List.mem_singleton] at h2
   subst h2
   exact ⟨frg_bd key.1.1, frg_ok key.1.2⟩
abbrev Lay := List St × List Int
structure LayOk (y : Lay) : Prop where
 nd : y.1.Nodup
 bd : ∀ s ∈ y.1, s.bd ∧ s.ok
 len : y.2.length = y.1.length
 cnt : ∀ z ∈ y.2, 0 ≤ z ∧ z ≤ 1099511627776
def tellL (w : Int) (y : Lay) (to : St) : Lay := (putN y.1 to, cnt1 y.1 y.2 to w)
theorem cs1_bd {f : List St} {cs : List Int} (v : St) (h : ∀ z ∈ cs, 0 ≤ z ∧ z ≤ 1099511627776) : ∀ z ∈ cs1 f cs v, 0 ≤ z ∧ z ≤ 1099511627776 := by
 unfold cs1
 split
 ·exact h
 ·intro z hz
  rcases List.mem_append.1 hz with h1 | h1
  ·exact h z h1
  ·rw [List.mem_singleton.1 h1]; omega
theorem tellL_ok {w : Int} (hw : 0 ≤ w ∧ w ≤ 1099511627776) {y : Lay} (h : LayOk y) {to : St} (ht : to.bd ∧ to.ok) : LayOk (tellL w y to) := by
 refine ⟨putN_nodup h.nd, putN_all h.bd ht, ?_, fun z hz => ?_⟩
 ·simp only [tellL, cnt1, List.length_set]
  exact cs1_len to h.len
 ·simp only [tellL, cnt1] at hz
  have hc := cs1_bd (f := y.1) to h.cnt
  rcases List.mem_or_eq_of_mem_set hz with h1 | h1
  ·exact hc z h1
  ·rw [h1]
   have hg : 0 ≤ (cs1 y.1 y.2 to).getD (idxA to (putN y.1 to)) 0 := by
    rw [List.getD_eq_getElem?_getD]
    cases he : (cs1 y.1 y.2 to)[idxA to (putN y.1 to)]? with
    | none => simp
    | some z => exact (hc z (List.mem_of_getElem? he)).1
   unfold mnC
   split <;> omega
def evL (x : Lm) (n : List Nt) (i : Nat) (v : St) (w : Int) (y : Lay) : Lay := (mvE x n i v).foldl (fun y m => tellL w y m.to) y
theorem tellL_len {w : Int} {y : Lay} {to : St} : (tellL w y to).1.length ≤ y.1.length + 1 := by
 simp only [tellL, putN]; split <;> simp
def evJ (w : Int) (L : List Mv) (j : Nat) (y : Lay) : Lay := (L.take j).foldl (fun y m => tellL w y m.to) y
theorem evJ_succ {w : Int} {L : List Mv} {j : Nat} (h : j < L.length) (y : Lay) : evJ w L (j + 1) y = tellL w (evJ w L j y) L[j].to := by
 unfold evJ
 rw [List.take_succ_eq_append_getElem h, List.foldl_append]
 rfl
theorem evJ_ok {w : Int} (hw : 0 ≤ w ∧ w ≤ 1099511627776) {L : List Mv} (hL : ∀ m ∈ L, m.to.bd ∧ m.to.ok) {y : Lay} (h : LayOk y) : ∀ j, j ≤ L.length → LayOk (evJ w L j y) ∧ (evJ w L j y).1.length ≤ y.1.length + j
 | 0, _ => ⟨h, Nat.le_refl _⟩
 | j + 1, hj => by
  obtain ⟨h1, h2⟩ := evJ_ok hw hL h j (by omega)
  rw [evJ_succ (by omega)]
  exact ⟨tellL_ok hw h1 (hL _ (List.getElem_mem _)), Nat.le_trans tellL_len (by omega)⟩
theorem evL_evJ (x : Lm) (n : List Nt) (i : Nat) (v : St) (w : Int) (y : Lay) : evL x n i v w y = evJ w (mvE x n i v) (mvE x n i v).length y := by unfold evL evJ; rw [List.take_length]
def layF (x : Lm) (n : List Nt) (i : Nat) (last : Bool) : List St → List Int → Lay → Option Lay
 | [], _, y => some y
 | v :: f, cs, y => if last = false ∧ 1000 < (evL x n i v (cs.headD 0) y).1.length then none else layF x n i last f (cs.drop 1) (evL x n i v (cs.headD 0) y)
def runL (x : Lm) (n : List Nt) : Nat → Nat → Lay → List Lay → Int × List Lay × Nat
 | 0, i, y, Ls => (0, Ls ++ [y], i - 1)
 | k + 1, i, y, Ls => match layF x n i (k == 0) y.1 y.2 ([], []) with
  | none => (2, Ls ++ [y], i)
  | some z => if z.1 = [] then (72, Ls ++ [y], i) else runL x n k (i + 1) z (Ls ++ [y])
end Go.Ab.V

namespace Go.Ab.V
theorem runP_ev (M : ME) (X : LmOk M.x) (hN : chkN M.n = 0) (v : St) (hv : v.bd ∧ v.ok) (b : PS) (em e7 e11 e12 e8 e5 e9 w ew kk : Nat) (F I R1 R2 : AV) (wcs : List Int) (h8 : b.o8 = .vec e8 [[.optr (.s 7) e7 5 0 0]]) (h5 : b.o5 = .vec e5 [[.optr (.d w) ew 5 0 0]]) (h9 : b.o9 = .vec e9 [[.int .i64 (kk : Int)]])
  (hcaps : M.caps = [.optr (.s 8) e8 1 0 0, .optr (.s 5) e5 1 0 0, .optr (.s 9) e9 1 0 0]) (hfy : M.fy = 57) (hD : (M.ob :: b.D)[w]? = some (.vec ew [[F, I, R1, R2, .lslc 1 (ints wcs) 0 wcs.length false]])) (hkk : kk < wcs.length) (hw : ∀ z ∈ wcs, 0 ≤ z ∧ z ≤ 1099511627776)
  (y : Lay) (hy : LayOk y) (hl : y.1.length ≤ 90000000) :
  RunP M (mvE M.x M.n M.i v) (PSl b em e7 e11 e12 y.1 y.2) fun S' => ∃ a c, S' = PSl b em e7 a c (evL M.x M.n M.i v wcs[kk] y).1 (evL M.x M.n M.i v wcs[kk] y).2 := by
 have hto := mvE_to X hN M.i hv
 have hlen := mvE_len X hN M.i v
 have hwk := hw _ (List.getElem_mem hkk)
 rw [evL_evJ]
 have := runP_of (M := M) (L := mvE M.x M.n M.i v) (K := fun S' => ∃ a c, S' = PSl b em e7 a c (evJ wcs[kk] (mvE M.x M.n M.i v) (mvE M.x M.n M.i v).length y).1 (evJ wcs[kk] (mvE M.x M.n M.i v) (mvE M.x M.n M.i v).length y).2)
  (fun j S => ∃ a c, S = PSl b em e7 a c (evJ wcs[kk] (mvE M.x M.n M.i v) j y).1 (evJ wcs[kk] (mvE M.x M.n M.i v) j y).2) (fun j hj s => ?_) (fun s h => h) (mvE M.x M.n M.i v).length 0 (PSl b em e7 e11 e12 y.1 y.2) (by omega) ⟨e11, e12, rfl⟩
 ·rwa [List.drop_zero] at this
 ·rintro ⟨a, c, rfl⟩
  obtain ⟨ok, hle⟩ := evJ_ok hwk hto hy j (by omega)
  refine YC.mono (run57 M b em e7 a c e8 e5 e9 w ew kk F I R1 R2 wcs _ _ h8 h5 h9 hcaps hfy hD hkk hw ok.nd (fun s hs => (ok.bd s hs).1) ok.len ok.cnt (by omega) _ (hto _ (List.getElem_mem hj)).1) ?_
  rintro s' ⟨a', c', rfl⟩
  exact ⟨a', c', by rw [evJ_succ hj]; rfl⟩
end Go.Ab.V
