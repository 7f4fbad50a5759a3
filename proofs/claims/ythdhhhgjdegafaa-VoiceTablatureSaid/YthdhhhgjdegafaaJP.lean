/-
  What is proved here serves the law's text: each part says its own claim and its conditions. No condition is left open.
-/
import Derived.Test.YthdhhhgjdegafaaJL
import Derived.Test.YthdhhhgjdegafaaJN
import Derived.Test.YthdhhhgjdegafaaJK
import Derived.Test.YthdhhhgjdegafaaKP
import Derived.Test.YthdhhhgjdegafaaKX
import Derived.Test.YthdhhhgjdegafaaKT
import Derived.Test.YthdhhhgjdegafaaJO
set_option linter.unusedSimpArgs false
set_option linter.unusedVariables false

namespace Go.Ab.V
theorem gr_lay {x : Lm} {n : List Nt} : ∀ {i j : Nat} {Ls : List Lay} {En : Steps}, GR x n i Ls En → ∀ (h : j < En.length) (h1 : j < Ls.length) (h2 : j + 1 < Ls.length), Ls[j + 1] = layG x n (i + j) Ls[j].1 Ls[j].2 ([], [])
 | i, j, [_], [], h, hj, _, _ => by simp at hj
 | i, 0, y :: y' :: Ls, mv :: M, h, hj, _, _ => by
  unfold GR at h
  exact h.1.2.2.1
 | i, j + 1, y :: y' :: Ls, mv :: M, h, hj, h1, h2 => by
  unfold GR at h
  have := gr_lay (j := j) h.2 (by simpa using hj) (by simpa using h1) (by simpa using h2)
  rw [show i + 1 + j = i + (j + 1) by omega] at this
  exact this
 | i, j, [], _, h, _, _, _ => by unfold GR at h; exact h.elim
 | i, j, [_], _ :: _, h, _, _, _ => by unfold GR at h; exact h.elim
 | i, j, _ :: _ :: _, [], h, _, _, _ => by unfold GR at h; exact h.elim
theorem mvE_last {x : Lm} {n : List Nt} {i : Nat} {v : St} (h : (segR 0 n)[i + 1]? = none) : ∀ m ∈ mvE x n i v, m.to = st0 := by
 intro m hm
 unfold mvE at hm
 split at hm
 ·simp at hm
 ·unfold mvR at hm
  obtain ⟨a, _, ha⟩ := List.mem_flatMap.1 hm
  unfold fin at ha
  split at ha
  ·simp at ha
  ·rw [List.mem_singleton.1 ha]
   simp only
   unfold frg
   rw [h]
theorem gr_end {x : Lm} {n : List Nt} {Ls : List Lay} (hG : Graph x n Ls) {i : Nat} (hi : i + 1 = (enR x n).length) (h2 : i + 1 < Ls.length) : Ls[i + 1].1 = [st0] := by
 have hll := gr_len hG.g
 have S := gr_at hG.g (j := i) (by omega) (by omega) h2
 have L := gr_lay hG.g (j := i) (by omega) (by omega) h2
 have hne := S.ne
 rw [Nat.zero_add] at L
 rw [L, layG_fst] at hne ⊢
 refine ddA_same (fun t ht => ?_) fun e => hne (by simp only [e]; rfl)
 obtain ⟨v, _, ht⟩ := List.mem_flatMap.1 ht
 obtain ⟨m, hm, rfl⟩ := List.mem_map.1 ht
 exact mvE_last (List.getElem?_eq_none (by rw [← hG.l]; omega)) m hm
theorem toOk_of : ∀ {G : Steps}, (∀ i (h : i + 1 = G.length), ∀ ms ∈ G[i], ∀ m ∈ ms, m.to = 0) → ToOk G
 | [], _ => trivial
 | g :: G, h => by
  refine ⟨fun ms hms m hm e => ?_, toOk_of fun i hi ms hms m hm => ?_⟩
  ·subst e
   exact h 0 rfl ms hms m hm
  ·exact h (i + 1) (by simp only [List.length_cons]; omega) ms hms m hm
theorem graph_to {x : Lm} {n : List Nt} {Ls : List Lay} (hG : Graph x n Ls) {i : Nat} (hi : i < (enR x n).length) {ms : List RMv} (hms : ms ∈ (enR x n)[i]) : ∃ (k : Nat) (v : St) (h1 : i + 1 < Ls.length), Ls[i].1[k]? = some v ∧ (enR x n)[i][k]? = some ms ∧ (∀ m ∈ ms, m.to < Ls[i + 1].1.length) ∧ mvE x n i v = ms.map (toMv Ls[i + 1].1) := by
 have hll := gr_len hG.g
 have S := gr_at hG.g (j := i) hi (by omega) (by omega)
 obtain ⟨k, hk⟩ := List.mem_iff_getElem?.1 hms
 have hkl := (List.getElem?_eq_some_iff.1 hk).1
 rw [S.len] at hkl
 have := S.mv k _ _ (List.getElem?_eq_getElem hkl) hk
 rw [Nat.zero_add] at this
 exact ⟨k, _, by omega, List.getElem?_eq_getElem hkl, hk, this.1, this.2⟩
theorem graph_sok {x : Lm} (X : LmOk x) {n : List Nt} (hN : chkN n = 0) {Ls : List Lay} (hG : Graph x n Ls) : SOk (enR x n) := by
 have hll := gr_len hG.g
 have hsl := segR_lenle n
 have hlen := (ntsOk_of hN).len
 have hat : ∀ i (hi : i < (enR x n).length), (enR x n).getD i [] = (enR x n)[i] := fun i hi => by rw [List.getD_eq_getElem?_getD, List.getElem?_eq_getElem hi]; rfl
 have hsz : ∀ i (hi : i < (enR x n).length), (enR x n)[i].length ≤ 100000000 := fun i hi => by
  have S := gr_at hG.g (j := i) hi (by omega) (by omega)
  rw [S.len]
  exact hG.sz _ (List.getElem_mem _)
 have hmem : ∀ i k m, m ∈ ((enR x n).getD i []).getD k [] → ∃ (hi : i < (enR x n).length) (ms : List RMv), ms ∈ (enR x n)[i] ∧ m ∈ ms := fun i k m hm => by
  by_cases hi : i < (enR x n).length
  ·rw [hat i hi] at hm
   obtain ⟨ms, hms, hm⟩ := getD_memL hm
   exact ⟨hi, ms, hms, hm⟩
  ·rw [show (enR x n).getD i [] = [] by rw [List.getD_eq_getElem?_getD, List.getElem?_eq_none (by omega)]; rfl] at hm
   simp at hm
 have hle : (enR x n).length ≤ 5600 := by rw [hG.l]; omega
 refine ⟨hle, gr_bd X hN hG.g hG.lay0, ?_, fun i => ?_, fun i k => ?_, fun i k m hm => ?_, fun g hg ms hms m hm => ?_, ?_⟩
 ·refine toOk_of fun i hi ms hms m hm => ?_
  obtain ⟨k, v, h1, _, _, h4, _⟩ := graph_to hG (by omega) hms
  have := h4 m hm
  rw [gr_end hG hi h1] at this
  simp only [List.length_singleton] at this
  omega
 ·by_cases hi : i < (enR x n).length
  ·rw [hat i hi]; exact hsz i hi
  ·rw [List.getD_eq_getElem?_getD, List.getElem?_eq_none (by omega)]; simp
 ·by_cases hi : i < (enR x n).length
  ·rw [hat i hi]
   by_cases hk : k < (enR x n)[i].length
   ·rw [List.getD_eq_getElem?_getD, List.getElem?_eq_getElem hk, Option.getD_some]
    obtain ⟨_, v, h1, _, _, _, h5⟩ := graph_to hG hi (List.getElem_mem hk)
    have := mvE_len X hN i v
    rw [h5, List.length_map] at this
    omega
   ·rw [List.getD_eq_getElem?_getD, List.getElem?_eq_none (l := (enR x n)[i]) (by omega)]; simp
  ·rw [show (enR x n).getD i [] = [] by rw [List.getD_eq_getElem?_getD, List.getElem?_eq_none (by omega)]; rfl]; simp
 ·obtain ⟨hi, ms, hms, hm⟩ := hmem i k m hm
  obtain ⟨_, v, h1, _, _, h4, _⟩ := graph_to hG hi hms
  have h4 := h4 m hm
  unfold szG
  by_cases c : i + 1 < (enR x n).length
  ·rw [if_pos c, hat _ c]
   have S := gr_at hG.g (j := i + 1) c (by omega) (by omega)
   rw [S.len]
   exact h4
  ·rw [if_neg c]
   rw [gr_end hG (by omega) h1] at h4
   simpa using h4
 ·obtain ⟨i, hi, rfl⟩ := List.mem_iff_getElem.1 hg
  obtain ⟨_, v, h1, _, _, _, h5⟩ := graph_to hG hi hms
  exact mvE_ks hN (toMv Ls[i + 1].1 m) (by rw [h5]; exact List.mem_map.2 ⟨m, hm, rfl⟩)
 ·unfold szG
  by_cases c : 0 < (enR x n).length
  ·rw [if_pos c, hG.one c]; omega
  ·rw [if_neg c]; omega
theorem nodup_at {α : Type} : ∀ {l : List α}, l.Nodup → ∀ {i j : Nat} (hi : i < l.length) (hj : j < l.length), l[i] = l[j] → i = j
 | a :: l, h, 0, 0, _, _, _ => rfl
 | a :: l, h, 0, j + 1, hi, hj, e => by
  have := (List.nodup_cons.1 h).1
  simp only [List.getElem_cons_zero, List.getElem_cons_succ] at e
  exact absurd (by rw [e]; exact List.getElem_mem _) this
 | a :: l, h, i + 1, 0, hi, hj, e => by
  have := (List.nodup_cons.1 h).1
  simp only [List.getElem_cons_zero, List.getElem_cons_succ] at e
  exact absurd (by rw [← e]; exact List.getElem_mem _) this
 | a :: l, h, i + 1, j + 1, hi, hj, e => by
  simp only [List.getElem_cons_succ] at e
  rw [nodup_at (List.nodup_cons.1 h).2 (by simpa using hi) (by simpa using hj) e]
theorem mrg_ne {ls : List (List Co)} {l : List Co} (h : l ∈ ls) (hl : l ≠ []) : mrg ls ≠ [] := by
 unfold mrg
 have hs : 0 < (ls.map List.length).sum := by
  have h2 : l.length ≤ (ls.map List.length).sum := by
   clear hl
   induction ls with
   | nil => simp at h
   | cons a r ih =>
    simp only [List.map_cons, List.sum_cons]
    rcases List.mem_cons.1 h with rfl | h
    ·omega
    ·have := ih h; omega
  have := List.length_pos_iff.2 hl
  omega
 obtain ⟨k, hk⟩ : ∃ k, (ls.map List.length).sum = k + 1 := ⟨(ls.map List.length).sum - 1, by omega⟩
 rw [hk, pkW]
 cases hb : bst id ls (fun _ => 0) ls.length with
 | some jx => simp
 | none =>
  obtain ⟨j, hj⟩ := List.mem_iff_getElem?.1 h
  have := bst_none hb j (List.getElem?_eq_some_iff.1 hj).1
  unfold hdA at this
  rw [List.getD_eq_getElem?_getD, hj, Option.getD_some] at this
  cases l with
  | nil => exact absurd rfl hl
  | cons a r => simp at this
theorem WG_ne {g : List (List RMv)} {G : Steps} {k : Nat} {m : RMv} (h : m ∈ g.getD k []) (h2 : WG G m.to ≠ []) : WG (g :: G) k ≠ [] := by
 rw [WG]
 refine mrg_ne (l := (WG G m.to).map fun w => (m.c + w.c, m.m + w.m)) (List.mem_map.2 ⟨m, List.mem_filter.2 ⟨h, ?_⟩, rfl⟩) ?_
 ·cases e : WG G m.to with
  | nil => exact absurd e h2
  | cons a r => rfl
 ·intro e
  exact h2 (List.map_eq_nil_iff.1 e)
theorem WG_reach {x : Lm} {n : List Nt} {Ls : List Lay} (hG : Graph x n Ls) : ∀ (i : Nat), i ≤ (enR x n).length → ∀ (k : Nat) (hi : i < Ls.length), k < Ls[i].1.length → WG ((enR x n).drop i) k ≠ [] → WG (enR x n) 0 ≠ []
 | 0, _, k, hi, hk, h => by
  have e := (List.getElem?_eq_some_iff.1 hG.h0).2
  rw [e] at hk
  have : k = 0 := by simpa using hk
  subst this
  rw [List.drop_zero] at h
  exact h
 | i + 1, hi1, k, hi, hk, h => by
  have hll := gr_len hG.g
  have L := gr_lay hG.g (j := i) (by omega) (by omega) hi
  have S := gr_at hG.g (j := i) (by omega) (by omega) hi
  have hnd := S.ok.nd
  rw [Nat.zero_add] at L
  have hm : Ls[i + 1].1[k] ∈ Ls[i + 1].1 := List.getElem_mem hk
  rw [show (Ls[i + 1].1[k] ∈ Ls[i + 1].1) = (Ls[i + 1].1[k] ∈ (layG x n i Ls[i].1 Ls[i].2 ([], [])).1) by rw [← L], layG_fst, ddA_mem] at hm
  rcases hm with hm | hm
  ·simp at hm
  ·obtain ⟨v, hv, hm⟩ := List.mem_flatMap.1 hm
   obtain ⟨mv, hmv, hto⟩ := List.mem_map.1 hm
   obtain ⟨j, hj⟩ := List.mem_iff_getElem?.1 hv
   have hjl := (List.getElem?_eq_some_iff.1 hj).1
   have hjE : j < (enR x n)[i].length := by rw [S.len]; exact hjl
   have M := S.mv j v _ hj (List.getElem?_eq_getElem hjE)
   rw [Nat.zero_add] at M
   rw [M.2] at hmv
   obtain ⟨r, hr, rfl⟩ := List.mem_map.1 hmv
   have hrl := M.1 r hr
   have hrk : r.to = k := by
    have h3 : Ls[i + 1].1[r.to] = Ls[i + 1].1[k] := by
     rw [← hto]
     show _ = Ls[i + 1].1.getD r.to st0
     rw [List.getD_eq_getElem?_getD, List.getElem?_eq_getElem hrl]
     rfl
    exact nodup_at hnd hrl hk h3
   refine WG_reach hG i (by omega) j (by omega) hjl ?_
   rw [List.drop_eq_getElem_cons (show i < (enR x n).length by omega)]
   refine WG_ne (m := r) ?_ (by rw [hrk]; exact h)
   rw [List.getD_eq_getElem?_getD, List.getElem?_eq_getElem hjE]
   exact hr
theorem WG_some {x : Lm} {n : List Nt} {Ls : List Lay} (hG : Graph x n Ls) : WG (enR x n) 0 ≠ [] := by
 have hll := gr_len hG.g
 refine WG_reach hG (enR x n).length (Nat.le_refl _) 0 (by omega) ?_ (by rw [List.drop_length, WG]; simp)
 by_cases c : 0 < (enR x n).length
 ·obtain ⟨i, hi⟩ : ∃ i, i + 1 = (enR x n).length := ⟨(enR x n).length - 1, by omega⟩
  have e := gr_end hG hi (by omega)
  simp only [hi] at e
  rw [e]
  simp
 ·have h0 : (enR x n).length = 0 := by omega
  have e := (List.getElem?_eq_some_iff.1 hG.h0).2
  simp only [h0]
  rw [e]
  simp
theorem voiL_pos {x : Lm} {n : List Nt} {Ls : List Lay} (hG : Graph x n Ls) {most : Nat} (hm : 1 ≤ most) : 0 < (voiL (enR x n) most).length := by
 have := List.length_pos_iff.2 (WG_some hG)
 unfold voiL
 rw [List.length_map, List.length_take]
 omega
end Go.Ab.V

namespace Go.Ab.V
open Go.Proofs
def A13 : Ann := fun r => match r with
 | 0 => { slots := [(0, 0)] }
 | _ => {}
def bestV (x : Lm) (n : List Nt) : AV := if both x n ≠ 0 then .tup [.agg [.nils, .int .i64 0, .int .i64 0], .int .i64 (both x n)] else
 if errR x n ≠ 0 then .tup [.agg [.nils, .int .i64 0, .int .i64 0], .int .i64 (errR x n)] else .tup [.agg ((voiL (enR x n) 1).headD []), .int .i64 0]
def A15 : Ann := fun r => match r with
 | 0 => { slots := [(0, 0), (1, 1)] }
 | _ => {}
theorem bestV_of (x : Lm) (n : List Nt) : (∃ e : Int, e ≠ 0 ∧ listV x n 1 = .tup [.nils, .int .i64 e] ∧ bestV x n = .tup [.agg [.nils, .int .i64 0, .int .i64 0], .int .i64 e]) ∨
  (∃ (l : List Int) (c m : Int), listV x n 1 = .tup [voisA [voiR l c m], .int .i64 0] ∧ bestV x n = .tup [.agg (voiR l c m), .int .i64 0]) := by
 unfold listV bestV
 by_cases c1 : both x n ≠ 0
 ·rw [if_pos c1, if_pos c1]
  exact .inl ⟨_, c1, rfl, rfl⟩
 rw [if_neg c1, if_neg c1, if_neg (by omega)]
 by_cases c3 : errR x n ≠ 0
 ·rw [if_pos c3, if_pos c3]
  exact .inl ⟨_, c3, rfl, rfl⟩
 rw [if_neg c3, if_neg c3]
 have c1 : both x n = 0 := by omega
 have c3 : errR x n = 0 := by omega
 have hX : chkL x = 0 := by
  unfold both at c1; split at c1
  ·rename_i h; exact absurd c1 h
  ·rename_i h; simpa using h
 have hN : chkN n = 0 := by unfold both at c1; rw [hX] at c1; simpa using c1
 obtain ⟨Ls, hG⟩ := graph_of (lmOk_of hX) hN c3
 have h1 := voiL_pos hG (most := 1) (by omega)
 have h2 := voiL_len (G := enR x n) (most := 1)
 right
 rw [show (1 : Int).toNat = 1 from rfl]
 have h4 : ∀ r ∈ voiL (enR x n) 1, ∃ l c m, r = voiR l c m := fun r hr => by
  obtain ⟨w, _, rfl⟩ := List.mem_map.1 hr
  exact ⟨_, _, _, rfl⟩
 generalize voiL (enR x n) 1 = V at h1 h2 h4
 match V, h1, h2, h4 with
 | [r], _, _, h4 =>
  obtain ⟨l, c, m, rfl⟩ := h4 r (List.mem_singleton.2 rfl)
  exact ⟨l, c, m, rfl, rfl⟩
 | _ :: _ :: _, _, h2, _ => simp only [List.length_cons] at h2; omega
 | [], h1, _, _ => simp at h1
set_option maxHeartbeats 16000000 in
set_option maxRecDepth 100000 in
theorem best15 (x : Lm) (n : List Nt) (hl : x.lo.length ≤ 9223372036854775807) (hh : x.hi.length ≤ 9223372036854775807) (h3 : n.length ≤ 9223372036854775807) : PRet C.P 15 [lmA x, ntsA n] (bestV x n) := by
 have hL := list12 x n 1 hl hh h3
 rcases bestV_of x n with ⟨e, he, h1, h2⟩ | ⟨l, c, m, h1, h2⟩
 ·rw [h1] at hL
  rw [h2]
  refine pret_of ok mixed (A := A15) 2 Try.func15 rfl ?_
  (repeat' (first | exact rfl | ((conv => whnf); first | refine ⟨_, hL, ?_⟩ | exact rfl | exact ⟨rfl, rfl⟩ | refine go1 ?_ | (intro ep) | (refine ifB (fun hb => ?_) (fun hb => ?_) <;> (try simp only [qs] at hb) <;> (try simp (disch := omega) only [wrapI] at hb) <;> (try (exfalso; omega))) | fail)))
 ·rw [h1] at hL
  rw [h2]
  have hL : PRet C.P 12 [lmA x, ntsA n, .int .i64 1] (.tup [.lslc 3 [[intsA l, .int .i64 c, .int .i64 m]] 0 1 false, .int .i64 0]) := hL
  clear h1 h2
  unfold voiR
  refine pret_of ok mixed (A := A15) 2 Try.func15 rfl ?_
  (repeat' (first | exact rfl | ((conv => whnf); first | refine ⟨_, hL, ?_⟩ | exact rfl | exact ⟨rfl, rfl⟩ | refine go1 ?_ | (intro ep) | (refine ifB (fun hb => ?_) (fun hb => ?_) <;> (try simp only [qs] at hb) <;> (try simp (disch := omega) only [wrapI] at hb) <;> (try (exfalso; omega))) | fail)))
end Go.Ab.V

namespace Go.Ab.V
open Go.Proofs
def A10 : Ann := fun _ => {}
def manyB (l m : Nat) : Bool := decide (m < l) && decide (l ≤ 5600)
set_option maxHeartbeats 4000000 in
set_option maxRecDepth 100000 in
theorem many10 (n : List Nt) (m : Nat) (hm : m ≤ 5600) (h3 : n.length ≤ 9223372036854775807) : PRet C.P 10 [ntsA n, .int .i64 (m : Int)] (.bool (manyB n.length m)) := by
 unfold manyB
 by_cases c1 : m < n.length
 ·rw [decide_eq_true c1]
  by_cases c2 : n.length ≤ 5600
  ·rw [decide_eq_true c2]
   refine pret_of ok mixed (A := A10) 0 Try.func10 rfl ?_
   (repeat' (first | exact rfl | ((conv => whnf); first | exact rfl | exact ⟨rfl, rfl⟩ | refine go1 ?_ | (intro ep) | (refine ifB (fun hb => ?_) (fun hb => ?_) <;> (try simp only [qs] at hb) <;> (try simp (disch := omega) only [wrapI] at hb) <;> (try (exfalso; omega))) | fail)))
   all_goals (refine congrArg AV.bool ?_; simp; omega)
  ·rw [decide_eq_false c2]
   refine pret_of ok mixed (A := A10) 0 Try.func10 rfl ?_
   (repeat' (first | exact rfl | ((conv => whnf); first | exact rfl | exact ⟨rfl, rfl⟩ | refine go1 ?_ | (intro ep) | (refine ifB (fun hb => ?_) (fun hb => ?_) <;> (try simp only [qs] at hb) <;> (try simp (disch := omega) only [wrapI] at hb) <;> (try (exfalso; omega))) | fail)))
   all_goals (refine congrArg AV.bool ?_; simp; omega)
 ·rw [decide_eq_false c1]
  refine pret_of ok mixed (A := A10) 0 Try.func10 rfl ?_
  (repeat' (first | exact rfl | ((conv => whnf); first | exact rfl | exact ⟨rfl, rfl⟩ | refine go1 ?_ | (intro ep) | (refine ifB (fun hb => ?_) (fun hb => ?_) <;> (try simp only [qs] at hb) <;> (try simp (disch := omega) only [wrapI] at hb) <;> (try (exfalso; omega))) | fail)))
def A19 : Ann := fun _ => {}
set_option maxHeartbeats 4000000 in
set_option maxRecDepth 100000 in
theorem same19 (l : List Int) (hl : l.length ≤ 9223372036854775806) : PRet C.P 19 [intsA l, intsA l] (.bool true) := by
 refine pret_of ok mixed (A := A19) 0 Try.func19 rfl ?_
 (repeat' (first | exact rfl | ((conv => whnf); first | exact rfl | exact ⟨rfl, rfl⟩ | refine go1 ?_ | (intro ep) | (refine ifB (fun hb => ?_) (fun hb => ?_) <;> (try simp only [qs] at hb) <;> (try simp (disch := omega) only [wrapI] at hb) <;> (try (exfalso; omega))) | fail)))
 all_goals (conv => whnf)
 refine loopX ok mixed (A := A19) [0, 1, 5] [] (S := { k : Nat // k ≤ l.length })
  (fr := fun s => frOf 0 26 [(0, intsA l), (1, intsA l), (5, .int .i64 (s.1 : Int))])
  (h := fun s => ⟨[], []⟩) (μ := fun s => l.length - s.1) ⟨0, by omega⟩ ?_ ?_
  [] [] (S' := Unit) (X := fun _ => 0) (frX := fun s => frOf 0 26 []) (hX := fun s => ⟨[], []⟩) (R := fun _ _ => False) ?_ (fun _ _ h => h.elim) ?_
 ·exact rfl
 ·exact rfl
 ·rintro ⟨k, hk⟩
  show aexR _ _ _ (frOf 0 26 [(0, intsA l), (1, intsA l), (5, .int .i64 (k : Int))]) ⟨[], []⟩ _
  (conv => whnf)
  refine ifB (fun g1 => ?_) (fun g1 => ?_)
  ·simp only [decide_eq_true_eq] at g1
   have h1 : k < l.length := by omega
   have hm := intsR h1
   (repeat' (first | exact rfl | ((conv => whnf); first | refine optS hm ?_ | exact rfl | exact ⟨rfl, rfl⟩ | refine go1 ?_ | (intro ep) | (refine ifB (fun hb => ?_) (fun hb => ?_) <;> (try simp only [qs] at hb) <;> (try simp (disch := omega) only [wrapI] at hb) <;> (try (exfalso; omega))) | fail)))
   all_goals (conv => whnf)
   exact back_of ⟨k + 1, by omega⟩ ⟨by (first | exact rfl | (simp (disch := omega) only [wrapI]; exact rfl)), rfl, by simp only; omega⟩
  ·(repeat' (first | exact rfl | ((conv => whnf); first | exact rfl | exact ⟨rfl, rfl⟩ | refine go1 ?_ | (intro ep) | fail)))
   all_goals (conv => whnf)
   exact back_of () ⟨rfl, rfl, rfl⟩
 ·rintro ⟨⟩
  (repeat' (first | exact rfl | ((conv => whnf); first | exact rfl | exact ⟨rfl, rfl⟩ | refine go1 ?_ | (intro ep) | fail)))
end Go.Ab.V

namespace Go.Ab.V
open Go.Proofs
def x0 : Lm := ⟨[60, 40], [80, 60], 5, 0, 0⟩
def n0 : List Nt := [⟨0, 1, 67, 0, 96⟩, ⟨0, 6, 43, 0, 192⟩, ⟨1, 1, 69, 96, 192⟩]
set_option maxRecDepth 100000 in
theorem best0 : bestV x0 n0 = .tup [.agg (voiR [1, 2, 1] 0 2), .int .i64 0] := by kernel_rfl
def A11 : Ann := fun r => match r with
 | 1 => { slots := [(0, 0), (1, 1), (3, 2)], frz := [1000, 1001] }
 | 2 => { slots := [(3, 3)], frz := [2] }
 | 3 => { slots := [(6, 4)] }
 | 4 => { slots := [(15, 5)] }
 | _ => {}
set_option maxHeartbeats 16000000 in
set_option maxRecDepth 100000 in
theorem works2 : PRet C.P 11 [] (.bool true) := by
 have hB := best15 x0 n0 (by decide) (by decide) (by decide)
 rw [best0] at hB
 have hS := same19 [1, 2, 1] (by decide)
 refine pret_of (okx [] [15, 19]) mixed (A := A11) 6 Try.func11 rfl ?_
 (repeat' (first | exact rfl | ((conv => whnf); first | refine PRet.calls hB ?_ | (refine ACalls.fz 5 ?_; (conv => whnf); refine ⟨pureRows_of1 (by kernel_rfl), by (repeat' (first | exact trivial | exact eqsP_rows _ (fun x => rfl) | ((conv => whnf); first | exact trivial | refine ⟨rfl, ?_⟩ | refine ⟨?_, ?_⟩ | fail))), by (repeat' (first | exact trivial | exact eqsP_rows _ (fun x => rfl) | ((conv => whnf); first | exact trivial | refine ⟨rfl, ?_⟩ | refine ⟨?_, ?_⟩ | fail))), by (repeat' (first | exact trivial | exact eqsP_rows _ (fun x => rfl) | ((conv => whnf); first | exact trivial | refine ⟨rfl, ?_⟩ | refine ⟨?_, ?_⟩ | fail))), ?_⟩; refine PRet.calls hS ?_) | exact rfl | exact ⟨rfl, rfl⟩ | refine go1 ?_ | (intro ep) | refine ⟨pureRows_of (by kernel_rfl), by (repeat' (first | exact trivial | exact eqsP_rows _ (fun x => rfl) | ((conv => whnf); first | exact trivial | refine ⟨rfl, ?_⟩ | refine ⟨?_, ?_⟩ | fail))), by (repeat' (first | exact trivial | exact eqsP_rows _ (fun x => rfl) | ((conv => whnf); first | exact trivial | refine ⟨rfl, ?_⟩ | refine ⟨?_, ?_⟩ | fail))), by (repeat' (first | exact trivial | exact eqsP_rows _ (fun x => rfl) | ((conv => whnf); first | exact trivial | refine ⟨rfl, ?_⟩ | refine ⟨?_, ?_⟩ | fail))), ?_⟩ | refine ⟨pureRows_of1 (by kernel_rfl), ?_⟩ | (refine ifB (fun hb => ?_) (fun hb => ?_) <;> (try simp only [qs] at hb) <;> (try simp (disch := omega) only [wrapI] at hb) <;> (try (exfalso; omega))) | fail)))
end Go.Ab.V

namespace Go.Ab.V
open Go.Proofs
theorem vT_len : ∀ {t : Tl}, (∀ a ∈ t, a.1.length ≤ 100000) → (vT t).length ≤ 100000 * t.length
 | [], _ => by simp [vT]
 | a :: t, h => by
  have h1 := h a (List.mem_cons_self ..)
  have h2 := vT_len fun b hb => h b (List.mem_cons_of_mem _ hb)
  have h3 : (vT (a :: t)).length = a.1.length + (vT t).length := by simp [vT]
  simp only [List.length_cons]
  omega
structure VoiOk (V : List (List AV)) : Prop where
 len : V.length ≤ 64
 at' : ∀ r ∈ V, ∃ (l : List Int) (c m : Int), r = voiR l c m ∧ l.length ≤ 600000000
theorem voiL_ok {G : Steps} (sok : SOk G) {most : Nat} (hm : 1 ≤ most ∧ most ≤ 64) : VoiOk (voiL G most) := by
 refine ⟨by have := voiL_len (G := G) (most := most); omega, fun r hr => ?_⟩
 rw [← voiD_L hm.1 sok] at hr
 obtain ⟨t, ht, rfl⟩ := List.mem_map.1 hr
 have ht : t ∈ DT most (G.drop 0) 0 := by rw [List.drop_zero]; exact ht
 have tok := DT_ok hm.1 sok (Nat.zero_le _) sok.one t ht
 refine ⟨_, _, _, rfl, ?_⟩
 have := vT_len tok.ks
 have := tok.len
 omega
theorem both_zero {x : Lm} {n : List Nt} (c1 : both x n = 0) : LmOk x ∧ chkN n = 0 := by
 have hX : chkL x = 0 := by
  unfold both at c1; split at c1
  ·rename_i h; exact absurd c1 h
  ·rename_i h; simpa using h
 exact ⟨lmOk_of hX, by unfold both at c1; rw [hX] at c1; simpa using c1⟩
end Go.Ab.V

namespace Go.Ab.V
def cs0 (φ : List Nat) : List Int := φ.map fun t : Nat => mnC (t : Int)
end Go.Ab.V

namespace Go.Ab.V
open Go.Proofs
theorem chk_lm {x : Lm} (h : LmOk x) : chkL x = 0 := by
 have h1 := h.lo1
 have h2 := h.lo5
 have h3 := h.hi
 have h4 := h.leap
 have h5 := h.gap
 have h6 := h.cross
 unfold chkL
 rw [if_neg (by omega), if_neg (by omega), if_neg (by omega), if_neg (by omega), if_neg (by omega)]
 exact h.prs
theorem both_of {x : Lm} {n : List Nt} (h : LmOk x) (hN : chkN n = 0) : both x n = 0 := by unfold both; rw [chk_lm h, hN]; rfl
def A22 : Ann := fun _ => {}
theorem rest22n (a n : Int) (h : 0 < n) (hn : n ≤ 100000) : ∃ r : Int, 0 ≤ r ∧ r < n ∧ PRet C.P 22 [.int .i64 a, .int .i64 n] (.int .i64 r) := by
 have h1 := Int.tmod_lt_of_pos a h
 have h2 := Int.lt_tmod_of_pos a h
 obtain ⟨t, ht⟩ : ∃ t, t = a.tmod n := ⟨_, rfl⟩
 have h3 := Int.tmod_lt_of_pos (t + n) h
 have h4 := Int.tmod_nonneg (a := t + n) n (by omega)
 refine ⟨(t + n).tmod n, h4, h3, ?_⟩
 refine pret_of ok mixed (A := A22) 0 Try.func22 rfl ?_
 (repeat' (first | ((conv => whnf); first | refine ⟨rfl, ?_⟩ | refine ⟨by omega, ?_⟩ | (intro ep))))
 all_goals (refine congrArg (AV.int .i64) ?_; rw [← ht, wrapI (x := t + n) (by omega) (by omega)])
structure Z8 where
 i : Nat
 e : Nat
 o : List Int
structure Z8.Ok (L : Nat) (z : Z8) : Prop where
 i1 : 1 ≤ z.i
 iL : z.i ≤ L + 1
 p : z.o.Pairwise (· < ·)
 v : ∀ u ∈ z.o, 1 ≤ u ∧ u < z.i
 l : z.o.length < z.i
end Go.Ab.V

namespace Go.Ab.V
def FG (g f : Int) (y y' : Nt) : Prop := y' = y ∨ (y' = nt0 ∧ 0 < y.t ∧ y.t + g < f)
def RS (g f : Int) (s v : St) : Prop := ∀ k, FG g f (s.get k) (v.get k)
def NM (n : List Nt) (s : St) : Prop := ∀ k, 0 < (s.get k).t → s.get k ∈ n
def QN (y z : Nt) : Prop := (y.e = z.e ∧ y.f = z.f) ∨ (y.e < z.e ∧ y.f < z.f)
theorem qn_some : ∀ (l : List Nt) (b : Nt), chkNs (some b) l = 0 → (∀ y ∈ l, QN b y) ∧ l.Pairwise QN
 | [], b, _ => ⟨by simp, .nil⟩
 | y :: r, b, h => by
  unfold chkNs at h
  split at h
  ·simp at h
  ·split at h
   ·simp at h
   ·rename_i d
    obtain ⟨h1, h2⟩ := qn_some r y h
    have hq : QN b y := by
     unfold ntOff at d
     unfold QN
     omega
    refine ⟨fun z hz => ?_, List.pairwise_cons.2 ⟨h1, h2⟩⟩
    rcases List.mem_cons.1 hz with rfl | hz
    ·exact hq
    ·have := h1 z hz
     unfold QN at *
     omega
theorem qn_all {l : List Nt} (h : chkN l = 0) : l.Pairwise QN := by
 unfold chkN at h
 split at h
 ·simp at h
 ·cases l with
  | nil => exact .nil
  | cons y r =>
   unfold chkNs at h
   split at h
   ·simp at h
   ·obtain ⟨h1, h2⟩ := qn_some r y h
    exact List.pairwise_cons.2 ⟨h1, h2⟩
theorem ef_eq {l : List Nt} (h : chkN l = 0) {y z : Nt} (hy : y ∈ l) (hz : z ∈ l) (he : y.e = z.e) : y.f = z.f := by
 obtain ⟨i, hi, rfl⟩ := List.mem_iff_getElem.1 hy
 obtain ⟨j, hj, rfl⟩ := List.mem_iff_getElem.1 hz
 have hp := List.pairwise_iff_getElem.1 (qn_all h)
 rcases Nat.lt_trichotomy i j with c | c | c
 ·have := hp i j hi hj c
  unfold QN at this
  omega
 ·subst c; rfl
 ·have := hp j i hj hi c
  unfold QN at this
  omega
theorem ft_lt {l : List Nt} (h : chkN l = 0) {y : Nt} (hy : y ∈ l) : 0 ≤ y.f ∧ y.f < y.t := by
 have := (ntsOk_of h).fit y hy
 unfold ntBad at this
 omega
theorem set_fg {g f : Int} {s v : St} (h : RS g f s v) {k : Nat} (hk : k < 5) (y : Nt) : RS g f (s.set k y) (v.set k y) := by
 intro j
 rw [St.get_set _ hk, St.get_set _ hk]
 split
 ·exact .inl rfl
 ·exact h j
theorem set_nm {n : List Nt} {s : St} (h : NM n s) {k : Nat} (hk : k < 5) {y : Nt} (hy : y ∈ n) : NM n (s.set k y) := by
 intro j
 rw [St.get_set _ hk]
 split
 ·exact fun _ => hy
 ·exact h j
section
variable {x : Lm} (X : LmOk x) {n : List Nt} (hN : chkN n = 0)
include X hN
theorem join_fg {f : Int} {s v : St} (h : RS x.gap f s v) (hm : NM n s) {y : Nt} (hy : y ∈ n) (hf : y.f = f) (u : Int) : match join x v y u with
  | none => join x s y u = none
  | some d => ∃ t, join x s y u = some (d.1, t) ∧ RS x.gap f t d.2 ∧ NM n t := by
 have h5 := X.lo5
 have hg := X.gap
 by_cases c1 : u < 1 ∨ (x.lo.length : Int) < u
 ·have e1 : ∀ w, join x w y u = none := fun w => by unfold join; rw [if_pos c1]
  rw [e1]
  exact e1 s
 have hset := set_fg h (show (u - 1).toNat < 5 by omega) y
 have hnm := set_nm hm (show (u - 1).toNat < 5 by omega) hy
 have hk := h (u - 1).toNat
 have hmk := hm (u - 1).toNat
 unfold join
 rw [if_neg c1, if_neg c1]
 by_cases c2 : y.p < x.lo.getD (u - 1).toNat 0 ∨ x.hi.getD (u - 1).toNat 0 < y.p
 ·rw [if_pos c2, if_pos c2]
 rw [if_neg c2, if_neg c2]
 rcases hk with e | ⟨e, e1, e2⟩
 ·rw [e]
  by_cases c3 : 0 < (s.get (u - 1).toNat).t ∧ (s.get (u - 1).toNat).e = y.e
  ·rw [if_pos c3]; simp only [if_pos c3]
  rw [if_neg c3, if_neg c3]
  by_cases c4 : 0 < (s.get (u - 1).toNat).t ∧ y.f ≤ (s.get (u - 1).toNat).t + x.gap
  ·rw [if_pos c4, if_pos c4]
   by_cases c5 : x.leap < dst y.p (s.get (u - 1).toNat).p
   ·rw [if_pos c5, if_pos c5]
   ·rw [if_neg c5, if_neg c5]
    exact ⟨_, rfl, hset, hnm⟩
  ·rw [if_neg c4, if_neg c4]
   exact ⟨_, rfl, hset, hnm⟩
 ·rw [e]
  have z0 : ¬ (0 < nt0.t ∧ nt0.e = y.e) := by unfold nt0; simp
  have z1 : ¬ (0 < nt0.t ∧ y.f ≤ nt0.t + x.gap) := by unfold nt0; simp
  have z2 : ¬ (0 < (s.get (u - 1).toNat).t ∧ (s.get (u - 1).toNat).e = y.e) := by
   rintro ⟨_, a2⟩
   have b1 := hmk e1
   have b2 := ef_eq hN b1 hy a2
   have b3 := ft_lt hN b1
   omega
  have z3 : ¬ (0 < (s.get (u - 1).toNat).t ∧ y.f ≤ (s.get (u - 1).toNat).t + x.gap) := by omega
  rw [if_neg z0, if_neg z1, if_neg z2, if_neg z3]
  exact ⟨_, rfl, hset, hnm⟩
theorem walk_fg {f : Int} : ∀ (ns : List Nt) (s v : St) (m : Int) (l : List Int), RS x.gap f s v → NM n s → (∀ y ∈ ns, y ∈ n ∧ y.f = f) → match walk (stp x) ns (v, m) l with
  | none => walk (stp x) ns (s, m) l = none
  | some d => ∃ t, walk (stp x) ns (s, m) l = some (t, d.2) ∧ RS x.gap f t d.1 ∧ NM n t
 | [], s, v, m, [], h, hm, _ => ⟨s, rfl, h, hm⟩
 | [], s, v, m, _ :: _, h, hm, _ => rfl
 | _ :: _, s, v, m, [], h, hm, _ => rfl
 | y :: ns, s, v, m, u :: l, h, hm, hns => by
  obtain ⟨hy, hf⟩ := hns y (List.mem_cons_self ..)
  have hj := join_fg X hN h hm hy hf u
  rw [walk, walk]
  unfold stp
  cases e : join x v y u with
  | none =>
   rw [e] at hj
   simp only at hj
   rw [hj]
   rfl
  | some d =>
   rw [e] at hj
   obtain ⟨t, h1, h2, h3⟩ := hj
   rw [h1]
   simp only [Option.map_some]
   exact walk_fg ns t d.2 (m + d.1) l h2 h3 fun z hz => hns z (List.mem_cons_of_mem _ hz)
end
theorem ind_fg {g f : Int} (hg : 0 ≤ g) (hf : 0 ≤ f) {y y' z z' : Nt} (h1 : FG g f y y') (h2 : FG g f z z') : ind f y' z' = ind f y z := by
 unfold ind
 have nz : nt0.t = 0 := rfl
 rcases h1 with rfl | ⟨rfl, a1, a2⟩ <;> rcases h2 with rfl | ⟨rfl, b1, b2⟩
 ·rfl
 ·rw [if_neg (by omega), if_neg (by omega)]
 ·rw [if_neg (by omega), if_neg (by omega)]
 ·rw [if_neg (by omega), if_neg (by omega)]
theorem crB_fg {g f : Int} (hg : 0 ≤ g) (hf : 0 ≤ f) {s v : St} (h : RS g f s v) (j : Nat) : ∀ a, crB v f j a = crB s f j a
 | 0 => rfl
 | a + 1 => by rw [crB, crB, crB_fg hg hf h j a, ind_fg hg hf (h a) (h j)]
theorem crA_fg {g f : Int} (hg : 0 ≤ g) (hf : 0 ≤ f) {s v : St} (h : RS g f s v) : ∀ j, crA v f j = crA s f j
 | 0 => rfl
 | j + 1 => by rw [crA, crA, crA_fg hg hf h j, crB_fg hg hf h j j]
theorem crs_fg {g f : Int} (hg : 0 ≤ g) (hf : 0 ≤ f) {s v : St} (h : RS g f s v) : crs v f = crs s f := crA_fg hg hf h 5
theorem fgt_get (g f : Int) (v : St) (k : Nat) : (fgt g f v).get k = fgN g f (v.get k) := by
 match k with
 | 0 | 1 | 2 | 3 | 4 => rfl
 | k + 5 =>
  show nt0 = fgN g f nt0
  unfold fgN
  rw [if_neg (by unfold nt0; simp)]
theorem fgt_rs {g f f' : Int} (hff : f ≤ f') {s v : St} (h : RS g f s v) : RS g f' s (fgt g f' v) := by
 intro k
 rw [fgt_get]
 unfold fgN
 rcases h k with e | ⟨e, e1, e2⟩
 ·rw [e]
  by_cases c : 0 < (s.get k).t ∧ (s.get k).t + g < f'
  ·rw [if_pos c]; exact .inr ⟨rfl, c.1, c.2⟩
  ·rw [if_neg c]; exact .inl rfl
 ·rw [e, if_neg (by unfold nt0; simp)]
  exact .inr ⟨rfl, e1, by omega⟩
section
variable {N V σ : Type} {step : σ → N → V → Option σ} {vs : List V}
theorem dfs_mem : ∀ (r : List N) (s : σ) (l : List V) (p : List V × σ), p ∈ dfs step vs r s l ↔ ∃ q, p.1 = l ++ q ∧ (∀ v ∈ q, v ∈ vs) ∧ walk step r s q = some p.2
 | [], s, l, (p1, p2) => by
  rw [dfs, List.mem_singleton]
  constructor
  ·intro h
   cases h
   exact ⟨[], by simp, by simp, rfl⟩
  ·rintro ⟨q, h1, _, h3⟩
   cases q with
   | nil =>
    rw [walk] at h3
    cases h3
    simp only at h1
    rw [h1, List.append_nil]
   | cons a q => rw [walk] at h3; cases h3; all_goals simp
 | n :: r, s, l, (p1, p2) => by
  rw [dfs, List.mem_flatMap]
  constructor
  ·rintro ⟨v, hv, h⟩
   cases e : step s n v with
   | none => rw [e] at h; simp at h
   | some s' =>
    rw [e] at h
    obtain ⟨q, h1, h2, h3⟩ := (dfs_mem r s' (l ++ [v]) (p1, p2)).1 h
    refine ⟨v :: q, by rw [h1]; simp, fun u hu => ?_, ?_⟩
    ·rcases List.mem_cons.1 hu with rfl | hu
     ·exact hv
     ·exact h2 u hu
    ·rw [walk, e]
     exact h3
  ·rintro ⟨q, h1, h2, h3⟩
   cases q with
   | nil => rw [walk] at h3; cases h3; all_goals simp
   | cons v q =>
    rw [walk] at h3
    cases e : step s n v with
    | none => rw [e] at h3; simp at h3
    | some s' =>
     rw [e] at h3
     refine ⟨v, h2 v (List.mem_cons_self ..), ?_⟩
     rw [e]
     exact (dfs_mem r s' (l ++ [v]) (p1, p2)).2 ⟨q, by rw [h1]; simp, fun u hu => h2 u (List.mem_cons_of_mem _ hu), h3⟩
end
theorem walk_len {x : Lm} : ∀ {ns : List Nt} {s : St × Int} {l : List Int} {d : St × Int}, walk (stp x) ns s l = some d → l.length = ns.length ∧ ∀ v ∈ l, v ∈ vcs x
 | [], s, [], d, _ => ⟨rfl, by simp⟩
 | [], s, _ :: _, d, h => by rw [walk] at h; cases h; all_goals simp
 | _ :: _, s, [], d, h => by rw [walk] at h; cases h; all_goals simp
 | y :: ns, s, u :: l, d, h => by
  rw [walk] at h
  cases e : stp x s y u with
  | none => rw [e] at h; simp at h
  | some s' =>
   rw [e] at h
   obtain ⟨h1, h2⟩ := walk_len h
   refine ⟨by simp [h1], fun v hv => ?_⟩
   rcases List.mem_cons.1 hv with rfl | hv
   ·unfold stp at e
    rw [Option.map_eq_some_iff] at e
    obtain ⟨d', hd, _⟩ := e
    unfold join at hd
    split at hd
    ·cases hd
    ·unfold vcs
     exact List.mem_map.2 ⟨(v - 1).toNat, List.mem_range.2 (by omega), by omega⟩
   ·exact h2 v hv
def vok (x : Lm) (n : List Nt) : St → List (Nat × Nat) → List Int → Option Co
 | _, [], l => if l = [] then some (0, 0) else none
 | s, (a, cnt) :: S, l => match walk (stp x) ((n.drop a).take cnt) (s, 0) (l.take cnt) with
  | none => none
  | some d => if x.cross < crs d.1 (frN n a) then none else (vok x n d.1 S (l.drop cnt)).map fun r => (crs d.1 (frN n a) + r.1, d.2 + r.2)
theorem pkW_all {ls : List (List Co)} : ∀ {k : Nat} {p : Nat → Nat} {j q : Nat} {x : Co}, (ls.getD j [])[q]? = some x → p j ≤ q → q < pkP ls k p j → (⟨x.1, x.2, (j : Int), (q : Int)⟩ : Wy) ∈ pkW ls k p
 | 0, p, j, q, x, _, h1, h2 => by rw [pkP] at h2; omega
 | k + 1, p, j, q, x, hx, h1, h2 => by
  rw [pkP] at h2
  rw [pkW]
  cases hb : bst id ls p ls.length with
  | none => rw [hb] at h2; simp only at h2; omega
  | some jx =>
   rw [hb] at h2
   simp only at h2 ⊢
   have hd := (bst_hd hb).2
   unfold hdA at hd
   by_cases c : j = jx.1 ∧ q = p j
   ·obtain ⟨c1, c2⟩ := c
    subst c1 c2
    rw [hx] at hd
    cases hd
    exact List.mem_cons_self ..
   ·refine List.mem_cons_of_mem _ (pkW_all hx ?_ h2)
    unfold bump
    split <;> omega
theorem mrg_mem {ls : List (List Co)} {j q : Nat} {x : Co} (hx : (ls.getD j [])[q]? = some x) : (⟨x.1, x.2, (j : Int), (q : Int)⟩ : Wy) ∈ mrg ls := by
 refine pkW_all hx (Nat.zero_le _) ?_
 have hj : j < ls.length := rem_lt (x := x) (p := fun _ => q) ⟨q, Nat.le_refl _, hx⟩
 have h1 := pkP_full (ls := ls) (k := (ls.map List.length).sum) (p := fun _ => 0) (by rw [remN_sum]; exact Nat.le_refl _)
 have h2 := bst_none h1 j hj
 unfold hdA at h2
 have h3 := List.getElem?_eq_none_iff.1 h2
 have h4 := (List.getElem?_eq_some_iff.1 hx).1
 omega
end Go.Ab.V

namespace Go.Ab.V
theorem seg_f {n : List Nt} (hN : chkN n = 0) {i a cnt : Nat} (hs : (segR 0 n)[i]? = some (a, cnt)) : a < n.length ∧ a + cnt ≤ n.length ∧ ∀ y ∈ (n.drop a).take cnt, y ∈ n ∧ y.f = frN n a := by
 have hlen := (ntsOk_of hN).len
 obtain ⟨sg, ha⟩ := seg_at hs hlen
 refine ⟨ha, sg.le, fun y hy => ?_⟩
 have hm : y ∈ n := List.mem_of_mem_drop (List.mem_of_mem_take hy)
 have he := (seg_notes hN sg ha y hy).2.2
 exact ⟨hm, by rw [frN_at ha]; exact ef_eq hN hm (List.getElem_mem ha) he⟩
theorem seg_mono {n : List Nt} (hN : chkN n = 0) {i a cnt b d : Nat} (hs : (segR 0 n)[i]? = some (a, cnt)) (hs2 : (segR 0 n)[i + 1]? = some (b, d)) : frN n a ≤ frN n b := by
 obtain ⟨ha, _, _⟩ := seg_f hN hs
 obtain ⟨hb, _, _⟩ := seg_f hN hs2
 have hch : Chain n.length 0 (segR 0 n) := by have := chain_segR n.length 0 n (Nat.le_refl _); rwa [Nat.zero_add] at this
 have key : ∀ (S : List (Nat × Nat)) (o i : Nat), Chain n.length o S → S[i]? = some (a, cnt) → S[i + 1]? = some (b, d) → a < b := by
  intro S
  induction S with
  | nil => intro o i _ h; simp at h
  | cons q S ih =>
   intro o i hc h1 h2
   obtain ⟨q1, q2⟩ := q
   obtain ⟨c1, c2, c3⟩ := hc
   cases i with
   | zero =>
    simp only [List.getElem?_cons_zero, Option.some.injEq, Prod.mk.injEq] at h1
    cases S with
    | nil => simp at h2
    | cons q' S =>
     obtain ⟨q1', q2'⟩ := q'
     obtain ⟨d1, _, _⟩ := c3
     simp only [Nat.zero_add, List.getElem?_cons_succ, List.getElem?_cons_zero, Option.some.injEq, Prod.mk.injEq] at h2
     omega
   | succ i => exact ih _ i c3 (by simpa using h1) (by simpa using h2)
 have hab := key _ _ _ hch hs hs2
 rw [frN_at ha, frN_at hb]
 have := List.pairwise_iff_getElem.1 (qn_all hN) a b ha hb hab
 unfold QN at this
 omega
theorem mvE_mem {x : Lm} {n : List Nt} {i a cnt : Nat} (hs : (segR 0 n)[i]? = some (a, cnt)) {v : St} {mv : Mv} : mv ∈ mvE x n i v ↔ ∃ (l : List Int) (e : St × Int), walk (stp x) ((n.drop a).take cnt) (v, 0) l = some e ∧ ¬ x.cross < crs e.1 (frN n a) ∧ mv = ⟨l, crs e.1 (frN n a), e.2, frg x n e.1 (i + 1)⟩ := by
 have e0 : mvE x n i v = (dfs (stp x) (vcs x) ((n.drop a).take cnt) (v, 0) []).flatMap (fin x n i (frN n a)) := by unfold mvE; rw [hs]; rfl
 rw [e0, List.mem_flatMap]
 constructor
 ·rintro ⟨p, hp, hf⟩
  obtain ⟨q, h1, _, h3⟩ := (dfs_mem _ _ _ p).1 hp
  rw [List.nil_append] at h1
  unfold fin at hf
  split at hf
  ·simp at hf
  ·rename_i hc
   rw [List.mem_singleton] at hf
   exact ⟨q, p.2, h3, hc, by rw [hf, h1]⟩
 ·rintro ⟨l, e, h1, h2, rfl⟩
  refine ⟨(l, e), (dfs_mem _ _ _ _).2 ⟨l, by simp, (walk_len h1).2, h1⟩, ?_⟩
  unfold fin
  rw [if_neg h2]
  exact List.mem_singleton.2 rfl
theorem way_in {G : Steps} {g : List (List RMv)} {k : Nat} {h : RMv} {w' : Wy} (hh : h ∈ g.getD k []) (hw : w' ∈ WG G h.to) : ∃ w ∈ WG (g :: G) k, vwG (g :: G) k w = h.ks ++ vwG G h.to w' ∧ w.c = h.c + w'.c ∧ w.m = h.m + w'.m := by
 have hl : h ∈ lvOf (WG G) (g.getD k []) := List.mem_filter.2 ⟨hh, by
  cases e : WG G h.to with
  | nil => rw [e] at hw; simp at hw
  | cons a r => rfl⟩
 obtain ⟨j, hj⟩ := List.mem_iff_getElem?.1 hl
 obtain ⟨q, hq⟩ := List.mem_iff_getElem?.1 hw
 have hx : ((lsOf (WG G) (g.getD k [])).getD j [])[q]? = some (h.c + w'.c, h.m + w'.m) := by rw [lsOf_at hj, hq]; rfl
 refine ⟨_, by rw [WG]; exact mrg_mem hx, ?_, rfl, rfl⟩
 rw [vwG]
 simp only [Int.toNat_natCast, hj, hq]
theorem vok_iff {x : Lm} (X : LmOk x) {n : List Nt} (hN : chkN n = 0) {Ls : List Lay} (hG : Graph x n Ls) : ∀ (d i : Nat), i + d = (enR x n).length → ∀ (k : Nat) (hi : i < Ls.length) (hk : k < Ls[i].1.length) (s : St), NM n s → (∀ q, (segR 0 n)[i]? = some q → RS x.gap (frN n q.1) s Ls[i].1[k]) → ∀ (l : List Int) (r : Co),
  vok x n s ((segR 0 n).drop i) l = some r ↔ ∃ w ∈ WG ((enR x n).drop i) k, vwG ((enR x n).drop i) k w = l ∧ (w.c, w.m) = r
 | 0, i, hd, k, hi, hk, s, hm, hrs, l, r => by
  have hl := hG.l
  rw [List.drop_of_length_le (l := segR 0 n) (by omega), List.drop_of_length_le (l := enR x n) (by omega), vok, WG]
  constructor
  ·intro h
   split at h
   ·rename_i e
    cases h
    exact ⟨_, List.mem_singleton.2 rfl, by rw [vwG, e], rfl⟩
   ·cases h
  ·rintro ⟨w, hw, h1, h2⟩
   rw [List.mem_singleton] at hw
   subst hw
   rw [vwG] at h1
   rw [if_pos h1.symm, ← h2]
 | d + 1, i, hd, k, hi, hk, s, hm, hrs, l, r => by
  have hl := hG.l
  have hll := gr_len hG.g
  have hiE : i < (enR x n).length := by omega
  have hiS : i < (segR 0 n).length := by omega
  have S := gr_at hG.g (j := i) hiE hi (by omega)
  have hs := List.getElem?_eq_getElem hiS
  have hkE : k < (enR x n)[i].length := by rw [S.len]; exact hk
  have M := S.mv k _ _ (List.getElem?_eq_getElem hk) (List.getElem?_eq_getElem hkE)
  rw [Nat.zero_add] at M
  have hgd : (enR x n)[i].getD k [] = (enR x n)[i][k] := by rw [List.getD_eq_getElem?_getD, List.getElem?_eq_getElem hkE]; rfl
  have hR := hrs _ hs
  rw [List.drop_eq_getElem_cons hiS, List.drop_eq_getElem_cons hiE]
  generalize (segR 0 n)[i] = q at hs hR
  obtain ⟨a, cnt⟩ := q
  obtain ⟨ha, hac, hns⟩ := seg_f hN hs
  have hf0 : 0 ≤ frN n a := by rw [frN_at ha]; exact (ft_lt hN (List.getElem_mem ha)).1
  have hg0 := X.gap.1
  have hnl : ((n.drop a).take cnt).length = cnt := by rw [List.length_take, List.length_drop]; omega
  have hW := fun u => walk_fg X hN ((n.drop a).take cnt) s Ls[i].1[k] 0 u hR hm hns
  have hMm := fun mv => mvE_mem (x := x) (v := Ls[i].1[k]) (mv := mv) hs
  have hi1 : i + 1 < Ls.length := by omega
  have IH := vok_iff X hN hG d (i + 1) (by omega)
  have hnext : ∀ (to : Nat) (hto : to < Ls[i + 1].1.length) (t e : St), RS x.gap (frN n a) t e → Ls[i + 1].1[to] = frg x n e (i + 1) → ∀ q, (segR 0 n)[i + 1]? = some q → RS x.gap (frN n q.1) t Ls[i + 1].1[to] := fun to hto t e h1 h2 q hq => by
   rw [h2]
   unfold frg
   rw [hq]
   obtain ⟨b, d⟩ := q
   exact fgt_rs (seg_mono hN hs hq) h1
  have hF : ∀ (to : Nat) (hto : to < Ls[i + 1].1.length), Ls[i + 1].1.getD to st0 = Ls[i + 1].1[to] := fun to hto => by rw [List.getD_eq_getElem?_getD, List.getElem?_eq_getElem hto]; rfl
  rw [vok]
  constructor
  ·intro h
   cases e1 : walk (stp x) ((n.drop a).take cnt) (s, 0) (l.take cnt) with
   | none => rw [e1] at h; simp at h
   | some d1 =>
    rw [e1] at h
    simp only at h
    have hW1 := hW (l.take cnt)
    cases e2 : walk (stp x) ((n.drop a).take cnt) (Ls[i].1[k], 0) (l.take cnt) with
    | none => rw [e2] at hW1; simp only at hW1; rw [hW1] at e1; cases e1
    | some e =>
     rw [e2] at hW1
     obtain ⟨t, w1, w2, w3⟩ := hW1
     rw [e1] at w1
     cases w1
     simp only at h
     have hcr := crs_fg hg0 hf0 w2
     by_cases c : x.cross < crs t (frN n a)
     ·rw [if_pos c] at h; cases h
     rw [if_neg c, Option.map_eq_some_iff] at h
     obtain ⟨r', h1, rfl⟩ := h
     have hmv := (hMm ⟨l.take cnt, crs e.1 (frN n a), e.2, frg x n e.1 (i + 1)⟩).2 ⟨_, e, e2, by rw [hcr]; exact c, rfl⟩
     rw [M.2] at hmv
     obtain ⟨hv, hvM, hve⟩ := List.mem_map.1 hmv
     have hto := M.1 hv hvM
     unfold toMv at hve
     simp only [Mv.mk.injEq] at hve
     obtain ⟨v1, v2, v3, v4⟩ := hve
     rw [hF _ hto] at v4
     obtain ⟨w', hw', hvw, hwc⟩ := (IH hv.to hi1 hto t w3 (hnext hv.to hto t e.1 w2 v4) (l.drop cnt) r').1 h1
     obtain ⟨w, hw, z1, z2, z3⟩ := way_in (g := (enR x n)[i]) (k := k) (by rw [hgd]; exact hvM) hw'
     refine ⟨w, hw, by rw [z1, v1, hvw, List.take_append_drop], ?_⟩
     rw [z2, z3, v2, v3, hcr, ← hwc]
  ·rintro ⟨w, hw, hvw, hwr⟩
   obtain ⟨j, q, h, w', hj, hq, hm1, hmm, hw', hwc, hwm⟩ := way_ok hw
   rw [hgd] at hmm
   have hmv : toMv Ls[i + 1].1 h ∈ mvE x n i Ls[i].1[k] := by rw [M.2]; exact List.mem_map.2 ⟨h, hmm, rfl⟩
   obtain ⟨u, e, e2, hc, he⟩ := (hMm _).1 hmv
   unfold toMv at he
   simp only [Mv.mk.injEq] at he
   obtain ⟨v1, v2, v3, v4⟩ := he
   have hto := M.1 h hmm
   rw [hF _ hto] at v4
   rw [vwG, hj, hq, Int.toNat_natCast, Int.toNat_natCast, hm1] at hvw
   simp only [hw'] at hvw
   have hul := (walk_len e2).1
   rw [hnl] at hul
   rw [v1] at hvw
   have ht : l.take cnt = u := by rw [← hvw, ← hul, List.take_left']; rfl
   have hdr : l.drop cnt = vwG ((enR x n).drop (i + 1)) h.to w' := by rw [← hvw, ← hul, List.drop_left']; rfl
   have hW1 := hW u
   rw [e2] at hW1
   obtain ⟨t, w1, w2, w3⟩ := hW1
   have hcr := crs_fg hg0 hf0 w2
   have h1 := (IH h.to hi1 hto t w3 (hnext h.to hto t e.1 w2 v4) (l.drop cnt) (w'.c, w'.m)).2 ⟨w', List.mem_of_getElem? hw', hdr.symm, rfl⟩
   rw [ht, w1]
   simp only
   rw [if_neg (by rw [← hcr]; exact hc), h1, ← hwr, hwc, hwm, v2, v3, hcr]
   rfl
theorem walk_shift {x : Lm} : ∀ (ns : List Nt) (s : St) (m m' : Int) (l : List Int), walk (stp x) ns (s, m + m') l = (walk (stp x) ns (s, m') l).map fun d => (d.1, m + d.2)
 | [], s, m, m', [] => rfl
 | [], s, m, m', _ :: _ => rfl
 | _ :: _, s, m, m', [] => rfl
 | y :: ns, s, m, m', u :: l => by
  rw [walk, walk]
  unfold stp
  cases join x s y u with
  | none => rfl
  | some d =>
   simp only [Option.map_some]
   rw [show m + m' + d.1 = m + (m' + d.1) by omega]
   exact walk_shift ns d.2 m (m' + d.1) l
theorem vals_vok {x : Lm} {n : List Nt} {ks : List Int} (hl : ks.length = n.length) : ∀ (S : List (Nat × Nat)) (a : Nat) (s : St) (c m : Int), Chain n.length a S → match vok x n s S (ks.drop a) with
  | none => (vals x n ks s c m S).2.1 = 71
  | some r => vals x n ks s c m S = (0, 0, c + r.1, m + r.2)
 | [], a, s, c, m, hc => by
  have hc : a = n.length := hc
  rw [vok, if_pos (List.drop_of_length_le (by omega)), vals]
  simp
 | (b, cnt) :: S, a, s, c, m, hc => by
  obtain ⟨rfl, hcnt, hc⟩ := hc
  have hle := chain_le hc
  have hev := walk_evt x cnt b s m (n.drop b) ((ks.drop b).take cnt) ((ks.drop b).drop cnt) (by rw [List.length_drop]; omega) (by rw [List.length_take, List.length_drop]; omega)
  rw [List.take_append_drop] at hev
  have hsh := walk_shift (x := x) ((n.drop b).take cnt) s m 0 ((ks.drop b).take cnt)
  rw [Int.add_zero] at hsh
  rw [hsh] at hev
  rw [vok, vals]
  cases e1 : walk (stp x) ((n.drop b).take cnt) (s, 0) ((ks.drop b).take cnt) with
  | none =>
   rw [e1] at hev
   simp only
   cases e2 : evt x s m b cnt (n.drop b) (ks.drop b) with
   | inl j => rfl
   | inr d => rw [e2] at hev; cases hev
  | some d =>
   rw [e1] at hev
   simp only
   cases e2 : evt x s m b cnt (n.drop b) (ks.drop b) with
   | inl j => rw [e2] at hev; cases hev
   | inr d' =>
    rw [e2] at hev
    simp only [Option.map_some, Option.some.injEq] at hev
    subst hev
    simp only
    by_cases c1 : x.cross < crs d.1 (frN n b)
    ·rw [if_pos c1, if_pos c1]
    ·rw [if_neg c1, if_neg c1, List.drop_drop]
     have ih := vals_vok (x := x) hl S (b + cnt) d.1 (c + crs d.1 (frN n b)) (m + d.2) hc
     cases e3 : vok x n d.1 S (ks.drop (b + cnt)) with
     | none => rw [e3] at ih; exact ih
     | some r =>
      rw [e3] at ih
      simp only [Option.map_some] at ih ⊢
      rw [ih]
      simp only [Prod.mk.injEq, true_and]
      omega
theorem vok_len {x : Lm} {n : List Nt} : ∀ (S : List (Nat × Nat)) (a : Nat) (s : St) (l : List Int) (r : Co), Chain n.length a S → vok x n s S l = some r → l.length + a = n.length
 | [], a, s, l, r, hc, h => by
  have hc : a = n.length := hc
  rw [vok] at h
  split at h
  ·rename_i e; subst e; simpa using hc
  ·cases h
 | (b, cnt) :: S, a, s, l, r, hc, h => by
  obtain ⟨rfl, hcnt, hc⟩ := hc
  have hle := chain_le hc
  rw [vok] at h
  cases e1 : walk (stp x) ((n.drop b).take cnt) (s, 0) (l.take cnt) with
  | none => rw [e1] at h; simp at h
  | some d =>
   rw [e1] at h
   simp only at h
   split at h
   ·cases h
   ·rw [Option.map_eq_some_iff] at h
    obtain ⟨r', h1, _⟩ := h
    have ih := vok_len S (b + cnt) d.1 (l.drop cnt) r' hc h1
    have hwl := (walk_len e1).1
    rw [List.length_take, List.length_take, List.length_drop] at hwl
    rw [List.length_drop] at ih
    omega
theorem valid_way {x : Lm} (X : LmOk x) {n : List Nt} (hN : chkN n = 0) {Ls : List Lay} (hG : Graph x n Ls) (ks : List Int) : (∀ w ∈ WG (enR x n) 0, vwG (enR x n) 0 w = ks → valid x n ks = (0, 0, w.c, w.m) ∧ ks.length = n.length) ∧
  ((valid x n ks).2.1 = 0 → ∃ w ∈ WG (enR x n) 0, vwG (enR x n) 0 w = ks ∧ valid x n ks = (0, 0, w.c, w.m)) := by
 have hch : Chain n.length 0 (segR 0 n) := by have := chain_segR n.length 0 n (Nat.le_refl _); rwa [Nat.zero_add] at this
 have e0 := (List.getElem?_eq_some_iff.1 hG.h0).2
 have hL0 := hG.len
 have h1 : (0 : Nat) < Ls[0].1.length := by rw [e0]; simp
 have hs0 : ∀ k, st0.get k = nt0 := fun k => by unfold St.get st0; split <;> rfl
 have hv := vok_iff X hN hG (enR x n).length 0 (by omega) 0 hG.len h1 st0 (fun k hk => by rw [hs0] at hk; exact absurd hk (by decide)) (fun q hq k => .inl (by
  have : Ls[0].1[0] = st0 := by simp only [e0]; rfl
  rw [this]))
 simp only [List.drop_zero] at hv
 have hvv : ∀ (hl : ks.length = n.length), valid x n ks = vals x n ks st0 0 0 (segR 0 n) := fun hl => by
  unfold valid
  rw [if_neg (by rw [both_of X hN]; omega), if_neg (by omega)]
 constructor
 ·intro w hw hk
  have h2 := (hv ks (w.c, w.m)).2 ⟨w, hw, hk, rfl⟩
  have hl : ks.length = n.length := by have := vok_len _ _ _ _ _ hch h2; omega
  have h3 := vals_vok (x := x) hl (segR 0 n) 0 st0 0 0 hch
  rw [List.drop_zero, h2] at h3
  simp only [Int.zero_add] at h3
  exact ⟨by rw [hvv hl, h3], hl⟩
 ·intro h
  by_cases hl : ks.length = n.length
  ·have h3 := vals_vok (x := x) hl (segR 0 n) 0 st0 0 0 hch
   rw [List.drop_zero] at h3
   rw [hvv hl] at h ⊢
   cases e : vok x n st0 (segR 0 n) ks with
   | none => rw [e] at h3; simp only at h3; omega
   | some r =>
    rw [e] at h3
    simp only [Int.zero_add] at h3
    obtain ⟨w, hw, h4, h5⟩ := (hv ks r).1 e
    exact ⟨w, hw, h4, by rw [h3, ← h5]⟩
  ·exfalso
   unfold valid at h
   rw [if_neg (by rw [both_of X hN]; omega), if_pos hl] at h
   simp at h
end Go.Ab.V

namespace Go.Ab.V
def upN (b : Int) (y : Nt) : Nt := ⟨y.e, y.c, y.p + b, y.f, y.t⟩
def UN (b : Int) (y y' : Nt) : Prop := (y = nt0 ∧ y' = nt0) ∨ y' = upN b y
theorem UN.t {b : Int} {y y' : Nt} (h : UN b y y') : y'.t = y.t := by rcases h with ⟨rfl, rfl⟩ | rfl <;> rfl
theorem UN.e {b : Int} {y y' : Nt} (h : UN b y y') : y'.e = y.e := by rcases h with ⟨rfl, rfl⟩ | rfl <;> rfl
theorem UN.p {b : Int} {y y' : Nt} (h : UN b y y') (ht : 0 < y.t) : y'.p = y.p + b := by
 rcases h with ⟨rfl, rfl⟩ | rfl
 ·exact absurd ht (by decide)
 ·rfl
theorem valid_len {x : Lm} {n : List Nt} {ks : List Int} (h : (valid x n ks).2.1 = 0) : ks.length = n.length := by
 unfold valid at h
 split at h
 ·rename_i c; exact absurd h c
 ·split at h
  ·exact absurd h (by show ¬ (1 : Int) = 0; decide)
  ·rename_i c; omega
section
variable {b : Int} {x : Lm} (hhi : x.hi.length = x.lo.length) (h5 : x.lo.length ≤ 5) {n : List Nt} (hf : ∀ a, 0 ≤ frN n a)
include hhi h5 hf
end
end Go.Ab.V

namespace Go.Ab.V
open Go.Proofs
def tnBad (en : Int) (x : Tn) : Prop := x.p < 0 ∨ 127 < x.p ∨ x.f < en ∨ x.t ≤ x.f ∨ 262144 < x.t
instance (en : Int) (x : Tn) : Decidable (tnBad en x) := by unfold tnBad; infer_instance
def rgt : Int → List Tn → Bool
 | _, [] => true
 | en, x :: r => if tnBad en x then false else rgt x.t r
end Go.Ab.V

namespace Go.Ab.V
open Go.Proofs
def bigAt : List (List Tn) → Int → Int
 | [], _ => -1
 | p :: r, k => if 400 < p.length then k else bigAt r (k + 1)
def anyB (l : List (List Tn)) : Bool := l.any fun p => decide (400 < p.length)
theorem bigAt_iff : ∀ (l : List (List Tn)) (k : Int), 0 ≤ k → (decide (bigAt l k ≥ 0) = anyB l)
 | [], k, h => by simp [bigAt, anyB]
 | p :: r, k, h => by
  unfold bigAt anyB
  rw [List.any_cons]
  split
  ·rename_i h1; simp [h1, h]
  ·rename_i h1
   have := bigAt_iff r (k + 1) (by omega)
   unfold anyB at this
   rw [this]; simp [h1]
def A53 : Ann := fun _ => {}
theorem big47 (p : List Tn) : PRet C.P 53 [tnsA p] (.bool (decide (400 < p.length))) := by
 by_cases h : 400 < p.length
 ·rw [decide_eq_true h]
  refine pret_of ok mixed (A := A53) 0 Try.func53 rfl ?_
  (repeat' (first | exact rfl | ((conv => whnf); first | exact rfl | refine ⟨by kernel_rfl, ?_⟩ | exact ⟨rfl, rfl⟩ | refine go0 ?_ | (intro ep) | (refine ifB (fun hb => ?_) (fun hb => ?_) <;> (try simp only [qs] at hb) <;> (try simp (disch := omega) only [wrapI] at hb) <;> (try (exfalso; omega))) | fail)))
  all_goals (conv => whnf)
  all_goals (simp; omega)
 ·rw [decide_eq_false h]
  refine pret_of ok mixed (A := A53) 0 Try.func53 rfl ?_
  (repeat' (first | exact rfl | ((conv => whnf); first | exact rfl | refine ⟨by kernel_rfl, ?_⟩ | exact ⟨rfl, rfl⟩ | refine go0 ?_ | (intro ep) | (refine ifB (fun hb => ?_) (fun hb => ?_) <;> (try simp only [qs] at hb) <;> (try simp (disch := omega) only [wrapI] at hb) <;> (try (exfalso; omega))) | fail)))
  all_goals (conv => whnf)
  all_goals (simp; omega)
def A76 : Ann := fun _ => {}
set_option maxHeartbeats 8000000 in
set_option maxRecDepth 100000 in
theorem index75 (l : List (List Tn)) (hl : l.length ≤ 9223372036854775806) : PRet C.P 76 [prtsA l, .fn (.func 53) [] []] (.int .i64 (bigAt l 0)) := by
 obtain ⟨R, hR⟩ : ∃ R, R = bigAt l 0 := ⟨_, rfl⟩
 rw [← hR]
 refine pret_of ok mixed (A := A76) 0 Try.func76 rfl ?_
 (repeat' (first | exact rfl | ((conv => whnf); first | exact rfl | refine ⟨by kernel_rfl, ?_⟩ | exact ⟨rfl, rfl⟩ | refine go0 ?_ | (intro ep) | (refine ifB (fun hb => ?_) (fun hb => ?_) <;> (try simp only [qs] at hb) <;> (try simp (disch := omega) only [wrapI] at hb) <;> (try (exfalso; omega))) | fail)))
 all_goals (conv => whnf)
 refine loopY ok mixed (A := A76) [0, 1, 7, 8] [] (S := { k : Nat // k ≤ l.length ∧ bigAt (l.drop k) k = R })
  (fr := fun s => frOf 0 19 [(0, prtsA l), (1, .fn (.func 53) [] []), (7, .int .i64 (l.length : Int)), (8, .int .i64 (s.1 : Int))])
  (h := fun s => ⟨[], []⟩) (μ := fun s => l.length - s.1) ⟨0, by simp [hR]⟩ ?_ ?_
  [] [] (S' := { k : Nat // -1 = R }) (X := fun _ => 0) (frX := fun s => frOf 0 19 []) (hX := fun s => ⟨[], []⟩)
  [4] [] (S2 := { k : Nat // (k : Int) = R }) (frR := fun s => frOf 0 19 [(4, .int .i64 (s.1 : Int))]) (hR := fun s => ⟨[], []⟩) ?_ ?_ ?_
 ·exact rfl
 ·exact rfl
 ·rintro ⟨k, hk, hu⟩
  show aexR _ _ _ (frOf 0 19 [(0, prtsA l), (1, .fn (.func 53) [] []), (7, .int .i64 (l.length : Int)), (8, .int .i64 (k : Int))]) ⟨[], []⟩ _
  (conv => whnf)
  refine ifB (fun g1 => ?_) (fun g1 => ?_)
  ·simp only [decide_eq_true_eq] at g1
   have h1 : k < l.length := by omega
   have hm := mapR (f := fun p => [tnsA p]) h1
   rw [List.drop_eq_getElem_cons h1, bigAt] at hu
   generalize l[k] = p at hm hu
   have hc := big47 p
   by_cases c1 : 400 < p.length
   ·rw [if_pos c1] at hu
    rw [decide_eq_true c1] at hc
    (repeat' (first | exact rfl | ((conv => whnf); first | refine optS hm ?_ | refine ⟨_, hc, ?_⟩ | exact rfl | refine ⟨by kernel_rfl, ?_⟩ | exact ⟨rfl, rfl⟩ | refine go0 ?_ | (intro ep) | (refine ifB (fun hb => ?_) (fun hb => ?_) <;> (try simp only [qs] at hb) <;> (try simp (disch := omega) only [wrapI] at hb) <;> (try (exfalso; omega))) | fail)))
    all_goals (conv => whnf)
    all_goals exact back_of ⟨k, hu⟩ ⟨rfl, rfl⟩
   ·rw [if_neg c1] at hu
    rw [decide_eq_false c1] at hc
    (repeat' (first | exact rfl | ((conv => whnf); first | refine optS hm ?_ | refine ⟨_, hc, ?_⟩ | exact rfl | refine ⟨by kernel_rfl, ?_⟩ | exact ⟨rfl, rfl⟩ | refine go0 ?_ | (intro ep) | (refine ifB (fun hb => ?_) (fun hb => ?_) <;> (try simp only [qs] at hb) <;> (try simp (disch := omega) only [wrapI] at hb) <;> (try (exfalso; omega))) | fail)))
    all_goals (conv => whnf)
    all_goals exact back_of ⟨k + 1, by omega, hu⟩ ⟨by (first | exact rfl | (simp (disch := omega) only [wrapI]; exact rfl)), rfl, by simp only; omega⟩
  ·simp only [decide_eq_false_iff_not] at g1
   rw [List.drop_eq_nil_of_le (by omega), bigAt] at hu
   (repeat' (first | exact rfl | ((conv => whnf); first | exact rfl | refine ⟨by kernel_rfl, ?_⟩ | exact ⟨rfl, rfl⟩ | refine go0 ?_ | (intro ep) | fail)))
   all_goals (conv => whnf)
   exact back_of ⟨0, hu⟩ ⟨rfl, rfl, rfl⟩
 ·rintro ⟨x, hx⟩
  (repeat' (first | exact rfl | ((conv => whnf); first | exact rfl | refine ⟨by kernel_rfl, ?_⟩ | exact ⟨rfl, rfl⟩ | refine go0 ?_ | (intro ep) | fail)))
  all_goals (conv => whnf)
  all_goals (subst hx; rfl)
 ·rintro ⟨x, hx⟩
  (repeat' (first | exact rfl | ((conv => whnf); first | exact rfl | refine ⟨by kernel_rfl, ?_⟩ | exact ⟨rfl, rfl⟩ | refine go0 ?_ | (intro ep) | fail)))
  all_goals (conv => whnf)
  all_goals (subst hx; rfl)
def A52 : Ann := fun _ => {}
theorem any46 (l : List (List Tn)) (hl : l.length ≤ 9223372036854775806) : PRet C.P 52 [prtsA l, .fn (.func 53) [] []] (.bool (anyB l)) := by
 have h1 := index75 l hl
 rw [← bigAt_iff l 0 (by omega)]
 refine pret_of ok mixed (A := A52) 0 Try.func52 rfl ?_
 (repeat' (first | exact rfl | ((conv => whnf); first | refine ⟨_, h1, ?_⟩ | exact rfl | refine ⟨by kernel_rfl, ?_⟩ | exact ⟨rfl, rfl⟩ | refine go0 ?_ | (intro ep) | fail)))
end Go.Ab.V

namespace Go.Ab.V
open Go.Proofs
def chkP (l : List (List Tn)) : Int := if 6 < l.length then 2 else if anyB l = true then 2 else if l.all (rgt 0) = true then 0 else 80
def A32 : Ann := fun r => match r with
 | 9 => { slots := [(2, 0)] }
 | _ => {}
set_option maxHeartbeats 8000000 in
set_option maxRecDepth 100000 in
theorem checkParts_spec (l : List (List Tn)) (hl : l.length ≤ 9223372036854775807) (hp : ∀ p ∈ l, p.length ≤ 9223372036854775807) : PRet C.P 32 [prtsA l] (.int .i64 (chkP l)) := by
 unfold chkP
 by_cases c0 : 6 < l.length
 ·rw [if_pos c0]
  refine pret_of ok mixed (A := A32) 1 Try.func32 rfl ?_
  (repeat' (first | exact rfl | ((conv => whnf); first | exact rfl | refine ⟨by kernel_rfl, ?_⟩ | exact ⟨rfl, rfl⟩ | refine go0 ?_ | (intro ep) | (refine ifB (fun hb => ?_) (fun hb => ?_) <;> (try simp only [qs] at hb) <;> (try simp (disch := omega) only [wrapI] at hb) <;> (try (exfalso; omega))) | fail)))
 rw [if_neg c0]
 have hA := any46 l (by omega)
 by_cases c1 : anyB l = true
 ·rw [if_pos c1]
  rw [c1] at hA
  refine pret_of ok mixed (A := A32) 1 Try.func32 rfl ?_
  (repeat' (first | exact rfl | ((conv => whnf); first | refine ⟨_, hA, ?_⟩ | exact rfl | refine ⟨by kernel_rfl, ?_⟩ | exact ⟨rfl, rfl⟩ | refine go0 ?_ | (intro ep) | (refine ifB (fun hb => ?_) (fun hb => ?_) <;> (try simp only [qs] at hb) <;> (try simp (disch := omega) only [wrapI] at hb) <;> (try (exfalso; omega))) | fail)))
 rw [if_neg c1]
 rw [Bool.not_eq_true] at c1
 rw [c1] at hA
 obtain ⟨R, hR⟩ : ∃ R, R = l.all (rgt 0) := ⟨_, rfl⟩
 rw [← hR]
 refine pret_of ok mixed (A := A32) 1 Try.func32 rfl ?_
 (repeat' (first | exact rfl | ((conv => whnf); first | refine ⟨_, hA, ?_⟩ | exact rfl | refine ⟨by kernel_rfl, ?_⟩ | exact ⟨rfl, rfl⟩ | refine go0 ?_ | (intro ep) | (refine ifB (fun hb => ?_) (fun hb => ?_) <;> (try simp only [qs] at hb) <;> (try simp (disch := omega) only [wrapI] at hb) <;> (try (exfalso; omega))) | fail)))
 all_goals (conv => whnf)
 refine loopY ok mixed (A := A32) [15, 16, 17] [] (S := { k : Nat // k ≤ l.length ∧ (l.drop k).all (rgt 0) = R })
  (fr := fun s => frOf 0 53 [(15, prtsA l), (16, .int .i64 (l.length : Int)), (17, .int .i64 (s.1 : Int))])
  (h := fun s => ⟨[.hole], []⟩) (μ := fun s => l.length - s.1) ⟨0, by simp [hR]⟩ ?_ ?_
  [] [] (S' := { k : Nat // true = R }) (X := fun _ => 0) (frX := fun s => frOf 0 53 []) (hX := fun s => ⟨[.hole], []⟩)
  [2] [] (S2 := { k : Nat // false = R }) (frR := fun s => frOf 0 53 [(2, .int .i64 80)]) (hR := fun s => ⟨[.hole], []⟩) ?_ ?_ ?_
 ·exact rfl
 ·exact rfl
 ·rintro ⟨k, hk, hu⟩
  show aexR _ _ _ (frOf 0 53 [(15, prtsA l), (16, .int .i64 (l.length : Int)), (17, .int .i64 (k : Int))]) ⟨[.hole], []⟩ _
  (conv => whnf)
  refine ifB (fun g1 => ?_) (fun g1 => ?_)
  ·simp only [decide_eq_true_eq] at g1
   have h1 : k < l.length := by omega
   have hm := mapR (f := fun p => [tnsA p]) h1
   have hpl := hp l[k] (List.getElem_mem h1)
   rw [List.drop_eq_getElem_cons h1, List.all_cons] at hu
   generalize l[k] = p at hm hu hpl
   obtain ⟨r, hr⟩ : ∃ r, r = rgt 0 p := ⟨_, rfl⟩
   rw [← hr] at hu
   (repeat' (first | exact rfl | ((conv => whnf); first | refine optS hm ?_ | exact rfl | refine ⟨by kernel_rfl, ?_⟩ | exact ⟨rfl, rfl⟩ | refine go0 ?_ | (intro ep) | fail)))
   all_goals (conv => whnf)
   refine loopY ok mixed (A := A32) [5, 15, 16, 17, 21, 22, 23] [] (S := { x : Nat × Int // x.1 ≤ p.length ∧ rgt x.2 (p.drop x.1) = r })
    (fr := fun s => frOf 0 53 [(5, .int .i64 s.1.2), (15, prtsA l), (16, .int .i64 (l.length : Int)), (17, .int .i64 (k : Int)), (21, tnsA p), (22, .int .i64 (p.length : Int)), (23, .int .i64 (s.1.1 : Int))])
    (h := fun s => ⟨[.hole], []⟩) (μ := fun s => p.length - s.1.1) ⟨(0, 0), by simp [hr]⟩ ?_ ?_
    [15, 16, 17] [] (S' := { k : Nat // true = r }) (X := fun _ => 2) (frX := fun s => frOf 0 53 [(15, prtsA l), (16, .int .i64 (l.length : Int)), (17, .int .i64 (k : Int))]) (hX := fun s => ⟨[.hole], []⟩)
    [2] [] (S2 := { k : Nat // false = r }) (frR := fun s => frOf 0 53 [(2, .int .i64 80)]) (hR := fun s => ⟨[.hole], []⟩) ?_ ?_ ?_
   ·exact rfl
   ·exact rfl
   ·rintro ⟨⟨j, en⟩, hj, hv⟩
    simp only at hj hv
    show aexR _ _ _ (frOf 0 53 [(5, .int .i64 en), (15, prtsA l), (16, .int .i64 (l.length : Int)), (17, .int .i64 (k : Int)), (21, tnsA p), (22, .int .i64 (p.length : Int)), (23, .int .i64 (j : Int))]) ⟨[.hole], []⟩ _
    (conv => whnf)
    refine ifB (fun g2 => ?_) (fun g2 => ?_)
    ·simp only [decide_eq_true_eq] at g2
     have h2 : j < p.length := by omega
     have hm2 := mapR (f := tnR) h2
     rw [List.drop_eq_getElem_cons h2, rgt] at hv
     generalize p[j] = x at hm2 hv
     obtain ⟨q, f, t⟩ := x
     replace hm2 : (p.map tnR)[0 + ((j : Nat) : Int).toNat]? = some [.int .i64 q, .int .i64 f, .int .i64 t] := hm2
     simp only at hv
     by_cases b1 : q < 0 ∨ 127 < q
     ·have w1 := within_f (n := q) (a := 0) (b := 127) b1
      rw [if_pos (by unfold tnBad; simp only; omega)] at hv
      (repeat' (first | exact rfl | ((conv => whnf); first | refine optS hm2 ?_ | refine ⟨_, w1, ?_⟩ | exact rfl | refine ⟨by kernel_rfl, ?_⟩ | exact ⟨rfl, rfl⟩ | refine go0 ?_ | (intro ep) | (refine ifB (fun hb => ?_) (fun hb => ?_) <;> (try simp only [qs] at hb) <;> (try simp (disch := omega) only [wrapI] at hb) <;> (try (exfalso; omega))) | fail)))
      all_goals (conv => whnf)
      all_goals exact back_of ⟨0, hv⟩ ⟨rfl, rfl⟩
     have w1 := within_t (n := q) (a := 0) (b := 127) (by omega)
     by_cases b2 : tnBad en ⟨q, f, t⟩
     ·rw [if_pos b2] at hv
      unfold tnBad at b2
      simp only at b2
      (repeat' (first | exact rfl | ((conv => whnf); first | refine optS hm2 ?_ | refine ⟨_, w1, ?_⟩ | exact rfl | refine ⟨by kernel_rfl, ?_⟩ | exact ⟨rfl, rfl⟩ | refine go0 ?_ | (intro ep) | (refine ifB (fun hb => ?_) (fun hb => ?_) <;> (try simp only [qs] at hb) <;> (try simp (disch := omega) only [wrapI] at hb) <;> (try (exfalso; omega))) | fail)))
      all_goals (conv => whnf)
      all_goals exact back_of ⟨0, hv⟩ ⟨rfl, rfl⟩
     ·rw [if_neg b2] at hv
      unfold tnBad at b2
      simp only at b2
      (repeat' (first | exact rfl | ((conv => whnf); first | refine optS hm2 ?_ | refine ⟨_, w1, ?_⟩ | exact rfl | refine ⟨by kernel_rfl, ?_⟩ | exact ⟨rfl, rfl⟩ | refine go0 ?_ | (intro ep) | (refine ifB (fun hb => ?_) (fun hb => ?_) <;> (try simp only [qs] at hb) <;> (try simp (disch := omega) only [wrapI] at hb) <;> (try (exfalso; omega))) | fail)))
      all_goals (conv => whnf)
      all_goals exact back_of ⟨(j + 1, t), by simp only; omega, hv⟩ ⟨by (first | exact rfl | (simp (disch := omega) only [wrapI]; exact rfl)), rfl, by simp only; omega⟩
    ·simp only [decide_eq_false_iff_not] at g2
     rw [List.drop_eq_nil_of_le (by omega), rgt] at hv
     (repeat' (first | exact rfl | ((conv => whnf); first | exact rfl | refine ⟨by kernel_rfl, ?_⟩ | exact ⟨rfl, rfl⟩ | refine go0 ?_ | (intro ep) | fail)))
     all_goals (conv => whnf)
     exact back_of ⟨0, hv⟩ ⟨rfl, rfl, rfl⟩
   ·rintro ⟨x, hx⟩
    subst hx
    rw [Bool.false_and] at hu
    exact back_of ⟨0, hu⟩ ⟨rfl, rfl⟩
   ·rintro ⟨x, hx⟩
    subst hx
    rw [Bool.true_and] at hu
    (repeat' (first | exact rfl | ((conv => whnf); first | exact rfl | refine ⟨by kernel_rfl, ?_⟩ | exact ⟨rfl, rfl⟩ | refine go0 ?_ | (intro ep) | fail)))
    all_goals (conv => whnf)
    exact back_of ⟨k + 1, by omega, hu⟩ ⟨by (first | exact rfl | (simp (disch := omega) only [wrapI]; exact rfl)), rfl, by simp only; omega⟩
  ·simp only [decide_eq_false_iff_not] at g1
   rw [List.drop_eq_nil_of_le (by omega), List.all_nil] at hu
   (repeat' (first | exact rfl | ((conv => whnf); first | exact rfl | refine ⟨by kernel_rfl, ?_⟩ | exact ⟨rfl, rfl⟩ | refine go0 ?_ | (intro ep) | fail)))
   all_goals (conv => whnf)
   exact back_of ⟨0, hu⟩ ⟨rfl, rfl, rfl⟩
 ·rintro ⟨x, hx⟩
  (repeat' (first | exact rfl | ((conv => whnf); first | exact rfl | refine ⟨by kernel_rfl, ?_⟩ | exact ⟨rfl, rfl⟩ | refine go0 ?_ | (intro ep) | fail)))
  all_goals (conv => whnf)
  all_goals (subst hx; rfl)
 ·rintro ⟨x, hx⟩
  (repeat' (first | exact rfl | ((conv => whnf); first | exact rfl | refine ⟨by kernel_rfl, ?_⟩ | exact ⟨rfl, rfl⟩ | refine go0 ?_ | (intro ep) | fail)))
  all_goals (conv => whnf)
  all_goals (subst hx; rfl)
end Go.Ab.V

namespace Go.Ab.V
open Go.Proofs
def tnOf (n : Nt) : Tn := ⟨n.p, n.f, n.t⟩
def tn0 : Tn := ⟨0, 0, 0⟩
def cut (x : Tn) (f : Int) : Tn := ⟨x.p, x.f, if f < x.t then f else x.t⟩
def cutL (p : List Tn) (f : Int) : List Tn := if p = [] then [] else p.set (p.length - 1) (cut (p.getD (p.length - 1) tn0) f)
def stepP (n : Nat) (P : List (List Tn)) (E : List Int) (x : Nt) (v : Int) : Option (List (List Tn) × List Int) :=
 if v < 1 ∨ (n : Int) < v then none else
 if P.getD (v - 1).toNat [] ≠ [] ∧ E.getD (v - 1).toNat 0 = x.e then none else
 some (P.set (v - 1).toNat (cutL (P.getD (v - 1).toNat []) x.f ++ [tnOf x]), E.set (v - 1).toNat x.e)
def parts (n : Nat) : List (List Tn) → List Int → List Nt → List Int → Option (List (List Tn))
 | P, _, [], _ => some P
 | P, E, x :: r, v :: q => match stepP n P E x v with
  | none => none
  | some d => parts n d.1 d.2 r q
 | P, _, _ :: _, [] => some P
def partsV (l : List Nt) (ks : List Int) (n : Int) : AV := if chkN l ≠ 0 then .tup [.nils, .int .i64 (chkN l)] else if ks.length ≠ l.length ∨ n < 1 ∨ 5 < n then .tup [.nils, .int .i64 1] else
 match parts n.toNat (List.replicate n.toNat []) (List.replicate n.toNat 0) l ks with
 | none => .tup [.nils, .int .i64 71]
 | some P => .tup [prtsA P, .int .i64 0]
abbrev rws (P : List (List Tn)) : List (List (List AV)) := P.map fun p => p.map tnR
theorem parts_cons {n : Nat} {P : List (List Tn)} {E : List Int} {l : List Nt} {ks : List Int} {k : Nat} (h1 : k < l.length) (h2 : k < ks.length) : parts n P E (l.drop k) (ks.drop k) = match stepP n P E l[k] ks[k] with
  | none => none
  | some d => parts n d.1 d.2 (l.drop (k + 1)) (ks.drop (k + 1)) := by
 rw [List.drop_eq_getElem_cons h1, List.drop_eq_getElem_cons h2, parts]
theorem objs_pure {eps : Nat → Nat} : ∀ (P : List (List Tn)) (i : Nat), ∀ o ∈ objsF eps i (rws P), pureObj o
 | [], i, o, h => by simp [objsF] at h
 | p :: P, i, o, h => by
  rcases List.mem_cons.1 h with rfl | h
  ·exact pure_map p fun x => rfl
  ·exact objs_pure P (i + 1) o h
theorem end_parts {P : List (List Tn)} {e : Nat} {eps : Nat → Nat} {X : List AObj} {m : Nat} (hm : m = P.length) :
  frzD ⟨.vec e (rowsF 3 0 eps 0 (rws P)) :: X, objsF eps 0 (rws P)⟩ (.tup [.oslc (.s 0) e 1 0 m false, .int .i64 0]) fun v h' => frzK h' v fun r' _ => r'.isPure2 = true ∧ r' = .tup [prtsA P, .int .i64 0] := by
 subst hm
 refine ⟨objs_pure P 0, ?_⟩
 have hf := rowsF_fz (sz := 3) (eps := eps) (X := objsF eps 0 (rws P)) (rws P) 0 (fun k h => by rw [Nat.zero_add]; have := objsF_get (eps := eps) (R := rws P) (i := 0) (k := k) h; rw [Nat.zero_add] at this; exact this)
 have e1 : ((rws P).map fun r => [AV.lslc 3 r 0 r.length false]) = P.map fun p => [tnsA p] := by
  simp only [rws, List.map_map]
  refine List.map_congr_left fun p _ => ?_
  simp [tnsA]
 rw [e1] at hf
 show frzK ⟨.vec e ((rowsF 3 0 eps 0 (rws P)).map fun r => r.map (fzC (objsF eps 0 (rws P)))) :: X.map (AObj.fz (objsF eps 0 (rws P))), []⟩ (.tup [.oslc (.s 0) e 1 0 P.length false, .int .i64 0]) _
 rw [hf]
 (conv => whnf)
 refine ⟨rfl, ?_⟩
 (conv => whnf)
 refine ⟨pure_map P fun x => rfl, ?_⟩
 (conv => whnf)
 exact ⟨rfl, rfl⟩
def A31 : Ann := fun r => match r with
 | 6 => { slots := [(1, 0)] }
 | 7 => { slots := [(1, 1)] }
 | 10 => { slots := [(3, 2)] }
 | 20 => { slots := [(11, 3), (12, 4)] }
 | _ => {}
set_option maxHeartbeats 16000000 in
set_option maxRecDepth 100000 in
theorem parts23 (l : List Nt) (ks : List Int) (n : Int) (h3 : l.length ≤ 9223372036854775807) (h4 : ks.length ≤ 9223372036854775807) : PRet C.P 31 [ntsA l, intsA ks, .int .i64 n] (partsV l ks n) := by
 have hB := checkNotes_spec l h3
 unfold partsV
 by_cases c1 : chkN l ≠ 0
 ·rw [if_pos c1]
  generalize chkN l = b at hB c1
  refine pret_of ok mixed (A := A31) 5 Try.func31 rfl ?_
  (repeat' (first | exact rfl | ((conv => whnf); first | refine ⟨_, hB, ?_⟩ | exact rfl | exact ⟨rfl, rfl⟩ | refine go1 ?_ | (intro ep) | (refine ifB (fun hb => ?_) (fun hb => ?_) <;> (try simp only [qs] at hb) <;> (try simp (disch := omega) only [wrapI] at hb) <;> (try (exfalso; omega))) | fail)))
 rw [if_neg c1]
 have c1 : chkN l = 0 := by omega
 rw [c1] at hB
 have NN := ntsOk_of c1
 have hlen := NN.len
 by_cases c2 : ks.length ≠ l.length ∨ n < 1 ∨ 5 < n
 ·rw [if_pos c2]
  by_cases c3 : n < 1 ∨ 5 < n
  ·have w1 := within_f (n := n) (a := 1) (b := 5) c3
   refine pret_of ok mixed (A := A31) 5 Try.func31 rfl ?_
   (repeat' (first | exact rfl | ((conv => whnf); first | refine ⟨_, hB, ?_⟩ | refine ⟨_, w1, ?_⟩ | exact rfl | exact ⟨rfl, rfl⟩ | refine go1 ?_ | (intro ep) | (refine ifB (fun hb => ?_) (fun hb => ?_) <;> (try simp only [qs] at hb) <;> (try simp (disch := omega) only [wrapI] at hb) <;> (try (exfalso; omega))) | fail)))
  ·have w1 := within_t (n := n) (a := 1) (b := 5) (by omega)
   refine pret_of ok mixed (A := A31) 5 Try.func31 rfl ?_
   (repeat' (first | exact rfl | ((conv => whnf); first | refine ⟨_, hB, ?_⟩ | refine ⟨_, w1, ?_⟩ | exact rfl | exact ⟨rfl, rfl⟩ | refine go1 ?_ | (intro ep) | (refine ifB (fun hb => ?_) (fun hb => ?_) <;> (try simp only [qs] at hb) <;> (try simp (disch := omega) only [wrapI] at hb) <;> (try (exfalso; omega))) | fail)))
 rw [if_neg c2]
 have hk : ks.length = l.length := by omega
 obtain ⟨m, rfl⟩ : ∃ m : Nat, n = (m : Int) := ⟨n.toNat, by omega⟩
 have hm5 : 1 ≤ m ∧ m ≤ 5 := by omega
 have w1 := within_t (n := (m : Int)) (a := 1) (b := 5) (by omega)
 rw [Int.toNat_natCast]
 obtain ⟨R, hR⟩ : ∃ R, R = parts m (List.replicate m []) (List.replicate m 0) l ks := ⟨_, rfl⟩
 rw [← hR]
 refine pretD_of ok mixed (A := A31) 5 Try.func31 rfl ?_
 (repeat' (first | exact rfl | ((conv => whnf); first | refine ⟨_, hB, ?_⟩ | refine ⟨_, w1, ?_⟩ | (intro e1) | exact rfl | exact ⟨rfl, rfl⟩ | refine go1 ?_ | (intro ep) | (refine ifB (fun hb => ?_) (fun hb => ?_) <;> (try simp only [qs] at hb) <;> (try simp (disch := omega) only [wrapI] at hb) <;> (try (exfalso; omega))) | fail)))
 all_goals (conv => whnf)
 rename_i e0
 refine wk_fan 0 e0 3 m rfl ?_
 intro eps0
 have hi0 : ints (List.replicate m 0) = List.replicate m [.int .i64 0] := by simp [ints]
 have hp0 : rws (List.replicate m []) = List.replicate m [] := by simp [rws]
 refine loopY ok mixed (A := A31) [1, 2, 9, 10, 35, 36, 37] [0, 1] (S := { z : Nat × (Nat → Nat) × List (List Tn) × List Int // z.1 ≤ l.length ∧ z.2.2.1.length = m ∧ z.2.2.2.length = m ∧ (∀ p ∈ z.2.2.1, p.length ≤ z.1) ∧ parts m z.2.2.1 z.2.2.2 (l.drop z.1) (ks.drop z.1) = R })
  (fr := fun z => frOf 0 114 [(1, intsA ks), (2, .int .i64 (m : Int)), (9, .oslc (.s 0) e0 1 0 m false), (10, .oslc (.s 1) e1 1 0 m false), (35, ntsA l), (36, .int .i64 (l.length : Int)), (37, .int .i64 (z.1.1 : Int))])
  (h := fun z => ⟨[.vec e0 (rowsF 3 0 z.1.2.1 0 (rws z.1.2.2.1)), .vec e1 (ints z.1.2.2.2), .hole, .hole, .hole], objsF z.1.2.1 0 (rws z.1.2.2.1)⟩) (μ := fun z => l.length - z.1.1)
  ⟨(0, eps0, List.replicate m [], List.replicate m 0), Nat.zero_le _, by simp, by simp, fun p hp => by rw [(List.mem_replicate.1 hp).2]; exact Nat.zero_le _, hR.symm⟩ ?_ ?_
  [9] [0] (S' := { z : (Nat → Nat) × List (List Tn) // some z.2 = R ∧ z.2.length = m }) (X := fun _ => 0) (frX := fun z => frOf 0 114 [(9, .oslc (.s 0) e0 1 0 m false)])
  (hX := fun z => ⟨[.vec e0 (rowsF 3 0 z.1.1 0 (rws z.1.2)), .hole, .hole, .hole, .hole], objsF z.1.1 0 (rws z.1.2)⟩)
  [6, 7] [] (S2 := { z : (Nat → Nat) × List (List Tn) // none = R }) (frR := fun z => frOf 0 114 [(6, .nils), (7, .int .i64 71)]) (hR := fun z => ⟨[.hole, .hole, .hole, .hole, .hole], objsF z.1.1 0 (rws z.1.2)⟩) ?_ ?_ ?_
 ·exact rfl
 ·show maskH 0 _ _ = ⟨[.vec e0 (rowsF 3 0 eps0 0 (rws (List.replicate m []))), .vec e1 (ints (List.replicate m 0)), .hole, .hole, .hole], objsF eps0 0 (rws (List.replicate m []))⟩
  rw [hi0, hp0]
  exact rfl
 ·rintro ⟨⟨k, eps, P, E⟩, hkl, hPl, hEl, hpl, hu⟩
  simp only at hkl hPl hEl hpl hu
  show aexR _ _ _ (frOf 0 114 [(1, intsA ks), (2, .int .i64 (m : Int)), (9, .oslc (.s 0) e0 1 0 m false), (10, .oslc (.s 1) e1 1 0 m false), (35, ntsA l), (36, .int .i64 (l.length : Int)), (37, .int .i64 (k : Int))]) ⟨[.vec e0 (rowsF 3 0 eps 0 (rws P)), .vec e1 (ints E), .hole, .hole, .hole], objsF eps 0 (rws P)⟩ _
  (conv => whnf)
  refine ifB (fun g1 => ?_) (fun g1 => ?_)
  ·simp only [decide_eq_true_eq] at g1
   have h1 : k < l.length := by omega
   have h2 : k < ks.length := by omega
   have hm1 := mapR (f := ntR) h1
   have hm2 := intsR h2
   rw [parts_cons h1 h2] at hu
   generalize l[k] = x at hm1 hu
   generalize ks[k] = v at hm2 hu
   obtain ⟨xe, xc, xp, xf, xt⟩ := x
   replace hm1 : (l.map ntR)[0 + (k : Int).toNat]? = some [.int .i64 xe, .int .i64 xc, .int .i64 xp, .int .i64 xf, .int .i64 xt] := hm1
   unfold stepP at hu
   simp only at hu
   by_cases c3 : v < 1 ∨ (m : Int) < v
   ·rw [if_pos c3] at hu
    have w2 := within_f (n := v) (a := 1) (b := (m : Int)) c3
    (repeat' (first | exact rfl | ((conv => whnf); first | refine optS hm1 ?_ | refine optS hm2 ?_ | refine ⟨_, w2, ?_⟩ | exact rfl | exact ⟨rfl, rfl⟩ | refine go1 ?_ | (intro ep) | (refine ifB (fun hb => ?_) (fun hb => ?_) <;> (try simp only [qs] at hb) <;> (try simp (disch := omega) only [wrapI] at hb) <;> (try (exfalso; omega))) | fail)))
    all_goals (conv => whnf)
    exact back_of ⟨(eps, P), hu⟩ ⟨rfl, rfl⟩
   rw [if_neg c3] at hu
   have w2 := within_t (n := v) (a := 1) (b := (m : Int)) (by omega)
   obtain ⟨j, hj⟩ : ∃ j, (v - 1).toNat = j := ⟨_, rfl⟩
   have hw : IntKind.i64.wrap (v - 1) = (j : Int) := by rw [wrapI (by omega) (by omega)]; omega
   have hjm : j < m := by omega
   have hjP : j < P.length := by omega
   have hjE : j < E.length := by omega
   rw [hj] at hu
   have gP : P.getD j [] = P[j] := by rw [List.getD_eq_getElem?_getD, List.getElem?_eq_getElem hjP]; rfl
   have gE : E.getD j 0 = E[j] := by rw [List.getD_eq_getElem?_getD, List.getElem?_eq_getElem hjE]; rfl
   rw [gP, gE] at hu
   have hpj := hpl P[j] (List.getElem_mem hjP)
   have hrow : (rowsF 3 0 eps 0 (rws P))[0 + (IntKind.i64.wrap (v - 1)).toNat]? = some [.oslc (.d (0 + (0 + j))) (eps (0 + j)) 3 0 P[j].length false] := by
    rw [hw, Nat.zero_add, Int.toNat_natCast, rowsF_get (R := rws P) (i := 0) (k := j) (by simpa [rws] using hjP)]; simp [rws]
   have hobj : (objsF eps 0 (rws P))[0 + (0 + j)]? = some (.vec (eps (0 + j)) (P[j].map tnR)) := by
    rw [Nat.zero_add, Nat.zero_add, objsF_get (R := rws P) (i := 0) (k := j) (by simpa [rws] using hjP)]; simp [rws]
   have hobj2 : ∀ rows2, ((objsF eps 0 (rws P)).set (0 + (0 + j)) (.vec (eps (0 + j)) rows2))[0 + (0 + j)]? = some (.vec (eps (0 + j)) rows2) := fun rows2 => by
    rw [Nat.zero_add, Nat.zero_add, List.getElem?_set_self (by rw [objsF_len]; simpa [rws] using hjP)]
   have hE : (ints E)[0 + (IntKind.i64.wrap (v - 1)).toNat]? = some [.int .i64 E[j]] := by rw [hw]; exact intsR hjE
   have hset : ∀ (p' : List Tn) (e2 : Nat), p'.length = P[j].length + 1 → (rowsF 3 0 eps 0 (rws P)).set (0 + (IntKind.i64.wrap (v - 1)).toNat) [.oslc (.d (0 + (0 + j))) e2 3 0 (P[j].length + 1) false] = rowsF 3 0 (updE eps (0 + j) e2) 0 (rws (P.set j p')) := fun p' e2 hl => by
    have := rowsF_set (sz := 3) (B := 0) (eps := eps) (e := e2) (r' := p'.map tnR) (R := rws P) (i := 0) (k := j) (by simpa [rws] using hjP)
    rw [List.length_map, hl] at this
    rw [hw, Nat.zero_add, Int.toNat_natCast, this]
    simp only [rws, List.map_set]
   have hset2 : ∀ (p' : List Tn) (e2 : Nat) (Y : AObj), ((objsF eps 0 (rws P)).set (0 + (0 + j)) Y).set (0 + (0 + j)) (.vec e2 (p'.map tnR)) = objsF (updE eps (0 + j) e2) 0 (rws (P.set j p')) := fun p' e2 Y => by
    rw [List.set_set]
    have := objsF_set (eps := eps) (e := e2) (r' := p'.map tnR) (R := rws P) (i := 0) (k := j) (by simpa [rws] using hjP)
    rw [show 0 + (0 + j) = j by omega, this]
    simp only [rws, List.map_set]
   have hset1 : ∀ (p' : List Tn) (e2 : Nat), (objsF eps 0 (rws P)).set (0 + (0 + j)) (.vec e2 (p'.map tnR)) = objsF (updE eps (0 + j) e2) 0 (rws (P.set j p')) := fun p' e2 => by
    rw [← hset2 p' e2 .hole, List.set_set]
   have hsetE : (ints E).set (0 + (IntKind.i64.wrap (v - 1)).toNat) [.int .i64 xe] = ints (E.set j xe) := by
    rw [hw, Nat.zero_add, Int.toNat_natCast]; simp only [ints, List.map_set]
   have hok : ∀ p' : List Tn, p'.length = P[j].length + 1 → (P.set j p').length = m ∧ (E.set j xe).length = m ∧ ∀ q ∈ P.set j p', q.length ≤ k + 1 := fun p' hl => by
    refine ⟨by simpa using hPl, by simpa using hEl, fun q hq => ?_⟩
    rcases List.mem_or_eq_of_mem_set hq with hq | rfl
    ·have := hpl q hq; omega
    ·omega
   generalize P[j] = p at hu hpj hrow hobj hset hok
   generalize E[j] = ej at hu hE
   have t3 : List.take p.length (List.drop 0 (p.map tnR)) = p.map tnR := by rw [List.drop_zero, List.take_of_length_le (by simp)]
   by_cases c4 : p = []
   ·subst c4
    rw [if_neg (by simp)] at hu
    simp only at hu
    (repeat' (first | exact rfl | ((conv => whnf); first | refine optS hm1 ?_ | refine optS hm2 ?_ | refine ⟨_, w2, ?_⟩ | refine optS hrow ?_ | refine optO hobj ?_ | refine optS hE ?_ | (intro e5) | exact rfl | exact ⟨rfl, rfl⟩ | refine go1 ?_ | (intro ep) | (refine ifB (fun hb => ?_) (fun hb => ?_) <;> (try simp only [qs] at hb) <;> (try simp (disch := omega) only [wrapI] at hb) <;> (try (exfalso; omega))) | fail)))
    all_goals (conv => whnf)
    have hk3 := hok [⟨xp, xf, xt⟩] rfl
    refine back_of ⟨(k + 1, updE eps (0 + j) e5, P.set j [⟨xp, xf, xt⟩], E.set j xe), by simp only; omega, hk3.1, hk3.2.1, hk3.2.2, hu⟩ ⟨by (first | exact rfl | (simp (disch := omega) only [wrapI]; exact rfl)), ?_, by simp only; omega⟩
    refine Eq.trans (b := ⟨[.vec e0 ((rowsF 3 0 eps 0 (rws P)).set (0 + (IntKind.i64.wrap (v - 1)).toNat) [.oslc (.d (0 + (0 + j))) e5 3 0 ([].length + 1) false]), .vec e1 ((ints E).set (0 + (IntKind.i64.wrap (v - 1)).toNat) [.int .i64 xe]), .hole, .hole, .hole], (objsF eps 0 (rws P)).set (0 + (0 + j)) (.vec e5 ([(⟨xp, xf, xt⟩ : Tn)].map tnR))⟩) (by exact rfl) ?_
    rw [hset [⟨xp, xf, xt⟩] e5 rfl, hset1, hsetE]
   ·have hp1 : 0 < p.length := List.length_pos_iff.2 c4
    have hlt : p.length - 1 < p.length := by omega
    have hwl : IntKind.i64.wrap ((p.length : Int) - 1) = ((p.length - 1 : Nat) : Int) := by rw [wrapI (by omega) (by omega)]; omega
    have hlast := mapR (f := tnR) hlt
    rw [← hwl] at hlast
    have hcl : cutL p xf = p.set (p.length - 1) (cut p[p.length - 1] xf) := by
     unfold cutL
     rw [if_neg c4, List.getD_eq_getElem?_getD, List.getElem?_eq_getElem hlt]; rfl
    rw [hcl] at hu
    have hcut : ∀ y' : Tn, List.take p.length (List.drop 0 ((p.map tnR).set (0 + (IntKind.i64.wrap ((p.length : Int) - 1)).toNat) (tnR y'))) ++ [tnR ⟨xp, xf, xt⟩] = (p.set (p.length - 1) y' ++ [(⟨xp, xf, xt⟩ : Tn)]).map tnR := fun y' => by
     rw [hwl, Nat.zero_add, Int.toNat_natCast, List.drop_zero, List.take_of_length_le (by simp)]
     simp [List.map_set]
    have hpl2 : ∀ y' : Tn, (p.set (p.length - 1) y' ++ [(⟨xp, xf, xt⟩ : Tn)]).length = p.length + 1 := fun y' => by simp
    generalize p[p.length - 1] = y at hlast hu
    obtain ⟨yp, yf, yt⟩ := y
    replace hlast : (p.map tnR)[0 + (IntKind.i64.wrap ((p.length : Int) - 1)).toNat]? = some [.int .i64 yp, .int .i64 yf, .int .i64 yt] := hlast
    by_cases c5 : ej = xe
    ·rw [if_pos ⟨c4, c5⟩] at hu
     simp only at hu
     (repeat' (first | exact rfl | ((conv => whnf); first | refine optS hm1 ?_ | refine optS hm2 ?_ | refine ⟨_, w2, ?_⟩ | refine optS hrow ?_ | refine optO hobj ?_ | refine optO (hobj2 _) ?_ | refine optS hE ?_ | refine optS hlast ?_ | (intro e5) | exact rfl | exact ⟨rfl, rfl⟩ | refine go1 ?_ | (intro ep) | (refine ifB (fun hb => ?_) (fun hb => ?_) <;> (try simp only [qs] at hb) <;> (try simp (disch := omega) only [wrapI] at hb) <;> (try (exfalso; omega))) | fail)))
     all_goals (conv => whnf)
     all_goals exact back_of ⟨(eps, P), hu⟩ ⟨rfl, rfl⟩
    ·rw [if_neg (fun z => c5 z.2)] at hu
     simp only at hu
     (repeat' (first | exact rfl | ((conv => whnf); first | refine optS hm1 ?_ | refine optS hm2 ?_ | refine ⟨_, w2, ?_⟩ | refine optS hrow ?_ | refine optO hobj ?_ | refine optO (hobj2 _) ?_ | refine optS hE ?_ | refine optS hlast ?_ | (intro e5) | exact rfl | exact ⟨rfl, rfl⟩ | refine go1 ?_ | (intro ep) | (refine ifB (fun hb => ?_) (fun hb => ?_) <;> (try simp only [qs] at hb) <;> (try simp (disch := omega) only [wrapI] at hb) <;> (try (exfalso; omega))) | fail)))
     all_goals (conv => whnf)
     by_cases d1 : xf < yt
     ·have hc : cut ⟨yp, yf, yt⟩ xf = ⟨yp, yf, xf⟩ := by simp [cut, d1]
      rw [hc] at hu
      have hk3 := hok _ (hpl2 ⟨yp, yf, xf⟩)
      refine back_of ⟨(k + 1, updE eps (0 + j) e5, P.set j (p.set (p.length - 1) ⟨yp, yf, xf⟩ ++ [⟨xp, xf, xt⟩]), E.set j xe), by simp only; omega, hk3.1, hk3.2.1, hk3.2.2, hu⟩ ⟨by (first | exact rfl | (simp (disch := omega) only [wrapI]; exact rfl)), ?_, by simp only; omega⟩
      refine Eq.trans (b := ⟨[.vec e0 ((rowsF 3 0 eps 0 (rws P)).set (0 + (IntKind.i64.wrap (v - 1)).toNat) [.oslc (.d (0 + (0 + j))) e5 3 0 (p.length + 1) false]), .vec e1 ((ints E).set (0 + (IntKind.i64.wrap (v - 1)).toNat) [.int .i64 xe]), .hole, .hole, .hole], ((objsF eps 0 (rws P)).set (0 + (0 + j)) (.vec (eps (0 + j)) ((p.map tnR).set (0 + (IntKind.i64.wrap ((p.length : Int) - 1)).toNat) [.int .i64 yp, .int .i64 yf, .int .i64 xf]))).set (0 + (0 + j)) (.vec e5 (List.take p.length (List.drop 0 ((p.map tnR).set (0 + (IntKind.i64.wrap ((p.length : Int) - 1)).toNat) (tnR ⟨yp, yf, xf⟩))) ++ [tnR ⟨xp, xf, xt⟩]))⟩) (by simp only [Bool.false_eq_true, if_false, d1, if_true]; exact rfl) ?_
      rw [hcut, hset _ e5 (hpl2 _), hset2, hsetE]
     ·have hc : cut ⟨yp, yf, yt⟩ xf = ⟨yp, yf, yt⟩ := by simp [cut, d1]
      rw [hc] at hu
      have hk3 := hok _ (hpl2 ⟨yp, yf, yt⟩)
      refine back_of ⟨(k + 1, updE eps (0 + j) e5, P.set j (p.set (p.length - 1) ⟨yp, yf, yt⟩ ++ [⟨xp, xf, xt⟩]), E.set j xe), by simp only; omega, hk3.1, hk3.2.1, hk3.2.2, hu⟩ ⟨by (first | exact rfl | (simp (disch := omega) only [wrapI]; exact rfl)), ?_, by simp only; omega⟩
      refine Eq.trans (b := ⟨[.vec e0 ((rowsF 3 0 eps 0 (rws P)).set (0 + (IntKind.i64.wrap (v - 1)).toNat) [.oslc (.d (0 + (0 + j))) e5 3 0 (p.length + 1) false]), .vec e1 ((ints E).set (0 + (IntKind.i64.wrap (v - 1)).toNat) [.int .i64 xe]), .hole, .hole, .hole], ((objsF eps 0 (rws P)).set (0 + (0 + j)) (.vec (eps (0 + j)) ((p.map tnR).set (0 + (IntKind.i64.wrap ((p.length : Int) - 1)).toNat) [.int .i64 yp, .int .i64 yf, .int .i64 yt]))).set (0 + (0 + j)) (.vec e5 (List.take p.length (List.drop 0 ((p.map tnR).set (0 + (IntKind.i64.wrap ((p.length : Int) - 1)).toNat) (tnR ⟨yp, yf, yt⟩))) ++ [tnR ⟨xp, xf, xt⟩]))⟩) (by simp only [Bool.false_eq_true, if_false, d1]; exact rfl) ?_
      rw [hcut, hset _ e5 (hpl2 _), hset2, hsetE]
  ·simp only [decide_eq_false_iff_not] at g1
   rw [List.drop_eq_nil_of_le (by omega), parts] at hu
   (repeat' (first | exact rfl | ((conv => whnf); first | exact rfl | exact ⟨rfl, rfl⟩ | refine go1 ?_ | (intro ep) | fail)))
   all_goals (conv => whnf)
   exact back_of ⟨(eps, P), hu, hPl⟩ ⟨rfl, rfl, rfl⟩
 ·rintro ⟨⟨eps, P⟩, hz⟩
  subst hz
  (repeat' (first | exact rfl | ((conv => whnf); first | refine ⟨objs_pure _ _, ?_⟩ | exact rfl | exact ⟨rfl, rfl⟩ | refine go1 ?_ | (intro ep) | fail)))
 ·rintro ⟨⟨eps, P⟩, hz, hPl⟩
  simp only at hz hPl
  subst hz
  (repeat' (first | ((conv => whnf); first | (refine end_parts hPl.symm) | exact rfl | exact ⟨rfl, rfl⟩ | refine go1 ?_ | (intro ep) | fail)))
end Go.Ab.V

namespace Go.Ab.V
def tns : List Nt → List Tn
 | [] => []
 | [y] => [tnOf y]
 | y :: z :: r => cut (tnOf y) z.f :: tns (z :: r)
theorem tns_len : ∀ l : List Nt, (tns l).length = l.length
 | [] => rfl
 | [y] => rfl
 | y :: z :: r => by rw [tns, List.length_cons, tns_len (z :: r)]; rfl
theorem cutL_cons (a : Tn) {l : List Tn} (h : l ≠ []) (f : Int) : cutL (a :: l) f = a :: cutL l f := by
 unfold cutL
 rw [if_neg (by simp), if_neg h]
 obtain ⟨k, hk⟩ : ∃ k, l.length = k + 1 := ⟨l.length - 1, by have := List.length_pos_iff.2 h; omega⟩
 simp [hk]
theorem tns_snoc : ∀ (l : List Nt) (y : Nt), cutL (tns l) y.f ++ [tnOf y] = tns (l ++ [y])
 | [], y => rfl
 | [z], y => rfl
 | z :: w :: r, y => by
  have ih := tns_snoc (w :: r) y
  have hne : tns (w :: r) ≠ [] := fun e => by have := congrArg List.length e; rw [tns_len] at this; simp at this
  rw [tns, cutL_cons _ hne, List.cons_append, ih]
  rfl
theorem tns_at : ∀ (l : List Nt) (i : Nat) (h : i < l.length), ∃ t, (tns l)[i]? = some t ∧ t.p = l[i].p ∧ t.f = l[i].f ∧ t.t ≤ l[i].t
 | [y], 0, _ => ⟨_, rfl, rfl, rfl, Int.le_refl _⟩
 | [y], i + 1, h => by simp at h
 | y :: z :: r, 0, _ => by
  refine ⟨_, by rw [tns]; rfl, rfl, rfl, ?_⟩
  show (if z.f < y.t then z.f else y.t) ≤ y.t
  split <;> omega
 | y :: z :: r, i + 1, h => by
  obtain ⟨t, h1, h2⟩ := tns_at (z :: r) i (by simpa using h)
  exact ⟨t, by rw [tns, List.getElem?_cons_succ]; exact h1, h2⟩
theorem tns_rgt : ∀ (l : List Nt) (en : Int), (∀ y ∈ l, ¬ ntBad y) → l.Pairwise (fun y z => y.f < z.f) → (∀ y ∈ l, en ≤ y.f) → rgt en (tns l) = true
 | [], en, _, _, _ => rfl
 | [y], en, hb, _, he => by
  have h1 := hb y (List.mem_cons_self ..)
  have h2 := he y (List.mem_cons_self ..)
  unfold ntBad at h1
  have : ¬ tnBad en (tnOf y) := by unfold tnBad tnOf; simp only; omega
  rw [tns, rgt, if_neg this]
  rfl
 | y :: z :: r, en, hb, hp, he => by
  have h1 := hb y (List.mem_cons_self ..)
  have h2 := he y (List.mem_cons_self ..)
  rw [List.pairwise_cons] at hp
  have h3 := hp.1 z (List.mem_cons_self ..)
  unfold ntBad at h1
  have hc : (cut (tnOf y) z.f).t ≤ z.f := by
   show (if z.f < y.t then z.f else y.t) ≤ z.f
   split <;> omega
  have hc2 : y.f < (cut (tnOf y) z.f).t ∧ (cut (tnOf y) z.f).t ≤ y.t := by
   show y.f < (if z.f < y.t then z.f else y.t) ∧ (if z.f < y.t then z.f else y.t) ≤ y.t
   split <;> omega
  have : ¬ tnBad en (cut (tnOf y) z.f) := by
   unfold tnBad
   have e1 : (cut (tnOf y) z.f).p = y.p := rfl
   have e2 : (cut (tnOf y) z.f).f = y.f := rfl
   rw [e1, e2]
   omega
  rw [tns, rgt, if_neg this]
  refine tns_rgt (z :: r) _ (fun w hw => hb w (List.mem_cons_of_mem _ hw)) hp.2 fun w hw => ?_
  rcases List.mem_cons.1 hw with rfl | hw
  ·exact hc
  ·have := (List.pairwise_cons.1 hp.2).1 w hw
   omega
def nvk (n : List Nt) (ks : List Int) (k : Nat) : List Nt := ((n.zip ks).filter fun p => p.2 == (k : Int) + 1).map (·.1)
theorem nvk_snoc {n : List Nt} {ks : List Int} (h : n.length = ks.length) (y : Nt) (v : Int) (k : Nat) : nvk (n ++ [y]) (ks ++ [v]) k = nvk n ks k ++ (if v = (k : Int) + 1 then [y] else []) := by
 unfold nvk
 rw [List.zip_append h, List.filter_append, List.map_append]
 congr 1
 by_cases c : v = (k : Int) + 1
 ·rw [if_pos c]; simp [c]
 ·rw [if_neg c]; simp [c]
theorem nvk_mem {n : List Nt} {ks : List Int} {k : Nat} {y : Nt} (h : y ∈ nvk n ks k) : y ∈ n := by
 unfold nvk at h
 obtain ⟨p, hp, rfl⟩ := List.mem_map.1 h
 exact (List.of_mem_zip (List.mem_filter.1 hp).1).1
theorem join_facts {x : Lm} {s : St} {y : Nt} {v : Int} {d : Int × St} (h : join x s y v = some d) : 1 ≤ v ∧ v ≤ x.lo.length ∧ x.lo.getD (v - 1).toNat 0 ≤ y.p ∧ y.p ≤ x.hi.getD (v - 1).toNat 0 ∧ ¬ (0 < (s.get (v - 1).toNat).t ∧ (s.get (v - 1).toNat).e = y.e) ∧ d.2 = s.set (v - 1).toNat y := by
 unfold join at h
 split at h
 ·cases h
 rename_i c1
 split at h
 ·cases h
 rename_i c2
 split at h
 ·cases h
 rename_i c3
 refine ⟨by omega, by omega, by omega, by omega, c3, ?_⟩
 split at h
 ·split at h
  ·cases h
  ·cases h; rfl
 ·cases h; rfl
structure PI (x : Lm) (n0 : List Nt) (k0 : List Int) (s : St) (P : List (List Tn)) (E : List Int) : Prop where
 len : n0.length = k0.length
 pl : P.length = x.lo.length
 el : E.length = x.lo.length
 p : ∀ k, k < x.lo.length → P[k]? = some (tns (nvk n0 k0 k))
 s : ∀ k, k < x.lo.length → nvk n0 k0 k = [] ∨ ∃ y, (nvk n0 k0 k).getLast? = some y ∧ s.get k = y ∧ E[k]? = some y.e
 o : ∀ k, (nvk n0 k0 k).Pairwise fun y z => y.f < z.f
 r : ∀ q ∈ n0.zip k0, 1 ≤ q.2 ∧ q.2 ≤ x.lo.length ∧ x.lo.getD (q.2 - 1).toNat 0 ≤ q.1.p ∧ q.1.p ≤ x.hi.getD (q.2 - 1).toNat 0
theorem pi_step {x : Lm} (h5 : x.lo.length ≤ 5) {n0 : List Nt} {k0 : List Int} {s : St} {P : List (List Tn)} {E : List Int} (h : PI x n0 k0 s P E) {y : Nt} (hq : ∀ z ∈ n0, QN z y) (ht : ∀ z ∈ n0, 0 < z.t) {v : Int} {d : Int × St} (hj : join x s y v = some d) :
  ∃ P' E', stepP x.lo.length P E y v = some (P', E') ∧ PI x (n0 ++ [y]) (k0 ++ [v]) d.2 P' E' := by
 obtain ⟨v1, v2, v3, v4, v5, v6⟩ := join_facts hj
 obtain ⟨k, hk⟩ : ∃ k : Nat, v = (k : Int) + 1 := ⟨(v - 1).toNat, by omega⟩
 subst hk
 have ek : ((k : Int) + 1 - 1).toNat = k := by omega
 rw [ek] at v3 v4 v5 v6
 have hkL : k < x.lo.length := by omega
 have hPk := h.p k hkL
 have hPg : P.getD k [] = tns (nvk n0 k0 k) := by rw [List.getD_eq_getElem?_getD, hPk]; rfl
 have hsn := fun j => nvk_snoc h.len y ((k : Int) + 1) j
 have hne : ¬ (P.getD k [] ≠ [] ∧ E.getD k 0 = y.e) := by
  rintro ⟨a1, a2⟩
  rw [hPg] at a1
  rcases h.s k hkL with e | ⟨z, z1, z2, z3⟩
  ·rw [e] at a1; exact a1 rfl
  ·have hz := nvk_mem (List.mem_of_getLast? z1)
   rw [List.getD_eq_getElem?_getD, z3] at a2
   exact v5 ⟨by rw [z2]; exact ht z hz, by rw [z2]; exact a2⟩
 have hlast : ∀ w ∈ nvk n0 k0 k, w.f < y.f := by
  intro w hw
  rcases h.s k hkL with e | ⟨z, z1, z2, z3⟩
  ·rw [e] at hw; simp at hw
  ·have hz := nvk_mem (List.mem_of_getLast? z1)
   have hqz := hq z hz
   have hze : z.e ≠ y.e := fun e => v5 ⟨by rw [z2]; exact ht z hz, by rw [z2]; exact e⟩
   have hzf : z.f < y.f := by unfold QN at hqz; omega
   have ho := h.o k
   obtain ⟨l', hl'⟩ : ∃ l', nvk n0 k0 k = l' ++ [z] := by
    obtain ⟨ys, hys⟩ := List.getLast?_eq_some_iff.1 z1
    exact ⟨ys, hys⟩
   rw [hl'] at ho hw
   rw [List.pairwise_append] at ho
   rcases List.mem_append.1 hw with hw | hw
   ·have := ho.2.2 w hw z (List.mem_singleton.2 rfl)
    omega
   ·rw [List.mem_singleton.1 hw]; exact hzf
 refine ⟨_, _, by
  unfold stepP
  rw [if_neg (by omega), ek, if_neg hne], ?_⟩
 refine ⟨by rw [List.length_append, List.length_append, h.len]; rfl, by rw [List.length_set]; exact h.pl, by rw [List.length_set]; exact h.el, fun j hj => ?_, fun j hj => ?_, fun j => ?_, fun q hqm => ?_⟩
 ·rw [hsn j, List.getElem?_set]
  by_cases c : k = j
  ·subst c
   rw [if_pos rfl, if_pos (by rw [h.pl]; exact hkL), if_pos rfl, hPg, tns_snoc]
  ·rw [if_neg c, if_neg (by omega), List.append_nil]
   exact h.p j hj
 ·rw [hsn j]
  by_cases c : k = j
  ·subst c
   rw [if_pos rfl]
   refine .inr ⟨y, by simp, ?_, ?_⟩
   ·rw [v6, St.get_set _ (by omega), if_pos rfl]
   ·rw [List.getElem?_set, if_pos rfl, if_pos (by rw [h.el]; exact hkL)]
  ·rw [if_neg (by omega), List.append_nil]
   rcases h.s j hj with e | ⟨z, z1, z2, z3⟩
   ·exact .inl e
   ·refine .inr ⟨z, z1, ?_, ?_⟩
    ·rw [v6, St.get_set _ (by omega), if_neg (by omega)]; exact z2
    ·rw [List.getElem?_set, if_neg c]; exact z3
 ·rw [hsn j]
  by_cases c : k = j
  ·subst c
   rw [if_pos rfl]
   exact List.pairwise_append.2 ⟨h.o k, List.pairwise_singleton _ _, fun a ha b hb => by rw [List.mem_singleton.1 hb]; exact hlast a ha⟩
  ·rw [if_neg (by omega), List.append_nil]
   exact h.o j
 ·rw [List.zip_append h.len] at hqm
  rcases List.mem_append.1 hqm with hm | hm
  ·exact h.r q hm
  ·simp only [List.zip_cons_cons, List.zip_nil_left, List.mem_singleton] at hm
   rw [hm]
   simp only
   rw [ek]
   exact ⟨v1, v2, v3, v4⟩
theorem walk_parts {x : Lm} (h5 : x.lo.length ≤ 5) : ∀ (ns r n0 : List Nt) (l q k0 : List Int) (s : St) (m : Int) (P : List (List Tn)) (E : List Int) (d : St × Int), PI x n0 k0 s P E → (n0 ++ (ns ++ r)).Pairwise QN → (∀ z ∈ n0 ++ (ns ++ r), 0 < z.t) → walk (stp x) ns (s, m) l = some d →
  ∃ P' E', parts x.lo.length P E (ns ++ r) (l ++ q) = parts x.lo.length P' E' r q ∧ PI x (n0 ++ ns) (k0 ++ l) d.1 P' E'
 | [], r, n0, [], q, k0, s, m, P, E, d, h, _, _, hw => by
  rw [walk] at hw
  cases hw
  exact ⟨P, E, rfl, by simpa using h⟩
 | [], r, n0, _ :: _, q, k0, s, m, P, E, d, h, _, _, hw => by rw [walk] at hw; cases hw; all_goals simp
 | _ :: _, r, n0, [], q, k0, s, m, P, E, d, h, _, _, hw => by rw [walk] at hw; cases hw; all_goals simp
 | y :: ns, r, n0, v :: l, q, k0, s, m, P, E, d, h, hQ, ht, hw => by
  rw [walk] at hw
  unfold stp at hw
  cases e : join x s y v with
  | none => rw [e] at hw; simp at hw
  | some d1 =>
   rw [e] at hw
   simp only [Option.map_some] at hw
   have hQ' := List.pairwise_append.1 hQ
   obtain ⟨P1, E1, h1, h2⟩ := pi_step h5 h (fun z hz => hQ'.2.2 z hz y (List.mem_cons_self ..)) (fun z hz => ht z (List.mem_append_left _ hz)) e
   have e1 : n0 ++ (y :: ns ++ r) = (n0 ++ [y]) ++ (ns ++ r) := by simp
   obtain ⟨P2, E2, h3, h4⟩ := walk_parts h5 ns r (n0 ++ [y]) l q (k0 ++ [v]) d1.2 (m + d1.1) P1 E1 d h2 (by rw [← e1]; exact hQ) (by rw [← e1]; exact ht) hw
   refine ⟨P2, E2, ?_, by simpa using h4⟩
   rw [List.cons_append, List.cons_append, parts, h1]
   exact h3
theorem vok_parts {x : Lm} (h5 : x.lo.length ≤ 5) {n : List Nt} (hQ : n.Pairwise QN) (ht : ∀ z ∈ n, 0 < z.t) : ∀ (S : List (Nat × Nat)) (a : Nat) (s : St) (l k0 : List Int) (r : Co) (P : List (List Tn)) (E : List Int), Chain n.length a S → PI x (n.take a) k0 s P E → vok x n s S l = some r →
  ∃ s' P' E', parts x.lo.length P E (n.drop a) l = some P' ∧ PI x n (k0 ++ l) s' P' E'
 | [], a, s, l, k0, r, P, E, hc, h, hv => by
  have hc : a = n.length := hc
  subst hc
  rw [vok] at hv
  split at hv
  ·rename_i e
   subst e
   rw [List.drop_length]
   rw [List.take_length] at h
   exact ⟨s, P, E, rfl, by simpa using h⟩
  ·cases hv
 | (b, cnt) :: S, a, s, l, k0, r, P, E, hc, h, hv => by
  obtain ⟨rfl, hcnt, hc⟩ := hc
  have hle := chain_le hc
  rw [vok] at hv
  cases e1 : walk (stp x) ((n.drop b).take cnt) (s, 0) (l.take cnt) with
  | none => rw [e1] at hv; simp at hv
  | some d =>
   rw [e1] at hv
   simp only at hv
   split at hv
   ·cases hv
   ·rw [Option.map_eq_some_iff] at hv
    obtain ⟨r', h1, _⟩ := hv
    have e2 : n.drop b = (n.drop b).take cnt ++ n.drop (b + cnt) := by rw [← List.drop_drop, List.take_append_drop]
    have e3 : n.take b ++ ((n.drop b).take cnt ++ n.drop (b + cnt)) = n := by rw [← e2, List.take_append_drop]
    obtain ⟨P1, E1, h2, h3⟩ := walk_parts h5 ((n.drop b).take cnt) (n.drop (b + cnt)) (n.take b) (l.take cnt) (l.drop cnt) k0 s 0 P E d h (by rw [e3]; exact hQ) (by rw [e3]; exact ht) e1
    rw [← e2, List.take_append_drop] at h2
    have e4 : n.take b ++ (n.drop b).take cnt = n.take (b + cnt) := by rw [← List.take_add]
    rw [e4] at h3
    obtain ⟨s', P', E', h4, h5'⟩ := vok_parts h5 hQ ht S (b + cnt) d.1 (l.drop cnt) (k0 ++ l.take cnt) r' P1 E1 hc h3 h1
    refine ⟨s', P', E', by rw [h2]; exact h4, ?_⟩
    rw [List.append_assoc, List.take_append_drop] at h5'
    exact h5'
theorem valid_parts {x : Lm} (X : LmOk x) {n : List Nt} (hN : chkN n = 0) {ks : List Int} (hv : (valid x n ks).2.1 = 0) : ∃ P, partsV n ks x.lo.length = .tup [prtsA P, .int .i64 0] ∧ ks.length = n.length ∧ P.length = x.lo.length ∧ (∀ k, k < x.lo.length → P[k]? = some (tns (nvk n ks k))) ∧
  (∀ k, (nvk n ks k).Pairwise fun y z => y.f < z.f) ∧ (∀ q ∈ n.zip ks, 1 ≤ q.2 ∧ q.2 ≤ x.lo.length ∧ x.lo.getD (q.2 - 1).toNat 0 ≤ q.1.p ∧ q.1.p ≤ x.hi.getD (q.2 - 1).toNat 0) := by
 have hch : Chain n.length 0 (segR 0 n) := by have := chain_segR n.length 0 n (Nat.le_refl _); rwa [Nat.zero_add] at this
 have hl := valid_len hv
 have h5 := X.lo5
 unfold valid at hv
 rw [if_neg (by rw [both_of X hN]; omega), if_neg (by omega)] at hv
 have h3 := vals_vok (x := x) hl (segR 0 n) 0 st0 0 0 hch
 rw [List.drop_zero] at h3
 cases e : vok x n st0 (segR 0 n) ks with
 | none => rw [e] at h3; simp only at h3; omega
 | some r =>
  have hpi : PI x (n.take 0) [] st0 (List.replicate x.lo.length []) (List.replicate x.lo.length 0) := by
   rw [List.take_zero]
   refine ⟨rfl, by simp, by simp, fun k hk => ?_, fun k hk => .inl rfl, fun k => .nil, fun q hq => by simp at hq⟩
   rw [List.getElem?_replicate, if_pos hk]
   rfl
  obtain ⟨s', P, E, h1, h2⟩ := vok_parts h5 (qn_all hN) (fun z hz => by have := ft_lt hN hz; omega) (segR 0 n) 0 st0 ks [] r _ _ hch hpi e
  rw [List.drop_zero] at h1
  rw [List.nil_append] at h2
  refine ⟨P, ?_, hl, h2.pl, h2.p, h2.o, h2.r⟩
  have hL := X.lo1
  unfold partsV
  rw [if_neg (by omega), if_neg (by omega), Int.toNat_natCast, h1]
end Go.Ab.V
