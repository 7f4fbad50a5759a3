/-
  What is proved here serves the law's text: each part says its own claim and its conditions. No condition is left open.
-/
import Derived.Test.YthdhhhgjdegafaaJL
import Derived.Test.YthdhhhgjdegafaaJM
import Derived.Test.YthdhhhgjdegafaaJK
set_option linter.unusedSimpArgs false
set_option linter.unusedVariables false

namespace Go.Ab.V
open Go.Proofs
end Go.Ab.V

namespace Go.Ab.V
theorem gr_lay {x : Lm} {n : List Nt} : ∀ {i j : Nat} {Ls : List Lay} {En : Steps}, GR x n i Ls En → ∀ (h : j < En.length) (h1 : j < Ls.length) (h2 : j + 1 < Ls.length), Ls[j + 1] = layG x n (i + j) Ls[j].1 Ls[j].2 ([], [])
 | i, j, [_], [], h, hj, _, _ => by simp at hj
 | i, 0, y :: y' :: Ls, mv :: M, h, hj, _, _ => by
  unfold GR at h
  exact h.1.2.2.1
 | i, j + 1, y :: y' :: Ls, mv :: M, h, hj, h1, h2 => by
  unfold GR at h
  have := gr_lay (j := j) h.2 (by simpa using hj) (by simpa using h1) (by simpa using h2)
  rw [show i + 1 + j = i + (j + 1) by omega] at this
  exact this
 | i, j, [], _, h, _, _, _ => by unfold GR at h; exact h.elim
 | i, j, [_], _ :: _, h, _, _, _ => by unfold GR at h; exact h.elim
 | i, j, _ :: _ :: _, [], h, _, _, _ => by unfold GR at h; exact h.elim
theorem mvE_last {x : Lm} {n : List Nt} {i : Nat} {v : St} (h : (segR 0 n)[i + 1]? = none) : ∀ m ∈ mvE x n i v, m.to = st0 := by
 intro m hm
 unfold mvE at hm
 split at hm
 ·simp at hm
 ·unfold mvR at hm
  obtain ⟨a, _, ha⟩ := List.mem_flatMap.1 hm
  unfold fin at ha
  split at ha
  ·simp at ha
  ·rw [List.mem_singleton.1 ha]
   simp only
   unfold frg
   rw [h]
theorem gr_end {x : Lm} {n : List Nt} {Ls : List Lay} (hG : Graph x n Ls) {i : Nat} (hi : i + 1 = (enR x n).length) (h2 : i + 1 < Ls.length) : Ls[i + 1].1 = [st0] := by
 have hll := gr_len hG.g
 have S := gr_at hG.g (j := i) (by omega) (by omega) h2
 have L := gr_lay hG.g (j := i) (by omega) (by omega) h2
 have hne := S.ne
 rw [Nat.zero_add] at L
 rw [L, layG_fst] at hne ⊢
 refine ddA_same (fun t ht => ?_) fun e => hne (by simp only [e]; rfl)
 obtain ⟨v, _, ht⟩ := List.mem_flatMap.1 ht
 obtain ⟨m, hm, rfl⟩ := List.mem_map.1 ht
 exact mvE_last (List.getElem?_eq_none (by rw [← hG.l]; omega)) m hm
theorem toOk_of : ∀ {G : Steps}, (∀ i (h : i + 1 = G.length), ∀ ms ∈ G[i], ∀ m ∈ ms, m.to = 0) → ToOk G
 | [], _ => trivial
 | g :: G, h => by
  refine ⟨fun ms hms m hm e => ?_, toOk_of fun i hi ms hms m hm => ?_⟩
  ·subst e
   exact h 0 rfl ms hms m hm
  ·exact h (i + 1) (by simp only [List.length_cons]; omega) ms hms m hm
theorem graph_to {x : Lm} {n : List Nt} {Ls : List Lay} (hG : Graph x n Ls) {i : Nat} (hi : i < (enR x n).length) {ms : List RMv} (hms : ms ∈ (enR x n)[i]) : ∃ (k : Nat) (v : St) (h1 : i + 1 < Ls.length), Ls[i].1[k]? = some v ∧ (enR x n)[i][k]? = some ms ∧ (∀ m ∈ ms, m.to < Ls[i + 1].1.length) ∧ mvE x n i v = ms.map (toMv Ls[i + 1].1) := by
 have hll := gr_len hG.g
 have S := gr_at hG.g (j := i) hi (by omega) (by omega)
 obtain ⟨k, hk⟩ := List.mem_iff_getElem?.1 hms
 have hkl := (List.getElem?_eq_some_iff.1 hk).1
 rw [S.len] at hkl
 have := S.mv k _ _ (List.getElem?_eq_getElem hkl) hk
 rw [Nat.zero_add] at this
 exact ⟨k, _, by omega, List.getElem?_eq_getElem hkl, hk, this.1, this.2⟩
theorem graph_sok {x : Lm} (X : LmOk x) {n : List Nt} (hN : chkN n = 0) {Ls : List Lay} (hG : Graph x n Ls) : SOk (enR x n) := by
 have hll := gr_len hG.g
 have hsl := segR_lenle n
 have hlen := (ntsOk_of hN).len
 have hat : ∀ i (hi : i < (enR x n).length), (enR x n).getD i [] = (enR x n)[i] := fun i hi => by rw [List.getD_eq_getElem?_getD, List.getElem?_eq_getElem hi]; rfl
 have hsz : ∀ i (hi : i < (enR x n).length), (enR x n)[i].length ≤ 100000000 := fun i hi => by
  have S := gr_at hG.g (j := i) hi (by omega) (by omega)
  rw [S.len]
  exact hG.sz _ (List.getElem_mem _)
 have hmem : ∀ i k m, m ∈ ((enR x n).getD i []).getD k [] → ∃ (hi : i < (enR x n).length) (ms : List RMv), ms ∈ (enR x n)[i] ∧ m ∈ ms := fun i k m hm => by
  by_cases hi : i < (enR x n).length
  ·rw [hat i hi] at hm
   obtain ⟨ms, hms, hm⟩ := getD_memL hm
   exact ⟨hi, ms, hms, hm⟩
  ·rw [show (enR x n).getD i [] = [] by rw [List.getD_eq_getElem?_getD, List.getElem?_eq_none (by omega)]; rfl] at hm
   simp at hm
 have hle : (enR x n).length ≤ 5600 := by rw [hG.l]; omega
 refine ⟨hle, gr_bd X hN hG.g hG.lay0, ?_, fun i => ?_, fun i k => ?_, fun i k m hm => ?_, fun g hg ms hms m hm => ?_, ?_⟩
 ·refine toOk_of fun i hi ms hms m hm => ?_
  obtain ⟨k, v, h1, _, _, h4, _⟩ := graph_to hG (by omega) hms
  have := h4 m hm
  rw [gr_end hG hi h1] at this
  simp only [List.length_singleton] at this
  omega
 ·by_cases hi : i < (enR x n).length
  ·rw [hat i hi]; exact hsz i hi
  ·rw [List.getD_eq_getElem?_getD, List.getElem?_eq_none (by omega)]; simp
 ·by_cases hi : i < (enR x n).length
  ·rw [hat i hi]
   by_cases hk : k < (enR x n)[i].length
   ·rw [List.getD_eq_getElem?_getD, List.getElem?_eq_getElem hk, Option.getD_some]
    obtain ⟨_, v, h1, _, _, _, h5⟩ := graph_to hG hi (List.getElem_mem hk)
    have := mvE_len X hN i v
    rw [h5, List.length_map] at this
    omega
   ·rw [List.getD_eq_getElem?_getD, List.getElem?_eq_none (l := (enR x n)[i]) (by omega)]; simp
  ·rw [show (enR x n).getD i [] = [] by rw [List.getD_eq_getElem?_getD, List.getElem?_eq_none (by omega)]; rfl]; simp
 ·obtain ⟨hi, ms, hms, hm⟩ := hmem i k m hm
  obtain ⟨_, v, h1, _, _, h4, _⟩ := graph_to hG hi hms
  have h4 := h4 m hm
  unfold szG
  by_cases c : i + 1 < (enR x n).length
  ·rw [if_pos c, hat _ c]
   have S := gr_at hG.g (j := i + 1) c (by omega) (by omega)
   rw [S.len]
   exact h4
  ·rw [if_neg c]
   rw [gr_end hG (by omega) h1] at h4
   simpa using h4
 ·obtain ⟨i, hi, rfl⟩ := List.mem_iff_getElem.1 hg
  obtain ⟨_, v, h1, _, _, _, h5⟩ := graph_to hG hi hms
  exact mvE_ks hN (toMv Ls[i + 1].1 m) (by rw [h5]; exact List.mem_map.2 ⟨m, hm, rfl⟩)
 ·unfold szG
  by_cases c : 0 < (enR x n).length
  ·rw [if_pos c, hG.one c]; omega
  ·rw [if_neg c]; omega
theorem nodup_at {α : Type} : ∀ {l : List α}, l.Nodup → ∀ {i j : Nat} (hi : i < l.length) (hj : j < l.length), l[i] = l[j] → i = j
 | a :: l, h, 0, 0, _, _, _ => rfl
 | a :: l, h, 0, j + 1, hi, hj, e => by
  have := (List.nodup_cons.1 h).1
  simp only [List.getElem_cons_zero, List.getElem_cons_succ] at e
  exact absurd (by rw [e]; exact List.getElem_mem _) this
 | a :: l, h, i + 1, 0, hi, hj, e => by
  have := (List.nodup_cons.1 h).1
  simp only [List.getElem_cons_zero, List.getElem_cons_succ] at e
  exact absurd (by rw [← e]; exact List.getElem_mem _) this
 | a :: l, h, i + 1, j + 1, hi, hj, e => by
  simp only [List.getElem_cons_succ] at e
  rw [nodup_at (List.nodup_cons.1 h).2 (by simpa using hi) (by simpa using hj) e]
theorem mrg_ne {ls : List (List Co)} {l : List Co} (h : l ∈ ls) (hl : l ≠ []) : mrg ls ≠ [] := by
 unfold mrg
 have hs : 0 < (ls.map List.length).sum := by
  have h2 : l.length ≤ (ls.map List.length).sum := by
   clear hl
   induction ls with
   | nil => simp at h
   | cons a r ih =>
    simp only [List.map_cons, List.sum_cons]
    rcases List.mem_cons.1 h with rfl | h
    ·omega
    ·have := ih h; omega
  have := List.length_pos_iff.2 hl
  omega
 obtain ⟨k, hk⟩ : ∃ k, (ls.map List.length).sum = k + 1 := ⟨(ls.map List.length).sum - 1, by omega⟩
 rw [hk, pkW]
 cases hb : bst id ls (fun _ => 0) ls.length with
 | some jx => simp
 | none =>
  obtain ⟨j, hj⟩ := List.mem_iff_getElem?.1 h
  have := bst_none hb j (List.getElem?_eq_some_iff.1 hj).1
  unfold hdA at this
  rw [List.getD_eq_getElem?_getD, hj, Option.getD_some] at this
  cases l with
  | nil => exact absurd rfl hl
  | cons a r => simp at this
theorem WG_ne {g : List (List RMv)} {G : Steps} {k : Nat} {m : RMv} (h : m ∈ g.getD k []) (h2 : WG G m.to ≠ []) : WG (g :: G) k ≠ [] := by
 rw [WG]
 refine mrg_ne (l := (WG G m.to).map fun w => (m.c + w.c, m.m + w.m)) (List.mem_map.2 ⟨m, List.mem_filter.2 ⟨h, ?_⟩, rfl⟩) ?_
 ·cases e : WG G m.to with
  | nil => exact absurd e h2
  | cons a r => rfl
 ·intro e
  exact h2 (List.map_eq_nil_iff.1 e)
theorem WG_reach {x : Lm} {n : List Nt} {Ls : List Lay} (hG : Graph x n Ls) : ∀ (i : Nat), i ≤ (enR x n).length → ∀ (k : Nat) (hi : i < Ls.length), k < Ls[i].1.length → WG ((enR x n).drop i) k ≠ [] → WG (enR x n) 0 ≠ []
 | 0, _, k, hi, hk, h => by
  have e := (List.getElem?_eq_some_iff.1 hG.h0).2
  rw [e] at hk
  have : k = 0 := by simpa using hk
  subst this
  rw [List.drop_zero] at h
  exact h
 | i + 1, hi1, k, hi, hk, h => by
  have hll := gr_len hG.g
  have L := gr_lay hG.g (j := i) (by omega) (by omega) hi
  have S := gr_at hG.g (j := i) (by omega) (by omega) hi
  have hnd := S.ok.nd
  rw [Nat.zero_add] at L
  have hm : Ls[i + 1].1[k] ∈ Ls[i + 1].1 := List.getElem_mem hk
  rw [show (Ls[i + 1].1[k] ∈ Ls[i + 1].1) = (Ls[i + 1].1[k] ∈ (layG x n i Ls[i].1 Ls[i].2 ([], [])).1) by rw [← L], layG_fst, ddA_mem] at hm
  rcases hm with hm | hm
  ·simp at hm
  ·obtain ⟨v, hv, hm⟩ := List.mem_flatMap.1 hm
   obtain ⟨mv, hmv, hto⟩ := List.mem_map.1 hm
   obtain ⟨j, hj⟩ := List.mem_iff_getElem?.1 hv
   have hjl := (List.getElem?_eq_some_iff.1 hj).1
   have hjE : j < (enR x n)[i].length := by rw [S.len]; exact hjl
   have M := S.mv j v _ hj (List.getElem?_eq_getElem hjE)
   rw [Nat.zero_add] at M
   rw [M.2] at hmv
   obtain ⟨r, hr, rfl⟩ := List.mem_map.1 hmv
   have hrl := M.1 r hr
   have hrk : r.to = k := by
    have h3 : Ls[i + 1].1[r.to] = Ls[i + 1].1[k] := by
     rw [← hto]
     show _ = Ls[i + 1].1.getD r.to st0
     rw [List.getD_eq_getElem?_getD, List.getElem?_eq_getElem hrl]
     rfl
    exact nodup_at hnd hrl hk h3
   refine WG_reach hG i (by omega) j (by omega) hjl ?_
   rw [List.drop_eq_getElem_cons (show i < (enR x n).length by omega)]
   refine WG_ne (m := r) ?_ (by rw [hrk]; exact h)
   rw [List.getD_eq_getElem?_getD, List.getElem?_eq_getElem hjE]
   exact hr
theorem WG_some {x : Lm} {n : List Nt} {Ls : List Lay} (hG : Graph x n Ls) : WG (enR x n) 0 ≠ [] := by
 have hll := gr_len hG.g
 refine WG_reach hG (enR x n).length (Nat.le_refl _) 0 (by omega) ?_ (by rw [List.drop_length, WG]; simp)
 by_cases c : 0 < (enR x n).length
 ·obtain ⟨i, hi⟩ : ∃ i, i + 1 = (enR x n).length := ⟨(enR x n).length - 1, by omega⟩
  have e := gr_end hG hi (by omega)
  simp only [hi] at e
  rw [e]
  simp
 ·have h0 : (enR x n).length = 0 := by omega
  have e := (List.getElem?_eq_some_iff.1 hG.h0).2
  simp only [h0]
  rw [e]
  simp
theorem voiL_pos {x : Lm} {n : List Nt} {Ls : List Lay} (hG : Graph x n Ls) {most : Nat} (hm : 1 ≤ most) : 0 < (voiL (enR x n) most).length := by
 have := List.length_pos_iff.2 (WG_some hG)
 unfold voiL
 rw [List.length_map, List.length_take]
 omega
end Go.Ab.V

namespace Go.Ab.V
open Go.Proofs
def A13 : Ann := fun r => match r with
 | 0 => { slots := [(0, 0)] }
 | _ => {}
def bestV (x : Lm) (n : List Nt) : AV := if both x n ≠ 0 then .tup [.agg [.nils, .int .i64 0, .int .i64 0], .int .i64 (both x n)] else
 if errR x n ≠ 0 then .tup [.agg [.nils, .int .i64 0, .int .i64 0], .int .i64 (errR x n)] else .tup [.agg ((voiL (enR x n) 1).headD []), .int .i64 0]
def A15 : Ann := fun r => match r with
 | 0 => { slots := [(0, 0), (1, 1)] }
 | _ => {}
theorem bestV_of (x : Lm) (n : List Nt) : (∃ e : Int, e ≠ 0 ∧ listV x n 1 = .tup [.nils, .int .i64 e] ∧ bestV x n = .tup [.agg [.nils, .int .i64 0, .int .i64 0], .int .i64 e]) ∨
  (∃ (l : List Int) (c m : Int), listV x n 1 = .tup [voisA [voiR l c m], .int .i64 0] ∧ bestV x n = .tup [.agg (voiR l c m), .int .i64 0]) := by
 unfold listV bestV
 by_cases c1 : both x n ≠ 0
 ·rw [if_pos c1, if_pos c1]
  exact .inl ⟨_, c1, rfl, rfl⟩
 rw [if_neg c1, if_neg c1, if_neg (by omega)]
 by_cases c3 : errR x n ≠ 0
 ·rw [if_pos c3, if_pos c3]
  exact .inl ⟨_, c3, rfl, rfl⟩
 rw [if_neg c3, if_neg c3]
 have c1 : both x n = 0 := by omega
 have c3 : errR x n = 0 := by omega
 have hX : chkL x = 0 := by
  unfold both at c1; split at c1
  ·rename_i h; exact absurd c1 h
  ·rename_i h; simpa using h
 have hN : chkN n = 0 := by unfold both at c1; rw [hX] at c1; simpa using c1
 obtain ⟨Ls, hG⟩ := graph_of (lmOk_of hX) hN c3
 have h1 := voiL_pos hG (most := 1) (by omega)
 have h2 := voiL_len (G := enR x n) (most := 1)
 right
 rw [show (1 : Int).toNat = 1 from rfl]
 have h4 : ∀ r ∈ voiL (enR x n) 1, ∃ l c m, r = voiR l c m := fun r hr => by
  obtain ⟨w, _, rfl⟩ := List.mem_map.1 hr
  exact ⟨_, _, _, rfl⟩
 generalize voiL (enR x n) 1 = V at h1 h2 h4
 match V, h1, h2, h4 with
 | [r], _, _, h4 =>
  obtain ⟨l, c, m, rfl⟩ := h4 r (List.mem_singleton.2 rfl)
  exact ⟨l, c, m, rfl, rfl⟩
 | _ :: _ :: _, _, h2, _ => simp only [List.length_cons] at h2; omega
 | [], h1, _, _ => simp at h1
set_option maxHeartbeats 16000000 in
set_option maxRecDepth 100000 in
theorem best15 (x : Lm) (n : List Nt) (hl : x.lo.length ≤ 9223372036854775807) (hh : x.hi.length ≤ 9223372036854775807) (h3 : n.length ≤ 9223372036854775807) : PRet C.P 15 [lmA x, ntsA n] (bestV x n) := by
 have hL := list12 x n 1 hl hh h3
 rcases bestV_of x n with ⟨e, he, h1, h2⟩ | ⟨l, c, m, h1, h2⟩
 ·rw [h1] at hL
  rw [h2]
  refine pret_of ok mixed (A := A15) 2 Try.func15 rfl ?_
  (repeat' (first | exact rfl | ((conv => whnf); first | refine ⟨_, hL, ?_⟩ | exact rfl | exact ⟨rfl, rfl⟩ | refine dk (by kernel_rfl) ?_ | refine pk (by kernel_rfl) ?_ | refine ⟨rfl, ?_⟩ | refine ⟨by (first | omega | (simp (disch := omega) only [wrapI]; first | omega | (simp; omega)) | (simp; omega)), ?_⟩ | (intro ep) | (refine ifB (fun hb => ?_) (fun hb => ?_) <;> (try simp only [qs] at hb) <;> (try simp (disch := omega) only [wrapI] at hb) <;> (try (exfalso; omega))) | fail)))
 ·rw [h1] at hL
  rw [h2]
  have hL : PRet C.P 12 [lmA x, ntsA n, .int .i64 1] (.tup [.lslc 3 [[intsA l, .int .i64 c, .int .i64 m]] 0 1 false, .int .i64 0]) := hL
  clear h1 h2
  unfold voiR
  refine pret_of ok mixed (A := A15) 2 Try.func15 rfl ?_
  (repeat' (first | exact rfl | ((conv => whnf); first | refine ⟨_, hL, ?_⟩ | exact rfl | exact ⟨rfl, rfl⟩ | refine dk (by kernel_rfl) ?_ | refine pk (by kernel_rfl) ?_ | refine ⟨rfl, ?_⟩ | refine ⟨by (first | omega | (simp (disch := omega) only [wrapI]; first | omega | (simp; omega)) | (simp; omega)), ?_⟩ | (intro ep) | (refine ifB (fun hb => ?_) (fun hb => ?_) <;> (try simp only [qs] at hb) <;> (try simp (disch := omega) only [wrapI] at hb) <;> (try (exfalso; omega))) | fail)))
end Go.Ab.V

namespace Go.Ab.V
open Go.Proofs
def A10 : Ann := fun _ => {}
def manyB (l m : Nat) : Bool := decide (m < l) && decide (l ≤ 5600)
set_option maxHeartbeats 4000000 in
set_option maxRecDepth 100000 in
theorem many10 (n : List Nt) (m : Nat) (hm : m ≤ 5600) (h3 : n.length ≤ 9223372036854775807) : PRet C.P 10 [ntsA n, .int .i64 (m : Int)] (.bool (manyB n.length m)) := by
 unfold manyB
 by_cases c1 : m < n.length
 ·rw [decide_eq_true c1]
  by_cases c2 : n.length ≤ 5600
  ·rw [decide_eq_true c2]
   refine pret_of ok mixed (A := A10) 0 Try.func10 rfl ?_
   (repeat' (first | exact rfl | ((conv => whnf); first | exact rfl | exact ⟨rfl, rfl⟩ | refine dk (by kernel_rfl) ?_ | refine pk (by kernel_rfl) ?_ | refine ⟨rfl, ?_⟩ | refine ⟨by (first | omega | (simp (disch := omega) only [wrapI]; first | omega | (simp; omega)) | (simp; omega)), ?_⟩ | (intro ep) | (refine ifB (fun hb => ?_) (fun hb => ?_) <;> (try simp only [qs] at hb) <;> (try simp (disch := omega) only [wrapI] at hb) <;> (try (exfalso; omega))) | fail)))
   all_goals (refine congrArg AV.bool ?_; simp; omega)
  ·rw [decide_eq_false c2]
   refine pret_of ok mixed (A := A10) 0 Try.func10 rfl ?_
   (repeat' (first | exact rfl | ((conv => whnf); first | exact rfl | exact ⟨rfl, rfl⟩ | refine dk (by kernel_rfl) ?_ | refine pk (by kernel_rfl) ?_ | refine ⟨rfl, ?_⟩ | refine ⟨by (first | omega | (simp (disch := omega) only [wrapI]; first | omega | (simp; omega)) | (simp; omega)), ?_⟩ | (intro ep) | (refine ifB (fun hb => ?_) (fun hb => ?_) <;> (try simp only [qs] at hb) <;> (try simp (disch := omega) only [wrapI] at hb) <;> (try (exfalso; omega))) | fail)))
   all_goals (refine congrArg AV.bool ?_; simp; omega)
 ·rw [decide_eq_false c1]
  refine pret_of ok mixed (A := A10) 0 Try.func10 rfl ?_
  (repeat' (first | exact rfl | ((conv => whnf); first | exact rfl | exact ⟨rfl, rfl⟩ | refine dk (by kernel_rfl) ?_ | refine pk (by kernel_rfl) ?_ | refine ⟨rfl, ?_⟩ | refine ⟨by (first | omega | (simp (disch := omega) only [wrapI]; first | omega | (simp; omega)) | (simp; omega)), ?_⟩ | (intro ep) | (refine ifB (fun hb => ?_) (fun hb => ?_) <;> (try simp only [qs] at hb) <;> (try simp (disch := omega) only [wrapI] at hb) <;> (try (exfalso; omega))) | fail)))
def A19 : Ann := fun _ => {}
set_option maxHeartbeats 4000000 in
set_option maxRecDepth 100000 in
theorem same19 (l : List Int) (hl : l.length ≤ 9223372036854775806) : PRet C.P 19 [intsA l, intsA l] (.bool true) := by
 refine pret_of ok mixed (A := A19) 0 Try.func19 rfl ?_
 (repeat' (first | exact rfl | ((conv => whnf); first | exact rfl | exact ⟨rfl, rfl⟩ | refine dk (by kernel_rfl) ?_ | refine pk (by kernel_rfl) ?_ | refine ⟨rfl, ?_⟩ | refine ⟨by (first | omega | (simp (disch := omega) only [wrapI]; first | omega | (simp; omega)) | (simp; omega)), ?_⟩ | (intro ep) | (refine ifB (fun hb => ?_) (fun hb => ?_) <;> (try simp only [qs] at hb) <;> (try simp (disch := omega) only [wrapI] at hb) <;> (try (exfalso; omega))) | fail)))
 all_goals (conv => whnf)
 refine loopX ok mixed (A := A19) [0, 1, 5] [] (S := { k : Nat // k ≤ l.length })
  (fr := fun s => frOf 0 26 [(0, intsA l), (1, intsA l), (5, .int .i64 (s.1 : Int))])
  (h := fun s => ⟨[], []⟩) (μ := fun s => l.length - s.1) ⟨0, by omega⟩ ?_ ?_
  [] [] (S' := Unit) (X := fun _ => 0) (frX := fun s => frOf 0 26 []) (hX := fun s => ⟨[], []⟩) (R := fun _ _ => False) ?_ (fun _ _ h => h.elim) ?_
 ·exact rfl
 ·exact rfl
 ·rintro ⟨k, hk⟩
  show aexR _ _ _ (frOf 0 26 [(0, intsA l), (1, intsA l), (5, .int .i64 (k : Int))]) ⟨[], []⟩ _
  (conv => whnf)
  refine ifB (fun g1 => ?_) (fun g1 => ?_)
  ·simp only [decide_eq_true_eq] at g1
   have h1 : k < l.length := by omega
   have hm := intsR h1
   (repeat' (first | exact rfl | ((conv => whnf); first | refine optS hm ?_ | exact rfl | exact ⟨rfl, rfl⟩ | refine dk (by kernel_rfl) ?_ | refine pk (by kernel_rfl) ?_ | refine ⟨rfl, ?_⟩ | refine ⟨by (first | omega | (simp (disch := omega) only [wrapI]; first | omega | (simp; omega)) | (simp; omega)), ?_⟩ | (intro ep) | (refine ifB (fun hb => ?_) (fun hb => ?_) <;> (try simp only [qs] at hb) <;> (try simp (disch := omega) only [wrapI] at hb) <;> (try (exfalso; omega))) | fail)))
   all_goals (conv => whnf)
   exact back_of ⟨k + 1, by omega⟩ ⟨by (first | exact rfl | (simp (disch := omega) only [wrapI]; exact rfl)), rfl, by simp only; omega⟩
  ·(repeat' (first | exact rfl | ((conv => whnf); first | exact rfl | exact ⟨rfl, rfl⟩ | refine dk (by kernel_rfl) ?_ | refine pk (by kernel_rfl) ?_ | refine ⟨rfl, ?_⟩ | refine ⟨by (first | omega | (simp (disch := omega) only [wrapI]; first | omega | (simp; omega)) | (simp; omega)), ?_⟩ | (intro ep) | fail)))
   all_goals (conv => whnf)
   exact back_of () ⟨rfl, rfl, rfl⟩
 ·rintro ⟨⟩
  (repeat' (first | exact rfl | ((conv => whnf); first | exact rfl | exact ⟨rfl, rfl⟩ | refine dk (by kernel_rfl) ?_ | refine pk (by kernel_rfl) ?_ | refine ⟨rfl, ?_⟩ | refine ⟨by (first | omega | (simp (disch := omega) only [wrapI]; first | omega | (simp; omega)) | (simp; omega)), ?_⟩ | (intro ep) | fail)))
set_option maxHeartbeats 4000000 in
theorem same19_nil : PRet C.P 19 [.nils, .nils] (.bool true) := by
 refine pret_of ok mixed (A := A19) 0 Try.func19 rfl ?_
 (repeat ((conv => whnf); first | exact rfl | exact ⟨rfl, rfl⟩ | refine ⟨rfl, ?_⟩ | refine ⟨by decide, ?_⟩ | refine ⟨by kernel_rfl, ?_⟩ | (intro ep) | refine loopU ok mixed (A := fun _ => {}) 100 ?_))
def A14 : Ann := fun r => match r with
 | 0 => { slots := [(0, 0), (1, 1)] }
 | _ => {}
set_option maxHeartbeats 4000000 in
set_option maxRecDepth 100000 in
theorem same14 {a : AV} (c m : Int) (h : PRet C.P 19 [a, a] (.bool true)) (ha : (∃ l, a = intsA l) ∨ a = .nils) : PRet C.P 14 [.agg [a, .int .i64 c, .int .i64 m], .agg [a, .int .i64 c, .int .i64 m]] (.bool true) := by
 rcases ha with ⟨l, rfl⟩ | rfl
 all_goals
  refine pret_of ok mixed (A := A14) 2 Try.func14 rfl ?_
  (repeat' (first | exact rfl | ((conv => whnf); first | refine ⟨_, h, ?_⟩ | exact rfl | exact ⟨rfl, rfl⟩ | refine dk (by kernel_rfl) ?_ | refine pk (by kernel_rfl) ?_ | refine ⟨rfl, ?_⟩ | refine ⟨by (first | omega | (simp (disch := omega) only [wrapI]; first | omega | (simp; omega)) | (simp; omega)), ?_⟩ | (intro ep) | (refine ifB (fun hb => ?_) (fun hb => ?_) <;> (try simp only [qs] at hb) <;> (try simp (disch := omega) only [wrapI] at hb) <;> (try (exfalso; omega))) | fail)))
end Go.Ab.V

namespace Go.Ab.V
open Go.Proofs
def x0 : Lm := ⟨[60, 40], [80, 60], 5, 0, 0⟩
def n0 : List Nt := [⟨0, 1, 67, 0, 96⟩, ⟨0, 6, 43, 0, 192⟩, ⟨1, 1, 69, 96, 192⟩]
set_option maxRecDepth 100000 in
theorem best0 : bestV x0 n0 = .tup [.agg (voiR [1, 2, 1] 0 2), .int .i64 0] := by kernel_rfl
def A11 : Ann := fun r => match r with
 | 1 => { slots := [(0, 0), (1, 1), (3, 2)], frz := [1000, 1001] }
 | 2 => { slots := [(3, 3)], frz := [2] }
 | 3 => { slots := [(6, 4)] }
 | 4 => { slots := [(15, 5)] }
 | _ => {}
set_option maxHeartbeats 16000000 in
set_option maxRecDepth 100000 in
theorem works2 : PRet C.P 11 [] (.bool true) := by
 have hB := best15 x0 n0 (by decide) (by decide) (by decide)
 rw [best0] at hB
 have hS := same19 [1, 2, 1] (by decide)
 refine pret_of (okx [] [15, 19]) mixed (A := A11) 6 Try.func11 rfl ?_
 (repeat' (first | exact rfl | ((conv => whnf); first | refine PRet.calls hB ?_ | (refine ACalls.fz 5 ?_; (conv => whnf); refine ⟨pureRows_of1 (by kernel_rfl), by (repeat' (first | exact trivial | exact eqsP_rows _ (fun x => rfl) | ((conv => whnf); first | exact trivial | refine ⟨rfl, ?_⟩ | refine ⟨?_, ?_⟩ | fail))), by (repeat' (first | exact trivial | exact eqsP_rows _ (fun x => rfl) | ((conv => whnf); first | exact trivial | refine ⟨rfl, ?_⟩ | refine ⟨?_, ?_⟩ | fail))), by (repeat' (first | exact trivial | exact eqsP_rows _ (fun x => rfl) | ((conv => whnf); first | exact trivial | refine ⟨rfl, ?_⟩ | refine ⟨?_, ?_⟩ | fail))), ?_⟩; refine PRet.calls hS ?_) | exact rfl | exact ⟨rfl, rfl⟩ | refine dk (by kernel_rfl) ?_ | refine pk (by kernel_rfl) ?_ | refine ⟨rfl, ?_⟩ | refine ⟨by (first | omega | (simp (disch := omega) only [wrapI]; first | omega | (simp; omega)) | (simp; omega)), ?_⟩ | (intro ep) | refine ⟨pureRows_of (by kernel_rfl), by (repeat' (first | exact trivial | exact eqsP_rows _ (fun x => rfl) | ((conv => whnf); first | exact trivial | refine ⟨rfl, ?_⟩ | refine ⟨?_, ?_⟩ | fail))), by (repeat' (first | exact trivial | exact eqsP_rows _ (fun x => rfl) | ((conv => whnf); first | exact trivial | refine ⟨rfl, ?_⟩ | refine ⟨?_, ?_⟩ | fail))), by (repeat' (first | exact trivial | exact eqsP_rows _ (fun x => rfl) | ((conv => whnf); first | exact trivial | refine ⟨rfl, ?_⟩ | refine ⟨?_, ?_⟩ | fail))), ?_⟩ | refine ⟨pureRows_of1 (by kernel_rfl), ?_⟩ | (refine ifB (fun hb => ?_) (fun hb => ?_) <;> (try simp only [qs] at hb) <;> (try simp (disch := omega) only [wrapI] at hb) <;> (try (exfalso; omega))) | fail)))
end Go.Ab.V

namespace Go.Ab.V
open Go.Proofs
theorem vT_len : ∀ {t : Tl}, (∀ a ∈ t, a.1.length ≤ 100000) → (vT t).length ≤ 100000 * t.length
 | [], _ => by simp [vT]
 | a :: t, h => by
  have h1 := h a (List.mem_cons_self ..)
  have h2 := vT_len fun b hb => h b (List.mem_cons_of_mem _ hb)
  have h3 : (vT (a :: t)).length = a.1.length + (vT t).length := by simp [vT]
  simp only [List.length_cons]
  omega
structure VoiOk (V : List (List AV)) : Prop where
 len : V.length ≤ 64
 at' : ∀ r ∈ V, ∃ (l : List Int) (c m : Int), r = voiR l c m ∧ l.length ≤ 600000000
theorem voiL_ok {G : Steps} (sok : SOk G) {most : Nat} (hm : 1 ≤ most ∧ most ≤ 64) : VoiOk (voiL G most) := by
 refine ⟨by have := voiL_len (G := G) (most := most); omega, fun r hr => ?_⟩
 rw [← voiD_L hm.1 sok] at hr
 obtain ⟨t, ht, rfl⟩ := List.mem_map.1 hr
 have ht : t ∈ DT most (G.drop 0) 0 := by rw [List.drop_zero]; exact ht
 have tok := DT_ok hm.1 sok (Nat.zero_le _) sok.one t ht
 refine ⟨_, _, _, rfl, ?_⟩
 have := vT_len tok.ks
 have := tok.len
 omega
theorem both_zero {x : Lm} {n : List Nt} (c1 : both x n = 0) : LmOk x ∧ chkN n = 0 := by
 have hX : chkL x = 0 := by
  unfold both at c1; split at c1
  ·rename_i h; exact absurd c1 h
  ·rename_i h; simpa using h
 exact ⟨lmOk_of hX, by unfold both at c1; rw [hX] at c1; simpa using c1⟩
theorem listV_of (x : Lm) (n : List Nt) (most : Int) : (∃ e : Int, e ≠ 0 ∧ listV x n most = .tup [.nils, .int .i64 e]) ∨ (∃ V, VoiOk V ∧ listV x n most = .tup [voisA V, .int .i64 0]) := by
 unfold listV
 by_cases c1 : both x n ≠ 0
 ·rw [if_pos c1]; exact .inl ⟨_, c1, rfl⟩
 rw [if_neg c1]
 by_cases c2 : ¬ (1 ≤ most ∧ most ≤ 64)
 ·rw [if_pos c2]; exact .inl ⟨1, by decide, rfl⟩
 rw [if_neg c2]
 by_cases c3 : errR x n ≠ 0
 ·rw [if_pos c3]; exact .inl ⟨_, c3, rfl⟩
 rw [if_neg c3]
 have c1 : both x n = 0 := by omega
 have c3 : errR x n = 0 := by omega
 obtain ⟨X, hN⟩ := both_zero c1
 obtain ⟨Ls, hG⟩ := graph_of X hN c3
 exact .inr ⟨_, voiL_ok (graph_sok X hN hG) (by omega), rfl⟩
theorem bestV_ok (x : Lm) (n : List Nt) : (∃ e : Int, e ≠ 0 ∧ bestV x n = .tup [.agg [.nils, .int .i64 0, .int .i64 0], .int .i64 e]) ∨ (∃ (l : List Int) (c m : Int), l.length ≤ 600000000 ∧ bestV x n = .tup [.agg (voiR l c m), .int .i64 0]) := by
 rcases bestV_of x n with ⟨e, he, _, h2⟩ | ⟨l, c, m, h1, h2⟩
 ·exact .inl ⟨e, he, h2⟩
 ·rcases listV_of x n 1 with ⟨e, he, h3⟩ | ⟨V, hV, h3⟩
  ·rw [h3] at h1
   simp only [AV.tup.injEq, List.cons.injEq, AV.int.injEq, true_and, and_true] at h1
   exact absurd h1.2 he
  ·rw [h3] at h1
   simp only [AV.tup.injEq, List.cons.injEq, and_true] at h1
   unfold voisA at h1
   simp only [AV.lslc.injEq, true_and, and_true] at h1
   obtain ⟨l', c', m', h4, h5⟩ := hV.at' (voiR l c m) (by rw [h1.1]; exact List.mem_singleton.2 rfl)
   have : l = l' := by
    unfold voiR intsA at h4
    simp only [List.cons.injEq, AV.lslc.injEq, true_and] at h4
    have h6 := h4.1.1
    unfold ints at h6
    have h7 := congrArg (List.map fun r : List AV => match r with | [.int _ z] => z | _ => 0) h6
    rw [List.map_map, List.map_map] at h7
    have e : ∀ l : List Int, l.map ((fun r : List AV => match r with | [.int _ z] => z | _ => 0) ∘ fun z => [AV.int .i64 z]) = l := fun l => by
     conv => rhs; rw [← List.map_id l]
     exact List.map_congr_left fun _ _ => rfl
    rw [e, e] at h7
    exact h7
   exact .inr ⟨l, c, m, by rw [this]; exact h5, h2⟩
def caseR (x : Lm) (n : List Nt) : List AV := [intsA x.lo, intsA x.hi, .int .i64 x.leap, .int .i64 x.gap, .int .i64 x.cross, ntsA n]
end Go.Ab.V

namespace Go.Ab.V
open Go.Proofs
theorem chk_lm {x : Lm} (h : LmOk x) : chkL x = 0 := by
 have h1 := h.lo1
 have h2 := h.lo5
 have h3 := h.hi
 have h4 := h.leap
 have h5 := h.gap
 have h6 := h.cross
 unfold chkL
 rw [if_neg (by omega), if_neg (by omega), if_neg (by omega), if_neg (by omega), if_neg (by omega)]
 exact h.prs
theorem both_of {x : Lm} {n : List Nt} (h : LmOk x) (hN : chkN n = 0) : both x n = 0 := by unfold both; rw [chk_lm h, hN]; rfl
def A22 : Ann := fun _ => {}
theorem rest22n (a n : Int) (h : 0 < n) (hn : n ≤ 100000) : ∃ r : Int, 0 ≤ r ∧ r < n ∧ PRet C.P 22 [.int .i64 a, .int .i64 n] (.int .i64 r) := by
 have h1 := Int.tmod_lt_of_pos a h
 have h2 := Int.lt_tmod_of_pos a h
 obtain ⟨t, ht⟩ : ∃ t, t = a.tmod n := ⟨_, rfl⟩
 have h3 := Int.tmod_lt_of_pos (t + n) h
 have h4 := Int.tmod_nonneg (a := t + n) n (by omega)
 refine ⟨(t + n).tmod n, h4, h3, ?_⟩
 refine pret_of ok mixed (A := A22) 0 Try.func22 rfl ?_
 (repeat' (first | ((conv => whnf); first | refine ⟨rfl, ?_⟩ | refine ⟨by omega, ?_⟩ | (intro ep))))
 all_goals (refine congrArg (AV.int .i64) ?_; rw [← ht, wrapI (x := t + n) (by omega) (by omega)])
structure Z8 where
 i : Nat
 e : Nat
 o : List Int
structure Z8.Ok (L : Nat) (z : Z8) : Prop where
 i1 : 1 ≤ z.i
 iL : z.i ≤ L + 1
 p : z.o.Pairwise (· < ·)
 v : ∀ u ∈ z.o, 1 ≤ u ∧ u < z.i
 l : z.o.length < z.i
end Go.Ab.V

namespace Go.Ab.V
def upN (b : Int) (y : Nt) : Nt := ⟨y.e, y.c, y.p + b, y.f, y.t⟩
def upX (b : Int) (x : Lm) : Lm := ⟨x.lo.map (· + b), x.hi.map (· + b), x.leap, x.gap, x.cross⟩
def UN (b : Int) (y y' : Nt) : Prop := (y = nt0 ∧ y' = nt0) ∨ y' = upN b y
def US (b : Int) (s s' : St) : Prop := ∀ k, UN b (s.get k) (s'.get k)
theorem UN.t {b : Int} {y y' : Nt} (h : UN b y y') : y'.t = y.t := by rcases h with ⟨rfl, rfl⟩ | rfl <;> rfl
theorem UN.e {b : Int} {y y' : Nt} (h : UN b y y') : y'.e = y.e := by rcases h with ⟨rfl, rfl⟩ | rfl <;> rfl
theorem UN.p {b : Int} {y y' : Nt} (h : UN b y y') (ht : 0 < y.t) : y'.p = y.p + b := by
 rcases h with ⟨rfl, rfl⟩ | rfl
 ·exact absurd ht (by decide)
 ·rfl
theorem getD_up {b : Int} {l : List Int} {k : Nat} (h : k < l.length) : (l.map (· + b)).getD k 0 = l.getD k 0 + b := by
 rw [List.getD_eq_getElem?_getD, List.getD_eq_getElem?_getD, List.getElem?_map, List.getElem?_eq_getElem h]
 rfl
theorem set_up {b : Int} {s s' : St} (h : US b s s') {k : Nat} (hk : k < 5) (y : Nt) : US b (s.set k y) (s'.set k (upN b y)) := by
 intro j
 rw [St.get_set _ hk, St.get_set _ hk]
 split
 ·exact .inr rfl
 ·exact h j
theorem join_up {b : Int} {x : Lm} (hhi : x.hi.length = x.lo.length) (h5 : x.lo.length ≤ 5) {s s' : St} (h : US b s s') (y : Nt) (v : Int) : match join x s y v with
  | none => join (upX b x) s' (upN b y) v = none
  | some d => ∃ t', join (upX b x) s' (upN b y) v = some (d.1, t') ∧ US b d.2 t' := by
 have hl : (upX b x).lo.length = x.lo.length := by simp [upX]
 by_cases c1 : v < 1 ∨ (x.lo.length : Int) < v
 ·have e1 : join x s y v = none := by unfold join; rw [if_pos c1]
  rw [e1]
  simp only
  unfold join
  rw [hl, if_pos c1]
 have hk : (v - 1).toNat < x.lo.length := by omega
 have hlo : (upX b x).lo.getD (v - 1).toNat 0 = x.lo.getD (v - 1).toNat 0 + b := getD_up hk
 have hhi' : (upX b x).hi.getD (v - 1).toNat 0 = x.hi.getD (v - 1).toNat 0 + b := getD_up (by omega)
 have hU := h (v - 1).toNat
 have hset := set_up h (show (v - 1).toNat < 5 by omega) y
 unfold join
 rw [hl, if_neg c1, if_neg c1, hlo, hhi', hU.t, hU.e]
 have ep : (upN b y).p = y.p + b := rfl
 have ee : (upN b y).e = y.e := rfl
 have ef : (upN b y).f = y.f := rfl
 have eg : (upX b x).gap = x.gap := rfl
 have el : (upX b x).leap = x.leap := rfl
 rw [ep, ee, ef, eg, el]
 by_cases c2 : y.p < x.lo.getD (v - 1).toNat 0 ∨ x.hi.getD (v - 1).toNat 0 < y.p
 ·have c2' : y.p + b < x.lo.getD (v - 1).toNat 0 + b ∨ x.hi.getD (v - 1).toNat 0 + b < y.p + b := by omega
  rw [if_pos c2, if_pos c2']
 have c2' : ¬ (y.p + b < x.lo.getD (v - 1).toNat 0 + b ∨ x.hi.getD (v - 1).toNat 0 + b < y.p + b) := by omega
 rw [if_neg c2, if_neg c2']
 by_cases c3 : 0 < (s.get (v - 1).toNat).t ∧ (s.get (v - 1).toNat).e = y.e
 ·rw [if_pos c3, if_pos c3]
 rw [if_neg c3, if_neg c3]
 by_cases c4 : 0 < (s.get (v - 1).toNat).t ∧ y.f ≤ (s.get (v - 1).toNat).t + x.gap
 ·rw [if_pos c4, if_pos c4, hU.p c4.1]
  have ed : dst (y.p + b) ((s.get (v - 1).toNat).p + b) = dst y.p (s.get (v - 1).toNat).p := by unfold dst; split <;> split <;> omega
  rw [ed]
  by_cases c5 : x.leap < dst y.p (s.get (v - 1).toNat).p
  ·rw [if_pos c5, if_pos c5]
  ·rw [if_neg c5, if_neg c5]
   exact ⟨_, rfl, hset⟩
 ·rw [if_neg c4, if_neg c4]
  exact ⟨_, rfl, hset⟩
theorem evt_up {b : Int} {x : Lm} (hhi : x.hi.length = x.lo.length) (h5 : x.lo.length ≤ 5) : ∀ (c : Nat) (s s' : St) (m : Int) (i : Nat) (r : List Nt) (ks : List Int), US b s s' → match evt x s m i c r ks with
  | .inl j => evt (upX b x) s' m i c (r.map (upN b)) ks = .inl j
  | .inr d => ∃ t', evt (upX b x) s' m i c (r.map (upN b)) ks = .inr (t', d.2) ∧ US b d.1 t'
 | 0, s, s', m, i, r, ks, h => by
  rw [evt]
  exact ⟨s', by rw [evt], h⟩
 | c + 1, s, s', m, i, [], ks, h => by rw [evt]; rfl; simp
 | c + 1, s, s', m, i, y :: r, [], h => by rw [evt]; rfl; simp
 | c + 1, s, s', m, i, y :: r, k :: q, h => by
  have hj := join_up hhi h5 h y k
  rw [evt, List.map_cons, evt]
  cases e : join x s y k with
  | none =>
   rw [e] at hj
   simp only at hj ⊢
   rw [hj]
  | some d =>
   rw [e] at hj
   obtain ⟨t', h1, h2⟩ := hj
   simp only
   rw [h1]
   exact evt_up hhi h5 c d.2 t' (m + d.1) (i + 1) r q h2
theorem ind_up {b t : Int} (ht : 0 ≤ t) {y y' z z' : Nt} (h1 : UN b y y') (h2 : UN b z z') : ind t y' z' = ind t y z := by
 unfold ind
 rw [h1.t, h2.t]
 by_cases c : t < y.t ∧ t < z.t
 ·have e1 := h1.p (by omega)
  have e2 := h2.p (by omega)
  rw [e1, e2]
  by_cases d : y.p < z.p
  ·rw [if_pos (by omega), if_pos (by omega)]
  ·rw [if_neg (by omega), if_neg (by omega)]
 ·rw [if_neg (by omega), if_neg (by omega)]
theorem crB_up {b t : Int} (ht : 0 ≤ t) {s s' : St} (h : US b s s') (j : Nat) : ∀ a, crB s' t j a = crB s t j a
 | 0 => rfl
 | a + 1 => by rw [crB, crB, crB_up ht h j a, ind_up ht (h a) (h j)]
theorem crA_up {b t : Int} (ht : 0 ≤ t) {s s' : St} (h : US b s s') : ∀ j, crA s' t j = crA s t j
 | 0 => rfl
 | j + 1 => by rw [crA, crA, crA_up ht h j, crB_up ht h j j]
theorem crs_up {b t : Int} (ht : 0 ≤ t) {s s' : St} (h : US b s s') : crs s' t = crs s t := crA_up ht h 5
theorem frN_up {b : Int} {n : List Nt} {a : Nat} : frN (n.map (upN b)) a = frN n a := by
 unfold frN
 rw [List.getElem?_map]
 cases n[a]? <;> rfl
theorem segF_up {b : Int} : ∀ (l : List Nt) (e : Int) (s i : Nat), segF e s i (l.map (upN b)) = segF e s i l
 | [], e, s, i => rfl
 | y :: r, e, s, i => by
  rw [List.map_cons, segF, segF]
  have ee : (upN b y).e = y.e := rfl
  rw [ee, segF_up r, segF_up r]
theorem segR_up {b : Int} {o : Nat} : ∀ (l : List Nt), segR o (l.map (upN b)) = segR o l
 | [] => rfl
 | y :: r => by rw [List.map_cons, segR, segR]; exact segF_up r _ _ _
theorem frN_pos {n : List Nt} (hN : chkN n = 0) (a : Nat) : 0 ≤ frN n a := by
 unfold frN
 cases e : n[a]? with
 | none => simp
 | some y =>
  have := (ntsOk_of hN).fit y (List.mem_of_getElem? e)
  unfold ntBad at this
  simp only [Option.map_some, Option.getD_some]
  omega
theorem vals_up {b : Int} {x : Lm} (hhi : x.hi.length = x.lo.length) (h5 : x.lo.length ≤ 5) {n : List Nt} (hf : ∀ a, 0 ≤ frN n a) (ks : List Int) : ∀ (S : List (Nat × Nat)) (s s' : St) (c m : Int), US b s s' → vals (upX b x) (n.map (upN b)) ks s' c m S = vals x n ks s c m S
 | [], s, s', c, m, h => rfl
 | (a, cnt) :: S, s, s', c, m, h => by
  have hE := evt_up hhi h5 cnt s s' m a (n.drop a) (ks.drop a) h
  rw [vals, vals, ← List.map_drop, frN_up]
  have ex : (upX b x).cross = x.cross := rfl
  rw [ex]
  cases e : evt x s m a cnt (n.drop a) (ks.drop a) with
  | inl j =>
   rw [e] at hE
   simp only at hE ⊢
   rw [hE]
  | inr d =>
   rw [e] at hE
   obtain ⟨t', h1, h2⟩ := hE
   simp only
   rw [h1]
   simp only
   rw [crs_up (hf a) h2, vals_up hhi h5 hf ks S d.1 t' _ _ h2]
theorem prs_up {b : Int} (hb : 0 ≤ b) : ∀ {lo hi : List Int}, prs lo hi = 0 → (∀ h ∈ hi, h + b ≤ 127) → prs (lo.map (· + b)) (hi.map (· + b)) = 0
 | [], hi, _, _ => by simp [prs]
 | a :: lo, [], _, _ => by simp [prs]
 | a :: lo, h :: hi, hp, hh => by
  unfold prs at hp
  split at hp
  ·simp at hp
  ·rename_i c
   have h1 := hh h (List.mem_cons_self ..)
   rw [List.map_cons, List.map_cons, prs, if_neg (by omega)]
   exact prs_up hb hp fun h hm => hh h (List.mem_cons_of_mem _ hm)
theorem lm_up {b : Int} (hb : 0 ≤ b) {x : Lm} (X : LmOk x) (hh : ∀ h ∈ x.hi, h + b ≤ 127) : LmOk (upX b x) :=
 ⟨by simpa [upX] using X.lo1, by simpa [upX] using X.lo5, by simpa [upX] using X.hi, X.leap, X.gap, X.cross, prs_up hb X.prs hh⟩
theorem chkNs_up {b : Int} (hb : 0 ≤ b) : ∀ (l : List Nt) (o : Option Nt), chkNs o l = 0 → (∀ y ∈ l, y.p + b ≤ 127) → chkNs (o.map (upN b)) (l.map (upN b)) = 0
 | [], none, _, _ => rfl
 | [], some _, _, _ => rfl
 | y :: r, none, h, hp => by
  unfold chkNs at h
  split at h
  ·simp at h
  ·rename_i c
   have h1 := hp y (List.mem_cons_self ..)
   have c' : ¬ ntBad (upN b y) := by unfold ntBad upN at *; simp only; omega
   show chkNs none (upN b y :: r.map (upN b)) = 0
   unfold chkNs
   rw [if_neg c']
   exact chkNs_up hb r (some y) h fun y hy => hp y (List.mem_cons_of_mem _ hy)
 | y :: r, some z, h, hp => by
  unfold chkNs at h
  split at h
  ·simp at h
  ·rename_i c
   split at h
   ·simp at h
   ·rename_i d
    have h1 := hp y (List.mem_cons_self ..)
    have c' : ¬ ntBad (upN b y) := by unfold ntBad upN at *; simp only; omega
    have d' : ¬ ntOff (upN b z) (upN b y) := d
    show chkNs (some (upN b z)) (upN b y :: r.map (upN b)) = 0
    unfold chkNs
    rw [if_neg c', if_neg d']
    exact chkNs_up hb r (some y) h fun y hy => hp y (List.mem_cons_of_mem _ hy)
theorem chkN_up {b : Int} (hb : 0 ≤ b) {n : List Nt} (hN : chkN n = 0) (hp : ∀ y ∈ n, y.p + b ≤ 127) : chkN (n.map (upN b)) = 0 := by
 unfold chkN at hN ⊢
 rw [List.length_map]
 split at hN
 ·simp at hN
 ·rename_i c
  rw [if_neg c]
  exact chkNs_up hb n none hN hp
theorem us0 {b : Int} : US b st0 st0 := fun k => .inl (by
 have : st0.get k = nt0 := by unfold St.get st0; split <;> rfl
 exact ⟨this, this⟩)
theorem valid_up {b : Int} (hb : 0 ≤ b) {x : Lm} (X : LmOk x) (hh : ∀ h ∈ x.hi, h + b ≤ 127) {n : List Nt} (hN : chkN n = 0) (hp : ∀ y ∈ n, y.p + b ≤ 127) (ks : List Int) : valid (upX b x) (n.map (upN b)) ks = valid x n ks := by
 unfold valid
 rw [both_of (lm_up hb X hh) (chkN_up hb hN hp), both_of X hN, List.length_map, segR_up, vals_up X.hi X.lo5 (frN_pos hN) ks _ _ _ _ _ us0]
theorem valid_len {x : Lm} {n : List Nt} {ks : List Int} (h : (valid x n ks).2.1 = 0) : ks.length = n.length := by
 unfold valid at h
 split at h
 ·rename_i c; exact absurd h c
 ·split at h
  ·exact absurd h (by show ¬ (1 : Int) = 0; decide)
  ·rename_i c; omega
theorem look_up {b : Int} {n : List Nt} (z : Int) : UN b (look n z) (look (n.map (upN b)) z) := by
 unfold look
 split
 ·exact .inl ⟨rfl, rfl⟩
 ·rw [List.getElem?_map]
  cases n[(z - 1).toNat]? with
  | none => exact .inl ⟨rfl, rfl⟩
  | some y => exact .inr rfl
theorem lookS_up {b : Int} {n : List Nt} (s : List Int) : US b (lookS n s) (lookS (n.map (upN b)) s) := fun k => by
 match k with
 | 0 | 1 | 2 | 3 | 4 => exact look_up _
 | k + 5 => exact .inl ⟨rfl, rfl⟩
section
variable {b : Int} {x : Lm} (hhi : x.hi.length = x.lo.length) (h5 : x.lo.length ≤ 5) {n : List Nt} (hf : ∀ a, 0 ≤ frN n a)
include hhi h5 hf
theorem refT_up (a cnt : Nat) (s l : List Int) : refT (upX b x) (n.map (upN b)) a cnt s l = refT x n a cnt s l := by
 have hpd : padK (n.map (upN b)) a l = padK n a l := by unfold padK; rw [List.length_map]
 have hE := evt_up hhi h5 cnt (lookS n s) _ 0 a (n.drop a) ((padK n a l).drop a) (lookS_up (b := b) s)
 unfold refT
 rw [hpd, ← List.map_drop, frN_up]
 have ex : (upX b x).cross = x.cross := rfl
 rw [ex]
 cases e : evt x (lookS n s) 0 a cnt (n.drop a) ((padK n a l).drop a) with
 | inl j =>
  rw [e] at hE
  simp only at hE ⊢
  rw [hE]
 | inr d =>
  rw [e] at hE
  obtain ⟨t', h1, h2⟩ := hE
  simp only
  rw [h1]
  simp only
  rw [crs_up (hf a) h2]
theorem rOpt_up (a cnt : Nat) (s : List Int) : rOpt (upX b x) (n.map (upN b)) a cnt s = rOpt x n a cnt s := by
 funext acc l
 have hs : ∀ f nx, sitS (upX b x) (n.map (upN b)) f nx = sitS x n f nx := fun f nx => by
  unfold sitS
  refine List.map_congr_left fun z _ => ?_
  unfold sitZ
  rw [(look_up (b := b) (n := n) z).t]
  rfl
 unfold rOpt
 rw [refT_up hhi h5 hf, List.length_map, frN_up]
 simp only [hs]
theorem rEv_up (a cnt : Nat) (st : List (List Int)) : rEv (upX b x) (n.map (upN b)) a cnt st = rEv x n a cnt st := by
 have h1 : optsR (upX b x) cnt = optsR x cnt := by unfold optsR; simp [upX]
 have h2 : rSt (upX b x) (n.map (upN b)) a cnt (optsR x cnt) = rSt x n a cnt (optsR x cnt) := by
  funext acc s
  unfold rSt rHere
  rw [rOpt_up hhi h5 hf]
 unfold rEv rMoves
 rw [h1, h2]
theorem expR_up : ∀ (S : List (Nat × Nat)) (i : Nat) (st : List (List Int)) (out : Steps), expR (upX b x) (n.map (upN b)) S i st out = expR x n S i st out
 | [], i, st, out => rfl
 | (a, cnt) :: S, i, st, out => by rw [expR, expR, rEv_up hhi h5 hf, expR_up S]
end
theorem best_up {b : Int} (hb : 0 ≤ b) {x : Lm} (X : LmOk x) (hh : ∀ h ∈ x.hi, h + b ≤ 127) {n : List Nt} (hN : chkN n = 0) (hp : ∀ y ∈ n, y.p + b ≤ 127) : bestV (upX b x) (n.map (upN b)) = bestV x n := by
 have X' := lm_up hb X hh
 have hN' := chkN_up hb hN hp
 have e : expR (upX b x) (n.map (upN b)) (segR 0 (n.map (upN b))) 0 [[0, 0, 0, 0, 0]] [] = expR x n (segR 0 n) 0 [[0, 0, 0, 0, 0]] [] := by rw [segR_up]; exact expR_up X.hi X.lo5 (frN_pos hN) _ _ _ _
 have e1 : errR (upX b x) (n.map (upN b)) = errR x n := by rw [← err_eq X' hN', ← err_eq X hN, e]
 have e2 : enR (upX b x) (n.map (upN b)) = enR x n := by unfold enR; rw [e]
 unfold bestV
 rw [both_of X' hN', both_of X hN, e1, e2]
end Go.Ab.V

namespace Go.Ab.V
open Go.Proofs
def A5 : Ann := fun r => match r with
 | 0 => { slots := [(0, 0)] }
 | 4 => { slots := [(11, 1)] }
 | 10 => { slots := [(11, 2), (12, 3)] }
 | 11 => { slots := [(11, 4), (12, 5)] }
 | 14 => { slots := [(2, 6)] }
 | 18 => { slots := [(3, 7), (4, 8)] }
 | 20 => { slots := [(10, 9)] }
 | 21 => { slots := [(10, 10)] }
 | _ => {}
theorem valV_same {ks : List Int} (r : Int × Int × Int × Int) (h4 : r.2.1 = 0 → ks.length ≤ 9223372036854775806) : ∃ a c m p e, valV ks r = .tup [.agg [a, .int .i64 c, .int .i64 m], .int .i64 p, .int .i64 e] ∧ PRet C.P 14 [.agg [a, .int .i64 c, .int .i64 m], .agg [a, .int .i64 c, .int .i64 m]] (.bool true) := by
 unfold valV
 by_cases c : r.2.1 = 0
 ·rw [if_pos c]
  exact ⟨_, _, _, _, _, rfl, same14 _ _ (same19 ks (h4 c)) (.inl ⟨ks, rfl⟩)⟩
 ·rw [if_neg c]
  exact ⟨_, _, _, _, _, rfl, same14 _ _ same19_nil (.inr rfl)⟩
theorem take_up {l : List Int} {b : Int} {k : Nat} (h : k < l.length) : ints ((l.map (· + b)).take (k + 1)) = ints ((l.map (· + b)).take k) ++ [[.int .i64 (l[k] + b)]] := by
 rw [List.take_add_one, List.getElem?_map, List.getElem?_eq_getElem h]
 simp [ints]
set_option maxHeartbeats 16000000 in
set_option maxRecDepth 100000 in
theorem law_raised (x : Lm) (n : List Nt) (by0 : Int) (ks : List Int) (h1 : x.lo.length ≤ 9223372036854775807) (h2 : x.hi.length ≤ 9223372036854775807) (h3 : n.length ≤ 9223372036854775807) (h4 : ks.length ≤ 9223372036854775807) : ACalls C.P 5 [caseA x n, .int .i64 by0, intsA ks] Heap.nil fun r _ => r = .bool true := by
 have hM := many10 n 400 (by omega) h3
 have hM2 := many10 n 24 (by omega) h3
 have hC := refCheck_spec x h1 h2
 have hCN := refCheckNotes_spec n h3
 cases hb : manyB n.length 400 with
 | true =>
  rw [hb] at hM
  refine fn_of ok mixed (A := A5) 11 Try.func5 rfl ?_
  (repeat' (first | exact rfl | ((conv => whnf); first | refine ⟨_, hM, ?_⟩ | refine ⟨_, works2, ?_⟩ | exact rfl | exact ⟨rfl, rfl⟩ | refine dk (by kernel_rfl) ?_ | refine pk (by kernel_rfl) ?_ | refine ⟨rfl, ?_⟩ | refine ⟨by (first | omega | (simp (disch := omega) only [wrapI]; first | omega | (simp; omega)) | (simp; omega)), ?_⟩ | (intro ep) | (refine ifB (fun hb => ?_) (fun hb => ?_) <;> (try simp only [qs] at hb) <;> (try simp (disch := omega) only [wrapI] at hb) <;> (try (exfalso; omega))) | fail)))
 | false =>
 rw [hb] at hM
 by_cases cL : chkL x ≠ 0
 ·generalize chkL x = q at hC cL
  refine fn_of ok mixed (A := A5) 11 Try.func5 rfl ?_
  (repeat' (first | exact rfl | ((conv => whnf); first | refine ⟨_, hM, ?_⟩ | refine ⟨_, hC, ?_⟩ | refine ⟨_, works2, ?_⟩ | exact rfl | exact ⟨rfl, rfl⟩ | refine dk (by kernel_rfl) ?_ | refine pk (by kernel_rfl) ?_ | refine ⟨rfl, ?_⟩ | refine ⟨by (first | omega | (simp (disch := omega) only [wrapI]; first | omega | (simp; omega)) | (simp; omega)), ?_⟩ | (intro ep) | (refine ifB (fun hb => ?_) (fun hb => ?_) <;> (try simp only [qs] at hb) <;> (try simp (disch := omega) only [wrapI] at hb) <;> (try (exfalso; omega))) | fail)))
 have cL : chkL x = 0 := by omega
 rw [cL] at hC
 have X := lmOk_of cL
 by_cases cN : chkN n ≠ 0
 ·generalize chkN n = q at hCN cN
  refine fn_of ok mixed (A := A5) 11 Try.func5 rfl ?_
  (repeat' (first | exact rfl | ((conv => whnf); first | refine ⟨_, hM, ?_⟩ | refine ⟨_, hC, ?_⟩ | refine ⟨_, hCN, ?_⟩ | refine ⟨_, works2, ?_⟩ | exact rfl | exact ⟨rfl, rfl⟩ | refine dk (by kernel_rfl) ?_ | refine pk (by kernel_rfl) ?_ | refine ⟨rfl, ?_⟩ | refine ⟨by (first | omega | (simp (disch := omega) only [wrapI]; first | omega | (simp; omega)) | (simp; omega)), ?_⟩ | (intro ep) | (refine ifB (fun hb => ?_) (fun hb => ?_) <;> (try simp only [qs] at hb) <;> (try simp (disch := omega) only [wrapI] at hb) <;> (try (exfalso; omega))) | fail)))
 have hN : chkN n = 0 := by omega
 rw [hN] at hCN
 obtain ⟨b, hb0, hb60, hR⟩ := rest22n by0 60 (by omega) (by omega)
 have X5 := X.lo5
 have Xh := X.hi
 have hnl := (ntsOk_of hN).len
 have hV := valid26 x n ks h1 h2 h3 h4
 have hB := best15 x n h1 h2 h3
 obtain ⟨x', hx'⟩ : ∃ x', x' = upX b x := ⟨_, rfl⟩
 obtain ⟨n', hn'⟩ : ∃ n', n' = n.map (upN b) := ⟨_, rfl⟩
 have hlo' : x'.lo = x.lo.map (· + b) := by rw [hx']; rfl
 have hhi' : x'.hi = x.hi.map (· + b) := by rw [hx']; rfl
 have hlo'l : x'.lo.length = x.lo.length := by rw [hlo']; simp
 have hhi'l : x'.hi.length = x.lo.length := by rw [hhi']; simp [Xh]
 have hn'l : n'.length = n.length := by rw [hn']; simp
 have hpL := prs_get X.prs
 refine fn_of ok mixed (A := A5) 11 Try.func5 rfl ?_
 (repeat' (first | exact rfl | ((conv => whnf); first | refine ⟨_, hM, ?_⟩ | refine ⟨_, hC, ?_⟩ | refine ⟨_, hCN, ?_⟩ | refine ⟨_, hR, ?_⟩ | exact rfl | exact ⟨rfl, rfl⟩ | refine dk (by kernel_rfl) ?_ | refine pk (by kernel_rfl) ?_ | refine ⟨rfl, ?_⟩ | refine ⟨by (first | omega | (simp (disch := omega) only [wrapI]; first | omega | (simp; omega)) | (simp; omega)), ?_⟩ | (intro ep) | (refine ifB (fun hb => ?_) (fun hb => ?_) <;> (try simp only [qs] at hb) <;> (try simp (disch := omega) only [wrapI] at hb) <;> (try (exfalso; omega))) | fail)))
 all_goals (conv => whnf)
 rename_i q0
 refine wk_tr ?_
 refine tr_mask [1, 2, 3, 7, 8] [0, 1] (fr' := frOf 0 182 [(1, .int .i64 b), (2, intsA ks), (3, .optr (.s 0) q0 6 0 0), (7, .optr (.s 1) ep 6 0 0), (8, .int .i64 0)])
  (h' := ⟨[.vec q0 [caseR x n], .vec ep [[.nils, .nils, .int .i64 x.leap, .int .i64 x.gap, .int .i64 x.cross, .nils]], .hole, .hole, .hole, .hole, .hole, .hole, .hole, .hole, .hole], []⟩) (by exact rfl) (by exact rfl) ?_
 refine tr_lift (.s 1) (.s 3) ep 1 0 0 (by intro e; injection e; omega) (by exact rfl) rfl rfl fun e3 => ?_
 refine tr_eq rfl (h' := ⟨[.vec q0 [caseR x n], .vec ep [[.oslc (.s 3) e3 1 0 0 false, .nils, .int .i64 x.leap, .int .i64 x.gap, .int .i64 x.cross, .nils]], .hole, .vec e3 [], .hole, .hole, .hole, .hole, .hole, .hole, .hole], []⟩) rfl ?_
 refine tr_lift (.s 1) (.s 5) ep 1 0 1 (by intro e; injection e; omega) (by exact rfl) rfl rfl fun e5 => ?_
 refine tr_eq rfl (h' := ⟨[.vec q0 [caseR x n], .vec ep [[.oslc (.s 3) e3 1 0 0 false, .oslc (.s 5) e5 1 0 0 false, .int .i64 x.leap, .int .i64 x.gap, .int .i64 x.cross, .nils]], .hole, .vec e3 [], .hole, .vec e5 [], .hole, .hole, .hole, .hole, .hole], []⟩) rfl ?_
 refine tr_lift (.s 1) (.s 8) ep 5 0 5 (by intro e; injection e; omega) (by exact rfl) rfl rfl fun e8 => ?_
 refine tr_eq rfl (h' := ⟨[.vec q0 [caseR x n], .vec ep [[.oslc (.s 3) e3 1 0 0 false, .oslc (.s 5) e5 1 0 0 false, .int .i64 x.leap, .int .i64 x.gap, .int .i64 x.cross, .oslc (.s 8) e8 5 0 0 false]], .hole, .vec e3 [], .hole, .vec e5 [], .hole, .hole, .vec e8 [], .hole, .hole], []⟩) rfl (tr_done ?_)
 obtain ⟨q1, hq1⟩ : ∃ q1, q1 = ep := ⟨_, rfl⟩
 rw [← hq1]
 refine loopY ok mixed (A := A5) [1, 2, 3, 7, 8] [0, 1, 3, 5, 8] (S := { z : Nat × Nat × Nat // z.1 ≤ x.lo.length ∧ ∀ k (h : k < x.hi.length), k < z.1 → x.hi[k] + b ≤ 127 })
  (fr := fun z => frOf 0 182 [(1, .int .i64 b), (2, intsA ks), (3, .optr (.s 0) q0 6 0 0), (7, .optr (.s 1) q1 6 0 0), (8, .int .i64 (z.1.1 : Int))])
  (h := fun z => ⟨[.vec q0 [caseR x n], .vec q1 [[.oslc (.s 3) z.1.2.1 1 0 z.1.1 false, .oslc (.s 5) z.1.2.2 1 0 z.1.1 false, .int .i64 x.leap, .int .i64 x.gap, .int .i64 x.cross, .oslc (.s 8) e8 5 0 0 false]], .hole, .vec z.1.2.1 (ints (x'.lo.take z.1.1)), .hole, .vec z.1.2.2 (ints (x'.hi.take z.1.1)), .hole, .hole, .vec e8 [], .hole, .hole], []⟩) (μ := fun z => x.lo.length - z.1.1)
  ⟨(0, e3, e5), Nat.zero_le _, fun k h hk => absurd hk (Nat.not_lt_zero _)⟩ ?_ ?_
  [1, 2, 3, 7] [0, 1, 3, 5, 8] (S' := { z : Nat × Nat // ∀ h ∈ x.hi, h + b ≤ 127 }) (X := fun _ => 0) (frX := fun _ => frOf 0 182 [(1, .int .i64 b), (2, intsA ks), (3, .optr (.s 0) q0 6 0 0), (7, .optr (.s 1) q1 6 0 0)])
  (hX := fun z => ⟨[.vec q0 [caseR x n], .vec q1 [[.oslc (.s 3) z.1.1 1 0 x.lo.length false, .oslc (.s 5) z.1.2 1 0 x.lo.length false, .int .i64 x.leap, .int .i64 x.gap, .int .i64 x.cross, .oslc (.s 8) e8 5 0 0 false]], .hole, .vec z.1.1 (ints x'.lo), .hole, .vec z.1.2 (ints x'.hi), .hole, .hole, .vec e8 [], .hole, .hole], []⟩)
  [6] [] (S2 := Unit) (frR := fun _ => frOf 0 182 [(6, .bool true)]) (hR := fun _ => ⟨[.hole, .hole, .hole, .hole, .hole, .hole, .hole, .hole, .hole, .hole, .hole], []⟩) ?_ ?_ ?_
 ·exact rfl
 ·exact rfl
 ·rintro ⟨⟨k, e3, e5⟩, hk, hkb⟩
  simp only at hk hkb
  show aexR _ _ _ (frOf 0 182 [(1, .int .i64 b), (2, intsA ks), (3, .optr (.s 0) q0 6 0 0), (7, .optr (.s 1) q1 6 0 0), (8, .int .i64 (k : Int))])
   ⟨[.vec q0 [caseR x n], .vec q1 [[.oslc (.s 3) e3 1 0 k false, .oslc (.s 5) e5 1 0 k false, .int .i64 x.leap, .int .i64 x.gap, .int .i64 x.cross, .oslc (.s 8) e8 5 0 0 false]], .hole, .vec e3 (ints (x'.lo.take k)), .hole, .vec e5 (ints (x'.hi.take k)), .hole, .hole, .vec e8 [], .hole, .hole], []⟩ _
  by_cases g : k < x.lo.length
  ·have gh : k < x.hi.length := by omega
   have r1 := intsR g
   have r2 := intsR gh
   have hp := hpL k g gh
   have u1 := take_up (b := b) g
   have u2 := take_up (b := b) gh
   rw [← hlo'] at u1
   rw [← hhi'] at u2
   have t1 : List.take k (List.drop 0 (ints (x'.lo.take k))) = ints (x'.lo.take k) := by rw [List.drop_zero, List.take_of_length_le (by simp [ints]; omega)]
   have t2 : List.take k (List.drop 0 (ints (x'.hi.take k))) = ints (x'.hi.take k) := by rw [List.drop_zero, List.take_of_length_le (by simp [ints]; omega)]
   have hnext : x.hi[k] + b ≤ 127 → ∀ j (h : j < x.hi.length), j < k + 1 → x.hi[j] + b ≤ 127 := fun h j hj hjk => by
    by_cases c : j = k
    ·subst c; exact h
    ·exact hkb j hj (by omega)
   generalize x.lo[k] = al at r1 hp u1
   generalize x.hi[k] = ah at r2 hp u2 hnext
   have w1 : IntKind.i64.wrap (ah + b) = ah + b := wrapI (by omega) (by omega)
   have w2 : IntKind.i64.wrap (al + b) = al + b := wrapI (by omega) (by omega)
   by_cases c : 127 < ah + b
   ·(repeat' (first | exact rfl | ((conv => whnf); first | refine optS r1 ?_ | refine optS r2 ?_ | refine ⟨_, works2, ?_⟩ | exact rfl | exact ⟨rfl, rfl⟩ | refine dk (by kernel_rfl) ?_ | refine pk (by kernel_rfl) ?_ | refine ⟨rfl, ?_⟩ | refine ⟨by (first | omega | (simp (disch := omega) only [wrapI]; first | omega | (simp; omega)) | (simp; omega)), ?_⟩ | (intro ep) | (refine ifB (fun hb => ?_) (fun hb => ?_) <;> (try simp only [qs] at hb) <;> (try simp (disch := omega) only [wrapI] at hb) <;> (try (exfalso; omega))) | fail)))
    all_goals (conv => whnf)
    exact back_of () ⟨rfl, rfl⟩
   ·(repeat' (first | exact rfl | ((conv => whnf); first | refine optS r1 ?_ | refine optS r2 ?_ | exact rfl | exact ⟨rfl, rfl⟩ | refine dk (by kernel_rfl) ?_ | refine pk (by kernel_rfl) ?_ | refine ⟨rfl, ?_⟩ | refine ⟨by (first | omega | (simp (disch := omega) only [wrapI]; first | omega | (simp; omega)) | (simp; omega)), ?_⟩ | (intro ep) | (refine ifB (fun hb => ?_) (fun hb => ?_) <;> (try simp only [qs] at hb) <;> (try simp (disch := omega) only [wrapI] at hb) <;> (try (exfalso; omega))) | fail)))
    all_goals (conv => whnf)
    rename_i q3 _
    refine back_of (S := { z : Nat × Nat × Nat // z.1 ≤ x.lo.length ∧ ∀ k (h : k < x.hi.length), k < z.1 → x.hi[k] + b ≤ 127 }) ⟨(k + 1, q3, ep), g, hnext (by omega)⟩ ⟨by (first | exact rfl | (simp (disch := omega) only [wrapI]; exact rfl)), ?_, by simp only; omega⟩
    have u1' : ints (x'.lo.take (k + 1)) = List.take k (List.drop 0 (ints (x'.lo.take k))) ++ [[.int .i64 (IntKind.i64.wrap (al + b))]] := by rw [t1, w2, u1]
    have u2' : ints (x'.hi.take (k + 1)) = List.take k (List.drop 0 (ints (x'.hi.take k))) ++ [[.int .i64 (IntKind.i64.wrap (ah + b))]] := by rw [t2, w1, u2]
    simp only [u1', u2']
    exact rfl
  ·have g : k = x.lo.length := by omega
   subst g
   (repeat' (first | exact rfl | ((conv => whnf); first | exact rfl | exact ⟨rfl, rfl⟩ | refine dk (by kernel_rfl) ?_ | refine pk (by kernel_rfl) ?_ | refine ⟨rfl, ?_⟩ | refine ⟨by (first | omega | (simp (disch := omega) only [wrapI]; first | omega | (simp; omega)) | (simp; omega)), ?_⟩ | (intro ep) | (refine ifB (fun hb => ?_) (fun hb => ?_) <;> (try simp only [qs] at hb) <;> (try simp (disch := omega) only [wrapI] at hb) <;> (try (exfalso; omega))) | fail)))
   all_goals (conv => whnf)
   refine back_of (S := { z : Nat × Nat // ∀ h ∈ x.hi, h + b ≤ 127 }) ⟨(e3, e5), fun h hh => ?_⟩ ⟨rfl, rfl, ?_⟩
   ·obtain ⟨j, hj, rfl⟩ := List.mem_iff_getElem.1 hh
    exact hkb j hj (by omega)
   ·rw [List.take_of_length_le (by omega), List.take_of_length_le (by omega)]
    exact rfl
 ·rintro ⟨⟩
  exact rfl
 ·rintro ⟨⟨e3, e5⟩, hhb⟩
  have X' : LmOk x' := by rw [hx']; exact lm_up hb0 X hhb
  (repeat' (first | exact rfl | ((conv => whnf); first | exact rfl | exact ⟨rfl, rfl⟩ | refine dk (by kernel_rfl) ?_ | refine pk (by kernel_rfl) ?_ | refine ⟨rfl, ?_⟩ | refine ⟨by (first | omega | (simp (disch := omega) only [wrapI]; first | omega | (simp; omega)) | (simp; omega)), ?_⟩ | (intro ep) | (refine ifB (fun hb => ?_) (fun hb => ?_) <;> (try simp only [qs] at hb) <;> (try simp (disch := omega) only [wrapI] at hb) <;> (try (exfalso; omega))) | fail)))
  all_goals (conv => whnf)
  refine loopZ ok mixed (A := A5) [1, 2, 3, 7, 95, 96, 97] [0, 1, 3, 5, 8] (S := { z : Nat × Nat // z.1 ≤ n.length ∧ ∀ k (h : k < n.length), k < z.1 → n[k].p + b ≤ 127 })
   (fr := fun z => frOf 0 182 [(1, .int .i64 b), (2, intsA ks), (3, .optr (.s 0) q0 6 0 0), (7, .optr (.s 1) q1 6 0 0), (95, ntsA n), (96, .int .i64 (n.length : Int)), (97, .int .i64 (z.1.1 : Int))])
   (h := fun z => ⟨[.vec q0 [caseR x n], .vec q1 [[.oslc (.s 3) e3 1 0 x.lo.length false, .oslc (.s 5) e5 1 0 x.lo.length false, .int .i64 x.leap, .int .i64 x.gap, .int .i64 x.cross, .oslc (.s 8) z.1.2 5 0 z.1.1 false]], .hole, .vec e3 (ints x'.lo), .hole, .vec e5 (ints x'.hi), .hole, .hole, .vec z.1.2 ((n'.take z.1.1).map ntR), .hole, .hole], []⟩) (μ := fun z => n.length - z.1.1)
   ⟨(0, e8), Nat.zero_le _, fun k h hk => absurd hk (Nat.not_lt_zero _)⟩ ?_ ?_
   [2, 3, 7] [0, 1, 3, 5, 8] (S' := { z : Nat // ∀ y ∈ n, y.p + b ≤ 127 }) (X := fun _ => 2) (frX := fun _ => frOf 0 182 [(2, intsA ks), (3, .optr (.s 0) q0 6 0 0), (7, .optr (.s 1) q1 6 0 0)])
   (hX := fun z => ⟨[.vec q0 [caseR x n], .vec q1 [[.oslc (.s 3) e3 1 0 x.lo.length false, .oslc (.s 5) e5 1 0 x.lo.length false, .int .i64 x.leap, .int .i64 x.gap, .int .i64 x.cross, .oslc (.s 8) z.1 5 0 n.length false]], .hole, .vec e3 (ints x'.lo), .hole, .vec e5 (ints x'.hi), .hole, .hole, .vec z.1 (n'.map ntR), .hole, .hole], []⟩)
   [6] [] (S2 := Unit) (frR := fun _ => frOf 0 182 [(6, .bool true)]) (hR := fun _ => ⟨[.hole, .hole, .hole, .hole, .hole, .hole, .hole, .hole, .hole, .hole, .hole], []⟩) ?_ ?_ ?_
  ·exact rfl
  ·exact rfl
  ·rintro ⟨⟨k, e8⟩, hk, hkb⟩
   simp only at hk hkb
   show aexR _ _ _ (frOf 0 182 [(1, .int .i64 b), (2, intsA ks), (3, .optr (.s 0) q0 6 0 0), (7, .optr (.s 1) q1 6 0 0), (95, ntsA n), (96, .int .i64 (n.length : Int)), (97, .int .i64 (k : Int))])
    ⟨[.vec q0 [caseR x n], .vec q1 [[.oslc (.s 3) e3 1 0 x.lo.length false, .oslc (.s 5) e5 1 0 x.lo.length false, .int .i64 x.leap, .int .i64 x.gap, .int .i64 x.cross, .oslc (.s 8) e8 5 0 k false]], .hole, .vec e3 (ints x'.lo), .hole, .vec e5 (ints x'.hi), .hole, .hole, .vec e8 ((n'.take k).map ntR), .hole, .hole], []⟩ _
   unfold ntsA
   by_cases g : k < n.length
   ·have r1 : (n.map ntR)[0 + ((k : Nat) : Int).toNat]? = some (ntR n[k]) := mapR (f := ntR) g
    have hfit := (ntsOk_of hN).fit _ (List.getElem_mem g)
    have u1 : (n'.take (k + 1)).map ntR = (n'.take k).map ntR ++ [ntR (upN b n[k])] := by
     rw [hn', List.take_add_one, List.getElem?_map, List.getElem?_eq_getElem g]
     simp
    have hnext : n[k].p + b ≤ 127 → ∀ j (h : j < n.length), j < k + 1 → n[j].p + b ≤ 127 := fun h j hj hjk => by
     by_cases c : j = k
     ·subst c; exact h
     ·exact hkb j hj (by omega)
    have t1 : List.take k (List.drop 0 ((n'.take k).map ntR)) = (n'.take k).map ntR := by rw [List.drop_zero, List.take_of_length_le (by simp; omega)]
    generalize n[k] = y at r1 hfit u1 hnext
    obtain ⟨ye, yc, yp, yf, yt⟩ := y
    unfold ntBad at hfit
    simp only at hfit hnext
    have w1 : IntKind.i64.wrap (yp + b) = yp + b := wrapI (by omega) (by omega)
    unfold ntR at r1
    simp only at r1
    by_cases c : 127 < yp + b
    ·(repeat' (first | exact rfl | ((conv => whnf); first | refine optS r1 ?_ | refine ⟨_, works2, ?_⟩ | exact rfl | exact ⟨rfl, rfl⟩ | refine dk (by kernel_rfl) ?_ | refine pk (by kernel_rfl) ?_ | refine ⟨rfl, ?_⟩ | refine ⟨by (first | omega | (simp (disch := omega) only [wrapI]; first | omega | (simp; omega)) | (simp; omega)), ?_⟩ | (intro ep) | (refine ifB (fun hb => ?_) (fun hb => ?_) <;> (try simp only [qs] at hb) <;> (try simp (disch := omega) only [wrapI] at hb) <;> (try (exfalso; omega))) | fail)))
     all_goals (conv => whnf)
     exact back_of () ⟨rfl, rfl⟩
    ·(repeat' (first | exact rfl | ((conv => whnf); first | refine optS r1 ?_ | exact rfl | exact ⟨rfl, rfl⟩ | refine dk (by kernel_rfl) ?_ | refine pk (by kernel_rfl) ?_ | refine ⟨rfl, ?_⟩ | refine ⟨by (first | omega | (simp (disch := omega) only [wrapI]; first | omega | (simp; omega)) | (simp; omega)), ?_⟩ | (intro ep) | (refine ifB (fun hb => ?_) (fun hb => ?_) <;> (try simp only [qs] at hb) <;> (try simp (disch := omega) only [wrapI] at hb) <;> (try (exfalso; omega))) | fail)))
     all_goals (conv => whnf)
     have u1' : (n'.take (k + 1)).map ntR = List.take k (List.drop 0 ((n'.take k).map ntR)) ++ [[.int .i64 ye, .int .i64 yc, .int .i64 (IntKind.i64.wrap (yp + b)), .int .i64 yf, .int .i64 yt]] := by rw [t1, w1, u1]; rfl
     refine back_of (S := { z : Nat × Nat // z.1 ≤ n.length ∧ ∀ k (h : k < n.length), k < z.1 → n[k].p + b ≤ 127 }) ⟨(k + 1, ep), g, hnext (by omega)⟩ ⟨by (first | exact rfl | (simp (disch := omega) only [wrapI]; exact rfl)), ?_, by simp only; omega⟩
     simp only [u1']
     exact rfl
   ·have g : k = n.length := by omega
    subst g
    (repeat' (first | exact rfl | ((conv => whnf); first | exact rfl | exact ⟨rfl, rfl⟩ | refine dk (by kernel_rfl) ?_ | refine pk (by kernel_rfl) ?_ | refine ⟨rfl, ?_⟩ | refine ⟨by (first | omega | (simp (disch := omega) only [wrapI]; first | omega | (simp; omega)) | (simp; omega)), ?_⟩ | (intro ep) | (refine ifB (fun hb => ?_) (fun hb => ?_) <;> (try simp only [qs] at hb) <;> (try simp (disch := omega) only [wrapI] at hb) <;> (try (exfalso; omega))) | fail)))
    all_goals (conv => whnf)
    refine back_of (S := { z : Nat // ∀ y ∈ n, y.p + b ≤ 127 }) ⟨e8, fun y hy => ?_⟩ ⟨rfl, rfl, ?_⟩
    ·obtain ⟨j, hj, rfl⟩ := List.mem_iff_getElem.1 hy
     exact hkb j hj hj
    ·rw [List.take_of_length_le (by omega)]
     exact rfl
  ·rintro ⟨⟩
   exact tr_done rfl
  ·rintro ⟨e8, hpb⟩
   have hV2 := valid26 x' n' ks (by omega) (by omega) (by omega) h4
   have hB2 := best15 x' n' (by omega) (by omega) (by omega)
   rw [hx', hn', valid_up hb0 X hhb hN hpb, ← hx', ← hn'] at hV2
   rw [hx', hn', best_up hb0 X hhb hN hpb, ← hx', ← hn'] at hB2
   obtain ⟨va, vc, vm, vp, ve, hve, hvs⟩ := valV_same (ks := ks) (valid x n ks) (fun h => by have := valid_len h; omega)
   rw [hve] at hV hV2
   obtain ⟨B, e', hBB, hBV⟩ : ∃ (B : List AV) (e' : Int), (∃ a c m, B = [a, .int .i64 c, .int .i64 m] ∧ PRet C.P 14 [.agg B, .agg B] (.bool true)) ∧ bestV x n = .tup [.agg B, .int .i64 e'] := by
    rcases bestV_ok x n with ⟨e, _, he⟩ | ⟨l, c, m, hl, he⟩
    ·exact ⟨_, e, ⟨_, _, _, rfl, same14 0 0 same19_nil (.inr rfl)⟩, he⟩
    ·exact ⟨_, 0, ⟨_, _, _, rfl, same14 c m (same19 l (by omega)) (.inl ⟨l, rfl⟩)⟩, he⟩
   rw [hBV] at hB hB2
   obtain ⟨ba, bc, bm, rfl, hB3⟩ := hBB
   refine tr_fz 3 e3 (rows := ints x'.lo) (fr' := frOf 0 182 [(2, intsA ks), (3, .optr (.s 0) q0 6 0 0), (7, .optr (.s 1) q1 6 0 0)])
    (st' := [.vec q0 [caseR x n], .vec q1 [[intsA x'.lo, .oslc (.s 5) e5 1 0 x.lo.length false, .int .i64 x.leap, .int .i64 x.gap, .int .i64 x.cross, .oslc (.s 8) e8 5 0 n.length false]], .hole, .hole, .hole, .vec e5 (ints x'.hi), .hole, .hole, .vec e8 (n'.map ntR), .hole, .hole])
    (by exact rfl) (pure_ints _) (by (repeat' (first | exact trivial | exact rfl | ((conv => whnf); first | exact trivial | exact rfl | refine ⟨?_, ?_⟩ | fail)))) ⟨by (repeat' (first | exact trivial | exact rfl | ((conv => whnf); first | exact trivial | exact rfl | refine ⟨?_, ?_⟩ | fail))), by (repeat' (first | exact trivial | exact rfl | ((conv => whnf); first | exact trivial | exact rfl | refine ⟨?_, ?_⟩ | fail))), trivial, trivial, trivial, eqsP_rows _ (fun _ => rfl), trivial, trivial, eqsP_rows _ (fun _ => rfl), trivial, trivial, trivial⟩ (fun o h => absurd h (by simp)) (by exact rfl) ?_ ?_
   ·unfold intsA
    rw [hlo'l]
    show ([_, _, .hole, .hole, .hole, .vec e5 ((ints x'.hi).map fun r : List AV => r.map (fcS 3 (ints x'.lo))), .hole, .hole, .vec e8 ((n'.map ntR).map fun r : List AV => r.map (fcS 3 (ints x'.lo))), .hole, .hole] : List AObj) = _
    rw [show ((ints x'.hi).map fun r : List AV => r.map (fcS 3 (ints x'.lo))) = ints x'.hi from fcS_rows _ (fun _ => rfl), show ((n'.map ntR).map fun r : List AV => r.map (fcS 3 (ints x'.lo))) = n'.map ntR from fcS_rows _ (fun _ => rfl)]
    exact rfl
   refine tr_fz 5 e5 (rows := ints x'.hi) (fr' := frOf 0 182 [(2, intsA ks), (3, .optr (.s 0) q0 6 0 0), (7, .optr (.s 1) q1 6 0 0)])
    (st' := [.vec q0 [caseR x n], .vec q1 [[intsA x'.lo, intsA x'.hi, .int .i64 x.leap, .int .i64 x.gap, .int .i64 x.cross, .oslc (.s 8) e8 5 0 n.length false]], .hole, .hole, .hole, .hole, .hole, .hole, .vec e8 (n'.map ntR), .hole, .hole])
    (by exact rfl) (pure_ints _) (by (repeat' (first | exact trivial | exact rfl | ((conv => whnf); first | exact trivial | exact rfl | refine ⟨?_, ?_⟩ | fail)))) ⟨by (repeat' (first | exact trivial | exact rfl | ((conv => whnf); first | exact trivial | exact rfl | refine ⟨?_, ?_⟩ | fail))), by (repeat' (first | exact trivial | exact rfl | ((conv => whnf); first | exact trivial | exact rfl | refine ⟨?_, ?_⟩ | fail))), trivial, trivial, trivial, trivial, trivial, trivial, eqsP_rows _ (fun _ => rfl), trivial, trivial, trivial⟩ (fun o h => absurd h (by simp)) (by exact rfl) ?_ ?_
   ·rw [show intsA x'.hi = .lslc 1 (ints x'.hi) 0 x.lo.length false by unfold intsA; rw [hhi'l]]
    show ([_, _, .hole, .hole, .hole, .hole, .hole, .hole, .vec e8 ((n'.map ntR).map fun r : List AV => r.map (fcS 5 (ints x'.hi))), .hole, .hole] : List AObj) = _
    rw [show ((n'.map ntR).map fun r : List AV => r.map (fcS 5 (ints x'.hi))) = n'.map ntR from fcS_rows _ (fun _ => rfl)]
    exact rfl
   refine tr_fz 8 e8 (rows := n'.map ntR) (fr' := frOf 0 182 [(2, intsA ks), (3, .optr (.s 0) q0 6 0 0), (7, .optr (.s 1) q1 6 0 0)])
    (st' := [.vec q0 [caseR x n], .vec q1 [[intsA x'.lo, intsA x'.hi, .int .i64 x'.leap, .int .i64 x'.gap, .int .i64 x'.cross, ntsA n']], .hole, .hole, .hole, .hole, .hole, .hole, .hole, .hole, .hole])
    (by exact rfl) (pure_map _ fun _ => rfl) (by (repeat' (first | exact trivial | exact rfl | ((conv => whnf); first | exact trivial | exact rfl | refine ⟨?_, ?_⟩ | fail)))) (by (repeat' (first | exact trivial | exact rfl | ((conv => whnf); first | exact trivial | exact rfl | refine ⟨?_, ?_⟩ | fail)))) (fun o h => absurd h (by simp)) (by exact rfl) ?_ (tr_done ?_)
   ·rw [show ntsA n' = .lslc 5 (n'.map ntR) 0 n.length false by unfold ntsA; rw [hn'l], hx']
    exact rfl
   cases hb2 : manyB n.length 24 with
   | true =>
    rw [hb2] at hM2
    (repeat' (first | exact rfl | ((conv => whnf); first | refine ⟨_, hV, ?_⟩ | refine ⟨_, hV2, ?_⟩ | refine ⟨_, hvs, ?_⟩ | refine ⟨_, hM2, ?_⟩ | refine ⟨_, works2, ?_⟩ | exact rfl | exact ⟨rfl, rfl⟩ | refine dk (by kernel_rfl) ?_ | refine pk (by kernel_rfl) ?_ | refine ⟨rfl, ?_⟩ | refine ⟨by (first | omega | (simp (disch := omega) only [wrapI]; first | omega | (simp; omega)) | (simp; omega)), ?_⟩ | (intro ep) | (refine ifB (fun hb => ?_) (fun hb => ?_) <;> (try simp only [qs] at hb) <;> (try simp (disch := omega) only [wrapI] at hb) <;> (try (exfalso; omega))) | fail)))
   | false =>
    rw [hb2] at hM2
    (repeat' (first | exact rfl | ((conv => whnf); first | refine ⟨_, hV, ?_⟩ | refine ⟨_, hV2, ?_⟩ | refine ⟨_, hvs, ?_⟩ | refine ⟨_, hM2, ?_⟩ | refine ⟨_, hB, ?_⟩ | refine ⟨_, hB2, ?_⟩ | refine ⟨_, hB3, ?_⟩ | refine ⟨_, works2, ?_⟩ | exact rfl | exact ⟨rfl, rfl⟩ | refine dk (by kernel_rfl) ?_ | refine pk (by kernel_rfl) ?_ | refine ⟨rfl, ?_⟩ | refine ⟨by (first | omega | (simp (disch := omega) only [wrapI]; first | omega | (simp; omega)) | (simp; omega)), ?_⟩ | (intro ep) | (refine ifB (fun hb => ?_) (fun hb => ?_) <;> (try simp only [qs] at hb) <;> (try simp (disch := omega) only [wrapI] at hb) <;> (try (exfalso; omega))) | fail)))
end Go.Ab.V
