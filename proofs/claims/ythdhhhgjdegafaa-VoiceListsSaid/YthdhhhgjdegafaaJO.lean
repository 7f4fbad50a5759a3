/-
  What is proved here serves the law's text: each part says its own claim and its conditions. No condition is left open.
-/
import Derived.Test.YthdhhhgjdegafaaJL
import Derived.Test.YthdhhhgjdegafaaJN
import Derived.Test.YthdhhhgjdegafaaJK
set_option linter.unusedSimpArgs false
set_option linter.unusedVariables false

namespace Go.Ab.V
theorem gr_lay {x : Lm} {n : List Nt} : ∀ {i j : Nat} {Ls : List Lay} {En : Steps}, GR x n i Ls En → ∀ (h : j < En.length) (h1 : j < Ls.length) (h2 : j + 1 < Ls.length), Ls[j + 1] = layG x n (i + j) Ls[j].1 Ls[j].2 ([], [])
 | i, j, [_], [], h, hj, _, _ => by simp at hj
 | i, 0, y :: y' :: Ls, mv :: M, h, hj, _, _ => by
  unfold GR at h
  exact h.1.2.2.1
 | i, j + 1, y :: y' :: Ls, mv :: M, h, hj, h1, h2 => by
  unfold GR at h
  have := gr_lay (j := j) h.2 (by simpa using hj) (by simpa using h1) (by simpa using h2)
  rw [show i + 1 + j = i + (j + 1) by omega] at this
  exact this
 | i, j, [], _, h, _, _, _ => by unfold GR at h; exact h.elim
 | i, j, [_], _ :: _, h, _, _, _ => by unfold GR at h; exact h.elim
 | i, j, _ :: _ :: _, [], h, _, _, _ => by unfold GR at h; exact h.elim
theorem mvE_last {x : Lm} {n : List Nt} {i : Nat} {v : St} (h : (segR 0 n)[i + 1]? = none) : ∀ m ∈ mvE x n i v, m.to = st0 := by
 intro m hm
 unfold mvE at hm
 split at hm
 ·simp at hm
 ·unfold mvR at hm
  obtain ⟨a, _, ha⟩ := List.mem_flatMap.1 hm
  unfold fin at ha
  split at ha
  ·simp at ha
  ·rw [List.mem_singleton.1 ha]
   simp only
   unfold frg
   rw [h]
theorem gr_end {x : Lm} {n : List Nt} {Ls : List Lay} (hG : Graph x n Ls) {i : Nat} (hi : i + 1 = (enR x n).length) (h2 : i + 1 < Ls.length) : Ls[i + 1].1 = [st0] := by
 have hll := gr_len hG.g
 have S := gr_at hG.g (j := i) (by omega) (by omega) h2
 have L := gr_lay hG.g (j := i) (by omega) (by omega) h2
 have hne := S.ne
 rw [Nat.zero_add] at L
 rw [L, layG_fst] at hne ⊢
 refine ddA_same (fun t ht => ?_) fun e => hne (by simp only [e]; rfl)
 obtain ⟨v, _, ht⟩ := List.mem_flatMap.1 ht
 obtain ⟨m, hm, rfl⟩ := List.mem_map.1 ht
 exact mvE_last (List.getElem?_eq_none (by rw [← hG.l]; omega)) m hm
theorem toOk_of : ∀ {G : Steps}, (∀ i (h : i + 1 = G.length), ∀ ms ∈ G[i], ∀ m ∈ ms, m.to = 0) → ToOk G
 | [], _ => trivial
 | g :: G, h => by
  refine ⟨fun ms hms m hm e => ?_, toOk_of fun i hi ms hms m hm => ?_⟩
  ·subst e
   exact h 0 rfl ms hms m hm
  ·exact h (i + 1) (by simp only [List.length_cons]; omega) ms hms m hm
theorem graph_to {x : Lm} {n : List Nt} {Ls : List Lay} (hG : Graph x n Ls) {i : Nat} (hi : i < (enR x n).length) {ms : List RMv} (hms : ms ∈ (enR x n)[i]) : ∃ (k : Nat) (v : St) (h1 : i + 1 < Ls.length), Ls[i].1[k]? = some v ∧ (enR x n)[i][k]? = some ms ∧ (∀ m ∈ ms, m.to < Ls[i + 1].1.length) ∧ mvE x n i v = ms.map (toMv Ls[i + 1].1) := by
 have hll := gr_len hG.g
 have S := gr_at hG.g (j := i) hi (by omega) (by omega)
 obtain ⟨k, hk⟩ := List.mem_iff_getElem?.1 hms
 have hkl := (List.getElem?_eq_some_iff.1 hk).1
 rw [S.len] at hkl
 have := S.mv k _ _ (List.getElem?_eq_getElem hkl) hk
 rw [Nat.zero_add] at this
 exact ⟨k, _, by omega, List.getElem?_eq_getElem hkl, hk, this.1, this.2⟩
theorem graph_sok {x : Lm} (X : LmOk x) {n : List Nt} (hN : chkN n = 0) {Ls : List Lay} (hG : Graph x n Ls) : SOk (enR x n) := by
 have hll := gr_len hG.g
 have hsl := segR_lenle n
 have hlen := (ntsOk_of hN).len
 have hat : ∀ i (hi : i < (enR x n).length), (enR x n).getD i [] = (enR x n)[i] := fun i hi => by rw [List.getD_eq_getElem?_getD, List.getElem?_eq_getElem hi]; rfl
 have hsz : ∀ i (hi : i < (enR x n).length), (enR x n)[i].length ≤ 100000000 := fun i hi => by
  have S := gr_at hG.g (j := i) hi (by omega) (by omega)
  rw [S.len]
  exact hG.sz _ (List.getElem_mem _)
 have hmem : ∀ i k m, m ∈ ((enR x n).getD i []).getD k [] → ∃ (hi : i < (enR x n).length) (ms : List RMv), ms ∈ (enR x n)[i] ∧ m ∈ ms := fun i k m hm => by
  by_cases hi : i < (enR x n).length
  ·rw [hat i hi] at hm
   obtain ⟨ms, hms, hm⟩ := getD_memL hm
   exact ⟨hi, ms, hms, hm⟩
  ·rw [show (enR x n).getD i [] = [] by rw [List.getD_eq_getElem?_getD, List.getElem?_eq_none (by omega)]; rfl] at hm
   simp at hm
 have hle : (enR x n).length ≤ 5600 := by rw [hG.l]; omega
 refine ⟨hle, gr_bd X hN hG.g hG.lay0, ?_, fun i => ?_, fun i k => ?_, fun i k m hm => ?_, fun g hg ms hms m hm => ?_, ?_⟩
 ·refine toOk_of fun i hi ms hms m hm => ?_
  obtain ⟨k, v, h1, _, _, h4, _⟩ := graph_to hG (by omega) hms
  have := h4 m hm
  rw [gr_end hG hi h1] at this
  simp only [List.length_singleton] at this
  omega
 ·by_cases hi : i < (enR x n).length
  ·rw [hat i hi]; exact hsz i hi
  ·rw [List.getD_eq_getElem?_getD, List.getElem?_eq_none (by omega)]; simp
 ·by_cases hi : i < (enR x n).length
  ·rw [hat i hi]
   by_cases hk : k < (enR x n)[i].length
   ·rw [List.getD_eq_getElem?_getD, List.getElem?_eq_getElem hk, Option.getD_some]
    obtain ⟨_, v, h1, _, _, _, h5⟩ := graph_to hG hi (List.getElem_mem hk)
    have := mvE_len X hN i v
    rw [h5, List.length_map] at this
    omega
   ·rw [List.getD_eq_getElem?_getD, List.getElem?_eq_none (l := (enR x n)[i]) (by omega)]; simp
  ·rw [show (enR x n).getD i [] = [] by rw [List.getD_eq_getElem?_getD, List.getElem?_eq_none (by omega)]; rfl]; simp
 ·obtain ⟨hi, ms, hms, hm⟩ := hmem i k m hm
  obtain ⟨_, v, h1, _, _, h4, _⟩ := graph_to hG hi hms
  have h4 := h4 m hm
  unfold szG
  by_cases c : i + 1 < (enR x n).length
  ·rw [if_pos c, hat _ c]
   have S := gr_at hG.g (j := i + 1) c (by omega) (by omega)
   rw [S.len]
   exact h4
  ·rw [if_neg c]
   rw [gr_end hG (by omega) h1] at h4
   simpa using h4
 ·obtain ⟨i, hi, rfl⟩ := List.mem_iff_getElem.1 hg
  obtain ⟨_, v, h1, _, _, _, h5⟩ := graph_to hG hi hms
  exact mvE_ks hN (toMv Ls[i + 1].1 m) (by rw [h5]; exact List.mem_map.2 ⟨m, hm, rfl⟩)
 ·unfold szG
  by_cases c : 0 < (enR x n).length
  ·rw [if_pos c, hG.one c]; omega
  ·rw [if_neg c]; omega
theorem nodup_at {α : Type} : ∀ {l : List α}, l.Nodup → ∀ {i j : Nat} (hi : i < l.length) (hj : j < l.length), l[i] = l[j] → i = j
 | a :: l, h, 0, 0, _, _, _ => rfl
 | a :: l, h, 0, j + 1, hi, hj, e => by
  have := (List.nodup_cons.1 h).1
  simp only [List.getElem_cons_zero, List.getElem_cons_succ] at e
  exact absurd (by rw [e]; exact List.getElem_mem _) this
 | a :: l, h, i + 1, 0, hi, hj, e => by
  have := (List.nodup_cons.1 h).1
  simp only [List.getElem_cons_zero, List.getElem_cons_succ] at e
  exact absurd (by rw [← e]; exact List.getElem_mem _) this
 | a :: l, h, i + 1, j + 1, hi, hj, e => by
  simp only [List.getElem_cons_succ] at e
  rw [nodup_at (List.nodup_cons.1 h).2 (by simpa using hi) (by simpa using hj) e]
theorem mrg_ne {ls : List (List Co)} {l : List Co} (h : l ∈ ls) (hl : l ≠ []) : mrg ls ≠ [] := by
 unfold mrg
 have hs : 0 < (ls.map List.length).sum := by
  have h2 : l.length ≤ (ls.map List.length).sum := by
   clear hl
   induction ls with
   | nil => simp at h
   | cons a r ih =>
    simp only [List.map_cons, List.sum_cons]
    rcases List.mem_cons.1 h with rfl | h
    ·omega
    ·have := ih h; omega
  have := List.length_pos_iff.2 hl
  omega
 obtain ⟨k, hk⟩ : ∃ k, (ls.map List.length).sum = k + 1 := ⟨(ls.map List.length).sum - 1, by omega⟩
 rw [hk, pkW]
 cases hb : bst id ls (fun _ => 0) ls.length with
 | some jx => simp
 | none =>
  obtain ⟨j, hj⟩ := List.mem_iff_getElem?.1 h
  have := bst_none hb j (List.getElem?_eq_some_iff.1 hj).1
  unfold hdA at this
  rw [List.getD_eq_getElem?_getD, hj, Option.getD_some] at this
  cases l with
  | nil => exact absurd rfl hl
  | cons a r => simp at this
theorem WG_ne {g : List (List RMv)} {G : Steps} {k : Nat} {m : RMv} (h : m ∈ g.getD k []) (h2 : WG G m.to ≠ []) : WG (g :: G) k ≠ [] := by
 rw [WG]
 refine mrg_ne (l := (WG G m.to).map fun w => (m.c + w.c, m.m + w.m)) (List.mem_map.2 ⟨m, List.mem_filter.2 ⟨h, ?_⟩, rfl⟩) ?_
 ·cases e : WG G m.to with
  | nil => exact absurd e h2
  | cons a r => rfl
 ·intro e
  exact h2 (List.map_eq_nil_iff.1 e)
theorem WG_reach {x : Lm} {n : List Nt} {Ls : List Lay} (hG : Graph x n Ls) : ∀ (i : Nat), i ≤ (enR x n).length → ∀ (k : Nat) (hi : i < Ls.length), k < Ls[i].1.length → WG ((enR x n).drop i) k ≠ [] → WG (enR x n) 0 ≠ []
 | 0, _, k, hi, hk, h => by
  have e := (List.getElem?_eq_some_iff.1 hG.h0).2
  rw [e] at hk
  have : k = 0 := by simpa using hk
  subst this
  rw [List.drop_zero] at h
  exact h
 | i + 1, hi1, k, hi, hk, h => by
  have hll := gr_len hG.g
  have L := gr_lay hG.g (j := i) (by omega) (by omega) hi
  have S := gr_at hG.g (j := i) (by omega) (by omega) hi
  have hnd := S.ok.nd
  rw [Nat.zero_add] at L
  have hm : Ls[i + 1].1[k] ∈ Ls[i + 1].1 := List.getElem_mem hk
  rw [show (Ls[i + 1].1[k] ∈ Ls[i + 1].1) = (Ls[i + 1].1[k] ∈ (layG x n i Ls[i].1 Ls[i].2 ([], [])).1) by rw [← L], layG_fst, ddA_mem] at hm
  rcases hm with hm | hm
  ·simp at hm
  ·obtain ⟨v, hv, hm⟩ := List.mem_flatMap.1 hm
   obtain ⟨mv, hmv, hto⟩ := List.mem_map.1 hm
   obtain ⟨j, hj⟩ := List.mem_iff_getElem?.1 hv
   have hjl := (List.getElem?_eq_some_iff.1 hj).1
   have hjE : j < (enR x n)[i].length := by rw [S.len]; exact hjl
   have M := S.mv j v _ hj (List.getElem?_eq_getElem hjE)
   rw [Nat.zero_add] at M
   rw [M.2] at hmv
   obtain ⟨r, hr, rfl⟩ := List.mem_map.1 hmv
   have hrl := M.1 r hr
   have hrk : r.to = k := by
    have h3 : Ls[i + 1].1[r.to] = Ls[i + 1].1[k] := by
     rw [← hto]
     show _ = Ls[i + 1].1.getD r.to st0
     rw [List.getD_eq_getElem?_getD, List.getElem?_eq_getElem hrl]
     rfl
    exact nodup_at hnd hrl hk h3
   refine WG_reach hG i (by omega) j (by omega) hjl ?_
   rw [List.drop_eq_getElem_cons (show i < (enR x n).length by omega)]
   refine WG_ne (m := r) ?_ (by rw [hrk]; exact h)
   rw [List.getD_eq_getElem?_getD, List.getElem?_eq_getElem hjE]
   exact hr
theorem WG_some {x : Lm} {n : List Nt} {Ls : List Lay} (hG : Graph x n Ls) : WG (enR x n) 0 ≠ [] := by
 have hll := gr_len hG.g
 refine WG_reach hG (enR x n).length (Nat.le_refl _) 0 (by omega) ?_ (by rw [List.drop_length, WG]; simp)
 by_cases c : 0 < (enR x n).length
 ·obtain ⟨i, hi⟩ : ∃ i, i + 1 = (enR x n).length := ⟨(enR x n).length - 1, by omega⟩
  have e := gr_end hG hi (by omega)
  simp only [hi] at e
  rw [e]
  simp
 ·have h0 : (enR x n).length = 0 := by omega
  have e := (List.getElem?_eq_some_iff.1 hG.h0).2
  simp only [h0]
  rw [e]
  simp
theorem voiL_pos {x : Lm} {n : List Nt} {Ls : List Lay} (hG : Graph x n Ls) {most : Nat} (hm : 1 ≤ most) : 0 < (voiL (enR x n) most).length := by
 have := List.length_pos_iff.2 (WG_some hG)
 unfold voiL
 rw [List.length_map, List.length_take]
 omega
end Go.Ab.V

namespace Go.Ab.V
open Go.Proofs
def A13 : Ann := fun r => match r with
 | 0 => { slots := [(0, 0)] }
 | _ => {}
set_option maxHeartbeats 16000000 in
set_option maxRecDepth 100000 in
theorem refList13 (x : Lm) (n : List Nt) (most : Int) (hl : x.lo.length ≤ 9223372036854775807) (hh : x.hi.length ≤ 9223372036854775807) (h3 : n.length ≤ 9223372036854775807) : PRet C.P 13 [lmA x, ntsA n, .int .i64 most] (listV x n most) := by
 have hB := both56_spec x n hl hh h3
 unfold listV
 by_cases c1 : both x n ≠ 0
 ·rw [if_pos c1]
  generalize both x n = b at hB c1
  refine pret_of ok mixed (A := A13) 1 Try.func13 rfl ?_
  (repeat' (first | exact rfl | ((conv => whnf); first | refine ⟨_, hB, ?_⟩ | exact rfl | exact ⟨rfl, rfl⟩ | refine dk (by kernel_rfl) ?_ | refine pk (by kernel_rfl) ?_ | refine ⟨rfl, ?_⟩ | refine ⟨by (first | omega | (simp (disch := omega) only [wrapI]; first | omega | (simp; omega)) | (simp; omega)), ?_⟩ | (intro ep) | (refine ifB (fun hb => ?_) (fun hb => ?_) <;> (try simp only [qs] at hb) <;> (try simp (disch := omega) only [wrapI] at hb) <;> (try (exfalso; omega))) | fail)))
 rw [if_neg c1]
 have c1 : both x n = 0 := by omega
 rw [c1] at hB
 by_cases c2 : ¬ (1 ≤ most ∧ most ≤ 64)
 ·rw [if_pos c2]
  refine pret_of ok mixed (A := A13) 1 Try.func13 rfl ?_
  (repeat' (first | exact rfl | ((conv => whnf); first | refine ⟨_, hB, ?_⟩ | exact rfl | exact ⟨rfl, rfl⟩ | refine dk (by kernel_rfl) ?_ | refine pk (by kernel_rfl) ?_ | refine ⟨rfl, ?_⟩ | refine ⟨by (first | omega | (simp (disch := omega) only [wrapI]; first | omega | (simp; omega)) | (simp; omega)), ?_⟩ | (intro ep) | (refine ifB (fun hb => ?_) (fun hb => ?_) <;> (try simp only [qs] at hb) <;> (try simp (disch := omega) only [wrapI] at hb) <;> (try (exfalso; omega))) | fail)))
 rw [if_neg c2]
 have c2 : 1 ≤ most ∧ most ≤ 64 := Classical.not_not.1 c2
 obtain ⟨mo, rfl⟩ : ∃ mo : Nat, most = (mo : Int) := ⟨most.toNat, by omega⟩
 have hX : chkL x = 0 := by
  unfold both at c1; split at c1
  ·rename_i h; exact absurd c1 h
  ·rename_i h; simpa using h
 have hN : chkN n = 0 := by unfold both at c1; rw [hX] at c1; simpa using c1
 have X := lmOk_of hX
 have hE := explore39 x n X hN
 have he := err_eq X hN
 obtain ⟨E, hEE⟩ : ∃ E, E = expR x n (segR 0 n) 0 [[0, 0, 0, 0, 0]] [] := ⟨_, rfl⟩
 by_cases c3 : errR x n ≠ 0
 ·rw [if_pos c3]
  rw [← hEE] at hE he
  unfold expV at hE
  rw [if_neg (by rw [he]; exact c3), he] at hE
  generalize errR x n = b at c3 hE
  refine pret_of ok mixed (A := A13) 1 Try.func13 rfl ?_
  (repeat' (first | exact rfl | ((conv => whnf); first | refine ⟨_, hB, ?_⟩ | refine ⟨_, hE, ?_⟩ | exact rfl | exact ⟨rfl, rfl⟩ | refine dk (by kernel_rfl) ?_ | refine pk (by kernel_rfl) ?_ | refine ⟨rfl, ?_⟩ | refine ⟨by (first | omega | (simp (disch := omega) only [wrapI]; first | omega | (simp; omega)) | (simp; omega)), ?_⟩ | (intro ep) | (refine ifB (fun hb => ?_) (fun hb => ?_) <;> (try simp only [qs] at hb) <;> (try simp (disch := omega) only [wrapI] at hb) <;> (try (exfalso; omega))) | fail)))
 rw [if_neg c3]
 have c3 : errR x n = 0 := by omega
 obtain ⟨Ls, hG⟩ := graph_of X hN c3
 have sok := graph_sok X hN hG
 have hS := search40 (enR x n) sok mo (by omega)
 rw [voiD_L (by omega) sok] at hS
 rw [Int.toNat_natCast]
 have hEn : enR x n = E.1 := by unfold enR; rw [hEE]
 rw [← hEE] at hE he
 unfold expV at hE
 rw [if_pos (by rw [he, c3]), he, c3, ← hEn] at hE
 generalize enR x n = En at hE hS
 generalize voiL En mo = V at hS
 unfold voisA at hS ⊢
 refine pret_of ok mixed (A := A13) 1 Try.func13 rfl ?_
 (repeat' (first | exact rfl | ((conv => whnf); first | refine ⟨_, hB, ?_⟩ | refine ⟨_, hE, ?_⟩ | refine ⟨_, hS, ?_⟩ | exact rfl | exact ⟨rfl, rfl⟩ | refine dk (by kernel_rfl) ?_ | refine pk (by kernel_rfl) ?_ | refine ⟨rfl, ?_⟩ | refine ⟨by (first | omega | (simp (disch := omega) only [wrapI]; first | omega | (simp; omega)) | (simp; omega)), ?_⟩ | (intro ep) | (refine ifB (fun hb => ?_) (fun hb => ?_) <;> (try simp only [qs] at hb) <;> (try simp (disch := omega) only [wrapI] at hb) <;> (try (exfalso; omega))) | fail)))
def bestV (x : Lm) (n : List Nt) : AV := if both x n ≠ 0 then .tup [.agg [.nils, .int .i64 0, .int .i64 0], .int .i64 (both x n)] else
 if errR x n ≠ 0 then .tup [.agg [.nils, .int .i64 0, .int .i64 0], .int .i64 (errR x n)] else .tup [.agg ((voiL (enR x n) 1).headD []), .int .i64 0]
def A15 : Ann := fun r => match r with
 | 0 => { slots := [(0, 0), (1, 1)] }
 | _ => {}
theorem bestV_of (x : Lm) (n : List Nt) : (∃ e : Int, e ≠ 0 ∧ listV x n 1 = .tup [.nils, .int .i64 e] ∧ bestV x n = .tup [.agg [.nils, .int .i64 0, .int .i64 0], .int .i64 e]) ∨
  (∃ (l : List Int) (c m : Int), listV x n 1 = .tup [voisA [voiR l c m], .int .i64 0] ∧ bestV x n = .tup [.agg (voiR l c m), .int .i64 0]) := by
 unfold listV bestV
 by_cases c1 : both x n ≠ 0
 ·rw [if_pos c1, if_pos c1]
  exact .inl ⟨_, c1, rfl, rfl⟩
 rw [if_neg c1, if_neg c1, if_neg (by omega)]
 by_cases c3 : errR x n ≠ 0
 ·rw [if_pos c3, if_pos c3]
  exact .inl ⟨_, c3, rfl, rfl⟩
 rw [if_neg c3, if_neg c3]
 have c1 : both x n = 0 := by omega
 have c3 : errR x n = 0 := by omega
 have hX : chkL x = 0 := by
  unfold both at c1; split at c1
  ·rename_i h; exact absurd c1 h
  ·rename_i h; simpa using h
 have hN : chkN n = 0 := by unfold both at c1; rw [hX] at c1; simpa using c1
 obtain ⟨Ls, hG⟩ := graph_of (lmOk_of hX) hN c3
 have h1 := voiL_pos hG (most := 1) (by omega)
 have h2 := voiL_len (G := enR x n) (most := 1)
 right
 rw [show (1 : Int).toNat = 1 from rfl]
 have h4 : ∀ r ∈ voiL (enR x n) 1, ∃ l c m, r = voiR l c m := fun r hr => by
  obtain ⟨w, _, rfl⟩ := List.mem_map.1 hr
  exact ⟨_, _, _, rfl⟩
 generalize voiL (enR x n) 1 = V at h1 h2 h4
 match V, h1, h2, h4 with
 | [r], _, _, h4 =>
  obtain ⟨l, c, m, rfl⟩ := h4 r (List.mem_singleton.2 rfl)
  exact ⟨l, c, m, rfl, rfl⟩
 | _ :: _ :: _, _, h2, _ => simp only [List.length_cons] at h2; omega
 | [], h1, _, _ => simp at h1
set_option maxHeartbeats 16000000 in
set_option maxRecDepth 100000 in
theorem best15 (x : Lm) (n : List Nt) (hl : x.lo.length ≤ 9223372036854775807) (hh : x.hi.length ≤ 9223372036854775807) (h3 : n.length ≤ 9223372036854775807) : PRet C.P 15 [lmA x, ntsA n] (bestV x n) := by
 have hL := list12 x n 1 hl hh h3
 rcases bestV_of x n with ⟨e, he, h1, h2⟩ | ⟨l, c, m, h1, h2⟩
 ·rw [h1] at hL
  rw [h2]
  refine pret_of ok mixed (A := A15) 2 Try.func15 rfl ?_
  (repeat' (first | exact rfl | ((conv => whnf); first | refine ⟨_, hL, ?_⟩ | exact rfl | exact ⟨rfl, rfl⟩ | refine dk (by kernel_rfl) ?_ | refine pk (by kernel_rfl) ?_ | refine ⟨rfl, ?_⟩ | refine ⟨by (first | omega | (simp (disch := omega) only [wrapI]; first | omega | (simp; omega)) | (simp; omega)), ?_⟩ | (intro ep) | (refine ifB (fun hb => ?_) (fun hb => ?_) <;> (try simp only [qs] at hb) <;> (try simp (disch := omega) only [wrapI] at hb) <;> (try (exfalso; omega))) | fail)))
 ·rw [h1] at hL
  rw [h2]
  have hL : PRet C.P 12 [lmA x, ntsA n, .int .i64 1] (.tup [.lslc 3 [[intsA l, .int .i64 c, .int .i64 m]] 0 1 false, .int .i64 0]) := hL
  clear h1 h2
  unfold voiR
  refine pret_of ok mixed (A := A15) 2 Try.func15 rfl ?_
  (repeat' (first | exact rfl | ((conv => whnf); first | refine ⟨_, hL, ?_⟩ | exact rfl | exact ⟨rfl, rfl⟩ | refine dk (by kernel_rfl) ?_ | refine pk (by kernel_rfl) ?_ | refine ⟨rfl, ?_⟩ | refine ⟨by (first | omega | (simp (disch := omega) only [wrapI]; first | omega | (simp; omega)) | (simp; omega)), ?_⟩ | (intro ep) | (refine ifB (fun hb => ?_) (fun hb => ?_) <;> (try simp only [qs] at hb) <;> (try simp (disch := omega) only [wrapI] at hb) <;> (try (exfalso; omega))) | fail)))
set_option maxHeartbeats 16000000 in
set_option maxRecDepth 100000 in
theorem refBest16 (x : Lm) (n : List Nt) (hl : x.lo.length ≤ 9223372036854775807) (hh : x.hi.length ≤ 9223372036854775807) (h3 : n.length ≤ 9223372036854775807) : PRet C.P 16 [lmA x, ntsA n] (bestV x n) := by
 have hL := refList13 x n 1 hl hh h3
 rcases bestV_of x n with ⟨e, he, h1, h2⟩ | ⟨l, c, m, h1, h2⟩
 ·rw [h1] at hL
  rw [h2]
  refine pret_of ok mixed (A := A15) 2 Try.func16 rfl ?_
  (repeat' (first | exact rfl | ((conv => whnf); first | refine ⟨_, hL, ?_⟩ | exact rfl | exact ⟨rfl, rfl⟩ | refine dk (by kernel_rfl) ?_ | refine pk (by kernel_rfl) ?_ | refine ⟨rfl, ?_⟩ | refine ⟨by (first | omega | (simp (disch := omega) only [wrapI]; first | omega | (simp; omega)) | (simp; omega)), ?_⟩ | (intro ep) | (refine ifB (fun hb => ?_) (fun hb => ?_) <;> (try simp only [qs] at hb) <;> (try simp (disch := omega) only [wrapI] at hb) <;> (try (exfalso; omega))) | fail)))
 ·rw [h1] at hL
  rw [h2]
  have hL : PRet C.P 13 [lmA x, ntsA n, .int .i64 1] (.tup [.lslc 3 [[intsA l, .int .i64 c, .int .i64 m]] 0 1 false, .int .i64 0]) := hL
  clear h1 h2
  unfold voiR
  refine pret_of ok mixed (A := A15) 2 Try.func16 rfl ?_
  (repeat' (first | exact rfl | ((conv => whnf); first | refine ⟨_, hL, ?_⟩ | exact rfl | exact ⟨rfl, rfl⟩ | refine dk (by kernel_rfl) ?_ | refine pk (by kernel_rfl) ?_ | refine ⟨rfl, ?_⟩ | refine ⟨by (first | omega | (simp (disch := omega) only [wrapI]; first | omega | (simp; omega)) | (simp; omega)), ?_⟩ | (intro ep) | (refine ifB (fun hb => ?_) (fun hb => ?_) <;> (try simp only [qs] at hb) <;> (try simp (disch := omega) only [wrapI] at hb) <;> (try (exfalso; omega))) | fail)))
end Go.Ab.V

namespace Go.Ab.V
open Go.Proofs
def A10 : Ann := fun _ => {}
def manyB (l m : Nat) : Bool := decide (m < l) && decide (l ≤ 5600)
set_option maxHeartbeats 4000000 in
set_option maxRecDepth 100000 in
theorem many10 (n : List Nt) (m : Nat) (hm : m ≤ 5600) (h3 : n.length ≤ 9223372036854775807) : PRet C.P 10 [ntsA n, .int .i64 (m : Int)] (.bool (manyB n.length m)) := by
 unfold manyB
 by_cases c1 : m < n.length
 ·rw [decide_eq_true c1]
  by_cases c2 : n.length ≤ 5600
  ·rw [decide_eq_true c2]
   refine pret_of ok mixed (A := A10) 0 Try.func10 rfl ?_
   (repeat' (first | exact rfl | ((conv => whnf); first | exact rfl | exact ⟨rfl, rfl⟩ | refine dk (by kernel_rfl) ?_ | refine pk (by kernel_rfl) ?_ | refine ⟨rfl, ?_⟩ | refine ⟨by (first | omega | (simp (disch := omega) only [wrapI]; first | omega | (simp; omega)) | (simp; omega)), ?_⟩ | (intro ep) | (refine ifB (fun hb => ?_) (fun hb => ?_) <;> (try simp only [qs] at hb) <;> (try simp (disch := omega) only [wrapI] at hb) <;> (try (exfalso; omega))) | fail)))
   all_goals (refine congrArg AV.bool ?_; simp; omega)
  ·rw [decide_eq_false c2]
   refine pret_of ok mixed (A := A10) 0 Try.func10 rfl ?_
   (repeat' (first | exact rfl | ((conv => whnf); first | exact rfl | exact ⟨rfl, rfl⟩ | refine dk (by kernel_rfl) ?_ | refine pk (by kernel_rfl) ?_ | refine ⟨rfl, ?_⟩ | refine ⟨by (first | omega | (simp (disch := omega) only [wrapI]; first | omega | (simp; omega)) | (simp; omega)), ?_⟩ | (intro ep) | (refine ifB (fun hb => ?_) (fun hb => ?_) <;> (try simp only [qs] at hb) <;> (try simp (disch := omega) only [wrapI] at hb) <;> (try (exfalso; omega))) | fail)))
   all_goals (refine congrArg AV.bool ?_; simp; omega)
 ·rw [decide_eq_false c1]
  refine pret_of ok mixed (A := A10) 0 Try.func10 rfl ?_
  (repeat' (first | exact rfl | ((conv => whnf); first | exact rfl | exact ⟨rfl, rfl⟩ | refine dk (by kernel_rfl) ?_ | refine pk (by kernel_rfl) ?_ | refine ⟨rfl, ?_⟩ | refine ⟨by (first | omega | (simp (disch := omega) only [wrapI]; first | omega | (simp; omega)) | (simp; omega)), ?_⟩ | (intro ep) | (refine ifB (fun hb => ?_) (fun hb => ?_) <;> (try simp only [qs] at hb) <;> (try simp (disch := omega) only [wrapI] at hb) <;> (try (exfalso; omega))) | fail)))
def A19 : Ann := fun _ => {}
set_option maxHeartbeats 4000000 in
set_option maxRecDepth 100000 in
theorem same19 (l : List Int) (hl : l.length ≤ 9223372036854775806) : PRet C.P 19 [intsA l, intsA l] (.bool true) := by
 refine pret_of ok mixed (A := A19) 0 Try.func19 rfl ?_
 (repeat' (first | exact rfl | ((conv => whnf); first | exact rfl | exact ⟨rfl, rfl⟩ | refine dk (by kernel_rfl) ?_ | refine pk (by kernel_rfl) ?_ | refine ⟨rfl, ?_⟩ | refine ⟨by (first | omega | (simp (disch := omega) only [wrapI]; first | omega | (simp; omega)) | (simp; omega)), ?_⟩ | (intro ep) | (refine ifB (fun hb => ?_) (fun hb => ?_) <;> (try simp only [qs] at hb) <;> (try simp (disch := omega) only [wrapI] at hb) <;> (try (exfalso; omega))) | fail)))
 all_goals (conv => whnf)
 refine loopX ok mixed (A := A19) [0, 1, 5] [] (S := { k : Nat // k ≤ l.length })
  (fr := fun s => frOf 0 26 [(0, intsA l), (1, intsA l), (5, .int .i64 (s.1 : Int))])
  (h := fun s => ⟨[], []⟩) (μ := fun s => l.length - s.1) ⟨0, by omega⟩ ?_ ?_
  [] [] (S' := Unit) (X := fun _ => 0) (frX := fun s => frOf 0 26 []) (hX := fun s => ⟨[], []⟩) (R := fun _ _ => False) ?_ (fun _ _ h => h.elim) ?_
 ·exact rfl
 ·exact rfl
 ·rintro ⟨k, hk⟩
  show aexR _ _ _ (frOf 0 26 [(0, intsA l), (1, intsA l), (5, .int .i64 (k : Int))]) ⟨[], []⟩ _
  (conv => whnf)
  refine ifB (fun g1 => ?_) (fun g1 => ?_)
  ·simp only [decide_eq_true_eq] at g1
   have h1 : k < l.length := by omega
   have hm := intsR h1
   (repeat' (first | exact rfl | ((conv => whnf); first | refine optS hm ?_ | exact rfl | exact ⟨rfl, rfl⟩ | refine dk (by kernel_rfl) ?_ | refine pk (by kernel_rfl) ?_ | refine ⟨rfl, ?_⟩ | refine ⟨by (first | omega | (simp (disch := omega) only [wrapI]; first | omega | (simp; omega)) | (simp; omega)), ?_⟩ | (intro ep) | (refine ifB (fun hb => ?_) (fun hb => ?_) <;> (try simp only [qs] at hb) <;> (try simp (disch := omega) only [wrapI] at hb) <;> (try (exfalso; omega))) | fail)))
   all_goals (conv => whnf)
   exact back_of ⟨k + 1, by omega⟩ ⟨by (first | exact rfl | (simp (disch := omega) only [wrapI]; exact rfl)), rfl, by simp only; omega⟩
  ·(repeat' (first | exact rfl | ((conv => whnf); first | exact rfl | exact ⟨rfl, rfl⟩ | refine dk (by kernel_rfl) ?_ | refine pk (by kernel_rfl) ?_ | refine ⟨rfl, ?_⟩ | refine ⟨by (first | omega | (simp (disch := omega) only [wrapI]; first | omega | (simp; omega)) | (simp; omega)), ?_⟩ | (intro ep) | fail)))
   all_goals (conv => whnf)
   exact back_of () ⟨rfl, rfl, rfl⟩
 ·rintro ⟨⟩
  (repeat' (first | exact rfl | ((conv => whnf); first | exact rfl | exact ⟨rfl, rfl⟩ | refine dk (by kernel_rfl) ?_ | refine pk (by kernel_rfl) ?_ | refine ⟨rfl, ?_⟩ | refine ⟨by (first | omega | (simp (disch := omega) only [wrapI]; first | omega | (simp; omega)) | (simp; omega)), ?_⟩ | (intro ep) | fail)))
set_option maxHeartbeats 4000000 in
theorem same19_nil : PRet C.P 19 [.nils, .nils] (.bool true) := by
 refine pret_of ok mixed (A := A19) 0 Try.func19 rfl ?_
 (repeat ((conv => whnf); first | exact rfl | exact ⟨rfl, rfl⟩ | refine ⟨rfl, ?_⟩ | refine ⟨by decide, ?_⟩ | refine ⟨by kernel_rfl, ?_⟩ | (intro ep) | refine loopU ok mixed (A := fun _ => {}) 100 ?_))
def A14 : Ann := fun r => match r with
 | 0 => { slots := [(0, 0), (1, 1)] }
 | _ => {}
set_option maxHeartbeats 4000000 in
set_option maxRecDepth 100000 in
theorem same14 {a : AV} (c m : Int) (h : PRet C.P 19 [a, a] (.bool true)) (ha : (∃ l, a = intsA l) ∨ a = .nils) : PRet C.P 14 [.agg [a, .int .i64 c, .int .i64 m], .agg [a, .int .i64 c, .int .i64 m]] (.bool true) := by
 rcases ha with ⟨l, rfl⟩ | rfl
 all_goals
  refine pret_of ok mixed (A := A14) 2 Try.func14 rfl ?_
  (repeat' (first | exact rfl | ((conv => whnf); first | refine ⟨_, h, ?_⟩ | exact rfl | exact ⟨rfl, rfl⟩ | refine dk (by kernel_rfl) ?_ | refine pk (by kernel_rfl) ?_ | refine ⟨rfl, ?_⟩ | refine ⟨by (first | omega | (simp (disch := omega) only [wrapI]; first | omega | (simp; omega)) | (simp; omega)), ?_⟩ | (intro ep) | (refine ifB (fun hb => ?_) (fun hb => ?_) <;> (try simp only [qs] at hb) <;> (try simp (disch := omega) only [wrapI] at hb) <;> (try (exfalso; omega))) | fail)))
end Go.Ab.V

namespace Go.Ab.V
open Go.Proofs
def x0 : Lm := ⟨[60, 40], [80, 60], 5, 0, 0⟩
def n0 : List Nt := [⟨0, 1, 67, 0, 96⟩, ⟨0, 6, 43, 0, 192⟩, ⟨1, 1, 69, 96, 192⟩]
set_option maxRecDepth 100000 in
theorem best0 : bestV x0 n0 = .tup [.agg (voiR [1, 2, 1] 0 2), .int .i64 0] := by kernel_rfl
def A11 : Ann := fun r => match r with
 | 1 => { slots := [(0, 0), (1, 1), (3, 2)], frz := [1000, 1001] }
 | 2 => { slots := [(3, 3)], frz := [2] }
 | 3 => { slots := [(6, 4)] }
 | 4 => { slots := [(15, 5)] }
 | _ => {}
set_option maxHeartbeats 16000000 in
set_option maxRecDepth 100000 in
theorem works2 : PRet C.P 11 [] (.bool true) := by
 have hB := best15 x0 n0 (by decide) (by decide) (by decide)
 rw [best0] at hB
 have hS := same19 [1, 2, 1] (by decide)
 refine pret_of (okx [] [15, 19]) mixed (A := A11) 6 Try.func11 rfl ?_
 (repeat' (first | exact rfl | ((conv => whnf); first | refine PRet.calls hB ?_ | (refine ACalls.fz 5 ?_; (conv => whnf); refine ⟨pureRows_of1 (by kernel_rfl), by (repeat' (first | exact trivial | exact eqsP_rows _ (fun x => rfl) | ((conv => whnf); first | exact trivial | refine ⟨rfl, ?_⟩ | refine ⟨?_, ?_⟩ | fail))), by (repeat' (first | exact trivial | exact eqsP_rows _ (fun x => rfl) | ((conv => whnf); first | exact trivial | refine ⟨rfl, ?_⟩ | refine ⟨?_, ?_⟩ | fail))), by (repeat' (first | exact trivial | exact eqsP_rows _ (fun x => rfl) | ((conv => whnf); first | exact trivial | refine ⟨rfl, ?_⟩ | refine ⟨?_, ?_⟩ | fail))), ?_⟩; refine PRet.calls hS ?_) | exact rfl | exact ⟨rfl, rfl⟩ | refine dk (by kernel_rfl) ?_ | refine pk (by kernel_rfl) ?_ | refine ⟨rfl, ?_⟩ | refine ⟨by (first | omega | (simp (disch := omega) only [wrapI]; first | omega | (simp; omega)) | (simp; omega)), ?_⟩ | (intro ep) | refine ⟨pureRows_of (by kernel_rfl), by (repeat' (first | exact trivial | exact eqsP_rows _ (fun x => rfl) | ((conv => whnf); first | exact trivial | refine ⟨rfl, ?_⟩ | refine ⟨?_, ?_⟩ | fail))), by (repeat' (first | exact trivial | exact eqsP_rows _ (fun x => rfl) | ((conv => whnf); first | exact trivial | refine ⟨rfl, ?_⟩ | refine ⟨?_, ?_⟩ | fail))), by (repeat' (first | exact trivial | exact eqsP_rows _ (fun x => rfl) | ((conv => whnf); first | exact trivial | refine ⟨rfl, ?_⟩ | refine ⟨?_, ?_⟩ | fail))), ?_⟩ | refine ⟨pureRows_of1 (by kernel_rfl), ?_⟩ | (refine ifB (fun hb => ?_) (fun hb => ?_) <;> (try simp only [qs] at hb) <;> (try simp (disch := omega) only [wrapI] at hb) <;> (try (exfalso; omega))) | fail)))
end Go.Ab.V

namespace Go.Ab.V
open Go.Proofs
theorem vT_len : ∀ {t : Tl}, (∀ a ∈ t, a.1.length ≤ 100000) → (vT t).length ≤ 100000 * t.length
 | [], _ => by simp [vT]
 | a :: t, h => by
  have h1 := h a (List.mem_cons_self ..)
  have h2 := vT_len fun b hb => h b (List.mem_cons_of_mem _ hb)
  have h3 : (vT (a :: t)).length = a.1.length + (vT t).length := by simp [vT]
  simp only [List.length_cons]
  omega
structure VoiOk (V : List (List AV)) : Prop where
 len : V.length ≤ 64
 at' : ∀ r ∈ V, ∃ (l : List Int) (c m : Int), r = voiR l c m ∧ l.length ≤ 600000000
theorem voiL_ok {G : Steps} (sok : SOk G) {most : Nat} (hm : 1 ≤ most ∧ most ≤ 64) : VoiOk (voiL G most) := by
 refine ⟨by have := voiL_len (G := G) (most := most); omega, fun r hr => ?_⟩
 rw [← voiD_L hm.1 sok] at hr
 obtain ⟨t, ht, rfl⟩ := List.mem_map.1 hr
 have ht : t ∈ DT most (G.drop 0) 0 := by rw [List.drop_zero]; exact ht
 have tok := DT_ok hm.1 sok (Nat.zero_le _) sok.one t ht
 refine ⟨_, _, _, rfl, ?_⟩
 have := vT_len tok.ks
 have := tok.len
 omega
theorem both_zero {x : Lm} {n : List Nt} (c1 : both x n = 0) : LmOk x ∧ chkN n = 0 := by
 have hX : chkL x = 0 := by
  unfold both at c1; split at c1
  ·rename_i h; exact absurd c1 h
  ·rename_i h; simpa using h
 exact ⟨lmOk_of hX, by unfold both at c1; rw [hX] at c1; simpa using c1⟩
theorem listV_of (x : Lm) (n : List Nt) (most : Int) : (∃ e : Int, e ≠ 0 ∧ listV x n most = .tup [.nils, .int .i64 e]) ∨ (∃ V, VoiOk V ∧ listV x n most = .tup [voisA V, .int .i64 0]) := by
 unfold listV
 by_cases c1 : both x n ≠ 0
 ·rw [if_pos c1]; exact .inl ⟨_, c1, rfl⟩
 rw [if_neg c1]
 by_cases c2 : ¬ (1 ≤ most ∧ most ≤ 64)
 ·rw [if_pos c2]; exact .inl ⟨1, by decide, rfl⟩
 rw [if_neg c2]
 by_cases c3 : errR x n ≠ 0
 ·rw [if_pos c3]; exact .inl ⟨_, c3, rfl⟩
 rw [if_neg c3]
 have c1 : both x n = 0 := by omega
 have c3 : errR x n = 0 := by omega
 obtain ⟨X, hN⟩ := both_zero c1
 obtain ⟨Ls, hG⟩ := graph_of X hN c3
 exact .inr ⟨_, voiL_ok (graph_sok X hN hG) (by omega), rfl⟩
theorem bestV_ok (x : Lm) (n : List Nt) : (∃ e : Int, e ≠ 0 ∧ bestV x n = .tup [.agg [.nils, .int .i64 0, .int .i64 0], .int .i64 e]) ∨ (∃ (l : List Int) (c m : Int), l.length ≤ 600000000 ∧ bestV x n = .tup [.agg (voiR l c m), .int .i64 0]) := by
 rcases bestV_of x n with ⟨e, he, _, h2⟩ | ⟨l, c, m, h1, h2⟩
 ·exact .inl ⟨e, he, h2⟩
 ·rcases listV_of x n 1 with ⟨e, he, h3⟩ | ⟨V, hV, h3⟩
  ·rw [h3] at h1
   simp only [AV.tup.injEq, List.cons.injEq, AV.int.injEq, true_and, and_true] at h1
   exact absurd h1.2 he
  ·rw [h3] at h1
   simp only [AV.tup.injEq, List.cons.injEq, and_true] at h1
   unfold voisA at h1
   simp only [AV.lslc.injEq, true_and, and_true] at h1
   obtain ⟨l', c', m', h4, h5⟩ := hV.at' (voiR l c m) (by rw [h1.1]; exact List.mem_singleton.2 rfl)
   have : l = l' := by
    unfold voiR intsA at h4
    simp only [List.cons.injEq, AV.lslc.injEq, true_and] at h4
    have h6 := h4.1.1
    unfold ints at h6
    have h7 := congrArg (List.map fun r : List AV => match r with | [.int _ z] => z | _ => 0) h6
    rw [List.map_map, List.map_map] at h7
    have e : ∀ l : List Int, l.map ((fun r : List AV => match r with | [.int _ z] => z | _ => 0) ∘ fun z => [AV.int .i64 z]) = l := fun l => by
     conv => rhs; rw [← List.map_id l]
     exact List.map_congr_left fun _ _ => rfl
    rw [e, e] at h7
    exact h7
   exact .inr ⟨l, c, m, by rw [this]; exact h5, h2⟩
def caseR (x : Lm) (n : List Nt) : List AV := [intsA x.lo, intsA x.hi, .int .i64 x.leap, .int .i64 x.gap, .int .i64 x.cross, ntsA n]
def A3 : Ann := fun r => match r with
 | 0 => { slots := [(0, 0)] }
 | 12 => { slots := [(8, 1)] }
 | 13 => { slots := [(8, 2)] }
 | _ => {}
set_option maxHeartbeats 16000000 in
set_option maxRecDepth 100000 in
theorem law_lists (x : Lm) (n : List Nt) (most : Int) (h1 : x.lo.length ≤ 9223372036854775807) (h2 : x.hi.length ≤ 9223372036854775807) (h3 : n.length ≤ 9223372036854775807) : ACalls C.P 3 [caseA x n, .int .i64 most] Heap.nil fun r _ => r = .bool true := by
 have hM := many10 n 24 (by omega) h3
 have a1 := list12 x n most h1 h2 h3
 have a2 := refList13 x n most h1 h2 h3
 have a3 := best15 x n h1 h2 h3
 have a4 := refBest16 x n h1 h2 h3
 cases hb : manyB n.length 24 with
 | true =>
  rw [hb] at hM
  refine fn_of ok mixed (A := A3) 3 Try.func3 rfl ?_
  (repeat' (first | exact rfl | ((conv => whnf); first | refine ⟨_, hM, ?_⟩ | refine ⟨_, works2, ?_⟩ | exact rfl | exact ⟨rfl, rfl⟩ | refine dk (by kernel_rfl) ?_ | refine pk (by kernel_rfl) ?_ | refine ⟨rfl, ?_⟩ | refine ⟨by (first | omega | (simp (disch := omega) only [wrapI]; first | omega | (simp; omega)) | (simp; omega)), ?_⟩ | (intro ep) | (refine ifB (fun hb => ?_) (fun hb => ?_) <;> (try simp only [qs] at hb) <;> (try simp (disch := omega) only [wrapI] at hb) <;> (try (exfalso; omega))) | fail)))
 | false =>
  rw [hb] at hM
  obtain ⟨B, e', hB, hBV⟩ : ∃ (B : List AV) (e' : Int), (∃ a c m, B = [a, .int .i64 c, .int .i64 m] ∧ PRet C.P 14 [.agg B, .agg B] (.bool true)) ∧ bestV x n = .tup [.agg B, .int .i64 e'] := by
   rcases bestV_ok x n with ⟨e, _, he⟩ | ⟨l, c, m, hl, he⟩
   ·exact ⟨_, e, ⟨_, _, _, rfl, same14 0 0 same19_nil (.inr rfl)⟩, he⟩
   ·exact ⟨_, 0, ⟨_, _, _, rfl, same14 c m (same19 l (by omega)) (.inl ⟨l, rfl⟩)⟩, he⟩
  rw [hBV] at a3 a4
  obtain ⟨ba, bc, bm, rfl, hB2⟩ := hB
  rcases listV_of x n most with ⟨e, _, he⟩ | ⟨V, hV, he⟩
  ·rw [he] at a1 a2
   refine fn_of ok mixed (A := A3) 3 Try.func3 rfl ?_
   (repeat' (first | exact rfl | ((conv => whnf); first | refine ⟨_, hM, ?_⟩ | refine ⟨_, a1, ?_⟩ | refine ⟨_, a2, ?_⟩ | refine ⟨_, a3, ?_⟩ | refine ⟨_, a4, ?_⟩ | refine ⟨_, works2, ?_⟩ | refine ⟨_, hB2, ?_⟩ | exact rfl | exact ⟨rfl, rfl⟩ | refine dk (by kernel_rfl) ?_ | refine pk (by kernel_rfl) ?_ | refine ⟨rfl, ?_⟩ | refine ⟨by (first | omega | (simp (disch := omega) only [wrapI]; first | omega | (simp; omega)) | (simp; omega)), ?_⟩ | (intro ep) | (refine ifB (fun hb => ?_) (fun hb => ?_) <;> (try simp only [qs] at hb) <;> (try simp (disch := omega) only [wrapI] at hb) <;> (try (exfalso; omega))) | fail)))
   all_goals (conv => whnf)
   refine loopX ok mixed (A := A3) [2, 5, 7, 9] [0] (S := Unit) (fr := fun _ => frOf 0 87 [(2, .optr (.s 0) ep 6 0 0), (5, .nils), (7, .nils), (9, .int .i64 0)])
    (h := fun _ => ⟨[.vec ep [caseR x n], .hole, .hole], []⟩) (μ := fun _ => 0) () ?_ ?_
    [2] [0] (S' := Unit) (X := fun _ => 0) (frX := fun _ => frOf 0 87 [(2, .optr (.s 0) ep 6 0 0)]) (hX := fun _ => ⟨[.vec ep [caseR x n], .hole, .hole], []⟩) (R := fun _ _ => False) ?_ (fun _ _ h => h.elim) ?_
   ·exact rfl
   ·exact rfl
   ·rintro ⟨⟩
    (repeat' (first | ((conv => whnf); first | exact rfl | exact ⟨rfl, rfl⟩ | refine dk (by kernel_rfl) ?_ | refine pk (by kernel_rfl) ?_ | refine ⟨rfl, ?_⟩ | refine ⟨by (first | omega | (simp (disch := omega) only [wrapI]; first | omega | (simp; omega)) | (simp; omega)), ?_⟩ | (intro ep) | (refine ifB (fun hb => ?_) (fun hb => ?_) <;> (try simp only [qs] at hb) <;> (try simp (disch := omega) only [wrapI] at hb) <;> (try (exfalso; omega))) | fail)))
    all_goals (conv => whnf)
    exact back_of () ⟨rfl, rfl, rfl⟩
   ·rintro ⟨⟩
    (repeat' (first | exact rfl | ((conv => whnf); first | refine ⟨_, a3, ?_⟩ | refine ⟨_, a4, ?_⟩ | refine ⟨_, works2, ?_⟩ | refine ⟨_, hB2, ?_⟩ | exact rfl | exact ⟨rfl, rfl⟩ | refine dk (by kernel_rfl) ?_ | refine pk (by kernel_rfl) ?_ | refine ⟨rfl, ?_⟩ | refine ⟨by (first | omega | (simp (disch := omega) only [wrapI]; first | omega | (simp; omega)) | (simp; omega)), ?_⟩ | (intro ep) | (refine ifB (fun hb => ?_) (fun hb => ?_) <;> (try simp only [qs] at hb) <;> (try simp (disch := omega) only [wrapI] at hb) <;> (try (exfalso; omega))) | fail)))
  ·rw [he] at a1 a2
   unfold voisA at a1 a2
   have hVl := hV.len
   refine fn_of ok mixed (A := A3) 3 Try.func3 rfl ?_
   (repeat' (first | exact rfl | ((conv => whnf); first | refine ⟨_, hM, ?_⟩ | refine ⟨_, a1, ?_⟩ | refine ⟨_, a2, ?_⟩ | exact rfl | exact ⟨rfl, rfl⟩ | refine dk (by kernel_rfl) ?_ | refine pk (by kernel_rfl) ?_ | refine ⟨rfl, ?_⟩ | refine ⟨by (first | omega | (simp (disch := omega) only [wrapI]; first | omega | (simp; omega)) | (simp; omega)), ?_⟩ | (intro ep) | (refine ifB (fun hb => ?_) (fun hb => ?_) <;> (try simp only [qs] at hb) <;> (try simp (disch := omega) only [wrapI] at hb) <;> (try (exfalso; omega))) | fail)))
   all_goals (conv => whnf)
   refine loopX ok mixed (A := A3) [2, 5, 7, 9] [0] (S := { i : Nat // i ≤ V.length }) (fr := fun i => frOf 0 87 [(2, .optr (.s 0) ep 6 0 0), (5, .lslc 3 V 0 V.length false), (7, .lslc 3 V 0 V.length false), (9, .int .i64 (i.1 : Int))])
    (h := fun _ => ⟨[.vec ep [caseR x n], .hole, .hole], []⟩) (μ := fun i => V.length - i.1) ⟨0, Nat.zero_le _⟩ ?_ ?_
    [2] [0] (S' := Unit) (X := fun _ => 0) (frX := fun _ => frOf 0 87 [(2, .optr (.s 0) ep 6 0 0)]) (hX := fun _ => ⟨[.vec ep [caseR x n], .hole, .hole], []⟩) (R := fun _ _ => False) ?_ (fun _ _ h => h.elim) ?_
   ·exact rfl
   ·exact rfl
   ·rintro ⟨i, hi⟩
    show aexR _ _ _ (frOf 0 87 [(2, .optr (.s 0) ep 6 0 0), (5, .lslc 3 V 0 V.length false), (7, .lslc 3 V 0 V.length false), (9, .int .i64 (i : Int))]) ⟨[.vec ep [caseR x n], .hole, .hole], []⟩ _
    by_cases gi : i < V.length
    ·obtain ⟨l, c, m, hr, hl⟩ := hV.at' _ (List.getElem_mem gi)
     have hrow : V[0 + ((i : Nat) : Int).toNat]? = some [intsA l, .int .i64 c, .int .i64 m] := by
      rw [Nat.zero_add, Int.toNat_natCast, List.getElem?_eq_getElem gi, hr]
      rfl
     have hS := same14 c m (same19 l (by omega)) (.inl ⟨l, rfl⟩)
     (repeat' (first | ((conv => whnf); first | refine optS hrow ?_ | refine ⟨_, hS, ?_⟩ | exact rfl | exact ⟨rfl, rfl⟩ | refine dk (by kernel_rfl) ?_ | refine pk (by kernel_rfl) ?_ | refine ⟨rfl, ?_⟩ | refine ⟨by (first | omega | (simp (disch := omega) only [wrapI]; first | omega | (simp; omega)) | (simp; omega)), ?_⟩ | (intro ep) | (refine ifB (fun hb => ?_) (fun hb => ?_) <;> (try simp only [qs] at hb) <;> (try simp (disch := omega) only [wrapI] at hb) <;> (try (exfalso; omega))) | fail)))
     all_goals (conv => whnf)
     exact back_of ⟨i + 1, gi⟩ ⟨by (first | exact rfl | (simp (disch := omega) only [wrapI]; exact rfl)), rfl, by simp only; omega⟩
    ·have gi : i = V.length := by omega
     subst gi
     (repeat' (first | ((conv => whnf); first | exact rfl | exact ⟨rfl, rfl⟩ | refine dk (by kernel_rfl) ?_ | refine pk (by kernel_rfl) ?_ | refine ⟨rfl, ?_⟩ | refine ⟨by (first | omega | (simp (disch := omega) only [wrapI]; first | omega | (simp; omega)) | (simp; omega)), ?_⟩ | (intro ep) | (refine ifB (fun hb => ?_) (fun hb => ?_) <;> (try simp only [qs] at hb) <;> (try simp (disch := omega) only [wrapI] at hb) <;> (try (exfalso; omega))) | fail)))
     all_goals (conv => whnf)
     exact back_of () ⟨rfl, rfl, rfl⟩
   ·rintro ⟨⟩
    (repeat' (first | exact rfl | ((conv => whnf); first | refine ⟨_, a3, ?_⟩ | refine ⟨_, a4, ?_⟩ | refine ⟨_, works2, ?_⟩ | refine ⟨_, hB2, ?_⟩ | exact rfl | exact ⟨rfl, rfl⟩ | refine dk (by kernel_rfl) ?_ | refine pk (by kernel_rfl) ?_ | refine ⟨rfl, ?_⟩ | refine ⟨by (first | omega | (simp (disch := omega) only [wrapI]; first | omega | (simp; omega)) | (simp; omega)), ?_⟩ | (intro ep) | (refine ifB (fun hb => ?_) (fun hb => ?_) <;> (try simp only [qs] at hb) <;> (try simp (disch := omega) only [wrapI] at hb) <;> (try (exfalso; omega))) | fail)))
end Go.Ab.V
