/-
  What is proved here serves the law's text: each part says its own claim and its conditions. No condition is left open.
-/
import Derived.Test.YthdhhhgjdegafaaJO
import Derived.Test.YthdhhhgjdegafaaJP
import Derived.Test.YthdhhhgjdegafaaJL
set_option linter.unusedSimpArgs false
set_option linter.unusedVariables false

namespace Go.Ab
end Go.Ab
namespace Go.Ab.V.S
open Go.Proofs
theorem i64_bd {i : Int} (h : IntKind.i64.min ≤ i ∧ i ≤ IntKind.i64.max) : -9223372036854775808 ≤ i ∧ i ≤ 9223372036854775807 := h
theorem fld {n : Nat} {xs : List AV} {d : TD} {t off k : Nat} {P : List AV → Prop} (h : ∃ df, C.ti t = some df ∧ Shp C.ti n t ((xs.drop off).take df.size)) (hd : C.ti t = some d) (he : d.size = k) : Shp C.ti n t ((xs.drop off).take k) := by
 obtain ⟨df, h1, h2⟩ := h
 rw [hd] at h1
 cases h1
 rw [he] at h2
 exact h2
theorem len3 {l : List AV} (h : l.length = 3) : ∃ a b c, l = [a, b, c] := by
 match l, h with
 | [a, b, c], _ => exact ⟨a, b, c, rfl⟩
theorem len5 {l : List AV} (h : l.length = 5) : ∃ a b c d e, l = [a, b, c, d, e] := by
 match l, h with
 | [a, b, c, d, e], _ => exact ⟨a, b, c, d, e, rfl⟩
theorem len6 {l : List AV} (h : l.length = 6) : ∃ a b c d e f, l = [a, b, c, d, e, f] := by
 match l, h with
 | [a, b, c, d, e, f], _ => exact ⟨a, b, c, d, e, f, rfl⟩
theorem s_int {m : Nat} {xs : List AV} (h : Shp C.ti (m + 1) 3 xs) : ∃ i, xs = [.int .i64 i] := by
 obtain ⟨i, e, _⟩ := shp_int rfl rfl h
 exact ⟨i, e⟩
theorem s_bool {m : Nat} {xs : List AV} (h : Shp C.ti (m + 1) 4 xs) : ∃ i, xs = [.bool i] := shp_bool rfl rfl h
theorem s_sign {m : Nat} {xs : List AV} (h : Shp C.ti (m + 2) 171 xs) : ∃ v d t, xs = [.int .i64 v, .bool d, .bool t] := by
 obtain ⟨l, hf⟩ := shp_struct (ti := C.ti) rfl rfl h
 obtain ⟨a, b, c, rfl⟩ := len3 l
 obtain ⟨x, hx⟩ := s_int (fld (P := fun _ => True) (hf (0, 3) (by decide)) rfl rfl)
 obtain ⟨y, hy⟩ := s_bool (fld (P := fun _ => True) (hf (1, 4) (by decide)) rfl rfl)
 obtain ⟨z, hz⟩ := s_bool (fld (P := fun _ => True) (hf (2, 4) (by decide)) rfl rfl)
 simp at hx hy hz
 exact ⟨x, y, z, by rw [hx, hy, hz]⟩
theorem s_stp {m : Nat} {xs : List AV} (h : Shp C.ti (m + 2) 176 xs) : ∃ s, xs = stR s := by
 obtain ⟨l, hf⟩ := shp_struct (ti := C.ti) rfl rfl h
 obtain ⟨a, b, c, d, e, rfl⟩ := len5 l
 obtain ⟨x1, h1⟩ := s_int (fld (P := fun _ => True) (hf (0, 3) (by decide)) rfl rfl)
 obtain ⟨x2, h2⟩ := s_int (fld (P := fun _ => True) (hf (1, 3) (by decide)) rfl rfl)
 obtain ⟨x3, h3⟩ := s_int (fld (P := fun _ => True) (hf (2, 3) (by decide)) rfl rfl)
 obtain ⟨x4, h4⟩ := s_int (fld (P := fun _ => True) (hf (3, 3) (by decide)) rfl rfl)
 obtain ⟨x5, h5⟩ := s_int (fld (P := fun _ => True) (hf (4, 3) (by decide)) rfl rfl)
 simp at h1 h2 h3 h4 h5
 exact ⟨⟨x1, x2, x3, x4, x5⟩, by rw [h1, h2, h3, h4, h5]; rfl⟩
theorem s_slice {α : Type} {f : α → List AV} {m t e sz : Nat} {d de : TD} {xs : List AV} (hd : C.ti t = some d) (hk : d.kind = .slice e) (he : C.ti e = some de) (hz : de.size = sz) (hf : ∀ r, Shp C.ti m e r → ∃ x, r = f x) (h : Shp C.ti (m + 1) t xs) :
  ∃ l : List α, xs = [.lslc sz (l.map f) 0 l.length false] ∧ l.length ≤ 9223372036854775807 := by
 obtain ⟨de', rows, h1, rfl, h2, h3⟩ := shp_slice hd hk h
 rw [he] at h1
 cases h1
 obtain ⟨l, rfl⟩ := rows_map (fun r hr => hf r (h3 r hr))
 rw [List.length_map] at h2 ⊢
 exact ⟨l, by rw [hz], h2⟩
theorem s_sts {m : Nat} {xs : List AV} (h : Shp C.ti (m + 3) 172 xs) : ∃ l, xs = [stsA l] ∧ l.length ≤ 9223372036854775807 := s_slice (f := stR) rfl rfl rfl rfl (fun _ h => s_stp h) h
theorem s_ints {m : Nat} {xs : List AV} (h : Shp C.ti (m + 2) 22 xs) : ∃ l, xs = [intsA l] ∧ l.length ≤ 9223372036854775807 := s_slice (f := fun x => [.int .i64 x]) rfl rfl rfl rfl (fun _ h => s_int h) h
theorem s_crs {m : Nat} {xs : List AV} (h : Shp C.ti (m + 2) 196 xs) : ∃ c, xs = crR c := by
 obtain ⟨l, hf⟩ := shp_struct (ti := C.ti) rfl rfl h
 obtain ⟨a, b, c, rfl⟩ := len3 l
 obtain ⟨x, hx⟩ := s_int (fld (P := fun _ => True) (hf (0, 3) (by decide)) rfl rfl)
 obtain ⟨y, hy⟩ := s_int (fld (P := fun _ => True) (hf (1, 3) (by decide)) rfl rfl)
 obtain ⟨z, hz⟩ := s_bool (fld (P := fun _ => True) (hf (2, 4) (by decide)) rfl rfl)
 simp at hx hy hz
 exact ⟨⟨x, y, z⟩, by rw [hx, hy, hz]; rfl⟩
theorem s_crss {m : Nat} {xs : List AV} (h : Shp C.ti (m + 3) 56 xs) : ∃ l, xs = [crsA l] ∧ l.length ≤ 9223372036854775807 := s_slice (f := crR) rfl rfl rfl rfl (fun _ h => s_crs h) h
theorem s_evt {m : Nat} {xs : List AV} (h : Shp C.ti (m + 4) 174 xs) : ∃ e : Evt, xs = evR e ∧ e.stops.length ≤ 9223372036854775807 := by
 obtain ⟨l, hf⟩ := shp_struct (ti := C.ti) rfl rfl h
 obtain ⟨a, b, c, d, e, f, rfl⟩ := len6 l
 obtain ⟨x1, h1⟩ := s_bool (fld (P := fun _ => True) (hf (0, 4) (by decide)) rfl rfl)
 obtain ⟨x2, x3, x4, h2⟩ := s_sign (fld (P := fun _ => True) (hf (1, 171) (by decide)) rfl rfl)
 obtain ⟨x5, h5⟩ := s_bool (fld (P := fun _ => True) (hf (4, 4) (by decide)) rfl rfl)
 obtain ⟨x6, h6, h7⟩ := s_sts (fld (P := fun _ => True) (hf (5, 172) (by decide)) rfl rfl)
 simp at h1 h2 h5 h6
 obtain ⟨h2, h3, h4⟩ := h2
 exact ⟨⟨x1, x2, x3, x4, x5, x6⟩, by rw [h1, h2, h3, h4, h5, h6]; rfl, h7⟩
theorem s_evts {m : Nat} {xs : List AV} (h : Shp C.ti (m + 5) 59 xs) : ∃ l, xs = [evsA l] ∧ l.length ≤ 9223372036854775807 ∧ ∀ e ∈ l, e.stops.length ≤ 9223372036854775807 := by
 obtain ⟨l, h1, h2⟩ := s_slice (f := fun x : { e : Evt // e.stops.length ≤ 9223372036854775807 } => evR x.1) rfl rfl rfl rfl (fun r h => by obtain ⟨e, h1, h2⟩ := s_evt h; exact ⟨⟨e, h2⟩, h1⟩) h
 refine ⟨l.map Subtype.val, ?_, by simpa using h2, fun e he => ?_⟩
 ·rw [h1]; unfold evsA; simp
 ·obtain ⟨x, _, rfl⟩ := List.mem_map.1 he
  exact x.2
theorem shv_piece {m : Nat} {a : AV} (h : ShpV C.ti (m + 6) 61 a) : ∃ p : Pc, a = pcA p ∧ p.Ok := by
 have h : ∃ xs, a = .agg xs ∧ Shp C.ti (m + 6) 61 xs := h
 obtain ⟨xs, rfl, h'⟩ := h
 obtain ⟨l, hf⟩ := shp_struct (ti := C.ti) rfl rfl h'
 obtain ⟨a, b, c, rfl⟩ := len3 l
 have h1 := fld (P := fun _ => True) (hf (0, 58) (by decide)) rfl rfl
 obtain ⟨es, h2, h3, h4⟩ := s_evts (fld (P := fun _ => True) (hf (2, 59) (by decide)) rfl rfl)
 obtain ⟨l, hg⟩ := shp_struct (ti := C.ti) rfl rfl h1
 obtain ⟨cs, h5, h6⟩ := s_crss (fld (P := fun _ => True) (hg (0, 56) (by decide)) rfl rfl)
 obtain ⟨ss, h7, h8⟩ := s_ints (fld (P := fun _ => True) (hg (1, 22) (by decide)) rfl rfl)
 simp at h2 h5 h7
 exact ⟨⟨⟨cs, ss⟩, es⟩, by rw [h2, h5, h7]; rfl, ⟨h6, h8, h3, h4⟩⟩
end Go.Ab.V.S

namespace Go.Ab.V
open Go.Proofs
theorem shv_lim {m : Nat} {a : AV} (h : ShpV C.ti (m + 3) 24 a) : ∃ l, a = lmA l ∧ l.lo.length ≤ 9223372036854775807 ∧ l.hi.length ≤ 9223372036854775807 := by
 have h : ∃ xs, a = .agg xs ∧ Shp C.ti (m + 3) 24 xs := h
 obtain ⟨xs, rfl, h'⟩ := h
 obtain ⟨x, rfl, k1, k2⟩ := s_lm h'
 exact ⟨x, rfl, k1, k2⟩
theorem listV_gr (x : Lm) (n : List Nt) (most : Int) : (∃ e : Int, e ≠ 0 ∧ listV x n most = .tup [.nils, .int .i64 e]) ∨
  (∃ (mo : Nat) (Ls : List Lay), most = (mo : Int) ∧ 1 ≤ mo ∧ mo ≤ 64 ∧ LmOk x ∧ chkN n = 0 ∧ Graph x n Ls ∧ listV x n most = .tup [voisA (voiL (enR x n) mo), .int .i64 0]) := by
 unfold listV
 by_cases c1 : both x n ≠ 0
 ·rw [if_pos c1]
  exact .inl ⟨_, c1, rfl⟩
 rw [if_neg c1]
 have c1 : both x n = 0 := by omega
 obtain ⟨X, hN⟩ := both_zero c1
 by_cases c2 : ¬ (1 ≤ most ∧ most ≤ 64)
 ·rw [if_pos c2]
  exact .inl ⟨1, by decide, rfl⟩
 rw [if_neg c2]
 by_cases c3 : errR x n ≠ 0
 ·rw [if_pos c3]
  exact .inl ⟨_, c3, rfl⟩
 rw [if_neg c3]
 obtain ⟨Ls, hG⟩ := graph_of X hN (by omega)
 exact .inr ⟨most.toNat, Ls, by omega, by omega, by omega, X, hN, hG, rfl⟩
theorem notes30 (p : S.Pc) (hp : p.Ok) : (∃ e : Int, e ≠ 0 ∧ PRet C.P 30 [S.pcA p] (.tup [.nils, .int .i64 e])) ∨ (∃ n : List Nt, n.length ≤ 5600 ∧ PRet C.P 30 [S.pcA p] (.tup [ntsA n, .int .i64 0])) := by
 have h := S.notes17 p hp
 unfold S.notesV at h
 by_cases c : S.chk p = 0
 ·rw [if_pos c] at h
  exact .inr ⟨_, S.notes_len (S.vp c), h⟩
 ·rw [if_neg c] at h
  exact .inl ⟨_, c, h⟩
theorem nvk_split (n : List Nt) (ks : List Int) (i k : Nat) (h : n.length = ks.length) : nvk n ks k = nvk (n.take i) (ks.take i) k ++ nvk (n.drop i) (ks.drop i) k := by
 unfold nvk
 rw [← List.map_append, ← List.filter_append, ← List.zip_append (by rw [List.length_take, List.length_take, h]), List.take_append_drop, List.take_append_drop]
theorem nvk_len {n : List Nt} {ks : List Int} {k : Nat} : (nvk n ks k).length ≤ n.length := by
 unfold nvk
 rw [List.length_map]
 have h1 := List.length_filter_le (fun p : Nt × Int => p.2 == (k : Int) + 1) (n.zip ks)
 have h2 := List.length_zip (l₁ := n) (l₂ := ks)
 omega
theorem parts_ok {x : Lm} (X : LmOk x) {n : List Nt} (hN : chkN n = 0) (hn : n.length ≤ 400) {ks : List Int} {P : List (List Tn)} (hl : P.length = x.lo.length) (hP : ∀ k, k < x.lo.length → P[k]? = some (tns (nvk n ks k))) (ho : ∀ k, (nvk n ks k).Pairwise fun y z => y.f < z.f) : chkP P = 0 := by
 have h5 := X.lo5
 have hm : ∀ p ∈ P, ∃ k, p = tns (nvk n ks k) := fun p hp => by
  obtain ⟨k, hk⟩ := List.mem_iff_getElem?.1 hp
  have := (List.getElem?_eq_some_iff.1 hk).1
  rw [hP k (by omega)] at hk
  cases hk
  exact ⟨k, rfl⟩
 have hb : ∀ k, ∀ y ∈ nvk n ks k, ¬ ntBad y := fun k y hy => (ntsOk_of hN).fit y (nvk_mem hy)
 unfold chkP
 rw [if_neg (by omega), if_neg, if_pos]
 ·rw [List.all_eq_true]
  intro p hp
  obtain ⟨k, rfl⟩ := hm p hp
  refine tns_rgt _ 0 (hb k) (ho k) fun y hy => ?_
  have := hb k y hy
  unfold ntBad at this
  omega
 ·unfold anyB
  rw [List.any_eq_true]
  rintro ⟨p, hp, h⟩
  obtain ⟨k, rfl⟩ := hm p hp
  rw [decide_eq_true_eq, tns_len] at h
  have := nvk_len (n := n) (ks := ks) (k := k)
  omega
def cntK (n : List Nt) (ks : List Int) (i : Nat) (k : Nat) : Nat := (nvk (n.take i) (ks.take i) k).length
theorem cntK_step {n : List Nt} {ks : List Int} (h : n.length = ks.length) {i k : Nat} (hi : i < n.length) (hk : ks[i]'(by omega) = (k : Int) + 1) : cntK n ks (i + 1) = bump (cntK n ks i) k := by
 funext j
 unfold cntK bump
 rw [List.take_succ_eq_append_getElem hi, List.take_succ_eq_append_getElem (show i < ks.length by omega), nvk_snoc (by rw [List.length_take, List.length_take, h]), List.length_append, hk]
 by_cases c : j = k
 ·subst c
  rw [if_pos rfl, if_pos rfl]
  rfl
 ·rw [if_neg c, if_neg (by omega)]
  rfl
theorem note_at {n : List Nt} {ks : List Int} (h : n.length = ks.length) {i k : Nat} (hi : i < n.length) (hk : ks[i]'(by omega) = (k : Int) + 1) : cntK n ks i k < (nvk n ks k).length ∧ ∃ hj, (nvk n ks k)[cntK n ks i k]'hj = n[i] := by
 have hs := nvk_split n ks i k h
 have hd : nvk (n.drop i) (ks.drop i) k = n[i] :: nvk (n.drop (i + 1)) (ks.drop (i + 1)) k := by
  rw [List.drop_eq_getElem_cons hi, List.drop_eq_getElem_cons (show i < ks.length by omega)]
  unfold nvk
  rw [List.zip_cons_cons, List.filter_cons, if_pos (by simpa using hk), List.map_cons]
 have hl : cntK n ks i k < (nvk n ks k).length := by
  rw [hs, List.length_append, hd, List.length_cons]
  unfold cntK
  omega
 refine ⟨hl, hl, ?_⟩
 have : (nvk n ks k)[cntK n ks i k]? = some n[i] := by
  rw [hs]
  unfold cntK
  rw [List.getElem?_append_right (Nat.le_refl _), Nat.sub_self, hd]
  rfl
 exact (List.getElem?_eq_some_iff.1 this).2
def A9 : Ann := fun r => match r with
 | 0 => { slots := [(0, 0), (1, 1)] }
 | 9 => { slots := [(2, 2)] }
 | 13 => { slots := [(2, 3)] }
 | 16 => { slots := [(3, 4)] }
 | 20 => { slots := [(10, 5)] }
 | _ => {}
set_option maxHeartbeats 16000000 in
set_option maxRecDepth 100000 in
theorem law_tablature (p : S.Pc) (hp : p.Ok) (x : Lm) (most : Int) (h1 : x.lo.length ≤ 9223372036854775807) (h2 : x.hi.length ≤ 9223372036854775807) : ACalls C.P 9 [S.pcA p, lmA x, .int .i64 most] Heap.nil fun r _ => r = .bool true := by
 have hC := refCheck_spec x h1 h2
 rcases notes30 p hp with ⟨e, he, hn⟩ | ⟨n, hn3, hn⟩
 ·refine fn_of ok mixed (A := A9) 6 Try.func9 rfl ?_
  (repeat' (first | exact rfl | ((conv => whnf); first | refine ⟨_, hn, ?_⟩ | refine ⟨_, works2, ?_⟩ | exact rfl | exact ⟨rfl, rfl⟩ | refine go1 ?_ | (intro ep) | (refine ifB (fun hb => ?_) (fun hb => ?_) <;> (try simp only [qs] at hb) <;> (try simp (disch := omega) only [wrapI] at hb) <;> (try (exfalso; omega))) | fail)))
 have h3 : n.length ≤ 9223372036854775807 := by omega
 have hM := many10 n 40 (by omega) h3
 cases hb : manyB n.length 40 with
 | true =>
  rw [hb] at hM
  refine fn_of ok mixed (A := A9) 6 Try.func9 rfl ?_
  (repeat' (first | exact rfl | ((conv => whnf); first | refine ⟨_, hn, ?_⟩ | refine ⟨_, hM, ?_⟩ | refine ⟨_, works2, ?_⟩ | exact rfl | exact ⟨rfl, rfl⟩ | refine go1 ?_ | (intro ep) | (refine ifB (fun hb => ?_) (fun hb => ?_) <;> (try simp only [qs] at hb) <;> (try simp (disch := omega) only [wrapI] at hb) <;> (try (exfalso; omega))) | fail)))
 | false =>
 rw [hb] at hM
 have hn40 : n.length ≤ 40 := by
  unfold manyB at hb
  rw [Bool.and_eq_false_iff, decide_eq_false_iff_not, decide_eq_false_iff_not] at hb
  omega
 by_cases cL : chkL x ≠ 0
 ·generalize chkL x = q at hC cL
  refine fn_of ok mixed (A := A9) 6 Try.func9 rfl ?_
  (repeat' (first | exact rfl | ((conv => whnf); first | refine ⟨_, hn, ?_⟩ | refine ⟨_, hM, ?_⟩ | refine ⟨_, hC, ?_⟩ | refine ⟨_, works2, ?_⟩ | exact rfl | exact ⟨rfl, rfl⟩ | refine go1 ?_ | (intro ep) | (refine ifB (fun hb => ?_) (fun hb => ?_) <;> (try simp only [qs] at hb) <;> (try simp (disch := omega) only [wrapI] at hb) <;> (try (exfalso; omega))) | fail)))
 rw [show chkL x = 0 by omega] at hC
 obtain ⟨b, hb0, hb8, hR⟩ := rest22n most 8 (by omega) (by omega)
 have a1 := list12 x n (1 + b) h1 h2 h3
 have hw : IntKind.i64.wrap (1 + b) = 1 + b := wrapI (by omega) (by omega)
 rw [← hw] at a1
 rcases listV_gr x n (1 + b) with ⟨e, he, hV⟩ | ⟨mo, Ls, hmo, hm1, hm2, X, hN, hG, hV⟩
 ·rw [hw, hV, ← hw] at a1
  refine fn_of ok mixed (A := A9) 6 Try.func9 rfl ?_
  (repeat' (first | exact rfl | ((conv => whnf); first | refine ⟨_, hn, ?_⟩ | refine ⟨_, hM, ?_⟩ | refine ⟨_, hC, ?_⟩ | refine ⟨_, hR, ?_⟩ | refine ⟨_, a1, ?_⟩ | refine ⟨_, works2, ?_⟩ | exact rfl | exact ⟨rfl, rfl⟩ | refine go1 ?_ | (intro ep) | (refine ifB (fun hb => ?_) (fun hb => ?_) <;> (try simp only [qs] at hb) <;> (try simp (disch := omega) only [wrapI] at hb) <;> (try (exfalso; omega))) | fail)))
 ·rw [hw, hV, ← hw] at a1
  unfold voisA at a1
  have hsok := graph_sok X hN hG
  have hVk := voiL_ok hsok (most := mo) ⟨hm1, hm2⟩
  have hle := hVk.len
  have X5 := X.lo5
  have X1 := X.lo1
  have Xh := X.hi
  have hget : ∀ i (h : i < (voiL (enR x n) mo).length), ∃ (vw : List Int) (c m : Int), (voiL (enR x n) mo)[i]? = some [intsA vw, .int .i64 c, .int .i64 m] ∧ (valid x n vw).2.1 = 0 := fun i hi => by
   unfold voiL at hi
   rw [List.length_map, List.length_take] at hi
   have hw := List.getElem?_eq_getElem (l := WG (enR x n) 0) (i := i) (by omega)
   refine ⟨vwG (enR x n) 0 (WG (enR x n) 0)[i], (WG (enR x n) 0)[i].c, (WG (enR x n) 0)[i].m, ?_, ?_⟩
   ·unfold voiL
    rw [List.getElem?_map, List.getElem?_take, if_pos (by omega), hw]
    rfl
   ·have := (valid_way X hN hG _).1 _ (List.getElem_mem (l := WG (enR x n) 0) (n := i) (by omega)) rfl
    rw [this.1]
  generalize voiL (enR x n) mo = V at a1 hle hget
  refine fn_of ok mixed (A := A9) 6 Try.func9 rfl ?_
  (repeat' (first | exact rfl | ((conv => whnf); first | refine ⟨_, hn, ?_⟩ | refine ⟨_, hM, ?_⟩ | refine ⟨_, hC, ?_⟩ | refine ⟨_, hR, ?_⟩ | refine ⟨_, a1, ?_⟩ | exact rfl | exact ⟨rfl, rfl⟩ | refine go1 ?_ | (intro ep) | (refine ifB (fun hb => ?_) (fun hb => ?_) <;> (try simp only [qs] at hb) <;> (try simp (disch := omega) only [wrapI] at hb) <;> (try (exfalso; omega))) | fail)))
  all_goals (conv => whnf)
  obtain ⟨q1, hq1⟩ : ∃ q1, q1 = ep := ⟨_, rfl⟩
  rw [← hq1]
  refine loopY ok mixed (A := A9) [4, 7, 49, 50, 51] [1] (S := { i : Nat // i ≤ V.length })
   (fr := fun i => frOf 0 198 [(4, .optr (.s 1) q1 5 0 0), (7, ntsA n), (49, .lslc 3 V 0 V.length false), (50, .int .i64 (V.length : Int)), (51, .int .i64 (i.1 : Int))])
   (h := fun _ => ⟨[.hole, .vec q1 [lmR x], .hole, .hole, .hole, .hole], []⟩) (μ := fun i => V.length - i.1) ⟨0, Nat.zero_le _⟩ ?_ ?_
   [] [] (S' := Unit) (X := fun _ => 0) (frX := fun _ => frOf 0 198 []) (hX := fun _ => ⟨[.hole, .hole, .hole, .hole, .hole, .hole], []⟩)
   [] [] (S2 := Empty) (frR := fun _ => []) (hR := fun _ => Heap.nil) ?_ (fun z => z.elim) ?_
  ·exact rfl
  ·exact rfl
  ·rintro ⟨i, hi⟩
   show aexR _ _ _ (frOf 0 198 [(4, .optr (.s 1) q1 5 0 0), (7, ntsA n), (49, .lslc 3 V 0 V.length false), (50, .int .i64 (V.length : Int)), (51, .int .i64 (i : Int))]) ⟨[.hole, .vec q1 [lmR x], .hole, .hole, .hole, .hole], []⟩ _
   by_cases gi : i < V.length
   ·obtain ⟨vw, c, m, hrow, hvv⟩ := hget i gi
    have hrow : V[0 + ((i : Nat) : Int).toNat]? = some [intsA vw, .int .i64 c, .int .i64 m] := by rw [Nat.zero_add, Int.toNat_natCast]; exact hrow
    obtain ⟨P, hPV, hkl, hPl, hP, ho, hr⟩ := valid_parts X hN hvv
    have b1 := parts23 n vw (x.lo.length : Int) h3 (by omega)
    rw [hPV] at b1
    have hPlen : ∀ p ∈ P, p.length ≤ 5600 := fun p hp => by
     obtain ⟨k, hk⟩ := List.mem_iff_getElem?.1 hp
     have := (List.getElem?_eq_some_iff.1 hk).1
     rw [hP k (by omega)] at hk
     cases hk
     rw [tns_len]
     have := nvk_len (n := n) (ks := vw) (k := k)
     omega
    have b2 := checkParts_spec P (by omega) (fun p hp => by have := hPlen p hp; omega)
    rw [parts_ok X hN (by omega) hPl hP ho] at b2
    unfold prtsA at b1 b2
    (repeat' (first | exact rfl | ((conv => whnf); first | refine optS hrow ?_ | refine ⟨_, b1, ?_⟩ | refine ⟨_, b2, ?_⟩ | exact rfl | exact ⟨rfl, rfl⟩ | refine go1 ?_ | (intro ep) | (refine ifB (fun hb => ?_) (fun hb => ?_) <;> (try simp only [qs] at hb) <;> (try simp (disch := omega) only [wrapI] at hb) <;> (try (exfalso; omega))) | fail)))
    all_goals (conv => whnf)
    rename_i q2 _
    have hz : List.replicate P.length ([.int .i64 0] : List AV) = ints (atL (cntK n vw 0) P.length) := by
     rw [atL_zero]
     rfl
    have hnv : n.length = vw.length := hkl.symm
    refine loopY ok mixed (A := A9) [4, 7, 11, 12, 14, 49, 50, 51, 91, 92, 93] [1, 2, 3] (S := { j : Nat // j ≤ n.length })
     (fr := fun j => frOf 0 198 [(4, .optr (.s 1) q1 5 0 0), (7, ntsA n), (11, .optr (.s 2) q2 3 0 0), (12, prtsA P), (14, .oslc (.s 3) ep 1 0 P.length false), (49, .lslc 3 V 0 V.length false), (50, .int .i64 (V.length : Int)), (51, .int .i64 (i : Int)), (91, ntsA n), (92, .int .i64 (n.length : Int)), (93, .int .i64 (j.1 : Int))])
     (h := fun j => ⟨[.hole, .vec q1 [lmR x], .vec q2 [[intsA vw, .int .i64 c, .int .i64 m]], .vec ep (ints (atL (cntK n vw j.1) P.length)), .hole, .hole], []⟩) (μ := fun j => n.length - j.1) ⟨0, Nat.zero_le _⟩ ?_ ?_
     [4, 7, 12, 14, 49, 50, 51] [1, 3] (S' := Unit) (X := fun _ => 2)
     (frX := fun _ => frOf 0 198 [(4, .optr (.s 1) q1 5 0 0), (7, ntsA n), (12, prtsA P), (14, .oslc (.s 3) ep 1 0 P.length false), (49, .lslc 3 V 0 V.length false), (50, .int .i64 (V.length : Int)), (51, .int .i64 (i : Int))])
     (hX := fun _ => ⟨[.hole, .vec q1 [lmR x], .hole, .vec ep (ints (atL (cntK n vw n.length) P.length)), .hole, .hole], []⟩)
     [] [] (S2 := Empty) (frR := fun _ => []) (hR := fun _ => Heap.nil) ?_ (fun z => z.elim) ?_
    ·exact rfl
    ·show (⟨[.hole, .vec q1 [lmR x], .vec q2 _, .vec ep _, .hole, .hole], []⟩ : Heap) = _
     rw [← hz]
     exact rfl
    ·rintro ⟨j, hj⟩
     show aexR _ _ _ (frOf 0 198 [(4, .optr (.s 1) q1 5 0 0), (7, ntsA n), (11, .optr (.s 2) q2 3 0 0), (12, prtsA P), (14, .oslc (.s 3) ep 1 0 P.length false), (49, .lslc 3 V 0 V.length false), (50, .int .i64 (V.length : Int)), (51, .int .i64 (i : Int)), (91, ntsA n), (92, .int .i64 (n.length : Int)), (93, .int .i64 (j : Int))])
      ⟨[.hole, .vec q1 [lmR x], .vec q2 [[intsA vw, .int .i64 c, .int .i64 m]], .vec ep (ints (atL (cntK n vw j) P.length)), .hole, .hole], []⟩ _
     unfold ntsA prtsA
     by_cases gj : j < n.length
     ·have gv : j < vw.length := by omega
      have hq := hr (n[j], vw[j]) (by
       have : (n.zip vw)[j]'(by rw [List.length_zip]; omega) = (n[j], vw[j]) := List.getElem_zip
       rw [← this]
       exact List.getElem_mem _)
      simp only at hq
      obtain ⟨k, hk⟩ : ∃ k : Nat, vw[j] = (k : Int) + 1 := ⟨(vw[j] - 1).toNat, by omega⟩
      have hkL : k < x.lo.length := by omega
      have hkH : k < x.hi.length := by omega
      have hkP : k < P.length := by omega
      obtain ⟨hc1, hc2, hc3⟩ := note_at hnv gj hk
      have hst := cntK_step hnv gj hk
      have r1 : (n.map ntR)[0 + ((j : Nat) : Int).toNat]? = some (ntR n[j]) := mapR (f := ntR) gj
      have r2 := intsR gv
      obtain ⟨t, ht1, ht2, ht3, ht4⟩ := tns_at (nvk n vw k) (cntK n vw j k) hc1
      have hPk : P[k] = tns (nvk n vw k) := by
       have := hP k hkL
       rw [List.getElem?_eq_getElem hkP] at this
       exact Option.some.inj this
      have r3 : (P.map fun p => [tnsA p])[0 + ((k : Nat) : Int).toNat]? = some [.lslc 3 ((tns (nvk n vw k)).map tnR) 0 (nvk n vw k).length false] := by
       rw [show (P.map fun p => [tnsA p])[0 + ((k : Nat) : Int).toNat]? = some [tnsA P[k]] from mapR (f := fun p => [tnsA p]) hkP, hPk]
       unfold tnsA
       rw [tns_len]
      have r4 : ((tns (nvk n vw k)).map tnR)[0 + ((cntK n vw j k : Nat) : Int).toNat]? = some (tnR t) := by rw [Nat.zero_add, Int.toNat_natCast, List.getElem?_map, ht1]; rfl
      have r5 := intsR hkL
      have r6 := intsR hkH
      have r7 := atL_row (p := cntK n vw j) hkP
      have hset : (ints (atL (cntK n vw j) P.length)).set (0 + (IntKind.i64.wrap ((k : Int) + 1 - 1)).toNat) [.int .i64 (IntKind.i64.wrap ((cntK n vw j k : Int) + 1))] = ints (atL (cntK n vw (j + 1)) P.length) := by
       rw [hst, show IntKind.i64.wrap ((k : Int) + 1 - 1) = (k : Int) by rw [wrapI (by omega) (by omega)]; omega, show IntKind.i64.wrap ((cntK n vw j k : Int) + 1) = (cntK n vw j k : Int) + 1 from wrapI (by omega) (by have := nvk_len (n := n) (ks := vw) (k := k); omega), Nat.zero_add, Int.toNat_natCast, atL_set hkP]
      rw [hc3] at ht2 ht3 ht4
      have hcn := nvk_len (n := n) (ks := vw) (k := k)
      rw [hk, show ((k : Int) + 1 - 1).toNat = k by omega, List.getD_eq_getElem?_getD, List.getD_eq_getElem?_getD, List.getElem?_eq_getElem hkL, List.getElem?_eq_getElem hkH] at hq
      simp only [Option.getD_some] at hq
      rw [hk] at r2
      generalize n[j] = y at r1 ht2 ht3 ht4 hq
      generalize x.lo[k] = lo at r5 hq
      generalize x.hi[k] = hi' at r6 hq
      obtain ⟨ye, yc, yp, yf, yt⟩ := y
      obtain ⟨tp, tf, tt⟩ := t
      simp only at ht2 ht3 ht4 hq
      subst ht2 ht3
      unfold ntR at r1
      unfold tnR at r4
      simp only at r1 r4
      have w1 : IntKind.i64.wrap ((k : Int) + 1 - 1) = (k : Int) := by rw [wrapI (by omega) (by omega)]; omega
      have w2 : IntKind.i64.wrap ((cntK n vw j k : Int) + 1) = (cntK n vw j k : Int) + 1 := wrapI (by omega) (by omega)
      rw [← w1] at r3 r5 r6 r7
      (repeat' (first | exact rfl | ((conv => whnf); first | refine optS r1 ?_ | refine optS r2 ?_ | refine optS r3 ?_ | refine optS r4 ?_ | refine optS r5 ?_ | refine optS r6 ?_ | refine optS r7 ?_ | exact rfl | exact ⟨rfl, rfl⟩ | refine go1 ?_ | (intro ep) | (refine ifB (fun hb => ?_) (fun hb => ?_) <;> (try simp only [qs] at hb) <;> (try simp (disch := omega) only [wrapI] at hb) <;> (try (exfalso; omega))) | fail)))
      all_goals (conv => whnf)
      refine back_of ⟨j + 1, gj⟩ ⟨by (first | exact rfl | (simp (disch := omega) only [wrapI]; exact rfl)), ?_, by simp only; omega⟩
      simp only [← hset]
      exact rfl
     ·have gj : j = n.length := by omega
      subst gj
      (repeat' (first | exact rfl | ((conv => whnf); first | exact rfl | exact ⟨rfl, rfl⟩ | refine go1 ?_ | (intro ep) | (refine ifB (fun hb => ?_) (fun hb => ?_) <;> (try simp only [qs] at hb) <;> (try simp (disch := omega) only [wrapI] at hb) <;> (try (exfalso; omega))) | fail)))
      all_goals (conv => whnf)
      exact back_of () ⟨rfl, rfl, rfl⟩
    ·rintro ⟨⟩
     (repeat' (first | exact rfl | ((conv => whnf); first | exact rfl | exact ⟨rfl, rfl⟩ | refine go1 ?_ | (intro ep) | (refine ifB (fun hb => ?_) (fun hb => ?_) <;> (try simp only [qs] at hb) <;> (try simp (disch := omega) only [wrapI] at hb) <;> (try (exfalso; omega))) | fail)))
     all_goals (conv => whnf)
     refine loopY ok mixed (A := A9) [4, 7, 12, 14, 49, 50, 51, 181, 182] [1, 3] (S := { k : Nat // k ≤ P.length })
      (fr := fun k => frOf 0 198 [(4, .optr (.s 1) q1 5 0 0), (7, ntsA n), (12, prtsA P), (14, .oslc (.s 3) ep 1 0 P.length false), (49, .lslc 3 V 0 V.length false), (50, .int .i64 (V.length : Int)), (51, .int .i64 (i : Int)), (181, .int .i64 (P.length : Int)), (182, .int .i64 (k.1 : Int))])
      (h := fun _ => ⟨[.hole, .vec q1 [lmR x], .hole, .vec ep (ints (atL (cntK n vw n.length) P.length)), .hole, .hole], []⟩) (μ := fun k => P.length - k.1) ⟨0, Nat.zero_le _⟩ ?_ ?_
      [4, 7, 49, 50, 51] [1] (S' := Unit) (X := fun _ => 4)
      (frX := fun _ => frOf 0 198 [(4, .optr (.s 1) q1 5 0 0), (7, ntsA n), (49, .lslc 3 V 0 V.length false), (50, .int .i64 (V.length : Int)), (51, .int .i64 (i : Int))])
      (hX := fun _ => ⟨[.hole, .vec q1 [lmR x], .hole, .hole, .hole, .hole], []⟩)
      [] [] (S2 := Empty) (frR := fun _ => []) (hR := fun _ => Heap.nil) ?_ (fun z => z.elim) ?_
     ·exact rfl
     ·exact rfl
     ·rintro ⟨k, hk⟩
      show aexR _ _ _ (frOf 0 198 [(4, .optr (.s 1) q1 5 0 0), (7, ntsA n), (12, prtsA P), (14, .oslc (.s 3) ep 1 0 P.length false), (49, .lslc 3 V 0 V.length false), (50, .int .i64 (V.length : Int)), (51, .int .i64 (i : Int)), (181, .int .i64 (P.length : Int)), (182, .int .i64 (k : Int))])
       ⟨[.hole, .vec q1 [lmR x], .hole, .vec ep (ints (atL (cntK n vw n.length) P.length)), .hole, .hole], []⟩ _
      unfold prtsA
      by_cases gk : k < P.length
      ·have r7 := atL_row (p := cntK n vw n.length) gk
       have hPk : P[k] = tns (nvk n vw k) := by
        have := hP k (by omega)
        rw [List.getElem?_eq_getElem gk] at this
        exact Option.some.inj this
       have r3 : (P.map fun p => [tnsA p])[0 + ((k : Nat) : Int).toNat]? = some [.lslc 3 ((tns (nvk n vw k)).map tnR) 0 (cntK n vw n.length k) false] := by
        rw [show (P.map fun p => [tnsA p])[0 + ((k : Nat) : Int).toNat]? = some [tnsA P[k]] from mapR (f := fun p => [tnsA p]) gk, hPk]
        unfold tnsA cntK
        rw [tns_len, List.take_length, List.take_of_length_le (by omega)]
       (repeat' (first | exact rfl | ((conv => whnf); first | refine optS r3 ?_ | refine optS r7 ?_ | exact rfl | exact ⟨rfl, rfl⟩ | refine go1 ?_ | (intro ep) | (refine ifB (fun hb => ?_) (fun hb => ?_) <;> (try simp only [qs] at hb) <;> (try simp (disch := omega) only [wrapI] at hb) <;> (try (exfalso; omega))) | fail)))
       all_goals (conv => whnf)
       exact back_of ⟨k + 1, gk⟩ ⟨by (first | exact rfl | (simp (disch := omega) only [wrapI]; exact rfl)), rfl, by simp only; omega⟩
      ·have gk : k = P.length := by omega
       subst gk
       (repeat' (first | exact rfl | ((conv => whnf); first | exact rfl | exact ⟨rfl, rfl⟩ | refine go1 ?_ | (intro ep) | (refine ifB (fun hb => ?_) (fun hb => ?_) <;> (try simp only [qs] at hb) <;> (try simp (disch := omega) only [wrapI] at hb) <;> (try (exfalso; omega))) | fail)))
       all_goals (conv => whnf)
       exact back_of () ⟨rfl, rfl, rfl⟩
     ·rintro ⟨⟩
      (repeat' (first | exact rfl | ((conv => whnf); first | exact rfl | exact ⟨rfl, rfl⟩ | refine go1 ?_ | (intro ep) | (refine ifB (fun hb => ?_) (fun hb => ?_) <;> (try simp only [qs] at hb) <;> (try simp (disch := omega) only [wrapI] at hb) <;> (try (exfalso; omega))) | fail)))
      all_goals (conv => whnf)
      exact back_of ⟨i + 1, gi⟩ ⟨by (first | exact rfl | (simp (disch := omega) only [wrapI]; exact rfl)), rfl, by simp only; omega⟩
   ·have gi : i = V.length := by omega
    subst gi
    (repeat' (first | exact rfl | ((conv => whnf); first | exact rfl | exact ⟨rfl, rfl⟩ | refine go1 ?_ | (intro ep) | (refine ifB (fun hb => ?_) (fun hb => ?_) <;> (try simp only [qs] at hb) <;> (try simp (disch := omega) only [wrapI] at hb) <;> (try (exfalso; omega))) | fail)))
    all_goals (conv => whnf)
    exact back_of () ⟨rfl, rfl, rfl⟩
  ·rintro ⟨⟩
   (repeat' (first | exact rfl | ((conv => whnf); first | refine ⟨_, works2, ?_⟩ | exact rfl | exact ⟨rfl, rfl⟩ | refine go1 ?_ | (intro ep) | (refine ifB (fun hb => ?_) (fun hb => ?_) <;> (try simp only [qs] at hb) <;> (try simp (disch := omega) only [wrapI] at hb) <;> (try (exfalso; omega))) | fail)))
end Go.Ab.V
