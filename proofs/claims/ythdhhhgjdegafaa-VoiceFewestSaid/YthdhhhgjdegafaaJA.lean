/-
  What is proved here serves the law's text: each part says its own claim and its conditions. No condition is left open.
-/
import Derived.Test.YthdhhhgjdegafaaKX
import Derived.Test.YthdhhhgjdegafaaKW
import Derived.Test.YthdhhhgjdegafaaKZ
set_option linter.unusedSimpArgs false
set_option linter.unusedVariables false

/-
  The document's situations and the program's are the same: plain. No condition but what valid notes are.
-/
namespace Go.Ab.V
open Go.Proofs

theorem nts_lt {l : List Nt} (h : chkN l = 0) {i : Nat} : ∀ {j : Nat} (hij : i < j) (hj : j < l.length), l[i].e < l[j].e ∨ (l[i].e = l[j].e ∧ l[i].c < l[j].c)
  | 0, hij, hj => by omega
  | j + 1, hij, hj => by
    have h2 := nts_adj h (i := j) hj
    unfold ntOff at h2
    by_cases e : i = j
    · subst e
      omega
    · have h1 := nts_lt h (i := i) (j := j) (by omega) (by omega)
      omega
theorem nts_ne {l : List Nt} (h : chkN l = 0) {i j : Nat} (hi : i < l.length) (hj : j < l.length) (he : l[i] = l[j]) : i = j := by
  rcases Nat.lt_trichotomy i j with c | c | c
  · have := nts_lt h c hj; rw [he] at this; omega
  · exact c
  · have := nts_lt h c hi; rw [he] at this; omega
theorem look_pos {l : List Nt} {z : Int} (h1 : 0 < z) (h2 : z ≤ l.length) : ∃ h : (z - 1).toNat < l.length, look l z = l[(z - 1).toNat] := by
  have hl : (z - 1).toNat < l.length := by omega
  exact ⟨hl, by unfold look; rw [if_neg (by omega), List.getElem?_eq_getElem hl]; rfl⟩
theorem look_t {l : List Nt} (h : chkN l = 0) {z : Int} (h1 : 0 < z) (h2 : z ≤ l.length) : 0 < (look l z).t := by
  obtain ⟨hl, e⟩ := look_pos h1 h2
  rw [e]
  have := (ntsOk_of h).fit _ (List.getElem_mem hl)
  unfold ntBad at this
  omega
theorem look_inj {l : List Nt} (h : chkN l = 0) {z w : Int} (hz : 0 ≤ z ∧ z ≤ l.length) (hw : 0 ≤ w ∧ w ≤ l.length) (e : look l z = look l w) : z = w := by
  by_cases c1 : z = 0
  · by_cases c2 : w = 0
    · rw [c1, c2]
    · have := look_t h (z := w) (by omega) hw.2
      rw [← e, c1] at this
      simp [look, nt0] at this
  · by_cases c2 : w = 0
    · have := look_t h (z := z) (by omega) hz.2
      rw [e, c2] at this
      simp [look, nt0] at this
    · obtain ⟨h1, e1⟩ := look_pos (l := l) (z := z) (by omega) hz.2
      obtain ⟨h2, e2⟩ := look_pos (l := l) (z := w) (by omega) hw.2
      rw [e1, e2] at e
      have := nts_ne h h1 h2 e
      omega
theorem lookS_inj {n : List Nt} (h : chkN n = 0) {L k : Nat} (hk : k ≤ n.length) : ∀ s t : List Int, ZOk L k s → ZOk L k t → lookS n s = lookS n t → s = t := by
  intro s t hs ht e
  obtain ⟨s0, s1, s2, s3, s4, rfl⟩ := l5 hs.len
  obtain ⟨t0, t1, t2, t3, t4, rfl⟩ := l5 ht.len
  have key : ∀ i, i < 5 → [s0, s1, s2, s3, s4].getD i 0 = [t0, t1, t2, t3, t4].getD i 0 := fun i hi => by
    have b1 := hs.bd i hi
    have b2 := ht.bd i hi
    refine look_inj h (by omega) (by omega) ?_
    rw [← lookS_get n _ hi, ← lookS_get n _ hi, e]
  have k0 := key 0 (by omega)
  have k1 := key 1 (by omega)
  have k2 := key 2 (by omega)
  have k3 := key 3 (by omega)
  have k4 := key 4 (by omega)
  simp at k0 k1 k2 k3 k4
  rw [k0, k1, k2, k3, k4]
theorem look_sit {n : List Nt} (h : chkN n = 0) (x : Lm) (f : Int) {z : Int} (hz : 0 ≤ z ∧ z ≤ n.length) : look n (sitZ x n f z) = fgN x.gap f (look n z) := by
  unfold sitZ fgN
  by_cases c : 0 < z
  · have ht := look_t h c hz.2
    by_cases d : (look n z).t + x.gap < f
    · rw [if_pos ⟨c, d⟩, if_pos ⟨ht, d⟩]; rfl
    · rw [if_neg (fun q => d q.2), if_neg (fun q => d q.2)]
  · have e : z = 0 := by omega
    subst e
    rw [if_neg (by omega), if_neg (by simp [look, nt0])]
theorem lookS_sit {n : List Nt} (h : chkN n = 0) (x : Lm) (f : Int) {L k : Nat} (hk : k ≤ n.length) {s : List Int} (hs : ZOk L k s) : lookS n (sitS x n f s) = fgt x.gap f (lookS n s) := by
  have hm := hs.mem
  obtain ⟨s0, s1, s2, s3, s4, rfl⟩ := l5 hs.len
  have g : ∀ z ∈ [s0, s1, s2, s3, s4], look n (sitZ x n f z) = fgN x.gap f (look n z) := fun z hz => look_sit h x f (by have := hm z hz; omega)
  unfold sitS lookS fgt
  simp only [List.map_cons, List.map_nil, List.getD_cons_zero, List.getD_cons_succ]
  rw [g s0 (by simp), g s1 (by simp), g s2 (by simp), g s3 (by simp), g s4 (by simp)]
theorem lookS_zero (n : List Nt) : lookS n [0, 0, 0, 0, 0] = st0 := rfl

/-- the numbers of voices in turn, and the walk over the notes -/
theorem walk_evt (x : Lm) : ∀ (c i : Nat) (s : St) (m : Int) (r : List Nt) (l ks : List Int), c ≤ r.length → l.length = c → walk (stp x) (r.take c) (s, m) l = (match evt x s m i c r (l ++ ks) with
    | .inl _ => none
    | .inr d => some d)
  | 0, i, s, m, r, l, ks, hr, hl => by
    have : l = [] := List.length_eq_zero_iff.1 hl
    subst this
    simp [walk, evt]
  | c + 1, i, s, m, [], l, ks, hr, hl => by simp at hr
  | c + 1, i, s, m, n :: r, [], ks, hr, hl => by simp at hl
  | c + 1, i, s, m, n :: r, v :: l, ks, hr, hl => by
    simp only [List.take_succ_cons, List.cons_append, walk, evt, stp]
    cases hj : join x s n v with
    | none => rfl
    | some d =>
      simp only [Option.map_some]
      exact walk_evt x c (i + 1) d.2 (m + d.1) r l ks (by simpa using hr) (by simpa using hl)
theorem walk_has {x : Lm} (h5 : x.lo.length ≤ 5) {e : Int} : ∀ (p : List Nt) (s s' : St × Int) (l U : List Int), (∀ y ∈ p, 0 < y.t ∧ y.e = e) → (∀ u ∈ U, 0 < (s.1.get (u - 1).toNat).t ∧ (s.1.get (u - 1).toNat).e = e) → walk (stp x) p s l = some s' →
    ∀ u ∈ U ++ l, 0 < (s'.1.get (u - 1).toNat).t ∧ (s'.1.get (u - 1).toNat).e = e
  | [], s, s', [], U, hp, hU, hw => by
    simp only [walk, Option.some.injEq] at hw
    subst hw
    simpa using hU
  | [], s, s', v :: l, U, hp, hU, hw => by simp [walk] at hw
  | y :: p, s, s', [], U, hp, hU, hw => by simp [walk] at hw
  | y :: p, s, s', v :: l, U, hp, hU, hw => by
    unfold walk at hw
    cases hs : stp x s y v with
    | none => rw [hs] at hw; simp at hw
    | some s1 =>
      rw [hs] at hw
      simp only at hw
      have := walk_has h5 p s1 s' l (U ++ [v]) (fun z hz => hp z (List.mem_cons_of_mem _ hz)) (fun u hu => ?_) hw
      · intro u hu
        exact this u (by simpa using hu)
      · unfold stp at hs
        rw [Option.map_eq_some_iff] at hs
        obtain ⟨d, hd, rfl⟩ := hs
        obtain ⟨j1, j2, j3⟩ := join_some hd
        have hy := hp y (List.mem_cons_self ..)
        simp only [j3]
        rw [St.get_set _ (by omega)]
        split
        · exact hy
        · rename_i ne
          rcases List.mem_append.1 hu with h | h
          · exact hU u h
          · rw [List.mem_singleton.1 h] at ne; exact absurd rfl ne
theorem chC_chs (L : Nat) : ∀ (k : Nat) (C : List (List Int)), chC L k C = chs (upto 0 L) okC k C
  | 0, C => rfl
  | k + 1, C => by
    show chC L k (extU L C) = chs (upto 0 L) okC k (extL (upto 0 L) okC C)
    exact chC_chs L k _
theorem upto_vcs (x : Lm) : upto 0 x.lo.length = vcs x := by unfold upto vcs; simp
theorem flatMap_eqOn {α β : Type} {f g : α → List β} : ∀ {l : List α}, (∀ a ∈ l, f a = g a) → l.flatMap f = l.flatMap g
  | [], _ => rfl
  | a :: l, h => by rw [List.flatMap_cons, List.flatMap_cons, h a (List.mem_cons_self ..), flatMap_eqOn fun b hb => h b (List.mem_cons_of_mem _ hb)]
theorem filterMap_flatMap {α β : Type} (f : α → Option β) : ∀ (l : List α), l.filterMap f = l.flatMap fun a => (f a).toList
  | [] => rfl
  | a :: l => by
    rw [List.filterMap_cons, List.flatMap_cons, ← filterMap_flatMap f l]
    cases f a <;> rfl
/-- what the program does behind a situation is what the document does -/
theorem mvE_ref {x : Lm} {n : List Nt} (X : LmOk x) (hN : chkN n = 0) {i a cnt : Nat} (hs : (segR 0 n)[i]? = some (a, cnt)) {z : List Int} (hz : ZOk x.lo.length a z) :
    mvE x n i (lookS n z) = (optsR x cnt).filterMap fun l => (refT x n a cnt z l).map fun r => ⟨l, r.2.1, r.2.2, frg x n (lookS n r.1) (i + 1)⟩ := by
  obtain ⟨sg, ha⟩ := seg_at hs (ntsOk_of hN).len
  simp only at sg ha
  have hle := sg.le
  have hrl : ((n.drop a).take cnt).length = cnt := by simp; omega
  have hno := fun y hy => (seg_notes hN sg ha y hy).2
  unfold mvE
  rw [hs]
  simp only
  unfold mvR
  rw [dfs_chs (stp x) (vcs x) okC ((n.drop a).take cnt) (lookS n z, 0) (fun p m q l s v e hw hv ho => ?_), hrl, ← upto_vcs, ← chC_chs, flatMap_opt, filterMap_flatMap]
  · show List.flatMap _ (optsR x cnt) = _
    refine flatMap_eqOn fun l hl => ?_
    have hl2 : l.length = cnt := by
      have := chC_mem x.lo.length cnt [[]] 0 (fun l hl => by rw [List.mem_singleton.1 hl]; simp) l hl
      omega
    have hpk : (padK n a l).drop a = l ++ List.replicate (n.length - a - l.length) 0 := by
      unfold padK
      rw [List.append_assoc, List.drop_append_of_le_length (by simp), List.drop_of_length_le (by simp), List.nil_append]
    have hev := fun d => evt_nxt (d := d) X hN sg (padK_len (n := n) (a := a) (l := l) (by omega)) cnt a z 0 hz.nx (Nat.le_refl _) rfl
    rw [walk_evt x cnt a (lookS n z) 0 (n.drop a) l (List.replicate (n.length - a - l.length) 0) (by simp; omega) hl2]
    unfold refT
    rw [hpk] at hev ⊢
    generalize evt x (lookS n z) 0 a cnt (n.drop a) (l ++ List.replicate (n.length - a - l.length) 0) = E at hev
    cases E with
    | inl j => rfl
    | inr d =>
      obtain ⟨h1, _⟩ := hev d rfl
      simp only [Option.map_some, fin]
      split
      · rfl
      · simp only [Option.map_some, Option.toList_some, h1]
  · have hp : ∀ y ∈ p, 0 < y.t ∧ y.e = n[a].e := fun y hy => hno y (by rw [e]; exact List.mem_append_left _ hy)
    have hm := hno m (by rw [e]; simp)
    have := walk_has X.lo5 p (lookS n z, 0) s l [] hp (fun u hu => by simp at hu) hw v (by
      unfold okC at ho
      simp only [Bool.not_eq_eq_eq_not, Bool.not_false, List.contains_eq_mem, decide_eq_true_eq] at ho
      simpa using ho)
    unfold stp
    rw [Option.map_eq_none_iff]
    cases hj : join x s.1 m v with
    | none => rfl
    | some d =>
      obtain ⟨_, j2, _⟩ := join_some hj
      exact absurd ⟨this.1, by rw [this.2, hm.2]⟩ j2
end Go.Ab.V

/-
  The document's search and the program's find the same: plain. No condition but what valid limits and notes are.
-/
namespace Go.Ab.V
open Go.Proofs

/-! ### one event -/
theorem putN_pre {α : Type} [DecidableEq α] (A : List α) (t : α) : A <+: putN A t := by
  unfold putN
  split
  · exact List.prefix_refl A
  · exact List.prefix_append A [t]
theorem ddA_pre {α : Type} [DecidableEq α] : ∀ (T A : List α), A <+: ddA A T
  | [], A => List.prefix_refl A
  | t :: T, A => (putN_pre A t).trans (ddA_pre T (putN A t))
theorem idxA_put {α : Type} [DecidableEq α] {A B : List α} {t : α} (h : putN A t <+: B) : B[idxA t A]? = some t := by
  have key : (putN A t)[idxA t A]? = some t := by
    by_cases c : t ∈ A
    · rw [show putN A t = A from if_pos c]
      exact idxA_get c
    · rw [show putN A t = A ++ [t] from if_neg c]
      have : idxA t A = A.length := idxA_none fun j hj e => c (List.mem_of_getElem? e)
      rw [this]
      simp
  obtain ⟨C, rfl⟩ := h
  rw [List.getElem?_append_left (List.getElem?_eq_some_iff.1 key).1]
  exact key
/-- the document's moves as the program's, the situations behind being F -/
def toMv (F : List St) (h : RMv) : Mv := ⟨h.ks, h.c, h.m, F.getD h.to st0⟩
/-- where the document's choices lead -/
def tgts (x : Lm) (n : List Nt) (a cnt : Nat) (z : List Int) (opts : List (List Int)) : List (List Int) := opts.filterMap fun l => (refT x n a cnt z l).map fun r => sitS x n (frN n (a + cnt)) r.1
theorem rHere_cons (x : Lm) (n : List Nt) (a cnt : Nat) (z l : List Int) (opts : List (List Int)) (acc : List (List Int) × List RMv) : rHere x n a cnt z (l :: opts) acc = rHere x n a cnt z opts (rOpt x n a cnt z acc l) := rfl
theorem rHere_in {x : Lm} {n : List Nt} {a cnt : Nat} {z : List Int} (hb : a + cnt < n.length) : ∀ (opts : List (List Int)) (D : List (List Int)) (acc : List RMv),
    (rHere x n a cnt z opts (D, acc)).1 = ddA D (tgts x n a cnt z opts) ∧ ∀ B : List (List Int), ddA D (tgts x n a cnt z opts) <+: B →
      ∃ M, (rHere x n a cnt z opts (D, acc)).2 = acc ++ M ∧ (∀ h ∈ M, h.to < B.length) ∧ M.map (fun h => (h.ks, h.c, h.m, B[h.to]?)) = opts.filterMap fun l => (refT x n a cnt z l).map fun r => (l, r.2.1, r.2.2, some (sitS x n (frN n (a + cnt)) r.1))
  | [], D, acc => ⟨rfl, fun B hB => ⟨[], by simp [rHere], by simp, rfl⟩⟩
  | l :: opts, D, acc => by
    rw [rHere_cons]
    unfold tgts
    rw [List.filterMap_cons, List.filterMap_cons]
    cases hr : refT x n a cnt z l with
    | none =>
      rw [show rOpt x n a cnt z (D, acc) l = (D, acc) by unfold rOpt; rw [hr]]
      simp only [Option.map_none]
      exact rHere_in hb opts D acc
    | some r =>
      obtain ⟨nx, c, m⟩ := r
      rw [show rOpt x n a cnt z (D, acc) l = (putN D (sitS x n (frN n (a + cnt)) nx), acc ++ [⟨l, idxA (sitS x n (frN n (a + cnt)) nx) D, c, m⟩]) by unfold rOpt; rw [hr]; simp only [if_pos hb]]
      simp only [Option.map_some]
      obtain ⟨h1, h2⟩ := rHere_in hb opts (putN D (sitS x n (frN n (a + cnt)) nx)) (acc ++ [⟨l, idxA (sitS x n (frN n (a + cnt)) nx) D, c, m⟩])
      refine ⟨h1, fun B hB => ?_⟩
      obtain ⟨M, e1, e2, e3⟩ := h2 B hB
      have hg := idxA_put (t := sitS x n (frN n (a + cnt)) nx) (A := D) (B := B) ((ddA_pre _ _).trans hB)
      refine ⟨⟨l, idxA (sitS x n (frN n (a + cnt)) nx) D, c, m⟩ :: M, by rw [e1]; simp, fun h hh => ?_, ?_⟩
      · rcases List.mem_cons.1 hh with rfl | hh
        · exact (List.getElem?_eq_some_iff.1 hg).1
        · exact e2 h hh
      · rw [List.map_cons, e3, hg]
theorem rHere_end {x : Lm} {n : List Nt} {a cnt : Nat} {z : List Int} (hb : ¬ a + cnt < n.length) : ∀ (opts : List (List Int)) (D : List (List Int)) (acc : List RMv),
    (rHere x n a cnt z opts (D, acc)).1 = D ∧ (rHere x n a cnt z opts (D, acc)).2 = acc ++ opts.filterMap fun l => (refT x n a cnt z l).map fun r => ⟨l, 0, r.2.1, r.2.2⟩
  | [], D, acc => ⟨rfl, by simp [rHere]⟩
  | l :: opts, D, acc => by
    rw [rHere_cons, List.filterMap_cons]
    cases hr : refT x n a cnt z l with
    | none =>
      rw [show rOpt x n a cnt z (D, acc) l = (D, acc) by unfold rOpt; rw [hr]]
      simp only [Option.map_none]
      exact rHere_end hb opts D acc
    | some r =>
      rw [show rOpt x n a cnt z (D, acc) l = (D, acc ++ [⟨l, 0, r.2.1, r.2.2⟩]) by unfold rOpt; rw [hr]; simp only [if_neg hb]]
      simp only [Option.map_some]
      obtain ⟨h1, h2⟩ := rHere_end hb opts D (acc ++ [⟨l, 0, r.2.1, r.2.2⟩])
      exact ⟨h1, by rw [h2]; simp⟩

/-! ### all situations of an event -/
theorem rMoves_fst {x : Lm} {n : List Nt} {a cnt : Nat} {opts : List (List Int)} (hb : a + cnt < n.length) : ∀ (st : List (List Int)) (D : List (List Int)) (acc : List (List RMv)),
    (rMoves x n a cnt opts st (D, acc)).1 = ddA D (st.flatMap fun z => tgts x n a cnt z opts)
  | [], D, acc => rfl
  | z :: st, D, acc => by
    unfold rMoves
    rw [List.foldl_cons, List.flatMap_cons, ddA_app]
    unfold rSt
    simp only
    rw [(rHere_in hb opts D []).1]
    exact rMoves_fst hb st _ _
/-- the program's moves M stand for the document's -/
def MvOk (F : List St) (L : List Mv) (M : List RMv) : Prop := (∀ h ∈ M, h.to < F.length) ∧ L = M.map (toMv F)
theorem rMoves_snd {x : Lm} {n : List Nt} (X : LmOk x) (hN : chkN n = 0) {i a cnt : Nat} (hs : (segR 0 n)[i]? = some (a, cnt)) (hs2 : (segR 0 n)[i + 1]?.map (·.1) = some (a + cnt)) (hb : a + cnt < n.length) : ∀ (st : List (List Int)) (hst : ∀ z ∈ st, ZOk x.lo.length a z) (D : List (List Int)) (acc : List (List RMv)) (B : List (List Int)),
    (rMoves x n a cnt (optsR x cnt) st (D, acc)).1 <+: B → (∃ M, (rMoves x n a cnt (optsR x cnt) st (D, acc)).2 = acc ++ M ∧ M.length = st.length ∧ ∀ (k : Nat) (z : List Int) (m : List RMv), st[k]? = some z → M[k]? = some m → MvOk (B.map (lookS n)) (mvE x n i (lookS n z)) m)
  | [], hst, D, acc, B, hB => ⟨[], by simp [rMoves], rfl, fun k z m h => by simp at h⟩
  | z :: st, hst, D, acc, B, hB => by
    obtain ⟨sg, ha⟩ := seg_at hs (ntsOk_of hN).len
    simp only at sg ha
    have hz := hst z (List.mem_cons_self ..)
    unfold rMoves at hB ⊢
    rw [List.foldl_cons] at hB ⊢
    unfold rSt at hB ⊢
    simp only at hB ⊢
    obtain ⟨M, e1, e2, e3⟩ := rMoves_snd X hN hs hs2 hb st (fun w hw => hst w (List.mem_cons_of_mem _ hw)) (rHere x n a cnt z (optsR x cnt) (D, [])).1 (acc ++ [(rHere x n a cnt z (optsR x cnt) (D, [])).2]) B hB
    obtain ⟨h1, h2⟩ := rHere_in (x := x) (z := z) hb (optsR x cnt) D []
    have hpre : ddA D (tgts x n a cnt z (optsR x cnt)) <+: B := by
      refine List.IsPrefix.trans ?_ hB
      show _ <+: (rMoves x n a cnt (optsR x cnt) st _).1
      rw [rMoves_fst hb, h1]
      exact ddA_pre _ _
    obtain ⟨m0, f1, f2, f3⟩ := h2 B hpre
    rw [List.nil_append] at f1
    refine ⟨(rHere x n a cnt z (optsR x cnt) (D, [])).2 :: M, by unfold rMoves rSt at e1; rw [e1]; simp, by simp [e2], fun k w m hk hm => ?_⟩
    cases k with
    | succ k => exact e3 k w m (by simpa using hk) (by simpa using hm)
    | zero =>
      simp only [List.getElem?_cons_zero, Option.some.injEq] at hk hm
      subst hk hm
      rw [f1]
      refine ⟨fun h hh => by rw [List.length_map]; exact f2 h hh, ?_⟩
      rw [mvE_ref X hN hs hz]
      have hgo : ∀ (r : List Int × Int × Int), (∃ l ∈ optsR x cnt, refT x n a cnt z l = some r) → frg x n (lookS n r.1) (i + 1) = lookS n (sitS x n (frN n (a + cnt)) r.1) := by
        rintro r ⟨l, hl, hr⟩
        have hl2 : l.length = cnt := by
          have := chC_mem x.lo.length cnt [[]] 0 (fun l hl => by rw [List.mem_singleton.1 hl]; simp) l hl
          omega
        rcases refT_turn (l := l) X hN sg hz hl2 with ⟨q, _⟩ | ⟨nx, c, m, q, _, hnz, _⟩
        · rw [q] at hr; cases hr
        · rw [q] at hr
          cases hr
          rw [lookS_sit hN x _ sg.le hnz]
          unfold frg
          cases hq : (segR 0 n)[i + 1]? with
          | none => rw [hq] at hs2; simp at hs2
          | some q =>
            rw [hq] at hs2
            simp only [Option.map_some, Option.some.injEq] at hs2
            simp only [hs2]
      have e5 := congrArg (List.map fun t : List Int × Int × Int × Option (List Int) => (⟨t.1, t.2.1, t.2.2.1, ((t.2.2.2).map (lookS n)).getD st0⟩ : Mv)) f3
      rw [List.map_map] at e5
      have e6 : (m0.map ((fun t : List Int × Int × Int × Option (List Int) => (⟨t.1, t.2.1, t.2.2.1, ((t.2.2.2).map (lookS n)).getD st0⟩ : Mv)) ∘ fun h => (h.ks, h.c, h.m, B[h.to]?))) = m0.map (toMv (B.map (lookS n))) := by
        refine List.map_congr_left fun h _ => ?_
        simp only [Function.comp, toMv, List.getD_eq_getElem?_getD, List.getElem?_map]
      rw [e6] at e5
      rw [e5, List.map_filterMap]
      refine filterMap_eqOn fun l hl => ?_
      cases hr : refT x n a cnt z l with
      | none => rfl
      | some r =>
        simp only [Option.map_some, Option.getD_some]
        rw [hgo r ⟨l, hl, hr⟩]
theorem rMoves_last {x : Lm} {n : List Nt} (X : LmOk x) (hN : chkN n = 0) {i a cnt : Nat} (hs : (segR 0 n)[i]? = some (a, cnt)) (hs2 : (segR 0 n)[i + 1]? = none) (hb : ¬ a + cnt < n.length) : ∀ (st : List (List Int)) (hst : ∀ z ∈ st, ZOk x.lo.length a z) (D : List (List Int)) (acc : List (List RMv)),
    (rMoves x n a cnt (optsR x cnt) st (D, acc)).1 = D ∧ ∃ M, (rMoves x n a cnt (optsR x cnt) st (D, acc)).2 = acc ++ M ∧ M.length = st.length ∧ ∀ (k : Nat) (z : List Int) (m : List RMv), st[k]? = some z → M[k]? = some m → MvOk [st0] (mvE x n i (lookS n z)) m
  | [], hst, D, acc => ⟨rfl, [], by simp [rMoves], rfl, fun k z m h => by simp at h⟩
  | z :: st, hst, D, acc => by
    have hz := hst z (List.mem_cons_self ..)
    obtain ⟨h1, h2⟩ := rHere_end (x := x) (z := z) hb (optsR x cnt) D []
    unfold rMoves
    rw [List.foldl_cons]
    unfold rSt
    simp only
    rw [h1, h2, List.nil_append]
    obtain ⟨g1, M, e1, e2, e3⟩ := rMoves_last X hN hs hs2 hb st (fun w hw => hst w (List.mem_cons_of_mem _ hw)) D (acc ++ [(optsR x cnt).filterMap fun l => (refT x n a cnt z l).map fun r => ⟨l, 0, r.2.1, r.2.2⟩])
    refine ⟨g1, _ :: M, by unfold rMoves rSt at e1; rw [e1, List.append_assoc, List.singleton_append], by simp [e2], fun k w m hk hm => ?_⟩
    cases k with
    | succ k => exact e3 k w m (by simpa using hk) (by simpa using hm)
    | zero =>
      simp only [List.getElem?_cons_zero, Option.some.injEq] at hk hm
      subst hk hm
      refine ⟨fun h hh => ?_, ?_⟩
      · obtain ⟨l, _, hl⟩ := List.mem_filterMap.1 hh
        rw [Option.map_eq_some_iff] at hl
        obtain ⟨r, _, rfl⟩ := hl
        simp
      · rw [mvE_ref X hN hs hz, List.map_filterMap]
        refine filterMap_eqOn fun l hl => ?_
        cases hr : refT x n a cnt z l with
        | none => rfl
        | some r =>
          simp only [Option.map_some, toMv, frg, hs2]
          rfl
end Go.Ab.V

/-
  The document's search and the program's come to the same end: plain. No condition but what valid limits and notes are.
-/
namespace Go.Ab.V
open Go.Proofs

/-! ### the program's layer, whatever its size -/
def layG (x : Lm) (n : List Nt) (i : Nat) : List St → List Int → Lay → Lay
  | [], _, y => y
  | v :: f, cs, y => layG x n i f (cs.drop 1) (evL x n i v (cs.headD 0) y)
theorem foldl_tell (w : Int) : ∀ (L : List Mv) (y : Lay), (L.foldl (fun y m => tellL w y m.to) y).1 = ddA y.1 (L.map (·.to))
  | [], y => rfl
  | m :: L, y => by
    rw [List.foldl_cons, foldl_tell w L]
    rfl
theorem evL_fst (x : Lm) (n : List Nt) (i : Nat) (v : St) (w : Int) (y : Lay) : (evL x n i v w y).1 = ddA y.1 ((mvE x n i v).map (·.to)) := foldl_tell w _ y
theorem layG_fst (x : Lm) (n : List Nt) (i : Nat) : ∀ (f : List St) (cs : List Int) (y : Lay), (layG x n i f cs y).1 = ddA y.1 (f.flatMap fun v => (mvE x n i v).map (·.to))
  | [], cs, y => rfl
  | v :: f, cs, y => by
    unfold layG
    rw [layG_fst x n i f, evL_fst, List.flatMap_cons, ddA_app]
theorem layF_G (x : Lm) (n : List Nt) (i : Nat) (last : Bool) : ∀ (f : List St) (cs : List Int) (y : Lay), (last = true ∨ y.1.length ≤ 1000) → layF x n i last f cs y = if last = false ∧ 1000 < (layG x n i f cs y).1.length then none else some (layG x n i f cs y)
  | [], cs, y, h => by
    unfold layF layG
    rw [if_neg]
    rintro ⟨h1, h2⟩
    rcases h with h | h
    · rw [h] at h1; cases h1
    · omega
  | v :: f, cs, y, h => by
    unfold layF layG
    by_cases c : last = false ∧ 1000 < (evL x n i v (cs.headD 0) y).1.length
    · rw [if_pos c, if_pos]
      refine ⟨c.1, Nat.lt_of_lt_of_le c.2 ?_⟩
      rw [layG_fst]
      exact ddA_le
    · rw [if_neg c]
      refine layF_G x n i last f (cs.drop 1) _ ?_
      cases last with
      | true => exact .inl rfl
      | false =>
        right
        exact Nat.le_of_not_lt fun h => c ⟨rfl, h⟩
theorem evL_ok {x : Lm} (X : LmOk x) {n : List Nt} (hN : chkN n = 0) (i : Nat) {v : St} (hv : v.bd ∧ v.ok) {w : Int} (hw : 0 ≤ w ∧ w ≤ 1099511627776) {y : Lay} (hy : LayOk y) : LayOk (evL x n i v w y) := by
  have := (evJ_ok hw (mvE_to X hN i hv) hy _ (Nat.le_refl _)).1
  rwa [← evL_evJ] at this
theorem layG_ok {x : Lm} (X : LmOk x) {n : List Nt} (hN : chkN n = 0) (i : Nat) : ∀ (f : List St) (cs : List Int) (y : Lay), (∀ v ∈ f, v.bd ∧ v.ok) → (∀ w ∈ cs, 0 ≤ w ∧ w ≤ 1099511627776) → LayOk y → LayOk (layG x n i f cs y)
  | [], cs, y, hf, hc, hy => hy
  | v :: f, cs, y, hf, hc, hy => by
    unfold layG
    refine layG_ok X hN i f (cs.drop 1) _ (fun u hu => hf u (List.mem_cons_of_mem _ hu)) (fun w hw => hc w (List.mem_of_mem_drop hw)) (evL_ok X hN i (hf v (List.mem_cons_self ..)) ?_ hy)
    cases cs with
    | nil => simp
    | cons w r => exact hc w (List.mem_cons_self ..)

/-! ### one event of both -/
theorem tgts_ok {x : Lm} {n : List Nt} (X : LmOk x) (hN : chkN n = 0) {a cnt : Nat} (sg : SegOk n a cnt) {z : List Int} (hz : ZOk x.lo.length a z) : ∀ t ∈ tgts x n a cnt z (optsR x cnt), ZOk x.lo.length (a + cnt) t := by
  intro t ht
  obtain ⟨l, hl, h⟩ := List.mem_filterMap.1 ht
  rw [Option.map_eq_some_iff] at h
  obtain ⟨r, hr, rfl⟩ := h
  have hl2 : l.length = cnt := by
    have := chC_mem x.lo.length cnt [[]] 0 (fun l hl => by rw [List.mem_singleton.1 hl]; simp) l hl
    omega
  rcases refT_turn (l := l) X hN sg hz hl2 with ⟨q, _⟩ | ⟨nx, c, m, q, _, hnz, _⟩
  · rw [q] at hr; cases hr
  · rw [q] at hr
    cases hr
    exact sitS_ok hnz x n _
theorem tgts_to {x : Lm} {n : List Nt} (X : LmOk x) (hN : chkN n = 0) {i a cnt : Nat} (hs : (segR 0 n)[i]? = some (a, cnt)) (hs2 : (segR 0 n)[i + 1]?.map (·.1) = some (a + cnt)) {z : List Int} (hz : ZOk x.lo.length a z) :
    (mvE x n i (lookS n z)).map (·.to) = (tgts x n a cnt z (optsR x cnt)).map (lookS n) := by
  obtain ⟨sg, ha⟩ := seg_at hs (ntsOk_of hN).len
  simp only at sg ha
  rw [mvE_ref X hN hs hz]
  unfold tgts
  rw [List.map_filterMap, List.map_filterMap]
  refine filterMap_eqOn fun l hl => ?_
  have hl2 : l.length = cnt := by
    have := chC_mem x.lo.length cnt [[]] 0 (fun l hl => by rw [List.mem_singleton.1 hl]; simp) l hl
    omega
  rcases refT_turn (l := l) X hN sg hz hl2 with ⟨q, _⟩ | ⟨nx, c, m, q, _, hnz, _⟩
  · rw [q]; rfl
  · rw [q]
    simp only [Option.map_some]
    rw [lookS_sit hN x _ sg.le hnz]
    unfold frg
    cases hq : (segR 0 n)[i + 1]? with
    | none => rw [hq] at hs2; simp at hs2
    | some q =>
      rw [hq] at hs2
      simp only [Option.map_some, Option.some.injEq] at hs2
      simp only [hs2]
theorem anyM_false {M : List (List RMv)} : anyM M = false ↔ ∀ m ∈ M, m = [] := by
  unfold anyM
  rw [List.any_eq_false]
  constructor
  · intro h m hm
    have := h m hm
    simpa using this
  · intro h m hm
    rw [h m hm]; simp
/-- what an event comes to -/
structure EvOk (x : Lm) (n : List Nt) (i : Nat) (y Y : Lay) (M : List (List RMv)) : Prop where
  len : M.length = y.1.length
  mv : Y.1 ≠ [] → ∀ (k : Nat) (v : St) (m : List RMv), y.1[k]? = some v → M[k]? = some m → MvOk Y.1 (mvE x n i v) m
  any : anyM M = false ↔ Y.1 = []
theorem ev_in {x : Lm} {n : List Nt} (X : LmOk x) (hN : chkN n = 0) {i a cnt : Nat} (hs : (segR 0 n)[i]? = some (a, cnt)) (hs2 : (segR 0 n)[i + 1]?.map (·.1) = some (a + cnt)) (hb : a + cnt < n.length) {st : List (List Int)} (hst : ∀ z ∈ st, ZOk x.lo.length a z) {y : Lay} (hy : y.1 = st.map (lookS n)) :
    EvOk x n i y (layG x n i y.1 y.2 ([], [])) (rEv x n a cnt st).2 ∧ (layG x n i y.1 y.2 ([], [])).1 = (rEv x n a cnt st).1.map (lookS n) ∧ ∀ z ∈ (rEv x n a cnt st).1, ZOk x.lo.length (a + cnt) z := by
  obtain ⟨sg, ha⟩ := seg_at hs (ntsOk_of hN).len
  simp only at sg ha
  have hT : ∀ z ∈ st.flatMap (fun z => tgts x n a cnt z (optsR x cnt)), ZOk x.lo.length (a + cnt) z := fun z hz => by
    obtain ⟨w, hw, hz⟩ := List.mem_flatMap.1 hz
    exact tgts_ok X hN sg (hst w hw) z hz
  have h1 : (rEv x n a cnt st).1 = ddA [] (st.flatMap fun z => tgts x n a cnt z (optsR x cnt)) := rMoves_fst hb st [] []
  have h2 : (layG x n i y.1 y.2 ([], [])).1 = (rEv x n a cnt st).1.map (lookS n) := by
    rw [layG_fst, h1, hy, List.flatMap_map]
    rw [flatMap_eqOn (g := fun z => (tgts x n a cnt z (optsR x cnt)).map (lookS n)) fun z hz => tgts_to X hN hs hs2 (hst z hz)]
    rw [← List.map_flatMap]
    exact ddA_map (f := lookS n) (P := ZOk x.lo.length (a + cnt)) (fun s t hs ht e => lookS_inj hN sg.le s t hs ht e) (A := []) (by simp) hT
  obtain ⟨M, e1, e2, e3⟩ := rMoves_snd X hN hs hs2 hb st hst [] [] (rEv x n a cnt st).1 (List.prefix_refl _)
  rw [List.nil_append] at e1
  have e1 : (rEv x n a cnt st).2 = M := e1
  rw [e1]
  have hmv : ∀ (k : Nat) (v : St) (m : List RMv), y.1[k]? = some v → M[k]? = some m → MvOk (layG x n i y.1 y.2 ([], [])).1 (mvE x n i v) m := fun k v m hk hm => by
    rw [hy, List.getElem?_map, Option.map_eq_some_iff] at hk
    obtain ⟨z, hz, rfl⟩ := hk
    rw [h2]
    exact e3 k z m hz hm
  refine ⟨⟨by rw [e2, hy, List.length_map], fun _ => hmv, ?_⟩, h2, by rw [h1]; exact ddA_all (by simp) hT⟩
  rw [anyM_false, layG_fst]
  constructor
  · intro h
    rw [show y.1.flatMap (fun v => (mvE x n i v).map (·.to)) = [] from ?_]
    · rfl
    rw [List.flatMap_eq_nil_iff]
    intro v hv
    obtain ⟨k, hk⟩ := List.mem_iff_getElem?.1 hv
    have hkl := (List.getElem?_eq_some_iff.1 hk).1
    have hlm : k < M.length := by rw [e2]; rw [hy, List.length_map] at hkl; exact hkl
    have := (hmv k v M[k] hk (List.getElem?_eq_getElem hlm)).2
    rw [this, h _ (List.getElem_mem hlm)]
    rfl
  · intro h m hm
    have h := ddA_nil.1 h
    rw [List.flatMap_eq_nil_iff] at h
    obtain ⟨k, hk⟩ := List.mem_iff_getElem?.1 hm
    have hkl := (List.getElem?_eq_some_iff.1 hk).1
    have hly : k < y.1.length := by rw [hy, List.length_map, ← e2]; exact hkl
    have h3 := h _ (List.getElem_mem hly)
    have := (hmv k y.1[k] m (List.getElem?_eq_getElem hly) hk).2
    rw [this, List.map_map] at h3
    exact List.map_eq_nil_iff.1 h3
theorem ddA_same {T : List St} (h : ∀ t ∈ T, t = st0) (hne : T ≠ []) : ddA [] T = [st0] := by
  cases T with
  | nil => exact absurd rfl hne
  | cons t T =>
    have : t = st0 := h t (List.mem_cons_self ..)
    subst this
    show ddA (putN [] st0) T = _
    have h1 : putN [] st0 = [st0] := by simp [putN]
    rw [h1]
    have : ∀ T : List St, (∀ t ∈ T, t = st0) → ddA [st0] T = [st0] := by
      intro T
      induction T with
      | nil => intro _; rfl
      | cons t T ih =>
        intro h
        have : t = st0 := h t (List.mem_cons_self ..)
        subst this
        show ddA (putN [st0] st0) T = _
        rw [show putN [st0] st0 = [st0] by simp [putN]]
        exact ih fun u hu => h u (List.mem_cons_of_mem _ hu)
    exact this T fun u hu => h u (List.mem_cons_of_mem _ hu)
theorem ev_last {x : Lm} {n : List Nt} (X : LmOk x) (hN : chkN n = 0) {i a cnt : Nat} (hs : (segR 0 n)[i]? = some (a, cnt)) (hs2 : (segR 0 n)[i + 1]? = none) (hb : ¬ a + cnt < n.length) {st : List (List Int)} (hst : ∀ z ∈ st, ZOk x.lo.length a z) {y : Lay} (hy : y.1 = st.map (lookS n)) :
    EvOk x n i y (layG x n i y.1 y.2 ([], [])) (rEv x n a cnt st).2 ∧ (rEv x n a cnt st).1 = [] := by
  obtain ⟨g1, M, e1, e2, e3⟩ := rMoves_last X hN hs hs2 hb st hst [] []
  rw [List.nil_append] at e1
  have e1 : (rEv x n a cnt st).2 = M := e1
  rw [e1]
  have hmv : ∀ (k : Nat) (v : St) (m : List RMv), y.1[k]? = some v → M[k]? = some m → MvOk [st0] (mvE x n i v) m := fun k v m hk hm => by
    rw [hy, List.getElem?_map, Option.map_eq_some_iff] at hk
    obtain ⟨z, hz, rfl⟩ := hk
    exact e3 k z m hz hm
  have hto : ∀ t ∈ y.1.flatMap (fun v => (mvE x n i v).map (·.to)), t = st0 := fun t ht => by
    obtain ⟨v, hv, ht⟩ := List.mem_flatMap.1 ht
    obtain ⟨k, hk⟩ := List.mem_iff_getElem?.1 hv
    have hkl := (List.getElem?_eq_some_iff.1 hk).1
    have hlm : k < M.length := by rw [e2]; rw [hy, List.length_map] at hkl; exact hkl
    have := (hmv k v M[k] hk (List.getElem?_eq_getElem hlm))
    rw [this.2, List.map_map] at ht
    obtain ⟨h, hh, rfl⟩ := List.mem_map.1 ht
    have := this.1 h hh
    simp only [List.length_singleton] at this
    simp [toMv, show h.to = 0 by omega]
  refine ⟨⟨by rw [e2, hy, List.length_map], fun hne => ?_, ?_⟩, g1⟩
  · rw [layG_fst] at hne ⊢
    rw [ddA_same hto (fun e => hne (by simp only [e]; rfl))]
    exact hmv
  · rw [anyM_false, layG_fst]
    constructor
    · intro h
      rw [show y.1.flatMap (fun v => (mvE x n i v).map (·.to)) = [] from ?_]
      · rfl
      rw [List.flatMap_eq_nil_iff]
      intro v hv
      obtain ⟨k, hk⟩ := List.mem_iff_getElem?.1 hv
      have hkl := (List.getElem?_eq_some_iff.1 hk).1
      have hlm : k < M.length := by rw [e2]; rw [hy, List.length_map] at hkl; exact hkl
      have := (hmv k v M[k] hk (List.getElem?_eq_getElem hlm)).2
      rw [this, h _ (List.getElem_mem hlm)]
      rfl
    · intro h m hm
      have h := ddA_nil.1 h
      rw [List.flatMap_eq_nil_iff] at h
      obtain ⟨k, hk⟩ := List.mem_iff_getElem?.1 hm
      have hkl := (List.getElem?_eq_some_iff.1 hk).1
      have hly : k < y.1.length := by rw [hy, List.length_map, ← e2]; exact hkl
      have h3 := h _ (List.getElem_mem hly)
      have := (hmv k y.1[k] m (List.getElem?_eq_getElem hly) hk).2
      rw [this, List.map_map] at h3
      exact List.map_eq_nil_iff.1 h3

/-! ### all events -/
/-- the layers, and the moves between them -/
def GR (x : Lm) (n : List Nt) : Nat → List Lay → Steps → Prop
  | _, [_], [] => True
  | i, y :: y' :: Ls, mv :: M => (mv.length = y.1.length ∧ (∀ (k : Nat) (v : St) (m : List RMv), y.1[k]? = some v → mv[k]? = some m → MvOk y'.1 (mvE x n i v) m) ∧ y' = layG x n i y.1 y.2 ([], []) ∧ LayOk y' ∧ y'.1 ≠ []) ∧ GR x n (i + 1) (y' :: Ls) M
  | _, _, _ => False
structure RunExp (x : Lm) (n : List Nt) (k i : Nat) (y : Lay) (Ls : List Lay) (out : Steps) (R : Int × List Lay × Nat) (E : Steps × Int × Int) : Prop where
  err : R.1 = E.2.2
  errs : E.2.2 = 0 ∨ E.2.2 = 2 ∨ E.2.2 = 72
  at' : E.2.2 ≠ 0 → E.2.1 = (R.2.2 : Int) ∧ R.2.2 < (segR 0 n).length
  good : E.2.2 = 0 → R.2.2 = (segR 0 n).length - 1 ∧ ∃ Ln En, R.2.1 = Ls ++ y :: Ln ∧ E.1 = out ++ En ∧ Ln.length = k ∧ En.length = k ∧ GR x n i (y :: Ln) En
theorem run_exp {x : Lm} {n : List Nt} (X : LmOk x) (hN : chkN n = 0) : ∀ (k i a : Nat) (st : List (List Int)) (y : Lay) (Ls : List Lay) (out : Steps), i + k = (segR 0 n).length → Chain n.length a ((segR 0 n).drop i) → LayOk y → (k ≠ 0 → y.1 = st.map (lookS n) ∧ ∀ z ∈ st, ZOk x.lo.length a z) →
    RunExp x n k i y Ls out (runL x n k i y Ls) (expR x n ((segR 0 n).drop i) i st out)
  | 0, i, a, st, y, Ls, out, hk, hch, hy, hst => by
    rw [List.drop_of_length_le (by omega), expR, runL]
    exact ⟨rfl, .inl rfl, fun h => absurd rfl h, fun _ => ⟨by simp only; omega, [], [], by simp, by simp, rfl, rfl, trivial⟩⟩
  | k + 1, i, a, st, y, Ls, out, hk, hch, hy, hst => by
    have hi : i < (segR 0 n).length := by omega
    obtain ⟨h1, h2⟩ := hst (by omega)
    have hs := List.getElem?_eq_getElem hi
    rw [List.drop_eq_getElem_cons hi] at hch ⊢
    generalize (segR 0 n)[i] = q at hs hch
    obtain ⟨a', cnt⟩ := q
    obtain ⟨rfl, hc, hch⟩ := hch
    have hYok : LayOk (layG x n i y.1 y.2 ([], [])) := layG_ok X hN i y.1 y.2 ([], []) hy.bd hy.cnt ⟨by simp, by simp, rfl, by simp⟩
    have hlF := layF_G x n i (k == 0) y.1 y.2 ([], []) (.inr (by simp))
    have main : EvOk x n i y (layG x n i y.1 y.2 ([], [])) (rEv x n a' cnt st).2 ∧ (k = 0 → (rEv x n a' cnt st).1 = []) ∧ (k ≠ 0 → (layG x n i y.1 y.2 ([], [])).1 = (rEv x n a' cnt st).1.map (lookS n) ∧ ∀ z ∈ (rEv x n a' cnt st).1, ZOk x.lo.length (a' + cnt) z) := by
      by_cases c : k = 0
      · have hs2 : (segR 0 n)[i + 1]? = none := List.getElem?_eq_none (by omega)
        rw [List.drop_of_length_le (by omega)] at hch
        have hb : ¬ a' + cnt < n.length := by have : a' + cnt = n.length := hch; omega
        obtain ⟨e1, e2⟩ := ev_last X hN hs hs2 hb h2 h1
        exact ⟨e1, fun _ => e2, fun h => absurd c h⟩
      · have hi2 : i + 1 < (segR 0 n).length := by omega
        have hs2 := List.getElem?_eq_getElem hi2
        rw [List.drop_eq_getElem_cons hi2] at hch
        generalize (segR 0 n)[i + 1] = q at hs2 hch
        obtain ⟨b, d⟩ := q
        obtain ⟨rfl, hd, hch⟩ := hch
        have := chain_le hch
        have hb : a' + cnt < n.length := by omega
        obtain ⟨e1, e2, e3⟩ := ev_in X hN hs (by rw [hs2]; rfl) hb h2 h1
        exact ⟨e1, fun h => absurd h c, fun _ => ⟨e2, e3⟩⟩
    obtain ⟨me, m0, m1⟩ := main
    rw [runL, expR, hlF]
    generalize hY : layG x n i y.1 y.2 ([], []) = Y at me m1 hYok
    generalize rEv x n a' cnt st = E at me m0 m1
    have hlen : (k == 0) = false → Y.1.length = E.1.length := fun h => by
      rw [(m1 (by simpa using h)).1, List.length_map]
    by_cases cY : Y.1 = []
    · have cA := me.any.2 cY
      rw [if_pos cA, if_neg (by rw [cY]; simp)]
      simp only
      rw [if_pos cY]
      exact ⟨rfl, .inr (.inr rfl), fun _ => ⟨rfl, hi⟩, fun h => absurd h (by show ¬ (72 : Int) = 0; decide)⟩
    · have cA : ¬ anyM E.2 = false := fun h => cY (me.any.1 h)
      rw [if_neg cA]
      by_cases cM : (k == 0) = false ∧ 1000 < Y.1.length
      · rw [if_pos cM, if_pos (by rw [← hlen cM.1]; exact cM.2)]
        exact ⟨rfl, .inr (.inl rfl), fun _ => ⟨rfl, hi⟩, fun h => absurd h (by show ¬ (2 : Int) = 0; decide)⟩
      · rw [if_neg cM, if_neg]
        · simp only
          rw [if_neg cY]
          have ih := run_exp X hN k (i + 1) (a' + cnt) E.1 Y (Ls ++ [y]) (out ++ [E.2]) (by omega) hch hYok m1
          refine ⟨ih.err, ih.errs, ih.at', fun h0 => ?_⟩
          obtain ⟨g0, Ln, En, g1, g2, g3, g4, g5⟩ := ih.good h0
          refine ⟨g0, Y :: Ln, E.2 :: En, by rw [g1]; simp, by rw [g2]; simp, by simp [g3], by simp [g4], ⟨me.len, me.mv cY, hY.symm, hYok, cY⟩, g5⟩
        · intro h
          by_cases c : k = 0
          · rw [m0 c] at h; simp at h
          · have c' : (k == 0) = false := by simpa using c
            exact cM ⟨c', by rw [hlen c']; exact h⟩
end Go.Ab.V

/-
  A run of which the error alone is asked; limits with some voices alone: plain and walk. No condition but the sizes of numbers.
-/
namespace Go.Ab.V
open Go.Proofs

/-- the error of a run -/
def errR (x : Lm) (n : List Nt) : Int := (runL x n (segR 0 n).length 0 ([st0], [1]) []).1
/-- what is handed a literal may be handed a part of it -/
theorem PRet.arg1 {P : Program} {f : FuncId} {a b : AV} {post : List AV} {r : AV} (h : Sub a b) (hc : PRet P f (b :: post) r) : PRet P f (a :: post) r :=
  ⟨⟨⟨fun σ w vs s hv => by
    obtain ⟨v0, vr, hvs⟩ : ∃ v0 vr, vs.toList = v0 :: vr := by
      cases hl : vs.toList with
      | nil => have := hv.1; rw [hl] at this; simp at this
      | cons a b => exact ⟨a, b, rfl⟩
    refine hc.out.out.use σ w vs s ?_
    rw [hvs] at hv ⊢
    exact .cons (h.use σ v0 (hv.2 0 _ _ rfl rfl)) ⟨by have := hv.1; simpa using this, fun i b u x y => hv.2 (i + 1) b u (by simpa using x) (by simpa using y)⟩⟩⟩⟩
theorem run35F (x : Lm) (n : List Nt) (X : LmOk x) (hN : chkN n = 0) {h : Heap} {K : AV → Heap → Prop} (hK : K (.tup [.u, .int .i64 (errR x n)]) h) : ACalls C.P 35 [lmA x, ntsA n] h K := by
  refine ⟨fun σ w vs s hv => ?_⟩
  refine ((run35 x n X hN).fetch (by rfl) s hv).mono ?_
  rintro e w' ⟨v, rfl, E, σ', r, h', hq, m, hr⟩
  obtain ⟨es, e1, ε, rfl, hd⟩ := wq_ex hq
  have m2 : Go.Ab.Mv σ' ⟨h.st, h.dy ++ h'.dy.map (AObj.sh h.dy.length E)⟩ w' σ' h w' := m.sim.forget fun i o ho => by
    right
    cases i with
    | s k => exact ho
    | d k =>
      have ho : h.dy[k]? = some o := ho
      show (h.dy ++ h'.dy.map (AObj.sh h.dy.length E))[k]? = some o
      rw [List.getElem?_append_left (List.getElem?_eq_some_iff.1 ho).1]
      exact ho
  refine ⟨v, rfl, σ', h, _, hK, m.trans m2, ?_⟩
  have hr : VRel σ' (.tup [.optr (.d (h.dy.length + 0)) (es + E) 8 0 0, .int .i64 (errR x n)]) v := hr
  cases hr with
  | tup l w =>
    refine .tup l fun i c v x y => ?_
    cases i with
    | zero =>
      simp only [List.getElem?_cons_zero, Option.some.injEq] at x
      subst x
      exact .u
    | succ i => exact w (i + 1) c v (by simpa using x) y

/-- some voices alone -/
def only (x : Lm) (s : List Int) : Lm := ⟨s.map fun v => x.lo.getD (v - 1).toNat 0, s.map fun v => x.hi.getD (v - 1).toNat 0, x.leap, x.gap, x.cross⟩
theorem prs_get : ∀ {lo hi : List Int}, prs lo hi = 0 → ∀ (k : Nat) (h1 : k < lo.length) (h2 : k < hi.length), 0 ≤ lo[k] ∧ lo[k] ≤ hi[k] ∧ hi[k] ≤ 127
  | [], _, _, k, h1, _ => by simp at h1
  | _ :: _, [], _, k, _, h2 => by simp at h2
  | a :: r, b :: s, h, k, h1, h2 => by
    unfold prs at h
    split at h
    · simp at h
    · cases k with
      | zero => simp only [List.getElem_cons_zero]; omega
      | succ k => exact prs_get h k (by simpa using h1) (by simpa using h2)
theorem prs_map {lo hi : List Int} (h : prs lo hi = 0) (hl : hi.length = lo.length) : ∀ {s : List Int}, (∀ v ∈ s, 1 ≤ v ∧ v ≤ lo.length) → prs (s.map fun v => lo.getD (v - 1).toNat 0) (s.map fun v => hi.getD (v - 1).toNat 0) = 0
  | [], _ => rfl
  | v :: s, hs => by
    have hv := hs v (List.mem_cons_self ..)
    have h1 : (v - 1).toNat < lo.length := by omega
    have h2 : (v - 1).toNat < hi.length := by omega
    have := prs_get h (v - 1).toNat h1 h2
    simp only [List.map_cons, prs]
    rw [List.getD_eq_getElem?_getD, List.getD_eq_getElem?_getD, List.getElem?_eq_getElem h1, List.getElem?_eq_getElem h2, Option.getD_some, Option.getD_some, if_neg (by omega)]
    exact prs_map h hl fun u hu => hs u (List.mem_cons_of_mem _ hu)
theorem only_ok {x : Lm} (X : LmOk x) {s : List Int} (h1 : 1 ≤ s.length) (h5 : s.length ≤ 5) (hs : ∀ v ∈ s, 1 ≤ v ∧ v ≤ x.lo.length) : LmOk (only x s) :=
  ⟨by simpa [only] using h1, by simpa [only] using h5, by simp [only], X.leap, X.gap, X.cross, prs_map X.prs X.hi hs⟩
/-- all ascending continuations by k numbers, from one on -/
def subs (L : Nat) : Nat → Nat → List Int → List (List Int)
  | 0, _, l => [l]
  | k + 1, a, l => (List.range (L - a)).flatMap fun d => subs L k (a + d + 1) (l ++ [((a + d : Nat) : Int) + 1])
theorem subs_mem (L : Nat) : ∀ (k a : Nat) (l : List Int), ∀ s ∈ subs L k a l, s.length = l.length + k ∧ ((∀ v ∈ l, 1 ≤ v ∧ v ≤ L) → ∀ v ∈ s, 1 ≤ v ∧ v ≤ L)
  | 0, a, l, s, hs => by
    unfold subs at hs
    rw [List.mem_singleton.1 hs]
    exact ⟨rfl, fun h => h⟩
  | k + 1, a, l, s, hs => by
    unfold subs at hs
    obtain ⟨d, hd, hs⟩ := List.mem_flatMap.1 hs
    have hd := List.mem_range.1 hd
    obtain ⟨h1, h2⟩ := subs_mem L k (a + d + 1) _ s hs
    refine ⟨by rw [h1]; simp; omega, fun h => h2 fun v hv => ?_⟩
    rcases List.mem_append.1 hv with q | q
    · exact h v q
    · rw [List.mem_singleton.1 q]; omega
end Go.Ab.V

/-
  A set of voices is tried: the program's walk. No condition but the sizes of numbers.
-/
namespace Go.Ab.V
open Go.Proofs

theorem eqsP_pure {n ep : Nat} {rows : List (List AV)} (h : pureRows rows) : eqsP n ep rows.flatten := eqsP_no fun a ha => by
  obtain ⟨r, hr, ha⟩ := List.mem_flatten.1 ha
  have := h r hr a ha
  cases a <;> first | rfl | simp [AV.pure1] at this
theorem noS_pure {rows : List (List AV)} (h : pureRows rows) : ∀ r ∈ rows, r.all noS = true := fun r hr => List.all_eq_true.2 fun a ha => by
  have := h r hr a ha
  cases a <;> first | rfl | simp [AV.pure1] at this
/-- what lies before the tried set: limits, notes, the result, the error; n, size, the tried one's function, the list, the closure, its cells -/
structure FSr where
  x : Lm
  n : List Nt
  e0 : Nat
  e1 : Nat
  e2 : Nat
  e3 : Nat
  e4 : Nat
  e5 : Nat
  e6 : Nat
  e7 : Nat
  e8 : Nat
  size : Nat
def FSr.caps (S : FSr) : List AV := [.optr (.s 0) S.e0 5 0 0, .optr (.s 1) S.e1 1 0 0, .optr (.s 3) S.e3 1 0 0, .optr (.s 2) S.e2 1 0 0]
def FSr.caps70 (S : FSr) : List AV := [.optr (.s 7) S.e7 1 0 0, .optr (.s 5) S.e5 1 0 0, .optr (.s 6) S.e6 1 0 0, .optr (.s 4) S.e4 1 0 0, .optr (.s 8) S.e8 1 0 0]
def FSr.L (S : FSr) : Nat := S.x.lo.length
def FSr.h4 (S : FSr) (o : AV) (e : Int) : List AObj := [.vec S.e0 [lmR S.x], .vec S.e1 [[ntsA S.n]], .vec S.e2 [[o]], .vec S.e3 [[.int .i64 e]]]
def FSr.h10 (S : FSr) (e9 : Nat) (R : List (List AV)) (j : Nat) : List AObj :=
  S.h4 .nils 72 ++ [.vec S.e4 [[.int .i64 (S.L : Int)]], .vec S.e5 [[.int .i64 (S.size : Int)]], .vec S.e6 [[.fn (.func 46) [] S.caps]], .vec S.e7 [[.oslc (.s 9) e9 1 0 j false]], .vec S.e8 [[.fn (.func 70) [] S.caps70]], .vec e9 R]
/-- what a try says -/
def FSr.F (S : FSr) (s : List Int) : Int := errR (only S.x s) S.n
def A46 : Ann := fun r => match r with
  | 1 => { slots := [(1, 10)] }
  | 6 => { slots := [(8, 11), (9, 12)] }
  | 7 => { slots := [(8, 13), (9, 14)] }
  | _ => {}
@[irreducible] def TQ (S : FSr) (s : List Int) (e9 : Nat) (R : List (List AV)) (r : AV) (h' : Heap) : Prop :=
  (S.F s = 72 ∧ r = .bool true ∧ h'.st.take 10 = S.h10 e9 R s.length ∧ h'.dy = []) ∨ (S.F s ≠ 72 ∧ r = .bool false ∧ h'.st.take 4 = S.h4 (intsA s) (S.F s) ∧ h'.dy = [])
set_option maxHeartbeats 16000000 in
set_option maxRecDepth 100000 in
theorem try46 (S : FSr) (X : LmOk S.x) (hN : chkN S.n = 0) (s : List Int) (h1 : 1 ≤ s.length) (h5 : s.length ≤ 5) (hs : ∀ v ∈ s, 1 ≤ v ∧ v ≤ S.x.lo.length) (e9 : Nat) (R : List (List AV)) (hR : R.take s.length = ints s) (hRp : pureRows R) :
    ACalls C.P 46 ([.oslc (.s 9) e9 1 0 s.length false] ++ S.caps) ⟨S.h10 e9 R s.length, []⟩ (TQ S s e9 R) := by
  have hRl : s.length ≤ R.length := by
    have := congrArg List.length hR
    simp [ints] at this
    omega
  have hRg : ∀ (k : Nat) (h : k < s.length), R[0 + ((k : Nat) : Int).toNat]? = some [.int .i64 s[k]] := fun k h => by
    rw [Nat.zero_add, Int.toNat_natCast]
    have h3 : (R.take s.length)[k]? = some [.int .i64 s[k]] := by rw [hR]; have := intsR h; rwa [Nat.zero_add, Int.toNat_natCast] at this
    rw [List.getElem?_take, if_pos h] at h3
    exact h3
  obtain ⟨o, ho⟩ : ∃ o, o = only S.x s := ⟨_, rfl⟩
  have XO : LmOk o := by rw [ho]; exact only_ok X h1 h5 hs
  have hlo : o.lo.length = s.length := by rw [ho]; simp [only]
  have hhi : o.hi.length = s.length := by rw [ho]; simp [only]
  have hFd : errR o S.n = S.F s := by rw [ho]; rfl
  have ho5 : o.leap = S.x.leap ∧ o.gap = S.x.gap ∧ o.cross = S.x.cross := by rw [ho]; exact ⟨rfl, rfl, rfl⟩
  have hget : ∀ (k : Nat) (h : k < s.length), 1 ≤ s[k] ∧ (s[k] - 1).toNat < S.x.lo.length ∧ s[k] ≤ 5 ∧ o.lo[k]? = some (S.x.lo.getD (s[k] - 1).toNat 0) ∧ o.hi[k]? = some (S.x.hi.getD (s[k] - 1).toNat 0) := fun k h => by
    have := hs _ (List.getElem_mem h)
    have := X.lo5
    exact ⟨by omega, by omega, by omega, by rw [ho]; simp [only, h], by rw [ho]; simp [only, h]⟩
  have hxh := X.hi
  have hx5 := X.lo5
  refine fn_of (okz [] [35, 44] []) mixed (A := A46) 6 Try.func46 rfl ?_
  unfold FSr.h10 FSr.h4
  (repeat' (first | exact rfl | ((conv => whnf); first | exact rfl | exact ⟨rfl, rfl⟩ | refine ⟨(by kernel_rfl : drawOk _ _ _ _ = true), ?_⟩ | refine ⟨(by kernel_rfl : planOk _ _ _ _ = true), ?_⟩ | refine ⟨rfl, ?_⟩ | refine ⟨by (first | omega | (simp (disch := omega) only [wrapI]; omega) | (simp (disch := omega) only [wrapI]; simp; omega) | (simp; omega)), ?_⟩ | (intro ep) | fail)))
  all_goals (conv => whnf)
  refine wk_liftC 10 12 ep 1 0 0 (by decide) (by exact rfl) (by exact rfl) (by exact rfl) ?_
  intro a12
  refine wk_liftC 10 14 ep 1 0 1 (by decide) (by exact rfl) (by exact rfl) (by exact rfl) ?_
  intro a14
  refine loopZ (okz [] [35, 44] []) mixed (A := A46) [0, 1, 2, 3, 4, 7, 15, 16, 17] [0, 1, 2, 3, 4, 5, 6, 7, 8, 9, 10, 12, 14] (S := { z : Nat × Nat × Nat // z.1 ≤ s.length })
    (fr := fun z => frOf 0 55 [(0, .oslc (.s 9) e9 1 0 s.length false), (1, .optr (.s 0) S.e0 5 0 0), (2, .optr (.s 1) S.e1 1 0 0), (3, .optr (.s 3) S.e3 1 0 0), (4, .optr (.s 2) S.e2 1 0 0), (7, .optr (.s 10) ep 5 0 0), (15, .oslc (.s 9) e9 1 0 s.length false), (16, .int .i64 (s.length : Int)), (17, .int .i64 (z.1.1 : Int))])
    (h := fun z => ⟨S.h10 e9 R s.length ++ [.vec ep [[.oslc (.s 12) z.1.2.1 1 0 z.1.1 false, .oslc (.s 14) z.1.2.2 1 0 z.1.1 false, .int .i64 S.x.leap, .int .i64 S.x.gap, .int .i64 S.x.cross]], .hole, .vec z.1.2.1 (ints (o.lo.take z.1.1)), .hole, .vec z.1.2.2 (ints (o.hi.take z.1.1)), .hole], []⟩) (μ := fun z => s.length - z.1.1) ⟨(0, a12, a14), Nat.zero_le _⟩ ?_ ?_
    [0, 1, 2, 3, 4, 7] [0, 1, 2, 3, 4, 5, 6, 7, 8, 9, 10, 12, 14] (S' := Nat × Nat) (X := fun _ => 0)
    (frX := fun _ => frOf 0 55 [(0, .oslc (.s 9) e9 1 0 s.length false), (1, .optr (.s 0) S.e0 5 0 0), (2, .optr (.s 1) S.e1 1 0 0), (3, .optr (.s 3) S.e3 1 0 0), (4, .optr (.s 2) S.e2 1 0 0), (7, .optr (.s 10) ep 5 0 0)])
    (hX := fun z => ⟨S.h10 e9 R s.length ++ [.vec ep [[.oslc (.s 12) z.1 1 0 s.length false, .oslc (.s 14) z.2 1 0 s.length false, .int .i64 S.x.leap, .int .i64 S.x.gap, .int .i64 S.x.cross]], .hole, .vec z.1 (ints o.lo), .hole, .vec z.2 (ints o.hi), .hole], []⟩)
    [] [] (S2 := Empty) (frR := fun _ => []) (hR := fun _ => Heap.nil) ?_ (fun z => z.elim) ?_
  · exact rfl
  · exact rfl
  · rintro ⟨⟨k, b12, b14⟩, hk⟩
    simp only at hk
    show aexR _ _ _ (frOf 0 55 [(0, .oslc (.s 9) e9 1 0 s.length false), (1, .optr (.s 0) S.e0 5 0 0), (2, .optr (.s 1) S.e1 1 0 0), (3, .optr (.s 3) S.e3 1 0 0), (4, .optr (.s 2) S.e2 1 0 0), (7, .optr (.s 10) ep 5 0 0), (15, .oslc (.s 9) e9 1 0 s.length false), (16, .int .i64 (s.length : Int)), (17, .int .i64 (k : Int))])
      ⟨S.h10 e9 R s.length ++ [.vec ep [[.oslc (.s 12) b12 1 0 k false, .oslc (.s 14) b14 1 0 k false, .int .i64 S.x.leap, .int .i64 S.x.gap, .int .i64 S.x.cross]], .hole, .vec b12 (ints (o.lo.take k)), .hole, .vec b14 (ints (o.hi.take k)), .hole], []⟩ _
    unfold FSr.h10 FSr.h4
    (conv => whnf)
    refine ifB (fun g => ?_) (fun g => ?_)
    · simp only [decide_eq_true_eq] at g
      have g : k < s.length := by omega
      have hrow := hRg k g
      obtain ⟨q1, q2, q5, q3, q4⟩ := hget k g
      have tl : o.lo.take (k + 1) = o.lo.take k ++ [S.x.lo.getD (s[k] - 1).toNat 0] := by rw [List.take_add_one, q3]; rfl
      have th : o.hi.take (k + 1) = o.hi.take k ++ [S.x.hi.getD (s[k] - 1).toNat 0] := by rw [List.take_add_one, q4]; rfl
      have vlo : (ints S.x.lo)[0 + (IntKind.i64.wrap (s[k] - 1)).toNat]? = some [.int .i64 (S.x.lo.getD (s[k] - 1).toNat 0)] := by
        rw [wrapI (by omega) (by omega), List.getD_eq_getElem?_getD, List.getElem?_eq_getElem q2]
        have := intsR q2
        rw [show (((s[k] - 1).toNat : Nat) : Int).toNat = (s[k] - 1).toNat by omega] at this
        exact this
      have vhi : (ints S.x.hi)[0 + (IntKind.i64.wrap (s[k] - 1)).toNat]? = some [.int .i64 (S.x.hi.getD (s[k] - 1).toNat 0)] := by
        have q2' : (s[k] - 1).toNat < S.x.hi.length := by omega
        rw [wrapI (by omega) (by omega), List.getD_eq_getElem?_getD, List.getElem?_eq_getElem q2']
        have := intsR q2'
        rw [show (((s[k] - 1).toNat : Nat) : Int).toNat = (s[k] - 1).toNat by omega] at this
        exact this
      clear q3 q4
      generalize S.x.lo.getD (s[k] - 1).toNat 0 = vl at vlo tl
      generalize S.x.hi.getD (s[k] - 1).toNat 0 = vh at vhi th
      generalize s[k] = v at hrow q1 q2 q5 vlo vhi
      have l1 : (ints (o.lo.take k)).length = k := by simp [ints]; omega
      have l2 : (ints (o.hi.take k)).length = k := by simp [ints]; omega
      have t1 : List.take k (List.drop 0 (ints (o.lo.take k))) = ints (o.lo.take k) := by rw [List.drop_zero, List.take_of_length_le (by omega)]
      have t2 : List.take k (List.drop 0 (ints (o.hi.take k))) = ints (o.hi.take k) := by rw [List.drop_zero, List.take_of_length_le (by omega)]
      (repeat' (first | exact rfl | ((conv => whnf); first | refine optS hrow ?_ | refine optS vlo ?_ | refine optS vhi ?_ | exact rfl | exact ⟨rfl, rfl⟩ | refine ⟨(by kernel_rfl : drawOk _ _ _ _ = true), ?_⟩ | refine ⟨(by kernel_rfl : planOk _ _ _ _ = true), ?_⟩ | refine ⟨rfl, ?_⟩ | refine ⟨by (first | omega | (simp (disch := omega) only [wrapI]; omega) | (simp (disch := omega) only [wrapI]; simp; omega) | (simp; omega)), ?_⟩ | (intro ep) | (refine ifB (fun hb => ?_) (fun hb => ?_) <;> (try simp only [decide_eq_true_eq, decide_eq_false_iff_not, beq_iff_eq, beq_eq_false_iff_ne, bne_iff_ne, bne_eq_false_iff_eq, ne_eq, not_false_eq_true, not_true_eq_false, Bool.not_eq_true, Bool.not_eq_true', Bool.not_eq_false', Int.not_lt, Int.not_le] at hb) <;> (try simp (disch := omega) only [wrapI] at hb) <;> (try (exfalso; omega))) | fail)))
      all_goals (conv => whnf)
      rename_i p8 p11 p12 p13
      refine back_of ⟨(k + 1, p12, ep), g⟩ ⟨by (first | exact rfl | (simp (disch := omega) only [wrapI]; exact rfl)), ?_, by simp only; omega⟩
      have e1 : ints (o.lo.take (k + 1)) = List.take k (List.drop 0 (ints (o.lo.take k))) ++ [[.int .i64 vl]] := by rw [tl, t1]; simp [ints]
      have e2 : ints (o.hi.take (k + 1)) = List.take k (List.drop 0 (ints (o.hi.take k))) ++ [[.int .i64 vh]] := by rw [th, t2]; simp [ints]
      simp only [e1, e2]
      exact rfl
    · simp only [decide_eq_false_iff_not] at g
      have e : k = s.length := by omega
      subst e
      rw [List.take_of_length_le (l := o.lo) (by omega), List.take_of_length_le (l := o.hi) (by omega)]
      (repeat' (first | exact rfl | ((conv => whnf); first | exact rfl | exact ⟨rfl, rfl⟩ | refine ⟨(by kernel_rfl : drawOk _ _ _ _ = true), ?_⟩ | refine ⟨(by kernel_rfl : planOk _ _ _ _ = true), ?_⟩ | refine ⟨rfl, ?_⟩ | refine ⟨by (first | omega | (simp (disch := omega) only [wrapI]; omega) | (simp (disch := omega) only [wrapI]; simp; omega) | (simp; omega)), ?_⟩ | (intro ep) | fail)))
      all_goals (conv => whnf)
      exact back_of (b12, b14) ⟨rfl, rfl, rfl⟩
  · rintro ⟨b12, b14⟩
    have hRs : Sub (.lslc 1 R 0 s.length false) (intsA s) := by
      have := Sub.part (sz := 1) (off := 0) (len := s.length) (rows := R) (by omega)
      rw [List.drop_zero, hR] at this
      exact this
    have hcl := PRet.arg1 hRs (clone55_spec s (by omega))
    have eR : ∀ (m : Nat) (Q : List (List AV)), R.map (fun r : List AV => r.map (fcS m Q)) = R := fun m Q => fcS_flat (noS_pure hRp)
    have eI : ∀ (m : Nat) (Q : List (List AV)) (l : List Int), (ints l).map (fun r : List AV => r.map (fcS m Q)) = ints l := fun m Q l => fcS_flat (noS_pure (pure_ints l))
    refine tr_fz 12 b12 (rows := ints o.lo) (fr' := frOf 0 55 [(0, .oslc (.s 9) e9 1 0 s.length false), (1, .optr (.s 0) S.e0 5 0 0), (2, .optr (.s 1) S.e1 1 0 0), (3, .optr (.s 3) S.e3 1 0 0), (4, .optr (.s 2) S.e2 1 0 0), (7, .optr (.s 10) ep 5 0 0)])
      (st' := [.vec S.e0 [lmR S.x], .vec S.e1 [[ntsA S.n]], .vec S.e2 [[.nils]], .vec S.e3 [[.int .i64 72]], .vec S.e4 [[.int .i64 (S.L : Int)]], .vec S.e5 [[.int .i64 (S.size : Int)]], .vec S.e6 [[.fn (.func 46) [] S.caps]], .vec S.e7 [[.oslc (.s 9) e9 1 0 s.length false]], .vec S.e8 [[.fn (.func 70) [] S.caps70]], .vec e9 R, .vec ep [[.lslc 1 (ints o.lo) 0 s.length false, .oslc (.s 14) b14 1 0 s.length false, .int .i64 S.x.leap, .int .i64 S.x.gap, .int .i64 S.x.cross]], .hole, .hole, .hole, .vec b14 (ints o.hi), .hole]) (by exact rfl) (pure_ints _) (by (repeat' (first | exact trivial | exact rfl | ((conv => whnf); first | exact trivial | exact rfl | refine ⟨?_, ?_⟩ | fail)))) ⟨by (repeat' (first | exact trivial | exact rfl | ((conv => whnf); first | exact trivial | exact rfl | refine ⟨?_, ?_⟩ | fail))), by (repeat' (first | exact trivial | exact rfl | ((conv => whnf); first | exact trivial | exact rfl | refine ⟨?_, ?_⟩ | fail))), by (repeat' (first | exact trivial | exact rfl | ((conv => whnf); first | exact trivial | exact rfl | refine ⟨?_, ?_⟩ | fail))), by (repeat' (first | exact trivial | exact rfl | ((conv => whnf); first | exact trivial | exact rfl | refine ⟨?_, ?_⟩ | fail))), by (repeat' (first | exact trivial | exact rfl | ((conv => whnf); first | exact trivial | exact rfl | refine ⟨?_, ?_⟩ | fail))), by (repeat' (first | exact trivial | exact rfl | ((conv => whnf); first | exact trivial | exact rfl | refine ⟨?_, ?_⟩ | fail))), by (repeat' (first | exact trivial | exact rfl | ((conv => whnf); first | exact trivial | exact rfl | refine ⟨?_, ?_⟩ | fail))), by (repeat' (first | exact trivial | exact rfl | ((conv => whnf); first | exact trivial | exact rfl | refine ⟨?_, ?_⟩ | fail))), by (repeat' (first | exact trivial | exact rfl | ((conv => whnf); first | exact trivial | exact rfl | refine ⟨?_, ?_⟩ | fail))), eqsP_pure hRp, by (repeat' (first | exact trivial | exact rfl | ((conv => whnf); first | exact trivial | exact rfl | refine ⟨?_, ?_⟩ | fail))), trivial, trivial, trivial, eqsP_pure (pure_ints _), trivial, trivial⟩ (by simp) rfl ?_ ?_
    · show ([.vec S.e0 [lmR S.x], .vec S.e1 [[ntsA S.n]], .vec S.e2 [[.nils]], .vec S.e3 [[.int .i64 72]], .vec S.e4 [[.int .i64 (S.L : Int)]], .vec S.e5 [[.int .i64 (S.size : Int)]], .vec S.e6 [[.fn (.func 46) [] S.caps]], .vec S.e7 [[.oslc (.s 9) e9 1 0 s.length false]], .vec S.e8 [[.fn (.func 70) [] S.caps70]], .vec e9 (R.map fun r : List AV => r.map (fcS 12 (ints o.lo))), _, _, _, _, .vec b14 ((ints o.hi).map fun r : List AV => r.map (fcS 12 (ints o.lo))), _] : List AObj) = _
      rw [eR, eI]
      exact rfl
    refine tr_fz 14 b14 (rows := ints o.hi) (fr' := frOf 0 55 [(0, .oslc (.s 9) e9 1 0 s.length false), (1, .optr (.s 0) S.e0 5 0 0), (2, .optr (.s 1) S.e1 1 0 0), (3, .optr (.s 3) S.e3 1 0 0), (4, .optr (.s 2) S.e2 1 0 0), (7, .optr (.s 10) ep 5 0 0)])
      (st' := [.vec S.e0 [lmR S.x], .vec S.e1 [[ntsA S.n]], .vec S.e2 [[.nils]], .vec S.e3 [[.int .i64 72]], .vec S.e4 [[.int .i64 (S.L : Int)]], .vec S.e5 [[.int .i64 (S.size : Int)]], .vec S.e6 [[.fn (.func 46) [] S.caps]], .vec S.e7 [[.oslc (.s 9) e9 1 0 s.length false]], .vec S.e8 [[.fn (.func 70) [] S.caps70]], .vec e9 R, .vec ep [[.lslc 1 (ints o.lo) 0 s.length false, .lslc 1 (ints o.hi) 0 s.length false, .int .i64 S.x.leap, .int .i64 S.x.gap, .int .i64 S.x.cross]], .hole, .hole, .hole, .hole, .hole]) (by exact rfl) (pure_ints _) (by (repeat' (first | exact trivial | exact rfl | ((conv => whnf); first | exact trivial | exact rfl | refine ⟨?_, ?_⟩ | fail)))) ⟨by (repeat' (first | exact trivial | exact rfl | ((conv => whnf); first | exact trivial | exact rfl | refine ⟨?_, ?_⟩ | fail))), by (repeat' (first | exact trivial | exact rfl | ((conv => whnf); first | exact trivial | exact rfl | refine ⟨?_, ?_⟩ | fail))), by (repeat' (first | exact trivial | exact rfl | ((conv => whnf); first | exact trivial | exact rfl | refine ⟨?_, ?_⟩ | fail))), by (repeat' (first | exact trivial | exact rfl | ((conv => whnf); first | exact trivial | exact rfl | refine ⟨?_, ?_⟩ | fail))), by (repeat' (first | exact trivial | exact rfl | ((conv => whnf); first | exact trivial | exact rfl | refine ⟨?_, ?_⟩ | fail))), by (repeat' (first | exact trivial | exact rfl | ((conv => whnf); first | exact trivial | exact rfl | refine ⟨?_, ?_⟩ | fail))), by (repeat' (first | exact trivial | exact rfl | ((conv => whnf); first | exact trivial | exact rfl | refine ⟨?_, ?_⟩ | fail))), by (repeat' (first | exact trivial | exact rfl | ((conv => whnf); first | exact trivial | exact rfl | refine ⟨?_, ?_⟩ | fail))), by (repeat' (first | exact trivial | exact rfl | ((conv => whnf); first | exact trivial | exact rfl | refine ⟨?_, ?_⟩ | fail))), eqsP_pure hRp, by (repeat' (first | exact trivial | exact rfl | ((conv => whnf); first | exact trivial | exact rfl | refine ⟨?_, ?_⟩ | fail))), trivial, trivial, trivial, trivial, trivial, trivial⟩ (by simp) rfl ?_ ?_
    · show ([.vec S.e0 [lmR S.x], .vec S.e1 [[ntsA S.n]], .vec S.e2 [[.nils]], .vec S.e3 [[.int .i64 72]], .vec S.e4 [[.int .i64 (S.L : Int)]], .vec S.e5 [[.int .i64 (S.size : Int)]], .vec S.e6 [[.fn (.func 46) [] S.caps]], .vec S.e7 [[.oslc (.s 9) e9 1 0 s.length false]], .vec S.e8 [[.fn (.func 70) [] S.caps70]], .vec e9 (R.map fun r : List AV => r.map (fcS 14 (ints o.hi))), _, _, _, _, _, _] : List AObj) = _
      rw [eR]
      exact rfl
    have eL : ([.lslc 1 (ints o.lo) 0 s.length false, .lslc 1 (ints o.hi) 0 s.length false, .int .i64 S.x.leap, .int .i64 S.x.gap, .int .i64 S.x.cross] : List AV) = lmR o := by
      unfold lmR intsA
      rw [hlo, hhi, ho5.1, ho5.2.1, ho5.2.2]
    rw [eL]
    refine tr_done ?_
    by_cases c : S.F s = 72
    · have cE : errR o S.n = 72 := by rw [hFd]; exact c
      (repeat' (first | exact rfl | ((conv => whnf); first | refine run35F o S.n XO hN ?_ | exact rfl | exact ⟨rfl, rfl⟩ | refine ⟨(by kernel_rfl : drawOk _ _ _ _ = true), ?_⟩ | refine ⟨(by kernel_rfl : planOk _ _ _ _ = true), ?_⟩ | refine ⟨rfl, ?_⟩ | refine ⟨by (first | omega | (simp (disch := omega) only [wrapI]; omega) | (simp (disch := omega) only [wrapI]; simp; omega) | (simp; omega)), ?_⟩ | (intro ep) | (refine ifB (fun hb => ?_) (fun hb => ?_) <;> (try simp only [decide_eq_true_eq, decide_eq_false_iff_not, beq_iff_eq, beq_eq_false_iff_ne, bne_iff_ne, bne_eq_false_iff_eq, ne_eq, not_false_eq_true, not_true_eq_false, Bool.not_eq_true, Bool.not_eq_true', Bool.not_eq_false', Int.not_lt, Int.not_le] at hb) <;> (try simp (disch := omega) only [wrapI] at hb) <;> (try (exfalso; omega))) | fail)))
      all_goals (conv => whnf)
      unfold TQ
      exact .inl ⟨c, rfl, rfl, rfl⟩
    · have cE : errR o S.n ≠ 72 := by rw [hFd]; exact c
      (repeat' (first | exact rfl | ((conv => whnf); first | refine run35F o S.n XO hN ?_ | exact rfl | exact ⟨rfl, rfl⟩ | refine ⟨(by kernel_rfl : drawOk _ _ _ _ = true), ?_⟩ | refine ⟨(by kernel_rfl : planOk _ _ _ _ = true), ?_⟩ | refine ⟨rfl, ?_⟩ | refine ⟨by (first | omega | (simp (disch := omega) only [wrapI]; omega) | (simp (disch := omega) only [wrapI]; simp; omega) | (simp; omega)), ?_⟩ | (intro ep) | (refine ifB (fun hb => ?_) (fun hb => ?_) <;> (try simp only [decide_eq_true_eq, decide_eq_false_iff_not, beq_iff_eq, beq_eq_false_iff_ne, bne_iff_ne, bne_eq_false_iff_eq, ne_eq, not_false_eq_true, not_true_eq_false, Bool.not_eq_true, Bool.not_eq_true', Bool.not_eq_false', Int.not_lt, Int.not_le] at hb) <;> (try simp (disch := omega) only [wrapI] at hb) <;> (try (exfalso; omega))) | fail)))
      all_goals (conv => whnf)
      refine ACalls.fz 9 ?_
      (conv => whnf)
      refine ⟨hRp, by (repeat' (first | exact trivial | exact rfl | ((conv => whnf); first | exact trivial | exact rfl | refine ⟨?_, ?_⟩ | fail))), ⟨by (repeat' (first | exact trivial | exact rfl | ((conv => whnf); first | exact trivial | exact rfl | refine ⟨?_, ?_⟩ | fail))), by (repeat' (first | exact trivial | exact rfl | ((conv => whnf); first | exact trivial | exact rfl | refine ⟨?_, ?_⟩ | fail))), by (repeat' (first | exact trivial | exact rfl | ((conv => whnf); first | exact trivial | exact rfl | refine ⟨?_, ?_⟩ | fail))), by (repeat' (first | exact trivial | exact rfl | ((conv => whnf); first | exact trivial | exact rfl | refine ⟨?_, ?_⟩ | fail))), by (repeat' (first | exact trivial | exact rfl | ((conv => whnf); first | exact trivial | exact rfl | refine ⟨?_, ?_⟩ | fail))), by (repeat' (first | exact trivial | exact rfl | ((conv => whnf); first | exact trivial | exact rfl | refine ⟨?_, ?_⟩ | fail))), by (repeat' (first | exact trivial | exact rfl | ((conv => whnf); first | exact trivial | exact rfl | refine ⟨?_, ?_⟩ | fail))), by (repeat' (first | exact trivial | exact rfl | ((conv => whnf); first | exact trivial | exact rfl | refine ⟨?_, ?_⟩ | fail))), by (repeat' (first | exact trivial | exact rfl | ((conv => whnf); first | exact trivial | exact rfl | refine ⟨?_, ?_⟩ | fail))), by (repeat' (first | exact trivial | exact rfl | ((conv => whnf); first | exact trivial | exact rfl | refine ⟨?_, ?_⟩ | fail))), by (repeat' (first | exact trivial | exact rfl | ((conv => whnf); first | exact trivial | exact rfl | refine ⟨?_, ?_⟩ | fail))), by (repeat' (first | exact trivial | exact rfl | ((conv => whnf); first | exact trivial | exact rfl | refine ⟨?_, ?_⟩ | fail))), by (repeat' (first | exact trivial | exact rfl | ((conv => whnf); first | exact trivial | exact rfl | refine ⟨?_, ?_⟩ | fail))), by (repeat' (first | exact trivial | exact rfl | ((conv => whnf); first | exact trivial | exact rfl | refine ⟨?_, ?_⟩ | fail))), by (repeat' (first | exact trivial | exact rfl | ((conv => whnf); first | exact trivial | exact rfl | refine ⟨?_, ?_⟩ | fail))), by (repeat' (first | exact trivial | exact rfl | ((conv => whnf); first | exact trivial | exact rfl | refine ⟨?_, ?_⟩ | fail))), trivial⟩, trivial, ?_⟩
      refine PRet.calls hcl ?_
      (repeat' (first | exact rfl | ((conv => whnf); first | exact rfl | exact ⟨rfl, rfl⟩ | refine ⟨(by kernel_rfl : drawOk _ _ _ _ = true), ?_⟩ | refine ⟨(by kernel_rfl : planOk _ _ _ _ = true), ?_⟩ | refine ⟨rfl, ?_⟩ | refine ⟨by (first | omega | (simp (disch := omega) only [wrapI]; omega) | (simp (disch := omega) only [wrapI]; simp; omega) | (simp; omega)), ?_⟩ | (intro ep) | (refine ifB (fun hb => ?_) (fun hb => ?_) <;> (try simp only [decide_eq_true_eq, decide_eq_false_iff_not, beq_iff_eq, beq_eq_false_iff_ne, bne_iff_ne, bne_eq_false_iff_eq, ne_eq, not_false_eq_true, not_true_eq_false, Bool.not_eq_true, Bool.not_eq_true', Bool.not_eq_false', Int.not_lt, Int.not_le] at hb) <;> (try simp (disch := omega) only [wrapI] at hb) <;> (try (exfalso; omega))) | fail)))
      all_goals (conv => whnf)
      unfold TQ
      refine .inr ⟨c, rfl, ?_, rfl⟩
      rw [← hFd]
      exact rfl
end Go.Ab.V

/-
  All sets of a size in turn: the program's walk. No condition but the sizes of numbers.
-/
namespace Go.Ab.V
open Go.Proofs

theorem subs_cons {L k i : Nat} (l : List Int) (h : i < L) : subs L (k + 1) i l = subs L k (i + 1) (l ++ [(i : Int) + 1]) ++ subs L (k + 1) (i + 1) l := by
  rw [subs, subs, show L - i = (L - (i + 1)) + 1 by omega, List.range_succ_eq_map, List.flatMap_cons, List.flatMap_map]
  congr 1
  exact flatMap_eqOn fun d _ => by rw [Nat.succ_eq_add_one, show i + (d + 1) = i + 1 + d by omega]
theorem subs_nil {L k i : Nat} (l : List Int) (h : L ≤ i) : subs L (k + 1) i l = [] := by
  rw [subs, show L - i = 0 by omega]; rfl
theorem padTo_pre {l m : List AObj} (h : l.take 4 = m) (hm : m.length = 4) : ∃ a b c d e f, padTo 10 l = m ++ [a, b, c, d, e, f] := by
  have h1 : (padTo 10 l).take 4 = m := by
    unfold padTo
    rw [List.take_take, Nat.min_eq_left (by omega), List.take_append_of_le_length]
    · exact h
    · rw [← h] at hm; simp at hm; omega
  have h2 : (padTo 10 l).length = 10 := padTo_len 10 l
  have h3 : padTo 10 l = m ++ (padTo 10 l).drop 4 := by rw [← h1]; exact (List.take_append_drop 4 _).symm
  have h4 : ((padTo 10 l).drop 4).length = 6 := by rw [List.length_drop, h2]
  generalize (padTo 10 l).drop 4 = q at h3 h4
  match q, h4 with
  | [a, b, c, d, e, f], _ => exact ⟨a, b, c, d, e, f, h3⟩
def FSr.bad (S : FSr) (s : List Int) : Bool := decide (S.F s ≠ 72)
@[irreducible] def SQ (S : FSr) (res : Option (List Int)) (j : Nat) (l : List Int) (r : AV) (h' : Heap) : Prop := match res with
  | none => r = .bool true ∧ ∃ e' R', R'.take j = ints l ∧ pureRows R' ∧ h'.st.take 10 = S.h10 e' R' j ∧ h'.dy = []
  | some s => r = .bool false ∧ h'.st.take 4 = S.h4 (intsA s) (S.F s) ∧ h'.dy = []
theorem sq_none {S : FSr} {j : Nat} {l : List Int} {r : AV} {h' : Heap} (h : SQ S none j l r h') : r = .bool true ∧ ∃ e' R', R'.take j = ints l ∧ pureRows R' ∧ h'.st.take 10 = S.h10 e' R' j ∧ h'.dy = [] := by unfold SQ at h; exact h
theorem sq_some {S : FSr} {s : List Int} {j : Nat} {l : List Int} {r : AV} {h' : Heap} (h : SQ S (some s) j l r h') : r = .bool false ∧ h'.st.take 4 = S.h4 (intsA s) (S.F s) ∧ h'.dy = [] := by unfold SQ at h; exact h
theorem sq_ofN {S : FSr} {j : Nat} {l : List Int} {r : AV} {h' : Heap} (h : r = .bool true ∧ ∃ e' R', R'.take j = ints l ∧ pureRows R' ∧ h'.st.take 10 = S.h10 e' R' j ∧ h'.dy = []) : SQ S none j l r h' := by unfold SQ; exact h
theorem sq_ofS {S : FSr} {s : List Int} {j : Nat} {l : List Int} {r : AV} {h' : Heap} (h : r = .bool false ∧ h'.st.take 4 = S.h4 (intsA s) (S.F s) ∧ h'.dy = []) : SQ S (some s) j l r h' := by unfold SQ; exact h
theorem sq_ofN' {S : FSr} {Q : Option (List Int)} {j : Nat} {l : List Int} {r : AV} {h' : Heap} (e : Q = none) (h : r = .bool true ∧ ∃ e' R', R'.take j = ints l ∧ pureRows R' ∧ h'.st.take 10 = S.h10 e' R' j ∧ h'.dy = []) : SQ S Q j l r h' := by subst e; exact sq_ofN h
theorem sq_ofS' {S : FSr} {Q : Option (List Int)} {s : List Int} {j : Nat} {l : List Int} {r : AV} {h' : Heap} (e : Q = some s) (h : r = .bool false ∧ h'.st.take 4 = S.h4 (intsA s) (S.F s) ∧ h'.dy = []) : SQ S Q j l r h' := by subst e; exact sq_ofS h
def A70 : Ann := fun r => match r with
  | 6 => { slots := [(2, 10), (3, 9)] }
  | _ => {}
abbrev Z70 := okz [] [46, 70] []
set_option maxHeartbeats 16000000 in
set_option maxRecDepth 100000 in
theorem sets70 (S : FSr) (X : LmOk S.x) (hN : chkN S.n = 0) (hs1 : 1 ≤ S.size) (hs5 : S.size ≤ 5) : ∀ (k j : Nat), j + k = S.size → ∀ (a : Nat) (l : List Int) (e9 : Nat) (R : List (List AV)),
    l.length = j → R.take j = ints l → pureRows R → (∀ v ∈ l, 1 ≤ v ∧ v ≤ S.x.lo.length) → a ≤ S.L → ∀ z : Int, z = (a : Int) + 1 →
    ACalls C.P 70 ([.int .i64 z] ++ S.caps70) ⟨S.h10 e9 R j, []⟩ (SQ S ((subs S.L k a l).find? S.bad) j l) := by
  have hL5 : S.L ≤ 5 := X.lo5
  intro k
  induction k with
  | zero =>
    intro j hj a l e9 R hl hR hRp hlv ha z hz
    have hj' : j = S.size := by omega
    have hlen : l.length = S.size := by omega
    have hT := try46 S X hN l (by omega) (by omega) hlv e9 R (by rw [hl]; exact hR) hRp
    refine fn_of Z70 mixed (A := A70) 2 Try.func70 rfl ?_
    rw [hl] at hT
    unfold FSr.h10 FSr.h4
    (repeat' (first | ((conv => whnf); first | refine (forceL_eq S.caps _).mpr ?_ | refine (forceL_eq S.caps70 _).mpr ?_ | exact rfl | exact ⟨rfl, rfl⟩ | refine ⟨(by kernel_rfl : drawOk _ _ _ _ = true), ?_⟩ | refine ⟨(by kernel_rfl : planOk _ _ _ _ = true), ?_⟩ | refine ⟨rfl, ?_⟩ | refine ⟨by (first | omega | (simp (disch := omega) only [wrapI]; omega) | (simp (disch := omega) only [wrapI]; simp; omega) | (simp; omega)), ?_⟩ | (intro ep) | (refine ifB (fun hb => ?_) (fun hb => ?_) <;> (try simp only [decide_eq_true_eq, decide_eq_false_iff_not, beq_iff_eq, beq_eq_false_iff_ne, bne_iff_ne, bne_eq_false_iff_eq, ne_eq, not_false_eq_true, not_true_eq_false, Bool.not_eq_true, Bool.not_eq_true', Bool.not_eq_false', Int.not_lt, Int.not_le] at hb) <;> (try simp (disch := omega) only [wrapI] at hb) <;> (try (exfalso; omega))) | fail)))
    all_goals (conv => whnf)
    refine ACalls.part (st1 := S.h10 e9 R j) (dy := []) 10 (by exact rfl) (by exact rfl) (by exact rfl) hT ?_
    rintro r h1 hq
    unfold TQ at hq
    rcases hq with ⟨c, rfl, hst, hd⟩ | ⟨c, rfl, hst, hd⟩
    · rw [hl] at hst
      rw [padTo_of hst rfl, hd]
      have hf : (subs S.L 0 a l).find? S.bad = none := by unfold subs; simp [FSr.bad, c]
      rw [hf]
      unfold FSr.h10 FSr.h4
      (repeat' (first | ((conv => whnf); first | exact rfl | exact ⟨rfl, rfl⟩ | refine ⟨(by kernel_rfl : drawOk _ _ _ _ = true), ?_⟩ | refine ⟨(by kernel_rfl : planOk _ _ _ _ = true), ?_⟩ | refine ⟨rfl, ?_⟩ | refine ⟨by (first | omega | (simp (disch := omega) only [wrapI]; omega) | (simp (disch := omega) only [wrapI]; simp; omega) | (simp; omega)), ?_⟩ | (intro ep) | (refine ifB (fun hb => ?_) (fun hb => ?_) <;> (try simp only [decide_eq_true_eq, decide_eq_false_iff_not, beq_iff_eq, beq_eq_false_iff_ne, bne_iff_ne, bne_eq_false_iff_eq, ne_eq, not_false_eq_true, not_true_eq_false, Bool.not_eq_true, Bool.not_eq_true', Bool.not_eq_false', Int.not_lt, Int.not_le] at hb) <;> (try simp (disch := omega) only [wrapI] at hb) <;> (try (exfalso; omega))) | fail)))
      all_goals (conv => whnf)
      exact sq_ofN ⟨rfl, e9, R, hR, hRp, rfl, rfl⟩
    · obtain ⟨b0, b1, b2, b3, b4, b5, hp⟩ := padTo_pre hst rfl
      rw [hp, hd]
      have hf : (subs S.L 0 a l).find? S.bad = some l := by unfold subs; simp [FSr.bad, c]
      rw [hf]
      unfold FSr.h4
      (repeat' (first | ((conv => whnf); first | exact rfl | exact ⟨rfl, rfl⟩ | refine ⟨(by kernel_rfl : drawOk _ _ _ _ = true), ?_⟩ | refine ⟨(by kernel_rfl : planOk _ _ _ _ = true), ?_⟩ | refine ⟨rfl, ?_⟩ | refine ⟨by (first | omega | (simp (disch := omega) only [wrapI]; omega) | (simp (disch := omega) only [wrapI]; simp; omega) | (simp; omega)), ?_⟩ | (intro ep) | (refine ifB (fun hb => ?_) (fun hb => ?_) <;> (try simp only [decide_eq_true_eq, decide_eq_false_iff_not, beq_iff_eq, beq_eq_false_iff_ne, bne_iff_ne, bne_eq_false_iff_eq, ne_eq, not_false_eq_true, not_true_eq_false, Bool.not_eq_true, Bool.not_eq_true', Bool.not_eq_false', Int.not_lt, Int.not_le] at hb) <;> (try simp (disch := omega) only [wrapI] at hb) <;> (try (exfalso; omega))) | fail)))
      all_goals (conv => whnf)
      exact sq_ofS ⟨rfl, rfl, rfl⟩
  | succ k ih =>
    intro j hj a l e9 R hl hR hRp hlv ha z hz
    obtain ⟨RES, hRES⟩ : ∃ RES, RES = (subs S.L (k + 1) a l).find? S.bad := ⟨_, rfl⟩
    rw [← hRES]
    subst hz
    refine fn_of Z70 mixed (A := A70) 2 Try.func70 rfl ?_
    unfold FSr.h10 FSr.h4
    (repeat' (first | ((conv => whnf); first | exact rfl | exact ⟨rfl, rfl⟩ | refine ⟨(by kernel_rfl : drawOk _ _ _ _ = true), ?_⟩ | refine ⟨(by kernel_rfl : planOk _ _ _ _ = true), ?_⟩ | refine ⟨rfl, ?_⟩ | refine ⟨by (first | omega | (simp (disch := omega) only [wrapI]; omega) | (simp (disch := omega) only [wrapI]; simp; omega) | (simp; omega)), ?_⟩ | (intro ep) | (refine ifB (fun hb => ?_) (fun hb => ?_) <;> (try simp only [decide_eq_true_eq, decide_eq_false_iff_not, beq_iff_eq, beq_eq_false_iff_ne, bne_iff_ne, bne_eq_false_iff_eq, ne_eq, not_false_eq_true, not_true_eq_false, Bool.not_eq_true, Bool.not_eq_true', Bool.not_eq_false', Int.not_lt, Int.not_le] at hb) <;> (try simp (disch := omega) only [wrapI] at hb) <;> (try (exfalso; omega))) | fail)))
    all_goals (conv => whnf)
    refine loopY Z70 mixed (A := A70) [1, 2, 3, 4, 5, 8] [0, 1, 2, 3, 4, 5, 6, 7, 8, 9] (S := { z : Nat × Nat × List (List AV) // (a ≤ z.1 ∧ z.1 ≤ S.L) ∧ z.2.2.take j = ints l ∧ pureRows z.2.2 ∧ (subs S.L (k + 1) z.1 l).find? S.bad = RES })
      (fr := fun z => frOf 0 36 [(1, .optr (.s 7) S.e7 1 0 0), (2, .optr (.s 5) S.e5 1 0 0), (3, .optr (.s 6) S.e6 1 0 0), (4, .optr (.s 4) S.e4 1 0 0), (5, .optr (.s 8) S.e8 1 0 0), (8, .int .i64 ((z.1.1 : Int) + 1))])
      (h := fun z => ⟨S.h10 z.1.2.1 z.1.2.2 j ++ [.hole, .hole], []⟩) (μ := fun z => S.L - z.1.1) ⟨(a, e9, R), ⟨Nat.le_refl _, ha⟩, hR, hRp, hRES.symm⟩ ?_ ?_
      [] [0, 1, 2, 3, 4, 5, 6, 7, 8, 9] (S' := { z : Nat × List (List AV) // z.2.take j = ints l ∧ pureRows z.2 ∧ RES = none }) (X := fun _ => 0) (frX := fun _ => frOf 0 36 []) (hX := fun z => ⟨S.h10 z.1.1 z.1.2 j ++ [.hole, .hole], []⟩)
      [7] [0, 1, 2, 3] (S2 := { s : List Int // RES = some s }) (frR := fun _ => frOf 0 36 [(7, .bool false)]) (hR := fun s => ⟨S.h4 (intsA s.1) (S.F s.1) ++ List.replicate 8 .hole, []⟩) ?_ ?_ ?_
    · exact rfl
    · exact rfl
    · rintro ⟨⟨i, e9, R⟩, hi, hR, hRp, hu⟩
      simp only at hi hR hRp hu
      show aexR _ _ _ (frOf 0 36 [(1, .optr (.s 7) S.e7 1 0 0), (2, .optr (.s 5) S.e5 1 0 0), (3, .optr (.s 6) S.e6 1 0 0), (4, .optr (.s 4) S.e4 1 0 0), (5, .optr (.s 8) S.e8 1 0 0), (8, .int .i64 ((i : Int) + 1))]) ⟨S.h10 e9 R j ++ [.hole, .hole], []⟩ _
      unfold FSr.h10 FSr.h4
      (repeat' (first | ((conv => whnf); first | exact rfl | exact ⟨rfl, rfl⟩ | refine ⟨(by kernel_rfl : drawOk _ _ _ _ = true), ?_⟩ | refine ⟨(by kernel_rfl : planOk _ _ _ _ = true), ?_⟩ | refine ⟨rfl, ?_⟩ | refine ⟨by (first | omega | (simp (disch := omega) only [wrapI]; omega) | (simp (disch := omega) only [wrapI]; simp; omega) | (simp; omega)), ?_⟩ | (intro ep) | fail)))
      all_goals (conv => whnf)
      refine ifB (fun g => ?_) (fun g => ?_)
      · simp only [decide_eq_true_eq] at g
        have g : i < S.L := by omega
        rw [subs_cons l g, List.find?_append] at hu
        have tl : (ints l).length = j := by simp [ints, hl]
        have hRn : List.take (j + 1) (List.take j (List.drop 0 R) ++ [[AV.int .i64 ((i : Int) + 1)]]) = ints (l ++ [(i : Int) + 1]) := by
          rw [List.drop_zero, hR, List.take_of_length_le (by simp [tl])]
          simp [ints]
        have hRq : pureRows (List.take j (List.drop 0 R) ++ [[AV.int .i64 ((i : Int) + 1)]]) := by
          rw [List.drop_zero, hR]
          intro row hr c hc
          rcases List.mem_append.1 hr with h | h
          · exact pure_ints l row h c hc
          · rw [List.mem_singleton.1 h] at hc
            rw [List.mem_singleton.1 hc]; rfl
        have hC := fun (e' : Nat) => ih (j + 1) (by omega) (i + 1) (l ++ [(i : Int) + 1]) e' _ (by simp [hl]) hRn hRq (fun v hv => by
          rcases List.mem_append.1 hv with h | h
          · exact hlv v h
          · rw [List.mem_singleton.1 h]; unfold FSr.L at g; omega) g (IntKind.i64.wrap ((i : Int) + 1 + 1)) (by rw [wrapI (by omega) (by omega)]; omega)
        generalize (subs S.L k (i + 1) (l ++ [(i : Int) + 1])).find? S.bad = Q at hC hu
        (repeat' (first | ((conv => whnf); first | refine (forceL_eq S.caps _).mpr ?_ | refine (forceL_eq S.caps70 _).mpr ?_ | exact rfl | exact ⟨rfl, rfl⟩ | refine ⟨(by kernel_rfl : drawOk _ _ _ _ = true), ?_⟩ | refine ⟨(by kernel_rfl : planOk _ _ _ _ = true), ?_⟩ | refine ⟨rfl, ?_⟩ | refine ⟨by (first | omega | (simp (disch := omega) only [wrapI]; omega) | (simp (disch := omega) only [wrapI]; simp; omega) | (simp; omega)), ?_⟩ | (intro ep) | (refine ifB (fun hb => ?_) (fun hb => ?_) <;> (try simp only [decide_eq_true_eq, decide_eq_false_iff_not, beq_iff_eq, beq_eq_false_iff_ne, bne_iff_ne, bne_eq_false_iff_eq, ne_eq, not_false_eq_true, not_true_eq_false, Bool.not_eq_true, Bool.not_eq_true', Bool.not_eq_false', Int.not_lt, Int.not_le] at hb) <;> (try simp (disch := omega) only [wrapI] at hb) <;> (try (exfalso; omega))) | fail)))
        all_goals (conv => whnf)
        refine ACalls.part (st1 := S.h10 ep (List.take j (List.drop 0 R) ++ [[AV.int .i64 ((i : Int) + 1)]]) (j + 1)) (dy := []) 10 (by exact rfl) (by exact rfl) (by exact rfl) (hC _) ?_
        rintro r h1 hq
        cases Q with
        | none =>
          obtain ⟨rfl, e', R', h2, h3, hst, hd⟩ := sq_none hq
          rw [padTo_of hst rfl, hd]
          have h2' : List.take j R' = ints l := by
            have h := congrArg (List.take j) h2
            rw [List.take_take, Nat.min_eq_left (by omega)] at h
            rw [h, ints, List.map_append]
            exact List.take_left' tl
          unfold FSr.h10 FSr.h4
          (repeat' (first | ((conv => whnf); first | exact rfl | exact ⟨rfl, rfl⟩ | refine ⟨(by kernel_rfl : drawOk _ _ _ _ = true), ?_⟩ | refine ⟨(by kernel_rfl : planOk _ _ _ _ = true), ?_⟩ | refine ⟨rfl, ?_⟩ | refine ⟨by (first | omega | (simp (disch := omega) only [wrapI]; omega) | (simp (disch := omega) only [wrapI]; simp; omega) | (simp; omega)), ?_⟩ | (intro ep) | (refine ifB (fun hb => ?_) (fun hb => ?_) <;> (try simp only [decide_eq_true_eq, decide_eq_false_iff_not, beq_iff_eq, beq_eq_false_iff_ne, bne_iff_ne, bne_eq_false_iff_eq, ne_eq, not_false_eq_true, not_true_eq_false, Bool.not_eq_true, Bool.not_eq_true', Bool.not_eq_false', Int.not_lt, Int.not_le] at hb) <;> (try simp (disch := omega) only [wrapI] at hb) <;> (try (exfalso; omega))) | fail)))
          all_goals (conv => whnf)
          exact back_of ⟨(i + 1, e', R'), by simp only; omega, h2', h3, by simpa using hu⟩ ⟨by (first | exact rfl | (simp (disch := omega) only [wrapI]; exact rfl)), by
            have hw : (IntKind.i64.wrap (((j + 1 : Nat) : Int) - 1)).toNat = j := by rw [wrapI (by omega) (by omega)]; omega
            have e : S.h10 e' R' j = S.h10 e' R' (IntKind.i64.wrap (((j + 1 : Nat) : Int) - 1)).toNat := by rw [hw]
            show maskH 0 _ _ = ⟨S.h10 e' R' j ++ [.hole, .hole], []⟩
            rw [e]
            exact rfl, by simp only; omega⟩
        | some q =>
          obtain ⟨rfl, hst, hd⟩ := sq_some hq
          obtain ⟨b0, b1, b2, b3, b4, b5, hp⟩ := padTo_pre hst rfl
          rw [hp, hd]
          unfold FSr.h4
          (repeat' (first | ((conv => whnf); first | exact rfl | exact ⟨rfl, rfl⟩ | refine ⟨(by kernel_rfl : drawOk _ _ _ _ = true), ?_⟩ | refine ⟨(by kernel_rfl : planOk _ _ _ _ = true), ?_⟩ | refine ⟨rfl, ?_⟩ | refine ⟨by (first | omega | (simp (disch := omega) only [wrapI]; omega) | (simp (disch := omega) only [wrapI]; simp; omega) | (simp; omega)), ?_⟩ | (intro ep) | (refine ifB (fun hb => ?_) (fun hb => ?_) <;> (try simp only [decide_eq_true_eq, decide_eq_false_iff_not, beq_iff_eq, beq_eq_false_iff_ne, bne_iff_ne, bne_eq_false_iff_eq, ne_eq, not_false_eq_true, not_true_eq_false, Bool.not_eq_true, Bool.not_eq_true', Bool.not_eq_false', Int.not_lt, Int.not_le] at hb) <;> (try simp (disch := omega) only [wrapI] at hb) <;> (try (exfalso; omega))) | fail)))
          all_goals (conv => whnf)
          exact back_of ⟨q, by rw [← hu]; rfl⟩ ⟨rfl, rfl⟩
      · simp only [decide_eq_false_iff_not] at g
        rw [subs_nil l (by omega)] at hu
        (repeat' (first | exact rfl | ((conv => whnf); first | exact rfl | exact ⟨rfl, rfl⟩ | refine ⟨(by kernel_rfl : drawOk _ _ _ _ = true), ?_⟩ | refine ⟨(by kernel_rfl : planOk _ _ _ _ = true), ?_⟩ | refine ⟨rfl, ?_⟩ | refine ⟨by (first | omega | (simp (disch := omega) only [wrapI]; omega) | (simp (disch := omega) only [wrapI]; simp; omega) | (simp; omega)), ?_⟩ | (intro ep) | fail)))
        all_goals (conv => whnf)
        exact back_of ⟨(e9, R), hR, hRp, hu.symm⟩ ⟨rfl, rfl, rfl⟩
    · rintro ⟨s, hs⟩
      (repeat' (first | ((conv => whnf); first | exact rfl | exact ⟨rfl, rfl⟩ | refine ⟨(by kernel_rfl : drawOk _ _ _ _ = true), ?_⟩ | refine ⟨(by kernel_rfl : planOk _ _ _ _ = true), ?_⟩ | refine ⟨rfl, ?_⟩ | refine ⟨by (first | omega | (simp (disch := omega) only [wrapI]; omega) | (simp (disch := omega) only [wrapI]; simp; omega) | (simp; omega)), ?_⟩ | (intro ep) | fail)))
      all_goals (conv => whnf)
      exact sq_ofS' hs ⟨rfl, rfl, rfl⟩
    · rintro ⟨⟨e', R'⟩, h1, h2, h3⟩
      (repeat' (first | ((conv => whnf); first | exact rfl | exact ⟨rfl, rfl⟩ | refine ⟨(by kernel_rfl : drawOk _ _ _ _ = true), ?_⟩ | refine ⟨(by kernel_rfl : planOk _ _ _ _ = true), ?_⟩ | refine ⟨rfl, ?_⟩ | refine ⟨by (first | omega | (simp (disch := omega) only [wrapI]; omega) | (simp (disch := omega) only [wrapI]; simp; omega) | (simp; omega)), ?_⟩ | (intro ep) | fail)))
      all_goals (conv => whnf)
      exact sq_ofN' h3 ⟨rfl, e', R', h1, h2, rfl, rfl⟩
end Go.Ab.V
