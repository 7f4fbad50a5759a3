/-
  What is proved here serves the law's text: each part says its own claim and its conditions. No condition is left open.
-/
import Derived.Test.YtchkiolagohnlaaGreatKP
import Derived.Test.YtchkiolagohnlaaGreatKO
import Derived.Test.YtchkiolagohnlaaGreatKF
import Derived.Test.YtchkiolagohnlaaGreatKZ
set_option linter.unusedSimpArgs false
set_option linter.unusedVariables false

/-
  The end of a note that rings: the closure of notes. No condition but the lengths.
-/
namespace Go.Ab.V
open Go.Proofs

def Nt.to (x : Nt) (t : Int) : Nt := ⟨x.e, x.c, x.p, x.f, t⟩
def setTo (o : List Nt) (i : Nat) (t : Int) : List Nt := match o[i]? with
  | some x => o.set i (x.to t)
  | none => o
theorem setTo_len (o : List Nt) (i : Nat) (t : Int) : (setTo o i t).length = o.length := by unfold setTo; split <;> simp
/-- the note that rings on a course ends -/
def quit (R : List Nat) (o : List Nt) (c : Nat) (t : Int) : List Nat × List Nt := if R.getD c 0 = 0 then (R, o) else (R.set c 0, setTo o (R.getD c 0 - 1) t)
def rgR (R : List Nat) : List AV := R.map fun (r : Nat) => .int .i64 (r : Int)
theorem optV {o : Option AV} {a : AV} {K : AV → Prop} (h : o = some a) (hk : K a) : (match (generalizing := false) o with | some a => K a | none => False) := by
  subst h; exact hk
theorem decT {p : Prop} {d : Decidable p} {A : p → Prop} {B : ¬p → Prop} (h : p) (k : ∀ h, A h) : Decidable.rec (motive := fun _ => Prop) B A d := by
  cases d with
  | isTrue x => exact k x
  | isFalse x => exact absurd h x
theorem rg_len (R : List Nat) : (rgR R).length = R.length := by simp [rgR]
theorem rg_set (R : List Nat) (c v : Nat) (hc : c < R.length) : List.take (0 + (c : Int).toNat * 1) (rgR R) ++ [.int .i64 (v : Int)] ++ List.drop (0 + (c : Int).toNat * 1 + 1) (rgR R) = rgR (R.set c v) := by
  rw [Nat.mul_one, Nat.zero_add, Int.toNat_natCast]
  have h : rgR (R.set c v) = (rgR R).set c (.int .i64 (v : Int)) := by simp [rgR, List.map_set]
  rw [h, List.set_eq_take_append_cons_drop, if_pos (by rw [rg_len]; exact hc)]
  simp
/-- the variables that the closure names -/
def HN (e1 e2 e7 : Nat) (x0 x3 x4 x5 x6 : AObj) (R : List Nat) (o : List Nt) : List AObj := [x0, .vec e1 [[.oslc (.s 7) e7 5 0 o.length false]], .vec e2 [rgR R], x3, x4, x5, x6, .vec e7 (o.map ntR)]
def A56 : Ann := fun _ => {}
set_option maxHeartbeats 4000000 in
set_option maxRecDepth 100000 in
theorem stop87 (c : Nat) (t : Int) (R : List Nat) (o : List Nt) (e1 e2 e7 : Nat) (x0 x3 x4 x5 x6 : AObj) (hc : c < 15) (hR : R.length = 15) (hb : ∀ r ∈ R, r ≤ o.length) (ho : o.length ≤ 10000000) :
    ACalls C.P 56 [.int .i64 c, .int .i64 t, .optr (.s 2) e2 15 0 0, .optr (.s 1) e1 1 0 0] ⟨HN e1 e2 e7 x0 x3 x4 x5 x6 R o, []⟩
      fun r h' => r = .tup [] ∧ padTo 8 h'.st = HN e1 e2 e7 x0 x3 x4 x5 x6 (quit R o c t).1 (quit R o c t).2 ∧ h'.dy = [] := by
  have hcR : c < R.length := by omega
  have hg : R.getD c 0 = R[c] := by rw [List.getD, List.getElem?_eq_getElem hcR]; rfl
  have hm : aPart false 1 (0 + (c : Int).toNat * 1) (rgR R) = some (.int .i64 (R[c] : Int)) := by
    rw [Nat.mul_one, Nat.zero_add, Int.toNat_natCast]
    have e : (rgR R)[c]? = some (.int .i64 (R[c] : Int)) := by rw [rgR, List.getElem?_map, List.getElem?_eq_getElem hcR]; rfl
    unfold aPart
    rw [if_pos (by simp [rgR]; omega)]
    exact e
  have hr := hb R[c] (List.getElem_mem hcR)
  unfold quit
  rw [hg]
  generalize R[c] = r at hm hr
  by_cases c0 : r = 0
  · rw [if_pos c0]
    subst c0
    have hm2 : True := trivial
    refine fn_of ok mixed (A := A56) 3 Tryz.func56 rfl ?_
    (repeat' (first | exact rfl | ((conv => whnf); first | refine optV hm ?_ | refine optS hm2 ?_ | exact rfl | exact ⟨rfl, rfl⟩ | refine ⟨(by kernel_rfl : drawOk _ _ _ _ = true), ?_⟩ | refine ⟨(by kernel_rfl : planOk _ _ _ _ = true), ?_⟩ | refine ⟨rfl, ?_⟩ | refine ⟨by (first | omega | (simp (disch := omega) only [wrapI]; omega) | (simp (disch := omega) only [wrapI]; simp; omega) | (simp; omega)), ?_⟩ | (intro ep) | (refine ifB (fun hb => ?_) (fun hb => ?_) <;> (try simp only [decide_eq_true_eq, decide_eq_false_iff_not, beq_iff_eq, beq_eq_false_iff_ne, bne_iff_ne, bne_eq_false_iff_eq, ne_eq, not_false_eq_true, not_true_eq_false, Bool.not_eq_true, Bool.not_eq_true', Bool.not_eq_false', Int.not_lt, Int.not_le] at hb) <;> (try simp (disch := omega) only [wrapI] at hb) <;> (try (exfalso; omega))) | fail)))
  · rw [if_neg c0]
    have hr1 : r - 1 < o.length := by omega
    have hm2 := mapR (f := ntR) hr1
    rw [show ((r - 1 : Nat) : Int) = IntKind.i64.wrap ((r : Int) - 1) by rw [wrapI (by omega) (by omega)]; omega] at hm2
    refine fn_of ok mixed (A := A56) 3 Tryz.func56 rfl ?_
    (repeat' (first | exact rfl | ((conv => whnf); first | refine optV hm ?_ | refine optS hm2 ?_ | exact rfl | exact ⟨rfl, rfl⟩ | refine ⟨(by kernel_rfl : drawOk _ _ _ _ = true), ?_⟩ | refine ⟨(by kernel_rfl : planOk _ _ _ _ = true), ?_⟩ | refine ⟨rfl, ?_⟩ | refine ⟨by (first | omega | (simp (disch := omega) only [wrapI]; omega) | (simp (disch := omega) only [wrapI]; simp; omega) | (simp; omega)), ?_⟩ | (intro ep) | (refine ifB (fun hb => ?_) (fun hb => ?_) <;> (try simp only [decide_eq_true_eq, decide_eq_false_iff_not, beq_iff_eq, beq_eq_false_iff_ne, bne_iff_ne, bne_eq_false_iff_eq, ne_eq, not_false_eq_true, not_true_eq_false, Bool.not_eq_true, Bool.not_eq_true', Bool.not_eq_false', Int.not_lt, Int.not_le] at hb) <;> (try simp (disch := omega) only [wrapI] at hb) <;> (try (exfalso; omega))) | fail)))
    all_goals (conv => whnf)
    have hs := rg_set R c 0 hcR
    refine decT (by show 0 + (c : Int).toNat * 1 + 1 ≤ (rgR R).length; rw [rg_len]; omega) (fun _ => ?_)
    show forceL (List.take (0 + (c : Int).toNat * 1) (rgR R) ++ [.int .i64 ((0 : Nat) : Int)] ++ List.drop (0 + (c : Int).toNat * 1 + 1) (rgR R)) _
    rw [forceL_eq, hs]
    (repeat' (first | exact rfl | ((conv => whnf); first | refine optV hm ?_ | refine optS hm2 ?_ | exact rfl | exact ⟨rfl, rfl⟩ | refine ⟨(by kernel_rfl : drawOk _ _ _ _ = true), ?_⟩ | refine ⟨(by kernel_rfl : planOk _ _ _ _ = true), ?_⟩ | refine ⟨rfl, ?_⟩ | refine ⟨by (first | omega | (simp (disch := omega) only [wrapI]; omega) | (simp (disch := omega) only [wrapI]; simp; omega) | (simp; omega)), ?_⟩ | (intro ep) | (refine ifB (fun hb => ?_) (fun hb => ?_) <;> (try simp only [decide_eq_true_eq, decide_eq_false_iff_not, beq_iff_eq, beq_eq_false_iff_ne, bne_iff_ne, bne_eq_false_iff_eq, ne_eq, not_false_eq_true, not_true_eq_false, Bool.not_eq_true, Bool.not_eq_true', Bool.not_eq_false', Int.not_lt, Int.not_le] at hb) <;> (try simp (disch := omega) only [wrapI] at hb) <;> (try (exfalso; omega))) | fail)))
    all_goals (conv => whnf)
    have he : setTo o (r - 1) t = o.set (r - 1) (o[r - 1].to t) := by unfold setTo; rw [List.getElem?_eq_getElem hr1]
    have hi : 0 + (IntKind.i64.wrap ((r : Int) - 1)).toNat = r - 1 := by rw [wrapI (by omega) (by omega)]; omega
    refine ⟨?_, rfl⟩
    show [x0, .vec e1 [[.oslc (.s 7) e7 5 0 o.length false]], .vec e2 [rgR (R.set c 0)], x3, x4, x5, x6, .vec e7 ((List.map ntR o).set (0 + (IntKind.i64.wrap ((r : Int) - 1)).toNat) (ntR (o[r - 1].to t)))] = HN e1 e2 e7 x0 x3 x4 x5 x6 (R.set c 0) (setTo o (r - 1) t)
    rw [hi, he]
    unfold HN
    rw [List.length_set, List.map_set]
end Go.Ab.V

/-
  The notes of a piece: the program's run over the stops gives the document's notes. Plain Lean. The pieces are valid.
-/
namespace Go.Ab.V
open Go.Proofs

theorem setTo_in {o : List Nt} {i : Nat} {t : Int} (h : i < o.length) : setTo o i t = o.set i (o[i].to t) := by unfold setTo; rw [List.getElem?_eq_getElem h]
theorem setTo_out {o : List Nt} {i : Nat} {t : Int} (h : ¬ i < o.length) : setTo o i t = o := by unfold setTo; rw [List.getElem?_eq_none (by omega)]
theorem setTo_get {o : List Nt} {i m : Nat} {t : Int} (h : m < o.length) : (setTo o i t)[m]'(by rw [setTo_len]; exact h) = if i = m then o[m].to t else o[m] := by
  by_cases hi : i < o.length
  · simp only [setTo_in hi, List.getElem_set]
    split
    · rename_i e
      subst e
      rfl
    · rfl
  · simp only [setTo_out hi]
    rw [if_neg (by omega)]
/-- what rings, and what has been written -/
structure RInv (R : List Nat) (o : List Nt) (E : Int) : Prop where
  len : R.length = 15
  le : ∀ r ∈ R, r ≤ o.length
  cr : ∀ x ∈ o, 0 ≤ x.c ∧ x.c < 15
  to : ∀ c m, R.getD c 0 = m + 1 → ∃ hm : m < o.length, o[m].c = (c : Int) ∧ o[m].t = E
/-- the notes, those that ring ending as is said -/
def fin (R : List Nat) (o : List Nt) (A : Int → Int) : List Nt := o.mapIdx fun m x => if R.getD x.c.toNat 0 = m + 1 then x.to (A x.c) else x
theorem getD_set {R : List Nat} {c d v : Nat} (hc : c < R.length) : (R.set c v).getD d 0 = if d = c then v else R.getD d 0 := by
  simp only [List.getD, List.getElem?_set]
  split
  · rename_i e
    subst e
    simp [hc]
  · rename_i e
    rw [if_neg (fun x => e x.symm)]
theorem fin_congr {R : List Nat} {o : List Nt} {A B : Int → Int} (h : ∀ x ∈ o, A x.c = B x.c) : fin R o A = fin R o B := by
  unfold fin
  refine List.ext_getElem (by simp) fun m h1 h2 => ?_
  simp only [List.getElem_mapIdx]
  rw [h _ (List.getElem_mem _)]
theorem quit_fin {R : List Nat} {o : List Nt} {E : Int} (hi : RInv R o E) {c : Nat} (hc : c < 15) (t : Int) (A : Int → Int) :
    fin (quit R o c t).1 (quit R o c t).2 A = fin R o (fun d => if d = c then t else A d) := by
  have hl := hi.len
  unfold quit
  by_cases h0 : R.getD c 0 = 0
  · rw [if_pos h0]
    unfold fin
    refine List.ext_getElem (by simp) fun m h1 h2 => ?_
    simp only [List.getElem_mapIdx]
    simp only [List.length_mapIdx] at h1
    have hx := hi.cr o[m] (List.getElem_mem h1)
    by_cases hr : R.getD o[m].c.toNat 0 = m + 1
    · rw [if_pos hr, if_pos hr, if_neg]
      intro e
      rw [e, Int.toNat_natCast, h0] at hr
      omega
    · rw [if_neg hr, if_neg hr]
  · rw [if_neg h0]
    obtain ⟨m0, hm0⟩ : ∃ m0, R.getD c 0 = m0 + 1 := ⟨R.getD c 0 - 1, by omega⟩
    obtain ⟨hl0, hc0, ht0⟩ := hi.to c m0 hm0
    rw [hm0, Nat.add_sub_cancel]
    unfold fin
    refine List.ext_getElem (by simp [setTo_len]) fun m h1 h2 => ?_
    simp only [List.getElem_mapIdx]
    simp only [List.length_mapIdx] at h2
    have hx := hi.cr o[m] (List.getElem_mem h2)
    rw [setTo_get h2]
    have hcc : (if m0 = m then o[m].to t else o[m]).c = o[m].c := by split <;> rfl
    rw [hcc, getD_set (by omega)]
    by_cases e : o[m].c = (c : Int)
    · rw [e, Int.toNat_natCast, if_pos rfl, if_neg (by omega), if_pos rfl, hm0]
      by_cases em : m0 = m
      · subst em
        rw [if_pos rfl, if_pos rfl]
      · rw [if_neg em, if_neg (by omega)]
    · have em : m0 ≠ m := fun x => e (by subst x; exact hc0)
      rw [if_neg (show ¬ o[m].c.toNat = c by omega), if_neg em, if_neg e]
theorem quit_len (R : List Nat) (o : List Nt) (c : Nat) (t : Int) : (quit R o c t).1.length = R.length ∧ (quit R o c t).2.length = o.length := by
  unfold quit
  split
  · exact ⟨rfl, rfl⟩
  · exact ⟨by simp, setTo_len _ _ _⟩
theorem quit_zero {R : List Nat} (o : List Nt) {c : Nat} (hc : c < R.length) (t : Int) : (quit R o c t).1.getD c 0 = 0 := by
  unfold quit
  split
  · assumption
  · show (R.set c 0).getD c 0 = 0
    rw [getD_set hc, if_pos rfl]
theorem quit_inv {R : List Nat} {o : List Nt} {E : Int} (hi : RInv R o E) {c : Nat} (hc : c < 15) (t : Int) : RInv (quit R o c t).1 (quit R o c t).2 E := by
  have hl := hi.len
  unfold quit
  by_cases h0 : R.getD c 0 = 0
  · rw [if_pos h0]; exact hi
  rw [if_neg h0]
  obtain ⟨m0, hm0⟩ : ∃ m0, R.getD c 0 = m0 + 1 := ⟨R.getD c 0 - 1, by omega⟩
  obtain ⟨hl0, hc0, ht0⟩ := hi.to c m0 hm0
  rw [hm0, Nat.add_sub_cancel]
  refine ⟨by simpa using hl, fun r hr => ?_, fun x hx => ?_, fun d m hd => ?_⟩
  · rw [setTo_len]
    rcases List.mem_or_eq_of_mem_set hr with h | h
    · exact hi.le r h
    · omega
  · obtain ⟨m, hm, rfl⟩ := List.getElem_of_mem hx
    have hm2 : m < o.length := by rw [setTo_len] at hm; exact hm
    show 0 ≤ ((setTo o m0 t)[m]'hm).c ∧ ((setTo o m0 t)[m]'hm).c < 15
    rw [setTo_get hm2]
    have := hi.cr o[m] (List.getElem_mem hm2)
    split
    · exact this
    · exact this
  · rw [getD_set (by omega)] at hd
    split at hd
    · omega
    · rename_i hne
      obtain ⟨hm, a, b⟩ := hi.to d m hd
      refine ⟨by rw [setTo_len]; exact hm, ?_⟩
      have em : m0 ≠ m := fun x => by subst x; rw [hc0] at a; omega
      rw [setTo_get hm, if_neg em]
      exact ⟨a, b⟩
theorem push_fret {R : List Nat} {o : List Nt} {E : Int} (hi : RInv R o E) (n : Nt) (hn : 0 ≤ n.c ∧ n.c < 15) (A : Int → Int) : fin R (o ++ [n]) A = fin R o A ++ [n] ∧ RInv R (o ++ [n]) E := by
  have hl := hi.len
  have hle : ∀ c, R.getD c 0 ≤ o.length := fun c => by
    rw [List.getD]
    cases h : R[c]? with
    | none => simp
    | some x => exact hi.le x (List.mem_of_getElem? h)
  refine ⟨?_, hl, fun r hr => by have := hi.le r hr; simp; omega, fun x hx => ?_, fun c m h => ?_⟩
  · unfold fin
    rw [List.mapIdx_append]
    congr 1
    have := hle n.c.toNat
    rw [List.mapIdx_cons, List.mapIdx_nil, if_neg (by omega)]
  · rcases List.mem_append.1 hx with hx | hx
    · exact hi.cr x hx
    · rw [List.mem_singleton.1 hx]; exact hn
  · obtain ⟨hm, a, b⟩ := hi.to c m h
    refine ⟨by simp; omega, ?_⟩
    rw [List.getElem_append_left hm]
    exact ⟨a, b⟩
theorem push_open {R : List Nat} {o : List Nt} {E : Int} (hi : RInv R o E) (n : Nt) (hn : 0 ≤ n.c ∧ n.c < 15) (hE : n.t = E) (h0 : R.getD n.c.toNat 0 = 0) (A : Int → Int) :
    fin (R.set n.c.toNat (o.length + 1)) (o ++ [n]) A = fin R o A ++ [n.to (A n.c)] ∧ RInv (R.set n.c.toNat (o.length + 1)) (o ++ [n]) E := by
  have hl := hi.len
  have hc : n.c.toNat < R.length := by omega
  refine ⟨?_, by simpa using hl, fun r hr => ?_, fun x hx => ?_, fun c m h => ?_⟩
  · unfold fin
    rw [List.mapIdx_append]
    congr 1
    · refine List.ext_getElem (by simp) fun m h1 h2 => ?_
      simp only [List.getElem_mapIdx]
      simp only [List.length_mapIdx] at h1
      rw [getD_set hc]
      by_cases e : o[m].c.toNat = n.c.toNat
      · rw [if_pos e, if_neg (by omega), e, h0, if_neg (by omega)]
      · rw [if_neg e]
    · rw [List.mapIdx_cons, List.mapIdx_nil, getD_set hc, if_pos rfl, Nat.zero_add, if_pos rfl]
  · rw [List.length_append, List.length_singleton]
    rcases List.mem_or_eq_of_mem_set hr with h | h
    · have := hi.le r h; omega
    · omega
  · rcases List.mem_append.1 hx with hx | hx
    · exact hi.cr x hx
    · rw [List.mem_singleton.1 hx]; exact hn
  · rw [getD_set hc] at h
    split at h
    · rename_i e
      have hm : m = o.length := by omega
      subst hm
      refine ⟨by simp, ?_⟩
      rw [List.getElem_append_right (Nat.le_refl _)]
      simp only [Nat.sub_self, List.getElem_cons_zero]
      exact ⟨by omega, hE⟩
    · obtain ⟨hm, a, b⟩ := hi.to c m h
      refine ⟨by simp; omega, ?_⟩
      rw [List.getElem_append_left hm]
      exact ⟨a, b⟩
/-- the first courses end -/
def quitTo (t : Int) : Nat → List Nat × List Nt → List Nat × List Nt
  | 0, z => z
  | n + 1, z => quit (quitTo t n z).1 (quitTo t n z).2 n t
theorem quitTo_inv {E : Int} (t : Int) : ∀ (n : Nat) (z : List Nat × List Nt), RInv z.1 z.2 E → n ≤ 15 → RInv (quitTo t n z).1 (quitTo t n z).2 E ∧ (quitTo t n z).2.length = z.2.length
  | 0, z, h, _ => ⟨h, rfl⟩
  | n + 1, z, h, hn => by
    obtain ⟨a, b⟩ := quitTo_inv t n z h (by omega)
    exact ⟨quit_inv a (by omega) t, by rw [quitTo, (quit_len _ _ _ _).2, b]⟩
theorem quitTo_fin {E : Int} (t : Int) : ∀ (n : Nat) (z : List Nat × List Nt), RInv z.1 z.2 E → n ≤ 15 → ∀ A : Int → Int, fin (quitTo t n z).1 (quitTo t n z).2 A = fin z.1 z.2 (fun d => if d < n then t else A d)
  | 0, z, h, _, A => by
    rw [quitTo]
    refine fin_congr fun x hx => ?_
    have := h.cr x hx
    rw [if_neg (by omega)]
  | n + 1, z, h, hn, A => by
    obtain ⟨a, b⟩ := quitTo_inv t n z h (by omega)
    rw [quitTo, quit_fin a (by omega), quitTo_fin t n z h (by omega)]
    refine fin_congr fun x hx => ?_
    split
    · rw [if_pos (by omega)]
    · split
      · rw [if_pos (by omega)]
      · rw [if_neg (by omega)]
end Go.Ab.V

/-
  The program's run over the stops of a piece, and the document's notes. Plain Lean. The pieces are valid.
-/
namespace Go.Ab.V
open Go.Proofs

/-- a press -/
structure Pr where
  e : Int
  c : Int
  f : Int
  fr : Int
  to : Int
def prR (x : Pr) : List AV := [.int .i64 x.e, .int .i64 x.c, .int .i64 x.f, .int .i64 x.fr, .int .i64 x.to]
def prsA (l : List Pr) : AV := .lslc 5 (l.map prR) 0 l.length false
/-- the document's note, the program's note as it is written, and its press -/
def noteOf (p : Pc) (k : Nat) (s : Stp) : Nt := ⟨k, s.c, pitchOf p.ins s.c s.f, on p k, on p (endN p.evs k s)⟩
def toOf (p : Pc) (k : Nat) (s : Stp) : Int := if 0 < s.f then on p (stayN p.evs k s.h.toNat) else on p p.evs.length
def rawOf (p : Pc) (k : Nat) (s : Stp) : Nt := ⟨k, s.c, pitchOf p.ins s.c s.f, on p k, toOf p k s⟩
def pressOf (p : Pc) (k : Nat) (s : Stp) : Pr := ⟨k, s.c, s.f, on p k, toOf p k s⟩
/-- what the program holds: who rings, the notes, the presses -/
structure RS where
  R : List Nat
  o : List Nt
  w : List Pr
def RS.q (z : RS) (c : Nat) (t : Int) : RS := ⟨(quit z.R z.o c t).1, (quit z.R z.o c t).2, z.w⟩
def stpS (p : Pc) (k : Nat) (z : RS) (s : Stp) : RS :=
  ⟨if 0 < s.f then (z.q s.c.toNat (on p k)).R else (z.q s.c.toNat (on p k)).R.set s.c.toNat ((z.q s.c.toNat (on p k)).o.length + 1),
    (z.q s.c.toNat (on p k)).o ++ [rawOf p k s], z.w ++ [pressOf p k s]⟩
def runS (p : Pc) (k : Nat) : List Stp → RS → RS
  | [], z => z
  | s :: r, z => runS p k r (stpS p k z s)
def restS (p : Pc) (k : Nat) (e : Evt) (z : RS) : RS := if restE e = true then ⟨(quitTo (on p k) 15 (z.R, z.o)).1, (quitTo (on p k) 15 (z.R, z.o)).2, z.w⟩ else z
def runE (p : Pc) : Nat → List Evt → RS → RS
  | _, [], z => z
  | k, e :: r, z => runE p (k + 1) r (runS p k e.stops (restS p k e z))
def newL {α : Type} (g : Nat → Stp → α) : Nat → List Evt → List α
  | _, [] => []
  | k, e :: r => e.stops.map (g k) ++ newL g (k + 1) r
def notesL (p : Pc) : List Nt := newL (noteOf p) 0 p.evs
def pressL (p : Pc) : List Pr := newL (pressOf p) 0 p.evs
def rs0 : RS := ⟨List.replicate 15 0, [], []⟩

theorem runS_w (p : Pc) (k : Nat) : ∀ (l : List Stp) (z : RS), (runS p k l z).w = z.w ++ l.map (pressOf p k)
  | [], z => by simp [runS]
  | s :: r, z => by rw [runS, runS_w p k r]; simp [stpS]
theorem restS_w (p : Pc) (k : Nat) (e : Evt) (z : RS) : (restS p k e z).w = z.w := by unfold restS; split <;> rfl
theorem runE_w (p : Pc) : ∀ (l : List Evt) (k : Nat) (z : RS), (runE p k l z).w = z.w ++ newL (pressOf p) k l
  | [], k, z => by simp [runE, newL]
  | e :: r, k, z => by rw [runE, runE_w p r, runS_w, restS_w, newL, List.append_assoc]
/-- what can be said of the stops of an event -/
def SGood (p : Pc) (k : Nat) (s : Stp) : Prop := 1 ≤ s.c ∧ s.c < 15
theorem noteOf_open {p : Pc} {k : Nat} {s : Stp} (h : ¬ 0 < s.f) : (rawOf p k s).to (on p (openN p.evs k s.c)) = noteOf p k s := by
  unfold rawOf noteOf Nt.to endN
  rw [if_neg h]
theorem noteOf_fret {p : Pc} {k : Nat} {s : Stp} (h : 0 < s.f) : rawOf p k s = noteOf p k s := by
  unfold rawOf noteOf endN toOf
  rw [if_pos h, if_pos h]
/-- the note of a stop, an open one ending as is said -/
def noteA (p : Pc) (k : Nat) (A : Int → Int) (s : Stp) : Nt := if 0 < s.f then rawOf p k s else (rawOf p k s).to (A s.c)
theorem stpS_fin {p : Pc} {k : Nat} {z : RS} {s : Stp} (hi : RInv z.R z.o (on p p.evs.length)) (hs : SGood p k s) (A : Int → Int) :
    fin (stpS p k z s).R (stpS p k z s).o A = fin z.R z.o (fun d => if d = s.c then on p k else A d) ++ [noteA p k A s] ∧ RInv (stpS p k z s).R (stpS p k z s).o (on p p.evs.length) := by
  obtain ⟨s1, s2⟩ := hs
  have hc : s.c.toNat < 15 := by omega
  have hcc : ((s.c.toNat : Nat) : Int) = s.c := by omega
  have h1 := quit_inv hi hc (on p k)
  have h2 := quit_fin hi hc (on p k) A
  rw [hcc] at h2
  have h3 := quit_zero z.o (R := z.R) (c := s.c.toNat) (by rw [hi.len]; exact hc) (on p k)
  by_cases hf : 0 < s.f
  · have e1 : (stpS p k z s).R = (quit z.R z.o s.c.toNat (on p k)).1 := if_pos hf
    have e2 : (stpS p k z s).o = (quit z.R z.o s.c.toNat (on p k)).2 ++ [rawOf p k s] := rfl
    obtain ⟨a, b⟩ := push_fret h1 (rawOf p k s) ⟨by show 0 ≤ s.c; omega, s2⟩ A
    rw [e1, e2, a, h2]
    unfold noteA
    rw [if_pos hf]
    exact ⟨rfl, b⟩
  · have e1 : (stpS p k z s).R = (quit z.R z.o s.c.toNat (on p k)).1.set s.c.toNat ((quit z.R z.o s.c.toNat (on p k)).2.length + 1) := if_neg hf
    have e2 : (stpS p k z s).o = (quit z.R z.o s.c.toNat (on p k)).2 ++ [rawOf p k s] := rfl
    obtain ⟨a, b⟩ := push_open h1 (rawOf p k s) ⟨by show 0 ≤ s.c; omega, s2⟩ (by show toOf p k s = _; unfold toOf; rw [if_neg hf]) h3 A
    have e3 : (rawOf p k s).c = s.c := rfl
    rw [e3] at a b
    rw [e1, e2, a, h2]
    unfold noteA
    rw [if_neg hf]
    exact ⟨rfl, b⟩
theorem runS_fin {p : Pc} {k : Nat} : ∀ {l : List Stp} {z : RS}, RInv z.R z.o (on p p.evs.length) → (∀ s ∈ l, SGood p k s) → l.Pairwise (fun a b => a.c < b.c) → ∀ A : Int → Int,
    fin (runS p k l z).R (runS p k l z).o A = fin z.R z.o (fun d => if hasC l d = true then on p k else A d) ++ l.map (noteA p k A) ∧ RInv (runS p k l z).R (runS p k l z).o (on p p.evs.length)
  | [], z, hi, _, _, A => by
    refine ⟨?_, hi⟩
    rw [runS, List.map_nil, List.append_nil]
    exact fin_congr fun x hx => by simp [hasC]
  | s :: r, z, hi, hg, hp, A => by
    obtain ⟨p1, p2⟩ := List.pairwise_cons.1 hp
    obtain ⟨a1, b1⟩ := stpS_fin hi (hg s (by simp)) (fun d => if hasC r d = true then on p k else A d)
    obtain ⟨a2, b2⟩ := runS_fin (k := k) (l := r) b1 (fun x hx => hg x (List.mem_cons_of_mem _ hx)) p2 A
    rw [runS]
    refine ⟨?_, b2⟩
    have hn : hasC r s.c = false := by
      unfold hasC
      rw [List.any_eq_false]
      intro x hx
      have := p1 x hx
      simp only [beq_iff_eq]
      omega
    rw [a2, a1, List.append_assoc]
    congr 1
    · refine fin_congr fun x hx => ?_
      unfold hasC
      rw [List.any_cons]
      by_cases e : x.c = s.c
      · rw [if_pos e, if_pos (by rw [Bool.or_eq_true]; exact .inl (by simp [e]))]
      · have hb : (s.c == x.c) = false := by rw [beq_eq_false_iff_ne]; exact fun y => e y.symm
        rw [if_neg e, hb, Bool.false_or]
    · rw [List.map_cons, List.singleton_append]
      congr 1
      show (if 0 < s.f then rawOf p k s else (rawOf p k s).to (if hasC r s.c = true then on p k else A s.c)) = (if 0 < s.f then rawOf p k s else (rawOf p k s).to (A s.c))
      rw [hn, if_neg (show ¬ (false = true) by simp)]
/-- when an open note that rings before event k ends -/
def ringA (p : Pc) (k : Nat) (c : Int) : Int := on p (k + (p.evs.drop k).findIdx (endE c))
theorem restS_fin {p : Pc} {k : Nat} {e : Evt} {z : RS} (hi : RInv z.R z.o (on p p.evs.length)) (A : Int → Int) :
    fin (restS p k e z).R (restS p k e z).o A = fin z.R z.o (fun d => if restE e = true then on p k else A d) ∧ RInv (restS p k e z).R (restS p k e z).o (on p p.evs.length) := by
  by_cases h : restE e = true
  · have i1 := (quitTo_inv (on p k) 15 (z.R, z.o) hi (Nat.le_refl _)).1
    have i2 := quitTo_fin (on p k) 15 (z.R, z.o) hi (Nat.le_refl _) A
    have e1 : restS p k e z = ⟨(quitTo (on p k) 15 (z.R, z.o)).1, (quitTo (on p k) 15 (z.R, z.o)).2, z.w⟩ := if_pos h
    rw [e1]
    generalize quitTo (on p k) 15 (z.R, z.o) = Q at i1 i2 ⊢
    refine ⟨?_, i1⟩
    show fin Q.1 Q.2 A = _
    rw [i2]
    refine fin_congr fun x hx => ?_
    rw [if_pos (show x.c < ((15 : Nat) : Int) from (hi.cr x hx).2), if_pos h]
  · have e1 : restS p k e z = z := if_neg h
    rw [e1]
    refine ⟨fin_congr fun x hx => ?_, hi⟩
    rw [if_neg h]
theorem restS_len {p : Pc} {k : Nat} {e : Evt} {z : RS} (hi : RInv z.R z.o (on p p.evs.length)) : (restS p k e z).o.length = z.o.length := by
  by_cases h : restE e = true
  · have i1 := (quitTo_inv (on p k) 15 (z.R, z.o) hi (Nat.le_refl _)).2
    have e1 : restS p k e z = ⟨(quitTo (on p k) 15 (z.R, z.o)).1, (quitTo (on p k) 15 (z.R, z.o)).2, z.w⟩ := if_pos h
    rw [e1]
    generalize quitTo (on p k) 15 (z.R, z.o) = Q at i1 ⊢
    exact i1
  · have e1 : restS p k e z = z := if_neg h
    rw [e1]
theorem rest_yes {p : Pc} {k : Nat} {e : Evt} {z : RS} (h : restE e = true) : restS p k e z = ⟨(quitTo (on p k) 15 (z.R, z.o)).1, (quitTo (on p k) 15 (z.R, z.o)).2, z.w⟩ := if_pos h
theorem to_self {x : Nt} {t : Int} (h : t = x.t) : x = x.to t := by subst h; rfl
theorem runE_out {p : Pc} (v : Vp p) : ∀ (l : List Evt) (k : Nat) (z : RS), p.evs.drop k = l → k ≤ p.evs.length → RInv z.R z.o (on p p.evs.length) →
    (runE p k l z).o = fin z.R z.o (ringA p k) ++ newL (noteOf p) k l
  | [], k, z, hl, hk, hi => by
    rw [runE, newL, List.append_nil]
    have hk2 : k = p.evs.length := by have := congrArg List.length hl; rw [List.length_drop, List.length_nil] at this; omega
    have hA : ∀ c, ringA p k c = on p p.evs.length := fun c => by unfold ringA; rw [hl, List.findIdx_nil, Nat.add_zero, hk2]
    unfold fin
    refine List.ext_getElem (by simp) fun m h1 h2 => ?_
    simp only [List.getElem_mapIdx, hA]
    split
    · rename_i h
      obtain ⟨hm, a, b⟩ := hi.to _ _ h
      exact to_self b.symm
    · rfl
  | e :: r, k, z, hl, hk, hi => by
    have hk2 : k < p.evs.length := by
      rcases Nat.lt_or_ge k p.evs.length with h | h
      · exact h
      · rw [List.drop_eq_nil_of_le h] at hl; cases hl
    have hd := List.drop_eq_getElem_cons hk2
    rw [hl] at hd
    obtain ⟨he, hr⟩ := List.cons.inj hd
    subst he
    obtain ⟨a1, b1⟩ := restS_fin (k := k) (e := p.evs[k]) hi (fun d => if hasC p.evs[k].stops d = true then on p k else ringA p (k + 1) d)
    have hcs := v.cs
    obtain ⟨a2, b2⟩ := runS_fin (k := k) (l := p.evs[k].stops) b1 (fun s hs => by have := v.sp k hk2 s hs; exact ⟨by omega, by omega⟩) (v.asc k hk2) (ringA p (k + 1))
    rw [runE, runE_out v r (k + 1) _ hr.symm hk2 b2, a2, a1, newL, List.append_assoc]
    congr 1
    · refine fin_congr fun x hx => ?_
      unfold ringA
      rw [find_drop x.c hk2]
      unfold endE
      cases hre : restE p.evs[k]
      · cases hha : hasC p.evs[k].stops x.c
        · simp only [Bool.false_eq_true, if_false, Bool.or_self]
          congr 1
          omega
        · simp
      · simp
    · congr 1
      refine List.map_congr_left fun s hs => ?_
      unfold noteA
      split
      · rename_i hf
        exact noteOf_fret hf
      · rename_i hf
        exact noteOf_open hf
theorem rinv0 (E : Int) : RInv rs0.R rs0.o E := by
  refine ⟨rfl, fun r hr => ?_, fun x hx => (by cases hx), fun c m h => ?_⟩
  · have := List.eq_of_mem_replicate hr
    omega
  · exfalso
    have h2 : (List.replicate 15 0).getD c 0 = 0 := by
      rw [List.getD]
      cases hc : (List.replicate 15 0)[c]? with
      | none => rfl
      | some x => exact List.eq_of_mem_replicate (List.mem_of_getElem? hc)
    have h3 : (List.replicate 15 0).getD c 0 = m + 1 := h
    omega
/-- the program's notes are the document's -/
theorem run_out {p : Pc} (v : Vp p) : (runE p 0 p.evs rs0).o = notesL p ∧ (runE p 0 p.evs rs0).w = pressL p := by
  refine ⟨?_, ?_⟩
  · rw [runE_out v p.evs 0 rs0 rfl (Nat.zero_le _) (rinv0 _)]
    rfl
  · rw [runE_w]; rfl
end Go.Ab.V
