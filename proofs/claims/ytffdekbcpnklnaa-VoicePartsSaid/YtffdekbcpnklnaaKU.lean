/-
  What is proved here serves the law's text: each part says its own claim and its conditions. No condition is left open.
-/
import Derived.Test.YtffdekbcpnklnaaKS
import Derived.Test.YtffdekbcpnklnaaKT
set_option linter.unusedSimpArgs false
set_option linter.unusedVariables false

/-
  Notes as parts: plain definitions, and the program's walk. No condition but the lengths.
-/
namespace Go.Ab.V
open Go.Proofs

def tnOf (n : Nt) : Tn := ⟨n.p, n.f, n.t⟩
def tn0 : Tn := ⟨0, 0, 0⟩
def cut (x : Tn) (f : Int) : Tn := ⟨x.p, x.f, if f < x.t then f else x.t⟩
/-- the last tone ends where the next one begins -/
def cutL (p : List Tn) (f : Int) : List Tn := if p = [] then [] else p.set (p.length - 1) (cut (p.getD (p.length - 1) tn0) f)
theorem cutL_len (p : List Tn) (f : Int) : (cutL p f).length = p.length := by unfold cutL; split <;> simp_all
def stepP (n : Nat) (P : List (List Tn)) (E : List Int) (x : Nt) (v : Int) : Option (List (List Tn) × List Int) :=
  if v < 1 ∨ (n : Int) < v then none else
  if P.getD (v - 1).toNat [] ≠ [] ∧ E.getD (v - 1).toNat 0 = x.e then none else
  some (P.set (v - 1).toNat (cutL (P.getD (v - 1).toNat []) x.f ++ [tnOf x]), E.set (v - 1).toNat x.e)
def parts (n : Nat) : List (List Tn) → List Int → List Nt → List Int → Option (List (List Tn))
  | P, _, [], _ => some P
  | P, E, x :: r, v :: q => match stepP n P E x v with
    | none => none
    | some d => parts n d.1 d.2 r q
  | P, _, _ :: _, [] => some P
def partsV (l : List Nt) (ks : List Int) (n : Int) : AV := if chkN l ≠ 0 then .tup [.nils, .int .i64 (chkN l)] else if ks.length ≠ l.length ∨ n < 1 ∨ 5 < n then .tup [.nils, .int .i64 1] else
  match parts n.toNat (List.replicate n.toNat []) (List.replicate n.toNat 0) l ks with
  | none => .tup [.nils, .int .i64 71]
  | some P => .tup [prtsA P, .int .i64 0]
abbrev rws (P : List (List Tn)) : List (List (List AV)) := P.map fun p => p.map tnR
theorem parts_cons {n : Nat} {P : List (List Tn)} {E : List Int} {l : List Nt} {ks : List Int} {k : Nat} (h1 : k < l.length) (h2 : k < ks.length) : parts n P E (l.drop k) (ks.drop k) = match stepP n P E l[k] ks[k] with
    | none => none
    | some d => parts n d.1 d.2 (l.drop (k + 1)) (ks.drop (k + 1)) := by
  rw [List.drop_eq_getElem_cons h1, List.drop_eq_getElem_cons h2, parts]
theorem objs_pure {eps : Nat → Nat} : ∀ (P : List (List Tn)) (i : Nat), ∀ o ∈ objsF eps i (rws P), pureObj o
  | [], i, o, h => by simp [objsF] at h
  | p :: P, i, o, h => by
    rcases List.mem_cons.1 h with rfl | h
    · exact pure_map p fun x => rfl
    · exact objs_pure P (i + 1) o h
theorem end_parts {P : List (List Tn)} {e : Nat} {eps : Nat → Nat} {X : List AObj} {m : Nat} (hm : m = P.length) :
    frzD ⟨.vec e (rowsF 3 0 eps 0 (rws P)) :: X, objsF eps 0 (rws P)⟩ (.tup [.oslc (.s 0) e 1 0 m false, .int .i64 0]) fun v h' => frzK h' v fun r' _ => r'.isPure2 = true ∧ r' = .tup [prtsA P, .int .i64 0] := by
  subst hm
  refine ⟨objs_pure P 0, ?_⟩
  have hf := rowsF_fz (sz := 3) (eps := eps) (X := objsF eps 0 (rws P)) (rws P) 0 (fun k h => by rw [Nat.zero_add]; have := objsF_get (eps := eps) (R := rws P) (i := 0) (k := k) h; rw [Nat.zero_add] at this; exact this)
  have e1 : ((rws P).map fun r => [AV.lslc 3 r 0 r.length false]) = P.map fun p => [tnsA p] := by
    simp only [rws, List.map_map]
    refine List.map_congr_left fun p _ => ?_
    simp [tnsA]
  rw [e1] at hf
  show frzK ⟨.vec e ((rowsF 3 0 eps 0 (rws P)).map fun r => r.map (fzC (objsF eps 0 (rws P)))) :: X.map (AObj.fz (objsF eps 0 (rws P))), []⟩ (.tup [.oslc (.s 0) e 1 0 P.length false, .int .i64 0]) _
  rw [hf]
  (conv => whnf)
  refine ⟨rfl, ?_⟩
  (conv => whnf)
  refine ⟨pure_map P fun x => rfl, ?_⟩
  (conv => whnf)
  exact ⟨rfl, rfl⟩

def A23 : Ann := fun r => match r with
  | 6 => { slots := [(1, 0)] }
  | 7 => { slots := [(1, 1)] }
  | 10 => { slots := [(3, 2)] }
  | 20 => { slots := [(11, 3), (12, 4)] }
  | _ => {}
set_option maxHeartbeats 16000000 in
set_option maxRecDepth 100000 in
theorem parts23 (l : List Nt) (ks : List Int) (n : Int) (h3 : l.length ≤ 9223372036854775807) (h4 : ks.length ≤ 9223372036854775807) : PRet C.P 23 [ntsA l, intsA ks, .int .i64 n] (partsV l ks n) := by
  have hB := checkNotes_spec l h3
  unfold partsV
  by_cases c1 : chkN l ≠ 0
  · rw [if_pos c1]
    generalize chkN l = b at hB c1
    refine pret_of ok mixed (A := A23) 5 Try.func23 rfl ?_
    (repeat' (first | exact rfl | ((conv => whnf); first | refine ⟨_, hB, ?_⟩ | exact rfl | exact ⟨rfl, rfl⟩ | refine ⟨(by kernel_rfl : drawOk _ _ _ _ = true), ?_⟩ | refine ⟨(by kernel_rfl : planOk _ _ _ _ = true), ?_⟩ | refine ⟨rfl, ?_⟩ | refine ⟨by (first | omega | (simp (disch := omega) only [wrapI]; omega) | (simp (disch := omega) only [wrapI]; simp; omega) | (simp; omega)), ?_⟩ | (intro ep) | (refine ifB (fun hb => ?_) (fun hb => ?_) <;> (try simp only [decide_eq_true_eq, decide_eq_false_iff_not, beq_iff_eq, beq_eq_false_iff_ne, bne_iff_ne, bne_eq_false_iff_eq, ne_eq, not_false_eq_true, not_true_eq_false, Bool.not_eq_true, Bool.not_eq_true', Bool.not_eq_false', Int.not_lt, Int.not_le] at hb) <;> (try simp (disch := omega) only [wrapI] at hb) <;> (try (exfalso; omega))) | fail)))
  rw [if_neg c1]
  have c1 : chkN l = 0 := by omega
  rw [c1] at hB
  have NN := ntsOk_of c1
  have hlen := NN.len
  by_cases c2 : ks.length ≠ l.length ∨ n < 1 ∨ 5 < n
  · rw [if_pos c2]
    by_cases c3 : n < 1 ∨ 5 < n
    · have w1 := within_f (n := n) (a := 1) (b := 5) c3
      refine pret_of ok mixed (A := A23) 5 Try.func23 rfl ?_
      (repeat' (first | exact rfl | ((conv => whnf); first | refine ⟨_, hB, ?_⟩ | refine ⟨_, w1, ?_⟩ | exact rfl | exact ⟨rfl, rfl⟩ | refine ⟨(by kernel_rfl : drawOk _ _ _ _ = true), ?_⟩ | refine ⟨(by kernel_rfl : planOk _ _ _ _ = true), ?_⟩ | refine ⟨rfl, ?_⟩ | refine ⟨by (first | omega | (simp (disch := omega) only [wrapI]; omega) | (simp (disch := omega) only [wrapI]; simp; omega) | (simp; omega)), ?_⟩ | (intro ep) | (refine ifB (fun hb => ?_) (fun hb => ?_) <;> (try simp only [decide_eq_true_eq, decide_eq_false_iff_not, beq_iff_eq, beq_eq_false_iff_ne, bne_iff_ne, bne_eq_false_iff_eq, ne_eq, not_false_eq_true, not_true_eq_false, Bool.not_eq_true, Bool.not_eq_true', Bool.not_eq_false', Int.not_lt, Int.not_le] at hb) <;> (try simp (disch := omega) only [wrapI] at hb) <;> (try (exfalso; omega))) | fail)))
    · have w1 := within_t (n := n) (a := 1) (b := 5) (by omega)
      refine pret_of ok mixed (A := A23) 5 Try.func23 rfl ?_
      (repeat' (first | exact rfl | ((conv => whnf); first | refine ⟨_, hB, ?_⟩ | refine ⟨_, w1, ?_⟩ | exact rfl | exact ⟨rfl, rfl⟩ | refine ⟨(by kernel_rfl : drawOk _ _ _ _ = true), ?_⟩ | refine ⟨(by kernel_rfl : planOk _ _ _ _ = true), ?_⟩ | refine ⟨rfl, ?_⟩ | refine ⟨by (first | omega | (simp (disch := omega) only [wrapI]; omega) | (simp (disch := omega) only [wrapI]; simp; omega) | (simp; omega)), ?_⟩ | (intro ep) | (refine ifB (fun hb => ?_) (fun hb => ?_) <;> (try simp only [decide_eq_true_eq, decide_eq_false_iff_not, beq_iff_eq, beq_eq_false_iff_ne, bne_iff_ne, bne_eq_false_iff_eq, ne_eq, not_false_eq_true, not_true_eq_false, Bool.not_eq_true, Bool.not_eq_true', Bool.not_eq_false', Int.not_lt, Int.not_le] at hb) <;> (try simp (disch := omega) only [wrapI] at hb) <;> (try (exfalso; omega))) | fail)))
  rw [if_neg c2]
  have hk : ks.length = l.length := by omega
  obtain ⟨m, rfl⟩ : ∃ m : Nat, n = (m : Int) := ⟨n.toNat, by omega⟩
  have hm5 : 1 ≤ m ∧ m ≤ 5 := by omega
  have w1 := within_t (n := (m : Int)) (a := 1) (b := 5) (by omega)
  rw [Int.toNat_natCast]
  obtain ⟨R, hR⟩ : ∃ R, R = parts m (List.replicate m []) (List.replicate m 0) l ks := ⟨_, rfl⟩
  rw [← hR]
  refine pretD_of ok mixed (A := A23) 5 Try.func23 rfl ?_
  (repeat' (first | exact rfl | ((conv => whnf); first | refine ⟨_, hB, ?_⟩ | refine ⟨_, w1, ?_⟩ | (intro e1) | exact rfl | exact ⟨rfl, rfl⟩ | refine ⟨(by kernel_rfl : drawOk _ _ _ _ = true), ?_⟩ | refine ⟨(by kernel_rfl : planOk _ _ _ _ = true), ?_⟩ | refine ⟨rfl, ?_⟩ | refine ⟨by (first | omega | (simp (disch := omega) only [wrapI]; omega) | (simp (disch := omega) only [wrapI]; simp; omega) | (simp; omega)), ?_⟩ | (intro ep) | (refine ifB (fun hb => ?_) (fun hb => ?_) <;> (try simp only [decide_eq_true_eq, decide_eq_false_iff_not, beq_iff_eq, beq_eq_false_iff_ne, bne_iff_ne, bne_eq_false_iff_eq, ne_eq, not_false_eq_true, not_true_eq_false, Bool.not_eq_true, Bool.not_eq_true', Bool.not_eq_false', Int.not_lt, Int.not_le] at hb) <;> (try simp (disch := omega) only [wrapI] at hb) <;> (try (exfalso; omega))) | fail)))
  all_goals (conv => whnf)
  rename_i e0
  refine wk_fan 0 e0 3 m rfl ?_
  intro eps0
  have hi0 : ints (List.replicate m 0) = List.replicate m [.int .i64 0] := by simp [ints]
  have hp0 : rws (List.replicate m []) = List.replicate m [] := by simp [rws]
  refine loopY ok mixed (A := A23) [1, 2, 9, 10, 35, 36, 37] [0, 1] (S := { z : Nat × (Nat → Nat) × List (List Tn) × List Int // z.1 ≤ l.length ∧ z.2.2.1.length = m ∧ z.2.2.2.length = m ∧ (∀ p ∈ z.2.2.1, p.length ≤ z.1) ∧ parts m z.2.2.1 z.2.2.2 (l.drop z.1) (ks.drop z.1) = R })
    (fr := fun z => frOf 0 114 [(1, intsA ks), (2, .int .i64 (m : Int)), (9, .oslc (.s 0) e0 1 0 m false), (10, .oslc (.s 1) e1 1 0 m false), (35, ntsA l), (36, .int .i64 (l.length : Int)), (37, .int .i64 (z.1.1 : Int))])
    (h := fun z => ⟨[.vec e0 (rowsF 3 0 z.1.2.1 0 (rws z.1.2.2.1)), .vec e1 (ints z.1.2.2.2), .hole, .hole, .hole], objsF z.1.2.1 0 (rws z.1.2.2.1)⟩) (μ := fun z => l.length - z.1.1)
    ⟨(0, eps0, List.replicate m [], List.replicate m 0), Nat.zero_le _, by simp, by simp, fun p hp => by rw [(List.mem_replicate.1 hp).2]; exact Nat.zero_le _, hR.symm⟩ ?_ ?_
    [9] [0] (S' := { z : (Nat → Nat) × List (List Tn) // some z.2 = R ∧ z.2.length = m }) (X := fun _ => 0) (frX := fun z => frOf 0 114 [(9, .oslc (.s 0) e0 1 0 m false)])
    (hX := fun z => ⟨[.vec e0 (rowsF 3 0 z.1.1 0 (rws z.1.2)), .hole, .hole, .hole, .hole], objsF z.1.1 0 (rws z.1.2)⟩)
    [6, 7] [] (S2 := { z : (Nat → Nat) × List (List Tn) // none = R }) (frR := fun z => frOf 0 114 [(6, .nils), (7, .int .i64 71)]) (hR := fun z => ⟨[.hole, .hole, .hole, .hole, .hole], objsF z.1.1 0 (rws z.1.2)⟩) ?_ ?_ ?_
  · exact rfl
  · show maskH 0 _ _ = ⟨[.vec e0 (rowsF 3 0 eps0 0 (rws (List.replicate m []))), .vec e1 (ints (List.replicate m 0)), .hole, .hole, .hole], objsF eps0 0 (rws (List.replicate m []))⟩
    rw [hi0, hp0]
    exact rfl
  · rintro ⟨⟨k, eps, P, E⟩, hkl, hPl, hEl, hpl, hu⟩
    simp only at hkl hPl hEl hpl hu
    show aexR _ _ _ (frOf 0 114 [(1, intsA ks), (2, .int .i64 (m : Int)), (9, .oslc (.s 0) e0 1 0 m false), (10, .oslc (.s 1) e1 1 0 m false), (35, ntsA l), (36, .int .i64 (l.length : Int)), (37, .int .i64 (k : Int))]) ⟨[.vec e0 (rowsF 3 0 eps 0 (rws P)), .vec e1 (ints E), .hole, .hole, .hole], objsF eps 0 (rws P)⟩ _
    (conv => whnf)
    refine ifB (fun g1 => ?_) (fun g1 => ?_)
    · simp only [decide_eq_true_eq] at g1
      have h1 : k < l.length := by omega
      have h2 : k < ks.length := by omega
      have hm1 := mapR (f := ntR) h1
      have hm2 := intsR h2
      rw [parts_cons h1 h2] at hu
      generalize l[k] = x at hm1 hu
      generalize ks[k] = v at hm2 hu
      obtain ⟨xe, xc, xp, xf, xt⟩ := x
      replace hm1 : (l.map ntR)[0 + (k : Int).toNat]? = some [.int .i64 xe, .int .i64 xc, .int .i64 xp, .int .i64 xf, .int .i64 xt] := hm1
      unfold stepP at hu
      simp only at hu
      by_cases c3 : v < 1 ∨ (m : Int) < v
      · rw [if_pos c3] at hu
        have w2 := within_f (n := v) (a := 1) (b := (m : Int)) c3
        (repeat' (first | exact rfl | ((conv => whnf); first | refine optS hm1 ?_ | refine optS hm2 ?_ | refine ⟨_, w2, ?_⟩ | exact rfl | exact ⟨rfl, rfl⟩ | refine ⟨(by kernel_rfl : drawOk _ _ _ _ = true), ?_⟩ | refine ⟨(by kernel_rfl : planOk _ _ _ _ = true), ?_⟩ | refine ⟨rfl, ?_⟩ | refine ⟨by (first | omega | (simp (disch := omega) only [wrapI]; omega) | (simp (disch := omega) only [wrapI]; simp; omega) | (simp; omega)), ?_⟩ | (intro ep) | (refine ifB (fun hb => ?_) (fun hb => ?_) <;> (try simp only [decide_eq_true_eq, decide_eq_false_iff_not, beq_iff_eq, beq_eq_false_iff_ne, bne_iff_ne, bne_eq_false_iff_eq, ne_eq, not_false_eq_true, not_true_eq_false, Bool.not_eq_true, Bool.not_eq_true', Bool.not_eq_false', Int.not_lt, Int.not_le] at hb) <;> (try simp (disch := omega) only [wrapI] at hb) <;> (try (exfalso; omega))) | fail)))
        all_goals (conv => whnf)
        exact back_of ⟨(eps, P), hu⟩ ⟨rfl, rfl⟩
      rw [if_neg c3] at hu
      have w2 := within_t (n := v) (a := 1) (b := (m : Int)) (by omega)
      obtain ⟨j, hj⟩ : ∃ j, (v - 1).toNat = j := ⟨_, rfl⟩
      have hw : IntKind.i64.wrap (v - 1) = (j : Int) := by rw [wrapI (by omega) (by omega)]; omega
      have hjm : j < m := by omega
      have hjP : j < P.length := by omega
      have hjE : j < E.length := by omega
      rw [hj] at hu
      have gP : P.getD j [] = P[j] := by rw [List.getD_eq_getElem?_getD, List.getElem?_eq_getElem hjP]; rfl
      have gE : E.getD j 0 = E[j] := by rw [List.getD_eq_getElem?_getD, List.getElem?_eq_getElem hjE]; rfl
      rw [gP, gE] at hu
      have hpj := hpl P[j] (List.getElem_mem hjP)
      have hrow : (rowsF 3 0 eps 0 (rws P))[0 + (IntKind.i64.wrap (v - 1)).toNat]? = some [.oslc (.d (0 + (0 + j))) (eps (0 + j)) 3 0 P[j].length false] := by
        rw [hw, Nat.zero_add, Int.toNat_natCast, rowsF_get (R := rws P) (i := 0) (k := j) (by simpa [rws] using hjP)]; simp [rws]
      have hobj : (objsF eps 0 (rws P))[0 + (0 + j)]? = some (.vec (eps (0 + j)) (P[j].map tnR)) := by
        rw [Nat.zero_add, Nat.zero_add, objsF_get (R := rws P) (i := 0) (k := j) (by simpa [rws] using hjP)]; simp [rws]
      have hobj2 : ∀ rows2, ((objsF eps 0 (rws P)).set (0 + (0 + j)) (.vec (eps (0 + j)) rows2))[0 + (0 + j)]? = some (.vec (eps (0 + j)) rows2) := fun rows2 => by
        rw [Nat.zero_add, Nat.zero_add, List.getElem?_set_self (by rw [objsF_len]; simpa [rws] using hjP)]
      have hE : (ints E)[0 + (IntKind.i64.wrap (v - 1)).toNat]? = some [.int .i64 E[j]] := by rw [hw]; exact intsR hjE
      have hset : ∀ (p' : List Tn) (e2 : Nat), p'.length = P[j].length + 1 → (rowsF 3 0 eps 0 (rws P)).set (0 + (IntKind.i64.wrap (v - 1)).toNat) [.oslc (.d (0 + (0 + j))) e2 3 0 (P[j].length + 1) false] = rowsF 3 0 (updE eps (0 + j) e2) 0 (rws (P.set j p')) := fun p' e2 hl => by
        have := rowsF_set (sz := 3) (B := 0) (eps := eps) (e := e2) (r' := p'.map tnR) (R := rws P) (i := 0) (k := j) (by simpa [rws] using hjP)
        rw [List.length_map, hl] at this
        rw [hw, Nat.zero_add, Int.toNat_natCast, this]
        simp only [rws, List.map_set]
      have hset2 : ∀ (p' : List Tn) (e2 : Nat) (Y : AObj), ((objsF eps 0 (rws P)).set (0 + (0 + j)) Y).set (0 + (0 + j)) (.vec e2 (p'.map tnR)) = objsF (updE eps (0 + j) e2) 0 (rws (P.set j p')) := fun p' e2 Y => by
        rw [List.set_set]
        have := objsF_set (eps := eps) (e := e2) (r' := p'.map tnR) (R := rws P) (i := 0) (k := j) (by simpa [rws] using hjP)
        rw [show 0 + (0 + j) = j by omega, this]
        simp only [rws, List.map_set]
      have hset1 : ∀ (p' : List Tn) (e2 : Nat), (objsF eps 0 (rws P)).set (0 + (0 + j)) (.vec e2 (p'.map tnR)) = objsF (updE eps (0 + j) e2) 0 (rws (P.set j p')) := fun p' e2 => by
        rw [← hset2 p' e2 .hole, List.set_set]
      have hsetE : (ints E).set (0 + (IntKind.i64.wrap (v - 1)).toNat) [.int .i64 xe] = ints (E.set j xe) := by
        rw [hw, Nat.zero_add, Int.toNat_natCast]; simp only [ints, List.map_set]
      have hok : ∀ p' : List Tn, p'.length = P[j].length + 1 → (P.set j p').length = m ∧ (E.set j xe).length = m ∧ ∀ q ∈ P.set j p', q.length ≤ k + 1 := fun p' hl => by
        refine ⟨by simpa using hPl, by simpa using hEl, fun q hq => ?_⟩
        rcases List.mem_or_eq_of_mem_set hq with hq | rfl
        · have := hpl q hq; omega
        · omega
      generalize P[j] = p at hu hpj hrow hobj hset hok
      generalize E[j] = ej at hu hE
      have t3 : List.take p.length (List.drop 0 (p.map tnR)) = p.map tnR := by rw [List.drop_zero, List.take_of_length_le (by simp)]
      by_cases c4 : p = []
      · subst c4
        rw [if_neg (by simp)] at hu
        simp only at hu
        (repeat' (first | exact rfl | ((conv => whnf); first | refine optS hm1 ?_ | refine optS hm2 ?_ | refine ⟨_, w2, ?_⟩ | refine optS hrow ?_ | refine optO hobj ?_ | refine optS hE ?_ | (intro e5) | exact rfl | exact ⟨rfl, rfl⟩ | refine ⟨(by kernel_rfl : drawOk _ _ _ _ = true), ?_⟩ | refine ⟨(by kernel_rfl : planOk _ _ _ _ = true), ?_⟩ | refine ⟨rfl, ?_⟩ | refine ⟨by (first | omega | (simp (disch := omega) only [wrapI]; omega) | (simp (disch := omega) only [wrapI]; simp; omega) | (simp; omega)), ?_⟩ | (intro ep) | (refine ifB (fun hb => ?_) (fun hb => ?_) <;> (try simp only [decide_eq_true_eq, decide_eq_false_iff_not, beq_iff_eq, beq_eq_false_iff_ne, bne_iff_ne, bne_eq_false_iff_eq, ne_eq, not_false_eq_true, not_true_eq_false, Bool.not_eq_true, Bool.not_eq_true', Bool.not_eq_false', Int.not_lt, Int.not_le] at hb) <;> (try simp (disch := omega) only [wrapI] at hb) <;> (try (exfalso; omega))) | fail)))
        all_goals (conv => whnf)
        have hk3 := hok [⟨xp, xf, xt⟩] rfl
        refine back_of ⟨(k + 1, updE eps (0 + j) e5, P.set j [⟨xp, xf, xt⟩], E.set j xe), by simp only; omega, hk3.1, hk3.2.1, hk3.2.2, hu⟩ ⟨by (first | exact rfl | (simp (disch := omega) only [wrapI]; exact rfl)), ?_, by simp only; omega⟩
        refine Eq.trans (b := ⟨[.vec e0 ((rowsF 3 0 eps 0 (rws P)).set (0 + (IntKind.i64.wrap (v - 1)).toNat) [.oslc (.d (0 + (0 + j))) e5 3 0 ([].length + 1) false]), .vec e1 ((ints E).set (0 + (IntKind.i64.wrap (v - 1)).toNat) [.int .i64 xe]), .hole, .hole, .hole], (objsF eps 0 (rws P)).set (0 + (0 + j)) (.vec e5 ([(⟨xp, xf, xt⟩ : Tn)].map tnR))⟩) (by exact rfl) ?_
        rw [hset [⟨xp, xf, xt⟩] e5 rfl, hset1, hsetE]
      · have hp1 : 0 < p.length := List.length_pos_iff.2 c4
        have hlt : p.length - 1 < p.length := by omega
        have hwl : IntKind.i64.wrap ((p.length : Int) - 1) = ((p.length - 1 : Nat) : Int) := by rw [wrapI (by omega) (by omega)]; omega
        have hlast := mapR (f := tnR) hlt
        rw [← hwl] at hlast
        have hcl : cutL p xf = p.set (p.length - 1) (cut p[p.length - 1] xf) := by
          unfold cutL
          rw [if_neg c4, List.getD_eq_getElem?_getD, List.getElem?_eq_getElem hlt]; rfl
        rw [hcl] at hu
        have hcut : ∀ y' : Tn, List.take p.length (List.drop 0 ((p.map tnR).set (0 + (IntKind.i64.wrap ((p.length : Int) - 1)).toNat) (tnR y'))) ++ [tnR ⟨xp, xf, xt⟩] = (p.set (p.length - 1) y' ++ [(⟨xp, xf, xt⟩ : Tn)]).map tnR := fun y' => by
          rw [hwl, Nat.zero_add, Int.toNat_natCast, List.drop_zero, List.take_of_length_le (by simp)]
          simp [List.map_set]
        have hpl2 : ∀ y' : Tn, (p.set (p.length - 1) y' ++ [(⟨xp, xf, xt⟩ : Tn)]).length = p.length + 1 := fun y' => by simp
        generalize p[p.length - 1] = y at hlast hu
        obtain ⟨yp, yf, yt⟩ := y
        replace hlast : (p.map tnR)[0 + (IntKind.i64.wrap ((p.length : Int) - 1)).toNat]? = some [.int .i64 yp, .int .i64 yf, .int .i64 yt] := hlast
        by_cases c5 : ej = xe
        · rw [if_pos ⟨c4, c5⟩] at hu
          simp only at hu
          (repeat' (first | exact rfl | ((conv => whnf); first | refine optS hm1 ?_ | refine optS hm2 ?_ | refine ⟨_, w2, ?_⟩ | refine optS hrow ?_ | refine optO hobj ?_ | refine optO (hobj2 _) ?_ | refine optS hE ?_ | refine optS hlast ?_ | (intro e5) | exact rfl | exact ⟨rfl, rfl⟩ | refine ⟨(by kernel_rfl : drawOk _ _ _ _ = true), ?_⟩ | refine ⟨(by kernel_rfl : planOk _ _ _ _ = true), ?_⟩ | refine ⟨rfl, ?_⟩ | refine ⟨by (first | omega | (simp (disch := omega) only [wrapI]; omega) | (simp (disch := omega) only [wrapI]; simp; omega) | (simp; omega)), ?_⟩ | (intro ep) | (refine ifB (fun hb => ?_) (fun hb => ?_) <;> (try simp only [decide_eq_true_eq, decide_eq_false_iff_not, beq_iff_eq, beq_eq_false_iff_ne, bne_iff_ne, bne_eq_false_iff_eq, ne_eq, not_false_eq_true, not_true_eq_false, Bool.not_eq_true, Bool.not_eq_true', Bool.not_eq_false', Int.not_lt, Int.not_le] at hb) <;> (try simp (disch := omega) only [wrapI] at hb) <;> (try (exfalso; omega))) | fail)))
          all_goals (conv => whnf)
          all_goals exact back_of ⟨(eps, P), hu⟩ ⟨rfl, rfl⟩
        · rw [if_neg (fun z => c5 z.2)] at hu
          simp only at hu
          (repeat' (first | exact rfl | ((conv => whnf); first | refine optS hm1 ?_ | refine optS hm2 ?_ | refine ⟨_, w2, ?_⟩ | refine optS hrow ?_ | refine optO hobj ?_ | refine optO (hobj2 _) ?_ | refine optS hE ?_ | refine optS hlast ?_ | (intro e5) | exact rfl | exact ⟨rfl, rfl⟩ | refine ⟨(by kernel_rfl : drawOk _ _ _ _ = true), ?_⟩ | refine ⟨(by kernel_rfl : planOk _ _ _ _ = true), ?_⟩ | refine ⟨rfl, ?_⟩ | refine ⟨by (first | omega | (simp (disch := omega) only [wrapI]; omega) | (simp (disch := omega) only [wrapI]; simp; omega) | (simp; omega)), ?_⟩ | (intro ep) | (refine ifB (fun hb => ?_) (fun hb => ?_) <;> (try simp only [decide_eq_true_eq, decide_eq_false_iff_not, beq_iff_eq, beq_eq_false_iff_ne, bne_iff_ne, bne_eq_false_iff_eq, ne_eq, not_false_eq_true, not_true_eq_false, Bool.not_eq_true, Bool.not_eq_true', Bool.not_eq_false', Int.not_lt, Int.not_le] at hb) <;> (try simp (disch := omega) only [wrapI] at hb) <;> (try (exfalso; omega))) | fail)))
          all_goals (conv => whnf)
          by_cases d1 : xf < yt
          · have hc : cut ⟨yp, yf, yt⟩ xf = ⟨yp, yf, xf⟩ := by simp [cut, d1]
            rw [hc] at hu
            have hk3 := hok _ (hpl2 ⟨yp, yf, xf⟩)
            refine back_of ⟨(k + 1, updE eps (0 + j) e5, P.set j (p.set (p.length - 1) ⟨yp, yf, xf⟩ ++ [⟨xp, xf, xt⟩]), E.set j xe), by simp only; omega, hk3.1, hk3.2.1, hk3.2.2, hu⟩ ⟨by (first | exact rfl | (simp (disch := omega) only [wrapI]; exact rfl)), ?_, by simp only; omega⟩
            refine Eq.trans (b := ⟨[.vec e0 ((rowsF 3 0 eps 0 (rws P)).set (0 + (IntKind.i64.wrap (v - 1)).toNat) [.oslc (.d (0 + (0 + j))) e5 3 0 (p.length + 1) false]), .vec e1 ((ints E).set (0 + (IntKind.i64.wrap (v - 1)).toNat) [.int .i64 xe]), .hole, .hole, .hole], ((objsF eps 0 (rws P)).set (0 + (0 + j)) (.vec (eps (0 + j)) ((p.map tnR).set (0 + (IntKind.i64.wrap ((p.length : Int) - 1)).toNat) [.int .i64 yp, .int .i64 yf, .int .i64 xf]))).set (0 + (0 + j)) (.vec e5 (List.take p.length (List.drop 0 ((p.map tnR).set (0 + (IntKind.i64.wrap ((p.length : Int) - 1)).toNat) (tnR ⟨yp, yf, xf⟩))) ++ [tnR ⟨xp, xf, xt⟩]))⟩) (by simp only [Bool.false_eq_true, if_false, d1, if_true]; exact rfl) ?_
            rw [hcut, hset _ e5 (hpl2 _), hset2, hsetE]
          · have hc : cut ⟨yp, yf, yt⟩ xf = ⟨yp, yf, yt⟩ := by simp [cut, d1]
            rw [hc] at hu
            have hk3 := hok _ (hpl2 ⟨yp, yf, yt⟩)
            refine back_of ⟨(k + 1, updE eps (0 + j) e5, P.set j (p.set (p.length - 1) ⟨yp, yf, yt⟩ ++ [⟨xp, xf, xt⟩]), E.set j xe), by simp only; omega, hk3.1, hk3.2.1, hk3.2.2, hu⟩ ⟨by (first | exact rfl | (simp (disch := omega) only [wrapI]; exact rfl)), ?_, by simp only; omega⟩
            refine Eq.trans (b := ⟨[.vec e0 ((rowsF 3 0 eps 0 (rws P)).set (0 + (IntKind.i64.wrap (v - 1)).toNat) [.oslc (.d (0 + (0 + j))) e5 3 0 (p.length + 1) false]), .vec e1 ((ints E).set (0 + (IntKind.i64.wrap (v - 1)).toNat) [.int .i64 xe]), .hole, .hole, .hole], ((objsF eps 0 (rws P)).set (0 + (0 + j)) (.vec (eps (0 + j)) ((p.map tnR).set (0 + (IntKind.i64.wrap ((p.length : Int) - 1)).toNat) [.int .i64 yp, .int .i64 yf, .int .i64 yt]))).set (0 + (0 + j)) (.vec e5 (List.take p.length (List.drop 0 ((p.map tnR).set (0 + (IntKind.i64.wrap ((p.length : Int) - 1)).toNat) (tnR ⟨yp, yf, yt⟩))) ++ [tnR ⟨xp, xf, xt⟩]))⟩) (by simp only [Bool.false_eq_true, if_false, d1]; exact rfl) ?_
            rw [hcut, hset _ e5 (hpl2 _), hset2, hsetE]
    · simp only [decide_eq_false_iff_not] at g1
      rw [List.drop_eq_nil_of_le (by omega), parts] at hu
      (repeat' (first | exact rfl | ((conv => whnf); first | exact rfl | exact ⟨rfl, rfl⟩ | refine ⟨(by kernel_rfl : drawOk _ _ _ _ = true), ?_⟩ | refine ⟨(by kernel_rfl : planOk _ _ _ _ = true), ?_⟩ | refine ⟨rfl, ?_⟩ | refine ⟨by (first | omega | (simp (disch := omega) only [wrapI]; omega) | (simp (disch := omega) only [wrapI]; simp; omega) | (simp; omega)), ?_⟩ | (intro ep) | fail)))
      all_goals (conv => whnf)
      exact back_of ⟨(eps, P), hu, hPl⟩ ⟨rfl, rfl, rfl⟩
  · rintro ⟨⟨eps, P⟩, hz⟩
    subst hz
    (repeat' (first | exact rfl | ((conv => whnf); first | refine ⟨objs_pure _ _, ?_⟩ | exact rfl | exact ⟨rfl, rfl⟩ | refine ⟨(by kernel_rfl : drawOk _ _ _ _ = true), ?_⟩ | refine ⟨(by kernel_rfl : planOk _ _ _ _ = true), ?_⟩ | refine ⟨rfl, ?_⟩ | refine ⟨by (first | omega | (simp (disch := omega) only [wrapI]; omega) | (simp (disch := omega) only [wrapI]; simp; omega) | (simp; omega)), ?_⟩ | (intro ep) | fail)))
  · rintro ⟨⟨eps, P⟩, hz, hPl⟩
    simp only at hz hPl
    subst hz
    (repeat' (first | ((conv => whnf); first | (refine end_parts hPl.symm) | exact rfl | exact ⟨rfl, rfl⟩ | refine ⟨(by kernel_rfl : drawOk _ _ _ _ = true), ?_⟩ | refine ⟨(by kernel_rfl : planOk _ _ _ _ = true), ?_⟩ | refine ⟨rfl, ?_⟩ | refine ⟨by (first | omega | (simp (disch := omega) only [wrapI]; omega) | (simp (disch := omega) only [wrapI]; simp; omega) | (simp; omega)), ?_⟩ | (intro ep) | fail)))
end Go.Ab.V

/-
  Notes as parts: the plain law. No condition but valid notes.
-/
namespace Go.Ab.V
open Go.Proofs

/-- the notes of a voice -/
def sel : List Nt → List Int → Int → List Nt
  | x :: r, k :: q, v => if k = v then x :: sel r q v else sel r q v
  | _, _, _ => []
def tieT (x : Nt) : List Nt → Tn
  | [] => tnOf x
  | b :: _ => cut (tnOf x) b.f
def tie : List Nt → List Tn
  | [] => []
  | a :: r => tieT a r :: tie r
theorem tie_len : ∀ s : List Nt, (tie s).length = s.length
  | [] => rfl
  | a :: r => by simp [tie, tie_len r]
theorem tie_app (x : Nt) : ∀ s : List Nt, tie (s ++ [x]) = cutL (tie s) x.f ++ [tnOf x]
  | [] => by simp [tie, tieT, cutL]
  | [a] => by simp [tie, tieT, cutL, tnOf]
  | a :: b :: r => by
    have ih := tie_app x (b :: r)
    have e : tie ((a :: b :: r) ++ [x]) = tieT a ((b :: r) ++ [x]) :: tie ((b :: r) ++ [x]) := rfl
    rw [e, ih]
    have e2 : tie (a :: b :: r) = tieT a (b :: r) :: tie (b :: r) := rfl
    rw [e2]
    have e3 : tieT a ((b :: r) ++ [x]) = tieT a (b :: r) := rfl
    rw [e3]
    have hn : tie (b :: r) ≠ [] := by simp [tie]
    have e4 : cutL (tieT a (b :: r) :: tie (b :: r)) x.f = tieT a (b :: r) :: cutL (tie (b :: r)) x.f := by
      unfold cutL
      rw [if_neg (by simp), if_neg hn]
      have hl : 0 < (tie (b :: r)).length := List.length_pos_iff.2 hn
      obtain ⟨q, hq⟩ : ∃ q, (tie (b :: r)).length = q + 1 := ⟨(tie (b :: r)).length - 1, by omega⟩
      simp only [List.length_cons, hq, Nat.add_sub_cancel, List.set_cons_succ, List.getD_cons_succ]
    rw [e4]
    rfl
theorem tie_at (a : Nt) (r : List Nt) : ∀ s : List Nt, (tie (s ++ a :: r))[s.length]? = some (tieT a r)
  | [] => by simp [tie]
  | b :: s => by
    have e : tie ((b :: s) ++ a :: r) = tieT b (s ++ a :: r) :: tie (s ++ a :: r) := rfl
    rw [e, List.length_cons, List.getElem?_cons_succ]
    exact tie_at a r s
theorem sel_split : ∀ (l : List Nt) (ks : List Int) (v : Int) (k : Nat), sel l ks v = sel (l.take k) (ks.take k) v ++ sel (l.drop k) (ks.drop k) v
  | [], ks, v, k => by simp [sel]
  | x :: r, [], v, k => by cases k <;> simp [sel]
  | x :: r, w :: q, v, 0 => by simp [sel]
  | x :: r, w :: q, v, k + 1 => by
    simp only [List.take_succ_cons, List.drop_succ_cons, sel]
    rw [sel_split r q v k]
    split <;> simp
theorem sel_at {l : List Nt} {ks : List Int} {k : Nat} (h1 : k < l.length) (h2 : k < ks.length) (v : Int) : sel (l.drop k) (ks.drop k) v = if ks[k] = v then l[k] :: sel (l.drop (k + 1)) (ks.drop (k + 1)) v else sel (l.drop (k + 1)) (ks.drop (k + 1)) v := by
  rw [List.drop_eq_getElem_cons h1, List.drop_eq_getElem_cons h2, sel]
theorem sel_take {l : List Nt} {ks : List Int} {k : Nat} (h1 : k < l.length) (h2 : k < ks.length) (v : Int) : sel (l.take (k + 1)) (ks.take (k + 1)) v = sel (l.take k) (ks.take k) v ++ if ks[k] = v then [l[k]] else [] := by
  have := sel_split (l.take (k + 1)) (ks.take (k + 1)) v k
  rw [this, List.take_take, List.take_take, Nat.min_eq_left (Nat.le_succ k)]
  congr 1
  rw [List.drop_take, List.drop_take, show k + 1 - k = 1 by omega, List.drop_eq_getElem_cons h1, List.drop_eq_getElem_cons h2]
  simp only [List.take_succ_cons, List.take_zero, sel]
theorem sel_mem : ∀ {l : List Nt} {ks : List Int} {v : Int} {x : Nt}, x ∈ sel l ks v → ∃ i, ∃ (h1 : i < l.length) (h2 : i < ks.length), l[i] = x ∧ ks[i] = v
  | [], _, v, x, h => by simp [sel] at h
  | y :: r, [], v, x, h => by simp [sel] at h
  | y :: r, w :: q, v, x, h => by
    unfold sel at h
    have rec' : x ∈ sel r q v → ∃ i, ∃ (h1 : i < (y :: r).length) (h2 : i < (w :: q).length), (y :: r)[i] = x ∧ (w :: q)[i] = v := fun h => by
      obtain ⟨i, h1, h2, h3, h4⟩ := sel_mem h
      exact ⟨i + 1, by simpa using h1, by simpa using h2, by simpa using h3, by simpa using h4⟩
    split at h
    · rename_i c
      rcases List.mem_cons.1 h with rfl | h
      · exact ⟨0, by simp, by simp, rfl, c⟩
      · exact rec' h
    · exact rec' h
theorem sel_of : ∀ {l : List Nt} {ks : List Int} {i : Nat} (h1 : i < l.length) (h2 : i < ks.length), l[i] ∈ sel l ks ks[i]
  | y :: r, w :: q, 0, _, _ => by simp [sel]
  | y :: r, w :: q, i + 1, h1, h2 => by
    have := sel_of (l := r) (ks := q) (i := i) (by simpa using h1) (by simpa using h2)
    simp only [List.getElem_cons_succ, sel]
    split
    · exact List.mem_cons_of_mem _ this
    · exact this
/-- whether note k goes where it may -/
def ok1 (n : Nat) (l : List Nt) (ks : List Int) (k : Nat) : Prop :=
  (1 ≤ ks.getD k 0 ∧ ks.getD k 0 ≤ n) ∧ ∀ i, i < k → ¬ ((l.getD i nt0).e = (l.getD k nt0).e ∧ ks.getD i 0 = ks.getD k 0)
structure Inv (n : Nat) (l : List Nt) (ks : List Int) (k : Nat) (P : List (List Tn)) (E : List Int) : Prop where
  len : P.length = n
  lenE : E.length = n
  row : ∀ j, j < n → P.getD j [] = tie (sel (l.take k) (ks.take k) ((j : Int) + 1))
  ev : ∀ j, j < n → ∀ a, (sel (l.take k) (ks.take k) ((j : Int) + 1)).getLast? = some a → E.getD j 0 = a.e
theorem sel_sorted {l : List Nt} (hc : chkN l = 0) {ks : List Int} {k : Nat} {v : Int} : ∀ a, (sel (l.take k) (ks.take k) v).getLast? = some a → ∀ b ∈ sel (l.take k) (ks.take k) v, b.e ≤ a.e := by
  induction k with
  | zero => intro a h; simp [sel] at h
  | succ k ih =>
    intro a h b hb
    by_cases h1 : k < l.length
    · by_cases h2 : k < ks.length
      · rw [sel_take h1 h2] at h hb
        split at h
        · rename_i c
          rw [if_pos c] at hb
          simp at h
          subst h
          rcases List.mem_append.1 hb with hb | hb
          · obtain ⟨i, i1, i2, i3, i4⟩ := sel_mem hb
            have i5 : i < k := by simp at i1; omega
            rw [List.getElem_take] at i3
            rw [← i3]
            exact nts_mono hc (by omega) h1
          · simp at hb; rw [hb]; exact Int.le_refl _
        · rename_i c
          rw [if_neg c] at hb
          simp at h hb
          exact ih a h b hb
      · rw [show ks.take (k + 1) = ks.take k by rw [List.take_of_length_le (by omega), List.take_of_length_le (by omega)]] at h hb
        have e : ∀ (m : Nat), ks.length ≤ m → sel (l.take m) (ks.take m) v = sel l ks v := fun m hm => by
          have := sel_split l ks v m
          rw [show ks.drop m = [] from List.drop_eq_nil_of_le hm] at this
          rw [this]
          cases l.drop m <;> simp [sel]
        have e1 := e k (by omega)
        have e2 := e (k + 1) (by omega)
        rw [show ks.take (k + 1) = ks.take k by rw [List.take_of_length_le (by omega), List.take_of_length_le (by omega)]] at e2
        rw [e2, ← e1] at h hb
        exact ih a h b hb
    · rw [show l.take (k + 1) = l.take k by rw [List.take_of_length_le (by omega), List.take_of_length_le (by omega)]] at h hb
      have e : ∀ (m : Nat), l.length ≤ m → sel (l.take m) (ks.take m) v = sel l ks v := fun m hm => by
        have := sel_split l ks v m
        rw [show l.drop m = [] from List.drop_eq_nil_of_le hm] at this
        rw [this]
        simp [sel]
      have e1 := e k (by omega)
      have e2 := e (k + 1) (by omega)
      rw [show l.take (k + 1) = l.take k by rw [List.take_of_length_le (by omega), List.take_of_length_le (by omega)]] at e2
      rw [e2, ← e1] at h hb
      exact ih a h b hb
theorem getD_set {α : Type} (l : List α) (j : Nat) (x d : α) (i : Nat) : (l.set j x).getD i d = if i = j ∧ j < l.length then x else l.getD i d := by
  rw [List.getD_eq_getElem?_getD, List.getD_eq_getElem?_getD]
  by_cases h : i = j
  · subst h
    by_cases h2 : i < l.length
    · rw [List.getElem?_set_self h2, if_pos ⟨rfl, h2⟩]; rfl
    · rw [if_neg (fun x => h2 x.2), List.getElem?_eq_none (by simp; omega), List.getElem?_eq_none (by omega)]
  · rw [List.getElem?_set_ne (fun x => h x.symm), if_neg (fun x => h x.1)]
theorem step_inv {n : Nat} {l : List Nt} {ks : List Int} (hc : chkN l = 0) {k : Nat} (h1 : k < l.length) (h2 : k < ks.length) {P : List (List Tn)} {E : List Int} (I : Inv n l ks k P E) :
    (stepP n P E l[k] ks[k] = none ∧ ¬ ok1 n l ks k) ∨ ∃ d, stepP n P E l[k] ks[k] = some d ∧ ok1 n l ks k ∧ Inv n l ks (k + 1) d.1 d.2 := by
  have gk : ks.getD k 0 = ks[k] := by rw [List.getD_eq_getElem?_getD, List.getElem?_eq_getElem h2]; rfl
  have gl : ∀ i (h : i < l.length), l.getD i nt0 = l[i] := fun i h => by rw [List.getD_eq_getElem?_getD, List.getElem?_eq_getElem h]; rfl
  unfold stepP
  by_cases c1 : ks[k] < 1 ∨ (n : Int) < ks[k]
  · rw [if_pos c1]
    exact .inl ⟨rfl, fun o => by unfold ok1 at o; rw [gk] at o; omega⟩
  rw [if_neg c1]
  obtain ⟨j, hj⟩ : ∃ j : Nat, ks[k] = (j : Int) + 1 := ⟨(ks[k] - 1).toNat, by omega⟩
  have hj2 : (ks[k] - 1).toNat = j := by omega
  have hjn : j < n := by omega
  rw [hj2]
  have hrow := I.row j hjn
  have hev := I.ev j hjn
  rw [← hj] at hrow hev
  by_cases c2 : P.getD j [] ≠ [] ∧ E.getD j 0 = l[k].e
  · rw [if_pos c2]
    refine .inl ⟨rfl, fun o => ?_⟩
    rw [hrow] at c2
    have hne : sel (l.take k) (ks.take k) ks[k] ≠ [] := fun x => c2.1 (by rw [x]; rfl)
    obtain ⟨a, ha⟩ : ∃ a, (sel (l.take k) (ks.take k) ks[k]).getLast? = some a := ⟨_, List.getLast?_eq_some_getLast hne⟩
    have e := hev a ha
    obtain ⟨i, i1, i2, i3, i4⟩ := sel_mem (List.mem_of_getLast? ha)
    rw [List.getElem_take] at i3 i4
    have hi : i < k := by simp at i1; omega
    refine o.2 i hi ⟨?_, ?_⟩
    · rw [gl i (by omega), gl k h1, i3, ← e, c2.2]
    · rw [gk, ← i4, List.getD_eq_getElem?_getD, List.getElem?_eq_getElem (by omega)]; rfl
  · rw [if_neg c2]
    refine .inr ⟨_, rfl, ⟨by rw [gk]; omega, fun i hi hh => ?_⟩, ?_⟩
    · have hil : i < l.length := by omega
      have hik : i < ks.length := by omega
      rw [gl i hil, gl k h1, gk, List.getD_eq_getElem?_getD, List.getElem?_eq_getElem hik] at hh
      obtain ⟨hh1, hh2⟩ := hh
      have hh2 : ks[i] = ks[k] := hh2
      have hm := sel_of (l := l.take k) (ks := ks.take k) (i := i) (by simp; omega) (by simp; omega)
      rw [List.getElem_take, List.getElem_take, hh2] at hm
      have hne : sel (l.take k) (ks.take k) ks[k] ≠ [] := List.ne_nil_of_mem hm
      obtain ⟨a, ha⟩ : ∃ a, (sel (l.take k) (ks.take k) ks[k]).getLast? = some a := ⟨_, List.getLast?_eq_some_getLast hne⟩
      have e1 := sel_sorted hc a ha _ hm
      obtain ⟨i', i1, i2, i3, i4⟩ := sel_mem (List.mem_of_getLast? ha)
      rw [List.getElem_take] at i3
      have hi' : i' < k := by simp at i1; omega
      have e2 := nts_mono hc (i := i') (j := k) (by omega) h1
      rw [i3] at e2
      refine c2 ⟨?_, ?_⟩
      · rw [hrow]
        intro x
        have := congrArg List.length x
        rw [tie_len] at this
        exact hne (List.length_eq_zero_iff.1 this)
      · rw [hev a ha]; omega
    · have hs : ∀ v, sel (l.take (k + 1)) (ks.take (k + 1)) v = sel (l.take k) (ks.take k) v ++ if ks[k] = v then [l[k]] else [] := sel_take h1 h2
      refine ⟨by simp [I.len], by simp [I.lenE], fun i hi => ?_, fun i hi a ha => ?_⟩
      · rw [getD_set, hs]
        by_cases e : i = j
        · subst e
          rw [if_pos ⟨rfl, by rw [I.len]; exact hjn⟩, if_pos hj, tie_app, hrow, hj]
        · rw [if_neg (fun x => e x.1), if_neg (by omega), List.append_nil]
          exact I.row i hi
      · rw [getD_set]
        rw [hs] at ha
        by_cases e : i = j
        · subst e
          rw [if_pos hj] at ha
          simp at ha
          rw [if_pos ⟨rfl, by rw [I.lenE]; exact hjn⟩, ha]
        · rw [if_neg (by omega), List.append_nil] at ha
          rw [if_neg (fun x => e x.1)]
          exact I.ev i hi a ha
/-- what the parts are -/
def prtL (n : Nat) (l : List Nt) (ks : List Int) : List (List Tn) := (List.range n).map fun j : Nat => tie (sel l ks ((j : Int) + 1))
theorem parts_inv {n : Nat} {l : List Nt} {ks : List Int} (hc : chkN l = 0) (hk : ks.length = l.length) : ∀ (c k : Nat) (P : List (List Tn)) (E : List Int), l.length - k = c → k ≤ l.length → Inv n l ks k P E →
    ((∀ i, k ≤ i → i < l.length → ok1 n l ks i) ∧ parts n P E (l.drop k) (ks.drop k) = some (prtL n l ks)) ∨ ((∃ i, k ≤ i ∧ i < l.length ∧ ¬ ok1 n l ks i) ∧ parts n P E (l.drop k) (ks.drop k) = none)
  | 0, k, P, E, h, hkl, I => by
    left
    refine ⟨fun i h1 h2 => by omega, ?_⟩
    rw [List.drop_eq_nil_of_le (by omega), parts]
    congr 1
    have hr := I.row
    rw [List.take_of_length_le (by omega), List.take_of_length_le (by omega)] at hr
    refine List.ext_getElem (by simp [prtL, I.len]) fun i h1 h2 => ?_
    have := hr i (by rw [← I.len]; exact h1)
    rw [List.getD_eq_getElem?_getD, List.getElem?_eq_getElem h1] at this
    simp [prtL]
    exact this
  | c + 1, k, P, E, h, hkl, I => by
    have h1 : k < l.length := by omega
    have h2 : k < ks.length := by omega
    rw [parts_cons h1 h2]
    rcases step_inv hc h1 h2 I with ⟨s, o⟩ | ⟨d, s, o, I'⟩
    · right
      rw [s]
      exact ⟨⟨k, Nat.le_refl _, h1, o⟩, rfl⟩
    · rw [s]
      rcases parts_inv hc hk c (k + 1) d.1 d.2 (by omega) (by omega) I' with ⟨a, b⟩ | ⟨⟨i, i1, i2, i3⟩, b⟩
      · left
        refine ⟨fun i i1 i2 => ?_, b⟩
        by_cases e : i = k
        · subst e; exact o
        · exact a i (by omega) i2
      · right
        exact ⟨⟨i, by omega, i2, i3⟩, b⟩
theorem parts_all {n : Nat} {l : List Nt} {ks : List Int} (hc : chkN l = 0) (hk : ks.length = l.length) :
    ((∀ i, i < l.length → ok1 n l ks i) ∧ parts n (List.replicate n []) (List.replicate n 0) l ks = some (prtL n l ks)) ∨ ((∃ i, i < l.length ∧ ¬ ok1 n l ks i) ∧ parts n (List.replicate n []) (List.replicate n 0) l ks = none) := by
  have I : Inv n l ks 0 (List.replicate n []) (List.replicate n 0) := by
    refine ⟨by simp, by simp, fun j hj => ?_, fun j hj a ha => ?_⟩
    · rw [List.getD_eq_getElem?_getD]; simp [sel, tie, hj]
    · simp [sel] at ha
  rcases parts_inv hc hk l.length 0 _ _ (by omega) (Nat.zero_le _) I with ⟨a, b⟩ | ⟨⟨i, i1, i2, i3⟩, b⟩
  · exact .inl ⟨fun i hi => a i (Nat.zero_le _) hi, by simpa using b⟩
  · exact .inr ⟨⟨i, i2, i3⟩, by simpa using b⟩
end Go.Ab.V

/-
  Notes as parts, as the document says it. No condition but the lengths.
-/
namespace Go.Ab.V
open Go.Proofs

theorem getDk {α : Type} {l : List α} {k : Nat} (h : k < l.length) (d : α) : l.getD k d = l[k] := by rw [List.getD_eq_getElem?_getD, List.getElem?_eq_getElem h]; rfl
def A24 : Ann := fun r => match r with
  | 16 => { slots := [(1, 0)] }
  | 20 => { slots := [(16, 1)] }
  | 26 => { slots := [(15, 2), (16, 3)], plan := some (.one 0 (.one 1 (.one 2 (.one 3 (.one 6 (.one 7 (.one 8 (.one 9 (.one 10 (.one 11 (.one 12 (.one 13 (.one 14 (.br 4 15 (.one 5 (.one 15 (.one 16 (.one 17 (.one 18 (.done)))))) (.br 4 16 (.one 5 (.one 16 (.one 17 (.one 18 (.done))))) (.one 4 (.one 5 (.one 17 (.one 18 (.done)))))))))))))))))))) }
  | _ => {}
/-- what has been written down before note i -/
structure Inw (m : Nat) (l : List Nt) (ks : List Int) (i : Nat) (P : List (List Tn)) : Prop where
  len : P.length = m
  row : ∀ j, j < m → P.getD j [] = (tie (sel l ks ((j : Int) + 1))).take (sel (l.take i) (ks.take i) ((j : Int) + 1)).length
theorem sel_len_le : ∀ (l : List Nt) (ks : List Int) (v : Int), (sel l ks v).length ≤ l.length
  | [], _, v => by simp [sel]
  | x :: r, [], v => by simp [sel]
  | x :: r, w :: q, v => by
    have := sel_len_le r q v
    unfold sel
    split
    · simp; exact this
    · simp; omega
theorem Inw.step {m : Nat} {l : List Nt} {ks : List Int} {i : Nat} {P : List (List Tn)} (I : Inw m l ks i P) (h1 : i < l.length) (h2 : i < ks.length) {j : Nat} (hj : ks[i] = (j : Int) + 1) (hjm : j < m) :
    Inw m l ks (i + 1) (P.set j (P.getD j [] ++ [tieT l[i] (sel (l.drop (i + 1)) (ks.drop (i + 1)) ks[i])])) := by
  refine ⟨by simp [I.len], fun j' hj' => ?_⟩
  rw [getD_set, sel_take h1 h2]
  by_cases e : j' = j
  · subst e
    rw [if_pos ⟨rfl, by rw [I.len]; exact hjm⟩, if_pos hj, I.row j' hjm, List.length_append, List.length_cons, List.length_nil, List.take_add_one]
    congr 1
    have hs := sel_split l ks ks[i] i
    rw [sel_at h1 h2, if_pos rfl] at hs
    rw [← hj, hs, tie_at]
    rfl
  · rw [if_neg (fun x => e x.1), if_neg (by omega), List.append_nil]
    exact I.row j' hj'
set_option maxHeartbeats 16000000 in
set_option maxRecDepth 100000 in
theorem refParts24 (l : List Nt) (ks : List Int) (n : Int) (h3 : l.length ≤ 9223372036854775807) (h4 : ks.length ≤ 9223372036854775807) : PRet C.P 24 [ntsA l, intsA ks, .int .i64 n] (partsV l ks n) := by
  have hB := refCheckNotes_spec l h3
  unfold partsV
  by_cases c1 : chkN l ≠ 0
  · rw [if_pos c1]
    generalize chkN l = b at hB c1
    refine pret_of ok mixed (A := A24) 4 Try.func24 rfl ?_
    (repeat' (first | exact rfl | ((conv => whnf); first | refine ⟨_, hB, ?_⟩ | exact rfl | exact ⟨rfl, rfl⟩ | refine ⟨(by kernel_rfl : drawOk _ _ _ _ = true), ?_⟩ | refine ⟨(by kernel_rfl : planOk _ _ _ _ = true), ?_⟩ | refine ⟨rfl, ?_⟩ | refine ⟨by (first | omega | (simp (disch := omega) only [wrapI]; omega) | (simp (disch := omega) only [wrapI]; simp; omega) | (simp; omega)), ?_⟩ | (intro ep) | (refine ifB (fun hb => ?_) (fun hb => ?_) <;> (try simp only [decide_eq_true_eq, decide_eq_false_iff_not, beq_iff_eq, beq_eq_false_iff_ne, bne_iff_ne, bne_eq_false_iff_eq, ne_eq, not_false_eq_true, not_true_eq_false, Bool.not_eq_true, Bool.not_eq_true', Bool.not_eq_false', Int.not_lt, Int.not_le] at hb) <;> (try simp (disch := omega) only [wrapI] at hb) <;> (try (exfalso; omega))) | fail)))
  rw [if_neg c1]
  have c1 : chkN l = 0 := by omega
  rw [c1] at hB
  have NN := ntsOk_of c1
  have hlen := NN.len
  by_cases c2 : ks.length ≠ l.length ∨ n < 1 ∨ 5 < n
  · rw [if_pos c2]
    refine pret_of ok mixed (A := A24) 4 Try.func24 rfl ?_
    (repeat' (first | exact rfl | ((conv => whnf); first | refine ⟨_, hB, ?_⟩ | exact rfl | exact ⟨rfl, rfl⟩ | refine ⟨(by kernel_rfl : drawOk _ _ _ _ = true), ?_⟩ | refine ⟨(by kernel_rfl : planOk _ _ _ _ = true), ?_⟩ | refine ⟨rfl, ?_⟩ | refine ⟨by (first | omega | (simp (disch := omega) only [wrapI]; omega) | (simp (disch := omega) only [wrapI]; simp; omega) | (simp; omega)), ?_⟩ | (intro ep) | (refine ifB (fun hb => ?_) (fun hb => ?_) <;> (try simp only [decide_eq_true_eq, decide_eq_false_iff_not, beq_iff_eq, beq_eq_false_iff_ne, bne_iff_ne, bne_eq_false_iff_eq, ne_eq, not_false_eq_true, not_true_eq_false, Bool.not_eq_true, Bool.not_eq_true', Bool.not_eq_false', Int.not_lt, Int.not_le] at hb) <;> (try simp (disch := omega) only [wrapI] at hb) <;> (try (exfalso; omega))) | fail)))
  rw [if_neg c2]
  have hk : ks.length = l.length := by omega
  obtain ⟨m, rfl⟩ : ∃ m : Nat, n = (m : Int) := ⟨n.toNat, by omega⟩
  have hm5 : 1 ≤ m ∧ m ≤ 5 := by omega
  rw [Int.toNat_natCast]
  have hall := parts_all (n := m) c1 hk
  generalize parts m (List.replicate m []) (List.replicate m 0) l ks = R at hall
  refine pretD_of ok mixed (A := A24) 4 Try.func24 rfl ?_
  (repeat' (first | exact rfl | ((conv => whnf); first | refine ⟨_, hB, ?_⟩ | exact rfl | exact ⟨rfl, rfl⟩ | refine ⟨(by kernel_rfl : drawOk _ _ _ _ = true), ?_⟩ | refine ⟨(by kernel_rfl : planOk _ _ _ _ = true), ?_⟩ | refine ⟨rfl, ?_⟩ | refine ⟨by (first | omega | (simp (disch := omega) only [wrapI]; omega) | (simp (disch := omega) only [wrapI]; simp; omega) | (simp; omega)), ?_⟩ | (intro ep) | (refine ifB (fun hb => ?_) (fun hb => ?_) <;> (try simp only [decide_eq_true_eq, decide_eq_false_iff_not, beq_iff_eq, beq_eq_false_iff_ne, bne_iff_ne, bne_eq_false_iff_eq, ne_eq, not_false_eq_true, not_true_eq_false, Bool.not_eq_true, Bool.not_eq_true', Bool.not_eq_false', Int.not_lt, Int.not_le] at hb) <;> (try simp (disch := omega) only [wrapI] at hb) <;> (try (exfalso; omega))) | fail)))
  all_goals (conv => whnf)
  refine loopY ok mixed (A := A24) [0, 1, 2, 9] [] (S := { i : Nat // i ≤ l.length ∧ ∀ i', i' < i → ok1 m l ks i' })
    (fr := fun i => frOf 0 148 [(0, ntsA l), (1, intsA ks), (2, .int .i64 (m : Int)), (9, .int .i64 (i.1 : Int))])
    (h := fun i => ⟨[.hole, .hole, .hole, .hole], []⟩) (μ := fun i => l.length - i.1) ⟨0, by simp⟩ ?_ ?_
    [0, 1, 2] [] (S' := { i : Nat // ∀ i', i' < l.length → ok1 m l ks i' }) (X := fun _ => 0) (frX := fun i => frOf 0 148 [(0, ntsA l), (1, intsA ks), (2, .int .i64 (m : Int))]) (hX := fun i => ⟨[.hole, .hole, .hole, .hole], []⟩)
    [6, 7] [] (S2 := { i : Nat // ∃ i', i' < l.length ∧ ¬ ok1 m l ks i' }) (frR := fun i => frOf 0 148 [(6, .nils), (7, .int .i64 71)]) (hR := fun i => ⟨[.hole, .hole, .hole, .hole], []⟩) ?_ ?_ ?_
  · exact rfl
  · exact rfl
  · rintro ⟨i, hi, ho⟩
    show aexR _ _ _ (frOf 0 148 [(0, ntsA l), (1, intsA ks), (2, .int .i64 (m : Int)), (9, .int .i64 (i : Int))]) ⟨[.hole, .hole, .hole, .hole], []⟩ _
    (conv => whnf)
    refine ifB (fun g1 => ?_) (fun g1 => ?_)
    · simp only [decide_eq_true_eq] at g1
      have h1 : i < l.length := by omega
      have h2 : i < ks.length := by omega
      have hm2 := intsR h2
      have hm1 := mapR (f := ntR) h1
      have hbad : ks[i] < 1 ∨ (m : Int) < ks[i] → ∃ i', i' < l.length ∧ ¬ ok1 m l ks i' := fun h => ⟨i, h1, fun o => by unfold ok1 at o; rw [getDk h2] at o; omega⟩
      have hdup : ∀ (q : Nat) (hq : q < i), l[q].e = l[i].e → ks[q] = ks[i] → ∃ i', i' < l.length ∧ ¬ ok1 m l ks i' := fun q hq a b => ⟨i, h1, fun o => o.2 q hq ⟨by rw [getDk (by omega), getDk h1]; exact a, by rw [getDk (by omega), getDk h2]; exact b⟩⟩
      have hgood : ¬ (ks[i] < 1 ∨ (m : Int) < ks[i]) → (∀ (q : Nat) (hq : q < i), ¬ (l[q].e = l[i].e ∧ ks[q] = ks[i])) → ok1 m l ks i := fun a b => ⟨by rw [getDk h2]; omega, fun q hq => by rw [getDk (by omega), getDk h1, getDk (by omega), getDk h2]; exact b q hq⟩
      generalize l[i] = x at hm1 hdup hgood
      generalize ks[i] = v at hm2 hbad hdup hgood
      obtain ⟨xe, xc, xp, xf, xt⟩ := x
      replace hm1 : (l.map ntR)[0 + (i : Int).toNat]? = some [.int .i64 xe, .int .i64 xc, .int .i64 xp, .int .i64 xf, .int .i64 xt] := hm1
      simp only at hdup hgood
      by_cases c3 : v < 1 ∨ (m : Int) < v
      · (repeat' (first | exact rfl | ((conv => whnf); first | refine optS hm2 ?_ | exact rfl | exact ⟨rfl, rfl⟩ | refine ⟨(by kernel_rfl : drawOk _ _ _ _ = true), ?_⟩ | refine ⟨(by kernel_rfl : planOk _ _ _ _ = true), ?_⟩ | refine ⟨rfl, ?_⟩ | refine ⟨by (first | omega | (simp (disch := omega) only [wrapI]; omega) | (simp (disch := omega) only [wrapI]; simp; omega) | (simp; omega)), ?_⟩ | (intro ep) | (refine ifB (fun hb => ?_) (fun hb => ?_) <;> (try simp only [decide_eq_true_eq, decide_eq_false_iff_not, beq_iff_eq, beq_eq_false_iff_ne, bne_iff_ne, bne_eq_false_iff_eq, ne_eq, not_false_eq_true, not_true_eq_false, Bool.not_eq_true, Bool.not_eq_true', Bool.not_eq_false', Int.not_lt, Int.not_le] at hb) <;> (try simp (disch := omega) only [wrapI] at hb) <;> (try (exfalso; omega))) | fail)))
        all_goals (conv => whnf)
        all_goals exact back_of ⟨0, hbad c3⟩ ⟨rfl, rfl⟩
      (repeat' (first | exact rfl | ((conv => whnf); first | refine optS hm2 ?_ | exact rfl | exact ⟨rfl, rfl⟩ | refine ⟨(by kernel_rfl : drawOk _ _ _ _ = true), ?_⟩ | refine ⟨(by kernel_rfl : planOk _ _ _ _ = true), ?_⟩ | refine ⟨rfl, ?_⟩ | refine ⟨by (first | omega | (simp (disch := omega) only [wrapI]; omega) | (simp (disch := omega) only [wrapI]; simp; omega) | (simp; omega)), ?_⟩ | (intro ep) | (refine ifB (fun hb => ?_) (fun hb => ?_) <;> (try simp only [decide_eq_true_eq, decide_eq_false_iff_not, beq_iff_eq, beq_eq_false_iff_ne, bne_iff_ne, bne_eq_false_iff_eq, ne_eq, not_false_eq_true, not_true_eq_false, Bool.not_eq_true, Bool.not_eq_true', Bool.not_eq_false', Int.not_lt, Int.not_le] at hb) <;> (try simp (disch := omega) only [wrapI] at hb) <;> (try (exfalso; omega))) | fail)))
      all_goals (conv => whnf)
      refine loopY ok mixed (A := A24) [0, 1, 2, 9, 10] [] (S := { q : Nat // q ≤ i ∧ ∀ (p : Nat) (hp : p < i), p < q → ¬ (l[p].e = xe ∧ ks[p] = v) })
        (fr := fun q => frOf 0 148 [(0, ntsA l), (1, intsA ks), (2, .int .i64 (m : Int)), (9, .int .i64 (i : Int)), (10, .int .i64 (q.1 : Int))])
        (h := fun q => ⟨[.hole, .hole, .hole, .hole], []⟩) (μ := fun q => i - q.1) ⟨0, by simp⟩ ?_ ?_
        [0, 1, 2, 9] [] (S' := { q : Nat // ok1 m l ks i }) (X := fun _ => 2) (frX := fun q => frOf 0 148 [(0, ntsA l), (1, intsA ks), (2, .int .i64 (m : Int)), (9, .int .i64 (i : Int))]) (hX := fun q => ⟨[.hole, .hole, .hole, .hole], []⟩)
        [6, 7] [] (S2 := { q : Nat // ∃ i', i' < l.length ∧ ¬ ok1 m l ks i' }) (frR := fun q => frOf 0 148 [(6, .nils), (7, .int .i64 71)]) (hR := fun q => ⟨[.hole, .hole, .hole, .hole], []⟩) ?_ ?_ ?_
      · exact rfl
      · exact rfl
      · rintro ⟨q, hq, hno⟩
        show aexR _ _ _ (frOf 0 148 [(0, ntsA l), (1, intsA ks), (2, .int .i64 (m : Int)), (9, .int .i64 (i : Int)), (10, .int .i64 (q : Int))]) ⟨[.hole, .hole, .hole, .hole], []⟩ _
        (conv => whnf)
        refine ifB (fun g2 => ?_) (fun g2 => ?_)
        · simp only [decide_eq_true_eq] at g2
          have q1 : q < l.length := by omega
          have q2 : q < ks.length := by omega
          have hm3 := mapR (f := ntR) q1
          have hm4 := intsR q2
          have hd := hdup q (by omega)
          have hnext : ¬ (l[q].e = xe ∧ ks[q] = v) → ∀ (p : Nat) (hp : p < i), p < q + 1 → ¬ (l[p].e = xe ∧ ks[p] = v) := fun h p hp hpq => by
            by_cases e : p = q
            · subst e; exact h
            · exact hno p hp (by omega)
          generalize l[q] = y at hm3 hd hnext
          generalize ks[q] = w at hm4 hd hnext
          obtain ⟨ye, yc, yp, yf, yt⟩ := y
          replace hm3 : (l.map ntR)[0 + (q : Int).toNat]? = some [.int .i64 ye, .int .i64 yc, .int .i64 yp, .int .i64 yf, .int .i64 yt] := hm3
          simp only at hd hnext
          by_cases c4 : ye = xe ∧ w = v
          · (repeat' (first | exact rfl | ((conv => whnf); first | refine optS hm1 ?_ | refine optS hm2 ?_ | refine optS hm3 ?_ | refine optS hm4 ?_ | exact rfl | exact ⟨rfl, rfl⟩ | refine ⟨(by kernel_rfl : drawOk _ _ _ _ = true), ?_⟩ | refine ⟨(by kernel_rfl : planOk _ _ _ _ = true), ?_⟩ | refine ⟨rfl, ?_⟩ | refine ⟨by (first | omega | (simp (disch := omega) only [wrapI]; omega) | (simp (disch := omega) only [wrapI]; simp; omega) | (simp; omega)), ?_⟩ | (intro ep) | (refine ifB (fun hb => ?_) (fun hb => ?_) <;> (try simp only [decide_eq_true_eq, decide_eq_false_iff_not, beq_iff_eq, beq_eq_false_iff_ne, bne_iff_ne, bne_eq_false_iff_eq, ne_eq, not_false_eq_true, not_true_eq_false, Bool.not_eq_true, Bool.not_eq_true', Bool.not_eq_false', Int.not_lt, Int.not_le] at hb) <;> (try simp (disch := omega) only [wrapI] at hb) <;> (try (exfalso; omega))) | fail)))
            all_goals (conv => whnf)
            all_goals exact back_of ⟨0, hd c4.1 c4.2⟩ ⟨rfl, rfl⟩
          · (repeat' (first | exact rfl | ((conv => whnf); first | refine optS hm1 ?_ | refine optS hm2 ?_ | refine optS hm3 ?_ | refine optS hm4 ?_ | exact rfl | exact ⟨rfl, rfl⟩ | refine ⟨(by kernel_rfl : drawOk _ _ _ _ = true), ?_⟩ | refine ⟨(by kernel_rfl : planOk _ _ _ _ = true), ?_⟩ | refine ⟨rfl, ?_⟩ | refine ⟨by (first | omega | (simp (disch := omega) only [wrapI]; omega) | (simp (disch := omega) only [wrapI]; simp; omega) | (simp; omega)), ?_⟩ | (intro ep) | (refine ifB (fun hb => ?_) (fun hb => ?_) <;> (try simp only [decide_eq_true_eq, decide_eq_false_iff_not, beq_iff_eq, beq_eq_false_iff_ne, bne_iff_ne, bne_eq_false_iff_eq, ne_eq, not_false_eq_true, not_true_eq_false, Bool.not_eq_true, Bool.not_eq_true', Bool.not_eq_false', Int.not_lt, Int.not_le] at hb) <;> (try simp (disch := omega) only [wrapI] at hb) <;> (try (exfalso; omega))) | fail)))
            all_goals (conv => whnf)
            all_goals exact back_of ⟨q + 1, by omega, hnext c4⟩ ⟨by (first | exact rfl | (simp (disch := omega) only [wrapI]; exact rfl)), rfl, by simp only; omega⟩
        · simp only [decide_eq_false_iff_not] at g2
          (repeat' (first | exact rfl | ((conv => whnf); first | exact rfl | exact ⟨rfl, rfl⟩ | refine ⟨(by kernel_rfl : drawOk _ _ _ _ = true), ?_⟩ | refine ⟨(by kernel_rfl : planOk _ _ _ _ = true), ?_⟩ | refine ⟨rfl, ?_⟩ | refine ⟨by (first | omega | (simp (disch := omega) only [wrapI]; omega) | (simp (disch := omega) only [wrapI]; simp; omega) | (simp; omega)), ?_⟩ | (intro ep) | fail)))
          all_goals (conv => whnf)
          exact back_of ⟨0, hgood c3 (fun p hp => hno p hp (by omega))⟩ ⟨rfl, rfl, rfl⟩
      · rintro ⟨q, hq⟩
        exact back_of ⟨0, hq⟩ ⟨rfl, rfl⟩
      · rintro ⟨q, hq⟩
        (repeat' (first | exact rfl | ((conv => whnf); first | exact rfl | exact ⟨rfl, rfl⟩ | refine ⟨(by kernel_rfl : drawOk _ _ _ _ = true), ?_⟩ | refine ⟨(by kernel_rfl : planOk _ _ _ _ = true), ?_⟩ | refine ⟨rfl, ?_⟩ | refine ⟨by (first | omega | (simp (disch := omega) only [wrapI]; omega) | (simp (disch := omega) only [wrapI]; simp; omega) | (simp; omega)), ?_⟩ | (intro ep) | fail)))
        all_goals (conv => whnf)
        exact back_of ⟨i + 1, by omega, fun i' hi' => by
          by_cases e : i' = i
          · subst e; exact hq
          · exact ho i' (by omega)⟩ ⟨by (first | exact rfl | (simp (disch := omega) only [wrapI]; exact rfl)), rfl, by simp only; omega⟩
    · simp only [decide_eq_false_iff_not] at g1
      (repeat' (first | exact rfl | ((conv => whnf); first | exact rfl | exact ⟨rfl, rfl⟩ | refine ⟨(by kernel_rfl : drawOk _ _ _ _ = true), ?_⟩ | refine ⟨(by kernel_rfl : planOk _ _ _ _ = true), ?_⟩ | refine ⟨rfl, ?_⟩ | refine ⟨by (first | omega | (simp (disch := omega) only [wrapI]; omega) | (simp (disch := omega) only [wrapI]; simp; omega) | (simp; omega)), ?_⟩ | (intro ep) | fail)))
      all_goals (conv => whnf)
      exact back_of ⟨0, fun i' hi' => ho i' (by omega)⟩ ⟨rfl, rfl, rfl⟩
  · rintro ⟨i, i', hi', hno⟩
    rcases hall with ⟨a, b⟩ | ⟨a, b⟩
    · exact absurd (a i' hi') hno
    · subst b
      (repeat' (first | exact rfl | ((conv => whnf); first | refine ⟨fun o ho => absurd (show o ∈ ([] : List AObj) from ho) List.not_mem_nil, ?_⟩ | exact rfl | exact ⟨rfl, rfl⟩ | refine ⟨(by kernel_rfl : drawOk _ _ _ _ = true), ?_⟩ | refine ⟨(by kernel_rfl : planOk _ _ _ _ = true), ?_⟩ | refine ⟨rfl, ?_⟩ | refine ⟨by (first | omega | (simp (disch := omega) only [wrapI]; omega) | (simp (disch := omega) only [wrapI]; simp; omega) | (simp; omega)), ?_⟩ | (intro ep) | fail)))
  · rintro ⟨i, hgd⟩
    have hR : R = some (prtL m l ks) := by
      rcases hall with ⟨a, b⟩ | ⟨⟨i', a, a2⟩, b⟩
      · exact b
      · exact absurd (hgd i' a) a2
    subst hR
    clear hall
    (repeat' (first | exact rfl | ((conv => whnf); first | (intro e0) | exact rfl | exact ⟨rfl, rfl⟩ | refine ⟨(by kernel_rfl : drawOk _ _ _ _ = true), ?_⟩ | refine ⟨(by kernel_rfl : planOk _ _ _ _ = true), ?_⟩ | refine ⟨rfl, ?_⟩ | refine ⟨by (first | omega | (simp (disch := omega) only [wrapI]; omega) | (simp (disch := omega) only [wrapI]; simp; omega) | (simp; omega)), ?_⟩ | (intro ep) | (refine ifB (fun hb => ?_) (fun hb => ?_) <;> (try simp only [decide_eq_true_eq, decide_eq_false_iff_not, beq_iff_eq, beq_eq_false_iff_ne, bne_iff_ne, bne_eq_false_iff_eq, ne_eq, not_false_eq_true, not_true_eq_false, Bool.not_eq_true, Bool.not_eq_true', Bool.not_eq_false', Int.not_lt, Int.not_le] at hb) <;> (try simp (disch := omega) only [wrapI] at hb) <;> (try (exfalso; omega))) | fail)))
    all_goals (conv => whnf)
    refine wk_fan 0 e0 3 m rfl ?_
    intro eps0
    have hp0 : rws (List.replicate m []) = List.replicate m [] := by simp [rws]
    refine loopX ok mixed (A := A24) [0, 1, 11, 12] [0] (S := { z : Nat × (Nat → Nat) × List (List Tn) // z.1 ≤ l.length ∧ Inw m l ks z.1 z.2.2 })
      (fr := fun z => frOf 0 148 [(0, ntsA l), (1, intsA ks), (11, .oslc (.s 0) e0 1 0 m false), (12, .int .i64 (z.1.1 : Int))])
      (h := fun z => ⟨[.vec e0 (rowsF 3 0 z.1.2.1 0 (rws z.1.2.2)), .hole, .hole, .hole], objsF z.1.2.1 0 (rws z.1.2.2)⟩) (μ := fun z => l.length - z.1.1)
      ⟨(0, eps0, List.replicate m []), Nat.zero_le _, by simp, fun j hj => by rw [getDk (by simpa using hj)]; simp [sel]⟩ ?_ ?_
      [11] [0] (S' := Nat → Nat) (X := fun _ => 4) (frX := fun z => frOf 0 148 [(11, .oslc (.s 0) e0 1 0 m false)])
      (hX := fun z => ⟨[.vec e0 (rowsF 3 0 z 0 (rws (prtL m l ks))), .hole, .hole, .hole], objsF z 0 (rws (prtL m l ks))⟩) (R := fun _ _ => False) ?_ (fun _ _ h => h.elim) ?_
    · exact rfl
    · show maskH 0 _ _ = ⟨[.vec e0 (rowsF 3 0 eps0 0 (rws (List.replicate m []))), .hole, .hole, .hole], objsF eps0 0 (rws (List.replicate m []))⟩
      rw [hp0]
      exact rfl
    · rintro ⟨⟨i, eps, P⟩, hi, I⟩
      simp only at hi I
      show aexR _ _ _ (frOf 0 148 [(0, ntsA l), (1, intsA ks), (11, .oslc (.s 0) e0 1 0 m false), (12, .int .i64 (i : Int))]) ⟨[.vec e0 (rowsF 3 0 eps 0 (rws P)), .hole, .hole, .hole], objsF eps 0 (rws P)⟩ _
      (conv => whnf)
      refine ifB (fun g1 => ?_) (fun g1 => ?_)
      · simp only [decide_eq_true_eq] at g1
        have h1 : i < l.length := by omega
        have h2 : i < ks.length := by omega
        have hm2 := intsR h2
        have hm1 := mapR (f := ntR) h1
        have hst := fun (j : Nat) => I.step h1 h2 (j := j)
        have hgk := hgd i h1
        unfold ok1 at hgk
        rw [getDk h2] at hgk
        have hgk := hgk.1
        obtain ⟨N, hN⟩ : ∃ N, N = sel (l.drop (i + 1)) (ks.drop (i + 1)) ks[i] := ⟨_, rfl⟩
        rw [← hN] at hst
        generalize l[i] = x at hm1 hst
        generalize ks[i] = v at hm2 hst hgk hN
        obtain ⟨xe, xc, xp, xf, xt⟩ := x
        replace hm1 : (l.map ntR)[0 + (i : Int).toNat]? = some [.int .i64 xe, .int .i64 xc, .int .i64 xp, .int .i64 xf, .int .i64 xt] := hm1
        obtain ⟨j, hj⟩ : ∃ j : Nat, v = (j : Int) + 1 := ⟨(v - 1).toNat, by omega⟩
        have hjm : j < m := by omega
        replace hst := hst j hj hjm
        have hw : IntKind.i64.wrap (v - 1) = (j : Int) := by rw [wrapI (by omega) (by omega)]; omega
        have hPl := I.len
        have hjP : j < P.length := by omega
        have hpj : P[j].length ≤ l.length := by
          have := I.row j hjm
          rw [getDk hjP] at this
          rw [this, List.length_take]
          have := sel_len_le (l.take i) (ks.take i) ((j : Int) + 1)
          simp at this
          omega
        rw [getDk hjP] at hst
        have hrow : (rowsF 3 0 eps 0 (rws P))[0 + (IntKind.i64.wrap (v - 1)).toNat]? = some [.oslc (.d (0 + (0 + j))) (eps (0 + j)) 3 0 P[j].length false] := by
          rw [hw, Nat.zero_add, Int.toNat_natCast, rowsF_get (R := rws P) (i := 0) (k := j) (by simpa [rws] using hjP)]; simp [rws]
        have hobj : (objsF eps 0 (rws P))[0 + (0 + j)]? = some (.vec (eps (0 + j)) (P[j].map tnR)) := by
          rw [Nat.zero_add, Nat.zero_add, objsF_get (R := rws P) (i := 0) (k := j) (by simpa [rws] using hjP)]; simp [rws]
        have hset : ∀ (p' : List Tn) (e2 : Nat), p'.length = P[j].length + 1 → (rowsF 3 0 eps 0 (rws P)).set (0 + (IntKind.i64.wrap (v - 1)).toNat) [.oslc (.d (0 + (0 + j))) e2 3 0 (P[j].length + 1) false] = rowsF 3 0 (updE eps (0 + j) e2) 0 (rws (P.set j p')) := fun p' e2 hl => by
          have := rowsF_set (sz := 3) (B := 0) (eps := eps) (e := e2) (r' := p'.map tnR) (R := rws P) (i := 0) (k := j) (by simpa [rws] using hjP)
          rw [List.length_map, hl] at this
          rw [hw, Nat.zero_add, Int.toNat_natCast, this]
          simp only [rws, List.map_set]
        have hset1 : ∀ (p' : List Tn) (e2 : Nat), (objsF eps 0 (rws P)).set (0 + (0 + j)) (.vec e2 (p'.map tnR)) = objsF (updE eps (0 + j) e2) 0 (rws (P.set j p')) := fun p' e2 => by
          have := objsF_set (eps := eps) (e := e2) (r' := p'.map tnR) (R := rws P) (i := 0) (k := j) (by simpa [rws] using hjP)
          rw [show 0 + (0 + j) = j by omega, this]
          simp only [rws, List.map_set]
        generalize P[j] = p at hpj hst hrow hobj hset
        have t3 : List.take p.length (List.drop 0 (p.map tnR)) = p.map tnR := by rw [List.drop_zero, List.take_of_length_le (by simp)]
        (repeat' (first | exact rfl | ((conv => whnf); first | refine optS hm1 ?_ | refine optS hm2 ?_ | (intro e2) | exact rfl | exact ⟨rfl, rfl⟩ | refine ⟨(by kernel_rfl : drawOk _ _ _ _ = true), ?_⟩ | refine ⟨(by kernel_rfl : planOk _ _ _ _ = true), ?_⟩ | refine ⟨rfl, ?_⟩ | refine ⟨by (first | omega | (simp (disch := omega) only [wrapI]; omega) | (simp (disch := omega) only [wrapI]; simp; omega) | (simp; omega)), ?_⟩ | (intro ep) | (refine ifB (fun hb => ?_) (fun hb => ?_) <;> (try simp only [decide_eq_true_eq, decide_eq_false_iff_not, beq_iff_eq, beq_eq_false_iff_ne, bne_iff_ne, bne_eq_false_iff_eq, ne_eq, not_false_eq_true, not_true_eq_false, Bool.not_eq_true, Bool.not_eq_true', Bool.not_eq_false', Int.not_lt, Int.not_le] at hb) <;> (try simp (disch := omega) only [wrapI] at hb) <;> (try (exfalso; omega))) | fail)))
        all_goals (conv => whnf)
        refine loopX ok mixed (A := A24) [0, 1, 11, 12, 13, 14] [0, 1] (S := { k : Nat // k ≤ l.length ∧ sel (l.drop k) (ks.drop k) v = N })
          (fr := fun k => frOf 0 148 [(0, ntsA l), (1, intsA ks), (11, .oslc (.s 0) e0 1 0 m false), (12, .int .i64 (i : Int)), (13, .optr (.s 1) e2 3 0 0), (14, .int .i64 (k.1 : Int))]) (h := fun k => ⟨[.vec e0 (rowsF 3 0 eps 0 (rws P)), .vec e2 [tnR ⟨xp, xf, xt⟩], .hole, .hole], objsF eps 0 (rws P)⟩) (μ := fun k => l.length - k.1) ⟨i + 1, by omega, hN.symm⟩ ?_ ?_
          [0, 1, 11, 12, 13] [0, 1] (S' := Unit) (X := fun _ => 6) (frX := fun k => frOf 0 148 [(0, ntsA l), (1, intsA ks), (11, .oslc (.s 0) e0 1 0 m false), (12, .int .i64 (i : Int)), (13, .optr (.s 1) e2 3 0 0)]) (hX := fun k => ⟨[.vec e0 (rowsF 3 0 eps 0 (rws P)), .vec e2 [tnR (tieT ⟨xe, xc, xp, xf, xt⟩ N)], .hole, .hole], objsF eps 0 (rws P)⟩)
          (R := fun _ _ => False) ?_ (fun _ _ h => h.elim) ?_
        · show maskF 0 _ _ = frOf 0 148 [(0, ntsA l), (1, intsA ks), (11, .oslc (.s 0) e0 1 0 m false), (12, .int .i64 (i : Int)), (13, .optr (.s 1) e2 3 0 0), (14, .int .i64 ((i + 1 : Nat) : Int))]
          (first | exact rfl | (simp (disch := omega) only [wrapI]; exact rfl))
        · exact rfl
        · rintro ⟨k, hk1, hu⟩
          show aexR _ _ _ (frOf 0 148 [(0, ntsA l), (1, intsA ks), (11, .oslc (.s 0) e0 1 0 m false), (12, .int .i64 (i : Int)), (13, .optr (.s 1) e2 3 0 0), (14, .int .i64 (k : Int))]) ⟨[.vec e0 (rowsF 3 0 eps 0 (rws P)), .vec e2 [tnR ⟨xp, xf, xt⟩], .hole, .hole], objsF eps 0 (rws P)⟩ _
          (conv => whnf)
          refine ifB (fun g2 => ?_) (fun g2 => ?_)
          · simp only [decide_eq_true_eq] at g2
            have q1 : k < l.length := by omega
            have q2 : k < ks.length := by omega
            have hm3 := mapR (f := ntR) q1
            have hm4 := intsR q2
            rw [sel_at q1 q2] at hu
            generalize l[k] = y at hm3 hu
            generalize ks[k] = w at hm4 hu
            obtain ⟨ye, yc, yp, yf, yt⟩ := y
            replace hm3 : (l.map ntR)[0 + (k : Int).toNat]? = some [.int .i64 ye, .int .i64 yc, .int .i64 yp, .int .i64 yf, .int .i64 yt] := hm3
            by_cases c4 : w = v
            · rw [if_pos c4] at hu
              (repeat' (first | exact rfl | ((conv => whnf); first | refine optS hm2 ?_ | refine optS hm3 ?_ | refine optS hm4 ?_ | exact rfl | exact ⟨rfl, rfl⟩ | refine ⟨(by kernel_rfl : drawOk _ _ _ _ = true), ?_⟩ | refine ⟨(by kernel_rfl : planOk _ _ _ _ = true), ?_⟩ | refine ⟨rfl, ?_⟩ | refine ⟨by (first | omega | (simp (disch := omega) only [wrapI]; omega) | (simp (disch := omega) only [wrapI]; simp; omega) | (simp; omega)), ?_⟩ | (intro ep) | (refine ifB (fun hb => ?_) (fun hb => ?_) <;> (try simp only [decide_eq_true_eq, decide_eq_false_iff_not, beq_iff_eq, beq_eq_false_iff_ne, bne_iff_ne, bne_eq_false_iff_eq, ne_eq, not_false_eq_true, not_true_eq_false, Bool.not_eq_true, Bool.not_eq_true', Bool.not_eq_false', Int.not_lt, Int.not_le] at hb) <;> (try simp (disch := omega) only [wrapI] at hb) <;> (try (exfalso; omega))) | fail)))
              all_goals (conv => whnf)
              refine back_of () ⟨rfl, rfl, ?_⟩
              rw [← hu]
              by_cases d1 : yf < xt
              · rw [show tieT ⟨xe, xc, xp, xf, xt⟩ ((⟨ye, yc, yp, yf, yt⟩ : Nt) :: sel (l.drop (k + 1)) (ks.drop (k + 1)) v) = ⟨xp, xf, yf⟩ by simp [tieT, cut, tnOf, d1]]
                simp only [Bool.false_eq_true, if_false, d1, if_true]
                exact rfl
              · rw [show tieT ⟨xe, xc, xp, xf, xt⟩ ((⟨ye, yc, yp, yf, yt⟩ : Nt) :: sel (l.drop (k + 1)) (ks.drop (k + 1)) v) = ⟨xp, xf, xt⟩ by simp [tieT, cut, tnOf, d1]]
                simp only [Bool.false_eq_true, if_false, d1]
                exact rfl
            · rw [if_neg c4] at hu
              (repeat' (first | exact rfl | ((conv => whnf); first | refine optS hm2 ?_ | refine optS hm3 ?_ | refine optS hm4 ?_ | exact rfl | exact ⟨rfl, rfl⟩ | refine ⟨(by kernel_rfl : drawOk _ _ _ _ = true), ?_⟩ | refine ⟨(by kernel_rfl : planOk _ _ _ _ = true), ?_⟩ | refine ⟨rfl, ?_⟩ | refine ⟨by (first | omega | (simp (disch := omega) only [wrapI]; omega) | (simp (disch := omega) only [wrapI]; simp; omega) | (simp; omega)), ?_⟩ | (intro ep) | (refine ifB (fun hb => ?_) (fun hb => ?_) <;> (try simp only [decide_eq_true_eq, decide_eq_false_iff_not, beq_iff_eq, beq_eq_false_iff_ne, bne_iff_ne, bne_eq_false_iff_eq, ne_eq, not_false_eq_true, not_true_eq_false, Bool.not_eq_true, Bool.not_eq_true', Bool.not_eq_false', Int.not_lt, Int.not_le] at hb) <;> (try simp (disch := omega) only [wrapI] at hb) <;> (try (exfalso; omega))) | fail)))
              all_goals (conv => whnf)
              exact back_of ⟨k + 1, by omega, hu⟩ ⟨by (first | exact rfl | (simp (disch := omega) only [wrapI]; exact rfl)), rfl, by simp only; omega⟩
          · simp only [decide_eq_false_iff_not] at g2
            rw [List.drop_eq_nil_of_le (by omega)] at hu
            have hN0 : N = [] := by rw [← hu]; simp [sel]
            (repeat' (first | exact rfl | ((conv => whnf); first | exact rfl | exact ⟨rfl, rfl⟩ | refine ⟨(by kernel_rfl : drawOk _ _ _ _ = true), ?_⟩ | refine ⟨(by kernel_rfl : planOk _ _ _ _ = true), ?_⟩ | refine ⟨rfl, ?_⟩ | refine ⟨by (first | omega | (simp (disch := omega) only [wrapI]; omega) | (simp (disch := omega) only [wrapI]; simp; omega) | (simp; omega)), ?_⟩ | (intro ep) | fail)))
            all_goals (conv => whnf)
            refine back_of () ⟨rfl, rfl, ?_⟩
            rw [hN0]
            exact rfl
        · rintro ⟨⟩
          generalize tieT ⟨xe, xc, xp, xf, xt⟩ N = t at hst
          (repeat' (first | ((conv => whnf); first | (refine ⟨(by kernel_rfl : planOk _ _ _ _ = true), ?_⟩; apply planR_meet; focus (repeat' (first | (rename_i ep1; first | exact ⟨ep1, ep, rfl, rfl⟩ | exact ⟨ep, ep1, rfl, rfl⟩) | ((conv => whnf); first | refine optS hm2 ?_ | refine optS hrow ?_ | refine optO hobj ?_ | refine ⟨rfl, ?_⟩ | refine ⟨by (first | omega | (simp (disch := omega) only [wrapI]; omega) | (simp (disch := omega) only [wrapI]; simp; omega) | (simp; omega)), ?_⟩ | (intro ep) | refine ⟨?_, ?_⟩ | fail)))) | exact rfl | exact ⟨rfl, rfl⟩ | refine ⟨(by kernel_rfl : drawOk _ _ _ _ = true), ?_⟩ | refine ⟨(by kernel_rfl : planOk _ _ _ _ = true), ?_⟩ | refine ⟨rfl, ?_⟩ | refine ⟨by (first | omega | (simp (disch := omega) only [wrapI]; omega) | (simp (disch := omega) only [wrapI]; simp; omega) | (simp; omega)), ?_⟩ | (intro ep) | fail)))
          all_goals (conv => whnf)
          (repeat' (first | exact rfl | ((conv => whnf); first | exact rfl | exact ⟨rfl, rfl⟩ | refine ⟨(by kernel_rfl : drawOk _ _ _ _ = true), ?_⟩ | refine ⟨(by kernel_rfl : planOk _ _ _ _ = true), ?_⟩ | refine ⟨rfl, ?_⟩ | refine ⟨by (first | omega | (simp (disch := omega) only [wrapI]; omega) | (simp (disch := omega) only [wrapI]; simp; omega) | (simp; omega)), ?_⟩ | (intro ep) | fail)))
          all_goals (conv => whnf)
          have hpt : (p ++ [t]).length = p.length + 1 := by simp
          have hmt : (p ++ [t]).map tnR = List.take p.length (List.drop 0 (p.map tnR)) ++ [tnR t] := by rw [t3]; simp
          refine back_of ⟨(i + 1, updE eps (0 + j) ep, P.set j (p ++ [t])), by simp only; omega, hst⟩ ⟨by (first | exact rfl | (simp (disch := omega) only [wrapI]; exact rfl)), ?_, by simp only; omega⟩
          refine Eq.trans (b := ⟨[.vec e0 ((rowsF 3 0 eps 0 (rws P)).set (0 + (IntKind.i64.wrap (v - 1)).toNat) [.oslc (.d (0 + (0 + j))) ep 3 0 (p.length + 1) false]), .hole, .hole, .hole], (objsF eps 0 (rws P)).set (0 + (0 + j)) (.vec ep (List.take p.length (List.drop 0 (p.map tnR)) ++ [tnR t]))⟩) (by exact rfl) ?_
          rw [← hmt, hset _ ep hpt, hset1]
      · simp only [decide_eq_false_iff_not] at g1
        have hii : i = l.length := by omega
        have hP : P = prtL m l ks := by
          refine List.ext_getElem (by simp [prtL, I.len]) fun j a b => ?_
          have hr := I.row j (by rw [← I.len]; exact a)
          have z1 : l.take i = l := List.take_of_length_le (by omega)
          have z2 : ks.take i = ks := List.take_of_length_le (by omega)
          rw [z1, z2, getDk a] at hr
          rw [hr, List.take_of_length_le (by rw [tie_len]; exact Nat.le_refl _)]
          simp [prtL]
        subst hP
        (repeat' (first | exact rfl | ((conv => whnf); first | exact rfl | exact ⟨rfl, rfl⟩ | refine ⟨(by kernel_rfl : drawOk _ _ _ _ = true), ?_⟩ | refine ⟨(by kernel_rfl : planOk _ _ _ _ = true), ?_⟩ | refine ⟨rfl, ?_⟩ | refine ⟨by (first | omega | (simp (disch := omega) only [wrapI]; omega) | (simp (disch := omega) only [wrapI]; simp; omega) | (simp; omega)), ?_⟩ | (intro ep) | fail)))
        all_goals (conv => whnf)
        exact back_of eps ⟨rfl, rfl, rfl⟩
    · rintro eps
      have hml : m = (prtL m l ks).length := by simp [prtL]
      (repeat' (first | ((conv => whnf); first | (refine end_parts hml) | exact rfl | exact ⟨rfl, rfl⟩ | refine ⟨(by kernel_rfl : drawOk _ _ _ _ = true), ?_⟩ | refine ⟨(by kernel_rfl : planOk _ _ _ _ = true), ?_⟩ | refine ⟨rfl, ?_⟩ | refine ⟨by (first | omega | (simp (disch := omega) only [wrapI]; omega) | (simp (disch := omega) only [wrapI]; simp; omega) | (simp; omega)), ?_⟩ | (intro ep) | fail)))
end Go.Ab.V
