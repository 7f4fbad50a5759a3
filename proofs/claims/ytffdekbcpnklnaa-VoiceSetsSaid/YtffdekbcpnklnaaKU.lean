/-
  What is proved here serves the law's text: each part says its own claim and its conditions. No condition is left open.
-/
import Derived.Test.YtffdekbcpnklnaaKT
import Derived.Test.YtffdekbcpnklnaaKR
import Derived.Test.YtffdekbcpnklnaaKO
set_option linter.unusedSimpArgs false
set_option linter.unusedVariables false

/-
  What a part is written as: signs of the rests and of the tones, in plain terms. No condition.
-/
namespace Go.Ab.V
open Go.Proofs

/-- a written tone with the sign of number k -/
def sgW (p : Int) (y : Bool) (k : Nat) : Wr := match sgR k with
  | [.int _ v, .bool d, .bool t] => ⟨p, v, d, t, y⟩
  | _ => ⟨p, 0, false, false, y⟩
theorem sgW_of {k : Nat} {v : Int} {d t : Bool} (p : Int) (y : Bool) (g : sgR k = [.int .i64 v, .bool d, .bool t]) : sgW p y k = ⟨p, v, d, t, y⟩ := by
  unfold sgW; rw [g]
/-- the written tones of a list of signs -/
def wrL (p : Int) : List Nat → List Wr
  | [] => []
  | k :: r => sgW p (decide (0 ≤ p) && !r.isEmpty) k :: wrL p r
theorem wrL_len (p : Int) : ∀ l, (wrL p l).length = l.length
  | [] => rfl
  | k :: r => by simp [wrL, wrL_len p r]
theorem wrL_cons {l : List Nat} {i : Nat} (p : Int) (h : i < l.length) : wrL p (l.drop i) = sgW p (decide (0 ≤ p) && decide (i + 1 < l.length)) l[i] :: wrL p (l.drop (i + 1)) := by
  rw [List.drop_eq_getElem_cons h, wrL]
  congr 3
  by_cases e : i + 1 < l.length
  · rw [List.drop_eq_getElem_cons e]; simp [e]
  · rw [List.drop_eq_nil_of_le (by omega)]; simp; omega
/-- a tone, or a rest, of a length -/
def seg (p n : Int) : Option (List Wr) := if n < 0 ∨ 4608 < n ∨ fw n.toNat < 0 then none else some (wrL p (sigK n.toNat))
theorem seg_zero (p : Int) : seg p 0 = some [] := by
  unfold seg
  rw [if_neg (by simp [fw_zero]), show (0 : Int).toNat = 0 from rfl, sigK_zero]; rfl
theorem seg_len {p n : Int} {l : List Wr} (h : seg p n = some l) : l.length ≤ 4608 := by
  unfold seg at h
  split at h
  · cases h
  · rename_i hc
    cases h
    rw [wrL_len]
    have := sigK_len (n := n.toNat) (by omega)
    omega
/-- a part that is written -/
def setL (en : Int) : List Tn → Int → List Wr → Option (List Wr)
  | [], now, acc => match seg (-1) (en - now) with
    | none => none
    | some a => some (acc ++ a)
  | x :: r, now, acc => match seg (-1) (x.f - now) with
    | none => none
    | some a => match seg x.p (x.t - x.f) with
      | none => none
      | some b => setL en r x.t (acc ++ a ++ b)
def setV (x : Option (List Wr)) : AV := match x with
  | none => .tup [.nils, .int .i64 25]
  | some l => .tup [wrsA l, .int .i64 0]
theorem pure_wrs (l : List Wr) : pureRows (l.map wrR) := by
  intro r hr c hc
  obtain ⟨x, _, rfl⟩ := List.mem_map.1 hr
  simp [wrR] at hc
  rcases hc with rfl | rfl | rfl | rfl | rfl <;> rfl
end Go.Ab.V

/-
  Writing a tone, or a rest: the closure of Set. No condition but the lengths.
-/
namespace Go.Ab.V
open Go.Proofs

def A65 : Ann := fun r => match r with
  | 4 => { slots := [(3, 4)] }
  | 5 => { slots := [(13, 5), (14, 6)] }
  | _ => {}
/-- the variables of Set that the closure names, when the list is written -/
def HS (e0 e3 : Nat) (x1 x2 : AObj) (a : List Wr) : List AObj := [.vec e0 [[.oslc (.s 3) e3 5 0 a.length false]], x1, x2, .vec e3 (a.map wrR)]
theorem outR_get {l : List Nat} {i : Nat} (h : i < l.length) : (outR l)[0 + ((i : Nat) : Int).toNat]? = some (sgR l[i]) := mapR (f := sgR) h
set_option maxHeartbeats 4000000 in
set_option maxRecDepth 100000 in
theorem write65 (p n : Int) (a : List Wr) (e0 e3 : Nat) (x1 x2 : AObj) (ha : a.length ≤ 10000000) :
    ACalls C.P 65 [.int .i64 p, .int .i64 n, .optr (.s 0) e0 1 0 0] ⟨HS e0 e3 x1 x2 a, []⟩
      fun r h' => r = .bool (seg p n).isSome ∧ ∃ e3', padTo 4 h'.st = HS e0 e3' x1 x2 (a ++ (seg p n).getD []) ∧ h'.dy = [] := by
  by_cases hb : n < 0 ∨ 4608 < n ∨ fw n.toNat < 0
  · have hs : seg p n = none := by unfold seg; rw [if_pos hb]
    rw [hs]
    have key : ∃ er : Int, er ≠ 0 ∧ PRet C.P 66 [.int .i64 n] (.tup [.nils, .int .i64 er]) := by
      by_cases c : n < 0 ∨ 4608 < n
      · exact ⟨1, by decide, signs_bad n c⟩
      · obtain ⟨m, rfl⟩ : ∃ m : Nat, n = (m : Int) := ⟨n.toNat, by omega⟩
        have h := signs_spec m (by omega)
        rw [Int.toNat_natCast] at hb
        unfold sigV at h
        rw [if_pos (by omega)] at h
        exact ⟨25, by decide, h⟩
    obtain ⟨er, her, hS⟩ := key
    refine fn_of ok mixed (A := A65) 3 Try.func65 rfl ?_
    (repeat' ((conv => whnf); first | refine ⟨_, hS, ?_⟩ | exact rfl | exact ⟨rfl, rfl⟩ | refine ⟨(by kernel_rfl : drawOk _ _ _ _ = true), ?_⟩ | refine ⟨(by kernel_rfl : planOk _ _ _ _ = true), ?_⟩ | refine ⟨rfl, ?_⟩ | refine ⟨by (first | omega | (simp (disch := omega) only [wrapI]; omega) | (simp (disch := omega) only [wrapI]; simp; omega) | (simp; omega)), ?_⟩ | (intro ep) | (refine ifB (fun hb => ?_) (fun hb => ?_) <;> (try simp only [decide_eq_true_eq, decide_eq_false_iff_not, beq_iff_eq, beq_eq_false_iff_ne, bne_iff_ne, bne_eq_false_iff_eq, ne_eq, not_false_eq_true, not_true_eq_false, Bool.not_eq_true, Bool.not_eq_true', Bool.not_eq_false', Int.not_lt, Int.not_le] at hb) <;> (try simp (disch := omega) only [wrapI] at hb) <;> (try (exfalso; omega))) | fail))
    all_goals (conv => whnf)
    refine loopU ok mixed (A := A65) 1 ?_
    (repeat' ((conv => whnf); first | exact rfl | exact ⟨rfl, rfl⟩ | refine ⟨(by kernel_rfl : drawOk _ _ _ _ = true), ?_⟩ | refine ⟨(by kernel_rfl : planOk _ _ _ _ = true), ?_⟩ | refine ⟨rfl, ?_⟩ | refine ⟨by (first | omega | (simp (disch := omega) only [wrapI]; omega) | (simp (disch := omega) only [wrapI]; simp; omega) | (simp; omega)), ?_⟩ | (intro ep) | (refine ifB (fun hb => ?_) (fun hb => ?_) <;> (try simp only [decide_eq_true_eq, decide_eq_false_iff_not, beq_iff_eq, beq_eq_false_iff_ne, bne_iff_ne, bne_eq_false_iff_eq, ne_eq, not_false_eq_true, not_true_eq_false, Bool.not_eq_true, Bool.not_eq_true', Bool.not_eq_false', Int.not_lt, Int.not_le] at hb) <;> (try simp (disch := omega) only [wrapI] at hb) <;> (try (exfalso; omega))) | fail))
    all_goals (conv => whnf)
    all_goals exact ⟨by rw [show (none : Option (List Wr)).getD [] = [] from rfl, List.append_nil]; rfl, rfl⟩
  · have hm0 : 0 ≤ n ∧ n ≤ 4608 ∧ 0 ≤ fw n.toNat := by omega
    obtain ⟨m, rfl⟩ : ∃ m : Nat, n = (m : Int) := ⟨n.toNat, by omega⟩
    rw [Int.toNat_natCast] at hb hm0
    have hs : seg p m = some (wrL p (sigK m)) := by unfold seg; rw [if_neg (by rw [Int.toNat_natCast]; omega), Int.toNat_natCast]
    rw [hs]
    have hS := signs_spec m (by omega)
    unfold sigV at hS
    rw [if_neg (by omega)] at hS
    have hL := sigK_len hm0.2.2
    have hK := sigK_lt hm0.2.2
    obtain ⟨L, hLe⟩ : ∃ L, L = sigK m := ⟨_, rfl⟩
    rw [← hLe] at hS hL hK ⊢
    obtain ⟨R, hR⟩ : ∃ R, R = a ++ wrL p L := ⟨_, rfl⟩
    show ACalls _ _ _ _ fun r h' => r = .bool true ∧ ∃ e3', padTo 4 h'.st = HS e0 e3' x1 x2 (a ++ wrL p L) ∧ h'.dy = []
    rw [← hR]
    refine fn_of ok mixed (A := A65) 3 Try.func65 rfl ?_
    (repeat' ((conv => whnf); first | refine ⟨_, hS, ?_⟩ | exact rfl | exact ⟨rfl, rfl⟩ | refine ⟨(by kernel_rfl : drawOk _ _ _ _ = true), ?_⟩ | refine ⟨(by kernel_rfl : planOk _ _ _ _ = true), ?_⟩ | refine ⟨rfl, ?_⟩ | refine ⟨by (first | omega | (simp (disch := omega) only [wrapI]; omega) | (simp (disch := omega) only [wrapI]; simp; omega) | (simp; omega)), ?_⟩ | (intro ep) | (refine ifB (fun hb => ?_) (fun hb => ?_) <;> (try simp only [decide_eq_true_eq, decide_eq_false_iff_not, beq_iff_eq, beq_eq_false_iff_ne, bne_iff_ne, bne_eq_false_iff_eq, ne_eq, not_false_eq_true, not_true_eq_false, Bool.not_eq_true, Bool.not_eq_true', Bool.not_eq_false', Int.not_lt, Int.not_le] at hb) <;> (try simp (disch := omega) only [wrapI] at hb) <;> (try (exfalso; omega))) | fail))
    all_goals (conv => whnf)
    refine loopY ok mixed (A := A65) [0, 2, 6, 7, 15, 16, 17] [0, 1, 2, 3] (S := { z : Nat × Nat × List Wr // z.1 ≤ L.length ∧ z.2.2 ++ wrL p (L.drop z.1) = R ∧ z.2.2.length ≤ a.length + z.1 })
      (fr := fun s => frOf 0 40 [(0, .int .i64 p), (2, .optr (.s 0) e0 1 0 0), (6, .lslc 3 (outR L) 0 L.length false), (7, .int .i64 0), (15, .lslc 3 (outR L) 0 L.length false), (16, .int .i64 (L.length : Int)), (17, .int .i64 (s.1.1 : Int))])
      (h := fun s => ⟨HS e0 s.1.2.1 x1 x2 s.1.2.2 ++ [.hole, .hole, .hole], []⟩) (μ := fun s => L.length - s.1.1) ⟨(0, e3, a), Nat.zero_le _, by simp [hR], by simp⟩ ?_ ?_
      [7] [0, 1, 2, 3] (S' := Nat) (X := fun _ => 0) (frX := fun s => frOf 0 40 [(7, .int .i64 0)]) (hX := fun s => ⟨HS e0 s x1 x2 R ++ [.hole, .hole, .hole], []⟩)
      [] [] (S2 := Empty) (frR := fun s => frOf 0 40 []) (hR := fun s => ⟨[], []⟩) ?_ ?_ ?_
    · exact rfl
    · exact rfl
    · rintro ⟨⟨i, e, b⟩, hi, hu, hbl⟩
      simp only at hi hu hbl
      show aexR _ _ _ (frOf 0 40 [(0, .int .i64 p), (2, .optr (.s 0) e0 1 0 0), (6, .lslc 3 (outR L) 0 L.length false), (7, .int .i64 0), (15, .lslc 3 (outR L) 0 L.length false), (16, .int .i64 (L.length : Int)), (17, .int .i64 (i : Int))])
        ⟨[.vec e0 [[.oslc (.s 3) e 5 0 b.length false]], x1, x2, .vec e (b.map wrR), .hole, .hole, .hole], []⟩ _
      (conv => whnf)
      refine ifB (fun g1 => ?_) (fun g1 => ?_)
      · simp only [decide_eq_true_eq] at g1
        have h1 : i < L.length := by omega
        have hm := outR_get h1
        obtain ⟨v, d, t, _, g, _⟩ := tkL_get (hK L[i] (List.getElem_mem h1))
        rw [g] at hm
        rw [wrL_cons p h1] at hu
        rw [sgW_of p _ g] at hu
        have e1 : ∀ y : Bool, (b ++ [(⟨p, v, d, t, y⟩ : Wr)]).length = b.length + 1 := fun y => by simp
        have t3 : List.take b.length (List.drop 0 (b.map wrR)) = b.map wrR := by rw [List.drop_zero, List.take_of_length_le (by simp)]
        have e2 : ∀ y : Bool, (b ++ [(⟨p, v, d, t, y⟩ : Wr)]).map wrR = List.take b.length (List.drop 0 (b.map wrR)) ++ [[.int .i64 p, .int .i64 v, .bool d, .bool t, .bool y]] := fun y => by rw [t3]; simp [wrR]
        by_cases c1 : 0 ≤ p
        · rw [show (decide (0 ≤ p) && decide (i + 1 < L.length)) = decide ((i : Int) < (L.length : Int) - 1) by simp only [c1, decide_true, Bool.true_and, decide_eq_decide]; omega] at hu
          (repeat' (first | exact rfl | ((conv => whnf); first | refine optS hm ?_ | exact rfl | exact ⟨rfl, rfl⟩ | refine ⟨(by kernel_rfl : drawOk _ _ _ _ = true), ?_⟩ | refine ⟨(by kernel_rfl : planOk _ _ _ _ = true), ?_⟩ | refine ⟨rfl, ?_⟩ | refine ⟨by (first | omega | (simp (disch := omega) only [wrapI]; omega) | (simp (disch := omega) only [wrapI]; simp; omega) | (simp; omega)), ?_⟩ | (intro ep) | (refine ifB (fun hb => ?_) (fun hb => ?_) <;> (try simp only [decide_eq_true_eq, decide_eq_false_iff_not, beq_iff_eq, beq_eq_false_iff_ne, bne_iff_ne, bne_eq_false_iff_eq, ne_eq, not_false_eq_true, not_true_eq_false, Bool.not_eq_true, Bool.not_eq_true', Bool.not_eq_false', Int.not_lt, Int.not_le] at hb) <;> (try simp (disch := omega) only [wrapI] at hb) <;> (try (exfalso; omega))) | fail)))
          all_goals (conv => whnf)
          refine back_of ⟨(i + 1, ep, b ++ [⟨p, v, d, t, decide ((i : Int) < (L.length : Int) - 1)⟩]), by simp only; omega, by simp only; rw [← hu]; simp, by simp only [e1]; omega⟩ ⟨by (first | exact rfl | (simp (disch := omega) only [wrapI]; exact rfl)), ?_, by simp only; omega⟩
          show maskH 0 _ _ = ⟨[.vec e0 [[.oslc (.s 3) ep 5 0 (b ++ [(⟨p, v, d, t, decide ((i : Int) < (L.length : Int) - 1)⟩ : Wr)]).length false]], x1, x2, .vec ep ((b ++ [(⟨p, v, d, t, decide ((i : Int) < (L.length : Int) - 1)⟩ : Wr)]).map wrR), .hole, .hole, .hole], []⟩
          rw [e1, e2]
          (first | exact rfl | (simp (disch := omega) only [wrapI]; exact rfl))
        · rw [show (decide (0 ≤ p) && decide (i + 1 < L.length)) = false by simp [c1]] at hu
          (repeat' (first | exact rfl | ((conv => whnf); first | refine optS hm ?_ | exact rfl | exact ⟨rfl, rfl⟩ | refine ⟨(by kernel_rfl : drawOk _ _ _ _ = true), ?_⟩ | refine ⟨(by kernel_rfl : planOk _ _ _ _ = true), ?_⟩ | refine ⟨rfl, ?_⟩ | refine ⟨by (first | omega | (simp (disch := omega) only [wrapI]; omega) | (simp (disch := omega) only [wrapI]; simp; omega) | (simp; omega)), ?_⟩ | (intro ep) | (refine ifB (fun hb => ?_) (fun hb => ?_) <;> (try simp only [decide_eq_true_eq, decide_eq_false_iff_not, beq_iff_eq, beq_eq_false_iff_ne, bne_iff_ne, bne_eq_false_iff_eq, ne_eq, not_false_eq_true, not_true_eq_false, Bool.not_eq_true, Bool.not_eq_true', Bool.not_eq_false', Int.not_lt, Int.not_le] at hb) <;> (try simp (disch := omega) only [wrapI] at hb) <;> (try (exfalso; omega))) | fail)))
          all_goals (conv => whnf)
          refine back_of ⟨(i + 1, ep, b ++ [⟨p, v, d, t, false⟩]), by simp only; omega, by simp only; rw [← hu]; simp, by simp only [e1]; omega⟩ ⟨by (first | exact rfl | (simp (disch := omega) only [wrapI]; exact rfl)), ?_, by simp only; omega⟩
          show maskH 0 _ _ = ⟨[.vec e0 [[.oslc (.s 3) ep 5 0 (b ++ [(⟨p, v, d, t, false⟩ : Wr)]).length false]], x1, x2, .vec ep ((b ++ [(⟨p, v, d, t, false⟩ : Wr)]).map wrR), .hole, .hole, .hole], []⟩
          rw [e1, e2]
          (first | exact rfl | (simp (disch := omega) only [wrapI]; exact rfl))
      · simp only [decide_eq_false_iff_not] at g1
        rw [List.drop_eq_nil_of_le (by omega), wrL, List.append_nil] at hu
        subst hu
        (repeat' (first | exact rfl | ((conv => whnf); first | exact rfl | exact ⟨rfl, rfl⟩ | refine ⟨(by kernel_rfl : drawOk _ _ _ _ = true), ?_⟩ | refine ⟨(by kernel_rfl : planOk _ _ _ _ = true), ?_⟩ | refine ⟨rfl, ?_⟩ | refine ⟨by (first | omega | (simp (disch := omega) only [wrapI]; omega) | (simp (disch := omega) only [wrapI]; simp; omega) | (simp; omega)), ?_⟩ | (intro ep) | fail)))
        all_goals (conv => whnf)
        exact back_of e ⟨rfl, rfl, rfl⟩
    · rintro ⟨⟩
    · intro e
      (repeat' (first | exact rfl | ((conv => whnf); first | exact rfl | exact ⟨rfl, rfl⟩ | refine ⟨(by kernel_rfl : drawOk _ _ _ _ = true), ?_⟩ | refine ⟨(by kernel_rfl : planOk _ _ _ _ = true), ?_⟩ | refine ⟨rfl, ?_⟩ | refine ⟨by (first | omega | (simp (disch := omega) only [wrapI]; omega) | (simp (disch := omega) only [wrapI]; simp; omega) | (simp; omega)), ?_⟩ | (intro ep) | fail)))
end Go.Ab.V

/-
  Meetings: plain definitions and laws. No condition.
-/
namespace Go.Ab.V
open Go.Proofs

/-- a meeting -/
structure Mt where
  tm : Int
  iv : Int
  mo : Int
def mtR (x : Mt) : List AV := [.int .i64 x.tm, .int .i64 x.iv, .int .i64 x.mo]
def mtsA (l : List Mt) : AV := .lslc 3 (l.map mtR) 0 l.length false
def movO : Option (Int × Int) → Int → Int → Int
  | none, _, _ => 0
  | some p, a, b => mot (a - p.1) (b - p.2)
def meetP (u l : List Tn) : Option (Int × Int) → List Int → List Mt
  | _, [] => []
  | o, t :: r => if atR u t < 0 ∨ atR l t < 0 then meetP u l o r else ⟨t, atR u t - atR l t, movO o (atR u t) (atR l t)⟩ :: meetP u l (some (atR u t, atR l t)) r
/-- two ascending lists as one -/
def mrg : List Int → List Int → List Int
  | [], b => b
  | x :: a, [] => x :: a
  | x :: a, y :: b => if x < y then x :: mrg a (y :: b) else if y < x then y :: mrg (x :: a) b else x :: mrg a b
termination_by a b => a.length + b.length
def meets (u l : List Tn) : List Mt := meetP u l none (mrg (u.map (·.f)) (l.map (·.f)))
def meetV (u l : List Tn) : AV := if chkP [u] ≠ 0 then .tup [.nils, .int .i64 (chkP [u])] else if chkP [l] ≠ 0 then .tup [.nils, .int .i64 (chkP [l])] else .tup [mtsA (meets u l), .int .i64 0]

/-- a part that is right -/
def good (s : Int) : List Tn → Prop
  | [] => True
  | x :: r => 0 ≤ x.p ∧ x.p ≤ 127 ∧ s ≤ x.f ∧ x.f < x.t ∧ x.t ≤ 262144 ∧ good x.t r
theorem good_of {s : Int} : ∀ {l : List Tn}, rgt s l = true → good s l
  | [], _ => trivial
  | x :: r, h => by
    unfold rgt at h
    split at h
    · cases h
    · rename_i hb
      unfold tnBad at hb
      exact ⟨by omega, by omega, by omega, by omega, by omega, good_of h⟩
theorem good_ge : ∀ {l : List Tn} {s : Int}, good s l → ∀ (j : Nat) (h : j < l.length), s ≤ l[j].f
  | [], s, _, j, h => by simp at h
  | x :: r, s, ⟨_, _, h3, h4, _, h6⟩, 0, h => h3
  | x :: r, s, ⟨_, _, h3, h4, _, h6⟩, j + 1, h => by
    have := good_ge h6 j (by simpa using h)
    simp only [List.getElem_cons_succ]
    omega
theorem good_asc : ∀ {l : List Tn} {s : Int}, good s l → asc l
  | [], s, _, i, j, hi, hj => by simp at hj
  | x :: r, s, ⟨_, _, h3, h4, _, h6⟩, i, j + 1, hi, hj => by
    cases i with
    | zero =>
      have := good_ge h6 j (by simpa using hj)
      simp only [List.getElem_cons_succ, List.getElem_cons_zero]
      omega
    | succ i =>
      have := good_asc h6 i j (by omega) (by simpa using hj)
      simpa using this
theorem chk1 {p : List Tn} (h : chkP [p] = 0) : p.length ≤ 400 ∧ good 0 p := by
  unfold chkP at h
  simp only [List.length_singleton, anyB, List.any_cons, List.any_nil, Bool.or_false, decide_eq_true_eq, List.all_cons, List.all_nil, Bool.and_true] at h
  split at h
  · omega
  split at h
  · omega
  split at h
  · rename_i h1 h2; exact ⟨by omega, good_of h2⟩
  · omega
theorem atR_ge : ∀ {l : List Tn} {s : Int} (t : Int), good s l → t < s → atR l t = -1
  | [], s, t, _, _ => rfl
  | x :: r, s, t, ⟨_, _, h3, h4, _, h6⟩, h => by
    unfold atR
    rw [if_neg (by omega)]
    exact atR_ge t h6 (by omega)
/-- the search finds the tone -/
theorem atP_eq : ∀ {l : List Tn} {s : Int} (t : Int), good s l → atP l t = if atR l t < 0 then none else some (atR l t)
  | [], s, t, _ => by simp [atP, begun, atR]
  | x :: r, s, t, ⟨h1, h2, h3, h4, h5, h6⟩ => by
    have ih := atP_eq t h6
    by_cases c1 : x.f ≤ t
    · by_cases c2 : t < x.t
      · rw [show atR (x :: r) t = x.p by rw [atR, if_pos ⟨c1, c2⟩]]
        have hb : begun r t = 0 := by
          cases hr : r with
          | nil => rfl
          | cons y q =>
            have := good_ge h6 0 (by rw [hr]; simp)
            simp only [hr, List.getElem_cons_zero] at this
            unfold begun
            rw [if_neg (by omega)]
        unfold atP begun
        rw [if_pos c1, hb]
        simp [show ¬ x.t ≤ t by omega, show ¬ x.p < 0 by omega]
      · rw [show atR (x :: r) t = atR r t by rw [atR, if_neg (by omega)], ← ih]
        unfold atP
        rw [show begun (x :: r) t = begun r t + 1 by rw [begun, if_pos c1]]
        by_cases c3 : begun r t = 0
        · rw [c3]
          simp [show x.t ≤ t by omega]
        · obtain ⟨b, hb⟩ : ∃ b, begun r t = b + 1 := ⟨begun r t - 1, by omega⟩
          rw [hb]
          simp
    · rw [show atR (x :: r) t = -1 by rw [atR, if_neg (by omega), atR_ge t h6 (by omega)]]
      simp [atP, begun, c1]
/-- strictly ascending -/
def inc : List Int → Prop
  | [] => True
  | x :: r => (∀ y ∈ r, x < y) ∧ inc r
theorem inc_ext : ∀ {a b : List Int}, inc a → inc b → (∀ x, x ∈ a ↔ x ∈ b) → a = b
  | [], [], _, _, _ => rfl
  | [], y :: b, _, _, h => by have := (h y).2 (by simp); simp at this
  | x :: a, [], _, _, h => by have := (h x).1 (by simp); simp at this
  | x :: a, y :: b, ⟨h1, h2⟩, ⟨h3, h4⟩, h => by
    have hxy : x = y := by
      have e1 := (h x).1 (by simp)
      have e2 := (h y).2 (by simp)
      rcases List.mem_cons.1 e1 with rfl | e1
      · rfl
      · rcases List.mem_cons.1 e2 with e2 | e2
        · exact e2.symm
        · have := h3 x e1; have := h1 y e2; omega
    subst hxy
    rw [inc_ext h2 h4 fun z => ⟨fun hz => ?_, fun hz => ?_⟩]
    · rcases List.mem_cons.1 ((h z).1 (by simp [hz])) with rfl | e
      · have := h1 z hz; omega
      · exact e
    · rcases List.mem_cons.1 ((h z).2 (by simp [hz])) with rfl | e
      · have := h3 z hz; omega
      · exact e
theorem mrg_mem : ∀ (a b : List Int) (z : Int), z ∈ mrg a b ↔ z ∈ a ∨ z ∈ b
  | [], b, z => by rw [mrg]; simp
  | x :: a, [], z => by rw [mrg]; simp
  | x :: a, y :: b, z => by
    rw [mrg]
    split
    · rw [List.mem_cons, mrg_mem a (y :: b) z, List.mem_cons]
      simp only [List.mem_cons, or_assoc]
    · split
      · rw [List.mem_cons, mrg_mem (x :: a) b z]
        simp only [List.mem_cons]
        constructor <;> (rintro (h | h | h) <;> simp_all)
      · have : x = y := by omega
        subst this
        rw [List.mem_cons, mrg_mem a b z]
        simp only [List.mem_cons]
        constructor
        · rintro (h | h | h) <;> simp_all
        · rintro ((h | h) | h | h) <;> simp_all
termination_by a b => a.length + b.length
theorem mrg_inc : ∀ (a b : List Int), inc a → inc b → inc (mrg a b)
  | [], b, _, h => by rw [mrg]; exact h
  | x :: a, [], h, _ => by rw [mrg]; exact h
  | x :: a, y :: b, ha, hb => by
    rw [mrg]
    split
    · refine ⟨fun z hz => ?_, mrg_inc a (y :: b) ha.2 hb⟩
      rcases (mrg_mem _ _ _).1 hz with h | h
      · exact ha.1 z h
      · rcases List.mem_cons.1 h with rfl | h
        · assumption
        · have := hb.1 z h; omega
    · split
      · refine ⟨fun z hz => ?_, mrg_inc (x :: a) b ha hb.2⟩
        rcases (mrg_mem _ _ _).1 hz with h | h
        · rcases List.mem_cons.1 h with rfl | h
          · assumption
          · have := ha.1 z h; omega
        · exact hb.1 z h
      · refine ⟨fun z hz => ?_, mrg_inc a b ha.2 hb.2⟩
        rcases (mrg_mem _ _ _).1 hz with h | h
        · exact ha.1 z h
        · have := hb.1 z h; omega
termination_by a b => a.length + b.length
theorem good_inc : ∀ {l : List Tn} {s : Int}, good s l → inc (l.map (·.f)) ∧ ∀ y ∈ l.map (·.f), s ≤ y
  | [], s, _ => ⟨trivial, fun y h => by simp at h⟩
  | x :: r, s, ⟨h1, h2, h3, h4, h5, h6⟩ => by
    obtain ⟨i1, i2⟩ := good_inc h6
    refine ⟨⟨fun y hy => ?_, i1⟩, fun y hy => ?_⟩
    · have := i2 y hy
      show x.f < y
      omega
    · rcases List.mem_cons.1 hy with rfl | hy
      · exact h3
      · have := i2 y hy; omega
end Go.Ab.V

/-
  Set: the program's function. No condition but the lengths.
-/
namespace Go.Ab.V
open Go.Proofs

def lastT (l : List Tn) : Int := if h : 0 < l.length then (l[l.length - 1]'(by omega)).t else 0
def setA (l : List Tn) (en : Int) : AV := if chkP [l] ≠ 0 then .tup [.nils, .int .i64 (chkP [l])] else if en < lastT l ∨ 262144 < en then .tup [.nils, .int .i64 1] else setV (setL en l 0 [])
theorem setL_cons {l : List Tn} {k : Nat} (en now : Int) (a : List Wr) (h : k < l.length) : setL en (l.drop k) now a = match seg (-1) (l[k].f - now) with
    | none => none
    | some b => match seg l[k].p (l[k].t - l[k].f) with
      | none => none
      | some c => setL en (l.drop (k + 1)) l[k].t (a ++ b ++ c) := by
  rw [List.drop_eq_getElem_cons h]; rfl
theorem good_t : ∀ {l : List Tn} {s : Int}, good s l → ∀ (j : Nat) (h : j < l.length), s ≤ l[j].f ∧ l[j].f < l[j].t ∧ l[j].t ≤ 262144
  | x :: r, s, ⟨_, _, a, b, c, d⟩, 0, h => ⟨a, b, c⟩
  | x :: r, s, ⟨_, _, a, b, c, d⟩, j + 1, h => by
    obtain ⟨e, f, g⟩ := good_t d j (by simpa using h)
    simp only [List.getElem_cons_succ]
    omega
theorem lastT_rng {l : List Tn} (h : good 0 l) : 0 ≤ lastT l ∧ lastT l ≤ 262144 := by
  unfold lastT
  split
  · rename_i h0
    have := good_t h (l.length - 1) (by omega)
    omega
  · omega
def A37 : Ann := fun r => match r with
  | 0 => { slots := [(0, 0)] }
  | 1 => { slots := [(1, 1)] }
  | 13 => { slots := [(2, 2)] }
  | _ => {}
abbrev X37 := okx [] [19]
set_option maxHeartbeats 16000000 in
set_option maxRecDepth 100000 in
theorem set37 (l : List Tn) (en : Int) (nl : l.length ≤ 9223372036854775807) : PRet C.P 37 [tnsA l, .int .i64 en] (setA l en) := by
  have h1 := checkParts_spec [l] (by simp) (by simpa using nl)
  unfold setA
  by_cases c1 : chkP [l] ≠ 0
  · rw [if_pos c1]
    generalize chkP [l] = b at h1 c1
    refine pret_of X37 mixed (A := A37) 4 Try.func37 rfl ?_
    (repeat' (first | exact rfl | ((conv => whnf); first | (refine ACalls.fz 1 ?_; (conv => whnf); refine ⟨pure_map (f := fun p : List Tn => [tnsA p]) [l] fun x => rfl, by (repeat' (first | exact trivial | exact eqsP_rows _ (fun x => rfl) | ((conv => whnf); first | exact trivial | refine ⟨rfl, ?_⟩ | refine ⟨?_, ?_⟩ | fail))), by (repeat' (first | exact trivial | exact eqsP_rows _ (fun x => rfl) | ((conv => whnf); first | exact trivial | refine ⟨rfl, ?_⟩ | refine ⟨?_, ?_⟩ | fail))), by (repeat' (first | exact trivial | exact eqsP_rows _ (fun x => rfl) | ((conv => whnf); first | exact trivial | refine ⟨rfl, ?_⟩ | refine ⟨?_, ?_⟩ | fail))), ?_⟩; refine PRet.calls h1 ?_) | refine optS hm0 ?_ | refine ⟨_, w1, ?_⟩ | exact rfl | exact ⟨rfl, rfl⟩ | refine ⟨(by kernel_rfl : drawOk _ _ _ _ = true), ?_⟩ | refine ⟨(by kernel_rfl : planOk _ _ _ _ = true), ?_⟩ | refine ⟨rfl, ?_⟩ | refine ⟨by (first | omega | (simp (disch := omega) only [wrapI]; omega) | (simp (disch := omega) only [wrapI]; simp; omega) | (simp; omega)), ?_⟩ | (intro ep) | (refine ifB (fun hb => ?_) (fun hb => ?_) <;> (try simp only [decide_eq_true_eq, decide_eq_false_iff_not, beq_iff_eq, beq_eq_false_iff_ne, bne_iff_ne, bne_eq_false_iff_eq, ne_eq, not_false_eq_true, not_true_eq_false, Bool.not_eq_true, Bool.not_eq_true', Bool.not_eq_false', Int.not_lt, Int.not_le] at hb) <;> (try simp (disch := omega) only [wrapI] at hb) <;> (try (exfalso; omega))) | fail)))
  rw [if_neg c1]
  have c1 : chkP [l] = 0 := by omega
  rw [c1] at h1
  obtain ⟨hlen, hg⟩ := chk1 c1
  have hlr := lastT_rng hg
  obtain ⟨T, hT⟩ : ∃ T, T = lastT l := ⟨_, rfl⟩
  rw [← hT] at hlr
  have hlast : ∀ (h0 : 0 < l.length), ∃ p f, (l.map tnR)[0 + (((l.length : Int) - 1)).toNat]? = some [.int .i64 p, .int .i64 f, .int .i64 T] := fun h0 => by
    have e : ((l.length : Int) - 1).toNat = l.length - 1 := by omega
    have hm := mapR (f := tnR) (show l.length - 1 < l.length by omega)
    rw [Int.toNat_natCast] at hm
    refine ⟨(l[l.length - 1]).p, (l[l.length - 1]).f, ?_⟩
    rw [e, hm, hT]
    unfold lastT
    rw [dif_pos h0]
    rfl
  by_cases c2 : en < T ∨ 262144 < en
  · rw [← hT, if_pos c2]
    have w1 := within_f (n := en) (a := T) (b := 262144) c2
    refine pret_of X37 mixed (A := A37) 4 Try.func37 rfl ?_
    by_cases c0 : 0 < l.length
    · obtain ⟨p, f, hm0⟩ := hlast c0
      have hw : IntKind.i64.wrap ((l.length : Int) - 1) = (l.length : Int) - 1 := wrapI (by omega) (by omega)
      rw [← hw] at hm0
      (repeat' (first | exact rfl | ((conv => whnf); first | (refine ACalls.fz 1 ?_; (conv => whnf); refine ⟨pure_map (f := fun p : List Tn => [tnsA p]) [l] fun x => rfl, by (repeat' (first | exact trivial | exact eqsP_rows _ (fun x => rfl) | ((conv => whnf); first | exact trivial | refine ⟨rfl, ?_⟩ | refine ⟨?_, ?_⟩ | fail))), by (repeat' (first | exact trivial | exact eqsP_rows _ (fun x => rfl) | ((conv => whnf); first | exact trivial | refine ⟨rfl, ?_⟩ | refine ⟨?_, ?_⟩ | fail))), by (repeat' (first | exact trivial | exact eqsP_rows _ (fun x => rfl) | ((conv => whnf); first | exact trivial | refine ⟨rfl, ?_⟩ | refine ⟨?_, ?_⟩ | fail))), ?_⟩; refine PRet.calls h1 ?_) | refine optS hm0 ?_ | refine ⟨_, w1, ?_⟩ | exact rfl | exact ⟨rfl, rfl⟩ | refine ⟨(by kernel_rfl : drawOk _ _ _ _ = true), ?_⟩ | refine ⟨(by kernel_rfl : planOk _ _ _ _ = true), ?_⟩ | refine ⟨rfl, ?_⟩ | refine ⟨by (first | omega | (simp (disch := omega) only [wrapI]; omega) | (simp (disch := omega) only [wrapI]; simp; omega) | (simp; omega)), ?_⟩ | (intro ep) | (refine ifB (fun hb => ?_) (fun hb => ?_) <;> (try simp only [decide_eq_true_eq, decide_eq_false_iff_not, beq_iff_eq, beq_eq_false_iff_ne, bne_iff_ne, bne_eq_false_iff_eq, ne_eq, not_false_eq_true, not_true_eq_false, Bool.not_eq_true, Bool.not_eq_true', Bool.not_eq_false', Int.not_lt, Int.not_le] at hb) <;> (try simp (disch := omega) only [wrapI] at hb) <;> (try (exfalso; omega))) | fail)))
    · have hT0 : T = 0 := by rw [hT]; unfold lastT; rw [dif_neg c0]
      rw [hT0] at w1
      have hm0 : True := trivial
      (repeat' (first | exact rfl | ((conv => whnf); first | (refine ACalls.fz 1 ?_; (conv => whnf); refine ⟨pure_map (f := fun p : List Tn => [tnsA p]) [l] fun x => rfl, by (repeat' (first | exact trivial | exact eqsP_rows _ (fun x => rfl) | ((conv => whnf); first | exact trivial | refine ⟨rfl, ?_⟩ | refine ⟨?_, ?_⟩ | fail))), by (repeat' (first | exact trivial | exact eqsP_rows _ (fun x => rfl) | ((conv => whnf); first | exact trivial | refine ⟨rfl, ?_⟩ | refine ⟨?_, ?_⟩ | fail))), by (repeat' (first | exact trivial | exact eqsP_rows _ (fun x => rfl) | ((conv => whnf); first | exact trivial | refine ⟨rfl, ?_⟩ | refine ⟨?_, ?_⟩ | fail))), ?_⟩; refine PRet.calls h1 ?_) | refine optS hm0 ?_ | refine ⟨_, w1, ?_⟩ | exact rfl | exact ⟨rfl, rfl⟩ | refine ⟨(by kernel_rfl : drawOk _ _ _ _ = true), ?_⟩ | refine ⟨(by kernel_rfl : planOk _ _ _ _ = true), ?_⟩ | refine ⟨rfl, ?_⟩ | refine ⟨by (first | omega | (simp (disch := omega) only [wrapI]; omega) | (simp (disch := omega) only [wrapI]; simp; omega) | (simp; omega)), ?_⟩ | (intro ep) | (refine ifB (fun hb => ?_) (fun hb => ?_) <;> (try simp only [decide_eq_true_eq, decide_eq_false_iff_not, beq_iff_eq, beq_eq_false_iff_ne, bne_iff_ne, bne_eq_false_iff_eq, ne_eq, not_false_eq_true, not_true_eq_false, Bool.not_eq_true, Bool.not_eq_true', Bool.not_eq_false', Int.not_lt, Int.not_le] at hb) <;> (try simp (disch := omega) only [wrapI] at hb) <;> (try (exfalso; omega))) | fail)))
  rw [← hT, if_neg c2]
  have w1 := within_t (n := en) (a := T) (b := 262144) (by omega)
  obtain ⟨R, hR⟩ : ∃ R, R = setL en l 0 [] := ⟨_, rfl⟩
  rw [← hR]
  refine pret_of X37 mixed (A := A37) 4 Try.func37 rfl ?_
  by_cases c0 : 0 < l.length
  · obtain ⟨p, f, hm0⟩ := hlast c0
    have hw : IntKind.i64.wrap ((l.length : Int) - 1) = (l.length : Int) - 1 := wrapI (by omega) (by omega)
    rw [← hw] at hm0
    (repeat' (first | exact rfl | ((conv => whnf); first | (refine ACalls.fz 1 ?_; (conv => whnf); refine ⟨pure_map (f := fun p : List Tn => [tnsA p]) [l] fun x => rfl, by (repeat' (first | exact trivial | exact eqsP_rows _ (fun x => rfl) | ((conv => whnf); first | exact trivial | refine ⟨rfl, ?_⟩ | refine ⟨?_, ?_⟩ | fail))), by (repeat' (first | exact trivial | exact eqsP_rows _ (fun x => rfl) | ((conv => whnf); first | exact trivial | refine ⟨rfl, ?_⟩ | refine ⟨?_, ?_⟩ | fail))), by (repeat' (first | exact trivial | exact eqsP_rows _ (fun x => rfl) | ((conv => whnf); first | exact trivial | refine ⟨rfl, ?_⟩ | refine ⟨?_, ?_⟩ | fail))), ?_⟩; refine PRet.calls h1 ?_) | refine optS hm0 ?_ | refine ⟨_, w1, ?_⟩ | exact rfl | exact ⟨rfl, rfl⟩ | refine ⟨(by kernel_rfl : drawOk _ _ _ _ = true), ?_⟩ | refine ⟨(by kernel_rfl : planOk _ _ _ _ = true), ?_⟩ | refine ⟨rfl, ?_⟩ | refine ⟨by (first | omega | (simp (disch := omega) only [wrapI]; omega) | (simp (disch := omega) only [wrapI]; simp; omega) | (simp; omega)), ?_⟩ | (intro ep) | (refine ifB (fun hb => ?_) (fun hb => ?_) <;> (try simp only [decide_eq_true_eq, decide_eq_false_iff_not, beq_iff_eq, beq_eq_false_iff_ne, bne_iff_ne, bne_eq_false_iff_eq, ne_eq, not_false_eq_true, not_true_eq_false, Bool.not_eq_true, Bool.not_eq_true', Bool.not_eq_false', Int.not_lt, Int.not_le] at hb) <;> (try simp (disch := omega) only [wrapI] at hb) <;> (try (exfalso; omega))) | fail)))
    all_goals (conv => whnf)
    rename_i e0
    refine wk_liftC 0 3 e0 5 0 0 (by decide) rfl rfl rfl ?_
    intro e3
    (conv => whnf)
    refine loopY X37 mixed (A := A37) [1, 4, 7, 8, 32, 33, 34] [0, 3] (S := { z : Nat × Nat × List Wr × Int // z.1 ≤ l.length ∧ z.2.2.1.length ≤ 9216 * z.1 ∧ (0 ≤ z.2.2.2 ∧ z.2.2.2 ≤ 262144) ∧ setL en (l.drop z.1) z.2.2.2 z.2.2.1 = R })
      (fr := fun s => frOf 0 67 [(1, .int .i64 en), (4, .optr (.s 0) e0 1 0 0), (7, .int .i64 s.1.2.2.2), (8, .fn (.func 65) [] [.optr (.s 0) e0 1 0 0]), (32, tnsA l), (33, .int .i64 (l.length : Int)), (34, .int .i64 (s.1.1 : Int))])
      (h := fun s => ⟨HS e0 s.1.2.1 .hole .hole s.1.2.2.1, []⟩) (μ := fun s => l.length - s.1.1) ⟨(0, e3, [], 0), by simp, by simp, by simp, by simp [hR]⟩ ?_ ?_
      [1, 4, 7, 8] [0, 3] (S' := { z : Nat × List Wr × Int // z.2.1.length ≤ 9216 * 400 ∧ (0 ≤ z.2.2 ∧ z.2.2 ≤ 262144) ∧ setL en [] z.2.2 z.2.1 = R }) (X := fun _ => 0)
      (frX := fun s => frOf 0 67 [(1, .int .i64 en), (4, .optr (.s 0) e0 1 0 0), (7, .int .i64 s.1.2.2), (8, .fn (.func 65) [] [.optr (.s 0) e0 1 0 0])])
      (hX := fun s => ⟨HS e0 s.1.1 .hole .hole s.1.2.1, []⟩)
      [4, 5] [0] (S2 := { _x : Unit // none = R }) (frR := fun s => frOf 0 67 [(4, .optr (.s 0) e0 1 0 0), (5, .int .i64 25)]) (hR := fun s => ⟨[.vec e0 [[.nils]], .hole, .hole, .hole], []⟩) ?_ ?_ ?_
    · exact rfl
    · exact rfl
    · rintro ⟨⟨k, e, a, now⟩, hk, ha, hnow, hu⟩
      simp only at hk ha hnow hu
      show aexR _ _ _ (frOf 0 67 [(1, .int .i64 en), (4, .optr (.s 0) e0 1 0 0), (7, .int .i64 now), (8, .fn (.func 65) [] [.optr (.s 0) e0 1 0 0]), (32, tnsA l), (33, .int .i64 (l.length : Int)), (34, .int .i64 (k : Int))]) ⟨[.vec e0 [[.oslc (.s 3) e 5 0 a.length false]], .hole, .hole, .vec e (a.map wrR)], []⟩ _
      (conv => whnf)
      refine ifB (fun g1 => ?_) (fun g1 => ?_)
      · simp only [decide_eq_true_eq] at g1
        have hk2 : k < l.length := by omega
        have hm := mapR (f := tnR) hk2
        have hgk := good_t hg k hk2
        rw [setL_cons en now a hk2] at hu
        generalize l[k] = x at hm hgk hu
        obtain ⟨xp, xf, xt⟩ := x
        simp only at hgk hu
        replace hm : (l.map tnR)[0 + ((k : Nat) : Int).toNat]? = some [.int .i64 xp, .int .i64 xf, .int .i64 xt] := hm
        have w2 : IntKind.i64.wrap (xf - now) = xf - now := wrapI (by omega) (by omega)
        have w3 : IntKind.i64.wrap (xt - xf) = xt - xf := wrapI (by omega) (by omega)
        obtain ⟨s1, hs1⟩ : ∃ s1, s1 = seg (-1) (xf - now) := ⟨_, rfl⟩
        rw [← hs1] at hu
        (repeat' (first | exact rfl | ((conv => whnf); first | refine optS hm ?_ | exact rfl | exact ⟨rfl, rfl⟩ | refine ⟨(by kernel_rfl : drawOk _ _ _ _ = true), ?_⟩ | refine ⟨(by kernel_rfl : planOk _ _ _ _ = true), ?_⟩ | refine ⟨rfl, ?_⟩ | refine ⟨by (first | omega | (simp (disch := omega) only [wrapI]; omega) | (simp (disch := omega) only [wrapI]; simp; omega) | (simp; omega)), ?_⟩ | (intro ep) | (refine ifB (fun hb => ?_) (fun hb => ?_) <;> (try simp only [decide_eq_true_eq, decide_eq_false_iff_not, beq_iff_eq, beq_eq_false_iff_ne, bne_iff_ne, bne_eq_false_iff_eq, ne_eq, not_false_eq_true, not_true_eq_false, Bool.not_eq_true, Bool.not_eq_true', Bool.not_eq_false', Int.not_lt, Int.not_le] at hb) <;> (try simp (disch := omega) only [wrapI] at hb) <;> (try (exfalso; omega))) | fail)))
        all_goals (conv => whnf)
        refine ACalls.part (dy := []) 4 (by exact rfl) (by exact rfl) (by exact rfl) (write65 (-1) (IntKind.i64.wrap (xf - now)) a e0 e .hole (.vec ep [[.int .i64 xp, .int .i64 xf, .int .i64 xt]]) (by omega)) ?_
        rintro r h1 ⟨rfl, e', hp, hd⟩
        rw [hp, hd, w2, ← hs1]
        cases s1 with
        | none =>
          (repeat' (first | exact rfl | ((conv => whnf); first | exact rfl | exact ⟨rfl, rfl⟩ | refine ⟨(by kernel_rfl : drawOk _ _ _ _ = true), ?_⟩ | refine ⟨(by kernel_rfl : planOk _ _ _ _ = true), ?_⟩ | refine ⟨rfl, ?_⟩ | refine ⟨by (first | omega | (simp (disch := omega) only [wrapI]; omega) | (simp (disch := omega) only [wrapI]; simp; omega) | (simp; omega)), ?_⟩ | (intro ep) | (refine ifB (fun hb => ?_) (fun hb => ?_) <;> (try simp only [decide_eq_true_eq, decide_eq_false_iff_not, beq_iff_eq, beq_eq_false_iff_ne, bne_iff_ne, bne_eq_false_iff_eq, ne_eq, not_false_eq_true, not_true_eq_false, Bool.not_eq_true, Bool.not_eq_true', Bool.not_eq_false', Int.not_lt, Int.not_le] at hb) <;> (try simp (disch := omega) only [wrapI] at hb) <;> (try (exfalso; omega))) | fail)))
          all_goals (conv => whnf)
          all_goals exact back_of ⟨(), hu⟩ ⟨rfl, rfl⟩
        | some b =>
          simp only at hu
          have hb1 := seg_len hs1.symm
          obtain ⟨s2, hs2⟩ : ∃ s2, s2 = seg xp (xt - xf) := ⟨_, rfl⟩
          rw [← hs2] at hu
          (repeat' (first | exact rfl | ((conv => whnf); first | refine optS hm ?_ | exact rfl | exact ⟨rfl, rfl⟩ | refine ⟨(by kernel_rfl : drawOk _ _ _ _ = true), ?_⟩ | refine ⟨(by kernel_rfl : planOk _ _ _ _ = true), ?_⟩ | refine ⟨rfl, ?_⟩ | refine ⟨by (first | omega | (simp (disch := omega) only [wrapI]; omega) | (simp (disch := omega) only [wrapI]; simp; omega) | (simp; omega)), ?_⟩ | (intro ep) | (refine ifB (fun hb => ?_) (fun hb => ?_) <;> (try simp only [decide_eq_true_eq, decide_eq_false_iff_not, beq_iff_eq, beq_eq_false_iff_ne, bne_iff_ne, bne_eq_false_iff_eq, ne_eq, not_false_eq_true, not_true_eq_false, Bool.not_eq_true, Bool.not_eq_true', Bool.not_eq_false', Int.not_lt, Int.not_le] at hb) <;> (try simp (disch := omega) only [wrapI] at hb) <;> (try (exfalso; omega))) | fail)))
          all_goals (conv => whnf)
          refine ACalls.part (dy := []) 4 (by exact rfl) (by exact rfl) (by exact rfl) (write65 xp (IntKind.i64.wrap (xt - xf)) (a ++ b) e0 e' .hole (.vec ep [[.int .i64 xp, .int .i64 xf, .int .i64 xt]]) (by simp; omega)) ?_
          rintro r h1 ⟨rfl, e2, hp2, hd2⟩
          rw [hp2, hd2, w3, ← hs2]
          cases s2 with
          | none =>
            (repeat' (first | exact rfl | ((conv => whnf); first | exact rfl | exact ⟨rfl, rfl⟩ | refine ⟨(by kernel_rfl : drawOk _ _ _ _ = true), ?_⟩ | refine ⟨(by kernel_rfl : planOk _ _ _ _ = true), ?_⟩ | refine ⟨rfl, ?_⟩ | refine ⟨by (first | omega | (simp (disch := omega) only [wrapI]; omega) | (simp (disch := omega) only [wrapI]; simp; omega) | (simp; omega)), ?_⟩ | (intro ep) | (refine ifB (fun hb => ?_) (fun hb => ?_) <;> (try simp only [decide_eq_true_eq, decide_eq_false_iff_not, beq_iff_eq, beq_eq_false_iff_ne, bne_iff_ne, bne_eq_false_iff_eq, ne_eq, not_false_eq_true, not_true_eq_false, Bool.not_eq_true, Bool.not_eq_true', Bool.not_eq_false', Int.not_lt, Int.not_le] at hb) <;> (try simp (disch := omega) only [wrapI] at hb) <;> (try (exfalso; omega))) | fail)))
            all_goals (conv => whnf)
            all_goals exact back_of ⟨(), hu⟩ ⟨rfl, rfl⟩
          | some c =>
            simp only at hu
            have hc1 := seg_len hs2.symm
            (repeat' (first | exact rfl | ((conv => whnf); first | refine optS hm ?_ | exact rfl | exact ⟨rfl, rfl⟩ | refine ⟨(by kernel_rfl : drawOk _ _ _ _ = true), ?_⟩ | refine ⟨(by kernel_rfl : planOk _ _ _ _ = true), ?_⟩ | refine ⟨rfl, ?_⟩ | refine ⟨by (first | omega | (simp (disch := omega) only [wrapI]; omega) | (simp (disch := omega) only [wrapI]; simp; omega) | (simp; omega)), ?_⟩ | (intro ep) | (refine ifB (fun hb => ?_) (fun hb => ?_) <;> (try simp only [decide_eq_true_eq, decide_eq_false_iff_not, beq_iff_eq, beq_eq_false_iff_ne, bne_iff_ne, bne_eq_false_iff_eq, ne_eq, not_false_eq_true, not_true_eq_false, Bool.not_eq_true, Bool.not_eq_true', Bool.not_eq_false', Int.not_lt, Int.not_le] at hb) <;> (try simp (disch := omega) only [wrapI] at hb) <;> (try (exfalso; omega))) | fail)))
            all_goals (conv => whnf)
            all_goals exact back_of ⟨(k + 1, e2, a ++ b ++ c, xt), by simp only; omega, by simp; omega, by simp only; omega, hu⟩ ⟨by (first | exact rfl | (simp (disch := omega) only [wrapI]; exact rfl)), rfl, by simp only; omega⟩
      · simp only [decide_eq_false_iff_not] at g1
        have : k = l.length := by omega
        subst this
        rw [List.drop_length] at hu
        (repeat' (first | exact rfl | ((conv => whnf); first | exact rfl | exact ⟨rfl, rfl⟩ | refine ⟨(by kernel_rfl : drawOk _ _ _ _ = true), ?_⟩ | refine ⟨(by kernel_rfl : planOk _ _ _ _ = true), ?_⟩ | refine ⟨rfl, ?_⟩ | refine ⟨by (first | omega | (simp (disch := omega) only [wrapI]; omega) | (simp (disch := omega) only [wrapI]; simp; omega) | (simp; omega)), ?_⟩ | (intro ep) | fail)))
        all_goals (conv => whnf)
        all_goals exact back_of ⟨(e, a, now), by simp only; omega, hnow, hu⟩ ⟨rfl, rfl, rfl⟩
    · rintro ⟨⟨⟩, hx⟩
      (repeat' (first | exact rfl | ((conv => whnf); first | exact rfl | exact ⟨rfl, rfl⟩ | refine ⟨(by kernel_rfl : drawOk _ _ _ _ = true), ?_⟩ | refine ⟨(by kernel_rfl : planOk _ _ _ _ = true), ?_⟩ | refine ⟨rfl, ?_⟩ | refine ⟨by (first | omega | (simp (disch := omega) only [wrapI]; omega) | (simp (disch := omega) only [wrapI]; simp; omega) | (simp; omega)), ?_⟩ | (intro ep) | fail)))
      all_goals (conv => whnf)
      all_goals (rw [← hx]; rfl)
    · rintro ⟨⟨e, a, now⟩, ha, hnow, hu⟩
      simp only at ha hnow hu
      have w2 : IntKind.i64.wrap (en - now) = en - now := wrapI (by omega) (by omega)
      rw [setL] at hu
      obtain ⟨s1, hs1⟩ : ∃ s1, s1 = seg (-1) (en - now) := ⟨_, rfl⟩
      rw [← hs1] at hu
      (repeat' (first | exact rfl | ((conv => whnf); first | exact rfl | exact ⟨rfl, rfl⟩ | refine ⟨(by kernel_rfl : drawOk _ _ _ _ = true), ?_⟩ | refine ⟨(by kernel_rfl : planOk _ _ _ _ = true), ?_⟩ | refine ⟨rfl, ?_⟩ | refine ⟨by (first | omega | (simp (disch := omega) only [wrapI]; omega) | (simp (disch := omega) only [wrapI]; simp; omega) | (simp; omega)), ?_⟩ | (intro ep) | (refine ifB (fun hb => ?_) (fun hb => ?_) <;> (try simp only [decide_eq_true_eq, decide_eq_false_iff_not, beq_iff_eq, beq_eq_false_iff_ne, bne_iff_ne, bne_eq_false_iff_eq, ne_eq, not_false_eq_true, not_true_eq_false, Bool.not_eq_true, Bool.not_eq_true', Bool.not_eq_false', Int.not_lt, Int.not_le] at hb) <;> (try simp (disch := omega) only [wrapI] at hb) <;> (try (exfalso; omega))) | fail)))
      all_goals (conv => whnf)
      refine ACalls.part (dy := []) 4 (by exact rfl) (by exact rfl) (by exact rfl) (write65 (-1) (IntKind.i64.wrap (en - now)) a e0 e .hole .hole (by omega)) ?_
      rintro r h1 ⟨rfl, e', hp, hd⟩
      rw [hp, hd, w2, ← hs1]
      cases s1 with
      | none =>
        (repeat' (first | exact rfl | ((conv => whnf); first | exact rfl | exact ⟨rfl, rfl⟩ | refine ⟨(by kernel_rfl : drawOk _ _ _ _ = true), ?_⟩ | refine ⟨(by kernel_rfl : planOk _ _ _ _ = true), ?_⟩ | refine ⟨rfl, ?_⟩ | refine ⟨by (first | omega | (simp (disch := omega) only [wrapI]; omega) | (simp (disch := omega) only [wrapI]; simp; omega) | (simp; omega)), ?_⟩ | (intro ep) | (refine ifB (fun hb => ?_) (fun hb => ?_) <;> (try simp only [decide_eq_true_eq, decide_eq_false_iff_not, beq_iff_eq, beq_eq_false_iff_ne, bne_iff_ne, bne_eq_false_iff_eq, ne_eq, not_false_eq_true, not_true_eq_false, Bool.not_eq_true, Bool.not_eq_true', Bool.not_eq_false', Int.not_lt, Int.not_le] at hb) <;> (try simp (disch := omega) only [wrapI] at hb) <;> (try (exfalso; omega))) | fail)))
        all_goals (conv => whnf)
        all_goals (rw [← hu]; rfl)
      | some b =>
        simp only at hu
        have hb1 := seg_len hs1.symm
        (repeat' (first | exact rfl | ((conv => whnf); first | exact rfl | exact ⟨rfl, rfl⟩ | refine ⟨(by kernel_rfl : drawOk _ _ _ _ = true), ?_⟩ | refine ⟨(by kernel_rfl : planOk _ _ _ _ = true), ?_⟩ | refine ⟨rfl, ?_⟩ | refine ⟨by (first | omega | (simp (disch := omega) only [wrapI]; omega) | (simp (disch := omega) only [wrapI]; simp; omega) | (simp; omega)), ?_⟩ | (intro ep) | (refine ifB (fun hb => ?_) (fun hb => ?_) <;> (try simp only [decide_eq_true_eq, decide_eq_false_iff_not, beq_iff_eq, beq_eq_false_iff_ne, bne_iff_ne, bne_eq_false_iff_eq, ne_eq, not_false_eq_true, not_true_eq_false, Bool.not_eq_true, Bool.not_eq_true', Bool.not_eq_false', Int.not_lt, Int.not_le] at hb) <;> (try simp (disch := omega) only [wrapI] at hb) <;> (try (exfalso; omega))) | fail)))
        all_goals (conv => whnf)
        refine ⟨pure_wrs _, rfl, ?_⟩
        rw [← hu]
        rfl
  · have hT0 : T = 0 := by rw [hT]; unfold lastT; rw [dif_neg c0]
    rw [hT0] at w1
    have hm0 : True := trivial
    (repeat' (first | exact rfl | ((conv => whnf); first | (refine ACalls.fz 1 ?_; (conv => whnf); refine ⟨pure_map (f := fun p : List Tn => [tnsA p]) [l] fun x => rfl, by (repeat' (first | exact trivial | exact eqsP_rows _ (fun x => rfl) | ((conv => whnf); first | exact trivial | refine ⟨rfl, ?_⟩ | refine ⟨?_, ?_⟩ | fail))), by (repeat' (first | exact trivial | exact eqsP_rows _ (fun x => rfl) | ((conv => whnf); first | exact trivial | refine ⟨rfl, ?_⟩ | refine ⟨?_, ?_⟩ | fail))), by (repeat' (first | exact trivial | exact eqsP_rows _ (fun x => rfl) | ((conv => whnf); first | exact trivial | refine ⟨rfl, ?_⟩ | refine ⟨?_, ?_⟩ | fail))), ?_⟩; refine PRet.calls h1 ?_) | refine optS hm0 ?_ | refine ⟨_, w1, ?_⟩ | exact rfl | exact ⟨rfl, rfl⟩ | refine ⟨(by kernel_rfl : drawOk _ _ _ _ = true), ?_⟩ | refine ⟨(by kernel_rfl : planOk _ _ _ _ = true), ?_⟩ | refine ⟨rfl, ?_⟩ | refine ⟨by (first | omega | (simp (disch := omega) only [wrapI]; omega) | (simp (disch := omega) only [wrapI]; simp; omega) | (simp; omega)), ?_⟩ | (intro ep) | (refine ifB (fun hb => ?_) (fun hb => ?_) <;> (try simp only [decide_eq_true_eq, decide_eq_false_iff_not, beq_iff_eq, beq_eq_false_iff_ne, bne_iff_ne, bne_eq_false_iff_eq, ne_eq, not_false_eq_true, not_true_eq_false, Bool.not_eq_true, Bool.not_eq_true', Bool.not_eq_false', Int.not_lt, Int.not_le] at hb) <;> (try simp (disch := omega) only [wrapI] at hb) <;> (try (exfalso; omega))) | fail)))
    all_goals (conv => whnf)
    rename_i e0
    have hl0 : l = [] := List.length_eq_zero_iff.1 (by omega)
    subst hl0
    rw [setL] at hR
    refine wk_liftC 0 3 e0 5 0 0 (by decide) rfl rfl rfl ?_
    intro e3
    (conv => whnf)
    refine loopU X37 mixed (A := A37) 1 ?_
    have w2 : IntKind.i64.wrap (en - 0) = en - 0 := wrapI (by omega) (by omega)
    obtain ⟨s1, hs1⟩ : ∃ s1, s1 = seg (-1) (en - 0) := ⟨_, rfl⟩
    rw [← hs1] at hR
    (repeat' (first | exact rfl | ((conv => whnf); first | exact rfl | exact ⟨rfl, rfl⟩ | refine ⟨(by kernel_rfl : drawOk _ _ _ _ = true), ?_⟩ | refine ⟨(by kernel_rfl : planOk _ _ _ _ = true), ?_⟩ | refine ⟨rfl, ?_⟩ | refine ⟨by (first | omega | (simp (disch := omega) only [wrapI]; omega) | (simp (disch := omega) only [wrapI]; simp; omega) | (simp; omega)), ?_⟩ | (intro ep) | (refine ifB (fun hb => ?_) (fun hb => ?_) <;> (try simp only [decide_eq_true_eq, decide_eq_false_iff_not, beq_iff_eq, beq_eq_false_iff_ne, bne_iff_ne, bne_eq_false_iff_eq, ne_eq, not_false_eq_true, not_true_eq_false, Bool.not_eq_true, Bool.not_eq_true', Bool.not_eq_false', Int.not_lt, Int.not_le] at hb) <;> (try simp (disch := omega) only [wrapI] at hb) <;> (try (exfalso; omega))) | fail)))
    all_goals (conv => whnf)
    refine ACalls.part (dy := []) 4 (by exact rfl) (by exact rfl) (by exact rfl) (write65 (-1) (IntKind.i64.wrap (en - 0)) [] e0 e3 .hole .hole (by simp)) ?_
    rintro r h1 ⟨rfl, e', hp, hd⟩
    rw [hp, hd, w2, ← hs1]
    cases s1 with
    | none =>
      (repeat' (first | exact rfl | ((conv => whnf); first | exact rfl | exact ⟨rfl, rfl⟩ | refine ⟨(by kernel_rfl : drawOk _ _ _ _ = true), ?_⟩ | refine ⟨(by kernel_rfl : planOk _ _ _ _ = true), ?_⟩ | refine ⟨rfl, ?_⟩ | refine ⟨by (first | omega | (simp (disch := omega) only [wrapI]; omega) | (simp (disch := omega) only [wrapI]; simp; omega) | (simp; omega)), ?_⟩ | (intro ep) | (refine ifB (fun hb => ?_) (fun hb => ?_) <;> (try simp only [decide_eq_true_eq, decide_eq_false_iff_not, beq_iff_eq, beq_eq_false_iff_ne, bne_iff_ne, bne_eq_false_iff_eq, ne_eq, not_false_eq_true, not_true_eq_false, Bool.not_eq_true, Bool.not_eq_true', Bool.not_eq_false', Int.not_lt, Int.not_le] at hb) <;> (try simp (disch := omega) only [wrapI] at hb) <;> (try (exfalso; omega))) | fail)))
      all_goals (conv => whnf)
      all_goals (rw [hR]; rfl)
    | some b =>
      simp only at hR
      have hb1 := seg_len hs1.symm
      (repeat' (first | exact rfl | ((conv => whnf); first | exact rfl | exact ⟨rfl, rfl⟩ | refine ⟨(by kernel_rfl : drawOk _ _ _ _ = true), ?_⟩ | refine ⟨(by kernel_rfl : planOk _ _ _ _ = true), ?_⟩ | refine ⟨rfl, ?_⟩ | refine ⟨by (first | omega | (simp (disch := omega) only [wrapI]; omega) | (simp (disch := omega) only [wrapI]; simp; omega) | (simp; omega)), ?_⟩ | (intro ep) | (refine ifB (fun hb => ?_) (fun hb => ?_) <;> (try simp only [decide_eq_true_eq, decide_eq_false_iff_not, beq_iff_eq, beq_eq_false_iff_ne, bne_iff_ne, bne_eq_false_iff_eq, ne_eq, not_false_eq_true, not_true_eq_false, Bool.not_eq_true, Bool.not_eq_true', Bool.not_eq_false', Int.not_lt, Int.not_le] at hb) <;> (try simp (disch := omega) only [wrapI] at hb) <;> (try (exfalso; omega))) | fail)))
      all_goals (conv => whnf)
      refine ⟨pure_wrs _, rfl, ?_⟩
      rw [hR]
      rfl
end Go.Ab.V
