/-
  What is proved here serves the law's text: each part says its own claim and its conditions. No condition is left open.
-/
import Derived.Test.YtffdekbcpnklnaaKM
set_option linter.unusedSimpArgs false
set_option linter.unusedVariables false

/-
  The shapes of the arguments of the laws of this seat, and its data as plain types. No condition.
-/
namespace Go.Ab
theorem shp_struct {ti : TI} {m t : Nat} {xs : List AV} {d : TD} {fs : List (Nat × Nat)} (hd : ti t = some d) (hk : d.kind = .struct fs) (h : Shp ti (m + 1) t xs) :
    xs.length = d.size ∧ ∀ f ∈ fs, ∃ df, ti f.2 = some df ∧ Shp ti m f.2 ((xs.drop f.1).take df.size) := by
  unfold Shp at h; rw [hd] at h; simp only [hk] at h; exact h
theorem shp_int {ti : TI} {m t : Nat} {xs : List AV} {d : TD} {k : IntKind} (hd : ti t = some d) (hk : d.kind = .int k) (h : Shp ti (m + 1) t xs) : ∃ i, xs = [.int k i] ∧ k.min ≤ i ∧ i ≤ k.max := by
  unfold Shp at h; rw [hd] at h; simp only [hk] at h; exact h
theorem shp_bool {ti : TI} {m t : Nat} {xs : List AV} {d : TD} (hd : ti t = some d) (hk : d.kind = .bool) (h : Shp ti (m + 1) t xs) : ∃ b, xs = [.bool b] := by
  unfold Shp at h; rw [hd] at h; simp only [hk] at h; exact h
theorem shp_slice {ti : TI} {m t e : Nat} {xs : List AV} {d : TD} (hd : ti t = some d) (hk : d.kind = .slice e) (h : Shp ti (m + 1) t xs) :
    ∃ de rows, ti e = some de ∧ xs = [.lslc de.size rows 0 rows.length false] ∧ rows.length ≤ maxLen ∧ ∀ r ∈ rows, Shp ti m e r := by
  unfold Shp at h; rw [hd] at h; simp only [hk] at h; exact h
theorem rows_map {α : Type} {f : α → List AV} : ∀ {rows : List (List AV)}, (∀ r ∈ rows, ∃ x, r = f x) → ∃ l : List α, rows = l.map f
  | [], _ => ⟨[], rfl⟩
  | r :: rs, h => by
    obtain ⟨x, rfl⟩ := h r (List.mem_cons_self ..)
    obtain ⟨l, rfl⟩ := rows_map (rows := rs) (fun r hr => h r (List.mem_cons_of_mem _ hr))
    exact ⟨x :: l, rfl⟩
end Go.Ab
namespace Go.Ab.V
open Go.Proofs

/-- a tone -/
structure Tn where
  p : Int
  f : Int
  t : Int
def tnR (x : Tn) : List AV := [.int .i64 x.p, .int .i64 x.f, .int .i64 x.t]
def tnsA (l : List Tn) : AV := .lslc 3 (l.map tnR) 0 l.length false
/-- a note -/
structure Nt where
  e : Int
  c : Int
  p : Int
  f : Int
  t : Int
def ntR (x : Nt) : List AV := [.int .i64 x.e, .int .i64 x.c, .int .i64 x.p, .int .i64 x.f, .int .i64 x.t]
def ntsA (l : List Nt) : AV := .lslc 5 (l.map ntR) 0 l.length false
/-- a written tone -/
structure Wr where
  p : Int
  v : Int
  d : Bool
  t : Bool
  y : Bool
def wrR (x : Wr) : List AV := [.int .i64 x.p, .int .i64 x.v, .bool x.d, .bool x.t, .bool x.y]
def wrsA (l : List Wr) : AV := .lslc 5 (l.map wrR) 0 l.length false
def ints (l : List Int) : List (List AV) := l.map fun x => [.int .i64 x]
def intsA (l : List Int) : AV := .lslc 1 (ints l) 0 l.length false
def prtsA (l : List (List Tn)) : AV := .lslc 1 (l.map fun p => [tnsA p]) 0 l.length false
/-- limits -/
structure Lm where
  lo : List Int
  hi : List Int
  leap : Int
  gap : Int
  cross : Int
def lmR (x : Lm) : List AV := [intsA x.lo, intsA x.hi, .int .i64 x.leap, .int .i64 x.gap, .int .i64 x.cross]
def lmA (x : Lm) : AV := .agg (lmR x)
def caseA (x : Lm) (n : List Nt) : AV := .agg [intsA x.lo, intsA x.hi, .int .i64 x.leap, .int .i64 x.gap, .int .i64 x.cross, ntsA n]

theorem mapR {α : Type} {f : α → List AV} {l : List α} {i : Nat} (h : i < l.length) : (l.map f)[0 + ((i : Nat) : Int).toNat]? = some (f l[i]) := by
  simp [h]
theorem intsR {l : List Int} {i : Nat} (h : i < l.length) : (ints l)[0 + ((i : Nat) : Int).toNat]? = some [.int .i64 l[i]] := mapR h

theorem i64_bd {i : Int} (h : IntKind.i64.min ≤ i ∧ i ≤ IntKind.i64.max) : -9223372036854775808 ≤ i ∧ i ≤ 9223372036854775807 := h

theorem fld {n : Nat} {xs : List AV} {d : TD} {t off k : Nat} {P : List AV → Prop} (h : ∃ df, C.ti t = some df ∧ Shp C.ti n t ((xs.drop off).take df.size)) (hd : C.ti t = some d) (he : d.size = k) : Shp C.ti n t ((xs.drop off).take k) := by
  obtain ⟨df, h1, h2⟩ := h
  rw [hd] at h1
  cases h1
  rw [he] at h2
  exact h2

theorem shv_int {m : Nat} {a : AV} (h : ShpV C.ti (m + 1) 3 a) : ∃ i, a = .int .i64 i ∧ -9223372036854775808 ≤ i ∧ i ≤ 9223372036854775807 := by
  have h : Shp C.ti (m + 1) 3 [a] := h
  obtain ⟨i, e, b⟩ := shp_int rfl rfl h
  cases e
  exact ⟨i, rfl, b⟩

theorem len3 {l : List AV} (h : l.length = 3) : ∃ a b c, l = [a, b, c] := by
  match l, h with
  | [a, b, c], _ => exact ⟨a, b, c, rfl⟩
theorem len5 {l : List AV} (h : l.length = 5) : ∃ a b c d e, l = [a, b, c, d, e] := by
  match l, h with
  | [a, b, c, d, e], _ => exact ⟨a, b, c, d, e, rfl⟩
theorem len6 {l : List AV} (h : l.length = 6) : ∃ a b c d e f, l = [a, b, c, d, e, f] := by
  match l, h with
  | [a, b, c, d, e, f], _ => exact ⟨a, b, c, d, e, f, rfl⟩
theorem len2 {l : List AV} (h : l.length = 2) : ∃ a b, l = [a, b] := by
  match l, h with
  | [a, b], _ => exact ⟨a, b, rfl⟩

theorem s_int {m : Nat} {xs : List AV} (h : Shp C.ti (m + 1) 3 xs) : ∃ i, xs = [.int .i64 i] := by
  obtain ⟨i, e, _⟩ := shp_int rfl rfl h
  exact ⟨i, e⟩
theorem s_bool {m : Nat} {xs : List AV} (h : Shp C.ti (m + 1) 4 xs) : ∃ i, xs = [.bool i] := shp_bool rfl rfl h
theorem s_slice {α : Type} {f : α → List AV} {m t e sz : Nat} {d de : TD} {xs : List AV} (hd : C.ti t = some d) (hk : d.kind = .slice e) (he : C.ti e = some de) (hz : de.size = sz) (hf : ∀ r, Shp C.ti m e r → ∃ x, r = f x) (h : Shp C.ti (m + 1) t xs) :
    ∃ l : List α, xs = [.lslc sz (l.map f) 0 l.length false] ∧ l.length ≤ 9223372036854775807 := by
  obtain ⟨de', rows, h1, rfl, h2, h3⟩ := shp_slice hd hk h
  rw [he] at h1
  cases h1
  obtain ⟨l, rfl⟩ := rows_map (fun r hr => hf r (h3 r hr))
  rw [List.length_map] at h2 ⊢
  exact ⟨l, by rw [hz], h2⟩

theorem s_ints {m : Nat} {xs : List AV} (h : Shp C.ti (m + 2) 22 xs) : ∃ l, xs = [intsA l] ∧ l.length ≤ 9223372036854775807 := s_slice (f := fun x => [.int .i64 x]) rfl rfl rfl rfl (fun _ h => s_int h) h
theorem s_sign {m : Nat} {xs : List AV} (h : Shp C.ti (m + 2) 104 xs) : ∃ v d t, xs = [.int .i64 v, .bool d, .bool t] := by
  obtain ⟨l, hf⟩ := shp_struct (ti := C.ti) rfl rfl h
  obtain ⟨a, b, c, rfl⟩ := len3 l
  obtain ⟨x, hx⟩ := s_int (fld (P := fun _ => True) (hf (0, 3) (by decide)) rfl rfl)
  obtain ⟨y, hy⟩ := s_bool (fld (P := fun _ => True) (hf (1, 4) (by decide)) rfl rfl)
  obtain ⟨z, hz⟩ := s_bool (fld (P := fun _ => True) (hf (2, 4) (by decide)) rfl rfl)
  simp at hx hy hz
  exact ⟨x, y, z, by rw [hx, hy, hz]⟩
theorem s_wr {m : Nat} {xs : List AV} (h : Shp C.ti (m + 3) 106 xs) : ∃ s, xs = wrR s := by
  obtain ⟨l, hf⟩ := shp_struct (ti := C.ti) rfl rfl h
  obtain ⟨a, b, c, d, e, rfl⟩ := len5 l
  obtain ⟨x1, h1⟩ := s_int (fld (P := fun _ => True) (hf (0, 3) (by decide)) rfl rfl)
  obtain ⟨x2, x3, x4, h2⟩ := s_sign (fld (P := fun _ => True) (hf (1, 104) (by decide)) rfl rfl)
  obtain ⟨x5, h5⟩ := s_bool (fld (P := fun _ => True) (hf (4, 4) (by decide)) rfl rfl)
  simp at h1 h2 h5
  obtain ⟨h2, h3, h4⟩ := h2
  exact ⟨⟨x1, x2, x3, x4, x5⟩, by rw [h1, h2, h3, h4, h5]; rfl⟩
theorem s_tn {m : Nat} {xs : List AV} (h : Shp C.ti (m + 2) 83 xs) : ∃ s, xs = tnR s := by
  obtain ⟨l, hf⟩ := shp_struct (ti := C.ti) rfl rfl h
  obtain ⟨a, b, c, rfl⟩ := len3 l
  obtain ⟨x1, h1⟩ := s_int (fld (P := fun _ => True) (hf (0, 3) (by decide)) rfl rfl)
  obtain ⟨x2, h2⟩ := s_int (fld (P := fun _ => True) (hf (1, 3) (by decide)) rfl rfl)
  obtain ⟨x3, h3⟩ := s_int (fld (P := fun _ => True) (hf (2, 3) (by decide)) rfl rfl)
  simp at h1 h2 h3
  exact ⟨⟨x1, x2, x3⟩, by rw [h1, h2, h3]; rfl⟩
theorem s_nt {m : Nat} {xs : List AV} (h : Shp C.ti (m + 2) 51 xs) : ∃ s, xs = ntR s := by
  obtain ⟨l, hf⟩ := shp_struct (ti := C.ti) rfl rfl h
  obtain ⟨a, b, c, d, e, rfl⟩ := len5 l
  obtain ⟨x1, h1⟩ := s_int (fld (P := fun _ => True) (hf (0, 3) (by decide)) rfl rfl)
  obtain ⟨x2, h2⟩ := s_int (fld (P := fun _ => True) (hf (1, 3) (by decide)) rfl rfl)
  obtain ⟨x3, h3⟩ := s_int (fld (P := fun _ => True) (hf (2, 3) (by decide)) rfl rfl)
  obtain ⟨x4, h4⟩ := s_int (fld (P := fun _ => True) (hf (3, 3) (by decide)) rfl rfl)
  obtain ⟨x5, h5⟩ := s_int (fld (P := fun _ => True) (hf (4, 3) (by decide)) rfl rfl)
  simp at h1 h2 h3 h4 h5
  exact ⟨⟨x1, x2, x3, x4, x5⟩, by rw [h1, h2, h3, h4, h5]; rfl⟩
theorem s_wrs {m : Nat} {xs : List AV} (h : Shp C.ti (m + 4) 53 xs) : ∃ l, xs = [wrsA l] ∧ l.length ≤ 9223372036854775807 := s_slice (f := wrR) rfl rfl rfl rfl (fun _ h => s_wr h) h
theorem s_tns {m : Nat} {xs : List AV} (h : Shp C.ti (m + 3) 54 xs) : ∃ l, xs = [tnsA l] ∧ l.length ≤ 9223372036854775807 := s_slice (f := tnR) rfl rfl rfl rfl (fun _ h => s_tn h) h
theorem s_nts {m : Nat} {xs : List AV} (h : Shp C.ti (m + 3) 25 xs) : ∃ l, xs = [ntsA l] ∧ l.length ≤ 9223372036854775807 := s_slice (f := ntR) rfl rfl rfl rfl (fun _ h => s_nt h) h
theorem s_prts {m : Nat} {xs : List AV} (h : Shp C.ti (m + 4) 28 xs) : ∃ l, xs = [prtsA l] ∧ l.length ≤ 9223372036854775807 ∧ ∀ p ∈ l, p.length ≤ 9223372036854775807 := by
  obtain ⟨l, h1, h2⟩ := s_slice (f := fun x : { p : List Tn // p.length ≤ 9223372036854775807 } => [tnsA x.1]) rfl rfl rfl rfl (fun r h => by obtain ⟨e, h1, h2⟩ := s_tns h; exact ⟨⟨e, h2⟩, h1⟩) h
  refine ⟨l.map Subtype.val, ?_, by simpa using h2, fun e he => ?_⟩
  · rw [h1]; unfold prtsA; simp
  · obtain ⟨x, _, rfl⟩ := List.mem_map.1 he
    exact x.2
theorem s_lm {m : Nat} {xs : List AV} (h : Shp C.ti (m + 3) 24 xs) : ∃ l, xs = lmR l ∧ l.lo.length ≤ 9223372036854775807 ∧ l.hi.length ≤ 9223372036854775807 := by
  obtain ⟨l, hf⟩ := shp_struct (ti := C.ti) rfl rfl h
  obtain ⟨a, b, c, d, e, rfl⟩ := len5 l
  obtain ⟨x1, h1, k1⟩ := s_ints (fld (P := fun _ => True) (hf (0, 22) (by decide)) rfl rfl)
  obtain ⟨x2, h2, k2⟩ := s_ints (fld (P := fun _ => True) (hf (1, 22) (by decide)) rfl rfl)
  obtain ⟨x3, h3⟩ := s_int (fld (P := fun _ => True) (hf (2, 3) (by decide)) rfl rfl)
  obtain ⟨x4, h4⟩ := s_int (fld (P := fun _ => True) (hf (3, 3) (by decide)) rfl rfl)
  obtain ⟨x5, h5⟩ := s_int (fld (P := fun _ => True) (hf (4, 3) (by decide)) rfl rfl)
  simp at h1 h2 h3 h4 h5
  exact ⟨⟨x1, x2, x3, x4, x5⟩, by rw [h1, h2, h3, h4, h5]; rfl, k1, k2⟩
theorem one_of {P : List AV → Prop} {a : AV} (h : P [a]) : P [a] := h
theorem shv_wrs {m : Nat} {a : AV} (h : ShpV C.ti (m + 4) 53 a) : ∃ l, a = wrsA l ∧ l.length ≤ 9223372036854775807 := by
  have h : Shp C.ti (m + 4) 53 [a] := h
  obtain ⟨l, e, k⟩ := s_wrs h
  cases e
  exact ⟨l, rfl, k⟩
theorem shv_tns {m : Nat} {a : AV} (h : ShpV C.ti (m + 3) 54 a) : ∃ l, a = tnsA l ∧ l.length ≤ 9223372036854775807 := by
  have h : Shp C.ti (m + 3) 54 [a] := h
  obtain ⟨l, e, k⟩ := s_tns h
  cases e
  exact ⟨l, rfl, k⟩
theorem shv_nts {m : Nat} {a : AV} (h : ShpV C.ti (m + 3) 25 a) : ∃ l, a = ntsA l ∧ l.length ≤ 9223372036854775807 := by
  have h : Shp C.ti (m + 3) 25 [a] := h
  obtain ⟨l, e, k⟩ := s_nts h
  cases e
  exact ⟨l, rfl, k⟩
theorem shv_ints {m : Nat} {a : AV} (h : ShpV C.ti (m + 2) 22 a) : ∃ l, a = intsA l ∧ l.length ≤ 9223372036854775807 := by
  have h : Shp C.ti (m + 2) 22 [a] := h
  obtain ⟨l, e, k⟩ := s_ints h
  cases e
  exact ⟨l, rfl, k⟩
theorem shv_prts {m : Nat} {a : AV} (h : ShpV C.ti (m + 4) 28 a) : ∃ l, a = prtsA l ∧ l.length ≤ 9223372036854775807 ∧ ∀ p ∈ l, p.length ≤ 9223372036854775807 := by
  have h : Shp C.ti (m + 4) 28 [a] := h
  obtain ⟨l, e, k⟩ := s_prts h
  cases e
  exact ⟨l, rfl, k⟩
theorem len4 {l : List AV} (h : l.length = 4) : ∃ a b c d, l = [a, b, c, d] := by
  match l, h with
  | [a, b, c, d], _ => exact ⟨a, b, c, d, rfl⟩
theorem shv_case {m : Nat} {a : AV} (h : ShpV C.ti (m + 4) 27 a) : ∃ l n, a = caseA l n ∧ l.lo.length ≤ 9223372036854775807 ∧ l.hi.length ≤ 9223372036854775807 ∧ n.length ≤ 9223372036854775807 := by
  have h : ∃ xs, a = .agg xs ∧ Shp C.ti (m + 4) 27 xs := h
  obtain ⟨xs, rfl, h'⟩ := h
  obtain ⟨l, hf⟩ := shp_struct (ti := C.ti) rfl rfl h'
  obtain ⟨a, b, c, d, e, f, rfl⟩ := len6 l
  obtain ⟨x, h1, k1, k2⟩ := s_lm (fld (P := fun _ => True) (hf (0, 24) (by decide)) rfl rfl)
  obtain ⟨y, h2, k3⟩ := s_nts (fld (P := fun _ => True) (hf (5, 25) (by decide)) rfl rfl)
  unfold lmR at h1
  simp at h1 h2
  obtain ⟨e1, e2, e3, e4, e5⟩ := h1
  exact ⟨x, y, by rw [e1, e2, e3, e4, e5, h2]; rfl, k1, k2, k3⟩
theorem shv_wider {m : Nat} {a : AV} (h : ShpV C.ti (m + 2) 47 a) : ∃ w x y z : Int, a = .agg [.int .i64 w, .int .i64 x, .int .i64 y, .int .i64 z] := by
  have h : ∃ xs, a = .agg xs ∧ Shp C.ti (m + 2) 47 xs := h
  obtain ⟨xs, rfl, h'⟩ := h
  obtain ⟨l, hf⟩ := shp_struct (ti := C.ti) rfl rfl h'
  obtain ⟨a, b, c, d, rfl⟩ := len4 l
  obtain ⟨x1, h1⟩ := s_int (fld (P := fun _ => True) (hf (0, 3) (by decide)) rfl rfl)
  obtain ⟨x2, h2⟩ := s_int (fld (P := fun _ => True) (hf (1, 3) (by decide)) rfl rfl)
  obtain ⟨x3, h3⟩ := s_int (fld (P := fun _ => True) (hf (2, 3) (by decide)) rfl rfl)
  obtain ⟨x4, h4⟩ := s_int (fld (P := fun _ => True) (hf (3, 3) (by decide)) rfl rfl)
  simp at h1 h2 h3 h4
  exact ⟨x1, x2, x3, x4, by rw [h1, h2, h3, h4]⟩
end Go.Ab.V

/-
  The ticks of a sign, as the program and as the document say it. No condition.
-/
namespace Go.Ab.V
open Go.Proofs

/-- a sign -/
abbrev sg (v : Int) (d t : Bool) : AV := .agg [.int .i64 v, .bool d, .bool t]

def ticks (v : Int) (d t : Bool) : Int :=
  if v < 1 ∨ 7 < v ∨ (d && t) = true then 0 else
    let n : Int := if v = 1 then 384 else if v = 2 then 192 else if v = 3 then 96 else if v = 4 then 48 else if v = 5 then 24 else if v = 6 then 12 else 6
    if d = true then n / 2 * 3 else if t = true then n / 3 * 2 else n

def A59 : Ann := fun r => match r with
  | 0 => { slots := [(0, 0)] }
  | _ => {}

theorem seven {v : Int} (h1 : ¬ v < 1) (h2 : ¬ 7 < v) : v = 1 ∨ v = 2 ∨ v = 3 ∨ v = 4 ∨ v = 5 ∨ v = 6 ∨ v = 7 := by omega

theorem ticks_spec (v : Int) (d t : Bool) : PRet C.P 59 [sg v d t] (.int .i64 (ticks v d t)) := by
  by_cases h1 : v < 1
  · refine pret_of ok mixed (A := A59) 1 Try.func59 rfl ?_
    (repeat ((conv => whnf); first | exact rfl | exact ⟨rfl, rfl⟩ | refine ⟨rfl, ?_⟩ | refine ⟨by decide, ?_⟩ | refine ⟨by kernel_rfl, ?_⟩ | (intro ep)))
    conv => whnf
    rw [decide_eq_true h1]
    exact ⟨rfl, by simp [ticks, h1]⟩
  by_cases h2 : 7 < v
  · refine pret_of ok mixed (A := A59) 1 Try.func59 rfl ?_
    (repeat ((conv => whnf); first | exact rfl | exact ⟨rfl, rfl⟩ | refine ⟨rfl, ?_⟩ | refine ⟨by decide, ?_⟩ | refine ⟨by kernel_rfl, ?_⟩ | (intro ep)))
    conv => whnf
    rw [decide_eq_false h1]
    (repeat ((conv => whnf); first | exact rfl | exact ⟨rfl, rfl⟩ | refine ⟨rfl, ?_⟩ | refine ⟨by decide, ?_⟩ | refine ⟨by kernel_rfl, ?_⟩ | (intro ep)))
    conv => whnf
    rw [show decide (v > 7) = true from decide_eq_true h2]
    exact ⟨rfl, by simp [ticks, h2]⟩
  rcases seven h1 h2 with rfl | rfl | rfl | rfl | rfl | rfl | rfl <;> cases d <;> cases t <;>
    (refine pret_of ok mixed (A := A59) 1 Try.func59 rfl ?_; (repeat ((conv => whnf); first | exact rfl | exact ⟨rfl, rfl⟩ | refine ⟨rfl, ?_⟩ | refine ⟨by decide, ?_⟩ | refine ⟨by kernel_rfl, ?_⟩ | (intro ep))))

end Go.Ab.V

/-
  Whether a sign is valid, and its ticks, in the document's words. No condition.
-/
namespace Go.Ab.V
open Go.Proofs

def right (v : Int) (d t : Bool) : Bool :=
  if v = 0 then !d && !t else decide (1 ≤ v) && decide (v ≤ 7) && !(d && t)

theorem right_spec (v : Int) (d t : Bool) : PRet C.P 79 [sg v d t] (.bool (right v d t)) := by
  refine pret_of ok mixed (A := A59) 1 Try.func79 rfl ?_
  (repeat ((conv => whnf); first | exact rfl | exact ⟨rfl, rfl⟩ | refine ⟨rfl, ?_⟩ | refine ⟨by decide, ?_⟩ | refine ⟨by kernel_rfl, ?_⟩ | (intro ep)))
  conv => whnf
  refine ifB (fun h0 => ?_) (fun h0 => ?_)
  · simp only [beq_iff_eq] at h0
    subst h0
    cases d <;> cases t <;> (repeat ((conv => whnf); first | exact rfl | exact ⟨rfl, rfl⟩ | refine ⟨rfl, ?_⟩ | refine ⟨by decide, ?_⟩ | refine ⟨by kernel_rfl, ?_⟩ | (intro ep)))
  simp only [beq_eq_false_iff_ne, ne_eq] at h0
  (repeat ((conv => whnf); first | exact rfl | exact ⟨rfl, rfl⟩ | refine ⟨rfl, ?_⟩ | refine ⟨by decide, ?_⟩ | refine ⟨by kernel_rfl, ?_⟩ | (intro ep)))
  conv => whnf
  refine ifB (fun h1 => ?_) (fun h1 => ?_)
  · (repeat ((conv => whnf); first | exact rfl | exact ⟨rfl, rfl⟩ | refine ⟨rfl, ?_⟩ | refine ⟨by decide, ?_⟩ | refine ⟨by kernel_rfl, ?_⟩ | (intro ep)))
    conv => whnf
    refine ifB (fun h2 => ?_) (fun h2 => ?_)
    · cases d <;> cases t <;> (repeat ((conv => whnf); first | exact rfl | exact ⟨rfl, rfl⟩ | refine ⟨rfl, ?_⟩ | refine ⟨by decide, ?_⟩ | refine ⟨by kernel_rfl, ?_⟩ | (intro ep)))
      all_goals (conv => whnf); simp_all [right]
    · refine ⟨rfl, ?_⟩
      simp_all [right]
      intros; exfalso; omega
  · refine ⟨rfl, ?_⟩
    simp_all [right]
    intros; exfalso; omega

theorem refTicks_spec (v : Int) (d t : Bool) : PRet C.P 60 [sg v d t] (.int .i64 (ticks v d t)) := by
  refine pret_of ok mixed (A := A59) 1 Try.func60 rfl ?_
  (repeat ((conv => whnf); first | exact rfl | exact ⟨rfl, rfl⟩ | refine ⟨rfl, ?_⟩ | refine ⟨by decide, ?_⟩ | refine ⟨by kernel_rfl, ?_⟩ | (intro ep)))
  conv => whnf
  refine ⟨_, right_spec v d t, ?_⟩
  conv => whnf
  refine ifB (fun h0 => ?_) (fun h0 => ?_)
  · (repeat ((conv => whnf); first | exact rfl | exact ⟨rfl, rfl⟩ | refine ⟨rfl, ?_⟩ | refine ⟨by decide, ?_⟩ | refine ⟨by kernel_rfl, ?_⟩ | (intro ep)))
    simp only [Bool.not_eq_true'] at h0
    have : ticks v d t = 0 := by
      unfold right at h0
      unfold ticks
      split at h0
      · rename_i e; subst e; simp
      · rw [if_pos]
        simp only [Bool.and_eq_false_iff, decide_eq_false_iff_not, Bool.not_eq_false'] at h0
        rcases h0 with (h | h) | h
        · left; omega
        · right; left; omega
        · right; right; exact h
    rw [this]
  · (repeat ((conv => whnf); first | exact rfl | exact ⟨rfl, rfl⟩ | refine ⟨rfl, ?_⟩ | refine ⟨by decide, ?_⟩ | refine ⟨by kernel_rfl, ?_⟩ | (intro ep)))
    conv => whnf
    refine ifB (fun h1 => ?_) (fun h1 => ?_)
    · (repeat ((conv => whnf); first | exact rfl | exact ⟨rfl, rfl⟩ | refine ⟨rfl, ?_⟩ | refine ⟨by decide, ?_⟩ | refine ⟨by kernel_rfl, ?_⟩ | (intro ep)))
      conv => whnf
      simp only [beq_iff_eq] at h1
      subst h1
      exact rfl
    · simp at h0 h1
      have h2 : (v = 1 ∨ v = 2 ∨ v = 3 ∨ v = 4 ∨ v = 5 ∨ v = 6 ∨ v = 7) ∧ (d && t) = false := by
        simp [right, h1] at h0
        refine ⟨by omega, ?_⟩
        have := h0.2
        cases d <;> cases t <;> simp_all
      obtain ⟨rfl | rfl | rfl | rfl | rfl | rfl | rfl, h3⟩ := h2 <;> cases d <;> cases t <;> first | (exfalso; cases h3; done) |
        ((repeat ((conv => whnf); first | exact rfl | exact ⟨rfl, rfl⟩ | refine ⟨rfl, ?_⟩ | refine ⟨by decide, ?_⟩ | refine ⟨by kernel_rfl, ?_⟩ | (intro ep) | refine loopU ok mixed (A := fun _ => {}) 100 ?_)))

end Go.Ab.V

/-
  Lists of tones that are the same. No condition.
-/
namespace Go.Ab.V
open Go.Proofs

def A32 : Ann := fun _ => {}
set_option maxHeartbeats 2000000 in
set_option maxRecDepth 100000 in
theorem same32 (l : List Tn) (hl : l.length ≤ 9223372036854775806) : PRet C.P 32 [tnsA l, tnsA l] (.bool true) := by
  refine pret_of ok mixed (A := A32) 0 Try.func32 rfl ?_
  (repeat' (first | exact rfl | ((conv => whnf); first | exact rfl | refine ⟨by kernel_rfl, ?_⟩ | exact ⟨rfl, rfl⟩ | refine ⟨rfl, ?_⟩ | refine ⟨by (first | omega | (simp (disch := omega) only [wrapI]; omega) | (simp (disch := omega) only [wrapI]; simp; omega) | (simp; omega)), ?_⟩ | (intro ep) | fail)))
  (conv => whnf)
  refine ifB (fun hb => ?_) (fun hb => ?_)
  · exfalso; simp at hb
  (repeat' (first | exact rfl | ((conv => whnf); first | exact rfl | refine ⟨by kernel_rfl, ?_⟩ | exact ⟨rfl, rfl⟩ | refine ⟨rfl, ?_⟩ | refine ⟨by (first | omega | (simp (disch := omega) only [wrapI]; omega) | (simp (disch := omega) only [wrapI]; simp; omega) | (simp; omega)), ?_⟩ | (intro ep) | fail)))
  (conv => whnf)
  refine loopM ok mixed (A := A32) [0, 1, 5] [] (S := { k : Nat // k ≤ l.length })
    (fr := fun s => frOf 0 26 [(0, tnsA l), (1, tnsA l), (5, .int .i64 (s.1 : Int))])
    (h := fun s => ⟨[], []⟩) (μ := fun s => l.length - s.1) ⟨0, by omega⟩ (by exact rfl) (by exact rfl) ?_
  rintro ⟨k, hk⟩
  show aexR _ _ _ (frOf 0 26 [(0, tnsA l), (1, tnsA l), (5, .int .i64 (k : Int))]) ⟨[], []⟩ _
  (conv => whnf)
  refine ifB (fun g1 => ?_) (fun g1 => ?_)
  · simp only [decide_eq_true_eq] at g1
    have hlt : k < l.length := by omega
    have hm := mapR (f := tnR) hlt
    (repeat' (first | exact rfl | ((conv => whnf); first | refine optS hm ?_ | exact rfl | refine ⟨by kernel_rfl, ?_⟩ | exact ⟨rfl, rfl⟩ | refine ⟨rfl, ?_⟩ | refine ⟨by (first | omega | (simp (disch := omega) only [wrapI]; omega) | (simp (disch := omega) only [wrapI]; simp; omega) | (simp; omega)), ?_⟩ | (intro ep) | fail)))
    all_goals (conv => whnf)
    refine ifB (fun hb => ?_) (fun hb => ?_)
    · exfalso; simp at hb
    (repeat' (first | exact rfl | ((conv => whnf); first | exact rfl | refine ⟨by kernel_rfl, ?_⟩ | exact ⟨rfl, rfl⟩ | refine ⟨rfl, ?_⟩ | refine ⟨by (first | omega | (simp (disch := omega) only [wrapI]; omega) | (simp (disch := omega) only [wrapI]; simp; omega) | (simp; omega)), ?_⟩ | (intro ep) | fail)))
    all_goals (conv => whnf)
    refine back_of ⟨k + 1, by omega⟩ ⟨by (first | exact rfl | (simp (disch := omega) only [wrapI]; exact rfl)), rfl, by simp only; omega⟩
  · (repeat' (first | exact rfl | ((conv => whnf); first | exact rfl | refine ⟨by kernel_rfl, ?_⟩ | exact ⟨rfl, rfl⟩ | refine ⟨rfl, ?_⟩ | refine ⟨by (first | omega | (simp (disch := omega) only [wrapI]; omega) | (simp (disch := omega) only [wrapI]; simp; omega) | (simp; omega)), ?_⟩ | (intro ep) | fail)))

end Go.Ab.V

/-
  Reading a written part. No condition but the length.
-/
namespace Go.Ab.V
open Go.Proofs

def A45 : Ann := fun _ => {}
theorem within_spec (n a b : Int) : PRet C.P 45 [.int .i64 n, .int .i64 a, .int .i64 b] (.bool (decide (a ≤ n) && decide (n ≤ b))) := by
  by_cases h1 : a ≤ n <;> by_cases h2 : n ≤ b <;>
    (refine pret_of ok mixed (A := A45) 0 Try.func45 rfl ?_
     (repeat' (first | exact rfl | ((conv => whnf); first | exact rfl | refine ⟨by kernel_rfl, ?_⟩ | exact ⟨rfl, rfl⟩ | refine ⟨rfl, ?_⟩ | refine ⟨by (first | omega | (simp (disch := omega) only [wrapI]; omega) | (simp (disch := omega) only [wrapI]; simp; omega) | (simp; omega)), ?_⟩ | (intro ep) | (refine ifB (fun hb => ?_) (fun hb => ?_) <;> (try simp only [decide_eq_true_eq, decide_eq_false_iff_not, beq_iff_eq, beq_eq_false_iff_ne, bne_iff_ne, bne_eq_false_iff_eq, ne_eq, not_false_eq_true, not_true_eq_false, Bool.not_eq_true, Bool.not_eq_true', Bool.not_eq_false', Int.not_lt, Int.not_le] at hb) <;> (try simp (disch := omega) only [wrapI] at hb) <;> (try (exfalso; omega))) | fail)))
     all_goals (conv => whnf)
     all_goals (simp [h1, h2]))

/-- whether the next one is not of the pitch -/
def nxD : List Wr → Int → Bool
  | [], _ => true
  | x :: _, p => !decide (x.p = p)
/-- what comes of a written part: the tones, the end, the error -/
def uns : List Wr → List Tn → Int → Int → List Tn × Int × Int
  | [], acc, en, _ => (acc, en, 0)
  | w :: r, acc, en, fr =>
    if w.p < -1 ∨ 127 < w.p then ([], 0, 80) else
    if ticks w.v w.d w.t = 0 then ([], 0, 25) else
    if w.y = true ∧ (w.p < 0 ∨ nxD r w.p = true) then ([], 0, 21) else
    if 262144 < en + ticks w.v w.d w.t ∨ (0 ≤ w.p ∧ w.y = false ∧ acc.length = 400) then ([], 0, 2) else
    uns r (if 0 ≤ w.p ∧ w.y = false then acc ++ [⟨w.p, fr, en + ticks w.v w.d w.t⟩] else acc) (en + ticks w.v w.d w.t) (if w.y = true then fr else en + ticks w.v w.d w.t)
def unsV (x : List Tn × Int × Int) : AV := if x.2.2 = 0 then .tup [tnsA x.1, .int .i64 x.2.1, .int .i64 0] else .tup [.nils, .int .i64 0, .int .i64 x.2.2]

theorem ticks_rng (v : Int) (d t : Bool) : 0 ≤ ticks v d t ∧ ticks v d t ≤ 576 := by
  unfold ticks
  split
  · omega
  rename_i h
  have : v = 1 ∨ v = 2 ∨ v = 3 ∨ v = 4 ∨ v = 5 ∨ v = 6 ∨ v = 7 := by omega
  rcases this with rfl | rfl | rfl | rfl | rfl | rfl | rfl <;> cases d <;> cases t <;> decide

theorem uns_cons {l : List Wr} {k : Nat} (h : k < l.length) (acc : List Tn) (en fr : Int) : uns (l.drop k) acc en fr =
    if l[k].p < -1 ∨ 127 < l[k].p then ([], 0, 80) else
    if ticks l[k].v l[k].d l[k].t = 0 then ([], 0, 25) else
    if l[k].y = true ∧ (l[k].p < 0 ∨ nxD (l.drop (k + 1)) l[k].p = true) then ([], 0, 21) else
    if 262144 < en + ticks l[k].v l[k].d l[k].t ∨ (0 ≤ l[k].p ∧ l[k].y = false ∧ acc.length = 400) then ([], 0, 2) else
    uns (l.drop (k + 1)) (if 0 ≤ l[k].p ∧ l[k].y = false then acc ++ [⟨l[k].p, fr, en + ticks l[k].v l[k].d l[k].t⟩] else acc) (en + ticks l[k].v l[k].d l[k].t) (if l[k].y = true then fr else en + ticks l[k].v l[k].d l[k].t) := by
  rw [List.drop_eq_getElem_cons h, uns]
theorem nxD_some {l : List Wr} {k : Nat} (h : k < l.length) (p : Int) : nxD (l.drop k) p = !decide (l[k].p = p) := by
  rw [List.drop_eq_getElem_cons h, nxD]
theorem nxD_none {l : List Wr} {k : Nat} (h : l.length ≤ k) (p : Int) : nxD (l.drop k) p = true := by
  rw [List.drop_eq_nil_of_le h]; rfl

theorem pure_tns (l : List Tn) : pureRows (l.map tnR) := by
  intro r hr c hc
  obtain ⟨x, _, rfl⟩ := List.mem_map.1 hr
  simp [tnR] at hc
  rcases hc with rfl | rfl | rfl <;> rfl
def A30 : Ann := fun r => match r with
  | 4 => { slots := [(3, 0)] }
  | 18 => { slots := [(6, 1), (7, 2)] }
  | _ => {}
set_option maxHeartbeats 8000000 in
set_option maxRecDepth 100000 in
theorem unset_spec (l : List Wr) (hl : l.length ≤ 10000000) : PRet C.P 30 [wrsA l] (unsV (uns l [] 0 0)) := by
  obtain ⟨R, hR⟩ : ∃ R, R = uns l [] 0 0 := ⟨_, rfl⟩
  rw [← hR]
  refine pret_of ok mixed (A := A30) 3 Try.func30 rfl ?_
  (conv => whnf)
  (repeat' (first | exact rfl | ((conv => whnf); first | exact rfl | refine ⟨by kernel_rfl, ?_⟩ | exact ⟨rfl, rfl⟩ | refine ⟨rfl, ?_⟩ | refine ⟨by (first | omega | (simp (disch := omega) only [wrapI]; omega) | (simp (disch := omega) only [wrapI]; simp; omega) | (simp; omega)), ?_⟩ | (intro ep) | fail)))
  (conv => whnf)
  refine wk_lift 2 2 3 rfl ?_
  intro eA
  refine loopY ok mixed (A := A30) [0, 2, 3, 5, 10, 11, 12] [2] (S := { x : Nat × Nat × List Tn × Int × Int // x.1 ≤ l.length ∧ x.2.2.1.length ≤ 400 ∧ (0 ≤ x.2.2.2.1 ∧ x.2.2.2.1 ≤ 262144) ∧ uns (l.drop x.1) x.2.2.1 x.2.2.2.1 x.2.2.2.2 = R })
    (fr := fun s => frOf 0 92 [(0, wrsA l), (2, .oslc (.s 2) s.1.2.1 3 0 s.1.2.2.1.length false), (3, .int .i64 s.1.2.2.2.1), (5, .int .i64 s.1.2.2.2.2), (10, wrsA l), (11, .int .i64 (l.length : Int)), (12, .int .i64 (s.1.1 : Int))])
    (h := fun s => ⟨[.hole, .hole, .vec s.1.2.1 (s.1.2.2.1.map tnR)], []⟩) (μ := fun s => l.length - s.1.1) ⟨(0, eA, [], 0, 0), by simp [hR]⟩ ?_ ?_
    [2, 3] [2] (S' := { x : Nat × List Tn × Int // (x.2.1, x.2.2, 0) = R }) (X := fun _ => 0)
    (frX := fun s => frOf 0 92 [(2, .oslc (.s 2) s.1.1 3 0 s.1.2.1.length false), (3, .int .i64 s.1.2.2)])
    (hX := fun s => ⟨[.hole, .hole, .vec s.1.1 (s.1.2.1.map tnR)], []⟩)
    [2, 3, 4] [] (S2 := { x : Int // x ≠ 0 ∧ ([], 0, x) = R })
    (frR := fun s => frOf 0 92 [(2, .nils), (3, .int .i64 0), (4, .int .i64 s.1)])
    (hR := fun s => ⟨[.hole, .hole, .hole], []⟩) ?_ ?_ ?_
  · exact rfl
  · exact rfl
  · rintro ⟨⟨k, e, acc, en, from0⟩, hk, hacc, hen, hu⟩
    simp only at hk hacc hen hu
    show aexR _ _ _ (frOf 0 92 [(0, wrsA l), (2, .oslc (.s 2) e 3 0 acc.length false), (3, .int .i64 en), (5, .int .i64 from0), (10, wrsA l), (11, .int .i64 (l.length : Int)), (12, .int .i64 (k : Int))])
      ⟨[.hole, .hole, .vec e (acc.map tnR)], []⟩ _
    (conv => whnf)
    refine ifB (fun g1 => ?_) (fun g1 => ?_)
    · simp only [decide_eq_true_eq] at g1
      have hlt : k < l.length := by omega
      have hm := mapR (f := wrR) hlt
      rw [uns_cons hlt] at hu
      obtain ⟨w, hw⟩ : ∃ w, l[k] = w := ⟨_, rfl⟩
      rw [hw] at hm hu
      obtain ⟨p, v, d, t, y⟩ := w
      simp only at hu
      have hT := ticks_rng v d t
      have hts := ticks_spec v d t
      obtain ⟨T, hTT⟩ : ∃ T, ticks v d t = T := ⟨_, rfl⟩
      rw [hTT] at hu hT hts
      replace hm : (l.map wrR)[0 + ((k : Nat) : Int).toNat]? = some [.int .i64 p, .int .i64 v, .bool d, .bool t, .bool y] := hm
      by_cases c1 : p < -1 ∨ 127 < p
      · have hwi : PRet C.P 45 [.int .i64 p, .int .i64 (-1), .int .i64 127] (.bool false) := by
          have := within_spec p (-1) 127
          rwa [show (decide (-1 ≤ p) && decide (p ≤ 127)) = false by simp; omega] at this
        rw [if_pos c1] at hu
        cases y <;> (repeat' (first | exact rfl | ((conv => whnf); first | refine optS hm ?_ | refine ⟨_, hts, ?_⟩ | refine ⟨_, hwi, ?_⟩ | exact rfl | refine ⟨by kernel_rfl, ?_⟩ | exact ⟨rfl, rfl⟩ | refine ⟨rfl, ?_⟩ | refine ⟨by (first | omega | (simp (disch := omega) only [wrapI]; omega) | (simp (disch := omega) only [wrapI]; simp; omega) | (simp; omega)), ?_⟩ | (intro ep) | (refine ifB (fun hb => ?_) (fun hb => ?_) <;> (try simp only [decide_eq_true_eq, decide_eq_false_iff_not, beq_iff_eq, beq_eq_false_iff_ne, bne_iff_ne, bne_eq_false_iff_eq, ne_eq, not_false_eq_true, not_true_eq_false, Bool.not_eq_true, Bool.not_eq_true', Bool.not_eq_false', Int.not_lt, Int.not_le] at hb) <;> (try simp (disch := omega) only [wrapI] at hb) <;> (try (exfalso; omega))) | fail)))
        all_goals (conv => whnf)
        all_goals exact back_of ⟨80, by decide, hu⟩ ⟨rfl, rfl⟩
      rw [if_neg c1] at hu
      have hwi : PRet C.P 45 [.int .i64 p, .int .i64 (-1), .int .i64 127] (.bool true) := by
        have := within_spec p (-1) 127
        rwa [show (decide (-1 ≤ p) && decide (p ≤ 127)) = true by simp; omega] at this
      by_cases c2 : T = 0
      · rw [if_pos c2] at hu
        subst c2
        cases y <;> (repeat' (first | exact rfl | ((conv => whnf); first | refine optS hm ?_ | refine ⟨_, hts, ?_⟩ | refine ⟨_, hwi, ?_⟩ | exact rfl | refine ⟨by kernel_rfl, ?_⟩ | exact ⟨rfl, rfl⟩ | refine ⟨rfl, ?_⟩ | refine ⟨by (first | omega | (simp (disch := omega) only [wrapI]; omega) | (simp (disch := omega) only [wrapI]; simp; omega) | (simp; omega)), ?_⟩ | (intro ep) | (refine ifB (fun hb => ?_) (fun hb => ?_) <;> (try simp only [decide_eq_true_eq, decide_eq_false_iff_not, beq_iff_eq, beq_eq_false_iff_ne, bne_iff_ne, bne_eq_false_iff_eq, ne_eq, not_false_eq_true, not_true_eq_false, Bool.not_eq_true, Bool.not_eq_true', Bool.not_eq_false', Int.not_lt, Int.not_le] at hb) <;> (try simp (disch := omega) only [wrapI] at hb) <;> (try (exfalso; omega))) | fail)))
        all_goals (conv => whnf)
        all_goals exact back_of ⟨25, by decide, hu⟩ ⟨rfl, rfl⟩
      rw [if_neg c2] at hu
      have t3 : List.take acc.length (List.drop 0 (acc.map tnR)) = acc.map tnR := by rw [List.drop_zero, List.take_of_length_le (by simp)]
      cases y
      · rw [if_neg (by simp)] at hu
        by_cases c3 : 262144 < en + T
        · rw [if_pos (.inl c3)] at hu
          (repeat' (first | exact rfl | ((conv => whnf); first | refine optS hm ?_ | refine ⟨_, hts, ?_⟩ | refine ⟨_, hwi, ?_⟩ | exact rfl | refine ⟨by kernel_rfl, ?_⟩ | exact ⟨rfl, rfl⟩ | refine ⟨rfl, ?_⟩ | refine ⟨by (first | omega | (simp (disch := omega) only [wrapI]; omega) | (simp (disch := omega) only [wrapI]; simp; omega) | (simp; omega)), ?_⟩ | (intro ep) | (refine ifB (fun hb => ?_) (fun hb => ?_) <;> (try simp only [decide_eq_true_eq, decide_eq_false_iff_not, beq_iff_eq, beq_eq_false_iff_ne, bne_iff_ne, bne_eq_false_iff_eq, ne_eq, not_false_eq_true, not_true_eq_false, Bool.not_eq_true, Bool.not_eq_true', Bool.not_eq_false', Int.not_lt, Int.not_le] at hb) <;> (try simp (disch := omega) only [wrapI] at hb) <;> (try (exfalso; omega))) | fail)))
          all_goals (conv => whnf)
          all_goals exact back_of ⟨2, by decide, hu⟩ ⟨rfl, rfl⟩
        by_cases c4 : 0 ≤ p
        · by_cases c5 : acc.length = 400
          · rw [if_pos (.inr ⟨c4, rfl, c5⟩)] at hu
            (repeat' (first | exact rfl | ((conv => whnf); first | refine optS hm ?_ | refine ⟨_, hts, ?_⟩ | refine ⟨_, hwi, ?_⟩ | exact rfl | refine ⟨by kernel_rfl, ?_⟩ | exact ⟨rfl, rfl⟩ | refine ⟨rfl, ?_⟩ | refine ⟨by (first | omega | (simp (disch := omega) only [wrapI]; omega) | (simp (disch := omega) only [wrapI]; simp; omega) | (simp; omega)), ?_⟩ | (intro ep) | (refine ifB (fun hb => ?_) (fun hb => ?_) <;> (try simp only [decide_eq_true_eq, decide_eq_false_iff_not, beq_iff_eq, beq_eq_false_iff_ne, bne_iff_ne, bne_eq_false_iff_eq, ne_eq, not_false_eq_true, not_true_eq_false, Bool.not_eq_true, Bool.not_eq_true', Bool.not_eq_false', Int.not_lt, Int.not_le] at hb) <;> (try simp (disch := omega) only [wrapI] at hb) <;> (try (exfalso; omega))) | fail)))
            all_goals (conv => whnf)
            all_goals exact back_of ⟨2, by decide, hu⟩ ⟨rfl, rfl⟩
          · rw [if_neg (by omega), if_pos ⟨c4, rfl⟩, if_neg (by simp)] at hu
            (repeat' (first | exact rfl | ((conv => whnf); first | refine optS hm ?_ | refine ⟨_, hts, ?_⟩ | refine ⟨_, hwi, ?_⟩ | exact rfl | refine ⟨by kernel_rfl, ?_⟩ | exact ⟨rfl, rfl⟩ | refine ⟨rfl, ?_⟩ | refine ⟨by (first | omega | (simp (disch := omega) only [wrapI]; omega) | (simp (disch := omega) only [wrapI]; simp; omega) | (simp; omega)), ?_⟩ | (intro ep) | (refine ifB (fun hb => ?_) (fun hb => ?_) <;> (try simp only [decide_eq_true_eq, decide_eq_false_iff_not, beq_iff_eq, beq_eq_false_iff_ne, bne_iff_ne, bne_eq_false_iff_eq, ne_eq, not_false_eq_true, not_true_eq_false, Bool.not_eq_true, Bool.not_eq_true', Bool.not_eq_false', Int.not_lt, Int.not_le] at hb) <;> (try simp (disch := omega) only [wrapI] at hb) <;> (try (exfalso; omega))) | fail)))
            all_goals (conv => whnf)
            refine back_of ⟨(k + 1, ep, acc ++ [⟨p, from0, en + T⟩], en + T, en + T), by simp only; omega, by simp only [List.length_append, List.length_cons, List.length_nil]; omega, by simp only; omega, hu⟩ ⟨?_, ?_, by simp only; omega⟩
            · have e1 : (acc ++ [(⟨p, from0, en + T⟩ : Tn)]).length = acc.length + 1 := by simp
              show maskF 0 _ _ = frOf 0 92 [(0, wrsA l), (2, .oslc (.s 2) ep 3 0 (acc ++ [(⟨p, from0, en + T⟩ : Tn)]).length false), (3, .int .i64 (en + T)), (5, .int .i64 (en + T)), (10, wrsA l), (11, .int .i64 (l.length : Int)), (12, .int .i64 ((k + 1 : Nat) : Int))]
              rw [e1]
              (first | exact rfl | (simp (disch := omega) only [wrapI]; exact rfl))
            · have e1 : (acc ++ [(⟨p, from0, en + T⟩ : Tn)]).map tnR = List.take acc.length (List.drop 0 (acc.map tnR)) ++ [[.int .i64 p, .int .i64 from0, .int .i64 (en + T)]] := by rw [t3]; simp [tnR]
              show maskH 0 _ _ = ⟨[.hole, .hole, .vec ep ((acc ++ [(⟨p, from0, en + T⟩ : Tn)]).map tnR)], []⟩
              rw [e1]
              (first | exact rfl | (simp (disch := omega) only [wrapI]; exact rfl))
        · rw [if_neg (by omega), if_neg (by omega), if_neg (by simp)] at hu
          (repeat' (first | exact rfl | ((conv => whnf); first | refine optS hm ?_ | refine ⟨_, hts, ?_⟩ | refine ⟨_, hwi, ?_⟩ | exact rfl | refine ⟨by kernel_rfl, ?_⟩ | exact ⟨rfl, rfl⟩ | refine ⟨rfl, ?_⟩ | refine ⟨by (first | omega | (simp (disch := omega) only [wrapI]; omega) | (simp (disch := omega) only [wrapI]; simp; omega) | (simp; omega)), ?_⟩ | (intro ep) | (refine ifB (fun hb => ?_) (fun hb => ?_) <;> (try simp only [decide_eq_true_eq, decide_eq_false_iff_not, beq_iff_eq, beq_eq_false_iff_ne, bne_iff_ne, bne_eq_false_iff_eq, ne_eq, not_false_eq_true, not_true_eq_false, Bool.not_eq_true, Bool.not_eq_true', Bool.not_eq_false', Int.not_lt, Int.not_le] at hb) <;> (try simp (disch := omega) only [wrapI] at hb) <;> (try (exfalso; omega))) | fail)))
          all_goals (conv => whnf)
          all_goals exact back_of ⟨(k + 1, e, acc, en + T, en + T), by simp only; omega, hacc, by simp only; omega, hu⟩ ⟨by (first | exact rfl | (simp (disch := omega) only [wrapI]; exact rfl)), rfl, by simp only; omega⟩
      · by_cases c4 : p < 0
        · rw [if_pos ⟨rfl, .inl c4⟩] at hu
          (repeat' (first | exact rfl | ((conv => whnf); first | refine optS hm ?_ | refine ⟨_, hts, ?_⟩ | refine ⟨_, hwi, ?_⟩ | exact rfl | refine ⟨by kernel_rfl, ?_⟩ | exact ⟨rfl, rfl⟩ | refine ⟨rfl, ?_⟩ | refine ⟨by (first | omega | (simp (disch := omega) only [wrapI]; omega) | (simp (disch := omega) only [wrapI]; simp; omega) | (simp; omega)), ?_⟩ | (intro ep) | (refine ifB (fun hb => ?_) (fun hb => ?_) <;> (try simp only [decide_eq_true_eq, decide_eq_false_iff_not, beq_iff_eq, beq_eq_false_iff_ne, bne_iff_ne, bne_eq_false_iff_eq, ne_eq, not_false_eq_true, not_true_eq_false, Bool.not_eq_true, Bool.not_eq_true', Bool.not_eq_false', Int.not_lt, Int.not_le] at hb) <;> (try simp (disch := omega) only [wrapI] at hb) <;> (try (exfalso; omega))) | fail)))
          all_goals (conv => whnf)
          all_goals exact back_of ⟨21, by decide, hu⟩ ⟨rfl, rfl⟩
        by_cases c5 : k + 1 < l.length
        · have hm1 := mapR (f := wrR) c5
          rw [nxD_some c5] at hu
          generalize l[k + 1] = w1 at hm1 hu
          obtain ⟨p1, v1, d1, t1, y1⟩ := w1
          simp only at hu
          replace hm1 : (l.map wrR)[0 + (IntKind.i64.wrap ((k : Nat) + 1 : Int)).toNat]? = some [.int .i64 p1, .int .i64 v1, .bool d1, .bool t1, .bool y1] := by
            rw [wrapI (by omega) (by omega)]; exact hm1
          by_cases c6 : p1 = p
          · rw [if_neg (by simp [c6, c4])] at hu
            subst c6
            by_cases c3 : 262144 < en + T
            · rw [if_pos (.inl c3)] at hu
              (repeat' (first | exact rfl | ((conv => whnf); first | refine optS hm ?_ | refine optS hm1 ?_ | refine ⟨_, hts, ?_⟩ | refine ⟨_, hwi, ?_⟩ | exact rfl | refine ⟨by kernel_rfl, ?_⟩ | exact ⟨rfl, rfl⟩ | refine ⟨rfl, ?_⟩ | refine ⟨by (first | omega | (simp (disch := omega) only [wrapI]; omega) | (simp (disch := omega) only [wrapI]; simp; omega) | (simp; omega)), ?_⟩ | (intro ep) | (refine ifB (fun hb => ?_) (fun hb => ?_) <;> (try simp only [decide_eq_true_eq, decide_eq_false_iff_not, beq_iff_eq, beq_eq_false_iff_ne, bne_iff_ne, bne_eq_false_iff_eq, ne_eq, not_false_eq_true, not_true_eq_false, Bool.not_eq_true, Bool.not_eq_true', Bool.not_eq_false', Int.not_lt, Int.not_le] at hb) <;> (try simp (disch := omega) only [wrapI] at hb) <;> (try (exfalso; omega))) | fail)))
              all_goals (conv => whnf)
              all_goals exact back_of ⟨2, by decide, hu⟩ ⟨rfl, rfl⟩
            · rw [if_neg (by simp; omega), if_neg (by simp), if_pos trivial] at hu
              (repeat' (first | exact rfl | ((conv => whnf); first | refine optS hm ?_ | refine optS hm1 ?_ | refine ⟨_, hts, ?_⟩ | refine ⟨_, hwi, ?_⟩ | exact rfl | refine ⟨by kernel_rfl, ?_⟩ | exact ⟨rfl, rfl⟩ | refine ⟨rfl, ?_⟩ | refine ⟨by (first | omega | (simp (disch := omega) only [wrapI]; omega) | (simp (disch := omega) only [wrapI]; simp; omega) | (simp; omega)), ?_⟩ | (intro ep) | (refine ifB (fun hb => ?_) (fun hb => ?_) <;> (try simp only [decide_eq_true_eq, decide_eq_false_iff_not, beq_iff_eq, beq_eq_false_iff_ne, bne_iff_ne, bne_eq_false_iff_eq, ne_eq, not_false_eq_true, not_true_eq_false, Bool.not_eq_true, Bool.not_eq_true', Bool.not_eq_false', Int.not_lt, Int.not_le] at hb) <;> (try simp (disch := omega) only [wrapI] at hb) <;> (try (exfalso; omega))) | fail)))
              all_goals (conv => whnf)
              all_goals exact back_of ⟨(k + 1, e, acc, en + T, from0), by simp only; omega, hacc, by simp only; omega, hu⟩ ⟨by (first | exact rfl | (simp (disch := omega) only [wrapI]; exact rfl)), rfl, by simp only; omega⟩
          · rw [if_pos ⟨trivial, .inr (by simp [c6])⟩] at hu
            (repeat' (first | exact rfl | ((conv => whnf); first | refine optS hm ?_ | refine optS hm1 ?_ | refine ⟨_, hts, ?_⟩ | refine ⟨_, hwi, ?_⟩ | exact rfl | refine ⟨by kernel_rfl, ?_⟩ | exact ⟨rfl, rfl⟩ | refine ⟨rfl, ?_⟩ | refine ⟨by (first | omega | (simp (disch := omega) only [wrapI]; omega) | (simp (disch := omega) only [wrapI]; simp; omega) | (simp; omega)), ?_⟩ | (intro ep) | (refine ifB (fun hb => ?_) (fun hb => ?_) <;> (try simp only [decide_eq_true_eq, decide_eq_false_iff_not, beq_iff_eq, beq_eq_false_iff_ne, bne_iff_ne, bne_eq_false_iff_eq, ne_eq, not_false_eq_true, not_true_eq_false, Bool.not_eq_true, Bool.not_eq_true', Bool.not_eq_false', Int.not_lt, Int.not_le] at hb) <;> (try simp (disch := omega) only [wrapI] at hb) <;> (try (exfalso; omega))) | fail)))
            all_goals (conv => whnf)
            all_goals exact back_of ⟨21, by decide, hu⟩ ⟨rfl, rfl⟩
        · rw [if_pos ⟨rfl, .inr (nxD_none (by omega) _)⟩] at hu
          (repeat' (first | exact rfl | ((conv => whnf); first | refine optS hm ?_ | refine ⟨_, hts, ?_⟩ | refine ⟨_, hwi, ?_⟩ | exact rfl | refine ⟨by kernel_rfl, ?_⟩ | exact ⟨rfl, rfl⟩ | refine ⟨rfl, ?_⟩ | refine ⟨by (first | omega | (simp (disch := omega) only [wrapI]; omega) | (simp (disch := omega) only [wrapI]; simp; omega) | (simp; omega)), ?_⟩ | (intro ep) | (refine ifB (fun hb => ?_) (fun hb => ?_) <;> (try simp only [decide_eq_true_eq, decide_eq_false_iff_not, beq_iff_eq, beq_eq_false_iff_ne, bne_iff_ne, bne_eq_false_iff_eq, ne_eq, not_false_eq_true, not_true_eq_false, Bool.not_eq_true, Bool.not_eq_true', Bool.not_eq_false', Int.not_lt, Int.not_le] at hb) <;> (try simp (disch := omega) only [wrapI] at hb) <;> (try (exfalso; omega))) | fail)))
          all_goals (conv => whnf)
          all_goals exact back_of ⟨21, by decide, hu⟩ ⟨rfl, rfl⟩
    · simp only [decide_eq_false_iff_not] at g1
      have hk2 : k = l.length := by omega
      rw [List.drop_eq_nil_of_le (by omega), uns] at hu
      (repeat' (first | exact rfl | ((conv => whnf); first | exact rfl | refine ⟨by kernel_rfl, ?_⟩ | exact ⟨rfl, rfl⟩ | refine ⟨rfl, ?_⟩ | refine ⟨by (first | omega | (simp (disch := omega) only [wrapI]; omega) | (simp (disch := omega) only [wrapI]; simp; omega) | (simp; omega)), ?_⟩ | (intro ep) | fail)))
      all_goals (conv => whnf)
      refine back_of ⟨(e, acc, en), hu⟩ ⟨rfl, rfl, rfl⟩
  · rintro ⟨x, hx, hx2⟩
    (repeat' (first | exact rfl | ((conv => whnf); first | exact rfl | refine ⟨by kernel_rfl, ?_⟩ | exact ⟨rfl, rfl⟩ | refine ⟨rfl, ?_⟩ | refine ⟨by (first | omega | (simp (disch := omega) only [wrapI]; omega) | (simp (disch := omega) only [wrapI]; simp; omega) | (simp; omega)), ?_⟩ | (intro ep) | fail)))
    all_goals (conv => whnf)
    subst hx2
    unfold unsV
    simp [hx]
  · rintro ⟨⟨e, acc, en⟩, hu⟩
    (repeat' (first | exact rfl | ((conv => whnf); first | exact rfl | refine ⟨by kernel_rfl, ?_⟩ | exact ⟨rfl, rfl⟩ | refine ⟨rfl, ?_⟩ | refine ⟨by (first | omega | (simp (disch := omega) only [wrapI]; omega) | (simp (disch := omega) only [wrapI]; simp; omega) | (simp; omega)), ?_⟩ | (intro ep) | fail)))
    all_goals (conv => whnf)
    simp only at hu
    subst hu
    refine ⟨pure_tns acc, rfl, ?_⟩
    unfold unsV
    simp [tnsA]
end Go.Ab.V

/-
  Whether limits are valid. No condition.
-/
namespace Go.Ab.V
open Go.Proofs

theorem within_t {n a b : Int} (h : a ≤ n ∧ n ≤ b) : PRet C.P 45 [.int .i64 n, .int .i64 a, .int .i64 b] (.bool true) := by
  have := within_spec n a b
  rwa [show (decide (a ≤ n) && decide (n ≤ b)) = true by simp; omega] at this
theorem within_f {n a b : Int} (h : n < a ∨ b < n) : PRet C.P 45 [.int .i64 n, .int .i64 a, .int .i64 b] (.bool false) := by
  have := within_spec n a b
  rwa [show (decide (a ≤ n) && decide (n ≤ b)) = false by simp; omega] at this

/-- whether every range is one -/
def prs : List Int → List Int → Int
  | a :: r, b :: s => if a < 0 ∨ b < a ∨ 127 < b then 70 else prs r s
  | _, _ => 0
def chkL (x : Lm) : Int :=
  if x.lo.length < 1 ∨ 5 < x.lo.length then 70 else if x.hi.length ≠ x.lo.length then 70 else if x.leap < 0 ∨ 127 < x.leap then 70 else
  if x.gap < 0 ∨ 262144 < x.gap then 70 else if x.cross < 0 ∨ 10 < x.cross then 70 else prs x.lo x.hi

def A15 : Ann := fun r => match r with
  | 0 => { slots := [(0, 0)] }
  | _ => {}
set_option maxHeartbeats 8000000 in
set_option maxRecDepth 100000 in
theorem check_spec (x : Lm) (hl : x.lo.length ≤ 9223372036854775807) (hh : x.hi.length ≤ 9223372036854775807) : PRet C.P 15 [lmA x] (.int .i64 (chkL x)) := by
  obtain ⟨lo, hi, leap, gap, cross⟩ := x
  simp only at hl hh
  unfold chkL
  simp only
  by_cases c1 : lo.length < 1 ∨ 5 < lo.length
  · rw [if_pos c1]
    have w1 := within_f (n := (lo.length : Int)) (a := 1) (b := 5) (by omega)
    have w3 := w1
    have w4 := w1
    have w5 := w1
    refine pret_of ok mixed (A := A15) 1 Try.func15 rfl ?_
    (repeat' (first | exact rfl | ((conv => whnf); first | refine ⟨_, w1, ?_⟩ | refine ⟨_, w3, ?_⟩ | refine ⟨_, w4, ?_⟩ | refine ⟨_, w5, ?_⟩ | exact rfl | refine ⟨by kernel_rfl, ?_⟩ | exact ⟨rfl, rfl⟩ | refine ⟨rfl, ?_⟩ | refine ⟨by (first | omega | (simp (disch := omega) only [wrapI]; omega) | (simp (disch := omega) only [wrapI]; simp; omega) | (simp; omega)), ?_⟩ | (intro ep) | (refine ifB (fun hb => ?_) (fun hb => ?_) <;> (try simp only [decide_eq_true_eq, decide_eq_false_iff_not, beq_iff_eq, beq_eq_false_iff_ne, bne_iff_ne, bne_eq_false_iff_eq, ne_eq, not_false_eq_true, not_true_eq_false, Bool.not_eq_true, Bool.not_eq_true', Bool.not_eq_false', Int.not_lt, Int.not_le] at hb) <;> (try simp (disch := omega) only [wrapI] at hb) <;> (try (exfalso; omega))) | fail)))
  rw [if_neg c1]
  have w1 := within_t (n := (lo.length : Int)) (a := 1) (b := 5) (by omega)
  by_cases c2 : hi.length ≠ lo.length
  · rw [if_pos c2]
    have w3 := w1
    have w4 := w1
    have w5 := w1
    refine pret_of ok mixed (A := A15) 1 Try.func15 rfl ?_
    (repeat' (first | exact rfl | ((conv => whnf); first | refine ⟨_, w1, ?_⟩ | refine ⟨_, w3, ?_⟩ | refine ⟨_, w4, ?_⟩ | refine ⟨_, w5, ?_⟩ | exact rfl | refine ⟨by kernel_rfl, ?_⟩ | exact ⟨rfl, rfl⟩ | refine ⟨rfl, ?_⟩ | refine ⟨by (first | omega | (simp (disch := omega) only [wrapI]; omega) | (simp (disch := omega) only [wrapI]; simp; omega) | (simp; omega)), ?_⟩ | (intro ep) | (refine ifB (fun hb => ?_) (fun hb => ?_) <;> (try simp only [decide_eq_true_eq, decide_eq_false_iff_not, beq_iff_eq, beq_eq_false_iff_ne, bne_iff_ne, bne_eq_false_iff_eq, ne_eq, not_false_eq_true, not_true_eq_false, Bool.not_eq_true, Bool.not_eq_true', Bool.not_eq_false', Int.not_lt, Int.not_le] at hb) <;> (try simp (disch := omega) only [wrapI] at hb) <;> (try (exfalso; omega))) | fail)))
  rw [if_neg c2]
  by_cases c3 : leap < 0 ∨ 127 < leap
  · rw [if_pos c3]
    have w3 := within_f (n := leap) (a := 0) (b := 127) (by omega)
    have w4 := w1
    have w5 := w1
    refine pret_of ok mixed (A := A15) 1 Try.func15 rfl ?_
    (repeat' (first | exact rfl | ((conv => whnf); first | refine ⟨_, w1, ?_⟩ | refine ⟨_, w3, ?_⟩ | refine ⟨_, w4, ?_⟩ | refine ⟨_, w5, ?_⟩ | exact rfl | refine ⟨by kernel_rfl, ?_⟩ | exact ⟨rfl, rfl⟩ | refine ⟨rfl, ?_⟩ | refine ⟨by (first | omega | (simp (disch := omega) only [wrapI]; omega) | (simp (disch := omega) only [wrapI]; simp; omega) | (simp; omega)), ?_⟩ | (intro ep) | (refine ifB (fun hb => ?_) (fun hb => ?_) <;> (try simp only [decide_eq_true_eq, decide_eq_false_iff_not, beq_iff_eq, beq_eq_false_iff_ne, bne_iff_ne, bne_eq_false_iff_eq, ne_eq, not_false_eq_true, not_true_eq_false, Bool.not_eq_true, Bool.not_eq_true', Bool.not_eq_false', Int.not_lt, Int.not_le] at hb) <;> (try simp (disch := omega) only [wrapI] at hb) <;> (try (exfalso; omega))) | fail)))
  rw [if_neg c3]
  have w3 := within_t (n := leap) (a := 0) (b := 127) (by omega)
  by_cases c4 : gap < 0 ∨ 262144 < gap
  · rw [if_pos c4]
    have w4 := within_f (n := gap) (a := 0) (b := 262144) (by omega)
    have w5 := w1
    refine pret_of ok mixed (A := A15) 1 Try.func15 rfl ?_
    (repeat' (first | exact rfl | ((conv => whnf); first | refine ⟨_, w1, ?_⟩ | refine ⟨_, w3, ?_⟩ | refine ⟨_, w4, ?_⟩ | refine ⟨_, w5, ?_⟩ | exact rfl | refine ⟨by kernel_rfl, ?_⟩ | exact ⟨rfl, rfl⟩ | refine ⟨rfl, ?_⟩ | refine ⟨by (first | omega | (simp (disch := omega) only [wrapI]; omega) | (simp (disch := omega) only [wrapI]; simp; omega) | (simp; omega)), ?_⟩ | (intro ep) | (refine ifB (fun hb => ?_) (fun hb => ?_) <;> (try simp only [decide_eq_true_eq, decide_eq_false_iff_not, beq_iff_eq, beq_eq_false_iff_ne, bne_iff_ne, bne_eq_false_iff_eq, ne_eq, not_false_eq_true, not_true_eq_false, Bool.not_eq_true, Bool.not_eq_true', Bool.not_eq_false', Int.not_lt, Int.not_le] at hb) <;> (try simp (disch := omega) only [wrapI] at hb) <;> (try (exfalso; omega))) | fail)))
  rw [if_neg c4]
  have w4 := within_t (n := gap) (a := 0) (b := 262144) (by omega)
  by_cases c5 : cross < 0 ∨ 10 < cross
  · rw [if_pos c5]
    have w5 := within_f (n := cross) (a := 0) (b := 10) (by omega)
    refine pret_of ok mixed (A := A15) 1 Try.func15 rfl ?_
    (repeat' (first | exact rfl | ((conv => whnf); first | refine ⟨_, w1, ?_⟩ | refine ⟨_, w3, ?_⟩ | refine ⟨_, w4, ?_⟩ | refine ⟨_, w5, ?_⟩ | exact rfl | refine ⟨by kernel_rfl, ?_⟩ | exact ⟨rfl, rfl⟩ | refine ⟨rfl, ?_⟩ | refine ⟨by (first | omega | (simp (disch := omega) only [wrapI]; omega) | (simp (disch := omega) only [wrapI]; simp; omega) | (simp; omega)), ?_⟩ | (intro ep) | (refine ifB (fun hb => ?_) (fun hb => ?_) <;> (try simp only [decide_eq_true_eq, decide_eq_false_iff_not, beq_iff_eq, beq_eq_false_iff_ne, bne_iff_ne, bne_eq_false_iff_eq, ne_eq, not_false_eq_true, not_true_eq_false, Bool.not_eq_true, Bool.not_eq_true', Bool.not_eq_false', Int.not_lt, Int.not_le] at hb) <;> (try simp (disch := omega) only [wrapI] at hb) <;> (try (exfalso; omega))) | fail)))
  rw [if_neg c5]
  have w5 := within_t (n := cross) (a := 0) (b := 10) (by omega)
  obtain ⟨R, hR⟩ : ∃ R, R = prs lo hi := ⟨_, rfl⟩
  rw [← hR]
  refine pret_of ok mixed (A := A15) 1 Try.func15 rfl ?_
  (conv => whnf)
  intro e0
  (repeat' (first | exact rfl | ((conv => whnf); first | refine ⟨_, w1, ?_⟩ | refine ⟨_, w3, ?_⟩ | refine ⟨_, w4, ?_⟩ | refine ⟨_, w5, ?_⟩ | exact rfl | refine ⟨by kernel_rfl, ?_⟩ | exact ⟨rfl, rfl⟩ | refine ⟨rfl, ?_⟩ | refine ⟨by (first | omega | (simp (disch := omega) only [wrapI]; omega) | (simp (disch := omega) only [wrapI]; simp; omega) | (simp; omega)), ?_⟩ | (intro ep) | (refine ifB (fun hb => ?_) (fun hb => ?_) <;> (try simp only [decide_eq_true_eq, decide_eq_false_iff_not, beq_iff_eq, beq_eq_false_iff_ne, bne_iff_ne, bne_eq_false_iff_eq, ne_eq, not_false_eq_true, not_true_eq_false, Bool.not_eq_true, Bool.not_eq_true', Bool.not_eq_false', Int.not_lt, Int.not_le] at hb) <;> (try simp (disch := omega) only [wrapI] at hb) <;> (try (exfalso; omega))) | fail)))
  all_goals (conv => whnf)
  refine loopY ok mixed (A := A15) [1, 36, 37] [0] (S := { k : Nat // k ≤ lo.length ∧ prs (lo.drop k) (hi.drop k) = R })
    (fr := fun s => frOf 0 68 [(1, .optr (.s 0) e0 5 0 0), (36, .int .i64 (lo.length : Int)), (37, .int .i64 (s.1 : Int))])
    (h := fun s => ⟨[.vec e0 [lmR ⟨lo, hi, leap, gap, cross⟩]], []⟩) (μ := fun s => lo.length - s.1) ⟨0, by simp [hR]⟩ ?_ ?_
    [] [] (S' := { k : Nat // 0 = R }) (X := fun _ => 0) (frX := fun s => frOf 0 68 []) (hX := fun s => ⟨[.hole], []⟩)
    [2] [] (S2 := { k : Nat // 70 = R }) (frR := fun s => frOf 0 68 [(2, .int .i64 70)]) (hR := fun s => ⟨[.hole], []⟩) ?_ ?_ ?_
  · exact rfl
  · exact rfl
  · rintro ⟨k, hk, hu⟩
    show aexR _ _ _ (frOf 0 68 [(1, .optr (.s 0) e0 5 0 0), (36, .int .i64 (lo.length : Int)), (37, .int .i64 (k : Int))]) ⟨[.vec e0 [lmR ⟨lo, hi, leap, gap, cross⟩]], []⟩ _
    (conv => whnf)
    refine ifB (fun g1 => ?_) (fun g1 => ?_)
    · simp only [decide_eq_true_eq] at g1
      have h1 : k < lo.length := by omega
      have h2 : k < hi.length := by omega
      have hm := intsR h1
      have hm2 := intsR h2
      rw [List.drop_eq_getElem_cons h1, List.drop_eq_getElem_cons h2, prs] at hu
      generalize lo[k] = a at hm hu
      generalize hi[k] = b at hm2 hu
      by_cases c6 : a < 0 ∨ b < a ∨ 127 < b
      · rw [if_pos c6] at hu
        (repeat' (first | exact rfl | ((conv => whnf); first | refine optS hm ?_ | refine optS hm2 ?_ | exact rfl | refine ⟨by kernel_rfl, ?_⟩ | exact ⟨rfl, rfl⟩ | refine ⟨rfl, ?_⟩ | refine ⟨by (first | omega | (simp (disch := omega) only [wrapI]; omega) | (simp (disch := omega) only [wrapI]; simp; omega) | (simp; omega)), ?_⟩ | (intro ep) | (refine ifB (fun hb => ?_) (fun hb => ?_) <;> (try simp only [decide_eq_true_eq, decide_eq_false_iff_not, beq_iff_eq, beq_eq_false_iff_ne, bne_iff_ne, bne_eq_false_iff_eq, ne_eq, not_false_eq_true, not_true_eq_false, Bool.not_eq_true, Bool.not_eq_true', Bool.not_eq_false', Int.not_lt, Int.not_le] at hb) <;> (try simp (disch := omega) only [wrapI] at hb) <;> (try (exfalso; omega))) | fail)))
        all_goals (conv => whnf)
        all_goals exact back_of ⟨0, hu⟩ ⟨rfl, rfl⟩
      · rw [if_neg c6] at hu
        (repeat' (first | exact rfl | ((conv => whnf); first | refine optS hm ?_ | refine optS hm2 ?_ | exact rfl | refine ⟨by kernel_rfl, ?_⟩ | exact ⟨rfl, rfl⟩ | refine ⟨rfl, ?_⟩ | refine ⟨by (first | omega | (simp (disch := omega) only [wrapI]; omega) | (simp (disch := omega) only [wrapI]; simp; omega) | (simp; omega)), ?_⟩ | (intro ep) | (refine ifB (fun hb => ?_) (fun hb => ?_) <;> (try simp only [decide_eq_true_eq, decide_eq_false_iff_not, beq_iff_eq, beq_eq_false_iff_ne, bne_iff_ne, bne_eq_false_iff_eq, ne_eq, not_false_eq_true, not_true_eq_false, Bool.not_eq_true, Bool.not_eq_true', Bool.not_eq_false', Int.not_lt, Int.not_le] at hb) <;> (try simp (disch := omega) only [wrapI] at hb) <;> (try (exfalso; omega))) | fail)))
        all_goals (conv => whnf)
        all_goals exact back_of ⟨k + 1, by omega, hu⟩ ⟨by (first | exact rfl | (simp (disch := omega) only [wrapI]; exact rfl)), rfl, by simp only; omega⟩
    · simp only [decide_eq_false_iff_not] at g1
      rw [List.drop_eq_nil_of_le (by omega), prs] at hu
      · (repeat' (first | exact rfl | ((conv => whnf); first | exact rfl | refine ⟨by kernel_rfl, ?_⟩ | exact ⟨rfl, rfl⟩ | refine ⟨rfl, ?_⟩ | refine ⟨by (first | omega | (simp (disch := omega) only [wrapI]; omega) | (simp (disch := omega) only [wrapI]; simp; omega) | (simp; omega)), ?_⟩ | (intro ep) | fail)))
        all_goals (conv => whnf)
        exact back_of ⟨0, hu⟩ ⟨rfl, rfl, rfl⟩
      · intro a r b s h; cases h
  · rintro ⟨x, hx⟩
    (repeat' (first | exact rfl | ((conv => whnf); first | exact rfl | refine ⟨by kernel_rfl, ?_⟩ | exact ⟨rfl, rfl⟩ | refine ⟨rfl, ?_⟩ | refine ⟨by (first | omega | (simp (disch := omega) only [wrapI]; omega) | (simp (disch := omega) only [wrapI]; simp; omega) | (simp; omega)), ?_⟩ | (intro ep) | fail)))
    all_goals (conv => whnf)
    all_goals (subst hx; rfl)
  · rintro ⟨x, hx⟩
    (repeat' (first | exact rfl | ((conv => whnf); first | exact rfl | refine ⟨by kernel_rfl, ?_⟩ | exact ⟨rfl, rfl⟩ | refine ⟨rfl, ?_⟩ | refine ⟨by (first | omega | (simp (disch := omega) only [wrapI]; omega) | (simp (disch := omega) only [wrapI]; simp; omega) | (simp; omega)), ?_⟩ | (intro ep) | fail)))
    all_goals (conv => whnf)
    all_goals (subst hx; rfl)
end Go.Ab.V

/-
  Whether notes are valid. No condition.
-/
namespace Go.Ab.V
open Go.Proofs

def ntBad (n : Nt) : Prop := n.e < 0 ∨ 399 < n.e ∨ n.c < 1 ∨ 14 < n.c ∨ n.p < 0 ∨ 127 < n.p ∨ n.f < 0 ∨ n.t ≤ n.f ∨ 262144 < n.t
instance (n : Nt) : Decidable (ntBad n) := by unfold ntBad; infer_instance
def ntOff (b n : Nt) : Prop := ¬ ((b.e = n.e ∧ b.c < n.c ∧ b.f = n.f) ∨ (b.e < n.e ∧ b.f < n.f))
instance (b n : Nt) : Decidable (ntOff b n) := by unfold ntOff; infer_instance
/-- what is wrong with notes behind a note -/
def chkNs : Option Nt → List Nt → Int
  | none, [] => 0
  | some _, [] => 0
  | none, n :: r => if ntBad n then 1 else chkNs (some n) r
  | some b, n :: r => if ntBad n then 1 else if ntOff b n then 1 else chkNs (some n) r
def chkN (l : List Nt) : Int := if 5600 < l.length then 2 else chkNs none l
def prv (l : List Nt) (k : Nat) : Option Nt := if k = 0 then none else l[k - 1]?

def A17 : Ann := fun r => match r with
  | 5 => { slots := [(3, 0)] }
  | 9 => { slots := [(5, 1)] }
  | _ => {}
set_option maxHeartbeats 8000000 in
set_option maxRecDepth 100000 in
theorem checkNotes_spec (l : List Nt) (hl : l.length ≤ 9223372036854775807) : PRet C.P 17 [ntsA l] (.int .i64 (chkN l)) := by
  unfold chkN
  by_cases c0 : 5600 < l.length
  · rw [if_pos c0]
    refine pret_of ok mixed (A := A17) 2 Try.func17 rfl ?_
    (repeat' (first | exact rfl | ((conv => whnf); first | exact rfl | refine ⟨by kernel_rfl, ?_⟩ | exact ⟨rfl, rfl⟩ | refine ⟨rfl, ?_⟩ | refine ⟨by (first | omega | (simp (disch := omega) only [wrapI]; omega) | (simp (disch := omega) only [wrapI]; simp; omega) | (simp; omega)), ?_⟩ | (intro ep) | (refine ifB (fun hb => ?_) (fun hb => ?_) <;> (try simp only [decide_eq_true_eq, decide_eq_false_iff_not, beq_iff_eq, beq_eq_false_iff_ne, bne_iff_ne, bne_eq_false_iff_eq, ne_eq, not_false_eq_true, not_true_eq_false, Bool.not_eq_true, Bool.not_eq_true', Bool.not_eq_false', Int.not_lt, Int.not_le] at hb) <;> (try simp (disch := omega) only [wrapI] at hb) <;> (try (exfalso; omega))) | fail)))
  rw [if_neg c0]
  obtain ⟨R, hR⟩ : ∃ R, R = chkNs none l := ⟨_, rfl⟩
  rw [← hR]
  refine pret_of ok mixed (A := A17) 2 Try.func17 rfl ?_
  (repeat' (first | exact rfl | ((conv => whnf); first | exact rfl | refine ⟨by kernel_rfl, ?_⟩ | exact ⟨rfl, rfl⟩ | refine ⟨rfl, ?_⟩ | refine ⟨by (first | omega | (simp (disch := omega) only [wrapI]; omega) | (simp (disch := omega) only [wrapI]; simp; omega) | (simp; omega)), ?_⟩ | (intro ep) | (refine ifB (fun hb => ?_) (fun hb => ?_) <;> (try simp only [decide_eq_true_eq, decide_eq_false_iff_not, beq_iff_eq, beq_eq_false_iff_ne, bne_iff_ne, bne_eq_false_iff_eq, ne_eq, not_false_eq_true, not_true_eq_false, Bool.not_eq_true, Bool.not_eq_true', Bool.not_eq_false', Int.not_lt, Int.not_le] at hb) <;> (try simp (disch := omega) only [wrapI] at hb) <;> (try (exfalso; omega))) | fail)))
  all_goals (conv => whnf)
  refine loopY ok mixed (A := A17) [0, 9, 10, 11] [] (S := { k : Nat // k ≤ l.length ∧ chkNs (prv l k) (l.drop k) = R })
    (fr := fun s => frOf 0 96 [(0, ntsA l), (9, ntsA l), (10, .int .i64 (l.length : Int)), (11, .int .i64 (s.1 : Int))])
    (h := fun s => ⟨[.hole, .hole], []⟩) (μ := fun s => l.length - s.1) ⟨0, by simp [hR, prv]⟩ ?_ ?_
    [] [] (S' := { k : Nat // 0 = R }) (X := fun _ => 0) (frX := fun s => frOf 0 96 []) (hX := fun s => ⟨[.hole, .hole], []⟩)
    [2] [] (S2 := { k : Nat // 1 = R }) (frR := fun s => frOf 0 96 [(2, .int .i64 1)]) (hR := fun s => ⟨[.hole, .hole], []⟩) ?_ ?_ ?_
  · exact rfl
  · exact rfl
  · rintro ⟨k, hk, hu⟩
    show aexR _ _ _ (frOf 0 96 [(0, ntsA l), (9, ntsA l), (10, .int .i64 (l.length : Int)), (11, .int .i64 (k : Int))]) ⟨[.hole, .hole], []⟩ _
    (conv => whnf)
    refine ifB (fun g1 => ?_) (fun g1 => ?_)
    · simp only [decide_eq_true_eq] at g1
      have h1 : k < l.length := by omega
      have hm := mapR (f := ntR) h1
      rw [List.drop_eq_getElem_cons h1] at hu
      have hp : prv l (k + 1) = some l[k] := by unfold prv; rw [if_neg (by omega)]; simp
      obtain ⟨n, hn⟩ : ∃ n, l[k] = n := ⟨_, rfl⟩
      rw [hn] at hu hm hp
      obtain ⟨e, c, p, f, t⟩ := n
      replace hm : (l.map ntR)[0 + ((k : Nat) : Int).toNat]? = some [.int .i64 e, .int .i64 c, .int .i64 p, .int .i64 f, .int .i64 t] := hm
      by_cases c1 : ntBad ⟨e, c, p, f, t⟩
      · have hu2 : 1 = R := by
          cases hq : prv l k with
          | none => rw [hq, chkNs, if_pos c1] at hu; exact hu
          | some b => rw [hq, chkNs, if_pos c1] at hu; exact hu
        unfold ntBad at c1
        simp only at c1
        by_cases b0 : e < 0 ∨ 399 < e
        · have w1 := within_f (n := e) (a := 0) (b := 399) b0
          have w2 := w1
          have w3 := w1
          (repeat' (first | exact rfl | ((conv => whnf); first | refine optS hm ?_ | refine ⟨_, w1, ?_⟩ | refine ⟨_, w2, ?_⟩ | refine ⟨_, w3, ?_⟩ | exact rfl | refine ⟨by kernel_rfl, ?_⟩ | exact ⟨rfl, rfl⟩ | refine ⟨rfl, ?_⟩ | refine ⟨by (first | omega | (simp (disch := omega) only [wrapI]; omega) | (simp (disch := omega) only [wrapI]; simp; omega) | (simp; omega)), ?_⟩ | (intro ep) | (refine ifB (fun hb => ?_) (fun hb => ?_) <;> (try simp only [decide_eq_true_eq, decide_eq_false_iff_not, beq_iff_eq, beq_eq_false_iff_ne, bne_iff_ne, bne_eq_false_iff_eq, ne_eq, not_false_eq_true, not_true_eq_false, Bool.not_eq_true, Bool.not_eq_true', Bool.not_eq_false', Int.not_lt, Int.not_le] at hb) <;> (try simp (disch := omega) only [wrapI] at hb) <;> (try (exfalso; omega))) | fail)))
          all_goals (conv => whnf)
          all_goals exact back_of ⟨0, hu2⟩ ⟨rfl, rfl⟩
        have w1 := within_t (n := e) (a := 0) (b := 399) (by omega)
        by_cases b1 : c < 1 ∨ 14 < c
        · have w2 := within_f (n := c) (a := 1) (b := 14) b1
          have w3 := w2
          (repeat' (first | exact rfl | ((conv => whnf); first | refine optS hm ?_ | refine ⟨_, w1, ?_⟩ | refine ⟨_, w2, ?_⟩ | refine ⟨_, w3, ?_⟩ | exact rfl | refine ⟨by kernel_rfl, ?_⟩ | exact ⟨rfl, rfl⟩ | refine ⟨rfl, ?_⟩ | refine ⟨by (first | omega | (simp (disch := omega) only [wrapI]; omega) | (simp (disch := omega) only [wrapI]; simp; omega) | (simp; omega)), ?_⟩ | (intro ep) | (refine ifB (fun hb => ?_) (fun hb => ?_) <;> (try simp only [decide_eq_true_eq, decide_eq_false_iff_not, beq_iff_eq, beq_eq_false_iff_ne, bne_iff_ne, bne_eq_false_iff_eq, ne_eq, not_false_eq_true, not_true_eq_false, Bool.not_eq_true, Bool.not_eq_true', Bool.not_eq_false', Int.not_lt, Int.not_le] at hb) <;> (try simp (disch := omega) only [wrapI] at hb) <;> (try (exfalso; omega))) | fail)))
          all_goals (conv => whnf)
          all_goals exact back_of ⟨0, hu2⟩ ⟨rfl, rfl⟩
        have w2 := within_t (n := c) (a := 1) (b := 14) (by omega)
        by_cases b2 : p < 0 ∨ 127 < p
        · have w3 := within_f (n := p) (a := 0) (b := 127) b2
          (repeat' (first | exact rfl | ((conv => whnf); first | refine optS hm ?_ | refine ⟨_, w1, ?_⟩ | refine ⟨_, w2, ?_⟩ | refine ⟨_, w3, ?_⟩ | exact rfl | refine ⟨by kernel_rfl, ?_⟩ | exact ⟨rfl, rfl⟩ | refine ⟨rfl, ?_⟩ | refine ⟨by (first | omega | (simp (disch := omega) only [wrapI]; omega) | (simp (disch := omega) only [wrapI]; simp; omega) | (simp; omega)), ?_⟩ | (intro ep) | (refine ifB (fun hb => ?_) (fun hb => ?_) <;> (try simp only [decide_eq_true_eq, decide_eq_false_iff_not, beq_iff_eq, beq_eq_false_iff_ne, bne_iff_ne, bne_eq_false_iff_eq, ne_eq, not_false_eq_true, not_true_eq_false, Bool.not_eq_true, Bool.not_eq_true', Bool.not_eq_false', Int.not_lt, Int.not_le] at hb) <;> (try simp (disch := omega) only [wrapI] at hb) <;> (try (exfalso; omega))) | fail)))
          all_goals (conv => whnf)
          all_goals exact back_of ⟨0, hu2⟩ ⟨rfl, rfl⟩
        have w3 := within_t (n := p) (a := 0) (b := 127) (by omega)
        (repeat' (first | exact rfl | ((conv => whnf); first | refine optS hm ?_ | refine ⟨_, w1, ?_⟩ | refine ⟨_, w2, ?_⟩ | refine ⟨_, w3, ?_⟩ | exact rfl | refine ⟨by kernel_rfl, ?_⟩ | exact ⟨rfl, rfl⟩ | refine ⟨rfl, ?_⟩ | refine ⟨by (first | omega | (simp (disch := omega) only [wrapI]; omega) | (simp (disch := omega) only [wrapI]; simp; omega) | (simp; omega)), ?_⟩ | (intro ep) | (refine ifB (fun hb => ?_) (fun hb => ?_) <;> (try simp only [decide_eq_true_eq, decide_eq_false_iff_not, beq_iff_eq, beq_eq_false_iff_ne, bne_iff_ne, bne_eq_false_iff_eq, ne_eq, not_false_eq_true, not_true_eq_false, Bool.not_eq_true, Bool.not_eq_true', Bool.not_eq_false', Int.not_lt, Int.not_le] at hb) <;> (try simp (disch := omega) only [wrapI] at hb) <;> (try (exfalso; omega))) | fail)))
        all_goals (conv => whnf)
        all_goals exact back_of ⟨0, hu2⟩ ⟨rfl, rfl⟩
      have c1' := c1
      unfold ntBad at c1
      simp only at c1
      have w1 := within_t (n := e) (a := 0) (b := 399) (by omega)
      have w2 := within_t (n := c) (a := 1) (b := 14) (by omega)
      have w3 := within_t (n := p) (a := 0) (b := 127) (by omega)
      cases k with
      | zero =>
        have hu2 : chkNs (some ⟨e, c, p, f, t⟩) (l.drop 1) = R := by
          rw [show prv l 0 = none from rfl, chkNs, if_neg c1'] at hu; exact hu
        (repeat' (first | exact rfl | ((conv => whnf); first | refine optS hm ?_ | refine ⟨_, w1, ?_⟩ | refine ⟨_, w2, ?_⟩ | refine ⟨_, w3, ?_⟩ | exact rfl | refine ⟨by kernel_rfl, ?_⟩ | exact ⟨rfl, rfl⟩ | refine ⟨rfl, ?_⟩ | refine ⟨by (first | omega | (simp (disch := omega) only [wrapI]; omega) | (simp (disch := omega) only [wrapI]; simp; omega) | (simp; omega)), ?_⟩ | (intro ep) | (refine ifB (fun hb => ?_) (fun hb => ?_) <;> (try simp only [decide_eq_true_eq, decide_eq_false_iff_not, beq_iff_eq, beq_eq_false_iff_ne, bne_iff_ne, bne_eq_false_iff_eq, ne_eq, not_false_eq_true, not_true_eq_false, Bool.not_eq_true, Bool.not_eq_true', Bool.not_eq_false', Int.not_lt, Int.not_le] at hb) <;> (try simp (disch := omega) only [wrapI] at hb) <;> (try (exfalso; omega))) | fail)))
        all_goals (conv => whnf)
        all_goals exact back_of ⟨1, by omega, by rw [hp]; exact hu2⟩ ⟨by (first | exact rfl | (simp (disch := omega) only [wrapI]; exact rfl)), rfl, by simp only; omega⟩
      | succ j =>
        have h2 : j < l.length := by omega
        have hm2 := mapR (f := ntR) h2
        have hq : prv l (j + 1) = some l[j] := by unfold prv; rw [if_neg (by omega)]; simp
        rw [hq] at hu
        generalize l[j] = b at hm2 hu
        obtain ⟨e', c', p', f', t'⟩ := b
        replace hm2 : (l.map ntR)[0 + (IntKind.i64.wrap (((j + 1 : Nat) : Int) - 1)).toNat]? = some [.int .i64 e', .int .i64 c', .int .i64 p', .int .i64 f', .int .i64 t'] := by
          rw [wrapI (by omega) (by omega), show ((j + 1 : Nat) : Int) - 1 = (j : Int) by omega]; exact hm2
        rw [chkNs, if_neg c1'] at hu
        by_cases c2 : ntOff ⟨e', c', p', f', t'⟩ ⟨e, c, p, f, t⟩
        · rw [if_pos c2] at hu
          unfold ntOff at c2
          simp only at c2
          (repeat' (first | exact rfl | ((conv => whnf); first | refine optS hm ?_ | refine optS hm2 ?_ | refine ⟨_, w1, ?_⟩ | refine ⟨_, w2, ?_⟩ | refine ⟨_, w3, ?_⟩ | exact rfl | refine ⟨by kernel_rfl, ?_⟩ | exact ⟨rfl, rfl⟩ | refine ⟨rfl, ?_⟩ | refine ⟨by (first | omega | (simp (disch := omega) only [wrapI]; omega) | (simp (disch := omega) only [wrapI]; simp; omega) | (simp; omega)), ?_⟩ | (intro ep) | (refine ifB (fun hb => ?_) (fun hb => ?_) <;> (try simp only [decide_eq_true_eq, decide_eq_false_iff_not, beq_iff_eq, beq_eq_false_iff_ne, bne_iff_ne, bne_eq_false_iff_eq, ne_eq, not_false_eq_true, not_true_eq_false, Bool.not_eq_true, Bool.not_eq_true', Bool.not_eq_false', Int.not_lt, Int.not_le] at hb) <;> (try simp (disch := omega) only [wrapI] at hb) <;> (try (exfalso; omega))) | fail)))
          all_goals (conv => whnf)
          all_goals exact back_of ⟨0, hu⟩ ⟨rfl, rfl⟩
        · rw [if_neg c2] at hu
          unfold ntOff at c2
          simp only at c2
          (repeat' (first | exact rfl | ((conv => whnf); first | refine optS hm ?_ | refine optS hm2 ?_ | refine ⟨_, w1, ?_⟩ | refine ⟨_, w2, ?_⟩ | refine ⟨_, w3, ?_⟩ | exact rfl | refine ⟨by kernel_rfl, ?_⟩ | exact ⟨rfl, rfl⟩ | refine ⟨rfl, ?_⟩ | refine ⟨by (first | omega | (simp (disch := omega) only [wrapI]; omega) | (simp (disch := omega) only [wrapI]; simp; omega) | (simp; omega)), ?_⟩ | (intro ep) | (refine ifB (fun hb => ?_) (fun hb => ?_) <;> (try simp only [decide_eq_true_eq, decide_eq_false_iff_not, beq_iff_eq, beq_eq_false_iff_ne, bne_iff_ne, bne_eq_false_iff_eq, ne_eq, not_false_eq_true, not_true_eq_false, Bool.not_eq_true, Bool.not_eq_true', Bool.not_eq_false', Int.not_lt, Int.not_le] at hb) <;> (try simp (disch := omega) only [wrapI] at hb) <;> (try (exfalso; omega))) | fail)))
          all_goals (conv => whnf)
          all_goals exact back_of ⟨j + 1 + 1, by omega, by rw [hp]; exact hu⟩ ⟨by (first | exact rfl | (simp (disch := omega) only [wrapI]; exact rfl)), rfl, by simp only; omega⟩
    · simp only [decide_eq_false_iff_not] at g1
      rw [List.drop_eq_nil_of_le (by omega)] at hu
      have hu2 : 0 = R := by
        cases hq : prv l k with
        | none => rw [hq, chkNs] at hu; exact hu
        | some b => rw [hq, chkNs] at hu; exact hu
      (repeat' (first | exact rfl | ((conv => whnf); first | exact rfl | refine ⟨by kernel_rfl, ?_⟩ | exact ⟨rfl, rfl⟩ | refine ⟨rfl, ?_⟩ | refine ⟨by (first | omega | (simp (disch := omega) only [wrapI]; omega) | (simp (disch := omega) only [wrapI]; simp; omega) | (simp; omega)), ?_⟩ | (intro ep) | fail)))
      all_goals (conv => whnf)
      exact back_of ⟨0, hu2⟩ ⟨rfl, rfl, rfl⟩
  · rintro ⟨x, hx⟩
    (repeat' (first | exact rfl | ((conv => whnf); first | exact rfl | refine ⟨by kernel_rfl, ?_⟩ | exact ⟨rfl, rfl⟩ | refine ⟨rfl, ?_⟩ | refine ⟨by (first | omega | (simp (disch := omega) only [wrapI]; omega) | (simp (disch := omega) only [wrapI]; simp; omega) | (simp; omega)), ?_⟩ | (intro ep) | fail)))
    all_goals (conv => whnf)
    all_goals (subst hx; rfl)
  · rintro ⟨x, hx⟩
    (repeat' (first | exact rfl | ((conv => whnf); first | exact rfl | refine ⟨by kernel_rfl, ?_⟩ | exact ⟨rfl, rfl⟩ | refine ⟨rfl, ?_⟩ | refine ⟨by (first | omega | (simp (disch := omega) only [wrapI]; omega) | (simp (disch := omega) only [wrapI]; simp; omega) | (simp; omega)), ?_⟩ | (intro ep) | fail)))
    all_goals (conv => whnf)
    all_goals (subst hx; rfl)
end Go.Ab.V

/-
  Whether notes are valid, as the document says it. No condition.
-/
namespace Go.Ab.V
open Go.Proofs

def A18 : Ann := fun r => match r with
  | 6 => { slots := [(4, 0)] }
  | 10 => { slots := [(5, 1)] }
  | _ => {}
set_option maxHeartbeats 8000000 in
set_option maxRecDepth 100000 in
theorem refCheckNotes_spec (l : List Nt) (hl : l.length ≤ 9223372036854775807) : PRet C.P 18 [ntsA l] (.int .i64 (chkN l)) := by
  unfold chkN
  by_cases c0 : 5600 < l.length
  · rw [if_pos c0]
    refine pret_of ok mixed (A := A18) 2 Try.func18 rfl ?_
    (repeat' (first | exact rfl | ((conv => whnf); first | exact rfl | refine ⟨by kernel_rfl, ?_⟩ | exact ⟨rfl, rfl⟩ | refine ⟨rfl, ?_⟩ | refine ⟨by (first | omega | (simp (disch := omega) only [wrapI]; omega) | (simp (disch := omega) only [wrapI]; simp; omega) | (simp; omega)), ?_⟩ | (intro ep) | (refine ifB (fun hb => ?_) (fun hb => ?_) <;> (try simp only [decide_eq_true_eq, decide_eq_false_iff_not, beq_iff_eq, beq_eq_false_iff_ne, bne_iff_ne, bne_eq_false_iff_eq, ne_eq, not_false_eq_true, not_true_eq_false, Bool.not_eq_true, Bool.not_eq_true', Bool.not_eq_false', Int.not_lt, Int.not_le] at hb) <;> (try simp (disch := omega) only [wrapI] at hb) <;> (try (exfalso; omega))) | fail)))
  rw [if_neg c0]
  obtain ⟨R, hR⟩ : ∃ R, R = chkNs none l := ⟨_, rfl⟩
  rw [← hR]
  refine pret_of ok mixed (A := A18) 2 Try.func18 rfl ?_
  (repeat' (first | exact rfl | ((conv => whnf); first | exact rfl | refine ⟨by kernel_rfl, ?_⟩ | exact ⟨rfl, rfl⟩ | refine ⟨rfl, ?_⟩ | refine ⟨by (first | omega | (simp (disch := omega) only [wrapI]; omega) | (simp (disch := omega) only [wrapI]; simp; omega) | (simp; omega)), ?_⟩ | (intro ep) | (refine ifB (fun hb => ?_) (fun hb => ?_) <;> (try simp only [decide_eq_true_eq, decide_eq_false_iff_not, beq_iff_eq, beq_eq_false_iff_ne, bne_iff_ne, bne_eq_false_iff_eq, ne_eq, not_false_eq_true, not_true_eq_false, Bool.not_eq_true, Bool.not_eq_true', Bool.not_eq_false', Int.not_lt, Int.not_le] at hb) <;> (try simp (disch := omega) only [wrapI] at hb) <;> (try (exfalso; omega))) | fail)))
  all_goals (conv => whnf)
  refine loopY ok mixed (A := A18) [0, 3] [] (S := { k : Nat // k ≤ l.length ∧ chkNs (prv l k) (l.drop k) = R })
    (fr := fun s => frOf 0 110 [(0, ntsA l), (3, .int .i64 (s.1 : Int))])
    (h := fun s => ⟨[.hole, .hole], []⟩) (μ := fun s => l.length - s.1) ⟨0, by simp [hR, prv]⟩ ?_ ?_
    [] [] (S' := { k : Nat // 0 = R }) (X := fun _ => 0) (frX := fun s => frOf 0 110 []) (hX := fun s => ⟨[.hole, .hole], []⟩)
    [2] [] (S2 := { k : Nat // 1 = R }) (frR := fun s => frOf 0 110 [(2, .int .i64 1)]) (hR := fun s => ⟨[.hole, .hole], []⟩) ?_ ?_ ?_
  · exact rfl
  · exact rfl
  · rintro ⟨k, hk, hu⟩
    show aexR _ _ _ (frOf 0 110 [(0, ntsA l), (3, .int .i64 (k : Int))]) ⟨[.hole, .hole], []⟩ _
    (conv => whnf)
    refine ifB (fun g1 => ?_) (fun g1 => ?_)
    · simp only [decide_eq_true_eq] at g1
      have h1 : k < l.length := by omega
      have hm := mapR (f := ntR) h1
      rw [List.drop_eq_getElem_cons h1] at hu
      have hp : prv l (k + 1) = some l[k] := by unfold prv; rw [if_neg (by omega)]; simp
      obtain ⟨n, hn⟩ : ∃ n, l[k] = n := ⟨_, rfl⟩
      rw [hn] at hu hm hp
      obtain ⟨e, c, p, f, t⟩ := n
      replace hm : (l.map ntR)[0 + ((k : Nat) : Int).toNat]? = some [.int .i64 e, .int .i64 c, .int .i64 p, .int .i64 f, .int .i64 t] := hm
      by_cases c1 : ntBad ⟨e, c, p, f, t⟩
      · have hu2 : 1 = R := by
          cases hq : prv l k with
          | none => rw [hq, chkNs, if_pos c1] at hu; exact hu
          | some b => rw [hq, chkNs, if_pos c1] at hu; exact hu
        unfold ntBad at c1
        simp only at c1
        (repeat' (first | exact rfl | ((conv => whnf); first | refine optS hm ?_ | exact rfl | refine ⟨by kernel_rfl, ?_⟩ | exact ⟨rfl, rfl⟩ | refine ⟨rfl, ?_⟩ | refine ⟨by (first | omega | (simp (disch := omega) only [wrapI]; omega) | (simp (disch := omega) only [wrapI]; simp; omega) | (simp; omega)), ?_⟩ | (intro ep) | (refine ifB (fun hb => ?_) (fun hb => ?_) <;> (try simp only [decide_eq_true_eq, decide_eq_false_iff_not, beq_iff_eq, beq_eq_false_iff_ne, bne_iff_ne, bne_eq_false_iff_eq, ne_eq, not_false_eq_true, not_true_eq_false, Bool.not_eq_true, Bool.not_eq_true', Bool.not_eq_false', Int.not_lt, Int.not_le] at hb) <;> (try simp (disch := omega) only [wrapI] at hb) <;> (try (exfalso; omega))) | fail)))
        all_goals (conv => whnf)
        all_goals exact back_of ⟨0, hu2⟩ ⟨rfl, rfl⟩
      have c1' := c1
      unfold ntBad at c1
      simp only at c1

      cases k with
      | zero =>
        have hu2 : chkNs (some ⟨e, c, p, f, t⟩) (l.drop 1) = R := by
          rw [show prv l 0 = none from rfl, chkNs, if_neg c1'] at hu; exact hu
        (repeat' (first | exact rfl | ((conv => whnf); first | refine optS hm ?_ | exact rfl | refine ⟨by kernel_rfl, ?_⟩ | exact ⟨rfl, rfl⟩ | refine ⟨rfl, ?_⟩ | refine ⟨by (first | omega | (simp (disch := omega) only [wrapI]; omega) | (simp (disch := omega) only [wrapI]; simp; omega) | (simp; omega)), ?_⟩ | (intro ep) | (refine ifB (fun hb => ?_) (fun hb => ?_) <;> (try simp only [decide_eq_true_eq, decide_eq_false_iff_not, beq_iff_eq, beq_eq_false_iff_ne, bne_iff_ne, bne_eq_false_iff_eq, ne_eq, not_false_eq_true, not_true_eq_false, Bool.not_eq_true, Bool.not_eq_true', Bool.not_eq_false', Int.not_lt, Int.not_le] at hb) <;> (try simp (disch := omega) only [wrapI] at hb) <;> (try (exfalso; omega))) | fail)))
        all_goals (conv => whnf)
        all_goals exact back_of ⟨1, by omega, by rw [hp]; exact hu2⟩ ⟨by (first | exact rfl | (simp (disch := omega) only [wrapI]; exact rfl)), rfl, by simp only; omega⟩
      | succ j =>
        have h2 : j < l.length := by omega
        have hm2 := mapR (f := ntR) h2
        have hq : prv l (j + 1) = some l[j] := by unfold prv; rw [if_neg (by omega)]; simp
        rw [hq] at hu
        generalize l[j] = b at hm2 hu
        obtain ⟨e', c', p', f', t'⟩ := b
        replace hm2 : (l.map ntR)[0 + (IntKind.i64.wrap (((j + 1 : Nat) : Int) - 1)).toNat]? = some [.int .i64 e', .int .i64 c', .int .i64 p', .int .i64 f', .int .i64 t'] := by
          rw [wrapI (by omega) (by omega), show ((j + 1 : Nat) : Int) - 1 = (j : Int) by omega]; exact hm2
        rw [chkNs, if_neg c1'] at hu
        by_cases c2 : ntOff ⟨e', c', p', f', t'⟩ ⟨e, c, p, f, t⟩
        · rw [if_pos c2] at hu
          unfold ntOff at c2
          simp only at c2
          (repeat' (first | exact rfl | ((conv => whnf); first | refine optS hm ?_ | refine optS hm2 ?_ | exact rfl | refine ⟨by kernel_rfl, ?_⟩ | exact ⟨rfl, rfl⟩ | refine ⟨rfl, ?_⟩ | refine ⟨by (first | omega | (simp (disch := omega) only [wrapI]; omega) | (simp (disch := omega) only [wrapI]; simp; omega) | (simp; omega)), ?_⟩ | (intro ep) | (refine ifB (fun hb => ?_) (fun hb => ?_) <;> (try simp only [decide_eq_true_eq, decide_eq_false_iff_not, beq_iff_eq, beq_eq_false_iff_ne, bne_iff_ne, bne_eq_false_iff_eq, ne_eq, not_false_eq_true, not_true_eq_false, Bool.not_eq_true, Bool.not_eq_true', Bool.not_eq_false', Int.not_lt, Int.not_le] at hb) <;> (try simp (disch := omega) only [wrapI] at hb) <;> (try (exfalso; omega))) | fail)))
          all_goals (conv => whnf)
          all_goals exact back_of ⟨0, hu⟩ ⟨rfl, rfl⟩
        · rw [if_neg c2] at hu
          unfold ntOff at c2
          simp only at c2
          (repeat' (first | exact rfl | ((conv => whnf); first | refine optS hm ?_ | refine optS hm2 ?_ | exact rfl | refine ⟨by kernel_rfl, ?_⟩ | exact ⟨rfl, rfl⟩ | refine ⟨rfl, ?_⟩ | refine ⟨by (first | omega | (simp (disch := omega) only [wrapI]; omega) | (simp (disch := omega) only [wrapI]; simp; omega) | (simp; omega)), ?_⟩ | (intro ep) | (refine ifB (fun hb => ?_) (fun hb => ?_) <;> (try simp only [decide_eq_true_eq, decide_eq_false_iff_not, beq_iff_eq, beq_eq_false_iff_ne, bne_iff_ne, bne_eq_false_iff_eq, ne_eq, not_false_eq_true, not_true_eq_false, Bool.not_eq_true, Bool.not_eq_true', Bool.not_eq_false', Int.not_lt, Int.not_le] at hb) <;> (try simp (disch := omega) only [wrapI] at hb) <;> (try (exfalso; omega))) | fail)))
          all_goals (conv => whnf)
          all_goals exact back_of ⟨j + 1 + 1, by omega, by rw [hp]; exact hu⟩ ⟨by (first | exact rfl | (simp (disch := omega) only [wrapI]; exact rfl)), rfl, by simp only; omega⟩
    · simp only [decide_eq_false_iff_not] at g1
      rw [List.drop_eq_nil_of_le (by omega)] at hu
      have hu2 : 0 = R := by
        cases hq : prv l k with
        | none => rw [hq, chkNs] at hu; exact hu
        | some b => rw [hq, chkNs] at hu; exact hu
      (repeat' (first | exact rfl | ((conv => whnf); first | exact rfl | refine ⟨by kernel_rfl, ?_⟩ | exact ⟨rfl, rfl⟩ | refine ⟨rfl, ?_⟩ | refine ⟨by (first | omega | (simp (disch := omega) only [wrapI]; omega) | (simp (disch := omega) only [wrapI]; simp; omega) | (simp; omega)), ?_⟩ | (intro ep) | fail)))
      all_goals (conv => whnf)
      exact back_of ⟨0, hu2⟩ ⟨rfl, rfl, rfl⟩
  · rintro ⟨x, hx⟩
    (repeat' (first | exact rfl | ((conv => whnf); first | exact rfl | refine ⟨by kernel_rfl, ?_⟩ | exact ⟨rfl, rfl⟩ | refine ⟨rfl, ?_⟩ | refine ⟨by (first | omega | (simp (disch := omega) only [wrapI]; omega) | (simp (disch := omega) only [wrapI]; simp; omega) | (simp; omega)), ?_⟩ | (intro ep) | fail)))
    all_goals (conv => whnf)
    all_goals (subst hx; rfl)
  · rintro ⟨x, hx⟩
    (repeat' (first | exact rfl | ((conv => whnf); first | exact rfl | refine ⟨by kernel_rfl, ?_⟩ | exact ⟨rfl, rfl⟩ | refine ⟨rfl, ?_⟩ | refine ⟨by (first | omega | (simp (disch := omega) only [wrapI]; omega) | (simp (disch := omega) only [wrapI]; simp; omega) | (simp; omega)), ?_⟩ | (intro ep) | fail)))
    all_goals (conv => whnf)
    all_goals (subst hx; rfl)
end Go.Ab.V

/-
  Whether limits are valid, as the document says it. No condition.
-/
namespace Go.Ab.V
open Go.Proofs

def A16 : Ann := fun r => match r with
  | 0 => { slots := [(0, 0)] }
  | _ => {}
set_option maxHeartbeats 8000000 in
set_option maxRecDepth 100000 in
theorem refCheck_spec (x : Lm) (hl : x.lo.length ≤ 9223372036854775807) (hh : x.hi.length ≤ 9223372036854775807) : PRet C.P 16 [lmA x] (.int .i64 (chkL x)) := by
  obtain ⟨lo, hi, leap, gap, cross⟩ := x
  simp only at hl hh
  unfold chkL
  simp only
  by_cases c1 : lo.length < 1 ∨ 5 < lo.length
  · rw [if_pos c1]
    refine pret_of ok mixed (A := A16) 1 Try.func16 rfl ?_
    (repeat' (first | exact rfl | ((conv => whnf); first | exact rfl | refine ⟨by kernel_rfl, ?_⟩ | exact ⟨rfl, rfl⟩ | refine ⟨rfl, ?_⟩ | refine ⟨by (first | omega | (simp (disch := omega) only [wrapI]; omega) | (simp (disch := omega) only [wrapI]; simp; omega) | (simp; omega)), ?_⟩ | (intro ep) | (refine ifB (fun hb => ?_) (fun hb => ?_) <;> (try simp only [decide_eq_true_eq, decide_eq_false_iff_not, beq_iff_eq, beq_eq_false_iff_ne, bne_iff_ne, bne_eq_false_iff_eq, ne_eq, not_false_eq_true, not_true_eq_false, Bool.not_eq_true, Bool.not_eq_true', Bool.not_eq_false', Int.not_lt, Int.not_le] at hb) <;> (try simp (disch := omega) only [wrapI] at hb) <;> (try (exfalso; omega))) | fail)))
  rw [if_neg c1]
  by_cases c2 : hi.length ≠ lo.length
  · rw [if_pos c2]
    refine pret_of ok mixed (A := A16) 1 Try.func16 rfl ?_
    (repeat' (first | exact rfl | ((conv => whnf); first | exact rfl | refine ⟨by kernel_rfl, ?_⟩ | exact ⟨rfl, rfl⟩ | refine ⟨rfl, ?_⟩ | refine ⟨by (first | omega | (simp (disch := omega) only [wrapI]; omega) | (simp (disch := omega) only [wrapI]; simp; omega) | (simp; omega)), ?_⟩ | (intro ep) | (refine ifB (fun hb => ?_) (fun hb => ?_) <;> (try simp only [decide_eq_true_eq, decide_eq_false_iff_not, beq_iff_eq, beq_eq_false_iff_ne, bne_iff_ne, bne_eq_false_iff_eq, ne_eq, not_false_eq_true, not_true_eq_false, Bool.not_eq_true, Bool.not_eq_true', Bool.not_eq_false', Int.not_lt, Int.not_le] at hb) <;> (try simp (disch := omega) only [wrapI] at hb) <;> (try (exfalso; omega))) | fail)))
  rw [if_neg c2]
  by_cases c3 : leap < 0 ∨ 127 < leap
  · rw [if_pos c3]
    refine pret_of ok mixed (A := A16) 1 Try.func16 rfl ?_
    (repeat' (first | exact rfl | ((conv => whnf); first | exact rfl | refine ⟨by kernel_rfl, ?_⟩ | exact ⟨rfl, rfl⟩ | refine ⟨rfl, ?_⟩ | refine ⟨by (first | omega | (simp (disch := omega) only [wrapI]; omega) | (simp (disch := omega) only [wrapI]; simp; omega) | (simp; omega)), ?_⟩ | (intro ep) | (refine ifB (fun hb => ?_) (fun hb => ?_) <;> (try simp only [decide_eq_true_eq, decide_eq_false_iff_not, beq_iff_eq, beq_eq_false_iff_ne, bne_iff_ne, bne_eq_false_iff_eq, ne_eq, not_false_eq_true, not_true_eq_false, Bool.not_eq_true, Bool.not_eq_true', Bool.not_eq_false', Int.not_lt, Int.not_le] at hb) <;> (try simp (disch := omega) only [wrapI] at hb) <;> (try (exfalso; omega))) | fail)))
  rw [if_neg c3]
  by_cases c4 : gap < 0 ∨ 262144 < gap
  · rw [if_pos c4]
    refine pret_of ok mixed (A := A16) 1 Try.func16 rfl ?_
    (repeat' (first | exact rfl | ((conv => whnf); first | exact rfl | refine ⟨by kernel_rfl, ?_⟩ | exact ⟨rfl, rfl⟩ | refine ⟨rfl, ?_⟩ | refine ⟨by (first | omega | (simp (disch := omega) only [wrapI]; omega) | (simp (disch := omega) only [wrapI]; simp; omega) | (simp; omega)), ?_⟩ | (intro ep) | (refine ifB (fun hb => ?_) (fun hb => ?_) <;> (try simp only [decide_eq_true_eq, decide_eq_false_iff_not, beq_iff_eq, beq_eq_false_iff_ne, bne_iff_ne, bne_eq_false_iff_eq, ne_eq, not_false_eq_true, not_true_eq_false, Bool.not_eq_true, Bool.not_eq_true', Bool.not_eq_false', Int.not_lt, Int.not_le] at hb) <;> (try simp (disch := omega) only [wrapI] at hb) <;> (try (exfalso; omega))) | fail)))
  rw [if_neg c4]
  by_cases c5 : cross < 0 ∨ 10 < cross
  · rw [if_pos c5]
    refine pret_of ok mixed (A := A16) 1 Try.func16 rfl ?_
    (repeat' (first | exact rfl | ((conv => whnf); first | exact rfl | refine ⟨by kernel_rfl, ?_⟩ | exact ⟨rfl, rfl⟩ | refine ⟨rfl, ?_⟩ | refine ⟨by (first | omega | (simp (disch := omega) only [wrapI]; omega) | (simp (disch := omega) only [wrapI]; simp; omega) | (simp; omega)), ?_⟩ | (intro ep) | (refine ifB (fun hb => ?_) (fun hb => ?_) <;> (try simp only [decide_eq_true_eq, decide_eq_false_iff_not, beq_iff_eq, beq_eq_false_iff_ne, bne_iff_ne, bne_eq_false_iff_eq, ne_eq, not_false_eq_true, not_true_eq_false, Bool.not_eq_true, Bool.not_eq_true', Bool.not_eq_false', Int.not_lt, Int.not_le] at hb) <;> (try simp (disch := omega) only [wrapI] at hb) <;> (try (exfalso; omega))) | fail)))
  rw [if_neg c5]
  obtain ⟨R, hR⟩ : ∃ R, R = prs lo hi := ⟨_, rfl⟩
  rw [← hR]
  refine pret_of ok mixed (A := A16) 1 Try.func16 rfl ?_
  (conv => whnf)
  intro e0
  (repeat' (first | exact rfl | ((conv => whnf); first | exact rfl | refine ⟨by kernel_rfl, ?_⟩ | exact ⟨rfl, rfl⟩ | refine ⟨rfl, ?_⟩ | refine ⟨by (first | omega | (simp (disch := omega) only [wrapI]; omega) | (simp (disch := omega) only [wrapI]; simp; omega) | (simp; omega)), ?_⟩ | (intro ep) | (refine ifB (fun hb => ?_) (fun hb => ?_) <;> (try simp only [decide_eq_true_eq, decide_eq_false_iff_not, beq_iff_eq, beq_eq_false_iff_ne, bne_iff_ne, bne_eq_false_iff_eq, ne_eq, not_false_eq_true, not_true_eq_false, Bool.not_eq_true, Bool.not_eq_true', Bool.not_eq_false', Int.not_lt, Int.not_le] at hb) <;> (try simp (disch := omega) only [wrapI] at hb) <;> (try (exfalso; omega))) | fail)))
  all_goals (conv => whnf)
  refine loopY ok mixed (A := A16) [1, 3, 4] [0] (S := { k : Nat // k ≤ lo.length ∧ prs (lo.drop k) (hi.drop k) = R })
    (fr := fun s => frOf 0 83 [(1, .optr (.s 0) e0 5 0 0), (3, .int .i64 (lo.length : Int)), (4, .int .i64 (s.1 : Int))])
    (h := fun s => ⟨[.vec e0 [lmR ⟨lo, hi, leap, gap, cross⟩]], []⟩) (μ := fun s => lo.length - s.1) ⟨0, by simp [hR]⟩ ?_ ?_
    [] [] (S' := { k : Nat // 0 = R }) (X := fun _ => 0) (frX := fun s => frOf 0 83 []) (hX := fun s => ⟨[.hole], []⟩)
    [2] [] (S2 := { k : Nat // 70 = R }) (frR := fun s => frOf 0 83 [(2, .int .i64 70)]) (hR := fun s => ⟨[.hole], []⟩) ?_ ?_ ?_
  · exact rfl
  · exact rfl
  · rintro ⟨k, hk, hu⟩
    show aexR _ _ _ (frOf 0 83 [(1, .optr (.s 0) e0 5 0 0), (3, .int .i64 (lo.length : Int)), (4, .int .i64 (k : Int))]) ⟨[.vec e0 [lmR ⟨lo, hi, leap, gap, cross⟩]], []⟩ _
    (conv => whnf)
    refine ifB (fun g1 => ?_) (fun g1 => ?_)
    · simp only [decide_eq_true_eq] at g1
      have h1 : k < lo.length := by omega
      have h2 : k < hi.length := by omega
      have hm := intsR h1
      have hm2 := intsR h2
      rw [List.drop_eq_getElem_cons h1, List.drop_eq_getElem_cons h2, prs] at hu
      generalize lo[k] = a at hm hu
      generalize hi[k] = b at hm2 hu
      by_cases c6 : a < 0 ∨ b < a ∨ 127 < b
      · rw [if_pos c6] at hu
        (repeat' (first | exact rfl | ((conv => whnf); first | refine optS hm ?_ | refine optS hm2 ?_ | exact rfl | refine ⟨by kernel_rfl, ?_⟩ | exact ⟨rfl, rfl⟩ | refine ⟨rfl, ?_⟩ | refine ⟨by (first | omega | (simp (disch := omega) only [wrapI]; omega) | (simp (disch := omega) only [wrapI]; simp; omega) | (simp; omega)), ?_⟩ | (intro ep) | (refine ifB (fun hb => ?_) (fun hb => ?_) <;> (try simp only [decide_eq_true_eq, decide_eq_false_iff_not, beq_iff_eq, beq_eq_false_iff_ne, bne_iff_ne, bne_eq_false_iff_eq, ne_eq, not_false_eq_true, not_true_eq_false, Bool.not_eq_true, Bool.not_eq_true', Bool.not_eq_false', Int.not_lt, Int.not_le] at hb) <;> (try simp (disch := omega) only [wrapI] at hb) <;> (try (exfalso; omega))) | fail)))
        all_goals (conv => whnf)
        all_goals exact back_of ⟨0, hu⟩ ⟨rfl, rfl⟩
      · rw [if_neg c6] at hu
        (repeat' (first | exact rfl | ((conv => whnf); first | refine optS hm ?_ | refine optS hm2 ?_ | exact rfl | refine ⟨by kernel_rfl, ?_⟩ | exact ⟨rfl, rfl⟩ | refine ⟨rfl, ?_⟩ | refine ⟨by (first | omega | (simp (disch := omega) only [wrapI]; omega) | (simp (disch := omega) only [wrapI]; simp; omega) | (simp; omega)), ?_⟩ | (intro ep) | (refine ifB (fun hb => ?_) (fun hb => ?_) <;> (try simp only [decide_eq_true_eq, decide_eq_false_iff_not, beq_iff_eq, beq_eq_false_iff_ne, bne_iff_ne, bne_eq_false_iff_eq, ne_eq, not_false_eq_true, not_true_eq_false, Bool.not_eq_true, Bool.not_eq_true', Bool.not_eq_false', Int.not_lt, Int.not_le] at hb) <;> (try simp (disch := omega) only [wrapI] at hb) <;> (try (exfalso; omega))) | fail)))
        all_goals (conv => whnf)
        all_goals exact back_of ⟨k + 1, by omega, hu⟩ ⟨by (first | exact rfl | (simp (disch := omega) only [wrapI]; exact rfl)), rfl, by simp only; omega⟩
    · simp only [decide_eq_false_iff_not] at g1
      rw [List.drop_eq_nil_of_le (by omega), prs] at hu
      · (repeat' (first | exact rfl | ((conv => whnf); first | exact rfl | refine ⟨by kernel_rfl, ?_⟩ | exact ⟨rfl, rfl⟩ | refine ⟨rfl, ?_⟩ | refine ⟨by (first | omega | (simp (disch := omega) only [wrapI]; omega) | (simp (disch := omega) only [wrapI]; simp; omega) | (simp; omega)), ?_⟩ | (intro ep) | fail)))
        all_goals (conv => whnf)
        exact back_of ⟨0, hu⟩ ⟨rfl, rfl, rfl⟩
      · intro a r b s h; cases h
  · rintro ⟨x, hx⟩
    (repeat' (first | exact rfl | ((conv => whnf); first | exact rfl | refine ⟨by kernel_rfl, ?_⟩ | exact ⟨rfl, rfl⟩ | refine ⟨rfl, ?_⟩ | refine ⟨by (first | omega | (simp (disch := omega) only [wrapI]; omega) | (simp (disch := omega) only [wrapI]; simp; omega) | (simp; omega)), ?_⟩ | (intro ep) | fail)))
    all_goals (conv => whnf)
    all_goals (subst hx; rfl)
  · rintro ⟨x, hx⟩
    (repeat' (first | exact rfl | ((conv => whnf); first | exact rfl | refine ⟨by kernel_rfl, ?_⟩ | exact ⟨rfl, rfl⟩ | refine ⟨rfl, ?_⟩ | refine ⟨by (first | omega | (simp (disch := omega) only [wrapI]; omega) | (simp (disch := omega) only [wrapI]; simp; omega) | (simp; omega)), ?_⟩ | (intro ep) | fail)))
    all_goals (conv => whnf)
    all_goals (subst hx; rfl)
end Go.Ab.V
