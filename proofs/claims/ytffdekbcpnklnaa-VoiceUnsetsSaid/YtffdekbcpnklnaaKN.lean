/-
  What is proved here serves the law's text: each part says its own claim and its conditions. No condition is left open.
-/
import Derived.Test.YtffdekbcpnklnaaKM
set_option linter.unusedSimpArgs false
set_option linter.unusedVariables false

/-
  The shapes of the arguments of the laws of this seat, and its data as plain types. No condition.
-/
namespace Go.Ab
theorem shp_struct {ti : TI} {m t : Nat} {xs : List AV} {d : TD} {fs : List (Nat × Nat)} (hd : ti t = some d) (hk : d.kind = .struct fs) (h : Shp ti (m + 1) t xs) :
    xs.length = d.size ∧ ∀ f ∈ fs, ∃ df, ti f.2 = some df ∧ Shp ti m f.2 ((xs.drop f.1).take df.size) := by
  unfold Shp at h; rw [hd] at h; simp only [hk] at h; exact h
theorem shp_int {ti : TI} {m t : Nat} {xs : List AV} {d : TD} {k : IntKind} (hd : ti t = some d) (hk : d.kind = .int k) (h : Shp ti (m + 1) t xs) : ∃ i, xs = [.int k i] ∧ k.min ≤ i ∧ i ≤ k.max := by
  unfold Shp at h; rw [hd] at h; simp only [hk] at h; exact h
theorem shp_bool {ti : TI} {m t : Nat} {xs : List AV} {d : TD} (hd : ti t = some d) (hk : d.kind = .bool) (h : Shp ti (m + 1) t xs) : ∃ b, xs = [.bool b] := by
  unfold Shp at h; rw [hd] at h; simp only [hk] at h; exact h
theorem shp_slice {ti : TI} {m t e : Nat} {xs : List AV} {d : TD} (hd : ti t = some d) (hk : d.kind = .slice e) (h : Shp ti (m + 1) t xs) :
    ∃ de rows, ti e = some de ∧ xs = [.lslc de.size rows 0 rows.length false] ∧ rows.length ≤ maxLen ∧ ∀ r ∈ rows, Shp ti m e r := by
  unfold Shp at h; rw [hd] at h; simp only [hk] at h; exact h
theorem rows_map {α : Type} {f : α → List AV} : ∀ {rows : List (List AV)}, (∀ r ∈ rows, ∃ x, r = f x) → ∃ l : List α, rows = l.map f
  | [], _ => ⟨[], rfl⟩
  | r :: rs, h => by
    obtain ⟨x, rfl⟩ := h r (List.mem_cons_self ..)
    obtain ⟨l, rfl⟩ := rows_map (rows := rs) (fun r hr => h r (List.mem_cons_of_mem _ hr))
    exact ⟨x :: l, rfl⟩
end Go.Ab
namespace Go.Ab.V
open Go.Proofs

/-- a tone -/
structure Tn where
  p : Int
  f : Int
  t : Int
def tnR (x : Tn) : List AV := [.int .i64 x.p, .int .i64 x.f, .int .i64 x.t]
def tnsA (l : List Tn) : AV := .lslc 3 (l.map tnR) 0 l.length false
/-- a note -/
structure Nt where
  e : Int
  c : Int
  p : Int
  f : Int
  t : Int
def ntR (x : Nt) : List AV := [.int .i64 x.e, .int .i64 x.c, .int .i64 x.p, .int .i64 x.f, .int .i64 x.t]
def ntsA (l : List Nt) : AV := .lslc 5 (l.map ntR) 0 l.length false
/-- a written tone -/
structure Wr where
  p : Int
  v : Int
  d : Bool
  t : Bool
  y : Bool
def wrR (x : Wr) : List AV := [.int .i64 x.p, .int .i64 x.v, .bool x.d, .bool x.t, .bool x.y]
def wrsA (l : List Wr) : AV := .lslc 5 (l.map wrR) 0 l.length false
def ints (l : List Int) : List (List AV) := l.map fun x => [.int .i64 x]
def intsA (l : List Int) : AV := .lslc 1 (ints l) 0 l.length false
def prtsA (l : List (List Tn)) : AV := .lslc 1 (l.map fun p => [tnsA p]) 0 l.length false
/-- limits -/
structure Lm where
  lo : List Int
  hi : List Int
  leap : Int
  gap : Int
  cross : Int
def lmR (x : Lm) : List AV := [intsA x.lo, intsA x.hi, .int .i64 x.leap, .int .i64 x.gap, .int .i64 x.cross]
def lmA (x : Lm) : AV := .agg (lmR x)
def caseA (x : Lm) (n : List Nt) : AV := .agg [intsA x.lo, intsA x.hi, .int .i64 x.leap, .int .i64 x.gap, .int .i64 x.cross, ntsA n]

theorem mapR {α : Type} {f : α → List AV} {l : List α} {i : Nat} (h : i < l.length) : (l.map f)[0 + ((i : Nat) : Int).toNat]? = some (f l[i]) := by
  simp [h]
theorem intsR {l : List Int} {i : Nat} (h : i < l.length) : (ints l)[0 + ((i : Nat) : Int).toNat]? = some [.int .i64 l[i]] := mapR h

theorem i64_bd {i : Int} (h : IntKind.i64.min ≤ i ∧ i ≤ IntKind.i64.max) : -9223372036854775808 ≤ i ∧ i ≤ 9223372036854775807 := h

theorem fld {n : Nat} {xs : List AV} {d : TD} {t off k : Nat} {P : List AV → Prop} (h : ∃ df, C.ti t = some df ∧ Shp C.ti n t ((xs.drop off).take df.size)) (hd : C.ti t = some d) (he : d.size = k) : Shp C.ti n t ((xs.drop off).take k) := by
  obtain ⟨df, h1, h2⟩ := h
  rw [hd] at h1
  cases h1
  rw [he] at h2
  exact h2

theorem shv_int {m : Nat} {a : AV} (h : ShpV C.ti (m + 1) 3 a) : ∃ i, a = .int .i64 i ∧ -9223372036854775808 ≤ i ∧ i ≤ 9223372036854775807 := by
  have h : Shp C.ti (m + 1) 3 [a] := h
  obtain ⟨i, e, b⟩ := shp_int rfl rfl h
  cases e
  exact ⟨i, rfl, b⟩

theorem len3 {l : List AV} (h : l.length = 3) : ∃ a b c, l = [a, b, c] := by
  match l, h with
  | [a, b, c], _ => exact ⟨a, b, c, rfl⟩
theorem len5 {l : List AV} (h : l.length = 5) : ∃ a b c d e, l = [a, b, c, d, e] := by
  match l, h with
  | [a, b, c, d, e], _ => exact ⟨a, b, c, d, e, rfl⟩
theorem len6 {l : List AV} (h : l.length = 6) : ∃ a b c d e f, l = [a, b, c, d, e, f] := by
  match l, h with
  | [a, b, c, d, e, f], _ => exact ⟨a, b, c, d, e, f, rfl⟩
theorem len2 {l : List AV} (h : l.length = 2) : ∃ a b, l = [a, b] := by
  match l, h with
  | [a, b], _ => exact ⟨a, b, rfl⟩

theorem s_int {m : Nat} {xs : List AV} (h : Shp C.ti (m + 1) 3 xs) : ∃ i, xs = [.int .i64 i] := by
  obtain ⟨i, e, _⟩ := shp_int rfl rfl h
  exact ⟨i, e⟩
theorem s_bool {m : Nat} {xs : List AV} (h : Shp C.ti (m + 1) 4 xs) : ∃ i, xs = [.bool i] := shp_bool rfl rfl h
theorem s_slice {α : Type} {f : α → List AV} {m t e sz : Nat} {d de : TD} {xs : List AV} (hd : C.ti t = some d) (hk : d.kind = .slice e) (he : C.ti e = some de) (hz : de.size = sz) (hf : ∀ r, Shp C.ti m e r → ∃ x, r = f x) (h : Shp C.ti (m + 1) t xs) :
    ∃ l : List α, xs = [.lslc sz (l.map f) 0 l.length false] ∧ l.length ≤ 9223372036854775807 := by
  obtain ⟨de', rows, h1, rfl, h2, h3⟩ := shp_slice hd hk h
  rw [he] at h1
  cases h1
  obtain ⟨l, rfl⟩ := rows_map (fun r hr => hf r (h3 r hr))
  rw [List.length_map] at h2 ⊢
  exact ⟨l, by rw [hz], h2⟩

theorem s_ints {m : Nat} {xs : List AV} (h : Shp C.ti (m + 2) 22 xs) : ∃ l, xs = [intsA l] ∧ l.length ≤ 9223372036854775807 := s_slice (f := fun x => [.int .i64 x]) rfl rfl rfl rfl (fun _ h => s_int h) h
theorem s_sign {m : Nat} {xs : List AV} (h : Shp C.ti (m + 2) 104 xs) : ∃ v d t, xs = [.int .i64 v, .bool d, .bool t] := by
  obtain ⟨l, hf⟩ := shp_struct (ti := C.ti) rfl rfl h
  obtain ⟨a, b, c, rfl⟩ := len3 l
  obtain ⟨x, hx⟩ := s_int (fld (P := fun _ => True) (hf (0, 3) (by decide)) rfl rfl)
  obtain ⟨y, hy⟩ := s_bool (fld (P := fun _ => True) (hf (1, 4) (by decide)) rfl rfl)
  obtain ⟨z, hz⟩ := s_bool (fld (P := fun _ => True) (hf (2, 4) (by decide)) rfl rfl)
  simp at hx hy hz
  exact ⟨x, y, z, by rw [hx, hy, hz]⟩
theorem s_wr {m : Nat} {xs : List AV} (h : Shp C.ti (m + 3) 106 xs) : ∃ s, xs = wrR s := by
  obtain ⟨l, hf⟩ := shp_struct (ti := C.ti) rfl rfl h
  obtain ⟨a, b, c, d, e, rfl⟩ := len5 l
  obtain ⟨x1, h1⟩ := s_int (fld (P := fun _ => True) (hf (0, 3) (by decide)) rfl rfl)
  obtain ⟨x2, x3, x4, h2⟩ := s_sign (fld (P := fun _ => True) (hf (1, 104) (by decide)) rfl rfl)
  obtain ⟨x5, h5⟩ := s_bool (fld (P := fun _ => True) (hf (4, 4) (by decide)) rfl rfl)
  simp at h1 h2 h5
  obtain ⟨h2, h3, h4⟩ := h2
  exact ⟨⟨x1, x2, x3, x4, x5⟩, by rw [h1, h2, h3, h4, h5]; rfl⟩
theorem s_tn {m : Nat} {xs : List AV} (h : Shp C.ti (m + 2) 83 xs) : ∃ s, xs = tnR s := by
  obtain ⟨l, hf⟩ := shp_struct (ti := C.ti) rfl rfl h
  obtain ⟨a, b, c, rfl⟩ := len3 l
  obtain ⟨x1, h1⟩ := s_int (fld (P := fun _ => True) (hf (0, 3) (by decide)) rfl rfl)
  obtain ⟨x2, h2⟩ := s_int (fld (P := fun _ => True) (hf (1, 3) (by decide)) rfl rfl)
  obtain ⟨x3, h3⟩ := s_int (fld (P := fun _ => True) (hf (2, 3) (by decide)) rfl rfl)
  simp at h1 h2 h3
  exact ⟨⟨x1, x2, x3⟩, by rw [h1, h2, h3]; rfl⟩
theorem s_nt {m : Nat} {xs : List AV} (h : Shp C.ti (m + 2) 51 xs) : ∃ s, xs = ntR s := by
  obtain ⟨l, hf⟩ := shp_struct (ti := C.ti) rfl rfl h
  obtain ⟨a, b, c, d, e, rfl⟩ := len5 l
  obtain ⟨x1, h1⟩ := s_int (fld (P := fun _ => True) (hf (0, 3) (by decide)) rfl rfl)
  obtain ⟨x2, h2⟩ := s_int (fld (P := fun _ => True) (hf (1, 3) (by decide)) rfl rfl)
  obtain ⟨x3, h3⟩ := s_int (fld (P := fun _ => True) (hf (2, 3) (by decide)) rfl rfl)
  obtain ⟨x4, h4⟩ := s_int (fld (P := fun _ => True) (hf (3, 3) (by decide)) rfl rfl)
  obtain ⟨x5, h5⟩ := s_int (fld (P := fun _ => True) (hf (4, 3) (by decide)) rfl rfl)
  simp at h1 h2 h3 h4 h5
  exact ⟨⟨x1, x2, x3, x4, x5⟩, by rw [h1, h2, h3, h4, h5]; rfl⟩
theorem s_wrs {m : Nat} {xs : List AV} (h : Shp C.ti (m + 4) 53 xs) : ∃ l, xs = [wrsA l] ∧ l.length ≤ 9223372036854775807 := s_slice (f := wrR) rfl rfl rfl rfl (fun _ h => s_wr h) h
theorem s_tns {m : Nat} {xs : List AV} (h : Shp C.ti (m + 3) 54 xs) : ∃ l, xs = [tnsA l] ∧ l.length ≤ 9223372036854775807 := s_slice (f := tnR) rfl rfl rfl rfl (fun _ h => s_tn h) h
theorem s_nts {m : Nat} {xs : List AV} (h : Shp C.ti (m + 3) 25 xs) : ∃ l, xs = [ntsA l] ∧ l.length ≤ 9223372036854775807 := s_slice (f := ntR) rfl rfl rfl rfl (fun _ h => s_nt h) h
theorem s_prts {m : Nat} {xs : List AV} (h : Shp C.ti (m + 4) 28 xs) : ∃ l, xs = [prtsA l] ∧ l.length ≤ 9223372036854775807 ∧ ∀ p ∈ l, p.length ≤ 9223372036854775807 := by
  obtain ⟨l, h1, h2⟩ := s_slice (f := fun x : { p : List Tn // p.length ≤ 9223372036854775807 } => [tnsA x.1]) rfl rfl rfl rfl (fun r h => by obtain ⟨e, h1, h2⟩ := s_tns h; exact ⟨⟨e, h2⟩, h1⟩) h
  refine ⟨l.map Subtype.val, ?_, by simpa using h2, fun e he => ?_⟩
  · rw [h1]; unfold prtsA; simp
  · obtain ⟨x, _, rfl⟩ := List.mem_map.1 he
    exact x.2
theorem s_lm {m : Nat} {xs : List AV} (h : Shp C.ti (m + 3) 24 xs) : ∃ l, xs = lmR l ∧ l.lo.length ≤ 9223372036854775807 ∧ l.hi.length ≤ 9223372036854775807 := by
  obtain ⟨l, hf⟩ := shp_struct (ti := C.ti) rfl rfl h
  obtain ⟨a, b, c, d, e, rfl⟩ := len5 l
  obtain ⟨x1, h1, k1⟩ := s_ints (fld (P := fun _ => True) (hf (0, 22) (by decide)) rfl rfl)
  obtain ⟨x2, h2, k2⟩ := s_ints (fld (P := fun _ => True) (hf (1, 22) (by decide)) rfl rfl)
  obtain ⟨x3, h3⟩ := s_int (fld (P := fun _ => True) (hf (2, 3) (by decide)) rfl rfl)
  obtain ⟨x4, h4⟩ := s_int (fld (P := fun _ => True) (hf (3, 3) (by decide)) rfl rfl)
  obtain ⟨x5, h5⟩ := s_int (fld (P := fun _ => True) (hf (4, 3) (by decide)) rfl rfl)
  simp at h1 h2 h3 h4 h5
  exact ⟨⟨x1, x2, x3, x4, x5⟩, by rw [h1, h2, h3, h4, h5]; rfl, k1, k2⟩
theorem one_of {P : List AV → Prop} {a : AV} (h : P [a]) : P [a] := h
theorem shv_wrs {m : Nat} {a : AV} (h : ShpV C.ti (m + 4) 53 a) : ∃ l, a = wrsA l ∧ l.length ≤ 9223372036854775807 := by
  have h : Shp C.ti (m + 4) 53 [a] := h
  obtain ⟨l, e, k⟩ := s_wrs h
  cases e
  exact ⟨l, rfl, k⟩
theorem shv_tns {m : Nat} {a : AV} (h : ShpV C.ti (m + 3) 54 a) : ∃ l, a = tnsA l ∧ l.length ≤ 9223372036854775807 := by
  have h : Shp C.ti (m + 3) 54 [a] := h
  obtain ⟨l, e, k⟩ := s_tns h
  cases e
  exact ⟨l, rfl, k⟩
theorem shv_nts {m : Nat} {a : AV} (h : ShpV C.ti (m + 3) 25 a) : ∃ l, a = ntsA l ∧ l.length ≤ 9223372036854775807 := by
  have h : Shp C.ti (m + 3) 25 [a] := h
  obtain ⟨l, e, k⟩ := s_nts h
  cases e
  exact ⟨l, rfl, k⟩
theorem shv_ints {m : Nat} {a : AV} (h : ShpV C.ti (m + 2) 22 a) : ∃ l, a = intsA l ∧ l.length ≤ 9223372036854775807 := by
  have h : Shp C.ti (m + 2) 22 [a] := h
  obtain ⟨l, e, k⟩ := s_ints h
  cases e
  exact ⟨l, rfl, k⟩
theorem shv_prts {m : Nat} {a : AV} (h : ShpV C.ti (m + 4) 28 a) : ∃ l, a = prtsA l ∧ l.length ≤ 9223372036854775807 ∧ ∀ p ∈ l, p.length ≤ 9223372036854775807 := by
  have h : Shp C.ti (m + 4) 28 [a] := h
  obtain ⟨l, e, k⟩ := s_prts h
  cases e
  exact ⟨l, rfl, k⟩
theorem len4 {l : List AV} (h : l.length = 4) : ∃ a b c d, l = [a, b, c, d] := by
  match l, h with
  | [a, b, c, d], _ => exact ⟨a, b, c, d, rfl⟩
theorem shv_case {m : Nat} {a : AV} (h : ShpV C.ti (m + 4) 27 a) : ∃ l n, a = caseA l n ∧ l.lo.length ≤ 9223372036854775807 ∧ l.hi.length ≤ 9223372036854775807 ∧ n.length ≤ 9223372036854775807 := by
  have h : ∃ xs, a = .agg xs ∧ Shp C.ti (m + 4) 27 xs := h
  obtain ⟨xs, rfl, h'⟩ := h
  obtain ⟨l, hf⟩ := shp_struct (ti := C.ti) rfl rfl h'
  obtain ⟨a, b, c, d, e, f, rfl⟩ := len6 l
  obtain ⟨x, h1, k1, k2⟩ := s_lm (fld (P := fun _ => True) (hf (0, 24) (by decide)) rfl rfl)
  obtain ⟨y, h2, k3⟩ := s_nts (fld (P := fun _ => True) (hf (5, 25) (by decide)) rfl rfl)
  unfold lmR at h1
  simp at h1 h2
  obtain ⟨e1, e2, e3, e4, e5⟩ := h1
  exact ⟨x, y, by rw [e1, e2, e3, e4, e5, h2]; rfl, k1, k2, k3⟩
theorem shv_wider {m : Nat} {a : AV} (h : ShpV C.ti (m + 2) 47 a) : ∃ w x y z : Int, a = .agg [.int .i64 w, .int .i64 x, .int .i64 y, .int .i64 z] := by
  have h : ∃ xs, a = .agg xs ∧ Shp C.ti (m + 2) 47 xs := h
  obtain ⟨xs, rfl, h'⟩ := h
  obtain ⟨l, hf⟩ := shp_struct (ti := C.ti) rfl rfl h'
  obtain ⟨a, b, c, d, rfl⟩ := len4 l
  obtain ⟨x1, h1⟩ := s_int (fld (P := fun _ => True) (hf (0, 3) (by decide)) rfl rfl)
  obtain ⟨x2, h2⟩ := s_int (fld (P := fun _ => True) (hf (1, 3) (by decide)) rfl rfl)
  obtain ⟨x3, h3⟩ := s_int (fld (P := fun _ => True) (hf (2, 3) (by decide)) rfl rfl)
  obtain ⟨x4, h4⟩ := s_int (fld (P := fun _ => True) (hf (3, 3) (by decide)) rfl rfl)
  simp at h1 h2 h3 h4
  exact ⟨x1, x2, x3, x4, by rw [h1, h2, h3, h4]⟩
end Go.Ab.V

/-
  The ticks of a sign, as the program and as the document say it. No condition.
-/
namespace Go.Ab.V
open Go.Proofs

/-- a sign -/
abbrev sg (v : Int) (d t : Bool) : AV := .agg [.int .i64 v, .bool d, .bool t]

def ticks (v : Int) (d t : Bool) : Int :=
  if v < 1 ∨ 7 < v ∨ (d && t) = true then 0 else
    let n : Int := if v = 1 then 384 else if v = 2 then 192 else if v = 3 then 96 else if v = 4 then 48 else if v = 5 then 24 else if v = 6 then 12 else 6
    if d = true then n / 2 * 3 else if t = true then n / 3 * 2 else n

def A59 : Ann := fun r => match r with
  | 0 => { slots := [(0, 0)] }
  | _ => {}

theorem seven {v : Int} (h1 : ¬ v < 1) (h2 : ¬ 7 < v) : v = 1 ∨ v = 2 ∨ v = 3 ∨ v = 4 ∨ v = 5 ∨ v = 6 ∨ v = 7 := by omega

theorem ticks_spec (v : Int) (d t : Bool) : PRet C.P 59 [sg v d t] (.int .i64 (ticks v d t)) := by
  by_cases h1 : v < 1
  · refine pret_of ok mixed (A := A59) 1 Try.func59 rfl ?_
    (repeat ((conv => whnf); first | exact rfl | exact ⟨rfl, rfl⟩ | refine ⟨rfl, ?_⟩ | refine ⟨by decide, ?_⟩ | refine ⟨by kernel_rfl, ?_⟩ | (intro ep)))
    conv => whnf
    rw [decide_eq_true h1]
    exact ⟨rfl, by simp [ticks, h1]⟩
  by_cases h2 : 7 < v
  · refine pret_of ok mixed (A := A59) 1 Try.func59 rfl ?_
    (repeat ((conv => whnf); first | exact rfl | exact ⟨rfl, rfl⟩ | refine ⟨rfl, ?_⟩ | refine ⟨by decide, ?_⟩ | refine ⟨by kernel_rfl, ?_⟩ | (intro ep)))
    conv => whnf
    rw [decide_eq_false h1]
    (repeat ((conv => whnf); first | exact rfl | exact ⟨rfl, rfl⟩ | refine ⟨rfl, ?_⟩ | refine ⟨by decide, ?_⟩ | refine ⟨by kernel_rfl, ?_⟩ | (intro ep)))
    conv => whnf
    rw [show decide (v > 7) = true from decide_eq_true h2]
    exact ⟨rfl, by simp [ticks, h2]⟩
  rcases seven h1 h2 with rfl | rfl | rfl | rfl | rfl | rfl | rfl <;> cases d <;> cases t <;>
    (refine pret_of ok mixed (A := A59) 1 Try.func59 rfl ?_; (repeat ((conv => whnf); first | exact rfl | exact ⟨rfl, rfl⟩ | refine ⟨rfl, ?_⟩ | refine ⟨by decide, ?_⟩ | refine ⟨by kernel_rfl, ?_⟩ | (intro ep))))

end Go.Ab.V

/-
  Whether a sign is valid, and its ticks, in the document's words. No condition.
-/
namespace Go.Ab.V
open Go.Proofs

def right (v : Int) (d t : Bool) : Bool :=
  if v = 0 then !d && !t else decide (1 ≤ v) && decide (v ≤ 7) && !(d && t)

theorem right_spec (v : Int) (d t : Bool) : PRet C.P 79 [sg v d t] (.bool (right v d t)) := by
  refine pret_of ok mixed (A := A59) 1 Try.func79 rfl ?_
  (repeat ((conv => whnf); first | exact rfl | exact ⟨rfl, rfl⟩ | refine ⟨rfl, ?_⟩ | refine ⟨by decide, ?_⟩ | refine ⟨by kernel_rfl, ?_⟩ | (intro ep)))
  conv => whnf
  refine ifB (fun h0 => ?_) (fun h0 => ?_)
  · simp only [beq_iff_eq] at h0
    subst h0
    cases d <;> cases t <;> (repeat ((conv => whnf); first | exact rfl | exact ⟨rfl, rfl⟩ | refine ⟨rfl, ?_⟩ | refine ⟨by decide, ?_⟩ | refine ⟨by kernel_rfl, ?_⟩ | (intro ep)))
  simp only [beq_eq_false_iff_ne, ne_eq] at h0
  (repeat ((conv => whnf); first | exact rfl | exact ⟨rfl, rfl⟩ | refine ⟨rfl, ?_⟩ | refine ⟨by decide, ?_⟩ | refine ⟨by kernel_rfl, ?_⟩ | (intro ep)))
  conv => whnf
  refine ifB (fun h1 => ?_) (fun h1 => ?_)
  · (repeat ((conv => whnf); first | exact rfl | exact ⟨rfl, rfl⟩ | refine ⟨rfl, ?_⟩ | refine ⟨by decide, ?_⟩ | refine ⟨by kernel_rfl, ?_⟩ | (intro ep)))
    conv => whnf
    refine ifB (fun h2 => ?_) (fun h2 => ?_)
    · cases d <;> cases t <;> (repeat ((conv => whnf); first | exact rfl | exact ⟨rfl, rfl⟩ | refine ⟨rfl, ?_⟩ | refine ⟨by decide, ?_⟩ | refine ⟨by kernel_rfl, ?_⟩ | (intro ep)))
      all_goals (conv => whnf); simp_all [right]
    · refine ⟨rfl, ?_⟩
      simp_all [right]
      intros; exfalso; omega
  · refine ⟨rfl, ?_⟩
    simp_all [right]
    intros; exfalso; omega

theorem refTicks_spec (v : Int) (d t : Bool) : PRet C.P 60 [sg v d t] (.int .i64 (ticks v d t)) := by
  refine pret_of ok mixed (A := A59) 1 Try.func60 rfl ?_
  (repeat ((conv => whnf); first | exact rfl | exact ⟨rfl, rfl⟩ | refine ⟨rfl, ?_⟩ | refine ⟨by decide, ?_⟩ | refine ⟨by kernel_rfl, ?_⟩ | (intro ep)))
  conv => whnf
  refine ⟨_, right_spec v d t, ?_⟩
  conv => whnf
  refine ifB (fun h0 => ?_) (fun h0 => ?_)
  · (repeat ((conv => whnf); first | exact rfl | exact ⟨rfl, rfl⟩ | refine ⟨rfl, ?_⟩ | refine ⟨by decide, ?_⟩ | refine ⟨by kernel_rfl, ?_⟩ | (intro ep)))
    simp only [Bool.not_eq_true'] at h0
    have : ticks v d t = 0 := by
      unfold right at h0
      unfold ticks
      split at h0
      · rename_i e; subst e; simp
      · rw [if_pos]
        simp only [Bool.and_eq_false_iff, decide_eq_false_iff_not, Bool.not_eq_false'] at h0
        rcases h0 with (h | h) | h
        · left; omega
        · right; left; omega
        · right; right; exact h
    rw [this]
  · (repeat ((conv => whnf); first | exact rfl | exact ⟨rfl, rfl⟩ | refine ⟨rfl, ?_⟩ | refine ⟨by decide, ?_⟩ | refine ⟨by kernel_rfl, ?_⟩ | (intro ep)))
    conv => whnf
    refine ifB (fun h1 => ?_) (fun h1 => ?_)
    · (repeat ((conv => whnf); first | exact rfl | exact ⟨rfl, rfl⟩ | refine ⟨rfl, ?_⟩ | refine ⟨by decide, ?_⟩ | refine ⟨by kernel_rfl, ?_⟩ | (intro ep)))
      conv => whnf
      simp only [beq_iff_eq] at h1
      subst h1
      exact rfl
    · simp at h0 h1
      have h2 : (v = 1 ∨ v = 2 ∨ v = 3 ∨ v = 4 ∨ v = 5 ∨ v = 6 ∨ v = 7) ∧ (d && t) = false := by
        simp [right, h1] at h0
        refine ⟨by omega, ?_⟩
        have := h0.2
        cases d <;> cases t <;> simp_all
      obtain ⟨rfl | rfl | rfl | rfl | rfl | rfl | rfl, h3⟩ := h2 <;> cases d <;> cases t <;> first | (exfalso; cases h3; done) |
        ((repeat ((conv => whnf); first | exact rfl | exact ⟨rfl, rfl⟩ | refine ⟨rfl, ?_⟩ | refine ⟨by decide, ?_⟩ | refine ⟨by kernel_rfl, ?_⟩ | (intro ep) | refine loopU ok mixed (A := fun _ => {}) 100 ?_)))

end Go.Ab.V

/-
  Lists of tones that are the same. No condition.
-/
namespace Go.Ab.V
open Go.Proofs

def A32 : Ann := fun _ => {}
set_option maxHeartbeats 2000000 in
set_option maxRecDepth 100000 in
theorem same32 (l : List Tn) (hl : l.length ≤ 9223372036854775806) : PRet C.P 32 [tnsA l, tnsA l] (.bool true) := by
  refine pret_of ok mixed (A := A32) 0 Try.func32 rfl ?_
  (repeat' (first | exact rfl | ((conv => whnf); first | exact rfl | refine ⟨by kernel_rfl, ?_⟩ | exact ⟨rfl, rfl⟩ | refine ⟨rfl, ?_⟩ | refine ⟨by (first | omega | (simp (disch := omega) only [wrapI]; omega) | (simp (disch := omega) only [wrapI]; simp; omega) | (simp; omega)), ?_⟩ | (intro ep) | fail)))
  (conv => whnf)
  refine ifB (fun hb => ?_) (fun hb => ?_)
  · exfalso; simp at hb
  (repeat' (first | exact rfl | ((conv => whnf); first | exact rfl | refine ⟨by kernel_rfl, ?_⟩ | exact ⟨rfl, rfl⟩ | refine ⟨rfl, ?_⟩ | refine ⟨by (first | omega | (simp (disch := omega) only [wrapI]; omega) | (simp (disch := omega) only [wrapI]; simp; omega) | (simp; omega)), ?_⟩ | (intro ep) | fail)))
  (conv => whnf)
  refine loopM ok mixed (A := A32) [0, 1, 5] [] (S := { k : Nat // k ≤ l.length })
    (fr := fun s => frOf 0 26 [(0, tnsA l), (1, tnsA l), (5, .int .i64 (s.1 : Int))])
    (h := fun s => ⟨[], []⟩) (μ := fun s => l.length - s.1) ⟨0, by omega⟩ (by exact rfl) (by exact rfl) ?_
  rintro ⟨k, hk⟩
  show aexR _ _ _ (frOf 0 26 [(0, tnsA l), (1, tnsA l), (5, .int .i64 (k : Int))]) ⟨[], []⟩ _
  (conv => whnf)
  refine ifB (fun g1 => ?_) (fun g1 => ?_)
  · simp only [decide_eq_true_eq] at g1
    have hlt : k < l.length := by omega
    have hm := mapR (f := tnR) hlt
    (repeat' (first | exact rfl | ((conv => whnf); first | refine optS hm ?_ | exact rfl | refine ⟨by kernel_rfl, ?_⟩ | exact ⟨rfl, rfl⟩ | refine ⟨rfl, ?_⟩ | refine ⟨by (first | omega | (simp (disch := omega) only [wrapI]; omega) | (simp (disch := omega) only [wrapI]; simp; omega) | (simp; omega)), ?_⟩ | (intro ep) | fail)))
    all_goals (conv => whnf)
    refine ifB (fun hb => ?_) (fun hb => ?_)
    · exfalso; simp at hb
    (repeat' (first | exact rfl | ((conv => whnf); first | exact rfl | refine ⟨by kernel_rfl, ?_⟩ | exact ⟨rfl, rfl⟩ | refine ⟨rfl, ?_⟩ | refine ⟨by (first | omega | (simp (disch := omega) only [wrapI]; omega) | (simp (disch := omega) only [wrapI]; simp; omega) | (simp; omega)), ?_⟩ | (intro ep) | fail)))
    all_goals (conv => whnf)
    refine back_of ⟨k + 1, by omega⟩ ⟨by (first | exact rfl | (simp (disch := omega) only [wrapI]; exact rfl)), rfl, by simp only; omega⟩
  · (repeat' (first | exact rfl | ((conv => whnf); first | exact rfl | refine ⟨by kernel_rfl, ?_⟩ | exact ⟨rfl, rfl⟩ | refine ⟨rfl, ?_⟩ | refine ⟨by (first | omega | (simp (disch := omega) only [wrapI]; omega) | (simp (disch := omega) only [wrapI]; simp; omega) | (simp; omega)), ?_⟩ | (intro ep) | fail)))

end Go.Ab.V
