/-
  What is proved here serves the law's text: each part says its own claim and its conditions. No condition is left open.
-/
import Derived.Test.YthdhhhgjdegafaaKM
set_option linter.unusedSimpArgs false
set_option linter.unusedVariables false

namespace Go.Ab
theorem shp_struct {ti : TI} {m t : Nat} {xs : List AV} {d : TD} {fs : List (Nat × Nat)} (hd : ti t = some d) (hk : d.kind = .struct fs) (h : Shp ti (m + 1) t xs) :
  xs.length = d.size ∧ ∀ f ∈ fs, ∃ df, ti f.2 = some df ∧ Shp ti m f.2 ((xs.drop f.1).take df.size) := by
 unfold Shp at h; rw [hd] at h; simp only [hk] at h; exact h
theorem shp_int {ti : TI} {m t : Nat} {xs : List AV} {d : TD} {k : IntKind} (hd : ti t = some d) (hk : d.kind = .int k) (h : Shp ti (m + 1) t xs) : ∃ i, xs = [.int k i] ∧ k.min ≤ i ∧ i ≤ k.max := by
 unfold Shp at h; rw [hd] at h; simp only [hk] at h; exact h
theorem shp_bool {ti : TI} {m t : Nat} {xs : List AV} {d : TD} (hd : ti t = some d) (hk : d.kind = .bool) (h : Shp ti (m + 1) t xs) : ∃ b, xs = [.bool b] := by
 unfold Shp at h; rw [hd] at h; simp only [hk] at h; exact h
theorem shp_slice {ti : TI} {m t e : Nat} {xs : List AV} {d : TD} (hd : ti t = some d) (hk : d.kind = .slice e) (h : Shp ti (m + 1) t xs) :
  ∃ de rows, ti e = some de ∧ xs = [.lslc de.size rows 0 rows.length false] ∧ rows.length ≤ maxLen ∧ ∀ r ∈ rows, Shp ti m e r := by
 unfold Shp at h; rw [hd] at h; simp only [hk] at h; exact h
theorem rows_map {α : Type} {f : α → List AV} : ∀ {rows : List (List AV)}, (∀ r ∈ rows, ∃ x, r = f x) → ∃ l : List α, rows = l.map f
 | [], _ => ⟨[], rfl⟩
 | r :: rs, h => by
  obtain ⟨x, rfl⟩ := h r (List.mem_cons_self ..)
  obtain ⟨l, rfl⟩ := rows_map (rows := rs) (fun r hr => h r (List.mem_cons_of_mem _ hr))
  exact ⟨x :: l, rfl⟩
end Go.Ab
namespace Go.Ab.V
open Go.Proofs
structure Tn where
 p : Int
 f : Int
 t : Int
def tnR (x : Tn) : List AV := [.int .i64 x.p, .int .i64 x.f, .int .i64 x.t]
def tnsA (l : List Tn) : AV := .lslc 3 (l.map tnR) 0 l.length false
structure Nt where
 e : Int
 c : Int
 p : Int
 f : Int
 t : Int
def ntR (x : Nt) : List AV := [.int .i64 x.e, .int .i64 x.c, .int .i64 x.p, .int .i64 x.f, .int .i64 x.t]
def ntsA (l : List Nt) : AV := .lslc 5 (l.map ntR) 0 l.length false
structure Wr where
 p : Int
 v : Int
 d : Bool
 t : Bool
 y : Bool
def wrR (x : Wr) : List AV := [.int .i64 x.p, .int .i64 x.v, .bool x.d, .bool x.t, .bool x.y]
def wrsA (l : List Wr) : AV := .lslc 5 (l.map wrR) 0 l.length false
def ints (l : List Int) : List (List AV) := l.map fun x => [.int .i64 x]
def intsA (l : List Int) : AV := .lslc 1 (ints l) 0 l.length false
def prtsA (l : List (List Tn)) : AV := .lslc 1 (l.map fun p => [tnsA p]) 0 l.length false
structure Lm where
 lo : List Int
 hi : List Int
 leap : Int
 gap : Int
 cross : Int
def lmR (x : Lm) : List AV := [intsA x.lo, intsA x.hi, .int .i64 x.leap, .int .i64 x.gap, .int .i64 x.cross]
def lmA (x : Lm) : AV := .agg (lmR x)
def caseA (x : Lm) (n : List Nt) : AV := .agg [intsA x.lo, intsA x.hi, .int .i64 x.leap, .int .i64 x.gap, .int .i64 x.cross, ntsA n]
theorem mapR {α : Type} {f : α → List AV} {l : List α} {i : Nat} (h : i < l.length) : (l.map f)[0 + ((i : Nat) : Int).toNat]? = some (f l[i]) := by
 simp [h]
theorem intsR {l : List Int} {i : Nat} (h : i < l.length) : (ints l)[0 + ((i : Nat) : Int).toNat]? = some [.int .i64 l[i]] := mapR h
theorem i64_bd {i : Int} (h : IntKind.i64.min ≤ i ∧ i ≤ IntKind.i64.max) : -9223372036854775808 ≤ i ∧ i ≤ 9223372036854775807 := h
theorem fld {n : Nat} {xs : List AV} {d : TD} {t off k : Nat} {P : List AV → Prop} (h : ∃ df, C.ti t = some df ∧ Shp C.ti n t ((xs.drop off).take df.size)) (hd : C.ti t = some d) (he : d.size = k) : Shp C.ti n t ((xs.drop off).take k) := by
 obtain ⟨df, h1, h2⟩ := h
 rw [hd] at h1
 cases h1
 rw [he] at h2
 exact h2
theorem shv_int {m : Nat} {a : AV} (h : ShpV C.ti (m + 1) 3 a) : ∃ i, a = .int .i64 i ∧ -9223372036854775808 ≤ i ∧ i ≤ 9223372036854775807 := by
 have h : Shp C.ti (m + 1) 3 [a] := h
 obtain ⟨i, e, b⟩ := shp_int rfl rfl h
 cases e
 exact ⟨i, rfl, b⟩
theorem len3 {l : List AV} (h : l.length = 3) : ∃ a b c, l = [a, b, c] := by
 match l, h with
 | [a, b, c], _ => exact ⟨a, b, c, rfl⟩
theorem len5 {l : List AV} (h : l.length = 5) : ∃ a b c d e, l = [a, b, c, d, e] := by
 match l, h with
 | [a, b, c, d, e], _ => exact ⟨a, b, c, d, e, rfl⟩
theorem len6 {l : List AV} (h : l.length = 6) : ∃ a b c d e f, l = [a, b, c, d, e, f] := by
 match l, h with
 | [a, b, c, d, e, f], _ => exact ⟨a, b, c, d, e, f, rfl⟩
theorem len2 {l : List AV} (h : l.length = 2) : ∃ a b, l = [a, b] := by
 match l, h with
 | [a, b], _ => exact ⟨a, b, rfl⟩
theorem s_int {m : Nat} {xs : List AV} (h : Shp C.ti (m + 1) 3 xs) : ∃ i, xs = [.int .i64 i] := by
 obtain ⟨i, e, _⟩ := shp_int rfl rfl h
 exact ⟨i, e⟩
theorem s_bool {m : Nat} {xs : List AV} (h : Shp C.ti (m + 1) 4 xs) : ∃ i, xs = [.bool i] := shp_bool rfl rfl h
theorem s_slice {α : Type} {f : α → List AV} {m t e sz : Nat} {d de : TD} {xs : List AV} (hd : C.ti t = some d) (hk : d.kind = .slice e) (he : C.ti e = some de) (hz : de.size = sz) (hf : ∀ r, Shp C.ti m e r → ∃ x, r = f x) (h : Shp C.ti (m + 1) t xs) :
  ∃ l : List α, xs = [.lslc sz (l.map f) 0 l.length false] ∧ l.length ≤ 9223372036854775807 := by
 obtain ⟨de', rows, h1, rfl, h2, h3⟩ := shp_slice hd hk h
 rw [he] at h1
 cases h1
 obtain ⟨l, rfl⟩ := rows_map (fun r hr => hf r (h3 r hr))
 rw [List.length_map] at h2 ⊢
 exact ⟨l, by rw [hz], h2⟩
theorem s_ints {m : Nat} {xs : List AV} (h : Shp C.ti (m + 2) 22 xs) : ∃ l, xs = [intsA l] ∧ l.length ≤ 9223372036854775807 := s_slice (f := fun x => [.int .i64 x]) rfl rfl rfl rfl (fun _ h => s_int h) h
theorem s_tn {m : Nat} {xs : List AV} (h : Shp C.ti (m + 2) 70 xs) : ∃ s, xs = tnR s := by
 obtain ⟨l, hf⟩ := shp_struct (ti := C.ti) rfl rfl h
 obtain ⟨a, b, c, rfl⟩ := len3 l
 obtain ⟨x1, h1⟩ := s_int (fld (P := fun _ => True) (hf (0, 3) (by decide)) rfl rfl)
 obtain ⟨x2, h2⟩ := s_int (fld (P := fun _ => True) (hf (1, 3) (by decide)) rfl rfl)
 obtain ⟨x3, h3⟩ := s_int (fld (P := fun _ => True) (hf (2, 3) (by decide)) rfl rfl)
 simp at h1 h2 h3
 exact ⟨⟨x1, x2, x3⟩, by rw [h1, h2, h3]; rfl⟩
theorem s_nt {m : Nat} {xs : List AV} (h : Shp C.ti (m + 2) 48 xs) : ∃ s, xs = ntR s := by
 obtain ⟨l, hf⟩ := shp_struct (ti := C.ti) rfl rfl h
 obtain ⟨a, b, c, d, e, rfl⟩ := len5 l
 obtain ⟨x1, h1⟩ := s_int (fld (P := fun _ => True) (hf (0, 3) (by decide)) rfl rfl)
 obtain ⟨x2, h2⟩ := s_int (fld (P := fun _ => True) (hf (1, 3) (by decide)) rfl rfl)
 obtain ⟨x3, h3⟩ := s_int (fld (P := fun _ => True) (hf (2, 3) (by decide)) rfl rfl)
 obtain ⟨x4, h4⟩ := s_int (fld (P := fun _ => True) (hf (3, 3) (by decide)) rfl rfl)
 obtain ⟨x5, h5⟩ := s_int (fld (P := fun _ => True) (hf (4, 3) (by decide)) rfl rfl)
 simp at h1 h2 h3 h4 h5
 exact ⟨⟨x1, x2, x3, x4, x5⟩, by rw [h1, h2, h3, h4, h5]; rfl⟩
theorem s_tns {m : Nat} {xs : List AV} (h : Shp C.ti (m + 3) 68 xs) : ∃ l, xs = [tnsA l] ∧ l.length ≤ 9223372036854775807 := s_slice (f := tnR) rfl rfl rfl rfl (fun _ h => s_tn h) h
theorem s_nts {m : Nat} {xs : List AV} (h : Shp C.ti (m + 3) 25 xs) : ∃ l, xs = [ntsA l] ∧ l.length ≤ 9223372036854775807 := s_slice (f := ntR) rfl rfl rfl rfl (fun _ h => s_nt h) h
theorem s_prts {m : Nat} {xs : List AV} (h : Shp C.ti (m + 4) 64 xs) : ∃ l, xs = [prtsA l] ∧ l.length ≤ 9223372036854775807 ∧ ∀ p ∈ l, p.length ≤ 9223372036854775807 := by
 obtain ⟨l, h1, h2⟩ := s_slice (f := fun x : { p : List Tn // p.length ≤ 9223372036854775807 } => [tnsA x.1]) rfl rfl rfl rfl (fun r h => by obtain ⟨e, h1, h2⟩ := s_tns h; exact ⟨⟨e, h2⟩, h1⟩) h
 refine ⟨l.map Subtype.val, ?_, by simpa using h2, fun e he => ?_⟩
 ·rw [h1]; unfold prtsA; simp
 ·obtain ⟨x, _, rfl⟩ := List.mem_map.1 he
  exact x.2
theorem s_lm {m : Nat} {xs : List AV} (h : Shp C.ti (m + 3) 24 xs) : ∃ l, xs = lmR l ∧ l.lo.length ≤ 9223372036854775807 ∧ l.hi.length ≤ 9223372036854775807 := by
 obtain ⟨l, hf⟩ := shp_struct (ti := C.ti) rfl rfl h
 obtain ⟨a, b, c, d, e, rfl⟩ := len5 l
 obtain ⟨x1, h1, k1⟩ := s_ints (fld (P := fun _ => True) (hf (0, 22) (by decide)) rfl rfl)
 obtain ⟨x2, h2, k2⟩ := s_ints (fld (P := fun _ => True) (hf (1, 22) (by decide)) rfl rfl)
 obtain ⟨x3, h3⟩ := s_int (fld (P := fun _ => True) (hf (2, 3) (by decide)) rfl rfl)
 obtain ⟨x4, h4⟩ := s_int (fld (P := fun _ => True) (hf (3, 3) (by decide)) rfl rfl)
 obtain ⟨x5, h5⟩ := s_int (fld (P := fun _ => True) (hf (4, 3) (by decide)) rfl rfl)
 simp at h1 h2 h3 h4 h5
 exact ⟨⟨x1, x2, x3, x4, x5⟩, by rw [h1, h2, h3, h4, h5]; rfl, k1, k2⟩
theorem one_of {P : List AV → Prop} {a : AV} (h : P [a]) : P [a] := h
theorem shv_tns {m : Nat} {a : AV} (h : ShpV C.ti (m + 3) 68 a) : ∃ l, a = tnsA l ∧ l.length ≤ 9223372036854775807 := by
 have h : Shp C.ti (m + 3) 68 [a] := h
 obtain ⟨l, e, k⟩ := s_tns h
 cases e
 exact ⟨l, rfl, k⟩
theorem shv_nts {m : Nat} {a : AV} (h : ShpV C.ti (m + 3) 25 a) : ∃ l, a = ntsA l ∧ l.length ≤ 9223372036854775807 := by
 have h : Shp C.ti (m + 3) 25 [a] := h
 obtain ⟨l, e, k⟩ := s_nts h
 cases e
 exact ⟨l, rfl, k⟩
theorem shv_ints {m : Nat} {a : AV} (h : ShpV C.ti (m + 2) 22 a) : ∃ l, a = intsA l ∧ l.length ≤ 9223372036854775807 := by
 have h : Shp C.ti (m + 2) 22 [a] := h
 obtain ⟨l, e, k⟩ := s_ints h
 cases e
 exact ⟨l, rfl, k⟩
theorem shv_prts {m : Nat} {a : AV} (h : ShpV C.ti (m + 4) 64 a) : ∃ l, a = prtsA l ∧ l.length ≤ 9223372036854775807 ∧ ∀ p ∈ l, p.length ≤ 9223372036854775807 := by
 have h : Shp C.ti (m + 4) 64 [a] := h
 obtain ⟨l, e, k⟩ := s_prts h
 cases e
 exact ⟨l, rfl, k⟩
theorem len4 {l : List AV} (h : l.length = 4) : ∃ a b c d, l = [a, b, c, d] := by
 match l, h with
 | [a, b, c, d], _ => exact ⟨a, b, c, d, rfl⟩
theorem shv_case {m : Nat} {a : AV} (h : ShpV C.ti (m + 4) 27 a) : ∃ l n, a = caseA l n ∧ l.lo.length ≤ 9223372036854775807 ∧ l.hi.length ≤ 9223372036854775807 ∧ n.length ≤ 9223372036854775807 := by
 have h : ∃ xs, a = .agg xs ∧ Shp C.ti (m + 4) 27 xs := h
 obtain ⟨xs, rfl, h'⟩ := h
 obtain ⟨l, hf⟩ := shp_struct (ti := C.ti) rfl rfl h'
 obtain ⟨a, b, c, d, e, f, rfl⟩ := len6 l
 obtain ⟨x, h1, k1, k2⟩ := s_lm (fld (P := fun _ => True) (hf (0, 24) (by decide)) rfl rfl)
 obtain ⟨y, h2, k3⟩ := s_nts (fld (P := fun _ => True) (hf (5, 25) (by decide)) rfl rfl)
 unfold lmR at h1
 simp at h1 h2
 obtain ⟨e1, e2, e3, e4, e5⟩ := h1
 exact ⟨x, y, by rw [e1, e2, e3, e4, e5, h2]; rfl, k1, k2, k3⟩
end Go.Ab.V
