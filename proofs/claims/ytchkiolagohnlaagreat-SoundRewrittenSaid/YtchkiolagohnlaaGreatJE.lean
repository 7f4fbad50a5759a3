/-
  What is proved here serves the law's text: each part says its own claim and its conditions. No condition is left open.
-/
import Derived.Shelf.SlGeneric
import Derived.Shelf.SlSortCmp.NoneTotal
import Derived.Shelf.SlicesG.Cmp
import Derived.Ground.SlsfProg
import Derived.Ground.SlgcProg
import Derived.Test.YtchkiolagohnlaaGreatChecked
import Derived.Sort.LotA
import Derived.Test.YtchkiolagohnlaaGreatJC
import Derived.StillTailTactics
import Derived.Test.YtchkiolagohnlaaGreatKN
import Derived.Test.YtchkiolagohnlaaGreatJD
set_option linter.unusedSimpArgs false
set_option linter.unusedVariables false

/-
  The bodies of SortFunc at tones and of cmp.Compare at int (written by the kit's lay-plain.mjs for this seat). No condition.
-/
namespace Go.Proofs
open Go.Shelf
def Tryz.laysSortF_ren : Go.Shelf.Ren := ⟨fun | 6 => 20 | 15 => 44 | 14 => 43 | 28 => 68 | 29 => 69 | 20 => 60 | 21 => 61 | 22 => 62 | 23 => 63 | 24 => 64 | 25 => 65 | 26 => 66 | 27 => 67 | 46 => 89 | 47 => 90 | 48 => 91 | 49 => 92 | 50 => 93 | 57 => 101 | n => n, fun | 22 => 33 | 24 => 62 | 25 => 66 | 3 => 3 | 39 => 95 | 0 => 0 | 53 => 123 | 55 => 125 | 4 => 4 | 46 => 116 | 45 => 115 | 50 => 120 | 5 => 5 | 9 => 9 | 66 => 141 | 70 => 145 | 76 => 151 | 77 => 152 | n => n, fun | n => n⟩
theorem Tryz.laysSortF : Go.Proofs.SlLaysF0.n6 Tryz.prog Tryz.laysSortF_ren := {
  mixed := by kernel_rfl
  f6 := ⟨Tryz.f20.name, by decide, Tryz.func20.trans (congrArg some (by kernel_rfl))⟩
  f14 := ⟨Tryz.f43.name, by decide, Tryz.func43.trans (congrArg some (by kernel_rfl))⟩
  f15 := Tryz.func44.trans (congrArg some (by kernel_rfl))
  f20 := ⟨Tryz.f60.name, by decide, Tryz.func60.trans (congrArg some (by kernel_rfl))⟩
  f21 := ⟨Tryz.f61.name, by decide, Tryz.func61.trans (congrArg some (by kernel_rfl))⟩
  f22 := ⟨Tryz.f62.name, by decide, Tryz.func62.trans (congrArg some (by kernel_rfl))⟩
  f23 := ⟨Tryz.f63.name, by decide, Tryz.func63.trans (congrArg some (by kernel_rfl))⟩
  f24 := ⟨Tryz.f64.name, by decide, Tryz.func64.trans (congrArg some (by kernel_rfl))⟩
  f25 := ⟨Tryz.f65.name, by decide, Tryz.func65.trans (congrArg some (by kernel_rfl))⟩
  f26 := ⟨Tryz.f66.name, by decide, Tryz.func66.trans (congrArg some (by kernel_rfl))⟩
  f27 := ⟨Tryz.f67.name, by decide, Tryz.func67.trans (congrArg some (by kernel_rfl))⟩
  f28 := Tryz.func68.trans (congrArg some (by kernel_rfl))
  f29 := Tryz.func69.trans (congrArg some (by kernel_rfl))
  f46 := ⟨Tryz.f89.name, by decide, Tryz.func89.trans (congrArg some (by kernel_rfl))⟩
  f47 := Tryz.func90.trans (congrArg some (by kernel_rfl))
  f48 := Tryz.func91.trans (congrArg some (by kernel_rfl))
  f49 := ⟨Tryz.f92.name, by decide, Tryz.func92.trans (congrArg some (by kernel_rfl))⟩
  f50 := ⟨Tryz.f93.name, by decide, Tryz.func93.trans (congrArg some (by kernel_rfl))⟩
  f57 := ⟨Tryz.f101.name, by decide, Tryz.func101.trans (congrArg some (by kernel_rfl))⟩
  t0 := Tryz.underlying0
  a0 := Tryz.isAgg0
  z0 := Tryz.sizeOf0
  v0 := Tryz.zeroValue0
  t3 := Tryz.underlying3
  a3 := Tryz.isAgg3
  z3 := Tryz.sizeOf3
  v3 := Tryz.zeroValue3
  t4 := Tryz.underlying4
  a4 := Tryz.isAgg4
  z4 := Tryz.sizeOf4
  v4 := Tryz.zeroValue4
  t5 := Tryz.underlying5
  a5 := Tryz.isAgg5
  z5 := Tryz.sizeOf5
  v5 := Tryz.zeroValue5
  t9 := Tryz.underlying9
  a9 := Tryz.isAgg9
  z9 := Tryz.sizeOf9
  v9 := Tryz.zeroValue9
  t22 := Tryz.underlying33
  a22 := Tryz.isAgg33
  z22 := Tryz.sizeOf33
  v22 := Tryz.zeroValue33
  t25 := Tryz.underlying66
  a25 := Tryz.isAgg66
  z25 := Tryz.sizeOf66
  v25 := Tryz.zeroValue66
  t39 := Tryz.underlying95
  a39 := Tryz.isAgg95
  z39 := Tryz.sizeOf95
  v39 := Tryz.zeroValue95
  t45 := Tryz.underlying115
  a45 := Tryz.isAgg115
  z45 := Tryz.sizeOf115
  v45 := Tryz.zeroValue115
  t46 := Tryz.underlying116
  a46 := Tryz.isAgg116
  z46 := Tryz.sizeOf116
  v46 := Tryz.zeroValue116
  t50 := Tryz.underlying120
  a50 := Tryz.isAgg120
  z50 := Tryz.sizeOf120
  v50 := Tryz.zeroValue120
  t53 := Tryz.underlying123
  a53 := Tryz.isAgg123
  z53 := Tryz.sizeOf123
  v53 := Tryz.zeroValue123
  t55 := Tryz.underlying125
  a55 := Tryz.isAgg125
  z55 := Tryz.sizeOf125
  v55 := Tryz.zeroValue125
  t66 := Tryz.underlying141
  a66 := Tryz.isAgg141
  z66 := Tryz.sizeOf141
  v66 := Tryz.zeroValue141
  t70 := Tryz.underlying145
  a70 := Tryz.isAgg145
  z70 := Tryz.sizeOf145
  v70 := Tryz.zeroValue145
  t76 := Tryz.underlying151
  a76 := Tryz.isAgg151
  z76 := Tryz.sizeOf151
  v76 := Tryz.zeroValue151
  t77 := Tryz.underlying152
  a77 := Tryz.isAgg152
  z77 := Tryz.sizeOf152
  v77 := Tryz.zeroValue152 }
def Tryz.laysCmp_ren : Go.Shelf.Ren := ⟨fun | 5 => 23 | 7 => 45 | n => n, fun | 22 => 3 | 3 => 3 | 4 => 4 | n => n, fun | n => n⟩
theorem Tryz.laysCmp : Go.Proofs.SlLaysC2.n5 Tryz.prog Tryz.laysCmp_ren := {
  mixed := by kernel_rfl
  f5 := ⟨Tryz.f23.name, by decide, Tryz.func23.trans (congrArg some (by kernel_rfl))⟩
  f7 := ⟨Tryz.f45.name, by decide, Tryz.func45.trans (congrArg some (by kernel_rfl))⟩
  t3 := Tryz.underlying3
  a3 := Tryz.isAgg3
  z3 := Tryz.sizeOf3
  v3 := Tryz.zeroValue3
  t4 := Tryz.underlying4
  a4 := Tryz.isAgg4
  z4 := Tryz.sizeOf4
  v4 := Tryz.zeroValue4
  t22 := Tryz.underlying3
  a22 := Tryz.isAgg3
  z22 := Tryz.sizeOf3
  v22 := Tryz.zeroValue3 }
end Go.Proofs

/-
  The order of tones, and sorting by insertion: it is the one sorted list. No condition.
-/
namespace Go.Ab.V
open Go.Proofs

/-- a tone -/
structure Tn where
  p : Int
  f : Int
  t : Int
def tnR (x : Tn) : List AV := [.int .i64 x.p, .int .i64 x.f, .int .i64 x.t]
def tnsA (l : List Tn) : AV := .lslc 3 (l.map tnR) 0 l.length false
def cmpI (a b : Int) : Int := if a < b then -1 else if b < a then 1 else 0
def tz : Tn := ⟨0, 0, 0⟩
instance : Inhabited Tn := ⟨tz⟩
/-- the order of tones, as a number -/
def cmp3 (x y : Tn) : Int := if cmpI x.f y.f ≠ 0 then cmpI x.f y.f else if cmpI x.p y.p ≠ 0 then cmpI x.p y.p else cmpI x.t y.t
/-- whether a tone comes before another one -/
def bef (x y : Tn) : Bool := if x.f ≠ y.f then decide (x.f < y.f) else if x.p ≠ y.p then decide (x.p < y.p) else decide (x.t < y.t)
theorem bef_iff (x y : Tn) : bef x y = true ↔ x.f < y.f ∨ (x.f = y.f ∧ (x.p < y.p ∨ (x.p = y.p ∧ x.t < y.t))) := by
  unfold bef
  split
  · simp; omega
  · split
    · simp; omega
    · simp; omega
theorem bef_no (x y : Tn) : bef x y = false ↔ ¬ (x.f < y.f ∨ (x.f = y.f ∧ (x.p < y.p ∨ (x.p = y.p ∧ x.t < y.t)))) := by
  rw [← bef_iff]; simp
theorem cmp3_lt (x y : Tn) : decide (cmp3 x y < 0) = bef x y := by
  cases h : bef x y
  · rw [bef_no] at h
    simp only [decide_eq_false_iff_not]
    unfold cmp3 cmpI
    (repeat' split) <;> omega
  · rw [bef_iff] at h
    simp only [decide_eq_true_eq]
    unfold cmp3 cmpI
    (repeat' split) <;> omega
theorem bef_swo : Go.Sort.SWO bef := by
  refine ⟨fun x => ?_, fun x y z h1 h2 => ?_, fun x y z h1 h2 => ?_⟩
  · rw [bef_no]; omega
  · rw [bef_iff] at *; omega
  · rw [bef_no] at *; omega
theorem bef_tot {x y : Tn} (h1 : bef x y = false) (h2 : bef y x = false) : x = y := by
  rw [bef_no] at h1 h2
  obtain ⟨a, b, c⟩ := x
  obtain ⟨d, e, f⟩ := y
  simp only at h1 h2
  have : a = d ∧ b = e ∧ c = f := by omega
  obtain ⟨rfl, rfl, rfl⟩ := this
  rfl
/-- the sorted list -/
def sortT (l : List Tn) : List Tn := l.mergeSort fun x y => !bef y x
/-- a tone that moves down to its place -/
def bub : Nat → List Tn → List Tn
  | 0, l => l
  | j + 1, l => if bef (l.getD (j + 1) tz) (l.getD j tz) = true then bub j ((l.set (j + 1) (l.getD j tz)).set j (l.getD (j + 1) tz)) else l
def ins (l : List Tn) (x : Tn) : List Tn := bub l.length (l ++ [x])
theorem sortT_len (l : List Tn) : (sortT l).length = l.length := List.length_mergeSort l
end Go.Ab.V

/-
  The order of tones as the library's sort asks for it: cmp.Or, and the function that is handed to the sort. No condition.
-/
namespace Go.Proofs
open Go.Shelf Go.RowKit Go.Lib Go.Sort
def orV (x y z : Int) : Int := if x ≠ 0 then x else if y ≠ 0 then y else z
set_option maxHeartbeats 2000000 in
theorem orC (x y z : Int) (blk : Nat) (W : World) (h0 : W.cell? ⟨blk, 0, none⟩ = some (.int .i64 x)) (h1 : W.cell? ⟨blk, 1, none⟩ = some (.int .i64 y)) (h2 : W.cell? ⟨blk, 2, none⟩ = some (.int .i64 z)) :
    Calls Tryz.prog 22 #[.slice (some ⟨blk, 0, none⟩) 3 3] W fun e w' => e = .returned (.int .i64 (if x ≠ 0 then x else if y ≠ 0 then y else z)) ∧ w' = W := by
  by_cases hx : x = 0
  · by_cases hy : y = 0
    · by_cases hz : z = 0
      · subst hx hy hz
        go_enter Tryz.func22, Tryz.ntmps22
        go_wp2
        refine wp_loop_rounds 4 ?_
        (iterate 4 (rw [rounds_succ]; go_wp2))
        go_ret
        exact ⟨rfl, rfl⟩
      · subst hx hy
        go_enter Tryz.func22, Tryz.ntmps22
        go_wp2
        refine wp_loop_rounds 4 ?_
        (iterate 3 (rw [rounds_succ]; go_wp2))
        go_ret
        exact ⟨rfl, rfl⟩
    · subst hx
      go_enter Tryz.func22, Tryz.ntmps22
      go_wp2
      refine wp_loop_rounds 4 ?_
      (iterate 2 (rw [rounds_succ]; go_wp2))
      go_ret
      exact ⟨by simp [hy], rfl⟩
  · go_enter Tryz.func22, Tryz.ntmps22
    go_wp2
    refine wp_loop_rounds 4 ?_
    rw [rounds_succ]
    go_wp2
    go_ret
    exact ⟨by simp [hx], rfl⟩

theorem orAt (x y z : Int) (V : World) : Calls Tryz.prog 22 #[.slice (some ⟨V.heap.size, 0, none⟩) 3 3] (V.alloc (.cells #[.int .i64 x, .int .i64 y, .int .i64 z] 3))
    fun e w' => e = .returned (.int .i64 (orV x y z)) ∧ w' = V.alloc (.cells #[.int .i64 x, .int .i64 y, .int .i64 z] 3) := by
  have h := fun i => World.cell?_alloc_at (w := V) #[.int .i64 x, .int .i64 y, .int .i64 z] 3 _ i rfl
  exact orC x y z _ _ (h 0) (h 1) (h 2)
set_option maxHeartbeats 20000000 in
set_option maxRecDepth 100000 in
theorem order83 (x y : Go.Ab.V.Tn) (W : World) : Calls Tryz.prog 21 #[.agg #[.int .i64 x.p, .int .i64 x.f, .int .i64 x.t], .agg #[.int .i64 y.p, .int .i64 y.f, .int .i64 y.t]] W
    fun e w' => e = .returned (.int .i64 (Go.Ab.V.cmp3 x y)) ∧ ∃ q os', w' = grow (W.drewN q) os' := by
  obtain ⟨x1, x2, x3⟩ := x
  obtain ⟨y1, y2, y3⟩ := y
  have hcon := fun a b W' => AnyG.cmp_Compare_int Tryz.laysCmp a b W'
  change ∀ a b W', Calls Tryz.prog 23 _ _ _ at hcon
  go_enter Tryz.func21, Tryz.ntmps21
  go_wp2
  refine wp_region_still_tail 15 (by kernel_rfl) (by kernel_rfl) ?_
  change wpStill _ _ (World.drew _) (fun a' => wpList _ _ _ _ a' (World.drew _)) _ _
  simp only [List.take_succ_cons, List.take_zero, List.drop_succ_cons, List.drop_zero]
  (repeat (first | still_step | still_call (hcon _ _ _)))
  (try refine wpStill_nil ?_)
  generalize hV : World.drew _ = V
  have hor := orAt (compareInt x2 y2) (compareInt x1 y1) (compareInt x3 y3) V
  go_wp2_with (go_at_call 22; refine hor.mono ?_; rintro e w' ⟨rfl, rfl⟩)
  all_goals go_ret
  subst hV
  refine ⟨rfl, 1, #[.cells #[.int .i64 x1, .int .i64 x2, .int .i64 x3] 62, .cells #[.int .i64 y1, .int .i64 y2, .int .i64 y3] 62, .cells #[.int .i64 (compareInt x2 y2), .int .i64 (compareInt x1 y1), .int .i64 (compareInt x3 y3)] 3], ?_⟩
  simp only [alloc_eq_grow, grow_grow, drew_grow]
  rfl
end Go.Proofs

/-
  The shapes of the arguments of the laws of a piece. No condition.
-/
namespace Go.Ab
theorem shp_struct {ti : TI} {m t : Nat} {xs : List AV} {d : TD} {fs : List (Nat × Nat)} (hd : ti t = some d) (hk : d.kind = .struct fs) (h : Shp ti (m + 1) t xs) :
    xs.length = d.size ∧ ∀ f ∈ fs, ∃ df, ti f.2 = some df ∧ Shp ti m f.2 ((xs.drop f.1).take df.size) := by
  unfold Shp at h; rw [hd] at h; simp only [hk] at h; exact h
theorem shp_int {ti : TI} {m t : Nat} {xs : List AV} {d : TD} {k : IntKind} (hd : ti t = some d) (hk : d.kind = .int k) (h : Shp ti (m + 1) t xs) : ∃ i, xs = [.int k i] ∧ k.min ≤ i ∧ i ≤ k.max := by
  unfold Shp at h; rw [hd] at h; simp only [hk] at h; exact h
theorem shp_bool {ti : TI} {m t : Nat} {xs : List AV} {d : TD} (hd : ti t = some d) (hk : d.kind = .bool) (h : Shp ti (m + 1) t xs) : ∃ b, xs = [.bool b] := by
  unfold Shp at h; rw [hd] at h; simp only [hk] at h; exact h
theorem shp_slice {ti : TI} {m t e : Nat} {xs : List AV} {d : TD} (hd : ti t = some d) (hk : d.kind = .slice e) (h : Shp ti (m + 1) t xs) :
    ∃ de rows, ti e = some de ∧ xs = [.lslc de.size rows 0 rows.length false] ∧ rows.length ≤ maxLen ∧ ∀ r ∈ rows, Shp ti m e r := by
  unfold Shp at h; rw [hd] at h; simp only [hk] at h; exact h
theorem rows_map {α : Type} {f : α → List AV} : ∀ {rows : List (List AV)}, (∀ r ∈ rows, ∃ x, r = f x) → ∃ l : List α, rows = l.map f
  | [], _ => ⟨[], rfl⟩
  | r :: rs, h => by
    obtain ⟨x, rfl⟩ := h r (List.mem_cons_self ..)
    obtain ⟨l, rfl⟩ := rows_map (rows := rs) (fun r hr => h r (List.mem_cons_of_mem _ hr))
    exact ⟨x :: l, rfl⟩
end Go.Ab
namespace Go.Ab.V
open Go.Proofs

theorem i64_bd {i : Int} (h : IntKind.i64.min ≤ i ∧ i ≤ IntKind.i64.max) : -9223372036854775808 ≤ i ∧ i ≤ 9223372036854775807 := h

theorem fld {n : Nat} {xs : List AV} {d : TD} {t off k : Nat} {P : List AV → Prop} (h : ∃ df, C.ti t = some df ∧ Shp C.ti n t ((xs.drop off).take df.size)) (hd : C.ti t = some d) (he : d.size = k) : Shp C.ti n t ((xs.drop off).take k) := by
  obtain ⟨df, h1, h2⟩ := h
  rw [hd] at h1
  cases h1
  rw [he] at h2
  exact h2

theorem shv_int {m : Nat} {a : AV} (h : ShpV C.ti (m + 1) 3 a) : ∃ i, a = .int .i64 i ∧ -9223372036854775808 ≤ i ∧ i ≤ 9223372036854775807 := by
  have h : Shp C.ti (m + 1) 3 [a] := h
  obtain ⟨i, e, b⟩ := shp_int rfl rfl h
  cases e
  exact ⟨i, rfl, b⟩

theorem len3 {l : List AV} (h : l.length = 3) : ∃ a b c, l = [a, b, c] := by
  match l, h with
  | [a, b, c], _ => exact ⟨a, b, c, rfl⟩
theorem len5 {l : List AV} (h : l.length = 5) : ∃ a b c d e, l = [a, b, c, d, e] := by
  match l, h with
  | [a, b, c, d, e], _ => exact ⟨a, b, c, d, e, rfl⟩
theorem len6 {l : List AV} (h : l.length = 6) : ∃ a b c d e f, l = [a, b, c, d, e, f] := by
  match l, h with
  | [a, b, c, d, e, f], _ => exact ⟨a, b, c, d, e, f, rfl⟩
theorem len2 {l : List AV} (h : l.length = 2) : ∃ a b, l = [a, b] := by
  match l, h with
  | [a, b], _ => exact ⟨a, b, rfl⟩

theorem s_int {m : Nat} {xs : List AV} (h : Shp C.ti (m + 1) 3 xs) : ∃ i, xs = [.int .i64 i] := by
  obtain ⟨i, e, _⟩ := shp_int rfl rfl h
  exact ⟨i, e⟩
theorem s_bool {m : Nat} {xs : List AV} (h : Shp C.ti (m + 1) 4 xs) : ∃ i, xs = [.bool i] := shp_bool rfl rfl h
theorem s_sign {m : Nat} {xs : List AV} (h : Shp C.ti (m + 2) 47 xs) : ∃ v d t, xs = [.int .i64 v, .bool d, .bool t] := by
  obtain ⟨l, hf⟩ := shp_struct (ti := C.ti) rfl rfl h
  obtain ⟨a, b, c, rfl⟩ := len3 l
  obtain ⟨x, hx⟩ := s_int (fld (P := fun _ => True) (hf (0, 3) (by decide)) rfl rfl)
  obtain ⟨y, hy⟩ := s_bool (fld (P := fun _ => True) (hf (1, 4) (by decide)) rfl rfl)
  obtain ⟨z, hz⟩ := s_bool (fld (P := fun _ => True) (hf (2, 4) (by decide)) rfl rfl)
  simp at hx hy hz
  exact ⟨x, y, z, by rw [hx, hy, hz]⟩
theorem shv_sign {m : Nat} {a : AV} (h : ShpV C.ti (m + 2) 47 a) : ∃ v d t, a = .agg [.int .i64 v, .bool d, .bool t] := by
  have h : ∃ xs, a = .agg xs ∧ Shp C.ti (m + 2) 47 xs := h
  obtain ⟨xs, rfl, h'⟩ := h
  obtain ⟨v, d, t, rfl⟩ := s_sign h'
  exact ⟨v, d, t, rfl⟩

theorem s_stp {m : Nat} {xs : List AV} (h : Shp C.ti (m + 2) 49 xs) : ∃ s, xs = stR s := by
  obtain ⟨l, hf⟩ := shp_struct (ti := C.ti) rfl rfl h
  obtain ⟨a, b, c, d, e, rfl⟩ := len5 l
  obtain ⟨x1, h1⟩ := s_int (fld (P := fun _ => True) (hf (0, 3) (by decide)) rfl rfl)
  obtain ⟨x2, h2⟩ := s_int (fld (P := fun _ => True) (hf (1, 3) (by decide)) rfl rfl)
  obtain ⟨x3, h3⟩ := s_int (fld (P := fun _ => True) (hf (2, 3) (by decide)) rfl rfl)
  obtain ⟨x4, h4⟩ := s_int (fld (P := fun _ => True) (hf (3, 3) (by decide)) rfl rfl)
  obtain ⟨x5, h5⟩ := s_int (fld (P := fun _ => True) (hf (4, 3) (by decide)) rfl rfl)
  simp at h1 h2 h3 h4 h5
  exact ⟨⟨x1, x2, x3, x4, x5⟩, by rw [h1, h2, h3, h4, h5]; rfl⟩
theorem s_slice {α : Type} {f : α → List AV} {m t e sz : Nat} {d de : TD} {xs : List AV} (hd : C.ti t = some d) (hk : d.kind = .slice e) (he : C.ti e = some de) (hz : de.size = sz) (hf : ∀ r, Shp C.ti m e r → ∃ x, r = f x) (h : Shp C.ti (m + 1) t xs) :
    ∃ l : List α, xs = [.lslc sz (l.map f) 0 l.length false] ∧ l.length ≤ 9223372036854775807 := by
  obtain ⟨de', rows, h1, rfl, h2, h3⟩ := shp_slice hd hk h
  rw [he] at h1
  cases h1
  obtain ⟨l, rfl⟩ := rows_map (fun r hr => hf r (h3 r hr))
  rw [List.length_map] at h2 ⊢
  exact ⟨l, by rw [hz], h2⟩
theorem s_sts {m : Nat} {xs : List AV} (h : Shp C.ti (m + 3) 50 xs) : ∃ l, xs = [stsA l] ∧ l.length ≤ 9223372036854775807 := s_slice (f := stR) rfl rfl rfl rfl (fun _ h => s_stp h) h
theorem s_ints {m : Nat} {xs : List AV} (h : Shp C.ti (m + 2) 23 xs) : ∃ l, xs = [intsA l] ∧ l.length ≤ 9223372036854775807 := s_slice (f := fun x => [.int .i64 x]) rfl rfl rfl rfl (fun _ h => s_int h) h
theorem s_crs {m : Nat} {xs : List AV} (h : Shp C.ti (m + 2) 45 xs) : ∃ c, xs = crR c := by
  obtain ⟨l, hf⟩ := shp_struct (ti := C.ti) rfl rfl h
  obtain ⟨a, b, c, rfl⟩ := len3 l
  obtain ⟨x, hx⟩ := s_int (fld (P := fun _ => True) (hf (0, 3) (by decide)) rfl rfl)
  obtain ⟨y, hy⟩ := s_int (fld (P := fun _ => True) (hf (1, 3) (by decide)) rfl rfl)
  obtain ⟨z, hz⟩ := s_bool (fld (P := fun _ => True) (hf (2, 4) (by decide)) rfl rfl)
  simp at hx hy hz
  exact ⟨⟨x, y, z⟩, by rw [hx, hy, hz]; rfl⟩
theorem s_crss {m : Nat} {xs : List AV} (h : Shp C.ti (m + 3) 22 xs) : ∃ l, xs = [crsA l] ∧ l.length ≤ 9223372036854775807 := s_slice (f := crR) rfl rfl rfl rfl (fun _ h => s_crs h) h
theorem s_evt {m : Nat} {xs : List AV} (h : Shp C.ti (m + 4) 52 xs) : ∃ e : Evt, xs = evR e ∧ e.stops.length ≤ 9223372036854775807 := by
  obtain ⟨l, hf⟩ := shp_struct (ti := C.ti) rfl rfl h
  obtain ⟨a, b, c, d, e, f, rfl⟩ := len6 l
  obtain ⟨x1, h1⟩ := s_bool (fld (P := fun _ => True) (hf (0, 4) (by decide)) rfl rfl)
  obtain ⟨x2, x3, x4, h2⟩ := s_sign (fld (P := fun _ => True) (hf (1, 47) (by decide)) rfl rfl)
  obtain ⟨x5, h5⟩ := s_bool (fld (P := fun _ => True) (hf (4, 4) (by decide)) rfl rfl)
  obtain ⟨x6, h6, h7⟩ := s_sts (fld (P := fun _ => True) (hf (5, 50) (by decide)) rfl rfl)
  simp at h1 h2 h5 h6
  obtain ⟨h2, h3, h4⟩ := h2
  exact ⟨⟨x1, x2, x3, x4, x5, x6⟩, by rw [h1, h2, h3, h4, h5, h6]; rfl, h7⟩
theorem s_evts {m : Nat} {xs : List AV} (h : Shp C.ti (m + 5) 26 xs) : ∃ l, xs = [evsA l] ∧ l.length ≤ 9223372036854775807 ∧ ∀ e ∈ l, e.stops.length ≤ 9223372036854775807 := by
  obtain ⟨l, h1, h2⟩ := s_slice (f := fun x : { e : Evt // e.stops.length ≤ 9223372036854775807 } => evR x.1) rfl rfl rfl rfl (fun r h => by obtain ⟨e, h1, h2⟩ := s_evt h; exact ⟨⟨e, h2⟩, h1⟩) h
  refine ⟨l.map Subtype.val, ?_, by simpa using h2, fun e he => ?_⟩
  · rw [h1]; unfold evsA; simp
  · obtain ⟨x, _, rfl⟩ := List.mem_map.1 he
    exact x.2
theorem shv_piece {m : Nat} {a : AV} (h : ShpV C.ti (m + 6) 28 a) : ∃ p : Pc, a = pcA p ∧ p.Ok := by
  have h : ∃ xs, a = .agg xs ∧ Shp C.ti (m + 6) 28 xs := h
  obtain ⟨xs, rfl, h'⟩ := h
  obtain ⟨l, hf⟩ := shp_struct (ti := C.ti) rfl rfl h'
  obtain ⟨a, b, c, rfl⟩ := len3 l
  have h1 := fld (P := fun _ => True) (hf (0, 25) (by decide)) rfl rfl
  obtain ⟨es, h2, h3, h4⟩ := s_evts (fld (P := fun _ => True) (hf (2, 26) (by decide)) rfl rfl)
  obtain ⟨l, hg⟩ := shp_struct (ti := C.ti) rfl rfl h1
  obtain ⟨cs, h5, h6⟩ := s_crss (fld (P := fun _ => True) (hg (0, 22) (by decide)) rfl rfl)
  obtain ⟨ss, h7, h8⟩ := s_ints (fld (P := fun _ => True) (hg (1, 23) (by decide)) rfl rfl)
  simp at h2 h5 h7
  exact ⟨⟨⟨cs, ss⟩, es⟩, by rw [h2, h5, h7]; rfl, ⟨h6, h8, h3, h4⟩⟩

theorem shv_ints {m : Nat} {a : AV} (h : ShpV C.ti (m + 2) 23 a) : ∃ l, a = intsA l ∧ l.length ≤ 9223372036854775807 := by
  have h : Shp C.ti (m + 2) 23 [a] := h
  obtain ⟨l, e, k⟩ := s_ints h
  cases e
  exact ⟨l, rfl, k⟩
theorem s_intB {m : Nat} {xs : List AV} (h : Shp C.ti (m + 1) 3 xs) : ∃ i : { i : Int // -9223372036854775808 ≤ i ∧ i ≤ 9223372036854775807 }, xs = [.int .i64 i.1] := by
  obtain ⟨i, e, b⟩ := shp_int rfl rfl h
  exact ⟨⟨i, b⟩, e⟩
theorem shv_intsB {m : Nat} {a : AV} (h : ShpV C.ti (m + 2) 23 a) : ∃ l, a = intsA l ∧ l.length ≤ 9223372036854775807 ∧ ∀ x ∈ l, -9223372036854775808 ≤ x ∧ x ≤ 9223372036854775807 := by
  have h : Shp C.ti (m + 2) 23 [a] := h
  obtain ⟨l, h1, h2⟩ := s_slice (f := fun x : { i : Int // -9223372036854775808 ≤ i ∧ i ≤ 9223372036854775807 } => [AV.int .i64 x.1]) rfl rfl rfl rfl (fun r h => s_intB h) h
  refine ⟨l.map Subtype.val, ?_, by simpa using h2, fun x hx => ?_⟩
  · cases h1
    unfold intsA ints
    simp
  · obtain ⟨y, _, rfl⟩ := List.mem_map.1 hx
    exact y.2
end Go.Ab.V
