/-
  What is proved here serves the law's text: each part says its own claim and its conditions. No condition is left open.
-/
import Derived.Shelf.SlGeneric
import Derived.Shelf.SlSortCmp.NoneTotal
import Derived.Shelf.SlicesG.Cmp
import Derived.Ground.SlsfProg
import Derived.Ground.SlgcProg
import Derived.Test.YtchkiolagohnlaaChecked
import Derived.Sort.LotA
import Derived.Test.YtchkiolagohnlaaJB
import Derived.StillTailTactics
import Derived.Test.YtchkiolagohnlaaJC
set_option linter.unusedSimpArgs false
set_option linter.unusedVariables false

/-
  The bodies of SortFunc at tones and of cmp.Compare at int (written by the kit's lay-plain.mjs for this seat). No condition.
-/
namespace Go.Proofs
open Go.Shelf
def Try.laysSortF_ren : Go.Shelf.Ren := ⟨fun | 6 => 82 | 15 => 93 | 14 => 107 | 28 => 121 | 29 => 122 | 20 => 126 | 21 => 127 | 22 => 128 | 23 => 129 | 24 => 130 | 25 => 131 | 26 => 132 | 27 => 133 | 46 => 141 | 47 => 135 | 48 => 136 | 49 => 142 | 50 => 143 | 57 => 146 | n => n, fun | 22 => 74 | 24 => 118 | 25 => 121 | 3 => 3 | 39 => 94 | 0 => 0 | 53 => 154 | 55 => 156 | 4 => 4 | 46 => 148 | 45 => 147 | 50 => 151 | 5 => 5 | 9 => 9 | 66 => 164 | 70 => 168 | 76 => 172 | 77 => 173 | n => n, fun | n => n⟩
theorem Try.laysSortF : Go.Proofs.SlLaysF0.n6 Try.prog Try.laysSortF_ren := {
  mixed := by kernel_rfl
  f6 := ⟨Try.f82.name, by decide, Try.func82.trans (congrArg some (by kernel_rfl))⟩
  f14 := ⟨Try.f107.name, by decide, Try.func107.trans (congrArg some (by kernel_rfl))⟩
  f15 := Try.func93.trans (congrArg some (by kernel_rfl))
  f20 := ⟨Try.f126.name, by decide, Try.func126.trans (congrArg some (by kernel_rfl))⟩
  f21 := ⟨Try.f127.name, by decide, Try.func127.trans (congrArg some (by kernel_rfl))⟩
  f22 := ⟨Try.f128.name, by decide, Try.func128.trans (congrArg some (by kernel_rfl))⟩
  f23 := ⟨Try.f129.name, by decide, Try.func129.trans (congrArg some (by kernel_rfl))⟩
  f24 := ⟨Try.f130.name, by decide, Try.func130.trans (congrArg some (by kernel_rfl))⟩
  f25 := ⟨Try.f131.name, by decide, Try.func131.trans (congrArg some (by kernel_rfl))⟩
  f26 := ⟨Try.f132.name, by decide, Try.func132.trans (congrArg some (by kernel_rfl))⟩
  f27 := ⟨Try.f133.name, by decide, Try.func133.trans (congrArg some (by kernel_rfl))⟩
  f28 := Try.func121.trans (congrArg some (by kernel_rfl))
  f29 := Try.func122.trans (congrArg some (by kernel_rfl))
  f46 := ⟨Try.f141.name, by decide, Try.func141.trans (congrArg some (by kernel_rfl))⟩
  f47 := Try.func135.trans (congrArg some (by kernel_rfl))
  f48 := Try.func136.trans (congrArg some (by kernel_rfl))
  f49 := ⟨Try.f142.name, by decide, Try.func142.trans (congrArg some (by kernel_rfl))⟩
  f50 := ⟨Try.f143.name, by decide, Try.func143.trans (congrArg some (by kernel_rfl))⟩
  f57 := ⟨Try.f146.name, by decide, Try.func146.trans (congrArg some (by kernel_rfl))⟩
  t0 := Try.underlying0
  a0 := Try.isAgg0
  z0 := Try.sizeOf0
  v0 := Try.zeroValue0
  t3 := Try.underlying3
  a3 := Try.isAgg3
  z3 := Try.sizeOf3
  v3 := Try.zeroValue3
  t4 := Try.underlying4
  a4 := Try.isAgg4
  z4 := Try.sizeOf4
  v4 := Try.zeroValue4
  t5 := Try.underlying5
  a5 := Try.isAgg5
  z5 := Try.sizeOf5
  v5 := Try.zeroValue5
  t9 := Try.underlying9
  a9 := Try.isAgg9
  z9 := Try.sizeOf9
  v9 := Try.zeroValue9
  t22 := Try.underlying74
  a22 := Try.isAgg74
  z22 := Try.sizeOf74
  v22 := Try.zeroValue74
  t25 := Try.underlying121
  a25 := Try.isAgg121
  z25 := Try.sizeOf121
  v25 := Try.zeroValue121
  t39 := Try.underlying94
  a39 := Try.isAgg94
  z39 := Try.sizeOf94
  v39 := Try.zeroValue94
  t45 := Try.underlying147
  a45 := Try.isAgg147
  z45 := Try.sizeOf147
  v45 := Try.zeroValue147
  t46 := Try.underlying148
  a46 := Try.isAgg148
  z46 := Try.sizeOf148
  v46 := Try.zeroValue148
  t50 := Try.underlying151
  a50 := Try.isAgg151
  z50 := Try.sizeOf151
  v50 := Try.zeroValue151
  t53 := Try.underlying154
  a53 := Try.isAgg154
  z53 := Try.sizeOf154
  v53 := Try.zeroValue154
  t55 := Try.underlying156
  a55 := Try.isAgg156
  z55 := Try.sizeOf156
  v55 := Try.zeroValue156
  t66 := Try.underlying164
  a66 := Try.isAgg164
  z66 := Try.sizeOf164
  v66 := Try.zeroValue164
  t70 := Try.underlying168
  a70 := Try.isAgg168
  z70 := Try.sizeOf168
  v70 := Try.zeroValue168
  t76 := Try.underlying172
  a76 := Try.isAgg172
  z76 := Try.sizeOf172
  v76 := Try.zeroValue172
  t77 := Try.underlying173
  a77 := Try.isAgg173
  z77 := Try.sizeOf173
  v77 := Try.zeroValue173 }
def Try.laysCmp_ren : Go.Shelf.Ren := ⟨fun | 5 => 85 | 7 => 108 | n => n, fun | 22 => 3 | 3 => 3 | 4 => 4 | n => n, fun | n => n⟩
theorem Try.laysCmp : Go.Proofs.SlLaysC2.n5 Try.prog Try.laysCmp_ren := {
  mixed := by kernel_rfl
  f5 := ⟨Try.f85.name, by decide, Try.func85.trans (congrArg some (by kernel_rfl))⟩
  f7 := ⟨Try.f108.name, by decide, Try.func108.trans (congrArg some (by kernel_rfl))⟩
  t3 := Try.underlying3
  a3 := Try.isAgg3
  z3 := Try.sizeOf3
  v3 := Try.zeroValue3
  t4 := Try.underlying4
  a4 := Try.isAgg4
  z4 := Try.sizeOf4
  v4 := Try.zeroValue4
  t22 := Try.underlying3
  a22 := Try.isAgg3
  z22 := Try.sizeOf3
  v22 := Try.zeroValue3 }
end Go.Proofs

/-
  The order of tones, and sorting by insertion: it is the one sorted list. No condition.
-/
namespace Go.Ab.V
open Go.Proofs

/-- a tone -/
structure Tn where
  p : Int
  f : Int
  t : Int
def tnR (x : Tn) : List AV := [.int .i64 x.p, .int .i64 x.f, .int .i64 x.t]
def tnsA (l : List Tn) : AV := .lslc 3 (l.map tnR) 0 l.length false
theorem pure_tns (l : List Tn) : pureRows (l.map tnR) := Go.Ab.V.pure_map (f := tnR) l fun x => rfl
def cmpI (a b : Int) : Int := if a < b then -1 else if b < a then 1 else 0
def tz : Tn := ⟨0, 0, 0⟩
instance : Inhabited Tn := ⟨tz⟩
/-- the order of tones, as a number -/
def cmp3 (x y : Tn) : Int := if cmpI x.f y.f ≠ 0 then cmpI x.f y.f else if cmpI x.p y.p ≠ 0 then cmpI x.p y.p else cmpI x.t y.t
/-- whether a tone comes before another one -/
def bef (x y : Tn) : Bool := if x.f ≠ y.f then decide (x.f < y.f) else if x.p ≠ y.p then decide (x.p < y.p) else decide (x.t < y.t)
theorem bef_iff (x y : Tn) : bef x y = true ↔ x.f < y.f ∨ (x.f = y.f ∧ (x.p < y.p ∨ (x.p = y.p ∧ x.t < y.t))) := by
  unfold bef
  split
  · simp; omega
  · split
    · simp; omega
    · simp; omega
theorem bef_no (x y : Tn) : bef x y = false ↔ ¬ (x.f < y.f ∨ (x.f = y.f ∧ (x.p < y.p ∨ (x.p = y.p ∧ x.t < y.t)))) := by
  rw [← bef_iff]; simp
theorem cmp3_lt (x y : Tn) : decide (cmp3 x y < 0) = bef x y := by
  cases h : bef x y
  · rw [bef_no] at h
    simp only [decide_eq_false_iff_not]
    unfold cmp3 cmpI
    (repeat' split) <;> omega
  · rw [bef_iff] at h
    simp only [decide_eq_true_eq]
    unfold cmp3 cmpI
    (repeat' split) <;> omega
theorem bef_swo : Go.Sort.SWO bef := by
  refine ⟨fun x => ?_, fun x y z h1 h2 => ?_, fun x y z h1 h2 => ?_⟩
  · rw [bef_no]; omega
  · rw [bef_iff] at *; omega
  · rw [bef_no] at *; omega
theorem bef_tot {x y : Tn} (h1 : bef x y = false) (h2 : bef y x = false) : x = y := by
  rw [bef_no] at h1 h2
  obtain ⟨a, b, c⟩ := x
  obtain ⟨d, e, f⟩ := y
  simp only at h1 h2
  have : a = d ∧ b = e ∧ c = f := by omega
  obtain ⟨rfl, rfl, rfl⟩ := this
  rfl
abbrev leT (x y : Tn) : Prop := (!bef y x) = true
theorem leT_iff {x y : Tn} : leT x y ↔ bef y x = false := by simp [leT]
theorem leT_trans {x y z : Tn} (h1 : leT x y) (h2 : leT y z) : leT x z := by
  rw [leT_iff] at *
  exact bef_swo.ntrans _ _ _ h2 h1
theorem leT_of_bef {x y : Tn} (h : bef x y = true) : leT x y := by
  rw [leT_iff, bef_no]; rw [bef_iff] at h; omega
/-- the sorted list -/
def sortT (l : List Tn) : List Tn := l.mergeSort fun x y => !bef y x
theorem sortT_uniq {l m : List Tn} (hp : m.Perm l) (hs : m.Pairwise leT) : m = sortT l := by
  refine List.Perm.eq_of_pairwise (le := leT) (fun a b _ _ h1 h2 => ?_) hs ?_ (hp.trans (List.mergeSort_perm _ _).symm)
  · exact bef_tot (leT_iff.1 h2) (leT_iff.1 h1)
  · exact List.pairwise_mergeSort (le := fun x y => !bef y x) (fun a b c h1 h2 => leT_trans h1 h2) (fun a b => by
      by_cases h : bef b a = true
      · have := leT_of_bef h; simp [leT] at this; simp [this]
      · simp at h; simp [h]) l
/-- a tone that moves down to its place -/
def bub : Nat → List Tn → List Tn
  | 0, l => l
  | j + 1, l => if bef (l.getD (j + 1) tz) (l.getD j tz) = true then bub j ((l.set (j + 1) (l.getD j tz)).set j (l.getD (j + 1) tz)) else l
def ins (l : List Tn) (x : Tn) : List Tn := bub l.length (l ++ [x])
theorem bub_len : ∀ (j : Nat) (l : List Tn), (bub j l).length = l.length
  | 0, l => rfl
  | j + 1, l => by
    unfold bub
    split
    · rw [bub_len j]; simp
    · rfl
theorem bub_spec : ∀ (n : Nat) (A : List Tn) (x : Tn) (B : List Tn), A.length = n → A.Pairwise leT → ∃ A1 A2, A = A1 ++ A2 ∧ bub n (A ++ x :: B) = A1 ++ x :: A2 ++ B ∧ (∀ y ∈ A2, leT x y) ∧ (∀ y ∈ A1, leT y x)
  | 0, A, x, B, h, hs => ⟨[], [], by simpa using h, by
      have : A = [] := by simpa using h
      subst this; rfl, by simp, by simp⟩
  | n + 1, A, x, B, h, hs => by
    have hne : A ≠ [] := by intro e; subst e; simp at h
    obtain ⟨A0, a, rfl⟩ : ∃ A0 a, A = A0 ++ [a] := ⟨A.dropLast, A.getLast hne, (List.dropLast_concat_getLast hne).symm⟩
    have h0 : A0.length = n := by simpa using h
    obtain ⟨s1, s2, s3⟩ := List.pairwise_append.1 hs
    have g1 : (A0 ++ [a] ++ x :: B).getD (n + 1) tz = x := by subst h0; simp [List.getD]
    have g0 : (A0 ++ [a] ++ x :: B).getD n tz = a := by subst h0; simp [List.getD]
    unfold bub
    rw [g1, g0]
    by_cases hb : bef x a = true
    · rw [if_pos hb]
      have e : ((A0 ++ [a] ++ x :: B).set (n + 1) a).set n x = A0 ++ x :: (a :: B) := by
        subst h0
        simp [List.set_append]
      rw [e]
      obtain ⟨A1, A2, e1, e2, e3, e4⟩ := bub_spec n A0 x (a :: B) h0 s1
      refine ⟨A1, A2 ++ [a], by rw [e1]; simp, by rw [e2]; simp, fun y hy => ?_, e4⟩
      rcases List.mem_append.1 hy with hy | hy
      · exact e3 y hy
      · simp at hy; subst hy; exact leT_of_bef hb
    · rw [if_neg hb]
      have hb : leT a x := by rw [leT_iff]; simpa using hb
      refine ⟨A0 ++ [a], [], by simp, by simp, by simp, fun y hy => ?_⟩
      rcases List.mem_append.1 hy with hy | hy
      · exact leT_trans (s3 y hy a (by simp)) hb
      · simp at hy; subst hy; exact hb
theorem ins_spec {l : List Tn} (x : Tn) (h : l.Pairwise leT) : (ins l x).Pairwise leT ∧ (ins l x).Perm (l ++ [x]) := by
  obtain ⟨A1, A2, e1, e2, e3, e4⟩ := bub_spec l.length l x [] rfl h
  unfold ins
  rw [e2, List.append_nil]
  rw [e1] at h
  obtain ⟨s1, s2, s3⟩ := List.pairwise_append.1 h
  constructor
  · refine List.pairwise_append.2 ⟨s1, List.pairwise_cons.2 ⟨e3, s2⟩, fun a ha b hb => ?_⟩
    rcases List.mem_cons.1 hb with rfl | hb
    · exact e4 a ha
    · exact s3 a ha b hb
  · rw [e1, List.append_assoc]
    refine List.Perm.append_left A1 ?_
    exact (List.perm_append_singleton x A2).symm
def insL (acc l : List Tn) : List Tn := l.foldl ins acc
theorem insL_spec : ∀ (l acc : List Tn), acc.Pairwise leT → (insL acc l).Pairwise leT ∧ (insL acc l).Perm (acc ++ l)
  | [], acc, h => ⟨h, by simp [insL]⟩
  | x :: r, acc, h => by
    obtain ⟨h1, h2⟩ := ins_spec x h
    obtain ⟨h3, h4⟩ := insL_spec r (ins acc x) h1
    refine ⟨h3, h4.trans ?_⟩
    have := List.Perm.append_right r h2
    simpa using this
theorem insL_sort (l : List Tn) : insL [] l = sortT l := by
  obtain ⟨h1, h2⟩ := insL_spec l [] List.Pairwise.nil
  exact sortT_uniq (by simpa using h2) h1
theorem insL_app (acc l m : List Tn) : insL acc (l ++ m) = insL (insL acc l) m := List.foldl_append
theorem ins_len (l : List Tn) (x : Tn) : (ins l x).length = l.length + 1 := by unfold ins; rw [bub_len]; simp
theorem insL_len : ∀ (l acc : List Tn), (insL acc l).length = acc.length + l.length
  | [], acc => rfl
  | x :: r, acc => by
    show (insL (ins acc x) r).length = _
    rw [insL_len r, ins_len, List.length_cons]; omega
theorem sortT_len (l : List Tn) : (sortT l).length = l.length := List.length_mergeSort l
end Go.Ab.V

/-
  The order of tones as the library's sort asks for it: cmp.Or, and the function that is handed to the sort. No condition.
-/
namespace Go.Proofs
open Go.Shelf Go.RowKit Go.Lib Go.Sort
def orV (x y z : Int) : Int := if x ≠ 0 then x else if y ≠ 0 then y else z
set_option maxHeartbeats 2000000 in
theorem orC (x y z : Int) (blk : Nat) (W : World) (h0 : W.cell? ⟨blk, 0, none⟩ = some (.int .i64 x)) (h1 : W.cell? ⟨blk, 1, none⟩ = some (.int .i64 y)) (h2 : W.cell? ⟨blk, 2, none⟩ = some (.int .i64 z)) :
    Calls Try.prog 84 #[.slice (some ⟨blk, 0, none⟩) 3 3] W fun e w' => e = .returned (.int .i64 (if x ≠ 0 then x else if y ≠ 0 then y else z)) ∧ w' = W := by
  by_cases hx : x = 0
  · by_cases hy : y = 0
    · by_cases hz : z = 0
      · subst hx hy hz
        go_enter Try.func84, Try.ntmps84
        go_wp2
        refine wp_loop_rounds 4 ?_
        (iterate 4 (rw [rounds_succ]; go_wp2))
        go_ret
        exact ⟨rfl, rfl⟩
      · subst hx hy
        go_enter Try.func84, Try.ntmps84
        go_wp2
        refine wp_loop_rounds 4 ?_
        (iterate 3 (rw [rounds_succ]; go_wp2))
        go_ret
        exact ⟨rfl, rfl⟩
    · subst hx
      go_enter Try.func84, Try.ntmps84
      go_wp2
      refine wp_loop_rounds 4 ?_
      (iterate 2 (rw [rounds_succ]; go_wp2))
      go_ret
      exact ⟨by simp [hy], rfl⟩
  · go_enter Try.func84, Try.ntmps84
    go_wp2
    refine wp_loop_rounds 4 ?_
    rw [rounds_succ]
    go_wp2
    go_ret
    exact ⟨by simp [hx], rfl⟩

theorem orAt (x y z : Int) (V : World) : Calls Try.prog 84 #[.slice (some ⟨V.heap.size, 0, none⟩) 3 3] (V.alloc (.cells #[.int .i64 x, .int .i64 y, .int .i64 z] 3))
    fun e w' => e = .returned (.int .i64 (orV x y z)) ∧ w' = V.alloc (.cells #[.int .i64 x, .int .i64 y, .int .i64 z] 3) := by
  have h := fun i => World.cell?_alloc_at (w := V) #[.int .i64 x, .int .i64 y, .int .i64 z] 3 _ i rfl
  exact orC x y z _ _ (h 0) (h 1) (h 2)
set_option maxHeartbeats 20000000 in
set_option maxRecDepth 100000 in
theorem order83 (x y : Go.Ab.V.Tn) (W : World) : Calls Try.prog 83 #[.agg #[.int .i64 x.p, .int .i64 x.f, .int .i64 x.t], .agg #[.int .i64 y.p, .int .i64 y.f, .int .i64 y.t]] W
    fun e w' => e = .returned (.int .i64 (Go.Ab.V.cmp3 x y)) ∧ ∃ q os', w' = grow (W.drewN q) os' := by
  obtain ⟨x1, x2, x3⟩ := x
  obtain ⟨y1, y2, y3⟩ := y
  have hcon := fun a b W' => AnyG.cmp_Compare_int Try.laysCmp a b W'
  change ∀ a b W', Calls Try.prog 85 _ _ _ at hcon
  go_enter Try.func83, Try.ntmps83
  go_wp2
  refine wp_region_still_tail 15 (by kernel_rfl) (by kernel_rfl) ?_
  change wpStill _ _ (World.drew _) (fun a' => wpList _ _ _ _ a' (World.drew _)) _ _
  simp only [List.take_succ_cons, List.take_zero, List.drop_succ_cons, List.drop_zero]
  (repeat (first | still_step | still_call (hcon _ _ _)))
  (try refine wpStill_nil ?_)
  generalize hV : World.drew _ = V
  have hor := orAt (compareInt x2 y2) (compareInt x1 y1) (compareInt x3 y3) V
  go_wp2_with (go_at_call 84; refine hor.mono ?_; rintro e w' ⟨rfl, rfl⟩)
  all_goals go_ret
  subst hV
  refine ⟨rfl, 1, #[.cells #[.int .i64 x1, .int .i64 x2, .int .i64 x3] 118, .cells #[.int .i64 y1, .int .i64 y2, .int .i64 y3] 118, .cells #[.int .i64 (compareInt x2 y2), .int .i64 (compareInt x1 y1), .int .i64 (compareInt x3 y3)] 3], ?_⟩
  simp only [alloc_eq_grow, grow_grow, drew_grow]
  rfl
end Go.Proofs
