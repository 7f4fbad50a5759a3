/-
  What is proved here serves the law's text: each part says its own claim and its conditions. No condition is left open.
-/
import Derived.Test.YtchkiolagohnlaaGreatKP
import Derived.Test.YtchkiolagohnlaaGreatKQ
import Derived.Shelf.SlGeneric
import Derived.Shelf.Sort.Plain
import Derived.Shelf.Slices.In.SortNone
import Derived.Shelf.Slices.CompactI
import Derived.Shelf.Spec.SlicesGrow
import Derived.Ground.NamesProg
import Derived.Ground.Names2Prog
import Derived.Ground.Names8Prog
import Derived.Test.YtchkiolagohnlaaGreatChecked
import Derived.Lib.RowBridge
import Derived.Test.YtchkiolagohnlaaGreatKN
set_option linter.unusedSimpArgs false
set_option linter.unusedVariables false

/-
  The pitches that sound at a time: the numbers that a map counts, in plain terms. No condition.
-/
namespace Go.Ab.V

def kvR (p : Int × Int) : AV × AV := (.int .i64 p.1, .int .i64 p.2)
/-- a number counted once more -/
def ups : List (Int × Int) → Int → List (Int × Int)
  | [], p => [(p, 1)]
  | q :: r, p => if q.1 = p then (p, IntKind.i64.wrap (q.2 + 1)) :: r else q :: ups r p
def keysL (kv : List (Int × Int)) : List Int := kv.map (·.1)
def fnd : Nat → List (Int × Int) → Int → Option (Nat × Int)
  | _, [], _ => none
  | i, q :: r, p => if q.1 = p then some (i, q.2) else fnd (i + 1) r p
theorem findI_kv {p : Int} {K : Option (Nat × AV) → Prop} : ∀ {kv : List (Int × Int)} {i : Nat}, K ((fnd i kv p).map fun x => (x.1, .int .i64 x.2)) → findI .i64 p i (kv.map kvR) K
  | [], i, h => h
  | q :: r, i, h => by
    rw [List.map_cons]
    unfold fnd at h
    show (IntKind.i64 = IntKind.i64 ∧ (match decide (p = q.1) with
      | true => K (some (i, .int .i64 q.2))
      | false => findI .i64 p (i + 1) (r.map kvR) K))
    refine ⟨rfl, ?_⟩
    by_cases e : q.1 = p
    · rw [if_pos e] at h
      rw [show decide (p = q.1) = true by simp [e]]
      exact h
    · rw [if_neg e] at h
      rw [show decide (p = q.1) = false by simp; omega]
      exact findI_kv h
theorem ups_none : ∀ {kv : List (Int × Int)} {p : Int} {i : Nat}, fnd i kv p = none → ups kv p = kv ++ [(p, 1)]
  | [], p, i, h => rfl
  | q :: r, p, i, h => by
    unfold fnd at h
    split at h
    · cases h
    · rename_i e
      unfold ups
      rw [if_neg e, ups_none h]; rfl
theorem ups_some : ∀ {kv : List (Int × Int)} {p : Int} {i j : Nat} {c : Int}, fnd i kv p = some (j, c) → i ≤ j ∧ ups kv p = kv.set (j - i) (p, IntKind.i64.wrap (c + 1))
  | [], p, i, j, c, h => by cases h
  | q :: r, p, i, j, c, h => by
    unfold fnd at h
    unfold ups
    split at h
    · rename_i e
      cases h
      rw [if_pos e]
      exact ⟨Nat.le_refl _, by simp⟩
    · rename_i e
      obtain ⟨h1, h2⟩ := ups_some h
      rw [if_neg e, h2]
      refine ⟨by omega, ?_⟩
      rw [show j - i = (j - (i + 1)) + 1 by omega]
      rfl
theorem keys_ups : ∀ (kv : List (Int × Int)) (p x : Int), x ∈ keysL (ups kv p) ↔ x ∈ keysL kv ∨ x = p
  | [], p, x => by simp [ups, keysL]
  | q :: r, p, x => by
    unfold ups
    split
    · rename_i e
      subst e
      simp only [keysL, List.map_cons, List.mem_cons]
      constructor
      · rintro (h | h)
        · exact .inr h
        · exact .inl (.inr h)
      · rintro ((h | h) | h)
        · exact .inl h
        · exact .inr h
        · exact .inl h
    · have ih := keys_ups r p x
      simp only [keysL, List.map_cons, List.mem_cons] at ih ⊢
      rw [ih, or_assoc]
theorem nodup_ups : ∀ (kv : List (Int × Int)) (p : Int), (keysL kv).Nodup → (keysL (ups kv p)).Nodup
  | [], p, _ => by simp [ups, keysL]
  | q :: r, p, h => by
    unfold ups
    split
    · rename_i e
      subst e
      exact h
    · rename_i e
      simp only [keysL, List.map_cons, List.nodup_cons] at h ⊢
      refine ⟨fun hm => ?_, nodup_ups r p h.2⟩
      rcases (keys_ups r p q.1).1 hm with y | y
      · exact h.1 y
      · exact e y
/-- what has been counted -/
def kvs (t : Int) : List (Int × Int) → List Nt → List (Int × Int)
  | kv, [] => kv
  | kv, x :: r => kvs t (if x.f ≤ t ∧ t < x.t then ups kv x.p else kv) r
theorem nodup_kvs (t : Int) : ∀ (l : List Nt) (kv : List (Int × Int)), (keysL kv).Nodup → (keysL (kvs t kv l)).Nodup
  | [], kv, h => h
  | a :: l, kv, h => by
    rw [kvs]
    refine nodup_kvs t l _ ?_
    split
    · exact nodup_ups _ _ h
    · exact h
theorem kvs_len (t : Int) : ∀ (l : List Nt) (kv : List (Int × Int)), (kvs t kv l).length ≤ kv.length + l.length
  | [], kv => by simp [kvs]
  | a :: l, kv => by
    rw [kvs]
    have := kvs_len t l (if a.f ≤ t ∧ t < a.t then ups kv a.p else kv)
    have h2 : (if a.f ≤ t ∧ t < a.t then ups kv a.p else kv).length ≤ kv.length + 1 := by
      split
      · cases h : fnd 0 kv a.p with
        | none => rw [ups_none h]; simp
        | some x => obtain ⟨j, c⟩ := x; rw [(ups_some h).2]; simp
      · omega
    simp only [List.length_cons]
    omega
/-- the pitches of some notes at a time -/
def pit (t : Int) (l : List Nt) : List Int := srt (keysL (kvs t [] l))
theorem srt_perm {l m : List Int} (h : l.Perm m) : srt l = srt m := by
  refine List.Perm.eq_of_pairwise (le := fun a b : Int => a ≤ b) (fun a b _ _ h1 h2 => by omega) ?_ ?_ (((List.mergeSort_perm l _).trans h).trans (List.mergeSort_perm m _).symm)
  · exact (List.pairwise_mergeSort (le := fun x y : Int => decide (x ≤ y)) (fun a b c h1 h2 => by simp at *; omega) (fun a b => by simp; omega) l).imp fun h => by simpa using h
  · exact (List.pairwise_mergeSort (le := fun x y : Int => decide (x ≤ y)) (fun a b c h1 h2 => by simp at *; omega) (fun a b => by simp; omega) m).imp fun h => by simpa using h
/-- the numbers that were met, in the order in which the range gave them: a permutation -/
theorem pick_perm {kv : List (Int × Int)} {idx : List Nat} (hn : idx.Nodup) (hb : ∀ i ∈ idx, i < kv.length) (ha : ∀ i, i < kv.length → i ∈ idx) : (idx.map fun i => (keysL kv).getD i 0).Perm (keysL kv) := by
  have h1 : idx.Perm (List.range kv.length) := by
    refine (List.perm_ext_iff_of_nodup hn List.nodup_range).2 fun i => ?_
    rw [List.mem_range]
    exact ⟨hb i, ha i⟩
  have h2 := h1.map fun i => (keysL kv).getD i 0
  refine h2.trans ?_
  have h3 : (List.range kv.length).map (fun i => (keysL kv).getD i 0) = keysL kv := by
    refine List.ext_getElem (by simp [keysL]) fun i h1 h2 => ?_
    have hi : i < (keysL kv).length := h2
    simp [List.getD, hi]
  rw [h3]
end Go.Ab.V

/-
  The bodies of slices.Sort and slices.Compact (written by the kit's lay-plain.mjs for this seat). No condition.
-/
namespace Go.Proofs
open Go.Shelf
def Tryz.lays189_ren : Go.Shelf.Ren := ⟨fun | 189 => 42 | 125 => 44 | 257 => 59 | 128 => 68 | 129 => 69 | 294 => 80 | 295 => 81 | 296 => 82 | 297 => 83 | 298 => 84 | 299 => 85 | 216 => 86 | 300 => 87 | 301 => 88 | 328 => 98 | 329 => 90 | 330 => 91 | 331 => 99 | 332 => 100 | 215 => 45 | 343 => 111 | n => n, fun | 28 => 23 | 3 => 3 | 46 => 95 | 0 => 0 | 51 => 123 | 53 => 125 | 4 => 4 | 183 => 116 | 182 => 115 | 131 => 120 | 5 => 5 | 9 => 9 | 218 => 141 | 222 => 145 | 228 => 151 | 229 => 152 | n => n, fun | n => n⟩
theorem Tryz.lays189 : Go.Proofs.Lays.n189 Tryz.prog Tryz.lays189_ren := {
  mixed := by kernel_rfl
  f125 := Tryz.func44.trans (congrArg some (by kernel_rfl))
  f128 := Tryz.func68.trans (congrArg some (by kernel_rfl))
  f129 := Tryz.func69.trans (congrArg some (by kernel_rfl))
  f189 := Tryz.func42.trans (congrArg some (by kernel_rfl))
  f215 := Tryz.func45.trans (congrArg some (by kernel_rfl))
  f216 := Tryz.func86.trans (congrArg some (by kernel_rfl))
  f257 := Tryz.func59.trans (congrArg some (by kernel_rfl))
  f294 := Tryz.func80.trans (congrArg some (by kernel_rfl))
  f295 := Tryz.func81.trans (congrArg some (by kernel_rfl))
  f296 := Tryz.func82.trans (congrArg some (by kernel_rfl))
  f297 := Tryz.func83.trans (congrArg some (by kernel_rfl))
  f298 := Tryz.func84.trans (congrArg some (by kernel_rfl))
  f299 := Tryz.func85.trans (congrArg some (by kernel_rfl))
  f300 := Tryz.func87.trans (congrArg some (by kernel_rfl))
  f301 := Tryz.func88.trans (congrArg some (by kernel_rfl))
  f328 := Tryz.func98.trans (congrArg some (by kernel_rfl))
  f329 := Tryz.func90.trans (congrArg some (by kernel_rfl))
  f330 := Tryz.func91.trans (congrArg some (by kernel_rfl))
  f331 := Tryz.func99.trans (congrArg some (by kernel_rfl))
  f332 := Tryz.func100.trans (congrArg some (by kernel_rfl))
  f343 := Tryz.func111.trans (congrArg some (by kernel_rfl))
  t0 := Tryz.underlying0
  a0 := Tryz.isAgg0
  z0 := Tryz.sizeOf0
  v0 := Tryz.zeroValue0
  t3 := Tryz.underlying3
  a3 := Tryz.isAgg3
  z3 := Tryz.sizeOf3
  v3 := Tryz.zeroValue3
  t4 := Tryz.underlying4
  a4 := Tryz.isAgg4
  z4 := Tryz.sizeOf4
  v4 := Tryz.zeroValue4
  t5 := Tryz.underlying5
  a5 := Tryz.isAgg5
  z5 := Tryz.sizeOf5
  v5 := Tryz.zeroValue5
  t9 := Tryz.underlying9
  a9 := Tryz.isAgg9
  z9 := Tryz.sizeOf9
  v9 := Tryz.zeroValue9
  t28 := Tryz.underlying23
  a28 := Tryz.isAgg23
  z28 := Tryz.sizeOf23
  v28 := Tryz.zeroValue23
  t46 := Tryz.underlying95
  a46 := Tryz.isAgg95
  z46 := Tryz.sizeOf95
  v46 := Tryz.zeroValue95
  t51 := Tryz.underlying123
  a51 := Tryz.isAgg123
  z51 := Tryz.sizeOf123
  v51 := Tryz.zeroValue123
  t53 := Tryz.underlying125
  a53 := Tryz.isAgg125
  z53 := Tryz.sizeOf125
  v53 := Tryz.zeroValue125
  t131 := Tryz.underlying120
  a131 := Tryz.isAgg120
  z131 := Tryz.sizeOf120
  v131 := Tryz.zeroValue120
  t182 := Tryz.underlying115
  a182 := Tryz.isAgg115
  z182 := Tryz.sizeOf115
  v182 := Tryz.zeroValue115
  t183 := Tryz.underlying116
  a183 := Tryz.isAgg116
  z183 := Tryz.sizeOf116
  v183 := Tryz.zeroValue116
  t218 := Tryz.underlying141
  a218 := Tryz.isAgg141
  z218 := Tryz.sizeOf141
  v218 := Tryz.zeroValue141
  t222 := Tryz.underlying145
  a222 := Tryz.isAgg145
  z222 := Tryz.sizeOf145
  v222 := Tryz.zeroValue145
  t228 := Tryz.underlying151
  a228 := Tryz.isAgg151
  z228 := Tryz.sizeOf151
  v228 := Tryz.zeroValue151
  t229 := Tryz.underlying152
  a229 := Tryz.isAgg152
  z229 := Tryz.sizeOf152
  v229 := Tryz.zeroValue152 }
end Go.Proofs

/-
  slices.Sort at this program, as a call in abstract terms. No condition but the lengths.
-/
namespace Go.Ab.V
open Go.Proofs Go.Sort

theorem sort59 {h : Heap} {id : Id} {ep : Nat} {zs : List Int} (ho : h[id]? = some (.vec ep (ints zs))) (hl : zs.length < 4611686018427387904) :
    ACalls C.P 42 [.oslc id ep 1 0 zs.length false] h fun r h' => r = .tup [] ∧ h' = h.set id (.vec ep (ints (srt zs))) :=
  sort_acalls (P := Tryz.prog) (f := 42) (fun blk off cap zs w hH hb hz => Any.slices_Sort_int Tryz.lays189 blk off cap zs w hH hb hz) (fun p cap w => Any.slices_Sort_int_none Tryz.lays189 p cap w) ho hl
end Go.Ab.V
