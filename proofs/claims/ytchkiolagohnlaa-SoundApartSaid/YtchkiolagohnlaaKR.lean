/-
  What is proved here serves the law's text: each part says its own claim and its conditions. No condition is left open.
-/
import Derived.Test.YtchkiolagohnlaaKP
import Derived.Test.YtchkiolagohnlaaKQ
import Derived.Shelf.SlGeneric
import Derived.Shelf.Sort.Plain
import Derived.Shelf.Slices.In.SortNone
import Derived.Shelf.Slices.CompactI
import Derived.Shelf.Spec.SlicesGrow
import Derived.Ground.NamesProg
import Derived.Ground.Names2Prog
import Derived.Ground.Names8Prog
import Derived.Test.YtchkiolagohnlaaChecked
import Derived.Lib.RowBridge
import Derived.Test.YtchkiolagohnlaaKN
set_option linter.unusedSimpArgs false
set_option linter.unusedVariables false

/-
  The pitches that sound at a time: the numbers that a map counts, in plain terms. No condition.
-/
namespace Go.Ab.V

def kvR (p : Int × Int) : AV × AV := (.int .i64 p.1, .int .i64 p.2)
/-- a number counted once more -/
def ups : List (Int × Int) → Int → List (Int × Int)
  | [], p => [(p, 1)]
  | q :: r, p => if q.1 = p then (p, IntKind.i64.wrap (q.2 + 1)) :: r else q :: ups r p
def keysL (kv : List (Int × Int)) : List Int := kv.map (·.1)
def fnd : Nat → List (Int × Int) → Int → Option (Nat × Int)
  | _, [], _ => none
  | i, q :: r, p => if q.1 = p then some (i, q.2) else fnd (i + 1) r p
theorem findI_kv {p : Int} {K : Option (Nat × AV) → Prop} : ∀ {kv : List (Int × Int)} {i : Nat}, K ((fnd i kv p).map fun x => (x.1, .int .i64 x.2)) → findI .i64 p i (kv.map kvR) K
  | [], i, h => h
  | q :: r, i, h => by
    rw [List.map_cons]
    unfold fnd at h
    show (IntKind.i64 = IntKind.i64 ∧ (match decide (p = q.1) with
      | true => K (some (i, .int .i64 q.2))
      | false => findI .i64 p (i + 1) (r.map kvR) K))
    refine ⟨rfl, ?_⟩
    by_cases e : q.1 = p
    · rw [if_pos e] at h
      rw [show decide (p = q.1) = true by simp [e]]
      exact h
    · rw [if_neg e] at h
      rw [show decide (p = q.1) = false by simp; omega]
      exact findI_kv h
theorem ups_none : ∀ {kv : List (Int × Int)} {p : Int} {i : Nat}, fnd i kv p = none → ups kv p = kv ++ [(p, 1)]
  | [], p, i, h => rfl
  | q :: r, p, i, h => by
    unfold fnd at h
    split at h
    · cases h
    · rename_i e
      unfold ups
      rw [if_neg e, ups_none h]; rfl
theorem ups_some : ∀ {kv : List (Int × Int)} {p : Int} {i j : Nat} {c : Int}, fnd i kv p = some (j, c) → i ≤ j ∧ ups kv p = kv.set (j - i) (p, IntKind.i64.wrap (c + 1))
  | [], p, i, j, c, h => by cases h
  | q :: r, p, i, j, c, h => by
    unfold fnd at h
    unfold ups
    split at h
    · rename_i e
      cases h
      rw [if_pos e]
      exact ⟨Nat.le_refl _, by simp⟩
    · rename_i e
      obtain ⟨h1, h2⟩ := ups_some h
      rw [if_neg e, h2]
      refine ⟨by omega, ?_⟩
      rw [show j - i = (j - (i + 1)) + 1 by omega]
      rfl
theorem keys_ups : ∀ (kv : List (Int × Int)) (p x : Int), x ∈ keysL (ups kv p) ↔ x ∈ keysL kv ∨ x = p
  | [], p, x => by simp [ups, keysL]
  | q :: r, p, x => by
    unfold ups
    split
    · rename_i e
      subst e
      simp only [keysL, List.map_cons, List.mem_cons]
      constructor
      · rintro (h | h)
        · exact .inr h
        · exact .inl (.inr h)
      · rintro ((h | h) | h)
        · exact .inl h
        · exact .inr h
        · exact .inl h
    · have ih := keys_ups r p x
      simp only [keysL, List.map_cons, List.mem_cons] at ih ⊢
      rw [ih, or_assoc]
theorem nodup_ups : ∀ (kv : List (Int × Int)) (p : Int), (keysL kv).Nodup → (keysL (ups kv p)).Nodup
  | [], p, _ => by simp [ups, keysL]
  | q :: r, p, h => by
    unfold ups
    split
    · rename_i e
      subst e
      exact h
    · rename_i e
      simp only [keysL, List.map_cons, List.nodup_cons] at h ⊢
      refine ⟨fun hm => ?_, nodup_ups r p h.2⟩
      rcases (keys_ups r p q.1).1 hm with y | y
      · exact h.1 y
      · exact e y
/-- what has been counted -/
def kvs (t : Int) : List (Int × Int) → List Nt → List (Int × Int)
  | kv, [] => kv
  | kv, x :: r => kvs t (if x.f ≤ t ∧ t < x.t then ups kv x.p else kv) r
theorem keys_kvs (t : Int) : ∀ (l : List Nt) (kv : List (Int × Int)) (x : Int), x ∈ keysL (kvs t kv l) ↔ x ∈ keysL kv ∨ ∃ n ∈ l, (n.f ≤ t ∧ t < n.t) ∧ n.p = x
  | [], kv, x => by simp [kvs]
  | a :: l, kv, x => by
    rw [kvs, keys_kvs t l]
    split
    · rename_i h
      rw [keys_ups]
      constructor
      · rintro ((h1 | h1) | ⟨n, hn, h1⟩)
        · exact .inl h1
        · exact .inr ⟨a, by simp, h, h1.symm⟩
        · exact .inr ⟨n, by simp [hn], h1⟩
      · rintro (h1 | ⟨n, hn, h1, h2⟩)
        · exact .inl (.inl h1)
        · rcases List.mem_cons.1 hn with rfl | hn
          · exact .inl (.inr h2.symm)
          · exact .inr ⟨n, hn, h1, h2⟩
    · rename_i h
      constructor
      · rintro (h1 | ⟨n, hn, h1⟩)
        · exact .inl h1
        · exact .inr ⟨n, by simp [hn], h1⟩
      · rintro (h1 | ⟨n, hn, h1, h2⟩)
        · exact .inl h1
        · rcases List.mem_cons.1 hn with rfl | hn
          · exact absurd h1 h
          · exact .inr ⟨n, hn, h1, h2⟩
theorem nodup_kvs (t : Int) : ∀ (l : List Nt) (kv : List (Int × Int)), (keysL kv).Nodup → (keysL (kvs t kv l)).Nodup
  | [], kv, h => h
  | a :: l, kv, h => by
    rw [kvs]
    refine nodup_kvs t l _ ?_
    split
    · exact nodup_ups _ _ h
    · exact h
theorem kvs_len (t : Int) : ∀ (l : List Nt) (kv : List (Int × Int)), (kvs t kv l).length ≤ kv.length + l.length
  | [], kv => by simp [kvs]
  | a :: l, kv => by
    rw [kvs]
    have := kvs_len t l (if a.f ≤ t ∧ t < a.t then ups kv a.p else kv)
    have h2 : (if a.f ≤ t ∧ t < a.t then ups kv a.p else kv).length ≤ kv.length + 1 := by
      split
      · cases h : fnd 0 kv a.p with
        | none => rw [ups_none h]; simp
        | some x => obtain ⟨j, c⟩ := x; rw [(ups_some h).2]; simp
      · omega
    simp only [List.length_cons]
    omega
/-- the pitches of some notes at a time -/
def pit (t : Int) (l : List Nt) : List Int := srt (keysL (kvs t [] l))
theorem srt_perm {l m : List Int} (h : l.Perm m) : srt l = srt m := by
  refine List.Perm.eq_of_pairwise (le := fun a b : Int => a ≤ b) (fun a b _ _ h1 h2 => by omega) ?_ ?_ (((List.mergeSort_perm l _).trans h).trans (List.mergeSort_perm m _).symm)
  · exact (List.pairwise_mergeSort (le := fun x y : Int => decide (x ≤ y)) (fun a b c h1 h2 => by simp at *; omega) (fun a b => by simp; omega) l).imp fun h => by simpa using h
  · exact (List.pairwise_mergeSort (le := fun x y : Int => decide (x ≤ y)) (fun a b c h1 h2 => by simp at *; omega) (fun a b => by simp; omega) m).imp fun h => by simpa using h
/-- the numbers that were met, in the order in which the range gave them: a permutation -/
theorem pick_perm {kv : List (Int × Int)} {idx : List Nat} (hn : idx.Nodup) (hb : ∀ i ∈ idx, i < kv.length) (ha : ∀ i, i < kv.length → i ∈ idx) : (idx.map fun i => (keysL kv).getD i 0).Perm (keysL kv) := by
  have h1 : idx.Perm (List.range kv.length) := by
    refine (List.perm_ext_iff_of_nodup hn List.nodup_range).2 fun i => ?_
    rw [List.mem_range]
    exact ⟨hb i, ha i⟩
  have h2 := h1.map fun i => (keysL kv).getD i 0
  refine h2.trans ?_
  have h3 : (List.range kv.length).map (fun i => (keysL kv).getD i 0) = keysL kv := by
    refine List.ext_getElem (by simp [keysL]) fun i h1 h2 => ?_
    have hi : i < (keysL kv).length := h2
    simp [List.getD, hi]
  rw [h3]
end Go.Ab.V

/-
  The bodies of slices.Sort and slices.Compact (written by the kit's lay-plain.mjs for this seat). No condition.
-/
namespace Go.Proofs
open Go.Shelf
def Try.lays189_ren : Go.Shelf.Ren := ⟨fun | 189 => 59 | 125 => 93 | 257 => 92 | 128 => 121 | 129 => 122 | 294 => 112 | 295 => 113 | 296 => 114 | 297 => 115 | 298 => 116 | 299 => 117 | 216 => 118 | 300 => 119 | 301 => 120 | 328 => 134 | 329 => 135 | 330 => 136 | 331 => 137 | 332 => 138 | 215 => 108 | 343 => 144 | n => n, fun | 28 => 23 | 3 => 3 | 46 => 94 | 0 => 0 | 51 => 154 | 53 => 156 | 4 => 4 | 183 => 148 | 182 => 147 | 131 => 151 | 5 => 5 | 9 => 9 | 218 => 164 | 222 => 168 | 228 => 172 | 229 => 173 | n => n, fun | n => n⟩
theorem Try.lays189 : Go.Proofs.Lays.n189 Try.prog Try.lays189_ren := {
  mixed := by kernel_rfl
  f125 := Try.func93.trans (congrArg some (by kernel_rfl))
  f128 := Try.func121.trans (congrArg some (by kernel_rfl))
  f129 := Try.func122.trans (congrArg some (by kernel_rfl))
  f189 := Try.func59.trans (congrArg some (by kernel_rfl))
  f215 := Try.func108.trans (congrArg some (by kernel_rfl))
  f216 := Try.func118.trans (congrArg some (by kernel_rfl))
  f257 := Try.func92.trans (congrArg some (by kernel_rfl))
  f294 := Try.func112.trans (congrArg some (by kernel_rfl))
  f295 := Try.func113.trans (congrArg some (by kernel_rfl))
  f296 := Try.func114.trans (congrArg some (by kernel_rfl))
  f297 := Try.func115.trans (congrArg some (by kernel_rfl))
  f298 := Try.func116.trans (congrArg some (by kernel_rfl))
  f299 := Try.func117.trans (congrArg some (by kernel_rfl))
  f300 := Try.func119.trans (congrArg some (by kernel_rfl))
  f301 := Try.func120.trans (congrArg some (by kernel_rfl))
  f328 := Try.func134.trans (congrArg some (by kernel_rfl))
  f329 := Try.func135.trans (congrArg some (by kernel_rfl))
  f330 := Try.func136.trans (congrArg some (by kernel_rfl))
  f331 := Try.func137.trans (congrArg some (by kernel_rfl))
  f332 := Try.func138.trans (congrArg some (by kernel_rfl))
  f343 := Try.func144.trans (congrArg some (by kernel_rfl))
  t0 := Try.underlying0
  a0 := Try.isAgg0
  z0 := Try.sizeOf0
  v0 := Try.zeroValue0
  t3 := Try.underlying3
  a3 := Try.isAgg3
  z3 := Try.sizeOf3
  v3 := Try.zeroValue3
  t4 := Try.underlying4
  a4 := Try.isAgg4
  z4 := Try.sizeOf4
  v4 := Try.zeroValue4
  t5 := Try.underlying5
  a5 := Try.isAgg5
  z5 := Try.sizeOf5
  v5 := Try.zeroValue5
  t9 := Try.underlying9
  a9 := Try.isAgg9
  z9 := Try.sizeOf9
  v9 := Try.zeroValue9
  t28 := Try.underlying23
  a28 := Try.isAgg23
  z28 := Try.sizeOf23
  v28 := Try.zeroValue23
  t46 := Try.underlying94
  a46 := Try.isAgg94
  z46 := Try.sizeOf94
  v46 := Try.zeroValue94
  t51 := Try.underlying154
  a51 := Try.isAgg154
  z51 := Try.sizeOf154
  v51 := Try.zeroValue154
  t53 := Try.underlying156
  a53 := Try.isAgg156
  z53 := Try.sizeOf156
  v53 := Try.zeroValue156
  t131 := Try.underlying151
  a131 := Try.isAgg151
  z131 := Try.sizeOf151
  v131 := Try.zeroValue151
  t182 := Try.underlying147
  a182 := Try.isAgg147
  z182 := Try.sizeOf147
  v182 := Try.zeroValue147
  t183 := Try.underlying148
  a183 := Try.isAgg148
  z183 := Try.sizeOf148
  v183 := Try.zeroValue148
  t218 := Try.underlying164
  a218 := Try.isAgg164
  z218 := Try.sizeOf164
  v218 := Try.zeroValue164
  t222 := Try.underlying168
  a222 := Try.isAgg168
  z222 := Try.sizeOf168
  v222 := Try.zeroValue168
  t228 := Try.underlying172
  a228 := Try.isAgg172
  z228 := Try.sizeOf172
  v228 := Try.zeroValue172
  t229 := Try.underlying173
  a229 := Try.isAgg173
  z229 := Try.sizeOf173
  v229 := Try.zeroValue173 }
def Try.laysCompact_ren : Go.Shelf.Ren := ⟨fun | 20 => 77 | n => n, fun | 22 => 23 | 3 => 3 | 4 => 4 | 0 => 0 | n => n, fun | n => n⟩
theorem Try.laysCompact : Go.Proofs.Lays2.n20 Try.prog Try.laysCompact_ren := {
  mixed := by kernel_rfl
  f20 := Try.func77.trans (congrArg some (by kernel_rfl))
  t0 := Try.underlying0
  a0 := Try.isAgg0
  z0 := Try.sizeOf0
  v0 := Try.zeroValue0
  t3 := Try.underlying3
  a3 := Try.isAgg3
  z3 := Try.sizeOf3
  v3 := Try.zeroValue3
  t4 := Try.underlying4
  a4 := Try.isAgg4
  z4 := Try.sizeOf4
  v4 := Try.zeroValue4
  t22 := Try.underlying23
  a22 := Try.isAgg23
  z22 := Try.sizeOf23
  v22 := Try.zeroValue23
  i3 := by kernel_rfl }
end Go.Proofs

/-
  slices.Sort at this program, as a call in abstract terms. No condition but the lengths.
-/
namespace Go.Ab.V
open Go.Proofs Go.Sort

theorem sort59 {h : Heap} {id : Id} {ep : Nat} {zs : List Int} (ho : h[id]? = some (.vec ep (ints zs))) (hl : zs.length < 4611686018427387904) :
    ACalls C.P 59 [.oslc id ep 1 0 zs.length false] h fun r h' => r = .tup [] ∧ h' = h.set id (.vec ep (ints (srt zs))) :=
  sort_acalls (P := Try.prog) (f := 59) (fun blk off cap zs w hH hb hz => Any.slices_Sort_int Try.lays189 blk off cap zs w hH hb hz) (fun p cap w => Any.slices_Sort_int_none Try.lays189 p cap w) ho hl
end Go.Ab.V
