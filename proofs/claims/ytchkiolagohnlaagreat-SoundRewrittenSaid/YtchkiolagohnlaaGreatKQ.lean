/-
  What is proved here serves the law's text: each part says its own claim and its conditions. No condition is left open.
-/
import Derived.Test.YtchkiolagohnlaaGreatKL
import Derived.Sort.Grow
import Derived.Sort.Row
import Derived.Sort.Statements
import Derived.Maps.RangeRun
import Derived.Test.YtchkiolagohnlaaGreatKP
set_option linter.unusedSimpArgs false
set_option linter.unusedVariables false

/-
  A result that stands for less; calls that leave a part of the heap. No condition.
-/
namespace Go.Ab

/-- a result that stands for less -/
theorem PCalls.sub {P : Program} {f : FuncId} {args : List AV} {r : AV} (h : PCalls P f args fun x => Sub x r) (hp : r.isPure2 = true) : PRet P f args r := by
  refine ⟨⟨⟨fun σ w vs s hv => ?_⟩⟩⟩
  refine (h.out.use σ w vs s hv).mono ?_
  rintro e w' ⟨v, rfl, σ1, h1, r1, k, m, x⟩
  obtain ⟨σ2, h2, r2, m2, x2, _, k2⟩ := frzK_sound m.sim x k
  exact ⟨v, rfl, σ2, h2, r, frzK_pure hp ⟨hp, rfl⟩, m.trans m2, k2.use σ2 v x2⟩

theorem psub_of {C : Ctx} (ok : COk C) (hm : C.P.follows .mixedOrders = true) {A : Ann} {f : FuncId} {fn : Func} {c : Code} (n : Nat) (hf : C.P.funcs[f]? = some fn) (hb : fn.body = some c) {args : List AV} {r : AV} (hp : r.isPure2 = true)
    (hk : forceR (frame0 args fn.ntmps) fun fr => forceHR (heap0 Heap.nil n) fun h => aexR C A c fr h fun e fr h' => match e with
      | .normal => resR C.ti fn.results.toList fr h' fun vs => retV vs fun v => frzK h' v fun r' _ => r'.isPure2 = true ∧ Sub r' r
      | .ret => resR C.ti fn.results.toList fr h' fun vs => retV vs fun v => frzK h' v fun r' _ => r'.isPure2 = true ∧ Sub r' r
      | .exit _ => False) (hy : C.yl = none := by rfl) : PRet C.P f args r := PCalls.sub ⟨fn_of ok hm n hf hb hk hy⟩ hp

end Go.Ab
namespace Go.Ab
/-- a call is handed a literal in place of a static object -/
theorem ACalls.fz {P : Program} {f : FuncId} {args : List AV} {h : Heap} {K : AV → Heap → Prop} (n : Nat) (hk : fzSK n args h fun args' h' => ACalls P f args' h' K) : ACalls P f args h K :=
  ⟨fun σ w vs s hv => by
    obtain ⟨σ', fr', h', k, m, v⟩ := fzSK_sound hv s hk
    refine (k.use σ' w vs m.sim v).mono ?_
    rintro e w' ⟨x, rfl, σ2, h2, r, hk, m2, vr⟩
    exact ⟨x, rfl, σ2, h2, r, hk, m.trans m2, vr⟩⟩
theorem PRet.calls {P : Program} {f : FuncId} {args : List AV} {r : AV} {h : Heap} {K : AV → Heap → Prop} (hc : PRet P f args r) (hk : K r h) : ACalls P f args h K :=
  ⟨fun σ w vs s hv => by
    refine (hc.out.use s hv).mono ?_
    rintro e w' ⟨x, rfl, σ2, h2, rfl, m2, vr⟩
    exact ⟨x, rfl, σ2, h, _, hk, m2, vr⟩⟩
end Go.Ab
namespace Go.Ab
def noS : AV → Bool
  | .oslc (.s _) _ _ _ _ _ => false
  | _ => true
theorem eqsP_no {n ep : Nat} : ∀ {l : List AV}, (∀ a ∈ l, noS a = true) → eqsP n ep l
  | [], _ => trivial
  | a :: l, h => by
    have h1 := h a (List.mem_cons_self ..)
    have h2 := eqsP_no (n := n) (ep := ep) fun b hb => h b (List.mem_cons_of_mem _ hb)
    unfold eqsP
    split
    · simp [noS] at h1
    · exact h2
theorem eqsP_rows {α : Type} {n ep : Nat} {f : α → List AV} (l : List α) (h : ∀ x, (f x).all noS = true) : eqsP n ep ((l.map f).flatten) :=
  eqsP_no fun a ha => by
    obtain ⟨r, hr, ha⟩ := List.mem_flatten.1 ha
    obtain ⟨x, _, rfl⟩ := List.mem_map.1 hr
    exact List.all_eq_true.1 (h x) a ha
theorem fcS_no {n : Nat} {rows : List (List AV)} {a : AV} (h : noS a = true) : fcS n rows a = a := by
  unfold fcS
  split
  · simp [noS] at h
  · rfl
theorem pure_map {α : Type} {f : α → List AV} (l : List α) (h : ∀ x, (f x).all AV.pure1 = true) : pureRows (l.map f) := by
  intro row hr c hc
  obtain ⟨x, _, rfl⟩ := List.mem_map.mp hr
  exact List.all_eq_true.mp (h x) c hc
end Go.Ab
namespace Go.Ab
/-- a part of a literal, as a literal of its own -/
theorem Sub.part {sz off len : Nat} {rows : List (List AV)} (hl : off + len ≤ rows.length) : Sub (.lslc sz rows off len false) (.lslc sz ((rows.drop off).take len) 0 len false) := ⟨fun σ v h => by
  have row : ∀ (i : Nat) (r : List AV), ((rows.drop off).take len)[i]? = some r → rows[off + i]? = some r := fun i r x => by
    rw [List.getElem?_take] at x
    split at x
    · rwa [List.getElem?_drop] at x
    · cases x
  have cell : ∀ (i j : Nat) (c : AV), cellAt ((rows.drop off).take len) i j = some c → cellAt rows (off + i) j = some c := fun i j c x => by
    obtain ⟨r, hr, hj⟩ := cellAt_get x
    unfold cellAt
    rw [row i r hr]
    exact hj
  cases h with
  | lslc g hw hc ho hv h1 h3 h5 =>
    rename_i blk st cap
    have := VRel.lslc (σ := σ) (sz := sz) (rows := (rows.drop off).take len) (off := 0) (len := len) (lim := false) (blk := blk) (st := st + off * sz) (cap := cap) (fun i j => g (off + i) j)
      (fun i r x => hw _ r (row i r x))
      (fun i j c x => by
        obtain ⟨cs, a, b⟩ := hc _ j c (cell i j c x)
        refine ⟨cs, a, ?_⟩
        rw [← b]
        congr 1
        rw [Nat.add_mul]; omega)
      (fun i j c x => ho _ j c (cell i j c x)) (fun i j c x => hv _ j c (cell i j c x)) (by simp; omega) (fun x => by cases x) h5
    simpa using this
  | lnil => exact .lnil
  | lz => exact .lz⟩
end Go.Ab

/-
  A list of slices, each an object of its own: they come into being at once, are read, changed and frozen. No condition.
-/
namespace Go.Ab

/-- an object that is known -/
theorem optO {o : Option AObj} {ep : Nat} {rows : List (List AV)} {P : Nat → List (List AV) → Prop} (h : o = some (.vec ep rows)) (hk : P ep rows) : (match (generalizing := false) o with | some (.vec ep' rows) => P ep' rows | _ => False) := by
  subst h; exact hk

end Go.Ab

/-
  The library's sorts, met by their contracts. No condition.
-/
namespace Go.Ab
open Go.Sort

/-- new blocks behind the world -/
theorem Sim.grown {σ : Sg} {h : Heap} {w w' : World} (s : Sim σ h w) {os : Array Obj} (hw : w'.heap = w.heap ++ os) (ho : SameOut w w') : Mv σ h w σ h w' := by
  have hb : ∀ b, b < w.heap.size → w'.heap[b]? = w.heap[b]? := fun b hb => by rw [hw, Array.getElem?_append_left hb]
  have lt : ∀ (b : Nat) (o : Obj), w.heap[b]? = some o → w'.heap[b]? = some o := fun b o x => by rw [hb b (Array.getElem?_eq_some_iff.1 x).1]; exact x
  refine ⟨.refl _, ⟨fun b cs x => ?_, fun i o x => ?_, s.apart, s.fresh, fun b o x => ⟨lt b o (s.rm b o x).1, (s.rm b o x).2⟩⟩, ho.os, ho.tape, ho.output, by rw [hw]; simp, fun b hlt _ => hb b hlt, fun b x => .inl x, fun b x => .inl x⟩
  · obtain ⟨T, fz, x⟩ := s.fm b cs x
    exact ⟨T, fz, lt b _ x⟩
  · refine (s.obj i o x).keep (.refl _) fun b hx => ⟨hb b (Live.lt s ⟨i, o, x, hx⟩), Live.noFM s ⟨i, o, x, hx⟩⟩

/-- the elements of an object, rewritten where they lie -/
theorem Sim.rewrite {σ : Sg} {h : Heap} {w w' : World} (s : Sim σ h w) {id : Id} {ep : Nat} {rows rows' : List (List AV)} (ho : h[id]? = some (.vec ep rows)) {blk st sz n size : Nat} (hρ : σ.ρ id ep = some (.at blk st sz n size))
    {cs cs' : Array Value} {T : TypeId} (hb : w.heap[blk]? = some (.cells cs T (0, 0))) {os : Array Obj} (hw : w'.heap = (w.heap.setIfInBounds blk (.cells cs' T (0, 0))) ++ os) (so : SameOut w w') (hcs : cs'.size = cs.size)
    (hlen : rows'.length = rows.length) (hwid : ∀ (i : Nat) (row : List AV), rows'[i]? = some row → row.length = sz)
    (hcell : ∀ (i j : Nat) (c : AV), cellAt rows' i j = some c → ∃ v, cs'[st + i * sz + j]? = some v ∧ v.oneCell' = true ∧ VRel σ c v) : Mv σ h w σ (h.set id (.vec ep rows')) w' := by
  have hlt : blk < w.heap.size := (Array.getElem?_eq_some_iff.1 hb).1
  let w1 : World := { w with heap := w.heap.setIfInBounds blk (.cells cs' T (0, 0)) }
  have hw1 : w1.heap[blk]? = some (.cells cs' T (0, 0)) := by
    show (w.heap.setIfInBounds blk _)[blk]? = _
    rw [Array.getElem?_setIfInBounds_self]
    simp [hlt]
  have m1 : Mv σ h w σ (h.set id (.vec ep rows')) w1 := by
    rcases s.obj _ _ ho with ⟨_, x⟩ | ⟨blk2, st2, sz2, n2, size2, cs2, T2, h1, h2, h3, h4, h5, h6, h7, h8⟩
    · rw [hρ] at x; cases x
    · rw [hρ] at h1
      cases h1
      rw [hb] at h2
      cases h2
      refine s.write (blk := blk) ho (by simp [AObj.blk, hρ]) (by simp [AObj.blk, hρ]) (fun b hne => ?_) ?_ ⟨rfl, rfl, rfl⟩ (.inr ⟨blk, st, sz, n, size, cs', T, hρ, hw1, by rw [hcs]; exact h3, by rw [hlen]; exact h4, h5, h6, hwid, hcell⟩)
      · show (w.heap.setIfInBounds blk _)[b]? = _
        rw [Array.getElem?_setIfInBounds_ne (Ne.symm hne)]
      · show (w.heap.setIfInBounds blk _).size = _
        simp
  exact m1.trans (m1.sim.grown (w' := w') (os := os) (by rw [hw]) ⟨so.os, so.tape, so.output⟩)

def iRow (x : Int) : List AV := [.int .i64 x]
def srt (zs : List Int) : List Int := zs.mergeSort fun x y => decide (x ≤ y)
/-- slices.Sort, of a list of numbers that the caller owns -/
theorem sort_acalls {P : Program} {f : FuncId} (hS : ∀ (blk off cap : Nat) (zs : List Int) (w : World), Holds (Value.int .i64) w blk off zs.toArray → blk < w.heap.size → zs.length < 4611686018427387904 →
      Calls P f #[.slice (some ⟨blk, off, none⟩) zs.length cap] w fun e w' => e = .returned (.tuple #[]) ∧ ∃ n os, w' = grow (putRow (Value.int .i64) (Sort.ahead w n) blk off (srt zs).toArray) os)
    (hN : ∀ (p : Option Addr) (cap : Nat) (w : World), Calls P f #[.slice p 0 cap] w fun e w' => e = .returned (.tuple #[]) ∧ w' = w) {h : Heap} {id : Id} {ep : Nat} {zs : List Int} (ho : h[id]? = some (.vec ep (zs.map iRow))) (hl : zs.length < 4611686018427387904) :
    ACalls P f [.oslc id ep 1 0 zs.length false] h fun r h' => r = .tup [] ∧ h' = h.set id (.vec ep ((srt zs).map iRow)) := by
  refine ⟨fun σ w vs s hv => ?_⟩
  have hsz : vs.size = 1 := by have := hv.1; simpa using this.symm
  obtain ⟨v, rfl⟩ : ∃ v, vs = #[v] := by
    match vs, hsz with
    | ⟨[v]⟩, _ => exact ⟨v, rfl⟩
  have hv0 : VRel σ (.oslc id ep 1 0 zs.length false) v := hv.2 0 _ _ rfl rfl
  have none0 : zs = [] → (∃ p cap, v = .slice p 0 cap) → Calls P f #[v] w fun e w' => ∃ v, e = .returned v ∧ ∃ σ' h' r, (r = AV.tup [] ∧ h' = h.set id (.vec ep ((srt zs).map iRow))) ∧ Mv σ h w σ' h' w' ∧ VRel σ' r v := by
    rintro rfl ⟨p, cap, rfl⟩
    refine (hN p cap w).mono ?_
    rintro e w' ⟨rfl, rfl⟩
    refine ⟨_, rfl, σ, h, .tup [], ⟨rfl, ?_⟩, .refl s, .tup rfl fun i c u x => by simp at x⟩
    rw [show srt [] = [] from by simp [srt]]
    exact (Heap.set_self ho).symm
  generalize hn : zs.length = n0 at hv0
  cases hv0 with
  | onil hρ => exact none0 (List.length_eq_zero_iff.1 hn) ⟨_, _, rfl⟩
  | onilz hρ => exact none0 (List.length_eq_zero_iff.1 hn) ⟨_, _, rfl⟩
  | oz hρ h1 h2 => exact none0 (List.length_eq_zero_iff.1 hn) ⟨_, _, rfl⟩
  | oslc hρ h1 h2 h3 h4 h5 =>
    rename_i blk st n size cap
    rcases s.obj _ _ ho with ⟨_, x⟩ | ⟨blk2, st2, sz2, n2, size2, cs, T, g1, g2, g3, g4, g5, g6, g7, g8⟩
    · rw [hρ] at x; cases x
    rw [hρ] at g1
    cases g1
    have hlt : blk < w.heap.size := (Array.getElem?_eq_some_iff.1 g2).1
    have hcell : ∀ j (hj : j < zs.length), cs[st + j]? = some (.int .i64 zs[j]) := fun j hj => by
      obtain ⟨v, a1, a2, a3⟩ := g8 j 0 (.int .i64 zs[j]) (by simp [cellAt, hj, iRow])
      cases a3
      simpa using a1
    have hH : Holds (Value.int .i64) w blk (st + 0 * 1) zs.toArray := fun j hj => by
      have hj : j < zs.length := by simpa using hj
      refine ⟨?_, by simp [World.frozen?, g2]⟩
      simp only [World.cell?, g2, Option.isSome_none, Bool.false_eq_true, if_false]
      rw [show st + 0 * 1 + j = st + j by omega, hcell j hj]
      simp [hj]
    subst hn
    refine (hS blk (st + 0 * 1) cap zs w hH hlt hl).mono ?_
    rintro e w' ⟨rfl, q, os, rfl⟩
    have hsl : (srt zs).length = zs.length := List.length_mergeSort _
    refine ⟨_, rfl, σ, _, .tup [], ⟨rfl, rfl⟩, ?_, .tup rfl fun i c u x => by simp at x⟩
    have hheap : (grow (putRow (Value.int .i64) (Sort.ahead w q) blk (st + 0 * 1) (srt zs).toArray) os).heap = (w.heap.setIfInBounds blk (.cells (putCells (Value.int .i64) (st + 0 * 1) (srt zs).toArray cs) T (0, 0))) ++ os := by
      show (w.heap.modify blk (onCells _)) ++ os = _
      congr 1
      refine Array.ext_getElem? fun i => ?_
      rw [Array.getElem?_modify, Array.getElem?_setIfInBounds]
      by_cases e : blk = i
      · subst e; rw [if_pos rfl, if_pos rfl, g2]; simp [onCells, hlt]
      · rw [if_neg e, if_neg e]
    refine s.rewrite ho hρ g2 (cs' := putCells (Value.int .i64) (st + 0 * 1) (srt zs).toArray cs) (os := os) hheap ⟨rfl, rfl, rfl⟩ (by simp [putCells]) (by simp [hsl]) (fun i row x => ?_) (fun i j c x => ?_)
    · rw [List.getElem?_map, Option.map_eq_some_iff] at x
      obtain ⟨a, _, rfl⟩ := x
      rfl
    · obtain ⟨row, hr, hj⟩ := cellAt_get x
      rw [List.getElem?_map, Option.map_eq_some_iff] at hr
      obtain ⟨a, ha, rfl⟩ := hr
      have hi : i < (srt zs).length := (List.getElem?_eq_some_iff.1 ha).1
      cases j with
      | succ j => simp [iRow] at hj
      | zero =>
        simp [iRow] at hj
        subst hj
        refine ⟨.int .i64 a, ?_, rfl, .int⟩
        have hlen : (zs.map iRow).length = zs.length := by simp
        have hk : st + i * 1 + 0 < cs.size := by omega
        have ha2 : (srt zs)[i] = a := by rw [List.getElem?_eq_getElem hi] at ha; exact Option.some.inj ha
        simp [putCells]
        have hk2 : st + i < cs.size := by omega
        simp [hk2, hi, ha2]

end Go.Ab

/-
  A range over a map: whatever order the entries come in. No condition.
-/
namespace Go.Ab
open Go.ChangeMaps (setBlock)

/-- a place is named that no object has -/
theorem Sim.ghost {σ : Sg} {h : Heap} {w : World} (s : Sim σ h w) (id : Id) (b : Nat) : ∃ ep σ', Mv σ h w σ' h w ∧ σ'.ρ id ep = some (.at b 0 1 1 1) := by
  obtain ⟨e0, he0⟩ := s.fresh
  let σ' : Sg := { ρ := fun i e => if i = id ∧ e = e0 then some (.at b 0 1 1 1) else σ.ρ i e, FM := σ.FM, RM := σ.RM }
  have hle : Sg.Le σ σ' := by
    refine ⟨fun i e pl hp => ?_, fun _ _ x => x, fun _ _ x => x⟩
    show (if i = id ∧ e = e0 then _ else σ.ρ i e) = _
    rw [if_neg]
    · exact hp
    · rintro ⟨rfl, rfl⟩
      rw [he0 _ e (Nat.le_refl _)] at hp
      cases hp
  have hnew : σ'.ρ id e0 = some (.at b 0 1 1 1) := by show (if id = id ∧ e0 = e0 then _ else _) = _; simp
  have hb : ∀ (i : Id) (o : AObj) (b : Nat), h[i]? = some o → o.blk σ' i = some b → o.blk σ i = some b := fun i o b ho hbx => by
    rwa [blk_le (s.obj i o ho) hle] at hbx
  refine ⟨e0, σ', ⟨hle, ⟨s.fm, fun i o ho => ?_, fun i j oi oj b hi hj bi bj => s.apart i j oi oj b hi hj (hb i oi b hi bi) (hb j oj b hj bj), ⟨e0 + 1, fun i ep hep => ?_⟩, s.rm⟩, rfl, rfl, rfl, Nat.le_refl _, fun _ _ _ => rfl, fun b hl => ?_, fun _ x => .inl x⟩, hnew⟩
  · exact (s.obj i o ho).keep hle fun b hbx => ⟨rfl, Live.noFM s ⟨i, o, ho, hbx⟩⟩
  · show (if i = id ∧ ep = e0 then _ else σ.ρ i ep) = none
    rw [if_neg (by rintro ⟨_, rfl⟩; omega)]
    exact he0 i ep (by omega)
  · obtain ⟨i, o, ho, hbx⟩ := hl
    exact .inl ⟨i, o, ho, hb i o b ho hbx⟩

/-- a block that the abstract state does not see -/
structure Hid (σ : Sg) (h : Heap) (w : World) (b : Nat) (o : Obj) : Prop where
  get : w.heap[b]? = some o
  live : ¬ Live σ h b
  fm : σ.FM b = none
theorem Hid.lt {σ : Sg} {h : Heap} {w : World} {b : Nat} {o : Obj} (x : Hid σ h w b o) : b < w.heap.size := (Array.getElem?_eq_some_iff.1 x.get).1
theorem Hid.mv {σ σ' : Sg} {h h' : Heap} {w w' : World} {b : Nat} {o : Obj} (x : Hid σ h w b o) (m : Mv σ h w σ' h' w') : Hid σ' h' w' b o := by
  have hlt := x.lt
  refine ⟨(m.block b hlt x.live).trans x.get, fun l => ?_, ?_⟩
  · rcases m.live b l with y | y
    · exact x.live y
    · omega
  · cases hf : σ'.FM b with
    | none => rfl
    | some cs =>
      rcases m.new b (by rw [hf]; simp) with y | y | y
      · exact absurd x.fm y
      · exact absurd y x.live
      · omega

/-- a hidden block turns -/
theorem Hid.turn {σ0 σ : Sg} {h0 h : Heap} {w0 w w1 : World} {r : Nat} {o o' : Obj} (m : Mv σ0 h0 w0 σ h w) (x : Hid σ h w r o) (hr0 : w0.heap.size ≤ r) (hrec : isRec o = false) (hw : w1 = w ∨ w1 = w.drew) :
    Mv σ0 h0 w0 σ h (setBlock w1 r o') ∧ Hid σ h (setBlock w1 r o') r o' ∧ ∀ b, b ≠ r → (setBlock w1 r o').heap[b]? = w.heap[b]? := by
  have hlt := x.lt
  have hheap : (setBlock w1 r o').heap = w.heap.setIfInBounds r o' := by rcases hw with rfl | rfl <;> rfl
  have oth : ∀ b, b ≠ r → (setBlock w1 r o').heap[b]? = w.heap[b]? := fun b hb => by rw [hheap, Array.getElem?_setIfInBounds_ne (Ne.symm hb)]
  have self : (setBlock w1 r o').heap[r]? = some o' := by rw [hheap, Array.getElem?_setIfInBounds_self]; simp [hlt]
  have s := m.sim
  have os' : (setBlock w1 r o').os = w.os := by rcases hw with rfl | rfl <;> rfl
  have tp' : (setBlock w1 r o').tape = w.tape := by rcases hw with rfl | rfl <;> rfl
  have ou' : (setBlock w1 r o').output = w.output := by rcases hw with rfl | rfl <;> rfl
  refine ⟨⟨m.le, ⟨fun b cs y => ?_, fun i oo ho => ?_, s.apart, s.fresh, fun b oo y => ?_⟩, os'.trans m.os, tp'.trans m.tape, ou'.trans m.output, ?_, fun b hb hl => ?_, m.live, m.new⟩, ⟨self, x.live, x.fm⟩, oth⟩
  · obtain ⟨T, fz, e⟩ := s.fm b cs y
    exact ⟨T, fz, by rw [oth b (by rintro rfl; rw [x.fm] at y; cases y)]; exact e⟩
  · exact (s.obj i oo ho).keep (.refl _) fun b hb => ⟨oth b (by rintro rfl; exact x.live ⟨i, oo, ho, hb⟩), Live.noFM s ⟨i, oo, ho, hb⟩⟩
  · obtain ⟨e1, e2⟩ := s.rm b oo y
    refine ⟨by rw [oth b (by rintro rfl; rw [x.get] at e1; cases e1; rw [hrec] at e2; cases e2)]; exact e1, e2⟩
  · rw [hheap]; simpa using m.size
  · rw [oth b (by omega)]; exact m.block b hb hl

/-- an iterator over a map: both hidden -/
structure Iter (σ : Sg) (h : Heap) (w : World) (gid : Id) (epI : Nat) (es : List (AV × AV)) (ents : Array MapEntry) (clock m r : Nat) (seen : Array Nat) (idx : List Nat) : Prop where
  ptr : σ.ρ gid epI = some (.at r 0 1 1 1)
  hm : Hid σ h w m (.map ents clock)
  hr : Hid σ h w r (.mapIter (some m) clock seen clock)
  born : BornOk ents clock
  len : es.length = ents.size
  rel : ∀ (i : Nat) (k v : AV) (e : MapEntry), es[i]? = some (k, v) → ents[i]? = some e → VRel σ k e.key ∧ VRel σ v e.val
  seen : ∀ (i : Nat) (e : MapEntry), ents[i]? = some e → (e.born ∈ seen ↔ i ∈ idx)
theorem Iter.mv {σ σ' : Sg} {h h' : Heap} {w w' : World} {gid : Id} {epI : Nat} {es : List (AV × AV)} {ents : Array MapEntry} {clock m r : Nat} {seen : Array Nat} {idx : List Nat} (x : Iter σ h w gid epI es ents clock m r seen idx) (mv : Mv σ h w σ' h' w') :
    Iter σ' h' w' gid epI es ents clock m r seen idx :=
  ⟨mv.le.ρ _ _ _ x.ptr, x.hm.mv mv, x.hr.mv mv, x.born, x.len, fun i k v e a b => let ⟨c, d⟩ := x.rel i k v e a b; ⟨c.mono mv.le, d.mono mv.le⟩, x.seen⟩

theorem nodup_born {ents : Array MapEntry} {clock : Nat} (h : BornOk ents clock) : (ents.toList.map (·.born)).Nodup := by
  unfold List.Nodup
  rw [List.pairwise_iff_getElem]
  intro i j hi hj hij e
  simp only [List.length_map, Array.length_toList] at hi hj
  simp only [List.getElem_map, Array.getElem_toList] at e
  have := (h i _ (Array.getElem?_eq_getElem hi)).2 j _ (Array.getElem?_eq_getElem hj) e
  omega

/-- a step of the iterator -/
theorem Iter.next {P : Program} {σ0 σ : Sg} {h0 h : Heap} {w0 w : World} {gid : Id} {epI : Nat} {es : List (AV × AV)} {ents : Array MapEntry} {clock m r : Nat} {seen : Array Nat} {idx : List Nat} (x : Iter σ h w gid epI es ents clock m r seen idx)
    (mv : Mv σ0 h0 w0 σ h w) (hr0 : w0.heap.size ≤ r) (ty : TypeId) :
    ((∀ i, i < es.length → i ∈ idx) ∧ (Instr.next (.pointer (some ⟨r, 0, none⟩)) false ty).run P w = .ok (.tuple #[.bool false]) w) ∨
    ∃ (i : Nat) (k v : AV) (e : MapEntry) (w' : World), i ∉ idx ∧ es[i]? = some (k, v) ∧ e ∈ ents.toList ∧ VRel σ k e.key ∧ VRel σ v e.val ∧ (Instr.next (.pointer (some ⟨r, 0, none⟩)) false ty).run P w = .ok (.tuple #[.bool true, e.key, e.val]) w' ∧
      Mv σ0 h0 w0 σ h w' ∧ Iter σ h w' gid epI es ents clock m r (seen.push e.born) (i :: idx) := by
  rcases run_next_at (P := P) w ty r m clock clock seen ents clock x.hr.get x.hm.get (fun y hy => by
    obtain ⟨i, hi⟩ := List.getElem?_of_mem hy
    exact (x.born i y (by simpa using hi)).1) (Nat.le_refl _) with ⟨h1, h2⟩ | ⟨e, he, w1, hw1, hrun⟩
  · refine .inl ⟨fun i hi => ?_, h2⟩
    have hi2 : i < ents.size := by rw [← x.len]; exact hi
    refine (x.seen i ents[i] (Array.getElem?_eq_getElem hi2)).1 ?_
    unfold leftOf at h1
    have h3 : ents.filter (fun e => !seen.contains e.born) = #[] := Array.eq_empty_of_size_eq_zero h1
    rw [Array.filter_eq_empty_iff] at h3
    have := h3 ents[i] (Array.getElem_mem hi2)
    simpa using this
  · right
    unfold leftOf at he
    have he2 : e ∈ ents ∧ e.born ∉ seen := by simpa using he
    obtain ⟨i, hi, hie⟩ := Array.getElem_of_mem he2.1
    have hi2 : i < es.length := by rw [x.len]; exact hi
    have hei : ents[i]? = some e := by rw [Array.getElem?_eq_getElem hi, hie]
    obtain ⟨k, v, hkv⟩ : ∃ k v, es[i]? = some (k, v) := ⟨(es[i]).1, (es[i]).2, by rw [List.getElem?_eq_getElem hi2]⟩
    obtain ⟨r1, r2⟩ := x.rel i k _ e hkv hei
    obtain ⟨t1, t2, t3⟩ := Hid.turn (o' := .mapIter (some m) clock (seen.push e.born) clock) mv x.hr hr0 rfl hw1
    refine ⟨i, k, _, e, _, fun hin => he2.2 ((x.seen i e hei).2 hin), hkv, by simpa using he2.1, r1, r2, hrun, t1, ⟨x.ptr, ⟨?_, x.hm.live, x.hm.fm⟩, t2, x.born, x.len, x.rel, fun j e' hj => ?_⟩⟩
    · rw [t3 m (by rintro rfl; have := x.hm.get; rw [x.hr.get] at this; cases this)]
      exact x.hm.get
    · rw [Array.mem_push, List.mem_cons, x.seen j e' hj]
      constructor
      · rintro (y | y)
        · exact .inr y
        · exact .inl ((x.born j e' hj).2 i e hei y)
      · rintro (y | y)
        · subst y; rw [hei] at hj; cases hj; exact .inr rfl
        · exact .inl y
theorem Iter.entry {P : Program} {σ : Sg} {h : Heap} {w : World} {gid : Id} {epI : Nat} {es : List (AV × AV)} {ents : Array MapEntry} {clock m r : Nat} {seen : Array Nat} {idx : List Nat} {e : MapEntry} (x : Iter σ h w gid epI es ents clock m r (seen.push e.born) idx) (he : e ∈ ents.toList) :
    (Instr.entry (.pointer (some ⟨r, 0, none⟩))).run P w = .ok (.tuple #[e.key, e.val]) w :=
  run_entry_at w r m clock seen ents clock e x.hr.get x.hm.get he (nodup_born x.born)
end Go.Ab

/-
  A range over a map, round by round: the rule. No condition.
-/
namespace Go.Ab
open Go.ChangeMaps (setBlock)

theorem eval_ptr {σ : Sg} {fr : List AV} {a : Act} (hf : VRels σ fr a.tmps.toList) {o : Operand} {id : Id} {ep r : Nat} (h : evl fr o = .optr id ep 1 0 0) (hp : σ.ρ id ep = some (.at r 0 1 1 1)) : a.eval o = .pointer (some ⟨r, 0, none⟩) := by
  have hr := evl_rel hf o
  rw [h] at hr
  generalize a.eval o = u at hr
  cases hr with
  | optr hh => rw [hp] at hh; cases hh; rfl
theorem tup3 {σ : Sg} {b : Bool} {k v : AV} {x y : Value} (h1 : VRel σ k x) (h2 : VRel σ v y) : VRel σ (.tup [.bool b, k, v]) (.tuple #[.bool b, x, y]) := by
  refine .tup rfl fun i c u hc hu => ?_
  match i, hc, hu with
  | 0, hc, hu => cases hc; cases hu; exact .bool
  | 1, hc, hu => cases hc; cases hu; exact h1
  | 2, hc, hu => cases hc; cases hu; exact h2
  | i + 3, hc, hu => simp at hc
theorem tup2 {σ : Sg} {k v : AV} {x y : Value} (h1 : VRel σ k x) (h2 : VRel σ v y) : VRel σ (.tup [k, v]) (.tuple #[x, y]) := by
  refine .tup rfl fun i c u hc hu => ?_
  match i, hc, hu with
  | 0, hc, hu => cases hc; cases hu; exact h1
  | 1, hc, hu => cases hc; cases hu; exact h2
  | i + 2, hc, hu => simp at hc
theorem tup1 {σ : Sg} {b : Bool} : VRel σ (.tup [.bool b]) (.tuple #[.bool b]) := by
  refine .tup rfl fun i c u hc hu => ?_
  match i, hc, hu with
  | 0, hc, hu => cases hc; cases hu; exact .bool
  | i + 1, hc, hu => simp at hc
theorem wanted_none {o : Oper} (g : o.guard = none) (l : Nat → Option Bool) : Region.wanted o l = true := by unfold Region.wanted; rw [g]

theorem wpOps_cons {F : Fence} {n : Nat} {P : Program} {ops : Array Oper} {Q : Exit → Act → World → Prop} {i : Nat} {rest : List Nat} {a : Act} {w : World} {o : Oper} (ho : ops[i]? = some o) (g : o.guard = none)
    (h : o.wpIn F n P a w (wpOpsIn F n P ops Q rest) Q) : wpOpsIn F n P ops Q (i :: rest) a w := by
  unfold wpOpsIn
  rw [ho]
  simp only
  rw [if_pos (wanted_none g _)]
  exact h

/-- how many entries are still to come -/
def leftN (r : Nat) (ents : Array MapEntry) (w : World) : Nat := match w.heap[r]? with
  | some (.mapIter _ _ seen _) => (ents.toList.filter fun e => !seen.contains e.born).length
  | _ => 0
theorem left_lt {ents : Array MapEntry} {seen : Array Nat} {e : MapEntry} (he : e ∈ ents.toList) (hs : e.born ∉ seen) :
    (ents.toList.filter fun x => !(seen.push e.born).contains x.born).length < (ents.toList.filter fun x => !seen.contains x.born).length := by
  have e1 : (ents.toList.filter fun x => !(seen.push e.born).contains x.born) = (ents.toList.filter fun x => !seen.contains x.born).filter fun x => x.born != e.born := by
    rw [List.filter_filter]
    refine List.filter_congr fun x _ => ?_
    by_cases h1 : x.born ∈ seen <;> by_cases h2 : x.born = e.born <;> simp [h1, h2, Array.contains_eq_mem, Array.mem_push]
  rw [e1]
  refine List.length_filter_lt_length_iff_exists.2 ⟨e, ?_, by simp⟩
  simp only [List.mem_filter]
  exact ⟨he, by simpa [Array.contains_eq_mem] using hs⟩

theorem wk_rangeMap {C : Ctx} (ok : COk C) (hm : C.P.follows .mixedOrders = true) {A : Ann} {idb ids ide out nxt : Nat} {ops_b ops_s ops_e : Array Oper} {body : Code} {sb ss se : Nat → Id}
    {o1 o2 o3 o4 : Oper} {T : TypeId} {x more : Operand} {it tn tp : Tmp} {rs re : List Nat}
    (hob : ops_b = #[o1, o2]) (g1 : o1.guard = none) (g2 : o2.guard = none) (e2 : o2.op = .range T x) (d2 : o2.dst = some it)
    (hos : ops_s[0]? = some o3) (hrs : List.range ops_s.size = 0 :: rs) (g3 : o3.guard = none) (e3 : o3.op = .next (.tmp it) false) (d3 : o3.dst = some tn)
    (hoe : ops_e[0]? = some o4) (hre : List.range ops_e.size = 0 :: re) (g4 : o4.guard = none) (e4 : o4.op = .entry (.tmp it)) (d4 : o4.dst = some tp)
    (l kp : List Nat) {S : Type} (fr : Nat → S → List AV) (h : S → Heap) (idx : S → List Nat) (s0 : S) (hs0 : idx s0 = []) (es : List (AV × AV)) (gid : Id) {kt vt : Nat} (hT : kindOf C.ti T = some (.map kt vt))
    {fr0 : List AV} {h0 : Heap} {K : AE → List AV → Heap → Prop}
    (hb : opK C (evl fr0) (sb 0) h0 o1.op fun v1 h1 => ∃ id ep, evl (putF fr0 o1.dst v1) x = .mp id ep ∧ h1[id]? = some (.map ep es) ∧ (∀ epI, maskF 0 l ((putF fr0 o1.dst v1).set it (.optr gid epI 1 0 0)) = fr epI s0) ∧ maskH 0 kp (h1.set id .hole) = h s0)
    (hptr : ∀ epI s, evl (fr epI s) (.tmp it) = .optr gid epI 1 0 0)
    (hround : ∀ epI s i k v, i ∉ idx s → es[i]? = some (k, v) → runOrd C ops_s ss rs ((fr epI s).set tn (.tup [.bool true, k, v])) (h s) fun fr1 h1 => evl fr1 more = .bool true ∧ evl fr1 (.tmp it) = .optr gid epI 1 0 0 ∧
      runOrd C ops_e se re (fr1.set tp (.tup [k, v])) h1 fun fr2 h2 => aexR C A body fr2 h2 fun e fr' h' => match e with
        | .normal => Back fun s' => maskF 0 l fr' = fr epI s' ∧ maskH 0 kp h' = h s' ∧ idx s' = i :: idx s
        | _ => False)
    (hend : ∀ epI s, (∀ i, i < es.length → i ∈ idx s) → runOrd C ops_s ss rs ((fr epI s).set tn (.tup [.bool false])) (h s) fun fr1 h1 => evl fr1 more = .bool false ∧ K .normal fr1 h1) :
    WK C (.seq (.region idb ops_b false) (.block out (.loop (.seq (.region ids ops_s false) (.seq (.cond more .skip (.exit out)) (.block nxt (.seq (.region ide ops_e false) body))))))) fr0 h0 K := by
  refine ⟨fun rd B σ w a Q hrd hy hB s hf hd hQ => ?_⟩
  refine wpIn_seq (wpIn_region ?_)
  subst hob
  show wpOpsIn (FR rd) 0 C.P #[o1, o2] _ [0, 1] a w
  refine wpOps_cons (o := o1) rfl g1 ?_
  refine op_sound ok hy hf s (sb 0) o1 hb fun v r σ1 h1 w1 k1 m1 x1 => ?_
  obtain ⟨id, ep, kx, kh, kf, kH⟩ := k1
  have hf1 := putF_rel (dst := o1.dst) (hf.mono m1.le) x1
  have hd1 : DfOk B σ1 (a.put o1.dst v).defers := by
    have : (a.put o1.dst v).defers = a.defers := by cases o1.dst <;> rfl
    rw [this]; exact hd.mono m1.le
  generalize a.put o1.dst v = a1 at hf1 hd1
  refine wpOps_cons (o := o2) rfl g2 ?_
  refine ⟨fun _ _ => trivial, ?_⟩
  rw [Oper.semAt_eq _ _ _ (by intro c'; rw [e2]; simp)]
  -- the map
  have hxr := evl_rel hf1 x
  rw [kx] at hxr
  obtain ⟨blk, st, sz, n, size, ents, clock, q1, q2, q3, ⟨q4, q4b⟩, q5⟩ := m1.sim.obj id _ kh
  have hxv : a1.eval x = .map (some blk) := by
    generalize a1.eval x = u at hxr
    cases hxr with
    | mp hh => rw [q1] at hh; cases hh; rfl
  obtain ⟨dT, hdT, hkT⟩ := kindOf_some hT
  have hu := (ok.tok _ _ hdT).map hkT
  have hrun := run_range_map (P := C.P) w1 T kt vt blk ents clock hu q2
  rw [show (execOp a1.eval o2).run C.P w1 = .ok (.value (.pointer (some ⟨w1.heap.size, 0, none⟩))) (w1.alloc (.mapIter (some blk) clock #[] clock)) by
    unfold execOp; rw [e2]; simp only [hxv, Sem.run_bind, hrun, Result.andThen_ok, Sem.run_pure]]
  rw [Oper.uponIn_value, d2]
  -- the world with the iterator
  have m2 : Mv σ1 h1 w1 σ1 h1 (w1.alloc (.mapIter (some blk) clock #[] clock)) := m1.sim.grown (os := #[.mapIter (some blk) clock #[] clock]) (by show w1.heap.push _ = _; simp) ⟨rfl, rfl, rfl⟩
  have hr2 : (w1.alloc (.mapIter (some blk) clock #[] clock)).heap[w1.heap.size]? = some (.mapIter (some blk) clock #[] clock) := by
    show (w1.heap.push _)[w1.heap.size]? = _
    simp
  have hm2 : (w1.alloc (.mapIter (some blk) clock #[] clock)).heap[blk]? = some (.map ents clock) := by
    have hlt := (Array.getElem?_eq_some_iff.1 q2).1
    show (w1.heap.push _)[blk]? = _
    rw [Array.getElem?_push_lt hlt]
    rw [Array.getElem?_eq_getElem hlt] at q2
    exact q2
  generalize hw2 : w1.alloc (.mapIter (some blk) clock #[] clock) = w2 at m2 hr2 hm2
  obtain ⟨epI, σ2, m3, hp⟩ := m2.sim.ghost gid w1.heap.size
  have m4 : Mv σ2 h1 w2 σ2 (h s0) w2 := m3.sim.forget fun i o y => by
    rw [← kH] at y
    rcases maskH_get _ _ _ _ _ y with y | y
    · exact .inl y
    · by_cases hi : i = id
      · subst hi
        rw [Heap.getElem?_set_self', kh] at y
        left
        simpa using y.symm
      · rw [Heap.getElem?_set_ne (Ne.symm hi)] at y
        exact .inr y
  have m := ((m1.trans m2).trans m3).trans m4
  have hsz : w.heap.size ≤ w1.heap.size := m1.size
  have nlr : ¬ Live σ2 (h s0) w1.heap.size := fun y => by
    rcases (m3.trans m4).live _ y with y | y
    · have := Live.lt m1.sim (b := w1.heap.size) y
      omega
    · have := (Array.getElem?_eq_some_iff.1 hr2).1
      omega
  have nlm : ¬ Live σ2 (h s0) blk := fun ⟨i, o, ho, hbk⟩ => by
    rw [← kH] at ho
    rcases maskH_get _ _ _ _ _ ho with y | y
    · subst y; simp [AObj.blk] at hbk
    · by_cases hi : i = id
      · subst hi
        rw [Heap.getElem?_set_self', kh] at y
        have : o = .hole := by simpa using y.symm
        subst this; simp [AObj.blk] at hbk
      · rw [Heap.getElem?_set_ne (Ne.symm hi)] at y
        have hq := m3.sim.apart i id o _ blk y kh hbk (by simp [AObj.blk, m3.le.ρ _ _ _ q1])
        exact hi hq
  have fm2 : ∀ b, σ1.FM b = none → b < w2.heap.size → ¬ Live σ1 h1 b → σ2.FM b = none := fun b h1 h2 h3 => by
    cases hc : σ2.FM b with
    | none => rfl
    | some cs =>
      rcases m3.new b (by rw [hc]; simp) with y | y | y
      · exact absurd h1 y
      · exact absurd y h3
      · omega
  have fmr : σ2.FM w1.heap.size = none := by
    refine fm2 _ ?_ (Array.getElem?_eq_some_iff.1 hr2).1 (fun y => by have := Live.lt m1.sim (b := w1.heap.size) y; omega)
    cases hc : σ1.FM w1.heap.size with
    | none => rfl
    | some cs =>
      obtain ⟨T', fz, y⟩ := m1.sim.fm _ _ hc
      have := (Array.getElem?_eq_some_iff.1 y).1
      omega
  have fmm : σ2.FM blk = none := by
    have hlv : Live σ2 h1 blk := ⟨id, _, kh, by simp [AObj.blk, m3.le.ρ _ _ _ q1]⟩
    exact Live.noFM m3.sim hlv
  have x0 : Iter σ2 (h s0) w2 gid epI es ents clock blk w1.heap.size #[] (idx s0) :=
    ⟨hp, ⟨hm2, nlm, fmm⟩, ⟨hr2, nlr, fmr⟩, q4b, q4, fun i k v e y z => let ⟨c, d⟩ := q5 i k v e y z; ⟨c.mono (m2.le.trans m3.le), d.mono (m2.le.trans m3.le)⟩, fun i e y => by rw [hs0]; simp⟩
  have hf2 : VRels σ2 (fr epI s0) (a1.put (some it) (.pointer (some ⟨w1.heap.size, 0, none⟩))).tmps.toList := by
    rw [← kf epI]
    refine maskF_rel _ 0 l _ ?_
    refine putF_rel (dst := some it) (hf1.mono (m2.le.trans m3.le)) ?_
    have := VRel.optr (σ := σ2) (sz := 1) (i := 0) (off := 0) hp
    simpa using this
  have hd2 : DfOk B σ2 (a1.put (some it) (.pointer (some ⟨w1.heap.size, 0, none⟩))).defers := hd1.mono (m2.le.trans m3.le)
  generalize a1.put (some it) (.pointer (some ⟨w1.heap.size, 0, none⟩)) = a2 at hf2 hd2
  generalize hrr : w1.heap.size = r at *
  show (Code.block out _).wpIn (FR rd) 0 C.P Q a2 w2
  refine wpIn_block (wpIn_loop (fun a' w' => ∃ s seen σ', Mv σ h0 w σ' (h s) w' ∧ VRels σ' (fr epI s) a'.tmps.toList ∧ DfOk B σ' a'.defers ∧ Iter σ' (h s) w' gid epI es ents clock blk r seen (idx s)) (fun _ w' => leftN r ents w')
    ⟨s0, #[], σ2, m, hf2, hd2, x0⟩ ?_)
  rintro a3 w3 ⟨sx, seen, σ3, m5, hf3, hd3, x3⟩
  refine wpIn_seq (wpIn_region ?_)
  rw [hrs]
  refine wpOps_cons hos g3 ?_
  refine ⟨fun _ _ => trivial, ?_⟩
  rw [Oper.semAt_eq _ _ _ (by intro c'; rw [e3]; simp)]
  have hpv := eval_ptr hf3 (hptr epI sx) x3.ptr
  rcases x3.next (P := C.P) m5 hsz o3.type with ⟨hall, hrun3⟩ | ⟨i, k, v, e, w4, hni, hkv, hee, rk, rv, hrun3, m6, x4⟩
  · rw [show (execOp a3.eval o3).run C.P w3 = .ok (.value (.tuple #[.bool false])) w3 by
      unfold execOp; rw [e3]; simp only [hpv, Sem.run_bind, hrun3, Result.andThen_ok, Sem.run_pure]]
    rw [Oper.uponIn_value, d3]
    refine runOrd_sound ok rs (hy.mono m5.le) (putF_rel (dst := some tn) hf3 tup1) m5.sim (hend epI sx hall) fun fr' h' σ' a' w' ⟨k1, k2⟩ m6 v6 d6 => ?_
    have hev : a'.eval more = .bool false := by
      have hr := evl_rel v6 more
      rw [k1] at hr
      generalize a'.eval more = u at hr
      cases hr; rfl
    show (Code.seq _ _).wpIn (FR rd) 0 C.P _ a' w'
    refine wpIn_seq (wpIn_cond_false hev (wpIn_exit ?_))
    show (if out = out then Q .normal a' w' else _)
    rw [if_pos rfl]
    refine hQ .normal fr' h' σ' a' w' k2 (m5.trans m6) v6 ?_
    rw [d6]
    exact hd3.mono m6.le
  · rw [show (execOp a3.eval o3).run C.P w3 = .ok (.value (.tuple #[.bool true, e.key, e.val])) w4 by
      unfold execOp; rw [e3]; simp only [hpv, Sem.run_bind, hrun3, Result.andThen_ok, Sem.run_pure]]
    rw [Oper.uponIn_value, d3]
    refine runOrd_sound ok rs (hy.mono m5.le) (putF_rel (dst := some tn) hf3 (tup3 rk rv)) m6.sim (hround epI sx i k v hni hkv) fun fr1 h1' σ4 a4 w5 ⟨k1, k2, k3⟩ m7 v7 d7 => ?_
    have hev : a4.eval more = .bool true := by
      have hr := evl_rel v7 more
      rw [k1] at hr
      generalize a4.eval more = u at hr
      cases hr; rfl
    have x5 := x4.mv m7
    show (Code.seq _ _).wpIn (FR rd) 0 C.P _ a4 w5
    refine wpIn_seq (wpIn_cond_true hev (wpIn_skip ?_))
    show (Code.block nxt _).wpIn (FR rd) 0 C.P _ a4 w5
    refine wpIn_block (wpIn_seq (wpIn_region ?_))
    rw [hre]
    refine wpOps_cons hoe g4 ?_
    refine ⟨fun _ _ => trivial, ?_⟩
    rw [Oper.semAt_eq _ _ _ (by intro c'; rw [e4]; simp)]
    have hpv2 := eval_ptr v7 k2 x5.ptr
    have hrun4 := x5.entry (P := C.P) hee
    rw [show (execOp a4.eval o4).run C.P w5 = .ok (.value (.tuple #[e.key, e.val])) w5 by
      unfold execOp; rw [e4]; simp only [hpv2, Sem.run_bind, hrun4, Result.andThen_ok, Sem.run_pure]]
    rw [Oper.uponIn_value, d4]
    refine runOrd_sound ok re (hy.mono (m6.trans m7).le) (putF_rel (dst := some tp) v7 (tup2 (rk.mono m7.le) (rv.mono m7.le))) m7.sim k3 fun fr2 h2 σ5 a5 w6 k4 m8 v8 d8 => ?_
    rw [aexR_eq] at k4
    show (Code.wpIn (FR rd) 0 C.P body _ a5 w6)
    have hd5 : DfOk B σ5 a5.defers := by
      rw [d8]
      show DfOk B σ5 a4.defers
      rw [d7]
      exact (hd3.mono m7.le).mono m8.le
    refine (aexec_sound ok hm k4).use rd B σ5 w6 a5 _ hrd (hy.mono ((m6.trans m7).trans m8).le) (Nat.le_trans hB ((m6.trans m7).trans m8).size) m8.sim v8 hd5 fun e' fr' h' σ6 a6 w7 k5 m9 v9 d9 => ?_
    cases e' with
    | normal =>
      obtain ⟨s', e5, e6, e7⟩ := back_ex k5
      have m10 : Mv σ6 h' w7 σ6 (h s') w7 := by
        rw [← e6]
        exact m9.sim.forget fun i o y => maskH_get _ _ _ _ _ y
      have v10 := maskF_rel fr' 0 l _ v9
      rw [e5] at v10
      have x6 := ((x5.mv m8).mv m9).mv m10
      refine ⟨⟨s', seen.push e.born, σ6, (((m6.trans m7).trans m8).trans m9).trans m10, v10, d9, by rw [e7]; exact x6⟩, ?_⟩
      have hns : e.born ∉ seen := by
        obtain ⟨j, hj⟩ := List.getElem?_of_mem hee
        intro hin
        have hj' : ents[j]? = some e := by simpa using hj
        have hjx := (x3.seen j e hj').1 hin
        have h4 := (x4.seen j e hj').1
        obtain ⟨c, d⟩ := x4.born j e hj'
        have hi5 : ∃ e2, ents[i]? = some e2 ∧ e2 = e := by
          have hi2 : i < es.length := (List.getElem?_eq_some_iff.1 hkv).1
          have hi3 : i < ents.size := by rw [← x3.len]; exact hi2
          refine ⟨ents[i], Array.getElem?_eq_getElem hi3, ?_⟩
          have := (x4.seen i ents[i] (Array.getElem?_eq_getElem hi3)).2 (by simp)
          rw [Array.mem_push] at this
          rcases this with y | y
          · exact absurd ((x3.seen i _ (Array.getElem?_eq_getElem hi3)).1 y) hni
          · have := (x4.born i _ (Array.getElem?_eq_getElem hi3)).2 j e hj' y
            subst this
            rw [Array.getElem?_eq_getElem hi3] at hj'
            exact Option.some.inj hj'
        obtain ⟨e2, he2, rfl⟩ := hi5
        exact hni ((x3.seen i _ he2).1 hin)
      show leftN r ents w7 < leftN r ents w3
      unfold leftN
      rw [x6.hr.get, x3.hr.get]
      exact left_lt hee hns
    | exit id => exact k5.elim
    | ret => exact k5.elim
end Go.Ab
