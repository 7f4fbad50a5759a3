/-
  What is proved here serves the law's text: each part says its own claim and its conditions. No condition is left open.
-/
import Derived.Calls
import Derived.Orders
import Derived.Tactics
import Derived.Below
import Derived.ChangeKeysEq
import Derived.DeepKeys5
import Derived.Laws.Cells
import Derived.Laws.Append
import Derived.Laws.MakeOwn
import Derived.Laws.StructEq
import Derived.Laws.Strings
set_option linter.unusedSimpArgs false
set_option linter.unusedVariables false

namespace Go.Ab
inductive Id where
 | s (n : Nat)
 | d (n : Nat)
 deriving DecidableEq, Inhabited
inductive AV where
 | int (k : IntKind) (n : Int)
 | bool (b : Bool)
 | str (s : ByteArray)
 | nilp | nils | nilm | nilf
 | optr (id : Id) (ep sz i off : Nat)
 | lptr (sz : Nat) (rows : List (List AV)) (i off : Nat)
 | oslc (id : Id) (ep sz off len : Nat) (lim : Bool)
 | lslc (sz : Nat) (rows : List (List AV)) (off len : Nat) (lim : Bool)
 | mp (id : Id) (ep : Nat)
 | fn (f : Fn) (first cap : List AV)
 | agg (cs : List AV)
 | tup (vs : List AV)
 | u
 deriving Inhabited
inductive AObj where
 | vec (ep : Nat) (rows : List (List AV))
 | map (ep : Nat) (es : List (AV × AV))
 | hole
 deriving Inhabited
structure Heap where
 st : List AObj
 dy : List AObj
 deriving Inhabited
def Heap.get (h : Heap) : Id → Option AObj
 | .s n => h.st[n]?
 | .d n => h.dy[n]?
instance : GetElem? Heap Id AObj (fun h i => (h.get i).isSome = true) where
 getElem h i p := (h.get i).get p
 getElem? h i := h.get i
def Heap.set (h : Heap) : Id → AObj → Heap
 | .s n, o => ⟨h.st.set n o, h.dy⟩
 | .d n, o => ⟨h.st, h.dy.set n o⟩
abbrev Heap.nil : Heap := ⟨[], []⟩
theorem Heap.getElem?_set_self' (h : Heap) (i : Id) (o : AObj) : (h.set i o)[i]? = (h[i]?).map fun _ => o := by
 cases i with
 | s n => show (h.st.set n o)[n]? = _; rw [List.getElem?_set_self']; rfl
 | d n => show (h.dy.set n o)[n]? = _; rw [List.getElem?_set_self']; rfl
theorem Heap.getElem?_set_ne {h : Heap} {i j : Id} {o : AObj} (hne : i ≠ j) : (h.set i o)[j]? = h[j]? := by
 cases i with
 | s n => cases j with
  | s m => exact List.getElem?_set_ne (fun e : n = m => hne (congrArg Id.s e))
  | d m => rfl
 | d n => cases j with
  | s m => rfl
  | d m => exact List.getElem?_set_ne (fun e : n = m => hne (congrArg Id.d e))
theorem Heap.set_comm (h : Heap) {i j : Id} (a b : AObj) (hne : i ≠ j) : (h.set i a).set j b = (h.set j b).set i a := by
 cases i with
 | s n => cases j with
  | s m => simp only [Heap.set]; rw [List.set_comm _ _ (fun e : n = m => hne (congrArg Id.s e))]
  | d m => rfl
 | d n => cases j with
  | s m => rfl
  | d m => simp only [Heap.set]; rw [List.set_comm _ _ (fun e : n = m => hne (congrArg Id.d e))]
def Heap.has (h : Heap) (i : Id) : Bool := match h[i]? with | some _ => true | none => false
def Heap.trunc (h : Heap) (n : Nat) : Heap := ⟨h.st.take n, h.dy⟩
theorem Heap.trunc_get {h : Heap} {n : Nat} {i : Id} {o : AObj} (x : (h.trunc n)[i]? = some o) : h[i]? = some o := by
 cases i with
 | s m =>
  have x : (h.st.take n)[m]? = some o := x
  rw [List.getElem?_take] at x
  split at x
  ·exact x
  ·cases x
 | d m => exact x
theorem Heap.set_self {h : Heap} {i : Id} {o : AObj} (x : h[i]? = some o) : h.set i o = h := by
 cases i with
 | s n =>
  obtain ⟨h1, h2⟩ := List.getElem?_eq_some_iff.1 (show h.st[n]? = some o from x)
  subst h2
  show (⟨h.st.set n h.st[n], h.dy⟩ : Heap) = h
  rw [List.set_getElem_self]
 | d n =>
  obtain ⟨h1, h2⟩ := List.getElem?_eq_some_iff.1 (show h.dy[n]? = some o from x)
  subst h2
  show (⟨h.st, h.dy.set n h.dy[n]⟩ : Heap) = h
  rw [List.set_getElem_self]
theorem Heap.nil_get (i : Id) : Heap.nil[i]? = none := by
 cases i <;> rfl
theorem Heap.nil_some {i : Id} {o : AObj} (h : Heap.nil[i]? = some o) : False := by
 rw [Heap.nil_get] at h; cases h
theorem Heap.get_some {h : Heap} {i : Id} {o o' : AObj} (x : h[i]? = some o) : (h.set i o')[i]? = some o' := by
 rw [Heap.getElem?_set_self', x]; rfl
inductive Pl where
 | nil
 | at (blk start sz n size : Nat)
def isRec : Obj → Bool
 | .loop _ | .deferred _ => true
 | _ => false
structure Sg where
 ρ : Id → Nat → Option Pl
 FM : Nat → Option (Array Value)
 RM : Nat → Option Obj
def Sg.pure (σ : Sg) : Sg := { ρ := fun _ _ => none, FM := σ.FM, RM := fun _ => none }
@[simp] theorem Sg.pure_pure (σ : Sg) : σ.pure.pure = σ.pure := rfl
@[simp] theorem Sg.pure_FM (σ : Sg) : σ.pure.FM = σ.FM := rfl
@[simp] theorem Sg.pure_ρ (σ : Sg) (i : Id) (e : Nat) : σ.pure.ρ i e = none := rfl
@[simp] theorem Sg.pure_RM (σ : Sg) (i : Nat) : σ.pure.RM i = none := rfl
structure Sg.Le (σ τ : Sg) : Prop where
 ρ : ∀ id ep pl, σ.ρ id ep = some pl → τ.ρ id ep = some pl
 FM : ∀ b cs, σ.FM b = some cs → τ.FM b = some cs
 RM : ∀ b o, σ.RM b = some o → τ.RM b = some o
structure Sg.Le0 (σ τ : Sg) : Prop where
 ρ : ∀ id ep pl, σ.ρ id ep = some pl → τ.ρ id ep = some pl
 FM : ∀ b cs, σ.FM b = some cs → τ.FM b = some cs
theorem Sg.Le.le0 {σ τ : Sg} (h : Sg.Le σ τ) : Sg.Le0 σ τ := ⟨h.ρ, h.FM⟩
theorem Sg.Le0.pure {a b : Sg} (h : Sg.Le0 a b) : Sg.Le0 a.pure b.pure := ⟨fun _ _ _ x => (by simp at x), h.FM⟩
theorem Sg.Le.refl (σ : Sg) : Sg.Le σ σ := ⟨fun _ _ _ h => h, fun _ _ h => h, fun _ _ h => h⟩
theorem Sg.Le.trans {a b c : Sg} (h : Sg.Le a b) (k : Sg.Le b c) : Sg.Le a c := ⟨fun _ _ _ x => k.ρ _ _ _ (h.ρ _ _ _ x), fun _ _ x => k.FM _ _ (h.FM _ _ x), fun _ _ x => k.RM _ _ (h.RM _ _ x)⟩
theorem Sg.Le.pure {a b : Sg} (h : Sg.Le a b) : Sg.Le a.pure b.pure := ⟨fun _ _ _ x => (by simp at x), h.FM, fun _ _ x => (by simp at x)⟩
theorem Sg.pure_le (σ : Sg) : Sg.Le σ.pure σ := ⟨fun _ _ _ x => (by simp at x), fun _ _ h => h, fun _ _ x => (by simp at x)⟩
def cellAt (rows : List (List AV)) (i j : Nat) : Option AV := (rows[i]?).bind (·[j]?)
inductive VRel : Sg → AV → Value → Prop
 | int {σ : Sg} {k : IntKind} {n : Int} : VRel σ (.int k n) (.int k n)
 | bool {σ : Sg} {b : Bool} : VRel σ (.bool b) (.bool b)
 | str {σ : Sg} {s : ByteArray} : VRel σ (.str s) (.string s)
 | nilp {σ : Sg} : VRel σ .nilp (.pointer none)
 | nils {σ : Sg} : VRel σ .nils (.slice none 0 0)
 | nilm {σ : Sg} : VRel σ .nilm (.map none)
 | nilf {σ : Sg} : VRel σ .nilf .nilFunc
 | optr {σ : Sg} {id : Id} {ep : Nat} {sz : Nat} {i : Nat} {off : Nat} {blk : Nat} {st : Nat} {n : Nat} {size : Nat} (h : σ.ρ id ep = some (.at blk st sz n size)) :
   VRel σ (.optr id ep sz i off) (.pointer (some ⟨blk, st + i * sz + off, none⟩))
 | lptr {σ : Sg} {sz : Nat} {rows : List (List AV)} {i : Nat} {off : Nat} {blk : Nat} {st : Nat} (g : Nat → Nat → Value) (hw : ∀ (i : Nat) (row : List AV), rows[i]? = some row → row.length = sz)
   (hc : ∀ (i j : Nat) (c : AV), cellAt rows i j = some c → ∃ cs, σ.FM blk = some cs ∧ cs[st + i * sz + j]? = some (g i j))
   (ho : ∀ (i j : Nat) (c : AV), cellAt rows i j = some c → (g i j).oneCell' = true) (hv : ∀ (i j : Nat) (c : AV), cellAt rows i j = some c → VRel σ.pure c (g i j)) :
   VRel σ (.lptr sz rows i off) (.pointer (some ⟨blk, st + i * sz + off, none⟩))
 | oslc {σ : Sg} {id : Id} {ep : Nat} {sz : Nat} {off : Nat} {len : Nat} {lim : Bool} {blk : Nat} {st : Nat} {n : Nat} {size : Nat} {cap : Nat} (h : σ.ρ id ep = some (.at blk st sz n size)) (h1 : off + len ≤ n)
   (h2 : lim = false → n ≤ off + cap) (h3 : lim = true → cap = len) (h4 : st + (off + cap) * sz ≤ size) (h5 : len ≤ cap) :
   VRel σ (.oslc id ep sz off len lim) (.slice (some ⟨blk, st + off * sz, none⟩) len cap)
 | onil {σ : Sg} {id : Id} {ep : Nat} {sz : Nat} {lim : Bool} (h : σ.ρ id ep = some .nil) : VRel σ (.oslc id ep sz 0 0 lim) (.slice none 0 0)
 | onilz {σ : Sg} {id : Id} {ep : Nat} {sz : Nat} {lim : Bool} {a : Addr} (h : σ.ρ id ep = some .nil) : VRel σ (.oslc id ep sz 0 0 lim) (.slice (some a) 0 0)
 | lslc {σ : Sg} {sz : Nat} {rows : List (List AV)} {off : Nat} {len : Nat} {lim : Bool} {blk : Nat} {st : Nat} {cap : Nat} (g : Nat → Nat → Value) (hw : ∀ (i : Nat) (row : List AV), rows[i]? = some row → row.length = sz)
   (hc : ∀ (i j : Nat) (c : AV), cellAt rows i j = some c → ∃ cs, σ.FM blk = some cs ∧ cs[st + i * sz + j]? = some (g i j))
   (ho : ∀ (i j : Nat) (c : AV), cellAt rows i j = some c → (g i j).oneCell' = true) (hv : ∀ (i j : Nat) (c : AV), cellAt rows i j = some c → VRel σ.pure c (g i j)) (h1 : off + len ≤ rows.length) (h3 : lim = true → cap = len) (h5 : len ≤ cap) :
   VRel σ (.lslc sz rows off len lim) (.slice (some ⟨blk, st + off * sz, none⟩) len cap)
 | lnil {σ : Sg} {sz : Nat} {rows : List (List AV)} {off : Nat} {lim : Bool} : VRel σ (.lslc sz rows off 0 lim) (.slice none 0 0)
 | oz {σ : Sg} {id : Id} {ep : Nat} {sz : Nat} {off : Nat} {lim : Bool} {blk : Nat} {st : Nat} {n : Nat} {size : Nat} {a : Addr} (h : σ.ρ id ep = some (.at blk st sz n size)) (h1 : off ≤ n)
   (h2 : lim = false → n ≤ off) : VRel σ (.oslc id ep sz off 0 lim) (.slice (some a) 0 0)
 | lz {σ : Sg} {sz : Nat} {rows : List (List AV)} {off : Nat} {lim : Bool} {a : Addr} : VRel σ (.lslc sz rows off 0 lim) (.slice (some a) 0 0)
 | mp {σ : Sg} {id : Id} {ep : Nat} {blk : Nat} {st : Nat} {sz : Nat} {n : Nat} {size : Nat} (h : σ.ρ id ep = some (.at blk st sz n size)) : VRel σ (.mp id ep) (.map (some blk))
 | fn {σ : Sg} {f : Fn} {first : List AV} {cap : List AV} {first' : Array Value} {cap' : Array Value} (l1 : first.length = first'.size) (l2 : cap.length = cap'.size)
   (v1 : ∀ (i : Nat) (c : AV) (v : Value), first[i]? = some c → first'[i]? = some v → VRel σ c v)
   (v2 : ∀ (i : Nat) (c : AV) (v : Value), cap[i]? = some c → cap'[i]? = some v → VRel σ c v) : VRel σ (.fn f first cap) (.func f first' cap')
 | agg {σ : Sg} {cs : List AV} {vs : Array Value} (l : cs.length = vs.size) (o : ∀ v ∈ vs.toList, v.oneCell' = true) (v : ∀ (i : Nat) (c : AV) (v : Value), cs[i]? = some c → vs[i]? = some v → VRel σ c v) : VRel σ (.agg cs) (.agg vs)
 | tup {σ : Sg} {cs : List AV} {vs : Array Value} (l : cs.length = vs.size) (v : ∀ (i : Nat) (c : AV) (v : Value), cs[i]? = some c → vs[i]? = some v → VRel σ c v) : VRel σ (.tup cs) (.tuple vs)
 | u {σ : Sg} {v : Value} : VRel σ .u v
theorem VRel.mono0 {σ : Sg} {a : AV} {v : Value} (h : VRel σ a v) : ∀ {τ : Sg}, Sg.Le0 σ τ → VRel τ a v := by
 induction h with
 | int => intro τ _; exact .int
 | bool => intro τ _; exact .bool
 | str => intro τ _; exact .str
 | nilp => intro τ _; exact .nilp
 | nils => intro τ _; exact .nils
 | nilm => intro τ _; exact .nilm
 | nilf => intro τ _; exact .nilf
 | optr h => intro τ l; exact .optr (l.ρ _ _ _ h)
 | lptr g hw hc ho hv ih =>
  intro τ l
  exact .lptr g hw (fun i j c x => let ⟨cs, a, b⟩ := hc i j c x; ⟨cs, l.FM _ _ a, b⟩) ho (fun i j c x => ih i j c x l.pure)
 | oslc h h1 h2 h3 h4 h5 => intro τ l; exact .oslc (l.ρ _ _ _ h) h1 h2 h3 h4 h5
 | onil h => intro τ l; exact .onil (l.ρ _ _ _ h)
 | onilz h => intro τ l; exact .onilz (l.ρ _ _ _ h)
 | lslc g hw hc ho hv h1 h3 h5 ih =>
  intro τ l
  exact .lslc g hw (fun i j c x => let ⟨cs, a, b⟩ := hc i j c x; ⟨cs, l.FM _ _ a, b⟩) ho (fun i j c x => ih i j c x l.pure) h1 h3 h5
 | lnil => intro τ _; exact .lnil
 | oz h h1 h2 => intro τ l; exact .oz (l.ρ _ _ _ h) h1 h2
 | lz => intro τ _; exact .lz
 | mp h => intro τ l; exact .mp (l.ρ _ _ _ h)
 | fn l1 l2 v1 v2 i1 i2 => intro τ l; exact .fn l1 l2 (fun i c v a b => i1 i c v a b l) (fun i c v a b => i2 i c v a b l)
 | agg l o v ih => intro τ k; exact .agg l o (fun i c v a b => ih i c v a b k)
 | tup l v ih => intro τ k; exact .tup l (fun i c v a b => ih i c v a b k)
 | u => intro τ _; exact .u
theorem VRel.mono {σ : Sg} {a : AV} {v : Value} (h : VRel σ a v) {τ : Sg} (l : Sg.Le σ τ) : VRel τ a v := h.mono0 l.le0
def AV.pure1 : AV → Bool
 | .int .. | .bool _ | .str _ | .nilp | .nils | .nilm | .nilf | .lptr .. | .lslc .. | .u => true
 | .fn _ first cap => first.isEmpty && cap.isEmpty
 | _ => false
def AV.isPure : AV → Bool
 | .agg cs => cs.all AV.pure1
 | .tup cs => cs.all AV.pure1
 | a => a.pure1
theorem VRel.pure1 {σ : Sg} {a : AV} {v : Value} (h : VRel σ a v) (hp : a.pure1 = true) : VRel σ.pure a v := by
 cases h with
 | int => exact .int
 | bool => exact .bool
 | str => exact .str
 | nilp => exact .nilp
 | nils => exact .nils
 | nilm => exact .nilm
 | nilf => exact .nilf
 | lptr g hw hc ho hv => exact .lptr g hw hc ho hv
 | lslc g hw hc ho hv h1 h3 h5 => exact .lslc g hw hc ho hv h1 h3 h5
 | lnil => exact .lnil
 | lz => exact .lz
 | u => exact .u
 | @fn _ f first cap _ _ l1 l2 v1 v2 =>
  simp only [AV.pure1, Bool.and_eq_true, List.isEmpty_iff] at hp
  obtain ⟨rfl, rfl⟩ := hp
  exact .fn l1 l2 (fun i c v a => by simp at a) (fun i c v a => by simp at a)
 | _ => simp [AV.pure1] at hp
theorem VRel.isPure {σ : Sg} {a : AV} {v : Value} (h : VRel σ a v) (hp : a.isPure = true) : VRel σ.pure a v := by
 cases h with
 | agg l o w =>
  simp only [AV.isPure, List.all_eq_true] at hp
  exact .agg l o (fun i c v a b => (w i c v a b).pure1 (hp c (List.mem_of_getElem? a)))
 | tup l w =>
  simp only [AV.isPure, List.all_eq_true] at hp
  exact .tup l (fun i c v a b => (w i c v a b).pure1 (hp c (List.mem_of_getElem? a)))
 | _ => exact VRel.pure1 (by constructor <;> assumption) (by simpa [AV.isPure] using hp)
def AObj.blk (σ : Sg) (id : Id) : AObj → Option Nat
 | .vec ep _ | .map ep _ => match σ.ρ id ep with | some (.at b _ _ _ _) => some b | _ => none
 | .hole => none
def Live (σ : Sg) (h : Heap) (b : Nat) : Prop := ∃ (id : Id) (o : AObj), h[id]? = some o ∧ o.blk σ id = some b
def BornOk (ents : Array MapEntry) (clock : Nat) : Prop := ∀ (i : Nat) (e : MapEntry), ents[i]? = some e → e.born < clock ∧ ∀ (j : Nat) (e' : MapEntry), ents[j]? = some e' → e.born = e'.born → i = j
theorem bornOk_nil (c : Nat) : BornOk #[] c := fun i e h => by simp at h
theorem bornOk_push {ents : Array MapEntry} {clock : Nat} (h : BornOk ents clock) (k v : Value) : BornOk (ents.push { key := k, val := v, born := clock }) (clock + 1) := by
 have get : ∀ (i : Nat) (e : MapEntry), (ents.push { key := k, val := v, born := clock })[i]? = some e → ents[i]? = some e ∨ (i = ents.size ∧ e.born = clock) := fun i e x => by
  rw [Array.getElem?_push] at x
  split at x
  ·rename_i hi; cases x; exact .inr ⟨hi, rfl⟩
  ·exact .inl x
 intro i e hi
 rcases get i e hi with h1 | ⟨rfl, h1⟩
 ·obtain ⟨a, b⟩ := h i e h1
  refine ⟨by omega, fun j e' hj he => ?_⟩
  rcases get j e' hj with h2 | ⟨rfl, h2⟩
  ·exact b j e' h2 he
  ·omega
 ·refine ⟨by omega, fun j e' hj he => ?_⟩
  rcases get j e' hj with h2 | ⟨rfl, h2⟩
  ·have := (h j e' h2).1; omega
  ·rfl
theorem bornOk_modify {ents : Array MapEntry} {clock : Nat} (h : BornOk ents clock) (n : Nat) (k v : Value) : BornOk (ents.modify n fun e => { e with key := k, val := v }) clock := by
 have get : ∀ (i : Nat) (e : MapEntry), (ents.modify n fun e => { e with key := k, val := v })[i]? = some e → ∃ e0, ents[i]? = some e0 ∧ e.born = e0.born := fun i e x => by
  rw [Array.getElem?_modify] at x
  split at x
  ·rw [Option.map_eq_some_iff] at x
   obtain ⟨e0, h0, rfl⟩ := x
   exact ⟨e0, h0, rfl⟩
  ·exact ⟨e, x, rfl⟩
 intro i e hi
 obtain ⟨e0, h0, b0⟩ := get i e hi
 obtain ⟨a, b⟩ := h i e0 h0
 refine ⟨by omega, fun j e' hj he => ?_⟩
 obtain ⟨e1, h1, b1⟩ := get j e' hj
 exact b j e1 h1 (by omega)
def ObjOk (σ : Sg) (w : World) (id : Id) : AObj → Prop
 | .hole => True
 | .vec ep rows => (rows = [] ∧ σ.ρ id ep = some .nil) ∨ ∃ blk st sz n size cs T, σ.ρ id ep = some (.at blk st sz n size) ∧ w.heap[blk]? = some (.cells cs T (0, 0)) ∧
   cs.size = size ∧ n = rows.length ∧ st + n * sz ≤ size ∧ σ.FM blk = none ∧ (∀ (i : Nat) (row : List AV), rows[i]? = some row → row.length = sz) ∧
   ∀ (i j : Nat) (c : AV), cellAt rows i j = some c → ∃ v, cs[st + i * sz + j]? = some v ∧ v.oneCell' = true ∧ VRel σ c v
 | .map ep es => ∃ blk st sz n size ents clock, σ.ρ id ep = some (.at blk st sz n size) ∧ w.heap[blk]? = some (.map ents clock) ∧ σ.FM blk = none ∧
   (es.length = ents.size ∧ BornOk ents clock) ∧ ∀ (i : Nat) (k v : AV) (e : MapEntry), es[i]? = some (k, v) → ents[i]? = some e → VRel σ k e.key ∧ VRel σ v e.val
structure Sim (σ : Sg) (h : Heap) (w : World) : Prop where
 fm : ∀ b cs, σ.FM b = some cs → ∃ T fz, w.heap[b]? = some (.cells cs T fz)
 obj : ∀ (id : Id) (o : AObj), h[id]? = some o → ObjOk σ w id o
 apart : ∀ (i j : Id) (oi oj : AObj) (b : Nat), h[i]? = some oi → h[j]? = some oj → oi.blk σ i = some b → oj.blk σ j = some b → i = j
 fresh : ∃ e0, ∀ id ep, e0 ≤ ep → σ.ρ id ep = none
 rm : ∀ b o, σ.RM b = some o → w.heap[b]? = some o ∧ isRec o = true
structure Mv (σ : Sg) (h : Heap) (w : World) (σ' : Sg) (h' : Heap) (w' : World) : Prop where
 le : Sg.Le σ σ'
 sim : Sim σ' h' w'
 os : w'.os = w.os
 tape : w'.tape = w.tape
 output : w'.output = w.output
 size : w.heap.size ≤ w'.heap.size
 block : ∀ b, b < w.heap.size → ¬ Live σ h b → w'.heap[b]? = w.heap[b]?
 live : ∀ b, Live σ' h' b → Live σ h b ∨ w.heap.size ≤ b
 new : ∀ b, σ'.FM b ≠ none → σ.FM b ≠ none ∨ Live σ h b ∨ w.heap.size ≤ b
theorem Mv.refl {σ : Sg} {h : Heap} {w : World} (s : Sim σ h w) : Mv σ h w σ h w :=
 ⟨.refl _, s, rfl, rfl, rfl, Nat.le_refl _, fun _ _ _ => rfl, fun _ x => .inl x, fun _ x => .inl x⟩
theorem Mv.trans {σ σ' σ'' : Sg} {h h' h'' : Heap} {w w' w'' : World} (m : Mv σ h w σ' h' w') (k : Mv σ' h' w' σ'' h'' w'') : Mv σ h w σ'' h'' w'' where
 le := m.le.trans k.le
 sim := k.sim
 os := k.os.trans m.os
 tape := k.tape.trans m.tape
 output := k.output.trans m.output
 size := Nat.le_trans m.size k.size
 block b hb hl := by
  have h1 := m.block b hb hl
  rw [← h1]
  refine k.block b (Nat.lt_of_lt_of_le hb m.size) fun hl' => ?_
  rcases m.live b hl' with h2 | h2
  ·exact hl h2
  ·omega
 live b hb := by
  rcases k.live b hb with h1 | h1
  ·exact m.live b h1
  ·have := m.size; exact .inr (by omega)
 new b hb := by
  have hs := m.size
  rcases k.new b hb with h1 | h1 | h1
  ·exact m.new b h1
  ·rcases m.live b h1 with h2 | h2
   ·exact .inr (.inl h2)
   ·exact .inr (.inr h2)
  ·exact .inr (.inr (by omega))
theorem Live.lt {σ : Sg} {h : Heap} {w : World} (s : Sim σ h w) {b : Nat} (l : Live σ h b) : b < w.heap.size := by
 obtain ⟨id, o, ho, hb⟩ := l
 have hk := s.obj id o ho
 cases o with
 | hole => simp [AObj.blk] at hb
 | vec ep rows =>
  rcases hk with ⟨_, h2⟩ | ⟨blk, st, sz, n, size, cs, T, h1, h2, _⟩
  ·simp [AObj.blk, h2] at hb
  ·simp only [AObj.blk, h1, Option.some.injEq] at hb
   subst hb
   exact (Array.getElem?_eq_some_iff.1 h2).1
 | map ep es =>
  obtain ⟨blk, st, sz, n, size, cs, T, h1, h2, _⟩ := hk
  simp only [AObj.blk, h1, Option.some.injEq] at hb
  subst hb
  exact (Array.getElem?_eq_some_iff.1 h2).1
theorem Live.noFM {σ : Sg} {h : Heap} {w : World} (s : Sim σ h w) {b : Nat} (l : Live σ h b) : σ.FM b = none := by
 obtain ⟨id, o, ho, hb⟩ := l
 have hk := s.obj id o ho
 cases o with
 | hole => simp [AObj.blk] at hb
 | vec ep rows =>
  rcases hk with ⟨_, h2⟩ | ⟨blk, st, sz, n, size, cs, T, h1, h2, _, _, _, h3, _⟩
  ·simp [AObj.blk, h2] at hb
  ·simp only [AObj.blk, h1, Option.some.injEq] at hb
   subst hb
   exact h3
 | map ep es =>
  obtain ⟨blk, st, sz, n, size, cs, T, h1, h2, h3, _⟩ := hk
  simp only [AObj.blk, h1, Option.some.injEq] at hb
  subst hb
  exact h3
theorem Live.noRM {σ : Sg} {h : Heap} {w : World} (s : Sim σ h w) {b : Nat} (l : Live σ h b) : σ.RM b = none := by
 obtain ⟨id, o, ho, hb⟩ := l
 have hk := s.obj id o ho
 cases hr : σ.RM b with
 | none => rfl
 | some x =>
  obtain ⟨r1, r2⟩ := s.rm b x hr
  cases o with
  | hole => simp [AObj.blk] at hb
  | vec ep rows =>
   rcases hk with ⟨_, h2⟩ | ⟨blk, st, sz, n, size, cs, T, h1, h2, _⟩
   ·simp [AObj.blk, h2] at hb
   ·simp only [AObj.blk, h1, Option.some.injEq] at hb
    subst hb
    rw [h2] at r1
    cases r1
    cases r2
  | map ep es =>
   obtain ⟨blk, st, sz, n, size, cs, T, h1, h2, _⟩ := hk
   simp only [AObj.blk, h1, Option.some.injEq] at hb
   subst hb
   rw [h2] at r1
   cases r1
   cases r2
def VRels (σ : Sg) (as : List AV) (vs : List Value) : Prop := as.length = vs.length ∧ ∀ (i : Nat) (a : AV) (v : Value), as[i]? = some a → vs[i]? = some v → VRel σ a v
theorem VRels.mono0 {σ τ : Sg} {as : List AV} {vs : List Value} (h : VRels σ as vs) (l : Sg.Le0 σ τ) : VRels τ as vs := ⟨h.1, fun i a v x y => (h.2 i a v x y).mono0 l⟩
theorem VRels.mono {σ τ : Sg} {as : List AV} {vs : List Value} (h : VRels σ as vs) (l : Sg.Le σ τ) : VRels τ as vs := ⟨h.1, fun i a v x y => (h.2 i a v x y).mono l⟩
theorem VRels.nil {σ : Sg} : VRels σ [] [] := ⟨rfl, fun _ _ _ h => by simp at h⟩
theorem VRels.cons {σ : Sg} {a : AV} {v : Value} {as : List AV} {vs : List Value} (h : VRel σ a v) (k : VRels σ as vs) : VRels σ (a :: as) (v :: vs) := by
 refine ⟨by simp [k.1], fun i b u x y => ?_⟩
 cases i with
 | zero => simp at x y; subst x; subst y; exact h
 | succ i => simp at x y; exact k.2 i b u x y
theorem VRels.pure {σ : Sg} {as : List AV} {vs : List Value} (h : VRels σ as vs) (hp : as.all AV.isPure = true) : VRels σ.pure as vs :=
 ⟨h.1, fun i a v x y => (h.2 i a v x y).isPure (List.all_eq_true.1 hp a (List.mem_of_getElem? x))⟩
theorem VRels.append {σ : Sg} {as bs : List AV} {vs us : List Value} (h : VRels σ as vs) (k : VRels σ bs us) : VRels σ (as ++ bs) (vs ++ us) := by
 refine ⟨by simp [h.1, k.1], fun i a v x y => ?_⟩
 have hl := h.1
 by_cases hi : i < as.length
 ·rw [List.getElem?_append_left hi] at x
  rw [List.getElem?_append_left (by omega)] at y
  exact h.2 i a v x y
 ·rw [List.getElem?_append_right (by omega)] at x
  rw [List.getElem?_append_right (by omega), ← hl] at y
  exact k.2 _ a v x y
def Sg.withRM (σ : Sg) (R : Nat → Option Obj) : Sg := { ρ := σ.ρ, FM := σ.FM, RM := R }
theorem Sg.withRM_le0 (σ : Sg) (R : Nat → Option Obj) : Sg.Le0 σ (σ.withRM R) := ⟨fun _ _ _ h => h, fun _ _ h => h⟩
theorem live_withRM {σ : Sg} {R : Nat → Option Obj} {h : Heap} {b : Nat} : Live (σ.withRM R) h b ↔ Live σ h b := Iff.rfl
theorem ObjOk.withRM {σ : Sg} {R : Nat → Option Obj} {w w' : World} {id : Id} {o : AObj} (h : ObjOk σ w id o) (hb : ∀ b, o.blk σ id = some b → w'.heap[b]? = w.heap[b]?) : ObjOk (σ.withRM R) w' id o := by
 cases o with
 | hole => trivial
 | vec ep rows =>
  rcases h with ⟨h1, h2⟩ | ⟨blk, st, sz, n, size, cs, T, h1, h2, h3, h4, h5, h6, h7, h8⟩
  ·exact .inl ⟨h1, h2⟩
  ·exact .inr ⟨blk, st, sz, n, size, cs, T, h1, by rw [hb blk (by simp [AObj.blk, h1])]; exact h2, h3, h4, h5, h6, h7, fun i j c x => let ⟨v, a, b, d⟩ := h8 i j c x; ⟨v, a, b, d.mono0 (σ.withRM_le0 R)⟩⟩
 | map ep es =>
  obtain ⟨blk, st, sz, n, size, ents, clock, h1, h2, h3, h4, h5⟩ := h
  exact ⟨blk, st, sz, n, size, ents, clock, h1, by rw [hb blk (by simp [AObj.blk, h1])]; exact h2, h3, h4, fun i k v e x y => let ⟨a, b⟩ := h5 i k v e x y; ⟨a.mono0 (σ.withRM_le0 R), b.mono0 (σ.withRM_le0 R)⟩⟩
theorem Sim.withRM {σ : Sg} {h : Heap} {w w' : World} (s : Sim σ h w) (R : Nat → Option Obj) (hl : ∀ b, Live σ h b → w'.heap[b]? = w.heap[b]?) (hf : ∀ b, σ.FM b ≠ none → w'.heap[b]? = w.heap[b]?)
  (hr : ∀ b o, R b = some o → w'.heap[b]? = some o ∧ isRec o = true) : Sim (σ.withRM R) h w' :=
 ⟨fun b cs x => by
  obtain ⟨T, fz, e⟩ := s.fm b cs x
  exact ⟨T, fz, by rw [hf b (by rw [show σ.FM b = some cs from x]; simp)]; exact e⟩,
  fun i o ho => (s.obj i o ho).withRM fun b hb => hl b ⟨i, o, ho, hb⟩, s.apart, s.fresh, hr⟩
theorem Live.notRec {σ : Sg} {h : Heap} {w : World} (s : Sim σ h w) {b : Nat} {o : Obj} (hb : w.heap[b]? = some o) (hr : isRec o = true) : ¬ Live σ h b := by
 intro l
 have := Live.noRM (Sim.withRM s (fun k => if k = b then some o else none) (fun _ _ => rfl) (fun _ _ => rfl) (fun k x hx => by
  split at hx
  ·rename_i e; subst e; cases hx; exact ⟨hb, hr⟩
  ·cases hx)) (live_withRM.2 l)
 simp [Sg.withRM] at this
theorem Sim.notFM {σ : Sg} {h : Heap} {w : World} (s : Sim σ h w) {b : Nat} {o : Obj} (hb : w.heap[b]? = some o) (hr : isRec o = true) : σ.FM b = none := by
 cases e : σ.FM b with
 | none => rfl
 | some cs =>
  obtain ⟨T, fz, x⟩ := s.fm b cs e
  rw [hb] at x
  cases x
  cases hr
structure ACalls (P : Program) (f : FuncId) (args : List AV) (h : Heap) (K : AV → Heap → Prop) : Prop where
 use : ∀ (σ : Sg) (w : World) (vs : Array Value), Sim σ h w → VRels σ args vs.toList →
  Calls P f vs w fun e w' => ∃ v, e = .returned v ∧ ∃ σ' h' r, K r h' ∧ Mv σ h w σ' h' w' ∧ VRel σ' r v
theorem ACalls.mono {P : Program} {f : FuncId} {args : List AV} {h : Heap} {K K' : AV → Heap → Prop} (hc : ACalls P f args h K) (hk : ∀ r h', K r h' → K' r h') :
  ACalls P f args h K' := ⟨fun σ w vs s v =>
 Calls.mono (hc.use σ w vs s v) fun _ _ ⟨x, e, σ', h', r, k, m, v⟩ => ⟨x, e, σ', h', r, hk _ _ k, m, v⟩⟩
end Go.Ab

namespace Go.Ab
inductive TK where
 | int (k : IntKind)
 | bool | str | ptr
 | slice (e : Nat)
 | arr (n e : Nat)
 | struct (fs : List (Nat × Nat))
 | map (k v : Nat)
 | func
 | other
 deriving DecidableEq
structure TD where
 kind : TK
 size : Nat
 bytes : Nat
 zero : List AV
 flat : Bool
 key : Bool
def scal (P : Program) (t : Nat) : Bool := match P.underlying t with
 | some (.int _) | some .bool => true
 | _ => false
def flatFs (P : Program) : Nat → List Field → Bool
 | _, [] => true
 | i, f :: r => f.name != "_" && f.offset == i && scal P f.type && flatFs P (i + 1) r
def flat1 (P : Program) (t : Nat) : Option Nat := match P.underlying t, P.info? t with
 | some (.struct fs), some i => if flatFs P 0 fs.toList && !P.stoodInHeld t && i.size == fs.size then some fs.size else none
 | _, _ => none
def leafOk (P : Program) (t : Nat) : Option Nat := if scal P t then some 1 else flat1 P t
def flatFs2 (P : Program) : Nat → List Field → Bool
 | _, [] => true
 | i, f :: r => f.name != "_" && f.offset == i && (match leafOk P f.type with | some n => flatFs2 P (i + n) r | none => false)
def flatB (P : Program) (t : Nat) : Bool := match P.underlying t with
 | some (.struct fs) => flatFs2 P 0 fs.toList && !P.stoodInHeld t && !P.eqGuardType P.depth t
 | some (.array _ e) => scal P e && !P.eqGuardType P.depth t
 | _ => false
abbrev TI := Nat → Option TD
def kindOf (ti : TI) (t : Nat) : Option TK := (ti t).map (·.kind)
def kindOf0 (ti : TI) (ts : Array TypeId) : Option TK := match ts[0]? with | some t => kindOf ti t | none => none
theorem kindOf_some {ti : TI} {t : Nat} {k : TK} (h : kindOf ti t = some k) : ∃ d, ti t = some d ∧ d.kind = k := by
 unfold kindOf at h
 cases hd : ti t with
 | none => simp [hd] at h
 | some d => exact ⟨d, rfl, by simpa [hd] using h⟩
def TD.isAgg (d : TD) : Bool := match d.kind with | .arr .. | .struct _ => true | _ => false
def ofVal : Value → Option AV
 | .int k n => some (.int k n)
 | .bool b => some (.bool b)
 | .string s => some (.str s)
 | .pointer none => some .nilp
 | .slice none 0 0 => some .nils
 | .map none => some .nilm
 | .nilFunc => some .nilf
 | _ => none
theorem VRel.ofVal {σ : Sg} {v : Value} {a : AV} (h : Ab.ofVal v = some a) : VRel σ a v := by
 unfold Ab.ofVal at h
 split at h <;> first | (cases h; constructor) | cases h
def kfits : Option TypeDesc → TK → Bool
 | some (.int k), .int k' => k == k'
 | some .bool, .bool | some .string, .str | some (.pointer _), .ptr | some (.func ..), .func => true
 | some (.slice e), .slice e' => e == e'
 | some (.array n e), .arr n' e' => n == n' && e == e'
 | some (.struct fs), .struct l => fs.toList.map (fun f => (f.offset, f.type)) == l
 | some (.map k v), .map k' v' => k == k' && v == v'
 | _, _ => false
def isAggV : Value → Bool
 | .agg _ => true
 | _ => false
structure DOk (P : Program) (t : Nat) (d : TD) : Prop where
 info : ∃ i z, P.info? t = some i ∧ i.size = d.size ∧ i.bytes = d.bytes ∧ i.zero = some z ∧ z.cells.size = d.size ∧ d.zero.length = d.size ∧
  ∀ (j : Nat) (a : AV), d.zero[j]? = some a → ∃ v, z.cells[j]? = some v ∧ ofVal v = some a
 und : kfits (P.underlying t) d.kind = true
 one : d.isAgg = false → d.size = 1
 flat : d.flat = true → flatB P t = true
 key : d.key = true → WideMaps.KeyLaw P t ∧ P.keyType t = true ∧ (match P.underlying t with | some (.array _ _) | some (.struct _) => true | _ => false) = true
 shape : ∀ i z, P.info? t = some i → i.zero = some z → isAggV z = d.isAgg
def TOk (P : Program) (ti : TI) : Prop := ∀ t d, ti t = some d → DOk P t d
theorem DOk.int {P : Program} {t : Nat} {d : TD} {k : IntKind} (h : DOk P t d) (e : d.kind = .int k) : P.underlying t = some (.int k) := by
 have := h.und; rw [e] at this; unfold kfits at this; split at this <;> simp_all
theorem DOk.bool {P : Program} {t : Nat} {d : TD} (h : DOk P t d) (e : d.kind = .bool) : P.underlying t = some .bool := by
 have := h.und; rw [e] at this; unfold kfits at this; split at this <;> simp_all
theorem DOk.str {P : Program} {t : Nat} {d : TD} (h : DOk P t d) (e : d.kind = .str) : P.underlying t = some .string := by
 have := h.und; rw [e] at this; unfold kfits at this; split at this <;> simp_all
theorem DOk.ptr {P : Program} {t : Nat} {d : TD} (h : DOk P t d) (e : d.kind = .ptr) : ∃ e, P.underlying t = some (.pointer e) := by
 have := h.und; rw [e] at this; unfold kfits at this; split at this <;> simp_all
theorem DOk.slice {P : Program} {t : Nat} {d : TD} {e : Nat} (h : DOk P t d) (k : d.kind = .slice e) : P.underlying t = some (.slice e) := by
 have := h.und; rw [k] at this; unfold kfits at this; split at this <;> simp_all
theorem DOk.arr {P : Program} {t : Nat} {d : TD} {n e : Nat} (h : DOk P t d) (k : d.kind = .arr n e) : P.underlying t = some (.array n e) := by
 have := h.und; rw [k] at this; unfold kfits at this; split at this <;> simp_all
theorem DOk.map {P : Program} {t : Nat} {d : TD} {n e : Nat} (h : DOk P t d) (k : d.kind = .map n e) : P.underlying t = some (.map n e) := by
 have := h.und; rw [k] at this; unfold kfits at this; split at this <;> simp_all
theorem DOk.struct {P : Program} {t : Nat} {d : TD} {l : List (Nat × Nat)} (h : DOk P t d) (k : d.kind = .struct l) :
  ∃ fs, P.underlying t = some (.struct fs) ∧ fs.toList.map (fun f => (f.offset, f.type)) = l := by
 have := h.und; rw [k] at this; unfold kfits at this; split at this <;> simp_all
theorem DOk.run_sizeOf {P : Program} {t : Nat} {d : TD} (h : DOk P t d) (w : World) : (sizeOf t).run P w = .ok d.size w := by
 obtain ⟨⟨i, z, h1, h2, _⟩, _⟩ := h
 simp [Go.sizeOf, typeInfo, h1, h2]
theorem DOk.run_zero {P : Program} {t : Nat} {d : TD} (h : DOk P t d) (w : World) : ∃ z, (zeroValue t).run P w = .ok z w ∧ z.cells.size = d.size ∧ d.zero.length = d.size ∧
  (∀ (j : Nat) (a : AV), d.zero[j]? = some a → ∃ v, z.cells[j]? = some v ∧ ofVal v = some a) ∧ ∃ i, P.info? t = some i ∧ i.zero = some z ∧ i.size = d.size ∧ i.bytes = d.bytes := by
 obtain ⟨⟨i, z, h1, h2, h3, h4, h5, h6, h7⟩, _⟩ := h
 exact ⟨z, by simp [zeroValue, typeInfo, h1, h4], h5, h6, h7, i, h1, h4, h2, h3⟩
theorem run_und {P : Program} {t : TypeId} {d : TypeDesc} (h : P.underlying t = some d) (w : World) : (underlying t).run P w = .ok d w := by
 simp [underlying, h]
theorem DOk.run_isAgg {P : Program} {t : Nat} {d : TD} (h : DOk P t d) (w : World) : (isAgg t).run P w = .ok d.isAgg w := by
 have hu := h.und
 unfold kfits at hu
 split at hu <;> simp_all [Go.isAgg, underlying, TD.isAgg]
def forceL {α : Type} : List α → (List α → Prop) → Prop
 | [], K => K []
 | a :: l, K => forceL l fun l' => K (a :: l')
theorem forceL_eq {α : Type} : ∀ (l : List α) (K : List α → Prop), forceL l K = K l
 | [], _ => rfl
 | a :: l, K => forceL_eq l fun l' => K (a :: l')
def forceV : AV → (AV → Prop) → Prop
 | .int k n, K => K (.int k n)
 | .bool b, K => K (.bool b)
 | .str s, K => K (.str s)
 | .nilp, K => K .nilp
 | .nils, K => K .nils
 | .nilm, K => K .nilm
 | .nilf, K => K .nilf
 | .optr id ep sz i off, K => K (.optr id ep sz i off)
 | .lptr sz rows i off, K => K (.lptr sz rows i off)
 | .oslc id ep sz off len lim, K => K (.oslc id ep sz off len lim)
 | .lslc sz rows off len lim, K => K (.lslc sz rows off len lim)
 | .mp id ep, K => K (.mp id ep)
 | .fn f x y, K => forceL x fun x => forceL y fun y => K (.fn f x y)
 | .agg cs, K => forceL cs fun cs => K (.agg cs)
 | .tup cs, K => forceL cs fun cs => K (.tup cs)
 | .u, K => K .u
theorem forceV_eq (a : AV) (K : AV → Prop) : forceV a K = K a := by
 cases a <;> simp only [forceV, forceL_eq]
def AV.cells? : AV → Option (List AV)
 | .agg cs => some cs
 | .int k n => some [.int k n]
 | .bool b => some [.bool b]
 | .str s => some [.str s]
 | .nilp => some [.nilp]
 | .nils => some [.nils]
 | .nilm => some [.nilm]
 | .nilf => some [.nilf]
 | .optr id ep sz i off => some [.optr id ep sz i off]
 | .lptr sz rows i off => some [.lptr sz rows i off]
 | .oslc id ep sz off len lim => some [.oslc id ep sz off len lim]
 | .lslc sz rows off len lim => some [.lslc sz rows off len lim]
 | .mp id ep => some [.mp id ep]
 | .fn f x y => some [.fn f x y]
 | .u | .tup _ => none
def CRels (σ : Sg) (as : List AV) (vs : List Value) : Prop := VRels σ as vs ∧ ∀ v ∈ vs, v.oneCell' = true
theorem VRel.cells {σ : Sg} {a : AV} {v : Value} {cs : List AV} (h : VRel σ a v) (hc : a.cells? = some cs) : CRels σ cs v.cells.toList := by
 cases h with
 | agg l o w =>
  simp only [AV.cells?, Option.some.injEq] at hc
  subst hc
  exact ⟨⟨by simp [Value.cells, l], fun i a v x y => w i a v x (by simpa [Value.cells] using y)⟩, by simpa [Value.cells] using o⟩
 | u => simp [AV.cells?] at hc
 | tup l w => simp [AV.cells?] at hc
 | _ =>
  simp only [AV.cells?, Option.some.injEq] at hc
  subst hc
  exact ⟨VRels.cons (by constructor <;> assumption) .nil, by simp [Value.cells, Value.oneCell']⟩
theorem CRels.mono {σ τ : Sg} {as : List AV} {vs : List Value} (h : CRels σ as vs) (l : Sg.Le σ τ) : CRels τ as vs := ⟨h.1.mono l, h.2⟩
def aPart (ag : Bool) (size off : Nat) (cs : List AV) : Option AV :=
 if off + size ≤ cs.length then (if ag then some (.agg ((cs.drop off).take size)) else cs[off]?) else none
theorem extract_rel {σ : Sg} {cs : List AV} {vs : List Value} (h0 : CRels σ cs vs) (off size : Nat) (hl : off + size ≤ cs.length) :
  VRel σ (.agg ((cs.drop off).take size)) (.agg ((vs.drop off).take size).toArray) := by
 have h := h0.1
 have h1 := h.1
 refine .agg (by simp; omega) (fun v hv => h0.2 v (List.mem_of_mem_drop (List.mem_of_mem_take hv))) fun i c v a b => ?_
 simp only [List.getElem?_take, List.getElem?_drop, List.getElem?_toArray] at a b
 split at a
 ·exact h.2 _ c v a (by simpa [*] using b)
 ·cases a
theorem run_part {P : Program} {t : Nat} {d : TD} (h : DOk P t d) {σ : Sg} {cs : List AV} {vs : Array Value} (hr : CRels σ cs vs.toList) {off : Nat} {a : AV}
  (ha : aPart d.isAgg d.size off cs = some a) (w : World) : ∃ v, (part t vs off).run P w = .ok v w ∧ VRel σ a v := by
 unfold aPart at ha
 split at ha
 ·rename_i hl
  have h1 := hr.1.1
  simp at h1
  cases hd : d.isAgg with
  | true =>
   simp only [hd, if_true, Option.some.injEq] at ha
   subst ha
   refine ⟨.agg (vs.extract off (off + d.size)), ?_, ?_⟩
   ·simp [part, h.run_isAgg, hd, h.run_sizeOf]
   ·have := extract_rel hr off d.size hl
    have e : (vs.extract off (off + d.size)) = ((vs.toList.drop off).take d.size).toArray := by
     apply Array.ext'
     simp [List.extract_eq_take_drop]
    rw [e]; exact this
  | false =>
   simp only [hd, Bool.false_eq_true, if_false] at ha
   have hlt : off < cs.length := by
    rcases Nat.lt_or_ge off cs.length with h' | h'
    ·exact h'
    ·rw [List.getElem?_eq_none h'] at ha; cases ha
   have hv : vs[off]? = some (vs[off]'(by omega)) := by simp
   refine ⟨vs[off]'(by omega), ?_, hr.1.2 off a _ ha (by simp)⟩
   simp [part, h.run_isAgg, hd, hv]
 ·cases ha
def aOff (K : AV → Prop) (n : Nat) : AV → Prop
 | .optr id ep sz i o => K (.optr id ep sz i (o + n))
 | .lptr sz rows i o => K (.lptr sz rows i (o + n))
 | _ => False
def isPtr : AV → Bool
 | .optr .. | .lptr .. => true
 | _ => false
def binInt (op : BinOp) (k : IntKind) (a b : Int) (K : AV → Prop) : Prop :=
 match op with
 | .add => K (.int k (k.wrap (a + b)))
 | .sub => K (.int k (k.wrap (a - b)))
 | .mul => K (.int k (k.wrap (a * b)))
 | .quo => b ≠ 0 ∧ K (.int k (k.wrap (a.tdiv b)))
 | .rem => b ≠ 0 ∧ K (.int k (a.tmod b))
 | .eql => K (.bool (a == b))
 | .neq => K (.bool (a != b))
 | .lss => K (.bool (a < b))
 | .leq => K (.bool (a ≤ b))
 | .gtr => K (.bool (a > b))
 | .geq => K (.bool (a ≥ b))
 | _ => False
def notNil : AV → AV → Bool
 | .optr .., .nilp | .lptr .., .nilp | .mp .., .nilm | .fn .., .nilf => true
 | _, _ => false
def eqCK (ti : TI) : List (Nat × Nat) → List AV → List AV → (Bool → Prop) → Prop
 | [], _, _, K => K true
 | f :: l, x :: a, y :: b, K => match kindOf ti f.2, x, y with
  | some (.int _), .int k m, .int k' n => if k = k' then eqCK ti l a b fun r => K (decide (m = n) && r) else False
  | some .bool, .bool m, .bool n => eqCK ti l a b fun r => K (m == n && r)
  | _, _, _ => False
 | _, _, _, _ => False
def leaf1 (ti : TI) (f : Nat × Nat) : List (Nat × Nat) := match kindOf ti f.2 with
 | some (.struct l) => l
 | _ => [f]
def leafs (ti : TI) : List (Nat × Nat) → List (Nat × Nat)
 | [] => []
 | f :: l => leaf1 ti f ++ leafs ti l
def eqAK (ti : TI) (t : Nat) (a b : List AV) (K : Bool → Prop) : Prop := match ti t with
 | some d => match d.flat, d.kind with
  | true, .struct l => eqCK ti (leafs ti l) a b K
  | true, .arr (n + 1) e => eqCK ti (List.replicate (n + 1) (0, e)) a b K
  | _, _ => False
 | none => False
def binK (ti : TI) (op : BinOp) (t : Nat) (x y : AV) (K : AV → Prop) : Prop :=
 match op, x, y with
 | .shl, .int k a, .int _ b => 0 ≤ b ∧ K (.int k (k.wrap (a * 2 ^ (min b.toNat k.bits))))
 | .shr, .int k a, .int _ b => 0 ≤ b ∧ K (.int k (a.fdiv (2 ^ (min b.toNat k.bits))))
 | op, .int k a, .int k' b => if k = k' then binInt op k a b K else False
 | .eql, .bool a, .bool b => (kindOf ti t = some .bool) ∧ K (.bool (a == b))
 | .neq, .bool a, .bool b => (kindOf ti t = some .bool) ∧ K (.bool (!(a == b)))
 | .eql, .agg a, .agg b => eqAK ti t a b fun r => K (.bool r)
 | .neq, .agg a, .agg b => eqAK ti t a b fun r => K (.bool !r)
 | .eql, a, .nilp => (kindOf ti t = some .ptr) ∧ if notNil a .nilp then K (.bool false) else match a with | .nilp => K (.bool true) | _ => False
 | .neq, a, .nilp => (kindOf ti t = some .ptr) ∧ if notNil a .nilp then K (.bool true) else match a with | .nilp => K (.bool false) | _ => False
 | _, _, _ => False
def unK (op : UnOp) (x : AV) (K : AV → Prop) : Prop :=
 match op, x with
 | .not, .bool b => K (.bool !b)
 | .neg, .int k n => K (.int k (k.wrap (0 - n)))
 | _, _ => False
def extK (vs : List AV) (n : Nat) (K : AV → Prop) : Prop := match vs[n]? with | some v => K v | none => False
def minK (mx : Bool) : List AV → AV → (AV → Prop) → Prop
 | [], x, K => K x
 | y :: r, x, K => match y, x with
  | .int k' b, .int k a => if k = k' then minK mx r (.int k (if (if mx then a < b else b < a) then b else a)) K else False
  | _, _ => False
def sliceGo (lo hi mx : Option AV) (K : AV → Prop) (len : Nat) (f : Nat → Nat → Bool → AV) : Prop :=
 match lo, hi, mx with
 | none, none, none => K (f 0 len false)
 | some (.int _ l), none, none => (0 ≤ l ∧ l ≤ len) ∧ K (f l.toNat (len - l.toNat) false)
 | none, some (.int _ h), none => (0 ≤ h ∧ h ≤ len) ∧ K (f 0 h.toNat false)
 | some (.int _ l), some (.int _ h), none => (0 ≤ l ∧ l ≤ h ∧ h ≤ len) ∧ K (f l.toNat (h.toNat - l.toNat) false)
 | none, some (.int _ h), some (.int _ m) => (0 ≤ h ∧ h ≤ len ∧ m = h) ∧ K (f 0 h.toNat true)
 | some (.int _ l), some (.int _ h), some (.int _ m) => (l = 0 ∧ 0 ≤ h ∧ h ≤ len ∧ m = h) ∧ K (f 0 h.toNat true)
 | _, _, _ => False
def sliceK (x : AV) (lo hi : Option AV) (mx : Option AV) (K : AV → Prop) : Prop :=
 match x with
 | .oslc id ep sz off len false => sliceGo lo hi mx K len fun l n lim => .oslc id ep sz (off + l) n lim
 | .lslc sz rows off len false => sliceGo lo hi mx K len fun l n lim => .lslc sz rows (off + l) n lim
 | .nils => sliceGo lo hi mx K 0 fun _ _ _ => .nils
 | _ => False
def fillK (place : Nat → Option (Nat × Nat)) : List AV → List (Nat × AV) → (List AV → Prop) → Prop
 | cells, [], K => K cells
 | cells, (i, v) :: r, K =>
  match place i, v.cells? with
  | some (off, size), some cs => if cs.length = size ∧ off + size ≤ cells.length then fillK place (cells.take off ++ cs ++ cells.drop (off + size)) r K else False
  | _, _ => False
def structPlace (ti : TI) (fs : List (Nat × Nat)) (i : Nat) : Option (Nat × Nat) := (fs[i]?).bind fun f => (ti f.2).map fun d => (f.1, d.size)
def idxK (size : Nat) (n : Int) (K : AV → Prop) (x : AV) : Prop :=
 match x with
 | .oslc id ep sz off len _ => if sz = size then (0 ≤ n ∧ n < len) ∧ K (.optr id ep sz (off + n.toNat) 0) else False
 | .lslc sz rows off len _ => if sz = size then (0 ≤ n ∧ n < len) ∧ K (.lptr sz rows (off + n.toNat) 0) else False
 | _ => False
def slcSz (n : Nat) : AV → Bool
 | .oslc _ _ sz _ _ _ => sz == n
 | .lslc sz _ _ _ _ => sz == n
 | .nils => true
 | _ => false
def pureK (ti : TI) (ev : Operand → AV) (op : Op) (K : AV → Prop) : Prop :=
 match op with
 | .move x | .assign x => K (ev x)
 | .pick c a b => match ev c with | .bool t => (match t with | true => K (ev a) | false => K (ev b)) | _ => False
 | .nilCheck x => if isPtr (ev x) then K (ev x) else match ev x with | .fn (.func f) a b => K (.fn (.func f) a b) | _ => False
 | .binOp op t x y _ => binK ti op t (ev x) (ev y) K
 | .unOp op _ x => unK op (ev x) K
 | .convert s d x =>
  match kindOf ti s, kindOf ti d, ev x with
  | some (.int _), some (.int k), .int _ n => K (.int k (k.wrap n))
  | _, _, _ => False
 | .fieldAddr t x f =>
  match kindOf ti t with
  | some (.struct fs) => match fs[f]? with
   | some (off, ft) => match ti ft with
    | some d => if d.size = 0 then False else aOff K off (ev x)
    | none => False
   | none => False
  | _ => False
 | .field t x f =>
  match kindOf ti t, ev x with
  | some (.struct fs), .agg cs => match fs[f]? with
   | some (off, ft) => match ti ft with
    | some d => (match aPart d.isAgg d.size off cs with | some v => K v | none => False)
    | none => False
   | none => False
  | _, _ => False
 | .indexAddr t x i =>
  match kindOf ti t, ev i with
  | some (.slice e), .int _ n => match ti e with
   | some d => idxK d.size n K (ev x)
   | none => False
  | some (.arr m e), .int _ n => match ti e with
   | some d => (0 ≤ n ∧ n < m) ∧ aOff K (n.toNat * d.size) (ev x)
   | none => False
  | _, _ => False
 | .index t x i =>
  match kindOf ti t, ev x, ev i with
  | some (.arr m e), .agg cs, .int _ n => match ti e with
   | some d => (0 ≤ n ∧ n < m) ∧ (match aPart d.isAgg d.size (n.toNat * d.size) cs with | some v => K v | none => False)
   | none => False
  | some .str, .str s, .int _ n => (0 ≤ n ∧ n < s.size) ∧ K (.int .u8 (s.get! n.toNat).toNat)
  | _, _, _ => False
 | .extract x n => match ev x with | .tup vs => extK vs n K | _ => False
 | .slice t x lo hi mx =>
  match kindOf ti t with
  | some (.slice e) => match ti e with
   | some d => if slcSz d.size (ev x) = true then sliceK (ev x) (lo.map ev) (hi.map ev) (mx.map ev) K else False
   | none => False
  | _ => False
 | .build t parts =>
  match ti t with
  | some d => match d.kind with
   | .struct fs => if fs.all (fun f => (ti f.2).isSome) = false then False else fillK (structPlace ti fs) d.zero (parts.toList.map fun p => (p.1, ev p.2)) fun cs => K (.agg cs)
   | .arr _ e => match ti e with
    | some de => fillK (fun i => some (i * de.size, de.size)) d.zero (parts.toList.map fun p => (p.1, ev p.2)) fun cs => K (.agg cs)
    | none => False
   | _ => False
  | none => False
 | .makeFunc fn first cap => K (.fn fn (first.toList.map ev) (cap.toList.map ev))
 | .call c =>
  match c.callee, c.args.toList with
  | .builtin .len, [x] => (match kindOf0 ti c.argTypes, ev x with
   | some (.slice _), .oslc _ _ _ _ len _ => K (.int .i64 len)
   | some (.slice _), .lslc _ _ _ len _ => K (.int .i64 len)
   | some (.slice _), .nils => K (.int .i64 0)
   | some (.arr n _), _ => K (.int .i64 n)
   | _, _ => False)
  | .builtin .min, x :: r => minK false (r.map ev) (ev x) K
  | .builtin .max, x :: r => minK true (r.map ev) (ev x) K
  | _, _ => False
 | _ => False
end Go.Ab

namespace Go.Ab
section
variable {P : Program} {ti : TI} {σ : Sg}
def PRun (P : Program) (σ : Sg) (w : World) (s : Sem Value) (K : AV → Prop) : Prop := ∃ v r, s.run P w = .ok v w ∧ VRel σ r v ∧ K r
theorem aOff_sound {K : AV → Prop} {n : Nat} {x : AV} {v : Value} (h : aOff K n x) (hr : VRel σ x v) : ∃ a : Addr, v = .pointer (some a) ∧ ∃ r, VRel σ r (.pointer (some (a.add n))) ∧ K r := by
 cases hr with
 | optr hh =>
  refine ⟨_, rfl, _, ?_, h⟩
  unfold Addr.add
  split
  ·rename_i e; subst e; exact .optr hh
  ·simp only [Nat.add_assoc]; rw [← Nat.add_assoc]; exact .optr hh
 | lptr g hw hc ho hv =>
  refine ⟨_, rfl, _, ?_, h⟩
  unfold Addr.add
  split
  ·rename_i e; subst e; exact .lptr g hw hc ho hv
  ·simp only [Nat.add_assoc]; rw [← Nat.add_assoc]; exact .lptr g hw hc ho hv
 | _ => exact h.elim
theorem binInt_sound {op : BinOp} {k : IntKind} {a b : Int} {K : AV → Prop} (h : binInt op k a b K) (w : World) (t : Nat)
  (hs : op ≠ .shl ∧ op ≠ .shr) : PRun P σ w (binOp op t (.int k a) (.int k b)) K := by
 obtain ⟨hs1, hs2⟩ := hs
 cases op <;> simp only [binInt] at h <;> first | exact h.elim | contradiction | skip
 case add => exact ⟨_, _, by simp [binOp, Op.intArith] <;> rfl, .int, h⟩
 case sub => exact ⟨_, _, by simp [binOp, Op.intArith] <;> rfl, .int, h⟩
 case mul => exact ⟨_, _, by simp [binOp, Op.intArith] <;> rfl, .int, h⟩
 case quo => exact ⟨_, _, by simp [binOp, Op.intDiv, h.1] <;> rfl, .int, h.2⟩
 case rem => exact ⟨_, _, by simp [binOp, Op.intDiv, h.1] <;> rfl, .int, h.2⟩
 case eql => exact ⟨_, _, by simp [binOp, Op.intCmp] <;> rfl, .bool, h⟩
 case neq => exact ⟨_, _, by simp [binOp, Op.intCmp] <;> rfl, .bool, h⟩
 case lss => exact ⟨_, _, by simp [binOp, Op.intCmp] <;> rfl, .bool, h⟩
 case leq => exact ⟨_, _, by simp [binOp, Op.intCmp] <;> rfl, .bool, h⟩
 case gtr => exact ⟨_, _, by simp [binOp, Op.intCmp] <;> rfl, .bool, h⟩
 case geq => exact ⟨_, _, by simp [binOp, Op.intCmp] <;> rfl, .bool, h⟩
theorem eqGuard_plain {op : BinOp} {t : Nat} {x y : Operand} {a b : Value} (w : World)
  (h : (∀ cs, a ≠ .agg cs) ∧ a ≠ .nilIface) : (eqGuard op t x y a b).run P w = .ok () w := by
 cases a <;> first | exact absurd rfl (h.1 _) | exact absurd rfl h.2 | (unfold eqGuard; split <;> simp)
theorem eqIn_bool {t : Nat} (d : Nat) (hu : P.underlying t = some .bool) (a b : Bool) (w : World) : (Op.equalIn (d + 1) t (.bool a) (.bool b)).run P w = .ok (a == b) w := by
 simp [Op.equalIn, underlying, hu]
theorem eqIn_ptr_nil {t e : Nat} (d : Nat) (hu : P.underlying t = some (.pointer e)) (a : Option Addr) (w : World) : (Op.equalIn (d + 1) t (.pointer a) (.pointer none)).run P w = .ok a.isNone w := by
 cases a <;> simp [Op.equalIn, underlying, hu]
theorem eqIn_slice_nil {t e : Nat} (d : Nat) (hu : P.underlying t = some (.slice e)) (a : Option Addr) (n c : Nat) (w : World) : (Op.equalIn (d + 1) t (.slice a n c) (.slice none 0 0)).run P w = .ok a.isNone w := by
 cases a <;> simp [Op.equalIn, underlying, hu]
theorem run_eql {t : Nat} {x y : Value} {r : Bool} (w : World) (h : (Op.equalIn (9999 + 1) t x y).run P w = .ok r w) (hx : (∀ k n, x ≠ .int k n) ∧ (∀ s, x ≠ .string s) ∧ (∀ k n, x ≠ .float k n) ∧ ∀ k a b, x ≠ .complex k a b) :
  (binOp .eql t x y).run P w = .ok (.bool r) w ∧ (binOp .neq t x y).run P w = .ok (.bool !r) w := by
 obtain ⟨h1, h2, h3, h4⟩ := hx
 have e : Op.equal t x y = Op.equalIn (9999 + 1) t x y := rfl
 have b1 : binOp .eql t x y = (do pure (.bool (← Op.equal t x y))) := by
  cases x <;> first | exact absurd rfl (h1 _ _) | exact absurd rfl (h2 _) | exact absurd rfl (h3 _ _) | exact absurd rfl (h4 _ _ _) | rfl
 have b2 : binOp .neq t x y = (do pure (.bool !(← Op.equal t x y))) := by
  cases x <;> first | exact absurd rfl (h1 _ _) | exact absurd rfl (h2 _) | exact absurd rfl (h3 _ _) | exact absurd rfl (h4 _ _ _) | rfl
 rw [b1, b2, e]
 generalize Op.equalIn (9999 + 1) t x y = q at h
 simp [h]
theorem run_part_scal {e : TypeId} (he : scal P e = true) {xs : Array Value} {off : Nat} {v : Value} (hx : xs[off]? = some v) (w : World) : (part e xs off).run P w = .ok v w := by
 unfold scal at he
 split at he
 ·rename_i h; simp [part, isAgg, underlying, h, hx]
 ·rename_i h; simp [part, isAgg, underlying, h, hx]
 ·cases he
theorem eqC_sound (D : Nat) (tok : TOk P ti) (w : World) : ∀ (fs : List Field) (i : Nat) (a b : List AV) (xs ys : Array Value) (K : Bool → Prop), flatFs P i fs = true → eqCK ti (fs.map fun f => (f.offset, f.type)) a b K →
  (∀ j c, a[j]? = some c → ∃ v, xs[i + j]? = some v ∧ VRel σ c v) → (∀ j c, b[j]? = some c → ∃ v, ys[i + j]? = some v ∧ VRel σ c v) → ∃ r, K r ∧ (Op.eqFields (D + 1) xs ys fs).run P w = .ok r w := by
 intro fs
 induction fs with
 | nil => intro i a b xs ys K _ hk _ _; exact ⟨true, by simpa [eqCK] using hk, by simp [Op.eqFields]⟩
 | cons f fs ih =>
  intro i a b xs ys K hf hk ha hb
  simp only [flatFs, Bool.and_eq_true, bne_iff_ne, ne_eq, beq_iff_eq] at hf
  obtain ⟨⟨⟨f1, f2⟩, f3⟩, f4⟩ := hf
  subst f2
  have sh : ∀ {c : AV} {l : List AV} {zs : Array Value}, (∀ j d, (c :: l)[j]? = some d → ∃ v, zs[f.offset + j]? = some v ∧ VRel σ d v) → ∀ j d, l[j]? = some d → ∃ v, zs[f.offset + 1 + j]? = some v ∧ VRel σ d v :=
   fun h j d hd => by have := h (j + 1) d (by simpa using hd); rw [show f.offset + 1 + j = f.offset + (j + 1) by omega]; exact this
  have step : ∀ {u v : Value} {q r : Bool}, xs[f.offset]? = some u → ys[f.offset]? = some v → (Op.equalIn (D + 1) f.type u v).run P w = .ok q w → (Op.eqFields (D + 1) xs ys fs).run P w = .ok r w →
    (Op.eqFields (D + 1) xs ys (f :: fs)).run P w = .ok (q && r) w := by
   intro u v q r h1 h2 h3 h4
   simp only [Op.eqFields, if_pos (show f.name ≠ "_" from f1), Sem.run_bind, run_part_scal f3 h1 w, run_part_scal f3 h2 w, Result.andThen_ok, h3]
   cases q
   ·simp
   ·simpa using h4
  simp only [List.map_cons] at hk
  cases a with
  | nil => simp [eqCK] at hk
  | cons x a =>
   cases b with
   | nil => simp [eqCK] at hk
   | cons y b =>
    obtain ⟨u, u1, u2⟩ := ha 0 _ rfl
    obtain ⟨v, v1, v2⟩ := hb 0 _ rfl
    simp only [eqCK] at hk
    split at hk
    ·rename_i k0 k m k' n hkd
     split at hk
     ·rename_i e; subst e
      obtain ⟨r, k1, k2⟩ := ih (f.offset + 1) a b xs ys _ f4 hk (sh ha) (sh hb)
      cases u2; cases v2
      obtain ⟨d, hd, hk2⟩ := kindOf_some hkd
      have := step (by simpa using u1) (by simpa using v1) (run_equalIn_int w D f.type k k0 m n ((tok _ _ hd).int hk2)) k2
      exact ⟨_, k1, this⟩
     ·exact hk.elim
    ·rename_i m n hkd
     obtain ⟨r, k1, k2⟩ := ih (f.offset + 1) a b xs ys _ f4 hk (sh ha) (sh hb)
     cases u2; cases v2
     obtain ⟨d, hd, hk2⟩ := kindOf_some hkd
     have := step (by simpa using u1) (by simpa using v1) (run_equalIn_bool' w D f.type m n ((tok _ _ hd).bool hk2)) k2
     exact ⟨_, k1, this⟩
    ·exact hk.elim
theorem eqCK_app {ti : TI} : ∀ (l1 l2 : List (Nat × Nat)) (a b : List AV) (K : Bool → Prop), eqCK ti (l1 ++ l2) a b K → eqCK ti l1 a b fun r1 => eqCK ti l2 (a.drop l1.length) (b.drop l1.length) fun r => K (r1 && r)
 | [], l2, a, b, K, h => by
  simp only [eqCK, List.length_nil, List.drop_zero, Bool.true_and]
  exact h
 | f :: l1, l2, [], b, K, h => by simp [eqCK] at h
 | f :: l1, l2, x :: a, [], K, h => by simp [eqCK] at h
 | f :: l1, l2, x :: a, y :: b, K, h => by
  simp only [List.cons_append, eqCK, List.length_cons, List.drop_succ_cons] at h ⊢
  split at h
  ·split at h
   ·rename_i e
    rw [if_pos e]
    have := eqCK_app l1 l2 a b _ h
    simpa only [Bool.and_assoc] using this
   ·exact h.elim
  ·have := eqCK_app l1 l2 a b _ h
   simpa only [Bool.and_assoc] using this
  ·exact h.elim
theorem field_sound (tok : TOk P ti) (w : World) (f : Field) (n : Nat) (hn : leafOk P f.type = some n) {a b : List AV} {xs ys : Array Value} {K : Bool → Prop} (hk : eqCK ti (leaf1 ti (f.offset, f.type)) a b K)
  (ha : ∀ j c, a[j]? = some c → ∃ v, xs[f.offset + j]? = some v ∧ VRel σ c v) (hb : ∀ j c, b[j]? = some c → ∃ v, ys[f.offset + j]? = some v ∧ VRel σ c v) :
  (leaf1 ti (f.offset, f.type)).length = n ∧ ∃ r u v, K r ∧ (part f.type xs f.offset).run P w = .ok u w ∧ (part f.type ys f.offset).run P w = .ok v w ∧ (Op.equalIn 9999 f.type u v).run P w = .ok r w := by
 have one : eqCK ti [(f.offset, f.type)] a b K → scal P f.type = true → ∃ r u v, K r ∧ (part f.type xs f.offset).run P w = .ok u w ∧ (part f.type ys f.offset).run P w = .ok v w ∧ (Op.equalIn 9999 f.type u v).run P w = .ok r w := by
  clear hk; intro hk hs
  cases a with
  | nil => simp [eqCK] at hk
  | cons x a =>
   cases b with
   | nil => simp [eqCK] at hk
   | cons y b =>
    obtain ⟨u, u1, u2⟩ := ha 0 _ rfl
    obtain ⟨v, v1, v2⟩ := hb 0 _ rfl
    simp only [eqCK] at hk
    split at hk
    ·rename_i k0 k m k' q hkd
     split at hk
     ·rename_i e; subst e
      cases u2; cases v2
      obtain ⟨d, hd, hk2⟩ := kindOf_some hkd
      exact ⟨_, _, _, hk, run_part_scal hs (by simpa using u1) w, run_part_scal hs (by simpa using v1) w, by rw [Bool.and_true]; exact run_equalIn_int w 9998 f.type k k0 m q ((tok _ _ hd).int hk2)⟩
     ·exact hk.elim
    ·rename_i m q hkd
     cases u2; cases v2
     obtain ⟨d, hd, hk2⟩ := kindOf_some hkd
     exact ⟨_, _, _, hk, run_part_scal hs (by simpa using u1) w, run_part_scal hs (by simpa using v1) w, by rw [Bool.and_true]; exact run_equalIn_bool' w 9998 f.type m q ((tok _ _ hd).bool hk2)⟩
    ·exact hk.elim
 unfold leafOk at hn
 split at hn
 ·rename_i hs
  cases hn
  have hl : leaf1 ti (f.offset, f.type) = [(f.offset, f.type)] := by
   unfold leaf1
   split
   ·rename_i l hkd
    obtain ⟨d, hd, hk2⟩ := kindOf_some hkd
    obtain ⟨fs, hu, _⟩ := (tok _ _ hd).struct hk2
    unfold scal at hs
    rw [hu] at hs
    cases hs
   ·rfl
  rw [hl] at hk ⊢
  exact ⟨rfl, one hk hs⟩
 ·rename_i hs
  unfold flat1 at hn
  split at hn
  ·rename_i fs i0 hu hi
   split at hn
   ·rename_i hc
    cases hn
    simp only [Bool.and_eq_true, Bool.not_eq_true', beq_iff_eq] at hc
    obtain ⟨⟨c1, c2⟩, c3⟩ := hc
    cases hkd : kindOf ti f.type with
    | none =>
     have hl : leaf1 ti (f.offset, f.type) = [(f.offset, f.type)] := by unfold leaf1; rw [hkd]
     rw [hl] at hk
     cases a with
     | nil => simp [eqCK] at hk
     | cons x a => cases b with
      | nil => simp [eqCK] at hk
      | cons y b => simp only [eqCK, hkd] at hk
    | some kd =>
     obtain ⟨d, hd, hk2⟩ := kindOf_some hkd
     cases kd with
     | struct l =>
      have hl : leaf1 ti (f.offset, f.type) = l := by unfold leaf1; rw [hkd]
      rw [hl] at hk ⊢
      obtain ⟨fs2, hu2, hfs⟩ := (tok _ _ hd).struct hk2
      rw [hu] at hu2
      cases hu2
      subst hfs
      refine ⟨by simp, ?_⟩
      have hpart : ∀ zs : Array Value, (part f.type zs f.offset).run P w = .ok (.agg (zs.extract f.offset (f.offset + fs.size))) w := fun zs => by
       have h1 : (isAgg f.type).run P w = .ok true w := by simp [isAgg, underlying, hu]
       have h2 : (Go.sizeOf f.type).run P w = .ok fs.size w := by simp [Go.sizeOf, typeInfo, hi, c3]
       unfold part
       simp only [Sem.run_bind, h1, Result.andThen_ok, if_true, h2, Sem.run_pure]
      have cut : ∀ {a : List AV} {zs : Array Value}, (∀ j c, a[j]? = some c → ∃ v, zs[f.offset + j]? = some v ∧ VRel σ c v) → ∀ j c, (a.take fs.size)[j]? = some c → ∃ v, (zs.extract f.offset (f.offset + fs.size))[0 + j]? = some v ∧ VRel σ c v := by
       intro a zs h j c hj
       have hjn : j < fs.size := by
        have := (List.getElem?_eq_some_iff.1 hj).1
        simp at this; omega
       obtain ⟨v, v1, v2⟩ := h j c (by rw [List.getElem?_take, if_pos hjn] at hj; exact hj)
       refine ⟨v, ?_, v2⟩
       have hlt := (Array.getElem?_eq_some_iff.1 v1).1
       rw [Nat.zero_add, Array.getElem?_extract]
       rw [if_pos (by omega)]
       exact v1
      have hk' : eqCK ti (fs.toList.map fun f => (f.offset, f.type)) (a.take fs.size) (b.take fs.size) K := by
       have hgen : ∀ (l : List (Nat × Nat)) (a b : List AV) (K : Bool → Prop) (n : Nat), n = l.length → eqCK ti l a b K → eqCK ti l (a.take n) (b.take n) K := by
        intro l
        induction l with
        | nil => intro a b K n _ h; simpa [eqCK] using h
        | cons f l ih =>
         intro a b K n hn h
         subst hn
         cases a with
         | nil => simp [eqCK] at h
         | cons x a => cases b with
          | nil => simp [eqCK] at h
          | cons y b =>
           simp only [List.length_cons, List.take_succ_cons, eqCK] at h ⊢
           split at h
           ·split at h
            ·rename_i e; rw [if_pos e]; exact ih _ _ _ _ rfl h
            ·exact h.elim
           ·exact ih _ _ _ _ rfl h
           ·exact h.elim
       exact hgen _ _ _ _ _ (by simp) hk
      obtain ⟨r, k1, k2⟩ := eqC_sound (σ := σ) 9997 tok w fs.toList 0 _ _ (xs.extract f.offset (f.offset + fs.size)) (ys.extract f.offset (f.offset + fs.size)) K c1 hk' (cut ha) (cut hb)
      refine ⟨r, _, _, k1, hpart xs, hpart ys, ?_⟩
      have hF2 : P.fieldsOf f.type = fs := by simp [Program.fieldsOf, hu]
      rw [show (9999 : Nat) = 9998 + 1 from rfl, run_equalIn_agg w 9998 f.type _ _ (by rw [hF2]; exact hu) c2, hF2]
      exact k2
     | int k => rw [(tok _ _ hd).int hk2] at hu; cases hu
     | bool => rw [(tok _ _ hd).bool hk2] at hu; cases hu
     | _ =>
      have hl : leaf1 ti (f.offset, f.type) = [(f.offset, f.type)] := by unfold leaf1; rw [hkd]
      rw [hl] at hk
      cases a with
      | nil => simp [eqCK] at hk
      | cons x a => cases b with
       | nil => simp [eqCK] at hk
       | cons y b => simp only [eqCK, hkd] at hk
   ·cases hn
  ·cases hn
theorem eqC2_sound (tok : TOk P ti) (w : World) : ∀ (fs : List Field) (i : Nat) (a b : List AV) (xs ys : Array Value) (K : Bool → Prop), flatFs2 P i fs = true → eqCK ti (leafs ti (fs.map fun f => (f.offset, f.type))) a b K →
  (∀ j c, a[j]? = some c → ∃ v, xs[i + j]? = some v ∧ VRel σ c v) → (∀ j c, b[j]? = some c → ∃ v, ys[i + j]? = some v ∧ VRel σ c v) → ∃ r, K r ∧ (Op.eqFields 9999 xs ys fs).run P w = .ok r w := by
 intro fs
 induction fs with
 | nil => intro i a b xs ys K _ hk _ _; exact ⟨true, by simpa [eqCK, leafs] using hk, by simp [Op.eqFields]⟩
 | cons f fs ih =>
  intro i a b xs ys K hf hk ha hb
  simp only [flatFs2, Bool.and_eq_true, bne_iff_ne, ne_eq, beq_iff_eq] at hf
  obtain ⟨⟨f1, f2⟩, f3⟩ := hf
  subst f2
  cases hn : leafOk P f.type with
  | none => rw [hn] at f3; cases f3
  | some n =>
   rw [hn] at f3
   simp only [List.map_cons, leafs] at hk
   obtain ⟨hl, r1, u, v, k1, p1, p2, p3⟩ := field_sound (σ := σ) tok w f n hn (eqCK_app _ _ _ _ _ hk) ha hb
   rw [hl] at k1
   have sh : ∀ {a : List AV} {zs : Array Value}, (∀ j c, a[j]? = some c → ∃ v, zs[f.offset + j]? = some v ∧ VRel σ c v) → ∀ j c, (a.drop n)[j]? = some c → ∃ v, zs[f.offset + n + j]? = some v ∧ VRel σ c v :=
    fun h j c hj => by rw [Nat.add_assoc]; exact h (n + j) c (by rwa [List.getElem?_drop] at hj)
   obtain ⟨r, k2, k3⟩ := ih (f.offset + n) _ _ xs ys _ f3 k1 (sh ha) (sh hb)
   refine ⟨_, k2, ?_⟩
   simp only [Op.eqFields, if_pos (show f.name ≠ "_" from f1), Sem.run_bind, p1, p2, Result.andThen_ok, p3]
   cases r1
   ·simp
   ·simpa using k3
theorem eqI_sound (tok : TOk P ti) (w : World) {e : Nat} (he : scal P e = true) : ∀ (n i : Nat) (a b : List AV) (xs ys : Array Value) (K : Bool → Prop), eqCK ti (List.replicate n (0, e)) a b K →
  (∀ j c, a[j]? = some c → ∃ v, xs[i + j]? = some v ∧ VRel σ c v) → (∀ j c, b[j]? = some c → ∃ v, ys[i + j]? = some v ∧ VRel σ c v) → ∃ r, K r ∧ (Op.eqItems 9999 e 1 xs ys (List.range' i n)).run P w = .ok r w := by
 intro n
 induction n with
 | zero => intro i a b xs ys K hk _ _; exact ⟨true, by simpa [eqCK] using hk, by simp [Op.eqItems]⟩
 | succ n ih =>
  intro i a b xs ys K hk ha hb
  rw [List.replicate_succ] at hk
  cases a with
  | nil => simp [eqCK] at hk
  | cons x a => cases b with
   | nil => simp [eqCK] at hk
   | cons y b =>
    obtain ⟨u, u1, u2⟩ := ha 0 _ rfl
    obtain ⟨v, v1, v2⟩ := hb 0 _ rfl
    rw [Nat.add_zero] at u1 v1
    have sh : ∀ {c : AV} {l : List AV} {zs : Array Value}, (∀ j d, (c :: l)[j]? = some d → ∃ v, zs[i + j]? = some v ∧ VRel σ d v) → ∀ j d, l[j]? = some d → ∃ v, zs[i + 1 + j]? = some v ∧ VRel σ d v :=
     fun h j d hd => by have := h (j + 1) d (by simpa using hd); rw [show i + 1 + j = i + (j + 1) by omega]; exact this
    have step : ∀ {q r : Bool}, (Op.equalIn 9999 e u v).run P w = .ok q w → (Op.eqItems 9999 e 1 xs ys (List.range' (i + 1) n)).run P w = .ok r w → (Op.eqItems 9999 e 1 xs ys (List.range' i (n + 1))).run P w = .ok (q && r) w := by
     intro q r h3 h4
     rw [List.range'_succ]
     simp only [Op.eqItems, Nat.mul_one, Sem.run_bind, run_part_scal he u1 w, run_part_scal he v1 w, Result.andThen_ok, h3]
     cases q
     ·simp
     ·simpa using h4
    simp only [eqCK] at hk
    split at hk
    ·rename_i k0 k m k' q hkd
     split at hk
     ·rename_i e1; subst e1
      obtain ⟨r, k1, k2⟩ := ih (i + 1) a b xs ys _ hk (sh ha) (sh hb)
      cases u2; cases v2
      obtain ⟨d, hd, hk2⟩ := kindOf_some hkd
      exact ⟨_, k1, step (run_equalIn_int w 9998 e k k0 m q ((tok _ _ hd).int hk2)) k2⟩
     ·exact hk.elim
    ·rename_i m q hkd
     obtain ⟨r, k1, k2⟩ := ih (i + 1) a b xs ys _ hk (sh ha) (sh hb)
     cases u2; cases v2
     obtain ⟨d, hd, hk2⟩ := kindOf_some hkd
     exact ⟨_, k1, step (run_equalIn_bool' w 9998 e m q ((tok _ _ hd).bool hk2)) k2⟩
    ·exact hk.elim
theorem eqCK_one {ti : TI} {n e : Nat} {a b : List AV} {K : Bool → Prop} (h : eqCK ti (List.replicate (n + 1) (0, e)) a b K) : ∃ d, ti e = some d ∧ ((∃ k, d.kind = .int k) ∨ d.kind = .bool) := by
 rw [List.replicate_succ] at h
 cases a with
 | nil => simp [eqCK] at h
 | cons x a => cases b with
  | nil => simp [eqCK] at h
  | cons y b =>
   simp only [eqCK] at h
   split at h
   ·rename_i hkd
    obtain ⟨d, hd, hk2⟩ := kindOf_some hkd
    exact ⟨d, hd, .inl ⟨_, hk2⟩⟩
   ·rename_i hkd
    obtain ⟨d, hd, hk2⟩ := kindOf_some hkd
    exact ⟨d, hd, .inr hk2⟩
   ·exact h.elim
theorem eqA_sound {op : BinOp} {t : Nat} {a b : List AV} {K : Bool → Prop} (tok : TOk P ti) (h : eqAK ti t a b K) (w : World) (ox oy : Operand) {u v : Value}
  (hx : VRel σ (.agg a) u) (hy : VRel σ (.agg b) v) : (eqGuard op t ox oy u v).run P w = .ok () w ∧ ∃ r, K r ∧ (binOp .eql t u v).run P w = .ok (.bool r) w ∧ (binOp .neq t u v).run P w = .ok (.bool !r) w := by
 unfold eqAK at h
 split at h
 ·rename_i d hd
  split at h
  ·rename_i l hfl hkd
   have hok := tok _ _ hd
   have hF := hok.flat hfl
   obtain ⟨fs, hu, hfs⟩ := hok.struct hkd
   unfold flatB at hF
   rw [hu] at hF
   simp only [Bool.and_eq_true, Bool.not_eq_true'] at hF
   obtain ⟨⟨g1, g2⟩, g3⟩ := hF
   cases hx with
   | @agg _ _ vs l1 o1 r1 => cases hy with
    | @agg _ _ us l2 o2 r2 =>
     subst hfs
     have rel : ∀ {c : List AV} {zs : Array Value}, c.length = zs.size → (∀ (i : Nat) (c' : AV) (v : Value), c[i]? = some c' → zs[i]? = some v → VRel σ c' v) → ∀ j d, c[j]? = some d → ∃ v, zs[0 + j]? = some v ∧ VRel σ d v :=
      fun h1 h2 j d hj => by
       have hlt := (List.getElem?_eq_some_iff.1 hj).1
       have : _ := Array.getElem?_eq_getElem (xs := _) (i := j) (h1 ▸ hlt)
       exact ⟨_, by rw [Nat.zero_add]; exact this, h2 j d _ hj this⟩
     obtain ⟨r, k1, k2⟩ := eqC2_sound (σ := σ) tok w fs.toList 0 a b vs us K g1 h (rel l1 r1) (rel l2 r2)
     have hF2 : P.fieldsOf t = fs := by simp [Program.fieldsOf, hu]
     have e : (Op.equalIn 10000 t (.agg vs) (.agg us)).run P w = .ok r w := by
      rw [show (10000 : Nat) = 9999 + 1 from rfl, run_equalIn_agg w 9999 t vs us (by rw [hF2]; exact hu) g2, hF2]
      exact k2
     refine ⟨run_eqGuard_agg w op t ox oy vs us g3, r, k1, ?_, ?_⟩
     ·rw [run_eql_struct, e]; rfl
     ·rw [run_neq_struct, e]; rfl
  ·rename_i n e hfl hkd
   have hok := tok _ _ hd
   have hF := hok.flat hfl
   have hu := hok.arr hkd
   unfold flatB at hF
   rw [hu] at hF
   simp only [Bool.and_eq_true, Bool.not_eq_true'] at hF
   obtain ⟨g1, g3⟩ := hF
   obtain ⟨de, hde, hkk⟩ := eqCK_one h
   have hoe := tok _ _ hde
   have hag : de.isAgg = false := by
    unfold TD.isAgg
    rcases hkk with ⟨k, hk⟩ | hk <;> rw [hk]
   have hone := hoe.one hag
   obtain ⟨⟨i, z, i1, i2, _⟩, _⟩ := hoe
   have hcell : P.cellsOf e = 1 := by
    simp [Program.cellsOf, i1, i2, hone]
   cases hx with
   | @agg _ _ vs l1 o1 r1 => cases hy with
    | @agg _ _ us l2 o2 r2 =>
     have rel : ∀ {c : List AV} {zs : Array Value}, c.length = zs.size → (∀ (i : Nat) (c' : AV) (v : Value), c[i]? = some c' → zs[i]? = some v → VRel σ c' v) → ∀ j d, c[j]? = some d → ∃ v, zs[0 + j]? = some v ∧ VRel σ d v :=
      fun h1 h2 j d hj => by
       have hlt := (List.getElem?_eq_some_iff.1 hj).1
       have : _ := Array.getElem?_eq_getElem (xs := _) (i := j) (h1 ▸ hlt)
       exact ⟨_, by rw [Nat.zero_add]; exact this, h2 j d _ hj this⟩
     obtain ⟨r, k1, k2⟩ := eqI_sound (σ := σ) tok w g1 (n + 1) 0 a b vs us K h (rel l1 r1) (rel l2 r2)
     have e2 : (Op.equalIn 10000 t (.agg vs) (.agg us)).run P w = .ok r w := by
      rw [show (10000 : Nat) = 9999 + 1 from rfl, run_equalIn_array w 9999 vs us hu i1, hcell, List.range_eq_range']
      exact k2
     refine ⟨run_eqGuard_agg w op t ox oy vs us g3, r, k1, ?_, ?_⟩
     ·rw [run_eql_struct, e2]; rfl
     ·rw [run_neq_struct, e2]; rfl
  ·exact h.elim
 ·exact h.elim
theorem bin_sound {op : BinOp} {t : Nat} {x y : AV} {K : AV → Prop} (tok : TOk P ti) (h : binK ti op t x y K) (w : World) (ox oy : Operand) {u v : Value}
  (hx : VRel σ x u) (hy : VRel σ y v) : PRun P σ w (do eqGuard op t ox oy u v; binOp op t u v) K := by
 by_cases hag : (∃ a b, x = .agg a ∧ y = .agg b) ∧ (op = .eql ∨ op = .neq)
 ·obtain ⟨⟨a, b, rfl, rfl⟩, ho⟩ := hag
  rcases ho with rfl | rfl
  ·obtain ⟨g, r, k1, k2, _⟩ := eqA_sound (op := .eql) tok (show eqAK ti t a b fun r => K (.bool r) from h) w ox oy hx hy
   exact ⟨_, _, by rw [Sem.run_bind, g]; exact k2, .bool, k1⟩
  ·obtain ⟨g, r, k1, _, k2⟩ := eqA_sound (op := .neq) tok (show eqAK ti t a b fun r => K (.bool !r) from h) w ox oy hx hy
   exact ⟨_, _, by rw [Sem.run_bind, g]; exact k2, .bool, k1⟩
 have key : PRun P σ w (binOp op t u v) K ∧ ((∀ cs, u ≠ .agg cs) ∧ u ≠ .nilIface) := by
  unfold binK at h
  split at h
  ·cases hx; cases hy
   exact ⟨⟨_, _, by have := h.1; simp [binOp, Op.shift, Int.not_lt.2 this] <;> rfl, .int, h.2⟩, by simp⟩
  ·cases hx; cases hy
   exact ⟨⟨_, _, by have := h.1; simp [binOp, Op.shift, Int.not_lt.2 this] <;> rfl, .int, h.2⟩, by simp⟩
  ·rename_i k a k' b hs1 hs2
   split at h
   ·rename_i e
    subst e
    cases hx; cases hy
    refine ⟨binInt_sound h w t ⟨fun e => ?_, fun e => ?_⟩, by simp⟩
    ·subst e; exact hs1 rfl
    ·subst e; exact hs2 rfl
   ·exact h.elim
  ·cases hx; cases hy
   obtain ⟨d, hd, hk⟩ := kindOf_some h.1
   have hu := (tok _ _ hd).bool hk
   exact ⟨⟨_, _, (run_eql w (eqIn_bool 9999 hu _ _ w) (by simp)).1, .bool, h.2⟩, by simp⟩
  ·cases hx; cases hy
   obtain ⟨d, hd, hk⟩ := kindOf_some h.1
   have hu := (tok _ _ hd).bool hk
   exact ⟨⟨_, _, (run_eql w (eqIn_bool 9999 hu _ _ w) (by simp)).2, .bool, h.2⟩, by simp⟩
  ·exact absurd ⟨⟨_, _, rfl, rfl⟩, .inl rfl⟩ hag
  ·exact absurd ⟨⟨_, _, rfl, rfl⟩, .inr rfl⟩ hag
  ·obtain ⟨d, hd, hk⟩ := kindOf_some h.1
   obtain ⟨e, hu⟩ := (tok _ _ hd).ptr hk
   have h2 := h.2
   cases hy
   split at h2
   ·rename_i hn
    cases hx <;> simp [notNil] at hn
    ·exact ⟨⟨_, _, (run_eql w (eqIn_ptr_nil 9999 hu _ w) (by simp)).1, .bool, h2⟩, by simp⟩
    ·exact ⟨⟨_, _, (run_eql w (eqIn_ptr_nil 9999 hu _ w) (by simp)).1, .bool, h2⟩, by simp⟩
   ·split at h2
    ·cases hx
     exact ⟨⟨_, _, (run_eql w (eqIn_ptr_nil 9999 hu _ w) (by simp)).1, .bool, h2⟩, by simp⟩
    ·exact h2.elim
  ·obtain ⟨d, hd, hk⟩ := kindOf_some h.1
   obtain ⟨e, hu⟩ := (tok _ _ hd).ptr hk
   have h2 := h.2
   cases hy
   split at h2
   ·rename_i hn
    cases hx <;> simp [notNil] at hn
    ·exact ⟨⟨_, _, (run_eql w (eqIn_ptr_nil 9999 hu _ w) (by simp)).2, .bool, h2⟩, by simp⟩
    ·exact ⟨⟨_, _, (run_eql w (eqIn_ptr_nil 9999 hu _ w) (by simp)).2, .bool, h2⟩, by simp⟩
   ·split at h2
    ·cases hx
     exact ⟨⟨_, _, (run_eql w (eqIn_ptr_nil 9999 hu _ w) (by simp)).2, .bool, h2⟩, by simp⟩
    ·exact h2.elim
  ·exact h.elim
 obtain ⟨⟨v', r, hrun, hv, hk⟩, hg⟩ := key
 exact ⟨v', r, by simp [eqGuard_plain w hg, hrun], hv, hk⟩
theorem un_sound {op : UnOp} {x : AV} {K : AV → Prop} (h : unK op x K) (w : World) {u : Value} (hx : VRel σ x u) : PRun P σ w (Op.unary op u) K := by
 unfold unK at h
 split at h
 ·cases hx; exact ⟨_, _, by simp [Op.unary] <;> rfl, .bool, h⟩
 ·cases hx; exact ⟨_, _, by simp [Op.unary, Op.intArith] <;> rfl, .int, h⟩
 ·exact h.elim
theorem min_sound (K : AV → Prop) (w : World) : ∀ (l : List AV) (x : AV) (vs : List Value) (u : Value), minK false l x K → VRel σ x u → VRels σ l vs → PRun P σ w (vs.foldlM Builtin.min2 u) K := by
 intro l
 induction l with
 | nil =>
  intro x vs u h hx hl
  obtain rfl : vs = [] := List.eq_nil_of_length_eq_zero hl.1.symm
  exact ⟨u, x, by simp, hx, h⟩
 | cons y r ih =>
  intro x vs u h hx hl
  match vs, hl with
  | [], hl => cases hl.1
  | v :: vs, hl =>
   have h0 := hl.2 0 _ v rfl rfl
   simp only [minK] at h
   split at h
   ·split at h
    ·rename_i e
     subst e
     cases h0
     cases hx
     obtain ⟨v, r, h1, h2⟩ := ih _ vs _ h .int ⟨by have := hl.1; simpa using this, fun i a v x y => hl.2 (i + 1) a v (by simpa using x) (by simpa using y)⟩
     exact ⟨v, r, by simpa [List.foldlM_cons, Builtin.min2] using h1, h2⟩
    ·exact h.elim
   ·exact h.elim
theorem max_sound (K : AV → Prop) (w : World) : ∀ (l : List AV) (x : AV) (vs : List Value) (u : Value), minK true l x K → VRel σ x u → VRels σ l vs → PRun P σ w (vs.foldlM Builtin.max2 u) K := by
 intro l
 induction l with
 | nil =>
  intro x vs u h hx hl
  obtain rfl : vs = [] := List.eq_nil_of_length_eq_zero hl.1.symm
  exact ⟨u, x, by simp, hx, h⟩
 | cons y r ih =>
  intro x vs u h hx hl
  match vs, hl with
  | [], hl => cases hl.1
  | v :: vs, hl =>
   have h0 := hl.2 0 _ v rfl rfl
   simp only [minK] at h
   split at h
   ·split at h
    ·rename_i e
     subst e
     cases h0
     cases hx
     obtain ⟨v, r, h1, h2⟩ := ih _ vs _ h .int ⟨by have := hl.1; simpa using this, fun i a v x y => hl.2 (i + 1) a v (by simpa using x) (by simpa using y)⟩
     exact ⟨v, r, by simpa [List.foldlM_cons, Builtin.max2] using h1, h2⟩
    ·exact h.elim
   ·exact h.elim
end
end Go.Ab

namespace Go.Ab
section
variable {P : Program} {ti : TI} {σ : Sg}
theorem run_slice3 {t e : Nat} {size : Nat} (hu : P.underlying t = some (.slice e)) (hs : ∀ w, (sizeOf e).run P w = .ok size w) (a : Option Addr) (len cap : Nat) (w : World)
  (lo hi mx : Option Value) (l h m : Nat)
  (hm : (mx = none ∧ m = cap) ∨ (∃ k : IntKind, mx = some (.int k (m : Int)) ∧ m ≤ cap ∧ hi ≠ none))
  (hh : (hi = none ∧ h = len) ∨ (∃ k : IntKind, hi = some (.int k (h : Int)) ∧ h ≤ m))
  (hl : (lo = none ∧ l = 0) ∨ (∃ k : IntKind, lo = some (.int k (l : Int)) ∧ l ≤ h)) :
  (Instr.sliceAt t (.slice a len cap) lo hi mx).run P w = .ok (.slice (if m = l then a else a.map (·.add (l * size))) (h - l) (m - l)) w := by
 rcases hm with ⟨rfl, rfl⟩ | ⟨k, rfl, hm, hne⟩ <;> rcases hh with ⟨rfl, rfl⟩ | ⟨k', rfl, hh⟩ <;> rcases hl with ⟨rfl, rfl⟩ | ⟨k'', rfl, hl⟩ <;>
  first
   | exact absurd rfl hne
   | simp [Instr.sliceAt, run_und hu, Instr.slice, Instr.sliceBounds, Instr.sliceBound, asIntOf, *]
theorem slice_rel_o {id : Id} {ep sz off len cap : Nat} {a : Option Addr} (h : VRel σ (.oslc id ep sz off len false) (.slice a len cap)) (l n : Nat) (hl : l + n ≤ len) :
  VRel σ (.oslc id ep sz (off + l) n false) (.slice (if cap = l then a else a.map (·.add (l * sz))) n (cap - l)) := by
 cases h with
 | @oslc _ _ _ _ _ _ _ blk st m size _ h h1 h2 h3 h4 h5 =>
  have h2 := h2 rfl
  split
  ·rename_i e
   subst e
   have : n = 0 := by omega
   subst this
   simp only [Nat.sub_self]
   exact .oz h (by omega) (fun _ => by omega)
  ·have e : Addr.add ⟨blk, st + off * sz, none⟩ (l * sz) = ⟨blk, st + (off + l) * sz, none⟩ := by
    unfold Addr.add
    split
    ·rename_i e; rw [Nat.add_mul, e]; rfl
    ·simp [Nat.add_mul, Nat.add_assoc]
   simp only [Option.map_some, e]
   exact .oslc h (by omega) (fun _ => by omega) (fun x => by cases x) (by rw [show off + l + (cap - l) = off + cap from by omega]; exact h4) (by omega)
 | onil h =>
  obtain rfl : l = 0 := by omega
  obtain rfl : n = 0 := by omega
  simp only [if_true, Nat.add_zero]
  exact .onil h
 | onilz h =>
  obtain rfl : l = 0 := by omega
  obtain rfl : n = 0 := by omega
  simp only [if_true, Nat.add_zero]
  exact .onilz h
 | oz h h1 h2 =>
  obtain rfl : l = 0 := by omega
  obtain rfl : n = 0 := by omega
  simp only [if_true, Nat.add_zero]
  exact .oz h h1 h2
theorem slice_rel_lim {id : Id} {ep sz off len cap : Nat} {a : Option Addr} (h : VRel σ (.oslc id ep sz off len false) (.slice a len cap)) (n : Nat) (hl : n ≤ len) :
  VRel σ (.oslc id ep sz (off + 0) n true) (.slice (if n = 0 then a else a.map (·.add (0 * sz))) n n) := by
 have e0 : ∀ b : Addr, b.add (0 * sz) = b := fun b => by simp [Addr.add]
 cases h with
 | @oslc _ _ _ _ _ _ _ blk st m size _ h h1 h2 h3 h4 h5 =>
  have h2 := h2 rfl
  have hm : st + (off + n) * sz ≤ size := by
   have : (off + n) * sz ≤ (off + cap) * sz := Nat.mul_le_mul_right _ (by omega)
   omega
  split
  ·rename_i e; subst e
   exact .oslc h (by omega) (fun x => by cases x) (fun _ => rfl) hm (Nat.le_refl _)
  ·simp only [Option.map_some, e0]
   exact .oslc h (by omega) (fun x => by cases x) (fun _ => rfl) hm (Nat.le_refl _)
 | onil h =>
  obtain rfl : n = 0 := by omega
  simp only [if_true, Nat.add_zero]
  exact .onil h
 | onilz h =>
  obtain rfl : n = 0 := by omega
  simp only [if_true, Nat.add_zero]
  exact .onilz h
 | oz h h1 h2 =>
  obtain rfl : n = 0 := by omega
  simp only [if_true, Nat.add_zero]
  exact .oz h h1 (fun x => by cases x)
theorem slice_rel_l {sz off len cap : Nat} {rows : List (List AV)} {a : Option Addr} (h : VRel σ (.lslc sz rows off len false) (.slice a len cap)) (l n : Nat) (hl : l + n ≤ len) :
  VRel σ (.lslc sz rows (off + l) n false) (.slice (if cap = l then a else a.map (·.add (l * sz))) n (cap - l)) := by
 cases h with
 | @lslc _ _ _ _ _ _ blk st _ g hw hc ho hv h1 h3 h5 =>
  split
  ·rename_i e
   subst e
   have : n = 0 := by omega
   subst this
   simp only [Nat.sub_self]
   exact .lz
  ·have e : Addr.add ⟨blk, st + off * sz, none⟩ (l * sz) = ⟨blk, st + (off + l) * sz, none⟩ := by
    unfold Addr.add
    split
    ·rename_i e; rw [Nat.add_mul, e]; rfl
    ·simp [Nat.add_mul, Nat.add_assoc]
   simp only [Option.map_some, e]
   exact .lslc g hw hc ho hv (by omega) (fun x => by cases x) (by omega)
 | lnil =>
  obtain rfl : l = 0 := by omega
  obtain rfl : n = 0 := by omega
  simp only [if_true]
  exact .lnil
 | lz =>
  obtain rfl : l = 0 := by omega
  obtain rfl : n = 0 := by omega
  simp only [if_true]
  exact .lz
theorem slice_rel_llim {sz off len cap : Nat} {rows : List (List AV)} {a : Option Addr} (h : VRel σ (.lslc sz rows off len false) (.slice a len cap)) (n : Nat) (hl : n ≤ len) :
  VRel σ (.lslc sz rows (off + 0) n true) (.slice (if n = 0 then a else a.map (·.add (0 * sz))) n n) := by
 have e0 : ∀ b : Addr, b.add (0 * sz) = b := fun b => by simp [Addr.add]
 cases h with
 | @lslc _ _ _ _ _ _ blk st _ g hw hc ho hv h1 h3 h5 =>
  split
  ·rename_i e; subst e
   exact .lslc g hw hc ho hv (by omega) (fun _ => rfl) (Nat.le_refl _)
  ·simp only [Option.map_some, e0]
   exact .lslc g hw hc ho hv (by omega) (fun _ => rfl) (Nat.le_refl _)
 | lnil =>
  obtain rfl : n = 0 := by omega
  simp only [if_true]
  exact .lnil
 | lz =>
  obtain rfl : n = 0 := by omega
  simp only [if_true]
  exact .lz
theorem toNat_int {v : Value} {k : IntKind} {n : Int} (h : VRel σ (.int k n) v) : v = .int k n := by cases h; rfl
theorem sliceK_sound {t e : Nat} {sz : Nat} (hu : P.underlying t = some (.slice e)) (hs : ∀ w, (sizeOf e).run P w = .ok sz w) {x : AV} {u : Value} (hx : VRel σ x u)
  (hsz : (∃ id ep off len lim, x = .oslc id ep sz off len lim) ∨ (∃ rows off len lim, x = .lslc sz rows off len lim) ∨ x = .nils)
  {lo hi mx : Option AV} {lo' hi' mx' : Option Value} (hl : ∀ a, lo = some a → ∃ v, lo' = some v ∧ VRel σ a v) (hl0 : lo = none → lo' = none)
  (hh : ∀ a, hi = some a → ∃ v, hi' = some v ∧ VRel σ a v) (hh0 : hi = none → hi' = none) (hm : ∀ a, mx = some a → ∃ v, mx' = some v ∧ VRel σ a v) (hm0 : mx = none → mx' = none)
  {K : AV → Prop} (hsl : sliceK x lo hi mx K) (w : World) : PRun P σ w (Instr.sliceAt t u lo' hi' mx') K := by
 have main : ∀ (len : Nat) (f : Nat → Nat → Bool → AV) (a : Option Addr) (cap : Nat), u = .slice a len cap → len ≤ cap →
   (∀ l n, l + n ≤ len → VRel σ (f l n false) (.slice (if cap = l then a else a.map (·.add (l * sz))) n (cap - l))) →
   (∀ n, n ≤ len → VRel σ (f 0 n true) (.slice (if n = 0 then a else a.map (·.add (0 * sz))) n n)) →
   sliceGo lo hi mx K len f → PRun P σ w (Instr.sliceAt t u lo' hi' mx') K := by
  intro len f a cap hu' hcap hf1 hf2 hk
  subst hu'
  unfold sliceGo at hk
  split at hk
  ·rw [hl0 rfl, hh0 rfl, hm0 rfl]
   exact ⟨_, _, run_slice3 hu hs a len cap w _ _ _ 0 len cap (.inl ⟨rfl, rfl⟩) (.inl ⟨rfl, rfl⟩) (.inl ⟨rfl, rfl⟩), hf1 0 len (by omega), hk⟩
  ·rename_i l
   obtain ⟨v, hv1, hv2⟩ := hl _ rfl
   cases hv2
   obtain ⟨⟨b1, b2⟩, hk⟩ := hk
   obtain ⟨l, rfl⟩ := Int.eq_ofNat_of_zero_le b1
   rw [hv1, hh0 rfl, hm0 rfl]
   exact ⟨_, _, run_slice3 hu hs a len cap w _ _ _ l len cap (.inl ⟨rfl, rfl⟩) (.inl ⟨rfl, rfl⟩) (.inr ⟨_, rfl, by omega⟩), hf1 l (len - l) (by omega), hk⟩
  ·rename_i h
   obtain ⟨v, hv1, hv2⟩ := hh _ rfl
   cases hv2
   obtain ⟨⟨b1, b2⟩, hk⟩ := hk
   obtain ⟨h, rfl⟩ := Int.eq_ofNat_of_zero_le b1
   rw [hl0 rfl, hv1, hm0 rfl]
   exact ⟨_, _, run_slice3 hu hs a len cap w _ _ _ 0 h cap (.inl ⟨rfl, rfl⟩) (.inr ⟨_, rfl, by omega⟩) (.inl ⟨rfl, rfl⟩), hf1 0 h (by omega), hk⟩
  ·rename_i l k2 h
   obtain ⟨v, hv1, hv2⟩ := hl _ rfl
   obtain ⟨v', hv3, hv4⟩ := hh _ rfl
   cases hv2; cases hv4
   obtain ⟨⟨b1, b2, b3⟩, hk⟩ := hk
   obtain ⟨l, rfl⟩ := Int.eq_ofNat_of_zero_le b1
   obtain ⟨h, rfl⟩ := Int.eq_ofNat_of_zero_le (Int.le_trans b1 b2)
   rw [hv1, hv3, hm0 rfl]
   exact ⟨_, _, run_slice3 hu hs a len cap w _ _ _ l h cap (.inl ⟨rfl, rfl⟩) (.inr ⟨_, rfl, by omega⟩) (.inr ⟨_, rfl, by omega⟩), hf1 l (h - l) (by omega), hk⟩
  ·rename_i h k2 m
   obtain ⟨v, hv1, hv2⟩ := hh _ rfl
   obtain ⟨v', hv3, hv4⟩ := hm _ rfl
   cases hv2; cases hv4
   obtain ⟨⟨b1, b2, b3⟩, hk⟩ := hk
   subst b3
   obtain ⟨h, rfl⟩ := Int.eq_ofNat_of_zero_le b1
   rw [hl0 rfl, hv1, hv3]
   exact ⟨_, _, run_slice3 hu hs a len cap w _ _ _ 0 h h (.inr ⟨_, rfl, by omega, by simp⟩) (.inr ⟨_, rfl, by omega⟩) (.inl ⟨rfl, rfl⟩), hf2 h (by omega), hk⟩
  ·rename_i l k1 h k2 m
   obtain ⟨v0, hv0, hv00⟩ := hl _ rfl
   obtain ⟨v, hv1, hv2⟩ := hh _ rfl
   obtain ⟨v', hv3, hv4⟩ := hm _ rfl
   cases hv00; cases hv2; cases hv4
   obtain ⟨⟨b0, b1, b2, b3⟩, hk⟩ := hk
   subst b3
   subst b0
   obtain ⟨h, rfl⟩ := Int.eq_ofNat_of_zero_le b1
   rw [hv0, hv1, hv3]
   exact ⟨_, _, run_slice3 hu hs a len cap w _ _ _ 0 h h (.inr ⟨_, rfl, by omega, by simp⟩) (.inr ⟨_, rfl, by omega⟩) (.inr ⟨_, rfl, by omega⟩), hf2 h (by omega), hk⟩
  ·exact hk.elim
 unfold sliceK at hsl
 split at hsl
 ·rename_i id ep sz' off len
  obtain rfl : sz' = sz := by
   rcases hsz with ⟨_, _, _, _, _, e⟩ | ⟨_, _, _, _, e⟩ | e <;> cases e; rfl
  obtain ⟨a, cap, rfl, hc⟩ : ∃ a cap, u = .slice a len cap ∧ len ≤ cap := by
   cases hx with
   | oslc _ _ _ _ _ h5 => exact ⟨_, _, rfl, h5⟩
   | onil => exact ⟨_, _, rfl, Nat.le_refl _⟩
   | onilz => exact ⟨_, _, rfl, Nat.le_refl _⟩
   | oz => exact ⟨_, _, rfl, Nat.le_refl _⟩
  exact main len (fun l n lim => .oslc id ep sz' (off + l) n lim) a cap rfl hc (fun l n hl => slice_rel_o hx l n hl) (fun n hn => slice_rel_lim hx n hn) hsl
 ·rename_i sz' rows off len
  obtain rfl : sz' = sz := by
   rcases hsz with ⟨_, _, _, _, _, e⟩ | ⟨_, _, _, _, e⟩ | e <;> cases e; rfl
  obtain ⟨a, cap, rfl, hc⟩ : ∃ a cap, u = .slice a len cap ∧ len ≤ cap := by
   cases hx with
   | lslc _ _ _ _ _ _ _ h5 => exact ⟨_, _, rfl, h5⟩
   | lnil => exact ⟨_, _, rfl, Nat.le_refl _⟩
   | lz => exact ⟨_, _, rfl, Nat.le_refl _⟩
  exact main len (fun l n lim => .lslc sz' rows (off + l) n lim) a cap rfl hc (fun l n hl => slice_rel_l hx l n hl) (fun n hn => slice_rel_llim hx n hn) hsl
 ·cases hx
  refine main 0 (fun _ _ _ => .nils) none 0 rfl (Nat.le_refl _) (fun l n hl => ?_) (fun n hn => ?_) hsl
  ·obtain rfl : l = 0 := by omega
   obtain rfl : n = 0 := by omega
   exact .nils
  ·obtain rfl : n = 0 := by omega
   exact .nils
 ·exact hsl.elim
theorem fill_sound : ∀ (parts : List (Nat × AV)) (vs : List (Nat × Value)) (place : Nat → Option (Nat × Nat)) (cells : List AV) (cs : Array Value) (K : List AV → Prop),
  fillK place cells parts K → CRels σ cells cs.toList → parts.length = vs.length → (∀ (i : Nat) (p : Nat × AV) (q : Nat × Value), parts[i]? = some p → vs[i]? = some q → p.1 = q.1 ∧ VRel σ p.2 q.2) →
  ∃ cs', Instr.fill place cs vs = some cs' ∧ ∃ cells', CRels σ cells' cs'.toList ∧ K cells' := by
 intro parts
 induction parts with
 | nil =>
  intro vs place cells cs K h hc hl hp
  obtain rfl : vs = [] := List.eq_nil_of_length_eq_zero hl.symm
  exact ⟨cs, rfl, cells, hc, h⟩
 | cons p r ih =>
  intro vs place cells cs K h hc hl hp
  match vs, hl with
  | [], hl => cases hl
  | q :: vs, hl =>
   obtain ⟨i, a⟩ := p
   obtain ⟨j, v⟩ := q
   obtain ⟨e, hv⟩ := hp 0 _ _ rfl rfl
   simp only at e
   subst e
   simp only [fillK] at h
   split at h
   ·rename_i off size ds h1 h2
    split at h
    ·rename_i hsz
     obtain ⟨hsz, hle⟩ := hsz
     have hds := hv.cells h2
     have hn : v.cells.size = size := by have := hds.1.1; simp at this; omega
     have hcs : cells.length = cs.size := by have := hc.1.1; simpa using this
     have hfold : (v.cells.zipIdx.foldl (fun cs (x : Value × Nat) => cs.setIfInBounds (off + x.2) x.1) cs).toList = cs.toList.take off ++ v.cells.toList ++ cs.toList.drop (off + size) := by
      have gen : ∀ (l : List Value) (k : Nat) (cs : Array Value), off + k + l.length ≤ cs.size →
        ((l.zipIdx k).foldl (fun cs (x : Value × Nat) => cs.setIfInBounds (off + x.2) x.1) cs).toList = cs.toList.take (off + k) ++ l ++ cs.toList.drop (off + k + l.length) := by
       intro l
       induction l with
       | nil => intro k cs _; simp
       | cons y l ihl =>
        intro k cs hk
        simp only [List.length_cons] at hk
        simp only [List.zipIdx_cons, List.foldl_cons]
        rw [ihl (k + 1) _ (by simp; omega)]
        simp only [Array.toList_setIfInBounds]
        apply List.ext_getElem?
        intro m
        simp only [List.append_assoc, List.getElem?_append, List.length_take, List.length_set, Array.length_toList, List.getElem?_take, List.getElem?_set, List.getElem?_drop, List.length_cons]
        have hmin : min (off + (k + 1)) cs.size = off + (k + 1) := by omega
        have hmin2 : min (off + k) cs.size = off + k := by omega
        rw [hmin, hmin2]
        by_cases h1 : m < off + k
        ·simp [show m < off + (k + 1) from by omega, h1, show ¬ (off + k = m) from by omega]
        ·by_cases h2 : m = off + k
         ·subst h2
          simp [show off + k < off + (k + 1) from by omega, show off + k < cs.size from by omega]
         ·have h3 : ¬ m < off + (k + 1) := by omega
          simp only [h3, h1, if_false]
          rw [show m - (off + k) = (m - (off + (k + 1))) + 1 from by omega]
          simp only [List.cons_append, List.getElem?_cons_succ, List.getElem?_append]
          split
          ·rw [if_pos (by omega)]
          ·rw [if_neg (by omega), if_neg (by omega)]
           congr 1
           omega
      have := gen v.cells.toList 0 cs (by simp; omega)
      simp only [Nat.add_zero, Array.length_toList, hn] at this
      rw [← this, ← Array.toList_zipIdx, ← Array.foldl_toList]
     have hnew : CRels σ (cells.take off ++ ds ++ cells.drop (off + size)) (v.cells.zipIdx.foldl (fun cs (x : Value × Nat) => cs.setIfInBounds (off + x.2) x.1) cs).toList := by
      rw [hfold]
      refine ⟨VRels.append (VRels.append ⟨by simp [hcs], fun i a v x y => ?_⟩ hds.1) ⟨by simp [hcs], fun i a v x y => ?_⟩, fun v hv => ?_⟩
      ·simp only [List.getElem?_take] at x y
       split at x
       ·simp only [*, if_true] at y; exact hc.1.2 i a v x y
       ·cases x
      ·simp only [List.getElem?_drop] at x y; exact hc.1.2 _ a v x y
      ·rw [List.mem_append, List.mem_append] at hv
       rcases hv with (hv | hv) | hv
       ·exact hc.2 v (List.mem_of_mem_take hv)
       ·exact hds.2 v hv
       ·exact hc.2 v (List.mem_of_mem_drop hv)
     obtain ⟨cs', h3, h4⟩ := ih vs place _ _ K h hnew (by simpa using hl) (fun i p q x y => hp (i + 1) p q (by simpa using x) (by simpa using y))
     refine ⟨cs', ?_, h4⟩
     simp only [Instr.fill, h1]
     rw [if_neg (by simp; omega)]
     exact h3
    ·exact h.elim
   ·exact h.elim
theorem part_cells {x : AV} {u : Value} {cs : List AV} (hx : VRel σ x u) (e : x = .agg cs) : ∃ vs : Array Value, u = .agg vs ∧ CRels σ cs vs.toList := by
 subst e
 cases hx with
 | agg l o v => exact ⟨_, rfl, ⟨by simpa using l, fun i a w x y => v i a w x (by simpa using y)⟩, o⟩
end
end Go.Ab

namespace Go.Ab
section
variable {P : Program} {ti : TI} {σ : Sg}
theorem mapM_structPlace (tok : TOk P ti) (l : List (Nat × Nat)) (fs : Array Field) (hl : fs.toList.map (fun f => (f.offset, f.type)) = l) (hall : ∀ f ∈ fs, ∃ d, ti f.type = some d) (w : World) :
  ∃ places : Array (Nat × Nat), (fs.mapM fun f => (do pure (f.offset, ← sizeOf f.type) : Sem (Nat × Nat))).run P w = .ok places w ∧ ∀ i, places[i]? = structPlace ti l i := by
 have gen : ∀ (gs : List Field), (∀ f ∈ gs, ∃ d, ti f.type = some d) → (gs.mapM fun f => (do pure (f.offset, ← sizeOf f.type) : Sem (Nat × Nat))).run P w =
   .ok (gs.map fun f => (f.offset, (((ti f.type).map (·.size)).getD 0))) w := by
  intro gs
  induction gs with
  | nil => intro _; simp
  | cons f gs ih =>
   intro hg
   obtain ⟨d, hd⟩ := hg f (by simp)
   have h1 := (tok _ _ hd).run_sizeOf w
   have h2 := ih (fun f hf => hg f (by simp [hf]))
   simp only [List.mapM_cons, Sem.run_bind, h1, Result.andThen_ok, Sem.run_pure, List.map_cons, hd, Option.map_some, Option.getD_some]
   simp only [Sem.run_bind, bind_pure_comp] at h2 ⊢
   rw [h2]
   simp
 refine ⟨(fs.toList.map fun f => (f.offset, (((ti f.type).map (·.size)).getD 0))).toArray, ?_, fun i => ?_⟩
 ·rw [Array.mapM_eq_mapM_toList]
  have := gen fs.toList (fun f hf => hall f (by simpa using hf))
  rw [Sem.run_map, this]
  rfl
 ·subst hl
  simp only [structPlace, List.getElem?_toArray, List.getElem?_map, Array.getElem?_toList]
  cases h : fs[i]? with
  | none => rfl
  | some f =>
   obtain ⟨d, hd⟩ := hall f (Array.mem_of_getElem? h)
   simp [hd]
theorem ofVal_one {v : Value} {a : AV} (h : ofVal v = some a) : v.oneCell' = true := by
 unfold ofVal at h
 split at h <;> first | rfl | cases h
theorem zero_rel {t : Nat} {d : TD} (h : DOk P t d) (w : World) : ∃ z, (zeroValue t).run P w = .ok z w ∧ z.cells.size = d.size ∧ CRels σ d.zero z.cells.toList := by
 obtain ⟨z, h1, h2, h3, h4, _⟩ := h.run_zero w
 refine ⟨z, h1, h2, ⟨by simp; omega, fun i a v x y => ?_⟩, fun v hv => ?_⟩
 obtain ⟨v', h5, h6⟩ := h4 i a x
 simp at y
 rw [h5] at y
 cases y
 exact VRel.ofVal h6
 obtain ⟨i, hi, rfl⟩ := List.getElem_of_mem hv
 have hi' : i < d.zero.length := by simp at hi; omega
 obtain ⟨v', h5, h6⟩ := h4 i _ (List.getElem?_eq_getElem hi')
 simp at hi
 rw [Array.getElem?_eq_getElem hi] at h5
 cases h5
 simp only [Array.getElem_toList]
 exact ofVal_one h6
theorem fieldPlace_run (tok : TOk P ti) {ft : Nat} {d : TD} (hd : ti ft = some d) (hne : d.size ≠ 0) (f : Field) (hf : f.type = ft) (a : Addr) (w : World) :
  (fieldPlace a f).run P w = .ok (a.add f.offset) w := by
 subst hf
 simp [fieldPlace, (tok _ _ hd).run_sizeOf, hne]
abbrev OpRel (σ : Sg) (ev : Operand → AV) (ρ : Operand → Value) : Prop := ∀ x, VRel σ (ev x) (ρ x)
theorem vrels_map {ev : Operand → AV} {ρ : Operand → Value} (hr : OpRel σ ev ρ) (l : List Operand) : VRels σ (l.map ev) (l.map ρ) := by
 refine ⟨by simp, fun i a v x y => ?_⟩
 simp only [List.getElem?_map, Option.map_eq_some_iff] at x y
 obtain ⟨o, h1, rfl⟩ := x
 obtain ⟨o', h2, rfl⟩ := y
 rw [h1] at h2
 cases h2
 exact hr o
theorem run_v {s : Sem Value} {w : World} {K : AV → Prop} (h : PRun P σ w s K) : ∃ v r, (do pure (Next.value (← s)) : Sem Next).run P w = .ok (.value v) w ∧ VRel σ r v ∧ K r := by
 obtain ⟨v, r, h1, h2, h3⟩ := h
 exact ⟨v, r, by simp [h1], h2, h3⟩
theorem indexAt_slice {t e : Nat} {d : TD} (tok : TOk P ti) (hu : P.underlying t = some (.slice e)) (hd : ti e = some d) {x : AV} {u : Value} {k : IntKind} {n : Int} (hx : VRel σ x u)
  {K : AV → Prop} (h : idxK d.size n K x) (w : World) : PRun P σ w (Instr.indexAt t u (.int k n)) K := by
 unfold idxK at h
 have ha : ∀ (b st off i sz : Nat), Addr.add ⟨b, st + off * sz, none⟩ (i * sz) = ⟨b, st + (off + i) * sz + 0, none⟩ := fun b st off i sz => by
  unfold Addr.add
  split
  ·rename_i e; rw [Nat.add_mul, e]; rfl
  ·simp [Nat.add_mul, Nat.add_assoc]
 have hrun : ∀ (a : Addr) (len cap : Nat), 0 ≤ n → n < len → (Instr.indexAt t (.slice (some a) len cap) (.int k n)).run P w = .ok (.pointer (some (a.add (n.toNat * d.size)))) w := fun a len cap h1 h2 => by
  simp [Instr.indexAt, asIntOf, run_und hu, h1, h2, (tok _ _ hd).run_sizeOf]
 split at h
 ·rename_i id ep sz off len lim
  split at h
  ·rename_i e
   subst e
   obtain ⟨⟨h1, h2⟩, h⟩ := h
   cases hx with
   | oslc hh b1 b2 b3 b4 b5 =>
    refine ⟨_, _, hrun _ _ _ h1 h2, ?_, h⟩
    rw [ha]
    exact .optr hh
   | onil => omega
   | onilz => omega
   | oz => omega
  ·exact h.elim
 ·rename_i sz rows off len lim
  split at h
  ·rename_i e
   subst e
   obtain ⟨⟨h1, h2⟩, h⟩ := h
   cases hx with
   | lslc g hw hc ho hv b1 b3 b5 =>
    refine ⟨_, _, hrun _ _ _ h1 h2, ?_, h⟩
    rw [ha]
    exact .lptr g hw hc ho hv
   | lnil => omega
   | lz => omega
  ·exact h.elim
 ·exact h.elim
theorem pure_sound (tok : TOk P ti) {ev : Operand → AV} {ρ : Operand → Value} (hr : OpRel σ ev ρ) (o : Oper) {K : AV → Prop} (h : pureK ti ev o.op K) (w : World) :
  ∃ v r, (execOp ρ o).run P w = .ok (.value v) w ∧ VRel σ r v ∧ K r := by
 obtain ⟨dst, op, type, pos, after, guard⟩ := o
 simp only at h
 unfold pureK at h
 split at h
 ·exact ⟨_, _, by simp [execOp], hr _, h⟩
 ·exact ⟨_, _, by simp [execOp], hr _, h⟩
 ·
  rename_i c a b
  have hc := hr c
  split at h
  ·rename_i t e
   rw [e] at hc
   generalize hc' : ρ c = vc at hc
   cases hc
   split at h
   ·exact ⟨_, _, by simp [execOp, hc', asBool], hr a, h⟩
   ·exact ⟨_, _, by simp [execOp, hc', asBool], hr b, h⟩
  ·exact h.elim
 ·
  rename_i x
  have hx := hr x
  split at h
  ·rename_i hp
   generalize hv : ρ x = u at hx
   generalize hev : ev x = a at *
   cases hx with
   | optr hh => refine ⟨_, _, ?_, VRel.optr hh, h⟩; simp [execOp, hv]
   | lptr g hw hc ho hv' => refine ⟨_, _, ?_, VRel.lptr g hw hc ho hv', h⟩; simp [execOp, hv]
   | _ => simp [isPtr] at hp
  ·split at h
   ·rename_i f a b e
    rw [e] at hx
    generalize hv : ρ x = u at hx
    cases hx with
    | fn l1 l2 v1 v2 => refine ⟨_, _, ?_, VRel.fn l1 l2 v1 v2, h⟩; simp [execOp, hv]
   ·exact h.elim
 ·
  exact run_v (bin_sound tok h w _ _ (hr _) (hr _))
 ·exact run_v (un_sound h w (hr _))
 ·
  rename_i s d x
  have hx := hr x
  split at h
  ·rename_i k1 k q n e1 e2 e3
   obtain ⟨d1, hd1, hk1⟩ := kindOf_some e1
   obtain ⟨d2, hd2, hk2⟩ := kindOf_some e2
   rw [e3] at hx
   generalize hv : ρ x = u at hx
   cases hx
   exact run_v ⟨_, _, by simp [hv, convert, run_und ((tok _ _ hd1).int hk1), run_und ((tok _ _ hd2).int hk2), Conv.intToInt], .int, h⟩
  ·exact h.elim
 ·
  rename_i t x f
  split at h
  ·rename_i fs e
   obtain ⟨d, hd, hk⟩ := kindOf_some e
   obtain ⟨fls, hu, hf⟩ := (tok _ _ hd).struct hk
   split at h
   ·rename_i off ft e2
    split at h
    ·rename_i de hde
     split at h
     ·exact h.elim
     ·rename_i hne
      obtain ⟨a, ha, r, h1, h2⟩ := aOff_sound h (hr x)
      have hff : ∃ fl, fls[f]? = some fl ∧ fl.offset = off ∧ fl.type = ft := by
       rw [← hf] at e2
       simp only [List.getElem?_map, Option.map_eq_some_iff, Array.getElem?_toList, Prod.mk.injEq] at e2
       exact e2
      obtain ⟨fl, hfl, rfl, rfl⟩ := hff
      exact run_v ⟨_, _, by simp [Instr.fieldAt, run_und hu, hfl, ha, Instr.sureAddr, fieldPlace_run tok hde hne fl rfl], h1, h2⟩
    ·exact h.elim
   ·exact h.elim
  ·exact h.elim
 ·
  rename_i t x f
  split at h
  ·rename_i fs cs e e0
   obtain ⟨d, hd, hk⟩ := kindOf_some e
   obtain ⟨fls, hu, hf⟩ := (tok _ _ hd).struct hk
   obtain ⟨vs, hvs, hrel⟩ := part_cells (hr x) e0
   split at h
   ·rename_i off ft e2
    have hff : ∃ fl, fls[f]? = some fl ∧ fl.offset = off ∧ fl.type = ft := by
     rw [← hf] at e2
     simp only [List.getElem?_map, Option.map_eq_some_iff, Array.getElem?_toList, Prod.mk.injEq] at e2
     exact e2
    obtain ⟨fl, hfl, rfl, rfl⟩ := hff
    split at h
    ·rename_i de hde
     split at h
     ·rename_i v hv
      obtain ⟨v', h1, h2⟩ := run_part (tok _ _ hde) hrel hv w
      exact run_v ⟨v', v, by simp [Instr.field, run_und hu, hfl, hvs, asAgg, h1], h2, h⟩
     ·exact h.elim
    ·exact h.elim
   ·exact h.elim
  ·exact h.elim
 ·
  rename_i t x i
  have hi := hr i
  split at h
  ·rename_i e k n e1 e2
   obtain ⟨d, hd, hk⟩ := kindOf_some e1
   have hu := (tok _ _ hd).slice hk
   rw [e2] at hi
   generalize hvi : ρ i = vi at hi
   cases hi
   split at h
   ·rename_i de hde
    have := indexAt_slice (k := k) tok hu hde (hr x) h w
    refine run_v ?_
    rw [hvi]
    exact this
   ·exact h.elim
  ·rename_i m e k n e1 e2
   obtain ⟨d, hd, hk⟩ := kindOf_some e1
   have hu := (tok _ _ hd).arr hk
   rw [e2] at hi
   generalize hvi : ρ i = vi at hi
   cases hi
   split at h
   ·rename_i de hde
    obtain ⟨⟨h1, h2⟩, h⟩ := h
    obtain ⟨a, ha, r, h3, h4⟩ := aOff_sound h (hr x)
    refine run_v ⟨_, _, ?_, h3, h4⟩
    simp [Instr.indexAt, hvi, ha, asIntOf, run_und hu, Instr.sureAddr, h1, h2, (tok _ _ hde).run_sizeOf]
   ·exact h.elim
  ·exact h.elim
 ·
  rename_i t x i
  have hi := hr i
  split at h
  ·rename_i m e cs k n e1 e2 e3
   obtain ⟨d, hd, hk⟩ := kindOf_some e1
   have hu := (tok _ _ hd).arr hk
   rw [e3] at hi
   generalize hvi : ρ i = vi at hi
   cases hi
   obtain ⟨vs, hvs, hrel⟩ := part_cells (hr x) e2
   split at h
   ·rename_i de hde
    obtain ⟨⟨h1, h2⟩, h⟩ := h
    split at h
    ·rename_i v hv
     obtain ⟨v', h3, h4⟩ := run_part (tok _ _ hde) hrel hv w
     exact run_v ⟨v', v, by simp [Instr.index, hvi, hvs, asIntOf, run_und hu, h1, h2, (tok _ _ hde).run_sizeOf, h3], h4, h⟩
    ·exact h.elim
   ·exact h.elim
  ·rename_i s k n e1 e2 e3
   obtain ⟨d, hd, hk⟩ := kindOf_some e1
   have hu := (tok _ _ hd).str hk
   have hx := hr x
   rw [e3] at hi
   rw [e2] at hx
   generalize hvi : ρ i = vi at hi
   generalize hvx : ρ x = vx at hx
   cases hi; cases hx
   obtain ⟨h1, h⟩ := h
   have hlt : n.toNat < s.size := by omega
   have e : s.get! n.toNat = s[n.toNat] := by
    cases s with
    | mk b =>
     show b[n.toNat]! = b[n.toNat]
     exact getElem!_pos b n.toNat hlt
   rw [e] at h
   refine run_v ⟨_, _, ?_, .int, h⟩
   rw [hvx, hvi, run_index_string w t s k n hu, dif_pos h1]
  ·exact h.elim
 ·
  rename_i x n
  have hx := hr x
  split at h
  ·rename_i vs e
   rw [e] at hx
   generalize hv : ρ x = u at hx
   cases hx with
   | @tup _ _ ws l hh =>
    unfold extK at h
    split at h
    ·rename_i a ha
     obtain ⟨v, hv2⟩ : ∃ v, ws[n]? = some v := by
      have := (List.getElem?_eq_some_iff.1 ha).1
      exact ⟨_, Array.getElem?_eq_getElem (by omega)⟩
     exact run_v ⟨v, a, by simp [hv, Instr.extract, hv2], hh n a v ha hv2, h⟩
    ·exact h.elim
  ·exact h.elim
 ·
  rename_i t x lo hi mx
  split at h
  ·rename_i e e1
   obtain ⟨d, hd, hk⟩ := kindOf_some e1
   have hu := (tok _ _ hd).slice hk
   split at h
   ·rename_i de hde
    have key : ∀ (sz : Nat), sz = de.size → ((∃ id ep off len lim, ev x = .oslc id ep sz off len lim) ∨ (∃ rows off len lim, ev x = .lslc sz rows off len lim) ∨ ev x = .nils) →
      sliceK (ev x) (lo.map ev) (hi.map ev) (mx.map ev) K → PRun P σ w (Instr.sliceAt t (ρ x) (lo.map ρ) (hi.map ρ) (mx.map ρ)) K := by
     intro sz hsz hsh h
     subst hsz
     have mm : ∀ (y : Option Operand), (∀ a, y.map ev = some a → ∃ v, y.map ρ = some v ∧ VRel σ a v) ∧ (y.map ev = none → y.map ρ = none) := by
      intro y
      cases y with
      | none => simp
      | some y => exact ⟨fun a ha => ⟨ρ y, rfl, by simp at ha; subst ha; exact hr y⟩, by simp⟩
     exact sliceK_sound hu (tok _ _ hde).run_sizeOf (hr x) hsh (mm lo).1 (mm lo).2 (mm hi).1 (mm hi).2 (mm mx).1 (mm mx).2 h w
    split at h
    ·rename_i e3
     unfold slcSz at e3
     split at e3
     ·rename_i e2
      exact run_v (key _ (by simpa using e3) (.inl ⟨_, _, _, _, _, e2⟩) h)
     ·rename_i e2
      exact run_v (key _ (by simpa using e3) (.inr (.inl ⟨_, _, _, _, e2⟩)) h)
     ·rename_i e2
      exact run_v (key _ rfl (.inr (.inr e2)) h)
     ·cases e3
    ·exact h.elim
   ·exact h.elim
  ·exact h.elim
 ·
  rename_i t parts
  have hparts : ∀ (i : Nat) (p : Nat × AV) (q : Nat × Value), (parts.toList.map fun p => (p.1, ev p.2))[i]? = some p → (parts.toList.map fun p => (p.1, ρ p.2))[i]? = some q → p.1 = q.1 ∧ VRel σ p.2 q.2 := by
   intro i p q x y
   simp only [List.getElem?_map, Option.map_eq_some_iff] at x y
   obtain ⟨o, h1, rfl⟩ := x
   obtain ⟨o', h2, rfl⟩ := y
   rw [h1] at h2
   cases h2
   exact ⟨rfl, hr _⟩
  have hpl : (parts.map fun x => match x with | (i, x) => (i, ρ x)).toList = parts.toList.map fun p => (p.1, ρ p.2) := by simp
  split at h
  ·rename_i d hd
   obtain ⟨z, hz1, hz2, hz3⟩ := zero_rel (σ := σ) (tok _ _ hd) w
   split at h
   ·rename_i fs hk
    obtain ⟨fls, hu, hf⟩ := (tok _ _ hd).struct hk
    split at h
    ·exact h.elim
    ·rename_i hall
     have hall' : ∀ f ∈ fls, ∃ d, ti f.type = some d := by
      intro f hfm
      have : fs.all (fun f => (ti f.2).isSome) = true := by
        cases hb : fs.all (fun f => (ti f.2).isSome) with
        | true => rfl
        | false => exact absurd hb hall
      rw [List.all_eq_true] at this
      have := this (f.offset, f.type) (by rw [← hf]; exact List.mem_map.2 ⟨f, by simpa using hfm, rfl⟩)
      exact Option.isSome_iff_exists.1 this
     obtain ⟨places, hp1, hp2⟩ := mapM_structPlace tok fs fls hf hall' w
     have hpe : (fun i => places[i]?) = structPlace ti fs := funext hp2
     obtain ⟨cs', h1, cells', h2, h3⟩ := fill_sound _ (parts.toList.map fun p => (p.1, ρ p.2)) _ _ z.cells _ h hz3 (by simp) hparts
     refine run_v ⟨.agg cs', _, ?_, .agg (by have := h2.1.1; simpa using this) h2.2 (fun i c v x y => h2.1.2 i c v x (by simpa using y)), h3⟩
     unfold Instr.build
     simp only [Sem.run_bind, hz1, Result.andThen_ok, run_und hu]
     have hp1' := hp1
     simp only [bind_pure_comp] at hp1' ⊢
     rw [hp1']
     simp only [Result.andThen_ok, hpl, hpe, h1, Sem.run_pure]
   ·rename_i n e hk
    have hu := (tok _ _ hd).arr hk
    split at h
    ·rename_i de hde
     obtain ⟨cs', h1, cells', h2, h3⟩ := fill_sound _ (parts.toList.map fun p => (p.1, ρ p.2)) _ _ z.cells _ h hz3 (by simp) hparts
     refine run_v ⟨.agg cs', _, ?_, .agg (by have := h2.1.1; simpa using this) h2.2 (fun i c v x y => h2.1.2 i c v x (by simpa using y)), h3⟩
     unfold Instr.build
     simp only [Sem.run_bind, hz1, Result.andThen_ok, run_und hu, (tok _ _ hde).run_sizeOf, hpl, h1, Sem.run_pure]
    ·exact h.elim
   ·exact h.elim
  ·exact h.elim
 ·
  rename_i fn first cap
  refine run_v ⟨.func fn (first.map ρ) (cap.map ρ), _, rfl, .fn (by simp) (by simp) (fun i c v x y => ?_) (fun i c v x y => ?_), h⟩
  ·exact (vrels_map hr first.toList).2 i c v x (by simpa using y)
  ·exact (vrels_map hr cap.toList).2 i c v x (by simpa using y)
 ·
  rename_i c
  obtain ⟨callee, args, argTypes⟩ := c
  simp only at h
  split at h
  ·rename_i x e2
   have hargs : args = #[x] := by apply Array.ext'; simpa using e2
   subst hargs
   have hx := hr x
   have hrun : ∀ n : Nat, (Builtin.len_ argTypes type #[ρ x]).run P w = .ok (goInt n) w →
     (execOp ρ ⟨dst, .call ⟨.builtin .len, #[x], argTypes⟩, type, pos, after, guard⟩).run P w = .ok (.value (.int .i64 n)) w := by
    intro n hn
    simp [execOp, resolve, invoke, builtin, hn, goInt]
   unfold kindOf0 at h
   cases h0 : argTypes[0]? with
   | none => simp [h0] at h
   | some t =>
    simp only [h0] at h
    split at h
    ·rename_i e id ep sz off len lim e1 e2
     obtain ⟨d, hd, hk⟩ := kindOf_some e1
     rw [e2] at hx
     refine ⟨_, _, hrun len ?_, .int, h⟩
     obtain ⟨a, cap, hv⟩ : ∃ a cap, ρ x = .slice a len cap := by
      generalize ρ x = u at hx
      cases hx <;> exact ⟨_, _, rfl⟩
     simp [Builtin.len_, h0, hv, run_und ((tok _ _ hd).slice hk)]
    ·rename_i e sz rows off len lim e1 e2
     obtain ⟨d, hd, hk⟩ := kindOf_some e1
     rw [e2] at hx
     refine ⟨_, _, hrun len ?_, .int, h⟩
     obtain ⟨a, cap, hv⟩ : ∃ a cap, ρ x = .slice a len cap := by
      generalize ρ x = u at hx
      cases hx <;> exact ⟨_, _, rfl⟩
     simp [Builtin.len_, h0, hv, run_und ((tok _ _ hd).slice hk)]
    ·rename_i e e1 e2
     obtain ⟨d, hd, hk⟩ := kindOf_some e1
     rw [e2] at hx
     refine ⟨_, _, hrun 0 ?_, .int, h⟩
     generalize hv : ρ x = u at hx
     cases hx
     simp [Builtin.len_, h0, hv, run_und ((tok _ _ hd).slice hk)]
    ·rename_i n e e1
     obtain ⟨d, hd, hk⟩ := kindOf_some e1
     refine ⟨_, _, hrun n ?_, .int, h⟩
     simp [Builtin.len_, h0, run_und ((tok _ _ hd).arr hk)]
    ·exact h.elim
  ·rename_i x r e2
   obtain ⟨v, y, h1, h2, h3⟩ := min_sound (P := P) _ w _ _ (r.map ρ) (ρ x) h (hr x) (vrels_map hr r)
   have hargs : (args.map ρ).toList = ρ x :: r.map ρ := by simp [e2]
   exact ⟨v, y, by simp [execOp, resolve, invoke, builtin, Builtin.min_, hargs, e2, h1], h2, h3⟩
  ·rename_i x r e2
   obtain ⟨v, y, h1, h2, h3⟩ := max_sound (P := P) _ w _ _ (r.map ρ) (ρ x) h (hr x) (vrels_map hr r)
   have hargs : (args.map ρ).toList = ρ x :: r.map ρ := by simp [e2]
   exact ⟨v, y, by simp [execOp, resolve, invoke, builtin, Builtin.max_, hargs, e2, h1], h2, h3⟩
  ·exact h.elim
 ·exact h.elim
end
end Go.Ab

namespace Go.Ab
theorem blk_le {σ σ' : Sg} {w : World} {id : Id} {o : AObj} (h : ObjOk σ w id o) (l : Sg.Le σ σ') : o.blk σ' id = o.blk σ id := by
 cases o with
 | hole => rfl
 | vec ep rows =>
  rcases h with ⟨_, h2⟩ | ⟨blk, st, sz, n, size, cs, T, h1, _⟩
  ·simp [AObj.blk, h2, l.ρ _ _ _ h2]
  ·simp [AObj.blk, h1, l.ρ _ _ _ h1]
 | map ep es =>
  obtain ⟨blk, st, sz, n, size, cs, T, h1, _⟩ := h
  simp [AObj.blk, h1, l.ρ _ _ _ h1]
theorem ObjOk.keep {σ σ' : Sg} {w w' : World} {id : Id} {o : AObj} (h : ObjOk σ w id o) (l : Sg.Le σ σ') (hb : ∀ b, o.blk σ id = some b → w'.heap[b]? = w.heap[b]? ∧ σ'.FM b = none) : ObjOk σ' w' id o := by
 cases o with
 | hole => trivial
 | vec ep rows =>
  rcases h with ⟨h1, h2⟩ | ⟨blk, st, sz, n, size, cs, T, h1, h2, h3, h4, h5, h6, h7, h8⟩
  ·exact .inl ⟨h1, l.ρ _ _ _ h2⟩
  ·obtain ⟨e1, e2⟩ := hb blk (by simp [AObj.blk, h1])
   exact .inr ⟨blk, st, sz, n, size, cs, T, l.ρ _ _ _ h1, by rw [e1]; exact h2, h3, h4, h5, e2, h7, fun i j c x => let ⟨v, a, b, c⟩ := h8 i j c x; ⟨v, a, b, c.mono l⟩⟩
 | map ep es =>
  obtain ⟨blk, st, sz, n, size, cs, T, h1, h2, h3, h4, h5⟩ := h
  obtain ⟨e1, e2⟩ := hb blk (by simp [AObj.blk, h1])
  exact ⟨blk, st, sz, n, size, cs, T, l.ρ _ _ _ h1, by rw [e1]; exact h2, e2, h4, fun i k v e x y => let ⟨a, b⟩ := h5 i k v e x y; ⟨a.mono l, b.mono l⟩⟩
structure SameOut (w w' : World) : Prop where
 os : w'.os = w.os
 tape : w'.tape = w.tape
 output : w'.output = w.output
theorem SameOut.refl (w : World) : SameOut w w := ⟨rfl, rfl, rfl⟩
def AObj.epIs (ep : Nat) : AObj → Prop
 | .vec e _ | .map e _ => e = ep
 | .hole => False
theorem blk_at {σ : Sg} {id : Id} {ep : Nat} {o : AObj} (h : o.epIs ep) {b st sz n size : Nat} (hr : σ.ρ id ep = some (.at b st sz n size)) : o.blk σ id = some b := by
 cases o <;> simp only [AObj.epIs] at h <;> first | (subst h; simp [AObj.blk, hr]) | exact h.elim
theorem Sim.alloc {σ : Sg} {h : Heap} {w w' : World} (s : Sim σ h w) (id : Id) (X : Obj) (st sz n size : Nat) (mk : Nat → AObj) (hmk : ∀ ep, (mk ep).epIs ep)
  (hw : w'.heap = w.heap.push X) (ho : SameOut w w')
  (hok : ∀ ep σ', Sg.Le σ σ' → σ'.ρ id ep = some (.at w.heap.size st sz n size) → σ'.FM = σ.FM → ObjOk σ' w' id (mk ep)) :
  ∃ ep σ', Mv σ h w σ' (h.set id (mk ep)) w' ∧ σ'.ρ id ep = some (.at w.heap.size st sz n size) := by
 obtain ⟨e0, he0⟩ := s.fresh
 let σ' : Sg := { ρ := fun i e => if i = id ∧ e = e0 then some (.at w.heap.size st sz n size) else σ.ρ i e, FM := σ.FM, RM := σ.RM }
 have hle : Sg.Le σ σ' := by
  refine ⟨fun i e pl hp => ?_, fun _ _ x => x, fun _ _ x => x⟩
  show (if i = id ∧ e = e0 then _ else σ.ρ i e) = _
  rw [if_neg]
  ·exact hp
  ·rintro ⟨rfl, rfl⟩
   rw [he0 _ e (Nat.le_refl _)] at hp
   cases hp
 have hnew : σ'.ρ id e0 = some (.at w.heap.size st sz n size) := by show (if id = id ∧ e0 = e0 then _ else _) = _; simp
 have hold : ∀ b, b < w.heap.size → w'.heap[b]? = w.heap[b]? := fun b hb => by rw [hw, Array.getElem?_push]; simp [show b ≠ w.heap.size from by omega]
 have hother : ∀ (i : Id) (o : AObj), i ≠ id → (h.set id (mk e0))[i]? = some o → h[i]? = some o := fun i o hi ho => by
  rw [Heap.getElem?_set_ne (Ne.symm hi)] at ho; exact ho
 have hthis : ∀ (o : AObj), (h.set id (mk e0))[id]? = some o → o = mk e0 := fun o ho => by
  rw [Heap.getElem?_set_self'] at ho
  cases hh : h[id]? with
  | none => simp [hh] at ho
  | some x => simpa [hh] using ho.symm
 have hblk : ∀ (i : Id) (o : AObj) (b : Nat), i ≠ id → h[i]? = some o → o.blk σ' i = some b → o.blk σ i = some b ∧ b < w.heap.size := fun i o b hi ho hb => by
  rw [blk_le (s.obj i o ho) hle] at hb
  exact ⟨hb, Live.lt s ⟨i, o, ho, hb⟩⟩
 have hblkn : (mk e0).blk σ' id = some w.heap.size := blk_at (hmk e0) hnew
 refine ⟨e0, σ', ⟨hle, ⟨?_, ?_, ?_, ?_, fun b o x => let ⟨r1, r2⟩ := s.rm b o x; ⟨by rw [hold b (Array.getElem?_eq_some_iff.1 r1).1]; exact r1, r2⟩⟩, ho.os, ho.tape, ho.output, by rw [hw]; simp, fun b hb _ => hold b hb, ?_, fun _ x => .inl x⟩, hnew⟩
 ·intro b cs hb
  obtain ⟨T, fz, hx⟩ := s.fm b cs hb
  exact ⟨T, fz, by rw [hold b (Array.getElem?_eq_some_iff.1 hx).1]; exact hx⟩
 ·intro i o ho
  by_cases hi : i = id
  ·subst hi
   rw [hthis o ho]
   exact hok e0 σ' hle hnew rfl
  ·have h1 := hother i o hi ho
   refine (s.obj i o h1).keep hle fun b hb => ?_
   have hl : Live σ h b := ⟨i, o, h1, hb⟩
   exact ⟨hold b (Live.lt s hl), Live.noFM s hl⟩
 ·intro i j oi oj b hi hj bi bj
  by_cases e1 : i = id
  ·by_cases e2 : j = id
   ·rw [e1, e2]
   ·subst e1
    rw [hthis oi hi, hblkn] at bi
    cases bi
    have := (hblk j oj _ e2 (hother j oj e2 hj) bj).2
    omega
  ·by_cases e2 : j = id
   ·subst e2
    rw [hthis oj hj, hblkn] at bj
    cases bj
    have := (hblk i oi _ e1 (hother i oi e1 hi) bi).2
    omega
   ·exact s.apart i j oi oj b (hother i oi e1 hi) (hother j oj e2 hj) (hblk i oi b e1 (hother i oi e1 hi) bi).1 (hblk j oj b e2 (hother j oj e2 hj) bj).1
 ·refine ⟨e0 + 1, fun i ep hep => ?_⟩
  show (if i = id ∧ ep = e0 then _ else σ.ρ i ep) = none
  rw [if_neg (fun x => absurd x.2 (by omega))]
  exact he0 i ep (by omega)
 ·rintro b ⟨i, o, ho, hb⟩
  by_cases hi : i = id
  ·subst hi
   rw [hthis o ho, hblkn] at hb
   cases hb
   exact .inr (Nat.le_refl _)
  ·obtain ⟨h1, _⟩ := hblk i o b hi (hother i o hi ho) hb
   exact .inl ⟨i, o, hother i o hi ho, h1⟩
theorem Sim.write {σ : Sg} {h : Heap} {w w' : World} (s : Sim σ h w) {id : Id} {o o' : AObj} {blk : Nat} (ho : h[id]? = some o) (hb : o.blk σ id = some blk)
  (hb' : o'.blk σ id = some blk)
  (hw : ∀ b, b ≠ blk → w'.heap[b]? = w.heap[b]?) (hsz : w'.heap.size = w.heap.size) (hso : SameOut w w') (hok : ObjOk σ w' id o') :
  Mv σ h w σ (h.set id o') w' := by
 have hlv : Live σ h blk := ⟨id, o, ho, hb⟩
 have hother : ∀ (i : Id) (x : AObj), i ≠ id → (h.set id o')[i]? = some x → h[i]? = some x := fun i x hi hx => by
  rw [Heap.getElem?_set_ne (Ne.symm hi)] at hx; exact hx
 have hthis : ∀ (x : AObj), (h.set id o')[id]? = some x → x = o' := fun x hx => by
  rw [Heap.get_some ho] at hx; exact (Option.some.inj hx).symm
 refine ⟨.refl _, ⟨?_, ?_, ?_, s.fresh, fun b o x => let ⟨r1, r2⟩ := s.rm b o x; ⟨by rw [hw b (by rintro rfl; rw [Live.noRM s hlv] at x; cases x)]; exact r1, r2⟩⟩, hso.os, hso.tape, hso.output, by omega, ?_, ?_, fun _ x => .inl x⟩
 ·intro b cs hf
  obtain ⟨T, fz, hx⟩ := s.fm b cs hf
  refine ⟨T, fz, ?_⟩
  rw [hw b]
  ·exact hx
  ·rintro rfl
   rw [Live.noFM s hlv] at hf
   cases hf
 ·intro i x hx
  by_cases hi : i = id
  ·subst hi
   rw [hthis x hx]
   exact hok
  ·have h1 := hother i x hi hx
   refine (s.obj i x h1).keep (.refl _) fun b hbx => ?_
   have hl : Live σ h b := ⟨i, x, h1, hbx⟩
   refine ⟨hw b ?_, Live.noFM s hl⟩
   rintro rfl
   exact hi (s.apart i id x o b h1 ho hbx hb)
 ·intro i j oi oj b hi hj bi bj
  by_cases e1 : i = id
  ·by_cases e2 : j = id
   ·rw [e1, e2]
   ·subst e1
    rw [hthis oi hi, hb'] at bi
    cases bi
    exact s.apart i j o oj _ ho (hother j oj e2 hj) hb bj
  ·by_cases e2 : j = id
   ·subst e2
    rw [hthis oj hj, hb'] at bj
    cases bj
    exact s.apart i j oi o _ (hother i oi e1 hi) ho bi hb
   ·exact s.apart i j oi oj b (hother i oi e1 hi) (hother j oj e2 hj) bi bj
 ·intro b hbl hn
  exact hw b (by rintro rfl; exact hn hlv)
 ·rintro b ⟨i, x, hx, hbx⟩
  by_cases hi : i = id
  ·subst hi
   rw [hthis x hx, hb'] at hbx
   cases hbx
   exact .inl hlv
  ·exact .inl ⟨i, x, hother i x hi hx, hbx⟩
theorem Sim.renew {σ : Sg} {h : Heap} {w : World} (s : Sim σ h w) {id : Id} {o : AObj} {blk : Nat} (ho : h[id]? = some o) (hb : o.blk σ id = some blk)
  (st sz n size : Nat) : ∃ ep σ', Sg.Le σ σ' ∧ σ'.ρ id ep = some (.at blk st sz n size) ∧ σ'.FM = σ.FM ∧ Sim σ' h w ∧ (∀ b, Live σ' h b ↔ Live σ h b) := by
 obtain ⟨e0, he0⟩ := s.fresh
 let σ' : Sg := { ρ := fun i e => if i = id ∧ e = e0 then some (.at blk st sz n size) else σ.ρ i e, FM := σ.FM, RM := σ.RM }
 have hle : Sg.Le σ σ' := by
  refine ⟨fun i e pl hp => ?_, fun _ _ x => x, fun _ _ x => x⟩
  show (if i = id ∧ e = e0 then _ else σ.ρ i e) = _
  rw [if_neg]
  ·exact hp
  ·rintro ⟨rfl, rfl⟩
   rw [he0 _ e (Nat.le_refl _)] at hp
   cases hp
 have hblk : ∀ (i : Id) (x : AObj), h[i]? = some x → x.blk σ' i = x.blk σ i := fun i x hx => blk_le (s.obj i x hx) hle
 refine ⟨e0, σ', hle, by show (if id = id ∧ e0 = e0 then _ else _) = _; simp, rfl, ⟨s.fm, ?_, ?_, ?_, s.rm⟩, ?_⟩
 ·intro i x hx
  refine (s.obj i x hx).keep hle fun b hbx => ⟨rfl, Live.noFM s ⟨i, x, hx, hbx⟩⟩
 ·intro i j oi oj b hi hj bi bj
  rw [hblk i oi hi] at bi
  rw [hblk j oj hj] at bj
  exact s.apart i j oi oj b hi hj bi bj
 ·refine ⟨e0 + 1, fun i ep hep => ?_⟩
  show (if i = id ∧ ep = e0 then _ else σ.ρ i ep) = none
  rw [if_neg (fun x => absurd x.2 (by omega))]
  exact he0 i ep (by omega)
 ·intro b
  constructor
  ·rintro ⟨i, x, hx, hbx⟩; rw [hblk i x hx] at hbx; exact ⟨i, x, hx, hbx⟩
  ·rintro ⟨i, x, hx, hbx⟩; rw [← hblk i x hx] at hbx; exact ⟨i, x, hx, hbx⟩
theorem Sim.same {σ : Sg} {h : Heap} {w w' : World} (s : Sim σ h w) (hw : w'.heap = w.heap) (ho : SameOut w w') : Mv σ h w σ h w' := by
 refine ⟨.refl _, ⟨?_, ?_, s.apart, s.fresh, by rw [hw]; exact s.rm⟩, ho.os, ho.tape, ho.output, by rw [hw]; exact Nat.le_refl _, fun b _ _ => by rw [hw], fun b x => .inl x, fun _ x => .inl x⟩
 ·rw [hw]; exact s.fm
 ·intro i x hx
  exact (s.obj i x hx).keep (.refl _) fun b hbx => ⟨by rw [hw], Live.noFM s ⟨i, x, hx, hbx⟩⟩
theorem Sim.forget {σ : Sg} {h h' : Heap} {w : World} (s : Sim σ h w) (hh : ∀ (i : Id) (o : AObj), h'[i]? = some o → o = .hole ∨ h[i]? = some o) : Mv σ h w σ h' w := by
 have hb : ∀ (i : Id) (o : AObj) (b : Nat), h'[i]? = some o → o.blk σ i = some b → h[i]? = some o := fun i o b ho hb => by
  rcases hh i o ho with rfl | h1
  ·simp [AObj.blk] at hb
  ·exact h1
 refine ⟨.refl _, ⟨s.fm, fun i o ho => ?_, fun i j oi oj b hi hj bi bj => s.apart i j oi oj b (hb i oi b hi bi) (hb j oj b hj bj) bi bj, s.fresh, s.rm⟩, rfl, rfl, rfl, Nat.le_refl _, fun _ _ _ => rfl, ?_, fun _ x => .inl x⟩
 ·rcases hh i o ho with rfl | h1
  ·trivial
  ·exact s.obj i o h1
 ·rintro b ⟨i, o, ho, hbx⟩
  exact .inl ⟨i, o, hb i o b ho hbx, hbx⟩
end Go.Ab

namespace Go.Ab
def lit1 : AV → Bool
 | .int .. | .bool _ => true
 | _ => false
def litV : AV → Value
 | .int k n => .int k n
 | .bool b => .bool b
 | _ => undef
def keyX (ti : TI) : Nat → Nat → List AV → Bool
 | 0, _, _ => false
 | m + 1, t, cs => match ti t with
  | none => false
  | some d => match d.kind, cs with
   | .bool, [.bool _] => true
   | .int q, [.int q' n] => decide (q' = q) && (Lit.int q n).wf
   | .arr n e, cs => match ti e with
    | some de => decide (cs.length = d.size) && (List.range n).all fun i => keyX ti m e ((cs.drop (i * de.size)).take de.size)
    | none => false
   | .struct fs, cs => decide (cs.length = d.size) && fs.all fun f => match ti f.2 with
    | some df => keyX ti m f.2 ((cs.drop f.1).take df.size)
    | none => false
   | _, _ => false
def zeroV (d : TD) : Option AV := match d.isAgg with
 | true => some (.agg d.zero)
 | false => d.zero[0]?
def findI (kd : IntKind) (n : Int) : Nat → List (AV × AV) → (Option (Nat × AV) → Prop) → Prop
 | _, [], K => K none
 | i, (k, v) :: r, K => match k with
  | .int k a => k = kd ∧ (match decide (n = a) with
   | true => K (some (i, v))
   | false => findI kd n (i + 1) r K)
  | _ => False
def keyRow (ti : TI) (kt : Nat) (p : AV × AV) : Bool := match p.1 with
 | .agg ys => keyX ti 20 kt ys && ys.all lit1
 | _ => false
def findA (xs : List AV) (es : List (AV × AV)) (K : Option (Nat × AV) → Prop) : Prop :=
 ((∀ p ∈ es, p.1 ≠ .agg xs) ∧ K none) ∨ ∃ i v, es[i]? = some (.agg xs, v) ∧ (∀ (j : Nat) (p : AV × AV), j ≠ i → es[j]? = some p → p.1 ≠ .agg xs) ∧ K (some (i, v))
def findPI (kd : IntKind) (key : AV) (es : List (AV × AV)) (K : Option (Nat × AV) → Prop) : Prop := match key with
 | .int k n => k = kd ∧ findI kd n 0 es K
 | _ => False
def findPA (ti : TI) (kt : Nat) (dk : TD) (key : AV) (es : List (AV × AV)) (K : Option (Nat × AV) → Prop) : Prop := match key with
 | .agg xs => (dk.key = true ∧ keyRow ti kt (.agg xs, .u) = true ∧ es.all (keyRow ti kt) = true) ∧ findA xs es K
 | _ => False
def findP (ti : TI) (kt : Nat) (key : AV) (es : List (AV × AV)) (K : Option (Nat × AV) → Prop) : Prop :=
 match ti kt with
 | none => False
 | some dk => match dk.kind with
  | .int kd => findPI kd key es K
  | .arr .. => findPA ti kt dk key es K
  | .struct _ => findPA ti kt dk key es K
  | _ => False
def lookK (ti : TI) (h : Heap) (t : Nat) (m key : AV) (okf : Bool) (K : AV → Prop) : Prop :=
 match kindOf ti t with
 | some (.map kt vt) => match ti vt with
  | some dv => match zeroV dv with
   | some z => match m with
    | .nilm => findP ti kt key [] fun _ => K (bif okf then .tup [z, .bool false] else z)
    | .mp id ep => (match h[id]? with
     | some (.map ep' es) => ep' = ep ∧ findP ti kt key es fun r => K (match r with
      | some (_, v) => bif okf then .tup [v, .bool true] else v
      | none => bif okf then .tup [z, .bool false] else z)
     | _ => False)
    | _ => False
   | none => False
  | none => False
 | _ => False
def updK (ti : TI) (h : Heap) (t : Nat) (m key v : AV) (K : AV → Heap → Prop) : Prop :=
 match kindOf ti t with
 | some (.map kt _) => match m with
  | .mp id ep => (match h[id]? with
   | some (.map ep' es) => ep' = ep ∧ findP ti kt key es fun r => K .u (h.set id (.map ep (match r with
    | some (i, _) => es.set i (key, v)
    | none => es ++ [(key, v)])))
   | _ => False)
  | _ => False
 | _ => False
theorem findI_mono {kd : IntKind} {n : Int} {K K' : Option (Nat × AV) → Prop} (hk : ∀ v, K v → K' v) : ∀ {es : List (AV × AV)} {i : Nat}, findI kd n i es K → findI kd n i es K'
 | [], i, h => hk _ h
 | (k, v) :: r, i, h => by
  unfold findI at h ⊢
  split at h
  ·refine ⟨h.1, ?_⟩
   have h2 := h.2
   split at h2
   ·exact hk _ h2
   ·exact findI_mono hk h2
  ·exact h.elim
theorem findA_mono {xs : List AV} {es : List (AV × AV)} {K K' : Option (Nat × AV) → Prop} (hk : ∀ v, K v → K' v) (h : findA xs es K) : findA xs es K' := by
 rcases h with ⟨a, b⟩ | ⟨i, v, a, b, c⟩
 ·exact .inl ⟨a, hk _ b⟩
 ·exact .inr ⟨i, v, a, b, hk _ c⟩
theorem findPI_mono {kd : IntKind} {key : AV} {es : List (AV × AV)} {K K' : Option (Nat × AV) → Prop} (hk : ∀ v, K v → K' v) (h : findPI kd key es K) : findPI kd key es K' := by
 unfold findPI at h ⊢
 split at h
 ·exact ⟨h.1, findI_mono hk h.2⟩
 ·exact h.elim
theorem findPA_mono {ti : TI} {kt : Nat} {dk : TD} {key : AV} {es : List (AV × AV)} {K K' : Option (Nat × AV) → Prop} (hk : ∀ v, K v → K' v) (h : findPA ti kt dk key es K) : findPA ti kt dk key es K' := by
 unfold findPA at h ⊢
 split at h
 ·exact ⟨h.1, findA_mono hk h.2⟩
 ·exact h.elim
theorem findP_mono {ti : TI} {kt : Nat} {key : AV} {es : List (AV × AV)} {K K' : Option (Nat × AV) → Prop} (hk : ∀ v, K v → K' v) (h : findP ti kt key es K) : findP ti kt key es K' := by
 unfold findP at h ⊢
 split at h
 ·exact h.elim
 ·split at h
  ·exact findPI_mono hk h
  ·exact findPA_mono hk h
  ·exact findPA_mono hk h
  ·exact h.elim
theorem findI_ex {kd : IntKind} {n : Int} {K : Option (Nat × AV) → Prop} : ∀ {es : List (AV × AV)} {i : Nat}, findI kd n i es K → ∃ v, K v ∧ findI kd n i es fun y => y = v
 | [], i, h => ⟨none, h, rfl⟩
 | (k, v) :: r, i, h => by
  unfold findI at h
  split at h
  ·obtain ⟨h1, h2⟩ := h
   split at h2
   ·rename_i hd
    exact ⟨_, h2, by unfold findI; exact ⟨h1, by rw [hd]⟩⟩
   ·rename_i hd
    obtain ⟨w, h3, h4⟩ := findI_ex h2
    exact ⟨w, h3, by unfold findI; exact ⟨h1, by rw [hd]; exact h4⟩⟩
  ·exact h.elim
theorem findA_ex {xs : List AV} {es : List (AV × AV)} {K : Option (Nat × AV) → Prop} (h : findA xs es K) : ∃ v, K v ∧ findA xs es fun y => y = v := by
 rcases h with ⟨a, b⟩ | ⟨i, v, a, b, c⟩
 ·exact ⟨_, b, .inl ⟨a, rfl⟩⟩
 ·exact ⟨_, c, .inr ⟨i, v, a, b, rfl⟩⟩
theorem findPI_ex {kd : IntKind} {key : AV} {es : List (AV × AV)} {K : Option (Nat × AV) → Prop} (h : findPI kd key es K) : ∃ v, K v ∧ findPI kd key es fun y => y = v := by
 unfold findPI at h ⊢
 split at h
 ·obtain ⟨v, h2, h3⟩ := findI_ex h.2
  exact ⟨v, h2, h.1, h3⟩
 ·exact h.elim
theorem findPA_ex {ti : TI} {kt : Nat} {dk : TD} {key : AV} {es : List (AV × AV)} {K : Option (Nat × AV) → Prop} (h : findPA ti kt dk key es K) : ∃ v, K v ∧ findPA ti kt dk key es fun y => y = v := by
 unfold findPA at h ⊢
 split at h
 ·obtain ⟨v, h2, h3⟩ := findA_ex h.2
  exact ⟨v, h2, h.1, h3⟩
 ·exact h.elim
theorem findP_ex {ti : TI} {kt : Nat} {key : AV} {es : List (AV × AV)} {K : Option (Nat × AV) → Prop} (h : findP ti kt key es K) : ∃ v, K v ∧ findP ti kt key es fun y => y = v := by
 unfold findP at h ⊢
 split at h
 ·exact h.elim
 ·split at h
  ·exact findPI_ex h
  ·exact findPA_ex h
  ·exact findPA_ex h
  ·exact h.elim
theorem lookK_mono {ti : TI} {h0 : Heap} {t : Nat} {m key : AV} {okf : Bool} {K K' : AV → Prop} (hk : ∀ v, K v → K' v) (h : lookK ti h0 t m key okf K) : lookK ti h0 t m key okf K' := by
 unfold lookK at h ⊢
 split at h
 ·split at h
  ·split at h
   ·split at h
    ·exact findP_mono (fun _ => hk _) h
    ·split at h
     ·exact ⟨h.1, findP_mono (fun _ => hk _) h.2⟩
     ·exact h.elim
    ·exact h.elim
   ·exact h.elim
  ·exact h.elim
 ·exact h.elim
theorem lookK_ex {ti : TI} {h0 : Heap} {t : Nat} {m key : AV} {okf : Bool} {K : AV → Prop} (h : lookK ti h0 t m key okf K) : ∃ v, K v ∧ lookK ti h0 t m key okf fun y => y = v := by
 unfold lookK at h ⊢
 split at h
 ·split at h
  ·split at h
   ·split at h
    ·obtain ⟨v, h1, h2⟩ := findP_ex h
     exact ⟨_, h1, findP_mono (fun _ _ => rfl) h2⟩
    ·split at h
     ·obtain ⟨v, h1, h2⟩ := findP_ex h.2
      exact ⟨_, h1, h.1, findP_mono (fun _ e => by rw [e]) h2⟩
     ·exact h.elim
    ·exact h.elim
   ·exact h.elim
  ·exact h.elim
 ·exact h.elim
theorem lookK_ext {ti : TI} {h0 h1 : Heap} {t : Nat} {m key : AV} {okf : Bool} {K : AV → Prop} (hs : ∀ (i : Id) (o : AObj), h0[i]? = some o → o ≠ .hole → (∀ ep, o ≠ .vec ep []) → h1[i]? = some o) (h : lookK ti h0 t m key okf K) : lookK ti h1 t m key okf K := by
 unfold lookK at h ⊢
 split at h
 ·split at h
  ·split at h
   ·split at h
    ·exact h
    ·split at h
     ·rename_i ho
      simp only [hs _ _ ho (by simp) (by simp)]
      exact h
     ·exact h.elim
    ·exact h.elim
   ·exact h.elim
  ·exact h.elim
 ·exact h.elim
theorem updK_mono {ti : TI} {h0 : Heap} {t : Nat} {m key v : AV} {K K' : AV → Heap → Prop} (hk : ∀ v h, K v h → K' v h) (h : updK ti h0 t m key v K) : updK ti h0 t m key v K' := by
 unfold updK at h ⊢
 split at h
 ·split at h
  ·split at h
   ·exact ⟨h.1, findP_mono (fun _ => hk _ _) h.2⟩
   ·exact h.elim
  ·exact h.elim
 ·exact h.elim
theorem mapM_some {α β : Type} {f : α → Option β} : ∀ {l : List α}, (∀ a ∈ l, ∃ b, f a = some b) → ∃ bs, l.mapM f = some bs
 | [], _ => ⟨[], by simp⟩
 | a :: l, h => by
  obtain ⟨b, hb⟩ := h a (List.mem_cons_self ..)
  obtain ⟨bs, hbs⟩ := mapM_some fun x hx => h x (List.mem_cons_of_mem _ hx)
  exact ⟨b :: bs, by rw [List.mapM_cons, hb, hbs]; rfl⟩
theorem DOk.cellsOf {P : Program} {t : Nat} {d : TD} (h : DOk P t d) : P.cellsOf t = d.size := by
 obtain ⟨i, z, h1, h2, _⟩ := h.info
 simp [Program.cellsOf, h1, h2]
theorem lit1_val {σ : Sg} {a : AV} {v : Value} (h : lit1 a = true) (hv : VRel σ a v) : v = litV a := by
 cases a <;> simp only [lit1, Bool.false_eq_true] at h <;> (cases hv; rfl)
theorem litV_inj {a b : AV} (ha : lit1 a = true) (hb : lit1 b = true) (h : litV a = litV b) : a = b := by
 cases a <;> simp only [lit1, Bool.false_eq_true] at ha <;> cases b <;> simp only [lit1, Bool.false_eq_true] at hb <;> simp [litV] at h ⊢ <;> exact h
theorem lits_val {σ : Sg} : ∀ {as : List AV} {vs : List Value}, as.all lit1 = true → VRels σ as vs → vs = as.map litV
 | [], [], _, _ => rfl
 | [], _ :: _, _, h => by have := h.1; simp at this
 | _ :: _, [], _, h => by have := h.1; simp at this
 | a :: as, v :: vs, hl, h => by
  simp only [List.all_cons, Bool.and_eq_true] at hl
  rw [List.map_cons, lit1_val hl.1 (h.2 0 a v rfl rfl)]
  congr 1
  exact lits_val hl.2 ⟨by have := h.1; simpa using this, fun i b u x y => h.2 (i + 1) b u (by simpa using x) (by simpa using y)⟩
theorem lits_inj : ∀ {as bs : List AV}, as.all lit1 = true → bs.all lit1 = true → as.map litV = bs.map litV → as = bs
 | [], [], _, _, _ => rfl
 | [], _ :: _, _, _, h => by simp at h
 | _ :: _, [], _, _, h => by simp at h
 | a :: as, b :: bs, ha, hb, h => by
  simp only [List.all_cons, Bool.and_eq_true] at ha hb
  rw [List.map_cons, List.map_cons, List.cons.injEq] at h
  rw [litV_inj ha.1 hb.1 h.1, lits_inj ha.2 hb.2 h.2]
theorem agg_val {σ : Sg} {xs : List AV} {v : Value} (h : xs.all lit1 = true) (hv : VRel σ (.agg xs) v) : v = .agg (xs.map litV).toArray := by
 cases hv with
 | @agg _ _ vs l o w =>
  have : vs.toList = xs.map litV := lits_val h ⟨by simpa using l, fun i a u x y => w i a u x (by simpa using y)⟩
  congr 1
  rw [← this]
theorem keyX_lits {P : Program} {ti : TI} (tok : TOk P ti) : ∀ (m D t : Nat) (cs : List AV), P.keyTypeAt D t = true → keyX ti m t cs = true → ∃ L, P.keyLits D t (cs.map litV) = some L := by
 intro m
 induction m with
 | zero => intro D t cs _ h; cases h
 | succ m ih =>
  intro D t cs0 hk h
  cases D with
  | zero => cases hk
  | succ D =>
   unfold keyX at h
   unfold Program.keyTypeAt at hk
   unfold Program.keyLits
   split at h
   ·cases h
   ·rename_i d hd
    have hok := tok t d hd
    split at h
    ·rename_i b hkd
     simp [hok.bool hkd, litV]
    ·rename_i q q' n hkd
     simp only [Bool.and_eq_true, decide_eq_true_eq] at h
     simp [hok.int hkd, litV, h.1, h.2]
    ·rename_i cs0 _ _ n e hkd
     split at h
     ·rename_i de hde
      simp only [Bool.and_eq_true, decide_eq_true_eq, List.all_eq_true, List.mem_range] at h
      have hu := hok.arr hkd
      simp only [hu] at hk ⊢
      have hz : P.cellsOf t = d.size := hok.cellsOf
      have he : P.cellsOf e = de.size := (tok e de hde).cellsOf
      rw [if_pos (by rw [List.length_map, hz]; exact h.1)]
      have : ∃ Ls, ((List.range n).mapM fun i => P.keyLits D e (((cs0.map litV).drop (i * P.cellsOf e)).take (P.cellsOf e))) = some Ls := by
       refine mapM_some fun i hi => ?_
       have hi : i < n := List.mem_range.1 hi
       rw [he, ← List.map_drop, ← List.map_take]
       exact ih D e _ hk (h.2 i hi)
      obtain ⟨Ls, hL⟩ := this
      exact ⟨Ls.flatten, by rw [hL]; rfl⟩
     ·cases h
    ·rename_i cs0 _ _ fs hkd
     simp only [Bool.and_eq_true, decide_eq_true_eq, List.all_eq_true] at h
     obtain ⟨gs, hu, hgs⟩ := hok.struct hkd
     simp only [hu, Bool.and_eq_true, Array.all_eq_true_iff_forall_mem, bne_iff_ne, ne_eq] at hk ⊢
     have hz : P.cellsOf t = d.size := hok.cellsOf
     rw [if_pos ⟨by rw [List.length_map, hz]; exact h.1, fun f hf => (hk.1.1 f hf).1⟩]
     have : ∃ Ls, (gs.toList.mapM fun f => P.keyLits D f.type (((cs0.map litV).drop f.offset).take (P.cellsOf f.type))) = some Ls := by
      refine mapM_some fun f hf => ?_
      have hm : (f.offset, f.type) ∈ fs := by rw [← hgs]; exact List.mem_map_of_mem hf
      have h2 := h.2 _ hm
      simp only at h2
      split at h2
      ·rename_i df hdf
       rw [(tok _ _ hdf).cellsOf, ← List.map_drop, ← List.map_take]
       exact ih D f.type _ (hk.1.1 f (Array.mem_toList_iff.1 hf)).2 h2
      ·cases h2
     obtain ⟨Ls, hL⟩ := this
     exact ⟨Ls.flatten, by rw [hL]; rfl⟩
    ·cases h
section
variable {P : Program} {ti : TI} {σ : Sg}
def Ents (σ : Sg) (es : List (AV × AV)) (ents : List MapEntry) : Prop :=
 es.length = ents.length ∧ ∀ (i : Nat) (k v : AV) (e : MapEntry), es[i]? = some (k, v) → ents[i]? = some e → VRel σ k e.key ∧ VRel σ v e.val
def Found (σ : Sg) (ents : List MapEntry) (kv : Value) : Option (Nat × AV) → Option (Nat × Value) → Prop
 | none, none => True
 | some (i, v), some (j, u) => i = j ∧ VRel σ v u ∧ ∃ e, ents[i]? = some e ∧ e.val = u ∧ e.key = kv
 | _, _ => False
theorem findI_sound {kd : IntKind} {n : Int} : ∀ {es : List (AV × AV)} {ents : List MapEntry} {i : Nat} {K : Option (Nat × AV) → Prop}, Ents σ es ents → findI kd n i es K →
  ∃ r r', K r ∧ Instr.findNow (.int kd) (.int kd n) ents i = some r' ∧ (match r, r' with
   | none, none => True
   | some (a, v), some (b, u) => a = b ∧ i ≤ a ∧ VRel σ v u ∧ ∃ e, ents[a - i]? = some e ∧ e.val = u ∧ e.key = .int kd n
   | _, _ => False)
 | [], [], i, K, _, h => ⟨none, none, h, rfl, trivial⟩
 | [], _ :: _, _, _, h, _ => by have := h.1; simp at this
 | _ :: _, [], _, _, h, _ => by have := h.1; simp at this
 | (k, v) :: es, e :: ents, i, K, h, hk => by
  obtain ⟨r1, r2⟩ := h.2 0 k v e rfl rfl
  unfold findI at hk
  split at hk
  ·rename_i k a
   obtain ⟨rfl, hk⟩ := hk
   generalize hek : e.key = ek at r1
   cases r1
   split at hk
   ·rename_i hd
    have hd : n = a := of_decide_eq_true hd
    subst hd
    refine ⟨some (i, v), some (i, e.val), hk, ?_, rfl, Nat.le_refl _, r2, e, by simp, rfl, hek⟩
    simp [Instr.findNow, Instr.sameNow, hek]
   ·rename_i hd
    have hd : ¬ n = a := of_decide_eq_false hd
    obtain ⟨r, r', q1, q2, q3⟩ := findI_sound (es := es) (ents := ents) (i := i + 1) ⟨by have := h.1; simpa using this, fun j k v e x y => h.2 (j + 1) k v e (by simpa using x) (by simpa using y)⟩ hk
    refine ⟨r, r', q1, ?_, ?_⟩
    ·have : (n == a) = false := by simpa using hd
     simp [Instr.findNow, Instr.sameNow, hek, this, q2]
    ·match r, r', q3 with
     | none, none, _ => trivial
     | some (a', v'), some (b', u'), ⟨x1, x2, x3, e', x4, x5, x6⟩ =>
      refine ⟨x1, by omega, x3, e', ?_, x5, x6⟩
      have : a' - i = (a' - (i + 1)) + 1 := by omega
      rw [this]
      simpa using x4
  ·exact hk.elim
theorem row_key (tok : TOk P ti) {kt : Nat} {dk : TD} (hdk : ti kt = some dk) (hky : dk.key = true) {ys : List AV} {x : AV} (h : keyRow ti kt (.agg ys, x) = true) : ys.all lit1 = true ∧ ∃ l, keyOf P kt (.agg (ys.map litV).toArray) = some l := by
 unfold keyRow at h
 simp only [Bool.and_eq_true] at h
 obtain ⟨h1, h2⟩ := h
 obtain ⟨k1, k2, k3⟩ := (tok kt dk hdk).key hky
 refine ⟨h2, ?_⟩
 obtain ⟨L, hL⟩ := keyX_lits tok 20 (P.types.size + 1) kt ys k2 h1
 have hlen : ys.length = P.cellsOf kt := by
  rw [(tok kt dk hdk).cellsOf]
  unfold keyX at h1
  rw [hdk] at h1
  simp only at h1
  split at h1
  ·rename_i hkd; have := (tok kt dk hdk).bool hkd; rw [this] at k3; cases k3
  ·rename_i hkd; have := (tok kt dk hdk).int hkd; rw [this] at k3; cases k3
  ·split at h1
   ·simp only [Bool.and_eq_true, decide_eq_true_eq] at h1; exact h1.1
   ·cases h1
  ·simp only [Bool.and_eq_true, decide_eq_true_eq] at h1; exact h1.1
  ·cases h1
 have hform : (Value.agg (ys.map litV).toArray).formed P kt = true := by
  unfold Value.formed
  simp only
  split at k3
  ·rename_i hu; simp [hu, hlen]
  ·rename_i hu; simp [hu, hlen]
  ·cases k3
 refine ⟨.string (keyBytes L), ?_⟩
 unfold keyOf
 split at k3
 ·rename_i hu
  simp only [hu, k2, hform, Bool.and_self, if_true, Value.cells]
  rw [hL]
  rfl
 ·rename_i hu
  simp only [hu, k2, hform, Bool.and_self, if_true, Value.cells]
  rw [hL]
  rfl
 ·cases k3
theorem findPA_sound (tok : TOk P ti) {kt : Nat} {dk : TD} (hdk : ti kt = some dk) {key : AV} {kv : Value} {es : List (AV × AV)} {ents : List MapEntry} {K : Option (Nat × AV) → Prop} (he : Ents σ es ents) (hkey : VRel σ key kv) (h : findPA ti kt dk key es K) (w : World) :
  ∃ r r', K r ∧ Found σ ents kv r r' ∧ (Instr.findKey kt kv ents).run P w = .ok r' w ∧ (∀ em, (Instr.checkKey em 10000 kt kv).run P w = .ok () w) ∧ (Instr.keyThatStays kv kv).run P w = .ok kv w := by
 unfold findPA at h
 split at h
 ·rename_i xs
  obtain ⟨⟨h1, h2, h3⟩, h4⟩ := h
  obtain ⟨q1, l, q2⟩ := row_key tok hdk h1 h2
  have hkv := agg_val q1 hkey
  subst hkv
  have L := ((tok kt dk hdk).key h1).1
  have each : ∀ (i : Nat) (k v : AV) (e : MapEntry), es[i]? = some (k, v) → ents[i]? = some e → ∃ ys, k = AV.agg ys ∧ ys.all lit1 = true ∧ e.key = Value.agg (ys.map litV).toArray ∧ ∃ l, keyOf P kt e.key = some l := by
   intro i k v e hi hei
   have hr := List.all_eq_true.1 h3 _ (List.mem_of_getElem? hi)
   cases k with
   | agg ys =>
    obtain ⟨p1, l, p2⟩ := row_key tok hdk h1 (x := v) hr
    have hv := agg_val p1 (he.2 i _ v e hi hei).1
    exact ⟨ys, rfl, p1, hv, l, by rw [hv]; exact p2⟩
   | _ => cases hr
  have hall : ∀ e ∈ ents, ∃ l, keyOf P kt e.key = some l := by
   intro e hme
   obtain ⟨i, hi, rfl⟩ := List.getElem_of_mem hme
   have hie : i < es.length := by rw [he.1]; exact hi
   obtain ⟨_, _, _, _, hl⟩ := each i es[i].1 es[i].2 ents[i] (by rw [List.getElem?_eq_getElem hie]) (List.getElem?_eq_getElem hi)
   exact hl
  have same : ∀ (i : Nat) (k v : AV) (e : MapEntry), es[i]? = some (k, v) → ents[i]? = some e → e.key = Value.agg (xs.map litV).toArray → k = AV.agg xs := by
   intro i k v e hi hei hek
   obtain ⟨ys, rfl, p1, p2, _⟩ := each i k v e hi hei
   rw [p2] at hek
   have : ys.map litV = xs.map litV := by
    have := Value.agg.inj hek
    simpa using congrArg Array.toList this
   rw [lits_inj p1 q1 this]
  have back : ∀ (j : Nat) (e : MapEntry), ents[j]? = some e → ∃ p, es[j]? = some p := fun j e hj => by
   have hjl := (List.getElem?_eq_some_iff.1 hj).1
   exact ⟨es[j]'(by rw [he.1]; exact hjl), List.getElem?_eq_getElem _⟩
  have hfin : ∃ r r', K r ∧ Found σ ents (Value.agg (xs.map litV).toArray) r r' ∧ (Instr.findKey kt (Value.agg (xs.map litV).toArray) ents).run P w = .ok r' w := by
   rcases h4 with ⟨a1, a2⟩ | ⟨i, v, a1, a2, a3⟩
   ·rcases L.find w q2 ents hall with ⟨f1, f2⟩ | ⟨j, e, f1, f2, f3⟩
    ·exact ⟨none, none, a2, trivial, f1⟩
    ·obtain ⟨⟨k, v⟩, hp⟩ := back j e f2
     exact absurd (same j k v e hp f2 f3) (a1 _ (List.mem_of_getElem? hp))
   ·have hil : i < ents.length := by rw [← he.1]; exact (List.getElem?_eq_some_iff.1 a1).1
    have hei : ents[i]? = some ents[i] := List.getElem?_eq_getElem hil
    obtain ⟨ys, e1, p1, p2, _⟩ := each i _ v _ a1 hei
    cases e1
    rcases L.find w q2 ents hall with ⟨f1, f2⟩ | ⟨j, e, f1, f2, f3⟩
    ·exact absurd p2 (f2 _ (List.getElem_mem hil))
    ·obtain ⟨⟨k, v'⟩, hp⟩ := back j e f2
     have hk := same j k v' e hp f2 f3
     have hji : j = i := by
      rcases Nat.decEq j i with hne | heq
      ·exact absurd hk (a2 j _ hne hp)
      ·exact heq
     subst hji
     rw [hp] at a1
     cases a1
     exact ⟨some (j, v), some (j, e.val), a3, ⟨rfl, (he.2 j _ v e hp f2).2, e, f2, rfl, f3⟩, f1⟩
  obtain ⟨r, r', k1, k2, k3⟩ := hfin
  exact ⟨r, r', k1, k2, k3, fun em => L.check w em q2, L.stays w q2⟩
 ·exact h.elim
theorem findP_sound (tok : TOk P ti) {kt : Nat} {key : AV} {kv : Value} {es : List (AV × AV)} {ents : List MapEntry} {K : Option (Nat × AV) → Prop} (he : Ents σ es ents) (hkey : VRel σ key kv) (h : findP ti kt key es K) (w : World) :
  ∃ r r', K r ∧ Found σ ents kv r r' ∧ (Instr.findKey kt kv ents).run P w = .ok r' w ∧ (∀ em, (Instr.checkKey em 10000 kt kv).run P w = .ok () w) ∧ (Instr.keyThatStays kv kv).run P w = .ok kv w := by
 unfold findP at h
 split at h
 ·exact h.elim
 ·rename_i dk hdk
  split at h
  ·rename_i kd hkd
   unfold findPI at h
   split at h
   ·rename_i k n
    obtain ⟨rfl, h⟩ := h
    cases hkey
    have hu := (tok kt dk hdk).int hkd
    obtain ⟨r, r', q1, q2, q3⟩ := findI_sound he h
    refine ⟨r, r', q1, ?_, MapKept.run_findKey hu q2, fun em => MapKept.run_checkKey hu (by simp [MapKept.IsKey]) em 9999, ?_⟩
    ·match r, r', q3 with
     | none, none, _ => trivial
     | some (a, v), some (b, u), ⟨x1, _, x3, e, x4, x5, x6⟩ => exact ⟨x1, x3, e, by simpa using x4, x5, x6⟩
    ·simp [Instr.keyThatStays, Instr.sameBits]
   ·exact h.elim
  ·exact findPA_sound tok hdk he hkey h w
  ·exact findPA_sound tok hdk he hkey h w
  ·exact h.elim
theorem zeroV_rel {t : Nat} {d : TD} (h : DOk P t d) {z : AV} (hz : zeroV d = some z) (w : World) : ∃ v, (zeroValue t).run P w = .ok v w ∧ VRel σ z v := by
 obtain ⟨v, h1, h2, h3, h4, i, h5, h6, h7, h8⟩ := h.run_zero w
 have hs := h.shape i v h5 h6
 refine ⟨v, h1, ?_⟩
 have cell : ∀ (j : Nat) (a : AV) (u : Value), d.zero[j]? = some a → v.cells[j]? = some u → VRel σ a u := fun j a u x y => by
  obtain ⟨u', e1, e2⟩ := h4 j a x
  rw [e1] at y
  cases y
  exact VRel.ofVal e2
 unfold zeroV at hz
 split at hz
 ·rename_i hag
  cases hz
  rw [hag] at hs
  cases v with
  | agg cs =>
   refine .agg (by simp only [Value.cells] at h2; omega) (fun u hu => ?_) fun j a u x y => cell j a u x y
   obtain ⟨j, hj, rfl⟩ := List.getElem_of_mem hu
   have hjs : j < cs.size := by simpa using hj
   simp only [Value.cells] at h2
   obtain ⟨u', e1, e2⟩ := h4 j _ (List.getElem?_eq_getElem (show j < d.zero.length by omega))
   simp only [Value.cells] at e1
   rw [Array.getElem?_eq_getElem hjs] at e1
   cases e1
   simp only [Array.getElem_toList]
   exact ofVal_one e2
  | _ => cases hs
 ·rename_i hag
  rw [hag] at hs
  cases v with
  | agg cs => cases hs
  | _ => exact cell 0 z _ hz (by simp [Value.cells])
theorem lookK_sound (tok : TOk P ti) {h : Heap} {w : World} (s : Sim σ h w) {t : Nat} {m key : AV} {mv kv : Value} (hm : VRel σ m mv) (hkey : VRel σ key kv) {okf : Bool} {K : AV → Prop} (hk : lookK ti h t m key okf K) :
  ∃ v r, (Instr.lookup t mv kv okf).run P w = .ok v w ∧ VRel σ r v ∧ K r := by
 unfold lookK at hk
 split at hk
 ·rename_i kt vt hkd
  obtain ⟨d, hd, hdk⟩ := kindOf_some hkd
  have hu := (tok t d hd).map hdk
  split at hk
  ·rename_i dv hdv
   split at hk
   ·rename_i z hz
    obtain ⟨zv, z1, z2⟩ := zeroV_rel (σ := σ) (tok vt dv hdv) hz w
    have tup : ∀ {a : AV} {v : Value} {b : Bool}, VRel σ a v → VRel σ (bif okf then .tup [a, .bool b] else a) (if okf then .tuple #[v, .bool b] else v) := by
     intro a v b hv
     cases okf with
     | false => exact hv
     | true =>
      refine .tup rfl fun i c u x y => ?_
      match i with
      | 0 => simp at x y; subst x; subst y; exact hv
      | 1 => simp at x y; subst x; subst y; exact .bool
      | i + 2 => simp at x
    split at hk
    ·cases hm
     obtain ⟨r, r', k1, k2, k3, k4, k5⟩ := findP_sound tok (es := []) (ents := []) ⟨rfl, fun i k v e x => by simp at x⟩ hkey hk w
     have hr : r' = none := by
      match r, r', k2 with
      | none, none, _ => rfl
      | some (i, v), some (j, u), ⟨_, _, e, x, _⟩ => simp at x
     subst hr
     refine ⟨if okf then .tuple #[zv, .bool false] else zv, _, ?_, tup z2, k1⟩
     simp [Instr.lookup, run_und hu, k3, k4, z1, Result.andThen]
    ·rename_i id ep
     split at hk
     ·rename_i ep' es ho
      obtain ⟨rfl, hk⟩ := hk
      cases hm with
      | @mp _ _ _ blk st sz n size hh =>
       obtain ⟨blk', st', sz', n', size', ents, clock, e1, e2, e3, ⟨e4, e4b⟩, e5⟩ := s.obj id _ ho
       rw [hh] at e1
       cases e1
       have hE : Ents σ es ents.toList := ⟨by rw [e4]; simp, fun i k v e x y => e5 i k v e x (by simpa using y)⟩
       obtain ⟨r, r', k1, k2, k3, k4, k5⟩ := findP_sound tok hE hkey hk w
       match r, r', k2 with
       | none, none, _ =>
        refine ⟨if okf then .tuple #[zv, .bool false] else zv, _, ?_, tup z2, k1⟩
        simp [Instr.lookup, run_und hu, MapKept.run_getObj_map e2, k3, k4, z1, Result.andThen]
       | some (i, v), some (j, u), ⟨_, hv, _⟩ =>
        refine ⟨if okf then .tuple #[u, .bool true] else u, _, ?_, tup hv, k1⟩
        simp [Instr.lookup, run_und hu, MapKept.run_getObj_map e2, k3, k4, z1, Result.andThen]
     ·exact hk.elim
    ·exact hk.elim
   ·exact hk.elim
  ·exact hk.elim
 ·exact hk.elim
theorem updK_sound (tok : TOk P ti) {h : Heap} {w : World} (s : Sim σ h w) {t : Nat} {m key v : AV} {mv kv vv : Value} (hm : VRel σ m mv) (hkey : VRel σ key kv) (hv : VRel σ v vv) {K : AV → Heap → Prop} (hk : updK ti h t m key v K) :
  ∃ h' w', (Instr.mapUpdate t mv kv vv).run P w = .ok () w' ∧ Mv σ h w σ h' w' ∧ K .u h' := by
 unfold updK at hk
 split at hk
 ·rename_i kt vt hkd
  obtain ⟨d, hd, hdk⟩ := kindOf_some hkd
  have hu := (tok t d hd).map hdk
  split at hk
  ·rename_i id ep
   split at hk
   ·rename_i ep' es ho
    obtain ⟨rfl, hk⟩ := hk
    cases hm with
    | @mp _ _ _ blk st sz n size hh =>
     obtain ⟨blk', st', sz', n', size', ents, clock, e1, e2, e3, ⟨e4, e4b⟩, e5⟩ := s.obj id _ ho
     rw [hh] at e1
     cases e1
     have hE : Ents σ es ents.toList := ⟨by rw [e4]; simp, fun i k v e x y => e5 i k v e x (by simpa using y)⟩
     obtain ⟨r, r', k1, k2, k3, k4, k5⟩ := findP_sound tok hE hkey hk w
     have hlt : blk < w.heap.size := (Array.getElem?_eq_some_iff.1 e2).1
     have move : ∀ {es' : List (AV × AV)} {ents' : Array MapEntry} {clock' : Nat}, (es'.length = ents'.size ∧ BornOk ents' clock') → (∀ (i : Nat) (k v : AV) (e : MapEntry), es'[i]? = some (k, v) → ents'[i]? = some e → VRel σ k e.key ∧ VRel σ v e.val) →
       Mv σ h w σ (h.set id (.map ep' es')) { w with heap := w.heap.setIfInBounds blk (.map ents' clock') } := by
      intro es' ents' clock' q1 q2
      have hs := MapKept.heap_set (o' := .map ents' clock') e2
      refine s.write (blk := blk) ho (by simp [AObj.blk, hh]) (by simp [AObj.blk, hh]) (fun b hb => hs.2 b hb) (by simp) ⟨rfl, rfl, rfl⟩ ?_
      exact ⟨blk, _, _, _, _, ents', clock', hh, hs.1, e3, q1, q2⟩
     match r, r', k2 with
     | none, none, _ =>
      refine ⟨_, _, ?_, move (es' := es ++ [(key, v)]) (ents' := ents.push { key := kv, val := vv, born := clock }) (clock' := clock + 1) ⟨by simp [e4], bornOk_push e4b _ _⟩ ?_, k1⟩
      ·simp [Instr.mapUpdate, run_und hu, MapKept.run_getObj_map e2, k3, k4, MapKept.run_setObj_map _ e2, Result.andThen]
      ·intro i k v' e x y
       rw [List.getElem?_append] at x
       split at x
       ·rename_i hi
        rw [Array.getElem?_push_lt (by omega)] at y
        exact e5 i k v' e x (by rw [Array.getElem?_eq_getElem (by omega)]; exact y)
       ·rename_i hi
        have hil : i = es.length := by
         have := (List.getElem?_eq_some_iff.1 x).1
         simp at this
         omega
        subst hil
        simp at x
        obtain ⟨rfl, rfl⟩ := x
        rw [e4] at y
        simp at y
        subst y
        exact ⟨hkey, hv⟩
     | some (i, v0), some (j, u), ⟨hij, hv0, e, x4, x5, x6⟩ =>
      subst hij
      have x4' : ents[i]? = some e := by simpa using x4
      refine ⟨_, _, ?_, move (es' := es.set i (key, v)) (ents' := ents.modify i fun e => { e with key := kv, val := vv }) (clock' := clock) ⟨by simp [e4], bornOk_modify e4b _ _ _⟩ ?_, k1⟩
      ·simp [Instr.mapUpdate, run_und hu, MapKept.run_getObj_map e2, k3, k4, x4', x6, k5, MapKept.run_setObj_map _ e2, Result.andThen]
      ·intro i' k v' e' x y
       rw [Array.getElem?_modify] at y
       by_cases hii : i = i'
       ·subst hii
        rw [if_pos rfl, x4'] at y
        simp at y
        subst y
        rw [List.getElem?_set_self'] at x
        cases hx : es[i]? with
        | none => rw [hx] at x; cases x
        | some q => rw [hx] at x; simp at x; obtain ⟨rfl, rfl⟩ := x; exact ⟨hkey, hv⟩
       ·rw [if_neg hii] at y
        rw [List.getElem?_set_ne hii] at x
        exact e5 i' k v' e' x y
   ·exact hk.elim
  ·exact hk.elim
 ·exact hk.elim
end
end Go.Ab

namespace Go.Ab
def rowK (d : TD) (r : Option (List AV)) (off : Nat) (K : AV → Prop) : Prop :=
 match r with
 | some row => (match aPart d.isAgg d.size off row with | some v => K v | none => False)
 | none => False
def readK (ti : TI) (ev : Operand → AV) (h : Heap) (op : Op) (K : AV → Prop) : Prop :=
 match op with
 | .load t p =>
  match ti t with
  | none => False
  | some d => match ev p with
   | .optr id ep _ i off => (match h[id]? with | some (.vec ep' rows) => ep' = ep ∧ rowK d rows[i]? off K | _ => False)
   | .lptr _ rows i off => rowK d rows[i]? off K
   | _ => False
 | .lookup t m ix okf => lookK ti h t (ev m) (ev ix) okf K
 | _ => False
def chunks (sz n : Nat) (cells : List AV) : List (List AV) := (List.range n).map fun i => (cells.drop (i * sz)).take sz
def allocK (ti : TI) (ev : Operand → AV) (id : Id) (h : Heap) (op : Op) (K : AV → Heap → Prop) : Prop :=
 match h[id]? with
 | none | some (.vec ..) | some (.map ..) => False
 | some .hole =>
 match op with
 | .alloc t => match ti t with | some d => ∀ ep, K (.optr id ep d.size 0 0) (h.set id (.vec ep [d.zero])) | none => False
 | .box t x => match ti t, (ev x).cells? with | some d, some cs => if cs.length = d.size then ∀ ep, K (.optr id ep d.size 0 0) (h.set id (.vec ep [cs])) else False | _, _ => False
 | .buildSlice t len parts =>
  match kindOf ti t with
  | some (.slice e) => match ti e with
   | some d => if len * d.size > 2 ^ 24 ∨ d.size = 0 then False else
    fillK (fun i => some (i * d.size, d.size)) ((List.replicate len d.zero).flatten) (parts.toList.map fun p => (p.1, ev p.2)) fun cs =>
     ∀ ep, K (.oslc id ep d.size 0 len false) (h.set id (.vec ep (chunks d.size len cs)))
   | none => False
  | _ => False
 | .makeSlice t l c =>
  match kindOf ti t, ev l, ev c with
  | some (.slice e), .int _ n, .int _ m => match ti e with
   | some d => (0 ≤ n ∧ n ≤ m ∧ (d.bytes : Int) * m ≤ 281474976710656 ∧ m ≤ 9223372036854775807) ∧
     ∀ ep, K (.oslc id ep d.size 0 n.toNat false) (h.set id (.vec ep (List.replicate n.toNat d.zero)))
   | none => False
  | _, _, _ => False
 | .makeMap t none => ∀ ep, K (.mp id ep) (h.set id (.map ep []))
 | _ => False
def elemsOf (h : Heap) (size : Nat) (x : AV) (K : List (List AV) → Prop) : Prop :=
 match x with
 | .oslc id ep sz off len _ => if sz = size then (match h[id]? with | some (.vec ep' rows) => ep' = ep ∧ K ((rows.drop off).take len) | _ => False) else False
 | .lslc sz rows off len _ => if sz = size then K ((rows.drop off).take len) else False
 | .nils => K []
 | _ => False
def nilEqK : AV → (Bool → Prop) → Prop
 | .nils, K => K true
 | .lslc _ _ _ n _, K | .oslc _ _ _ _ n _, K => (n = 0 → K true) ∧ K false
 | _, _ => False
def effK (ti : TI) (ev : Operand → AV) (id : Id) (h : Heap) (op : Op) (K : AV → Heap → Prop) : Prop :=
 match op with
 | .store t p v =>
  match ti t, (ev v).cells? with
  | some d, some cs => if cs.length = d.size then (match ev p with
   | .optr id ep _ i off => (match h[id]? with
    | some (.vec ep' rows) => ep' = ep ∧ (match rows[i]? with
     | some row => if off + d.size ≤ row.length then forceL (row.take off ++ cs ++ row.drop (off + d.size)) fun row' => K .u (h.set id (.vec ep (rows.set i row'))) else False
     | none => False)
    | _ => False)
   | _ => False) else False
  | _, _ => False
 | .call c =>
  match c.callee, c.args.toList with
  | .builtin .append, [s, x] =>
   match kindOf0 ti c.argTypes, (c.argTypes[1]?).bind (kindOf ti) with
   | some (.slice e), some (.slice _) => match ti e with
    | some d => if d.size = 0 then False else elemsOf h d.size (ev x) fun new =>
     match ev s with
     | .oslc id0 ep sz off len false => if sz = d.size then (match h[id0]? with
      | some (.vec ep' rows) => ep' = ep ∧ ((len + new.length) * d.bytes ≤ 140737488355328 ∧ len + new.length ≤ 9223372036854775807) ∧
        ∀ ep2, K (.oslc id0 ep2 sz 0 (len + new.length) false) (h.set id0 (.vec ep2 ((rows.drop off).take len ++ new)))
      | _ => False) else False
     | .nils | .oslc _ _ _ _ 0 true | .lslc _ _ _ 0 true => if h.has id = false then False else
       (new.length * d.bytes ≤ 140737488355328 ∧ new.length ≤ 9223372036854775807) ∧ ∀ ep2, K (.oslc id ep2 d.size 0 new.length false) (h.set id (.vec ep2 new))
     | _ => False
    | none => False
   | _, _ => False
  | .builtin .copy, [s, x] =>
   match kindOf0 ti c.argTypes with
   | some (.slice e) => match ti e with
    | some d => elemsOf h d.size (ev x) fun new =>
     match ev s with
     | .oslc id0 ep sz off len _ => if sz = d.size then (match h[id0]? with
      | some (.vec ep' rows) => ep' = ep ∧ K (.int .i64 ((min new.length len : Nat) : Int)) (h.set id0 (.vec ep (rows.take off ++ new.take len ++ rows.drop (off + (new.take len).length))))
      | _ => False) else False
     | _ => False
    | none => False
   | _ => False
  | .builtin .clear, [s] =>
   match kindOf0 ti c.argTypes with
   | some (.slice e) => match ti e with
    | some d => match ev s with
     | .oslc id0 ep sz off len _ => if sz = d.size then (match h[id0]? with
      | some (.vec ep' rows) => ep' = ep ∧ K (.tup []) (h.set id0 (.vec ep (rows.take off ++ List.replicate len d.zero ++ rows.drop (off + len))))
      | _ => False) else False
     | _ => False
    | none => False
   | _ => False
  | _, _ => False
 | .binOp op t x y _ =>
  match ev y, kindOf ti t with
  | .nils, some (.slice _) => (match op with
   | .eql => nilEqK (ev x) fun b => K (.bool b) h
   | .neq => nilEqK (ev x) fun b => K (.bool !b) h
   | _ => False)
  | _, _ => False
 | .mapUpdate t m k v => updK ti h t (ev m) (ev k) (ev v) K
 | _ => False
section
variable {P : Program} {ti : TI} {σ : Sg}
theorem cell?_of {w : World} {blk : Nat} {cs : Array Value} {T : TypeId} {fz : Nat × Nat} (h : w.heap[blk]? = some (.cells cs T fz)) (o : Nat) : w.cell? ⟨blk, o, none⟩ = cs[o]? := by
 simp [World.cell?, h]
theorem frozen?_of {w : World} {blk : Nat} {cs : Array Value} {T : TypeId} (h : w.heap[blk]? = some (.cells cs T (0, 0))) (o : Nat) : w.frozen? ⟨blk, o, none⟩ = false := by
 simp [World.frozen?, h]
theorem add_mk (b o n : Nat) : Addr.add ⟨b, o, none⟩ n = ⟨b, o + n, none⟩ := by
 unfold Addr.add; split
 ·rename_i h; subst h; rfl
 ·rfl
def RowAt (σ : Sg) (w : World) (b o : Nat) (row : List AV) : Prop := ∀ (j : Nat) (c : AV), row[j]? = some c → ∃ v, w.cell? ⟨b, o + j, none⟩ = some v ∧ v.oneCell' = true ∧ VRel σ c v
theorem rowAt_obj {h : Heap} {w : World} (s : Sim σ h w) {id : Id} {ep i : Nat} {rows : List (List AV)} {row : List AV} (ho : h[id]? = some (.vec ep rows)) (hr : rows[i]? = some row)
  {blk st sz n size : Nat} (hp : σ.ρ id ep = some (.at blk st sz n size)) : RowAt σ w blk (st + i * sz) row ∧ row.length = sz := by
 rcases s.obj id _ ho with ⟨rfl, _⟩ | ⟨blk', st', sz', n', size', cs, T, h1, h2, h3, h4, h5, h6, h7, h8⟩
 ·simp at hr
 ·rw [hp] at h1
  cases h1
  refine ⟨fun j c hc => ?_, h7 i row hr⟩
  obtain ⟨v, e1, e2, e3⟩ := h8 i j c (by simp [cellAt, hr, hc])
  exact ⟨v, by rw [cell?_of h2]; exact e1, e2, e3⟩
theorem rowAt_lit {h : Heap} {w : World} (s : Sim σ h w) {sz blk st i : Nat} {rows : List (List AV)} {row : List AV} {g : Nat → Nat → Value}
  (hc : ∀ (i j : Nat) (c : AV), cellAt rows i j = some c → ∃ cs, σ.FM blk = some cs ∧ cs[st + i * sz + j]? = some (g i j))
  (ho : ∀ (i j : Nat) (c : AV), cellAt rows i j = some c → (g i j).oneCell' = true)
  (hv : ∀ (i j : Nat) (c : AV), cellAt rows i j = some c → VRel σ.pure c (g i j)) (hr : rows[i]? = some row) : RowAt σ w blk (st + i * sz) row := by
 intro j c hj
 have hcell : cellAt rows i j = some c := by simp [cellAt, hr, hj]
 obtain ⟨cs, e1, e2⟩ := hc i j c hcell
 obtain ⟨T, fz, e3⟩ := s.fm _ _ e1
 exact ⟨g i j, by rw [cell?_of e3]; exact e2, ho i j c hcell, (hv i j c hcell).mono σ.pure_le⟩
theorem RowAt.vals {w : World} {b o : Nat} {row : List AV} (h : RowAt σ w b o row) : ∃ vs : List Value, CRels σ row vs ∧ ∀ (j : Nat) (v : Value), vs[j]? = some v → w.cell? (Addr.add ⟨b, o, none⟩ j) = some v := by
 refine ⟨(List.range row.length).map fun j => (w.cell? ⟨b, o + j, none⟩).getD undef, ⟨⟨by simp, fun i a v x y => ?_⟩, fun v hv => ?_⟩, fun j v hv => ?_⟩
 ·obtain ⟨v', h1, h2, h3⟩ := h i a x
  simp only [List.getElem?_map, Option.map_eq_some_iff] at y
  obtain ⟨k, hk, rfl⟩ := y
  obtain ⟨hk1, hk2⟩ := List.getElem?_eq_some_iff.1 hk
  simp at hk2
  subst hk2
  rw [h1]
  exact h3
 ·simp only [List.mem_map, List.mem_range] at hv
  obtain ⟨k, hk, rfl⟩ := hv
  obtain ⟨v', h1, h2, h3⟩ := h k _ (List.getElem?_eq_getElem hk)
  rw [h1]
  exact h2
 ·simp only [List.getElem?_map, Option.map_eq_some_iff] at hv
  obtain ⟨k, hk, rfl⟩ := hv
  obtain ⟨hk1, hk2⟩ := List.getElem?_eq_some_iff.1 hk
  simp at hk1 hk2
  subst hk2
  obtain ⟨v', h1, h2, h3⟩ := h j _ (List.getElem?_eq_getElem hk1)
  rw [add_mk, h1]
  rfl
theorem RowAt.drop {w : World} {b o : Nat} {row : List AV} (h : RowAt σ w b o row) (n : Nat) : RowAt σ w b (o + n) (row.drop n) := by
 intro j c hj
 rw [List.getElem?_drop] at hj
 obtain ⟨v, a, b⟩ := h _ c hj
 exact ⟨v, by rw [Nat.add_assoc]; exact a, b⟩
theorem RowAt.take {w : World} {b o : Nat} {row : List AV} (h : RowAt σ w b o row) (n : Nat) : RowAt σ w b o (row.take n) := by
 intro j c hj
 rw [List.getElem?_take] at hj
 split at hj
 ·exact h j c hj
 ·cases hj
theorem load_row (tok : TOk P ti) {t : Nat} {d : TD} (hd : ti t = some d) {w : World} {b o off : Nat} {row : List AV} (h : RowAt σ w b o row) {a : AV} (ha : aPart d.isAgg d.size off row = some a) :
  ∃ v, (Instr.loadAt t (.pointer (some ⟨b, o + off, none⟩))).run P w = .ok v w ∧ VRel σ a v := by
 unfold aPart at ha
 split at ha
 ·rename_i hl
  cases hg : d.isAgg with
  | true =>
   simp only [hg, if_true, Option.some.injEq] at ha
   subst ha
   obtain ⟨vs, h1, h2⟩ := ((h.drop off).take d.size).vals
   have hlen : vs.length = d.size := by have := h1.1.1; simp at this; omega
   refine ⟨.agg vs.toArray, ?_, .agg (by have := h1.1.1; simpa using this) (by simpa using h1.2) (fun i c v x y => h1.1.2 i c v x (by simpa using y))⟩
   have := run_loadCells_list (P := P) w ⟨b, o + off, none⟩ vs h2
   rw [hlen] at this
   simp [Instr.loadAt, Instr.sureAddr, loadVar, (tok _ _ hd).run_isAgg, hg, (tok _ _ hd).run_sizeOf, this]
  | false =>
   simp only [hg, Bool.false_eq_true, if_false] at ha
   obtain ⟨v, h1, h2, h3⟩ := h off a ha
   exact ⟨v, by simp [Instr.loadAt, Instr.sureAddr, loadVar, (tok _ _ hd).run_isAgg, hg, h1], h3⟩
 ·cases ha
theorem read_sound (tok : TOk P ti) {ev : Operand → AV} {ρ : Operand → Value} (hr : OpRel σ ev ρ) {h : Heap} {w : World} (s : Sim σ h w) (o : Oper) {K : AV → Prop} (hk : readK ti ev h o.op K) :
  ∃ v r, (execOp ρ o).run P w = .ok (.value v) w ∧ VRel σ r v ∧ K r := by
 obtain ⟨dst, op, type, pos, after, guard⟩ := o
 simp only at hk
 unfold readK at hk
 split at hk
 ·rename_i t p
  have hp := hr p
  split at hk
  ·exact hk.elim
  ·rename_i d hd
   have fin : ∀ (b st off : Nat) (row : List AV), ρ p = .pointer (some ⟨b, st + off, none⟩) → RowAt σ w b st row → rowK d (some row) off K →
     ∃ v r, (execOp ρ ⟨dst, .load t p, type, pos, after, guard⟩).run P w = .ok (.value v) w ∧ VRel σ r v ∧ K r := by
    intro b st off row e1 e2 e3
    unfold rowK at e3
    simp only at e3
    split at e3
    ·rename_i v hv
     obtain ⟨u, h1, h2⟩ := load_row tok hd e2 hv
     exact run_v ⟨u, v, by rw [e1]; exact h1, h2, e3⟩
    ·exact e3.elim
   split at hk
   ·rename_i id ep sz i off e
    rw [e] at hp
    generalize hv : ρ p = u at hp fin
    cases hp with
    | @optr _ _ _ _ _ _ blk st n size hh =>
     split at hk
     ·rename_i ep' rows ho
      obtain ⟨rfl, hk⟩ := hk
      cases hrow : rows[i]? with
      | none => rw [hrow] at hk; exact hk.elim
      | some row =>
       rw [hrow] at hk
       exact fin _ _ _ _ rfl (rowAt_obj s ho hrow hh).1 hk
     ·exact hk.elim
   ·rename_i sz rows i off e
    rw [e] at hp
    generalize hv : ρ p = u at hp fin
    cases hp with
    | lptr g hw hc ho hv' =>
     cases hrow : rows[i]? with
     | none => rw [hrow] at hk; exact hk.elim
     | some row =>
      rw [hrow] at hk
      exact fin _ _ _ _ rfl (rowAt_lit s hc ho hv' hrow) hk
   ·exact hk.elim
 ·rename_i t m ix okf
  obtain ⟨v, r, h1, h2, h3⟩ := lookK_sound tok s (hr m) (hr ix) hk
  exact ⟨v, r, by simp [execOp, h1], h2, h3⟩
 ·exact hk.elim
end
def appE (ti : TI) (ev : Operand → AV) (h : Heap) (c : Call) (K : AV → Heap → Prop) : Prop :=
 match c.args.toList with
 | [s, x] =>
  match kindOf0 ti c.argTypes, (c.argTypes[1]?).bind (kindOf ti) with
  | some (.slice e), some (.slice _) => match ti e with
   | some d => if d.size = 0 then False else elemsOf h d.size (ev x) fun new =>
    match ev s with
    | .oslc id0 ep sz _ len false => if sz = d.size then len = 0 ∧ h[id0]? = some (.vec ep []) ∧ (new.length * d.bytes ≤ 140737488355328 ∧ new.length ≤ 9223372036854775807) ∧
      ∀ ep2, K (.oslc id0 ep2 sz 0 new.length false) (h.set id0 (.vec ep2 new)) else False
    | _ => False
   | none => False
  | _, _ => False
 | _ => False
end Go.Ab

namespace Go.Ab
section
variable {P : Program} {ti : TI} {σ : Sg}
theorem Sim.newFM {h : Heap} {w : World} (s : Sim σ h w) : σ.FM w.heap.size = none := by
 cases hf : σ.FM w.heap.size with
 | none => rfl
 | some cs =>
  obtain ⟨T, fz, hx⟩ := s.fm _ _ hf
  have := (Array.getElem?_eq_some_iff.1 hx).1
  omega
theorem Sim.allocRows {h : Heap} {w w' : World} (s : Sim σ h w) (id : Id) (rows : List (List AV)) (sz : Nat) (cs : Array Value) (T : TypeId)
  (hrow : ∀ (i : Nat) (row : List AV), rows[i]? = some row → row.length = sz) (hsz : rows.length * sz ≤ cs.size)
  (hc : ∀ (i j : Nat) (c : AV), cellAt rows i j = some c → ∃ v, cs[i * sz + j]? = some v ∧ v.oneCell' = true ∧ VRel σ c v)
  (hw : w'.heap = w.heap.push (.cells cs T)) (ho : SameOut w w') :
  ∃ ep σ', Mv σ h w σ' (h.set id (.vec ep rows)) w' ∧ σ'.ρ id ep = some (.at w.heap.size 0 sz rows.length cs.size) := by
 refine s.alloc id (.cells cs T) 0 sz rows.length cs.size (fun ep => .vec ep rows) (fun ep => rfl) hw ho fun ep σ' hle hρ hFM => ?_
 refine .inr ⟨w.heap.size, 0, sz, rows.length, cs.size, cs, T, hρ, by rw [hw]; simp, rfl, rfl, by omega, by rw [hFM]; exact s.newFM, hrow, fun i j c hcell => ?_⟩
 obtain ⟨v, h1, h2, h3⟩ := hc i j c hcell
 exact ⟨v, by rw [Nat.zero_add]; exact h1, h2, h3.mono hle⟩
theorem Sim.allocNil {h : Heap} {w : World} (s : Sim σ h w) (id : Id) : ∃ ep σ', Mv σ h w σ' (h.set id (.vec ep [])) w ∧ σ'.ρ id ep = some .nil := by
 obtain ⟨e0, he0⟩ := s.fresh
 let σ' : Sg := { ρ := fun i e => if i = id ∧ e = e0 then some .nil else σ.ρ i e, FM := σ.FM, RM := σ.RM }
 have hle : Sg.Le σ σ' := by
  refine ⟨fun i e pl hp => ?_, fun _ _ x => x, fun _ _ x => x⟩
  show (if i = id ∧ e = e0 then _ else σ.ρ i e) = _
  rw [if_neg]
  ·exact hp
  ·rintro ⟨rfl, rfl⟩
   rw [he0 _ e (Nat.le_refl _)] at hp
   cases hp
 have hnew : σ'.ρ id e0 = some .nil := by show (if id = id ∧ e0 = e0 then _ else _) = _; simp
 have hother : ∀ (i : Id) (o : AObj), i ≠ id → (h.set id (.vec e0 []))[i]? = some o → h[i]? = some o := fun i o hi ho => by
  rw [Heap.getElem?_set_ne (Ne.symm hi)] at ho; exact ho
 have hthis : ∀ (o : AObj), (h.set id (.vec e0 []))[id]? = some o → o = .vec e0 [] := fun o ho => by
  rw [Heap.getElem?_set_self'] at ho
  cases hh : h[id]? with
  | none => simp [hh] at ho
  | some x => simpa [hh] using ho.symm
 have hb : ∀ (i : Id) (o : AObj) (b : Nat), (h.set id (.vec e0 []))[i]? = some o → o.blk σ' i = some b → h[i]? = some o ∧ o.blk σ i = some b := fun i o b ho hbx => by
  by_cases hi : i = id
  ·subst hi
   rw [hthis o ho] at hbx
   simp [AObj.blk, hnew] at hbx
  ·have h1 := hother i o hi ho
   rw [blk_le (s.obj i o h1) hle] at hbx
   exact ⟨h1, hbx⟩
 refine ⟨e0, σ', ⟨hle, ⟨s.fm, ?_, ?_, ?_, s.rm⟩, rfl, rfl, rfl, Nat.le_refl _, fun _ _ _ => rfl, ?_, fun _ x => .inl x⟩, hnew⟩
 ·intro i o ho
  by_cases hi : i = id
  ·subst hi
   rw [hthis o ho]
   exact .inl ⟨rfl, hnew⟩
  ·have h1 := hother i o hi ho
   exact (s.obj i o h1).keep hle fun b hbx => ⟨rfl, Live.noFM s ⟨i, o, h1, hbx⟩⟩
 ·intro i j oi oj b hi hj bi bj
  obtain ⟨a1, a2⟩ := hb i oi b hi bi
  obtain ⟨b1, b2⟩ := hb j oj b hj bj
  exact s.apart i j oi oj b a1 b1 a2 b2
 ·refine ⟨e0 + 1, fun i ep hep => ?_⟩
  show (if i = id ∧ ep = e0 then _ else σ.ρ i ep) = none
  rw [if_neg (fun x => absurd x.2 (by omega))]
  exact he0 i ep (by omega)
 ·rintro b ⟨i, o, ho, hbx⟩
  obtain ⟨a1, a2⟩ := hb i o b ho hbx
  exact .inl ⟨i, o, a1, a2⟩
theorem cellAt_one {row : List AV} {i j : Nat} {c : AV} (h : cellAt [row] i j = some c) : i = 0 ∧ row[j]? = some c := by
 cases i with
 | zero => exact ⟨rfl, by simpa [cellAt] using h⟩
 | succ i => simp [cellAt] at h
theorem alloc_one {h : Heap} {w w' : World} (s : Sim σ h w) (id : Id) {row : List AV} {cs : Array Value} {T : TypeId} (hr : CRels σ row cs.toList)
  (hw : w'.heap = w.heap.push (.cells cs T)) (ho : SameOut w w') :
  ∃ ep σ', Mv σ h w σ' (h.set id (.vec ep [row])) w' ∧ VRel σ' (.optr id ep row.length 0 0) (.pointer (some ⟨w.heap.size, 0, none⟩)) := by
 have hl : row.length = cs.size := by have := hr.1.1; simpa using this
 obtain ⟨ep, σ', m, hp⟩ := s.allocRows id [row] row.length cs T (fun i r h => by
  cases i with
  | zero => simp at h; rw [h]
  | succ i => simp at h) (by simp [hl]) (fun i j c hc => by
  obtain ⟨rfl, hj⟩ := cellAt_one hc
  have hlt : j < cs.size := by have := (List.getElem?_eq_some_iff.1 hj).1; omega
  refine ⟨cs[j], by simp, hr.2 _ (by simp), hr.1.2 j c _ hj (by simp)⟩) hw ho
 refine ⟨ep, σ', m, ?_⟩
 have := VRel.optr (i := 0) (off := 0) hp
 simpa using this
theorem zeros_flat {d : TD} {t : Nat} (hd : DOk P t d) (n : Nat) : (List.replicate n d.zero).flatten.length = n * d.size := by
 obtain ⟨i, z, _, _, _, _, _, h, _⟩ := hd.info
 simp [h]
theorem flat_get (l : List AV) (n i j : Nat) (hi : i < n) (hj : j < l.length) : (List.replicate n l).flatten[i * l.length + j]? = l[j]? := by
 induction n generalizing i with
 | zero => omega
 | succ n ih =>
  simp only [List.replicate_succ, List.flatten_cons]
  cases i with
  | zero => simp [List.getElem?_append_left hj]
  | succ i =>
   rw [List.getElem?_append_right (by rw [Nat.succ_mul]; omega), show (i + 1) * l.length + j - l.length = i * l.length + j from by rw [Nat.succ_mul]; omega]
   exact ih i (by omega)
theorem made_rel {t : Nat} {d : TD} (hd : DOk P t d) (w : World) {z : Value} (hz : (zeroValue t).run P w = .ok z w) (n : Nat) (hs : d.size ≠ 0) :
  CRels σ (List.replicate n d.zero).flatten ((Array.range (n * d.size)).map (z.cells[· % z.cells.size]!)).toList := by
 obtain ⟨z', h1, h2, h3⟩ := zero_rel (σ := σ) hd w
 rw [hz] at h1
 cases h1
 have hl : d.zero.length = d.size := by have := h3.1.1; simp at this; omega
 refine ⟨⟨by simp [hl], fun k a v x y => ?_⟩, fun v hv => ?_⟩
 ·have hk : k < n * d.size := by have := (List.getElem?_eq_some_iff.1 x).1; simpa [hl] using this
  have e : k = k / d.size * d.zero.length + k % d.size := by rw [hl, Nat.mul_comm]; exact (Nat.div_add_mod k d.size).symm
  have hm : k % d.size < d.size := Nat.mod_lt _ (by omega)
  have hdv : k / d.size < n := Nat.div_lt_of_lt_mul (by rw [Nat.mul_comm]; exact hk)
  rw [e, flat_get _ _ _ _ hdv (by omega)] at x
  simp only [Array.toList_map, Array.toList_range, List.getElem?_map, List.getElem?_range hk, Option.map_some, Option.some.injEq] at y
  subst y
  rw [h2]
  refine h3.1.2 (k % d.size) a _ x ?_
  have : k % d.size < z.cells.size := by omega
  simp [getElem!_pos, this]
 ·simp only [Array.toList_map, Array.toList_range, List.mem_map, List.mem_range] at hv
  obtain ⟨k, hk, rfl⟩ := hv
  have : k % z.cells.size < z.cells.size := Nat.mod_lt _ (by omega)
  rw [getElem!_pos z.cells _ this]
  exact h3.2 _ (by simp)
theorem chunks_cell {sz n : Nat} {cells : List AV} {i j : Nat} {c : AV} (h : cellAt (chunks sz n cells) i j = some c) : i < n ∧ j < sz ∧ cells[i * sz + j]? = some c := by
 unfold cellAt chunks at h
 cases hi : ((List.range n).map fun i => (cells.drop (i * sz)).take sz)[i]? with
 | none => rw [hi] at h; cases h
 | some row =>
  rw [hi] at h
  simp only [List.getElem?_map, Option.map_eq_some_iff] at hi
  obtain ⟨k, hk, rfl⟩ := hi
  obtain ⟨h1, h2⟩ := List.getElem?_eq_some_iff.1 hk
  simp at h1 h2
  subst h2
  simp only [Option.bind_some, List.getElem?_take, List.getElem?_drop] at h
  split at h
  ·exact ⟨h1, by assumption, h⟩
  ·cases h
theorem chunks_row {sz n : Nat} {cells : List AV} (hl : cells.length = n * sz) {i : Nat} {row : List AV} (h : (chunks sz n cells)[i]? = some row) : row.length = sz := by
 unfold chunks at h
 simp only [List.getElem?_map, Option.map_eq_some_iff] at h
 obtain ⟨k, hk, rfl⟩ := h
 obtain ⟨h1, h2⟩ := List.getElem?_eq_some_iff.1 hk
 simp at h1 h2
 subst h2
 simp only [List.length_take, List.length_drop, hl]
 have : (i + 1) * sz ≤ n * sz := Nat.mul_le_mul_right _ (by omega)
 rw [Nat.succ_mul] at this
 omega
theorem fillK_length : ∀ (parts : List (Nat × AV)) (place : Nat → Option (Nat × Nat)) (cells : List AV) (K : List AV → Prop), fillK place cells parts K → fillK place cells parts fun cs => cs.length = cells.length ∧ K cs := by
 intro parts
 induction parts with
 | nil => intro place cells K h; exact ⟨rfl, h⟩
 | cons p r ih =>
  intro place cells K h
  obtain ⟨i, v⟩ := p
  unfold fillK at h ⊢
  split at h
  ·rename_i off size cs h1 h2
   split at h
   ·rename_i hh
    simp only [h1, h2, hh, and_self, if_true]
    have := ih place _ K h
    have e : (cells.take off ++ cs ++ cells.drop (off + size)).length = cells.length := by simp; omega
    rw [e] at this
    exact this
   ·exact h.elim
  ·exact h.elim
theorem alloc_sound (tok : TOk P ti) {ev : Operand → AV} {ρ : Operand → Value} (hr : OpRel σ ev ρ) {h : Heap} {w : World} (s : Sim σ h w) (id : Id) (o : Oper) {K : AV → Heap → Prop}
  (hk : allocK ti ev id h o.op K) :
  ∃ v r σ' h' w', (execOp ρ o).run P w = .ok (.value v) w' ∧ Mv σ h w σ' h' w' ∧ VRel σ' r v ∧ K r h' := by
 obtain ⟨dst, op, type, pos, after, guard⟩ := o
 simp only at hk
 unfold allocK at hk
 split at hk
 ·exact hk.elim
 ·exact hk.elim
 ·exact hk.elim
 rename_i hid
 split at hk
 ·
  rename_i t
  split at hk
  ·rename_i d hd
   obtain ⟨z, h1, h2, h3⟩ := zero_rel (σ := σ) (tok _ _ hd) w
   obtain ⟨ep, σ', m, hv⟩ := alloc_one (w' := { w with heap := w.heap.push (.cells z.cells t) }) s id h3 rfl ⟨rfl, rfl, rfl⟩
   have hl : d.zero.length = d.size := by have := h3.1.1; simp at this; omega
   rw [hl] at hv
   exact ⟨_, _, σ', _, _, by simp [execOp, Instr.alloc, h1, newVar, newRow], m, hv, hk ep⟩
  ·exact hk.elim
 ·
  rename_i t x
  split at hk
  ·rename_i d cs hd hcs
   split at hk
   ·rename_i hl
    obtain ⟨ep, σ', m, hv⟩ := alloc_one (w' := { w with heap := w.heap.push (.cells (ρ x).cells t) }) s id ((hr x).cells hcs) rfl ⟨rfl, rfl, rfl⟩
    rw [hl] at hv
    exact ⟨_, _, σ', _, _, by simp [execOp, Instr.box, newVar, newRow], m, hv, hk ep⟩
   ·exact hk.elim
  ·exact hk.elim
 ·
  rename_i t len parts
  split at hk
  ·rename_i e e1
   obtain ⟨dt, hdt, hkt⟩ := kindOf_some e1
   have hu := (tok _ _ hdt).slice hkt
   split at hk
   ·rename_i d hd
    split at hk
    ·exact hk.elim
    ·rename_i hns
     have hns1 : ¬ (len * d.size > 2 ^ 24) := fun hh => hns (.inl hh)
     have hns2 : d.size ≠ 0 := fun hh => hns (.inr hh)
     obtain ⟨z, hz1, hz2, hz3⟩ := zero_rel (σ := σ) (tok _ _ hd) w
     have hm := made_rel (σ := σ) (tok _ _ hd) w hz1 len hns2
     have hparts : ∀ (i : Nat) (p : Nat × AV) (q : Nat × Value), (parts.toList.map fun p => (p.1, ev p.2))[i]? = some p → (parts.toList.map fun p => (p.1, ρ p.2))[i]? = some q → p.1 = q.1 ∧ VRel σ p.2 q.2 := by
      intro i p q x y
      simp only [List.getElem?_map, Option.map_eq_some_iff] at x y
      obtain ⟨o, h1, rfl⟩ := x
      obtain ⟨o', h2, rfl⟩ := y
      rw [h1] at h2
      cases h2
      exact ⟨rfl, hr _⟩
     have hpl : (parts.map fun x => match x with | (i, x) => (i, ρ x)).toList = parts.toList.map fun p => (p.1, ρ p.2) := by simp
     obtain ⟨cs', h1, cells', h2, h3, h4⟩ := fill_sound _ (parts.toList.map fun p => (p.1, ρ p.2)) _ _ _ _ (fillK_length _ _ _ _ hk) hm (by simp) hparts
     rw [zeros_flat (tok _ _ hd)] at h3
     have hcl : cells'.length = cs'.size := by have := h2.1.1; simpa using this
     obtain ⟨ep, σ', m, hp⟩ := s.allocRows (w' := { w with heap := w.heap.push (.cells cs' e) }) id (chunks d.size len cells') d.size cs' e (fun i row hh => chunks_row h3 hh) (by simp [chunks]; omega)
      (fun i j c hc => by
       obtain ⟨a1, a2, a3⟩ := chunks_cell hc
       have hlt := (List.getElem?_eq_some_iff.1 a3).1
       exact ⟨cs'[i * d.size + j]'(by omega), by simp, h2.2 _ (by simp), h2.1.2 _ c _ a3 (by simp)⟩) rfl ⟨rfl, rfl, rfl⟩
     have hcl2 : (chunks d.size len cells').length = len := by simp [chunks]
     refine ⟨.slice (some ⟨w.heap.size, 0, none⟩) len len, _, σ', _, _, ?_, m, ?_, h4 ep⟩
     ·have hzz : (if len * d.size = 0 then pure #[] else do pure (← zeroValue e).cells : Sem (Array Value)).run P w = .ok (if len * d.size = 0 then #[] else z.cells) w := by
       split <;> simp [hz1]
      by_cases h0 : len * d.size = 0
      ·have hl0 : len = 0 := by
        rcases Nat.mul_eq_zero.1 h0 with h | h
        ·exact h
        ·exact absurd h hns2
       subst hl0
       have h1' : Instr.fill (fun i => some (i * d.size, d.size)) (Array.map (fun x => (#[] : Array Value)[x % (#[] : Array Value).size]!) (Array.range 0)) (parts.toList.map fun p => (p.1, ρ p.2)) = some cs' := by
        rw [← h1]
        congr 1
        apply Array.ext'
        simp [Array.toList_range]
       simp only [execOp, Instr.buildSlice, Sem.run_bind, run_und hu, Result.andThen_ok, (tok _ _ hd).run_sizeOf, h0, show ¬ (0 > 2 ^ 24) from by decide, if_false, if_true, Sem.run_pure, pure_bind, hpl, h1', newRow, run_newObj]
      ·simp only [execOp, Instr.buildSlice, Sem.run_bind, run_und hu, Result.andThen_ok, (tok _ _ hd).run_sizeOf, hns1, if_false, h0, hz1, Sem.run_pure, pure_bind, hpl, h1, newRow, run_newObj]
     ·have := VRel.oslc (σ := σ') (lim := false) (off := 0) (len := len) (cap := len) hp (by simp [hcl2]) (fun _ => by simp [hcl2]) (fun x => by cases x) (by simp; omega) (Nat.le_refl _)
      simpa using this
   ·exact hk.elim
  ·exact hk.elim
 ·
  rename_i t l c
  have hl := hr l
  have hc := hr c
  split at hk
  ·rename_i e k1 n k2 mm e1 e2 e3
   obtain ⟨dt, hdt, hkt⟩ := kindOf_some e1
   have hu := (tok _ _ hdt).slice hkt
   rw [e2] at hl
   rw [e3] at hc
   have hvl := toNat_int hl
   have hvc := toNat_int hc
   split at hk
   ·rename_i d hd
    obtain ⟨⟨b1, b2, b3, b4⟩, hk⟩ := hk
    obtain ⟨z, hz1, hz2, hz3⟩ := zero_rel (σ := σ) (tok _ _ hd) w
    obtain ⟨n, rfl⟩ := Int.eq_ofNat_of_zero_le b1
    obtain ⟨mm, rfl⟩ := Int.eq_ofNat_of_zero_le (Int.le_trans b1 b2)
    obtain ⟨z', hz1', _, _, _, i, hi1, hi2, hi3, hi4⟩ := (tok _ _ hd).run_zero w
    rw [hz1] at hz1'
    cases hz1'
    have hrun := run_make (P := P) w t e i z hu hi1 hi2 k1 k2 (n : Int) (mm : Int) b1 b2 (by rw [hi4]; exact b3) b4
    have hzl : d.zero.length = d.size := by have := hz3.1.1; simp at this; omega
    have hsize : (madeCells z.cells (mm * i.size)).size = mm * d.size := by rw [size_madeCells, hi3]
    have hnm : n ≤ mm := by omega
    have hmul : n * d.size ≤ mm * d.size := Nat.mul_le_mul_right _ hnm
    obtain ⟨ep, σ', m, hp⟩ := s.allocRows (w' := w.alloc (.cells (madeCells z.cells (mm * i.size)) e)) id (List.replicate n d.zero) d.size (madeCells z.cells (mm * i.size)) e
     (fun i row hh => by
      have := List.mem_of_getElem? hh
      rw [(List.mem_replicate.1 this).2]; exact hzl) (by simp [hsize]; exact hmul)
     (fun i' j c hc => by
      unfold cellAt at hc
      cases hrow : (List.replicate n d.zero)[i']? with
      | none => rw [hrow] at hc; cases hc
      | some row =>
       rw [hrow] at hc
       have hi' : i' < n := by have := (List.getElem?_eq_some_iff.1 hrow).1; simpa using this
       have : row = d.zero := (List.mem_replicate.1 (List.mem_of_getElem? hrow)).2
       subst this
       simp only [Option.bind_some] at hc
       have hj : j < d.size := by have := (List.getElem?_eq_some_iff.1 hc).1; omega
       have hpos : i' * d.size + j < mm * d.size := by
        have : (i' + 1) * d.size ≤ mm * d.size := Nat.mul_le_mul_right _ (by omega)
        rw [Nat.succ_mul] at this
        omega
       have hmod : (i' * d.size + j) % d.size = j := by rw [Nat.mul_comm, Nat.mul_add_mod]; exact Nat.mod_eq_of_lt hj
       have hjz : j < z.cells.size := by omega
       refine ⟨z.cells[j], ?_, hz3.2 _ (by simp), hz3.1.2 j c _ hc (by simp)⟩
       unfold madeCells
       rw [hi3]
       simp only [Array.getElem?_map, Array.getElem?_range]
       rw [if_pos hpos]
       simp only [Option.map_some, hz2, hmod]
       rw [getElem!_pos z.cells j hjz]) rfl ⟨rfl, rfl, rfl⟩
    refine ⟨_, _, σ', _, _, by simp only [execOp, hvl, hvc, Sem.run_bind, hrun, Result.andThen_ok, Sem.run_pure]; rfl, m, ?_, hk ep⟩
    have := VRel.oslc (σ := σ') (lim := false) (off := 0) (len := n) (cap := mm) hp (by simp) (fun _ => by simp; omega) (fun x => by cases x) (by rw [hsize]; simp) hnm
    simpa using this
   ·exact hk.elim
  ·exact hk.elim
 ·
  rename_i t
  obtain ⟨ep, σ', m, hp⟩ := s.alloc (w' := { w with heap := w.heap.push (.map #[] 0) }) id (.map #[] 0) 0 0 0 0 (fun ep => .map ep []) (fun _ => rfl) rfl ⟨rfl, rfl, rfl⟩ (fun ep σ' hle hρ hFM =>
   ⟨w.heap.size, 0, 0, 0, 0, #[], 0, hρ, by simp, by rw [hFM]; exact s.newFM, ⟨rfl, bornOk_nil _⟩, fun i k v e hh => by simp at hh⟩)
  exact ⟨_, _, σ', _, _, by simp [execOp, Instr.makeMap], m, .mp hp, hk ep⟩
 ·exact hk.elim
end
end Go.Ab

namespace Go.Ab
section
variable {P : Program} {ti : TI} {σ : Sg}
def over (off : Nat) (vs : List Value) (cs : Array Value) : Array Value := ((cs.toList.take off) ++ vs ++ (cs.toList.drop (off + vs.length))).toArray
theorem over_get {off : Nat} {vs : List Value} {cs : Array Value} (h : off + vs.length ≤ cs.size) (k : Nat) :
  (over off vs cs)[k]? = if k < off then cs[k]? else if k < off + vs.length then vs[k - off]? else cs[k]? := by
 simp only [over, List.getElem?_toArray, List.append_assoc, List.getElem?_append, List.length_take, Array.length_toList, List.getElem?_take, List.getElem?_drop, Array.getElem?_toList]
 have hm : min off cs.size = off := by omega
 rw [hm]
 split
 ·simp [*]
 ·split
  ·rw [if_pos (by omega)]
  ·rw [if_neg (by omega)]
   congr 1
   omega
theorem over_size {off : Nat} {vs : List Value} {cs : Array Value} (h : off + vs.length ≤ cs.size) : (over off vs cs).size = cs.size := by
 simp [over]; omega
theorem run_storeCells' (blk : Nat) (T : TypeId) : ∀ (vs : List Value) (i o : Nat) (cs : Array Value) (w : World), w.heap[blk]? = some (.cells cs T (0, 0)) → o + i + vs.length ≤ cs.size → (∀ v ∈ vs, v.oneCell' = true) →
  ∃ w', (storeCells ⟨blk, o, none⟩ vs i).run P w = .ok () w' ∧ SameOut w w' ∧ w'.heap.size = w.heap.size ∧ (∀ b, b ≠ blk → w'.heap[b]? = w.heap[b]?) ∧
   w'.heap[blk]? = some (.cells (over (o + i) vs cs) T (0, 0)) := by
 intro vs
 induction vs with
 | nil =>
  intro i o cs w h hl hv
  refine ⟨w, by simp [storeCells], .refl _, rfl, fun _ _ => rfl, ?_⟩
  rw [h]
  congr 2
  apply Array.ext'
  simp [over]
 | cons v vs ih =>
  intro i o cs w h hl hv
  simp only [List.length_cons] at hl
  have hlt : o + i < cs.size := by omega
  have hc : w.cell? (Addr.add ⟨blk, o, none⟩ i) = some cs[o + i] := by rw [add_mk, cell?_of h]; simp
  have hf : w.frozen? (Addr.add ⟨blk, o, none⟩ i) = false := by rw [add_mk, frozen?_of h]
  have hv1 : v.oneCell' = true := hv v (by simp)
  let w1 := w.setCell (Addr.add ⟨blk, o, none⟩ i) v
  have hw1 : w1.heap[blk]? = some (.cells (cs.setIfInBounds (o + i) v) T (0, 0)) := by
   show (w.setCell (Addr.add ⟨blk, o, none⟩ i) v).heap[blk]? = _
   rw [add_mk]
   simp [World.setCell, Array.getElem?_modify, h]
  have hw2 : ∀ b, b ≠ blk → w1.heap[b]? = w.heap[b]? := fun b hb => by
   show (w.setCell (Addr.add ⟨blk, o, none⟩ i) v).heap[b]? = _
   rw [add_mk]
   simp [World.setCell, Array.getElem?_modify, Ne.symm hb]
  obtain ⟨w', h1, h2, h3, h4, h5⟩ := ih (i + 1) o (cs.setIfInBounds (o + i) v) w1 hw1 (by simp; omega) (fun v hv' => hv v (by simp [hv']))
  have hsz : w1.heap.size = w.heap.size := by simp [w1, World.setCell]
  refine ⟨w', ?_, ⟨h2.os, h2.tape, h2.output⟩, h3.trans hsz, fun b hb => (h4 b hb).trans (hw2 b hb), ?_⟩
  ·simp only [storeCells, Sem.run_bind, run_store P w _ v .plain hv1, hc, hf, Bool.false_eq_true, if_false, Result.andThen_ok]
   exact h1
  ·rw [h5]
   congr 2
   apply Array.ext'
   apply List.ext_getElem?
   intro k
   simp only [Array.getElem?_toList]
   rw [over_get (by simp; omega), over_get (by simp; omega)]
   simp only [List.length_cons]
   by_cases k1 : k < o + i
   ·simp [k1, show k < o + (i + 1) from by omega, Array.getElem?_setIfInBounds_ne (show o + i ≠ k from by omega)]
   ·by_cases k2 : k = o + i
    ·subst k2
     simp [show o + i < o + (i + 1) from by omega, hlt, show o + i < o + i + (vs.length + 1) from by omega]
    ·have k3 : ¬ k < o + (i + 1) := by omega
     simp only [k1, k3, if_false]
     rw [show k - (o + i) = (k - (o + (i + 1))) + 1 from by omega]
     simp only [List.getElem?_cons_succ, Array.getElem?_setIfInBounds_ne (show o + i ≠ k from by omega)]
     by_cases k4 : k < o + (i + 1) + vs.length
     ·rw [if_pos k4, if_pos (by omega)]
     ·rw [if_neg k4, if_neg (by omega)]
theorem ObjOk.over {h : Heap} {w w' : World} {id : Id} {ep : Nat} {rows : List (List AV)} (rows' : List (List AV)) {blk st sz n size : Nat} {cs' : Array Value} {T : TypeId}
  (hp : σ.ρ id ep = some (.at blk st sz n size)) (hfm : σ.FM blk = none) (hw : w'.heap[blk]? = some (.cells cs' T (0, 0))) (hs : cs'.size = size) (hn : n = rows'.length) (hle : st + n * sz ≤ size)
  (hrow : ∀ (i : Nat) (row : List AV), rows'[i]? = some row → row.length = sz)
  (hc : ∀ (i j : Nat) (c : AV), cellAt rows' i j = some c → ∃ v, cs'[st + i * sz + j]? = some v ∧ v.oneCell' = true ∧ VRel σ c v) : ObjOk σ w' id (.vec ep rows') :=
 .inr ⟨blk, st, sz, n, size, cs', T, hp, hw, hs, hn, hle, hfm, hrow, hc⟩
theorem cellAt_get {rows : List (List AV)} {i j : Nat} {c : AV} (h : cellAt rows i j = some c) : ∃ row, rows[i]? = some row ∧ row[j]? = some c := by
 unfold cellAt at h
 cases hr : rows[i]? with
 | none => rw [hr] at h; cases h
 | some row => rw [hr] at h; exact ⟨row, rfl, h⟩
theorem pos_lt {sz i j i' : Nat} (hj : j < sz) (h : i < i') : i * sz + j < i' * sz := by
 have : (i + 1) * sz ≤ i' * sz := Nat.mul_le_mul_right _ h
 rw [Nat.succ_mul] at this
 omega
theorem store_sound (tok : TOk P ti) {ev : Operand → AV} {ρ : Operand → Value} (hr : OpRel σ ev ρ) {h : Heap} {w : World} (s : Sim σ h w) (t : TypeId) (p v : Operand) {d : TD} {cs : List AV}
  (hd : ti t = some d) (hcs : (ev v).cells? = some cs) (hl : cs.length = d.size) {id : Id} {ep sz i off : Nat} (hp : ev p = .optr id ep sz i off) {rows : List (List AV)} (ho : h[id]? = some (.vec ep rows))
  {row : List AV} (hrow : rows[i]? = some row) (hle : off + d.size ≤ row.length) :
  ∃ w', (Instr.storeAt t (ρ p) (ρ v)).run P w = .ok () w' ∧ Mv σ h w σ (h.set id (.vec ep (rows.set i (row.take off ++ cs ++ row.drop (off + d.size))))) w' := by
 have hpp := hr p
 rw [hp] at hpp
 generalize hpv : ρ p = u at hpp
 have hv := (hr v).cells hcs
 cases hpp with
 | @optr _ _ _ _ _ _ blk st n size hh =>
  rcases s.obj id _ ho with ⟨rfl, _⟩ | ⟨blk', st', sz', n', size', cells, T, h1, h2, h3, h4, h5, h6, h7, h8⟩
  ·simp at hrow
  ·rw [hh] at h1
   cases h1
   have hi : i < rows.length := (List.getElem?_eq_some_iff.1 hrow).1
   have hrl := h7 i row hrow
   have hvl : (ρ v).cells.toList.length = d.size := by rw [← hl]; exact hv.1.1.symm
   have hpos : i * sz + sz ≤ n * sz := by
    have : (i + 1) * sz ≤ n * sz := Nat.mul_le_mul_right _ (by omega)
    rwa [Nat.succ_mul] at this
   have hroom : st + i * sz + off + 0 + (ρ v).cells.toList.length ≤ cells.size := by rw [hvl]; omega
   obtain ⟨w', r1, r2, r3, r4, r5⟩ := run_storeCells' (P := P) blk T (ρ v).cells.toList 0 (st + i * sz + off) cells w h2 hroom hv.2
   have hsz : (ρ v).cells.size = d.size := by simpa using hvl
   refine ⟨w', ?_, ?_⟩
   ·simp [Instr.storeAt, Instr.sureAddr, storeVar, (tok _ _ hd).run_sizeOf, hsz, r1]
   ·refine s.write (blk := blk) ho (by simp [AObj.blk, hh]) (by simp [AObj.blk, hh]) r4 r3 r2 ?_
    refine ObjOk.over (h := h) (w := w) (rows := rows) _ hh h6 r5 (by rw [over_size (by simpa using hroom)]; exact h3) (by simpa using h4) h5 ?_ ?_
    ·intro k r hk
     by_cases hki : k = i
     ·subst hki
      rw [List.getElem?_set_self hi] at hk
      cases hk
      simp
      omega
     ·rw [List.getElem?_set_ne (Ne.symm hki)] at hk
      exact h7 k r hk
    ·intro k j c hc
     obtain ⟨r, hk, hj⟩ := cellAt_get hc
     have hover := over_get (off := st + i * sz + off + 0) (vs := (ρ v).cells.toList) (cs := cells) (by simpa using hroom)
     rw [Nat.add_zero] at hover r5 ⊢
     by_cases hki : k = i
     ·subst hki
      rw [List.getElem?_set_self hi] at hk
      cases hk
      rw [hover]
      by_cases c1 : j < off
      ·rw [List.append_assoc, List.getElem?_append_left (by simp; omega), List.getElem?_take, if_pos c1] at hj
       rw [if_pos (by omega)]
       exact h8 k j c (by simp [cellAt, hrow, hj])
      ·by_cases c2 : j < off + d.size
       ·rw [List.append_assoc, List.getElem?_append_right (by simp; omega), List.getElem?_append_left (by simp; omega)] at hj
        rw [if_neg (by omega), if_pos (by omega)]
        have hmin : min off row.length = off := by omega
        simp only [List.length_take, hmin] at hj
        rw [show st + k * sz + j - (st + k * sz + off) = j - off from by omega]
        have hlt : j - off < (ρ v).cells.toList.length := by omega
        exact ⟨(ρ v).cells.toList[j - off], List.getElem?_eq_getElem hlt, hv.2 _ (List.getElem_mem hlt), hv.1.2 _ c _ hj (List.getElem?_eq_getElem hlt)⟩
       ·rw [List.getElem?_append_right (by simp; omega), List.getElem?_drop] at hj
        rw [if_neg (by omega), if_neg (by omega)]
        have hmin : min off row.length = off := by omega
        simp only [List.length_append, List.length_take, hmin, hl] at hj
        rw [show off + d.size + (j - (off + d.size)) = j from by omega] at hj
        exact h8 k j c (by simp [cellAt, hrow, hj])
     ·rw [List.getElem?_set_ne (Ne.symm hki)] at hk
      have hjl : j < sz := by have := h7 k r hk; have := (List.getElem?_eq_some_iff.1 hj).1; omega
      have hkl : k < rows.length := (List.getElem?_eq_some_iff.1 hk).1
      obtain ⟨u, e1, e2⟩ := h8 k j c (by simp [cellAt, hk, hj])
      refine ⟨u, ?_, e2⟩
      rw [hover]
      rcases Nat.lt_or_gt_of_ne hki with hlt | hgt
      ·have := pos_lt hjl hlt
       rw [if_pos (by omega)]
       exact e1
      ·have : i * sz + sz ≤ k * sz := by
        have : (i + 1) * sz ≤ k * sz := Nat.mul_le_mul_right _ hgt
        rwa [Nat.succ_mul] at this
       rw [if_neg (by omega), if_neg (by omega)]
       exact e1
end
end Go.Ab

namespace Go.Ab
section
variable {P : Program} {ti : TI} {σ : Sg}
def Elems (σ : Sg) (w : World) (size : Nat) (v : Value) (new : List (List AV)) : Prop :=
 (∀ (i : Nat) (row : List AV), new[i]? = some row → row.length = size) ∧
 ∃ a cap, v = .slice a new.length cap ∧ new.length ≤ cap ∧ (a = none → new = [] ∧ cap = 0) ∧ ∃ vs : List Value, CRels σ new.flatten vs ∧ vs.length = new.length * size ∧
  ∀ b, a = some b → ∀ (j : Nat) (v : Value), vs[j]? = some v → w.cell? (b.add j) = some v
theorem flatten_length {size : Nat} : ∀ {rows : List (List AV)}, (∀ (i : Nat) (row : List AV), rows[i]? = some row → row.length = size) → rows.flatten.length = rows.length * size
 | [], _ => by simp
 | r :: rows, h => by
  have h0 := h 0 r rfl
  have ih := flatten_length (rows := rows) fun i row hr => h (i + 1) row (by simpa using hr)
  simp only [List.flatten_cons, List.length_append, List.length_cons, h0, ih, Nat.succ_mul]
  omega
theorem flatten_get {size : Nat} : ∀ {rows : List (List AV)}, (∀ (i : Nat) (row : List AV), rows[i]? = some row → row.length = size) → ∀ (i j : Nat), j < size → rows.flatten[i * size + j]? = cellAt rows i j
 | [], _, i, j, _ => by simp [cellAt]
 | r :: rows, h, i, j, hj => by
  have h0 := h 0 r rfl
  have ih := flatten_get (rows := rows) fun i row hr => h (i + 1) row (by simpa using hr)
  simp only [List.flatten_cons]
  cases i with
  | zero => rw [List.getElem?_append_left (by omega)]; simp [cellAt]
  | succ i =>
   rw [List.getElem?_append_right (by rw [Nat.succ_mul]; omega), show (i + 1) * size + j - r.length = i * size + j from by rw [Nat.succ_mul]; omega, ih i j hj]
   simp [cellAt]
theorem rows_vals {w : World} {b o size : Nat} : ∀ {rows : List (List AV)}, (∀ (i : Nat) (row : List AV), rows[i]? = some row → row.length = size ∧ RowAt σ w b (o + i * size) row) →
  ∃ vs : List Value, CRels σ rows.flatten vs ∧ vs.length = rows.length * size ∧ ∀ (j : Nat) (v : Value), vs[j]? = some v → w.cell? (Addr.add ⟨b, o, none⟩ j) = some v := by
 intro rows h
 have hlen := flatten_length fun i row hr => (h i row hr).1
 have hrow : RowAt σ w b o rows.flatten := by
  intro k c hk
  have hkl := (List.getElem?_eq_some_iff.1 hk).1
  rcases Nat.eq_zero_or_pos size with rfl | hs
  ·rw [hlen] at hkl; omega
  ·have hm : k % size < size := Nat.mod_lt _ hs
   have e : k = k / size * size + k % size := by rw [Nat.mul_comm]; exact (Nat.div_add_mod k size).symm
   rw [e, flatten_get (fun i row hr => (h i row hr).1) _ _ hm] at hk
   obtain ⟨row, h1, h2⟩ := cellAt_get hk
   obtain ⟨v, h3⟩ := (h _ row h1).2 _ c h2
   refine ⟨v, ?_⟩
   rwa [show o + k / size * size + k % size = o + k from by rw [Nat.add_assoc, ← e]] at h3
 obtain ⟨vs, h1, h2⟩ := hrow.vals
 exact ⟨vs, h1, by rw [← hlen]; exact h1.1.1.symm, h2⟩
theorem get_drop_take {α : Type} {l : List α} {off n i : Nat} {x : α} (h : ((l.drop off).take n)[i]? = some x) : i < n ∧ l[off + i]? = some x := by
 rw [List.getElem?_take] at h
 split at h
 ·rw [List.getElem?_drop] at h; exact ⟨by assumption, h⟩
 ·cases h
theorem elems_obj {h : Heap} {w : World} (s : Sim σ h w) {id : Id} {ep sz off len : Nat} {lim : Bool} {v : Value} {rows : List (List AV)} (hx : VRel σ (.oslc id ep sz off len lim) v) (ho : h[id]? = some (.vec ep rows)) :
  Elems σ w sz v ((rows.drop off).take len) := by
 cases hx with
 | @oslc _ _ _ _ _ _ _ blk st n size cap hh h1 h2 h3 h4 h5 =>
  have hn : n = rows.length ∧ ∀ (i : Nat) (row : List AV), rows[i]? = some row → row.length = sz := by
   rcases s.obj id _ ho with ⟨_, e⟩ | ⟨blk', st', sz', n', size', cs, T, e1, e2, e3, e4, e5, e6, e7, e8⟩
   ·rw [hh] at e; cases e
   ·rw [hh] at e1; cases e1; exact ⟨e4, e7⟩
  have hl : ((rows.drop off).take len).length = len := by simp; omega
  have hrows : ∀ (i : Nat) (row : List AV), ((rows.drop off).take len)[i]? = some row → row.length = sz ∧ RowAt σ w blk (st + off * sz + i * sz) row := by
   intro i row hr
   obtain ⟨a1, a2⟩ := get_drop_take hr
   obtain ⟨b1, b2⟩ := rowAt_obj s ho a2 hh
   refine ⟨b2, ?_⟩
   rw [Nat.add_mul, ← Nat.add_assoc] at b1
   exact b1
  obtain ⟨vs, c1, c2, c3⟩ := rows_vals hrows
  exact ⟨fun i row hr => (hrows i row hr).1, _, cap, by rw [hl], by rw [hl]; exact h5, fun x => (by cases x), vs, c1, c2, fun b e j v hv => by cases e; exact c3 j v hv⟩
 | onil hh => exact ⟨fun i row hr => by simp at hr, none, 0, by simp, by simp, fun _ => ⟨by simp, rfl⟩, [], ⟨⟨by simp, fun i a v x => by simp at x⟩, by simp⟩, by simp, fun b e j v hv => by simp at hv⟩
 | @onilz _ _ _ _ _ a hh => exact ⟨fun i row hr => by simp at hr, some a, 0, by simp, by simp, fun x => (by cases x), [], ⟨⟨by simp, fun i a v x => by simp at x⟩, by simp⟩, by simp, fun b e j v hv => by simp at hv⟩
 | @oz _ _ _ _ _ _ _ _ _ _ a hh h1 h2 => exact ⟨fun i row hr => by simp at hr, some a, 0, by simp, by simp, fun x => (by cases x), [], ⟨⟨by simp, fun i a v x => by simp at x⟩, by simp⟩, by simp, fun b e j v hv => by simp at hv⟩
theorem elems_lit {h : Heap} {w : World} (s : Sim σ h w) {sz off len : Nat} {lim : Bool} {v : Value} {rows : List (List AV)} (hx : VRel σ (.lslc sz rows off len lim) v) :
  Elems σ w sz v ((rows.drop off).take len) := by
 cases hx with
 | @lslc _ _ _ _ _ _ blk st cap g hw hc ho hv h1 h3 h5 =>
  have hl : ((rows.drop off).take len).length = len := by simp; omega
  have hrows : ∀ (i : Nat) (row : List AV), ((rows.drop off).take len)[i]? = some row → row.length = sz ∧ RowAt σ w blk (st + off * sz + i * sz) row := by
   intro i row hr
   obtain ⟨a1, a2⟩ := get_drop_take hr
   refine ⟨hw _ row a2, ?_⟩
   have := rowAt_lit s hc ho hv a2
   rw [Nat.add_mul, ← Nat.add_assoc] at this
   exact this
  obtain ⟨vs, c1, c2, c3⟩ := rows_vals hrows
  exact ⟨fun i row hr => (hrows i row hr).1, _, cap, by rw [hl], by rw [hl]; exact h5, fun x => (by cases x), vs, c1, c2, fun b e j v hv => by cases e; exact c3 j v hv⟩
 | lnil => exact ⟨fun i row hr => by simp at hr, none, 0, by simp, by simp, fun _ => ⟨by simp, rfl⟩, [], ⟨⟨by simp, fun i a v x => by simp at x⟩, by simp⟩, by simp, fun b e j v hv => by simp at hv⟩
 | @lz _ _ _ _ _ a => exact ⟨fun i row hr => by simp at hr, some a, 0, by simp, by simp, fun x => (by cases x), [], ⟨⟨by simp, fun i a v x => by simp at x⟩, by simp⟩, by simp, fun b e j v hv => by simp at hv⟩
theorem elems_of {h : Heap} {w : World} (s : Sim σ h w) {size : Nat} {x : AV} {v : Value} (hx : VRel σ x v) {K : List (List AV) → Prop} (hk : elemsOf h size x K) : ∃ new, K new ∧ Elems σ w size v new := by
 unfold elemsOf at hk
 split at hk
 ·split at hk
  ·rename_i e
   subst e
   split at hk
   ·rename_i ep' rows ho
    obtain ⟨rfl, hk⟩ := hk
    exact ⟨_, hk, elems_obj s hx ho⟩
   ·exact hk.elim
  ·exact hk.elim
 ·split at hk
  ·rename_i e
   subst e
   exact ⟨_, hk, elems_lit s hx⟩
  ·exact hk.elim
 ·cases hx
  exact ⟨[], hk, fun i row hr => by simp at hr, none, 0, rfl, by simp, fun _ => ⟨rfl, rfl⟩, [], ⟨⟨by simp, fun i a v x => by simp at x⟩, by simp⟩, by simp, fun b e j v hv => by simp at hv⟩
 ·exact hk.elim
theorem Elems.first {w w' : World} (hw : w'.heap = w.heap) {size : Nat} {v : Value} {new : List (List AV)} (h : Elems σ w size v new) :
  ∃ a cap vs, v = .slice a new.length cap ∧ new.length ≤ cap ∧ (a = none → new = [] ∧ cap = 0) ∧ CRels σ new.flatten vs ∧ vs.length = new.length * size ∧ (Builtin.firstCells size new.length v).run P w' = .ok vs.toArray w' ∧
   (Builtin.firstCells size new.length v).run P w = .ok vs.toArray w := by
 obtain ⟨h0, a, cap, rfl, h1, h2, vs, h3, h4, h5⟩ := h
 have hc : ∀ b, w'.cell? b = w.cell? b := fun b => by simp [World.cell?, hw]
 refine ⟨a, cap, vs, rfl, h1, h2, h3, h4, ?_, ?_⟩
 ·cases a with
  | none =>
   obtain ⟨rfl, _⟩ := h2 rfl
   have : vs = [] := List.eq_nil_of_length_eq_zero (by simpa using h4)
   subst this
   exact run_firstCells_none _ _ _ _ _
  | some b => exact run_firstCells_some _ _ _ b _ _ vs h4 fun j v hv => by rw [hc]; exact h5 b rfl j v hv
 ·cases a with
  | none =>
   obtain ⟨rfl, _⟩ := h2 rfl
   have : vs = [] := List.eq_nil_of_length_eq_zero (by simpa using h4)
   subst this
   exact run_firstCells_none _ _ _ _ _
  | some b => exact run_firstCells_some _ _ _ b _ _ vs h4 fun j v hv => h5 b rfl j v hv
theorem rows_in {rows : List (List AV)} {size : Nat} {vs : List Value} (hs : size ≠ 0) (hrow : ∀ (i : Nat) (row : List AV), rows[i]? = some row → row.length = size) (h : CRels σ rows.flatten vs) (i j : Nat) (c : AV) (hc : cellAt rows i j = some c) :
  ∃ v, vs[i * size + j]? = some v ∧ v.oneCell' = true ∧ VRel σ c v := by
 obtain ⟨row, h1, h2⟩ := cellAt_get hc
 have hj : j < size := by have := hrow i row h1; have := (List.getElem?_eq_some_iff.1 h2).1; omega
 have hf : rows.flatten[i * size + j]? = some c := by rw [flatten_get hrow _ _ hj]; exact hc
 have hlt := (List.getElem?_eq_some_iff.1 hf).1
 have hl := h.1.1
 exact ⟨vs[i * size + j]'(by omega), List.getElem?_eq_getElem (by omega), h.2 _ (List.getElem_mem _), h.1.2 _ c _ hf (List.getElem?_eq_getElem (by omega))⟩
theorem run_append_realloc {argTypes : Array TypeId} {ty t t2 e e2 : Nat} {d : TD} {w : World} (h0 : argTypes[0]? = some t) (h1 : argTypes[1]? = some t2) (hu : P.underlying t = some (.slice e)) (hu2 : P.underlying t2 = some (.slice e2))
  (hd : DOk P e d) {base : Option Addr} {sLen sCap n c : Nat} {xa : Option Addr} (olds news : List Value)
  (ho : ∀ w' : World, w'.heap = w.heap → (Builtin.firstCells d.size sLen (.slice base sLen sCap)).run P w' = .ok olds.toArray w')
  (hn : ∀ w' : World, w'.heap = w.heap → (Builtin.firstCells d.size n (.slice xa n c)).run P w' = .ok news.toArray w')
  (hg : sCap < sLen + n) (hb : (sLen + n) * d.bytes ≤ 140737488355328) (h63 : sLen + n ≤ 9223372036854775807) :
  ∃ w' newCap rest, (Builtin.append_ argTypes ty #[.slice base sLen sCap, .slice xa n c]).run P w = .ok (.slice (some ⟨w.heap.size, 0, none⟩) (sLen + n) newCap) w' ∧
   w'.heap = w.heap.push (.cells (olds.toArray ++ news.toArray ++ rest) e) ∧ SameOut w w' ∧ sLen + n ≤ newCap ∧ rest.size = (newCap - (sLen + n)) * d.size := by
 obtain ⟨z, hz1, hz2, _, _, i, hi1, hi2, hi3, hi4⟩ := hd.run_zero w
 have hfit := growslice_fits (need := sLen + n) (old := sCap) (bytes := d.bytes) hg hb
 have hn1 : ¬ (sLen + n ≤ sCap) := by omega
 have hn2 : ¬ (9223372036854775807 < ((sLen : Int) + (n : Int))) := by omega
 have hn3 : ¬ (281474976710656 < Builtin.nextslicecap (sLen + n) sCap * d.bytes) := by omega
 let newCap := (Question.appendCap (sLen + n) sCap e).cut (w.tape w.drawn (Question.appendCap (sLen + n) sCap e))
 have hcap : sLen + n ≤ newCap := by simp only [newCap, Question.cut]; omega
 refine ⟨w.drew.alloc (.cells (olds.toArray ++ news.toArray ++ Builtin.zeroCells z.cells (newCap - (sLen + n))) e), newCap, Builtin.zeroCells z.cells (newCap - (sLen + n)), ?_, rfl, ⟨rfl, rfl, rfl⟩, hcap, ?_⟩
 ·have ho' := ho w.drew rfl
  have hn' := hn w.drew rfl
  simp [Builtin.append_, h0, h1, run_und hu, run_und hu2, hd.run_sizeOf, typeInfo, zeroValue, hi1, hi2, hi4, Builtin.lenOf, hn1, hn2, hn3, Question.forced, ho', hn', newRow, newCap]
  try (congr 2; apply Array.ext'; simp [List.append_assoc])
 ·simp [Builtin.zeroCells, hz2]
end
end Go.Ab

namespace Go.Ab
section
variable {P : Program} {ti : TI} {σ : Sg}
theorem append_new {h : Heap} {w : World} (s : Sim σ h w) (id : Id) {argTypes : Array TypeId} {ty t t2 e e2 : Nat} {d : TD} (h0 : argTypes[0]? = some t) (h1 : argTypes[1]? = some t2) (hu : P.underlying t = some (.slice e)) (hu2 : P.underlying t2 = some (.slice e2))
  (hd : DOk P e d) (hs0 : d.size ≠ 0) {old new : List (List AV)} {v u : Value} (ho : Elems σ w d.size v old) (hn : Elems σ w d.size u new) (hb : (old.length + new.length) * d.bytes ≤ 140737488355328) (h63 : old.length + new.length ≤ 9223372036854775807)
  {a : Option Addr} {cap : Nat} (hv : v = .slice a old.length cap) (hg : cap < old.length + new.length) :
  ∃ r ep σ' w', (Builtin.append_ argTypes ty #[v, u]).run P w = .ok r w' ∧ Mv σ h w σ' (h.set id (.vec ep (old ++ new))) w' ∧ VRel σ' (.oslc id ep d.size 0 (old.length + new.length) false) r := by
 obtain ⟨a1, cap1, olds, hv1, _, _, ho1, ho2, ho3, ho4⟩ := ho.first (P := P) (w' := w) rfl
 obtain ⟨a2, cap2, news, hu1, _, _, hn1, hn2, hn3, hn4⟩ := hn.first (P := P) (w' := w) rfl
 rw [hv] at hv1
 cases hv1
 have ho' : ∀ w' : World, w'.heap = w.heap → (Builtin.firstCells d.size old.length (.slice a old.length cap)).run P w' = .ok olds.toArray w' := fun w' hw' => by
  obtain ⟨a1, cap1, olds', hv1, _, _, c1, c2, c3, c4⟩ := ho.first (P := P) hw'
  rw [← hv]
  rw [c3]
  rw [c4] at ho4
  cases ho4
  rfl
 have hn' : ∀ w' : World, w'.heap = w.heap → (Builtin.firstCells d.size new.length (.slice a2 new.length cap2)).run P w' = .ok news.toArray w' := fun w' hw' => by
  obtain ⟨a1, cap1, news', hv1, _, _, c1, c2, c3, c4⟩ := hn.first (P := P) hw'
  rw [← hu1]
  rw [c3]
  rw [c4] at hn4
  cases hn4
  rfl
 obtain ⟨w', newCap, rest, hrun, hw, hso, hcap, hrest⟩ := run_append_realloc (ty := ty) h0 h1 hu hu2 hd olds news ho' hn' hg hb h63
 have hrow : ∀ (i : Nat) (row : List AV), (old ++ new)[i]? = some row → row.length = d.size := by
  intro i row hr
  rw [List.getElem?_append] at hr
  split at hr
  ·exact ho.1 i row hr
  ·exact hn.1 _ row hr
 have hcr : CRels σ (old ++ new).flatten (olds ++ news) := by
  rw [List.flatten_append]
  exact ⟨ho1.1.append hn1.1, fun v hv => (List.mem_append.1 hv).elim (ho1.2 v) (hn1.2 v)⟩
 have hlen : (olds ++ news).length = (old.length + new.length) * d.size := by simp [ho2, hn2, Nat.add_mul]
 obtain ⟨ep, σ', m, hp⟩ := s.allocRows id (old ++ new) d.size (olds.toArray ++ news.toArray ++ rest) e hrow (by simp; rw [Nat.add_mul]; omega) (fun i j c hc => by
  obtain ⟨v, e1, e2⟩ := rows_in hs0 hrow hcr i j c hc
  refine ⟨v, ?_, e2⟩
  have hlt := (List.getElem?_eq_some_iff.1 e1).1
  rw [Array.getElem?_append_left (by simpa using hlt)]
  rw [← e1]
  simp [← List.getElem?_toArray]) hw hso
 refine ⟨_, ep, σ', w', by rw [hv, hu1]; exact hrun, m, ?_⟩
 have hsz : (olds.toArray ++ news.toArray ++ rest).size = newCap * d.size := by
  have : newCap * d.size = (old.length + new.length) * d.size + (newCap - (old.length + new.length)) * d.size := by rw [← Nat.add_mul]; congr 1; omega
  simp only [Array.size_append, hrest, List.size_toArray]
  rw [this, ← hlen]
  simp
 have := VRel.oslc (σ := σ') (lim := false) (off := 0) (len := old.length + new.length) (cap := newCap) hp (by simp) (fun _ => by simp; omega) (fun x => by cases x) (by rw [hsz]; simp) hcap
 simpa using this
theorem run_append_zero {argTypes : Array TypeId} {ty t t2 e e2 : Nat} {d : TD} (w : World) (h0 : argTypes[0]? = some t) (h1 : argTypes[1]? = some t2) (hu : P.underlying t = some (.slice e)) (hu2 : P.underlying t2 = some (.slice e2))
  (hd : DOk P e d) {a : Option Addr} {sLen cap n c : Nat} {xa : Option Addr} (news : List Value) (hn : (Builtin.firstCells d.size n (.slice xa n c)).run P w = .ok news.toArray w) (hg : sLen + n ≤ cap) {w' : World}
  (hst : ∀ b, a = some b → (storeCells (b.add (sLen * d.size)) news).run P w = .ok () w') (hnone : a = none → w' = w) :
  (Builtin.append_ argTypes ty #[.slice a sLen cap, .slice xa n c]).run P w = .ok (.slice a (sLen + n) cap) w' := by
 cases a with
 | none =>
  rw [hnone rfl]
  simp [Builtin.append_, h0, h1, run_und hu, run_und hu2, hd.run_sizeOf, Builtin.lenOf, hg, hn]
 | some b =>
  have := hst b rfl
  simp [Builtin.append_, h0, h1, run_und hu, run_und hu2, hd.run_sizeOf, Builtin.lenOf, hg, hn, this]
theorem append_obj {h : Heap} {w : World} (s : Sim σ h w) {argTypes : Array TypeId} {ty t t2 e e2 : Nat} {d : TD} (h0 : argTypes[0]? = some t) (h1 : argTypes[1]? = some t2) (hu : P.underlying t = some (.slice e)) (hu2 : P.underlying t2 = some (.slice e2))
  (hd : DOk P e d) (hs0 : d.size ≠ 0) {id : Id} {ep off len : Nat} {rows : List (List AV)} {v u : Value} (hx : VRel σ (.oslc id ep d.size off len false) v) (hob : h[id]? = some (.vec ep rows)) {new : List (List AV)} (hn : Elems σ w d.size u new)
  (hb : (len + new.length) * d.bytes ≤ 140737488355328) (h63 : len + new.length ≤ 9223372036854775807) :
  ∃ r ep2 σ' w', (Builtin.append_ argTypes ty #[v, u]).run P w = .ok r w' ∧ Mv σ h w σ' (h.set id (.vec ep2 ((rows.drop off).take len ++ new))) w' ∧ VRel σ' (.oslc id ep2 d.size 0 (len + new.length) false) r := by
 have ho := elems_obj s hx hob
 obtain ⟨a1, cap1, olds, hv1, hv2, hv3, ho1, ho2, ho3, ho4⟩ := ho.first (P := P) (w' := w) rfl
 obtain ⟨a2, cap2, news, hu1, hu3, hu4, hn1, hn2, hn3, hn4⟩ := hn.first (P := P) (w' := w) rfl
 have hlen : ((rows.drop off).take len).length = len := by
  cases hx <;> (first | (cases hv1; rfl) | (injection hv1 with _ e _; rw [← e]))
 by_cases hg : cap1 < len + new.length
 ·have := append_new (ty := ty) s id h0 h1 hu hu2 hd hs0 ho hn (by rw [hlen]; exact hb) (by rw [hlen]; exact h63) hv1 (by rw [hlen]; exact hg)
  rw [hlen] at this
  exact this
 ·rw [hlen] at hv1
  have nilish : ∀ a, v = .slice a 0 0 → off = 0 ∨ True → len = 0 → cap1 = 0 →
    ∃ r ep2 σ' w', (Builtin.append_ argTypes ty #[v, u]).run P w = .ok r w' ∧ Mv σ h w σ' (h.set id (.vec ep2 ((rows.drop off).take len ++ new))) w' ∧ VRel σ' (.oslc id ep2 d.size 0 (len + new.length) false) r := by
   intro a hva _ hl0 hc0
   subst hl0
   have hnl : new.length = 0 := by omega
   have hn0 : new = [] := List.eq_nil_of_length_eq_zero hnl
   subst hn0
   have hnews : news = [] := List.eq_nil_of_length_eq_zero (by simpa using hn2)
   subst hnews
   obtain ⟨ep2, σ', m, hp⟩ := s.allocNil id
   refine ⟨.slice a 0 0, ep2, σ', w, ?_, by simpa using m, ?_⟩
   ·rw [hva, hu1]
    exact run_append_zero (ty := ty) w h0 h1 hu hu2 hd (sLen := 0) (n := 0) [] (by rw [hu1] at hn3; exact hn3) (by simp) (fun b _ => by simp [storeCells]) (fun _ => rfl)
   ·cases a with
    | none => exact .onil hp
    | some a => exact .onilz hp
  cases hx with
  | @oslc _ _ _ _ _ _ _ blk st n size cap hh k1 k2 k3 k4 k5 =>
   cases hv1
   rcases s.obj id _ hob with ⟨_, x⟩ | ⟨blk', st', sz', n', size', cells, T, e1, e2, e3, e4, e5, e6, e7, e8⟩
   ·rw [hh] at x; cases x
   rw [hh] at e1
   cases e1
   have hmul : (off + (len + new.length)) * d.size ≤ (off + cap1) * d.size := Nat.mul_le_mul_right _ (by omega)
   have hsplit : (off + (len + new.length)) * d.size = off * d.size + (len * d.size + new.length * d.size) := by rw [Nat.add_mul, Nat.add_mul]
   have hsplit2 : (len + new.length) * d.size = len * d.size + new.length * d.size := by rw [Nat.add_mul]
   have hnewsl : news.length = new.length * d.size := hn2
   have hroom : st + off * d.size + len * d.size + 0 + news.length ≤ cells.size := by
    rw [e3, hnewsl]
    rw [hsplit] at hmul
    omega
   obtain ⟨w', r1, r2, r3, r4, r5⟩ := run_storeCells' (P := P) blk T news 0 (st + off * d.size + len * d.size) cells w e2 (by omega) hn1.2
   obtain ⟨ep2, σ', l1, l2, l3, l4, l5⟩ := s.renew (blk := blk) hob (by simp [AObj.blk, hh]) (st + off * d.size) d.size (len + new.length) size
   have hblk : (AObj.vec ep rows).blk σ' id = some blk := by simp [AObj.blk, l1.ρ _ _ _ hh]
   have hrow : ∀ (i : Nat) (row : List AV), ((rows.drop off).take len ++ new)[i]? = some row → row.length = d.size := by
    intro i row hr
    rw [List.getElem?_append] at hr
    split at hr
    ·exact ho.1 i row hr
    ·exact hn.1 _ row hr
   have m2 : Mv σ' h w σ' (h.set id (.vec ep2 ((rows.drop off).take len ++ new))) w' := by
    refine l4.write (blk := blk) hob hblk (by simp [AObj.blk, l2]) r4 r3 r2 ?_
    refine ObjOk.over (h := h) (w := w) (rows := rows) _ l2 (by rw [l3]; exact e6) r5 (by rw [over_size (by omega)]; exact e3) (by simp [hlen]) (by rw [hsplit] at hmul; rw [hsplit2]; omega) hrow ?_
    intro i j c hc
    obtain ⟨row, hi, hj⟩ := cellAt_get hc
    have hjl : j < d.size := by have := hrow i row hi; have := (List.getElem?_eq_some_iff.1 hj).1; omega
    have hover := over_get (off := st + off * d.size + len * d.size + 0) (vs := news) (cs := cells) hroom
    rw [hover]
    rw [List.getElem?_append, hlen] at hi
    split at hi
    ·rename_i hil
     obtain ⟨a1, a2⟩ := get_drop_take hi
     have := pos_lt hjl hil
     rw [if_pos (by omega)]
     obtain ⟨v, f1, f2, f3⟩ := e8 (off + i) j c (by simp [cellAt, a2, hj])
     rw [Nat.add_mul, ← Nat.add_assoc st] at f1
     exact ⟨v, f1, f2, f3.mono l1⟩
    ·rename_i hil
     have hile : len * d.size ≤ i * d.size := Nat.mul_le_mul_right _ (by omega)
     have hik : (i - len) * d.size = i * d.size - len * d.size := by rw [Nat.sub_mul]
     have hin : i - len < new.length := (List.getElem?_eq_some_iff.1 hi).1
     have := pos_lt hjl hin
     rw [if_neg (by omega), if_pos (by omega)]
     obtain ⟨v, f1, f2, f3⟩ := rows_in hs0 hn.1 hn1 (i - len) j c (by simp [cellAt, hi, hj])
     refine ⟨v, ?_, f2, f3.mono l1⟩
     rw [← f1]
     congr 1
     omega
   have m1 : Mv σ h w σ' h w := ⟨l1, l4, rfl, rfl, rfl, Nat.le_refl _, fun _ _ _ => rfl, fun b hb => .inl ((l5 b).1 hb), fun b x => .inl (by rwa [l3] at x)⟩
   refine ⟨_, ep2, σ', w', ?_, m1.trans m2, VRel.oslc (lim := false) (off := 0) (cap := cap1) l2 (by omega) (fun _ => by omega) (fun x => by cases x) ?_ (by omega)⟩
   ·rw [hu1]
    have e0 : (⟨blk, st + off * d.size, none⟩ : Addr) = ⟨blk, st + off * d.size + 0 * d.size, none⟩ := by simp
    rw [← e0]
    refine run_append_zero (ty := ty) w h0 h1 hu hu2 hd news (by rw [hu1] at hn3; exact hn3) (by omega) (fun b hb => ?_) (fun x => by cases x)
    cases hb
    rw [add_mk]
    exact r1
   ·rw [Nat.zero_add, Nat.add_assoc, ← Nat.add_mul]; exact k4
  | onil hh => cases hv1; exact nilish _ rfl (.inl rfl) rfl rfl
  | onilz hh => cases hv1; exact nilish _ rfl (.inl rfl) rfl rfl
  | oz hh k1 k2 => cases hv1; exact nilish _ rfl (.inr trivial) rfl rfl
end
end Go.Ab

namespace Go.Ab
section
variable {P : Program} {ti : TI} {σ : Sg}
theorem set_self {α : Type} {l : List α} {i : Nat} {x : α} (h : l[i]? = some x) : l.set i x = l := by
 obtain ⟨h1, h2⟩ := List.getElem?_eq_some_iff.1 h
 subst h2
 exact List.set_getElem_self h1
theorem copy_obj {h : Heap} {w : World} (s : Sim σ h w) {argTypes : Array TypeId} {ty t e : Nat} {d : TD} (h0 : argTypes[0]? = some t) (hu : P.underlying t = some (.slice e))
  (hd : DOk P e d) {id : Id} {ep off len : Nat} {lim : Bool} {rows : List (List AV)} {v u : Value} (hx : VRel σ (.oslc id ep d.size off len lim) v) (hob : h[id]? = some (.vec ep rows)) {new : List (List AV)} (hn : Elems σ w d.size u new) :
  ∃ w', (Builtin.copy_ argTypes ty #[v, u]).run P w = .ok (.int .i64 ((min new.length len : Nat) : Int)) w' ∧ Mv σ h w σ (h.set id (.vec ep (rows.take off ++ new.take len ++ rows.drop (off + (new.take len).length)))) w' := by
 obtain ⟨hnr, a2, cap2, hu1, hu2, hu3, vs, hv1, hv2, hv3⟩ := hn
 obtain ⟨a1, cap1, hva⟩ : ∃ a cap, v = .slice a len cap := by cases hx <;> exact ⟨_, _, rfl⟩
 have hm : Nat.min new.length len = min new.length len := rfl
 by_cases hz : min new.length len = 0
 ·have hnt : new.take len = [] := by
   apply List.eq_nil_of_length_eq_zero
   rw [List.length_take]
   omega
  refine ⟨w, ?_, ?_⟩
  ·have hf : (Builtin.firstCells d.size 0 u).run P w = .ok #[] w := by
    rw [hu1]
    cases a2 with
    | none => exact run_firstCells_none _ _ _ _ _
    | some b => exact run_firstCells_some _ _ _ b _ _ [] (by simp) (fun j v hv => by simp at hv)
   rw [hu1] at hf ⊢
   rw [hva]
   cases a1 with
   | none => simp [Builtin.copy_, h0, run_und hu, hd.run_sizeOf, Builtin.lenOf, hm, hz, hf, goInt]
   | some b => simp [Builtin.copy_, h0, run_und hu, hd.run_sizeOf, Builtin.lenOf, hm, hz, hf, goInt, storeCells]
  ·rw [hnt]
   simp only [List.append_nil, List.length_nil, Nat.add_zero, List.take_append_drop]
   rw [Heap.set_self hob]
   exact .refl s
 ·cases hx with
  | @oslc _ _ _ _ _ _ _ blk st n size cap hh k1 k2 k3 k4 k5 =>
   cases hva
   rcases s.obj id _ hob with ⟨_, x⟩ | ⟨blk', st', sz', n', size', cells, T, e1, e2, e3, e4, e5, e6, e7, e8⟩
   ·rw [hh] at x; cases x
   rw [hh] at e1
   cases e1
   have hml : (new.take len).length = min len new.length := by simp
   have hmle : min len new.length ≤ len := Nat.min_le_left _ _
   have hmle2 : min len new.length ≤ new.length := Nat.min_le_right _ _
   let m := min len new.length
   have hmm : m = min new.length len := Nat.min_comm _ _
   have hvl : (vs.take (m * d.size)).length = m * d.size := by
    rw [List.length_take, hv2]
    exact Nat.min_eq_left (Nat.mul_le_mul_right _ hmle2)
   have hfirst : (Builtin.firstCells d.size m u).run P w = .ok (vs.take (m * d.size)).toArray w := by
    rw [hu1]
    cases a2 with
    | none =>
     have := (hu3 rfl).1
     subst this
     simp at hz
    | some b =>
     refine run_firstCells_some _ _ _ b _ _ _ hvl ?_
     intro j v hv
     rw [List.getElem?_take] at hv
     split at hv
     ·exact hv3 b rfl j v hv
     ·cases hv
   have hend : (off + m) * d.size ≤ n * d.size := Nat.mul_le_mul_right _ (by omega)
   have hsplit : (off + m) * d.size = off * d.size + m * d.size := by rw [Nat.add_mul]
   have hroom : st + off * d.size + 0 + (vs.take (m * d.size)).length ≤ cells.size := by rw [hvl, e3]; omega
   obtain ⟨w', r1, r2, r3, r4, r5⟩ := run_storeCells' (P := P) blk T (vs.take (m * d.size)) 0 (st + off * d.size) cells w e2 hroom (fun v hv => hv1.2 v (List.mem_of_mem_take hv))
   refine ⟨w', ?_, ?_⟩
   ·rw [hu1] at hfirst ⊢
    simp only [hmm] at hfirst r1
    simp [Builtin.copy_, h0, run_und hu, hd.run_sizeOf, Builtin.lenOf, hm, hfirst, goInt, r1]
   ·refine s.write (blk := blk) hob (by simp [AObj.blk, hh]) (by simp [AObj.blk, hh]) r4 r3 r2 ?_
    have hlen' : (rows.take off ++ new.take len ++ rows.drop (off + (new.take len).length)).length = rows.length := by simp; omega
    have hto : (rows.take off).length = off := by simp; omega
    have hrow : ∀ (i : Nat) (row : List AV), (rows.take off ++ new.take len ++ rows.drop (off + (new.take len).length))[i]? = some row →
      row.length = d.size ∧ ((i < off ∧ rows[i]? = some row) ∨ (off ≤ i ∧ i < off + m ∧ new[i - off]? = some row) ∨ (off + m ≤ i ∧ rows[i]? = some row)) := by
     intro i row hi
     rw [List.append_assoc, List.getElem?_append, hto] at hi
     split at hi
     ·rename_i c1
      rw [List.getElem?_take, if_pos c1] at hi
      exact ⟨e7 i row hi, .inl ⟨c1, hi⟩⟩
     ·rename_i c1
      rw [List.getElem?_append, hml] at hi
      split at hi
      ·rename_i c2
       rw [List.getElem?_take, if_pos (by omega)] at hi
       exact ⟨hnr _ row hi, .inr (.inl ⟨by omega, by show i < off + min len new.length; omega, hi⟩)⟩
      ·rename_i c2
       rw [List.getElem?_drop] at hi
       rw [show off + min len new.length + (i - off - min len new.length) = i from by omega] at hi
       exact ⟨e7 i row hi, .inr (.inr ⟨by show off + min len new.length ≤ i; omega, hi⟩)⟩
    refine ObjOk.over (h := h) (w := w) (rows := rows) _ hh e6 r5 (by rw [over_size hroom]; exact e3) (by rw [hlen']; exact e4) e5 (fun i row hi => (hrow i row hi).1) ?_
    intro i j c hc
    obtain ⟨row, hi, hj⟩ := cellAt_get hc
    obtain ⟨b1, b2⟩ := hrow i row hi
    have hjl : j < d.size := by have := (List.getElem?_eq_some_iff.1 hj).1; omega
    have hover := over_get (off := st + off * d.size + 0) (vs := vs.take (m * d.size)) (cs := cells) hroom
    rw [hover, hvl]
    rcases b2 with ⟨c1, c2⟩ | ⟨c1, c2, c3⟩ | ⟨c1, c2⟩
    ·have := pos_lt hjl c1
     rw [if_pos (by omega)]
     exact e8 i j c (by simp [cellAt, c2, hj])
    ·have q1 : off * d.size ≤ i * d.size := Nat.mul_le_mul_right _ c1
     have q2 := pos_lt hjl c2
     have q3 : (i - off) * d.size = i * d.size - off * d.size := by rw [Nat.sub_mul]
     rw [if_neg (by omega), if_pos (by omega)]
     have hs0 : d.size ≠ 0 := by omega
     obtain ⟨v, f1, f2, f3⟩ := rows_in hs0 hnr hv1 (i - off) j c (by simp [cellAt, c3, hj])
     refine ⟨v, ?_, f2, f3⟩
     rw [List.getElem?_take, if_pos (by omega), ← f1]
     congr 1
     omega
    ·have q1 : (off + m) * d.size ≤ i * d.size := Nat.mul_le_mul_right _ c1
     rw [if_neg (by omega), if_neg (by omega)]
     exact e8 i j c (by simp [cellAt, c2, hj])
  | onil hh => simp at hz
  | onilz hh => simp at hz
  | oz hh k1 k2 => simp at hz
theorem zeroCells_get {z : Array Value} {n i : Nat} (h : i < n * z.size) : (Builtin.zeroCells z n).toList[i]? = some (z[i % z.size]!) := by
 unfold Builtin.zeroCells
 rw [Array.getElem?_toList, Array.getElem?_map, Array.getElem?_range, if_pos h]
 rfl
theorem zeroCells_len {z : Array Value} {n : Nat} : (Builtin.zeroCells z n).toList.length = n * z.size := by
 simp [Builtin.zeroCells]
theorem clear_obj {h : Heap} {w : World} (s : Sim σ h w) {argTypes : Array TypeId} {ty t e : Nat} {d : TD} (h0 : argTypes[0]? = some t) (hu : P.underlying t = some (.slice e))
  (hd : DOk P e d) {id : Id} {ep off len : Nat} {lim : Bool} {rows : List (List AV)} {v : Value} (hx : VRel σ (.oslc id ep d.size off len lim) v) (hob : h[id]? = some (.vec ep rows)) :
  ∃ w', (Builtin.clear_ argTypes ty #[v]).run P w = .ok (.tuple #[]) w' ∧ Mv σ h w σ (h.set id (.vec ep (rows.take off ++ List.replicate len d.zero ++ rows.drop (off + len)))) w' := by
 obtain ⟨z, hz1, hz2, hz3⟩ := zero_rel (σ := σ) hd w
 have hzl : d.zero.length = d.size := by have := hz3.1.1; simp at this; omega
 by_cases hz : len = 0
 ·subst hz
  refine ⟨w, ?_, ?_⟩
  ·obtain ⟨a1, cap1, hva⟩ : ∃ a cap, v = .slice a 0 cap := by cases hx <;> exact ⟨_, _, rfl⟩
   rw [hva]
   cases a1 with
   | none => simp [Builtin.clear_, h0, run_und hu]
   | some b => simp [Builtin.clear_, h0, run_und hu]
  ·simp only [List.replicate_zero, List.append_nil, Nat.add_zero, List.take_append_drop]
   rw [Heap.set_self hob]
   exact .refl s
 ·cases hx with
  | @oslc _ _ _ _ _ _ _ blk st n size cap hh k1 k2 k3 k4 k5 =>
   rcases s.obj id _ hob with ⟨_, x⟩ | ⟨blk', st', sz', n', size', cells, T, e1, e2, e3, e4, e5, e6, e7, e8⟩
   ·rw [hh] at x; cases x
   rw [hh] at e1
   cases e1
   have hvl : (Builtin.zeroCells z.cells len).toList.length = len * d.size := by rw [zeroCells_len, hz2]
   have hend : (off + len) * d.size ≤ n * d.size := Nat.mul_le_mul_right _ (by omega)
   have hsplit : (off + len) * d.size = off * d.size + len * d.size := by rw [Nat.add_mul]
   have hroom : st + off * d.size + 0 + (Builtin.zeroCells z.cells len).toList.length ≤ cells.size := by rw [hvl, e3]; omega
   have hone : ∀ v ∈ (Builtin.zeroCells z.cells len).toList, v.oneCell' = true := by
    intro v hv
    obtain ⟨i, hi⟩ := List.getElem?_of_mem hv
    have hlt : i < len * z.cells.size := by rw [← zeroCells_len (z := z.cells)]; exact (List.getElem?_eq_some_iff.1 hi).1
    rw [zeroCells_get hlt] at hi
    cases hi
    have hp : 0 < z.cells.size := Nat.pos_of_ne_zero fun x => by rw [x] at hlt; simp at hlt
    have hm := Nat.mod_lt i hp
    rw [getElem!_pos z.cells _ hm]
    exact hz3.2 _ (by simp)
   obtain ⟨w', r1, r2, r3, r4, r5⟩ := run_storeCells' (P := P) blk T (Builtin.zeroCells z.cells len).toList 0 (st + off * d.size) cells w e2 hroom hone
   refine ⟨w', ?_, ?_⟩
   ·obtain ⟨m, rfl⟩ : ∃ m, len = m + 1 := ⟨len - 1, by omega⟩
    simp [Builtin.clear_, h0, run_und hu, hz1, r1]
   ·refine s.write (blk := blk) hob (by simp [AObj.blk, hh]) (by simp [AObj.blk, hh]) r4 r3 r2 ?_
    have hlen' : (rows.take off ++ List.replicate len d.zero ++ rows.drop (off + len)).length = rows.length := by simp; omega
    have hto : (rows.take off).length = off := by simp; omega
    have hrow : ∀ (i : Nat) (row : List AV), (rows.take off ++ List.replicate len d.zero ++ rows.drop (off + len))[i]? = some row →
      row.length = d.size ∧ ((i < off ∧ rows[i]? = some row) ∨ (off ≤ i ∧ i < off + len ∧ row = d.zero) ∨ (off + len ≤ i ∧ rows[i]? = some row)) := by
     intro i row hi
     rw [List.append_assoc, List.getElem?_append, hto] at hi
     split at hi
     ·rename_i c1
      rw [List.getElem?_take, if_pos c1] at hi
      exact ⟨e7 i row hi, .inl ⟨c1, hi⟩⟩
     ·rename_i c1
      rw [List.getElem?_append, List.length_replicate] at hi
      split at hi
      ·rename_i c2
       have hr := (List.mem_replicate.1 (List.mem_of_getElem? hi)).2
       exact ⟨by rw [hr]; exact hzl, .inr (.inl ⟨by omega, by omega, hr⟩)⟩
      ·rename_i c2
       rw [List.getElem?_drop] at hi
       rw [show off + len + (i - off - len) = i from by omega] at hi
       exact ⟨e7 i row hi, .inr (.inr ⟨by omega, hi⟩)⟩
    refine ObjOk.over (h := h) (w := w) (rows := rows) _ hh e6 r5 (by rw [over_size hroom]; exact e3) (by rw [hlen']; exact e4) e5 (fun i row hi => (hrow i row hi).1) ?_
    intro i j c hc
    obtain ⟨row, hi, hj⟩ := cellAt_get hc
    obtain ⟨b1, b2⟩ := hrow i row hi
    have hjl : j < d.size := by have := (List.getElem?_eq_some_iff.1 hj).1; omega
    have hover := over_get (off := st + off * d.size + 0) (vs := (Builtin.zeroCells z.cells len).toList) (cs := cells) hroom
    rw [hover, hvl]
    rcases b2 with ⟨c1, c2⟩ | ⟨c1, c2, c3⟩ | ⟨c1, c2⟩
    ·have := pos_lt hjl c1
     rw [if_pos (by omega)]
     exact e8 i j c (by simp [cellAt, c2, hj])
    ·have q1 : off * d.size ≤ i * d.size := Nat.mul_le_mul_right _ c1
     have q2 := pos_lt hjl c2
     have q3 : (i - off) * d.size = i * d.size - off * d.size := by rw [Nat.sub_mul]
     rw [if_neg (by omega), if_pos (by omega)]
     subst c3
     have hjz : j < z.cells.size := by omega
     refine ⟨z.cells[j], ?_, hz3.2 _ (by simp), hz3.1.2 j c _ hj (by simp)⟩
     have hidx : st + i * d.size + j - (st + off * d.size + 0) = (i - off) * d.size + j := by omega
     have hlt : (i - off) * d.size + j < len * z.cells.size := by
      rw [hz2]
      have := pos_lt (sz := d.size) (j := j) (i := i - off) (i' := len) hjl (by omega)
      omega
     rw [hidx, zeroCells_get hlt, hz2, Nat.mul_comm, Nat.mul_add_mod, Nat.mod_eq_of_lt hjl, getElem!_pos z.cells j hjz]
    ·have q1 : (off + len) * d.size ≤ i * d.size := Nat.mul_le_mul_right _ c1
     rw [if_neg (by omega), if_neg (by omega)]
     exact e8 i j c (by simp [cellAt, c2, hj])
  | onil hh => simp at hz
  | onilz hh => simp at hz
  | oz hh k1 k2 => simp at hz
theorem eff_sound (tok : TOk P ti) {ev : Operand → AV} {ρ : Operand → Value} (hr : OpRel σ ev ρ) {h : Heap} {w : World} (s : Sim σ h w) (id : Id) (o : Oper) {K : AV → Heap → Prop}
  (hk : effK ti ev id h o.op K) :
  ∃ n v r σ' h' w', (execOp ρ o).run P w = .ok n w' ∧ (n = .value v ∨ (n = .skip ∧ v = undef)) ∧ Mv σ h w σ' h' w' ∧ VRel σ' r v ∧ K r h' := by
 obtain ⟨dst, op, type, pos, after, guard⟩ := o
 simp only at hk
 unfold effK at hk
 split at hk
 ·
  rename_i t p v
  split at hk
  ·rename_i d cs hd hcs
   split at hk
   ·rename_i hl
    split at hk
    ·rename_i id' ep sz i off hp
     split at hk
     ·rename_i ep' rows ho
      obtain ⟨rfl, hk⟩ := hk
      split at hk
      ·rename_i row hrow
       split at hk
       ·rename_i hle
        rw [forceL_eq] at hk
        obtain ⟨w', h1, h2⟩ := store_sound tok hr s t p v hd hcs hl hp ho hrow hle
        exact ⟨.skip, undef, .u, σ, _, w', by simp [execOp, h1], .inr ⟨rfl, rfl⟩, h2, .u, hk⟩
       ·exact hk.elim
      ·exact hk.elim
     ·exact hk.elim
    ·exact hk.elim
   ·exact hk.elim
  ·exact hk.elim
 ·
  rename_i c
  obtain ⟨callee, args, argTypes⟩ := c
  simp only at hk
  split at hk
  ·
   rename_i a x e2
   have hargs : args.map ρ = #[ρ a, ρ x] := by
    have : args = #[a, x] := by apply Array.ext'; simpa using e2
    simp [this]
   split at hk
   ·rename_i e e' k1 k2
    unfold kindOf0 at k1
    cases h0 : argTypes[0]? with
    | none => simp [h0] at k1
    | some t =>
     simp only [h0] at k1
     cases h1 : argTypes[1]? with
     | none => simp [h1] at k2
     | some t2 =>
      simp only [h1, Option.bind_some] at k2
      obtain ⟨dt, hdt, hkt⟩ := kindOf_some k1
      obtain ⟨dt2, hdt2, hkt2⟩ := kindOf_some k2
      have hu := (tok _ _ hdt).slice hkt
      have hu2 := (tok _ _ hdt2).slice hkt2
      split at hk
      ·rename_i d hd
       split at hk
       ·exact hk.elim
       ·rename_i hs0
        obtain ⟨new, hk, hel⟩ := elems_of s (hr x) hk
        have hfin : ∀ {r : AV} {σ' : Sg} {h' : Heap} {w' : World} {v : Value}, (Builtin.append_ argTypes type #[ρ a, ρ x]).run P w = .ok v w' → Mv σ h w σ' h' w' → VRel σ' r v → K r h' →
          ∃ n v r σ' h' w', (execOp ρ ⟨dst, .call ⟨.builtin .append, args, argTypes⟩, type, pos, after, guard⟩).run P w = .ok n w' ∧ (n = .value v ∨ (n = .skip ∧ v = undef)) ∧ Mv σ h w σ' h' w' ∧ VRel σ' r v ∧ K r h' := by
         intro r σ' h' w' v q1 q2 q3 q4
         exact ⟨.value v, v, r, σ', h', w', by simp [execOp, resolve, invoke, builtin, hargs, q1], .inl rfl, q2, q3, q4⟩
        have newcase : (∃ q, VRel σ q (ρ a) ∧ (q = .nils ∨ (∃ i j k l, q = .oslc i j k l 0 true) ∨ ∃ i j k, q = .lslc i j k 0 true)) →
          (if h.has id = false then False else
           (new.length * d.bytes ≤ 140737488355328 ∧ new.length ≤ 9223372036854775807) ∧ ∀ ep2, K (.oslc id ep2 d.size 0 new.length false) (h.set id (.vec ep2 new))) →
          ∃ n v r σ' h' w', (execOp ρ ⟨dst, .call ⟨.builtin .append, args, argTypes⟩, type, pos, after, guard⟩).run P w = .ok n w' ∧ (n = .value v ∨ (n = .skip ∧ v = undef)) ∧ Mv σ h w σ' h' w' ∧ VRel σ' r v ∧ K r h' := by
         rintro ⟨q, hq, hqs⟩ hk
         split at hk
         ·exact hk.elim
         ·obtain ⟨⟨b1, b2⟩, hk⟩ := hk
          obtain ⟨b, hb⟩ : ∃ b, ρ a = .slice b 0 0 := by
           generalize ρ a = u at hq
           rcases hqs with rfl | ⟨i, j, k, l, rfl⟩ | ⟨i, j, k, rfl⟩
           ·cases hq; exact ⟨_, rfl⟩
           ·cases hq with
            | oslc _ _ _ h3 _ _ => rw [h3 rfl]; exact ⟨_, rfl⟩
            | onil => exact ⟨_, rfl⟩
            | onilz => exact ⟨_, rfl⟩
            | oz => exact ⟨_, rfl⟩
           ·cases hq with
            | lslc _ _ _ _ _ _ h3 _ => rw [h3 rfl]; exact ⟨_, rfl⟩
            | lnil => exact ⟨_, rfl⟩
            | lz => exact ⟨_, rfl⟩
          by_cases hn0 : new.length = 0
          ·have : new = [] := List.eq_nil_of_length_eq_zero hn0
           subst this
           obtain ⟨ep2, σ', m, hp⟩ := s.allocNil id
           obtain ⟨a2, cap2, vs, hu1, _, _, _, hvs, hf, _⟩ := hel.first (P := P) (w' := w) rfl
           have hvs0 : vs = [] := List.eq_nil_of_length_eq_zero (by simpa using hvs)
           subst hvs0
           have hrun : (Builtin.append_ argTypes type #[ρ a, ρ x]).run P w = .ok (.slice b 0 0) w := by
            rw [hb, hu1]
            exact run_append_zero (ty := type) w h0 h1 hu hu2 (tok _ _ hd) (sLen := 0) (n := 0) [] (by rw [hu1] at hf; exact hf) (by simp) (fun b _ => by simp [storeCells]) (fun _ => rfl)
           refine hfin hrun m ?_ (hk ep2)
           cases b with
           | none => exact .onil hp
           | some b => exact .onilz hp
          ·have hold : Elems σ w d.size (ρ a) [] := by
            refine ⟨fun i row hr => by simp at hr, b, 0, by rw [hb]; rfl, by simp, fun _ => ⟨rfl, rfl⟩, [], ⟨⟨by simp, fun i a v x => by simp at x⟩, by simp⟩, by simp, fun b e j v hv => by simp at hv⟩
           obtain ⟨r, ep, σ', w', q1, q2, q3⟩ := append_new (ty := type) s id h0 h1 hu hu2 (tok _ _ hd) hs0 hold hel (by simpa using b1) (by simpa using b2) (cap := 0) (a := b) (by rw [hb]; rfl) (by simp; omega)
           exact hfin q1 (by simpa using q2) (by simpa using q3) (hk ep)
        split at hk
        ·rename_i id0 ep sz off len ea
         split at hk
         ·rename_i hsz
          subst hsz
          split at hk
          ·rename_i ep' rows ho
           obtain ⟨rfl, ⟨b1, b2⟩, hk⟩ := hk
           have hx := hr a
           rw [ea] at hx
           obtain ⟨r, ep2, σ', w', q1, q2, q3⟩ := append_obj (ty := type) s h0 h1 hu hu2 (tok _ _ hd) hs0 hx ho hel b1 b2
           exact hfin q1 q2 q3 (hk ep2)
          ·exact hk.elim
         ·exact hk.elim
        ·rename_i ea
         exact newcase ⟨_, ea ▸ hr a, .inl rfl⟩ hk
        ·rename_i i j k l ea
         exact newcase ⟨_, ea ▸ hr a, .inr (.inl ⟨_, _, _, _, rfl⟩)⟩ hk
        ·rename_i i j k ea
         exact newcase ⟨_, ea ▸ hr a, .inr (.inr ⟨_, _, _, rfl⟩)⟩ hk
        ·exact hk.elim
      ·exact hk.elim
   ·exact hk.elim
  ·
   rename_i a x e2
   have hargs : args.map ρ = #[ρ a, ρ x] := by
    have : args = #[a, x] := by apply Array.ext'; simpa using e2
    simp [this]
   split at hk
   ·rename_i e k1
    unfold kindOf0 at k1
    cases h0 : argTypes[0]? with
    | none => simp [h0] at k1
    | some t =>
     simp only [h0] at k1
     obtain ⟨dt, hdt, hkt⟩ := kindOf_some k1
     have hu := (tok _ _ hdt).slice hkt
     split at hk
     ·rename_i d hd
      obtain ⟨new, hk, hel⟩ := elems_of s (hr x) hk
      split at hk
      ·rename_i id0 ep sz off len lim ea
       split at hk
       ·rename_i hsz
        subst hsz
        split at hk
        ·rename_i ep' rows ho
         obtain ⟨rfl, hk⟩ := hk
         have hx := hr a
         rw [ea] at hx
         obtain ⟨w', q1, q2⟩ := copy_obj (ty := type) s h0 hu (tok _ _ hd) hx ho hel
         exact ⟨.value _, _, _, σ, _, w', by simp [execOp, resolve, invoke, builtin, hargs, q1], .inl rfl, q2, .int, hk⟩
        ·exact hk.elim
       ·exact hk.elim
      ·exact hk.elim
     ·exact hk.elim
   ·exact hk.elim
  ·
   rename_i a e2
   have hargs : args.map ρ = #[ρ a] := by
    have : args = #[a] := by apply Array.ext'; simpa using e2
    simp [this]
   split at hk
   ·rename_i e k1
    unfold kindOf0 at k1
    cases h0 : argTypes[0]? with
    | none => simp [h0] at k1
    | some t =>
     simp only [h0] at k1
     obtain ⟨dt, hdt, hkt⟩ := kindOf_some k1
     have hu := (tok _ _ hdt).slice hkt
     split at hk
     ·rename_i d hd
      split at hk
      ·rename_i id0 ep sz off len lim ea
       split at hk
       ·rename_i hsz
        subst hsz
        split at hk
        ·rename_i ep' rows ho
         obtain ⟨rfl, hk⟩ := hk
         have hx := hr a
         rw [ea] at hx
         obtain ⟨w', q1, q2⟩ := clear_obj (ty := type) s h0 hu (tok _ _ hd) hx ho
         exact ⟨.value (.tuple #[]), .tuple #[], .tup [], σ, _, w', by simp [execOp, resolve, invoke, builtin, hargs, q1], .inl rfl, q2, .tup rfl (fun i c v x => by simp at x), hk⟩
        ·exact hk.elim
       ·exact hk.elim
      ·exact hk.elim
     ·exact hk.elim
   ·exact hk.elim
  ·exact hk.elim
 ·
  rename_i op t x y t'
  split at hk
  ·rename_i e1 e hy hkd
   obtain ⟨d, hd, hk0⟩ := kindOf_some hkd
   have hu := (tok _ _ hd).slice hk0
   have hy' := hr y
   rw [hy] at hy'
   have hyv : ρ y = .slice none 0 0 := by generalize ρ y = v at hy'; cases hy'; rfl
   have fin : ∀ b, (Op.equalIn (9999 + 1) t (ρ x) (.slice none 0 0)).run P w = .ok b w → (∀ cs, ρ x ≠ .agg cs) ∧ ρ x ≠ .nilIface → ((∀ k n, ρ x ≠ .int k n) ∧ (∀ s, ρ x ≠ .string s) ∧ (∀ k n, ρ x ≠ .float k n) ∧ ∀ k a b, ρ x ≠ .complex k a b) →
     (op = .eql → (execOp ρ { dst := dst, op := .binOp op t x y t', type := type, pos := pos, after := after, guard := guard }).run P w = .ok (.value (.bool b)) w) ∧
     (op = .neq → (execOp ρ { dst := dst, op := .binOp op t x y t', type := type, pos := pos, after := after, guard := guard }).run P w = .ok (.value (.bool !b)) w) := by
    intro b hb hg hx
    have hr2 := run_eql w hb hx
    refine ⟨?_, ?_⟩ <;> rintro rfl
    ·simp [execOp, hyv, eqGuard_plain w hg, hr2.1]
    ·simp [execOp, hyv, eqGuard_plain w hg, hr2.2]
   have mv : Mv σ h w σ h w := .refl s
   have hx := hr x
   have use : ∀ (F : Bool → Prop), nilEqK (ev x) F → ∃ b, F b ∧ (Op.equalIn (9999 + 1) t (ρ x) (.slice none 0 0)).run P w = .ok b w ∧ ((∀ cs, ρ x ≠ .agg cs) ∧ ρ x ≠ .nilIface) ∧ ((∀ k n, ρ x ≠ .int k n) ∧ (∀ s, ρ x ≠ .string s) ∧ (∀ k n, ρ x ≠ .float k n) ∧ ∀ k a b, ρ x ≠ .complex k a b) := by
    intro F hF
    have sl : ∀ (a : Option Addr) n c, ρ x = .slice a n c → ((Op.equalIn (9999 + 1) t (ρ x) (.slice none 0 0)).run P w = .ok a.isNone w ∧ ((∀ cs, ρ x ≠ .agg cs) ∧ ρ x ≠ .nilIface) ∧ ((∀ k n, ρ x ≠ .int k n) ∧ (∀ s, ρ x ≠ .string s) ∧ (∀ k n, ρ x ≠ .float k n) ∧ ∀ k a b, ρ x ≠ .complex k a b)) := by
     intro a n c e
     rw [e]
     exact ⟨eqIn_slice_nil 9999 hu a n c w, by simp⟩
    have e : ∀ v, VRel σ (ev x) v → ∃ a n c, v = .slice a n c ∧ F a.isNone := by
     intro v hx
     unfold nilEqK at hF
     split at hF
     ·rename_i ex
      rw [ex] at hx
      cases hx
      exact ⟨_, _, _, rfl, hF⟩
     ·rename_i ex
      rw [ex] at hx
      cases hx with
      | lslc => exact ⟨_, _, _, rfl, hF.2⟩
      | lnil => exact ⟨_, _, _, rfl, hF.1 rfl⟩
      | lz => exact ⟨_, _, _, rfl, hF.2⟩
     ·rename_i ex
      rw [ex] at hx
      cases hx with
      | oslc => exact ⟨_, _, _, rfl, hF.2⟩
      | onil => exact ⟨_, _, _, rfl, hF.1 rfl⟩
      | onilz => exact ⟨_, _, _, rfl, hF.2⟩
      | oz => exact ⟨_, _, _, rfl, hF.2⟩
     ·exact hF.elim
    obtain ⟨a, n, c, ea, hF'⟩ := e _ hx
    exact ⟨_, hF', sl _ _ _ ea⟩
   split at hk
   ·obtain ⟨b, hb, r1, r2, r3⟩ := use _ hk
    exact ⟨_, _, .bool b, σ, h, w, (fin b r1 r2 r3).1 rfl, .inl rfl, mv, .bool, hb⟩
   ·obtain ⟨b, hb, r1, r2, r3⟩ := use _ hk
    exact ⟨_, _, .bool !b, σ, h, w, (fin b r1 r2 r3).2 rfl, .inl rfl, mv, .bool, hb⟩
   ·exact hk.elim
  ·exact hk.elim
 ·rename_i t m k v
  obtain ⟨h', w', h1, h2, h3⟩ := updK_sound tok s (hr m) (hr k) (hr v) hk
  exact ⟨.skip, undef, .u, σ, h', w', by simp [execOp, h1], .inr ⟨rfl, rfl⟩, h2, .u, h3⟩
 ·exact hk.elim
end
end Go.Ab
