/-
  What is proved here serves the law's text: each part says its own claim and its conditions. No condition is left open.
-/
import Derived.Test.YtohegnfjdfcebaaGreatDoorKR
set_option maxHeartbeats 32000000
set_option maxRecDepth 100000
set_option linter.unusedSimpArgs false
set_option linter.unusedVariables false

namespace Go.Ab
theorem frz1_pure {a:AV} {h:Heap} {K:AV→Heap→Prop} (hp:a.pure1=true) (k:K a h):frz1 h a K:=by
 unfold frz1
 split
 ·cases hp
 ·exact k
theorem frzCells_pure:∀{cs:List AV} {h:Heap} {K:List AV→Heap→Prop},cs.all AV.pure1=true→K cs h→frzCells h cs K
 | [],_,_,_,k=>k
 |a::r,h,K,hp,k=>by
  simp only [List.all_cons,Bool.and_eq_true] at hp;exact frz1_pure hp.1 (frzCells_pure hp.2 k)
theorem frzA_pure {a:AV} {h:Heap} {K:AV→Heap→Prop} (hp:a.isPure=true) (k:K a h):frzA h a K:=by
 unfold frzA
 split
 ·exact frzCells_pure hp k
 ·cases a with
  |tup cs=>unfold frz1;exact k
  |agg cs=>rename_i hh;exact absurd rfl (hh cs)
  |_=>exact frz1_pure hp k
theorem frzAs_pure:∀{cs:List AV} {h:Heap} {K:List AV→Heap→Prop},cs.all AV.isPure=true→K cs h→frzAs h cs K
 | [],_,_,_,k=>k
 |a::r,h,K,hp,k=>by
  simp only [List.all_cons,Bool.and_eq_true] at hp;exact frzA_pure hp.1 (frzAs_pure hp.2 k)
theorem frzK_pure {a:AV} {h:Heap} {K:AV→Heap→Prop} (hp:a.isPure2=true) (k:K a h):frzK h a K:=by
 unfold frzK
 split
 ·exact frzAs_pure hp k
 ·cases a with
  |tup cs=>rename_i hh;exact absurd rfl (hh cs)
  |_=>exact frzA_pure hp k
end Go.Ab
