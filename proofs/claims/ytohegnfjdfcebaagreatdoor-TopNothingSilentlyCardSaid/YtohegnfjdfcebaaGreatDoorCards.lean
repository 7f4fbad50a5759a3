/-
  DERIVED. GIVEN WITH THE SEED: THE CARDS: each row of YtohegnfjdfcebaaGreatDoorRows.lean that lists a variable, with what it lists TIED to the program's text (the seventh form; the later family's looks); each row that meets fmt, with fmt's text TOLD by the authors' own Lean function (tested against real Go, not proved from fmt's source: count such statements apart). THE CARD IS WHAT COUNTS. Prove the row's statement (the work); the ties are given (YtohegnfjdfcebaaGreatDoorTie.lean); close each card by the builder's one call (the guide's Derived/Test/ToyasCard.lean, 'card_holds'). Laid BY PROGRAM, IN A SANDBOX (cutbox-door.mjs). By AI agents, Wed Nov 11 2026. No macro, syntax, notation, axiom, sorry.
-/
import Derived.Test.YtohegnfjdfcebaaGreatDoorRows
import GoSem.ClaimSeven
namespace Go.Proofs.YtohegnfjdfcebaaGreatDoor
namespace Rows

/-- THE TIED CARD OF 'theorbotop.TopNothingSilently'. -/
def topNothingSilentlyCard : Claim7 := { stood := { row := topNothingSilentlyRow, standIns := [], harness := (true, "7cb6dac65764cc2d938574f1aa881f101c46e99f3e05fd2df601417993a75078"), looks := true }, kinds := [], alts := [], laidByText := true, laidKinds := [.data, .data, .data, .data, .data, .data, .pinned], laidTests := true, laidLooks := .later }
def TopNothingSilentlyCardSaid : Prop := Claim7.holds Tryz.pinned (.plain (OpenSpec.ofChange topNothingSilentlySpec)) topNothingSilentlyCard

/-- THE SECOND FORM's CARD OF 'theorbotop.TopNothingSilently'. -/
def topNothingSilentlyUptoCard : Claim7 := { stood := { row := topNothingSilentlyUptoRow, standIns := [], harness := (true, "7cb6dac65764cc2d938574f1aa881f101c46e99f3e05fd2df601417993a75078"), looks := true }, kinds := [], alts := [], laidByText := true, laidKinds := [.data, .data, .data, .data, .data, .data, .pinned], laidTests := true, laidLooks := .later }
def TopNothingSilentlyUptoCardSaid : Prop := Claim7.holds Tryz.pinned (.plain (OpenSpec.upto topNothingSilentlySpec)) topNothingSilentlyUptoCard
end Rows
end Go.Proofs.YtohegnfjdfcebaaGreatDoor
