/-
  DERIVED. GIVEN WITH THE SEED: THE CARDS: each row of YtnfoidafdcgdbaaGreatDoorRows.lean that lists a variable, with what it lists TIED to the program's text (the seventh form; the later family's looks); each row that meets fmt, with fmt's text TOLD by the authors' own Lean function (tested against real Go, not proved from fmt's source: count such statements apart). THE CARD IS WHAT COUNTS. Prove the row's statement (the work); the ties are given (YtnfoidafdcgdbaaGreatDoorTie.lean); close each card by the builder's one call (the guide's Derived/Test/ToyasCard.lean, 'card_holds'). Laid BY PROGRAM, IN A SANDBOX (cutbox-door.mjs). By AI agents, Wed Nov 11 2026. No macro, syntax, notation, axiom, sorry.
-/
import Derived.Test.YtnfoidafdcgdbaaGreatDoorRows
import GoSem.ClaimSeven
namespace Go.Proofs.YtnfoidafdcgdbaaGreatDoor
namespace Rows

/-- THE TIED CARD OF 'laws.FnSelect'. -/
def fnSelectCard : Claim7 := { stood := { row := fnSelectRow, standIns := [], harness := (true, "7bc1d6eebc63020ba23b0eb667a7d7786e9f2cbffd300eecd12f34ae312ba3fb"), looks := true }, kinds := [], alts := [], goes := true, laidByText := true, laidKinds := [.sentinel, .sentinel, .sentinel, .sentinel], laidTests := true, laidLooks := .later }
def FnSelectCardSaid : Prop := Claim7.holds Tryz.pinned (.plain (OpenSpec.ofChange fnSelectSpec)) fnSelectCard

/-- THE SECOND FORM's CARD OF 'laws.FnSelect'. -/
def fnSelectUptoCard : Claim7 := { stood := { row := fnSelectUptoRow, standIns := [], harness := (true, "7bc1d6eebc63020ba23b0eb667a7d7786e9f2cbffd300eecd12f34ae312ba3fb"), looks := true }, kinds := [], alts := [], goes := true, laidByText := true, laidKinds := [.sentinel, .sentinel, .sentinel, .sentinel], laidTests := true, laidLooks := .later }
def FnSelectUptoCardSaid : Prop := Claim7.holds Tryz.pinned (.plain (OpenSpec.upto fnSelectSpec)) fnSelectUptoCard
end Rows
end Go.Proofs.YtnfoidafdcgdbaaGreatDoor
