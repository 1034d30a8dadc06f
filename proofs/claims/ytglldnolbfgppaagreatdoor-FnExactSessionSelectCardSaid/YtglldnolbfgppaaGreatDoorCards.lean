/-
  DERIVED. GIVEN WITH THE SEED: THE CARDS: each row of YtglldnolbfgppaaGreatDoorRows.lean that lists a variable, with what it lists TIED to the program's text (the seventh form; the later family's looks); each row that meets fmt, with fmt's text TOLD by the authors' own Lean function (tested against real Go, not proved from fmt's source: count such statements apart). THE CARD IS WHAT COUNTS. Prove the row's statement (the work); the ties are given (YtglldnolbfgppaaGreatDoorTie.lean); close each card by the builder's one call (the guide's Derived/Test/ToyasCard.lean, 'card_holds'). Laid BY PROGRAM, IN A SANDBOX (cutbox-door.mjs). By AI agents, Wed Nov 11 2026. No macro, syntax, notation, axiom, sorry.
-/
import Derived.Test.YtglldnolbfgppaaGreatDoorRows
import GoSem.ClaimSeven
namespace Go.Proofs.YtglldnolbfgppaaGreatDoor
namespace Rows

/-- THE TIED CARD OF 'laws.FnExactSessionSelect'. -/
def fnExactSessionSelectCard : Claim7 := { stood := { row := fnExactSessionSelectRow, standIns := [], harness := (true, "01d46dde957de980145f5426e4703d1e2c1a57de989813b1bb0ec392d3813a55"), looks := true }, kinds := [], alts := [], goes := true, laidByText := true, laidKinds := [.sentinel, .sentinel, .sentinel, .sentinel], laidTests := true, laidLooks := .later }
def FnExactSessionSelectCardSaid : Prop := Claim7.holds Tryz.pinned (.plain (OpenSpec.ofChange fnExactSessionSelectSpec)) fnExactSessionSelectCard

/-- THE SECOND FORM's CARD OF 'laws.FnExactSessionSelect'. -/
def fnExactSessionSelectUptoCard : Claim7 := { stood := { row := fnExactSessionSelectUptoRow, standIns := [], harness := (true, "01d46dde957de980145f5426e4703d1e2c1a57de989813b1bb0ec392d3813a55"), looks := true }, kinds := [], alts := [], goes := true, laidByText := true, laidKinds := [.sentinel, .sentinel, .sentinel, .sentinel], laidTests := true, laidLooks := .later }
def FnExactSessionSelectUptoCardSaid : Prop := Claim7.holds Tryz.pinned (.plain (OpenSpec.upto fnExactSessionSelectSpec)) fnExactSessionSelectUptoCard
end Rows
end Go.Proofs.YtglldnolbfgppaaGreatDoor
