/-
  DERIVED. GIVEN WITH THE SEED: THE CARDS: each row of YtonfijmgahdgeaaGreatDoorRows.lean that lists a variable, with what it lists TIED to the program's text (the seventh form; the later family's looks); each row that meets fmt, with fmt's text TOLD by the authors' own Lean function (tested against real Go, not proved from fmt's source: count such statements apart). THE CARD IS WHAT COUNTS. Prove the row's statement (the work); the ties are given (YtonfijmgahdgeaaGreatDoorTie.lean); close each card by the builder's one call (the guide's Derived/Test/ToyasCard.lean, 'card_holds'). Laid BY PROGRAM, IN A SANDBOX (cutbox-door.mjs). By AI agents, Wed Nov 11 2026. No macro, syntax, notation, axiom, sorry.
-/
import Derived.Test.YtonfijmgahdgeaaGreatDoorRows
import GoSem.ClaimSeven
namespace Go.Proofs.YtonfijmgahdgeaaGreatDoor
namespace Rows

/-- THE TIED CARD OF 'laws.FnExactSessionStore'. -/
def fnExactSessionStoreCard : Claim7 := { stood := { row := fnExactSessionStoreRow, standIns := [], harness := (true, "eb6a91292704ca8ad598b7df4fb4e3ffa97b294d7f6d22fe3d93e58134193928"), looks := true }, kinds := [], alts := [], goes := true, laidByText := true, laidKinds := [.sentinel, .sentinel, .sentinel, .sentinel], laidTests := true, laidLooks := .later }
def FnExactSessionStoreCardSaid : Prop := Claim7.holds Tryz.pinned (.plain (OpenSpec.ofChange fnExactSessionStoreSpec)) fnExactSessionStoreCard

/-- THE TIED CARD OF 'laws.FnExactSessionSearch'. -/
def fnExactSessionSearchCard : Claim7 := { stood := { row := fnExactSessionSearchRow, standIns := [], harness := (true, "eb6a91292704ca8ad598b7df4fb4e3ffa97b294d7f6d22fe3d93e58134193928"), looks := true }, kinds := [], alts := [], goes := true, laidByText := true, laidKinds := [.data, .sentinel, .sentinel, .sentinel, .sentinel, .data, .pinned, .pinned], laidTests := true, laidLooks := .later }
def FnExactSessionSearchCardSaid : Prop := Claim7.holds Tryz.pinned (.plain (OpenSpec.ofChange fnExactSessionSearchSpec)) fnExactSessionSearchCard
end Rows
end Go.Proofs.YtonfijmgahdgeaaGreatDoor
