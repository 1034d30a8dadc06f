/-
  DERIVED. GIVEN WITH THE SEED: THE CARDS: each row of YtbebcagblefhcaaGreatDoorRows.lean that lists a variable, with what it lists TIED to the program's text (the seventh form; the later family's looks); each row that meets fmt, with fmt's text TOLD by the authors' own Lean function (tested against real Go, not proved from fmt's source: count such statements apart). THE CARD IS WHAT COUNTS. Prove the row's statement (the work); the ties are given (YtbebcagblefhcaaGreatDoorTie.lean); close each card by the builder's one call (the guide's Derived/Test/ToyasCard.lean, 'card_holds'). Laid BY PROGRAM, IN A SANDBOX (cutbox-door.mjs). By AI agents, Wed Nov 11 2026. No macro, syntax, notation, axiom, sorry.
-/
import Derived.Test.YtbebcagblefhcaaGreatDoorRows
import GoSem.ClaimSeven
namespace Go.Proofs.YtbebcagblefhcaaGreatDoor
namespace Rows

/-- THE TIED CARD OF 'laws.FnExactSessionFetch'. -/
def fnExactSessionFetchCard : Claim7 := { stood := { row := fnExactSessionFetchRow, standIns := [], harness := (true, "ddc048b8b3cdc1dbb38a7027cc1c01fc0334811876da9a1543f79410ff9c2085"), looks := true }, kinds := [], alts := [], goes := true, laidByText := true, laidKinds := [.sentinel, .sentinel, .sentinel, .sentinel], laidTests := true, laidLooks := .later }
def FnExactSessionFetchCardSaid : Prop := Claim7.holds Tryz.pinned (.plain (OpenSpec.ofChange fnExactSessionFetchSpec)) fnExactSessionFetchCard

/-- THE TIED CARD OF 'laws.FnExactSessionExpunge'. -/
def fnExactSessionExpungeCard : Claim7 := { stood := { row := fnExactSessionExpungeRow, standIns := [], harness := (true, "ddc048b8b3cdc1dbb38a7027cc1c01fc0334811876da9a1543f79410ff9c2085"), looks := true }, kinds := [], alts := [], goes := true, laidByText := true, laidKinds := [.sentinel, .sentinel, .sentinel, .sentinel], laidTests := true, laidLooks := .later }
def FnExactSessionExpungeCardSaid : Prop := Claim7.holds Tryz.pinned (.plain (OpenSpec.ofChange fnExactSessionExpungeSpec)) fnExactSessionExpungeCard

/-- THE TIED CARD OF 'laws.FnExactSessionCopy'. -/
def fnExactSessionCopyCard : Claim7 := { stood := { row := fnExactSessionCopyRow, standIns := [], harness := (true, "ddc048b8b3cdc1dbb38a7027cc1c01fc0334811876da9a1543f79410ff9c2085"), looks := true }, kinds := [], alts := [], goes := true, laidByText := true, laidKinds := [.sentinel, .sentinel, .sentinel, .sentinel], laidTests := true, laidLooks := .later }
def FnExactSessionCopyCardSaid : Prop := Claim7.holds Tryz.pinned (.plain (OpenSpec.ofChange fnExactSessionCopySpec)) fnExactSessionCopyCard

/-- THE TIED CARD OF 'laws.FnSelectRefused'. -/
def fnSelectRefusedCard : Claim7 := { stood := { row := fnSelectRefusedRow, standIns := [], harness := (true, "ddc048b8b3cdc1dbb38a7027cc1c01fc0334811876da9a1543f79410ff9c2085"), looks := true }, kinds := [], alts := [], goes := true, laidByText := true, laidKinds := [.sentinel, .sentinel, .sentinel, .sentinel], laidTests := true, laidLooks := .later }
def FnSelectRefusedCardSaid : Prop := Claim7.holds Tryz.pinned (.plain (OpenSpec.ofChange fnSelectRefusedSpec)) fnSelectRefusedCard
end Rows
end Go.Proofs.YtbebcagblefhcaaGreatDoor
