/-
  DERIVED. GIVEN WITH THE SEED: THE CARDS: each row of YtkppijmhadbpdaaGreatDoorRows.lean that lists a variable, with what it lists TIED to the program's text (the seventh form; the later family's looks); each row that meets fmt, with fmt's text TOLD by the authors' own Lean function (tested against real Go, not proved from fmt's source: count such statements apart). THE CARD IS WHAT COUNTS. Prove the row's statement (the work); the ties are given (YtkppijmhadbpdaaGreatDoorTie.lean); close each card by the builder's one call (the guide's Derived/Test/ToyasCard.lean, 'card_holds'). Laid BY PROGRAM, IN A SANDBOX (cutbox-door.mjs). By AI agents, Wed Nov 11 2026. No macro, syntax, notation, axiom, sorry.
-/
import Derived.Test.YtkppijmhadbpdaaGreatDoorRows
import GoSem.ClaimSeven
namespace Go.Proofs.YtkppijmhadbpdaaGreatDoor
namespace Rows

/-- THE TIED CARD OF 'laws.FnSelectRefused'. -/
def fnSelectRefusedCard : Claim7 := { stood := { row := fnSelectRefusedRow, standIns := [], harness := (true, "72c2d702cc92e1928875548fe6d7d038f204804e89aeecf5fc0b1f3e9827b80c"), looks := true }, kinds := [], alts := [], goes := true, laidByText := true, laidKinds := [.sentinel, .sentinel, .sentinel, .sentinel], laidTests := true, laidLooks := .later }
def FnSelectRefusedCardSaid : Prop := Claim7.holds Tryz.pinned (.plain (OpenSpec.ofChange fnSelectRefusedSpec)) fnSelectRefusedCard

/-- THE TIED CARD OF 'laws.FnExactSessionFetch'. -/
def fnExactSessionFetchCard : Claim7 := { stood := { row := fnExactSessionFetchRow, standIns := [], harness := (true, "72c2d702cc92e1928875548fe6d7d038f204804e89aeecf5fc0b1f3e9827b80c"), looks := true }, kinds := [], alts := [], goes := true, laidByText := true, laidKinds := [.sentinel, .sentinel, .sentinel, .sentinel], laidTests := true, laidLooks := .later }
def FnExactSessionFetchCardSaid : Prop := Claim7.holds Tryz.pinned (.plain (OpenSpec.ofChange fnExactSessionFetchSpec)) fnExactSessionFetchCard

/-- THE TIED CARD OF 'laws.FnExactSessionExpunge'. -/
def fnExactSessionExpungeCard : Claim7 := { stood := { row := fnExactSessionExpungeRow, standIns := [], harness := (true, "72c2d702cc92e1928875548fe6d7d038f204804e89aeecf5fc0b1f3e9827b80c"), looks := true }, kinds := [], alts := [], goes := true, laidByText := true, laidKinds := [.sentinel, .sentinel, .sentinel, .sentinel], laidTests := true, laidLooks := .later }
def FnExactSessionExpungeCardSaid : Prop := Claim7.holds Tryz.pinned (.plain (OpenSpec.ofChange fnExactSessionExpungeSpec)) fnExactSessionExpungeCard

/-- THE TIED CARD OF 'laws.FnExactSessionCopy'. -/
def fnExactSessionCopyCard : Claim7 := { stood := { row := fnExactSessionCopyRow, standIns := [], harness := (true, "72c2d702cc92e1928875548fe6d7d038f204804e89aeecf5fc0b1f3e9827b80c"), looks := true }, kinds := [], alts := [], goes := true, laidByText := true, laidKinds := [.sentinel, .sentinel, .sentinel, .sentinel], laidTests := true, laidLooks := .later }
def FnExactSessionCopyCardSaid : Prop := Claim7.holds Tryz.pinned (.plain (OpenSpec.ofChange fnExactSessionCopySpec)) fnExactSessionCopyCard
end Rows
end Go.Proofs.YtkppijmhadbpdaaGreatDoor
