/-
  DERIVED. GIVEN WITH THE SEED: THE CARDS: each row of YtgbaglnnkikkgaaGreatDoorRows.lean that lists a variable, with what it lists TIED to the program's text (the seventh form; the later family's looks); each row that meets fmt, with fmt's text TOLD by the authors' own Lean function (tested against real Go, not proved from fmt's source: count such statements apart). THE CARD IS WHAT COUNTS. Prove the row's statement (the work); the ties are given (YtgbaglnnkikkgaaGreatDoorTie.lean); close each card by the builder's one call (the guide's Derived/Test/ToyasCard.lean, 'card_holds'). Laid BY PROGRAM, IN A SANDBOX (cutbox-door.mjs). By AI agents, Wed Nov 11 2026. No macro, syntax, notation, axiom, sorry.
-/
import Derived.Test.YtgbaglnnkikkgaaGreatDoorRows
import GoSem.ClaimSeven
namespace Go.Proofs.YtgbaglnnkikkgaaGreatDoor
namespace Rows

/-- THE TIED CARD OF 'laws.FnExactHostGrant'. -/
def fnExactHostGrantCard : Claim7 := { stood := { row := fnExactHostGrantRow, standIns := [], harness := (true, "af8aee3d0bfad04d1e4c5ceabd9a248ec23b3164c197eb02df8e145c331f2c75"), looks := true }, kinds := [], alts := [], goes := true, laidByText := true, laidKinds := [.sentinel, .sentinel, .sentinel, .sentinel], laidTests := true, laidLooks := .later }
def FnExactHostGrantCardSaid : Prop := Claim7.holds Tryz.pinned (.plain (OpenSpec.ofChange fnExactHostGrantSpec)) fnExactHostGrantCard

/-- THE TIED CARD OF 'laws.FnExactHostCreate'. -/
def fnExactHostCreateCard : Claim7 := { stood := { row := fnExactHostCreateRow, standIns := [], harness := (true, "af8aee3d0bfad04d1e4c5ceabd9a248ec23b3164c197eb02df8e145c331f2c75"), looks := true }, kinds := [], alts := [], goes := true, laidByText := true, laidKinds := [.sentinel, .sentinel, .sentinel, .sentinel], laidTests := true, laidLooks := .later }
def FnExactHostCreateCardSaid : Prop := Claim7.holds Tryz.pinned (.plain (OpenSpec.ofChange fnExactHostCreateSpec)) fnExactHostCreateCard

/-- THE SECOND FORM's CARD OF 'laws.FnExactHostGrant'. -/
def fnExactHostGrantUptoCard : Claim7 := { stood := { row := fnExactHostGrantUptoRow, standIns := [], harness := (true, "af8aee3d0bfad04d1e4c5ceabd9a248ec23b3164c197eb02df8e145c331f2c75"), looks := true }, kinds := [], alts := [], goes := true, laidByText := true, laidKinds := [.sentinel, .sentinel, .sentinel, .sentinel], laidTests := true, laidLooks := .later }
def FnExactHostGrantUptoCardSaid : Prop := Claim7.holds Tryz.pinned (.plain (OpenSpec.upto fnExactHostGrantSpec)) fnExactHostGrantUptoCard

/-- THE SECOND FORM's CARD OF 'laws.FnExactHostCreate'. -/
def fnExactHostCreateUptoCard : Claim7 := { stood := { row := fnExactHostCreateUptoRow, standIns := [], harness := (true, "af8aee3d0bfad04d1e4c5ceabd9a248ec23b3164c197eb02df8e145c331f2c75"), looks := true }, kinds := [], alts := [], goes := true, laidByText := true, laidKinds := [.sentinel, .sentinel, .sentinel, .sentinel], laidTests := true, laidLooks := .later }
def FnExactHostCreateUptoCardSaid : Prop := Claim7.holds Tryz.pinned (.plain (OpenSpec.upto fnExactHostCreateSpec)) fnExactHostCreateUptoCard
end Rows
end Go.Proofs.YtgbaglnnkikkgaaGreatDoor
