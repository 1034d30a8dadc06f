/-
  DERIVED. GIVEN WITH THE SEED: THE CARDS: each row of YthgggppcgbglkaaGreatDoorRows.lean that lists a variable, with what it lists TIED to the program's text (the seventh form; the later family's looks); each row that meets fmt, with fmt's text TOLD by the authors' own Lean function (tested against real Go, not proved from fmt's source: count such statements apart). THE CARD IS WHAT COUNTS. Prove the row's statement (the work); the ties are given (YthgggppcgbglkaaGreatDoorTie.lean); close each card by the builder's one call (the guide's Derived/Test/ToyasCard.lean, 'card_holds'). Laid BY PROGRAM, IN A SANDBOX (cutbox-door.mjs). By AI agents, Wed Nov 11 2026. No macro, syntax, notation, axiom, sorry.
-/
import Derived.Test.YthgggppcgbglkaaGreatDoorRows
import GoSem.ClaimSeven
namespace Go.Proofs.YthgggppcgbglkaaGreatDoor
namespace Rows

/-- THE TIED CARD OF 'laws.FnExactHostGrant'. -/
def fnExactHostGrantCard : Claim7 := { stood := { row := fnExactHostGrantRow, standIns := [], harness := (true, "99a9d6413fe6386f5ddb836a06de0529d3806a3a1937109080a8613e0b9c4009"), looks := true }, kinds := [], alts := [], goes := true, laidByText := true, laidKinds := [.sentinel, .sentinel, .sentinel, .sentinel], laidTests := true, laidLooks := .later }
def FnExactHostGrantCardSaid : Prop := Claim7.holds Tryz.pinned (.plain (OpenSpec.ofChange fnExactHostGrantSpec)) fnExactHostGrantCard

/-- THE TIED CARD OF 'laws.FnExactHostSubmit'. -/
def fnExactHostSubmitCard : Claim7 := { stood := { row := fnExactHostSubmitRow, standIns := [], harness := (true, "99a9d6413fe6386f5ddb836a06de0529d3806a3a1937109080a8613e0b9c4009"), looks := true }, kinds := [], alts := [], goes := true, laidByText := true, laidKinds := [.sentinel, .sentinel, .sentinel, .sentinel], laidTests := true, laidLooks := .later }
def FnExactHostSubmitCardSaid : Prop := Claim7.holds Tryz.pinned (.plain (OpenSpec.ofChange fnExactHostSubmitSpec)) fnExactHostSubmitCard

/-- THE TIED CARD OF 'laws.FnExactHostPut'. -/
def fnExactHostPutCard : Claim7 := { stood := { row := fnExactHostPutRow, standIns := [], harness := (true, "99a9d6413fe6386f5ddb836a06de0529d3806a3a1937109080a8613e0b9c4009"), looks := true }, kinds := [], alts := [], goes := true, laidByText := true, laidKinds := [.sentinel, .sentinel, .sentinel, .sentinel], laidTests := true, laidLooks := .later }
def FnExactHostPutCardSaid : Prop := Claim7.holds Tryz.pinned (.plain (OpenSpec.ofChange fnExactHostPutSpec)) fnExactHostPutCard

/-- THE TIED CARD OF 'laws.FnExactHostCreate'. -/
def fnExactHostCreateCard : Claim7 := { stood := { row := fnExactHostCreateRow, standIns := [], harness := (true, "99a9d6413fe6386f5ddb836a06de0529d3806a3a1937109080a8613e0b9c4009"), looks := true }, kinds := [], alts := [], goes := true, laidByText := true, laidKinds := [.sentinel, .sentinel, .sentinel, .sentinel], laidTests := true, laidLooks := .later }
def FnExactHostCreateCardSaid : Prop := Claim7.holds Tryz.pinned (.plain (OpenSpec.ofChange fnExactHostCreateSpec)) fnExactHostCreateCard

/-- THE TIED CARD OF 'laws.FnExactHostDeliver'. -/
def fnExactHostDeliverCard : Claim7 := { stood := { row := fnExactHostDeliverRow, standIns := [], harness := (true, "99a9d6413fe6386f5ddb836a06de0529d3806a3a1937109080a8613e0b9c4009"), looks := true }, kinds := [], alts := [], goes := true, laidByText := true, laidKinds := [.sentinel, .sentinel, .sentinel, .sentinel], laidTests := true, laidLooks := .later }
def FnExactHostDeliverCardSaid : Prop := Claim7.holds Tryz.pinned (.plain (OpenSpec.ofChange fnExactHostDeliverSpec)) fnExactHostDeliverCard

/-- THE SECOND FORM's CARD OF 'laws.FnExactHostGrant'. -/
def fnExactHostGrantUptoCard : Claim7 := { stood := { row := fnExactHostGrantUptoRow, standIns := [], harness := (true, "99a9d6413fe6386f5ddb836a06de0529d3806a3a1937109080a8613e0b9c4009"), looks := true }, kinds := [], alts := [], goes := true, laidByText := true, laidKinds := [.sentinel, .sentinel, .sentinel, .sentinel], laidTests := true, laidLooks := .later }
def FnExactHostGrantUptoCardSaid : Prop := Claim7.holds Tryz.pinned (.plain (OpenSpec.upto fnExactHostGrantSpec)) fnExactHostGrantUptoCard

/-- THE SECOND FORM's CARD OF 'laws.FnExactHostSubmit'. -/
def fnExactHostSubmitUptoCard : Claim7 := { stood := { row := fnExactHostSubmitUptoRow, standIns := [], harness := (true, "99a9d6413fe6386f5ddb836a06de0529d3806a3a1937109080a8613e0b9c4009"), looks := true }, kinds := [], alts := [], goes := true, laidByText := true, laidKinds := [.sentinel, .sentinel, .sentinel, .sentinel], laidTests := true, laidLooks := .later }
def FnExactHostSubmitUptoCardSaid : Prop := Claim7.holds Tryz.pinned (.plain (OpenSpec.upto fnExactHostSubmitSpec)) fnExactHostSubmitUptoCard

/-- THE SECOND FORM's CARD OF 'laws.FnExactHostPut'. -/
def fnExactHostPutUptoCard : Claim7 := { stood := { row := fnExactHostPutUptoRow, standIns := [], harness := (true, "99a9d6413fe6386f5ddb836a06de0529d3806a3a1937109080a8613e0b9c4009"), looks := true }, kinds := [], alts := [], goes := true, laidByText := true, laidKinds := [.sentinel, .sentinel, .sentinel, .sentinel], laidTests := true, laidLooks := .later }
def FnExactHostPutUptoCardSaid : Prop := Claim7.holds Tryz.pinned (.plain (OpenSpec.upto fnExactHostPutSpec)) fnExactHostPutUptoCard

/-- THE SECOND FORM's CARD OF 'laws.FnExactHostCreate'. -/
def fnExactHostCreateUptoCard : Claim7 := { stood := { row := fnExactHostCreateUptoRow, standIns := [], harness := (true, "99a9d6413fe6386f5ddb836a06de0529d3806a3a1937109080a8613e0b9c4009"), looks := true }, kinds := [], alts := [], goes := true, laidByText := true, laidKinds := [.sentinel, .sentinel, .sentinel, .sentinel], laidTests := true, laidLooks := .later }
def FnExactHostCreateUptoCardSaid : Prop := Claim7.holds Tryz.pinned (.plain (OpenSpec.upto fnExactHostCreateSpec)) fnExactHostCreateUptoCard

/-- THE SECOND FORM's CARD OF 'laws.FnExactHostDeliver'. -/
def fnExactHostDeliverUptoCard : Claim7 := { stood := { row := fnExactHostDeliverUptoRow, standIns := [], harness := (true, "99a9d6413fe6386f5ddb836a06de0529d3806a3a1937109080a8613e0b9c4009"), looks := true }, kinds := [], alts := [], goes := true, laidByText := true, laidKinds := [.sentinel, .sentinel, .sentinel, .sentinel], laidTests := true, laidLooks := .later }
def FnExactHostDeliverUptoCardSaid : Prop := Claim7.holds Tryz.pinned (.plain (OpenSpec.upto fnExactHostDeliverSpec)) fnExactHostDeliverUptoCard
end Rows
end Go.Proofs.YthgggppcgbglkaaGreatDoor
