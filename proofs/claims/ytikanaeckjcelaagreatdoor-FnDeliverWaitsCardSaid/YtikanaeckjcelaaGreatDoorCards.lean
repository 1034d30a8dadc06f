/-
  DERIVED. GIVEN WITH THE SEED: THE CARDS: each row of YtikanaeckjcelaaGreatDoorRows.lean that lists a variable, with what it lists TIED to the program's text (the seventh form; the later family's looks); each row that meets fmt, with fmt's text TOLD by the authors' own Lean function (tested against real Go, not proved from fmt's source: count such statements apart). THE CARD IS WHAT COUNTS. Prove the row's statement (the work); the ties are given (YtikanaeckjcelaaGreatDoorTie.lean); close each card by the builder's one call (the guide's Derived/Test/ToyasCard.lean, 'card_holds'). Laid BY PROGRAM, IN A SANDBOX (cutbox-door.mjs). By AI agents, Wed Nov 11 2026. No macro, syntax, notation, axiom, sorry.
-/
import Derived.Test.YtikanaeckjcelaaGreatDoorRows
import GoSem.ClaimSeven
namespace Go.Proofs.YtikanaeckjcelaaGreatDoor
namespace Rows

/-- THE TIED CARD OF 'laws.FnDeliver'. -/
def fnDeliverCard : Claim7 := { stood := { row := fnDeliverRow, standIns := [], harness := (true, "6580161742134e2c35af6d49de9e71d60f4b19a8893889a4061e5aeb27e4ed38"), looks := true }, kinds := [], alts := [], goes := true, laidByText := true, laidKinds := [.sentinel, .sentinel, .sentinel, .sentinel], laidTests := true, laidLooks := .later }
def FnDeliverCardSaid : Prop := Claim7.holds Tryz.pinned (.plain (OpenSpec.ofChange fnDeliverSpec)) fnDeliverCard

/-- THE TIED CARD OF 'laws.FnDeliverOnce'. -/
def fnDeliverOnceCard : Claim7 := { stood := { row := fnDeliverOnceRow, standIns := [], harness := (true, "6580161742134e2c35af6d49de9e71d60f4b19a8893889a4061e5aeb27e4ed38"), looks := true }, kinds := [], alts := [], goes := true, laidByText := true, laidKinds := [.sentinel, .sentinel, .sentinel, .sentinel], laidTests := true, laidLooks := .later }
def FnDeliverOnceCardSaid : Prop := Claim7.holds Tryz.pinned (.plain (OpenSpec.ofChange fnDeliverOnceSpec)) fnDeliverOnceCard

/-- THE TIED CARD OF 'laws.FnDeliverQuota'. -/
def fnDeliverQuotaCard : Claim7 := { stood := { row := fnDeliverQuotaRow, standIns := [], harness := (true, "6580161742134e2c35af6d49de9e71d60f4b19a8893889a4061e5aeb27e4ed38"), looks := true }, kinds := [], alts := [], goes := true, laidByText := true, laidKinds := [.sentinel, .sentinel, .sentinel, .sentinel], laidTests := true, laidLooks := .later }
def FnDeliverQuotaCardSaid : Prop := Claim7.holds Tryz.pinned (.plain (OpenSpec.ofChange fnDeliverQuotaSpec)) fnDeliverQuotaCard

/-- THE TIED CARD OF 'laws.FnDeliverWaits'. -/
def fnDeliverWaitsCard : Claim7 := { stood := { row := fnDeliverWaitsRow, standIns := [], harness := (true, "6580161742134e2c35af6d49de9e71d60f4b19a8893889a4061e5aeb27e4ed38"), looks := true }, kinds := [], alts := [], goes := true, laidByText := true, laidKinds := [.sentinel, .sentinel, .sentinel, .sentinel], laidTests := true, laidLooks := .later }
def FnDeliverWaitsCardSaid : Prop := Claim7.holds Tryz.pinned (.plain (OpenSpec.ofChange fnDeliverWaitsSpec)) fnDeliverWaitsCard

/-- THE SECOND FORM's CARD OF 'laws.FnDeliver'. -/
def fnDeliverUptoCard : Claim7 := { stood := { row := fnDeliverUptoRow, standIns := [], harness := (true, "6580161742134e2c35af6d49de9e71d60f4b19a8893889a4061e5aeb27e4ed38"), looks := true }, kinds := [], alts := [], goes := true, laidByText := true, laidKinds := [.sentinel, .sentinel, .sentinel, .sentinel], laidTests := true, laidLooks := .later }
def FnDeliverUptoCardSaid : Prop := Claim7.holds Tryz.pinned (.plain (OpenSpec.upto fnDeliverSpec)) fnDeliverUptoCard

/-- THE SECOND FORM's CARD OF 'laws.FnDeliverOnce'. -/
def fnDeliverOnceUptoCard : Claim7 := { stood := { row := fnDeliverOnceUptoRow, standIns := [], harness := (true, "6580161742134e2c35af6d49de9e71d60f4b19a8893889a4061e5aeb27e4ed38"), looks := true }, kinds := [], alts := [], goes := true, laidByText := true, laidKinds := [.sentinel, .sentinel, .sentinel, .sentinel], laidTests := true, laidLooks := .later }
def FnDeliverOnceUptoCardSaid : Prop := Claim7.holds Tryz.pinned (.plain (OpenSpec.upto fnDeliverOnceSpec)) fnDeliverOnceUptoCard

/-- THE SECOND FORM's CARD OF 'laws.FnDeliverQuota'. -/
def fnDeliverQuotaUptoCard : Claim7 := { stood := { row := fnDeliverQuotaUptoRow, standIns := [], harness := (true, "6580161742134e2c35af6d49de9e71d60f4b19a8893889a4061e5aeb27e4ed38"), looks := true }, kinds := [], alts := [], goes := true, laidByText := true, laidKinds := [.sentinel, .sentinel, .sentinel, .sentinel], laidTests := true, laidLooks := .later }
def FnDeliverQuotaUptoCardSaid : Prop := Claim7.holds Tryz.pinned (.plain (OpenSpec.upto fnDeliverQuotaSpec)) fnDeliverQuotaUptoCard

/-- THE SECOND FORM's CARD OF 'laws.FnDeliverWaits'. -/
def fnDeliverWaitsUptoCard : Claim7 := { stood := { row := fnDeliverWaitsUptoRow, standIns := [], harness := (true, "6580161742134e2c35af6d49de9e71d60f4b19a8893889a4061e5aeb27e4ed38"), looks := true }, kinds := [], alts := [], goes := true, laidByText := true, laidKinds := [.sentinel, .sentinel, .sentinel, .sentinel], laidTests := true, laidLooks := .later }
def FnDeliverWaitsUptoCardSaid : Prop := Claim7.holds Tryz.pinned (.plain (OpenSpec.upto fnDeliverWaitsSpec)) fnDeliverWaitsUptoCard
end Rows
end Go.Proofs.YtikanaeckjcelaaGreatDoor
