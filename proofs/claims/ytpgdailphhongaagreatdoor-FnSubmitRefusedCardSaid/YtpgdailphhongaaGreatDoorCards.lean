/-
  DERIVED. GIVEN WITH THE SEED: THE CARDS: each row of YtpgdailphhongaaGreatDoorRows.lean that lists a variable, with what it lists TIED to the program's text (the seventh form; the later family's looks); each row that meets fmt, with fmt's text TOLD by the authors' own Lean function (tested against real Go, not proved from fmt's source: count such statements apart). THE CARD IS WHAT COUNTS. Prove the row's statement (the work); the ties are given (YtpgdailphhongaaGreatDoorTie.lean); close each card by the builder's one call (the guide's Derived/Test/ToyasCard.lean, 'card_holds'). Laid BY PROGRAM, IN A SANDBOX (cutbox-door.mjs). By AI agents, Wed Nov 11 2026. No macro, syntax, notation, axiom, sorry.
-/
import Derived.Test.YtpgdailphhongaaGreatDoorRows
import GoSem.ClaimSeven
namespace Go.Proofs.YtpgdailphhongaaGreatDoor
namespace Rows

/-- THE TIED CARD OF 'laws.FnSelect'. -/
def fnSelectCard : Claim7 := { stood := { row := fnSelectRow, standIns := [], harness := (true, "c98b7dfdd76a8167fd200c50ba41f5e68ff3f0c04938dd2629044d4ee8d8b917"), looks := true }, kinds := [], alts := [], goes := true, laidByText := true, laidKinds := [.sentinel, .sentinel, .sentinel, .sentinel], laidTests := true, laidLooks := .later }
def FnSelectCardSaid : Prop := Claim7.holds Tryz.pinned (.plain (OpenSpec.ofChange fnSelectSpec)) fnSelectCard

/-- THE TIED CARD OF 'laws.FnSubmitRefused'. -/
def fnSubmitRefusedCard : Claim7 := { stood := { row := fnSubmitRefusedRow, standIns := [], harness := (true, "c98b7dfdd76a8167fd200c50ba41f5e68ff3f0c04938dd2629044d4ee8d8b917"), looks := true }, kinds := [], alts := [], goes := true, laidByText := true, laidKinds := [.sentinel, .sentinel, .sentinel, .sentinel], laidTests := true, laidLooks := .later }
def FnSubmitRefusedCardSaid : Prop := Claim7.holds Tryz.pinned (.plain (OpenSpec.ofChange fnSubmitRefusedSpec)) fnSubmitRefusedCard

/-- THE TIED CARD OF 'laws.FnSubmit'. -/
def fnSubmitCard : Claim7 := { stood := { row := fnSubmitRow, standIns := [], harness := (true, "c98b7dfdd76a8167fd200c50ba41f5e68ff3f0c04938dd2629044d4ee8d8b917"), looks := true }, kinds := [], alts := [], goes := true, laidByText := true, laidKinds := [.sentinel, .sentinel, .sentinel, .sentinel], laidTests := true, laidLooks := .later }
def FnSubmitCardSaid : Prop := Claim7.holds Tryz.pinned (.plain (OpenSpec.ofChange fnSubmitSpec)) fnSubmitCard

/-- THE SECOND FORM's CARD OF 'laws.FnSelect'. -/
def fnSelectUptoCard : Claim7 := { stood := { row := fnSelectUptoRow, standIns := [], harness := (true, "c98b7dfdd76a8167fd200c50ba41f5e68ff3f0c04938dd2629044d4ee8d8b917"), looks := true }, kinds := [], alts := [], goes := true, laidByText := true, laidKinds := [.sentinel, .sentinel, .sentinel, .sentinel], laidTests := true, laidLooks := .later }
def FnSelectUptoCardSaid : Prop := Claim7.holds Tryz.pinned (.plain (OpenSpec.upto fnSelectSpec)) fnSelectUptoCard

/-- THE SECOND FORM's CARD OF 'laws.FnSubmitRefused'. -/
def fnSubmitRefusedUptoCard : Claim7 := { stood := { row := fnSubmitRefusedUptoRow, standIns := [], harness := (true, "c98b7dfdd76a8167fd200c50ba41f5e68ff3f0c04938dd2629044d4ee8d8b917"), looks := true }, kinds := [], alts := [], goes := true, laidByText := true, laidKinds := [.sentinel, .sentinel, .sentinel, .sentinel], laidTests := true, laidLooks := .later }
def FnSubmitRefusedUptoCardSaid : Prop := Claim7.holds Tryz.pinned (.plain (OpenSpec.upto fnSubmitRefusedSpec)) fnSubmitRefusedUptoCard

/-- THE SECOND FORM's CARD OF 'laws.FnSubmit'. -/
def fnSubmitUptoCard : Claim7 := { stood := { row := fnSubmitUptoRow, standIns := [], harness := (true, "c98b7dfdd76a8167fd200c50ba41f5e68ff3f0c04938dd2629044d4ee8d8b917"), looks := true }, kinds := [], alts := [], goes := true, laidByText := true, laidKinds := [.sentinel, .sentinel, .sentinel, .sentinel], laidTests := true, laidLooks := .later }
def FnSubmitUptoCardSaid : Prop := Claim7.holds Tryz.pinned (.plain (OpenSpec.upto fnSubmitSpec)) fnSubmitUptoCard
end Rows
end Go.Proofs.YtpgdailphhongaaGreatDoor
