/-
  DERIVED. GIVEN WITH THE SEED: THE CARDS: each row of YtandoilaebgglaaGreatDoorRows.lean that lists a variable, with what it lists TIED to the program's text (the seventh form; the later family's looks); each row that meets fmt, with fmt's text TOLD by the authors' own Lean function (tested against real Go, not proved from fmt's source: count such statements apart). THE CARD IS WHAT COUNTS. Prove the row's statement (the work); the ties are given (YtandoilaebgglaaGreatDoorTie.lean); close each card by the builder's one call (the guide's Derived/Test/ToyasCard.lean, 'card_holds'). Laid BY PROGRAM, IN A SANDBOX (cutbox-door.mjs). By AI agents, Wed Nov 11 2026. No macro, syntax, notation, axiom, sorry.
-/
import Derived.Test.YtandoilaebgglaaGreatDoorRows
import GoSem.ClaimSeven
namespace Go.Proofs.YtandoilaebgglaaGreatDoor
namespace Rows

/-- THE TIED CARD OF 'laws.FnPut'. -/
def fnPutCard : Claim7 := { stood := { row := fnPutRow, standIns := [], harness := (true, "ca68e0e05c9742a8e0aa6be020351de41d37569b83a9b4e31da321cd53c7fcbd"), looks := true }, kinds := [], alts := [], goes := true, laidByText := true, laidKinds := [.sentinel, .sentinel, .sentinel, .sentinel], laidTests := true, laidLooks := .later }
def FnPutCardSaid : Prop := Claim7.holds Tryz.pinned (.plain (OpenSpec.ofChange fnPutSpec)) fnPutCard

/-- THE TIED CARD OF 'laws.FnPutRefused'. -/
def fnPutRefusedCard : Claim7 := { stood := { row := fnPutRefusedRow, standIns := [], harness := (true, "ca68e0e05c9742a8e0aa6be020351de41d37569b83a9b4e31da321cd53c7fcbd"), looks := true }, kinds := [], alts := [], goes := true, laidByText := true, laidKinds := [.sentinel, .sentinel, .sentinel, .sentinel], laidTests := true, laidLooks := .later }
def FnPutRefusedCardSaid : Prop := Claim7.holds Tryz.pinned (.plain (OpenSpec.ofChange fnPutRefusedSpec)) fnPutRefusedCard

/-- THE TIED CARD OF 'laws.FnPutQuota'. -/
def fnPutQuotaCard : Claim7 := { stood := { row := fnPutQuotaRow, standIns := [], harness := (true, "ca68e0e05c9742a8e0aa6be020351de41d37569b83a9b4e31da321cd53c7fcbd"), looks := true }, kinds := [], alts := [], goes := true, laidByText := true, laidKinds := [.sentinel, .sentinel, .sentinel, .sentinel], laidTests := true, laidLooks := .later }
def FnPutQuotaCardSaid : Prop := Claim7.holds Tryz.pinned (.plain (OpenSpec.ofChange fnPutQuotaSpec)) fnPutQuotaCard

/-- THE TIED CARD OF 'laws.FnPutUsed'. -/
def fnPutUsedCard : Claim7 := { stood := { row := fnPutUsedRow, standIns := [], harness := (true, "ca68e0e05c9742a8e0aa6be020351de41d37569b83a9b4e31da321cd53c7fcbd"), looks := true }, kinds := [], alts := [], goes := true, laidByText := true, laidKinds := [.sentinel, .sentinel, .sentinel, .sentinel], laidTests := true, laidLooks := .later }
def FnPutUsedCardSaid : Prop := Claim7.holds Tryz.pinned (.plain (OpenSpec.ofChange fnPutUsedSpec)) fnPutUsedCard

/-- THE TIED CARD OF 'laws.FnPutRights'. -/
def fnPutRightsCard : Claim7 := { stood := { row := fnPutRightsRow, standIns := [], harness := (true, "ca68e0e05c9742a8e0aa6be020351de41d37569b83a9b4e31da321cd53c7fcbd"), looks := true }, kinds := [], alts := [], goes := true, laidByText := true, laidKinds := [.sentinel, .sentinel, .sentinel, .sentinel], laidTests := true, laidLooks := .later }
def FnPutRightsCardSaid : Prop := Claim7.holds Tryz.pinned (.plain (OpenSpec.ofChange fnPutRightsSpec)) fnPutRightsCard

/-- THE SECOND FORM's CARD OF 'laws.FnPut'. -/
def fnPutUptoCard : Claim7 := { stood := { row := fnPutUptoRow, standIns := [], harness := (true, "ca68e0e05c9742a8e0aa6be020351de41d37569b83a9b4e31da321cd53c7fcbd"), looks := true }, kinds := [], alts := [], goes := true, laidByText := true, laidKinds := [.sentinel, .sentinel, .sentinel, .sentinel], laidTests := true, laidLooks := .later }
def FnPutUptoCardSaid : Prop := Claim7.holds Tryz.pinned (.plain (OpenSpec.upto fnPutSpec)) fnPutUptoCard

/-- THE SECOND FORM's CARD OF 'laws.FnPutRefused'. -/
def fnPutRefusedUptoCard : Claim7 := { stood := { row := fnPutRefusedUptoRow, standIns := [], harness := (true, "ca68e0e05c9742a8e0aa6be020351de41d37569b83a9b4e31da321cd53c7fcbd"), looks := true }, kinds := [], alts := [], goes := true, laidByText := true, laidKinds := [.sentinel, .sentinel, .sentinel, .sentinel], laidTests := true, laidLooks := .later }
def FnPutRefusedUptoCardSaid : Prop := Claim7.holds Tryz.pinned (.plain (OpenSpec.upto fnPutRefusedSpec)) fnPutRefusedUptoCard

/-- THE SECOND FORM's CARD OF 'laws.FnPutQuota'. -/
def fnPutQuotaUptoCard : Claim7 := { stood := { row := fnPutQuotaUptoRow, standIns := [], harness := (true, "ca68e0e05c9742a8e0aa6be020351de41d37569b83a9b4e31da321cd53c7fcbd"), looks := true }, kinds := [], alts := [], goes := true, laidByText := true, laidKinds := [.sentinel, .sentinel, .sentinel, .sentinel], laidTests := true, laidLooks := .later }
def FnPutQuotaUptoCardSaid : Prop := Claim7.holds Tryz.pinned (.plain (OpenSpec.upto fnPutQuotaSpec)) fnPutQuotaUptoCard

/-- THE SECOND FORM's CARD OF 'laws.FnPutUsed'. -/
def fnPutUsedUptoCard : Claim7 := { stood := { row := fnPutUsedUptoRow, standIns := [], harness := (true, "ca68e0e05c9742a8e0aa6be020351de41d37569b83a9b4e31da321cd53c7fcbd"), looks := true }, kinds := [], alts := [], goes := true, laidByText := true, laidKinds := [.sentinel, .sentinel, .sentinel, .sentinel], laidTests := true, laidLooks := .later }
def FnPutUsedUptoCardSaid : Prop := Claim7.holds Tryz.pinned (.plain (OpenSpec.upto fnPutUsedSpec)) fnPutUsedUptoCard

/-- THE SECOND FORM's CARD OF 'laws.FnPutRights'. -/
def fnPutRightsUptoCard : Claim7 := { stood := { row := fnPutRightsUptoRow, standIns := [], harness := (true, "ca68e0e05c9742a8e0aa6be020351de41d37569b83a9b4e31da321cd53c7fcbd"), looks := true }, kinds := [], alts := [], goes := true, laidByText := true, laidKinds := [.sentinel, .sentinel, .sentinel, .sentinel], laidTests := true, laidLooks := .later }
def FnPutRightsUptoCardSaid : Prop := Claim7.holds Tryz.pinned (.plain (OpenSpec.upto fnPutRightsSpec)) fnPutRightsUptoCard
end Rows
end Go.Proofs.YtandoilaebgglaaGreatDoor
