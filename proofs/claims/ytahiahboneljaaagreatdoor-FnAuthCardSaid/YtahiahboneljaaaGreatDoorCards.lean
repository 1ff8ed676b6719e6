/-
  DERIVED. GIVEN WITH THE SEED: THE CARDS: each row of YtahiahboneljaaaGreatDoorRows.lean that lists a variable, with what it lists TIED to the program's text (the seventh form; the later family's looks); each row that meets fmt, with fmt's text TOLD by the authors' own Lean function (tested against real Go, not proved from fmt's source: count such statements apart). THE CARD IS WHAT COUNTS. Prove the row's statement (the work); the ties are given (YtahiahboneljaaaGreatDoorTie.lean); close each card by the builder's one call (the guide's Derived/Test/ToyasCard.lean, 'card_holds'). Laid BY PROGRAM, IN A SANDBOX (cutbox-door.mjs). By AI agents, Wed Nov 11 2026. No macro, syntax, notation, axiom, sorry.
-/
import Derived.Test.YtahiahboneljaaaGreatDoorRows
import GoSem.ClaimSeven
namespace Go.Proofs.YtahiahboneljaaaGreatDoor
namespace Rows

/-- THE TIED CARD OF 'laws.FnData'. -/
def fnDataCard : Claim7 := { stood := { row := fnDataRow, standIns := [], harness := (true, "cdad8d93d0aac6f460c802c8c6bb94884e643e5dcc81d90aad4ac7f780b3dfe1"), looks := false }, kinds := [], alts := [], laidByText := true, laidKinds := [.data, .pinned], laidTests := true, laidLooks := .later }
def FnDataCardSaid : Prop := Claim7.holds Tryz.pinned (.plain (OpenSpec.ofChange fnDataSpec)) fnDataCard

/-- THE TIED CARD OF 'laws.FnFromEarly'. -/
def fnFromEarlyCard : Claim7 := { stood := { row := fnFromEarlyRow, standIns := [], harness := (true, "cdad8d93d0aac6f460c802c8c6bb94884e643e5dcc81d90aad4ac7f780b3dfe1"), looks := false }, kinds := [], alts := [], laidByText := true, laidKinds := [.data, .pinned], laidTests := true, laidLooks := .later }
def FnFromEarlyCardSaid : Prop := Claim7.holds Tryz.pinned (.plain (OpenSpec.ofChange fnFromEarlySpec)) fnFromEarlyCard

/-- THE TIED CARD OF 'laws.FnHello'. -/
def fnHelloCard : Claim7 := { stood := { row := fnHelloRow, standIns := [], harness := (true, "cdad8d93d0aac6f460c802c8c6bb94884e643e5dcc81d90aad4ac7f780b3dfe1"), looks := false }, kinds := [], alts := [], laidByText := true, laidKinds := [.data, .pinned], laidTests := true, laidLooks := .later }
def FnHelloCardSaid : Prop := Claim7.holds Tryz.pinned (.plain (OpenSpec.ofChange fnHelloSpec)) fnHelloCard

/-- THE TIED CARD OF 'laws.FnHelloBad'. -/
def fnHelloBadCard : Claim7 := { stood := { row := fnHelloBadRow, standIns := [], harness := (true, "cdad8d93d0aac6f460c802c8c6bb94884e643e5dcc81d90aad4ac7f780b3dfe1"), looks := false }, kinds := [], alts := [], laidByText := true, laidKinds := [.data, .pinned], laidTests := true, laidLooks := .later }
def FnHelloBadCardSaid : Prop := Claim7.holds Tryz.pinned (.plain (OpenSpec.ofChange fnHelloBadSpec)) fnHelloBadCard

/-- THE TIED CARD OF 'laws.FnNoop'. -/
def fnNoopCard : Claim7 := { stood := { row := fnNoopRow, standIns := [], harness := (true, "cdad8d93d0aac6f460c802c8c6bb94884e643e5dcc81d90aad4ac7f780b3dfe1"), looks := false }, kinds := [], alts := [], laidByText := true, laidKinds := [.data, .pinned], laidTests := true, laidLooks := .later }
def FnNoopCardSaid : Prop := Claim7.holds Tryz.pinned (.plain (OpenSpec.ofChange fnNoopSpec)) fnNoopCard

/-- THE TIED CARD OF 'laws.FnQuit'. -/
def fnQuitCard : Claim7 := { stood := { row := fnQuitRow, standIns := [], harness := (true, "cdad8d93d0aac6f460c802c8c6bb94884e643e5dcc81d90aad4ac7f780b3dfe1"), looks := false }, kinds := [], alts := [], laidByText := true, laidKinds := [.data, .pinned], laidTests := true, laidLooks := .later }
def FnQuitCardSaid : Prop := Claim7.holds Tryz.pinned (.plain (OpenSpec.ofChange fnQuitSpec)) fnQuitCard

/-- THE TIED CARD OF 'laws.FnReset'. -/
def fnResetCard : Claim7 := { stood := { row := fnResetRow, standIns := [], harness := (true, "cdad8d93d0aac6f460c802c8c6bb94884e643e5dcc81d90aad4ac7f780b3dfe1"), looks := false }, kinds := [], alts := [], laidByText := true, laidKinds := [.data, .pinned], laidTests := true, laidLooks := .later }
def FnResetCardSaid : Prop := Claim7.holds Tryz.pinned (.plain (OpenSpec.ofChange fnResetSpec)) fnResetCard

/-- THE TIED CARD OF 'laws.FnAuth'. -/
def fnAuthCard : Claim7 := { stood := { row := fnAuthRow, standIns := [], harness := (true, "cdad8d93d0aac6f460c802c8c6bb94884e643e5dcc81d90aad4ac7f780b3dfe1"), looks := false }, kinds := [], alts := [], laidByText := true, laidKinds := [.data, .pinned], laidTests := true, laidLooks := .later }
def FnAuthCardSaid : Prop := Claim7.holds Tryz.pinned (.plain (OpenSpec.ofChange fnAuthSpec)) fnAuthCard

/-- THE SECOND FORM's CARD OF 'laws.FnData'. -/
def fnDataUptoCard : Claim7 := { stood := { row := fnDataUptoRow, standIns := [], harness := (true, "cdad8d93d0aac6f460c802c8c6bb94884e643e5dcc81d90aad4ac7f780b3dfe1"), looks := false }, kinds := [], alts := [], laidByText := true, laidKinds := [.data, .pinned], laidTests := true, laidLooks := .later }
def FnDataUptoCardSaid : Prop := Claim7.holds Tryz.pinned (.plain (OpenSpec.upto fnDataSpec)) fnDataUptoCard

/-- THE SECOND FORM's CARD OF 'laws.FnFromEarly'. -/
def fnFromEarlyUptoCard : Claim7 := { stood := { row := fnFromEarlyUptoRow, standIns := [], harness := (true, "cdad8d93d0aac6f460c802c8c6bb94884e643e5dcc81d90aad4ac7f780b3dfe1"), looks := false }, kinds := [], alts := [], laidByText := true, laidKinds := [.data, .pinned], laidTests := true, laidLooks := .later }
def FnFromEarlyUptoCardSaid : Prop := Claim7.holds Tryz.pinned (.plain (OpenSpec.upto fnFromEarlySpec)) fnFromEarlyUptoCard

/-- THE SECOND FORM's CARD OF 'laws.FnHello'. -/
def fnHelloUptoCard : Claim7 := { stood := { row := fnHelloUptoRow, standIns := [], harness := (true, "cdad8d93d0aac6f460c802c8c6bb94884e643e5dcc81d90aad4ac7f780b3dfe1"), looks := false }, kinds := [], alts := [], laidByText := true, laidKinds := [.data, .pinned], laidTests := true, laidLooks := .later }
def FnHelloUptoCardSaid : Prop := Claim7.holds Tryz.pinned (.plain (OpenSpec.upto fnHelloSpec)) fnHelloUptoCard

/-- THE SECOND FORM's CARD OF 'laws.FnHelloBad'. -/
def fnHelloBadUptoCard : Claim7 := { stood := { row := fnHelloBadUptoRow, standIns := [], harness := (true, "cdad8d93d0aac6f460c802c8c6bb94884e643e5dcc81d90aad4ac7f780b3dfe1"), looks := false }, kinds := [], alts := [], laidByText := true, laidKinds := [.data, .pinned], laidTests := true, laidLooks := .later }
def FnHelloBadUptoCardSaid : Prop := Claim7.holds Tryz.pinned (.plain (OpenSpec.upto fnHelloBadSpec)) fnHelloBadUptoCard

/-- THE SECOND FORM's CARD OF 'laws.FnNoop'. -/
def fnNoopUptoCard : Claim7 := { stood := { row := fnNoopUptoRow, standIns := [], harness := (true, "cdad8d93d0aac6f460c802c8c6bb94884e643e5dcc81d90aad4ac7f780b3dfe1"), looks := false }, kinds := [], alts := [], laidByText := true, laidKinds := [.data, .pinned], laidTests := true, laidLooks := .later }
def FnNoopUptoCardSaid : Prop := Claim7.holds Tryz.pinned (.plain (OpenSpec.upto fnNoopSpec)) fnNoopUptoCard

/-- THE SECOND FORM's CARD OF 'laws.FnQuit'. -/
def fnQuitUptoCard : Claim7 := { stood := { row := fnQuitUptoRow, standIns := [], harness := (true, "cdad8d93d0aac6f460c802c8c6bb94884e643e5dcc81d90aad4ac7f780b3dfe1"), looks := false }, kinds := [], alts := [], laidByText := true, laidKinds := [.data, .pinned], laidTests := true, laidLooks := .later }
def FnQuitUptoCardSaid : Prop := Claim7.holds Tryz.pinned (.plain (OpenSpec.upto fnQuitSpec)) fnQuitUptoCard

/-- THE SECOND FORM's CARD OF 'laws.FnReset'. -/
def fnResetUptoCard : Claim7 := { stood := { row := fnResetUptoRow, standIns := [], harness := (true, "cdad8d93d0aac6f460c802c8c6bb94884e643e5dcc81d90aad4ac7f780b3dfe1"), looks := false }, kinds := [], alts := [], laidByText := true, laidKinds := [.data, .pinned], laidTests := true, laidLooks := .later }
def FnResetUptoCardSaid : Prop := Claim7.holds Tryz.pinned (.plain (OpenSpec.upto fnResetSpec)) fnResetUptoCard

/-- THE SECOND FORM's CARD OF 'laws.FnAuth'. -/
def fnAuthUptoCard : Claim7 := { stood := { row := fnAuthUptoRow, standIns := [], harness := (true, "cdad8d93d0aac6f460c802c8c6bb94884e643e5dcc81d90aad4ac7f780b3dfe1"), looks := false }, kinds := [], alts := [], laidByText := true, laidKinds := [.data, .pinned], laidTests := true, laidLooks := .later }
def FnAuthUptoCardSaid : Prop := Claim7.holds Tryz.pinned (.plain (OpenSpec.upto fnAuthSpec)) fnAuthUptoCard
end Rows
end Go.Proofs.YtahiahboneljaaaGreatDoor
