/-
  DERIVED. GIVEN WITH THE SEED: THE CARDS: each row of YtlihjmfdnkfmfaaGreatDoorRows.lean that lists a variable, with what it lists TIED to the program's text (the seventh form; the later family's looks); each row that meets fmt, with fmt's text TOLD by the authors' own Lean function (tested against real Go, not proved from fmt's source: count such statements apart). THE CARD IS WHAT COUNTS. Prove the row's statement (the work); the ties are given (YtlihjmfdnkfmfaaGreatDoorTie.lean); close each card by the builder's one call (the guide's Derived/Test/ToyasCard.lean, 'card_holds'). Laid BY PROGRAM, IN A SANDBOX (cutbox-door.mjs). By AI agents, Wed Nov 11 2026. No macro, syntax, notation, axiom, sorry.
-/
import Derived.Test.YtlihjmfdnkfmfaaGreatDoorRows
import GoSem.ClaimSeven
namespace Go.Proofs.YtlihjmfdnkfmfaaGreatDoor
namespace Rows

/-- THE TIED CARD OF 'hbllaw24.ProtoReads'. -/
def protoReadsCard : Claim7 := { stood := { row := protoReadsRow, standIns := [], harness := (true, "0e12b3834e51f715e1946d2e9541256e17422f21786a7219439a1982e3d418ce"), looks := false }, kinds := [], alts := [], laidByText := true, laidKinds := [.data, .data, .data, .data, .pinned], laidTests := true, laidLooks := .later }
def ProtoReadsCardSaid : Prop := Claim7.holds Tryz.pinned (.plain (OpenSpec.ofChange protoReadsSpec)) protoReadsCard

/-- THE TIED CARD OF 'hbllaw24.ProtoBack'. -/
def protoBackCard : Claim7 := { stood := { row := protoBackRow, standIns := [], harness := (true, "0e12b3834e51f715e1946d2e9541256e17422f21786a7219439a1982e3d418ce"), looks := false }, kinds := [], alts := [], laidByText := true, laidKinds := [.data, .data, .data, .data, .pinned], laidTests := true, laidLooks := .later }
def ProtoBackCardSaid : Prop := Claim7.holds Tryz.pinned (.plain (OpenSpec.ofChange protoBackSpec)) protoBackCard

/-- THE TIED CARD OF 'hbllaw24.ProtoFields'. -/
def protoFieldsCard : Claim7 := { stood := { row := protoFieldsRow, standIns := [], harness := (true, "0e12b3834e51f715e1946d2e9541256e17422f21786a7219439a1982e3d418ce"), looks := false }, kinds := [], alts := [], laidByText := true, laidKinds := [.data, .data, .data, .data, .pinned], laidTests := true, laidLooks := .later }
def ProtoFieldsCardSaid : Prop := Claim7.holds Tryz.pinned (.plain (OpenSpec.ofChange protoFieldsSpec)) protoFieldsCard

/-- THE TIED CARD OF 'hbllaw24.ProtoTells'. -/
def protoTellsCard : Claim7 := { stood := { row := protoTellsRow, standIns := [], harness := (true, "0e12b3834e51f715e1946d2e9541256e17422f21786a7219439a1982e3d418ce"), looks := false }, kinds := [], alts := [], laidByText := true, laidKinds := [.data, .data, .data, .data, .pinned], laidTests := true, laidLooks := .later }
def ProtoTellsCardSaid : Prop := Claim7.holds Tryz.pinned (.plain (OpenSpec.ofChange protoTellsSpec)) protoTellsCard

/-- THE TIED CARD OF 'hbllaw24.ProtoJson'. -/
def protoJsonCard : Claim7 := { stood := { row := protoJsonRow, standIns := [], harness := (true, "0e12b3834e51f715e1946d2e9541256e17422f21786a7219439a1982e3d418ce"), looks := false }, kinds := [], alts := [], laidByText := true, laidKinds := [.data, .data, .data, .data, .pinned], laidTests := true, laidLooks := .later }
def ProtoJsonCardSaid : Prop := Claim7.holds Tryz.pinned (.plain (OpenSpec.ofChange protoJsonSpec)) protoJsonCard

/-- THE TIED CARD OF 'hbllaw15.RowsTwo'. -/
def rowsTwoCard : Claim7 := { stood := { row := rowsTwoRow, standIns := [], harness := (true, "0e12b3834e51f715e1946d2e9541256e17422f21786a7219439a1982e3d418ce"), looks := false }, kinds := [], alts := [], laidByText := true, laidKinds := [.data, .data, .data, .data, .pinned], laidTests := true, laidLooks := .later }
def RowsTwoCardSaid : Prop := Claim7.holds Tryz.pinned (.plain (OpenSpec.ofChange rowsTwoSpec)) rowsTwoCard

/-- THE TIED CARD OF 'hbllaw15.RowsReads'. -/
def rowsReadsCard : Claim7 := { stood := { row := rowsReadsRow, standIns := [], harness := (true, "0e12b3834e51f715e1946d2e9541256e17422f21786a7219439a1982e3d418ce"), looks := false }, kinds := [], alts := [], laidByText := true, laidKinds := [.data, .data, .data, .data, .pinned], laidTests := true, laidLooks := .later }
def RowsReadsCardSaid : Prop := Claim7.holds Tryz.pinned (.plain (OpenSpec.ofChange rowsReadsSpec)) rowsReadsCard

/-- THE TIED CARD OF 'hbllaw15.RowsBack'. -/
def rowsBackCard : Claim7 := { stood := { row := rowsBackRow, standIns := [], harness := (true, "0e12b3834e51f715e1946d2e9541256e17422f21786a7219439a1982e3d418ce"), looks := false }, kinds := [], alts := [], laidByText := true, laidKinds := [.data, .data, .data, .data, .pinned], laidTests := true, laidLooks := .later }
def RowsBackCardSaid : Prop := Claim7.holds Tryz.pinned (.plain (OpenSpec.ofChange rowsBackSpec)) rowsBackCard

/-- THE SECOND FORM's CARD OF 'hbllaw24.ProtoReads'. -/
def protoReadsUptoCard : Claim7 := { stood := { row := protoReadsUptoRow, standIns := [], harness := (true, "0e12b3834e51f715e1946d2e9541256e17422f21786a7219439a1982e3d418ce"), looks := false }, kinds := [], alts := [], laidByText := true, laidKinds := [.data, .data, .data, .data, .pinned], laidTests := true, laidLooks := .later }
def ProtoReadsUptoCardSaid : Prop := Claim7.holds Tryz.pinned (.plain (OpenSpec.upto protoReadsSpec)) protoReadsUptoCard

/-- THE SECOND FORM's CARD OF 'hbllaw24.ProtoBack'. -/
def protoBackUptoCard : Claim7 := { stood := { row := protoBackUptoRow, standIns := [], harness := (true, "0e12b3834e51f715e1946d2e9541256e17422f21786a7219439a1982e3d418ce"), looks := false }, kinds := [], alts := [], laidByText := true, laidKinds := [.data, .data, .data, .data, .pinned], laidTests := true, laidLooks := .later }
def ProtoBackUptoCardSaid : Prop := Claim7.holds Tryz.pinned (.plain (OpenSpec.upto protoBackSpec)) protoBackUptoCard

/-- THE SECOND FORM's CARD OF 'hbllaw24.ProtoFields'. -/
def protoFieldsUptoCard : Claim7 := { stood := { row := protoFieldsUptoRow, standIns := [], harness := (true, "0e12b3834e51f715e1946d2e9541256e17422f21786a7219439a1982e3d418ce"), looks := false }, kinds := [], alts := [], laidByText := true, laidKinds := [.data, .data, .data, .data, .pinned], laidTests := true, laidLooks := .later }
def ProtoFieldsUptoCardSaid : Prop := Claim7.holds Tryz.pinned (.plain (OpenSpec.upto protoFieldsSpec)) protoFieldsUptoCard

/-- THE SECOND FORM's CARD OF 'hbllaw24.ProtoTells'. -/
def protoTellsUptoCard : Claim7 := { stood := { row := protoTellsUptoRow, standIns := [], harness := (true, "0e12b3834e51f715e1946d2e9541256e17422f21786a7219439a1982e3d418ce"), looks := false }, kinds := [], alts := [], laidByText := true, laidKinds := [.data, .data, .data, .data, .pinned], laidTests := true, laidLooks := .later }
def ProtoTellsUptoCardSaid : Prop := Claim7.holds Tryz.pinned (.plain (OpenSpec.upto protoTellsSpec)) protoTellsUptoCard

/-- THE SECOND FORM's CARD OF 'hbllaw24.ProtoJson'. -/
def protoJsonUptoCard : Claim7 := { stood := { row := protoJsonUptoRow, standIns := [], harness := (true, "0e12b3834e51f715e1946d2e9541256e17422f21786a7219439a1982e3d418ce"), looks := false }, kinds := [], alts := [], laidByText := true, laidKinds := [.data, .data, .data, .data, .pinned], laidTests := true, laidLooks := .later }
def ProtoJsonUptoCardSaid : Prop := Claim7.holds Tryz.pinned (.plain (OpenSpec.upto protoJsonSpec)) protoJsonUptoCard

/-- THE SECOND FORM's CARD OF 'hbllaw15.RowsTwo'. -/
def rowsTwoUptoCard : Claim7 := { stood := { row := rowsTwoUptoRow, standIns := [], harness := (true, "0e12b3834e51f715e1946d2e9541256e17422f21786a7219439a1982e3d418ce"), looks := false }, kinds := [], alts := [], laidByText := true, laidKinds := [.data, .data, .data, .data, .pinned], laidTests := true, laidLooks := .later }
def RowsTwoUptoCardSaid : Prop := Claim7.holds Tryz.pinned (.plain (OpenSpec.upto rowsTwoSpec)) rowsTwoUptoCard

/-- THE SECOND FORM's CARD OF 'hbllaw15.RowsReads'. -/
def rowsReadsUptoCard : Claim7 := { stood := { row := rowsReadsUptoRow, standIns := [], harness := (true, "0e12b3834e51f715e1946d2e9541256e17422f21786a7219439a1982e3d418ce"), looks := false }, kinds := [], alts := [], laidByText := true, laidKinds := [.data, .data, .data, .data, .pinned], laidTests := true, laidLooks := .later }
def RowsReadsUptoCardSaid : Prop := Claim7.holds Tryz.pinned (.plain (OpenSpec.upto rowsReadsSpec)) rowsReadsUptoCard

/-- THE SECOND FORM's CARD OF 'hbllaw15.RowsBack'. -/
def rowsBackUptoCard : Claim7 := { stood := { row := rowsBackUptoRow, standIns := [], harness := (true, "0e12b3834e51f715e1946d2e9541256e17422f21786a7219439a1982e3d418ce"), looks := false }, kinds := [], alts := [], laidByText := true, laidKinds := [.data, .data, .data, .data, .pinned], laidTests := true, laidLooks := .later }
def RowsBackUptoCardSaid : Prop := Claim7.holds Tryz.pinned (.plain (OpenSpec.upto rowsBackSpec)) rowsBackUptoCard
end Rows
end Go.Proofs.YtlihjmfdnkfmfaaGreatDoor
