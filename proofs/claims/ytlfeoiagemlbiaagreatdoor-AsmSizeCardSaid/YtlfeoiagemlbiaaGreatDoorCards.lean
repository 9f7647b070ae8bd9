/-
  DERIVED. GIVEN WITH THE SEED: THE CARDS: each row of YtlfeoiagemlbiaaGreatDoorRows.lean that lists a variable, with what it lists TIED to the program's text (the seventh form; the later family's looks); each row that meets fmt, with fmt's text TOLD by the authors' own Lean function (tested against real Go, not proved from fmt's source: count such statements apart). THE CARD IS WHAT COUNTS. Prove the row's statement (the work); the ties are given (YtlfeoiagemlbiaaGreatDoorTie.lean); close each card by the builder's one call (the guide's Derived/Test/ToyasCard.lean, 'card_holds'). Laid BY PROGRAM, IN A SANDBOX (cutbox-door.mjs). By AI agents, Wed Nov 11 2026. No macro, syntax, notation, axiom, sorry.
-/
import Derived.Test.YtlfeoiagemlbiaaGreatDoorRows
import GoSem.ClaimSeven
namespace Go.Proofs.YtlfeoiagemlbiaaGreatDoor
namespace Rows

/-- THE TIED CARD OF 'hasplaw16.AsmSize'. -/
def asmSizeCard : Claim7 := { stood := { row := asmSizeRow, standIns := [], harness := (true, "b681268cf7497494056fbd7c75e6f1302f30479e63c95d841889f09f9feef6a0"), looks := true }, kinds := [], alts := [], laidByText := true, laidKinds := [.data, .data, .data, .data, .handle, .sentinel, .sentinel, .pinned], laidTests := true, laidLooks := .later }
def AsmSizeCardSaid : Prop := Claim7.holds Tryz.pinned (.plain (OpenSpec.ofChange asmSizeSpec)) asmSizeCard

/-- THE TIED CARD OF 'hasplaw16.AsmData'. -/
def asmDataCard : Claim7 := { stood := { row := asmDataRow, standIns := [], harness := (true, "b681268cf7497494056fbd7c75e6f1302f30479e63c95d841889f09f9feef6a0"), looks := true }, kinds := [], alts := [], laidByText := true, laidKinds := [.data, .data, .data, .data, .handle, .sentinel, .sentinel, .pinned], laidTests := true, laidLooks := .later }
def AsmDataCardSaid : Prop := Claim7.holds Tryz.pinned (.plain (OpenSpec.ofChange asmDataSpec)) asmDataCard

/-- THE TIED CARD OF 'hasplaw16.AsmLabels'. -/
def asmLabelsCard : Claim7 := { stood := { row := asmLabelsRow, standIns := [], harness := (true, "b681268cf7497494056fbd7c75e6f1302f30479e63c95d841889f09f9feef6a0"), looks := true }, kinds := [], alts := [], laidByText := true, laidKinds := [.data, .data, .data, .data, .handle, .sentinel, .sentinel, .pinned], laidTests := true, laidLooks := .later }
def AsmLabelsCardSaid : Prop := Claim7.holds Tryz.pinned (.plain (OpenSpec.ofChange asmLabelsSpec)) asmLabelsCard

/-- THE TIED CARD OF 'hasplaw16.AsmRemarks'. -/
def asmRemarksCard : Claim7 := { stood := { row := asmRemarksRow, standIns := [], harness := (true, "b681268cf7497494056fbd7c75e6f1302f30479e63c95d841889f09f9feef6a0"), looks := true }, kinds := [], alts := [], laidByText := true, laidKinds := [.data, .data, .data, .data, .handle, .sentinel, .sentinel, .pinned], laidTests := true, laidLooks := .later }
def AsmRemarksCardSaid : Prop := Claim7.holds Tryz.pinned (.plain (OpenSpec.ofChange asmRemarksSpec)) asmRemarksCard

/-- THE TIED CARD OF 'hasplaw25.ListBack'. -/
def listBackCard : Claim7 := { stood := { row := listBackRow, standIns := [], harness := (true, "b681268cf7497494056fbd7c75e6f1302f30479e63c95d841889f09f9feef6a0"), looks := true }, kinds := [], alts := [], laidByText := true, laidKinds := [.data, .data, .data, .data, .sentinel, .sentinel, .pinned], laidTests := true, laidLooks := .later }
def ListBackCardSaid : Prop := Claim7.holds Tryz.pinned (.plain (OpenSpec.ofChange listBackSpec)) listBackCard

/-- THE SECOND FORM's CARD OF 'hasplaw16.AsmSize'. -/
def asmSizeUptoCard : Claim7 := { stood := { row := asmSizeUptoRow, standIns := [], harness := (true, "b681268cf7497494056fbd7c75e6f1302f30479e63c95d841889f09f9feef6a0"), looks := true }, kinds := [], alts := [], laidByText := true, laidKinds := [.data, .data, .data, .data, .handle, .sentinel, .sentinel, .pinned], laidTests := true, laidLooks := .later }
def AsmSizeUptoCardSaid : Prop := Claim7.holds Tryz.pinned (.plain (OpenSpec.upto asmSizeSpec)) asmSizeUptoCard

/-- THE SECOND FORM's CARD OF 'hasplaw16.AsmData'. -/
def asmDataUptoCard : Claim7 := { stood := { row := asmDataUptoRow, standIns := [], harness := (true, "b681268cf7497494056fbd7c75e6f1302f30479e63c95d841889f09f9feef6a0"), looks := true }, kinds := [], alts := [], laidByText := true, laidKinds := [.data, .data, .data, .data, .handle, .sentinel, .sentinel, .pinned], laidTests := true, laidLooks := .later }
def AsmDataUptoCardSaid : Prop := Claim7.holds Tryz.pinned (.plain (OpenSpec.upto asmDataSpec)) asmDataUptoCard

/-- THE SECOND FORM's CARD OF 'hasplaw16.AsmLabels'. -/
def asmLabelsUptoCard : Claim7 := { stood := { row := asmLabelsUptoRow, standIns := [], harness := (true, "b681268cf7497494056fbd7c75e6f1302f30479e63c95d841889f09f9feef6a0"), looks := true }, kinds := [], alts := [], laidByText := true, laidKinds := [.data, .data, .data, .data, .handle, .sentinel, .sentinel, .pinned], laidTests := true, laidLooks := .later }
def AsmLabelsUptoCardSaid : Prop := Claim7.holds Tryz.pinned (.plain (OpenSpec.upto asmLabelsSpec)) asmLabelsUptoCard

/-- THE SECOND FORM's CARD OF 'hasplaw16.AsmRemarks'. -/
def asmRemarksUptoCard : Claim7 := { stood := { row := asmRemarksUptoRow, standIns := [], harness := (true, "b681268cf7497494056fbd7c75e6f1302f30479e63c95d841889f09f9feef6a0"), looks := true }, kinds := [], alts := [], laidByText := true, laidKinds := [.data, .data, .data, .data, .handle, .sentinel, .sentinel, .pinned], laidTests := true, laidLooks := .later }
def AsmRemarksUptoCardSaid : Prop := Claim7.holds Tryz.pinned (.plain (OpenSpec.upto asmRemarksSpec)) asmRemarksUptoCard

/-- THE SECOND FORM's CARD OF 'hasplaw25.ListBack'. -/
def listBackUptoCard : Claim7 := { stood := { row := listBackUptoRow, standIns := [], harness := (true, "b681268cf7497494056fbd7c75e6f1302f30479e63c95d841889f09f9feef6a0"), looks := true }, kinds := [], alts := [], laidByText := true, laidKinds := [.data, .data, .data, .data, .sentinel, .sentinel, .pinned], laidTests := true, laidLooks := .later }
def ListBackUptoCardSaid : Prop := Claim7.holds Tryz.pinned (.plain (OpenSpec.upto listBackSpec)) listBackUptoCard
end Rows
end Go.Proofs.YtlfeoiagemlbiaaGreatDoor
