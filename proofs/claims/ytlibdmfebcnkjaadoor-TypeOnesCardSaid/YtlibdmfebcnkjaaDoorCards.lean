/-
  DERIVED. GIVEN WITH THE SEED: THE CARDS: each row of YtlibdmfebcnkjaaDoorRows.lean that lists a variable, with what it lists TIED to the program's text (the seventh form; the later family's looks); each row that meets fmt, with fmt's text TOLD by the authors' own Lean function (tested against real Go, not proved from fmt's source: count such statements apart). THE CARD IS WHAT COUNTS. Prove the row's statement (the work); the ties are given (YtlibdmfebcnkjaaDoorTie.lean); close each card by the builder's one call (the guide's Derived/Test/ToyasCard.lean, 'card_holds'). Laid BY PROGRAM, IN A SANDBOX (cutbox-door.mjs). By AI agents, Wed Nov 11 2026. No macro, syntax, notation, axiom, sorry.
-/
import Derived.Test.YtlibdmfebcnkjaaDoorRows
import GoSem.ClaimSeven
namespace Go.Proofs.YtlibdmfebcnkjaaDoor
namespace Rows

/-- THE TIED CARD OF 'signetlaw4.TypeTexts'. -/
def typeTextsCard : Claim7 := { stood := { row := typeTextsRow, standIns := [], harness := (true, "04bf1afb1c1079bf09ace54a023cf2a7d37cb37081ef8d50300365671a21e15f"), looks := false }, kinds := [], alts := [], laidByText := true, laidKinds := [.data, .data, .data], laidTests := true, laidLooks := .later }
def TypeTextsCardSaid : Prop := Claim7.holds Tryd.pinned (.plain (OpenSpec.ofChange typeTextsSpec)) typeTextsCard

/-- THE TIED CARD OF 'signetlaw4.TypeBitmaps'. -/
def typeBitmapsCard : Claim7 := { stood := { row := typeBitmapsRow, standIns := [], harness := (true, "04bf1afb1c1079bf09ace54a023cf2a7d37cb37081ef8d50300365671a21e15f"), looks := false }, kinds := [], alts := [], laidByText := true, laidKinds := [.data, .data, .data], laidTests := true, laidLooks := .later }
def TypeBitmapsCardSaid : Prop := Claim7.holds Tryd.pinned (.plain (OpenSpec.ofChange typeBitmapsSpec)) typeBitmapsCard

/-- THE TIED CARD OF 'signetlaw4.TypeOpens'. -/
def typeOpensCard : Claim7 := { stood := { row := typeOpensRow, standIns := [], harness := (true, "04bf1afb1c1079bf09ace54a023cf2a7d37cb37081ef8d50300365671a21e15f"), looks := false }, kinds := [], alts := [], laidByText := true, laidKinds := [.data, .data, .data], laidTests := true, laidLooks := .later }
def TypeOpensCardSaid : Prop := Claim7.holds Tryd.pinned (.plain (OpenSpec.ofChange typeOpensSpec)) typeOpensCard

/-- THE TIED CARD OF 'signetlaw4.TypeOnes'. -/
def typeOnesCard : Claim7 := { stood := { row := typeOnesRow, standIns := [], harness := (true, "04bf1afb1c1079bf09ace54a023cf2a7d37cb37081ef8d50300365671a21e15f"), looks := false }, kinds := [], alts := [], laidByText := true, laidKinds := [.data, .data, .data], laidTests := true, laidLooks := .later }
def TypeOnesCardSaid : Prop := Claim7.holds Tryd.pinned (.plain (OpenSpec.ofChange typeOnesSpec)) typeOnesCard

/-- THE SECOND FORM's CARD OF 'signetlaw4.TypeTexts'. -/
def typeTextsUptoCard : Claim7 := { stood := { row := typeTextsUptoRow, standIns := [], harness := (true, "04bf1afb1c1079bf09ace54a023cf2a7d37cb37081ef8d50300365671a21e15f"), looks := false }, kinds := [], alts := [], laidByText := true, laidKinds := [.data, .data, .data], laidTests := true, laidLooks := .later }
def TypeTextsUptoCardSaid : Prop := Claim7.holds Tryd.pinned (.plain (OpenSpec.upto typeTextsSpec)) typeTextsUptoCard

/-- THE SECOND FORM's CARD OF 'signetlaw4.TypeBitmaps'. -/
def typeBitmapsUptoCard : Claim7 := { stood := { row := typeBitmapsUptoRow, standIns := [], harness := (true, "04bf1afb1c1079bf09ace54a023cf2a7d37cb37081ef8d50300365671a21e15f"), looks := false }, kinds := [], alts := [], laidByText := true, laidKinds := [.data, .data, .data], laidTests := true, laidLooks := .later }
def TypeBitmapsUptoCardSaid : Prop := Claim7.holds Tryd.pinned (.plain (OpenSpec.upto typeBitmapsSpec)) typeBitmapsUptoCard

/-- THE SECOND FORM's CARD OF 'signetlaw4.TypeOpens'. -/
def typeOpensUptoCard : Claim7 := { stood := { row := typeOpensUptoRow, standIns := [], harness := (true, "04bf1afb1c1079bf09ace54a023cf2a7d37cb37081ef8d50300365671a21e15f"), looks := false }, kinds := [], alts := [], laidByText := true, laidKinds := [.data, .data, .data], laidTests := true, laidLooks := .later }
def TypeOpensUptoCardSaid : Prop := Claim7.holds Tryd.pinned (.plain (OpenSpec.upto typeOpensSpec)) typeOpensUptoCard

/-- THE SECOND FORM's CARD OF 'signetlaw4.TypeOnes'. -/
def typeOnesUptoCard : Claim7 := { stood := { row := typeOnesUptoRow, standIns := [], harness := (true, "04bf1afb1c1079bf09ace54a023cf2a7d37cb37081ef8d50300365671a21e15f"), looks := false }, kinds := [], alts := [], laidByText := true, laidKinds := [.data, .data, .data], laidTests := true, laidLooks := .later }
def TypeOnesUptoCardSaid : Prop := Claim7.holds Tryd.pinned (.plain (OpenSpec.upto typeOnesSpec)) typeOnesUptoCard
end Rows
end Go.Proofs.YtlibdmfebcnkjaaDoor
