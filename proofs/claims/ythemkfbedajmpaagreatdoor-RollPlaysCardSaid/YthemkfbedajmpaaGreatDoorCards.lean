/-
  DERIVED. GIVEN WITH THE SEED: THE CARDS: each row of YthemkfbedajmpaaGreatDoorRows.lean that lists a variable, with what it lists TIED to the program's text (the seventh form; the later family's looks); each row that meets fmt, with fmt's text TOLD by the authors' own Lean function (tested against real Go, not proved from fmt's source: count such statements apart). THE CARD IS WHAT COUNTS. Prove the row's statement (the work); the ties are given (YthemkfbedajmpaaGreatDoorTie.lean); close each card by the builder's one call (the guide's Derived/Test/ToyasCard.lean, 'card_holds'). Laid BY PROGRAM, IN A SANDBOX (cutbox-door.mjs). By AI agents, Wed Nov 11 2026. No macro, syntax, notation, axiom, sorry.
-/
import Derived.Test.YthemkfbedajmpaaGreatDoorRows
import GoSem.ClaimSeven
namespace Go.Proofs.YthemkfbedajmpaaGreatDoor
namespace Rows

/-- THE TIED CARD OF 'signetlaw21.RollPlays'. -/
def rollPlaysCard : Claim7 := { stood := { row := rollPlaysRow, standIns := [], harness := (true, "c56eb619c08e04adb1d5a837e98ebb474dff1b4cf05d204b16086178a89c7bbc"), looks := false }, kinds := [], alts := [], laidByText := true, laidKinds := [.data], laidTests := true, laidLooks := .later }
def RollPlaysCardSaid : Prop := Claim7.holds Tryz.pinned (.plain (OpenSpec.ofChange rollPlaysSpec)) rollPlaysCard

/-- THE TIED CARD OF 'signetlaw21.RollAlways'. -/
def rollAlwaysCard : Claim7 := { stood := { row := rollAlwaysRow, standIns := [], harness := (true, "c56eb619c08e04adb1d5a837e98ebb474dff1b4cf05d204b16086178a89c7bbc"), looks := false }, kinds := [], alts := [], laidByText := true, laidKinds := [.data], laidTests := true, laidLooks := .later }
def RollAlwaysCardSaid : Prop := Claim7.holds Tryz.pinned (.plain (OpenSpec.ofChange rollAlwaysSpec)) rollAlwaysCard

/-- THE SECOND FORM's CARD OF 'signetlaw21.RollPlays'. -/
def rollPlaysUptoCard : Claim7 := { stood := { row := rollPlaysUptoRow, standIns := [], harness := (true, "c56eb619c08e04adb1d5a837e98ebb474dff1b4cf05d204b16086178a89c7bbc"), looks := false }, kinds := [], alts := [], laidByText := true, laidKinds := [.data], laidTests := true, laidLooks := .later }
def RollPlaysUptoCardSaid : Prop := Claim7.holds Tryz.pinned (.plain (OpenSpec.upto rollPlaysSpec)) rollPlaysUptoCard

/-- THE SECOND FORM's CARD OF 'signetlaw21.RollAlways'. -/
def rollAlwaysUptoCard : Claim7 := { stood := { row := rollAlwaysUptoRow, standIns := [], harness := (true, "c56eb619c08e04adb1d5a837e98ebb474dff1b4cf05d204b16086178a89c7bbc"), looks := false }, kinds := [], alts := [], laidByText := true, laidKinds := [.data], laidTests := true, laidLooks := .later }
def RollAlwaysUptoCardSaid : Prop := Claim7.holds Tryz.pinned (.plain (OpenSpec.upto rollAlwaysSpec)) rollAlwaysUptoCard
end Rows
end Go.Proofs.YthemkfbedajmpaaGreatDoor
