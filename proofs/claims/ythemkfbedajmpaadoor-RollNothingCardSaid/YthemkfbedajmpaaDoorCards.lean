/-
  DERIVED. GIVEN WITH THE SEED: THE CARDS: each row of YthemkfbedajmpaaDoorRows.lean that lists a variable, with what it lists TIED to the program's text (the seventh form; the later family's looks); each row that meets fmt, with fmt's text TOLD by the authors' own Lean function (tested against real Go, not proved from fmt's source: count such statements apart). THE CARD IS WHAT COUNTS. Prove the row's statement (the work); the ties are given (YthemkfbedajmpaaDoorTie.lean); close each card by the builder's one call (the guide's Derived/Test/ToyasCard.lean, 'card_holds'). Laid BY PROGRAM, IN A SANDBOX (cutbox-door.mjs). By AI agents, Wed Nov 11 2026. No macro, syntax, notation, axiom, sorry.
-/
import Derived.Test.YthemkfbedajmpaaDoorRows
import GoSem.ClaimSeven
namespace Go.Proofs.YthemkfbedajmpaaDoor
namespace Rows

/-- THE TIED CARD OF 'signetlaw21.RollWhole'. -/
def rollWholeCard : Claim7 := { stood := { row := rollWholeRow, standIns := [], harness := (true, "ed139cf29f35559d5823574a9f7ee9f6d5288c3960aad9c3b88c3e4584223e00"), looks := false }, kinds := [], alts := [], laidByText := true, laidKinds := [.data], laidTests := true, laidLooks := .later }
def RollWholeCardSaid : Prop := Claim7.holds Tryd.pinned (.plain (OpenSpec.ofChange rollWholeSpec)) rollWholeCard

/-- THE TIED CARD OF 'signetlaw21.RollNothing'. -/
def rollNothingCard : Claim7 := { stood := { row := rollNothingRow, standIns := [], harness := (true, "ed139cf29f35559d5823574a9f7ee9f6d5288c3960aad9c3b88c3e4584223e00"), looks := false }, kinds := [], alts := [], laidByText := true, laidKinds := [.data], laidTests := true, laidLooks := .later }
def RollNothingCardSaid : Prop := Claim7.holds Tryd.pinned (.plain (OpenSpec.ofChange rollNothingSpec)) rollNothingCard

/-- THE SECOND FORM's CARD OF 'signetlaw21.RollWhole'. -/
def rollWholeUptoCard : Claim7 := { stood := { row := rollWholeUptoRow, standIns := [], harness := (true, "ed139cf29f35559d5823574a9f7ee9f6d5288c3960aad9c3b88c3e4584223e00"), looks := false }, kinds := [], alts := [], laidByText := true, laidKinds := [.data], laidTests := true, laidLooks := .later }
def RollWholeUptoCardSaid : Prop := Claim7.holds Tryd.pinned (.plain (OpenSpec.upto rollWholeSpec)) rollWholeUptoCard

/-- THE SECOND FORM's CARD OF 'signetlaw21.RollNothing'. -/
def rollNothingUptoCard : Claim7 := { stood := { row := rollNothingUptoRow, standIns := [], harness := (true, "ed139cf29f35559d5823574a9f7ee9f6d5288c3960aad9c3b88c3e4584223e00"), looks := false }, kinds := [], alts := [], laidByText := true, laidKinds := [.data], laidTests := true, laidLooks := .later }
def RollNothingUptoCardSaid : Prop := Claim7.holds Tryd.pinned (.plain (OpenSpec.upto rollNothingSpec)) rollNothingUptoCard
end Rows
end Go.Proofs.YthemkfbedajmpaaDoor
