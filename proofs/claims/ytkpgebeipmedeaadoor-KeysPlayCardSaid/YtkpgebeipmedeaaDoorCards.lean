/-
  DERIVED. GIVEN WITH THE SEED: THE CARDS: each row of YtkpgebeipmedeaaDoorRows.lean that lists a variable, with what it lists TIED to the program's text (the seventh form; the later family's looks); each row that meets fmt, with fmt's text TOLD by the authors' own Lean function (tested against real Go, not proved from fmt's source: count such statements apart). THE CARD IS WHAT COUNTS. Prove the row's statement (the work); the ties are given (YtkpgebeipmedeaaDoorTie.lean); close each card by the builder's one call (the guide's Derived/Test/ToyasCard.lean, 'card_holds'). Laid BY PROGRAM, IN A SANDBOX (cutbox-door.mjs). By AI agents, Wed Nov 11 2026. No macro, syntax, notation, axiom, sorry.
-/
import Derived.Test.YtkpgebeipmedeaaDoorRows
import GoSem.ClaimSeven
namespace Go.Proofs.YtkpgebeipmedeaaDoor
namespace Rows

/-- THE TIED CARD OF 'signetlaw20.KeysLeaves'. -/
def keysLeavesCard : Claim7 := { stood := { row := keysLeavesRow, standIns := [], harness := (true, "998bdc4ebad5dbb3efd85554324391f5a4e46f7041d26308082db21264274161"), looks := false }, kinds := [], alts := [], laidByText := true, laidKinds := [.data], laidTests := true, laidLooks := .later }
def KeysLeavesCardSaid : Prop := Claim7.holds Tryd.pinned (.plain (OpenSpec.ofChange keysLeavesSpec)) keysLeavesCard

/-- THE TIED CARD OF 'signetlaw20.KeysMany'. -/
def keysManyCard : Claim7 := { stood := { row := keysManyRow, standIns := [], harness := (true, "998bdc4ebad5dbb3efd85554324391f5a4e46f7041d26308082db21264274161"), looks := false }, kinds := [], alts := [], laidByText := true, laidKinds := [.data], laidTests := true, laidLooks := .later }
def KeysManyCardSaid : Prop := Claim7.holds Tryd.pinned (.plain (OpenSpec.ofChange keysManySpec)) keysManyCard

/-- THE TIED CARD OF 'signetlaw20.KeysPlay'. -/
def keysPlayCard : Claim7 := { stood := { row := keysPlayRow, standIns := [], harness := (true, "998bdc4ebad5dbb3efd85554324391f5a4e46f7041d26308082db21264274161"), looks := false }, kinds := [], alts := [], laidByText := true, laidKinds := [.data], laidTests := true, laidLooks := .later }
def KeysPlayCardSaid : Prop := Claim7.holds Tryd.pinned (.plain (OpenSpec.ofChange keysPlaySpec)) keysPlayCard

/-- THE SECOND FORM's CARD OF 'signetlaw20.KeysLeaves'. -/
def keysLeavesUptoCard : Claim7 := { stood := { row := keysLeavesUptoRow, standIns := [], harness := (true, "998bdc4ebad5dbb3efd85554324391f5a4e46f7041d26308082db21264274161"), looks := false }, kinds := [], alts := [], laidByText := true, laidKinds := [.data], laidTests := true, laidLooks := .later }
def KeysLeavesUptoCardSaid : Prop := Claim7.holds Tryd.pinned (.plain (OpenSpec.upto keysLeavesSpec)) keysLeavesUptoCard

/-- THE SECOND FORM's CARD OF 'signetlaw20.KeysMany'. -/
def keysManyUptoCard : Claim7 := { stood := { row := keysManyUptoRow, standIns := [], harness := (true, "998bdc4ebad5dbb3efd85554324391f5a4e46f7041d26308082db21264274161"), looks := false }, kinds := [], alts := [], laidByText := true, laidKinds := [.data], laidTests := true, laidLooks := .later }
def KeysManyUptoCardSaid : Prop := Claim7.holds Tryd.pinned (.plain (OpenSpec.upto keysManySpec)) keysManyUptoCard

/-- THE SECOND FORM's CARD OF 'signetlaw20.KeysPlay'. -/
def keysPlayUptoCard : Claim7 := { stood := { row := keysPlayUptoRow, standIns := [], harness := (true, "998bdc4ebad5dbb3efd85554324391f5a4e46f7041d26308082db21264274161"), looks := false }, kinds := [], alts := [], laidByText := true, laidKinds := [.data], laidTests := true, laidLooks := .later }
def KeysPlayUptoCardSaid : Prop := Claim7.holds Tryd.pinned (.plain (OpenSpec.upto keysPlaySpec)) keysPlayUptoCard
end Rows
end Go.Proofs.YtkpgebeipmedeaaDoor
