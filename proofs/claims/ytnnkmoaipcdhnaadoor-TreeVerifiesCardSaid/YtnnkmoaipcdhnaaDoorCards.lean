/-
  DERIVED. GIVEN WITH THE SEED: THE CARDS: each row of YtnnkmoaipcdhnaaDoorRows.lean that lists a variable, with what it lists TIED to the program's text (the seventh form; the later family's looks); each row that meets fmt, with fmt's text TOLD by the authors' own Lean function (tested against real Go, not proved from fmt's source: count such statements apart). THE CARD IS WHAT COUNTS. Prove the row's statement (the work); the ties are given (YtnnkmoaipcdhnaaDoorTie.lean); close each card by the builder's one call (the guide's Derived/Test/ToyasCard.lean, 'card_holds'). Laid BY PROGRAM, IN A SANDBOX (cutbox-door.mjs). By AI agents, Wed Nov 11 2026. No macro, syntax, notation, axiom, sorry.
-/
import Derived.Test.YtnnkmoaipcdhnaaDoorRows
import GoSem.ClaimSeven
namespace Go.Proofs.YtnnkmoaipcdhnaaDoor
namespace Rows

/-- THE TIED CARD OF 'signetlaw1.HashSums'. -/
def hashSumsCard : Claim7 := { stood := { row := hashSumsRow, standIns := [], harness := (true, "a2e3bade3874e377f403593ef666f54a4f49d7a2c9eaf8d36576955741063a0e"), looks := false }, kinds := [], alts := [], laidByText := true, laidKinds := [.data], laidTests := true, laidLooks := .later }
def HashSumsCardSaid : Prop := Claim7.holds Tryd.pinned (.plain (OpenSpec.ofChange hashSumsSpec)) hashSumsCard

/-- THE TIED CARD OF 'signetlaw1.HashShorts'. -/
def hashShortsCard : Claim7 := { stood := { row := hashShortsRow, standIns := [], harness := (true, "a2e3bade3874e377f403593ef666f54a4f49d7a2c9eaf8d36576955741063a0e"), looks := false }, kinds := [], alts := [], laidByText := true, laidKinds := [.data], laidTests := true, laidLooks := .later }
def HashShortsCardSaid : Prop := Claim7.holds Tryd.pinned (.plain (OpenSpec.ofChange hashShortsSpec)) hashShortsCard

/-- THE TIED CARD OF 'signetlaw1.HashParts'. -/
def hashPartsCard : Claim7 := { stood := { row := hashPartsRow, standIns := [], harness := (true, "a2e3bade3874e377f403593ef666f54a4f49d7a2c9eaf8d36576955741063a0e"), looks := false }, kinds := [], alts := [], laidByText := true, laidKinds := [.data], laidTests := true, laidLooks := .later }
def HashPartsCardSaid : Prop := Claim7.holds Tryd.pinned (.plain (OpenSpec.ofChange hashPartsSpec)) hashPartsCard

/-- THE TIED CARD OF 'signetlaw1.HashLengths'. -/
def hashLengthsCard : Claim7 := { stood := { row := hashLengthsRow, standIns := [], harness := (true, "a2e3bade3874e377f403593ef666f54a4f49d7a2c9eaf8d36576955741063a0e"), looks := false }, kinds := [], alts := [], laidByText := true, laidKinds := [.data], laidTests := true, laidLooks := .later }
def HashLengthsCardSaid : Prop := Claim7.holds Tryd.pinned (.plain (OpenSpec.ofChange hashLengthsSpec)) hashLengthsCard

/-- THE TIED CARD OF 'signetlaw7.OnceSigns'. -/
def onceSignsCard : Claim7 := { stood := { row := onceSignsRow, standIns := [], harness := (true, "a2e3bade3874e377f403593ef666f54a4f49d7a2c9eaf8d36576955741063a0e"), looks := false }, kinds := [], alts := [], laidByText := true, laidKinds := [.data], laidTests := true, laidLooks := .later }
def OnceSignsCardSaid : Prop := Claim7.holds Tryd.pinned (.plain (OpenSpec.ofChange onceSignsSpec)) onceSignsCard

/-- THE TIED CARD OF 'signetlaw7.OnceOpens'. -/
def onceOpensCard : Claim7 := { stood := { row := onceOpensRow, standIns := [], harness := (true, "a2e3bade3874e377f403593ef666f54a4f49d7a2c9eaf8d36576955741063a0e"), looks := false }, kinds := [], alts := [], laidByText := true, laidKinds := [.data], laidTests := true, laidLooks := .later }
def OnceOpensCardSaid : Prop := Claim7.holds Tryd.pinned (.plain (OpenSpec.ofChange onceOpensSpec)) onceOpensCard

/-- THE TIED CARD OF 'signetlaw7.OnceOther'. -/
def onceOtherCard : Claim7 := { stood := { row := onceOtherRow, standIns := [], harness := (true, "a2e3bade3874e377f403593ef666f54a4f49d7a2c9eaf8d36576955741063a0e"), looks := false }, kinds := [], alts := [], laidByText := true, laidKinds := [.data], laidTests := true, laidLooks := .later }
def OnceOtherCardSaid : Prop := Claim7.holds Tryd.pinned (.plain (OpenSpec.ofChange onceOtherSpec)) onceOtherCard

/-- THE TIED CARD OF 'signetlaw7.OnceKeys'. -/
def onceKeysCard : Claim7 := { stood := { row := onceKeysRow, standIns := [], harness := (true, "a2e3bade3874e377f403593ef666f54a4f49d7a2c9eaf8d36576955741063a0e"), looks := false }, kinds := [], alts := [], laidByText := true, laidKinds := [.data], laidTests := true, laidLooks := .later }
def OnceKeysCardSaid : Prop := Claim7.holds Tryd.pinned (.plain (OpenSpec.ofChange onceKeysSpec)) onceKeysCard

/-- THE TIED CARD OF 'signetlaw9.DigestTags'. -/
def digestTagsCard : Claim7 := { stood := { row := digestTagsRow, standIns := [], harness := (true, "a2e3bade3874e377f403593ef666f54a4f49d7a2c9eaf8d36576955741063a0e"), looks := false }, kinds := [], alts := [], laidByText := true, laidKinds := [.data], laidTests := true, laidLooks := .later }
def DigestTagsCardSaid : Prop := Claim7.holds Tryd.pinned (.plain (OpenSpec.ofChange digestTagsSpec)) digestTagsCard

/-- THE TIED CARD OF 'signetlaw9.DigestHashes'. -/
def digestHashesCard : Claim7 := { stood := { row := digestHashesRow, standIns := [], harness := (true, "a2e3bade3874e377f403593ef666f54a4f49d7a2c9eaf8d36576955741063a0e"), looks := false }, kinds := [], alts := [], laidByText := true, laidKinds := [.data], laidTests := true, laidLooks := .later }
def DigestHashesCardSaid : Prop := Claim7.holds Tryd.pinned (.plain (OpenSpec.ofChange digestHashesSpec)) digestHashesCard

/-- THE TIED CARD OF 'signetlaw9.DigestGreat'. -/
def digestGreatCard : Claim7 := { stood := { row := digestGreatRow, standIns := [], harness := (true, "a2e3bade3874e377f403593ef666f54a4f49d7a2c9eaf8d36576955741063a0e"), looks := false }, kinds := [], alts := [], laidByText := true, laidKinds := [.data], laidTests := true, laidLooks := .later }
def DigestGreatCardSaid : Prop := Claim7.holds Tryd.pinned (.plain (OpenSpec.ofChange digestGreatSpec)) digestGreatCard

/-- THE TIED CARD OF 'signetlaw9.DigestKeys'. -/
def digestKeysCard : Claim7 := { stood := { row := digestKeysRow, standIns := [], harness := (true, "a2e3bade3874e377f403593ef666f54a4f49d7a2c9eaf8d36576955741063a0e"), looks := false }, kinds := [], alts := [], laidByText := true, laidKinds := [.data], laidTests := true, laidLooks := .later }
def DigestKeysCardSaid : Prop := Claim7.holds Tryd.pinned (.plain (OpenSpec.ofChange digestKeysSpec)) digestKeysCard

/-- THE TIED CARD OF 'signetlaw8.TreeRoots'. -/
def treeRootsCard : Claim7 := { stood := { row := treeRootsRow, standIns := [], harness := (true, "a2e3bade3874e377f403593ef666f54a4f49d7a2c9eaf8d36576955741063a0e"), looks := false }, kinds := [], alts := [], laidByText := true, laidKinds := [.data], laidTests := true, laidLooks := .later }
def TreeRootsCardSaid : Prop := Claim7.holds Tryd.pinned (.plain (OpenSpec.ofChange treeRootsSpec)) treeRootsCard

/-- THE TIED CARD OF 'signetlaw8.TreeSigns'. -/
def treeSignsCard : Claim7 := { stood := { row := treeSignsRow, standIns := [], harness := (true, "a2e3bade3874e377f403593ef666f54a4f49d7a2c9eaf8d36576955741063a0e"), looks := false }, kinds := [], alts := [], laidByText := true, laidKinds := [.data], laidTests := true, laidLooks := .later }
def TreeSignsCardSaid : Prop := Claim7.holds Tryd.pinned (.plain (OpenSpec.ofChange treeSignsSpec)) treeSignsCard

/-- THE TIED CARD OF 'signetlaw8.TreeVerifies'. -/
def treeVerifiesCard : Claim7 := { stood := { row := treeVerifiesRow, standIns := [], harness := (true, "a2e3bade3874e377f403593ef666f54a4f49d7a2c9eaf8d36576955741063a0e"), looks := false }, kinds := [], alts := [], laidByText := true, laidKinds := [.data], laidTests := true, laidLooks := .later }
def TreeVerifiesCardSaid : Prop := Claim7.holds Tryd.pinned (.plain (OpenSpec.ofChange treeVerifiesSpec)) treeVerifiesCard

/-- THE TIED CARD OF 'signetlaw8.TreeHeights'. -/
def treeHeightsCard : Claim7 := { stood := { row := treeHeightsRow, standIns := [], harness := (true, "a2e3bade3874e377f403593ef666f54a4f49d7a2c9eaf8d36576955741063a0e"), looks := false }, kinds := [], alts := [], laidByText := true, laidKinds := [.data], laidTests := true, laidLooks := .later }
def TreeHeightsCardSaid : Prop := Claim7.holds Tryd.pinned (.plain (OpenSpec.ofChange treeHeightsSpec)) treeHeightsCard

/-- THE TIED CARD OF 'signetlaw8.TreePaths'. -/
def treePathsCard : Claim7 := { stood := { row := treePathsRow, standIns := [], harness := (true, "a2e3bade3874e377f403593ef666f54a4f49d7a2c9eaf8d36576955741063a0e"), looks := false }, kinds := [], alts := [], laidByText := true, laidKinds := [.data], laidTests := true, laidLooks := .later }
def TreePathsCardSaid : Prop := Claim7.holds Tryd.pinned (.plain (OpenSpec.ofChange treePathsSpec)) treePathsCard

/-- THE TIED CARD OF 'signetlaw8.TreeSwaps'. -/
def treeSwapsCard : Claim7 := { stood := { row := treeSwapsRow, standIns := [], harness := (true, "a2e3bade3874e377f403593ef666f54a4f49d7a2c9eaf8d36576955741063a0e"), looks := false }, kinds := [], alts := [], laidByText := true, laidKinds := [.data], laidTests := true, laidLooks := .later }
def TreeSwapsCardSaid : Prop := Claim7.holds Tryd.pinned (.plain (OpenSpec.ofChange treeSwapsSpec)) treeSwapsCard

/-- THE SECOND FORM's CARD OF 'signetlaw1.HashSums'. -/
def hashSumsUptoCard : Claim7 := { stood := { row := hashSumsUptoRow, standIns := [], harness := (true, "a2e3bade3874e377f403593ef666f54a4f49d7a2c9eaf8d36576955741063a0e"), looks := false }, kinds := [], alts := [], laidByText := true, laidKinds := [.data], laidTests := true, laidLooks := .later }
def HashSumsUptoCardSaid : Prop := Claim7.holds Tryd.pinned (.plain (OpenSpec.upto hashSumsSpec)) hashSumsUptoCard

/-- THE SECOND FORM's CARD OF 'signetlaw1.HashShorts'. -/
def hashShortsUptoCard : Claim7 := { stood := { row := hashShortsUptoRow, standIns := [], harness := (true, "a2e3bade3874e377f403593ef666f54a4f49d7a2c9eaf8d36576955741063a0e"), looks := false }, kinds := [], alts := [], laidByText := true, laidKinds := [.data], laidTests := true, laidLooks := .later }
def HashShortsUptoCardSaid : Prop := Claim7.holds Tryd.pinned (.plain (OpenSpec.upto hashShortsSpec)) hashShortsUptoCard

/-- THE SECOND FORM's CARD OF 'signetlaw1.HashParts'. -/
def hashPartsUptoCard : Claim7 := { stood := { row := hashPartsUptoRow, standIns := [], harness := (true, "a2e3bade3874e377f403593ef666f54a4f49d7a2c9eaf8d36576955741063a0e"), looks := false }, kinds := [], alts := [], laidByText := true, laidKinds := [.data], laidTests := true, laidLooks := .later }
def HashPartsUptoCardSaid : Prop := Claim7.holds Tryd.pinned (.plain (OpenSpec.upto hashPartsSpec)) hashPartsUptoCard

/-- THE SECOND FORM's CARD OF 'signetlaw1.HashLengths'. -/
def hashLengthsUptoCard : Claim7 := { stood := { row := hashLengthsUptoRow, standIns := [], harness := (true, "a2e3bade3874e377f403593ef666f54a4f49d7a2c9eaf8d36576955741063a0e"), looks := false }, kinds := [], alts := [], laidByText := true, laidKinds := [.data], laidTests := true, laidLooks := .later }
def HashLengthsUptoCardSaid : Prop := Claim7.holds Tryd.pinned (.plain (OpenSpec.upto hashLengthsSpec)) hashLengthsUptoCard

/-- THE SECOND FORM's CARD OF 'signetlaw7.OnceSigns'. -/
def onceSignsUptoCard : Claim7 := { stood := { row := onceSignsUptoRow, standIns := [], harness := (true, "a2e3bade3874e377f403593ef666f54a4f49d7a2c9eaf8d36576955741063a0e"), looks := false }, kinds := [], alts := [], laidByText := true, laidKinds := [.data], laidTests := true, laidLooks := .later }
def OnceSignsUptoCardSaid : Prop := Claim7.holds Tryd.pinned (.plain (OpenSpec.upto onceSignsSpec)) onceSignsUptoCard

/-- THE SECOND FORM's CARD OF 'signetlaw7.OnceOpens'. -/
def onceOpensUptoCard : Claim7 := { stood := { row := onceOpensUptoRow, standIns := [], harness := (true, "a2e3bade3874e377f403593ef666f54a4f49d7a2c9eaf8d36576955741063a0e"), looks := false }, kinds := [], alts := [], laidByText := true, laidKinds := [.data], laidTests := true, laidLooks := .later }
def OnceOpensUptoCardSaid : Prop := Claim7.holds Tryd.pinned (.plain (OpenSpec.upto onceOpensSpec)) onceOpensUptoCard

/-- THE SECOND FORM's CARD OF 'signetlaw7.OnceOther'. -/
def onceOtherUptoCard : Claim7 := { stood := { row := onceOtherUptoRow, standIns := [], harness := (true, "a2e3bade3874e377f403593ef666f54a4f49d7a2c9eaf8d36576955741063a0e"), looks := false }, kinds := [], alts := [], laidByText := true, laidKinds := [.data], laidTests := true, laidLooks := .later }
def OnceOtherUptoCardSaid : Prop := Claim7.holds Tryd.pinned (.plain (OpenSpec.upto onceOtherSpec)) onceOtherUptoCard

/-- THE SECOND FORM's CARD OF 'signetlaw7.OnceKeys'. -/
def onceKeysUptoCard : Claim7 := { stood := { row := onceKeysUptoRow, standIns := [], harness := (true, "a2e3bade3874e377f403593ef666f54a4f49d7a2c9eaf8d36576955741063a0e"), looks := false }, kinds := [], alts := [], laidByText := true, laidKinds := [.data], laidTests := true, laidLooks := .later }
def OnceKeysUptoCardSaid : Prop := Claim7.holds Tryd.pinned (.plain (OpenSpec.upto onceKeysSpec)) onceKeysUptoCard

/-- THE SECOND FORM's CARD OF 'signetlaw9.DigestTags'. -/
def digestTagsUptoCard : Claim7 := { stood := { row := digestTagsUptoRow, standIns := [], harness := (true, "a2e3bade3874e377f403593ef666f54a4f49d7a2c9eaf8d36576955741063a0e"), looks := false }, kinds := [], alts := [], laidByText := true, laidKinds := [.data], laidTests := true, laidLooks := .later }
def DigestTagsUptoCardSaid : Prop := Claim7.holds Tryd.pinned (.plain (OpenSpec.upto digestTagsSpec)) digestTagsUptoCard

/-- THE SECOND FORM's CARD OF 'signetlaw9.DigestHashes'. -/
def digestHashesUptoCard : Claim7 := { stood := { row := digestHashesUptoRow, standIns := [], harness := (true, "a2e3bade3874e377f403593ef666f54a4f49d7a2c9eaf8d36576955741063a0e"), looks := false }, kinds := [], alts := [], laidByText := true, laidKinds := [.data], laidTests := true, laidLooks := .later }
def DigestHashesUptoCardSaid : Prop := Claim7.holds Tryd.pinned (.plain (OpenSpec.upto digestHashesSpec)) digestHashesUptoCard

/-- THE SECOND FORM's CARD OF 'signetlaw9.DigestGreat'. -/
def digestGreatUptoCard : Claim7 := { stood := { row := digestGreatUptoRow, standIns := [], harness := (true, "a2e3bade3874e377f403593ef666f54a4f49d7a2c9eaf8d36576955741063a0e"), looks := false }, kinds := [], alts := [], laidByText := true, laidKinds := [.data], laidTests := true, laidLooks := .later }
def DigestGreatUptoCardSaid : Prop := Claim7.holds Tryd.pinned (.plain (OpenSpec.upto digestGreatSpec)) digestGreatUptoCard

/-- THE SECOND FORM's CARD OF 'signetlaw9.DigestKeys'. -/
def digestKeysUptoCard : Claim7 := { stood := { row := digestKeysUptoRow, standIns := [], harness := (true, "a2e3bade3874e377f403593ef666f54a4f49d7a2c9eaf8d36576955741063a0e"), looks := false }, kinds := [], alts := [], laidByText := true, laidKinds := [.data], laidTests := true, laidLooks := .later }
def DigestKeysUptoCardSaid : Prop := Claim7.holds Tryd.pinned (.plain (OpenSpec.upto digestKeysSpec)) digestKeysUptoCard

/-- THE SECOND FORM's CARD OF 'signetlaw8.TreeRoots'. -/
def treeRootsUptoCard : Claim7 := { stood := { row := treeRootsUptoRow, standIns := [], harness := (true, "a2e3bade3874e377f403593ef666f54a4f49d7a2c9eaf8d36576955741063a0e"), looks := false }, kinds := [], alts := [], laidByText := true, laidKinds := [.data], laidTests := true, laidLooks := .later }
def TreeRootsUptoCardSaid : Prop := Claim7.holds Tryd.pinned (.plain (OpenSpec.upto treeRootsSpec)) treeRootsUptoCard

/-- THE SECOND FORM's CARD OF 'signetlaw8.TreeSigns'. -/
def treeSignsUptoCard : Claim7 := { stood := { row := treeSignsUptoRow, standIns := [], harness := (true, "a2e3bade3874e377f403593ef666f54a4f49d7a2c9eaf8d36576955741063a0e"), looks := false }, kinds := [], alts := [], laidByText := true, laidKinds := [.data], laidTests := true, laidLooks := .later }
def TreeSignsUptoCardSaid : Prop := Claim7.holds Tryd.pinned (.plain (OpenSpec.upto treeSignsSpec)) treeSignsUptoCard

/-- THE SECOND FORM's CARD OF 'signetlaw8.TreeVerifies'. -/
def treeVerifiesUptoCard : Claim7 := { stood := { row := treeVerifiesUptoRow, standIns := [], harness := (true, "a2e3bade3874e377f403593ef666f54a4f49d7a2c9eaf8d36576955741063a0e"), looks := false }, kinds := [], alts := [], laidByText := true, laidKinds := [.data], laidTests := true, laidLooks := .later }
def TreeVerifiesUptoCardSaid : Prop := Claim7.holds Tryd.pinned (.plain (OpenSpec.upto treeVerifiesSpec)) treeVerifiesUptoCard

/-- THE SECOND FORM's CARD OF 'signetlaw8.TreeHeights'. -/
def treeHeightsUptoCard : Claim7 := { stood := { row := treeHeightsUptoRow, standIns := [], harness := (true, "a2e3bade3874e377f403593ef666f54a4f49d7a2c9eaf8d36576955741063a0e"), looks := false }, kinds := [], alts := [], laidByText := true, laidKinds := [.data], laidTests := true, laidLooks := .later }
def TreeHeightsUptoCardSaid : Prop := Claim7.holds Tryd.pinned (.plain (OpenSpec.upto treeHeightsSpec)) treeHeightsUptoCard

/-- THE SECOND FORM's CARD OF 'signetlaw8.TreePaths'. -/
def treePathsUptoCard : Claim7 := { stood := { row := treePathsUptoRow, standIns := [], harness := (true, "a2e3bade3874e377f403593ef666f54a4f49d7a2c9eaf8d36576955741063a0e"), looks := false }, kinds := [], alts := [], laidByText := true, laidKinds := [.data], laidTests := true, laidLooks := .later }
def TreePathsUptoCardSaid : Prop := Claim7.holds Tryd.pinned (.plain (OpenSpec.upto treePathsSpec)) treePathsUptoCard

/-- THE SECOND FORM's CARD OF 'signetlaw8.TreeSwaps'. -/
def treeSwapsUptoCard : Claim7 := { stood := { row := treeSwapsUptoRow, standIns := [], harness := (true, "a2e3bade3874e377f403593ef666f54a4f49d7a2c9eaf8d36576955741063a0e"), looks := false }, kinds := [], alts := [], laidByText := true, laidKinds := [.data], laidTests := true, laidLooks := .later }
def TreeSwapsUptoCardSaid : Prop := Claim7.holds Tryd.pinned (.plain (OpenSpec.upto treeSwapsSpec)) treeSwapsUptoCard
end Rows
end Go.Proofs.YtnnkmoaipcdhnaaDoor
