/-
  No cell of these rows narrows 'for every input' (looked for: loops, veiled, ifaces, maps, wideKeys, modest, calm, conditions, laid).
  DERIVED. THE GIVEN ROWS OF THIS SEAT. 6 by the template 'for every input the law returns true; each argument reads behind the call as it read before'; 0 by the template 'total and deterministic' (their statements: YtndohkbppgmbjaaTotals.lean).
  GIVEN WITH THE SEED: the statements are not yours to turn. If you find one false, say at which input.
  Laid BY PROGRAM, IN A SANDBOX (cutbox-rows.mjs): the forced cells as the released guide's own fill.sh prints them over the translation c3490b5039ed98ed… (all of the seat's roots in one cut). By AI agents, Wed Nov 11 2026. No macro, syntax, notation, axiom, sorry.
-/
import Derived.Test.YtndohkbppgmbjaaChecked
import GoSem.Claim
import GoSem.ClaimJoined
import GoSem.ClaimMapViews
import Derived.JoinedTies
import Derived.KernelRfl
namespace Go.Proofs.Ytndohkbppgmbjaa
/- THE CELL 'sum', in the pinned program and in every row, IS THE sha256 OF THE DUMP (.gsa) THAT YtndohkbppgmbjaaProg.lean LOADS. Nothing in Lean hashes anything: it is a label: what it is worth is what the hold of that sum in a sandbox is worth. -/
noncomputable def Try.pinned : Pinned := { name := "ytndohkbppgmbjaa", sum := "c3490b5039ed98edd734cb723ad91bde3dfc5fd2088bef4b50596dc9a419341b", checked := Try.checked }
namespace Rows
def none {H : Type} : Left H := { results := [], args := [] }

/-- 'signetlaw5.DataCanons': WHATEVER THE INPUT: true; the input reads as it did. -/
def dataCanonsSpec : ChangeSpec := { name := "dataCanons", fn := fun _ => fun
  | [d1, d2] => { results := [.lit (.bool true)], args := [d1, d2] }
  | _ => none }
def dataCanonsRow : OpenClaim := { program := "ytndohkbppgmbjaa", sum := "c3490b5039ed98edd734cb723ad91bde3dfc5fd2088bef4b50596dc9a419341b", func := "signet/signetlaw5.DataCanons", spec := "dataCanons", unfollowed := true, recurses := true, apart := false }
def DataCanonsSaid : Prop := dataCanonsRow.holds Try.pinned (OpenSpec.ofChange dataCanonsSpec)

/-- ITS FALSE NEIGHBOUR: 'it returns false'. Refute it at one input. -/
def dataCanonsWrong : ChangeSpec := { name := "dataCanons", fn := fun _ => fun
  | [d1, d2] => { results := [.lit (.bool false)], args := [d1, d2] }
  | _ => none }
def DataCanonsWrongFalsely : Prop := dataCanonsRow.holds Try.pinned (OpenSpec.ofChange dataCanonsWrong)

/-- 'signetlaw5.DataGreat': WHATEVER THE INPUT: true; the input reads as it did. -/
def dataGreatSpec : ChangeSpec := { name := "dataGreat", fn := fun _ => fun
  | [d1, d2] => { results := [.lit (.bool true)], args := [d1, d2] }
  | _ => none }
def dataGreatRow : OpenClaim := { program := "ytndohkbppgmbjaa", sum := "c3490b5039ed98edd734cb723ad91bde3dfc5fd2088bef4b50596dc9a419341b", func := "signet/signetlaw5.DataGreat", spec := "dataGreat", unfollowed := true, recurses := true, apart := false }
def DataGreatSaid : Prop := dataGreatRow.holds Try.pinned (OpenSpec.ofChange dataGreatSpec)

/-- ITS FALSE NEIGHBOUR: 'it returns false'. Refute it at one input. -/
def dataGreatWrong : ChangeSpec := { name := "dataGreat", fn := fun _ => fun
  | [d1, d2] => { results := [.lit (.bool false)], args := [d1, d2] }
  | _ => none }
def DataGreatWrongFalsely : Prop := dataGreatRow.holds Try.pinned (OpenSpec.ofChange dataGreatWrong)

/-- 'signetlaw5.DataNames': WHATEVER THE INPUT: true; the input reads as it did. -/
def dataNamesSpec : ChangeSpec := { name := "dataNames", fn := fun _ => fun
  | [d1, d2, d3, d4] => { results := [.lit (.bool true)], args := [d1, d2, d3, d4] }
  | _ => none }
def dataNamesRow : OpenClaim := { program := "ytndohkbppgmbjaa", sum := "c3490b5039ed98edd734cb723ad91bde3dfc5fd2088bef4b50596dc9a419341b", func := "signet/signetlaw5.DataNames", spec := "dataNames", unfollowed := true, recurses := true, apart := false }
def DataNamesSaid : Prop := dataNamesRow.holds Try.pinned (OpenSpec.ofChange dataNamesSpec)

/-- ITS FALSE NEIGHBOUR: 'it returns false'. Refute it at one input. -/
def dataNamesWrong : ChangeSpec := { name := "dataNames", fn := fun _ => fun
  | [d1, d2, d3, d4] => { results := [.lit (.bool false)], args := [d1, d2, d3, d4] }
  | _ => none }
def DataNamesWrongFalsely : Prop := dataNamesRow.holds Try.pinned (OpenSpec.ofChange dataNamesWrong)

/-- 'signetlaw5.DataTexts': WHATEVER THE INPUT: true; the input reads as it did. -/
def dataTextsSpec : ChangeSpec := { name := "dataTexts", fn := fun _ => fun
  | [d1, d2] => { results := [.lit (.bool true)], args := [d1, d2] }
  | _ => none }
def dataTextsRow : OpenClaim := { program := "ytndohkbppgmbjaa", sum := "c3490b5039ed98edd734cb723ad91bde3dfc5fd2088bef4b50596dc9a419341b", func := "signet/signetlaw5.DataTexts", spec := "dataTexts", unfollowed := true, recurses := true, apart := false }
def DataTextsSaid : Prop := dataTextsRow.holds Try.pinned (OpenSpec.ofChange dataTextsSpec)

/-- ITS FALSE NEIGHBOUR: 'it returns false'. Refute it at one input. -/
def dataTextsWrong : ChangeSpec := { name := "dataTexts", fn := fun _ => fun
  | [d1, d2] => { results := [.lit (.bool false)], args := [d1, d2] }
  | _ => none }
def DataTextsWrongFalsely : Prop := dataTextsRow.holds Try.pinned (OpenSpec.ofChange dataTextsWrong)

/-- 'signetlaw5.DataParts': WHATEVER THE INPUT: true; the input reads as it did. -/
def dataPartsSpec : ChangeSpec := { name := "dataParts", fn := fun _ => fun
  | [d] => { results := [.lit (.bool true)], args := [d] }
  | _ => none }
def dataPartsRow : OpenClaim := { program := "ytndohkbppgmbjaa", sum := "c3490b5039ed98edd734cb723ad91bde3dfc5fd2088bef4b50596dc9a419341b", func := "signet/signetlaw5.DataParts", spec := "dataParts", unfollowed := true, recurses := true, apart := false }
def DataPartsSaid : Prop := dataPartsRow.holds Try.pinned (OpenSpec.ofChange dataPartsSpec)

/-- ITS FALSE NEIGHBOUR: 'it returns false'. Refute it at one input. -/
def dataPartsWrong : ChangeSpec := { name := "dataParts", fn := fun _ => fun
  | [d] => { results := [.lit (.bool false)], args := [d] }
  | _ => none }
def DataPartsWrongFalsely : Prop := dataPartsRow.holds Try.pinned (OpenSpec.ofChange dataPartsWrong)

/-- 'signetlaw5.DataBack': WHATEVER THE INPUT: true; the input reads as it did. -/
def dataBackSpec : ChangeSpec := { name := "dataBack", fn := fun _ => fun
  | [d1, d2, d3, d4] => { results := [.lit (.bool true)], args := [d1, d2, d3, d4] }
  | _ => none }
def dataBackRow : OpenClaim := { program := "ytndohkbppgmbjaa", sum := "c3490b5039ed98edd734cb723ad91bde3dfc5fd2088bef4b50596dc9a419341b", func := "signet/signetlaw5.DataBack", spec := "dataBack", unfollowed := true, recurses := true, apart := false }
def DataBackSaid : Prop := dataBackRow.holds Try.pinned (OpenSpec.ofChange dataBackSpec)

/-- ITS FALSE NEIGHBOUR: 'it returns false'. Refute it at one input. -/
def dataBackWrong : ChangeSpec := { name := "dataBack", fn := fun _ => fun
  | [d1, d2, d3, d4] => { results := [.lit (.bool false)], args := [d1, d2, d3, d4] }
  | _ => none }
def DataBackWrongFalsely : Prop := dataBackRow.holds Try.pinned (OpenSpec.ofChange dataBackWrong)

/- THE SECOND FORM. 'bulk': how many values and letters a reading holds, each counted each time it is reached (what is shared counts as often as it is met; a slice's spare places count too). A statement '..UptoSaid' is the law's where the arguments, and the package variables that the reading takes, are together of bulk at most 1048576: NARROWER than '..Said'. Prove '..Said' where nothing that the law and all that it calls make is longer than what came in: it says more and counts as full. Else prove '..UptoSaid'. A law counts once. -/
mutual
def uptoBulk {H : Type} : DataW H → Nat
  | .lit (.string bytes) => bytes.length + 1
  | .lit _ => 1
  | .nil => 1
  | .ptr d => uptoBulk d + 1
  | .slice elems spare => uptoBulkAll elems + uptoBulkAll spare + 1
  | .agg parts => uptoBulkAll parts + 1
  | .iface _ d => uptoBulk d + 1
  | .map entries => uptoBulkEntries entries + 1
  | .held _ => 1
def uptoBulkAll {H : Type} : List (DataW H) → Nat
  | [] => 0
  | d :: r => uptoBulk d + uptoBulkAll r
def uptoBulkEntries {H : Type} : List (Lit × DataW H) → Nat
  | [] => 0
  | x :: r => uptoBulkEntry x + uptoBulkEntries r
def uptoBulkEntry {H : Type} : Lit × DataW H → Nat
  | (.string bytes, d) => bytes.length + uptoBulk d + 1
  | (_, d) => uptoBulk d + 1
 end
def uptoSmall : (H : Type) → List (DataW H) → Bool := fun _ ds => decide (uptoBulkAll ds ≤ 1048576)
def OpenSpec.upto (s : _root_.Go.ChangeSpec) : _root_.Go.OpenSpec := { _root_.Go.OpenSpec.ofChange s with cond := some uptoSmall }

/-- 'signetlaw5.DataCanons', WHERE WHAT IT READS IS OF BULK AT MOST 1048576: true; the input reads as it did. -/
def dataCanonsUptoRow : OpenClaim := { program := "ytndohkbppgmbjaa", sum := "c3490b5039ed98edd734cb723ad91bde3dfc5fd2088bef4b50596dc9a419341b", func := "signet/signetlaw5.DataCanons", spec := "dataCanons", unfollowed := true, recurses := true, apart := false, narrowed := true }
def DataCanonsUptoSaid : Prop := dataCanonsUptoRow.holds Try.pinned (OpenSpec.upto dataCanonsSpec)

/-- 'signetlaw5.DataGreat', WHERE WHAT IT READS IS OF BULK AT MOST 1048576: true; the input reads as it did. -/
def dataGreatUptoRow : OpenClaim := { program := "ytndohkbppgmbjaa", sum := "c3490b5039ed98edd734cb723ad91bde3dfc5fd2088bef4b50596dc9a419341b", func := "signet/signetlaw5.DataGreat", spec := "dataGreat", unfollowed := true, recurses := true, apart := false, narrowed := true }
def DataGreatUptoSaid : Prop := dataGreatUptoRow.holds Try.pinned (OpenSpec.upto dataGreatSpec)

/-- 'signetlaw5.DataNames', WHERE WHAT IT READS IS OF BULK AT MOST 1048576: true; the input reads as it did. -/
def dataNamesUptoRow : OpenClaim := { program := "ytndohkbppgmbjaa", sum := "c3490b5039ed98edd734cb723ad91bde3dfc5fd2088bef4b50596dc9a419341b", func := "signet/signetlaw5.DataNames", spec := "dataNames", unfollowed := true, recurses := true, apart := false, narrowed := true }
def DataNamesUptoSaid : Prop := dataNamesUptoRow.holds Try.pinned (OpenSpec.upto dataNamesSpec)

/-- 'signetlaw5.DataTexts', WHERE WHAT IT READS IS OF BULK AT MOST 1048576: true; the input reads as it did. -/
def dataTextsUptoRow : OpenClaim := { program := "ytndohkbppgmbjaa", sum := "c3490b5039ed98edd734cb723ad91bde3dfc5fd2088bef4b50596dc9a419341b", func := "signet/signetlaw5.DataTexts", spec := "dataTexts", unfollowed := true, recurses := true, apart := false, narrowed := true }
def DataTextsUptoSaid : Prop := dataTextsUptoRow.holds Try.pinned (OpenSpec.upto dataTextsSpec)

/-- 'signetlaw5.DataParts', WHERE WHAT IT READS IS OF BULK AT MOST 1048576: true; the input reads as it did. -/
def dataPartsUptoRow : OpenClaim := { program := "ytndohkbppgmbjaa", sum := "c3490b5039ed98edd734cb723ad91bde3dfc5fd2088bef4b50596dc9a419341b", func := "signet/signetlaw5.DataParts", spec := "dataParts", unfollowed := true, recurses := true, apart := false, narrowed := true }
def DataPartsUptoSaid : Prop := dataPartsUptoRow.holds Try.pinned (OpenSpec.upto dataPartsSpec)

/-- 'signetlaw5.DataBack', WHERE WHAT IT READS IS OF BULK AT MOST 1048576: true; the input reads as it did. -/
def dataBackUptoRow : OpenClaim := { program := "ytndohkbppgmbjaa", sum := "c3490b5039ed98edd734cb723ad91bde3dfc5fd2088bef4b50596dc9a419341b", func := "signet/signetlaw5.DataBack", spec := "dataBack", unfollowed := true, recurses := true, apart := false, narrowed := true }
def DataBackUptoSaid : Prop := dataBackUptoRow.holds Try.pinned (OpenSpec.upto dataBackSpec)

end Rows
end Go.Proofs.Ytndohkbppgmbjaa
