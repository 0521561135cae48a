/-
  No cell of these rows narrows 'for every input' (looked for: loops, veiled, ifaces, maps, wideKeys, modest, calm, conditions, laid).
  DERIVED. THE GIVEN ROWS OF THIS SEAT. 6 by the template 'for every input the law returns true; each argument reads behind the call as it read before'; 0 by the template 'total and deterministic' (their statements: YtojgbdpghlbagaaTotals.lean).
  GIVEN WITH THE SEED: the statements are not yours to turn. If you find one false, say at which input.
  Laid BY PROGRAM, IN A SANDBOX (cutbox-rows.mjs): the forced cells as the released guide's own fill.sh prints them over the translation 1af254cea407bc09… (all of the seat's roots in one cut). By AI agents, Wed Nov 11 2026. No macro, syntax, notation, axiom, sorry.
-/
import Derived.Test.YtojgbdpghlbagaaChecked
import GoSem.Claim
import GoSem.ClaimJoined
import GoSem.ClaimMapViews
import Derived.JoinedTies
import Derived.KernelRfl
namespace Go.Proofs.Ytojgbdpghlbagaa
/- THE CELL 'sum', in the pinned program and in every row, IS THE sha256 OF THE DUMP (.gsa) THAT YtojgbdpghlbagaaProg.lean LOADS. Nothing in Lean hashes anything: it is a label: what it is worth is what the hold of that sum in a sandbox is worth. -/
noncomputable def Try.pinned : Pinned := { name := "ytojgbdpghlbagaa", sum := "1af254cea407bc094524b658401841bc7574228455f1488369e98c399c55735b", checked := Try.checked }
namespace Rows
def none {H : Type} : Left H := { results := [], args := [] }

/-- 'signetlaw12.JournalSums': WHATEVER THE INPUT: true; the input reads as it did. -/
def journalSumsSpec : ChangeSpec := { name := "journalSums", fn := fun _ => fun
  | [d] => { results := [.lit (.bool true)], args := [d] }
  | _ => none }
def journalSumsRow : OpenClaim := { program := "ytojgbdpghlbagaa", sum := "1af254cea407bc094524b658401841bc7574228455f1488369e98c399c55735b", func := "signet/signetlaw12.JournalSums", spec := "journalSums", unfollowed := true, recurses := true, apart := false }
def JournalSumsSaid : Prop := journalSumsRow.holds Try.pinned (OpenSpec.ofChange journalSumsSpec)

/-- ITS FALSE NEIGHBOUR: 'it returns false'. Refute it at one input. -/
def journalSumsWrong : ChangeSpec := { name := "journalSums", fn := fun _ => fun
  | [d] => { results := [.lit (.bool false)], args := [d] }
  | _ => none }
def JournalSumsWrongFalsely : Prop := journalSumsRow.holds Try.pinned (OpenSpec.ofChange journalSumsWrong)

/-- 'signetlaw12.JournalForeign': WHATEVER THE INPUT: true; the input reads as it did. -/
def journalForeignSpec : ChangeSpec := { name := "journalForeign", fn := fun _ => fun
  | [d1, d2, d3] => { results := [.lit (.bool true)], args := [d1, d2, d3] }
  | _ => none }
def journalForeignRow : OpenClaim := { program := "ytojgbdpghlbagaa", sum := "1af254cea407bc094524b658401841bc7574228455f1488369e98c399c55735b", func := "signet/signetlaw12.JournalForeign", spec := "journalForeign", unfollowed := true, recurses := true, apart := false }
def JournalForeignSaid : Prop := journalForeignRow.holds Try.pinned (OpenSpec.ofChange journalForeignSpec)

/-- ITS FALSE NEIGHBOUR: 'it returns false'. Refute it at one input. -/
def journalForeignWrong : ChangeSpec := { name := "journalForeign", fn := fun _ => fun
  | [d1, d2, d3] => { results := [.lit (.bool false)], args := [d1, d2, d3] }
  | _ => none }
def JournalForeignWrongFalsely : Prop := journalForeignRow.holds Try.pinned (OpenSpec.ofChange journalForeignWrong)

/-- 'signetlaw12.JournalTwice': WHATEVER THE INPUT: true; the input reads as it did. -/
def journalTwiceSpec : ChangeSpec := { name := "journalTwice", fn := fun _ => fun
  | [d1, d2, d3, d4, d5, d6] => { results := [.lit (.bool true)], args := [d1, d2, d3, d4, d5, d6] }
  | _ => none }
def journalTwiceRow : OpenClaim := { program := "ytojgbdpghlbagaa", sum := "1af254cea407bc094524b658401841bc7574228455f1488369e98c399c55735b", func := "signet/signetlaw12.JournalTwice", spec := "journalTwice", unfollowed := true, recurses := true, apart := false }
def JournalTwiceSaid : Prop := journalTwiceRow.holds Try.pinned (OpenSpec.ofChange journalTwiceSpec)

/-- ITS FALSE NEIGHBOUR: 'it returns false'. Refute it at one input. -/
def journalTwiceWrong : ChangeSpec := { name := "journalTwice", fn := fun _ => fun
  | [d1, d2, d3, d4, d5, d6] => { results := [.lit (.bool false)], args := [d1, d2, d3, d4, d5, d6] }
  | _ => none }
def JournalTwiceWrongFalsely : Prop := journalTwiceRow.holds Try.pinned (OpenSpec.ofChange journalTwiceWrong)

/-- 'signetlaw12.JournalResets': WHATEVER THE INPUT: true; the input reads as it did. -/
def journalResetsSpec : ChangeSpec := { name := "journalResets", fn := fun _ => fun
  | [d1, d2, d3] => { results := [.lit (.bool true)], args := [d1, d2, d3] }
  | _ => none }
def journalResetsRow : OpenClaim := { program := "ytojgbdpghlbagaa", sum := "1af254cea407bc094524b658401841bc7574228455f1488369e98c399c55735b", func := "signet/signetlaw12.JournalResets", spec := "journalResets", unfollowed := true, recurses := true, apart := false }
def JournalResetsSaid : Prop := journalResetsRow.holds Try.pinned (OpenSpec.ofChange journalResetsSpec)

/-- ITS FALSE NEIGHBOUR: 'it returns false'. Refute it at one input. -/
def journalResetsWrong : ChangeSpec := { name := "journalResets", fn := fun _ => fun
  | [d1, d2, d3] => { results := [.lit (.bool false)], args := [d1, d2, d3] }
  | _ => none }
def JournalResetsWrongFalsely : Prop := journalResetsRow.holds Try.pinned (OpenSpec.ofChange journalResetsWrong)

/-- 'signetlaw12.JournalKeeps': WHATEVER THE INPUT: true; the input reads as it did. -/
def journalKeepsSpec : ChangeSpec := { name := "journalKeeps", fn := fun _ => fun
  | [d1, d2] => { results := [.lit (.bool true)], args := [d1, d2] }
  | _ => none }
def journalKeepsRow : OpenClaim := { program := "ytojgbdpghlbagaa", sum := "1af254cea407bc094524b658401841bc7574228455f1488369e98c399c55735b", func := "signet/signetlaw12.JournalKeeps", spec := "journalKeeps", unfollowed := true, recurses := true, apart := false }
def JournalKeepsSaid : Prop := journalKeepsRow.holds Try.pinned (OpenSpec.ofChange journalKeepsSpec)

/-- ITS FALSE NEIGHBOUR: 'it returns false'. Refute it at one input. -/
def journalKeepsWrong : ChangeSpec := { name := "journalKeeps", fn := fun _ => fun
  | [d1, d2] => { results := [.lit (.bool false)], args := [d1, d2] }
  | _ => none }
def JournalKeepsWrongFalsely : Prop := journalKeepsRow.holds Try.pinned (OpenSpec.ofChange journalKeepsWrong)

/-- 'signetlaw12.JournalFalls': WHATEVER THE INPUT: true; the input reads as it did. -/
def journalFallsSpec : ChangeSpec := { name := "journalFalls", fn := fun _ => fun
  | [d1, d2, d3, d4] => { results := [.lit (.bool true)], args := [d1, d2, d3, d4] }
  | _ => none }
def journalFallsRow : OpenClaim := { program := "ytojgbdpghlbagaa", sum := "1af254cea407bc094524b658401841bc7574228455f1488369e98c399c55735b", func := "signet/signetlaw12.JournalFalls", spec := "journalFalls", unfollowed := true, recurses := true, apart := false }
def JournalFallsSaid : Prop := journalFallsRow.holds Try.pinned (OpenSpec.ofChange journalFallsSpec)

/-- ITS FALSE NEIGHBOUR: 'it returns false'. Refute it at one input. -/
def journalFallsWrong : ChangeSpec := { name := "journalFalls", fn := fun _ => fun
  | [d1, d2, d3, d4] => { results := [.lit (.bool false)], args := [d1, d2, d3, d4] }
  | _ => none }
def JournalFallsWrongFalsely : Prop := journalFallsRow.holds Try.pinned (OpenSpec.ofChange journalFallsWrong)

/- THE SECOND FORM. 'bulk': how many values and letters a reading holds, each counted each time it is reached (what is shared counts as often as it is met; a slice's spare places count too). A statement '..UptoSaid' is the law's where the arguments, and the package variables that the reading takes, are together of bulk at most 1048576: NARROWER than '..Said'. Prove '..Said' where nothing that the law and all that it calls make is longer than what came in: it says more and counts as full. Else prove '..UptoSaid'. A law counts once. -/
mutual
def uptoBulk {H : Type} : DataW H → Nat
  | .lit (.string bytes) => bytes.length + 1
  | .lit _ => 1
  | .nil => 1
  | .ptr d => uptoBulk d + 1
  | .slice elems spare => uptoBulkAll elems + uptoBulkAll spare + 1
  | .agg parts => uptoBulkAll parts + 1
  | .iface _ d => uptoBulk d + 1
  | .map entries => uptoBulkEntries entries + 1
  | .held _ => 1
def uptoBulkAll {H : Type} : List (DataW H) → Nat
  | [] => 0
  | d :: r => uptoBulk d + uptoBulkAll r
def uptoBulkEntries {H : Type} : List (Lit × DataW H) → Nat
  | [] => 0
  | x :: r => uptoBulkEntry x + uptoBulkEntries r
def uptoBulkEntry {H : Type} : Lit × DataW H → Nat
  | (.string bytes, d) => bytes.length + uptoBulk d + 1
  | (_, d) => uptoBulk d + 1
 end
def uptoSmall : (H : Type) → List (DataW H) → Bool := fun _ ds => decide (uptoBulkAll ds ≤ 1048576)
def OpenSpec.upto (s : _root_.Go.ChangeSpec) : _root_.Go.OpenSpec := { _root_.Go.OpenSpec.ofChange s with cond := some uptoSmall }

/-- 'signetlaw12.JournalSums', WHERE WHAT IT READS IS OF BULK AT MOST 1048576: true; the input reads as it did. -/
def journalSumsUptoRow : OpenClaim := { program := "ytojgbdpghlbagaa", sum := "1af254cea407bc094524b658401841bc7574228455f1488369e98c399c55735b", func := "signet/signetlaw12.JournalSums", spec := "journalSums", unfollowed := true, recurses := true, apart := false, narrowed := true }
def JournalSumsUptoSaid : Prop := journalSumsUptoRow.holds Try.pinned (OpenSpec.upto journalSumsSpec)

/-- 'signetlaw12.JournalForeign', WHERE WHAT IT READS IS OF BULK AT MOST 1048576: true; the input reads as it did. -/
def journalForeignUptoRow : OpenClaim := { program := "ytojgbdpghlbagaa", sum := "1af254cea407bc094524b658401841bc7574228455f1488369e98c399c55735b", func := "signet/signetlaw12.JournalForeign", spec := "journalForeign", unfollowed := true, recurses := true, apart := false, narrowed := true }
def JournalForeignUptoSaid : Prop := journalForeignUptoRow.holds Try.pinned (OpenSpec.upto journalForeignSpec)

/-- 'signetlaw12.JournalTwice', WHERE WHAT IT READS IS OF BULK AT MOST 1048576: true; the input reads as it did. -/
def journalTwiceUptoRow : OpenClaim := { program := "ytojgbdpghlbagaa", sum := "1af254cea407bc094524b658401841bc7574228455f1488369e98c399c55735b", func := "signet/signetlaw12.JournalTwice", spec := "journalTwice", unfollowed := true, recurses := true, apart := false, narrowed := true }
def JournalTwiceUptoSaid : Prop := journalTwiceUptoRow.holds Try.pinned (OpenSpec.upto journalTwiceSpec)

/-- 'signetlaw12.JournalResets', WHERE WHAT IT READS IS OF BULK AT MOST 1048576: true; the input reads as it did. -/
def journalResetsUptoRow : OpenClaim := { program := "ytojgbdpghlbagaa", sum := "1af254cea407bc094524b658401841bc7574228455f1488369e98c399c55735b", func := "signet/signetlaw12.JournalResets", spec := "journalResets", unfollowed := true, recurses := true, apart := false, narrowed := true }
def JournalResetsUptoSaid : Prop := journalResetsUptoRow.holds Try.pinned (OpenSpec.upto journalResetsSpec)

/-- 'signetlaw12.JournalKeeps', WHERE WHAT IT READS IS OF BULK AT MOST 1048576: true; the input reads as it did. -/
def journalKeepsUptoRow : OpenClaim := { program := "ytojgbdpghlbagaa", sum := "1af254cea407bc094524b658401841bc7574228455f1488369e98c399c55735b", func := "signet/signetlaw12.JournalKeeps", spec := "journalKeeps", unfollowed := true, recurses := true, apart := false, narrowed := true }
def JournalKeepsUptoSaid : Prop := journalKeepsUptoRow.holds Try.pinned (OpenSpec.upto journalKeepsSpec)

/-- 'signetlaw12.JournalFalls', WHERE WHAT IT READS IS OF BULK AT MOST 1048576: true; the input reads as it did. -/
def journalFallsUptoRow : OpenClaim := { program := "ytojgbdpghlbagaa", sum := "1af254cea407bc094524b658401841bc7574228455f1488369e98c399c55735b", func := "signet/signetlaw12.JournalFalls", spec := "journalFalls", unfollowed := true, recurses := true, apart := false, narrowed := true }
def JournalFallsUptoSaid : Prop := journalFallsUptoRow.holds Try.pinned (OpenSpec.upto journalFallsSpec)

end Rows
end Go.Proofs.Ytojgbdpghlbagaa
