/-
  NARROWER THAN 'FOR EVERY INPUT', by the rows' own cells (each row's printed sentence says how): HashSums: laid · HashShorts: laid · HashParts: laid · HashLengths: laid · OnceSigns: laid · OnceOpens: laid · OnceOther: laid · OnceKeys: laid · DigestTags: laid · DigestHashes: laid · DigestGreat: laid · DigestKeys: laid · TreeRoots: laid · TreeSigns: laid · TreeVerifies: laid · TreeHeights: laid · TreePaths: laid · TreeSwaps: laid.
  DERIVED. THE GIVEN ROWS OF THIS SEAT. 18 by the template 'for every input the law returns true; each argument reads behind the call as it read before'; 0 by the template 'total and deterministic' (their statements: YtnnkmoaipcdhnaaDoorTotals.lean).
  GIVEN WITH THE SEED: the statements are not yours to turn. If you find one false, say at which input.
  Laid BY PROGRAM, IN A SANDBOX (cutbox-rows.mjs): the forced cells as the released guide's own fill.sh prints them over the translation e632014b615905e7… (all of the seat's roots in one cut). By AI agents, Wed Nov 11 2026. No macro, syntax, notation, axiom, sorry.
-/
import Derived.Test.YtnnkmoaipcdhnaaDoorChecked
import GoSem.Claim
import GoSem.ClaimJoined
import GoSem.ClaimMapViews
import Derived.JoinedTies
import Derived.KernelRfl
namespace Go.Proofs.YtnnkmoaipcdhnaaDoor
/- THE CELL 'sum', in the pinned program and in every row, IS THE sha256 OF THE DUMP (.gsa) THAT YtnnkmoaipcdhnaaDoorProg.lean LOADS. Nothing in Lean hashes anything: it is a label: what it is worth is what the hold of that sum in a sandbox is worth. -/
noncomputable def Tryd.pinned : Pinned := { name := "ytnnkmoaipcdhnaadoor", sum := "e632014b615905e7a18e0e3a375d4f10fa32f615edd0d66d2e89972d7ee1291c", checked := Tryd.checked }
namespace Rows
def none {H : Type} : Left H := { results := [], args := [] }

/- WHAT THE LISTED PACKAGE-LEVEL VARIABLES READ AS WHEN THE CALL BEGINS. Each datum BY PROGRAM (the guide's laid-datum.mjs) off the statement by which the dump's own 'gosem.cut.vars' lays the variable. In a bare row this is a premise. The card (YtnnkmoaipcdhnaaDoorCards.lean) ties it to the program's text. -/
def laid_signet_hash_rounds {H : Type} : DataW H := .agg [.lit (.int .u32 1116352408), .lit (.int .u32 1899447441), .lit (.int .u32 3049323471), .lit (.int .u32 3921009573), .lit (.int .u32 961987163), .lit (.int .u32 1508970993), .lit (.int .u32 2453635748), .lit (.int .u32 2870763221), .lit (.int .u32 3624381080), .lit (.int .u32 310598401), .lit (.int .u32 607225278), .lit (.int .u32 1426881987), .lit (.int .u32 1925078388), .lit (.int .u32 2162078206), .lit (.int .u32 2614888103), .lit (.int .u32 3248222580), .lit (.int .u32 3835390401), .lit (.int .u32 4022224774), .lit (.int .u32 264347078), .lit (.int .u32 604807628), .lit (.int .u32 770255983), .lit (.int .u32 1249150122), .lit (.int .u32 1555081692), .lit (.int .u32 1996064986), .lit (.int .u32 2554220882), .lit (.int .u32 2821834349), .lit (.int .u32 2952996808), .lit (.int .u32 3210313671), .lit (.int .u32 3336571891), .lit (.int .u32 3584528711), .lit (.int .u32 113926993), .lit (.int .u32 338241895), .lit (.int .u32 666307205), .lit (.int .u32 773529912), .lit (.int .u32 1294757372), .lit (.int .u32 1396182291), .lit (.int .u32 1695183700), .lit (.int .u32 1986661051), .lit (.int .u32 2177026350), .lit (.int .u32 2456956037), .lit (.int .u32 2730485921), .lit (.int .u32 2820302411), .lit (.int .u32 3259730800), .lit (.int .u32 3345764771), .lit (.int .u32 3516065817), .lit (.int .u32 3600352804), .lit (.int .u32 4094571909), .lit (.int .u32 275423344), .lit (.int .u32 430227734), .lit (.int .u32 506948616), .lit (.int .u32 659060556), .lit (.int .u32 883997877), .lit (.int .u32 958139571), .lit (.int .u32 1322822218), .lit (.int .u32 1537002063), .lit (.int .u32 1747873779), .lit (.int .u32 1955562222), .lit (.int .u32 2024104815), .lit (.int .u32 2227730452), .lit (.int .u32 2361852424), .lit (.int .u32 2428436474), .lit (.int .u32 2756734187), .lit (.int .u32 3204031479), .lit (.int .u32 3329325298)]

/-- 'signetlaw1.HashSums': WHATEVER THE INPUT: true; the input reads as it did. -/
def hashSumsSpec : ChangeSpec := { name := "hashSums", fn := fun _ => fun
  | [d1, d2] => { results := [.lit (.bool true)], args := [d1, d2] }
  | _ => none }
def hashSumsRow : OpenClaim := { program := "ytnnkmoaipcdhnaadoor", sum := "e632014b615905e7a18e0e3a375d4f10fa32f615edd0d66d2e89972d7ee1291c", func := "signet/signetlaw1.HashSums", spec := "hashSums", named := ["signet/hash.rounds"], apart := false, laid := [("signet/hash.rounds", laid_signet_hash_rounds)] }
def HashSumsSaid : Prop := hashSumsRow.holds Tryd.pinned (OpenSpec.ofChange hashSumsSpec)

/-- ITS FALSE NEIGHBOUR: 'it returns false'. Refute it at one input. -/
def hashSumsWrong : ChangeSpec := { name := "hashSums", fn := fun _ => fun
  | [d1, d2] => { results := [.lit (.bool false)], args := [d1, d2] }
  | _ => none }
def HashSumsWrongFalsely : Prop := hashSumsRow.holds Tryd.pinned (OpenSpec.ofChange hashSumsWrong)

/-- 'signetlaw1.HashShorts': WHATEVER THE INPUT: true; the input reads as it did. -/
def hashShortsSpec : ChangeSpec := { name := "hashShorts", fn := fun _ => fun
  | [d1, d2] => { results := [.lit (.bool true)], args := [d1, d2] }
  | _ => none }
def hashShortsRow : OpenClaim := { program := "ytnnkmoaipcdhnaadoor", sum := "e632014b615905e7a18e0e3a375d4f10fa32f615edd0d66d2e89972d7ee1291c", func := "signet/signetlaw1.HashShorts", spec := "hashShorts", named := ["signet/hash.rounds"], apart := false, laid := [("signet/hash.rounds", laid_signet_hash_rounds)] }
def HashShortsSaid : Prop := hashShortsRow.holds Tryd.pinned (OpenSpec.ofChange hashShortsSpec)

/-- ITS FALSE NEIGHBOUR: 'it returns false'. Refute it at one input. -/
def hashShortsWrong : ChangeSpec := { name := "hashShorts", fn := fun _ => fun
  | [d1, d2] => { results := [.lit (.bool false)], args := [d1, d2] }
  | _ => none }
def HashShortsWrongFalsely : Prop := hashShortsRow.holds Tryd.pinned (OpenSpec.ofChange hashShortsWrong)

/-- 'signetlaw1.HashParts': WHATEVER THE INPUT: true; the input reads as it did. -/
def hashPartsSpec : ChangeSpec := { name := "hashParts", fn := fun _ => fun
  | [d1, d2] => { results := [.lit (.bool true)], args := [d1, d2] }
  | _ => none }
def hashPartsRow : OpenClaim := { program := "ytnnkmoaipcdhnaadoor", sum := "e632014b615905e7a18e0e3a375d4f10fa32f615edd0d66d2e89972d7ee1291c", func := "signet/signetlaw1.HashParts", spec := "hashParts", named := ["signet/hash.rounds"], apart := false, laid := [("signet/hash.rounds", laid_signet_hash_rounds)] }
def HashPartsSaid : Prop := hashPartsRow.holds Tryd.pinned (OpenSpec.ofChange hashPartsSpec)

/-- ITS FALSE NEIGHBOUR: 'it returns false'. Refute it at one input. -/
def hashPartsWrong : ChangeSpec := { name := "hashParts", fn := fun _ => fun
  | [d1, d2] => { results := [.lit (.bool false)], args := [d1, d2] }
  | _ => none }
def HashPartsWrongFalsely : Prop := hashPartsRow.holds Tryd.pinned (OpenSpec.ofChange hashPartsWrong)

/-- 'signetlaw1.HashLengths': WHATEVER THE INPUT: true; the input reads as it did. -/
def hashLengthsSpec : ChangeSpec := { name := "hashLengths", fn := fun _ => fun
  | [d1, d2] => { results := [.lit (.bool true)], args := [d1, d2] }
  | _ => none }
def hashLengthsRow : OpenClaim := { program := "ytnnkmoaipcdhnaadoor", sum := "e632014b615905e7a18e0e3a375d4f10fa32f615edd0d66d2e89972d7ee1291c", func := "signet/signetlaw1.HashLengths", spec := "hashLengths", named := ["signet/hash.rounds"], apart := false, laid := [("signet/hash.rounds", laid_signet_hash_rounds)] }
def HashLengthsSaid : Prop := hashLengthsRow.holds Tryd.pinned (OpenSpec.ofChange hashLengthsSpec)

/-- ITS FALSE NEIGHBOUR: 'it returns false'. Refute it at one input. -/
def hashLengthsWrong : ChangeSpec := { name := "hashLengths", fn := fun _ => fun
  | [d1, d2] => { results := [.lit (.bool false)], args := [d1, d2] }
  | _ => none }
def HashLengthsWrongFalsely : Prop := hashLengthsRow.holds Tryd.pinned (OpenSpec.ofChange hashLengthsWrong)

/-- 'signetlaw7.OnceSigns': WHATEVER THE INPUT: true; the input reads as it did. -/
def onceSignsSpec : ChangeSpec := { name := "onceSigns", fn := fun _ => fun
  | [d1, d2, d3] => { results := [.lit (.bool true)], args := [d1, d2, d3] }
  | _ => none }
def onceSignsRow : OpenClaim := { program := "ytnnkmoaipcdhnaadoor", sum := "e632014b615905e7a18e0e3a375d4f10fa32f615edd0d66d2e89972d7ee1291c", func := "signet/signetlaw7.OnceSigns", spec := "onceSigns", named := ["signet/hash.rounds"], apart := false, laid := [("signet/hash.rounds", laid_signet_hash_rounds)] }
def OnceSignsSaid : Prop := onceSignsRow.holds Tryd.pinned (OpenSpec.ofChange onceSignsSpec)

/-- ITS FALSE NEIGHBOUR: 'it returns false'. Refute it at one input. -/
def onceSignsWrong : ChangeSpec := { name := "onceSigns", fn := fun _ => fun
  | [d1, d2, d3] => { results := [.lit (.bool false)], args := [d1, d2, d3] }
  | _ => none }
def OnceSignsWrongFalsely : Prop := onceSignsRow.holds Tryd.pinned (OpenSpec.ofChange onceSignsWrong)

/-- 'signetlaw7.OnceOpens': WHATEVER THE INPUT: true; the input reads as it did. -/
def onceOpensSpec : ChangeSpec := { name := "onceOpens", fn := fun _ => fun
  | [d1, d2, d3] => { results := [.lit (.bool true)], args := [d1, d2, d3] }
  | _ => none }
def onceOpensRow : OpenClaim := { program := "ytnnkmoaipcdhnaadoor", sum := "e632014b615905e7a18e0e3a375d4f10fa32f615edd0d66d2e89972d7ee1291c", func := "signet/signetlaw7.OnceOpens", spec := "onceOpens", named := ["signet/hash.rounds"], apart := false, laid := [("signet/hash.rounds", laid_signet_hash_rounds)] }
def OnceOpensSaid : Prop := onceOpensRow.holds Tryd.pinned (OpenSpec.ofChange onceOpensSpec)

/-- ITS FALSE NEIGHBOUR: 'it returns false'. Refute it at one input. -/
def onceOpensWrong : ChangeSpec := { name := "onceOpens", fn := fun _ => fun
  | [d1, d2, d3] => { results := [.lit (.bool false)], args := [d1, d2, d3] }
  | _ => none }
def OnceOpensWrongFalsely : Prop := onceOpensRow.holds Tryd.pinned (OpenSpec.ofChange onceOpensWrong)

/-- 'signetlaw7.OnceOther': WHATEVER THE INPUT: true; the input reads as it did. -/
def onceOtherSpec : ChangeSpec := { name := "onceOther", fn := fun _ => fun
  | [d1, d2, d3, d4] => { results := [.lit (.bool true)], args := [d1, d2, d3, d4] }
  | _ => none }
def onceOtherRow : OpenClaim := { program := "ytnnkmoaipcdhnaadoor", sum := "e632014b615905e7a18e0e3a375d4f10fa32f615edd0d66d2e89972d7ee1291c", func := "signet/signetlaw7.OnceOther", spec := "onceOther", named := ["signet/hash.rounds"], apart := false, laid := [("signet/hash.rounds", laid_signet_hash_rounds)] }
def OnceOtherSaid : Prop := onceOtherRow.holds Tryd.pinned (OpenSpec.ofChange onceOtherSpec)

/-- ITS FALSE NEIGHBOUR: 'it returns false'. Refute it at one input. -/
def onceOtherWrong : ChangeSpec := { name := "onceOther", fn := fun _ => fun
  | [d1, d2, d3, d4] => { results := [.lit (.bool false)], args := [d1, d2, d3, d4] }
  | _ => none }
def OnceOtherWrongFalsely : Prop := onceOtherRow.holds Tryd.pinned (OpenSpec.ofChange onceOtherWrong)

/-- 'signetlaw7.OnceKeys': WHATEVER THE INPUT: true; the input reads as it did. -/
def onceKeysSpec : ChangeSpec := { name := "onceKeys", fn := fun _ => fun
  | [d1, d2, d3, d4] => { results := [.lit (.bool true)], args := [d1, d2, d3, d4] }
  | _ => none }
def onceKeysRow : OpenClaim := { program := "ytnnkmoaipcdhnaadoor", sum := "e632014b615905e7a18e0e3a375d4f10fa32f615edd0d66d2e89972d7ee1291c", func := "signet/signetlaw7.OnceKeys", spec := "onceKeys", named := ["signet/hash.rounds"], apart := false, laid := [("signet/hash.rounds", laid_signet_hash_rounds)] }
def OnceKeysSaid : Prop := onceKeysRow.holds Tryd.pinned (OpenSpec.ofChange onceKeysSpec)

/-- ITS FALSE NEIGHBOUR: 'it returns false'. Refute it at one input. -/
def onceKeysWrong : ChangeSpec := { name := "onceKeys", fn := fun _ => fun
  | [d1, d2, d3, d4] => { results := [.lit (.bool false)], args := [d1, d2, d3, d4] }
  | _ => none }
def OnceKeysWrongFalsely : Prop := onceKeysRow.holds Tryd.pinned (OpenSpec.ofChange onceKeysWrong)

/-- 'signetlaw9.DigestTags': WHATEVER THE INPUT: true; the input reads as it did. -/
def digestTagsSpec : ChangeSpec := { name := "digestTags", fn := fun _ => fun
  | [d1, d2] => { results := [.lit (.bool true)], args := [d1, d2] }
  | _ => none }
def digestTagsRow : OpenClaim := { program := "ytnnkmoaipcdhnaadoor", sum := "e632014b615905e7a18e0e3a375d4f10fa32f615edd0d66d2e89972d7ee1291c", func := "signet/signetlaw9.DigestTags", spec := "digestTags", named := ["signet/hash.rounds"], apart := false, laid := [("signet/hash.rounds", laid_signet_hash_rounds)] }
def DigestTagsSaid : Prop := digestTagsRow.holds Tryd.pinned (OpenSpec.ofChange digestTagsSpec)

/-- ITS FALSE NEIGHBOUR: 'it returns false'. Refute it at one input. -/
def digestTagsWrong : ChangeSpec := { name := "digestTags", fn := fun _ => fun
  | [d1, d2] => { results := [.lit (.bool false)], args := [d1, d2] }
  | _ => none }
def DigestTagsWrongFalsely : Prop := digestTagsRow.holds Tryd.pinned (OpenSpec.ofChange digestTagsWrong)

/-- 'signetlaw9.DigestHashes': WHATEVER THE INPUT: true; the input reads as it did. -/
def digestHashesSpec : ChangeSpec := { name := "digestHashes", fn := fun _ => fun
  | [d1, d2, d3, d4, d5] => { results := [.lit (.bool true)], args := [d1, d2, d3, d4, d5] }
  | _ => none }
def digestHashesRow : OpenClaim := { program := "ytnnkmoaipcdhnaadoor", sum := "e632014b615905e7a18e0e3a375d4f10fa32f615edd0d66d2e89972d7ee1291c", func := "signet/signetlaw9.DigestHashes", spec := "digestHashes", named := ["signet/hash.rounds"], apart := false, laid := [("signet/hash.rounds", laid_signet_hash_rounds)] }
def DigestHashesSaid : Prop := digestHashesRow.holds Tryd.pinned (OpenSpec.ofChange digestHashesSpec)

/-- ITS FALSE NEIGHBOUR: 'it returns false'. Refute it at one input. -/
def digestHashesWrong : ChangeSpec := { name := "digestHashes", fn := fun _ => fun
  | [d1, d2, d3, d4, d5] => { results := [.lit (.bool false)], args := [d1, d2, d3, d4, d5] }
  | _ => none }
def DigestHashesWrongFalsely : Prop := digestHashesRow.holds Tryd.pinned (OpenSpec.ofChange digestHashesWrong)

/-- 'signetlaw9.DigestGreat': WHATEVER THE INPUT: true; the input reads as it did. -/
def digestGreatSpec : ChangeSpec := { name := "digestGreat", fn := fun _ => fun
  | [d1, d2, d3] => { results := [.lit (.bool true)], args := [d1, d2, d3] }
  | _ => none }
def digestGreatRow : OpenClaim := { program := "ytnnkmoaipcdhnaadoor", sum := "e632014b615905e7a18e0e3a375d4f10fa32f615edd0d66d2e89972d7ee1291c", func := "signet/signetlaw9.DigestGreat", spec := "digestGreat", named := ["signet/hash.rounds"], apart := false, laid := [("signet/hash.rounds", laid_signet_hash_rounds)] }
def DigestGreatSaid : Prop := digestGreatRow.holds Tryd.pinned (OpenSpec.ofChange digestGreatSpec)

/-- ITS FALSE NEIGHBOUR: 'it returns false'. Refute it at one input. -/
def digestGreatWrong : ChangeSpec := { name := "digestGreat", fn := fun _ => fun
  | [d1, d2, d3] => { results := [.lit (.bool false)], args := [d1, d2, d3] }
  | _ => none }
def DigestGreatWrongFalsely : Prop := digestGreatRow.holds Tryd.pinned (OpenSpec.ofChange digestGreatWrong)

/-- 'signetlaw9.DigestKeys': WHATEVER THE INPUT: true; the input reads as it did. -/
def digestKeysSpec : ChangeSpec := { name := "digestKeys", fn := fun _ => fun
  | [d1, d2, d3] => { results := [.lit (.bool true)], args := [d1, d2, d3] }
  | _ => none }
def digestKeysRow : OpenClaim := { program := "ytnnkmoaipcdhnaadoor", sum := "e632014b615905e7a18e0e3a375d4f10fa32f615edd0d66d2e89972d7ee1291c", func := "signet/signetlaw9.DigestKeys", spec := "digestKeys", named := ["signet/hash.rounds"], apart := false, laid := [("signet/hash.rounds", laid_signet_hash_rounds)] }
def DigestKeysSaid : Prop := digestKeysRow.holds Tryd.pinned (OpenSpec.ofChange digestKeysSpec)

/-- ITS FALSE NEIGHBOUR: 'it returns false'. Refute it at one input. -/
def digestKeysWrong : ChangeSpec := { name := "digestKeys", fn := fun _ => fun
  | [d1, d2, d3] => { results := [.lit (.bool false)], args := [d1, d2, d3] }
  | _ => none }
def DigestKeysWrongFalsely : Prop := digestKeysRow.holds Tryd.pinned (OpenSpec.ofChange digestKeysWrong)

/-- 'signetlaw8.TreeRoots': WHATEVER THE INPUT: true; the input reads as it did. -/
def treeRootsSpec : ChangeSpec := { name := "treeRoots", fn := fun _ => fun
  | [d1, d2, d3] => { results := [.lit (.bool true)], args := [d1, d2, d3] }
  | _ => none }
def treeRootsRow : OpenClaim := { program := "ytnnkmoaipcdhnaadoor", sum := "e632014b615905e7a18e0e3a375d4f10fa32f615edd0d66d2e89972d7ee1291c", func := "signet/signetlaw8.TreeRoots", spec := "treeRoots", named := ["signet/hash.rounds"], apart := false, laid := [("signet/hash.rounds", laid_signet_hash_rounds)] }
def TreeRootsSaid : Prop := treeRootsRow.holds Tryd.pinned (OpenSpec.ofChange treeRootsSpec)

/-- ITS FALSE NEIGHBOUR: 'it returns false'. Refute it at one input. -/
def treeRootsWrong : ChangeSpec := { name := "treeRoots", fn := fun _ => fun
  | [d1, d2, d3] => { results := [.lit (.bool false)], args := [d1, d2, d3] }
  | _ => none }
def TreeRootsWrongFalsely : Prop := treeRootsRow.holds Tryd.pinned (OpenSpec.ofChange treeRootsWrong)

/-- 'signetlaw8.TreeSigns': WHATEVER THE INPUT: true; the input reads as it did. -/
def treeSignsSpec : ChangeSpec := { name := "treeSigns", fn := fun _ => fun
  | [d1, d2, d3, d4] => { results := [.lit (.bool true)], args := [d1, d2, d3, d4] }
  | _ => none }
def treeSignsRow : OpenClaim := { program := "ytnnkmoaipcdhnaadoor", sum := "e632014b615905e7a18e0e3a375d4f10fa32f615edd0d66d2e89972d7ee1291c", func := "signet/signetlaw8.TreeSigns", spec := "treeSigns", named := ["signet/hash.rounds"], apart := false, laid := [("signet/hash.rounds", laid_signet_hash_rounds)] }
def TreeSignsSaid : Prop := treeSignsRow.holds Tryd.pinned (OpenSpec.ofChange treeSignsSpec)

/-- ITS FALSE NEIGHBOUR: 'it returns false'. Refute it at one input. -/
def treeSignsWrong : ChangeSpec := { name := "treeSigns", fn := fun _ => fun
  | [d1, d2, d3, d4] => { results := [.lit (.bool false)], args := [d1, d2, d3, d4] }
  | _ => none }
def TreeSignsWrongFalsely : Prop := treeSignsRow.holds Tryd.pinned (OpenSpec.ofChange treeSignsWrong)

/-- 'signetlaw8.TreeVerifies': WHATEVER THE INPUT: true; the input reads as it did. -/
def treeVerifiesSpec : ChangeSpec := { name := "treeVerifies", fn := fun _ => fun
  | [d1, d2, d3, d4, d5, d6, d7, d8] => { results := [.lit (.bool true)], args := [d1, d2, d3, d4, d5, d6, d7, d8] }
  | _ => none }
def treeVerifiesRow : OpenClaim := { program := "ytnnkmoaipcdhnaadoor", sum := "e632014b615905e7a18e0e3a375d4f10fa32f615edd0d66d2e89972d7ee1291c", func := "signet/signetlaw8.TreeVerifies", spec := "treeVerifies", named := ["signet/hash.rounds"], apart := false, laid := [("signet/hash.rounds", laid_signet_hash_rounds)] }
def TreeVerifiesSaid : Prop := treeVerifiesRow.holds Tryd.pinned (OpenSpec.ofChange treeVerifiesSpec)

/-- ITS FALSE NEIGHBOUR: 'it returns false'. Refute it at one input. -/
def treeVerifiesWrong : ChangeSpec := { name := "treeVerifies", fn := fun _ => fun
  | [d1, d2, d3, d4, d5, d6, d7, d8] => { results := [.lit (.bool false)], args := [d1, d2, d3, d4, d5, d6, d7, d8] }
  | _ => none }
def TreeVerifiesWrongFalsely : Prop := treeVerifiesRow.holds Tryd.pinned (OpenSpec.ofChange treeVerifiesWrong)

/-- 'signetlaw8.TreeHeights': WHATEVER THE INPUT: true; the input reads as it did. -/
def treeHeightsSpec : ChangeSpec := { name := "treeHeights", fn := fun _ => fun
  | [d1, d2, d3, d4] => { results := [.lit (.bool true)], args := [d1, d2, d3, d4] }
  | _ => none }
def treeHeightsRow : OpenClaim := { program := "ytnnkmoaipcdhnaadoor", sum := "e632014b615905e7a18e0e3a375d4f10fa32f615edd0d66d2e89972d7ee1291c", func := "signet/signetlaw8.TreeHeights", spec := "treeHeights", named := ["signet/hash.rounds"], apart := false, laid := [("signet/hash.rounds", laid_signet_hash_rounds)] }
def TreeHeightsSaid : Prop := treeHeightsRow.holds Tryd.pinned (OpenSpec.ofChange treeHeightsSpec)

/-- ITS FALSE NEIGHBOUR: 'it returns false'. Refute it at one input. -/
def treeHeightsWrong : ChangeSpec := { name := "treeHeights", fn := fun _ => fun
  | [d1, d2, d3, d4] => { results := [.lit (.bool false)], args := [d1, d2, d3, d4] }
  | _ => none }
def TreeHeightsWrongFalsely : Prop := treeHeightsRow.holds Tryd.pinned (OpenSpec.ofChange treeHeightsWrong)

/-- 'signetlaw8.TreePaths': WHATEVER THE INPUT: true; the input reads as it did. -/
def treePathsSpec : ChangeSpec := { name := "treePaths", fn := fun _ => fun
  | [d1, d2, d3, d4] => { results := [.lit (.bool true)], args := [d1, d2, d3, d4] }
  | _ => none }
def treePathsRow : OpenClaim := { program := "ytnnkmoaipcdhnaadoor", sum := "e632014b615905e7a18e0e3a375d4f10fa32f615edd0d66d2e89972d7ee1291c", func := "signet/signetlaw8.TreePaths", spec := "treePaths", named := ["signet/hash.rounds"], apart := false, laid := [("signet/hash.rounds", laid_signet_hash_rounds)] }
def TreePathsSaid : Prop := treePathsRow.holds Tryd.pinned (OpenSpec.ofChange treePathsSpec)

/-- ITS FALSE NEIGHBOUR: 'it returns false'. Refute it at one input. -/
def treePathsWrong : ChangeSpec := { name := "treePaths", fn := fun _ => fun
  | [d1, d2, d3, d4] => { results := [.lit (.bool false)], args := [d1, d2, d3, d4] }
  | _ => none }
def TreePathsWrongFalsely : Prop := treePathsRow.holds Tryd.pinned (OpenSpec.ofChange treePathsWrong)

/-- 'signetlaw8.TreeSwaps': WHATEVER THE INPUT: true; the input reads as it did. -/
def treeSwapsSpec : ChangeSpec := { name := "treeSwaps", fn := fun _ => fun
  | [d1, d2, d3, d4, d5] => { results := [.lit (.bool true)], args := [d1, d2, d3, d4, d5] }
  | _ => none }
def treeSwapsRow : OpenClaim := { program := "ytnnkmoaipcdhnaadoor", sum := "e632014b615905e7a18e0e3a375d4f10fa32f615edd0d66d2e89972d7ee1291c", func := "signet/signetlaw8.TreeSwaps", spec := "treeSwaps", named := ["signet/hash.rounds"], apart := false, laid := [("signet/hash.rounds", laid_signet_hash_rounds)] }
def TreeSwapsSaid : Prop := treeSwapsRow.holds Tryd.pinned (OpenSpec.ofChange treeSwapsSpec)

/-- ITS FALSE NEIGHBOUR: 'it returns false'. Refute it at one input. -/
def treeSwapsWrong : ChangeSpec := { name := "treeSwaps", fn := fun _ => fun
  | [d1, d2, d3, d4, d5] => { results := [.lit (.bool false)], args := [d1, d2, d3, d4, d5] }
  | _ => none }
def TreeSwapsWrongFalsely : Prop := treeSwapsRow.holds Tryd.pinned (OpenSpec.ofChange treeSwapsWrong)

/- THE SECOND FORM. 'bulk': how many values and letters a reading holds, each counted each time it is reached (what is shared counts as often as it is met; a slice's spare places count too). A statement '..UptoSaid' is the law's where the arguments, and the package variables that the reading takes, are together of bulk at most 1048576: NARROWER than '..Said'. Prove '..Said' where nothing that the law and all that it calls make is longer than what came in: it says more and counts as full. Else prove '..UptoSaid'. A law counts once. -/
mutual
def uptoBulk {H : Type} : DataW H → Nat
  | .lit (.string bytes) => bytes.length + 1
  | .lit _ => 1
  | .nil => 1
  | .ptr d => uptoBulk d + 1
  | .slice elems spare => uptoBulkAll elems + uptoBulkAll spare + 1
  | .agg parts => uptoBulkAll parts + 1
  | .iface _ d => uptoBulk d + 1
  | .map entries => uptoBulkEntries entries + 1
  | .held _ => 1
def uptoBulkAll {H : Type} : List (DataW H) → Nat
  | [] => 0
  | d :: r => uptoBulk d + uptoBulkAll r
def uptoBulkEntries {H : Type} : List (Lit × DataW H) → Nat
  | [] => 0
  | x :: r => uptoBulkEntry x + uptoBulkEntries r
def uptoBulkEntry {H : Type} : Lit × DataW H → Nat
  | (.string bytes, d) => bytes.length + uptoBulk d + 1
  | (_, d) => uptoBulk d + 1
 end
def uptoSmall : (H : Type) → List (DataW H) → Bool := fun _ ds => decide (uptoBulkAll ds ≤ 1048576)
def OpenSpec.upto (s : _root_.Go.ChangeSpec) : _root_.Go.OpenSpec := { _root_.Go.OpenSpec.ofChange s with cond := some uptoSmall }

/-- 'signetlaw1.HashSums', WHERE WHAT IT READS IS OF BULK AT MOST 1048576: true; the input reads as it did. -/
def hashSumsUptoRow : OpenClaim := { program := "ytnnkmoaipcdhnaadoor", sum := "e632014b615905e7a18e0e3a375d4f10fa32f615edd0d66d2e89972d7ee1291c", func := "signet/signetlaw1.HashSums", spec := "hashSums", named := ["signet/hash.rounds"], apart := false, laid := [("signet/hash.rounds", laid_signet_hash_rounds)], narrowed := true }
def HashSumsUptoSaid : Prop := hashSumsUptoRow.holds Tryd.pinned (OpenSpec.upto hashSumsSpec)

/-- 'signetlaw1.HashShorts', WHERE WHAT IT READS IS OF BULK AT MOST 1048576: true; the input reads as it did. -/
def hashShortsUptoRow : OpenClaim := { program := "ytnnkmoaipcdhnaadoor", sum := "e632014b615905e7a18e0e3a375d4f10fa32f615edd0d66d2e89972d7ee1291c", func := "signet/signetlaw1.HashShorts", spec := "hashShorts", named := ["signet/hash.rounds"], apart := false, laid := [("signet/hash.rounds", laid_signet_hash_rounds)], narrowed := true }
def HashShortsUptoSaid : Prop := hashShortsUptoRow.holds Tryd.pinned (OpenSpec.upto hashShortsSpec)

/-- 'signetlaw1.HashParts', WHERE WHAT IT READS IS OF BULK AT MOST 1048576: true; the input reads as it did. -/
def hashPartsUptoRow : OpenClaim := { program := "ytnnkmoaipcdhnaadoor", sum := "e632014b615905e7a18e0e3a375d4f10fa32f615edd0d66d2e89972d7ee1291c", func := "signet/signetlaw1.HashParts", spec := "hashParts", named := ["signet/hash.rounds"], apart := false, laid := [("signet/hash.rounds", laid_signet_hash_rounds)], narrowed := true }
def HashPartsUptoSaid : Prop := hashPartsUptoRow.holds Tryd.pinned (OpenSpec.upto hashPartsSpec)

/-- 'signetlaw1.HashLengths', WHERE WHAT IT READS IS OF BULK AT MOST 1048576: true; the input reads as it did. -/
def hashLengthsUptoRow : OpenClaim := { program := "ytnnkmoaipcdhnaadoor", sum := "e632014b615905e7a18e0e3a375d4f10fa32f615edd0d66d2e89972d7ee1291c", func := "signet/signetlaw1.HashLengths", spec := "hashLengths", named := ["signet/hash.rounds"], apart := false, laid := [("signet/hash.rounds", laid_signet_hash_rounds)], narrowed := true }
def HashLengthsUptoSaid : Prop := hashLengthsUptoRow.holds Tryd.pinned (OpenSpec.upto hashLengthsSpec)

/-- 'signetlaw7.OnceSigns', WHERE WHAT IT READS IS OF BULK AT MOST 1048576: true; the input reads as it did. -/
def onceSignsUptoRow : OpenClaim := { program := "ytnnkmoaipcdhnaadoor", sum := "e632014b615905e7a18e0e3a375d4f10fa32f615edd0d66d2e89972d7ee1291c", func := "signet/signetlaw7.OnceSigns", spec := "onceSigns", named := ["signet/hash.rounds"], apart := false, laid := [("signet/hash.rounds", laid_signet_hash_rounds)], narrowed := true }
def OnceSignsUptoSaid : Prop := onceSignsUptoRow.holds Tryd.pinned (OpenSpec.upto onceSignsSpec)

/-- 'signetlaw7.OnceOpens', WHERE WHAT IT READS IS OF BULK AT MOST 1048576: true; the input reads as it did. -/
def onceOpensUptoRow : OpenClaim := { program := "ytnnkmoaipcdhnaadoor", sum := "e632014b615905e7a18e0e3a375d4f10fa32f615edd0d66d2e89972d7ee1291c", func := "signet/signetlaw7.OnceOpens", spec := "onceOpens", named := ["signet/hash.rounds"], apart := false, laid := [("signet/hash.rounds", laid_signet_hash_rounds)], narrowed := true }
def OnceOpensUptoSaid : Prop := onceOpensUptoRow.holds Tryd.pinned (OpenSpec.upto onceOpensSpec)

/-- 'signetlaw7.OnceOther', WHERE WHAT IT READS IS OF BULK AT MOST 1048576: true; the input reads as it did. -/
def onceOtherUptoRow : OpenClaim := { program := "ytnnkmoaipcdhnaadoor", sum := "e632014b615905e7a18e0e3a375d4f10fa32f615edd0d66d2e89972d7ee1291c", func := "signet/signetlaw7.OnceOther", spec := "onceOther", named := ["signet/hash.rounds"], apart := false, laid := [("signet/hash.rounds", laid_signet_hash_rounds)], narrowed := true }
def OnceOtherUptoSaid : Prop := onceOtherUptoRow.holds Tryd.pinned (OpenSpec.upto onceOtherSpec)

/-- 'signetlaw7.OnceKeys', WHERE WHAT IT READS IS OF BULK AT MOST 1048576: true; the input reads as it did. -/
def onceKeysUptoRow : OpenClaim := { program := "ytnnkmoaipcdhnaadoor", sum := "e632014b615905e7a18e0e3a375d4f10fa32f615edd0d66d2e89972d7ee1291c", func := "signet/signetlaw7.OnceKeys", spec := "onceKeys", named := ["signet/hash.rounds"], apart := false, laid := [("signet/hash.rounds", laid_signet_hash_rounds)], narrowed := true }
def OnceKeysUptoSaid : Prop := onceKeysUptoRow.holds Tryd.pinned (OpenSpec.upto onceKeysSpec)

/-- 'signetlaw9.DigestTags', WHERE WHAT IT READS IS OF BULK AT MOST 1048576: true; the input reads as it did. -/
def digestTagsUptoRow : OpenClaim := { program := "ytnnkmoaipcdhnaadoor", sum := "e632014b615905e7a18e0e3a375d4f10fa32f615edd0d66d2e89972d7ee1291c", func := "signet/signetlaw9.DigestTags", spec := "digestTags", named := ["signet/hash.rounds"], apart := false, laid := [("signet/hash.rounds", laid_signet_hash_rounds)], narrowed := true }
def DigestTagsUptoSaid : Prop := digestTagsUptoRow.holds Tryd.pinned (OpenSpec.upto digestTagsSpec)

/-- 'signetlaw9.DigestHashes', WHERE WHAT IT READS IS OF BULK AT MOST 1048576: true; the input reads as it did. -/
def digestHashesUptoRow : OpenClaim := { program := "ytnnkmoaipcdhnaadoor", sum := "e632014b615905e7a18e0e3a375d4f10fa32f615edd0d66d2e89972d7ee1291c", func := "signet/signetlaw9.DigestHashes", spec := "digestHashes", named := ["signet/hash.rounds"], apart := false, laid := [("signet/hash.rounds", laid_signet_hash_rounds)], narrowed := true }
def DigestHashesUptoSaid : Prop := digestHashesUptoRow.holds Tryd.pinned (OpenSpec.upto digestHashesSpec)

/-- 'signetlaw9.DigestGreat', WHERE WHAT IT READS IS OF BULK AT MOST 1048576: true; the input reads as it did. -/
def digestGreatUptoRow : OpenClaim := { program := "ytnnkmoaipcdhnaadoor", sum := "e632014b615905e7a18e0e3a375d4f10fa32f615edd0d66d2e89972d7ee1291c", func := "signet/signetlaw9.DigestGreat", spec := "digestGreat", named := ["signet/hash.rounds"], apart := false, laid := [("signet/hash.rounds", laid_signet_hash_rounds)], narrowed := true }
def DigestGreatUptoSaid : Prop := digestGreatUptoRow.holds Tryd.pinned (OpenSpec.upto digestGreatSpec)

/-- 'signetlaw9.DigestKeys', WHERE WHAT IT READS IS OF BULK AT MOST 1048576: true; the input reads as it did. -/
def digestKeysUptoRow : OpenClaim := { program := "ytnnkmoaipcdhnaadoor", sum := "e632014b615905e7a18e0e3a375d4f10fa32f615edd0d66d2e89972d7ee1291c", func := "signet/signetlaw9.DigestKeys", spec := "digestKeys", named := ["signet/hash.rounds"], apart := false, laid := [("signet/hash.rounds", laid_signet_hash_rounds)], narrowed := true }
def DigestKeysUptoSaid : Prop := digestKeysUptoRow.holds Tryd.pinned (OpenSpec.upto digestKeysSpec)

/-- 'signetlaw8.TreeRoots', WHERE WHAT IT READS IS OF BULK AT MOST 1048576: true; the input reads as it did. -/
def treeRootsUptoRow : OpenClaim := { program := "ytnnkmoaipcdhnaadoor", sum := "e632014b615905e7a18e0e3a375d4f10fa32f615edd0d66d2e89972d7ee1291c", func := "signet/signetlaw8.TreeRoots", spec := "treeRoots", named := ["signet/hash.rounds"], apart := false, laid := [("signet/hash.rounds", laid_signet_hash_rounds)], narrowed := true }
def TreeRootsUptoSaid : Prop := treeRootsUptoRow.holds Tryd.pinned (OpenSpec.upto treeRootsSpec)

/-- 'signetlaw8.TreeSigns', WHERE WHAT IT READS IS OF BULK AT MOST 1048576: true; the input reads as it did. -/
def treeSignsUptoRow : OpenClaim := { program := "ytnnkmoaipcdhnaadoor", sum := "e632014b615905e7a18e0e3a375d4f10fa32f615edd0d66d2e89972d7ee1291c", func := "signet/signetlaw8.TreeSigns", spec := "treeSigns", named := ["signet/hash.rounds"], apart := false, laid := [("signet/hash.rounds", laid_signet_hash_rounds)], narrowed := true }
def TreeSignsUptoSaid : Prop := treeSignsUptoRow.holds Tryd.pinned (OpenSpec.upto treeSignsSpec)

/-- 'signetlaw8.TreeVerifies', WHERE WHAT IT READS IS OF BULK AT MOST 1048576: true; the input reads as it did. -/
def treeVerifiesUptoRow : OpenClaim := { program := "ytnnkmoaipcdhnaadoor", sum := "e632014b615905e7a18e0e3a375d4f10fa32f615edd0d66d2e89972d7ee1291c", func := "signet/signetlaw8.TreeVerifies", spec := "treeVerifies", named := ["signet/hash.rounds"], apart := false, laid := [("signet/hash.rounds", laid_signet_hash_rounds)], narrowed := true }
def TreeVerifiesUptoSaid : Prop := treeVerifiesUptoRow.holds Tryd.pinned (OpenSpec.upto treeVerifiesSpec)

/-- 'signetlaw8.TreeHeights', WHERE WHAT IT READS IS OF BULK AT MOST 1048576: true; the input reads as it did. -/
def treeHeightsUptoRow : OpenClaim := { program := "ytnnkmoaipcdhnaadoor", sum := "e632014b615905e7a18e0e3a375d4f10fa32f615edd0d66d2e89972d7ee1291c", func := "signet/signetlaw8.TreeHeights", spec := "treeHeights", named := ["signet/hash.rounds"], apart := false, laid := [("signet/hash.rounds", laid_signet_hash_rounds)], narrowed := true }
def TreeHeightsUptoSaid : Prop := treeHeightsUptoRow.holds Tryd.pinned (OpenSpec.upto treeHeightsSpec)

/-- 'signetlaw8.TreePaths', WHERE WHAT IT READS IS OF BULK AT MOST 1048576: true; the input reads as it did. -/
def treePathsUptoRow : OpenClaim := { program := "ytnnkmoaipcdhnaadoor", sum := "e632014b615905e7a18e0e3a375d4f10fa32f615edd0d66d2e89972d7ee1291c", func := "signet/signetlaw8.TreePaths", spec := "treePaths", named := ["signet/hash.rounds"], apart := false, laid := [("signet/hash.rounds", laid_signet_hash_rounds)], narrowed := true }
def TreePathsUptoSaid : Prop := treePathsUptoRow.holds Tryd.pinned (OpenSpec.upto treePathsSpec)

/-- 'signetlaw8.TreeSwaps', WHERE WHAT IT READS IS OF BULK AT MOST 1048576: true; the input reads as it did. -/
def treeSwapsUptoRow : OpenClaim := { program := "ytnnkmoaipcdhnaadoor", sum := "e632014b615905e7a18e0e3a375d4f10fa32f615edd0d66d2e89972d7ee1291c", func := "signet/signetlaw8.TreeSwaps", spec := "treeSwaps", named := ["signet/hash.rounds"], apart := false, laid := [("signet/hash.rounds", laid_signet_hash_rounds)], narrowed := true }
def TreeSwapsUptoSaid : Prop := treeSwapsUptoRow.holds Tryd.pinned (OpenSpec.upto treeSwapsSpec)

end Rows
end Go.Proofs.YtnnkmoaipcdhnaaDoor
