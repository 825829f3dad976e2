/-
  No cell of these rows narrows 'for every input' (looked for: loops, veiled, ifaces, maps, wideKeys, modest, calm, conditions, laid).
  DERIVED. THE GIVEN ROWS OF THIS SEAT. 12 by the template 'for every input the law returns true; each argument reads behind the call as it read before'; 0 by the template 'total and deterministic' (their statements: YtkcgfgokdpkfpaaTotals.lean).
  GIVEN WITH THE SEED: the statements are not yours to turn. If you find one false, say at which input.
  Laid BY PROGRAM, IN A SANDBOX (cutbox-rows.mjs): the forced cells as the released guide's own fill.sh prints them over the translation 217c64e05e9c9fcb… (all of the seat's roots in one cut). By AI agents, Wed Nov 11 2026. No macro, syntax, notation, axiom, sorry.
-/
import Derived.Test.YtkcgfgokdpkfpaaChecked
import GoSem.Claim
import GoSem.ClaimJoined
import GoSem.ClaimMapViews
import Derived.JoinedTies
import Derived.KernelRfl
namespace Go.Proofs.Ytkcgfgokdpkfpaa
/- THE CELL 'sum', in the pinned program and in every row, IS THE sha256 OF THE DUMP (.gsa) THAT YtkcgfgokdpkfpaaProg.lean LOADS. Nothing in Lean hashes anything: it is a label: what it is worth is what the hold of that sum in a sandbox is worth. -/
noncomputable def Try.pinned : Pinned := { name := "ytkcgfgokdpkfpaa", sum := "217c64e05e9c9fcb61604196a16d0c2a41066642533a2be3d7378fbc92e4ae76", checked := Try.checked }
namespace Rows
def none {H : Type} : Left H := { results := [], args := [] }

/-- 'laws.FnExactCountParts': WHATEVER THE INPUT: true; the input reads as it did. -/
def fnExactCountPartsSpec : ChangeSpec := { name := "fnExactCountParts", fn := fun _ => fun
  | [d] => { results := [.lit (.bool true)], args := [d] }
  | _ => none }
def fnExactCountPartsRow : OpenClaim := { program := "ytkcgfgokdpkfpaa", sum := "217c64e05e9c9fcb61604196a16d0c2a41066642533a2be3d7378fbc92e4ae76", func := "loop.example/g03100/laws.FnExactCountParts", spec := "fnExactCountParts", apart := false }
def FnExactCountPartsSaid : Prop := fnExactCountPartsRow.holds Try.pinned (OpenSpec.ofChange fnExactCountPartsSpec)

/-- ITS FALSE NEIGHBOUR: 'it returns false'. Refute it at one input. -/
def fnExactCountPartsWrong : ChangeSpec := { name := "fnExactCountParts", fn := fun _ => fun
  | [d] => { results := [.lit (.bool false)], args := [d] }
  | _ => none }
def FnExactCountPartsWrongFalsely : Prop := fnExactCountPartsRow.holds Try.pinned (OpenSpec.ofChange fnExactCountPartsWrong)

/-- 'laws.FnExactCoversOf': WHATEVER THE INPUT: true; the input reads as it did. -/
def fnExactCoversOfSpec : ChangeSpec := { name := "fnExactCoversOf", fn := fun _ => fun
  | [d1, d2] => { results := [.lit (.bool true)], args := [d1, d2] }
  | _ => none }
def fnExactCoversOfRow : OpenClaim := { program := "ytkcgfgokdpkfpaa", sum := "217c64e05e9c9fcb61604196a16d0c2a41066642533a2be3d7378fbc92e4ae76", func := "loop.example/g03100/laws.FnExactCoversOf", spec := "fnExactCoversOf", unfollowed := true, recurses := true, apart := false }
def FnExactCoversOfSaid : Prop := fnExactCoversOfRow.holds Try.pinned (OpenSpec.ofChange fnExactCoversOfSpec)

/-- ITS FALSE NEIGHBOUR: 'it returns false'. Refute it at one input. -/
def fnExactCoversOfWrong : ChangeSpec := { name := "fnExactCoversOf", fn := fun _ => fun
  | [d1, d2] => { results := [.lit (.bool false)], args := [d1, d2] }
  | _ => none }
def FnExactCoversOfWrongFalsely : Prop := fnExactCoversOfRow.holds Try.pinned (OpenSpec.ofChange fnExactCoversOfWrong)

/-- 'laws.FnExactFromMissing': WHATEVER THE INPUT: true; the input reads as it did. -/
def fnExactFromMissingSpec : ChangeSpec := { name := "fnExactFromMissing", fn := fun _ => fun
  | [d1, d2] => { results := [.lit (.bool true)], args := [d1, d2] }
  | _ => none }
def fnExactFromMissingRow : OpenClaim := { program := "ytkcgfgokdpkfpaa", sum := "217c64e05e9c9fcb61604196a16d0c2a41066642533a2be3d7378fbc92e4ae76", func := "loop.example/g03100/laws.FnExactFromMissing", spec := "fnExactFromMissing", unfollowed := true, recurses := true, apart := false }
def FnExactFromMissingSaid : Prop := fnExactFromMissingRow.holds Try.pinned (OpenSpec.ofChange fnExactFromMissingSpec)

/-- ITS FALSE NEIGHBOUR: 'it returns false'. Refute it at one input. -/
def fnExactFromMissingWrong : ChangeSpec := { name := "fnExactFromMissing", fn := fun _ => fun
  | [d1, d2] => { results := [.lit (.bool false)], args := [d1, d2] }
  | _ => none }
def FnExactFromMissingWrongFalsely : Prop := fnExactFromMissingRow.holds Try.pinned (OpenSpec.ofChange fnExactFromMissingWrong)

/-- 'laws.FnExactGreatestMissing': WHATEVER THE INPUT: true; the input reads as it did. -/
def fnExactGreatestMissingSpec : ChangeSpec := { name := "fnExactGreatestMissing", fn := fun _ => fun
  | [d] => { results := [.lit (.bool true)], args := [d] }
  | _ => none }
def fnExactGreatestMissingRow : OpenClaim := { program := "ytkcgfgokdpkfpaa", sum := "217c64e05e9c9fcb61604196a16d0c2a41066642533a2be3d7378fbc92e4ae76", func := "loop.example/g03100/laws.FnExactGreatestMissing", spec := "fnExactGreatestMissing", unfollowed := true, recurses := true, apart := false }
def FnExactGreatestMissingSaid : Prop := fnExactGreatestMissingRow.holds Try.pinned (OpenSpec.ofChange fnExactGreatestMissingSpec)

/-- ITS FALSE NEIGHBOUR: 'it returns false'. Refute it at one input. -/
def fnExactGreatestMissingWrong : ChangeSpec := { name := "fnExactGreatestMissing", fn := fun _ => fun
  | [d] => { results := [.lit (.bool false)], args := [d] }
  | _ => none }
def FnExactGreatestMissingWrongFalsely : Prop := fnExactGreatestMissingRow.holds Try.pinned (OpenSpec.ofChange fnExactGreatestMissingWrong)

/-- 'laws.FnExactMissingSets': WHATEVER THE INPUT: true; the input reads as it did. -/
def fnExactMissingSetsSpec : ChangeSpec := { name := "fnExactMissingSets", fn := fun _ => fun
  | [d] => { results := [.lit (.bool true)], args := [d] }
  | _ => none }
def fnExactMissingSetsRow : OpenClaim := { program := "ytkcgfgokdpkfpaa", sum := "217c64e05e9c9fcb61604196a16d0c2a41066642533a2be3d7378fbc92e4ae76", func := "loop.example/g03100/laws.FnExactMissingSets", spec := "fnExactMissingSets", unfollowed := true, recurses := true, apart := false }
def FnExactMissingSetsSaid : Prop := fnExactMissingSetsRow.holds Try.pinned (OpenSpec.ofChange fnExactMissingSetsSpec)

/-- ITS FALSE NEIGHBOUR: 'it returns false'. Refute it at one input. -/
def fnExactMissingSetsWrong : ChangeSpec := { name := "fnExactMissingSets", fn := fun _ => fun
  | [d] => { results := [.lit (.bool false)], args := [d] }
  | _ => none }
def FnExactMissingSetsWrongFalsely : Prop := fnExactMissingSetsRow.holds Try.pinned (OpenSpec.ofChange fnExactMissingSetsWrong)

/-- 'laws.FnExactIsFlag': WHATEVER THE INPUT: true; the input reads as it did. -/
def fnExactIsFlagSpec : ChangeSpec := { name := "fnExactIsFlag", fn := fun _ => fun
  | [d] => { results := [.lit (.bool true)], args := [d] }
  | _ => none }
def fnExactIsFlagRow : OpenClaim := { program := "ytkcgfgokdpkfpaa", sum := "217c64e05e9c9fcb61604196a16d0c2a41066642533a2be3d7378fbc92e4ae76", func := "loop.example/g03100/laws.FnExactIsFlag", spec := "fnExactIsFlag", unfollowed := true, recurses := true, apart := false }
def FnExactIsFlagSaid : Prop := fnExactIsFlagRow.holds Try.pinned (OpenSpec.ofChange fnExactIsFlagSpec)

/-- ITS FALSE NEIGHBOUR: 'it returns false'. Refute it at one input. -/
def fnExactIsFlagWrong : ChangeSpec := { name := "fnExactIsFlag", fn := fun _ => fun
  | [d] => { results := [.lit (.bool false)], args := [d] }
  | _ => none }
def FnExactIsFlagWrongFalsely : Prop := fnExactIsFlagRow.holds Try.pinned (OpenSpec.ofChange fnExactIsFlagWrong)

/-- 'laws.FnExactCompleteUpTo': WHATEVER THE INPUT: true; the input reads as it did. -/
def fnExactCompleteUpToSpec : ChangeSpec := { name := "fnExactCompleteUpTo", fn := fun _ => fun
  | [d] => { results := [.lit (.bool true)], args := [d] }
  | _ => none }
def fnExactCompleteUpToRow : OpenClaim := { program := "ytkcgfgokdpkfpaa", sum := "217c64e05e9c9fcb61604196a16d0c2a41066642533a2be3d7378fbc92e4ae76", func := "loop.example/g03100/laws.FnExactCompleteUpTo", spec := "fnExactCompleteUpTo", unfollowed := true, recurses := true, apart := false }
def FnExactCompleteUpToSaid : Prop := fnExactCompleteUpToRow.holds Try.pinned (OpenSpec.ofChange fnExactCompleteUpToSpec)

/-- ITS FALSE NEIGHBOUR: 'it returns false'. Refute it at one input. -/
def fnExactCompleteUpToWrong : ChangeSpec := { name := "fnExactCompleteUpTo", fn := fun _ => fun
  | [d] => { results := [.lit (.bool false)], args := [d] }
  | _ => none }
def FnExactCompleteUpToWrongFalsely : Prop := fnExactCompleteUpToRow.holds Try.pinned (OpenSpec.ofChange fnExactCompleteUpToWrong)

/-- 'laws.FnExactSuspensionOf': WHATEVER THE INPUT: true; the input reads as it did. -/
def fnExactSuspensionOfSpec : ChangeSpec := { name := "fnExactSuspensionOf", fn := fun _ => fun
  | [d] => { results := [.lit (.bool true)], args := [d] }
  | _ => none }
def fnExactSuspensionOfRow : OpenClaim := { program := "ytkcgfgokdpkfpaa", sum := "217c64e05e9c9fcb61604196a16d0c2a41066642533a2be3d7378fbc92e4ae76", func := "loop.example/g03100/laws.FnExactSuspensionOf", spec := "fnExactSuspensionOf", apart := false }
def FnExactSuspensionOfSaid : Prop := fnExactSuspensionOfRow.holds Try.pinned (OpenSpec.ofChange fnExactSuspensionOfSpec)

/-- ITS FALSE NEIGHBOUR: 'it returns false'. Refute it at one input. -/
def fnExactSuspensionOfWrong : ChangeSpec := { name := "fnExactSuspensionOf", fn := fun _ => fun
  | [d] => { results := [.lit (.bool false)], args := [d] }
  | _ => none }
def FnExactSuspensionOfWrongFalsely : Prop := fnExactSuspensionOfRow.holds Try.pinned (OpenSpec.ofChange fnExactSuspensionOfWrong)

/-- 'laws.FnExactDualOf': WHATEVER THE INPUT: true; the input reads as it did. -/
def fnExactDualOfSpec : ChangeSpec := { name := "fnExactDualOf", fn := fun _ => fun
  | [d] => { results := [.lit (.bool true)], args := [d] }
  | _ => none }
def fnExactDualOfRow : OpenClaim := { program := "ytkcgfgokdpkfpaa", sum := "217c64e05e9c9fcb61604196a16d0c2a41066642533a2be3d7378fbc92e4ae76", func := "loop.example/g03100/laws.FnExactDualOf", spec := "fnExactDualOf", unfollowed := true, recurses := true, apart := false }
def FnExactDualOfSaid : Prop := fnExactDualOfRow.holds Try.pinned (OpenSpec.ofChange fnExactDualOfSpec)

/-- ITS FALSE NEIGHBOUR: 'it returns false'. Refute it at one input. -/
def fnExactDualOfWrong : ChangeSpec := { name := "fnExactDualOf", fn := fun _ => fun
  | [d] => { results := [.lit (.bool false)], args := [d] }
  | _ => none }
def FnExactDualOfWrongFalsely : Prop := fnExactDualOfRow.holds Try.pinned (OpenSpec.ofChange fnExactDualOfWrong)

/-- 'laws.FnExactIsSelfDual': WHATEVER THE INPUT: true; the input reads as it did. -/
def fnExactIsSelfDualSpec : ChangeSpec := { name := "fnExactIsSelfDual", fn := fun _ => fun
  | [d] => { results := [.lit (.bool true)], args := [d] }
  | _ => none }
def fnExactIsSelfDualRow : OpenClaim := { program := "ytkcgfgokdpkfpaa", sum := "217c64e05e9c9fcb61604196a16d0c2a41066642533a2be3d7378fbc92e4ae76", func := "loop.example/g03100/laws.FnExactIsSelfDual", spec := "fnExactIsSelfDual", unfollowed := true, recurses := true, apart := false }
def FnExactIsSelfDualSaid : Prop := fnExactIsSelfDualRow.holds Try.pinned (OpenSpec.ofChange fnExactIsSelfDualSpec)

/-- ITS FALSE NEIGHBOUR: 'it returns false'. Refute it at one input. -/
def fnExactIsSelfDualWrong : ChangeSpec := { name := "fnExactIsSelfDual", fn := fun _ => fun
  | [d] => { results := [.lit (.bool false)], args := [d] }
  | _ => none }
def FnExactIsSelfDualWrongFalsely : Prop := fnExactIsSelfDualRow.holds Try.pinned (OpenSpec.ofChange fnExactIsSelfDualWrong)

/-- 'laws.FnExactFlagOf': WHATEVER THE INPUT: true; the input reads as it did. -/
def fnExactFlagOfSpec : ChangeSpec := { name := "fnExactFlagOf", fn := fun _ => fun
  | [d] => { results := [.lit (.bool true)], args := [d] }
  | _ => none }
def fnExactFlagOfRow : OpenClaim := { program := "ytkcgfgokdpkfpaa", sum := "217c64e05e9c9fcb61604196a16d0c2a41066642533a2be3d7378fbc92e4ae76", func := "loop.example/g03100/laws.FnExactFlagOf", spec := "fnExactFlagOf", unfollowed := true, recurses := true, apart := false }
def FnExactFlagOfSaid : Prop := fnExactFlagOfRow.holds Try.pinned (OpenSpec.ofChange fnExactFlagOfSpec)

/-- ITS FALSE NEIGHBOUR: 'it returns false'. Refute it at one input. -/
def fnExactFlagOfWrong : ChangeSpec := { name := "fnExactFlagOf", fn := fun _ => fun
  | [d] => { results := [.lit (.bool false)], args := [d] }
  | _ => none }
def FnExactFlagOfWrongFalsely : Prop := fnExactFlagOfRow.holds Try.pinned (OpenSpec.ofChange fnExactFlagOfWrong)

/-- 'laws.FnExactCompressedComplex': WHATEVER THE INPUT: true; the input reads as it did. -/
def fnExactCompressedComplexSpec : ChangeSpec := { name := "fnExactCompressedComplex", fn := fun _ => fun
  | [d] => { results := [.lit (.bool true)], args := [d] }
  | _ => none }
def fnExactCompressedComplexRow : OpenClaim := { program := "ytkcgfgokdpkfpaa", sum := "217c64e05e9c9fcb61604196a16d0c2a41066642533a2be3d7378fbc92e4ae76", func := "loop.example/g03100/laws.FnExactCompressedComplex", spec := "fnExactCompressedComplex", apart := false }
def FnExactCompressedComplexSaid : Prop := fnExactCompressedComplexRow.holds Try.pinned (OpenSpec.ofChange fnExactCompressedComplexSpec)

/-- ITS FALSE NEIGHBOUR: 'it returns false'. Refute it at one input. -/
def fnExactCompressedComplexWrong : ChangeSpec := { name := "fnExactCompressedComplex", fn := fun _ => fun
  | [d] => { results := [.lit (.bool false)], args := [d] }
  | _ => none }
def FnExactCompressedComplexWrongFalsely : Prop := fnExactCompressedComplexRow.holds Try.pinned (OpenSpec.ofChange fnExactCompressedComplexWrong)

/- THE SECOND FORM. 'bulk': how many values and letters a reading holds, each counted each time it is reached (what is shared counts as often as it is met; a slice's spare places count too). A statement '..UptoSaid' is the law's where the arguments, and the package variables that the reading takes, are together of bulk at most 1048576: NARROWER than '..Said'. Prove '..Said' where nothing that the law and all that it calls make is longer than what came in: it says more and counts as full. Else prove '..UptoSaid'. A law counts once. -/
mutual
def uptoBulk {H : Type} : DataW H → Nat
  | .lit (.string bytes) => bytes.length + 1
  | .lit _ => 1
  | .nil => 1
  | .ptr d => uptoBulk d + 1
  | .slice elems spare => uptoBulkAll elems + uptoBulkAll spare + 1
  | .agg parts => uptoBulkAll parts + 1
  | .iface _ d => uptoBulk d + 1
  | .map entries => uptoBulkEntries entries + 1
  | .held _ => 1
def uptoBulkAll {H : Type} : List (DataW H) → Nat
  | [] => 0
  | d :: r => uptoBulk d + uptoBulkAll r
def uptoBulkEntries {H : Type} : List (Lit × DataW H) → Nat
  | [] => 0
  | x :: r => uptoBulkEntry x + uptoBulkEntries r
def uptoBulkEntry {H : Type} : Lit × DataW H → Nat
  | (.string bytes, d) => bytes.length + uptoBulk d + 1
  | (_, d) => uptoBulk d + 1
 end
def uptoSmall : (H : Type) → List (DataW H) → Bool := fun _ ds => decide (uptoBulkAll ds ≤ 1048576)
def OpenSpec.upto (s : _root_.Go.ChangeSpec) : _root_.Go.OpenSpec := { _root_.Go.OpenSpec.ofChange s with cond := some uptoSmall }

/-- 'laws.FnExactCountParts', WHERE WHAT IT READS IS OF BULK AT MOST 1048576: true; the input reads as it did. -/
def fnExactCountPartsUptoRow : OpenClaim := { program := "ytkcgfgokdpkfpaa", sum := "217c64e05e9c9fcb61604196a16d0c2a41066642533a2be3d7378fbc92e4ae76", func := "loop.example/g03100/laws.FnExactCountParts", spec := "fnExactCountParts", apart := false, narrowed := true }
def FnExactCountPartsUptoSaid : Prop := fnExactCountPartsUptoRow.holds Try.pinned (OpenSpec.upto fnExactCountPartsSpec)

/-- 'laws.FnExactCoversOf', WHERE WHAT IT READS IS OF BULK AT MOST 1048576: true; the input reads as it did. -/
def fnExactCoversOfUptoRow : OpenClaim := { program := "ytkcgfgokdpkfpaa", sum := "217c64e05e9c9fcb61604196a16d0c2a41066642533a2be3d7378fbc92e4ae76", func := "loop.example/g03100/laws.FnExactCoversOf", spec := "fnExactCoversOf", unfollowed := true, recurses := true, apart := false, narrowed := true }
def FnExactCoversOfUptoSaid : Prop := fnExactCoversOfUptoRow.holds Try.pinned (OpenSpec.upto fnExactCoversOfSpec)

/-- 'laws.FnExactFromMissing', WHERE WHAT IT READS IS OF BULK AT MOST 1048576: true; the input reads as it did. -/
def fnExactFromMissingUptoRow : OpenClaim := { program := "ytkcgfgokdpkfpaa", sum := "217c64e05e9c9fcb61604196a16d0c2a41066642533a2be3d7378fbc92e4ae76", func := "loop.example/g03100/laws.FnExactFromMissing", spec := "fnExactFromMissing", unfollowed := true, recurses := true, apart := false, narrowed := true }
def FnExactFromMissingUptoSaid : Prop := fnExactFromMissingUptoRow.holds Try.pinned (OpenSpec.upto fnExactFromMissingSpec)

/-- 'laws.FnExactGreatestMissing', WHERE WHAT IT READS IS OF BULK AT MOST 1048576: true; the input reads as it did. -/
def fnExactGreatestMissingUptoRow : OpenClaim := { program := "ytkcgfgokdpkfpaa", sum := "217c64e05e9c9fcb61604196a16d0c2a41066642533a2be3d7378fbc92e4ae76", func := "loop.example/g03100/laws.FnExactGreatestMissing", spec := "fnExactGreatestMissing", unfollowed := true, recurses := true, apart := false, narrowed := true }
def FnExactGreatestMissingUptoSaid : Prop := fnExactGreatestMissingUptoRow.holds Try.pinned (OpenSpec.upto fnExactGreatestMissingSpec)

/-- 'laws.FnExactMissingSets', WHERE WHAT IT READS IS OF BULK AT MOST 1048576: true; the input reads as it did. -/
def fnExactMissingSetsUptoRow : OpenClaim := { program := "ytkcgfgokdpkfpaa", sum := "217c64e05e9c9fcb61604196a16d0c2a41066642533a2be3d7378fbc92e4ae76", func := "loop.example/g03100/laws.FnExactMissingSets", spec := "fnExactMissingSets", unfollowed := true, recurses := true, apart := false, narrowed := true }
def FnExactMissingSetsUptoSaid : Prop := fnExactMissingSetsUptoRow.holds Try.pinned (OpenSpec.upto fnExactMissingSetsSpec)

/-- 'laws.FnExactIsFlag', WHERE WHAT IT READS IS OF BULK AT MOST 1048576: true; the input reads as it did. -/
def fnExactIsFlagUptoRow : OpenClaim := { program := "ytkcgfgokdpkfpaa", sum := "217c64e05e9c9fcb61604196a16d0c2a41066642533a2be3d7378fbc92e4ae76", func := "loop.example/g03100/laws.FnExactIsFlag", spec := "fnExactIsFlag", unfollowed := true, recurses := true, apart := false, narrowed := true }
def FnExactIsFlagUptoSaid : Prop := fnExactIsFlagUptoRow.holds Try.pinned (OpenSpec.upto fnExactIsFlagSpec)

/-- 'laws.FnExactCompleteUpTo', WHERE WHAT IT READS IS OF BULK AT MOST 1048576: true; the input reads as it did. -/
def fnExactCompleteUpToUptoRow : OpenClaim := { program := "ytkcgfgokdpkfpaa", sum := "217c64e05e9c9fcb61604196a16d0c2a41066642533a2be3d7378fbc92e4ae76", func := "loop.example/g03100/laws.FnExactCompleteUpTo", spec := "fnExactCompleteUpTo", unfollowed := true, recurses := true, apart := false, narrowed := true }
def FnExactCompleteUpToUptoSaid : Prop := fnExactCompleteUpToUptoRow.holds Try.pinned (OpenSpec.upto fnExactCompleteUpToSpec)

/-- 'laws.FnExactSuspensionOf', WHERE WHAT IT READS IS OF BULK AT MOST 1048576: true; the input reads as it did. -/
def fnExactSuspensionOfUptoRow : OpenClaim := { program := "ytkcgfgokdpkfpaa", sum := "217c64e05e9c9fcb61604196a16d0c2a41066642533a2be3d7378fbc92e4ae76", func := "loop.example/g03100/laws.FnExactSuspensionOf", spec := "fnExactSuspensionOf", apart := false, narrowed := true }
def FnExactSuspensionOfUptoSaid : Prop := fnExactSuspensionOfUptoRow.holds Try.pinned (OpenSpec.upto fnExactSuspensionOfSpec)

/-- 'laws.FnExactDualOf', WHERE WHAT IT READS IS OF BULK AT MOST 1048576: true; the input reads as it did. -/
def fnExactDualOfUptoRow : OpenClaim := { program := "ytkcgfgokdpkfpaa", sum := "217c64e05e9c9fcb61604196a16d0c2a41066642533a2be3d7378fbc92e4ae76", func := "loop.example/g03100/laws.FnExactDualOf", spec := "fnExactDualOf", unfollowed := true, recurses := true, apart := false, narrowed := true }
def FnExactDualOfUptoSaid : Prop := fnExactDualOfUptoRow.holds Try.pinned (OpenSpec.upto fnExactDualOfSpec)

/-- 'laws.FnExactIsSelfDual', WHERE WHAT IT READS IS OF BULK AT MOST 1048576: true; the input reads as it did. -/
def fnExactIsSelfDualUptoRow : OpenClaim := { program := "ytkcgfgokdpkfpaa", sum := "217c64e05e9c9fcb61604196a16d0c2a41066642533a2be3d7378fbc92e4ae76", func := "loop.example/g03100/laws.FnExactIsSelfDual", spec := "fnExactIsSelfDual", unfollowed := true, recurses := true, apart := false, narrowed := true }
def FnExactIsSelfDualUptoSaid : Prop := fnExactIsSelfDualUptoRow.holds Try.pinned (OpenSpec.upto fnExactIsSelfDualSpec)

/-- 'laws.FnExactFlagOf', WHERE WHAT IT READS IS OF BULK AT MOST 1048576: true; the input reads as it did. -/
def fnExactFlagOfUptoRow : OpenClaim := { program := "ytkcgfgokdpkfpaa", sum := "217c64e05e9c9fcb61604196a16d0c2a41066642533a2be3d7378fbc92e4ae76", func := "loop.example/g03100/laws.FnExactFlagOf", spec := "fnExactFlagOf", unfollowed := true, recurses := true, apart := false, narrowed := true }
def FnExactFlagOfUptoSaid : Prop := fnExactFlagOfUptoRow.holds Try.pinned (OpenSpec.upto fnExactFlagOfSpec)

/-- 'laws.FnExactCompressedComplex', WHERE WHAT IT READS IS OF BULK AT MOST 1048576: true; the input reads as it did. -/
def fnExactCompressedComplexUptoRow : OpenClaim := { program := "ytkcgfgokdpkfpaa", sum := "217c64e05e9c9fcb61604196a16d0c2a41066642533a2be3d7378fbc92e4ae76", func := "loop.example/g03100/laws.FnExactCompressedComplex", spec := "fnExactCompressedComplex", apart := false, narrowed := true }
def FnExactCompressedComplexUptoSaid : Prop := fnExactCompressedComplexUptoRow.holds Try.pinned (OpenSpec.upto fnExactCompressedComplexSpec)

end Rows
end Go.Proofs.Ytkcgfgokdpkfpaa
