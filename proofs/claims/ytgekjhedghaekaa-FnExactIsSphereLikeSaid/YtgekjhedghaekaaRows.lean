/-
  No cell of these rows narrows 'for every input' (looked for: loops, veiled, ifaces, maps, wideKeys, modest, calm, conditions, laid).
  DERIVED. THE GIVEN ROWS OF THIS SEAT. 12 by the template 'for every input the law returns true; each argument reads behind the call as it read before'; 0 by the template 'total and deterministic' (their statements: YtgekjhedghaekaaTotals.lean).
  GIVEN WITH THE SEED: the statements are not yours to turn. If you find one false, say at which input.
  Laid BY PROGRAM, IN A SANDBOX (cutbox-rows.mjs): the forced cells as the released guide's own fill.sh prints them over the translation 270bc3042fae8a1b… (all of the seat's roots in one cut). By AI agents, Wed Nov 11 2026. No macro, syntax, notation, axiom, sorry.
-/
import Derived.Test.YtgekjhedghaekaaChecked
import GoSem.Claim
import GoSem.ClaimJoined
import GoSem.ClaimMapViews
import Derived.JoinedTies
import Derived.KernelRfl
namespace Go.Proofs.Ytgekjhedghaekaa
/- THE CELL 'sum', in the pinned program and in every row, IS THE sha256 OF THE DUMP (.gsa) THAT YtgekjhedghaekaaProg.lean LOADS. Nothing in Lean hashes anything: it is a label: what it is worth is what the hold of that sum in a sandbox is worth. -/
noncomputable def Try.pinned : Pinned := { name := "ytgekjhedghaekaa", sum := "270bc3042fae8a1bbe474a1211558406c1ab7d0fb6020778f130b1d02fd283be", checked := Try.checked }
namespace Rows
def none {H : Type} : Left H := { results := [], args := [] }

/-- 'laws.FnExactSuspensionOf': WHATEVER THE INPUT: true; the input reads as it did. -/
def fnExactSuspensionOfSpec : ChangeSpec := { name := "fnExactSuspensionOf", fn := fun _ => fun
  | [d] => { results := [.lit (.bool true)], args := [d] }
  | _ => none }
def fnExactSuspensionOfRow : OpenClaim := { program := "ytgekjhedghaekaa", sum := "270bc3042fae8a1bbe474a1211558406c1ab7d0fb6020778f130b1d02fd283be", func := "loop.example/g03100/laws.FnExactSuspensionOf", spec := "fnExactSuspensionOf", apart := false }
def FnExactSuspensionOfSaid : Prop := fnExactSuspensionOfRow.holds Try.pinned (OpenSpec.ofChange fnExactSuspensionOfSpec)

/-- ITS FALSE NEIGHBOUR: 'it returns false'. Refute it at one input. -/
def fnExactSuspensionOfWrong : ChangeSpec := { name := "fnExactSuspensionOf", fn := fun _ => fun
  | [d] => { results := [.lit (.bool false)], args := [d] }
  | _ => none }
def FnExactSuspensionOfWrongFalsely : Prop := fnExactSuspensionOfRow.holds Try.pinned (OpenSpec.ofChange fnExactSuspensionOfWrong)

/-- 'laws.FnExactCountParts': WHATEVER THE INPUT: true; the input reads as it did. -/
def fnExactCountPartsSpec : ChangeSpec := { name := "fnExactCountParts", fn := fun _ => fun
  | [d] => { results := [.lit (.bool true)], args := [d] }
  | _ => none }
def fnExactCountPartsRow : OpenClaim := { program := "ytgekjhedghaekaa", sum := "270bc3042fae8a1bbe474a1211558406c1ab7d0fb6020778f130b1d02fd283be", func := "loop.example/g03100/laws.FnExactCountParts", spec := "fnExactCountParts", apart := false }
def FnExactCountPartsSaid : Prop := fnExactCountPartsRow.holds Try.pinned (OpenSpec.ofChange fnExactCountPartsSpec)

/-- ITS FALSE NEIGHBOUR: 'it returns false'. Refute it at one input. -/
def fnExactCountPartsWrong : ChangeSpec := { name := "fnExactCountParts", fn := fun _ => fun
  | [d] => { results := [.lit (.bool false)], args := [d] }
  | _ => none }
def FnExactCountPartsWrongFalsely : Prop := fnExactCountPartsRow.holds Try.pinned (OpenSpec.ofChange fnExactCountPartsWrong)

/-- 'laws.FnExactCompressedComplex': WHATEVER THE INPUT: true; the input reads as it did. -/
def fnExactCompressedComplexSpec : ChangeSpec := { name := "fnExactCompressedComplex", fn := fun _ => fun
  | [d] => { results := [.lit (.bool true)], args := [d] }
  | _ => none }
def fnExactCompressedComplexRow : OpenClaim := { program := "ytgekjhedghaekaa", sum := "270bc3042fae8a1bbe474a1211558406c1ab7d0fb6020778f130b1d02fd283be", func := "loop.example/g03100/laws.FnExactCompressedComplex", spec := "fnExactCompressedComplex", apart := false }
def FnExactCompressedComplexSaid : Prop := fnExactCompressedComplexRow.holds Try.pinned (OpenSpec.ofChange fnExactCompressedComplexSpec)

/-- ITS FALSE NEIGHBOUR: 'it returns false'. Refute it at one input. -/
def fnExactCompressedComplexWrong : ChangeSpec := { name := "fnExactCompressedComplex", fn := fun _ => fun
  | [d] => { results := [.lit (.bool false)], args := [d] }
  | _ => none }
def FnExactCompressedComplexWrongFalsely : Prop := fnExactCompressedComplexRow.holds Try.pinned (OpenSpec.ofChange fnExactCompressedComplexWrong)

/-- 'laws.FnExactTopH': WHATEVER THE INPUT: true; the input reads as it did. -/
def fnExactTopHSpec : ChangeSpec := { name := "fnExactTopH", fn := fun _ => fun
  | [d] => { results := [.lit (.bool true)], args := [d] }
  | _ => none }
def fnExactTopHRow : OpenClaim := { program := "ytgekjhedghaekaa", sum := "270bc3042fae8a1bbe474a1211558406c1ab7d0fb6020778f130b1d02fd283be", func := "loop.example/g03100/laws.FnExactTopH", spec := "fnExactTopH", apart := false }
def FnExactTopHSaid : Prop := fnExactTopHRow.holds Try.pinned (OpenSpec.ofChange fnExactTopHSpec)

/-- ITS FALSE NEIGHBOUR: 'it returns false'. Refute it at one input. -/
def fnExactTopHWrong : ChangeSpec := { name := "fnExactTopH", fn := fun _ => fun
  | [d] => { results := [.lit (.bool false)], args := [d] }
  | _ => none }
def FnExactTopHWrongFalsely : Prop := fnExactTopHRow.holds Try.pinned (OpenSpec.ofChange fnExactTopHWrong)

/-- 'laws.FnExactHNumbers': WHATEVER THE INPUT: true; the input reads as it did. -/
def fnExactHNumbersSpec : ChangeSpec := { name := "fnExactHNumbers", fn := fun _ => fun
  | [d] => { results := [.lit (.bool true)], args := [d] }
  | _ => none }
def fnExactHNumbersRow : OpenClaim := { program := "ytgekjhedghaekaa", sum := "270bc3042fae8a1bbe474a1211558406c1ab7d0fb6020778f130b1d02fd283be", func := "loop.example/g03100/laws.FnExactHNumbers", spec := "fnExactHNumbers", apart := false }
def FnExactHNumbersSaid : Prop := fnExactHNumbersRow.holds Try.pinned (OpenSpec.ofChange fnExactHNumbersSpec)

/-- ITS FALSE NEIGHBOUR: 'it returns false'. Refute it at one input. -/
def fnExactHNumbersWrong : ChangeSpec := { name := "fnExactHNumbers", fn := fun _ => fun
  | [d] => { results := [.lit (.bool false)], args := [d] }
  | _ => none }
def FnExactHNumbersWrongFalsely : Prop := fnExactHNumbersRow.holds Try.pinned (OpenSpec.ofChange fnExactHNumbersWrong)

/-- 'laws.FnExactGNumbers': WHATEVER THE INPUT: true; the input reads as it did. -/
def fnExactGNumbersSpec : ChangeSpec := { name := "fnExactGNumbers", fn := fun _ => fun
  | [d] => { results := [.lit (.bool true)], args := [d] }
  | _ => none }
def fnExactGNumbersRow : OpenClaim := { program := "ytgekjhedghaekaa", sum := "270bc3042fae8a1bbe474a1211558406c1ab7d0fb6020778f130b1d02fd283be", func := "loop.example/g03100/laws.FnExactGNumbers", spec := "fnExactGNumbers", apart := false }
def FnExactGNumbersSaid : Prop := fnExactGNumbersRow.holds Try.pinned (OpenSpec.ofChange fnExactGNumbersSpec)

/-- ITS FALSE NEIGHBOUR: 'it returns false'. Refute it at one input. -/
def fnExactGNumbersWrong : ChangeSpec := { name := "fnExactGNumbers", fn := fun _ => fun
  | [d] => { results := [.lit (.bool false)], args := [d] }
  | _ => none }
def FnExactGNumbersWrongFalsely : Prop := fnExactGNumbersRow.holds Try.pinned (OpenSpec.ofChange fnExactGNumbersWrong)

/-- 'laws.FnExactIsSymmetricH': WHATEVER THE INPUT: true; the input reads as it did. -/
def fnExactIsSymmetricHSpec : ChangeSpec := { name := "fnExactIsSymmetricH", fn := fun _ => fun
  | [d] => { results := [.lit (.bool true)], args := [d] }
  | _ => none }
def fnExactIsSymmetricHRow : OpenClaim := { program := "ytgekjhedghaekaa", sum := "270bc3042fae8a1bbe474a1211558406c1ab7d0fb6020778f130b1d02fd283be", func := "loop.example/g03100/laws.FnExactIsSymmetricH", spec := "fnExactIsSymmetricH", apart := false }
def FnExactIsSymmetricHSaid : Prop := fnExactIsSymmetricHRow.holds Try.pinned (OpenSpec.ofChange fnExactIsSymmetricHSpec)

/-- ITS FALSE NEIGHBOUR: 'it returns false'. Refute it at one input. -/
def fnExactIsSymmetricHWrong : ChangeSpec := { name := "fnExactIsSymmetricH", fn := fun _ => fun
  | [d] => { results := [.lit (.bool false)], args := [d] }
  | _ => none }
def FnExactIsSymmetricHWrongFalsely : Prop := fnExactIsSymmetricHRow.holds Try.pinned (OpenSpec.ofChange fnExactIsSymmetricHWrong)

/-- 'laws.FnExactBorderMatrix': WHATEVER THE INPUT: true; the input reads as it did. -/
def fnExactBorderMatrixSpec : ChangeSpec := { name := "fnExactBorderMatrix", fn := fun _ => fun
  | [d1, d2] => { results := [.lit (.bool true)], args := [d1, d2] }
  | _ => none }
def fnExactBorderMatrixRow : OpenClaim := { program := "ytgekjhedghaekaa", sum := "270bc3042fae8a1bbe474a1211558406c1ab7d0fb6020778f130b1d02fd283be", func := "loop.example/g03100/laws.FnExactBorderMatrix", spec := "fnExactBorderMatrix", apart := false }
def FnExactBorderMatrixSaid : Prop := fnExactBorderMatrixRow.holds Try.pinned (OpenSpec.ofChange fnExactBorderMatrixSpec)

/-- ITS FALSE NEIGHBOUR: 'it returns false'. Refute it at one input. -/
def fnExactBorderMatrixWrong : ChangeSpec := { name := "fnExactBorderMatrix", fn := fun _ => fun
  | [d1, d2] => { results := [.lit (.bool false)], args := [d1, d2] }
  | _ => none }
def FnExactBorderMatrixWrongFalsely : Prop := fnExactBorderMatrixRow.holds Try.pinned (OpenSpec.ofChange fnExactBorderMatrixWrong)

/-- 'laws.FnExactCountHoles': WHATEVER THE INPUT: true; the input reads as it did. -/
def fnExactCountHolesSpec : ChangeSpec := { name := "fnExactCountHoles", fn := fun _ => fun
  | [d1, d2] => { results := [.lit (.bool true)], args := [d1, d2] }
  | _ => none }
def fnExactCountHolesRow : OpenClaim := { program := "ytgekjhedghaekaa", sum := "270bc3042fae8a1bbe474a1211558406c1ab7d0fb6020778f130b1d02fd283be", func := "loop.example/g03100/laws.FnExactCountHoles", spec := "fnExactCountHoles", apart := false }
def FnExactCountHolesSaid : Prop := fnExactCountHolesRow.holds Try.pinned (OpenSpec.ofChange fnExactCountHolesSpec)

/-- ITS FALSE NEIGHBOUR: 'it returns false'. Refute it at one input. -/
def fnExactCountHolesWrong : ChangeSpec := { name := "fnExactCountHoles", fn := fun _ => fun
  | [d1, d2] => { results := [.lit (.bool false)], args := [d1, d2] }
  | _ => none }
def FnExactCountHolesWrongFalsely : Prop := fnExactCountHolesRow.holds Try.pinned (OpenSpec.ofChange fnExactCountHolesWrong)

/-- 'laws.FnExactHolesMod': WHATEVER THE INPUT: true; the input reads as it did. -/
def fnExactHolesModSpec : ChangeSpec := { name := "fnExactHolesMod", fn := fun _ => fun
  | [d1, d2] => { results := [.lit (.bool true)], args := [d1, d2] }
  | _ => none }
def fnExactHolesModRow : OpenClaim := { program := "ytgekjhedghaekaa", sum := "270bc3042fae8a1bbe474a1211558406c1ab7d0fb6020778f130b1d02fd283be", func := "loop.example/g03100/laws.FnExactHolesMod", spec := "fnExactHolesMod", apart := false }
def FnExactHolesModSaid : Prop := fnExactHolesModRow.holds Try.pinned (OpenSpec.ofChange fnExactHolesModSpec)

/-- ITS FALSE NEIGHBOUR: 'it returns false'. Refute it at one input. -/
def fnExactHolesModWrong : ChangeSpec := { name := "fnExactHolesMod", fn := fun _ => fun
  | [d1, d2] => { results := [.lit (.bool false)], args := [d1, d2] }
  | _ => none }
def FnExactHolesModWrongFalsely : Prop := fnExactHolesModRow.holds Try.pinned (OpenSpec.ofChange fnExactHolesModWrong)

/-- 'laws.FnExactHasNoHoles': WHATEVER THE INPUT: true; the input reads as it did. -/
def fnExactHasNoHolesSpec : ChangeSpec := { name := "fnExactHasNoHoles", fn := fun _ => fun
  | [d1, d2] => { results := [.lit (.bool true)], args := [d1, d2] }
  | _ => none }
def fnExactHasNoHolesRow : OpenClaim := { program := "ytgekjhedghaekaa", sum := "270bc3042fae8a1bbe474a1211558406c1ab7d0fb6020778f130b1d02fd283be", func := "loop.example/g03100/laws.FnExactHasNoHoles", spec := "fnExactHasNoHoles", apart := false }
def FnExactHasNoHolesSaid : Prop := fnExactHasNoHolesRow.holds Try.pinned (OpenSpec.ofChange fnExactHasNoHolesSpec)

/-- ITS FALSE NEIGHBOUR: 'it returns false'. Refute it at one input. -/
def fnExactHasNoHolesWrong : ChangeSpec := { name := "fnExactHasNoHoles", fn := fun _ => fun
  | [d1, d2] => { results := [.lit (.bool false)], args := [d1, d2] }
  | _ => none }
def FnExactHasNoHolesWrongFalsely : Prop := fnExactHasNoHolesRow.holds Try.pinned (OpenSpec.ofChange fnExactHasNoHolesWrong)

/-- 'laws.FnExactIsSphereLike': WHATEVER THE INPUT: true; the input reads as it did. -/
def fnExactIsSphereLikeSpec : ChangeSpec := { name := "fnExactIsSphereLike", fn := fun _ => fun
  | [d1, d2] => { results := [.lit (.bool true)], args := [d1, d2] }
  | _ => none }
def fnExactIsSphereLikeRow : OpenClaim := { program := "ytgekjhedghaekaa", sum := "270bc3042fae8a1bbe474a1211558406c1ab7d0fb6020778f130b1d02fd283be", func := "loop.example/g03100/laws.FnExactIsSphereLike", spec := "fnExactIsSphereLike", apart := false }
def FnExactIsSphereLikeSaid : Prop := fnExactIsSphereLikeRow.holds Try.pinned (OpenSpec.ofChange fnExactIsSphereLikeSpec)

/-- ITS FALSE NEIGHBOUR: 'it returns false'. Refute it at one input. -/
def fnExactIsSphereLikeWrong : ChangeSpec := { name := "fnExactIsSphereLike", fn := fun _ => fun
  | [d1, d2] => { results := [.lit (.bool false)], args := [d1, d2] }
  | _ => none }
def FnExactIsSphereLikeWrongFalsely : Prop := fnExactIsSphereLikeRow.holds Try.pinned (OpenSpec.ofChange fnExactIsSphereLikeWrong)

/- THE SECOND FORM. 'bulk': how many values and letters a reading holds, each counted each time it is reached (what is shared counts as often as it is met; a slice's spare places count too). A statement '..UptoSaid' is the law's where the arguments, and the package variables that the reading takes, are together of bulk at most 1048576: NARROWER than '..Said'. Prove '..Said' where nothing that the law and all that it calls make is longer than what came in: it says more and counts as full. Else prove '..UptoSaid'. A law counts once. -/
mutual
def uptoBulk {H : Type} : DataW H → Nat
  | .lit (.string bytes) => bytes.length + 1
  | .lit _ => 1
  | .nil => 1
  | .ptr d => uptoBulk d + 1
  | .slice elems spare => uptoBulkAll elems + uptoBulkAll spare + 1
  | .agg parts => uptoBulkAll parts + 1
  | .iface _ d => uptoBulk d + 1
  | .map entries => uptoBulkEntries entries + 1
  | .held _ => 1
def uptoBulkAll {H : Type} : List (DataW H) → Nat
  | [] => 0
  | d :: r => uptoBulk d + uptoBulkAll r
def uptoBulkEntries {H : Type} : List (Lit × DataW H) → Nat
  | [] => 0
  | x :: r => uptoBulkEntry x + uptoBulkEntries r
def uptoBulkEntry {H : Type} : Lit × DataW H → Nat
  | (.string bytes, d) => bytes.length + uptoBulk d + 1
  | (_, d) => uptoBulk d + 1
 end
def uptoSmall : (H : Type) → List (DataW H) → Bool := fun _ ds => decide (uptoBulkAll ds ≤ 1048576)
def OpenSpec.upto (s : _root_.Go.ChangeSpec) : _root_.Go.OpenSpec := { _root_.Go.OpenSpec.ofChange s with cond := some uptoSmall }

/-- 'laws.FnExactSuspensionOf', WHERE WHAT IT READS IS OF BULK AT MOST 1048576: true; the input reads as it did. -/
def fnExactSuspensionOfUptoRow : OpenClaim := { program := "ytgekjhedghaekaa", sum := "270bc3042fae8a1bbe474a1211558406c1ab7d0fb6020778f130b1d02fd283be", func := "loop.example/g03100/laws.FnExactSuspensionOf", spec := "fnExactSuspensionOf", apart := false, narrowed := true }
def FnExactSuspensionOfUptoSaid : Prop := fnExactSuspensionOfUptoRow.holds Try.pinned (OpenSpec.upto fnExactSuspensionOfSpec)

/-- 'laws.FnExactCountParts', WHERE WHAT IT READS IS OF BULK AT MOST 1048576: true; the input reads as it did. -/
def fnExactCountPartsUptoRow : OpenClaim := { program := "ytgekjhedghaekaa", sum := "270bc3042fae8a1bbe474a1211558406c1ab7d0fb6020778f130b1d02fd283be", func := "loop.example/g03100/laws.FnExactCountParts", spec := "fnExactCountParts", apart := false, narrowed := true }
def FnExactCountPartsUptoSaid : Prop := fnExactCountPartsUptoRow.holds Try.pinned (OpenSpec.upto fnExactCountPartsSpec)

/-- 'laws.FnExactCompressedComplex', WHERE WHAT IT READS IS OF BULK AT MOST 1048576: true; the input reads as it did. -/
def fnExactCompressedComplexUptoRow : OpenClaim := { program := "ytgekjhedghaekaa", sum := "270bc3042fae8a1bbe474a1211558406c1ab7d0fb6020778f130b1d02fd283be", func := "loop.example/g03100/laws.FnExactCompressedComplex", spec := "fnExactCompressedComplex", apart := false, narrowed := true }
def FnExactCompressedComplexUptoSaid : Prop := fnExactCompressedComplexUptoRow.holds Try.pinned (OpenSpec.upto fnExactCompressedComplexSpec)

/-- 'laws.FnExactTopH', WHERE WHAT IT READS IS OF BULK AT MOST 1048576: true; the input reads as it did. -/
def fnExactTopHUptoRow : OpenClaim := { program := "ytgekjhedghaekaa", sum := "270bc3042fae8a1bbe474a1211558406c1ab7d0fb6020778f130b1d02fd283be", func := "loop.example/g03100/laws.FnExactTopH", spec := "fnExactTopH", apart := false, narrowed := true }
def FnExactTopHUptoSaid : Prop := fnExactTopHUptoRow.holds Try.pinned (OpenSpec.upto fnExactTopHSpec)

/-- 'laws.FnExactHNumbers', WHERE WHAT IT READS IS OF BULK AT MOST 1048576: true; the input reads as it did. -/
def fnExactHNumbersUptoRow : OpenClaim := { program := "ytgekjhedghaekaa", sum := "270bc3042fae8a1bbe474a1211558406c1ab7d0fb6020778f130b1d02fd283be", func := "loop.example/g03100/laws.FnExactHNumbers", spec := "fnExactHNumbers", apart := false, narrowed := true }
def FnExactHNumbersUptoSaid : Prop := fnExactHNumbersUptoRow.holds Try.pinned (OpenSpec.upto fnExactHNumbersSpec)

/-- 'laws.FnExactGNumbers', WHERE WHAT IT READS IS OF BULK AT MOST 1048576: true; the input reads as it did. -/
def fnExactGNumbersUptoRow : OpenClaim := { program := "ytgekjhedghaekaa", sum := "270bc3042fae8a1bbe474a1211558406c1ab7d0fb6020778f130b1d02fd283be", func := "loop.example/g03100/laws.FnExactGNumbers", spec := "fnExactGNumbers", apart := false, narrowed := true }
def FnExactGNumbersUptoSaid : Prop := fnExactGNumbersUptoRow.holds Try.pinned (OpenSpec.upto fnExactGNumbersSpec)

/-- 'laws.FnExactIsSymmetricH', WHERE WHAT IT READS IS OF BULK AT MOST 1048576: true; the input reads as it did. -/
def fnExactIsSymmetricHUptoRow : OpenClaim := { program := "ytgekjhedghaekaa", sum := "270bc3042fae8a1bbe474a1211558406c1ab7d0fb6020778f130b1d02fd283be", func := "loop.example/g03100/laws.FnExactIsSymmetricH", spec := "fnExactIsSymmetricH", apart := false, narrowed := true }
def FnExactIsSymmetricHUptoSaid : Prop := fnExactIsSymmetricHUptoRow.holds Try.pinned (OpenSpec.upto fnExactIsSymmetricHSpec)

/-- 'laws.FnExactBorderMatrix', WHERE WHAT IT READS IS OF BULK AT MOST 1048576: true; the input reads as it did. -/
def fnExactBorderMatrixUptoRow : OpenClaim := { program := "ytgekjhedghaekaa", sum := "270bc3042fae8a1bbe474a1211558406c1ab7d0fb6020778f130b1d02fd283be", func := "loop.example/g03100/laws.FnExactBorderMatrix", spec := "fnExactBorderMatrix", apart := false, narrowed := true }
def FnExactBorderMatrixUptoSaid : Prop := fnExactBorderMatrixUptoRow.holds Try.pinned (OpenSpec.upto fnExactBorderMatrixSpec)

/-- 'laws.FnExactCountHoles', WHERE WHAT IT READS IS OF BULK AT MOST 1048576: true; the input reads as it did. -/
def fnExactCountHolesUptoRow : OpenClaim := { program := "ytgekjhedghaekaa", sum := "270bc3042fae8a1bbe474a1211558406c1ab7d0fb6020778f130b1d02fd283be", func := "loop.example/g03100/laws.FnExactCountHoles", spec := "fnExactCountHoles", apart := false, narrowed := true }
def FnExactCountHolesUptoSaid : Prop := fnExactCountHolesUptoRow.holds Try.pinned (OpenSpec.upto fnExactCountHolesSpec)

/-- 'laws.FnExactHolesMod', WHERE WHAT IT READS IS OF BULK AT MOST 1048576: true; the input reads as it did. -/
def fnExactHolesModUptoRow : OpenClaim := { program := "ytgekjhedghaekaa", sum := "270bc3042fae8a1bbe474a1211558406c1ab7d0fb6020778f130b1d02fd283be", func := "loop.example/g03100/laws.FnExactHolesMod", spec := "fnExactHolesMod", apart := false, narrowed := true }
def FnExactHolesModUptoSaid : Prop := fnExactHolesModUptoRow.holds Try.pinned (OpenSpec.upto fnExactHolesModSpec)

/-- 'laws.FnExactHasNoHoles', WHERE WHAT IT READS IS OF BULK AT MOST 1048576: true; the input reads as it did. -/
def fnExactHasNoHolesUptoRow : OpenClaim := { program := "ytgekjhedghaekaa", sum := "270bc3042fae8a1bbe474a1211558406c1ab7d0fb6020778f130b1d02fd283be", func := "loop.example/g03100/laws.FnExactHasNoHoles", spec := "fnExactHasNoHoles", apart := false, narrowed := true }
def FnExactHasNoHolesUptoSaid : Prop := fnExactHasNoHolesUptoRow.holds Try.pinned (OpenSpec.upto fnExactHasNoHolesSpec)

/-- 'laws.FnExactIsSphereLike', WHERE WHAT IT READS IS OF BULK AT MOST 1048576: true; the input reads as it did. -/
def fnExactIsSphereLikeUptoRow : OpenClaim := { program := "ytgekjhedghaekaa", sum := "270bc3042fae8a1bbe474a1211558406c1ab7d0fb6020778f130b1d02fd283be", func := "loop.example/g03100/laws.FnExactIsSphereLike", spec := "fnExactIsSphereLike", apart := false, narrowed := true }
def FnExactIsSphereLikeUptoSaid : Prop := fnExactIsSphereLikeUptoRow.holds Try.pinned (OpenSpec.upto fnExactIsSphereLikeSpec)

end Rows
end Go.Proofs.Ytgekjhedghaekaa
