/-
  No cell of these rows narrows 'for every input' (looked for: loops, veiled, ifaces, maps, wideKeys, modest, calm, conditions, laid).
  DERIVED. THE GIVEN ROWS OF THIS SEAT. 6 by the template 'for every input the law returns true; each argument reads behind the call as it read before'; 0 by the template 'total and deterministic' (their statements: YtcgdfckcdoaihaaTotals.lean).
  GIVEN WITH THE SEED: the statements are not yours to turn. If you find one false, say at which input.
  Laid BY PROGRAM, IN A SANDBOX (cutbox-rows.mjs): the forced cells as the released guide's own fill.sh prints them over the translation a7260bf6a764e2d4… (all of the seat's roots in one cut). By AI agents, Wed Nov 11 2026. No macro, syntax, notation, axiom, sorry.
-/
import Derived.Test.YtcgdfckcdoaihaaChecked
import GoSem.Claim
import GoSem.ClaimJoined
import GoSem.ClaimMapViews
import Derived.JoinedTies
import Derived.KernelRfl
namespace Go.Proofs.Ytcgdfckcdoaihaa
/- THE CELL 'sum', in the pinned program and in every row, IS THE sha256 OF THE DUMP (.gsa) THAT YtcgdfckcdoaihaaProg.lean LOADS. Nothing in Lean hashes anything: it is a label: what it is worth is what the hold of that sum in a sandbox is worth. -/
noncomputable def Try.pinned : Pinned := { name := "ytcgdfckcdoaihaa", sum := "a7260bf6a764e2d4b46be3f660a5d260f37efdc663b171d4b0079a3bed4e9168", checked := Try.checked }
namespace Rows
def none {H : Type} : Left H := { results := [], args := [] }

/-- 'laws.FnExactIsFieldPrime': WHATEVER THE INPUT: true; the input reads as it did. -/
def fnExactIsFieldPrimeSpec : ChangeSpec := { name := "fnExactIsFieldPrime", fn := fun _ => fun
  | [d] => { results := [.lit (.bool true)], args := [d] }
  | _ => none }
def fnExactIsFieldPrimeRow : OpenClaim := { program := "ytcgdfckcdoaihaa", sum := "a7260bf6a764e2d4b46be3f660a5d260f37efdc663b171d4b0079a3bed4e9168", func := "loop.example/g03100/laws.FnExactIsFieldPrime", spec := "fnExactIsFieldPrime", apart := false }
def FnExactIsFieldPrimeSaid : Prop := fnExactIsFieldPrimeRow.holds Try.pinned (OpenSpec.ofChange fnExactIsFieldPrimeSpec)

/-- ITS FALSE NEIGHBOUR: 'it returns false'. Refute it at one input. -/
def fnExactIsFieldPrimeWrong : ChangeSpec := { name := "fnExactIsFieldPrime", fn := fun _ => fun
  | [d] => { results := [.lit (.bool false)], args := [d] }
  | _ => none }
def FnExactIsFieldPrimeWrongFalsely : Prop := fnExactIsFieldPrimeRow.holds Try.pinned (OpenSpec.ofChange fnExactIsFieldPrimeWrong)

/-- 'laws.FnExactComplementOf': WHATEVER THE INPUT: true; the input reads as it did. -/
def fnExactComplementOfSpec : ChangeSpec := { name := "fnExactComplementOf", fn := fun _ => fun
  | [d1, d2] => { results := [.lit (.bool true)], args := [d1, d2] }
  | _ => none }
def fnExactComplementOfRow : OpenClaim := { program := "ytcgdfckcdoaihaa", sum := "a7260bf6a764e2d4b46be3f660a5d260f37efdc663b171d4b0079a3bed4e9168", func := "loop.example/g03100/laws.FnExactComplementOf", spec := "fnExactComplementOf", apart := false }
def FnExactComplementOfSaid : Prop := fnExactComplementOfRow.holds Try.pinned (OpenSpec.ofChange fnExactComplementOfSpec)

/-- ITS FALSE NEIGHBOUR: 'it returns false'. Refute it at one input. -/
def fnExactComplementOfWrong : ChangeSpec := { name := "fnExactComplementOf", fn := fun _ => fun
  | [d1, d2] => { results := [.lit (.bool false)], args := [d1, d2] }
  | _ => none }
def FnExactComplementOfWrongFalsely : Prop := fnExactComplementOfRow.holds Try.pinned (OpenSpec.ofChange fnExactComplementOfWrong)

/-- 'laws.FnExactChoose': WHATEVER THE INPUT: true; the input reads as it did. -/
def fnExactChooseSpec : ChangeSpec := { name := "fnExactChoose", fn := fun _ => fun
  | [d1, d2] => { results := [.lit (.bool true)], args := [d1, d2] }
  | _ => none }
def fnExactChooseRow : OpenClaim := { program := "ytcgdfckcdoaihaa", sum := "a7260bf6a764e2d4b46be3f660a5d260f37efdc663b171d4b0079a3bed4e9168", func := "loop.example/g03100/laws.FnExactChoose", spec := "fnExactChoose", apart := false }
def FnExactChooseSaid : Prop := fnExactChooseRow.holds Try.pinned (OpenSpec.ofChange fnExactChooseSpec)

/-- ITS FALSE NEIGHBOUR: 'it returns false'. Refute it at one input. -/
def fnExactChooseWrong : ChangeSpec := { name := "fnExactChoose", fn := fun _ => fun
  | [d1, d2] => { results := [.lit (.bool false)], args := [d1, d2] }
  | _ => none }
def FnExactChooseWrongFalsely : Prop := fnExactChooseRow.holds Try.pinned (OpenSpec.ofChange fnExactChooseWrong)

/-- 'laws.FnExactInverseMod': WHATEVER THE INPUT: true; the input reads as it did. -/
def fnExactInverseModSpec : ChangeSpec := { name := "fnExactInverseMod", fn := fun _ => fun
  | [d1, d2] => { results := [.lit (.bool true)], args := [d1, d2] }
  | _ => none }
def fnExactInverseModRow : OpenClaim := { program := "ytcgdfckcdoaihaa", sum := "a7260bf6a764e2d4b46be3f660a5d260f37efdc663b171d4b0079a3bed4e9168", func := "loop.example/g03100/laws.FnExactInverseMod", spec := "fnExactInverseMod", apart := false }
def FnExactInverseModSaid : Prop := fnExactInverseModRow.holds Try.pinned (OpenSpec.ofChange fnExactInverseModSpec)

/-- ITS FALSE NEIGHBOUR: 'it returns false'. Refute it at one input. -/
def fnExactInverseModWrong : ChangeSpec := { name := "fnExactInverseMod", fn := fun _ => fun
  | [d1, d2] => { results := [.lit (.bool false)], args := [d1, d2] }
  | _ => none }
def FnExactInverseModWrongFalsely : Prop := fnExactInverseModRow.holds Try.pinned (OpenSpec.ofChange fnExactInverseModWrong)

/-- 'laws.FnExactCountMonomials': WHATEVER THE INPUT: true; the input reads as it did. -/
def fnExactCountMonomialsSpec : ChangeSpec := { name := "fnExactCountMonomials", fn := fun _ => fun
  | [d1, d2] => { results := [.lit (.bool true)], args := [d1, d2] }
  | _ => none }
def fnExactCountMonomialsRow : OpenClaim := { program := "ytcgdfckcdoaihaa", sum := "a7260bf6a764e2d4b46be3f660a5d260f37efdc663b171d4b0079a3bed4e9168", func := "loop.example/g03100/laws.FnExactCountMonomials", spec := "fnExactCountMonomials", apart := false }
def FnExactCountMonomialsSaid : Prop := fnExactCountMonomialsRow.holds Try.pinned (OpenSpec.ofChange fnExactCountMonomialsSpec)

/-- ITS FALSE NEIGHBOUR: 'it returns false'. Refute it at one input. -/
def fnExactCountMonomialsWrong : ChangeSpec := { name := "fnExactCountMonomials", fn := fun _ => fun
  | [d1, d2] => { results := [.lit (.bool false)], args := [d1, d2] }
  | _ => none }
def FnExactCountMonomialsWrongFalsely : Prop := fnExactCountMonomialsRow.holds Try.pinned (OpenSpec.ofChange fnExactCountMonomialsWrong)

/-- 'laws.FnExactPowerBound': WHATEVER THE INPUT: true; the input reads as it did. -/
def fnExactPowerBoundSpec : ChangeSpec := { name := "fnExactPowerBound", fn := fun _ => fun
  | [d1, d2] => { results := [.lit (.bool true)], args := [d1, d2] }
  | _ => none }
def fnExactPowerBoundRow : OpenClaim := { program := "ytcgdfckcdoaihaa", sum := "a7260bf6a764e2d4b46be3f660a5d260f37efdc663b171d4b0079a3bed4e9168", func := "loop.example/g03100/laws.FnExactPowerBound", spec := "fnExactPowerBound", apart := false }
def FnExactPowerBoundSaid : Prop := fnExactPowerBoundRow.holds Try.pinned (OpenSpec.ofChange fnExactPowerBoundSpec)

/-- ITS FALSE NEIGHBOUR: 'it returns false'. Refute it at one input. -/
def fnExactPowerBoundWrong : ChangeSpec := { name := "fnExactPowerBound", fn := fun _ => fun
  | [d1, d2] => { results := [.lit (.bool false)], args := [d1, d2] }
  | _ => none }
def FnExactPowerBoundWrongFalsely : Prop := fnExactPowerBoundRow.holds Try.pinned (OpenSpec.ofChange fnExactPowerBoundWrong)

/- THE SECOND FORM. 'bulk': how many values and letters a reading holds, each counted each time it is reached (what is shared counts as often as it is met; a slice's spare places count too). A statement '..UptoSaid' is the law's where the arguments, and the package variables that the reading takes, are together of bulk at most 1048576: NARROWER than '..Said'. Prove '..Said' where nothing that the law and all that it calls make is longer than what came in: it says more and counts as full. Else prove '..UptoSaid'. A law counts once. -/
mutual
def uptoBulk {H : Type} : DataW H → Nat
  | .lit (.string bytes) => bytes.length + 1
  | .lit _ => 1
  | .nil => 1
  | .ptr d => uptoBulk d + 1
  | .slice elems spare => uptoBulkAll elems + uptoBulkAll spare + 1
  | .agg parts => uptoBulkAll parts + 1
  | .iface _ d => uptoBulk d + 1
  | .map entries => uptoBulkEntries entries + 1
  | .held _ => 1
def uptoBulkAll {H : Type} : List (DataW H) → Nat
  | [] => 0
  | d :: r => uptoBulk d + uptoBulkAll r
def uptoBulkEntries {H : Type} : List (Lit × DataW H) → Nat
  | [] => 0
  | x :: r => uptoBulkEntry x + uptoBulkEntries r
def uptoBulkEntry {H : Type} : Lit × DataW H → Nat
  | (.string bytes, d) => bytes.length + uptoBulk d + 1
  | (_, d) => uptoBulk d + 1
 end
def uptoSmall : (H : Type) → List (DataW H) → Bool := fun _ ds => decide (uptoBulkAll ds ≤ 1048576)
def OpenSpec.upto (s : _root_.Go.ChangeSpec) : _root_.Go.OpenSpec := { _root_.Go.OpenSpec.ofChange s with cond := some uptoSmall }

/-- 'laws.FnExactIsFieldPrime', WHERE WHAT IT READS IS OF BULK AT MOST 1048576: true; the input reads as it did. -/
def fnExactIsFieldPrimeUptoRow : OpenClaim := { program := "ytcgdfckcdoaihaa", sum := "a7260bf6a764e2d4b46be3f660a5d260f37efdc663b171d4b0079a3bed4e9168", func := "loop.example/g03100/laws.FnExactIsFieldPrime", spec := "fnExactIsFieldPrime", apart := false, narrowed := true }
def FnExactIsFieldPrimeUptoSaid : Prop := fnExactIsFieldPrimeUptoRow.holds Try.pinned (OpenSpec.upto fnExactIsFieldPrimeSpec)

/-- 'laws.FnExactComplementOf', WHERE WHAT IT READS IS OF BULK AT MOST 1048576: true; the input reads as it did. -/
def fnExactComplementOfUptoRow : OpenClaim := { program := "ytcgdfckcdoaihaa", sum := "a7260bf6a764e2d4b46be3f660a5d260f37efdc663b171d4b0079a3bed4e9168", func := "loop.example/g03100/laws.FnExactComplementOf", spec := "fnExactComplementOf", apart := false, narrowed := true }
def FnExactComplementOfUptoSaid : Prop := fnExactComplementOfUptoRow.holds Try.pinned (OpenSpec.upto fnExactComplementOfSpec)

/-- 'laws.FnExactChoose', WHERE WHAT IT READS IS OF BULK AT MOST 1048576: true; the input reads as it did. -/
def fnExactChooseUptoRow : OpenClaim := { program := "ytcgdfckcdoaihaa", sum := "a7260bf6a764e2d4b46be3f660a5d260f37efdc663b171d4b0079a3bed4e9168", func := "loop.example/g03100/laws.FnExactChoose", spec := "fnExactChoose", apart := false, narrowed := true }
def FnExactChooseUptoSaid : Prop := fnExactChooseUptoRow.holds Try.pinned (OpenSpec.upto fnExactChooseSpec)

/-- 'laws.FnExactInverseMod', WHERE WHAT IT READS IS OF BULK AT MOST 1048576: true; the input reads as it did. -/
def fnExactInverseModUptoRow : OpenClaim := { program := "ytcgdfckcdoaihaa", sum := "a7260bf6a764e2d4b46be3f660a5d260f37efdc663b171d4b0079a3bed4e9168", func := "loop.example/g03100/laws.FnExactInverseMod", spec := "fnExactInverseMod", apart := false, narrowed := true }
def FnExactInverseModUptoSaid : Prop := fnExactInverseModUptoRow.holds Try.pinned (OpenSpec.upto fnExactInverseModSpec)

/-- 'laws.FnExactCountMonomials', WHERE WHAT IT READS IS OF BULK AT MOST 1048576: true; the input reads as it did. -/
def fnExactCountMonomialsUptoRow : OpenClaim := { program := "ytcgdfckcdoaihaa", sum := "a7260bf6a764e2d4b46be3f660a5d260f37efdc663b171d4b0079a3bed4e9168", func := "loop.example/g03100/laws.FnExactCountMonomials", spec := "fnExactCountMonomials", apart := false, narrowed := true }
def FnExactCountMonomialsUptoSaid : Prop := fnExactCountMonomialsUptoRow.holds Try.pinned (OpenSpec.upto fnExactCountMonomialsSpec)

/-- 'laws.FnExactPowerBound', WHERE WHAT IT READS IS OF BULK AT MOST 1048576: true; the input reads as it did. -/
def fnExactPowerBoundUptoRow : OpenClaim := { program := "ytcgdfckcdoaihaa", sum := "a7260bf6a764e2d4b46be3f660a5d260f37efdc663b171d4b0079a3bed4e9168", func := "loop.example/g03100/laws.FnExactPowerBound", spec := "fnExactPowerBound", apart := false, narrowed := true }
def FnExactPowerBoundUptoSaid : Prop := fnExactPowerBoundUptoRow.holds Try.pinned (OpenSpec.upto fnExactPowerBoundSpec)

end Rows
end Go.Proofs.Ytcgdfckcdoaihaa
