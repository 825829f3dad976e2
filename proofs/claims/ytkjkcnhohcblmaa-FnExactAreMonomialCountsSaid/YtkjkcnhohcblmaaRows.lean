/-
  No cell of these rows narrows 'for every input' (looked for: loops, veiled, ifaces, maps, wideKeys, modest, calm, conditions, laid).
  DERIVED. THE GIVEN ROWS OF THIS SEAT. 12 by the template 'for every input the law returns true; each argument reads behind the call as it read before'; 0 by the template 'total and deterministic' (their statements: YtkjkcnhohcblmaaTotals.lean).
  GIVEN WITH THE SEED: the statements are not yours to turn. If you find one false, say at which input.
  Laid BY PROGRAM, IN A SANDBOX (cutbox-rows.mjs): the forced cells as the released guide's own fill.sh prints them over the translation a820d8de8822a9d9… (all of the seat's roots in one cut). By AI agents, Wed Nov 11 2026. No macro, syntax, notation, axiom, sorry.
-/
import Derived.Test.YtkjkcnhohcblmaaChecked
import GoSem.Claim
import GoSem.ClaimJoined
import GoSem.ClaimMapViews
import Derived.JoinedTies
import Derived.KernelRfl
namespace Go.Proofs.Ytkjkcnhohcblmaa
/- THE CELL 'sum', in the pinned program and in every row, IS THE sha256 OF THE DUMP (.gsa) THAT YtkjkcnhohcblmaaProg.lean LOADS. Nothing in Lean hashes anything: it is a label: what it is worth is what the hold of that sum in a sandbox is worth. -/
noncomputable def Try.pinned : Pinned := { name := "ytkjkcnhohcblmaa", sum := "a820d8de8822a9d9d13d6e7cda6eae0ce91c0916d05bd6a3330bd6545d53b94c", checked := Try.checked }
namespace Rows
def none {H : Type} : Left H := { results := [], args := [] }

/-- 'laws.FnExactShadowBound': WHATEVER THE INPUT: true; the input reads as it did. -/
def fnExactShadowBoundSpec : ChangeSpec := { name := "fnExactShadowBound", fn := fun _ => fun
  | [d1, d2] => { results := [.lit (.bool true)], args := [d1, d2] }
  | _ => none }
def fnExactShadowBoundRow : OpenClaim := { program := "ytkjkcnhohcblmaa", sum := "a820d8de8822a9d9d13d6e7cda6eae0ce91c0916d05bd6a3330bd6545d53b94c", func := "loop.example/g03100/laws.FnExactShadowBound", spec := "fnExactShadowBound", apart := false }
def FnExactShadowBoundSaid : Prop := fnExactShadowBoundRow.holds Try.pinned (OpenSpec.ofChange fnExactShadowBoundSpec)

/-- ITS FALSE NEIGHBOUR: 'it returns false'. Refute it at one input. -/
def fnExactShadowBoundWrong : ChangeSpec := { name := "fnExactShadowBound", fn := fun _ => fun
  | [d1, d2] => { results := [.lit (.bool false)], args := [d1, d2] }
  | _ => none }
def FnExactShadowBoundWrongFalsely : Prop := fnExactShadowBoundRow.holds Try.pinned (OpenSpec.ofChange fnExactShadowBoundWrong)

/-- 'laws.FnExactRenameSet': WHATEVER THE INPUT: true; the input reads as it did. -/
def fnExactRenameSetSpec : ChangeSpec := { name := "fnExactRenameSet", fn := fun _ => fun
  | [d1, d2] => { results := [.lit (.bool true)], args := [d1, d2] }
  | _ => none }
def fnExactRenameSetRow : OpenClaim := { program := "ytkjkcnhohcblmaa", sum := "a820d8de8822a9d9d13d6e7cda6eae0ce91c0916d05bd6a3330bd6545d53b94c", func := "loop.example/g03100/laws.FnExactRenameSet", spec := "fnExactRenameSet", apart := false }
def FnExactRenameSetSaid : Prop := fnExactRenameSetRow.holds Try.pinned (OpenSpec.ofChange fnExactRenameSetSpec)

/-- ITS FALSE NEIGHBOUR: 'it returns false'. Refute it at one input. -/
def fnExactRenameSetWrong : ChangeSpec := { name := "fnExactRenameSet", fn := fun _ => fun
  | [d1, d2] => { results := [.lit (.bool false)], args := [d1, d2] }
  | _ => none }
def FnExactRenameSetWrongFalsely : Prop := fnExactRenameSetRow.holds Try.pinned (OpenSpec.ofChange fnExactRenameSetWrong)

/-- 'laws.FnExactCascadeOf': WHATEVER THE INPUT: true; the input reads as it did. -/
def fnExactCascadeOfSpec : ChangeSpec := { name := "fnExactCascadeOf", fn := fun _ => fun
  | [d1, d2] => { results := [.lit (.bool true)], args := [d1, d2] }
  | _ => none }
def fnExactCascadeOfRow : OpenClaim := { program := "ytkjkcnhohcblmaa", sum := "a820d8de8822a9d9d13d6e7cda6eae0ce91c0916d05bd6a3330bd6545d53b94c", func := "loop.example/g03100/laws.FnExactCascadeOf", spec := "fnExactCascadeOf", apart := false }
def FnExactCascadeOfSaid : Prop := fnExactCascadeOfRow.holds Try.pinned (OpenSpec.ofChange fnExactCascadeOfSpec)

/-- ITS FALSE NEIGHBOUR: 'it returns false'. Refute it at one input. -/
def fnExactCascadeOfWrong : ChangeSpec := { name := "fnExactCascadeOf", fn := fun _ => fun
  | [d1, d2] => { results := [.lit (.bool false)], args := [d1, d2] }
  | _ => none }
def FnExactCascadeOfWrongFalsely : Prop := fnExactCascadeOfRow.holds Try.pinned (OpenSpec.ofChange fnExactCascadeOfWrong)

/-- 'laws.FnExactMonomialsOf': WHATEVER THE INPUT: true; the input reads as it did. -/
def fnExactMonomialsOfSpec : ChangeSpec := { name := "fnExactMonomialsOf", fn := fun _ => fun
  | [d1, d2] => { results := [.lit (.bool true)], args := [d1, d2] }
  | _ => none }
def fnExactMonomialsOfRow : OpenClaim := { program := "ytkjkcnhohcblmaa", sum := "a820d8de8822a9d9d13d6e7cda6eae0ce91c0916d05bd6a3330bd6545d53b94c", func := "loop.example/g03100/laws.FnExactMonomialsOf", spec := "fnExactMonomialsOf", recurses := true, apart := false }
def FnExactMonomialsOfSaid : Prop := fnExactMonomialsOfRow.holds Try.pinned (OpenSpec.ofChange fnExactMonomialsOfSpec)

/-- ITS FALSE NEIGHBOUR: 'it returns false'. Refute it at one input. -/
def fnExactMonomialsOfWrong : ChangeSpec := { name := "fnExactMonomialsOf", fn := fun _ => fun
  | [d1, d2] => { results := [.lit (.bool false)], args := [d1, d2] }
  | _ => none }
def FnExactMonomialsOfWrongFalsely : Prop := fnExactMonomialsOfRow.holds Try.pinned (OpenSpec.ofChange fnExactMonomialsOfWrong)

/-- 'laws.FnExactCountsFromH': WHATEVER THE INPUT: true; the input reads as it did. -/
def fnExactCountsFromHSpec : ChangeSpec := { name := "fnExactCountsFromH", fn := fun _ => fun
  | [d] => { results := [.lit (.bool true)], args := [d] }
  | _ => none }
def fnExactCountsFromHRow : OpenClaim := { program := "ytkjkcnhohcblmaa", sum := "a820d8de8822a9d9d13d6e7cda6eae0ce91c0916d05bd6a3330bd6545d53b94c", func := "loop.example/g03100/laws.FnExactCountsFromH", spec := "fnExactCountsFromH", apart := false }
def FnExactCountsFromHSaid : Prop := fnExactCountsFromHRow.holds Try.pinned (OpenSpec.ofChange fnExactCountsFromHSpec)

/-- ITS FALSE NEIGHBOUR: 'it returns false'. Refute it at one input. -/
def fnExactCountsFromHWrong : ChangeSpec := { name := "fnExactCountsFromH", fn := fun _ => fun
  | [d] => { results := [.lit (.bool false)], args := [d] }
  | _ => none }
def FnExactCountsFromHWrongFalsely : Prop := fnExactCountsFromHRow.holds Try.pinned (OpenSpec.ofChange fnExactCountsFromHWrong)

/-- 'laws.FnExactFirstMonomials': WHATEVER THE INPUT: true; the input reads as it did. -/
def fnExactFirstMonomialsSpec : ChangeSpec := { name := "fnExactFirstMonomials", fn := fun _ => fun
  | [d1, d2, d3] => { results := [.lit (.bool true)], args := [d1, d2, d3] }
  | _ => none }
def fnExactFirstMonomialsRow : OpenClaim := { program := "ytkjkcnhohcblmaa", sum := "a820d8de8822a9d9d13d6e7cda6eae0ce91c0916d05bd6a3330bd6545d53b94c", func := "loop.example/g03100/laws.FnExactFirstMonomials", spec := "fnExactFirstMonomials", recurses := true, apart := false }
def FnExactFirstMonomialsSaid : Prop := fnExactFirstMonomialsRow.holds Try.pinned (OpenSpec.ofChange fnExactFirstMonomialsSpec)

/-- ITS FALSE NEIGHBOUR: 'it returns false'. Refute it at one input. -/
def fnExactFirstMonomialsWrong : ChangeSpec := { name := "fnExactFirstMonomials", fn := fun _ => fun
  | [d1, d2, d3] => { results := [.lit (.bool false)], args := [d1, d2, d3] }
  | _ => none }
def FnExactFirstMonomialsWrongFalsely : Prop := fnExactFirstMonomialsRow.holds Try.pinned (OpenSpec.ofChange fnExactFirstMonomialsWrong)

/-- 'laws.FnExactAreFaceCounts': WHATEVER THE INPUT: true; the input reads as it did. -/
def fnExactAreFaceCountsSpec : ChangeSpec := { name := "fnExactAreFaceCounts", fn := fun _ => fun
  | [d] => { results := [.lit (.bool true)], args := [d] }
  | _ => none }
def fnExactAreFaceCountsRow : OpenClaim := { program := "ytkjkcnhohcblmaa", sum := "a820d8de8822a9d9d13d6e7cda6eae0ce91c0916d05bd6a3330bd6545d53b94c", func := "loop.example/g03100/laws.FnExactAreFaceCounts", spec := "fnExactAreFaceCounts", apart := false }
def FnExactAreFaceCountsSaid : Prop := fnExactAreFaceCountsRow.holds Try.pinned (OpenSpec.ofChange fnExactAreFaceCountsSpec)

/-- ITS FALSE NEIGHBOUR: 'it returns false'. Refute it at one input. -/
def fnExactAreFaceCountsWrong : ChangeSpec := { name := "fnExactAreFaceCounts", fn := fun _ => fun
  | [d] => { results := [.lit (.bool false)], args := [d] }
  | _ => none }
def FnExactAreFaceCountsWrongFalsely : Prop := fnExactAreFaceCountsRow.holds Try.pinned (OpenSpec.ofChange fnExactAreFaceCountsWrong)

/-- 'laws.FnExactAreMonomialCounts': WHATEVER THE INPUT: true; the input reads as it did. -/
def fnExactAreMonomialCountsSpec : ChangeSpec := { name := "fnExactAreMonomialCounts", fn := fun _ => fun
  | [d] => { results := [.lit (.bool true)], args := [d] }
  | _ => none }
def fnExactAreMonomialCountsRow : OpenClaim := { program := "ytkjkcnhohcblmaa", sum := "a820d8de8822a9d9d13d6e7cda6eae0ce91c0916d05bd6a3330bd6545d53b94c", func := "loop.example/g03100/laws.FnExactAreMonomialCounts", spec := "fnExactAreMonomialCounts", apart := false }
def FnExactAreMonomialCountsSaid : Prop := fnExactAreMonomialCountsRow.holds Try.pinned (OpenSpec.ofChange fnExactAreMonomialCountsSpec)

/-- ITS FALSE NEIGHBOUR: 'it returns false'. Refute it at one input. -/
def fnExactAreMonomialCountsWrong : ChangeSpec := { name := "fnExactAreMonomialCounts", fn := fun _ => fun
  | [d] => { results := [.lit (.bool false)], args := [d] }
  | _ => none }
def FnExactAreMonomialCountsWrongFalsely : Prop := fnExactAreMonomialCountsRow.holds Try.pinned (OpenSpec.ofChange fnExactAreMonomialCountsWrong)

/-- 'laws.FnExactTurnMatrix': WHATEVER THE INPUT: true; the input reads as it did. -/
def fnExactTurnMatrixSpec : ChangeSpec := { name := "fnExactTurnMatrix", fn := fun _ => fun
  | [d] => { results := [.lit (.bool true)], args := [d] }
  | _ => none }
def fnExactTurnMatrixRow : OpenClaim := { program := "ytkjkcnhohcblmaa", sum := "a820d8de8822a9d9d13d6e7cda6eae0ce91c0916d05bd6a3330bd6545d53b94c", func := "loop.example/g03100/laws.FnExactTurnMatrix", spec := "fnExactTurnMatrix", apart := false }
def FnExactTurnMatrixSaid : Prop := fnExactTurnMatrixRow.holds Try.pinned (OpenSpec.ofChange fnExactTurnMatrixSpec)

/-- ITS FALSE NEIGHBOUR: 'it returns false'. Refute it at one input. -/
def fnExactTurnMatrixWrong : ChangeSpec := { name := "fnExactTurnMatrix", fn := fun _ => fun
  | [d] => { results := [.lit (.bool false)], args := [d] }
  | _ => none }
def FnExactTurnMatrixWrongFalsely : Prop := fnExactTurnMatrixRow.holds Try.pinned (OpenSpec.ofChange fnExactTurnMatrixWrong)

/-- 'laws.FnExactFirstSets': WHATEVER THE INPUT: true; the input reads as it did. -/
def fnExactFirstSetsSpec : ChangeSpec := { name := "fnExactFirstSets", fn := fun _ => fun
  | [d1, d2] => { results := [.lit (.bool true)], args := [d1, d2] }
  | _ => none }
def fnExactFirstSetsRow : OpenClaim := { program := "ytkjkcnhohcblmaa", sum := "a820d8de8822a9d9d13d6e7cda6eae0ce91c0916d05bd6a3330bd6545d53b94c", func := "loop.example/g03100/laws.FnExactFirstSets", spec := "fnExactFirstSets", apart := false }
def FnExactFirstSetsSaid : Prop := fnExactFirstSetsRow.holds Try.pinned (OpenSpec.ofChange fnExactFirstSetsSpec)

/-- ITS FALSE NEIGHBOUR: 'it returns false'. Refute it at one input. -/
def fnExactFirstSetsWrong : ChangeSpec := { name := "fnExactFirstSets", fn := fun _ => fun
  | [d1, d2] => { results := [.lit (.bool false)], args := [d1, d2] }
  | _ => none }
def FnExactFirstSetsWrongFalsely : Prop := fnExactFirstSetsRow.holds Try.pinned (OpenSpec.ofChange fnExactFirstSetsWrong)

/-- 'laws.FnExactTimesMatrix': WHATEVER THE INPUT: true; the input reads as it did. -/
def fnExactTimesMatrixSpec : ChangeSpec := { name := "fnExactTimesMatrix", fn := fun _ => fun
  | [d1, d2] => { results := [.lit (.bool true)], args := [d1, d2] }
  | _ => none }
def fnExactTimesMatrixRow : OpenClaim := { program := "ytkjkcnhohcblmaa", sum := "a820d8de8822a9d9d13d6e7cda6eae0ce91c0916d05bd6a3330bd6545d53b94c", func := "loop.example/g03100/laws.FnExactTimesMatrix", spec := "fnExactTimesMatrix", apart := false }
def FnExactTimesMatrixSaid : Prop := fnExactTimesMatrixRow.holds Try.pinned (OpenSpec.ofChange fnExactTimesMatrixSpec)

/-- ITS FALSE NEIGHBOUR: 'it returns false'. Refute it at one input. -/
def fnExactTimesMatrixWrong : ChangeSpec := { name := "fnExactTimesMatrix", fn := fun _ => fun
  | [d1, d2] => { results := [.lit (.bool false)], args := [d1, d2] }
  | _ => none }
def FnExactTimesMatrixWrongFalsely : Prop := fnExactTimesMatrixRow.holds Try.pinned (OpenSpec.ofChange fnExactTimesMatrixWrong)

/-- 'laws.FnExactRankMod': WHATEVER THE INPUT: true; the input reads as it did. -/
def fnExactRankModSpec : ChangeSpec := { name := "fnExactRankMod", fn := fun _ => fun
  | [d1, d2] => { results := [.lit (.bool true)], args := [d1, d2] }
  | _ => none }
def fnExactRankModRow : OpenClaim := { program := "ytkjkcnhohcblmaa", sum := "a820d8de8822a9d9d13d6e7cda6eae0ce91c0916d05bd6a3330bd6545d53b94c", func := "loop.example/g03100/laws.FnExactRankMod", spec := "fnExactRankMod", apart := false }
def FnExactRankModSaid : Prop := fnExactRankModRow.holds Try.pinned (OpenSpec.ofChange fnExactRankModSpec)

/-- ITS FALSE NEIGHBOUR: 'it returns false'. Refute it at one input. -/
def fnExactRankModWrong : ChangeSpec := { name := "fnExactRankMod", fn := fun _ => fun
  | [d1, d2] => { results := [.lit (.bool false)], args := [d1, d2] }
  | _ => none }
def FnExactRankModWrongFalsely : Prop := fnExactRankModRow.holds Try.pinned (OpenSpec.ofChange fnExactRankModWrong)

/- THE SECOND FORM. 'bulk': how many values and letters a reading holds, each counted each time it is reached (what is shared counts as often as it is met; a slice's spare places count too). A statement '..UptoSaid' is the law's where the arguments, and the package variables that the reading takes, are together of bulk at most 1048576: NARROWER than '..Said'. Prove '..Said' where nothing that the law and all that it calls make is longer than what came in: it says more and counts as full. Else prove '..UptoSaid'. A law counts once. -/
mutual
def uptoBulk {H : Type} : DataW H → Nat
  | .lit (.string bytes) => bytes.length + 1
  | .lit _ => 1
  | .nil => 1
  | .ptr d => uptoBulk d + 1
  | .slice elems spare => uptoBulkAll elems + uptoBulkAll spare + 1
  | .agg parts => uptoBulkAll parts + 1
  | .iface _ d => uptoBulk d + 1
  | .map entries => uptoBulkEntries entries + 1
  | .held _ => 1
def uptoBulkAll {H : Type} : List (DataW H) → Nat
  | [] => 0
  | d :: r => uptoBulk d + uptoBulkAll r
def uptoBulkEntries {H : Type} : List (Lit × DataW H) → Nat
  | [] => 0
  | x :: r => uptoBulkEntry x + uptoBulkEntries r
def uptoBulkEntry {H : Type} : Lit × DataW H → Nat
  | (.string bytes, d) => bytes.length + uptoBulk d + 1
  | (_, d) => uptoBulk d + 1
 end
def uptoSmall : (H : Type) → List (DataW H) → Bool := fun _ ds => decide (uptoBulkAll ds ≤ 1048576)
def OpenSpec.upto (s : _root_.Go.ChangeSpec) : _root_.Go.OpenSpec := { _root_.Go.OpenSpec.ofChange s with cond := some uptoSmall }

/-- 'laws.FnExactShadowBound', WHERE WHAT IT READS IS OF BULK AT MOST 1048576: true; the input reads as it did. -/
def fnExactShadowBoundUptoRow : OpenClaim := { program := "ytkjkcnhohcblmaa", sum := "a820d8de8822a9d9d13d6e7cda6eae0ce91c0916d05bd6a3330bd6545d53b94c", func := "loop.example/g03100/laws.FnExactShadowBound", spec := "fnExactShadowBound", apart := false, narrowed := true }
def FnExactShadowBoundUptoSaid : Prop := fnExactShadowBoundUptoRow.holds Try.pinned (OpenSpec.upto fnExactShadowBoundSpec)

/-- 'laws.FnExactRenameSet', WHERE WHAT IT READS IS OF BULK AT MOST 1048576: true; the input reads as it did. -/
def fnExactRenameSetUptoRow : OpenClaim := { program := "ytkjkcnhohcblmaa", sum := "a820d8de8822a9d9d13d6e7cda6eae0ce91c0916d05bd6a3330bd6545d53b94c", func := "loop.example/g03100/laws.FnExactRenameSet", spec := "fnExactRenameSet", apart := false, narrowed := true }
def FnExactRenameSetUptoSaid : Prop := fnExactRenameSetUptoRow.holds Try.pinned (OpenSpec.upto fnExactRenameSetSpec)

/-- 'laws.FnExactCascadeOf', WHERE WHAT IT READS IS OF BULK AT MOST 1048576: true; the input reads as it did. -/
def fnExactCascadeOfUptoRow : OpenClaim := { program := "ytkjkcnhohcblmaa", sum := "a820d8de8822a9d9d13d6e7cda6eae0ce91c0916d05bd6a3330bd6545d53b94c", func := "loop.example/g03100/laws.FnExactCascadeOf", spec := "fnExactCascadeOf", apart := false, narrowed := true }
def FnExactCascadeOfUptoSaid : Prop := fnExactCascadeOfUptoRow.holds Try.pinned (OpenSpec.upto fnExactCascadeOfSpec)

/-- 'laws.FnExactMonomialsOf', WHERE WHAT IT READS IS OF BULK AT MOST 1048576: true; the input reads as it did. -/
def fnExactMonomialsOfUptoRow : OpenClaim := { program := "ytkjkcnhohcblmaa", sum := "a820d8de8822a9d9d13d6e7cda6eae0ce91c0916d05bd6a3330bd6545d53b94c", func := "loop.example/g03100/laws.FnExactMonomialsOf", spec := "fnExactMonomialsOf", recurses := true, apart := false, narrowed := true }
def FnExactMonomialsOfUptoSaid : Prop := fnExactMonomialsOfUptoRow.holds Try.pinned (OpenSpec.upto fnExactMonomialsOfSpec)

/-- 'laws.FnExactCountsFromH', WHERE WHAT IT READS IS OF BULK AT MOST 1048576: true; the input reads as it did. -/
def fnExactCountsFromHUptoRow : OpenClaim := { program := "ytkjkcnhohcblmaa", sum := "a820d8de8822a9d9d13d6e7cda6eae0ce91c0916d05bd6a3330bd6545d53b94c", func := "loop.example/g03100/laws.FnExactCountsFromH", spec := "fnExactCountsFromH", apart := false, narrowed := true }
def FnExactCountsFromHUptoSaid : Prop := fnExactCountsFromHUptoRow.holds Try.pinned (OpenSpec.upto fnExactCountsFromHSpec)

/-- 'laws.FnExactFirstMonomials', WHERE WHAT IT READS IS OF BULK AT MOST 1048576: true; the input reads as it did. -/
def fnExactFirstMonomialsUptoRow : OpenClaim := { program := "ytkjkcnhohcblmaa", sum := "a820d8de8822a9d9d13d6e7cda6eae0ce91c0916d05bd6a3330bd6545d53b94c", func := "loop.example/g03100/laws.FnExactFirstMonomials", spec := "fnExactFirstMonomials", recurses := true, apart := false, narrowed := true }
def FnExactFirstMonomialsUptoSaid : Prop := fnExactFirstMonomialsUptoRow.holds Try.pinned (OpenSpec.upto fnExactFirstMonomialsSpec)

/-- 'laws.FnExactAreFaceCounts', WHERE WHAT IT READS IS OF BULK AT MOST 1048576: true; the input reads as it did. -/
def fnExactAreFaceCountsUptoRow : OpenClaim := { program := "ytkjkcnhohcblmaa", sum := "a820d8de8822a9d9d13d6e7cda6eae0ce91c0916d05bd6a3330bd6545d53b94c", func := "loop.example/g03100/laws.FnExactAreFaceCounts", spec := "fnExactAreFaceCounts", apart := false, narrowed := true }
def FnExactAreFaceCountsUptoSaid : Prop := fnExactAreFaceCountsUptoRow.holds Try.pinned (OpenSpec.upto fnExactAreFaceCountsSpec)

/-- 'laws.FnExactAreMonomialCounts', WHERE WHAT IT READS IS OF BULK AT MOST 1048576: true; the input reads as it did. -/
def fnExactAreMonomialCountsUptoRow : OpenClaim := { program := "ytkjkcnhohcblmaa", sum := "a820d8de8822a9d9d13d6e7cda6eae0ce91c0916d05bd6a3330bd6545d53b94c", func := "loop.example/g03100/laws.FnExactAreMonomialCounts", spec := "fnExactAreMonomialCounts", apart := false, narrowed := true }
def FnExactAreMonomialCountsUptoSaid : Prop := fnExactAreMonomialCountsUptoRow.holds Try.pinned (OpenSpec.upto fnExactAreMonomialCountsSpec)

/-- 'laws.FnExactTurnMatrix', WHERE WHAT IT READS IS OF BULK AT MOST 1048576: true; the input reads as it did. -/
def fnExactTurnMatrixUptoRow : OpenClaim := { program := "ytkjkcnhohcblmaa", sum := "a820d8de8822a9d9d13d6e7cda6eae0ce91c0916d05bd6a3330bd6545d53b94c", func := "loop.example/g03100/laws.FnExactTurnMatrix", spec := "fnExactTurnMatrix", apart := false, narrowed := true }
def FnExactTurnMatrixUptoSaid : Prop := fnExactTurnMatrixUptoRow.holds Try.pinned (OpenSpec.upto fnExactTurnMatrixSpec)

/-- 'laws.FnExactFirstSets', WHERE WHAT IT READS IS OF BULK AT MOST 1048576: true; the input reads as it did. -/
def fnExactFirstSetsUptoRow : OpenClaim := { program := "ytkjkcnhohcblmaa", sum := "a820d8de8822a9d9d13d6e7cda6eae0ce91c0916d05bd6a3330bd6545d53b94c", func := "loop.example/g03100/laws.FnExactFirstSets", spec := "fnExactFirstSets", apart := false, narrowed := true }
def FnExactFirstSetsUptoSaid : Prop := fnExactFirstSetsUptoRow.holds Try.pinned (OpenSpec.upto fnExactFirstSetsSpec)

/-- 'laws.FnExactTimesMatrix', WHERE WHAT IT READS IS OF BULK AT MOST 1048576: true; the input reads as it did. -/
def fnExactTimesMatrixUptoRow : OpenClaim := { program := "ytkjkcnhohcblmaa", sum := "a820d8de8822a9d9d13d6e7cda6eae0ce91c0916d05bd6a3330bd6545d53b94c", func := "loop.example/g03100/laws.FnExactTimesMatrix", spec := "fnExactTimesMatrix", apart := false, narrowed := true }
def FnExactTimesMatrixUptoSaid : Prop := fnExactTimesMatrixUptoRow.holds Try.pinned (OpenSpec.upto fnExactTimesMatrixSpec)

/-- 'laws.FnExactRankMod', WHERE WHAT IT READS IS OF BULK AT MOST 1048576: true; the input reads as it did. -/
def fnExactRankModUptoRow : OpenClaim := { program := "ytkjkcnhohcblmaa", sum := "a820d8de8822a9d9d13d6e7cda6eae0ce91c0916d05bd6a3330bd6545d53b94c", func := "loop.example/g03100/laws.FnExactRankMod", spec := "fnExactRankMod", apart := false, narrowed := true }
def FnExactRankModUptoSaid : Prop := fnExactRankModUptoRow.holds Try.pinned (OpenSpec.upto fnExactRankModSpec)

end Rows
end Go.Proofs.Ytkjkcnhohcblmaa
