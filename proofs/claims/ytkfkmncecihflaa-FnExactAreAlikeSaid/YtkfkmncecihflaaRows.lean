/-
  No cell of these rows narrows 'for every input' (looked for: loops, veiled, ifaces, maps, wideKeys, modest, calm, conditions, laid).
  DERIVED. THE GIVEN ROWS OF THIS SEAT. 10 by the template 'for every input the law returns true; each argument reads behind the call as it read before'; 0 by the template 'total and deterministic' (their statements: YtkfkmncecihflaaTotals.lean).
  GIVEN WITH THE SEED: the statements are not yours to turn. If you find one false, say at which input.
  Laid BY PROGRAM, IN A SANDBOX (cutbox-rows.mjs): the forced cells as the released guide's own fill.sh prints them over the translation 46d7d02bf20776b5… (all of the seat's roots in one cut). By AI agents, Wed Nov 11 2026. No macro, syntax, notation, axiom, sorry.
-/
import Derived.Test.YtkfkmncecihflaaChecked
import GoSem.Claim
import GoSem.ClaimJoined
import GoSem.ClaimMapViews
import Derived.JoinedTies
import Derived.KernelRfl
namespace Go.Proofs.Ytkfkmncecihflaa
/- THE CELL 'sum', in the pinned program and in every row, IS THE sha256 OF THE DUMP (.gsa) THAT YtkfkmncecihflaaProg.lean LOADS. Nothing in Lean hashes anything: it is a label: what it is worth is what the hold of that sum in a sandbox is worth. -/
noncomputable def Try.pinned : Pinned := { name := "ytkfkmncecihflaa", sum := "46d7d02bf20776b5dbbde4ca11ba0c7ddf558f3af9857712080665e14d0fbd77", checked := Try.checked }
namespace Rows
def none {H : Type} : Left H := { results := [], args := [] }

/-- 'laws.FnExactMonomialsOf': WHATEVER THE INPUT: true; the input reads as it did. -/
def fnExactMonomialsOfSpec : ChangeSpec := { name := "fnExactMonomialsOf", fn := fun _ => fun
  | [d1, d2] => { results := [.lit (.bool true)], args := [d1, d2] }
  | _ => none }
def fnExactMonomialsOfRow : OpenClaim := { program := "ytkfkmncecihflaa", sum := "46d7d02bf20776b5dbbde4ca11ba0c7ddf558f3af9857712080665e14d0fbd77", func := "loop.example/g03100/laws.FnExactMonomialsOf", spec := "fnExactMonomialsOf", recurses := true, apart := false }
def FnExactMonomialsOfSaid : Prop := fnExactMonomialsOfRow.holds Try.pinned (OpenSpec.ofChange fnExactMonomialsOfSpec)

/-- ITS FALSE NEIGHBOUR: 'it returns false'. Refute it at one input. -/
def fnExactMonomialsOfWrong : ChangeSpec := { name := "fnExactMonomialsOf", fn := fun _ => fun
  | [d1, d2] => { results := [.lit (.bool false)], args := [d1, d2] }
  | _ => none }
def FnExactMonomialsOfWrongFalsely : Prop := fnExactMonomialsOfRow.holds Try.pinned (OpenSpec.ofChange fnExactMonomialsOfWrong)

/-- 'laws.FnExactFirstMonomials': WHATEVER THE INPUT: true; the input reads as it did. -/
def fnExactFirstMonomialsSpec : ChangeSpec := { name := "fnExactFirstMonomials", fn := fun _ => fun
  | [d1, d2, d3] => { results := [.lit (.bool true)], args := [d1, d2, d3] }
  | _ => none }
def fnExactFirstMonomialsRow : OpenClaim := { program := "ytkfkmncecihflaa", sum := "46d7d02bf20776b5dbbde4ca11ba0c7ddf558f3af9857712080665e14d0fbd77", func := "loop.example/g03100/laws.FnExactFirstMonomials", spec := "fnExactFirstMonomials", recurses := true, apart := false }
def FnExactFirstMonomialsSaid : Prop := fnExactFirstMonomialsRow.holds Try.pinned (OpenSpec.ofChange fnExactFirstMonomialsSpec)

/-- ITS FALSE NEIGHBOUR: 'it returns false'. Refute it at one input. -/
def fnExactFirstMonomialsWrong : ChangeSpec := { name := "fnExactFirstMonomials", fn := fun _ => fun
  | [d1, d2, d3] => { results := [.lit (.bool false)], args := [d1, d2, d3] }
  | _ => none }
def FnExactFirstMonomialsWrongFalsely : Prop := fnExactFirstMonomialsRow.holds Try.pinned (OpenSpec.ofChange fnExactFirstMonomialsWrong)

/-- 'laws.FnExactTurnMatrix': WHATEVER THE INPUT: true; the input reads as it did. -/
def fnExactTurnMatrixSpec : ChangeSpec := { name := "fnExactTurnMatrix", fn := fun _ => fun
  | [d] => { results := [.lit (.bool true)], args := [d] }
  | _ => none }
def fnExactTurnMatrixRow : OpenClaim := { program := "ytkfkmncecihflaa", sum := "46d7d02bf20776b5dbbde4ca11ba0c7ddf558f3af9857712080665e14d0fbd77", func := "loop.example/g03100/laws.FnExactTurnMatrix", spec := "fnExactTurnMatrix", apart := false }
def FnExactTurnMatrixSaid : Prop := fnExactTurnMatrixRow.holds Try.pinned (OpenSpec.ofChange fnExactTurnMatrixSpec)

/-- ITS FALSE NEIGHBOUR: 'it returns false'. Refute it at one input. -/
def fnExactTurnMatrixWrong : ChangeSpec := { name := "fnExactTurnMatrix", fn := fun _ => fun
  | [d] => { results := [.lit (.bool false)], args := [d] }
  | _ => none }
def FnExactTurnMatrixWrongFalsely : Prop := fnExactTurnMatrixRow.holds Try.pinned (OpenSpec.ofChange fnExactTurnMatrixWrong)

/-- 'laws.FnExactTimesMatrix': WHATEVER THE INPUT: true; the input reads as it did. -/
def fnExactTimesMatrixSpec : ChangeSpec := { name := "fnExactTimesMatrix", fn := fun _ => fun
  | [d1, d2] => { results := [.lit (.bool true)], args := [d1, d2] }
  | _ => none }
def fnExactTimesMatrixRow : OpenClaim := { program := "ytkfkmncecihflaa", sum := "46d7d02bf20776b5dbbde4ca11ba0c7ddf558f3af9857712080665e14d0fbd77", func := "loop.example/g03100/laws.FnExactTimesMatrix", spec := "fnExactTimesMatrix", apart := false }
def FnExactTimesMatrixSaid : Prop := fnExactTimesMatrixRow.holds Try.pinned (OpenSpec.ofChange fnExactTimesMatrixSpec)

/-- ITS FALSE NEIGHBOUR: 'it returns false'. Refute it at one input. -/
def fnExactTimesMatrixWrong : ChangeSpec := { name := "fnExactTimesMatrix", fn := fun _ => fun
  | [d1, d2] => { results := [.lit (.bool false)], args := [d1, d2] }
  | _ => none }
def FnExactTimesMatrixWrongFalsely : Prop := fnExactTimesMatrixRow.holds Try.pinned (OpenSpec.ofChange fnExactTimesMatrixWrong)

/-- 'laws.FnExactRankMod': WHATEVER THE INPUT: true; the input reads as it did. -/
def fnExactRankModSpec : ChangeSpec := { name := "fnExactRankMod", fn := fun _ => fun
  | [d1, d2] => { results := [.lit (.bool true)], args := [d1, d2] }
  | _ => none }
def fnExactRankModRow : OpenClaim := { program := "ytkfkmncecihflaa", sum := "46d7d02bf20776b5dbbde4ca11ba0c7ddf558f3af9857712080665e14d0fbd77", func := "loop.example/g03100/laws.FnExactRankMod", spec := "fnExactRankMod", apart := false }
def FnExactRankModSaid : Prop := fnExactRankModRow.holds Try.pinned (OpenSpec.ofChange fnExactRankModSpec)

/-- ITS FALSE NEIGHBOUR: 'it returns false'. Refute it at one input. -/
def fnExactRankModWrong : ChangeSpec := { name := "fnExactRankMod", fn := fun _ => fun
  | [d1, d2] => { results := [.lit (.bool false)], args := [d1, d2] }
  | _ => none }
def FnExactRankModWrongFalsely : Prop := fnExactRankModRow.holds Try.pinned (OpenSpec.ofChange fnExactRankModWrong)

/-- 'laws.FnExactRenameComplex': WHATEVER THE INPUT: true; the input reads as it did. -/
def fnExactRenameComplexSpec : ChangeSpec := { name := "fnExactRenameComplex", fn := fun _ => fun
  | [d1, d2] => { results := [.lit (.bool true)], args := [d1, d2] }
  | _ => none }
def fnExactRenameComplexRow : OpenClaim := { program := "ytkfkmncecihflaa", sum := "46d7d02bf20776b5dbbde4ca11ba0c7ddf558f3af9857712080665e14d0fbd77", func := "loop.example/g03100/laws.FnExactRenameComplex", spec := "fnExactRenameComplex", unfollowed := true, recurses := true, apart := false }
def FnExactRenameComplexSaid : Prop := fnExactRenameComplexRow.holds Try.pinned (OpenSpec.ofChange fnExactRenameComplexSpec)

/-- ITS FALSE NEIGHBOUR: 'it returns false'. Refute it at one input. -/
def fnExactRenameComplexWrong : ChangeSpec := { name := "fnExactRenameComplex", fn := fun _ => fun
  | [d1, d2] => { results := [.lit (.bool false)], args := [d1, d2] }
  | _ => none }
def FnExactRenameComplexWrongFalsely : Prop := fnExactRenameComplexRow.holds Try.pinned (OpenSpec.ofChange fnExactRenameComplexWrong)

/-- 'laws.FnExactCountSymmetries': WHATEVER THE INPUT: true; the input reads as it did. -/
def fnExactCountSymmetriesSpec : ChangeSpec := { name := "fnExactCountSymmetries", fn := fun _ => fun
  | [d] => { results := [.lit (.bool true)], args := [d] }
  | _ => none }
def fnExactCountSymmetriesRow : OpenClaim := { program := "ytkfkmncecihflaa", sum := "46d7d02bf20776b5dbbde4ca11ba0c7ddf558f3af9857712080665e14d0fbd77", func := "loop.example/g03100/laws.FnExactCountSymmetries", spec := "fnExactCountSymmetries", unfollowed := true, recurses := true, apart := false }
def FnExactCountSymmetriesSaid : Prop := fnExactCountSymmetriesRow.holds Try.pinned (OpenSpec.ofChange fnExactCountSymmetriesSpec)

/-- ITS FALSE NEIGHBOUR: 'it returns false'. Refute it at one input. -/
def fnExactCountSymmetriesWrong : ChangeSpec := { name := "fnExactCountSymmetries", fn := fun _ => fun
  | [d] => { results := [.lit (.bool false)], args := [d] }
  | _ => none }
def FnExactCountSymmetriesWrongFalsely : Prop := fnExactCountSymmetriesRow.holds Try.pinned (OpenSpec.ofChange fnExactCountSymmetriesWrong)

/-- 'laws.FnExactPointClasses': WHATEVER THE INPUT: true; the input reads as it did. -/
def fnExactPointClassesSpec : ChangeSpec := { name := "fnExactPointClasses", fn := fun _ => fun
  | [d] => { results := [.lit (.bool true)], args := [d] }
  | _ => none }
def fnExactPointClassesRow : OpenClaim := { program := "ytkfkmncecihflaa", sum := "46d7d02bf20776b5dbbde4ca11ba0c7ddf558f3af9857712080665e14d0fbd77", func := "loop.example/g03100/laws.FnExactPointClasses", spec := "fnExactPointClasses", unfollowed := true, recurses := true, apart := false }
def FnExactPointClassesSaid : Prop := fnExactPointClassesRow.holds Try.pinned (OpenSpec.ofChange fnExactPointClassesSpec)

/-- ITS FALSE NEIGHBOUR: 'it returns false'. Refute it at one input. -/
def fnExactPointClassesWrong : ChangeSpec := { name := "fnExactPointClasses", fn := fun _ => fun
  | [d] => { results := [.lit (.bool false)], args := [d] }
  | _ => none }
def FnExactPointClassesWrongFalsely : Prop := fnExactPointClassesRow.holds Try.pinned (OpenSpec.ofChange fnExactPointClassesWrong)

/-- 'laws.FnExactCanonicalComplex': WHATEVER THE INPUT: true; the input reads as it did. -/
def fnExactCanonicalComplexSpec : ChangeSpec := { name := "fnExactCanonicalComplex", fn := fun _ => fun
  | [d] => { results := [.lit (.bool true)], args := [d] }
  | _ => none }
def fnExactCanonicalComplexRow : OpenClaim := { program := "ytkfkmncecihflaa", sum := "46d7d02bf20776b5dbbde4ca11ba0c7ddf558f3af9857712080665e14d0fbd77", func := "loop.example/g03100/laws.FnExactCanonicalComplex", spec := "fnExactCanonicalComplex", unfollowed := true, recurses := true, apart := false }
def FnExactCanonicalComplexSaid : Prop := fnExactCanonicalComplexRow.holds Try.pinned (OpenSpec.ofChange fnExactCanonicalComplexSpec)

/-- ITS FALSE NEIGHBOUR: 'it returns false'. Refute it at one input. -/
def fnExactCanonicalComplexWrong : ChangeSpec := { name := "fnExactCanonicalComplex", fn := fun _ => fun
  | [d] => { results := [.lit (.bool false)], args := [d] }
  | _ => none }
def FnExactCanonicalComplexWrongFalsely : Prop := fnExactCanonicalComplexRow.holds Try.pinned (OpenSpec.ofChange fnExactCanonicalComplexWrong)

/-- 'laws.FnExactAreAlike': WHATEVER THE INPUT: true; the input reads as it did. -/
def fnExactAreAlikeSpec : ChangeSpec := { name := "fnExactAreAlike", fn := fun _ => fun
  | [d1, d2] => { results := [.lit (.bool true)], args := [d1, d2] }
  | _ => none }
def fnExactAreAlikeRow : OpenClaim := { program := "ytkfkmncecihflaa", sum := "46d7d02bf20776b5dbbde4ca11ba0c7ddf558f3af9857712080665e14d0fbd77", func := "loop.example/g03100/laws.FnExactAreAlike", spec := "fnExactAreAlike", unfollowed := true, recurses := true, apart := false }
def FnExactAreAlikeSaid : Prop := fnExactAreAlikeRow.holds Try.pinned (OpenSpec.ofChange fnExactAreAlikeSpec)

/-- ITS FALSE NEIGHBOUR: 'it returns false'. Refute it at one input. -/
def fnExactAreAlikeWrong : ChangeSpec := { name := "fnExactAreAlike", fn := fun _ => fun
  | [d1, d2] => { results := [.lit (.bool false)], args := [d1, d2] }
  | _ => none }
def FnExactAreAlikeWrongFalsely : Prop := fnExactAreAlikeRow.holds Try.pinned (OpenSpec.ofChange fnExactAreAlikeWrong)

/- THE SECOND FORM. 'bulk': how many values and letters a reading holds, each counted each time it is reached (what is shared counts as often as it is met; a slice's spare places count too). A statement '..UptoSaid' is the law's where the arguments, and the package variables that the reading takes, are together of bulk at most 1048576: NARROWER than '..Said'. Prove '..Said' where nothing that the law and all that it calls make is longer than what came in: it says more and counts as full. Else prove '..UptoSaid'. A law counts once. -/
mutual
def uptoBulk {H : Type} : DataW H → Nat
  | .lit (.string bytes) => bytes.length + 1
  | .lit _ => 1
  | .nil => 1
  | .ptr d => uptoBulk d + 1
  | .slice elems spare => uptoBulkAll elems + uptoBulkAll spare + 1
  | .agg parts => uptoBulkAll parts + 1
  | .iface _ d => uptoBulk d + 1
  | .map entries => uptoBulkEntries entries + 1
  | .held _ => 1
def uptoBulkAll {H : Type} : List (DataW H) → Nat
  | [] => 0
  | d :: r => uptoBulk d + uptoBulkAll r
def uptoBulkEntries {H : Type} : List (Lit × DataW H) → Nat
  | [] => 0
  | x :: r => uptoBulkEntry x + uptoBulkEntries r
def uptoBulkEntry {H : Type} : Lit × DataW H → Nat
  | (.string bytes, d) => bytes.length + uptoBulk d + 1
  | (_, d) => uptoBulk d + 1
 end
def uptoSmall : (H : Type) → List (DataW H) → Bool := fun _ ds => decide (uptoBulkAll ds ≤ 1048576)
def OpenSpec.upto (s : _root_.Go.ChangeSpec) : _root_.Go.OpenSpec := { _root_.Go.OpenSpec.ofChange s with cond := some uptoSmall }

/-- 'laws.FnExactMonomialsOf', WHERE WHAT IT READS IS OF BULK AT MOST 1048576: true; the input reads as it did. -/
def fnExactMonomialsOfUptoRow : OpenClaim := { program := "ytkfkmncecihflaa", sum := "46d7d02bf20776b5dbbde4ca11ba0c7ddf558f3af9857712080665e14d0fbd77", func := "loop.example/g03100/laws.FnExactMonomialsOf", spec := "fnExactMonomialsOf", recurses := true, apart := false, narrowed := true }
def FnExactMonomialsOfUptoSaid : Prop := fnExactMonomialsOfUptoRow.holds Try.pinned (OpenSpec.upto fnExactMonomialsOfSpec)

/-- 'laws.FnExactFirstMonomials', WHERE WHAT IT READS IS OF BULK AT MOST 1048576: true; the input reads as it did. -/
def fnExactFirstMonomialsUptoRow : OpenClaim := { program := "ytkfkmncecihflaa", sum := "46d7d02bf20776b5dbbde4ca11ba0c7ddf558f3af9857712080665e14d0fbd77", func := "loop.example/g03100/laws.FnExactFirstMonomials", spec := "fnExactFirstMonomials", recurses := true, apart := false, narrowed := true }
def FnExactFirstMonomialsUptoSaid : Prop := fnExactFirstMonomialsUptoRow.holds Try.pinned (OpenSpec.upto fnExactFirstMonomialsSpec)

/-- 'laws.FnExactTurnMatrix', WHERE WHAT IT READS IS OF BULK AT MOST 1048576: true; the input reads as it did. -/
def fnExactTurnMatrixUptoRow : OpenClaim := { program := "ytkfkmncecihflaa", sum := "46d7d02bf20776b5dbbde4ca11ba0c7ddf558f3af9857712080665e14d0fbd77", func := "loop.example/g03100/laws.FnExactTurnMatrix", spec := "fnExactTurnMatrix", apart := false, narrowed := true }
def FnExactTurnMatrixUptoSaid : Prop := fnExactTurnMatrixUptoRow.holds Try.pinned (OpenSpec.upto fnExactTurnMatrixSpec)

/-- 'laws.FnExactTimesMatrix', WHERE WHAT IT READS IS OF BULK AT MOST 1048576: true; the input reads as it did. -/
def fnExactTimesMatrixUptoRow : OpenClaim := { program := "ytkfkmncecihflaa", sum := "46d7d02bf20776b5dbbde4ca11ba0c7ddf558f3af9857712080665e14d0fbd77", func := "loop.example/g03100/laws.FnExactTimesMatrix", spec := "fnExactTimesMatrix", apart := false, narrowed := true }
def FnExactTimesMatrixUptoSaid : Prop := fnExactTimesMatrixUptoRow.holds Try.pinned (OpenSpec.upto fnExactTimesMatrixSpec)

/-- 'laws.FnExactRankMod', WHERE WHAT IT READS IS OF BULK AT MOST 1048576: true; the input reads as it did. -/
def fnExactRankModUptoRow : OpenClaim := { program := "ytkfkmncecihflaa", sum := "46d7d02bf20776b5dbbde4ca11ba0c7ddf558f3af9857712080665e14d0fbd77", func := "loop.example/g03100/laws.FnExactRankMod", spec := "fnExactRankMod", apart := false, narrowed := true }
def FnExactRankModUptoSaid : Prop := fnExactRankModUptoRow.holds Try.pinned (OpenSpec.upto fnExactRankModSpec)

/-- 'laws.FnExactRenameComplex', WHERE WHAT IT READS IS OF BULK AT MOST 1048576: true; the input reads as it did. -/
def fnExactRenameComplexUptoRow : OpenClaim := { program := "ytkfkmncecihflaa", sum := "46d7d02bf20776b5dbbde4ca11ba0c7ddf558f3af9857712080665e14d0fbd77", func := "loop.example/g03100/laws.FnExactRenameComplex", spec := "fnExactRenameComplex", unfollowed := true, recurses := true, apart := false, narrowed := true }
def FnExactRenameComplexUptoSaid : Prop := fnExactRenameComplexUptoRow.holds Try.pinned (OpenSpec.upto fnExactRenameComplexSpec)

/-- 'laws.FnExactCountSymmetries', WHERE WHAT IT READS IS OF BULK AT MOST 1048576: true; the input reads as it did. -/
def fnExactCountSymmetriesUptoRow : OpenClaim := { program := "ytkfkmncecihflaa", sum := "46d7d02bf20776b5dbbde4ca11ba0c7ddf558f3af9857712080665e14d0fbd77", func := "loop.example/g03100/laws.FnExactCountSymmetries", spec := "fnExactCountSymmetries", unfollowed := true, recurses := true, apart := false, narrowed := true }
def FnExactCountSymmetriesUptoSaid : Prop := fnExactCountSymmetriesUptoRow.holds Try.pinned (OpenSpec.upto fnExactCountSymmetriesSpec)

/-- 'laws.FnExactPointClasses', WHERE WHAT IT READS IS OF BULK AT MOST 1048576: true; the input reads as it did. -/
def fnExactPointClassesUptoRow : OpenClaim := { program := "ytkfkmncecihflaa", sum := "46d7d02bf20776b5dbbde4ca11ba0c7ddf558f3af9857712080665e14d0fbd77", func := "loop.example/g03100/laws.FnExactPointClasses", spec := "fnExactPointClasses", unfollowed := true, recurses := true, apart := false, narrowed := true }
def FnExactPointClassesUptoSaid : Prop := fnExactPointClassesUptoRow.holds Try.pinned (OpenSpec.upto fnExactPointClassesSpec)

/-- 'laws.FnExactCanonicalComplex', WHERE WHAT IT READS IS OF BULK AT MOST 1048576: true; the input reads as it did. -/
def fnExactCanonicalComplexUptoRow : OpenClaim := { program := "ytkfkmncecihflaa", sum := "46d7d02bf20776b5dbbde4ca11ba0c7ddf558f3af9857712080665e14d0fbd77", func := "loop.example/g03100/laws.FnExactCanonicalComplex", spec := "fnExactCanonicalComplex", unfollowed := true, recurses := true, apart := false, narrowed := true }
def FnExactCanonicalComplexUptoSaid : Prop := fnExactCanonicalComplexUptoRow.holds Try.pinned (OpenSpec.upto fnExactCanonicalComplexSpec)

/-- 'laws.FnExactAreAlike', WHERE WHAT IT READS IS OF BULK AT MOST 1048576: true; the input reads as it did. -/
def fnExactAreAlikeUptoRow : OpenClaim := { program := "ytkfkmncecihflaa", sum := "46d7d02bf20776b5dbbde4ca11ba0c7ddf558f3af9857712080665e14d0fbd77", func := "loop.example/g03100/laws.FnExactAreAlike", spec := "fnExactAreAlike", unfollowed := true, recurses := true, apart := false, narrowed := true }
def FnExactAreAlikeUptoSaid : Prop := fnExactAreAlikeUptoRow.holds Try.pinned (OpenSpec.upto fnExactAreAlikeSpec)

end Rows
end Go.Proofs.Ytkfkmncecihflaa
