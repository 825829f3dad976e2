/-
  The number of the names that keep a complex.
-/
import Derived.Test.YtkfkmncecihflaaSyms2
namespace Go.Proofs.Ytkfkmncecihflaa
open Go.RowKit

def symN (n : Int) (fs : List Int) : Int := if isC n fs = true then ((symL n fs).length : Int) else 0
set_option maxHeartbeats 1000000 in
theorem CountSymmetries_c (n : Int) (va : Value) (fs : List Int) (w : World) (ha : Rd w va (ints fs)) : Calls Try.prog 39 #[cx n va] w fun e w' => e = .returned (.int .i64 (symN n fs)) ∧ Below w.heap.size w w' := by
  obtain ⟨p1, l1, k1, rfl⟩ := ha.form
  have hS := (St.start w).box n (.slice p1 l1 k1) 38
  have ha' := hS.old ha
  have HS := hid hS
  clear hS
  cases h1 : isC n fs with
  | false =>
    have E : Hid (symN n fs = 0) := if_neg (by simp [h1])
    unfold cx
    go_enter Try.func39, Try.ntmps39
    go_wp2_with fail
    refine (IsComplex_c n _ fs _ ha').mono ?_
    rw [h1]
    rintro e w1 ⟨rfl, hB⟩
    have HS1 := hid (HS.out.quiet hB)
    clear hB
    go_wp2_with fail
    go_ret
    exact ⟨by rw [E.out]; rfl, HS1.out.bel⟩
  | true =>
    have E : Hid (symN n fs = ((symL n fs).length : Int)) := if_pos h1
    have HC := hid (isC_iff.1 h1)
    unfold cx
    go_enter Try.func39, Try.ntmps39
    go_wp2_with fail
    refine (IsComplex_c n _ fs _ ha').mono ?_
    rw [h1]
    rintro e w1 ⟨rfl, hB⟩
    have HS1 := hid (HS.out.quiet hB)
    have d0 := HS1.out.hd.c0
    have d1 := HS1.out.hd.c1
    clear hB
    go_wp2_with fail
    refine (symmetriesOf_c n _ fs _ (HS1.out.old ha) HC.out).mono ?_
    rintro e w2 ⟨v, vs, rfl, hl, hS2⟩
    have lv := (hS2.rdM hl).ln
    have HS2 := hid (HS1.out.callM hS2)
    clear hS2 hl
    go_wp2_with fail
    go_ret
    exact ⟨by rw [E.out]; rfl, HS2.out.bel⟩

set_option maxHeartbeats 1000000 in
theorem sCountSymmetries_c (n : Int) (va : Value) (fs : List Int) (w : World) (ha : Rd w va (ints fs)) : Calls Try.prog 38 #[cx n va] w fun e w' => e = .returned (.int .i64 (symN n fs)) ∧ Below w.heap.size w w' := by
  obtain ⟨p1, l1, k1, rfl⟩ := ha.form
  have hS := (St.start w).box n (.slice p1 l1 k1) 38
  have ha' := hS.old ha
  have HS := hid hS
  clear hS
  cases h1 : isC n fs with
  | false =>
    have E : Hid (symN n fs = 0) := if_neg (by simp [h1])
    unfold cx
    go_enter Try.func38, Try.ntmps38
    go_wp2_with fail
    refine (sIsComplex_c n _ fs _ ha').mono ?_
    rw [h1]
    rintro e w1 ⟨rfl, hB⟩
    have HS1 := hid (HS.out.quiet hB)
    clear hB
    go_wp2_with fail
    go_ret
    exact ⟨by rw [E.out]; rfl, HS1.out.bel⟩
  | true =>
    have E : Hid (symN n fs = ((symL n fs).length : Int)) := if_pos h1
    have HC := hid (isC_iff.1 h1)
    unfold cx
    go_enter Try.func38, Try.ntmps38
    go_wp2_with fail
    refine (sIsComplex_c n _ fs _ ha').mono ?_
    rw [h1]
    rintro e w1 ⟨rfl, hB⟩
    have HS1 := hid (HS.out.quiet hB)
    have d0 := HS1.out.hd.c0
    have d1 := HS1.out.hd.c1
    clear hB
    go_wp2_with fail
    refine (l9Symmetries_c n _ fs _ (HS1.out.old ha) HC.out).mono ?_
    rintro e w2 ⟨v, vs, rfl, hl, hS2⟩
    have lv := (hS2.rdM hl).ln
    have HS2 := hid (HS1.out.callM hS2)
    clear hS2 hl
    go_wp2_with fail
    go_ret
    exact ⟨by rw [E.out]; rfl, HS2.out.bel⟩


end Go.Proofs.Ytkfkmncecihflaa
