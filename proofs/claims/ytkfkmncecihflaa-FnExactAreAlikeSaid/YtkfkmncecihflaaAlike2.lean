/-
  Complexes that are alike up to names: the reference's function.
-/
import Derived.Test.YtkfkmncecihflaaAlike
namespace Go.Proofs.Ytkfkmncecihflaa
open Go.RowKit

set_option maxHeartbeats 4000000 in
set_option maxRecDepth 100000 in
theorem sAreAlike_c (n m : Int) (va vb : Value) (fs gs : List Int) (w : World) (ha : Rd w va (ints fs)) (hb : Rd w vb (ints gs)) : Calls Try.prog 45 #[cx n va, cx m vb] w fun e w' => e = .returned (.bool (alikeB n fs m gs)) ∧ Below w.heap.size w w' := by
  obtain ⟨p1, l1, k1, rfl⟩ := ha.form
  obtain ⟨p2, l2, k2, rfl⟩ := hb.form
  have hS := ((St.start w).box n (.slice p1 l1 k1) 38).boxAt m (.slice p2 l2 k2) 38 (H := w.heap.size + 1) (by simp)
  have ha' := hS.old ha
  have HS := hid hS
  clear hS
  have HCA := hid (sCanonicalComplex_c n (.slice p1 l1 k1) fs _ ha')
  have HCB : Hid (∀ w, Rd w (.slice p2 l2 k2) (ints gs) → _) := fun w h => sCanonicalComplex_c m (.slice p2 l2 k2) gs w h
  cases h1 : isC n fs with
  | false =>
    have E : Hid (alikeB n fs m gs = false) := by show _ = _; rw [alikeB, h1]; rfl
    rw [h1] at HCA
    unfold cx
    go_enter Try.func45, Try.ntmps45
    go_wp2_with fail
    refine HCA.out.mono ?_
    rintro e w3 ⟨v3, rfl, hS3⟩
    obtain ⟨p6, l6, k6, rfl⟩ := hS3.hd.form
    have hS8 := (HS.out.call1 hS3).box (resN false n) (.slice p6 l6 k6) 38
    have x0 := hS8.hd3.c0
    have x1 := hS8.hd3.c1
    have HS8 := hid hS8
    clear hS3 hS8
    unfold cx
    go_wp2_with fail
    refine (HCB.out _ (HS8.out.old hb)).mono ?_
    rintro e w7 ⟨v7, rfl, hS9⟩
    obtain ⟨p7, l7, k7, rfl⟩ := hS9.hd.form
    have HS10 := hid ((HS8.out.call1 hS9).box (resN (isC m gs) m) (.slice p7 l7 k7) 38)
    clear hS9
    unfold cx
    go_wp2_with fail
    go_ret
    exact ⟨ret_bool E.out.symm, HS10.out.bel⟩
  | true =>
    rw [h1] at HCA
    cases h2 : isC m gs with
    | false =>
      have E : Hid (alikeB n fs m gs = false) := by show _ = _; rw [alikeB, h1, h2]; rfl
      rw [h2] at HCB
      unfold cx
      go_enter Try.func45, Try.ntmps45
      go_wp2_with fail
      refine HCA.out.mono ?_
      rintro e w3 ⟨v3, rfl, hS3⟩
      obtain ⟨p6, l6, k6, rfl⟩ := hS3.hd.form
      have hS8 := (HS.out.call1 hS3).box (resN true n) (.slice p6 l6 k6) 38
      have x0 := hS8.hd3.c0
      have x1 := hS8.hd3.c1
      have HS8 := hid hS8
      clear hS3 hS8
      unfold cx
      go_wp2_with fail
      refine (HCB.out _ (HS8.out.old hb)).mono ?_
      rintro e w7 ⟨v7, rfl, hS9⟩
      obtain ⟨p7, l7, k7, rfl⟩ := hS9.hd.form
      have HS10 := hid ((HS8.out.call1 hS9).box (resN false m) (.slice p7 l7 k7) 38)
      clear hS9
      unfold cx
      go_wp2_with fail
      go_ret
      exact ⟨ret_bool E.out.symm, HS10.out.bel⟩
    | true =>
      have E : Hid (alikeB n fs m gs = eqC (resN true n) (resL true (canL n fs)) (resN true m) (resL true (canL m gs))) := by show _ = _; rw [alikeB, h1, h2, eqC]; simp [resN, resL]
      rw [h2] at HCB
      unfold cx
      go_enter Try.func45, Try.ntmps45
      go_wp2_with fail
      refine HCA.out.mono ?_
      rintro e w3 ⟨v3, rfl, hS3⟩
      obtain ⟨p6, l6, k6, rfl⟩ := hS3.hd.form
      have hS8 := (HS.out.call1 hS3).box (resN true n) (.slice p6 l6 k6) 38
      have x0 := hS8.hd3.c0
      have x1 := hS8.hd3.c1
      have HS8 := hid hS8
      clear hS3 hS8
      unfold cx
      go_wp2_with fail
      refine (HCB.out _ (HS8.out.old hb)).mono ?_
      rintro e w7 ⟨v7, rfl, hS9⟩
      obtain ⟨p7, l7, k7, rfl⟩ := hS9.hd.form
      have hS10 := (HS8.out.call1 hS9).box (resN true m) (.slice p7 l7 k7) 38
      clear x0 x1
      have x0 := hS10.hd.c0
      have x1 := hS10.hd.c1
      have y0 := hS10.hd3.c0
      have y1 := hS10.hd3.c1
      have HS10 := hid hS10
      clear hS9 hS10
      unfold cx
      go_wp2_with fail
      refine (sEqualComplex_c _ _ _ _ _ _ _ HS10.out.hd4 HS10.out.hd2).mono ?_
      rintro e w8 ⟨rfl, hB⟩
      have HS11 := hid (HS10.out.quiet hB)
      clear hB
      go_wp2_with fail
      go_ret
      exact ⟨ret_bool E.out.symm, HS11.out.bel⟩

end Go.Proofs.Ytkfkmncecihflaa
