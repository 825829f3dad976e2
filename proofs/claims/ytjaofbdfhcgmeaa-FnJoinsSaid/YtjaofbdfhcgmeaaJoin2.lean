/-
  Joins: the two functions.
-/
import Derived.Test.YtjaofbdfhcgmeaaJoin
namespace Go.Proofs.Ytjaofbdfhcgmeaa
open Go.RowKit

def fitB (n : Int) (xs : List Int) (m : Int) (ys : List Int) : Bool := isC n xs && (isC m ys && decide (n + m ≤ 6))
set_option maxHeartbeats 2000000 in
theorem l6Fit_c (n m : Int) (va vb : Value) (xs ys : List Int) (w : World) (ha : Rd w va (ints xs)) (hb : Rd w vb (ints ys)) : Calls Try.prog 138 #[cx n va, cx m vb] w fun e w' => e = .returned (.bool (fitB n xs m ys)) ∧ Below w.heap.size w w' := by
  obtain ⟨p1, l1, k1, rfl⟩ := ha.form
  obtain ⟨p2, l2, k2, rfl⟩ := hb.form
  have hS := ((St.start w).box n (.slice p1 l1 k1) 30).boxAt m (.slice p2 l2 k2) 30 (H := w.heap.size + 1) (by simp)
  have ha' := hS.old ha
  have HS := hid hS
  clear hS
  cases h1 : isC n xs with
  | false =>
    have E : Hid (fitB n xs m ys = false) := by show _ = _; rw [fitB, h1]; rfl
    unfold cx
    go_enter Try.func138, Try.ntmps138
    go_wp2_with fail
    refine (sIsComplex_c n _ xs _ ha').mono ?_
    rw [h1]
    rintro e w1 ⟨rfl, hB⟩
    have HS1 := hid (HS.out.quiet hB)
    clear hB
    go_wp2_with fail
    go_ret
    exact ⟨ret_bool E.out.symm, HS1.out.bel⟩
  | true =>
    obtain ⟨q1, q2, _⟩ := isC_iff.1 h1
    unfold cx
    go_enter Try.func138, Try.ntmps138
    go_wp2_with fail
    refine (sIsComplex_c n _ xs _ ha').mono ?_
    rw [h1]
    rintro e w1 ⟨rfl, hB⟩
    have HS1 := hid (HS.out.quiet hB)
    have d0 := HS1.out.hd.c0
    have d1 := HS1.out.hd.c1
    have e0 := HS1.out.hd2.c0
    have hb1 := HS1.out.old hb
    clear hB
    cases h2 : isC m ys with
    | false =>
      have E : Hid (fitB n xs m ys = false) := by show _ = _; rw [fitB, h1, h2]; rfl
      go_wp2_with fail
      refine (sIsComplex_c m _ ys _ hb1).mono ?_
      rw [h2]
      rintro e w2 ⟨rfl, hB⟩
      have HS2 := hid (HS1.out.quiet hB)
      clear hB
      go_wp2_with fail
      go_ret
      exact ⟨ret_bool E.out.symm, HS2.out.bel⟩
    | true =>
      obtain ⟨q3, q4, _⟩ := isC_iff.1 h2
      have E : Hid (fitB n xs m ys = decide (n + m ≤ 6)) := by show _ = _; rw [fitB, h1, h2]; rfl
      go_wp2_with fail
      refine (sIsComplex_c m _ ys _ hb1).mono ?_
      rw [h2]
      rintro e w2 ⟨rfl, hB⟩
      have HS2 := hid (HS1.out.quiet hB)
      have f0 := HS2.out.hd.c0
      have g0 := HS2.out.hd2.c0
      clear hB
      go_wp2_with fail
      go_ret
      exact ⟨ret_bool E.out.symm, HS2.out.bel⟩

def joinL (n : Int) (xs ys : List Int) : List Int := maxL (mem (pairs n xs ys))
theorem joinL_len (n : Int) (xs ys : List Int) : (joinL n xs ys).length ≤ 448 := maxL_len _
theorem pairs_rng {n m : Int} {xs ys : List Int} (n0 : 0 ≤ n) (m0 : 0 ≤ m) (h6 : n + m ≤ 6) (hx : ∀ x ∈ xs, 0 ≤ x ∧ x < pw n) (hy : ∀ y ∈ ys, 0 ≤ y ∧ y < pw m) : ∀ x ∈ pairs n xs ys, 0 ≤ x ∧ x < 64 := by
  intro x h
  obtain ⟨s, hs, h2⟩ := List.mem_flatMap.1 h
  obtain ⟨t, ht, rfl⟩ := List.mem_map.1 h2
  have h3 := hx s hs
  have h4 := hy t ht
  have := join_or n0 m0 h6 h3.1 h3.2 h4.1 h4.2
  exact this.2
theorem pairTo_rng {n m : Int} {xs ys : List Int} (n0 : 0 ≤ n) (m0 : 0 ≤ m) (h6 : n + m ≤ 6) (hx : ∀ x ∈ xs, 0 ≤ x ∧ x < pw n) (hy : ∀ y ∈ ys, 0 ≤ y ∧ y < pw m) {i k : Nat} (hi : i < xs.length) : ∀ x ∈ pairTo n xs ys i k, 0 ≤ x ∧ x < 64 := by
  intro x h
  refine pairs_rng n0 m0 h6 hx hy x ?_
  rw [pairTo, List.mem_append] at h
  rcases h with h | h
  · obtain ⟨s, hs, h2⟩ := List.mem_flatMap.1 h
    exact List.mem_flatMap.2 ⟨s, List.mem_of_mem_take hs, h2⟩
  · obtain ⟨t, ht, rfl⟩ := List.mem_map.1 h
    exact List.mem_flatMap.2 ⟨gi xs i, gi_mem hi, List.mem_map.2 ⟨t, List.mem_of_mem_take ht, rfl⟩⟩

end Go.Proofs.Ytjaofbdfhcgmeaa
