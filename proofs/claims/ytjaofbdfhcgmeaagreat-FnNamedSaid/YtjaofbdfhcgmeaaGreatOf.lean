/-
  Lists of sets of n points: the complex of them, their covers, the complex of what avoids them.
-/
import Derived.Test.YtjaofbdfhcgmeaaGreatMiss
namespace Go.Proofs.YtjaofbdfhcgmeaaGreat
open Go.RowKit

def AreS (n : Int) (xs : List Int) : Prop := 1 ≤ n ∧ n ≤ 6 ∧ xs.length ≤ 64 ∧ ∀ x ∈ xs, 0 ≤ x ∧ x < pw n
instance (n : Int) (xs : List Int) : Decidable (AreS n xs) := by unfold AreS; exact inferInstance
def areB (n : Int) (xs : List Int) : Bool := decide (AreS n xs)
theorem areB_t {n : Int} {xs : List Int} (h : AreS n xs) : areB n xs = true := by simp [areB, h]
theorem areB_f {n : Int} {xs : List Int} (h : ¬ AreS n xs) : areB n xs = false := by simp [areB, h]
theorem areB_iff {n : Int} {xs : List Int} : areB n xs = true ↔ AreS n xs := by simp [areB]
theorem AreS.rng {n : Int} {xs : List Int} (h : AreS n xs) : ∀ x ∈ xs, 0 ≤ x ∧ x < 64 := fun x hx => by
  have h1 := h.2.2.2 x hx
  have h2 := pw_rng (by have := h.1; omega) h.2.1
  omega
theorem not_are_set {n : Int} {xs : List Int} {j : Nat} (hj : j < xs.length) (h : isSetB n (gi xs j) = false) : areB n xs = false := areB_f fun hc => by
  have h1 := hc.2.2.2 _ (gi_mem hj)
  rw [isSet_pw.2 ⟨by have := hc.1; omega, hc.2.1, h1.1, h1.2⟩] at h
  cases h
/-- The number of points, the sets of an answer that may be none. -/
def resN (b : Bool) (n : Int) : Int := if b = true then n else 0
def resL (b : Bool) (L : List Int) : List Int := if b = true then L else []
theorem resL_len (b : Bool) (L : List Int) (h : L.length ≤ 448) : (resL b L).length ≤ 1000000 := by
  unfold resL
  split
  · omega
  · simp



/-! ### Covers -/

def coverP (xs : List Int) (s : Int) : Bool := xs.all fun t => bits .and .i64 s t != 0
def covB (n : Int) (xs : List Int) : List Int := if AreS n xs then minL (upToP (pw n) (coverP xs)) else []
theorem covB_len (n : Int) (xs : List Int) : (covB n xs).length ≤ 448 := by
  unfold covB; split
  · exact minL_len _
  · simp
theorem mem_numTo_pw {n : Int} (Q : Int → Bool) {s : Int} (h0 : 0 ≤ s) (n0 : 0 ≤ n) (n6 : n ≤ 6) : mem (numTo Q (pw n).toNat) s = upToP (pw n) Q s := bool_ext (by
  have := pw_rng n0 n6
  rw [mem_iff, mem_numTo]
  simp only [upToP, Bool.and_eq_true, decide_eq_true_eq]
  constructor
  · rintro ⟨_, b, c⟩; exact ⟨by omega, c⟩
  · rintro ⟨b, c⟩; exact ⟨h0, by omega, c⟩)
theorem numTo_pw_rng {n : Int} {Q : Int → Bool} (n0 : 0 ≤ n) (n6 : n ≤ 6) : ∀ x ∈ numTo Q (pw n).toNat, 0 ≤ x ∧ x < 64 := fun x h => by
  have := mem_numTo.1 h
  have := pw_rng n0 n6
  omega


end Go.Proofs.YtjaofbdfhcgmeaaGreat
