/-
  h numbers and what is told from them.
-/
import Derived.Test.YtjaofbdfhcgmeaaFaces
import Derived.Test.YtjaofbdfhcgmeaaNum
namespace Go.Proofs.Ytjaofbdfhcgmeaa
open Go.RowKit

theorem binom_fin : ∀ d : Fin 8, ∀ k : Fin 8, 0 ≤ chooseB (d.val : Int) (k.val : Int) ∧ chooseB (d.val : Int) (k.val : Int) ≤ 64 := by decide +kernel
theorem choose_small {d k : Int} (h7 : d ≤ 7) : 0 ≤ chooseB d k ∧ chooseB d k ≤ 64 := by
  by_cases h : 0 ≤ d ∧ 0 ≤ k ∧ k ≤ d
  · have := binom_fin ⟨d.toNat, by omega⟩ ⟨k.toNat, by omega⟩
    simp only [Int.toNat_of_nonneg h.1, Int.toNat_of_nonneg h.2.1] at this
    exact this
  · rw [chooseB, if_neg (by omega)]; omega
/-- The term of place k, of count i. -/
def hTerm (f : List Int) (k i : Nat) : Int := gi f i * chooseB ((f.length : Int) - 1 - (i : Int)) ((k : Int) - (i : Int))
def hSgn (k i : Nat) (x : Int) : Int := if (k - i) % 2 = 1 then -x else x
def hSum (f : List Int) (k : Nat) : Nat → Int
  | 0 => 0
  | i + 1 => hSum f k i + hSgn k i (hTerm f k i)
def hList (f : List Int) (k : Nat) : List Int := (List.range k).map fun j => hSum f j (j + 1)
theorem hList_succ (f : List Int) (k : Nat) : hList f (k + 1) = hList f k ++ [hSum f k (k + 1)] := by simp [hList, List.range_succ]
theorem hList_len (f : List Int) (k : Nat) : (hList f k).length = k := by simp [hList]
theorem hList_gi {f : List Int} {k j : Nat} (h : j < k) : gi (hList f k) j = hSum f j (j + 1) := by simp [gi, hList, List.getD, h]
def SmallF (f : List Int) : Prop := f.length ≤ 7 ∧ ∀ j, 0 ≤ gi f j ∧ gi f j ≤ 64
theorem hTerm_rng {f : List Int} (hf : SmallF f) (k i : Nat) : 0 ≤ hTerm f k i ∧ hTerm f k i ≤ 4096 := by
  have h1 := hf.2 i
  have h2 := choose_small (d := (f.length : Int) - 1 - (i : Int)) (k := (k : Int) - (i : Int)) (by have := hf.1; omega)
  unfold hTerm
  generalize gi f i = a at *
  generalize chooseB ((f.length : Int) - 1 - (i : Int)) ((k : Int) - (i : Int)) = b at *
  constructor
  · exact Int.mul_nonneg h1.1 h2.1
  · have := Int.mul_le_mul h1.2 h2.2 h2.1 (by omega)
    omega
theorem hSum_rng {f : List Int} (hf : SmallF f) (k i : Nat) : -4096 * (i : Int) ≤ hSum f k i ∧ hSum f k i ≤ 4096 * (i : Int) := by
  induction i with
  | zero => simp [hSum]
  | succ i ih =>
    have := hTerm_rng hf k i
    rw [hSum, hSgn]
    split <;> omega
def hB (n : Int) (xs : List Int) : List Int := hList (fvB n xs) (fvB n xs).length
theorem fvB_small (n : Int) (xs : List Int) : SmallF (fvB n xs) := ⟨fvB_len n xs, fvB_rng n xs⟩
theorem hB_len (n : Int) (xs : List Int) : (hB n xs).length ≤ 7 := by rw [hB, hList_len]; exact fvB_len n xs
theorem hB_rng (n : Int) (xs : List Int) (j : Nat) : -28672 ≤ gi (hB n xs) j ∧ gi (hB n xs) j ≤ 28672 := by
  have h7 := fvB_len n xs
  by_cases h : j < (fvB n xs).length
  · rw [hB, hList_gi h]
    have := hSum_rng (fvB_small n xs) j (j + 1)
    omega
  · have : gi (hB n xs) j = 0 := by
      simp only [gi, List.getD]
      rw [List.getElem?_eq_none (by rw [hB, hList_len]; omega)]; rfl
    omega
theorem sgn_t {k i : Nat} (h : (k - i) % 2 = 1) (x : Int) : hSgn k i x = -x := by rw [hSgn, if_pos h]
theorem sgn_f {k i : Nat} (h : (k - i) % 2 ≠ 1) (x : Int) : hSgn k i x = x := by rw [hSgn, if_neg h]




end Go.Proofs.Ytjaofbdfhcgmeaa
