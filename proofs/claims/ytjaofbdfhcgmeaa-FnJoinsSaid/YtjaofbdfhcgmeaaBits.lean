/-
  Points of sets as bits: closed facts on the 64 sets.
-/
import Derived.Test.YtjaofbdfhcgmeaaLib
namespace Go.Proofs.Ytjaofbdfhcgmeaa
open Go.RowKit

/-- Is point k in the set s? As the program asks it. -/
def bitP (s : Int) (k : Nat) : Bool := bits .and .i64 (s / 2 ^ k) 1 == 1
def orP (s : Int) (k : Nat) : Int := bits .or .i64 s (wrap64 (2 ^ k))

theorem fin64 {s : Int} (h0 : 0 ≤ s) (h1 : s < 64) : ∃ n : Fin 64, (n.val : Int) = s := ⟨⟨s.toNat, by omega⟩, by simp; omega⟩

theorem orP_fin : ∀ s : Fin 64, ∀ k : Fin 6, 0 ≤ orP s.val k.val ∧ orP s.val k.val < 64 := by decide +kernel
theorem bit_or_fin : ∀ s : Fin 64, ∀ k m : Fin 6, bitP (orP s.val k.val) m.val = (m.val == k.val || bitP s.val m.val) := by decide +kernel
theorem and1_fin : ∀ s : Fin 64, ∀ k : Fin 6, bits .and .i64 ((s.val : Int) / 2 ^ k.val) 1 = if bitP s.val k.val = true then 1 else 0 := by decide +kernel
theorem add_or_fin : ∀ s : Fin 64, ∀ k : Fin 6, bitP s.val k.val = false → wrap64 ((s.val : Int) + wrap64 (1 * 2 ^ k.val)) = orP s.val k.val := by decide +kernel
theorem bit_zero_fin : ∀ m : Fin 6, bitP 0 m.val = false := by decide +kernel

theorem orP_rng {s : Int} (h0 : 0 ≤ s) (h1 : s < 64) {k : Nat} (hk : k < 6) : 0 ≤ orP s k ∧ orP s k < 64 := by
  obtain ⟨n, rfl⟩ := fin64 h0 h1
  exact orP_fin n ⟨k, hk⟩
theorem bit_or {s : Int} (h0 : 0 ≤ s) (h1 : s < 64) {k m : Nat} (hk : k < 6) (hm : m < 6) : bitP (orP s k) m = (m == k || bitP s m) := by
  obtain ⟨n, rfl⟩ := fin64 h0 h1
  exact bit_or_fin n ⟨k, hk⟩ ⟨m, hm⟩
theorem and1 {s : Int} (h0 : 0 ≤ s) (h1 : s < 64) {k : Nat} (hk : k < 6) : bits .and .i64 (s / 2 ^ k) 1 = if bitP s k = true then 1 else 0 := by
  obtain ⟨n, rfl⟩ := fin64 h0 h1
  exact and1_fin n ⟨k, hk⟩
theorem add_or {s : Int} (h0 : 0 ≤ s) (h1 : s < 64) {k : Nat} (hk : k < 6) (h : bitP s k = false) : wrap64 (s + wrap64 (1 * 2 ^ k)) = orP s k := by
  obtain ⟨n, rfl⟩ := fin64 h0 h1
  exact add_or_fin n ⟨k, hk⟩ h
theorem bit_zero {m : Nat} (hm : m < 6) : bitP 0 m = false := bit_zero_fin ⟨m, hm⟩

end Go.Proofs.Ytjaofbdfhcgmeaa
