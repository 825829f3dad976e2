/-
  Joins: the pairs of sets of two lists.
-/
import Derived.Test.YtjaofbdfhcgmeaaOf
namespace Go.Proofs.Ytjaofbdfhcgmeaa
open Go.RowKit

/-- A set of the first n points beside a set of later ones. -/
def joinS (n s t : Int) : Int := s + t * pw n
theorem join_fin : ∀ n : Fin 7, ∀ s t : Fin 64, s.val < 2 ^ n.val → t.val < 2 ^ (6 - n.val) →
    bits .or .i64 (s.val : Int) ((t.val : Int) * 2 ^ n.val) = (s.val : Int) + (t.val : Int) * 2 ^ n.val ∧ s.val + t.val * 2 ^ n.val < 64 := by decide +kernel
theorem pw_mono {a b : Int} (h : a ≤ b) : pw a ≤ pw b := by
  have e : ∀ c : Int, pw c = ((2 ^ c.toNat : Nat) : Int) := fun c => by simp [pw]
  rw [e, e]
  have := Nat.pow_le_pow_right (n := 2) (by omega) (show a.toNat ≤ b.toNat by omega)
  omega
theorem join_or {n m s t : Int} (n0 : 0 ≤ n) (m0 : 0 ≤ m) (h6 : n + m ≤ 6) (s0 : 0 ≤ s) (s1 : s < pw n) (t0 : 0 ≤ t) (t1 : t < pw m) : bits .or .i64 s (t * 2 ^ n.toNat) = joinS n s t ∧ 0 ≤ joinS n s t ∧ joinS n s t < 64 := by
  have e : ∀ c : Int, pw c = ((2 ^ c.toNat : Nat) : Int) := fun c => by simp [pw]
  have hm := pw_mono (show m ≤ 6 - n by omega)
  have h1 := pw_rng n0 (by omega)
  have h2 := pw_rng (show 0 ≤ 6 - n by omega) (by omega)
  have hf := join_fin ⟨n.toNat, by omega⟩ ⟨s.toNat, by omega⟩ ⟨t.toNat, by omega⟩ (by show s.toNat < 2 ^ n.toNat; have := e n; omega) (by
    show t.toNat < 2 ^ (6 - n.toNat)
    have := e (6 - n)
    rw [show (6 - n).toNat = 6 - n.toNat by omega] at this
    omega)
  simp only [Int.toNat_of_nonneg s0, Int.toNat_of_nonneg t0] at hf
  have e3 : joinS n s t = ((s.toNat + t.toNat * 2 ^ n.toNat : Nat) : Int) := by
    unfold joinS
    rw [e n, Int.natCast_add, Int.natCast_mul, Int.toNat_of_nonneg s0, Int.toNat_of_nonneg t0]
  refine ⟨hf.1, ?_, ?_⟩
  · rw [e3]; omega
  · rw [e3]; have := hf.2; omega
/-- The pairs made so far: all of the first i sets, and the next one with the first k. -/
def pairTo (n : Int) (xs ys : List Int) (i k : Nat) : List Int := (xs.take i).flatMap (fun s => ys.map (joinS n s)) ++ (ys.take k).map (joinS n (gi xs i))
def pairs (n : Int) (xs ys : List Int) : List Int := xs.flatMap fun s => ys.map (joinS n s)
theorem pairTo_zero (n : Int) (xs ys : List Int) : pairTo n xs ys 0 0 = [] := by simp [pairTo]
theorem pairTo_succ (n : Int) (xs ys : List Int) (i : Nat) {k : Nat} (h : k < ys.length) : pairTo n xs ys i (k + 1) = pairTo n xs ys i k ++ [joinS n (gi xs i) (gi ys k)] := by
  rw [pairTo, take_succ_gi h, List.map_append, ← List.append_assoc]; rfl
theorem pairTo_next (n : Int) (xs ys : List Int) {i : Nat} (h : i < xs.length) : pairTo n xs ys i ys.length = pairTo n xs ys (i + 1) 0 := by
  rw [pairTo, pairTo, take_succ_gi h, List.flatMap_append]; simp
theorem pairTo_all (n : Int) (xs ys : List Int) {i : Nat} (h : xs.length ≤ i) : pairTo n xs ys i 0 = pairs n xs ys := by
  rw [pairTo, List.take_of_length_le h]; simp [pairs]

end Go.Proofs.Ytjaofbdfhcgmeaa
