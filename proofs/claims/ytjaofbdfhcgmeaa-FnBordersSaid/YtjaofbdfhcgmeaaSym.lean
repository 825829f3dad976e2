/-
  Symmetry of the h numbers: a copy turned round.
-/
import Derived.Test.YtjaofbdfhcgmeaaH
import Derived.Test.YtjaofbdfhcgmeaaEq
namespace Go.Proofs.Ytjaofbdfhcgmeaa
open Go.RowKit

/-- The first t places and the last t places have changed places. -/
def revTo (L : List Int) (t : Nat) : List Int := (List.range L.length).map fun k => if k < t ∨ L.length - 1 - k < t then gi L (L.length - 1 - k) else gi L k
theorem revTo_len (L : List Int) (t : Nat) : (revTo L t).length = L.length := by simp [revTo]
theorem revTo_gi {L : List Int} {t k : Nat} (h : k < L.length) : gi (revTo L t) k = if k < t ∨ L.length - 1 - k < t then gi L (L.length - 1 - k) else gi L k := by
  simp [gi, revTo, List.getD, h]
theorem revTo_zero (L : List Int) : revTo L 0 = L := gi_ext (revTo_len L 0) fun k hk => by rw [revTo_gi (by rwa [revTo_len] at hk), if_neg (by omega)]
theorem gi_rev {L : List Int} {k : Nat} (h : k < L.length) : gi L.reverse k = gi L (L.length - 1 - k) := by
  rw [gi_eq L.reverse k (by simpa using h), gi_eq L _ (by omega), List.getElem_reverse]
theorem revTo_all {L : List Int} {t : Nat} (h : L.length ≤ 2 * t + 1) : revTo L t = L.reverse := gi_ext (by rw [revTo_len, List.length_reverse]) fun k hk => by
  have hk' : k < L.length := by rwa [revTo_len] at hk
  rw [revTo_gi hk', gi_rev hk']
  split
  · rfl
  · rename_i hn
    rw [show L.length - 1 - k = k by omega]
theorem revTo_succ {L : List Int} {t u : Nat} (hu : t + u + 1 = L.length) (h : t < u) : ((revTo L t).set t (gi (revTo L t) u)).set u (gi (revTo L t) t) = revTo L (t + 1) := by
  refine gi_ext (by simp [revTo_len]) fun k hk => ?_
  have hk' : k < L.length := by simpa [revTo_len] using hk
  have e1 : gi (revTo L t) u = gi L u := by rw [revTo_gi (by omega), if_neg (by omega)]
  have e2 : gi (revTo L t) t = gi L t := by rw [revTo_gi (by omega), if_neg (by omega)]
  rw [gi_set (by simp [revTo_len]; omega), gi_set (by rw [revTo_len]; omega), e1, e2, revTo_gi hk', revTo_gi hk']
  by_cases h1 : k = u
  · subst h1
    rw [if_pos rfl, if_pos (by omega), show L.length - 1 - k = t by omega]
  · rw [if_neg h1]
    by_cases h2 : k = t
    · subst h2
      rw [if_pos rfl, if_pos (by omega), show L.length - 1 - k = u by omega]
    · rw [if_neg h2]
      by_cases h3 : k < t ∨ L.length - 1 - k < t
      · rw [if_pos h3, if_pos (by omega)]
      · rw [if_neg h3, if_neg (by omega)]
theorem ne_rev {L : List Int} {k : Nat} (h : k < L.length) (hne : gi L k ≠ gi L (L.length - 1 - k)) : decide (L = L.reverse) = false := by
  refine decide_eq_false fun e => hne ?_
  rw [← gi_rev h, ← e]
theorem is_rev {L : List Int} (h : ∀ t, t < L.length → gi L t = gi L (L.length - 1 - t)) : decide (L = L.reverse) = true :=
  decide_eq_true (gi_ext (by simp) fun k hk => by rw [gi_rev hk, h k hk])

theorem run_eql_slice_nil {P : Program} (w : World) {t e : TypeId} (h : P.underlying t = some (.slice e)) (a : Addr) (l c : Nat) : (binOp .eql t (.slice (some a) l c) (.slice none 0 0)).run P w = .ok (.bool false) w := by
  have h0 : ∀ d : Nat, (Op.equalIn (d + 1) t (.slice (some a) l c) (.slice none 0 0)).run P w = .ok false w := fun d => by
    simp [Op.equalIn, run_underlying h]
  have h1 : (Op.equal t (.slice (some a) l c) (.slice none 0 0)).run P w = .ok false w := h0 9999
  simp only [binOp]
  simp [h1]


def symB (n : Int) (xs : List Int) : Bool := decide (0 < (hB n xs).length) && decide (hB n xs = (hB n xs).reverse)



end Go.Proofs.Ytjaofbdfhcgmeaa
