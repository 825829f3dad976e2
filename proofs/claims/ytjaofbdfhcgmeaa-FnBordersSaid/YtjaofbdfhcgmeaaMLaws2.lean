/-
  The laws' own helpers for slices of slices of integers that come in: their copies, their bulk, how they read.
-/
import Derived.Test.YtjaofbdfhcgmeaaMLaws
import Derived.Test.YtjaofbdfhcgmeaaFill
import Derived.Test.YtjaofbdfhcgmeaaNum
import Derived.Deep.Matrix
namespace Go.Proofs.Ytjaofbdfhcgmeaa
open Go.RowKit

/-- The bulk of a matrix as the laws count it. -/
def szN2 (M : List (List Int)) : Nat := M.length + cnt M
theorem szN2_cnt (M : List (List Int)) : szN2 M = M.length + cnt M := rfl

theorem rd_of_cells {w : World} {a : Addr} {len cap : Nat} {L : List Value} (hL : L.length = len) (hl : len ≤ cap) (hm : cap ≤ maxLen) (hcell : ∀ i, i < len → w.cell? (a.add i) = L[i]?) : Rd w (.slice (some a) len cap) L := by
  subst hL
  refine .inr ⟨a, cap, rfl, hl, hm, fun j hj => ?_⟩
  have hc := hcell j hj
  have hadd : a.add j = ⟨a.block, a.off + j, none⟩ := by
    by_cases h0 : j = 0
    · subst h0
      have hs : a.spot = none := by
        have h1 := hcell 0 hj
        rw [List.getElem?_eq_getElem hj] at h1
        simpa [Addr.add] using World.cell?_spot h1
      cases a
      simp only at hs
      subst hs
      simp [Addr.add]
    · simp [Addr.add, h0]
  exact ⟨by rw [← hadd, hc], hadd⟩
theorem rdM_nil (w : World) : RdM w (.slice none 0 0) [] [] := ⟨.inl ⟨rfl, rfl⟩, rfl, fun k hk => by simp at hk⟩
theorem rdM_of_open {w : World} {base : Nat} {a : Addr} {len cap : Nat} {A : Nat → Option Addr} {L C : Nat → Nat} {Z : Nat → List Int} (hl : len ≤ cap) (hm : cap ≤ maxLen)
    (h : ∀ r, r < cap → w.cell? (a.add r) = some (.slice (A r) (L r) (C r)) ∧ L r ≤ C r ∧ C r ≤ maxLen ∧ (Z r).length = C r ∧ (∀ n ∈ Z r, (Lit.int .i64 n).wf = true) ∧ (A r = none → C r = 0) ∧
      ∀ a', A r = some a' → base ≤ a'.block ∧ ∀ c, c < C r → w.cell? (a'.add c) = some (.int .i64 ((Z r).getD c 0))) :
    RdM w (.slice (some a) len cap) ((List.range len).map fun r => .slice (A r) (L r) (C r)) ((List.range len).map fun r => (Z r).take (L r)) := by
  refine ⟨rd_of_cells (by simp) hl hm fun i hi => ?_, by simp, fun k hk => ?_⟩
  · rw [(h i (by omega)).1]; simp [hi]
  · simp only [List.length_map, List.length_range] at hk
    have e1 : gv ((List.range len).map fun r => Value.slice (A r) (L r) (C r)) k = .slice (A k) (L k) (C k) := by simp [gv, List.getD, hk]
    have e2 : gr ((List.range len).map fun r => (Z r).take (L r)) k = (Z k).take (L k) := by simp [gr, List.getD, hk]
    rw [e1, e2]
    obtain ⟨_, h2, h3, h4, _, h6, h7⟩ := h k (by omega)
    cases hA : A k with
    | none =>
      have hc := h6 hA
      have hL0 : L k = 0 := by omega
      rw [hL0, hc]
      exact .inl ⟨rfl, by simp [ints]⟩
    | some a' => exact rd_of_open h2 h3 (by omega) fun i hi => (h7 a' hA).2 i (by omega)




end Go.Proofs.Ytjaofbdfhcgmeaa
