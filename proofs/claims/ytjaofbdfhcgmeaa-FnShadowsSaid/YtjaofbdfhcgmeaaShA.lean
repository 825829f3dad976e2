/-
  Cascades: their digits fall, are great enough, and their coefficients add up; plain law.
-/
import Derived.Test.YtjaofbdfhcgmeaaCasc
namespace Go.Proofs.Ytjaofbdfhcgmeaa
open Go.RowKit

theorem ch_pascal_fin : ∀ a : Fin 1001, ∀ i : Fin 6, chTo ((a.val + 1 : Nat) : Int) (i.val + 1) = chTo a.val (i.val + 1) + chTo a.val i.val := by decide +kernel
theorem ch_low_fin : ∀ i : Fin 7, ∀ a : Fin 7, a.val < i.val → chTo a.val i.val = 0 := by decide +kernel
theorem ch_61_fin : ∀ i : Fin 5, 1000 < chTo 61 (i.val + 2) := by decide +kernel
theorem chW_to {a i : Int} (a0 : 0 ≤ a) (i0 : 0 ≤ i) (i6 : i ≤ 6) : chW a i = chTo a i.toNat := by
  unfold chW
  split
  · have h := ch_low_fin ⟨i.toNat, by omega⟩ ⟨a.toNat, by omega⟩ (by show a.toNat < i.toNat; omega)
    simp only [Int.toNat_of_nonneg a0] at h
    exact h.symm
  · rfl
theorem chW_pascal {a i : Int} (a0 : 0 ≤ a) (a1 : a ≤ 1000) (i0 : 1 ≤ i) (i6 : i ≤ 6) : chW (a + 1) i = chW a i + chW a (i - 1) := by
  have h := ch_pascal_fin ⟨a.toNat, by omega⟩ ⟨i.toNat - 1, by omega⟩
  simp only [Int.toNat_of_nonneg a0] at h
  have e1 : ((a.toNat + 1 : Nat) : Int) = a + 1 := by omega
  have e2 : i.toNat - 1 + 1 = i.toNat := by omega
  have e3 : i.toNat - 1 = (i - 1).toNat := by omega
  rw [e1, e2, e3] at h
  rw [chW_to (by omega) (by omega) i6, chW_to a0 (by omega) i6, chW_to a0 (by omega) (by omega)]
  exact h
theorem chW_mono {i : Int} (i0 : 1 ≤ i) (i6 : i ≤ 6) {a : Int} (a0 : 0 ≤ a) : ∀ d : Nat, a + d ≤ 1001 → chW a i ≤ chW (a + d) i
  | 0, _ => by simp
  | d + 1, h => by
    have h1 := chW_mono i0 i6 a0 d (by omega)
    have h2 := chW_pascal (a := a + d) (i := i) (by omega) (by omega) i0 i6
    have h3 := chW_pos (a := a + d) (i := i - 1) (by omega) (by omega) (by omega)
    have e : a + ((d + 1 : Nat) : Int) = a + d + 1 := by omega
    rw [e, h2]; omega
theorem chW_le {a b i : Int} (i0 : 1 ≤ i) (i6 : i ≤ 6) (a0 : 0 ≤ a) (h : a ≤ b) (b1 : b ≤ 1001) : chW a i ≤ chW b i := by
  have := chW_mono i0 i6 a0 (b - a).toNat (by omega)
  rwa [show a + ((b - a).toNat : Int) = b by omega] at this
theorem casF_le (m i : Int) : ∀ (n : Nat) (a : Int), chW a i ≤ m → chW (casF m i n a) i ≤ m
  | 0, a, h => h
  | n + 1, a, h => by
    rw [casF]
    split
    · rename_i h2; exact casF_le m i n _ h2
    · exact h
theorem casF_gt {m i : Int} (hm : m < chW 1001 i) : ∀ (n : Nat) (a : Int), a + n = 1000 → m < chW (casF m i n a + 1) i
  | 0, a, h => by
    have : a = 1000 := by omega
    subst this; exact hm
  | n + 1, a, h => by
    rw [casF]
    split
    · exact casF_gt hm n _ (by omega)
    · rename_i h2; omega
def sumC (L : List Int) (k : Int) : Nat → Int
  | 0 => 0
  | j + 1 => sumC L k j + chW (gi L j) (k - (j : Int))
theorem sumC_cons (a : Int) (L : List Int) (k : Int) : ∀ j, sumC (a :: L) (k + 1) (j + 1) = chW a (k + 1) + sumC L k j
  | 0 => by
    have e : sumC (a :: L) (k + 1) 1 = 0 + chW (gi (a :: L) 0) (k + 1 - ((0 : Nat) : Int)) := rfl
    rw [e]
    have e2 : gi (a :: L) 0 = a := rfl
    have e3 : k + 1 - ((0 : Nat) : Int) = k + 1 := by omega
    rw [e2, e3]
    simp [sumC]
  | j + 1 => by
    have e : sumC (a :: L) (k + 1) (j + 1 + 1) = sumC (a :: L) (k + 1) (j + 1) + chW (gi (a :: L) (j + 1)) (k + 1 - ((j + 1 : Nat) : Int)) := rfl
    rw [e, sumC_cons a L k j]
    have e2 : gi (a :: L) (j + 1) = gi L j := by simp [gi]
    have e3 : k + 1 - ((j + 1 : Nat) : Int) = k - (j : Int) := by omega
    have e4 : sumC L k (j + 1) = sumC L k j + chW (gi L j) (k - (j : Int)) := rfl
    rw [e2, e3, e4]; omega
structure CasOk (L : List Int) (k r : Int) : Prop where
  dig : ∀ j, j < L.length → 1 ≤ k - (j : Int) ∧ k - (j : Int) ≤ gi L j ∧ gi L j ≤ 1000
  fall : ∀ j, j + 1 < L.length → gi L (j + 1) < gi L j
  sum : sumC L k L.length = r
  part : ∀ j, j ≤ L.length → 0 ≤ sumC L k j ∧ sumC L k j ≤ r
  head : 0 < L.length → chW (gi L 0) k ≤ r
theorem casc_law : ∀ (n : Nat), n ≤ 6 → ∀ r : Int, 0 ≤ r → r ≤ 1000 → (n = 0 → r = 0) → CasOk (casc r n) n r
  | 0, _, r, r0, _, hz => by
    have := hz rfl
    subst this
    exact ⟨fun j h => by simp [casc] at h, fun j h => by simp [casc] at h, rfl, fun j h => by
      have : j = 0 := by simpa [casc] using h
      subst this; exact ⟨by simp [sumC], by simp [sumC]⟩, fun h => by simp [casc] at h⟩
  | n + 1, hn, r, r0, r1, hz => by
    by_cases hp : 0 < r
    · have e : casc r (n + 1) = casA r (n + 1) (n + 1) :: casc (r - chW (casA r (n + 1) (n + 1)) (n + 1)) n := by rw [casc, if_pos hp]
      have hbd := casA_bd (m := r) (i := (n : Int) + 1) (a := (n : Int) + 1) (by omega)
      have hle : chW (casA r (n + 1) (n + 1)) (n + 1) ≤ r := casF_le r _ _ _ (by rw [chW_diag (by omega) (by omega)]; omega)
      have hgt : r < chW (casA r (n + 1) (n + 1) + 1) (n + 1) := casF_gt (by have := chW_top (i := (n : Int) + 1) (by omega) (by omega); omega) _ _ (by omega)
      obtain ⟨a, ha⟩ : ∃ a, casA r (n + 1) (n + 1) = a := ⟨_, rfl⟩
      rw [ha] at e hbd hle hgt
      have hpas := chW_pascal (a := a) (i := (n : Int) + 1) (by omega) (by omega) (by omega) (by omega)
      rw [show (n : Int) + 1 - 1 = n by omega] at hpas
      have hpos := chW_pos (a := a) (i := (n : Int) + 1) (by omega) (by omega) (by omega)
      have hz2 : n = 0 → r - chW a (n + 1) = 0 := fun h0 => by
        subst h0
        have : chW a ((0 : Nat) : Int) = 1 := by rw [chW_to (by omega) (by omega) (by omega)]; rfl
        omega
      have ih := casc_law n (by omega) (r - chW a (n + 1)) (by omega) (by omega) hz2
      rw [e]
      generalize casc (r - chW a (n + 1)) n = L at *
      have hsum := sumC_cons a L n
      have c1 : ((n + 1 : Nat) : Int) = (n : Int) + 1 := by omega
      rw [c1]
      refine ⟨fun j hj => ?_, fun j hj => ?_, ?_, fun j hj => ?_, fun _ => hle⟩
      · cases j with
        | zero => exact ⟨by omega, by show _ ≤ a; omega, hbd.2⟩
        | succ j =>
          have := ih.dig j (by simpa using hj)
          have e2 : gi (a :: L) (j + 1) = gi L j := by simp [gi]
          rw [e2]
          exact ⟨by omega, by omega, this.2.2⟩
      · cases j with
        | zero =>
          have hl : 0 < L.length := by simpa using hj
          have h1 := ih.head hl
          have h2 := ih.dig 0 hl
          show gi L 0 < a
          refine Int.not_le.1 fun h3 => ?_
          have h4 := chW_le (a := a) (b := gi L 0) (i := n) (by omega) (by omega) (by omega) h3 (by omega)
          omega
        | succ j =>
          have := ih.fall j (by simpa using hj)
          have e2 : gi (a :: L) (j + 1) = gi L j := by simp [gi]
          have e3 : gi (a :: L) (j + 1 + 1) = gi L (j + 1) := by simp [gi]
          rw [e2, e3]; exact this
      · rw [List.length_cons, hsum, ih.sum]; omega
      · cases j with
        | zero => exact ⟨by simp [sumC], by simpa [sumC] using r0⟩
        | succ j =>
          rw [hsum]
          have := ih.part j (by simpa using hj)
          omega
    · have e : casc r (n + 1) = [] := casc_nil hp _
      have : r = 0 := by omega
      subst this
      rw [e]
      exact ⟨fun j h => by simp at h, fun j h => by simp at h, rfl, fun j h => by
        have : j = 0 := by simpa using h
        subst this; exact ⟨by simp [sumC], by simp [sumC]⟩, fun h => by simp at h⟩
theorem CasOk.term {L : List Int} {k r : Int} (h : CasOk L k r) {j : Nat} (hj : j < L.length) : chW (gi L j) (k - (j : Int)) ≤ r := by
  have h1 := (h.part j (by omega)).1
  have h2 := (h.part (j + 1) (by omega)).2
  have e : sumC L k (j + 1) = sumC L k j + chW (gi L j) (k - (j : Int)) := rfl
  omega
/-- A digit beyond 60 stands alone. -/
theorem CasOk.big {L : List Int} {k r : Int} (h : CasOk L k r) (k6 : k ≤ 6) (r1 : r ≤ 1000) {j : Nat} (hj : j < L.length) (hb : 60 < gi L j) : k = 1 := by
  have two : ∀ i, i < L.length → 60 < gi L i → ¬ 2 ≤ k - (i : Int) := fun i hi hbi h2 => by
    have h3 := h.dig i hi
    have h4 := h.term hi
    have h5 := chW_le (a := 61) (b := gi L i) (i := k - (i : Int)) (by omega) (by omega) (by omega) (by omega) (by omega)
    have h6 := ch_61_fin ⟨(k - (i : Int)).toNat - 2, by omega⟩
    have h7 := chW_to (a := 61) (i := k - (i : Int)) (by omega) (by omega) (by omega)
    simp only [show (k - (i : Int)).toNat - 2 + 2 = (k - (i : Int)).toNat by omega] at h6
    omega
  have h1 := h.dig j hj
  have h2 := two j hj hb
  cases j with
  | zero => omega
  | succ j =>
    have h3 := h.fall j hj
    exact absurd (by omega) (two j (by omega) (by omega))
theorem CasOk.choose {L : List Int} {k r : Int} (h : CasOk L k r) {j : Nat} (hj : j < L.length) (hb : gi L j ≤ 60) : chooseB (gi L j) (k - (j : Int)) = chW (gi L j) (k - (j : Int)) := by
  have := h.dig j hj
  exact if_pos ⟨by omega, hb, by omega, by omega⟩
theorem cascB_ok {m k : Int} (h : fitsB m k = true) : CasOk (cascB m k) k m := by
  obtain ⟨h0, h1, h2, h3⟩ := fitsB_iff.1 h
  have := casc_law k.toNat (by omega) m h0 h1 (by omega)
  rw [Int.toNat_of_nonneg (by omega)] at this
  rw [cascB, if_pos h]
  exact this
theorem cascB_none {m k : Int} (h : fitsB m k = false) : cascB m k = [] := if_neg (by rw [h]; simp)
theorem cascB_len (m k : Int) : (cascB m k).length ≤ 6 := by
  unfold cascB
  split
  · rename_i h
    obtain ⟨h0, h1, h2, h3⟩ := fitsB_iff.1 h
    have := casc_len m k.toNat
    omega
  · simp

end Go.Proofs.Ytjaofbdfhcgmeaa
