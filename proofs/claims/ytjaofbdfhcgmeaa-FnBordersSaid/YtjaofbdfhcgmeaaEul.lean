/-
  Euler's number of a complex.
-/
import Derived.Test.YtjaofbdfhcgmeaaHMath
namespace Go.Proofs.Ytjaofbdfhcgmeaa
open Go.RowKit

def eulC (s : Int) : Int := 2 * (pc s % 2) - 1
def eulL (L : List Int) : Int := (L.map eulC).sum
def eulB (n : Int) (fs : List Int) : Int := eulL (facesB n fs)
theorem eulC_rng (s : Int) : -1 ≤ eulC s ∧ eulC s ≤ 1 := by unfold eulC; omega
theorem eulL_append (a b : List Int) : eulL (a ++ b) = eulL a + eulL b := by simp [eulL, List.sum_append]
theorem eulL_rng (L : List Int) : -(L.length : Int) ≤ eulL L ∧ eulL L ≤ (L.length : Int) := by
  induction L with
  | nil => simp [eulL]
  | cons a L ih =>
    have h := eulC_rng a
    have e : eulL (a :: L) = eulC a + eulL L := by simp [eulL]
    rw [e, List.length_cons]
    omega
theorem eulL_const {L : List Int} {z : Int} (h : ∀ x ∈ L, pc x = z) : eulL L = (L.length : Int) * (2 * (z % 2) - 1) := by
  induction L with
  | nil => simp [eulL]
  | cons a L ih =>
    have e : eulL (a :: L) = eulC a + eulL L := by simp [eulL]
    rw [e, ih fun x hx => h x (List.mem_cons_of_mem _ hx), eulC, h a (List.mem_cons_self ..), List.length_cons]
    push_cast
    rw [Int.add_mul]
    omega
theorem eulL_row (P : Int → Bool) (z : Int) (k : Nat) : eulL (rowTo P z k) = ((rowTo P z k).length : Int) * (2 * (z % 2) - 1) := eulL_const fun _ hx => (mem_rowTo.1 hx).2.2.2
theorem fv_row {n : Int} {fs : List Int} (hc : isC n fs = true) (k : Nat) : gi (fvB n fs) k = ((rowTo (dn (mem fs)) (k : Int) 64).length : Int) := by
  rcases fv_at n fs k with ⟨_, _, h⟩ | h
  · exact h
  · by_cases hk : k < sizesN (dn (mem fs))
    · rw [fvB, if_pos hc, cntS, lens_gi (by simpa [bySz] using hk), bySz, bySzTo_get hk]
    · rw [h]
      have : rowTo (dn (mem fs)) (k : Int) 64 = [] := by
        rw [List.eq_nil_iff_forall_not_mem]
        intro x hx
        obtain ⟨x0, x1, x2, x3⟩ := mem_rowTo.1 hx
        have h1 := topN_ge (P := dn (mem fs)) (s := 64) (t := x.toNat) (by omega) (by rwa [Int.toNat_of_nonneg x0])
        rw [Int.toNat_of_nonneg x0] at h1
        have h2 := sizesN_eq (dn (mem fs))
        omega
      rw [this]; rfl
theorem eul_fv (n : Int) (fs : List Int) : eulB n fs = -gi (fvB n fs) 0 + gi (fvB n fs) 1 - gi (fvB n fs) 2 + gi (fvB n fs) 3 - gi (fvB n fs) 4 + gi (fvB n fs) 5 - gi (fvB n fs) 6 := by
  cases hc : isC n fs with
  | false =>
    have e1 : facesB n fs = [] := if_neg (by simp [hc])
    have e2 : fvB n fs = [] := if_neg (by simp [hc])
    rw [eulB, e1, e2]
    simp [eulL, gi_nil]
  | true =>
    have e1 : facesB n fs = setsL (dn (mem fs)) := if_pos hc
    rw [eulB, e1, setsL]
    simp only [fv_row hc]
    simp only [allTo, eulL_append, eulL_row]
    simp [eulL]
    omega

theorem pc_zero_fin : ∀ s : Fin 64, pc s.val = 0 → s.val = 0 := by decide +kernel
theorem fv_zero {n : Int} {fs : List Int} (h : 0 < (fvB n fs).length) : gi (fvB n fs) 0 = 1 := by
  cases hc : isC n fs with
  | false => rw [fvB, if_neg (by simp [hc])] at h; simp at h
  | true =>
    rw [fv_row hc 0]
    have hs : 0 < sizesN (dn (mem fs)) := by rw [fvB, if_pos hc, cntS_len] at h; exact h
    have h0 : dn (mem fs) 0 = true := by
      cases hd : dn (mem fs) 0 with
      | true => rfl
      | false =>
        have h1 : topN (dn (mem fs)) 64 ≤ -1 := topN_le (by omega) fun t ht hp => by
          obtain ⟨u, u0, u1, hu, hsub⟩ := dn_iff.1 hp
          have : dn (mem fs) 0 = true := dn_iff.2 ⟨u, u0, u1, hu, by simp [sub]⟩
          rw [hd] at this; cases this
        have h2 := sizesN_eq (dn (mem fs))
        omega
    have hm : (0 : Int) ∈ rowTo (dn (mem fs)) ((0 : Nat) : Int) 64 := mem_rowTo.2 ⟨by omega, by omega, h0, by decide⟩
    have h1 := nodupLen (l2 := [0]) (rowTo_nd (dn (mem fs)) ((0 : Nat) : Int) 64) fun x hx => by
      obtain ⟨x0, x1, _, x3⟩ := mem_rowTo.1 hx
      obtain ⟨a, ha⟩ := fin64 x0 (by omega)
      have := pc_zero_fin a (by rw [ha, x3]; rfl)
      rw [List.mem_singleton, ← ha]; omega
    have h2 := List.length_pos_of_mem hm
    simp only [List.length_singleton] at h1
    omega

/-- What the law says of the h numbers. -/
theorem law_h (n : Int) (fs : List Int) (h : (hB n fs).length ≠ 0) : cfhB (hB n fs) = fvB n fs ∧ gi (hB n fs) 0 = 1 ∧
    topB n fs = (2 * ((((hB n fs).length : Int) - 1) % 2) - 1) * eulB n fs ∧ ((gB n fs).length : Int) = (((hB n fs).length : Int) - 1) / 2 + 1 := by
  have hl : (hB n fs).length = (fvB n fs).length := by rw [hB, hList_len]
  have h7 := fvB_len n fs
  have b0 := fv_le n fs 0
  have b1 := fv_le n fs 1
  have b2 := fv_le n fs 2
  have b3 := fv_le n fs 3
  have b4 := fv_le n fs 4
  have b5 := fv_le n fs 5
  have b6 := fv_le n fs 6
  rw [sz6_0] at b0
  rw [sz6_1] at b1
  rw [sz6_2] at b2
  rw [sz6_3] at b3
  rw [sz6_4] at b4
  rw [sz6_5] at b5
  rw [sz6_6] at b6
  have hz := fv_zero (n := n) (fs := fs) (by omega)
  have hg : ((gB n fs).length : Int) = (((hB n fs).length : Int) - 1) / 2 + 1 := by
    rw [gB, if_neg h, gTo_len]; omega
  refine ⟨?_, ?_, ?_, hg⟩
  · have hcs : (fvB n fs).length = 1 ∨ (fvB n fs).length = 2 ∨ (fvB n fs).length = 3 ∨ (fvB n fs).length = 4 ∨ (fvB n fs).length = 5 ∨ (fvB n fs).length = 6 ∨ (fvB n fs).length = 7 := by omega
    rw [hB]
    rcases hcs with hL | hL | hL | hL | hL | hL | hL
    · rw [hL]; exact cfh_1 _ hL b0
    · rw [hL]; exact cfh_2 _ hL b0 b1
    · rw [hL]; exact cfh_3 _ hL b0 b1 b2
    · rw [hL]; exact cfh_4 _ hL b0 b1 b2 b3
    · rw [hL]; exact cfh_5 _ hL b0 b1 b2 b3 b4
    · rw [hL]; exact cfh_6 _ hL b0 b1 b2 b3 b4 b5
    · rw [hL]; exact cfh_7 _ hL b0 b1 b2 b3 b4 b5 b6
  · rw [hB, hList_gi (by omega)]
    have hcs : (fvB n fs).length = 1 ∨ (fvB n fs).length = 2 ∨ (fvB n fs).length = 3 ∨ (fvB n fs).length = 4 ∨ (fvB n fs).length = 5 ∨ (fvB n fs).length = 6 ∨ (fvB n fs).length = 7 := by omega
    rcases hcs with hL | hL | hL | hL | hL | hL | hL <;> simp [hSum, hSgn, hTerm, hL, hz, ch_0_0, ch_1_0, ch_2_0, ch_3_0, ch_4_0, ch_5_0, ch_6_0]
  · rw [eul_fv, topB, hl, hB]
    have o : ∀ k, (fvB n fs).length ≤ k → gi (fvB n fs) k = 0 := fun k hk => fv_out hk
    have hcs : (fvB n fs).length = 1 ∨ (fvB n fs).length = 2 ∨ (fvB n fs).length = 3 ∨ (fvB n fs).length = 4 ∨ (fvB n fs).length = 5 ∨ (fvB n fs).length = 6 ∨ (fvB n fs).length = 7 := by omega
    rcases hcs with hL | hL | hL | hL | hL | hL | hL
    · rw [hL]; have := hv_1_0 _ hL; simp only [Nat.reduceSub]; rw [this, o 1 (by omega), o 2 (by omega), o 3 (by omega), o 4 (by omega), o 5 (by omega), o 6 (by omega)]; simp
    · rw [hL]; have := hv_2_1 _ hL; simp only [Nat.reduceSub]; rw [this, o 2 (by omega), o 3 (by omega), o 4 (by omega), o 5 (by omega), o 6 (by omega)]; simp; try omega
    · rw [hL]; have := hv_3_2 _ hL; simp only [Nat.reduceSub]; rw [this, o 3 (by omega), o 4 (by omega), o 5 (by omega), o 6 (by omega)]; simp; try omega
    · rw [hL]; have := hv_4_3 _ hL; simp only [Nat.reduceSub]; rw [this, o 4 (by omega), o 5 (by omega), o 6 (by omega)]; simp; try omega
    · rw [hL]; have := hv_5_4 _ hL; simp only [Nat.reduceSub]; rw [this, o 5 (by omega), o 6 (by omega)]; simp; try omega
    · rw [hL]; have := hv_6_5 _ hL; simp only [Nat.reduceSub]; rw [this, o 6 (by omega)]; simp; try omega
    · rw [hL]; have := hv_7_6 _ hL; simp only [Nat.reduceSub]; rw [this]; simp; try omega

end Go.Proofs.Ytjaofbdfhcgmeaa
