/-
  The h numbers give back the counts of faces; the top h number is Euler's number: plain law.
-/
import Derived.Test.YtjaofbdfhcgmeaaG
import Derived.Test.YtjaofbdfhcgmeaaCounts
namespace Go.Proofs.Ytjaofbdfhcgmeaa
open Go.RowKit

theorem nodupLen {l1 l2 : List Int} (h : l1.Nodup) (hs : ∀ x ∈ l1, x ∈ l2) : l1.length ≤ l2.length := by
  induction l1 generalizing l2 with
  | nil => simp
  | cons a l1 ih =>
    have ha := hs a (List.mem_cons_self ..)
    rw [List.nodup_cons] at h
    have := ih (l2 := l2.erase a) h.2 (fun x hx => (List.mem_erase_of_ne (fun e => h.1 (by rw [← e]; exact hx))).2 (hs x (List.mem_cons_of_mem _ hx)))
    rw [List.length_erase_of_mem ha] at this
    have : 0 < l2.length := List.length_pos_of_mem ha
    simp only [List.length_cons]
    omega
theorem rowTo_nd (P : Int → Bool) (z : Int) (k : Nat) : (rowTo P z k).Nodup := by
  induction k with
  | zero => simp [rowTo]
  | succ k ih =>
    rw [rowTo]
    split
    · rw [List.nodup_append]
      refine ⟨ih, by simp, fun a ha b hb e => ?_⟩
      rw [List.mem_singleton] at hb
      have := (mem_rowTo.1 ha).2.1
      omega
    · exact ih
def sz6 (k : Nat) : Nat := (rowTo (fun _ => true) (k : Int) 64).length
theorem row_le (P : Int → Bool) (k : Nat) : (rowTo P (k : Int) 64).length ≤ sz6 k :=
  nodupLen (rowTo_nd P _ _) fun x hx => by
    have := mem_rowTo.1 hx
    exact mem_rowTo.2 ⟨this.1, this.2.1, rfl, this.2.2.2⟩
theorem sz6_0 : sz6 0 = 1 := by decide +kernel
theorem sz6_1 : sz6 1 = 6 := by decide +kernel
theorem sz6_2 : sz6 2 = 15 := by decide +kernel
theorem sz6_3 : sz6 3 = 20 := by decide +kernel
theorem sz6_4 : sz6 4 = 15 := by decide +kernel
theorem sz6_5 : sz6 5 = 6 := by decide +kernel
theorem sz6_6 : sz6 6 = 1 := by decide +kernel
theorem ch_0_0 : chooseB 0 0 = 1 := by decide +kernel
theorem ch_0_1 : chooseB 0 1 = 0 := by decide +kernel
theorem ch_0_2 : chooseB 0 2 = 0 := by decide +kernel
theorem ch_0_3 : chooseB 0 3 = 0 := by decide +kernel
theorem ch_0_4 : chooseB 0 4 = 0 := by decide +kernel
theorem ch_0_5 : chooseB 0 5 = 0 := by decide +kernel
theorem ch_0_6 : chooseB 0 6 = 0 := by decide +kernel
theorem ch_1_0 : chooseB 1 0 = 1 := by decide +kernel
theorem ch_1_1 : chooseB 1 1 = 1 := by decide +kernel
theorem ch_1_2 : chooseB 1 2 = 0 := by decide +kernel
theorem ch_1_3 : chooseB 1 3 = 0 := by decide +kernel
theorem ch_1_4 : chooseB 1 4 = 0 := by decide +kernel
theorem ch_1_5 : chooseB 1 5 = 0 := by decide +kernel
theorem ch_1_6 : chooseB 1 6 = 0 := by decide +kernel
theorem ch_2_0 : chooseB 2 0 = 1 := by decide +kernel
theorem ch_2_1 : chooseB 2 1 = 2 := by decide +kernel
theorem ch_2_2 : chooseB 2 2 = 1 := by decide +kernel
theorem ch_2_3 : chooseB 2 3 = 0 := by decide +kernel
theorem ch_2_4 : chooseB 2 4 = 0 := by decide +kernel
theorem ch_2_5 : chooseB 2 5 = 0 := by decide +kernel
theorem ch_2_6 : chooseB 2 6 = 0 := by decide +kernel
theorem ch_3_0 : chooseB 3 0 = 1 := by decide +kernel
theorem ch_3_1 : chooseB 3 1 = 3 := by decide +kernel
theorem ch_3_2 : chooseB 3 2 = 3 := by decide +kernel
theorem ch_3_3 : chooseB 3 3 = 1 := by decide +kernel
theorem ch_3_4 : chooseB 3 4 = 0 := by decide +kernel
theorem ch_3_5 : chooseB 3 5 = 0 := by decide +kernel
theorem ch_3_6 : chooseB 3 6 = 0 := by decide +kernel
theorem ch_4_0 : chooseB 4 0 = 1 := by decide +kernel
theorem ch_4_1 : chooseB 4 1 = 4 := by decide +kernel
theorem ch_4_2 : chooseB 4 2 = 6 := by decide +kernel
theorem ch_4_3 : chooseB 4 3 = 4 := by decide +kernel
theorem ch_4_4 : chooseB 4 4 = 1 := by decide +kernel
theorem ch_4_5 : chooseB 4 5 = 0 := by decide +kernel
theorem ch_4_6 : chooseB 4 6 = 0 := by decide +kernel
theorem ch_5_0 : chooseB 5 0 = 1 := by decide +kernel
theorem ch_5_1 : chooseB 5 1 = 5 := by decide +kernel
theorem ch_5_2 : chooseB 5 2 = 10 := by decide +kernel
theorem ch_5_3 : chooseB 5 3 = 10 := by decide +kernel
theorem ch_5_4 : chooseB 5 4 = 5 := by decide +kernel
theorem ch_5_5 : chooseB 5 5 = 1 := by decide +kernel
theorem ch_5_6 : chooseB 5 6 = 0 := by decide +kernel
theorem ch_6_0 : chooseB 6 0 = 1 := by decide +kernel
theorem ch_6_1 : chooseB 6 1 = 6 := by decide +kernel
theorem ch_6_2 : chooseB 6 2 = 15 := by decide +kernel
theorem ch_6_3 : chooseB 6 3 = 20 := by decide +kernel
theorem ch_6_4 : chooseB 6 4 = 15 := by decide +kernel
theorem ch_6_5 : chooseB 6 5 = 6 := by decide +kernel
theorem ch_6_6 : chooseB 6 6 = 1 := by decide +kernel

/-- The numbers of faces, place by place. -/
theorem fv_at (n : Int) (fs : List Int) (k : Nat) : (isC n fs = true ∧ k < sizesN (dn (mem fs)) ∧ gi (fvB n fs) k = ((rowTo (dn (mem fs)) (k : Int) 64).length : Int)) ∨ gi (fvB n fs) k = 0 := by
  unfold fvB
  split
  · rename_i hc
    by_cases h : k < sizesN (dn (mem fs))
    · left
      refine ⟨hc, h, ?_⟩
      rw [cntS, lens_gi (by simpa [bySz] using h), bySz, bySzTo_get h]
    · right
      simp only [gi, List.getD]
      rw [List.getElem?_eq_none (by rw [cntS_len]; omega)]; rfl
  · right; simp [gi]
theorem fv_le (n : Int) (fs : List Int) (k : Nat) : 0 ≤ gi (fvB n fs) k ∧ gi (fvB n fs) k ≤ (sz6 k : Int) := by
  rcases fv_at n fs k with ⟨_, _, h⟩ | h
  · have := row_le (dn (mem fs)) k
    omega
  · omega
theorem fv_out {n : Int} {fs : List Int} {k : Nat} (h : (fvB n fs).length ≤ k) : gi (fvB n fs) k = 0 := by
  simp only [gi, List.getD]
  rw [List.getElem?_eq_none h]; rfl

/-! ### Sums without wrapping -/

def cSumZ (h : List Int) (k : Nat) : Nat → Int
  | 0 => 0
  | i + 1 => cSumZ h k i + gi h i * chooseB ((h.length : Int) - 1 - (i : Int)) ((k : Int) - (i : Int))
theorem term_rng {a b : Int} (a0 : -1000 ≤ a) (a1 : a ≤ 1000) (b0 : 0 ≤ b) (b1 : b ≤ 64) : -64000 ≤ a * b ∧ a * b ≤ 64000 := by
  have h1 := Int.mul_le_mul_of_nonneg_right a0 b0
  have h2 := Int.mul_le_mul_of_nonneg_right a1 b0
  omega
theorem gi_rng1000 {h : List Int} (hok : cfhOk h) (i : Nat) : -1000 ≤ gi h i ∧ gi h i ≤ 1000 := by
  by_cases hi : i < h.length
  · exact hok.2.2 _ (gi_mem hi)
  · have : gi h i = 0 := by simp only [gi, List.getD]; rw [List.getElem?_eq_none (by omega)]; rfl
    omega
theorem cSum_Z {h : List Int} (hok : cfhOk h) (k : Nat) (i : Nat) (hi : i ≤ 7) : cSum h k i = cSumZ h k i ∧ -64000 * (i : Int) ≤ cSumZ h k i ∧ cSumZ h k i ≤ 64000 * (i : Int) := by
  induction i with
  | zero => simp [cSum, cSumZ]
  | succ i ih =>
    obtain ⟨e, l, u⟩ := ih (by omega)
    have hr := gi_rng1000 hok i
    have hc := choose_small (d := (h.length : Int) - 1 - (i : Int)) (k := (k : Int) - (i : Int)) (by have := hok.2.1; omega)
    have ht := term_rng hr.1 hr.2 hc.1 hc.2
    rw [cSum, cSumZ, e]
    rw [IntWalk.wrap64_in (gi h i * _) (by omega)]
    rw [IntWalk.wrap64_in _ (by omega)]
    refine ⟨rfl, ?_, ?_⟩ <;> omega

/-! ### Length 1 -/
theorem hv_1_0 (f : List Int) (hL : f.length = 1) : gi (hList f 1) 0 = (1) * gi f 0 := by
  rw [hList_gi (by omega)]
  simp [hSum, hSgn, hTerm, hL, ch_0_0]
  try omega
theorem hok_1 (f : List Int) (hL : f.length = 1) (b0 : 0 ≤ gi f 0 ∧ gi f 0 ≤ 1) : cfhOk (hList f 1) := by
  refine ⟨by rw [hList_len]; omega, by rw [hList_len]; omega, all_gi fun j hj => ?_⟩
  rw [hList_len] at hj
  have hcs : j = 0 := by omega
  rcases hcs with rfl
  · rw [hv_1_0 f hL]; omega
theorem cf_1_0 (f : List Int) (hL : f.length = 1) : cSumZ (hList f 1) 0 1 = gi f 0 := by
  simp only [cSumZ, hList_len, hv_1_0 f hL]
  simp [ch_0_0]
  try omega
theorem cfh_1 (f : List Int) (hL : f.length = 1) (b0 : 0 ≤ gi f 0 ∧ gi f 0 ≤ 1) : cfhB (hList f 1) = f := by
  have hok := hok_1 f hL b0
  rw [cfhB, if_pos hok, cList, hList_len]
  refine List.ext_getElem (by simp [hL]) fun k h1 h2 => ?_
  have hk : k < 1 := by simpa using h1
  rw [← gi_eq f k h2]
  simp only [List.getElem_map, List.getElem_range]
  rw [(cSum_Z hok k (k + 1) (by omega)).1]
  have hcs : k = 0 := by omega
  rcases hcs with rfl
  · exact cf_1_0 f hL

/-! ### Length 2 -/
theorem hv_2_0 (f : List Int) (hL : f.length = 2) : gi (hList f 2) 0 = (1) * gi f 0 := by
  rw [hList_gi (by omega)]
  simp [hSum, hSgn, hTerm, hL, ch_1_0]
  try omega
theorem hv_2_1 (f : List Int) (hL : f.length = 2) : gi (hList f 2) 1 = (-1) * gi f 0 + (1) * gi f 1 := by
  rw [hList_gi (by omega)]
  simp [hSum, hSgn, hTerm, hL, ch_1_1, ch_0_0]
  try omega
theorem hok_2 (f : List Int) (hL : f.length = 2) (b0 : 0 ≤ gi f 0 ∧ gi f 0 ≤ 1) (b1 : 0 ≤ gi f 1 ∧ gi f 1 ≤ 6) : cfhOk (hList f 2) := by
  refine ⟨by rw [hList_len]; omega, by rw [hList_len]; omega, all_gi fun j hj => ?_⟩
  rw [hList_len] at hj
  have hcs : j = 0 ∨ j = 1 := by omega
  rcases hcs with rfl | rfl
  · rw [hv_2_0 f hL]; omega
  · rw [hv_2_1 f hL]; omega
theorem cf_2_0 (f : List Int) (hL : f.length = 2) : cSumZ (hList f 2) 0 1 = gi f 0 := by
  simp only [cSumZ, hList_len, hv_2_0 f hL]
  simp [ch_1_0]
  try omega
theorem cf_2_1 (f : List Int) (hL : f.length = 2) : cSumZ (hList f 2) 1 2 = gi f 1 := by
  simp only [cSumZ, hList_len, hv_2_0 f hL, hv_2_1 f hL]
  simp [ch_1_1, ch_0_0]
  try omega
theorem cfh_2 (f : List Int) (hL : f.length = 2) (b0 : 0 ≤ gi f 0 ∧ gi f 0 ≤ 1) (b1 : 0 ≤ gi f 1 ∧ gi f 1 ≤ 6) : cfhB (hList f 2) = f := by
  have hok := hok_2 f hL b0 b1
  rw [cfhB, if_pos hok, cList, hList_len]
  refine List.ext_getElem (by simp [hL]) fun k h1 h2 => ?_
  have hk : k < 2 := by simpa using h1
  rw [← gi_eq f k h2]
  simp only [List.getElem_map, List.getElem_range]
  rw [(cSum_Z hok k (k + 1) (by omega)).1]
  have hcs : k = 0 ∨ k = 1 := by omega
  rcases hcs with rfl | rfl
  · exact cf_2_0 f hL
  · exact cf_2_1 f hL

/-! ### Length 3 -/
theorem hv_3_0 (f : List Int) (hL : f.length = 3) : gi (hList f 3) 0 = (1) * gi f 0 := by
  rw [hList_gi (by omega)]
  simp [hSum, hSgn, hTerm, hL, ch_2_0]
  try omega
theorem hv_3_1 (f : List Int) (hL : f.length = 3) : gi (hList f 3) 1 = (-2) * gi f 0 + (1) * gi f 1 := by
  rw [hList_gi (by omega)]
  simp [hSum, hSgn, hTerm, hL, ch_2_1, ch_1_0]
  try omega
theorem hv_3_2 (f : List Int) (hL : f.length = 3) : gi (hList f 3) 2 = (1) * gi f 0 + (-1) * gi f 1 + (1) * gi f 2 := by
  rw [hList_gi (by omega)]
  simp [hSum, hSgn, hTerm, hL, ch_2_2, ch_1_1, ch_0_0]
  try omega
theorem hok_3 (f : List Int) (hL : f.length = 3) (b0 : 0 ≤ gi f 0 ∧ gi f 0 ≤ 1) (b1 : 0 ≤ gi f 1 ∧ gi f 1 ≤ 6) (b2 : 0 ≤ gi f 2 ∧ gi f 2 ≤ 15) : cfhOk (hList f 3) := by
  refine ⟨by rw [hList_len]; omega, by rw [hList_len]; omega, all_gi fun j hj => ?_⟩
  rw [hList_len] at hj
  have hcs : j = 0 ∨ j = 1 ∨ j = 2 := by omega
  rcases hcs with rfl | rfl | rfl
  · rw [hv_3_0 f hL]; omega
  · rw [hv_3_1 f hL]; omega
  · rw [hv_3_2 f hL]; omega
theorem cf_3_0 (f : List Int) (hL : f.length = 3) : cSumZ (hList f 3) 0 1 = gi f 0 := by
  simp only [cSumZ, hList_len, hv_3_0 f hL]
  simp [ch_2_0]
  try omega
theorem cf_3_1 (f : List Int) (hL : f.length = 3) : cSumZ (hList f 3) 1 2 = gi f 1 := by
  simp only [cSumZ, hList_len, hv_3_0 f hL, hv_3_1 f hL]
  simp [ch_2_1, ch_1_0]
  try omega
theorem cf_3_2 (f : List Int) (hL : f.length = 3) : cSumZ (hList f 3) 2 3 = gi f 2 := by
  simp only [cSumZ, hList_len, hv_3_0 f hL, hv_3_1 f hL, hv_3_2 f hL]
  simp [ch_2_2, ch_1_1, ch_0_0]
  try omega
theorem cfh_3 (f : List Int) (hL : f.length = 3) (b0 : 0 ≤ gi f 0 ∧ gi f 0 ≤ 1) (b1 : 0 ≤ gi f 1 ∧ gi f 1 ≤ 6) (b2 : 0 ≤ gi f 2 ∧ gi f 2 ≤ 15) : cfhB (hList f 3) = f := by
  have hok := hok_3 f hL b0 b1 b2
  rw [cfhB, if_pos hok, cList, hList_len]
  refine List.ext_getElem (by simp [hL]) fun k h1 h2 => ?_
  have hk : k < 3 := by simpa using h1
  rw [← gi_eq f k h2]
  simp only [List.getElem_map, List.getElem_range]
  rw [(cSum_Z hok k (k + 1) (by omega)).1]
  have hcs : k = 0 ∨ k = 1 ∨ k = 2 := by omega
  rcases hcs with rfl | rfl | rfl
  · exact cf_3_0 f hL
  · exact cf_3_1 f hL
  · exact cf_3_2 f hL

/-! ### Length 4 -/
theorem hv_4_0 (f : List Int) (hL : f.length = 4) : gi (hList f 4) 0 = (1) * gi f 0 := by
  rw [hList_gi (by omega)]
  simp [hSum, hSgn, hTerm, hL, ch_3_0]
  try omega
theorem hv_4_1 (f : List Int) (hL : f.length = 4) : gi (hList f 4) 1 = (-3) * gi f 0 + (1) * gi f 1 := by
  rw [hList_gi (by omega)]
  simp [hSum, hSgn, hTerm, hL, ch_3_1, ch_2_0]
  try omega
theorem hv_4_2 (f : List Int) (hL : f.length = 4) : gi (hList f 4) 2 = (3) * gi f 0 + (-2) * gi f 1 + (1) * gi f 2 := by
  rw [hList_gi (by omega)]
  simp [hSum, hSgn, hTerm, hL, ch_3_2, ch_2_1, ch_1_0]
  try omega
theorem hv_4_3 (f : List Int) (hL : f.length = 4) : gi (hList f 4) 3 = (-1) * gi f 0 + (1) * gi f 1 + (-1) * gi f 2 + (1) * gi f 3 := by
  rw [hList_gi (by omega)]
  simp [hSum, hSgn, hTerm, hL, ch_3_3, ch_2_2, ch_1_1, ch_0_0]
  try omega
theorem hok_4 (f : List Int) (hL : f.length = 4) (b0 : 0 ≤ gi f 0 ∧ gi f 0 ≤ 1) (b1 : 0 ≤ gi f 1 ∧ gi f 1 ≤ 6) (b2 : 0 ≤ gi f 2 ∧ gi f 2 ≤ 15) (b3 : 0 ≤ gi f 3 ∧ gi f 3 ≤ 20) : cfhOk (hList f 4) := by
  refine ⟨by rw [hList_len]; omega, by rw [hList_len]; omega, all_gi fun j hj => ?_⟩
  rw [hList_len] at hj
  have hcs : j = 0 ∨ j = 1 ∨ j = 2 ∨ j = 3 := by omega
  rcases hcs with rfl | rfl | rfl | rfl
  · rw [hv_4_0 f hL]; omega
  · rw [hv_4_1 f hL]; omega
  · rw [hv_4_2 f hL]; omega
  · rw [hv_4_3 f hL]; omega
theorem cf_4_0 (f : List Int) (hL : f.length = 4) : cSumZ (hList f 4) 0 1 = gi f 0 := by
  simp only [cSumZ, hList_len, hv_4_0 f hL]
  simp [ch_3_0]
  try omega
theorem cf_4_1 (f : List Int) (hL : f.length = 4) : cSumZ (hList f 4) 1 2 = gi f 1 := by
  simp only [cSumZ, hList_len, hv_4_0 f hL, hv_4_1 f hL]
  simp [ch_3_1, ch_2_0]
  try omega
theorem cf_4_2 (f : List Int) (hL : f.length = 4) : cSumZ (hList f 4) 2 3 = gi f 2 := by
  simp only [cSumZ, hList_len, hv_4_0 f hL, hv_4_1 f hL, hv_4_2 f hL]
  simp [ch_3_2, ch_2_1, ch_1_0]
  try omega
theorem cf_4_3 (f : List Int) (hL : f.length = 4) : cSumZ (hList f 4) 3 4 = gi f 3 := by
  simp only [cSumZ, hList_len, hv_4_0 f hL, hv_4_1 f hL, hv_4_2 f hL, hv_4_3 f hL]
  simp [ch_3_3, ch_2_2, ch_1_1, ch_0_0]
  try omega
theorem cfh_4 (f : List Int) (hL : f.length = 4) (b0 : 0 ≤ gi f 0 ∧ gi f 0 ≤ 1) (b1 : 0 ≤ gi f 1 ∧ gi f 1 ≤ 6) (b2 : 0 ≤ gi f 2 ∧ gi f 2 ≤ 15) (b3 : 0 ≤ gi f 3 ∧ gi f 3 ≤ 20) : cfhB (hList f 4) = f := by
  have hok := hok_4 f hL b0 b1 b2 b3
  rw [cfhB, if_pos hok, cList, hList_len]
  refine List.ext_getElem (by simp [hL]) fun k h1 h2 => ?_
  have hk : k < 4 := by simpa using h1
  rw [← gi_eq f k h2]
  simp only [List.getElem_map, List.getElem_range]
  rw [(cSum_Z hok k (k + 1) (by omega)).1]
  have hcs : k = 0 ∨ k = 1 ∨ k = 2 ∨ k = 3 := by omega
  rcases hcs with rfl | rfl | rfl | rfl
  · exact cf_4_0 f hL
  · exact cf_4_1 f hL
  · exact cf_4_2 f hL
  · exact cf_4_3 f hL

/-! ### Length 5 -/
theorem hv_5_0 (f : List Int) (hL : f.length = 5) : gi (hList f 5) 0 = (1) * gi f 0 := by
  rw [hList_gi (by omega)]
  simp [hSum, hSgn, hTerm, hL, ch_4_0]
  try omega
theorem hv_5_1 (f : List Int) (hL : f.length = 5) : gi (hList f 5) 1 = (-4) * gi f 0 + (1) * gi f 1 := by
  rw [hList_gi (by omega)]
  simp [hSum, hSgn, hTerm, hL, ch_4_1, ch_3_0]
  try omega
theorem hv_5_2 (f : List Int) (hL : f.length = 5) : gi (hList f 5) 2 = (6) * gi f 0 + (-3) * gi f 1 + (1) * gi f 2 := by
  rw [hList_gi (by omega)]
  simp [hSum, hSgn, hTerm, hL, ch_4_2, ch_3_1, ch_2_0]
  try omega
theorem hv_5_3 (f : List Int) (hL : f.length = 5) : gi (hList f 5) 3 = (-4) * gi f 0 + (3) * gi f 1 + (-2) * gi f 2 + (1) * gi f 3 := by
  rw [hList_gi (by omega)]
  simp [hSum, hSgn, hTerm, hL, ch_4_3, ch_3_2, ch_2_1, ch_1_0]
  try omega
theorem hv_5_4 (f : List Int) (hL : f.length = 5) : gi (hList f 5) 4 = (1) * gi f 0 + (-1) * gi f 1 + (1) * gi f 2 + (-1) * gi f 3 + (1) * gi f 4 := by
  rw [hList_gi (by omega)]
  simp [hSum, hSgn, hTerm, hL, ch_4_4, ch_3_3, ch_2_2, ch_1_1, ch_0_0]
  try omega
theorem hok_5 (f : List Int) (hL : f.length = 5) (b0 : 0 ≤ gi f 0 ∧ gi f 0 ≤ 1) (b1 : 0 ≤ gi f 1 ∧ gi f 1 ≤ 6) (b2 : 0 ≤ gi f 2 ∧ gi f 2 ≤ 15) (b3 : 0 ≤ gi f 3 ∧ gi f 3 ≤ 20) (b4 : 0 ≤ gi f 4 ∧ gi f 4 ≤ 15) : cfhOk (hList f 5) := by
  refine ⟨by rw [hList_len]; omega, by rw [hList_len]; omega, all_gi fun j hj => ?_⟩
  rw [hList_len] at hj
  have hcs : j = 0 ∨ j = 1 ∨ j = 2 ∨ j = 3 ∨ j = 4 := by omega
  rcases hcs with rfl | rfl | rfl | rfl | rfl
  · rw [hv_5_0 f hL]; omega
  · rw [hv_5_1 f hL]; omega
  · rw [hv_5_2 f hL]; omega
  · rw [hv_5_3 f hL]; omega
  · rw [hv_5_4 f hL]; omega
theorem cf_5_0 (f : List Int) (hL : f.length = 5) : cSumZ (hList f 5) 0 1 = gi f 0 := by
  simp only [cSumZ, hList_len, hv_5_0 f hL]
  simp [ch_4_0]
  try omega
theorem cf_5_1 (f : List Int) (hL : f.length = 5) : cSumZ (hList f 5) 1 2 = gi f 1 := by
  simp only [cSumZ, hList_len, hv_5_0 f hL, hv_5_1 f hL]
  simp [ch_4_1, ch_3_0]
  try omega
theorem cf_5_2 (f : List Int) (hL : f.length = 5) : cSumZ (hList f 5) 2 3 = gi f 2 := by
  simp only [cSumZ, hList_len, hv_5_0 f hL, hv_5_1 f hL, hv_5_2 f hL]
  simp [ch_4_2, ch_3_1, ch_2_0]
  try omega
theorem cf_5_3 (f : List Int) (hL : f.length = 5) : cSumZ (hList f 5) 3 4 = gi f 3 := by
  simp only [cSumZ, hList_len, hv_5_0 f hL, hv_5_1 f hL, hv_5_2 f hL, hv_5_3 f hL]
  simp [ch_4_3, ch_3_2, ch_2_1, ch_1_0]
  try omega
theorem cf_5_4 (f : List Int) (hL : f.length = 5) : cSumZ (hList f 5) 4 5 = gi f 4 := by
  simp only [cSumZ, hList_len, hv_5_0 f hL, hv_5_1 f hL, hv_5_2 f hL, hv_5_3 f hL, hv_5_4 f hL]
  simp [ch_4_4, ch_3_3, ch_2_2, ch_1_1, ch_0_0]
  try omega
theorem cfh_5 (f : List Int) (hL : f.length = 5) (b0 : 0 ≤ gi f 0 ∧ gi f 0 ≤ 1) (b1 : 0 ≤ gi f 1 ∧ gi f 1 ≤ 6) (b2 : 0 ≤ gi f 2 ∧ gi f 2 ≤ 15) (b3 : 0 ≤ gi f 3 ∧ gi f 3 ≤ 20) (b4 : 0 ≤ gi f 4 ∧ gi f 4 ≤ 15) : cfhB (hList f 5) = f := by
  have hok := hok_5 f hL b0 b1 b2 b3 b4
  rw [cfhB, if_pos hok, cList, hList_len]
  refine List.ext_getElem (by simp [hL]) fun k h1 h2 => ?_
  have hk : k < 5 := by simpa using h1
  rw [← gi_eq f k h2]
  simp only [List.getElem_map, List.getElem_range]
  rw [(cSum_Z hok k (k + 1) (by omega)).1]
  have hcs : k = 0 ∨ k = 1 ∨ k = 2 ∨ k = 3 ∨ k = 4 := by omega
  rcases hcs with rfl | rfl | rfl | rfl | rfl
  · exact cf_5_0 f hL
  · exact cf_5_1 f hL
  · exact cf_5_2 f hL
  · exact cf_5_3 f hL
  · exact cf_5_4 f hL

/-! ### Length 6 -/
theorem hv_6_0 (f : List Int) (hL : f.length = 6) : gi (hList f 6) 0 = (1) * gi f 0 := by
  rw [hList_gi (by omega)]
  simp [hSum, hSgn, hTerm, hL, ch_5_0]
  try omega
theorem hv_6_1 (f : List Int) (hL : f.length = 6) : gi (hList f 6) 1 = (-5) * gi f 0 + (1) * gi f 1 := by
  rw [hList_gi (by omega)]
  simp [hSum, hSgn, hTerm, hL, ch_5_1, ch_4_0]
  try omega
theorem hv_6_2 (f : List Int) (hL : f.length = 6) : gi (hList f 6) 2 = (10) * gi f 0 + (-4) * gi f 1 + (1) * gi f 2 := by
  rw [hList_gi (by omega)]
  simp [hSum, hSgn, hTerm, hL, ch_5_2, ch_4_1, ch_3_0]
  try omega
theorem hv_6_3 (f : List Int) (hL : f.length = 6) : gi (hList f 6) 3 = (-10) * gi f 0 + (6) * gi f 1 + (-3) * gi f 2 + (1) * gi f 3 := by
  rw [hList_gi (by omega)]
  simp [hSum, hSgn, hTerm, hL, ch_5_3, ch_4_2, ch_3_1, ch_2_0]
  try omega
theorem hv_6_4 (f : List Int) (hL : f.length = 6) : gi (hList f 6) 4 = (5) * gi f 0 + (-4) * gi f 1 + (3) * gi f 2 + (-2) * gi f 3 + (1) * gi f 4 := by
  rw [hList_gi (by omega)]
  simp [hSum, hSgn, hTerm, hL, ch_5_4, ch_4_3, ch_3_2, ch_2_1, ch_1_0]
  try omega
theorem hv_6_5 (f : List Int) (hL : f.length = 6) : gi (hList f 6) 5 = (-1) * gi f 0 + (1) * gi f 1 + (-1) * gi f 2 + (1) * gi f 3 + (-1) * gi f 4 + (1) * gi f 5 := by
  rw [hList_gi (by omega)]
  simp [hSum, hSgn, hTerm, hL, ch_5_5, ch_4_4, ch_3_3, ch_2_2, ch_1_1, ch_0_0]
  try omega
theorem hok_6 (f : List Int) (hL : f.length = 6) (b0 : 0 ≤ gi f 0 ∧ gi f 0 ≤ 1) (b1 : 0 ≤ gi f 1 ∧ gi f 1 ≤ 6) (b2 : 0 ≤ gi f 2 ∧ gi f 2 ≤ 15) (b3 : 0 ≤ gi f 3 ∧ gi f 3 ≤ 20) (b4 : 0 ≤ gi f 4 ∧ gi f 4 ≤ 15) (b5 : 0 ≤ gi f 5 ∧ gi f 5 ≤ 6) : cfhOk (hList f 6) := by
  refine ⟨by rw [hList_len]; omega, by rw [hList_len]; omega, all_gi fun j hj => ?_⟩
  rw [hList_len] at hj
  have hcs : j = 0 ∨ j = 1 ∨ j = 2 ∨ j = 3 ∨ j = 4 ∨ j = 5 := by omega
  rcases hcs with rfl | rfl | rfl | rfl | rfl | rfl
  · rw [hv_6_0 f hL]; omega
  · rw [hv_6_1 f hL]; omega
  · rw [hv_6_2 f hL]; omega
  · rw [hv_6_3 f hL]; omega
  · rw [hv_6_4 f hL]; omega
  · rw [hv_6_5 f hL]; omega
theorem cf_6_0 (f : List Int) (hL : f.length = 6) : cSumZ (hList f 6) 0 1 = gi f 0 := by
  simp only [cSumZ, hList_len, hv_6_0 f hL]
  simp [ch_5_0]
  try omega
theorem cf_6_1 (f : List Int) (hL : f.length = 6) : cSumZ (hList f 6) 1 2 = gi f 1 := by
  simp only [cSumZ, hList_len, hv_6_0 f hL, hv_6_1 f hL]
  simp [ch_5_1, ch_4_0]
  try omega
theorem cf_6_2 (f : List Int) (hL : f.length = 6) : cSumZ (hList f 6) 2 3 = gi f 2 := by
  simp only [cSumZ, hList_len, hv_6_0 f hL, hv_6_1 f hL, hv_6_2 f hL]
  simp [ch_5_2, ch_4_1, ch_3_0]
  try omega
theorem cf_6_3 (f : List Int) (hL : f.length = 6) : cSumZ (hList f 6) 3 4 = gi f 3 := by
  simp only [cSumZ, hList_len, hv_6_0 f hL, hv_6_1 f hL, hv_6_2 f hL, hv_6_3 f hL]
  simp [ch_5_3, ch_4_2, ch_3_1, ch_2_0]
  try omega
theorem cf_6_4 (f : List Int) (hL : f.length = 6) : cSumZ (hList f 6) 4 5 = gi f 4 := by
  simp only [cSumZ, hList_len, hv_6_0 f hL, hv_6_1 f hL, hv_6_2 f hL, hv_6_3 f hL, hv_6_4 f hL]
  simp [ch_5_4, ch_4_3, ch_3_2, ch_2_1, ch_1_0]
  try omega
theorem cf_6_5 (f : List Int) (hL : f.length = 6) : cSumZ (hList f 6) 5 6 = gi f 5 := by
  simp only [cSumZ, hList_len, hv_6_0 f hL, hv_6_1 f hL, hv_6_2 f hL, hv_6_3 f hL, hv_6_4 f hL, hv_6_5 f hL]
  simp [ch_5_5, ch_4_4, ch_3_3, ch_2_2, ch_1_1, ch_0_0]
  try omega
theorem cfh_6 (f : List Int) (hL : f.length = 6) (b0 : 0 ≤ gi f 0 ∧ gi f 0 ≤ 1) (b1 : 0 ≤ gi f 1 ∧ gi f 1 ≤ 6) (b2 : 0 ≤ gi f 2 ∧ gi f 2 ≤ 15) (b3 : 0 ≤ gi f 3 ∧ gi f 3 ≤ 20) (b4 : 0 ≤ gi f 4 ∧ gi f 4 ≤ 15) (b5 : 0 ≤ gi f 5 ∧ gi f 5 ≤ 6) : cfhB (hList f 6) = f := by
  have hok := hok_6 f hL b0 b1 b2 b3 b4 b5
  rw [cfhB, if_pos hok, cList, hList_len]
  refine List.ext_getElem (by simp [hL]) fun k h1 h2 => ?_
  have hk : k < 6 := by simpa using h1
  rw [← gi_eq f k h2]
  simp only [List.getElem_map, List.getElem_range]
  rw [(cSum_Z hok k (k + 1) (by omega)).1]
  have hcs : k = 0 ∨ k = 1 ∨ k = 2 ∨ k = 3 ∨ k = 4 ∨ k = 5 := by omega
  rcases hcs with rfl | rfl | rfl | rfl | rfl | rfl
  · exact cf_6_0 f hL
  · exact cf_6_1 f hL
  · exact cf_6_2 f hL
  · exact cf_6_3 f hL
  · exact cf_6_4 f hL
  · exact cf_6_5 f hL

/-! ### Length 7 -/
theorem hv_7_0 (f : List Int) (hL : f.length = 7) : gi (hList f 7) 0 = (1) * gi f 0 := by
  rw [hList_gi (by omega)]
  simp [hSum, hSgn, hTerm, hL, ch_6_0]
  try omega
theorem hv_7_1 (f : List Int) (hL : f.length = 7) : gi (hList f 7) 1 = (-6) * gi f 0 + (1) * gi f 1 := by
  rw [hList_gi (by omega)]
  simp [hSum, hSgn, hTerm, hL, ch_6_1, ch_5_0]
  try omega
theorem hv_7_2 (f : List Int) (hL : f.length = 7) : gi (hList f 7) 2 = (15) * gi f 0 + (-5) * gi f 1 + (1) * gi f 2 := by
  rw [hList_gi (by omega)]
  simp [hSum, hSgn, hTerm, hL, ch_6_2, ch_5_1, ch_4_0]
  try omega
theorem hv_7_3 (f : List Int) (hL : f.length = 7) : gi (hList f 7) 3 = (-20) * gi f 0 + (10) * gi f 1 + (-4) * gi f 2 + (1) * gi f 3 := by
  rw [hList_gi (by omega)]
  simp [hSum, hSgn, hTerm, hL, ch_6_3, ch_5_2, ch_4_1, ch_3_0]
  try omega
theorem hv_7_4 (f : List Int) (hL : f.length = 7) : gi (hList f 7) 4 = (15) * gi f 0 + (-10) * gi f 1 + (6) * gi f 2 + (-3) * gi f 3 + (1) * gi f 4 := by
  rw [hList_gi (by omega)]
  simp [hSum, hSgn, hTerm, hL, ch_6_4, ch_5_3, ch_4_2, ch_3_1, ch_2_0]
  try omega
theorem hv_7_5 (f : List Int) (hL : f.length = 7) : gi (hList f 7) 5 = (-6) * gi f 0 + (5) * gi f 1 + (-4) * gi f 2 + (3) * gi f 3 + (-2) * gi f 4 + (1) * gi f 5 := by
  rw [hList_gi (by omega)]
  simp [hSum, hSgn, hTerm, hL, ch_6_5, ch_5_4, ch_4_3, ch_3_2, ch_2_1, ch_1_0]
  try omega
theorem hv_7_6 (f : List Int) (hL : f.length = 7) : gi (hList f 7) 6 = (1) * gi f 0 + (-1) * gi f 1 + (1) * gi f 2 + (-1) * gi f 3 + (1) * gi f 4 + (-1) * gi f 5 + (1) * gi f 6 := by
  rw [hList_gi (by omega)]
  simp [hSum, hSgn, hTerm, hL, ch_6_6, ch_5_5, ch_4_4, ch_3_3, ch_2_2, ch_1_1, ch_0_0]
  try omega
theorem hok_7 (f : List Int) (hL : f.length = 7) (b0 : 0 ≤ gi f 0 ∧ gi f 0 ≤ 1) (b1 : 0 ≤ gi f 1 ∧ gi f 1 ≤ 6) (b2 : 0 ≤ gi f 2 ∧ gi f 2 ≤ 15) (b3 : 0 ≤ gi f 3 ∧ gi f 3 ≤ 20) (b4 : 0 ≤ gi f 4 ∧ gi f 4 ≤ 15) (b5 : 0 ≤ gi f 5 ∧ gi f 5 ≤ 6) (b6 : 0 ≤ gi f 6 ∧ gi f 6 ≤ 1) : cfhOk (hList f 7) := by
  refine ⟨by rw [hList_len]; omega, by rw [hList_len]; omega, all_gi fun j hj => ?_⟩
  rw [hList_len] at hj
  have hcs : j = 0 ∨ j = 1 ∨ j = 2 ∨ j = 3 ∨ j = 4 ∨ j = 5 ∨ j = 6 := by omega
  rcases hcs with rfl | rfl | rfl | rfl | rfl | rfl | rfl
  · rw [hv_7_0 f hL]; omega
  · rw [hv_7_1 f hL]; omega
  · rw [hv_7_2 f hL]; omega
  · rw [hv_7_3 f hL]; omega
  · rw [hv_7_4 f hL]; omega
  · rw [hv_7_5 f hL]; omega
  · rw [hv_7_6 f hL]; omega
theorem cf_7_0 (f : List Int) (hL : f.length = 7) : cSumZ (hList f 7) 0 1 = gi f 0 := by
  simp only [cSumZ, hList_len, hv_7_0 f hL]
  simp [ch_6_0]
  try omega
theorem cf_7_1 (f : List Int) (hL : f.length = 7) : cSumZ (hList f 7) 1 2 = gi f 1 := by
  simp only [cSumZ, hList_len, hv_7_0 f hL, hv_7_1 f hL]
  simp [ch_6_1, ch_5_0]
  try omega
theorem cf_7_2 (f : List Int) (hL : f.length = 7) : cSumZ (hList f 7) 2 3 = gi f 2 := by
  simp only [cSumZ, hList_len, hv_7_0 f hL, hv_7_1 f hL, hv_7_2 f hL]
  simp [ch_6_2, ch_5_1, ch_4_0]
  try omega
theorem cf_7_3 (f : List Int) (hL : f.length = 7) : cSumZ (hList f 7) 3 4 = gi f 3 := by
  simp only [cSumZ, hList_len, hv_7_0 f hL, hv_7_1 f hL, hv_7_2 f hL, hv_7_3 f hL]
  simp [ch_6_3, ch_5_2, ch_4_1, ch_3_0]
  try omega
theorem cf_7_4 (f : List Int) (hL : f.length = 7) : cSumZ (hList f 7) 4 5 = gi f 4 := by
  simp only [cSumZ, hList_len, hv_7_0 f hL, hv_7_1 f hL, hv_7_2 f hL, hv_7_3 f hL, hv_7_4 f hL]
  simp [ch_6_4, ch_5_3, ch_4_2, ch_3_1, ch_2_0]
  try omega
theorem cf_7_5 (f : List Int) (hL : f.length = 7) : cSumZ (hList f 7) 5 6 = gi f 5 := by
  simp only [cSumZ, hList_len, hv_7_0 f hL, hv_7_1 f hL, hv_7_2 f hL, hv_7_3 f hL, hv_7_4 f hL, hv_7_5 f hL]
  simp [ch_6_5, ch_5_4, ch_4_3, ch_3_2, ch_2_1, ch_1_0]
  try omega
theorem cf_7_6 (f : List Int) (hL : f.length = 7) : cSumZ (hList f 7) 6 7 = gi f 6 := by
  simp only [cSumZ, hList_len, hv_7_0 f hL, hv_7_1 f hL, hv_7_2 f hL, hv_7_3 f hL, hv_7_4 f hL, hv_7_5 f hL, hv_7_6 f hL]
  simp [ch_6_6, ch_5_5, ch_4_4, ch_3_3, ch_2_2, ch_1_1, ch_0_0]
  try omega
theorem cfh_7 (f : List Int) (hL : f.length = 7) (b0 : 0 ≤ gi f 0 ∧ gi f 0 ≤ 1) (b1 : 0 ≤ gi f 1 ∧ gi f 1 ≤ 6) (b2 : 0 ≤ gi f 2 ∧ gi f 2 ≤ 15) (b3 : 0 ≤ gi f 3 ∧ gi f 3 ≤ 20) (b4 : 0 ≤ gi f 4 ∧ gi f 4 ≤ 15) (b5 : 0 ≤ gi f 5 ∧ gi f 5 ≤ 6) (b6 : 0 ≤ gi f 6 ∧ gi f 6 ≤ 1) : cfhB (hList f 7) = f := by
  have hok := hok_7 f hL b0 b1 b2 b3 b4 b5 b6
  rw [cfhB, if_pos hok, cList, hList_len]
  refine List.ext_getElem (by simp [hL]) fun k h1 h2 => ?_
  have hk : k < 7 := by simpa using h1
  rw [← gi_eq f k h2]
  simp only [List.getElem_map, List.getElem_range]
  rw [(cSum_Z hok k (k + 1) (by omega)).1]
  have hcs : k = 0 ∨ k = 1 ∨ k = 2 ∨ k = 3 ∨ k = 4 ∨ k = 5 ∨ k = 6 := by omega
  rcases hcs with rfl | rfl | rfl | rfl | rfl | rfl | rfl
  · exact cf_7_0 f hL
  · exact cf_7_1 f hL
  · exact cf_7_2 f hL
  · exact cf_7_3 f hL
  · exact cf_7_4 f hL
  · exact cf_7_5 f hL
  · exact cf_7_6 f hL

end Go.Proofs.Ytjaofbdfhcgmeaa
