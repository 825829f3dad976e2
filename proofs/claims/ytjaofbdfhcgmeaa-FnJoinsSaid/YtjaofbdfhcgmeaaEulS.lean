/-
  Euler's number of a complex.
-/
import Derived.Test.YtjaofbdfhcgmeaaFaces
namespace Go.Proofs.Ytjaofbdfhcgmeaa
open Go.RowKit

theorem gi_nil (k : Nat) : gi [] k = 0 := by simp [gi]
theorem nodupLen {l1 l2 : List Int} (h : l1.Nodup) (hs : ∀ x ∈ l1, x ∈ l2) : l1.length ≤ l2.length := by
  induction l1 generalizing l2 with
  | nil => simp
  | cons a l1 ih =>
    have ha := hs a (List.mem_cons_self ..)
    rw [List.nodup_cons] at h
    have := ih (l2 := l2.erase a) h.2 (fun x hx => (List.mem_erase_of_ne (fun e => h.1 (by rw [← e]; exact hx))).2 (hs x (List.mem_cons_of_mem _ hx)))
    rw [List.length_erase_of_mem ha] at this
    have : 0 < l2.length := List.length_pos_of_mem ha
    simp only [List.length_cons]
    omega
theorem rowTo_nd (P : Int → Bool) (z : Int) (k : Nat) : (rowTo P z k).Nodup := by
  induction k with
  | zero => simp [rowTo]
  | succ k ih =>
    rw [rowTo]
    split
    · rw [List.nodup_append]
      refine ⟨ih, by simp, fun a ha b hb e => ?_⟩
      rw [List.mem_singleton] at hb
      have := (mem_rowTo.1 ha).2.1
      omega
    · exact ih
theorem fv_at (n : Int) (fs : List Int) (k : Nat) : (isC n fs = true ∧ k < sizesN (dn (mem fs)) ∧ gi (fvB n fs) k = ((rowTo (dn (mem fs)) (k : Int) 64).length : Int)) ∨ gi (fvB n fs) k = 0 := by
  unfold fvB
  split
  · rename_i hc
    by_cases h : k < sizesN (dn (mem fs))
    · left
      refine ⟨hc, h, ?_⟩
      rw [cntS, lens_gi (by simpa [bySz] using h), bySz, bySzTo_get h]
    · right
      simp only [gi, List.getD]
      rw [List.getElem?_eq_none (by rw [cntS_len]; omega)]; rfl
  · right; simp [gi]
def eulC (s : Int) : Int := 2 * (pc s % 2) - 1
def eulL (L : List Int) : Int := (L.map eulC).sum
def eulB (n : Int) (fs : List Int) : Int := eulL (facesB n fs)
theorem eulC_rng (s : Int) : -1 ≤ eulC s ∧ eulC s ≤ 1 := by unfold eulC; omega
theorem eulL_append (a b : List Int) : eulL (a ++ b) = eulL a + eulL b := by simp [eulL, List.sum_append]
theorem eulL_rng (L : List Int) : -(L.length : Int) ≤ eulL L ∧ eulL L ≤ (L.length : Int) := by
  induction L with
  | nil => simp [eulL]
  | cons a L ih =>
    have h := eulC_rng a
    have e : eulL (a :: L) = eulC a + eulL L := by simp [eulL]
    rw [e, List.length_cons]
    omega
theorem eulL_const {L : List Int} {z : Int} (h : ∀ x ∈ L, pc x = z) : eulL L = (L.length : Int) * (2 * (z % 2) - 1) := by
  induction L with
  | nil => simp [eulL]
  | cons a L ih =>
    have e : eulL (a :: L) = eulC a + eulL L := by simp [eulL]
    rw [e, ih fun x hx => h x (List.mem_cons_of_mem _ hx), eulC, h a (List.mem_cons_self ..), List.length_cons]
    push_cast
    rw [Int.add_mul]
    omega
theorem eulL_row (P : Int → Bool) (z : Int) (k : Nat) : eulL (rowTo P z k) = ((rowTo P z k).length : Int) * (2 * (z % 2) - 1) := eulL_const fun _ hx => (mem_rowTo.1 hx).2.2.2
theorem fv_row {n : Int} {fs : List Int} (hc : isC n fs = true) (k : Nat) : gi (fvB n fs) k = ((rowTo (dn (mem fs)) (k : Int) 64).length : Int) := by
  rcases fv_at n fs k with ⟨_, _, h⟩ | h
  · exact h
  · by_cases hk : k < sizesN (dn (mem fs))
    · rw [fvB, if_pos hc, cntS, lens_gi (by simpa [bySz] using hk), bySz, bySzTo_get hk]
    · rw [h]
      have : rowTo (dn (mem fs)) (k : Int) 64 = [] := by
        rw [List.eq_nil_iff_forall_not_mem]
        intro x hx
        obtain ⟨x0, x1, x2, x3⟩ := mem_rowTo.1 hx
        have h1 := topN_ge (P := dn (mem fs)) (s := 64) (t := x.toNat) (by omega) (by rwa [Int.toNat_of_nonneg x0])
        rw [Int.toNat_of_nonneg x0] at h1
        have h2 := sizesN_eq (dn (mem fs))
        omega
      rw [this]; rfl
theorem eul_fv (n : Int) (fs : List Int) : eulB n fs = -gi (fvB n fs) 0 + gi (fvB n fs) 1 - gi (fvB n fs) 2 + gi (fvB n fs) 3 - gi (fvB n fs) 4 + gi (fvB n fs) 5 - gi (fvB n fs) 6 := by
  cases hc : isC n fs with
  | false =>
    have e1 : facesB n fs = [] := if_neg (by simp [hc])
    have e2 : fvB n fs = [] := if_neg (by simp [hc])
    rw [eulB, e1, e2]
    simp [eulL, gi_nil]
  | true =>
    have e1 : facesB n fs = setsL (dn (mem fs)) := if_pos hc
    rw [eulB, e1, setsL]
    simp only [fv_row hc]
    simp only [allTo, eulL_append, eulL_row]
    simp [eulL]
    omega

theorem pc_zero_fin : ∀ s : Fin 64, pc s.val = 0 → s.val = 0 := by decide +kernel
theorem fv_zero {n : Int} {fs : List Int} (h : 0 < (fvB n fs).length) : gi (fvB n fs) 0 = 1 := by
  cases hc : isC n fs with
  | false => rw [fvB, if_neg (by simp [hc])] at h; simp at h
  | true =>
    rw [fv_row hc 0]
    have hs : 0 < sizesN (dn (mem fs)) := by rw [fvB, if_pos hc, cntS_len] at h; exact h
    have h0 : dn (mem fs) 0 = true := by
      cases hd : dn (mem fs) 0 with
      | true => rfl
      | false =>
        have h1 : topN (dn (mem fs)) 64 ≤ -1 := topN_le (by omega) fun t ht hp => by
          obtain ⟨u, u0, u1, hu, hsub⟩ := dn_iff.1 hp
          have : dn (mem fs) 0 = true := dn_iff.2 ⟨u, u0, u1, hu, by simp [sub]⟩
          rw [hd] at this; cases this
        have h2 := sizesN_eq (dn (mem fs))
        omega
    have hm : (0 : Int) ∈ rowTo (dn (mem fs)) ((0 : Nat) : Int) 64 := mem_rowTo.2 ⟨by omega, by omega, h0, by decide⟩
    have h1 := nodupLen (l2 := [0]) (rowTo_nd (dn (mem fs)) ((0 : Nat) : Int) 64) fun x hx => by
      obtain ⟨x0, x1, _, x3⟩ := mem_rowTo.1 hx
      obtain ⟨a, ha⟩ := fin64 x0 (by omega)
      have := pc_zero_fin a (by rw [ha, x3]; rfl)
      rw [List.mem_singleton, ← ha]; omega
    have h2 := List.length_pos_of_mem hm
    simp only [List.length_singleton] at h1
    omega

end Go.Proofs.Ytjaofbdfhcgmeaa
