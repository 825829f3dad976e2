/-
  A complex under new names: its faces and holes; plain law.
-/
import Derived.Test.YtjaofbdfhcgmeaaGreatNmSign
import Derived.Test.YtjaofbdfhcgmeaaGreatHoles2
namespace Go.Proofs.YtjaofbdfhcgmeaaGreat
open Go.RowKit

theorem isC_anti {n : Int} {fs : List Int} (hc : IsC n fs) {s t : Int} (hs : s ∈ fs) (ht : t ∈ fs) (h : sub s t = true) : s = t := by
  have h64 := (pw_rng (by have := hc.1; omega : 0 ≤ n) hc.2.1).2
  have rs := hc.2.2.1 s hs
  have rt := hc.2.2.1 t ht
  obtain ⟨i, hi, rfl⟩ := mem_gi hs
  obtain ⟨j, hj, rfl⟩ := mem_gi ht
  rw [gi_eq _ _ hi, gi_eq _ _ hj] at *
  refine Classical.byContradiction fun hne => ?_
  have hb := sub_lt_before rs.1 (by omega) rt.1 (by omega) h (fun e => hne e.symm)
  rcases Nat.lt_trichotomy i j with h1 | h1 | h1
  · have := List.pairwise_iff_getElem.1 hc.2.2.2.2 i j hi hj h1
    rw [h] at this; cases this
  · subst h1; exact hne rfl
  · have := List.pairwise_iff_getElem.1 hc.2.2.2.1 j i hj hi h1
    exact bef_irrefl' hb this
theorem rnL_isC {n : Int} {fs xs : List Int} (h : Names n xs) (hc : IsC n fs) : IsC n (rnL fs xs) := by
  refine ⟨hc.1, hc.2.1, fun y hy => ?_, setsL_sorted _, ?_⟩
  · obtain ⟨s, _, rfl⟩ := (mem_rnL h).1 hy
    exact ⟨(rnB_rng h s).1, rnB_low h s⟩
  · refine List.Pairwise.imp_of_mem ?_ (setsL_sorted (mem (rnM fs xs)))
    intro a b ha hb hab
    obtain ⟨s, hs, rfl⟩ := (mem_rnL h).1 ha
    obtain ⟨t, ht, rfl⟩ := (mem_rnL h).1 hb
    have rs := hc.2.2.1 s hs
    have rt := hc.2.2.1 t ht
    rw [rn_sub h rs.1 rs.2 rt.1 rt.2, ← Bool.not_eq_true]
    intro hsub
    have := isC_anti hc hs ht hsub
    subst this
    exact bef_irrefl _ hab
theorem fv_rn {n : Int} {fs xs : List Int} (h : Names n xs) (hc : IsC n fs) : fvB n (rnL fs xs) = fvB n fs := by
  rw [fvB, fvB, if_pos (isC_iff.2 (rnL_isC h hc)), if_pos (isC_iff.2 hc)]
  exact cnt_rnL h hc.2.2.1
theorem dn_rn {n : Int} {fs xs : List Int} (h : Names n xs) (hc : IsC n fs) {s : Int} (s0 : 0 ≤ s) (s1 : s < pw n) : dn (mem (rnL fs xs)) (rnB s xs) = dn (mem fs) s := by
  have hp := pw_rng (by have := h.1; omega : 0 ≤ n) h.2.1
  refine bool_ext ?_
  rw [dn_iff, dn_iff]
  constructor
  · rintro ⟨t, t0, t1, ht, hst⟩
    obtain ⟨u, hu, rfl⟩ := (mem_rnL h).1 (mem_iff.1 ht)
    have := hc.2.2.1 u hu
    rw [rn_sub h s0 s1 this.1 this.2] at hst
    exact ⟨u, this.1, by omega, mem_iff.2 hu, hst⟩
  · rintro ⟨t, t0, t1, ht, hst⟩
    have := hc.2.2.1 t (mem_iff.1 ht)
    have r := rnB_rng h t
    exact ⟨_, r.1, r.2, mem_iff.2 ((mem_rnL h).2 ⟨t, mem_iff.1 ht, rfl⟩), by rw [rn_sub h s0 s1 this.1 this.2]; exact hst⟩
theorem dn_low {n : Int} {fs : List Int} (hf : ∀ x ∈ fs, 0 ≤ x ∧ x < pw n) {s : Int} (s0 : 0 ≤ s) (s1 : s < 64) (hs : dn (mem fs) s = true) : s < pw n := by
  obtain ⟨t, t0, t1, ht, hst⟩ := dn_iff.1 hs
  have := sub_le6 s0 s1 t0 t1 hst
  have := (hf t (mem_iff.1 ht)).2
  omega
theorem holes_rn {n : Int} {fs xs : List Int} (h : Names n xs) (hc : IsC n fs) (p : Int) : holesB n (rnL fs xs) p = holesB n fs p := by
  have hc2 := rnL_isC h hc
  by_cases hp : primeB p = true
  · rw [holesB, holesB, if_pos ⟨isC_iff.2 hc2, hp⟩, if_pos ⟨isC_iff.2 hc, hp⟩]
    have hcnt := cnt_rnL h hc.2.2.1
    have hsz : sizesN (dn (mem (rnL fs xs))) = sizesN (dn (mem fs)) := by rw [← cntS_len, ← cntS_len, hcnt]
    have hP := primeB_iff.1 hp
    rw [hsz, holeTo, holeTo]
    refine List.map_congr_left fun j hj => ?_
    have hj' := List.mem_range.1 hj
    have e1 : ((rowTo (dn (mem (rnL fs xs))) (j : Int) 64).length : Int) = ((rowTo (dn (mem fs)) (j : Int) 64).length : Int) := by
      have h1 := lens_gi (M := bySz (dn (mem (rnL fs xs)))) (j := j) (by rw [bySz, bySzTo_len, hsz]; exact hj')
      have h2 := lens_gi (M := bySz (dn (mem fs))) (j := j) (by rw [bySz, bySzTo_len]; exact hj')
      rw [bySz, bySzTo_get (by rw [hsz]; exact hj')] at h1
      rw [bySz, bySzTo_get hj'] at h2
      rw [← h1, ← h2]
      have : lens (bySzTo (dn (mem (rnL fs xs))) 64) = lens (bySzTo (dn (mem fs)) 64) := hcnt
      rw [this]
    have rk := fun k => rk_rn h (P := dn (mem fs)) (Q := dn (mem (rnL fs xs))) (fun s s0 s1 hs => dn_low hc.2.2.1 s0 s1 hs) (fun s s0 s1 hs => dn_low hc2.2.2.1 s0 s1 hs) (fun s s0 s1 => dn_rn h hc s0 s1) hP k
    rw [holeAt, holeAt, e1, rkN_eq, rkN_eq, rkN_eq, rkN_eq, rk j, rk (j + 1)]
  · rw [holesB, holesB, if_neg (fun h => hp h.2), if_neg (fun h => hp h.2)]

end Go.Proofs.YtjaofbdfhcgmeaaGreat
