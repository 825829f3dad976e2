/-
  The law of names: what its tests need, together.
-/
import Derived.Test.YtjaofbdfhcgmeaaGreatNmGroup
import Derived.Test.YtjaofbdfhcgmeaaGreatZPts
import Derived.Test.YtjaofbdfhcgmeaaGreatZAlike
import Derived.Test.YtjaofbdfhcgmeaaGreatNmDraw2
import Derived.Test.YtjaofbdfhcgmeaaGreatLawB
namespace Go.Proofs.YtjaofbdfhcgmeaaGreat
open Go.RowKit

set_option maxHeartbeats 1000000 in
theorem sameCx_c (n : Int) (va vb : Value) (fs : List Int) (w : World) (ha : Rd w va (ints fs)) (hb : Rd w vb (ints fs)) : Calls Tryz.prog 18 #[cx n va, cx n vb] w fun e w' => e = .returned (.bool true) ∧ Below w.heap.size w w' := by
  obtain ⟨p1, l1, k1, rfl⟩ := ha.form
  obtain ⟨p2, l2, k2, rfl⟩ := hb.form
  have hS := ((St.start w).box n (.slice p1 l1 k1) 26).boxAt n (.slice p2 l2 k2) 26 (H := w.heap.size + 1) (by simp)
  have ha' := hS.old ha
  have hb' := hS.old hb
  have HS := hid hS
  have q0 : (n == n) = true := beq_self_eq_true _
  clear hS
  unfold cx
  go_enter Tryz.func18, Tryz.ntmps18
  go_wp2_with fail
  refine (same_c _ _ fs _ ha' hb').mono ?_
  rintro e w1 ⟨rfl, q, rfl⟩
  go_wp2_with fail
  go_ret
  exact ⟨rfl, (HS.out.drewN q).bel⟩

theorem sSizeOf_c (s : Int) (w : World) (h0 : 0 ≤ s) (h1 : s < 64) : Calls Tryz.prog 27 #[.int .i64 s] w fun e w' => e = .returned (.int .i64 (pc s)) ∧ w = w' := by
  have HI := hid (inB_t h0 (show s ≤ 63 by omega))
  go_enter Tryz.func27, Tryz.ntmps27
  go_wp2_with (go_at_call 65; refine (l1In_c _ _ _ _).mono ?_; rw [HI.out]; rintro e w' ⟨rfl, rfl⟩)
  refine (l2Size_c _ _ h0 h1).mono ?_
  rintro e w' ⟨rfl, rfl⟩
  go_wp2_with fail
  go_ret
  exact ⟨rfl, rfl⟩

theorem ren_true {n : Int} {fs xs : List Int} (h : renB n fs xs = true) : IsC n fs ∧ Names n xs := by
  rw [renB, Bool.and_eq_true, isC_iff, namesB_iff] at h
  exact h
theorem pcs_none {n : Int} {fs : List Int} (h : isC n fs = false) : pcs n fs = [] ∧ symN n fs = 0 :=
  ⟨if_neg (by rw [h]; simp), if_neg (by rw [h]; simp)⟩
theorem pcs_len6 {n : Int} {fs : List Int} (hc : IsC n fs) : (pcs n fs).length ≤ 6 := by
  have e : pcs n fs = pcsTo (symL n fs) (symL n fs).length n.toNat := if_pos (isC_iff.2 hc)
  have := pcsTo_len (symL n fs) (symL n fs).length n.toNat
  have := hc.2.1
  rw [e]; omega
theorem sym_dv {n : Int} {fs : List Int} (hc : IsC n fs) {k : Nat} (hk : k < (pcs n fs).length) : ∃ c : Nat, symN n fs = (c : Int) * pc (gi (pcs n fs) k) := by
  obtain ⟨c, h⟩ := (pcs_at hc hk).dv
  exact ⟨c, by rw [symN, if_pos (isC_iff.2 hc)]; exact h⟩
theorem sym_rng {n : Int} {fs : List Int} (hc : IsC n fs) : 1 ≤ symN n fs ∧ symN n fs ≤ 46656 := by
  refine ⟨sym_pos hc, ?_⟩
  rw [symN, if_pos (isC_iff.2 hc)]
  have := symL_len (fs := fs) hc.1 hc.2.1
  omega

end Go.Proofs.YtjaofbdfhcgmeaaGreat
