/-
  The law of joins: what its tests need, together.
-/
import Derived.Test.YtjaofbdfhcgmeaaCrossW
import Derived.Test.YtjaofbdfhcgmeaaJoDraw2
import Derived.Test.YtjaofbdfhcgmeaaZWalk
namespace Go.Proofs.Ytjaofbdfhcgmeaa
open Go.RowKit

set_option maxHeartbeats 1000000 in
theorem sameCx_c (n : Int) (va vb : Value) (fs : List Int) (w : World) (ha : Rd w va (ints fs)) (hb : Rd w vb (ints fs)) : Calls Try.prog 21 #[cx n va, cx n vb] w fun e w' => e = .returned (.bool true) ∧ Below w.heap.size w w' := by
  obtain ⟨p1, l1, k1, rfl⟩ := ha.form
  obtain ⟨p2, l2, k2, rfl⟩ := hb.form
  have hS := ((St.start w).box n (.slice p1 l1 k1) 30).boxAt n (.slice p2 l2 k2) 30 (H := w.heap.size + 1) (by simp)
  have ha' := hS.old ha
  have hb' := hS.old hb
  have HS := hid hS
  have q0 : (n == n) = true := beq_self_eq_true _
  clear hS
  unfold cx
  go_enter Try.func21, Try.ntmps21
  go_wp2_with fail
  refine (same_c _ _ fs _ ha' hb').mono ?_
  rintro e w1 ⟨rfl, q, rfl⟩
  go_wp2_with fail
  go_ret
  exact ⟨rfl, (HS.out.drewN q).bel⟩

theorem cone_true {n : Int} {xs : List Int} (h : coneB n xs = true) : IsC n xs ∧ n + 1 ≤ 6 := by
  have := fitB_iff.1 h
  exact ⟨this.1, this.2.2⟩
theorem sus_true {n : Int} {xs : List Int} (h : susB n xs = true) : IsC n xs ∧ n + 2 ≤ 6 := by
  have := fitB_iff.1 h
  exact ⟨this.1, this.2.2⟩
theorem sus_false {n : Int} {xs : List Int} (h : coneB n xs = false) : susB n xs = false := by
  rw [← Bool.not_eq_true]
  intro h2
  have h3 := sus_true h2
  have : coneB n xs = true := fitB_iff.2 ⟨h3.1, isC_iff.1 s1_isC, by omega⟩
  rw [h] at this; cases this
theorem cone_bit_fin : ∀ s : Fin 64, ∀ i : Fin 6, s.val.testBit i.val = true → (bits .and .i64 (s.val : Int) (wrap64 (2 ^ i.val)) == 0) = false := by decide +kernel
theorem cone_bit {n : Int} {xs : List Int} (hc : IsC n xs) (h6 : n + 1 ≤ 6) (hl : 0 < xs.length) : (bits .and .i64 (conB (n + 1) (coneL n xs)) (wrap64 (2 ^ n.toNat)) == 0) = false := by
  have h := cone_bt hc h6 hl
  have r := conB_rng (n + 1) (coneL n xs)
  have n1 := hc.1
  have := cone_bit_fin ⟨(conB (n + 1) (coneL n xs)).toNat, by omega⟩ ⟨n.toNat, by omega⟩ h
  simpa only [Int.toNat_of_nonneg r.1] using this
theorem and_zero_fin : ∀ s : Fin 65, (bits .and .i64 0 (s.val : Int) == 0) = true := by decide +kernel
theorem and_zero {n : Int} (n0 : 0 ≤ n) (n6 : n ≤ 6) : (bits .and .i64 0 (wrap64 (2 ^ n.toNat)) == 0) = true := by
  have h := pw_rng n0 n6
  rw [pw_wrap n0 n6]
  have := and_zero_fin ⟨(pw n).toNat, by omega⟩
  simpa only [Int.toNat_of_nonneg (show 0 ≤ pw n by omega)] using this
theorem cone_zero {n : Int} {xs : List Int} (hl : xs.length = 0) : conB (n + 1) (coneL n xs) = 0 := by
  have e : xs = [] := List.eq_nil_of_length_eq_zero hl
  have e2 : (coneL n xs).length = 0 := by
    rw [e]
    show (maxL (mem (pairs n [] s1C))).length = 0
    have : maxL (mem (pairs n [] s1C)) = [] := by
      show setsL (maxP (mem [])) = []
      refine List.eq_nil_iff_forall_not_mem.2 fun x hx => ?_
      have h1 := (maxP_iff.1 (mem_setsL.1 hx).2.2).1
      rw [mem_nil] at h1; cases h1
    rw [this]; rfl
  exact conB_f fun h => by omega

end Go.Proofs.Ytjaofbdfhcgmeaa
