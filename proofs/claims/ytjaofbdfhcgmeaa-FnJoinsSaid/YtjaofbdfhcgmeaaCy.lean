/-
  The reference's test of a complex; sets that are no faces.
-/
import Derived.Test.YtjaofbdfhcgmeaaCx
namespace Go.Proofs.Ytjaofbdfhcgmeaa
open Go.RowKit

theorem pre_rng {n : Int} {xs : List Int} {j : Nat} (h : Pre n xs j) (h0 : 0 ≤ n) (h6 : n ≤ 6) {i : Nat} (hi : i < j) : 0 ≤ gi xs i ∧ gi xs i < 64 := by
  have := h.1 i hi
  have := pw_rng h0 h6
  omega
set_option maxHeartbeats 2000000 in
theorem sIsComplex_c (n : Int) (v : Value) (xs : List Int) (w : World) (hv : Rd w v (ints xs)) : Calls Try.prog 116 #[cx n v] w fun e w' => e = .returned (.bool (isC n xs)) ∧ Below w.heap.size w w' := by
  have la := hv.iln tI
  have ll := hv.ile
  have hS := (St.start w).box n v 30
  have HS := hid hS; clear hS
  unfold cx
  go_enter Try.func116, Try.ntmps116
  go_wp2_with fail
  go_loopw [3] (fun i wr => ∃ (j m : Nat), j ≤ xs.length ∧ i = .int .i64 j ∧ Hid (0 < j → 0 ≤ n ∧ n ≤ 6) ∧ Hid (Pre n xs j) ∧ Hid (∀ a b, a < b → b < j → sub (gi xs a) (gi xs b) = false) ∧ wr = (w.alloc (.cells #[.int .i64 n, v] 30)).drewN m) (fun i _ => xs.length - (intOf i).toNat)
  case atStart => exact ⟨0, 0, by omega, rfl, fun h => by omega, pre_zero n xs, fun a b h => by omega, rfl⟩
  case round =>
    obtain ⟨j, m, hj, rfl, hq, hN, hA, hw⟩ := hrel
    obtain ⟨wo, rfl⟩ : ∃ wo : World, wo = wr := ⟨_, rfl⟩
    have HW : Hid (St w wo [⟨bx w.heap.size, 30, [.int .i64 n, v]⟩]) := by show St _ _ _; rw [hw]; exact HS.out.drewN m
    have HW2 := hid hw; clear hw
    have c0 := HW.out.hd.c0
    have c1 := HW.out.hd.c1
    by_cases hlt : j < xs.length
    · have hv' := HW.out.old hv
      have f1 := hv.iix tI j hlt
      have f2 := hv'.intCell j hlt
      cases hs : isSetB n (gi xs j) with
      | false =>
        have E := hid (not_isC_set hlt hs)
        go_wp2_with fail
        go_quiet ((go_at_call 126; exact quiet_same (sIsSet_c _ _ _)))
        go_wp2_with fail
        go_ret
        exact ⟨ret_bool E.out.symm, (HW.out.drewN nq).bel⟩
      | true =>
        obtain ⟨n0, n6, r0, r1⟩ := isSet_pw.1 hs
        obtain ⟨p0, p1⟩ := pw_rng n0 n6
        by_cases hz : j = 0
        · have hz' : ¬ 0 < j := by omega
          have N2 : Hid (Pre n xs (j + 1)) := pre_succ hN.out ⟨r0, r1⟩ (fun h => by omega)
          have hz2 : j ≤ 0 := by omega
          clear hz
          go_wp2_with fail
          go_quiet ((go_at_call 126; exact quiet_same (sIsSet_c _ _ _)))
          go_wp2_with fail
          go_loop [4] (fun i => i = .int .i64 0) (fun i => (intOf i).toNat)
          case atStart => rfl
          case round =>
            subst hrel
            go_wp2_with fail
            go_roundw
            case rel => exact ⟨j + 1, m + nq, by omega, by go_num, fun _ => ⟨n0, n6⟩, N2, fun a b h h' => by omega, by rw [HW2.out, World.drewN_drewN]⟩
            case measure => simp [intOf]; omega
        · have hz' : decide (0 < (j : Int)) = true := by simp; omega
          have hz3 : 0 < j := by omega
          have g1 := hv.iix tI (j - 1) (by omega)
          have g2 := hv'.intCell (j - 1) (by omega)
          rw [show ((j - 1 : Nat) : Int) = (j : Int) - 1 by omega] at g1
          obtain ⟨q0, q1⟩ := hN.out.1 (j - 1) (by omega)
          have hw1 : IntKind.i64.wrap ((j : Int) - 1) = (j : Int) - 1 := IntWalk.i64_in _ (by omega)
          cases hb : befB (gi xs (j - 1)) (gi xs j) with
          | false =>
            have E := hid (not_isC_bef (n := n) (show j - 1 < j by omega) hlt hb)
            go_wp2_with fail
            go_quiet (first | (go_at_call 126; exact quiet_same (sIsSet_c _ _ _)) | (go_at_call 164; exact quiet_same (l2Before_c _ _ _ (by omega) (by omega) (by omega) (by omega))))
            clear hw1
            go_wp2_with fail
            go_ret
            exact ⟨ret_bool E.out.symm, (HW.out.drewN nq).bel⟩
          | true =>
            have N2 : Hid (Pre n xs (j + 1)) := pre_succ hN.out ⟨r0, r1⟩ (fun _ => befB_iff.1 hb)
            go_wp2_with fail
            go_quiet (first | (go_at_call 126; exact quiet_same (sIsSet_c _ _ _)) | (go_at_call 164; exact quiet_same (l2Before_c _ _ _ (by omega) (by omega) (by omega) (by omega))))
            clear hw1
            go_wp2_with fail
            go_loopw [4] (fun i wi => ∃ (k m2 : Nat), k ≤ j ∧ i = .int .i64 k ∧ Hid (∀ a, a < k → sub (gi xs a) (gi xs j) = false) ∧ wi = wo.drewN m2) (fun i _ => xs.length - (intOf i).toNat)
            case atStart => exact ⟨0, nq, by omega, rfl, fun a h => by omega, rfl⟩
            case round =>
              obtain ⟨k, m2, hk, rfl, hK, hw3⟩ := hrel
              have HW3 : Hid (St w wr [⟨bx w.heap.size, 30, [.int .i64 n, v]⟩]) := by show St _ _ _; rw [hw3]; exact HW.out.drewN m2
              have HW4 := hid hw3; clear hw3
              have d0 := HW3.out.hd.c0
              have d1 := HW3.out.hd.c1
              have hv3 := HW3.out.old hv
              have e2 := hv3.intCell j hlt
              by_cases hkl : k < j
              · have k1 := hv.iix tI k (by omega)
                have k2 := hv3.intCell k (by omega)
                obtain ⟨t0, t1⟩ := pre_rng N2.out n0 n6 (i := k) (by omega)
                have an := and_sub t0 t1 r0 (show gi xs j < 64 by omega)
                cases hs2 : sub (gi xs k) (gi xs j) with
                | true =>
                  rw [hs2] at an
                  have E := hid (not_isC_sub (n := n) hkl hlt hs2)
                  clear hs2
                  go_wp2_with fail
                  go_region
                  go_wp2_with fail
                  go_ret
                  exact ⟨ret_bool E.out.symm, (HW3.out.drewN 1).bel⟩
                | false =>
                  rw [hs2] at an
                  have K2 : Hid (∀ a, a < k + 1 → sub (gi xs a) (gi xs j) = false) := by
                    intro a ha
                    by_cases e : a = k
                    · subst e; exact hs2
                    · exact hK.out a (by omega)
                  clear hs2
                  go_wp2_with fail
                  go_region
                  go_wp2_with fail
                  go_roundw
                  case rel => exact ⟨k + 1, m2 + 1, by omega, by go_num, K2, by rw [HW4.out]; rfl⟩
                  case measure => simp [intOf]; omega
              · have A2 : Hid (∀ a b, a < b → b < j + 1 → sub (gi xs a) (gi xs b) = false) := by
                  intro a b hab hb
                  by_cases e : b = j
                  · subst e; exact hK.out a (by omega)
                  · exact hA.out a b hab (by omega)
                go_wp2_with fail
                go_roundw
                case rel => exact ⟨j + 1, m + m2, by omega, by go_num, fun _ => ⟨n0, n6⟩, N2, A2, by rw [HW4.out, HW2.out, World.drewN_drewN]⟩
                case measure => simp [intOf]; omega
    · have ej : j = xs.length := by omega
      have E : Hid (isC n xs = inB n 1 6) := by
        show _ = _
        refine bool_ext ⟨fun h => inB_t (isC_iff.1 h).1 (isC_iff.1 h).2.1, fun h => ?_⟩
        simp only [inB, decide_eq_true_eq] at h
        have hp := hN.out
        rw [ej] at hp
        have := pre_all hp
        exact isC_iff.2 ⟨h.1, h.2, this.1, this.2, pair_gi.2 fun a b hab hb => hA.out a b hab (by omega)⟩
      go_wp2_with (go_at_call 112; refine (l1In_c _ _ _ _).mono ?_; rintro e w' ⟨rfl, rfl⟩)
      go_ret
      exact ⟨ret_bool E.out.symm, HW.out.bel⟩

end Go.Proofs.Ytjaofbdfhcgmeaa
