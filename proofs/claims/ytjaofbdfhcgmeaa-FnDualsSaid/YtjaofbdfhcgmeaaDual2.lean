/-
  The reference's dual.
-/
import Derived.Test.YtjaofbdfhcgmeaaDual
namespace Go.Proofs.Ytjaofbdfhcgmeaa
open Go.RowKit

theorem map_succ {M : List Int} {j : Nat} (h : j < M.length) (f : Int → Int) : (M.take (j + 1)).map f = (M.take j).map f ++ [f (gi M j)] := by rw [take_succ_gi h, List.map_append]; rfl
set_option maxHeartbeats 4000000 in
set_option maxRecDepth 100000 in
theorem sDualOf_c (n : Int) (v : Value) (xs : List Int) (w : World) (hv : Rd w v (ints xs)) : Calls Try.prog 29 #[cx n v] w fun e w' =>
    ∃ u, e = .returned (.tuple #[cx (resN (isC n xs) n) u, .bool (isC n xs)]) ∧ St w w' [⟨u, 3, ints (resL (isC n xs) (dualL n xs))⟩] := by
  obtain ⟨pv, lv, cv, rfl⟩ := hv.form
  have hS := ((St.start w).box n (.slice pv lv cv) 30).boxAt 0 (.slice none 0 0) 30 (H := w.heap.size + 1) (by simp)
  have c0 := hS.hd2.c0
  have c1 := hS.hd2.c1
  have hv' := hS.old hv
  have HS := hid hS
  clear hS
  by_cases hc : IsC n xs
  · have hb : isC n xs = true := isC_iff.2 hc
    have n0 : 0 ≤ n := by have := hc.1; omega
    have n6 := hc.2.1
    have h64 := pw_rng n0 n6
    have EL := hid (dual_law hc)
    have HR : Hid (∀ x ∈ missB n xs, 0 ≤ x ∧ x < pw n) := fun x hx => by
      rw [missB, if_pos hc] at hx
      have h := mem_setsL.1 hx
      have h2 := (minP_iff.1 h.2.2).1
      simp only [upToP, Bool.and_eq_true, decide_eq_true_eq] at h2
      exact ⟨h.1, h2.1⟩
    have hl := missB_len n xs
    have HC : Hid (∀ s, 0 ≤ s → s < pw n → ∀ w : World, Calls Try.prog 35 #[.int .i64 n, .int .i64 s] w fun e w' => e = .returned (.int .i64 (compN n s)) ∧ w = w') := fun s s0 s1 w => by
      have := sComplementOf_c n s w
      rwa [complB_set n0 n6 s0 s1] at this
    clear hc
    rw [hb]
    unfold cx
    go_enter Try.func29, Try.ntmps29
    go_wp2_with fail
    refine (sIsComplex_c n _ xs _ hv').mono ?_
    rw [hb]
    rintro e w1 ⟨rfl, hB1⟩
    have HS1 := hid (HS.out.quiet hB1)
    have d0 := HS1.out.hd2.c0
    have d1 := HS1.out.hd2.c1
    have hv1 := HS1.out.old hv
    clear hB1
    go_wp2_with fail
    refine (sMissingSets_c n _ xs _ hv1).mono ?_
    rintro e w2 ⟨um, rfl, hS2⟩
    generalize missB n xs = M at *
    have HS2 := hid (HS1.out.call1 hS2)
    have lm := hS2.hd.iln tI
    clear hS2
    go_wp2_with fail
    go_loopw [5, 6] (fun o i wr => ∃ (j : Nat) (u : Value), j ≤ M.length ∧ i = .int .i64 j ∧ o = u ∧ St w wr [⟨u, 3, ints ((M.take j).map (compN n))⟩, ⟨um, 3, ints M⟩, ⟨bx (w.heap.size + 1), 30, [.int .i64 0, .slice none 0 0]⟩, ⟨bx w.heap.size, 30, [.int .i64 n, .slice pv lv cv]⟩]) (fun _ i _ => M.length - (intOf i).toNat)
    case atStart => exact ⟨0, _, by omega, rfl, rfl, HS2.out.newAt #[] _ (by simp) (by simp)⟩
    case round =>
      obtain ⟨j, u, hj, rfl, rfl, hS⟩ := hrel
      obtain ⟨wo, rfl⟩ : ∃ wo : World, wo = wr := ⟨_, rfl⟩
      have HS3 := hid hS
      have g0 := hS.hd4.c0
      by_cases hlt : j < M.length
      · have f1 := hS.hd2.iix tI j hlt
        have f2 := hS.hd2.intCell j hlt
        obtain ⟨r0, r1⟩ := HR.out (gi M j) (gi_mem hlt)
        obtain ⟨C, hC⟩ : ∃ C, C = compN n (gi M j) := ⟨_, rfl⟩
        have HC2 : Hid (∀ w : World, Calls Try.prog 35 #[.int .i64 n, .int .i64 (gi M j)] w fun e w' => e = .returned (.int .i64 C) ∧ w = w') := by rw [hC]; exact HC.out _ r0 r1
        have HA : Hid (St w (wo.alloc (.cells #[.int .i64 C] 3)).drew _) := (hS.alloc (.cells #[.int .i64 C] 3)).drewN 1
        have HN : Hid (Rd (wo.alloc (.cells #[.int .i64 C] 3)).drew (.slice (some ⟨wo.heap.size, 0, none⟩) 1 1) [.int .i64 C]) := (hS.new #[.int .i64 C] 3 (by simp [maxLen])).hd.drew 1
        have E2 : Hid ((M.take (j + 1)).map (compN n) = (M.take j).map (compN n) ++ [C]) := by show _ = _; rw [map_succ hlt, hC]
        have hll : ((M.take j).map (compN n)).length ≤ 448 := by simp; omega
        clear hS hC
        go_wp2_with fail
        go_region_law (first | (refine step_app rfl (.tmp 20) (.tmp 28) rfl tI HA.out.own [.int .i64 C] HN.out (by simp [Value.oneCell']) (by simp; omega) rfl rfl ?_; intro v2 w2 hO2 hb2) | (go_simp; go_at_call 35; refine (HC2.out _).mono ?_; rintro e w' ⟨rfl, rfl⟩))
        all_goals
          go_wp2_with fail
          go_roundw
          case rel => exact ⟨j + 1, v2, by omega, by go_num, rfl, by rw [E2.out, ints_append]; exact HA.out.mut hO2 hb2⟩
          case measure => simp [intOf]; omega
      · have et : Hid ((M.take j).map (compN n) = M.map (compN n)) := by show _ = _; rw [List.take_of_length_le (by omega)]
        have HX : Hid (∀ x ∈ (M.take j).map (compN n), 0 ≤ x ∧ x < 64) := by
          rw [et.out]
          intro x hx
          obtain ⟨m, hm, rfl⟩ := List.mem_map.1 hx
          have h1 := HR.out m hm
          have := compN_rng (n := n) h1.1 h1.2
          omega
        clear hS
        go_wp2_with fail
        refine (l3Make_c n _ _ _ HS3.out.hd HX.out).mono ?_
        rw [et.out]
        rintro e w4 ⟨v2, rfl, hS4⟩
        have hS5 := HS3.out.call1 hS4
        obtain ⟨p, l, c, rfl⟩ := hS5.hd.form
        have k0 := hS5.hd4.c0
        have k1 := hS5.hd4.c1
        have s0 : w4.frozen? ⟨w.heap.size + 1, 0, none⟩ = false := hS5.own.free (v := bx (w.heap.size + 1)) (.tail _ (.tail _ (.tail _ (.head _)))) 0 (by simp)
        have s1 : w4.frozen? ⟨w.heap.size + 1, 1, none⟩ = false := hS5.own.free (v := bx (w.heap.size + 1)) (.tail _ (.tail _ (.tail _ (.head _)))) 1 (by simp)
        have HS5 := hid hS5
        clear hS5 hS4
        unfold cx
        go_wp2_with fail
        have hS6 := ((HS5.out.bring (l1 := [_, _, _])).set 0 (by simp) (.int .i64 n)).set 1 (by simp) (.slice p l c)
        refine bodyPost_ret (ret_cx2 rfl rfl rfl hS6.hd) rfl ⟨.slice p l c, rfl, ?_⟩
        show St _ _ [⟨_, _, ints (dualL n xs)⟩]
        rw [← EL.out]
        exact hS6.sub (.cons _ (.cons_cons _ (.cons _ (.cons _ (.cons _ .slnil)))))
  · have hb : isC n xs = false := isC_not hc
    clear hc
    rw [hb]
    unfold cx
    go_enter Try.func29, Try.ntmps29
    go_wp2_with fail
    refine (sIsComplex_c n _ xs _ hv').mono ?_
    rw [hb]
    rintro e w1 ⟨rfl, hB1⟩
    have HS1 := hid (HS.out.quiet hB1)
    have d0 := HS1.out.hd.c0
    have d1 := HS1.out.hd.c1
    have s0 : w1.frozen? ⟨w.heap.size + 1, 0, none⟩ = false := HS1.out.own.free (v := bx (w.heap.size + 1)) (.head _) 0 (by simp)
    have s1 : w1.frozen? ⟨w.heap.size + 1, 1, none⟩ = false := HS1.out.own.free (v := bx (w.heap.size + 1)) (.head _) 1 (by simp)
    clear hB1
    go_wp2_with fail
    have hS6 := (HS1.out.set 0 (by simp) (.int .i64 0)).set 1 (by simp) (.slice none 0 0)
    exact bodyPost_ret (ret_cx2 rfl rfl rfl hS6.hd) rfl ⟨.slice none 0 0, rfl, (hS6.sub (.cons _ (.cons _ .slnil))).nilRow _⟩

end Go.Proofs.Ytjaofbdfhcgmeaa
